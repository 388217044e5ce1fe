/- Small lemmas that no function's walk is needed for: copy from a string, blocks, the ends of walks. Slices in memory that read as lists; nothing of a program is named here. -/
import Derived.Test.YtohinfefidahlaaGreatDoorRows
import Derived.WalkKit
import Derived.WalkSpells
import Derived.WalkLawsBesides
import Derived.Lib.Hide
import Derived.Deep.QuietTactic
import Derived.BigQuiet
import Derived.Deep.Slices
namespace Go.Proofs.YtohinfefidahlaaGreatDoor
open Go.RowKit

theorem ret_u64 {a b : Nat} (h : a = b) : Ending.returned (.int .u64 (a : Int)) = .returned (.int .u64 (b : Int)) := by rw [h]
theorem ret_bool {a b : Bool} (h : a = b) : Ending.returned (.bool a) = .returned (.bool b) := by rw [h]
theorem ret_str {a b : List UInt8} (h : a = b) : Ending.returned (.string ⟨a.toArray⟩) = .returned (.string ⟨b.toArray⟩) := by rw [h]
theorem take_snoc (s : ByteArray) (k : Nat) (h : k < s.size) : s.data.toList.take (k + 1) = s.data.toList.take k ++ [s[k]] := by
  rw [List.take_succ_eq_append_getElem (by simpa using h)]; rfl

theorem run_copy_str {P : Program} (w : World) (dT sT ty elem : TypeId) (g o dLen dCap : Nat) (s : ByteArray) (cur : Array Value) (t : TypeId) (cs : List Value)
    (hu : P.underlying dT = some (.slice elem)) (hs : ((P.info? elem).map (·.size)).isSome = true)
    (hg : w.heap[g]? = some (.cells cur t (0, 0))) (hn : s.size ≤ dLen) (hcs : (s.data.map fun b => Value.int .u8 b.toNat).toList = cs)
    (hfit : o + s.size ≤ cur.size) :
    (Builtin.copy_ #[dT, sT] ty #[.slice (some ⟨g, o, none⟩) dLen dCap, .string s]).run P w =
      .ok (goInt s.size) (w.setRow g (cur.toList.take o ++ cs ++ cur.toList.drop (o + s.size)).toArray) := by
  have hl : cs.length = s.size := by rw [← hcs]; simp
  have hst := run_storeCells_at P g o t cs 0 cur w hg (by simpa [hl] using hfit) (by rw [← hcs]; intro v hv; simp at hv; obtain ⟨b, _, rfl⟩ := hv; rfl)
  have hmin : Nat.min s.size dLen = s.size := Nat.min_eq_left hn
  cases hq : P.info? elem with
  | none => simp [hq] at hs
  | some i =>
    have e : List.take s.size (List.map (fun b : UInt8 => Value.int IntKind.u8 ↑b.toNat) s.data.toList) = cs := by
      rw [List.take_of_length_le (by simp), ← hcs]; simp
    simp [Builtin.copy_, run_underlying hu, Builtin.lenOf, Builtin.firstCells, sizeOf, typeInfo, hq, hmin, e, hst, hl]

theorem setRow_alloc (w : World) (old new : Array Value) (t : TypeId) : (w.alloc (.cells old t)).setRow w.heap.size new = w.alloc (.cells new t) := by
  unfold World.setRow World.alloc
  congr 1
  apply Array.ext
  · simp
  · intro i h1 h2
    simp [Array.getElem_modify, Array.getElem_push]
    split <;> split <;> simp_all <;> omega

/-- a slice of bytes as a string: the cells hold the bytes of l -/
theorem run_bytes_str {P : Program} (w : World) (src dst e : TypeId) (hs : P.underlying src = some (.slice e)) (he : P.underlying e = some (.int .u8)) (hd : P.underlying dst = some .string)
    (b off len cap : Nat) (l : List UInt8) (hlen : l.length = len) (hcell : ∀ i, i < len → w.cell? ⟨b, off + i, none⟩ = some (.int .u8 (l.getD i 0).toNat)) :
    (convert src dst (.slice (some ⟨b, off, none⟩) len cap)).run P w = .ok (.string ⟨l.toArray⟩) w := by
  have h := run_convert_bytes_arg (P := P) w src e hs he b off len cap (l.map fun c => (c.toNat : Int)) (by simp [hlen]) (fun i hi => by
    rw [hcell i hi]
    have : i < l.length := by omega
    simp [List.getD, List.getElem?_map, List.getElem?_eq_getElem this]) dst hd
  rw [h]
  have : strOfNums (l.map fun c => (c.toNat : Int)) = ⟨l.toArray⟩ := by
    have e : (strOfNums (l.map fun c => (c.toNat : Int))).data.toList = l := by
      rw [strOfNums_data, List.map_map]
      conv => rhs; rw [← List.map_id l]
      apply List.map_congr_left
      intro c _
      simp
    apply ByteArray.ext
    apply Array.toList_inj.1
    simpa using e
  rw [this]

/-! ### a block that is known whole: its cells; none of them is frozen -/
def Blk (w : World) (g : Nat) (C : List Value) : Prop := ∃ t lo hi, w.heap[g]? = some (.cells C.toArray t (lo, hi)) ∧ (hi ≤ lo ∨ C.length ≤ lo)

theorem Blk.lt {w : World} {g : Nat} {C : List Value} (h : Blk w g C) : g < w.heap.size := by
  obtain ⟨t, lo, hi, h, _⟩ := h
  exact (Array.getElem?_eq_some_iff.1 h).1
theorem Blk.cell {w : World} {g : Nat} {C : List Value} (h : Blk w g C) (i : Nat) : w.cell? ⟨g, i, none⟩ = C[i]? := by
  obtain ⟨t, lo, hi, h, _⟩ := h
  simp [World.cell?, h]
theorem Blk.free {w : World} {g : Nat} {C : List Value} (h : Blk w g C) {i : Nat} (hi : i < C.length) : w.frozen? ⟨g, i, none⟩ = false := by
  obtain ⟨t, lo, h', h, hl⟩ := h
  simp [World.frozen?, h]
  omega
theorem Blk.of_block {w w' : World} {g : Nat} {C : List Value} (h : Blk w g C) (e : w'.heap[g]? = w.heap[g]?) : Blk w' g C := by
  obtain ⟨t, lo, hi, h, hl⟩ := h
  exact ⟨t, lo, hi, e.trans h, hl⟩
theorem Blk.below {B : Nat} {w w' : World} {g : Nat} {C : List Value} (h : Blk w g C) (hb : Below B w w') (hg : g < B) : Blk w' g C := h.of_block (hb.block g hg)
theorem Blk.set {w : World} {g : Nat} {C : List Value} (h : Blk w g C) (i : Nat) (v : Value) : Blk (w.setCell ⟨g, i, none⟩ v) g (C.set i v) := by
  obtain ⟨t, lo, hi, h, hl⟩ := h
  refine ⟨t, lo, hi, ?_, by simpa using hl⟩
  have hlt := (Array.getElem?_eq_some_iff.1 h).1
  have hv := (Array.getElem?_eq_some_iff.1 h).2
  simp only [World.setCell]
  rw [Array.getElem?_eq_getElem (by simpa using hlt), Array.getElem_modify_self, hv]
  simp
theorem Blk.set_other {w : World} {g g' : Nat} {C : List Value} (h : Blk w g C) (hne : g' ≠ g) (i : Nat) (v : Value) : Blk (w.setCell ⟨g', i, none⟩ v) g C :=
  h.of_block (Below.heap_setCell _ _ _ _ (Ne.symm hne))
theorem Blk.new (w : World) (C : Array Value) (t : TypeId) : Blk (w.alloc (.cells C t)) w.heap.size C.toList :=
  ⟨t, 0, 0, by rw [heap_alloc_new], .inl (Nat.le_refl _)⟩

/-- '[]byte(s)': a new block: the string's bytes, then spare room -/
theorem wpList_bytes_of {P : Program} {w : World} {ops : Array Oper} {rest : List Oper} {o : Oper} {a : Act} {Q : Exit → Act → World → Prop} (hgd : o.guard = none) (x : Operand) (src dst e : TypeId)
    (ho : o.op = .convert src dst x) (s : ByteArray) (hx : a.eval x = .string s)
    (hs : P.underlying src = some .string) (hd : P.underlying dst = some (.slice e)) (he : P.underlying e = some (.int .u8))
    (h : ∀ w' cap rest', Below w.heap.size w w' → w'.heap.size = w.heap.size + 1 → Blk w' w.heap.size (s.data.toList.map (fun c => Value.int .u8 c.toNat) ++ rest') → s.size ≤ cap →
      wpList P ops Q rest (a.put o.dst (.slice (some ⟨w.heap.size, 0, none⟩) s.size cap)) w') :
    wpList P ops Q (o :: rest) a w := by
  refine wpList_plain hgd fun K hK => ?_
  have hrun := run_bytes_of_string (P := P) w src dst e s hs hd he
  unfold Oper.wp
  simp only [execOp, ho, hx, Sem.run_bind, hrun, Result.andThen_ok, Sem.run_pure]
  refine hK _ _ (h _ _ (List.replicate (grownCap w s.size 0 e - s.size) (.int .u8 0)) ?_ ?_ ?_ (grownCap_ge _ _ _ _))
  · exact (Below.refl _ w).drew.alloc (Nat.le_refl _) _
  · simp
  · refine ⟨e, (bytesRow s (grownCap w s.size 0 e)).size, (bytesRow s (grownCap w s.size 0 e)).size + 1, ?_, .inr ?_⟩
    · have := heap_alloc_new w.drew (.cells (bytesRow s (grownCap w s.size 0 e)) e ((bytesRow s (grownCap w s.size 0 e)).size, (bytesRow s (grownCap w s.size 0 e)).size + 1))
      refine this.trans ?_
      congr 2
      apply Array.toList_inj.1
      simp [bytesRow]
    · simp [bytesRow]

/-- 'string(b)' of bytes whose cells hold the bytes of l -/
theorem wpList_str_of {P : Program} {w : World} {ops : Array Oper} {rest : List Oper} {o : Oper} {a : Act} {Q : Exit → Act → World → Prop} (hgd : o.guard = none) (x : Operand) (src dst e : TypeId)
    (ho : o.op = .convert src dst x) (b off len cap : Nat) (hx : a.eval x = .slice (some ⟨b, off, none⟩) len cap)
    (hs : P.underlying src = some (.slice e)) (he : P.underlying e = some (.int .u8)) (hd : P.underlying dst = some .string)
    (l : List UInt8) (hlen : l.length = len) (hcell : ∀ i, i < len → w.cell? ⟨b, off + i, none⟩ = some (.int .u8 (l.getD i 0).toNat))
    (h : wpList P ops Q rest (a.put o.dst (.string ⟨l.toArray⟩)) w) : wpList P ops Q (o :: rest) a w := by
  refine wpList_plain hgd fun K hK => ?_
  have hrun := run_bytes_str (P := P) w src dst e hs he hd b off len cap l hlen hcell
  unfold Oper.wp
  simp only [execOp, ho, hx, Sem.run_bind, hrun, Result.andThen_ok, Sem.run_pure]
  exact hK _ _ h

end Go.Proofs.YtohinfefidahlaaGreatDoor

namespace Go.Proofs.YtohinfefidahlaaGreatDoor
open Go.RowKit

abbrev Bytes := List UInt8
def str (s : Bytes) : Value := .string ⟨s.toArray⟩
theorem str_def (s : Bytes) : str s = .string ⟨s.toArray⟩ := rfl
theorem bytes_of (s : ByteArray) : ∃ l : Bytes, s = ⟨l.toArray⟩ := ⟨s.data.toList, by apply ByteArray.ext; simp⟩
/-- a byte of a string that is told as a list -/
@[go_sem] theorem getElem_mk (l : Bytes) (k : Nat) (h : k < (ByteArray.mk l.toArray).size) : (ByteArray.mk l.toArray)[k] = l[k]'(by simpa [ByteArray.size] using h) := rfl
@[go_sem] theorem extract_mk (l : Bytes) (i j : Nat) : (ByteArray.mk l.toArray).extract i j = ⟨((l.take j).drop i).toArray⟩ := by
  apply ByteArray.ext
  rw [ByteArray.data_extract]
  simp [List.drop_take]
@[go_sem] theorem append_mk (a b : Bytes) : (ByteArray.mk a.toArray) ++ (ByteArray.mk b.toArray) = ⟨(a ++ b).toArray⟩ := by
  apply ByteArray.ext
  simp
theorem size_mk (l : Bytes) : (ByteArray.mk l.toArray).size = l.length := by simp [ByteArray.size]

/-- the elements' cells lie one behind the other, sz cells each, from cell off of block b on -/
def Row {α : Type} (w : World) (sz : Nat) (enc : α → List Value) (b off : Nat) (l : List α) : Prop :=
  ∀ i x, l[i]? = some x → ∀ j v, (enc x)[j]? = some v → w.cell? ⟨b, off + i * sz + j, none⟩ = some v

/-- a slice's address leads to the elements (an empty one's may lead anywhere) -/
def At {α : Type} (w : World) (sz : Nat) (enc : α → List Value) (a : Option Addr) (l : List α) : Prop :=
  l = [] ∨ ∃ b off, a = some ⟨b, off, none⟩ ∧ b < w.heap.size ∧ Row w sz enc b off l

section
variable {α : Type} {w w' : World} {sz : Nat} {enc : α → List Value} {a : Option Addr} {b off : Nat} {l : List α}

theorem Row.below {B : Nat} (h : Row w sz enc b off l) (hb : Below B w w') (hB : b < B) : Row w' sz enc b off l :=
  fun i x hi j v hj => by rw [hb.cell (p := ⟨b, off + i * sz + j, none⟩) hB]; exact h i x hi j v hj

theorem At.below (h : At w sz enc a l) (hb : Below w.heap.size w w') : At w' sz enc a l := by
  rcases h with h | ⟨b, off, ha, hlt, hr⟩
  · exact .inl h
  · exact .inr ⟨b, off, ha, Nat.lt_of_lt_of_le hlt hb.size, hr.below hb hlt⟩

theorem At.elem (h : At w sz enc a l) {i : Nat} (hi : i < l.length) : ∃ b off, a = some ⟨b, off, none⟩ ∧ b < w.heap.size ∧
    ∀ j v, (enc l[i])[j]? = some v → w.cell? ⟨b, off + i * sz + j, none⟩ = some v := by
  rcases h with h | ⟨b, off, ha, hlt, hr⟩
  · subst h; simp at hi
  · exact ⟨b, off, ha, hlt, fun j v hj => hr i l[i] (List.getElem?_eq_getElem hi) j v hj⟩

theorem At.nil (w : World) (sz : Nat) (enc : α → List Value) (a : Option Addr) : At w sz enc a [] := .inl rfl

theorem flat_get (hs : ∀ x, (enc x).length = sz) : ∀ (l : List α) (i j : Nat), j < sz → (l.flatMap enc)[i * sz + j]? = (l[i]?).bind fun x => (enc x)[j]?
  | [], i, j, _ => by simp
  | x :: l, 0, j, hj => by
    have : j < (enc x).length := by rw [hs]; exact hj
    simp [List.flatMap_cons, List.getElem?_append_left this]
  | x :: l, i + 1, j, hj => by
    have e : (i + 1) * sz + j = (enc x).length + (i * sz + j) := by rw [hs, Nat.succ_mul]; omega
    rw [List.flatMap_cons, e, List.getElem?_append_right (by omega), Nat.add_sub_cancel_left, flat_get hs l i j hj]
    simp
theorem flat_len (hs : ∀ x, (enc x).length = sz) (l : List α) : (l.flatMap enc).length = l.length * sz := by
  induction l with
  | nil => simp
  | cons x l ih => rw [List.flatMap_cons, List.length_append, hs, ih, List.length_cons, Nat.succ_mul]; omega

/-- what the call owns reads as its elements -/
theorem At.own {base : Nat} {e : TypeId} {v : Value} {n : Nat} (hs : ∀ x, (enc x).length = sz) (h : w.ownsRow base e sz v n (l.flatMap enc)) (hn : n = l.length) :
    ∃ a cap, v = .slice a n cap ∧ At w sz enc a l := by
  rcases h.2 with ⟨rfl, h0⟩ | ⟨g, cap, cur, rfl, hb, hg, hnc, hcm, hcs, htake⟩
  · subst h0
    have hl : l = [] := List.eq_nil_of_length_eq_zero hn.symm
    subst hl
    exact ⟨none, 0, rfl, .inl rfl⟩
  · refine ⟨_, cap, rfl, .inr ⟨g, 0, rfl, (Array.getElem?_eq_some_iff.1 hg).1, ?_⟩⟩
    intro i x hi j v hj
    rw [Nat.zero_add, cell_of_row w g _ cur e (0, 0) hg]
    have hjs : j < sz := by rw [← hs x]; exact (List.getElem?_eq_some_iff.1 hj).1
    have hil : i < l.length := (List.getElem?_eq_some_iff.1 hi).1
    have hfl := flat_get hs l i j hjs
    rw [hi] at hfl
    simp only [Option.bind_some, hj] at hfl
    rw [← htake, List.getElem?_take] at hfl
    split at hfl
    · simpa using hfl
    · cases hfl
end

/-! ### one string an element -/
def encS (s : Bytes) : List Value := [.string ⟨s.toArray⟩]
theorem encS_len (s : Bytes) : (encS s).length = 1 := rfl
theorem At.str {w : World} {a : Option Addr} {l : List Bytes} (h : At w 1 encS a l) {i : Nat} (hi : i < l.length) :
    ∃ b off, a = some ⟨b, off, none⟩ ∧ b < w.heap.size ∧ w.cell? ⟨b, off + i, none⟩ = some (.string ⟨l[i].toArray⟩) := by
  obtain ⟨b, off, ha, hlt, hc⟩ := h.elem hi
  refine ⟨b, off, ha, hlt, ?_⟩
  have := hc 0 _ rfl
  rwa [Nat.mul_one, Nat.add_zero] at this

/-! ### a name and a value (api.Attr, api.Source, api.File): two strings an element -/
structure Two where
  name : Bytes
  value : Bytes
def encT (x : Two) : List Value := [.string ⟨x.name.toArray⟩, .string ⟨x.value.toArray⟩]
theorem encT_len (x : Two) : (encT x).length = 2 := rfl
theorem At.two {w : World} {a : Option Addr} {l : List Two} (h : At w 2 encT a l) {i : Nat} (hi : i < l.length) :
    ∃ b off, a = some ⟨b, off, none⟩ ∧ b < w.heap.size ∧ w.cell? ⟨b, off + i * 2, none⟩ = some (.string ⟨l[i].name.toArray⟩) ∧ w.cell? ⟨b, off + i * 2 + 1, none⟩ = some (.string ⟨l[i].value.toArray⟩) := by
  obtain ⟨b, off, ha, hlt, hc⟩ := h.elem hi
  exact ⟨b, off, ha, hlt, hc 0 _ rfl, hc 1 _ rfl⟩

/-- Draws of the tape leave memory as it is. -/
theorem below_drewN {B : Nat} {a w : World} (h : Below B a w) (n : Nat) : Below B a (w.drewN n) := h.trans ⟨rfl, rfl, rfl, Nat.le_refl _, fun _ _ => rfl⟩

/-! ### slices that the call makes itself -/
/-- the program's table on a slice type t of elements e, sz cells and so many bytes each -/
def SlTy (P : Program) (t e : TypeId) (sz bytes : Nat) : Prop :=
  P.underlying t = some (.slice e) ∧ ∃ z, (P.info? e).map (fun i => (i.zero, i.size, i.bytes)) = some (some z, sz, bytes) ∧ z.cells.size = sz ∧ 0 < sz

/-- v is the call's own slice (its block is B or above), it holds l -/
def Own {α : Type} (w : World) (B : Nat) (e : TypeId) (sz : Nat) (enc : α → List Value) (v : Value) (l : List α) : Prop :=
  w.ownsRow B e sz v l.length (l.flatMap enc)

/-- how an element is told: sz cells, each a value of one cell -/
structure Enc {α : Type} (sz : Nat) (enc : α → List Value) : Prop where
  len : ∀ x, (enc x).length = sz
  one : ∀ x, ∀ u ∈ enc x, u.oneCell' = true

theorem encS_ok : Enc 1 encS := ⟨fun _ => rfl, fun x u hu => by simp [encS] at hu; subst hu; rfl⟩
theorem encT_ok : Enc 2 encT := ⟨fun _ => rfl, fun x u hu => by simp [encT] at hu; rcases hu with rfl | rfl <;> rfl⟩

section
variable {α : Type} {w w' : World} {B : Nat} {e : TypeId} {sz : Nat} {enc : α → List Value} {v : Value} {l : List α}

theorem Own.nil (w : World) (B : Nat) (e : TypeId) (sz : Nat) (enc : α → List Value) : Own w B e sz enc (.slice none 0 0) [] := by
  have := World.ownsRow_nil w B e sz
  simpa [Own] using this
theorem Own.reads (h : Own w B e sz enc v l) (he : Enc sz enc) : ∃ a cap, v = .slice a l.length cap ∧ At w sz enc a l := At.own he.len h rfl
theorem Own.addr {a : Option Addr} {n c : Nat} (h : Own w B e sz enc (.slice a n c) l) (he : Enc sz enc) : At w sz enc a l := by
  obtain ⟨a', c', hv, h'⟩ := h.reads he
  injection hv with h1 _ _
  rw [h1]; exact h'
theorem Own.shape (h : Own w B e sz enc v l) : ∃ a cap, v = .slice a l.length cap := by
  rcases h.2 with ⟨rfl, h0⟩ | ⟨g, cap, cur, rfl, _⟩
  · rw [h0]; exact ⟨_, _, rfl⟩
  · exact ⟨_, _, rfl⟩
/-- the block that an owned slice lies in, if any -/
theorem Own.block (h : Own w B e sz enc v l) : ∀ k, v.ownBlock = some k → B ≤ k ∧ k < w.heap.size := h.lt
theorem Own.kept (h : Own w B e sz enc v l) (hk : ∀ k, v.ownBlock = some k → w'.heap[k]? = w.heap[k]?) : Own w' B e sz enc v l := by
  refine ⟨h.1, ?_⟩
  rcases h.2 with hn | ⟨g, cap, cur, rfl, hb, hgg, rest⟩
  · exact .inl hn
  · exact .inr ⟨g, cap, cur, rfl, hb, by rw [hk g rfl]; exact hgg, rest⟩
/-- owned from B on; below B' nothing has turned, and the block lies below B' -/
theorem Own.below {B' : Nat} (h : Own w B e sz enc v l) (hb : Below B' w w') (hlt : w.heap.size ≤ B') : Own w' B e sz enc v l :=
  h.kept fun k hk => hb.block k (by have := (h.block k hk).2; omega)
theorem Own.alloc (h : Own w B e sz enc v l) (o : Obj) : Own (w.alloc o) B e sz enc v l := World.ownsRow.alloc h o
theorem Own.drewN (h : Own w B e sz enc v l) (n : Nat) : Own (w.drewN n) B e sz enc v l := h.kept fun _ _ => rfl
theorem Own.mono {B' : Nat} (h : Own w B e sz enc v l) (hB : B' ≤ B) : Own w B' e sz enc v l := by
  refine ⟨h.1, ?_⟩
  rcases h.2 with hn | ⟨g, cap, cur, rfl, hb, rest⟩
  · exact .inl hn
  · exact .inr ⟨g, cap, cur, rfl, Nat.le_trans hB hb, rest⟩
end

section
variable {α : Type} {P : Program} {w : World} {ops : Array Oper} {rest : List Oper} {o : Oper} {a : Act} {Q : Exit → Act → World → Prop}

/-- append one element to the call's own slice -/
theorem wpList_push (hgd : o.guard = none) (s x : Operand) (t : TypeId) (ho : o.op = .call { callee := .builtin .append, args := #[s, x], argTypes := #[t, t] })
    (B : Nat) (e : TypeId) (sz bytes : Nat) (hT : SlTy P t e sz bytes) (enc : α → List Value) (he : Enc sz enc)
    (v : Value) (l : List α) (hs : a.eval s = v) (hown : Own w B e sz enc v l)
    (y : α) (G : Nat) (hx : a.eval x = .slice (some ⟨G, 0, none⟩) 1 1) (hG : ∀ j u, (enc y)[j]? = some u → w.cell? ⟨G, j, none⟩ = some u)
    (hroom : (l.length + 1) * bytes ≤ 140737488355328) (hmax : l.length + 1 ≤ maxLen) (W : World) (hB : Below B W w) (hBs : B ≤ w.heap.size)
    (h : ∀ v' w', Own w' B e sz enc v' (l ++ [y]) → Below B W w' → w.grownBy w' v.ownBlock → wpList P ops Q rest (a.put o.dst v') w') : wpList P ops Q (o :: rest) a w := by
  obtain ⟨hu, z, hi, hz, hsz⟩ := hT
  obtain ⟨i, hi1, hi2, hi3, hi4⟩ := info_parts hi
  refine wpList_append_own w hgd s x t ho B e i z sz bytes hu hi1 hi2 hi3 hi4 hz hsz v l.length (l.flatMap enc) hs hown ⟨G, 0, none⟩ 1 1 (enc y) hx (by rw [he.len, Nat.one_mul])
    (fun j u hj => by
      have hadd : (⟨G, 0, none⟩ : Addr).add j = ⟨G, j, none⟩ := by unfold Addr.add; split <;> simp_all
      rw [hadd]; exact hG j u hj) (he.one y) hmax hroom hBs ?_
  intro v' w' h1 h2 _
  refine h v' w' ?_ (hB.grown h2 hBs (fun k hk => (hown.lt k hk).1)) h2
  unfold Own
  rw [List.length_append, List.flatMap_append]
  simpa using h1

/-- append one element within the capacity: the slice stays where it is -/
theorem wpList_push_fits (hgd : o.guard = none) (s x : Operand) (t : TypeId) (ho : o.op = .call { callee := .builtin .append, args := #[s, x], argTypes := #[t, t] })
    (B : Nat) (e : TypeId) (sz bytes : Nat) (hT : SlTy P t e sz bytes) (enc : α → List Value) (he : Enc sz enc)
    (g k cap : Nat) (l : List α) (hk : k = l.length) (hs : a.eval s = .slice (some ⟨g, 0, none⟩) k cap) (hown : Own w B e sz enc (.slice (some ⟨g, 0, none⟩) k cap) l)
    (y : α) (G : Nat) (hx : a.eval x = .slice (some ⟨G, 0, none⟩) 1 1) (hG : ∀ j u, (enc y)[j]? = some u → w.cell? ⟨G, j, none⟩ = some u)
    (hfit : k + 1 ≤ cap) (W : World) (hB : Below B W w) (hBs : B ≤ w.heap.size)
    (h : ∀ w', Own w' B e sz enc (.slice (some ⟨g, 0, none⟩) (k + 1) cap) (l ++ [y]) → Below B W w' → wpList P ops Q rest (a.put o.dst (.slice (some ⟨g, 0, none⟩) (k + 1) cap)) w') : wpList P ops Q (o :: rest) a w := by
  obtain ⟨hu, z, hi, hz, hsz⟩ := hT
  obtain ⟨i, hi1, hi2, hi3, hi4⟩ := info_parts hi
  subst hk
  refine wpList_append_fits w hgd s x t ho B e i sz hu hi1 hi3 g l.length cap (l.flatMap enc) hs hown ⟨G, 0, none⟩ 1 1 (enc y) hx (by rw [he.len, Nat.one_mul])
    (fun j u hj => by
      have hadd : (⟨G, 0, none⟩ : Addr).add j = ⟨G, j, none⟩ := by unfold Addr.add; split <;> simp_all
      rw [hadd]; exact hG j u hj) (he.one y) hfit ?_
  intro w' h1 h2
  refine h w' ?_ (hB.grown h2 hBs (fun k hk => by cases hk; exact (hown.lt g rfl).1))
  unfold Own
  rw [List.length_append, List.flatMap_append]
  simpa using h1

/-- make([]T, 0, n) -/
theorem wpList_mk (hgd : o.guard = none) (lo co : Operand) (t : TypeId) (ho : o.op = Op.makeSlice t lo co)
    (B : Nat) (e : TypeId) (sz bytes : Nat) (hT : SlTy P t e sz bytes) (enc : α → List Value)
    (n : Nat) (C : Int) (hl : a.eval lo = .int .i64 0) (hc : a.eval co = .int .i64 C) (hC : C = (n : Int)) (hroom : bytes * n ≤ 281474976710656) (hmax : n ≤ maxLen) (W : World) (hB : Below B W w) (hBs : B ≤ w.heap.size)
    (h : ∀ w', Own w' B e sz enc (.slice (some ⟨w.heap.size, 0, none⟩) 0 n) ([] : List α) → Below B W w' → w'.heap.size ≥ w.heap.size → wpList P ops Q rest (a.put o.dst (.slice (some ⟨w.heap.size, 0, none⟩) 0 n)) w') : wpList P ops Q (o :: rest) a w := by
  obtain ⟨hu, z, hi, hz, hsz⟩ := hT
  obtain ⟨i, hi1, hi2, hi3, hi4⟩ := info_parts hi
  refine wpList_make_own w hgd lo co t ho B e i z sz hu hi1 hi2 hi3 .i64 .i64 C n hl hc hC (by rw [hi4]; exact hroom) hmax hBs ?_
  intro w' h1 h2
  exact h w' (by simpa [Own] using h1) (hB.grown h2 hBs (fun k hk => by cases hk)) h2.size
end
end Go.Proofs.YtohinfefidahlaaGreatDoor
