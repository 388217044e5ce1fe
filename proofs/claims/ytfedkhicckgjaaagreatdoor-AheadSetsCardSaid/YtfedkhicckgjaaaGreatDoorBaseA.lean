/- Small lemmas that no function's walk is needed for: copy from a string, blocks, the ends of walks. Slices in memory that read as lists; nothing of a program is named here. Memory of the call's own, list by list: what is written to one leaves the others. Nothing of a program is named here. Lists of strings as a list type. Slices of texts: are two of them alike? binderylaw01.SameTexts The library's own variable. A slice appended to a slice; memory for so many elements. Nothing of a program is named here. Maps with strings as keys that the call made itself: whatever their elements are. Lines of a text: the plain laws. No program is named here. No text has more lines than bytes. What an argument that was read is to the walks: slices of strings and of pairs of strings, their sizes too. The laws' early end: what binderylaw01.Beyond answers. -/
import Derived.Test.YtfedkhicckgjaaaGreatDoorRows
import Derived.WalkKit
import Derived.WalkSpells
import Derived.WalkLawsBesides
import Derived.Lib.Hide
import Derived.Deep.QuietTactic
import Derived.BigQuiet
import Derived.Deep.Slices
import Derived.Laws.OwnMore
import Derived.Laws.CopyOwn
import Derived.Lib.AppendZeros
import Derived.MapKept
import Derived.Maps.OwnOps
import Derived.Lib.SplitLaws
import Derived.Lib.Strings
import Derived.ProofKit
import Derived.ChangeOld
import Derived.OpenShut
import Derived.SizedLaws
namespace Go.Proofs.YtfedkhicckgjaaaGreatDoor
open Go.RowKit

theorem ret_u64 {a b : Nat} (h : a = b) : Ending.returned (.int .u64 (a : Int)) = .returned (.int .u64 (b : Int)) := by rw [h]
theorem ret_bool {a b : Bool} (h : a = b) : Ending.returned (.bool a) = .returned (.bool b) := by rw [h]
theorem ret_str {a b : List UInt8} (h : a = b) : Ending.returned (.string ⟨a.toArray⟩) = .returned (.string ⟨b.toArray⟩) := by rw [h]
theorem take_snoc (s : ByteArray) (k : Nat) (h : k < s.size) : s.data.toList.take (k + 1) = s.data.toList.take k ++ [s[k]] := by
  rw [List.take_succ_eq_append_getElem (by simpa using h)]; rfl

theorem run_copy_str {P : Program} (w : World) (dT sT ty elem : TypeId) (g o dLen dCap : Nat) (s : ByteArray) (cur : Array Value) (t : TypeId) (cs : List Value)
    (hu : P.underlying dT = some (.slice elem)) (hs : ((P.info? elem).map (·.size)).isSome = true)
    (hg : w.heap[g]? = some (.cells cur t (0, 0))) (hn : s.size ≤ dLen) (hcs : (s.data.map fun b => Value.int .u8 b.toNat).toList = cs)
    (hfit : o + s.size ≤ cur.size) :
    (Builtin.copy_ #[dT, sT] ty #[.slice (some ⟨g, o, none⟩) dLen dCap, .string s]).run P w =
      .ok (goInt s.size) (w.setRow g (cur.toList.take o ++ cs ++ cur.toList.drop (o + s.size)).toArray) := by
  have hl : cs.length = s.size := by rw [← hcs]; simp
  have hst := run_storeCells_at P g o t cs 0 cur w hg (by simpa [hl] using hfit) (by rw [← hcs]; intro v hv; simp at hv; obtain ⟨b, _, rfl⟩ := hv; rfl)
  have hmin : Nat.min s.size dLen = s.size := Nat.min_eq_left hn
  cases hq : P.info? elem with
  | none => simp [hq] at hs
  | some i =>
    have e : List.take s.size (List.map (fun b : UInt8 => Value.int IntKind.u8 ↑b.toNat) s.data.toList) = cs := by
      rw [List.take_of_length_le (by simp), ← hcs]; simp
    simp [Builtin.copy_, run_underlying hu, Builtin.lenOf, Builtin.firstCells, sizeOf, typeInfo, hq, hmin, e, hst, hl]

theorem setRow_alloc (w : World) (old new : Array Value) (t : TypeId) : (w.alloc (.cells old t)).setRow w.heap.size new = w.alloc (.cells new t) := by
  unfold World.setRow World.alloc
  congr 1
  apply Array.ext
  · simp
  · intro i h1 h2
    simp [Array.getElem_modify, Array.getElem_push]
    split <;> split <;> simp_all <;> omega

/-- a slice of bytes as a string: the cells hold the bytes of l -/
theorem run_bytes_str {P : Program} (w : World) (src dst e : TypeId) (hs : P.underlying src = some (.slice e)) (he : P.underlying e = some (.int .u8)) (hd : P.underlying dst = some .string)
    (b off len cap : Nat) (l : List UInt8) (hlen : l.length = len) (hcell : ∀ i, i < len → w.cell? ⟨b, off + i, none⟩ = some (.int .u8 (l.getD i 0).toNat)) :
    (convert src dst (.slice (some ⟨b, off, none⟩) len cap)).run P w = .ok (.string ⟨l.toArray⟩) w := by
  have h := run_convert_bytes_arg (P := P) w src e hs he b off len cap (l.map fun c => (c.toNat : Int)) (by simp [hlen]) (fun i hi => by
    rw [hcell i hi]
    have : i < l.length := by omega
    simp [List.getD, List.getElem?_map, List.getElem?_eq_getElem this]) dst hd
  rw [h]
  have : strOfNums (l.map fun c => (c.toNat : Int)) = ⟨l.toArray⟩ := by
    have e : (strOfNums (l.map fun c => (c.toNat : Int))).data.toList = l := by
      rw [strOfNums_data, List.map_map]
      conv => rhs; rw [← List.map_id l]
      apply List.map_congr_left
      intro c _
      simp
    apply ByteArray.ext
    apply Array.toList_inj.1
    simpa using e
  rw [this]

/-! ### a block that is known whole: its cells; none of them is frozen -/
def Blk (w : World) (g : Nat) (C : List Value) : Prop := ∃ t lo hi, w.heap[g]? = some (.cells C.toArray t (lo, hi)) ∧ (hi ≤ lo ∨ C.length ≤ lo)

theorem Blk.lt {w : World} {g : Nat} {C : List Value} (h : Blk w g C) : g < w.heap.size := by
  obtain ⟨t, lo, hi, h, _⟩ := h
  exact (Array.getElem?_eq_some_iff.1 h).1
theorem Blk.cell {w : World} {g : Nat} {C : List Value} (h : Blk w g C) (i : Nat) : w.cell? ⟨g, i, none⟩ = C[i]? := by
  obtain ⟨t, lo, hi, h, _⟩ := h
  simp [World.cell?, h]
theorem Blk.free {w : World} {g : Nat} {C : List Value} (h : Blk w g C) {i : Nat} (hi : i < C.length) : w.frozen? ⟨g, i, none⟩ = false := by
  obtain ⟨t, lo, h', h, hl⟩ := h
  simp [World.frozen?, h]
  omega
theorem Blk.of_block {w w' : World} {g : Nat} {C : List Value} (h : Blk w g C) (e : w'.heap[g]? = w.heap[g]?) : Blk w' g C := by
  obtain ⟨t, lo, hi, h, hl⟩ := h
  exact ⟨t, lo, hi, e.trans h, hl⟩
theorem Blk.below {B : Nat} {w w' : World} {g : Nat} {C : List Value} (h : Blk w g C) (hb : Below B w w') (hg : g < B) : Blk w' g C := h.of_block (hb.block g hg)
theorem Blk.set {w : World} {g : Nat} {C : List Value} (h : Blk w g C) (i : Nat) (v : Value) : Blk (w.setCell ⟨g, i, none⟩ v) g (C.set i v) := by
  obtain ⟨t, lo, hi, h, hl⟩ := h
  refine ⟨t, lo, hi, ?_, by simpa using hl⟩
  have hlt := (Array.getElem?_eq_some_iff.1 h).1
  have hv := (Array.getElem?_eq_some_iff.1 h).2
  simp only [World.setCell]
  rw [Array.getElem?_eq_getElem (by simpa using hlt), Array.getElem_modify_self, hv]
  simp
theorem Blk.set_other {w : World} {g g' : Nat} {C : List Value} (h : Blk w g C) (hne : g' ≠ g) (i : Nat) (v : Value) : Blk (w.setCell ⟨g', i, none⟩ v) g C :=
  h.of_block (Below.heap_setCell _ _ _ _ (Ne.symm hne))
theorem Blk.new (w : World) (C : Array Value) (t : TypeId) : Blk (w.alloc (.cells C t)) w.heap.size C.toList :=
  ⟨t, 0, 0, by rw [heap_alloc_new], .inl (Nat.le_refl _)⟩

/-- '[]byte(s)': a new block: the string's bytes, then spare room -/
theorem wpList_bytes_of {P : Program} {w : World} {ops : Array Oper} {rest : List Oper} {o : Oper} {a : Act} {Q : Exit → Act → World → Prop} (hgd : o.guard = none) (x : Operand) (src dst e : TypeId)
    (ho : o.op = .convert src dst x) (s : ByteArray) (hx : a.eval x = .string s)
    (hs : P.underlying src = some .string) (hd : P.underlying dst = some (.slice e)) (he : P.underlying e = some (.int .u8))
    (h : ∀ w' cap rest', Below w.heap.size w w' → w'.heap.size = w.heap.size + 1 → Blk w' w.heap.size (s.data.toList.map (fun c => Value.int .u8 c.toNat) ++ rest') → s.size ≤ cap →
      wpList P ops Q rest (a.put o.dst (.slice (some ⟨w.heap.size, 0, none⟩) s.size cap)) w') :
    wpList P ops Q (o :: rest) a w := by
  refine wpList_plain hgd fun K hK => ?_
  have hrun := run_bytes_of_string (P := P) w src dst e s hs hd he
  unfold Oper.wp
  simp only [execOp, ho, hx, Sem.run_bind, hrun, Result.andThen_ok, Sem.run_pure]
  refine hK _ _ (h _ _ (List.replicate (grownCap w s.size 0 e - s.size) (.int .u8 0)) ?_ ?_ ?_ (grownCap_ge _ _ _ _))
  · exact (Below.refl _ w).drew.alloc (Nat.le_refl _) _
  · simp
  · refine ⟨e, (bytesRow s (grownCap w s.size 0 e)).size, (bytesRow s (grownCap w s.size 0 e)).size + 1, ?_, .inr ?_⟩
    · have := heap_alloc_new w.drew (.cells (bytesRow s (grownCap w s.size 0 e)) e ((bytesRow s (grownCap w s.size 0 e)).size, (bytesRow s (grownCap w s.size 0 e)).size + 1))
      refine this.trans ?_
      congr 2
      apply Array.toList_inj.1
      simp [bytesRow]
    · simp [bytesRow]

/-- 'string(b)' of bytes whose cells hold the bytes of l -/
theorem wpList_str_of {P : Program} {w : World} {ops : Array Oper} {rest : List Oper} {o : Oper} {a : Act} {Q : Exit → Act → World → Prop} (hgd : o.guard = none) (x : Operand) (src dst e : TypeId)
    (ho : o.op = .convert src dst x) (b off len cap : Nat) (hx : a.eval x = .slice (some ⟨b, off, none⟩) len cap)
    (hs : P.underlying src = some (.slice e)) (he : P.underlying e = some (.int .u8)) (hd : P.underlying dst = some .string)
    (l : List UInt8) (hlen : l.length = len) (hcell : ∀ i, i < len → w.cell? ⟨b, off + i, none⟩ = some (.int .u8 (l.getD i 0).toNat))
    (h : wpList P ops Q rest (a.put o.dst (.string ⟨l.toArray⟩)) w) : wpList P ops Q (o :: rest) a w := by
  refine wpList_plain hgd fun K hK => ?_
  have hrun := run_bytes_str (P := P) w src dst e hs he hd b off len cap l hlen hcell
  unfold Oper.wp
  simp only [execOp, ho, hx, Sem.run_bind, hrun, Result.andThen_ok, Sem.run_pure]
  exact hK _ _ h

end Go.Proofs.YtfedkhicckgjaaaGreatDoor

namespace Go.Proofs.YtfedkhicckgjaaaGreatDoor
open Go.RowKit

abbrev Bytes := List UInt8
def str (s : Bytes) : Value := .string ⟨s.toArray⟩
theorem str_def (s : Bytes) : str s = .string ⟨s.toArray⟩ := rfl
theorem bytes_of (s : ByteArray) : ∃ l : Bytes, s = ⟨l.toArray⟩ := ⟨s.data.toList, by apply ByteArray.ext; simp⟩
/-- a byte of a string that is told as a list -/
@[go_sem] theorem getElem_mk (l : Bytes) (k : Nat) (h : k < (ByteArray.mk l.toArray).size) : (ByteArray.mk l.toArray)[k] = l[k]'(by simpa [ByteArray.size] using h) := rfl
@[go_sem] theorem extract_mk (l : Bytes) (i j : Nat) : (ByteArray.mk l.toArray).extract i j = ⟨((l.take j).drop i).toArray⟩ := by
  apply ByteArray.ext
  rw [ByteArray.data_extract]
  simp [List.drop_take]
@[go_sem] theorem append_mk (a b : Bytes) : (ByteArray.mk a.toArray) ++ (ByteArray.mk b.toArray) = ⟨(a ++ b).toArray⟩ := by
  apply ByteArray.ext
  simp
theorem size_mk (l : Bytes) : (ByteArray.mk l.toArray).size = l.length := by simp [ByteArray.size]

/-- the elements' cells lie one behind the other, sz cells each, from cell off of block b on -/
def Row {α : Type} (w : World) (sz : Nat) (enc : α → List Value) (b off : Nat) (l : List α) : Prop :=
  ∀ i x, l[i]? = some x → ∀ j v, (enc x)[j]? = some v → w.cell? ⟨b, off + i * sz + j, none⟩ = some v

/-- a slice's address leads to the elements (an empty one's may lead anywhere) -/
def At {α : Type} (w : World) (sz : Nat) (enc : α → List Value) (a : Option Addr) (l : List α) : Prop :=
  l = [] ∨ ∃ b off, a = some ⟨b, off, none⟩ ∧ b < w.heap.size ∧ Row w sz enc b off l

section
variable {α : Type} {w w' : World} {sz : Nat} {enc : α → List Value} {a : Option Addr} {b off : Nat} {l : List α}

theorem Row.below {B : Nat} (h : Row w sz enc b off l) (hb : Below B w w') (hB : b < B) : Row w' sz enc b off l :=
  fun i x hi j v hj => by rw [hb.cell (p := ⟨b, off + i * sz + j, none⟩) hB]; exact h i x hi j v hj

theorem At.below (h : At w sz enc a l) (hb : Below w.heap.size w w') : At w' sz enc a l := by
  rcases h with h | ⟨b, off, ha, hlt, hr⟩
  · exact .inl h
  · exact .inr ⟨b, off, ha, Nat.lt_of_lt_of_le hlt hb.size, hr.below hb hlt⟩

theorem At.elem (h : At w sz enc a l) {i : Nat} (hi : i < l.length) : ∃ b off, a = some ⟨b, off, none⟩ ∧ b < w.heap.size ∧
    ∀ j v, (enc l[i])[j]? = some v → w.cell? ⟨b, off + i * sz + j, none⟩ = some v := by
  rcases h with h | ⟨b, off, ha, hlt, hr⟩
  · subst h; simp at hi
  · exact ⟨b, off, ha, hlt, fun j v hj => hr i l[i] (List.getElem?_eq_getElem hi) j v hj⟩

theorem At.nil (w : World) (sz : Nat) (enc : α → List Value) (a : Option Addr) : At w sz enc a [] := .inl rfl

theorem flat_get (hs : ∀ x, (enc x).length = sz) : ∀ (l : List α) (i j : Nat), j < sz → (l.flatMap enc)[i * sz + j]? = (l[i]?).bind fun x => (enc x)[j]?
  | [], i, j, _ => by simp
  | x :: l, 0, j, hj => by
    have : j < (enc x).length := by rw [hs]; exact hj
    simp [List.flatMap_cons, List.getElem?_append_left this]
  | x :: l, i + 1, j, hj => by
    have e : (i + 1) * sz + j = (enc x).length + (i * sz + j) := by rw [hs, Nat.succ_mul]; omega
    rw [List.flatMap_cons, e, List.getElem?_append_right (by omega), Nat.add_sub_cancel_left, flat_get hs l i j hj]
    simp
theorem flat_len (hs : ∀ x, (enc x).length = sz) (l : List α) : (l.flatMap enc).length = l.length * sz := by
  induction l with
  | nil => simp
  | cons x l ih => rw [List.flatMap_cons, List.length_append, hs, ih, List.length_cons, Nat.succ_mul]; omega

/-- what the call owns reads as its elements -/
theorem At.own {base : Nat} {e : TypeId} {v : Value} {n : Nat} (hs : ∀ x, (enc x).length = sz) (h : w.ownsRow base e sz v n (l.flatMap enc)) (hn : n = l.length) :
    ∃ a cap, v = .slice a n cap ∧ At w sz enc a l := by
  rcases h.2 with ⟨rfl, h0⟩ | ⟨g, cap, cur, rfl, hb, hg, hnc, hcm, hcs, htake⟩
  · subst h0
    have hl : l = [] := List.eq_nil_of_length_eq_zero hn.symm
    subst hl
    exact ⟨none, 0, rfl, .inl rfl⟩
  · refine ⟨_, cap, rfl, .inr ⟨g, 0, rfl, (Array.getElem?_eq_some_iff.1 hg).1, ?_⟩⟩
    intro i x hi j v hj
    rw [Nat.zero_add, cell_of_row w g _ cur e (0, 0) hg]
    have hjs : j < sz := by rw [← hs x]; exact (List.getElem?_eq_some_iff.1 hj).1
    have hil : i < l.length := (List.getElem?_eq_some_iff.1 hi).1
    have hfl := flat_get hs l i j hjs
    rw [hi] at hfl
    simp only [Option.bind_some, hj] at hfl
    rw [← htake, List.getElem?_take] at hfl
    split at hfl
    · simpa using hfl
    · cases hfl
end

/-! ### one string an element -/
def encS (s : Bytes) : List Value := [.string ⟨s.toArray⟩]
theorem encS_len (s : Bytes) : (encS s).length = 1 := rfl
theorem At.str {w : World} {a : Option Addr} {l : List Bytes} (h : At w 1 encS a l) {i : Nat} (hi : i < l.length) :
    ∃ b off, a = some ⟨b, off, none⟩ ∧ b < w.heap.size ∧ w.cell? ⟨b, off + i, none⟩ = some (.string ⟨l[i].toArray⟩) := by
  obtain ⟨b, off, ha, hlt, hc⟩ := h.elem hi
  refine ⟨b, off, ha, hlt, ?_⟩
  have := hc 0 _ rfl
  rwa [Nat.mul_one, Nat.add_zero] at this

/-! ### a name and a value (api.Attr, api.Source, api.File): two strings an element -/
structure Two where
  name : Bytes
  value : Bytes
def encT (x : Two) : List Value := [.string ⟨x.name.toArray⟩, .string ⟨x.value.toArray⟩]
theorem encT_len (x : Two) : (encT x).length = 2 := rfl
theorem At.two {w : World} {a : Option Addr} {l : List Two} (h : At w 2 encT a l) {i : Nat} (hi : i < l.length) :
    ∃ b off, a = some ⟨b, off, none⟩ ∧ b < w.heap.size ∧ w.cell? ⟨b, off + i * 2, none⟩ = some (.string ⟨l[i].name.toArray⟩) ∧ w.cell? ⟨b, off + i * 2 + 1, none⟩ = some (.string ⟨l[i].value.toArray⟩) := by
  obtain ⟨b, off, ha, hlt, hc⟩ := h.elem hi
  exact ⟨b, off, ha, hlt, hc 0 _ rfl, hc 1 _ rfl⟩

/-- Draws of the tape leave memory as it is. -/
theorem below_drewN {B : Nat} {a w : World} (h : Below B a w) (n : Nat) : Below B a (w.drewN n) := h.trans ⟨rfl, rfl, rfl, Nat.le_refl _, fun _ _ => rfl⟩

/-! ### slices that the call makes itself -/
/-- the program's table on a slice type t of elements e, sz cells and so many bytes each -/
def SlTy (P : Program) (t e : TypeId) (sz bytes : Nat) : Prop :=
  P.underlying t = some (.slice e) ∧ ∃ z, (P.info? e).map (fun i => (i.zero, i.size, i.bytes)) = some (some z, sz, bytes) ∧ z.cells.size = sz ∧ 0 < sz

/-- v is the call's own slice (its block is B or above), it holds l -/
def Own {α : Type} (w : World) (B : Nat) (e : TypeId) (sz : Nat) (enc : α → List Value) (v : Value) (l : List α) : Prop :=
  w.ownsRow B e sz v l.length (l.flatMap enc)

/-- how an element is told: sz cells, each a value of one cell -/
structure Enc {α : Type} (sz : Nat) (enc : α → List Value) : Prop where
  len : ∀ x, (enc x).length = sz
  one : ∀ x, ∀ u ∈ enc x, u.oneCell' = true

theorem encS_ok : Enc 1 encS := ⟨fun _ => rfl, fun x u hu => by simp [encS] at hu; subst hu; rfl⟩
theorem encT_ok : Enc 2 encT := ⟨fun _ => rfl, fun x u hu => by simp [encT] at hu; rcases hu with rfl | rfl <;> rfl⟩

section
variable {α : Type} {w w' : World} {B : Nat} {e : TypeId} {sz : Nat} {enc : α → List Value} {v : Value} {l : List α}

theorem Own.nil (w : World) (B : Nat) (e : TypeId) (sz : Nat) (enc : α → List Value) : Own w B e sz enc (.slice none 0 0) [] := by
  have := World.ownsRow_nil w B e sz
  simpa [Own] using this
theorem Own.reads (h : Own w B e sz enc v l) (he : Enc sz enc) : ∃ a cap, v = .slice a l.length cap ∧ At w sz enc a l := At.own he.len h rfl
theorem Own.addr {a : Option Addr} {n c : Nat} (h : Own w B e sz enc (.slice a n c) l) (he : Enc sz enc) : At w sz enc a l := by
  obtain ⟨a', c', hv, h'⟩ := h.reads he
  injection hv with h1 _ _
  rw [h1]; exact h'
theorem Own.shape (h : Own w B e sz enc v l) : ∃ a cap, v = .slice a l.length cap := by
  rcases h.2 with ⟨rfl, h0⟩ | ⟨g, cap, cur, rfl, _⟩
  · rw [h0]; exact ⟨_, _, rfl⟩
  · exact ⟨_, _, rfl⟩
/-- the block that an owned slice lies in, if any -/
theorem Own.block (h : Own w B e sz enc v l) : ∀ k, v.ownBlock = some k → B ≤ k ∧ k < w.heap.size := h.lt
theorem Own.kept (h : Own w B e sz enc v l) (hk : ∀ k, v.ownBlock = some k → w'.heap[k]? = w.heap[k]?) : Own w' B e sz enc v l := by
  refine ⟨h.1, ?_⟩
  rcases h.2 with hn | ⟨g, cap, cur, rfl, hb, hgg, rest⟩
  · exact .inl hn
  · exact .inr ⟨g, cap, cur, rfl, hb, by rw [hk g rfl]; exact hgg, rest⟩
/-- owned from B on; below B' nothing has turned, and the block lies below B' -/
theorem Own.below {B' : Nat} (h : Own w B e sz enc v l) (hb : Below B' w w') (hlt : w.heap.size ≤ B') : Own w' B e sz enc v l :=
  h.kept fun k hk => hb.block k (by have := (h.block k hk).2; omega)
theorem Own.alloc (h : Own w B e sz enc v l) (o : Obj) : Own (w.alloc o) B e sz enc v l := World.ownsRow.alloc h o
theorem Own.drewN (h : Own w B e sz enc v l) (n : Nat) : Own (w.drewN n) B e sz enc v l := h.kept fun _ _ => rfl
theorem Own.mono {B' : Nat} (h : Own w B e sz enc v l) (hB : B' ≤ B) : Own w B' e sz enc v l := by
  refine ⟨h.1, ?_⟩
  rcases h.2 with hn | ⟨g, cap, cur, rfl, hb, rest⟩
  · exact .inl hn
  · exact .inr ⟨g, cap, cur, rfl, Nat.le_trans hB hb, rest⟩
end

section
variable {α : Type} {P : Program} {w : World} {ops : Array Oper} {rest : List Oper} {o : Oper} {a : Act} {Q : Exit → Act → World → Prop}

/-- append one element to the call's own slice -/
theorem wpList_push (hgd : o.guard = none) (s x : Operand) (t : TypeId) (ho : o.op = .call { callee := .builtin .append, args := #[s, x], argTypes := #[t, t] })
    (B : Nat) (e : TypeId) (sz bytes : Nat) (hT : SlTy P t e sz bytes) (enc : α → List Value) (he : Enc sz enc)
    (v : Value) (l : List α) (hs : a.eval s = v) (hown : Own w B e sz enc v l)
    (y : α) (G : Nat) (hx : a.eval x = .slice (some ⟨G, 0, none⟩) 1 1) (hG : ∀ j u, (enc y)[j]? = some u → w.cell? ⟨G, j, none⟩ = some u)
    (hroom : (l.length + 1) * bytes ≤ 140737488355328) (hmax : l.length + 1 ≤ maxLen) (W : World) (hB : Below B W w) (hBs : B ≤ w.heap.size)
    (h : ∀ v' w', Own w' B e sz enc v' (l ++ [y]) → Below B W w' → w.grownBy w' v.ownBlock → wpList P ops Q rest (a.put o.dst v') w') : wpList P ops Q (o :: rest) a w := by
  obtain ⟨hu, z, hi, hz, hsz⟩ := hT
  obtain ⟨i, hi1, hi2, hi3, hi4⟩ := info_parts hi
  refine wpList_append_own w hgd s x t ho B e i z sz bytes hu hi1 hi2 hi3 hi4 hz hsz v l.length (l.flatMap enc) hs hown ⟨G, 0, none⟩ 1 1 (enc y) hx (by rw [he.len, Nat.one_mul])
    (fun j u hj => by
      have hadd : (⟨G, 0, none⟩ : Addr).add j = ⟨G, j, none⟩ := by unfold Addr.add; split <;> simp_all
      rw [hadd]; exact hG j u hj) (he.one y) hmax hroom hBs ?_
  intro v' w' h1 h2 _
  refine h v' w' ?_ (hB.grown h2 hBs (fun k hk => (hown.lt k hk).1)) h2
  unfold Own
  rw [List.length_append, List.flatMap_append]
  simpa using h1

/-- append one element within the capacity: the slice stays where it is -/
theorem wpList_push_fits (hgd : o.guard = none) (s x : Operand) (t : TypeId) (ho : o.op = .call { callee := .builtin .append, args := #[s, x], argTypes := #[t, t] })
    (B : Nat) (e : TypeId) (sz bytes : Nat) (hT : SlTy P t e sz bytes) (enc : α → List Value) (he : Enc sz enc)
    (g k cap : Nat) (l : List α) (hk : k = l.length) (hs : a.eval s = .slice (some ⟨g, 0, none⟩) k cap) (hown : Own w B e sz enc (.slice (some ⟨g, 0, none⟩) k cap) l)
    (y : α) (G : Nat) (hx : a.eval x = .slice (some ⟨G, 0, none⟩) 1 1) (hG : ∀ j u, (enc y)[j]? = some u → w.cell? ⟨G, j, none⟩ = some u)
    (hfit : k + 1 ≤ cap) (W : World) (hB : Below B W w) (hBs : B ≤ w.heap.size)
    (h : ∀ w', Own w' B e sz enc (.slice (some ⟨g, 0, none⟩) (k + 1) cap) (l ++ [y]) → Below B W w' → wpList P ops Q rest (a.put o.dst (.slice (some ⟨g, 0, none⟩) (k + 1) cap)) w') : wpList P ops Q (o :: rest) a w := by
  obtain ⟨hu, z, hi, hz, hsz⟩ := hT
  obtain ⟨i, hi1, hi2, hi3, hi4⟩ := info_parts hi
  subst hk
  refine wpList_append_fits w hgd s x t ho B e i sz hu hi1 hi3 g l.length cap (l.flatMap enc) hs hown ⟨G, 0, none⟩ 1 1 (enc y) hx (by rw [he.len, Nat.one_mul])
    (fun j u hj => by
      have hadd : (⟨G, 0, none⟩ : Addr).add j = ⟨G, j, none⟩ := by unfold Addr.add; split <;> simp_all
      rw [hadd]; exact hG j u hj) (he.one y) hfit ?_
  intro w' h1 h2
  refine h w' ?_ (hB.grown h2 hBs (fun k hk => by cases hk; exact (hown.lt g rfl).1))
  unfold Own
  rw [List.length_append, List.flatMap_append]
  simpa using h1

/-- make([]T, 0, n) -/
theorem wpList_mk (hgd : o.guard = none) (lo co : Operand) (t : TypeId) (ho : o.op = Op.makeSlice t lo co)
    (B : Nat) (e : TypeId) (sz bytes : Nat) (hT : SlTy P t e sz bytes) (enc : α → List Value)
    (n : Nat) (C : Int) (hl : a.eval lo = .int .i64 0) (hc : a.eval co = .int .i64 C) (hC : C = (n : Int)) (hroom : bytes * n ≤ 281474976710656) (hmax : n ≤ maxLen) (W : World) (hB : Below B W w) (hBs : B ≤ w.heap.size)
    (h : ∀ w', Own w' B e sz enc (.slice (some ⟨w.heap.size, 0, none⟩) 0 n) ([] : List α) → Below B W w' → w'.heap.size ≥ w.heap.size → wpList P ops Q rest (a.put o.dst (.slice (some ⟨w.heap.size, 0, none⟩) 0 n)) w') : wpList P ops Q (o :: rest) a w := by
  obtain ⟨hu, z, hi, hz, hsz⟩ := hT
  obtain ⟨i, hi1, hi2, hi3, hi4⟩ := info_parts hi
  refine wpList_make_own w hgd lo co t ho B e i z sz hu hi1 hi2 hi3 .i64 .i64 C n hl hc hC (by rw [hi4]; exact hroom) hmax hBs ?_
  intro w' h1 h2
  exact h w' (by simpa [Own] using h1) (hB.grown h2 hBs (fun k hk => by cases hk)) h2.size
end
end Go.Proofs.YtfedkhicckgjaaaGreatDoor

namespace Go.Proofs.YtfedkhicckgjaaaGreatDoor
open Go.RowKit

/-! ### a block that is known whole, with its type -/
def Bk (w : World) (g : Nat) (C : List Value) (T : TypeId) : Prop := w.heap[g]? = some (.cells C.toArray T (0, 0))
section
variable {w w' : World} {g : Nat} {C : List Value} {T : TypeId}
theorem Bk.lt (h : Bk w g C T) : g < w.heap.size := (Array.getElem?_eq_some_iff.1 h).1
theorem Bk.cell (h : Bk w g C T) (i : Nat) : w.cell? ⟨g, i, none⟩ = C[i]? := by
  unfold Bk at h; simp [World.cell?, h]
theorem Bk.free (h : Bk w g C T) (i : Nat) : w.frozen? ⟨g, i, none⟩ = false := by
  unfold Bk at h; simp [World.frozen?, h]
theorem Bk.of_block (h : Bk w g C T) (e : w'.heap[g]? = w.heap[g]?) : Bk w' g C T := e.trans h
theorem Bk.below {B : Nat} (h : Bk w g C T) (hb : Below B w w') (hg : g < B) : Bk w' g C T := h.of_block (hb.block g hg)
theorem Bk.next (h : Bk w g C T) (hb : Below w.heap.size w w') : Bk w' g C T := h.below hb h.lt
theorem Bk.alloc (h : Bk w g C T) (o : Obj) : Bk (w.alloc o) g C T := h.of_block (Below.heap_alloc w o g h.lt)
theorem Bk.drew (h : Bk w g C T) : Bk w.drew g C T := h
theorem Bk.drewN (h : Bk w g C T) (n : Nat) : Bk (w.drewN n) g C T := h
theorem Bk.set (h : Bk w g C T) (i : Nat) (v : Value) : Bk (w.setCell ⟨g, i, none⟩ v) g (C.set i v) T := by
  unfold Bk at *
  have hlt := (Array.getElem?_eq_some_iff.1 h).1
  have hv := (Array.getElem?_eq_some_iff.1 h).2
  simp only [World.setCell]
  rw [Array.getElem?_eq_getElem (by simpa using hlt), Array.getElem_modify_self, hv]
  simp
theorem Bk.set_other (h : Bk w g C T) {g' : Nat} (hne : g' ≠ g) (i : Nat) (v : Value) : Bk (w.setCell ⟨g', i, none⟩ v) g C T :=
  h.of_block (Below.heap_setCell _ _ _ _ (Ne.symm hne))
theorem Bk.new (w : World) (C : Array Value) (t : TypeId) : Bk (w.alloc (.cells C t)) w.heap.size C.toList t := by
  unfold Bk; rw [heap_alloc_new]
theorem Bk.grown {row : Option Nat} (h : Bk w g C T) (hg : w.grownBy w' row) (hr : row ≠ some g) : Bk w' g C T := h.of_block (hg.block g h.lt (fun e => hr e.symm))
end

/-! ### what may have changed -/
structure Kept (S : Nat → Prop) (w w' : World) : Prop where
  os : w'.os = w.os
  tape : w'.tape = w.tape
  output : w'.output = w.output
  size : w.heap.size ≤ w'.heap.size
  block : ∀ k, k < w.heap.size → ¬ S k → w'.heap[k]? = w.heap[k]?
section
variable {S S' : Nat → Prop} {w w1 w2 : World}
theorem Kept.refl (S : Nat → Prop) (w : World) : Kept S w w := ⟨rfl, rfl, rfl, Nat.le_refl _, fun _ _ _ => rfl⟩
theorem Kept.trans (h : Kept S w w1) (k : Kept S w1 w2) : Kept S w w2 :=
  ⟨k.os.trans h.os, k.tape.trans h.tape, k.output.trans h.output, Nat.le_trans h.size k.size, fun i hi hn => (k.block i (Nat.lt_of_lt_of_le hi h.size) hn).trans (h.block i hi hn)⟩
theorem Kept.mono (h : Kept S w w1) (hs : ∀ k, S k → S' k) : Kept S' w w1 := ⟨h.os, h.tape, h.output, h.size, fun i hi hn => h.block i hi (fun hk => hn (hs i hk))⟩
/-- what is new may change as well -/
theorem Kept.transN {n : Nat} (h : Kept S w w1) (k : Kept (fun g => S g ∨ n ≤ g) w1 w2) (hn : w.heap.size ≤ n) : Kept S w w2 :=
  ⟨k.os.trans h.os, k.tape.trans h.tape, k.output.trans h.output, Nat.le_trans h.size k.size, fun i hi hs => (k.block i (Nat.lt_of_lt_of_le hi h.size) (fun hk => by rcases hk with hk | hk; exact hs hk; omega)).trans (h.block i hi hs)⟩
theorem Kept.of_below (h : Below w.heap.size w w1) : Kept S w w1 := ⟨h.os, h.tape, h.output, h.size, fun i hi _ => h.block i hi⟩
theorem Kept.alloc (h : Kept S w w1) (o : Obj) : Kept S w (w1.alloc o) := h.trans (Kept.of_below ((Below.refl _ _).alloc (Nat.le_refl _) o))
theorem Kept.drewN (h : Kept S w w1) (n : Nat) : Kept S w (w1.drewN n) := h.trans ⟨rfl, rfl, rfl, Nat.le_refl _, fun _ _ _ => rfl⟩
theorem Kept.setCell (h : Kept S w w1) {p : Addr} (hp : S p.block) (v : Value) : Kept S w (w1.setCell p v) := by
  refine h.trans ⟨rfl, rfl, rfl, by simp [World.setCell], fun i hi hn => ?_⟩
  exact Below.heap_setCell _ _ _ _ (fun e => hn (e ▸ hp))
theorem Kept.grown {row : Option Nat} (h : Kept S w w1) (hg : w1.grownBy w2 row) (hr : ∀ g, row = some g → S g) : Kept S w w2 :=
  h.trans ⟨hg.os, hg.tape, hg.output, hg.size, fun i hi hn => hg.block i hi (fun e => hn (hr i e.symm))⟩
theorem Kept.below {B : Nat} (h : Kept S w w1) (hS : ∀ k, S k → B ≤ k) (hB : B ≤ w.heap.size) : Below B w w1 :=
  ⟨h.os, h.tape, h.output, h.size, fun k hk => h.block k (Nat.lt_of_lt_of_le hk hB) (fun hs => by have := hS k hs; omega)⟩
theorem Kept.bk {g : Nat} {C : List Value} {T : TypeId} (h : Kept S w w1) (hb : Bk w g C T) (hn : ¬ S g) : Bk w1 g C T := hb.of_block (h.block g hb.lt hn)
theorem Kept.own {α : Type} {B : Nat} {e : TypeId} {sz : Nat} {enc : α → List Value} {v : Value} {l : List α} (h : Kept S w w1) (ho : Own w B e sz enc v l) (hn : ∀ g, v.ownBlock = some g → ¬ S g) : Own w1 B e sz enc v l :=
  ho.kept fun k hk => h.block k (ho.block k hk).2 (hn k hk)
end

/-! ### rows of the call's own -/
section
variable {α : Type} {w w' : World} {B : Nat} {e : TypeId} {sz : Nat} {enc : α → List Value} {v : Value} {l : List α}
theorem Own.kind (h : Own w B e sz enc v l) : ∀ g, v.ownBlock = some g → ∃ cur, w.heap[g]? = some (.cells cur e (0, 0)) := by
  intro g hg
  rcases h.2 with ⟨rfl, _⟩ | ⟨g', cap, cur, rfl, _, hh, _⟩
  · cases hg
  · cases hg
    exact ⟨cur, hh⟩
theorem Own.ne_bk {g : Nat} {C : List Value} {T : TypeId} (h : Own w B e sz enc v l) (hb : Bk w g C T) (hT : e ≠ T) : v.ownBlock ≠ some g := by
  intro hg
  obtain ⟨cur, hh⟩ := h.kind g hg
  unfold Bk at hb
  rw [hb] at hh
  cases hh
  exact hT rfl
theorem Own.ne_own {β : Type} {B' : Nat} {e' : TypeId} {sz' : Nat} {enc' : β → List Value} {v' : Value} {l' : List β} (h : Own w B e sz enc v l) (h' : Own w B' e' sz' enc' v' l') (he : e ≠ e') : ∀ g, v.ownBlock = some g → v'.ownBlock ≠ some g := by
  intro g hg hg'
  obtain ⟨cur, hh⟩ := h.kind g hg
  obtain ⟨cur', hh'⟩ := h'.kind g hg'
  rw [hh] at hh'
  cases hh'
  exact he rfl
theorem Own.next {w0 : World} (h : Own w0 B e sz enc v l) (e0 : w.heap = w0.heap) (hb : Below w.heap.size w w') : Own w' B e sz enc v l :=
  h.kept fun k hk => by rw [hb.block k (by rw [e0]; exact (h.block k hk).2), e0]
theorem Bk.next0 {w0 : World} {g : Nat} {C : List Value} {T : TypeId} (h : Bk w0 g C T) (e0 : w.heap = w0.heap) (hb : Below w.heap.size w w') : Bk w' g C T := by
  unfold Bk at *
  rw [hb.block g (by rw [e0]; exact (Array.getElem?_eq_some_iff.1 h).1), e0]; exact h
theorem Own.ptr {a : Option Addr} {n c : Nat} (h : Own w B e sz enc (.slice a n c) l) (hn : 0 < n) : ∃ g, a = some ⟨g, 0, none⟩ ∧ B ≤ g ∧ g < w.heap.size ∧ n ≤ c := by
  rcases h.2 with ⟨h1, h2⟩ | ⟨g, cap, cur, h1, h2, h3, h4, _⟩
  · injection h1 with _ h3 _; omega
  · injection h1 with ha hb hc
    exact ⟨g, ha, h2, (Array.getElem?_eq_some_iff.1 h3).1, by omega⟩
theorem Own.cellAt (he : Enc sz enc) {g n c : Nat} (h : Own w B e sz enc (.slice (some ⟨g, 0, none⟩) n c) l) {k : Nat} {x : α} (hk : l[k]? = some x) {j : Nat} {u : Value} (hj : (enc x)[j]? = some u) : w.cell? ⟨g, k * sz + j, none⟩ = some u := by
  have hkl := (List.getElem?_eq_some_iff.1 hk).1
  obtain ⟨b, off, ha, _, hc⟩ := (h.addr he).elem hkl
  cases ha
  rw [List.getElem?_eq_getElem hkl] at hk
  cases hk
  have := hc j u hj
  rwa [Nat.zero_add] at this
theorem Own.freeAt {g n c : Nat} (h : Own w B e sz enc (.slice (some ⟨g, 0, none⟩) n c) l) (j : Nat) : w.frozen? ⟨g, j, none⟩ = false := by
  obtain ⟨cur, hh⟩ := h.kind g rfl
  exact Bk.free (C := cur.toList) (T := e) (by unfold Bk; simpa using hh) j
theorem Own.set_other {g : Nat} (h : Own w B e sz enc v l) (hne : v.ownBlock ≠ some g) (j : Nat) (u : Value) : Own (w.setCell ⟨g, j, none⟩ u) B e sz enc v l :=
  h.kept fun k hk => Below.heap_setCell _ _ _ _ (fun e => hne (by rw [hk, e]))
/-- the first n elements alone -/
theorem Own.cut {a : Option Addr} {n m c : Nat} {l1 l2 : List α} (he : Enc sz enc) (h : Own w B e sz enc (.slice a (n + m) c) (l1 ++ l2)) (hn : n = l1.length) (hm : m = l2.length) : Own w B e sz enc (.slice a n c) l1 := by
  subst hn hm
  unfold Own at *
  refine ⟨flat_len he.len l1, ?_⟩
  rcases h.2 with ⟨h1, h2⟩ | ⟨g, cap, cur, h1, h2, h3, h4, h5, h6, h7⟩
  · injection h1 with ha hb hc
    rw [List.length_append] at h2
    left
    have : l1.length = 0 := by omega
    exact ⟨by rw [ha, hc, this], this⟩
  · injection h1 with ha hb hc
    right
    refine ⟨g, cap, cur, by rw [ha, hc], h2, h3, by rw [List.length_append] at h4; omega, h5, h6, ?_⟩
    have := congrArg (List.take (l1.length * sz)) h7
    rw [List.take_take, List.flatMap_append, List.take_left' (flat_len he.len l1)] at this
    rw [← this]
    congr 1
    rw [List.length_append, Nat.add_mul]; omega
/-- one cell of one element is written -/
theorem Own.setAt (he : Enc sz enc) {g n c : Nat} (h : Own w B e sz enc (.slice (some ⟨g, 0, none⟩) n c) l) {k : Nat} (hk : k < l.length) {p : Nat} (hp : p < sz) (u : Value) (y : α) (hy : enc y = (enc l[k]).set p u) :
    Own (w.setCell ⟨g, k * sz + p, none⟩ u) B e sz enc (.slice (some ⟨g, 0, none⟩) n c) (l.set k y) := by
  unfold Own at *
  have hlen : (l.set k y).length = l.length := List.length_set
  refine ⟨by rw [flat_len he.len], ?_⟩
  rcases h.2 with ⟨h1, h2⟩ | ⟨g', cap, cur, h1, h2, h3, h4, h5, h6, h7⟩
  · cases h1
  · injection h1 with ha hb hc
    injection ha with ha
    injection ha with hg
    subst hg hb hc
    right
    rw [hlen]
    have hb' := Bk.set (w := w) (g := g) (C := cur.toList) (T := e) (by unfold Bk; simpa using h3) (k * sz + p) u
    unfold Bk at hb'
    refine ⟨g, c, _, rfl, h2, hb', h4, h5, ?_, ?_⟩
    · simp; exact h6
    · have hle : k * sz + p < l.length * sz := by
        have : (k + 1) * sz ≤ l.length * sz := Nat.mul_le_mul_right _ hk
        rw [Nat.add_mul] at this; omega
      have e1 : ((cur.toList.set (k * sz + p) u).toArray).toList.take (l.length * sz) = ((cur.toList.take (l.length * sz)).set (k * sz + p) u) := by
        simp [List.take_set]
      rw [e1, h7]
      apply List.ext_getElem?
      intro i
      by_cases hi : i < l.length * sz
      · have hsz : 0 < sz := by omega
        have hmod : i % sz < sz := Nat.mod_lt _ hsz
        have hdm : i / sz * sz + i % sz = i := by rw [Nat.mul_comm]; exact Nat.div_add_mod i sz
        have hd : i / sz < l.length := Nat.div_lt_of_lt_mul (by rw [Nat.mul_comm]; exact hi)
        have f1 := flat_get he.len l (i / sz) (i % sz) hmod
        have f2 := flat_get he.len (l.set k y) (i / sz) (i % sz) hmod
        rw [hdm] at f1 f2
        rw [f2, List.getElem?_set, f1]
        by_cases hik : k * sz + p = i
        · have hq : i / sz = k := by rw [← hik, Nat.mul_comm, Nat.mul_add_div hsz, Nat.div_eq_of_lt hp]; rfl
          have hr : i % sz = p := by rw [← hik, Nat.mul_comm, Nat.mul_add_mod, Nat.mod_eq_of_lt hp]
          rw [hq, hr, List.getElem?_set_self hk]
          have hpl : p < (enc l[k]).length := by rw [he.len]; exact hp
          simp [hy, hik, hi, flat_len he.len, List.getElem?_set_self hpl]
        · rw [if_neg hik, List.getElem?_set]
          by_cases hq : k = i / sz
          · subst hq
            have hpne : p ≠ i % sz := fun e => hik (by rw [e]; exact hdm)
            rw [if_pos rfl, if_pos hk, List.getElem?_eq_getElem hk]
            simp [hy, List.getElem?_set_ne hpne]
          · rw [if_neg hq]
      · have a1 : ((l.flatMap enc).set (k * sz + p) u).length ≤ i := by rw [List.length_set, flat_len he.len]; omega
        have a2 : ((l.set k y).flatMap enc).length ≤ i := by rw [flat_len he.len, hlen]; omega
        rw [List.getElem?_eq_none a1, List.getElem?_eq_none a2]
end

section
variable {α : Type} {P : Program} {w : World} {ops : Array Oper} {rest : List Oper} {o : Oper} {a : Act} {Q : Exit → Act → World → Prop}
/-- append one element to the call's own slice: in place, or in new memory -/
theorem wpList_push2 (hgd : o.guard = none) (s x : Operand) (t : TypeId) (ho : o.op = .call { callee := .builtin .append, args := #[s, x], argTypes := #[t, t] })
    (B : Nat) (e : TypeId) (sz bytes : Nat) (hT : SlTy P t e sz bytes) (enc : α → List Value) (he : Enc sz enc)
    (v : Value) (l : List α) (hs : a.eval s = v) (hown : Own w B e sz enc v l)
    (y : α) (G : Nat) (hx : a.eval x = .slice (some ⟨G, 0, none⟩) 1 1) (hG : ∀ j u, (enc y)[j]? = some u → w.cell? ⟨G, j, none⟩ = some u)
    (hroom : (l.length + 1) * bytes ≤ 140737488355328) (hmax : l.length + 1 ≤ maxLen) (hBs : B ≤ w.heap.size)
    (h : ∀ v' w', Own w' B e sz enc v' (l ++ [y]) → w.grownBy w' v.ownBlock →
      ((∃ g c, v = .slice (some ⟨g, 0, none⟩) l.length c ∧ v' = .slice (some ⟨g, 0, none⟩) (l.length + 1) c) ∨ (v'.ownBlock = some w.heap.size ∧ w.grownBy w' none)) →
      wpList P ops Q rest (a.put o.dst v') w') : wpList P ops Q (o :: rest) a w := by
  obtain ⟨hu, z, hi, hz, hsz⟩ := hT
  obtain ⟨i, hi1, hi2, hi3, hi4⟩ := info_parts hi
  have hnews : ∀ j u, (enc y)[j]? = some u → w.cell? ((⟨G, 0, none⟩ : Addr).add j) = some u := by
    intro j u hj
    have hadd : (⟨G, 0, none⟩ : Addr).add j = ⟨G, j, none⟩ := by unfold Addr.add; split <;> simp_all
    rw [hadd]; exact hG j u hj
  by_cases hroom2 : ∃ g c, v = .slice (some ⟨g, 0, none⟩) l.length c ∧ l.length + 1 ≤ c
  · obtain ⟨g, c, rfl, hc⟩ := hroom2
    refine wpList_append_fits w hgd s x t ho B e i sz hu hi1 hi3 g l.length c (l.flatMap enc) hs hown ⟨G, 0, none⟩ 1 1 (enc y) hx (by rw [he.len, Nat.one_mul]) hnews (he.one y) hc ?_
    intro w' h1 h2
    refine h _ w' ?_ h2 (.inl ⟨g, c, rfl, rfl⟩)
    unfold Own
    rw [List.length_append, List.flatMap_append]
    simpa using h1
  · -- it has to grow
    have hgrow : ∃ v' w', (Builtin.append_ #[t, t] o.type #[v, .slice (some ⟨G, 0, none⟩) 1 1]).run P w = .ok v' w' ∧ Own w' B e sz enc v' (l ++ [y]) ∧ v'.ownBlock = some w.heap.size ∧ ∀ row, w.grownBy w' row := by
      have hsmall : l.length + 1 ≤ 9223372036854775807 := by unfold maxLen at hmax; omega
      have hlen : (enc y).length = 1 * i.size := by rw [he.len, hi3, Nat.one_mul]
      have hxs : (l.flatMap enc).length = l.length * i.size := by rw [flat_len he.len, hi3]
      have grown : ∀ (old : Nat), old < l.length + 1 → Own (w.drew.alloc (.cells ((l.flatMap enc).toArray ++ (enc y).toArray ++ Builtin.zeroCells z.cells (grownCap w (l.length + 1) old e - (l.length + 1))) e)) B e sz enc
          (.slice (some ⟨w.heap.size, 0, none⟩) (l.length + 1) (grownCap w (l.length + 1) old e)) (l ++ [y]) ∧
          ∀ row, w.grownBy (w.drew.alloc (.cells ((l.flatMap enc).toArray ++ (enc y).toArray ++ Builtin.zeroCells z.cells (grownCap w (l.length + 1) old e - (l.length + 1))) e)) row := by
        intro old hold
        have hge := grownCap_ge w (l.length + 1) old e
        have hcm := grownCap_le_maxLen w (l.length + 1) old e hmax
        refine ⟨?_, fun row => ⟨rfl, rfl, rfl, by simp, fun k hk _ => Below.heap_alloc w.drew _ k hk⟩⟩
        unfold Own
        have e1 : (l ++ [y]).flatMap enc = l.flatMap enc ++ enc y := by simp
        have e2 : (l ++ [y]).length = l.length + 1 := by simp
        rw [e1, e2]
        have hl2 : (l.flatMap enc ++ enc y).length = (l.length + 1) * sz := by rw [List.length_append, flat_len he.len, he.len, Nat.add_mul, Nat.one_mul]
        refine ⟨hl2, .inr ⟨w.heap.size, _, _, rfl, hBs, heap_alloc_new w.drew _, hge, hcm, ?_, ?_⟩⟩
        · simp only [Array.size_append, List.size_toArray, size_zeroCells, hz, flat_len he.len, he.len]
          have : grownCap w (l.length + 1) old e = (l.length + 1) + (grownCap w (l.length + 1) old e - (l.length + 1)) := by omega
          rw [this, Nat.add_mul, Nat.add_mul]
          simp
        · simp only [Array.toList_append, List.append_assoc]
          rw [← List.append_assoc, ← hl2]
          exact List.take_left
      rcases hown.2 with ⟨rfl, h0⟩ | ⟨g, cap, cur, rfl, hbg, hg, hnc, hcm, hcs, htake⟩
      · have hl0 : l = [] := List.eq_nil_of_length_eq_zero h0
        subst hl0
        have hr := run_append_nil (P := P) w t o.type e i z hu hi1 hi2 ⟨G, 0, none⟩ 1 1 (enc y) hlen hnews (by omega) (by omega) (by rw [hi4]; simp at hroom; omega)
        have hgr := grown 0 (by omega)
        simp only [List.length_nil, Nat.zero_add, List.flatMap_nil, List.nil_append, Array.empty_append] at hgr
        refine ⟨_, _, hr, ?_, rfl, hgr.2⟩
        simpa using hgr.1
      · have hgt : ¬ l.length + 1 ≤ cap := fun hc => hroom2 ⟨g, cap, rfl, hc⟩
        have holds : ∀ j u, (l.flatMap enc)[j]? = some u → w.cell? ((⟨g, 0, none⟩ : Addr).add j) = some u := World.ownsRow.cells hown (g := g) rfl
        have hr := run_append_grow (P := P) w t o.type e i z hu hi1 hi2 ⟨g, 0, none⟩ l.length cap (l.flatMap enc) hxs holds ⟨G, 0, none⟩ 1 1 (enc y) hlen hnews (by omega) (by omega) (by rw [hi4]; exact growslice_fits (by omega) hroom)
        have hgr := grown cap (by omega)
        exact ⟨_, _, hr, hgr.1, rfl, hgr.2⟩
    obtain ⟨v', w', hr, h1, h2, h3⟩ := hgrow
    refine wpList_plain hgd fun K hK => ?_
    unfold Oper.wp execOp
    simp only [ho, resolve, invoke, builtin, Sem.run_bind, Sem.run_pure, Result.andThen_ok, List.map_toArray, List.map_cons, List.map_nil, hs, hx, hr]
    exact hK _ _ (h v' w' h1 (h3 _) (.inr ⟨h2, h3 none⟩))
end
end Go.Proofs.YtfedkhicckgjaaaGreatDoor

namespace Go.Proofs.YtfedkhicckgjaaaGreatDoor
open Go.RowKit

theorem slstrs : SlTy Tryz.prog 26 9 1 16 := ⟨Tryz.underlying26, .string ⟨#[]⟩, by kernel_rfl, rfl, by decide⟩
end Go.Proofs.YtfedkhicckgjaaaGreatDoor

namespace Go.Proofs.YtfedkhicckgjaaaGreatDoor
open Go.RowKit

/-- a slice of the call's own, laid open -/
theorem Own.open {α : Type} {w : World} {B : Nat} {e : TypeId} {sz : Nat} {enc : α → List Value} {v : Value} {l : List α} (h : Own w B e sz enc v l) (he : Enc sz enc) :
    ∃ a cap, v = .slice a l.length cap ∧ At w sz enc a l ∧ l.length ≤ cap := by
  obtain ⟨a, cap, hv, hA⟩ := h.reads he
  refine ⟨a, cap, hv, hA, ?_⟩
  rcases h.2 with ⟨h1, h2⟩ | ⟨g, cap', cur, h1, _, _, h2, _⟩
  · rw [hv] at h1
    injection h1 with _ h3 _
    omega
  · rw [hv] at h1
    injection h1 with _ h3 h4
    omega

set_option maxHeartbeats 2000000 in
theorem sameTexts_any (a1 : Option Addr) (c1 : Nat) (a2 : Option Addr) (c2 : Nat) (l : List Bytes) (w : World) (hn : l.length ≤ 1048576) (hT : At w 1 encS a1 l) (hA : At w 1 encS a2 l) :
    Calls Tryz.prog 16 #[.slice a1 l.length c1, .slice a2 l.length c2] w fun e w' => e = .returned (.bool true) ∧ Below w.heap.size w w' := by
  have HA := Lib.hid hA
  have HT := Lib.hid hT
  clear hA hT
  go_enter Tryz.func16, Tryz.ntmps16
  go_wp2_with fail
  go_loopw [5] (fun v5 wr => ∃ k : Nat, k ≤ l.length ∧ v5 = .int .i64 k ∧ Below w.heap.size w wr) (fun v5 _ => l.length - (intOf v5).toNat)
  case atStart => exact ⟨0, by omega, rfl, Below.refl _ _⟩
  case round =>
    obtain ⟨k, hk, rfl, hb⟩ := hrel
    by_cases hlt : k < l.length
    · obtain ⟨b, off, ha, hbl, hc0⟩ := (HA.out.below hb).str hlt
      obtain ⟨b', off', ha', hbl', hd0⟩ := (HT.out.below hb).str hlt
      subst ha'
      subst ha
      go_wp2_with fail
      go_quiet (fail)
      go_wp2
      go_roundw
      case rel => exact ⟨k + 1, by omega, by go_num, below_drewN hb _⟩
      case measure => simp [intOf]; omega
    · go_wp2_with fail
      go_ret
      exact ⟨rfl, hb⟩
end Go.Proofs.YtfedkhicckgjaaaGreatDoor

namespace Go.Proofs.YtfedkhicckgjaaaGreatDoor
open Go.RowKit

/-- the library's own variable (the length up to which it searches in one way) holds some number -/
def MaxOk (w : World) : Prop := ∃ m : Int, w.cell? ⟨0, 0, none⟩ = some (.int .i64 m)
theorem MaxOk.lt {w : World} (h : MaxOk w) : 0 < w.heap.size := by
  obtain ⟨m, h⟩ := h
  exact World.block_lt_of_cell? w _ h
theorem MaxOk.below {B : Nat} {w w' : World} (h : MaxOk w) (hb : Below B w w') (hB : 0 < B) : MaxOk w' := by
  obtain ⟨m, h⟩ := h
  exact ⟨m, by rw [hb.cell (p := ⟨0, 0, none⟩) hB]; exact h⟩
theorem MaxOk.next {w w' : World} (h : MaxOk w) (hb : Below w.heap.size w w') : MaxOk w' := h.below hb h.lt
theorem MaxOk.heap {w w' : World} (h : MaxOk w) (e : w'.heap = w.heap) : MaxOk w' := by
  obtain ⟨m, h⟩ := h
  exact ⟨m, by unfold World.cell? at *; rw [e]; exact h⟩
end Go.Proofs.YtfedkhicckgjaaaGreatDoor

namespace Go.Proofs.YtfedkhicckgjaaaGreatDoor
open Go.RowKit

section
variable {α : Type} {P : Program} {w : World} {ops : Array Oper} {rest : List Oper} {o : Oper} {a : Act} {Q : Exit → Act → World → Prop}

theorem run_append_none (t ty e : TypeId) (i : TypeInfo) (ht : P.underlying t = some (.slice e)) (hi : P.info? e = some i) (B size : Nat) (v : Value) (n : Nat) (xs : List Value) (hown : w.ownsRow B e size v n xs) (c : Nat) :
    (Builtin.append_ #[t, t] ty #[v, .slice none 0 c]).run P w = .ok v w := by
  rcases hown.2 with ⟨rfl, rfl⟩ | ⟨g, cap, cur, rfl, hbg, hg, hnc, hcm, hcs, htake⟩
  · simp [Builtin.append_, run_underlying ht, sizeOf, typeInfo, hi, Builtin.lenOf, Builtin.firstCells]
  · simp [Builtin.append_, run_underlying ht, sizeOf, typeInfo, hi, Builtin.lenOf, Builtin.firstCells, loadCells, hnc, storeCells]

/-- append the elements of a slice to the call's own slice -/
theorem wpList_cat (hgd : o.guard = none) (s x : Operand) (t : TypeId) (ho : o.op = .call { callee := .builtin .append, args := #[s, x], argTypes := #[t, t] })
    (B : Nat) (e : TypeId) (sz bytes : Nat) (hT : SlTy P t e sz bytes) (enc : α → List Value) (he : Enc sz enc)
    (v : Value) (l : List α) (hs : a.eval s = v) (hown : Own w B e sz enc v l)
    (ra : Option Addr) (c2 n2 : Nat) (m : List α) (hn2 : n2 = m.length) (hx : a.eval x = .slice ra n2 c2) (hA : At w sz enc ra m)
    (hroom : (l.length + m.length) * bytes ≤ 140737488355328) (hmax : l.length + m.length ≤ maxLen) (W : World) (hB : Below B W w) (hBs : B ≤ w.heap.size)
    (h : ∀ v' w', Own w' B e sz enc v' (l ++ m) → Below B W w' → w.grownBy w' v.ownBlock → wpList P ops Q rest (a.put o.dst v') w') : wpList P ops Q (o :: rest) a w := by
  obtain ⟨hu, z, hi, hz, hsz⟩ := hT
  obtain ⟨i, hi1, hi2, hi3, hi4⟩ := info_parts hi
  subst hn2
  cases ra with
  | none =>
    have hm : m = [] := by
      rcases hA with h | ⟨b, off, ha, _⟩
      · exact h
      · cases ha
    subst hm
    refine Lib.wpList_append_run w hgd s x t t ho v _ hs hx v w (run_append_none t o.type e i hu hi1 B sz v l.length _ hown c2) ?_
    exact h v w (by simpa using hown) hB ⟨rfl, rfl, rfl, Nat.le_refl _, fun _ _ _ => rfl⟩
  | some ad =>
    have hnews : ∀ j u, (m.flatMap enc)[j]? = some u → w.cell? (ad.add j) = some u := by
      rcases hA with h | ⟨b, off, ha, hlt, hr⟩
      · subst h; intro j u hj; simp at hj
      · cases ha
        intro j u hj
        have hjl : j < m.length * sz := by rw [← flat_len he.len]; exact (List.getElem?_eq_some_iff.1 hj).1
        have hmod : j % sz < sz := Nat.mod_lt _ hsz
        have hdm : j / sz * sz + j % sz = j := by rw [Nat.mul_comm]; exact Nat.div_add_mod j sz
        have hd : j / sz < m.length := Nat.div_lt_of_lt_mul (by rw [Nat.mul_comm]; exact hjl)
        have h1 := flat_get he.len m (j / sz) (j % sz) hmod
        rw [hdm, hj, List.getElem?_eq_getElem hd] at h1
        have h2 := hr (j / sz) m[j / sz] (List.getElem?_eq_getElem hd) (j % sz) u h1.symm
        have e1 : (⟨b, off, none⟩ : Addr).add j = ⟨b, off + j, none⟩ := by unfold Addr.add; split <;> simp_all
        rw [e1]
        rwa [Nat.add_assoc, hdm] at h2
    refine wpList_append_own w hgd s x t ho B e i z sz bytes hu hi1 hi2 hi3 hi4 hz hsz v l.length (l.flatMap enc) hs hown ad m.length c2 (m.flatMap enc) hx (flat_len he.len m) hnews
      (fun u hu => by obtain ⟨y, _, hy⟩ := List.mem_flatMap.1 hu; exact he.one y u hy) hmax hroom hBs ?_
    intro v' w' h1 h2 _
    refine h v' w' ?_ (hB.grown h2 hBs (fun k hk => (hown.lt k hk).1)) h2
    unfold Own
    rw [List.length_append, List.flatMap_append]
    simpa using h1
end

theorem Own.zeros {α : Type} (w : World) (e : TypeId) (sz : Nat) (enc : α → List Value) (cs : Array Value) (cap : Nat) (hcm : cap ≤ maxLen) (hcs : cs.size = cap * sz) (B : Nat) (hB : B ≤ w.heap.size) :
    Own (w.alloc (.cells cs e)) B e sz enc (.slice (some ⟨w.heap.size, 0, none⟩) 0 cap) ([] : List α) :=
  ⟨by simp, .inr ⟨w.heap.size, cap, cs, rfl, hB, by rw [World.alloc]; simp, Nat.zero_le _, hcm, hcs, by simp⟩⟩
end Go.Proofs.YtfedkhicckgjaaaGreatDoor

namespace Go.Proofs.YtfedkhicckgjaaaGreatDoor
open Go.RowKit

/-- the entries of a map: keys that are all unlike, each with its value, in the order in which they came -/
abbrev KV := List (Bytes × Value)
def entryOf (x : Bytes × Value) (e : MapEntry) : Prop := e.key = .string ⟨x.1.toArray⟩ ∧ e.val = x.2
/-- block r is a map with these entries -/
def SMap (w : World) (r : Nat) (m : KV) : Prop :=
  ∃ es clock, w.heap[r]? = some (.map es clock) ∧ es.toList.map (fun e => (e.key, e.val)) = m.map (fun x => (Value.string ⟨x.1.toArray⟩, x.2)) ∧ MapKept.Stamped es clock
def mapGet (m : KV) (k : Bytes) : Option Value := (m.find? fun x => x.1 == k).map (·.2)
def mapPut (m : KV) (k : Bytes) (v : Value) : KV := match m with
  | [] => [(k, v)]
  | x :: m => if x.1 == k then (k, v) :: m else x :: mapPut m k v

theorem mapGet_put (m : KV) (k : Bytes) (v : Value) (k' : Bytes) : mapGet (mapPut m k v) k' = if k' = k then some v else mapGet m k' := by
  induction m with
  | nil =>
    by_cases h : k' = k
    · subst h; simp [mapGet, mapPut]
    · have : (k == k') = false := by simpa using fun e => h e.symm
      simp [mapGet, mapPut, this, h]
  | cons x m ih =>
    unfold mapPut
    by_cases hx : x.1 = k
    · have hb : (x.1 == k) = true := by simpa using hx
      rw [if_pos hb]
      by_cases h : k' = k
      · subst h; simp [mapGet]
      · have h1 : (k == k') = false := by simpa using fun e => h e.symm
        have h2 : (x.1 == k') = false := by rw [hx]; exact h1
        simp [mapGet, h1, h2, h]
    · have hb : (x.1 == k) = false := by simpa using hx
      rw [if_neg (by simp [hb])]
      by_cases h : x.1 = k'
      · have h1 : (x.1 == k') = true := by simpa using h
        have h2 : k' ≠ k := fun e => hx (h.trans e)
        simp [mapGet, h1, h2]
      · have h1 : (x.1 == k') = false := by simpa using h
        have : mapGet (x :: mapPut m k v) k' = mapGet (mapPut m k v) k' := by simp [mapGet, h1]
        rw [this, ih]
        have h3 : mapGet (x :: m) k' = mapGet m k' := by simp [mapGet, h1]
        rw [h3]

section
variable {P : Program} {w w' : World} {r : Nat} {m : KV}

theorem SMap.lt (h : SMap w r m) : r < w.heap.size := by
  obtain ⟨es, clock, h, _⟩ := h
  exact (Array.getElem?_eq_some_iff.1 h).1
theorem SMap.of_block (h : SMap w r m) (e : w'.heap[r]? = w.heap[r]?) : SMap w' r m := by
  obtain ⟨es, clock, h, hm⟩ := h
  exact ⟨es, clock, e.trans h, hm⟩
theorem SMap.below {B : Nat} (h : SMap w r m) (hb : Below B w w') (hr : r < B) : SMap w' r m := h.of_block (hb.block r hr)
theorem SMap.grown {row : Option Nat} (h : SMap w r m) (hg : w.grownBy w' row) (hr : row ≠ some r) : SMap w' r m := h.of_block (hg.block r h.lt (fun e => hr e.symm))
theorem SMap.alloc (h : SMap w r m) (o : Obj) : SMap (w.alloc o) r m := h.of_block (Below.heap_alloc w o r h.lt)
theorem SMap.setCell (h : SMap w r m) {a : Addr} (v : Value) : SMap (w.setCell a v) r m := by
  obtain ⟨es, clock, h, hm⟩ := h
  refine ⟨es, clock, ?_, hm⟩
  simp only [World.setCell, Array.getElem?_modify]
  split
  · rw [h]; rfl
  · exact h
theorem SMap.new (w : World) : SMap (w.alloc (.map #[] 0)) w.heap.size [] := ⟨#[], 0, heap_alloc_new w _, rfl, MapKept.stamped_empty 0⟩

theorem str_inj {a b : Bytes} : ((ByteArray.mk a.toArray) == (ByteArray.mk b.toArray)) = (a == b) := by
  show (a.toArray == b.toArray) = (a == b)
  simp

/-- where a key is found: its place and its value -/
def placeOf (k : Bytes) : KV → Nat → Option (Nat × Value)
  | [], _ => none
  | x :: m, i => if k == x.1 then some (i, x.2) else placeOf k m (i + 1)

theorem findNow_str (k : Bytes) : ∀ (es : List MapEntry) (m : KV) (i : Nat), es.map (fun e => (e.key, e.val)) = m.map (fun x => (Value.string ⟨x.1.toArray⟩, x.2)) →
    Instr.findNow .string (.string ⟨k.toArray⟩) es i = some (placeOf k m i)
  | [], [], _, _ => rfl
  | e :: es, x :: m, i, h => by
    simp only [List.map_cons, List.cons.injEq, Prod.mk.injEq] at h
    obtain ⟨⟨h1, h2⟩, h3⟩ := h
    unfold Instr.findNow placeOf
    rw [h1, h2]
    simp only [Instr.sameNow, str_inj]
    cases hk : (k == x.1)
    · simp only [Bool.false_eq_true, if_false]; exact findNow_str k es m (i + 1) h3
    · simp
  | [], _ :: _, _, h => by simp at h
  | _ :: _, [], _, h => by simp at h

theorem run_findKey_str {K : TypeId} (hK : P.underlying K = some .string) (k : Bytes) {es : List MapEntry} (h : es.map (fun e => (e.key, e.val)) = m.map (fun x => (Value.string ⟨x.1.toArray⟩, x.2))) :
    (Instr.findKey K (.string ⟨k.toArray⟩) es).run P w = .ok (placeOf k m 0) w := by
  simp [Instr.findKey, run_underlying hK, findNow_str k es m 0 h]

theorem run_checkKey_str {K : TypeId} (hK : P.underlying K = some .string) (b : Bool) (k : ByteArray) : (Instr.checkKey b 10000 K (.string k)).run P w = .ok () w := by
  have h : ∀ n, (Instr.checkKey b (n + 1) K (.string k)).run P w = .ok () w := fun n => by simp [Instr.checkKey, run_underlying hK]
  exact h 9999

theorem placeOf_get (k : Bytes) : ∀ (m : KV) (i : Nat), (placeOf k m i).map (·.2) = mapGet m k
  | [], _ => rfl
  | x :: m, i => by
    unfold placeOf mapGet
    by_cases h : k = x.1
    · have h1 : (k == x.1) = true := by simpa using h
      have h2 : (x.1 == k) = true := by simpa using h.symm
      simp [h1, h2]
    · have h1 : (k == x.1) = false := by simpa using h
      have h2 : (x.1 == k) = false := by simpa using fun e => h e.symm
      rw [if_neg (by simp [h1])]
      simp only [List.find?_cons, h2]
      exact placeOf_get k m (i + 1)

theorem run_lookup_str {T K E : TypeId} (hT : P.underlying T = some (.map K E)) (hK : P.underlying K = some .string) {z : Value} (hz : (zeroValue E).run P w = .ok z w) (h : SMap w r m) (k : Bytes) (ok : Bool) :
    (Instr.lookup T (.map (some r)) (.string ⟨k.toArray⟩) ok).run P w = .ok (if ok then .tuple #[(mapGet m k).getD z, .bool (mapGet m k).isSome] else (mapGet m k).getD z) w := by
  obtain ⟨es, clock, h, hm, _⟩ := h
  have hg := placeOf_get k m 0
  cases hp : placeOf k m 0 with
  | none =>
    rw [hp] at hg
    simp only [Option.map_none] at hg
    rw [← hg]
    simp [Instr.lookup, run_underlying hT, MapKept.run_getObj_map h, run_checkKey_str hK, run_findKey_str hK k hm, hp, hz, Result.andThen]
  | some p =>
    rw [hp] at hg
    simp only [Option.map_some] at hg
    rw [← hg]
    simp [Instr.lookup, run_underlying hT, MapKept.run_getObj_map h, run_checkKey_str hK, run_findKey_str hK k hm, hp, Result.andThen]

theorem placeOf_none_put (k : Bytes) (v : Value) : ∀ (m : KV) (i : Nat), placeOf k m i = none → mapPut m k v = m ++ [(k, v)]
  | [], _, _ => rfl
  | x :: m, i, h => by
    unfold placeOf at h
    by_cases hk : (k == x.1) = true
    · rw [if_pos hk] at h; cases h
    · rw [if_neg hk] at h
      unfold mapPut
      have : ¬ (x.1 == k) = true := by intro e; apply hk; have := eq_of_beq e; simp [this]
      rw [if_neg this, placeOf_none_put k v m (i + 1) h]; rfl
theorem placeOf_some_put (k : Bytes) (v : Value) : ∀ (m : KV) (i j : Nat) (u : Value), placeOf k m i = some (j, u) →
    ∃ _ : i ≤ j, ∃ h2 : j - i < m.length, (m[j - i]).1 = k ∧ mapPut m k v = m.set (j - i) (k, v)
  | [], _, _, _, h => by simp [placeOf] at h
  | x :: m, i, j, u, h => by
    unfold placeOf at h
    by_cases hk : (k == x.1) = true
    · rw [if_pos hk] at h
      simp only [Option.some.injEq, Prod.mk.injEq] at h
      obtain ⟨rfl, rfl⟩ := h
      have e := eq_of_beq hk
      refine ⟨Nat.le_refl _, by simp, by simp [e], ?_⟩
      unfold mapPut
      have : (x.1 == k) = true := by simp [e]
      rw [if_pos this]; simp
    · rw [if_neg hk] at h
      obtain ⟨h1, h2, h3, h4⟩ := placeOf_some_put k v m (i + 1) j u h
      have e : j - i = (j - (i + 1)) + 1 := by omega
      refine ⟨by omega, by simp; omega, ?_, ?_⟩
      · simp only [e, List.getElem_cons_succ]; exact h3
      · unfold mapPut
        have : ¬ (x.1 == k) = true := by intro e; apply hk; have := eq_of_beq e; simp [this]
        rw [if_neg this, h4, e]; rfl

theorem setIfInBounds_getElem? (a : Array Obj) (i k : Nat) (o : Obj) (h : i < a.size) : (a.setIfInBounds i o)[k]? = if i = k then some o else a[k]? := by
  rw [Array.getElem?_setIfInBounds]; split <;> simp_all

theorem placeOf_none_ne (k : Bytes) : ∀ (m : KV) (i : Nat), placeOf k m i = none → ∀ x ∈ m, x.1 ≠ k
  | [], _, _, _, hx => absurd hx (List.not_mem_nil)
  | y :: m, i, h, x, hx => by
    unfold placeOf at h
    split at h
    · cases h
    · rename_i hk
      rcases List.mem_cons.1 hx with e | e
      · rw [e]; intro e2; exact hk (by simp [e2])
      · exact placeOf_none_ne k m (i + 1) h x e

theorem run_mapUpdate_str {T K E : TypeId} (hT : P.underlying T = some (.map K E)) (hK : P.underlying K = some .string) (h : SMap w r m) (k : Bytes) (v : Value) :
    ∃ w', (Instr.mapUpdate T (.map (some r)) (.string ⟨k.toArray⟩) v).run P w = .ok () w' ∧ SMap w' r (mapPut m k v) ∧ w.grownBy w' (some r) ∧ w'.heap.size = w.heap.size := by
  have hlt := h.lt
  obtain ⟨es, clock, h, hm, hst⟩ := h
  have hset : ∀ o, (setObj r o).run P w = .ok () { w with heap := w.heap.setIfInBounds r o } := by
    intro o; simp [setObj, Sem.run, h]
  have hgrown : ∀ o, w.grownBy ({ w with heap := w.heap.setIfInBounds r o } : World) (some r) := fun o =>
    ⟨rfl, rfl, rfl, by simp, fun j hj hne => by
      show (w.heap.setIfInBounds r o)[j]? = _
      rw [setIfInBounds_getElem? _ _ _ _ hlt, if_neg (fun e => hne (by rw [e]))]⟩
  cases hp : placeOf k m 0 with
  | none =>
    refine ⟨{ w with heap := w.heap.setIfInBounds r (.map (es.push { key := .string ⟨k.toArray⟩, val := v, born := clock }) (clock + 1)) }, ?_, ?_, hgrown _, by simp⟩
    · simp [Instr.mapUpdate, run_underlying hT, MapKept.run_getObj_map h, run_checkKey_str hK, run_findKey_str hK k hm, hp, Result.andThen, hset]
    · refine ⟨_, _, by rw [setIfInBounds_getElem? _ _ _ _ hlt, if_pos rfl], ?_, MapKept.stamped_push hst fun x hx e => ?_⟩
      · rw [placeOf_none_put k v m 0 hp]
        simp [hm]
      · have h1 : (x.key, x.val) ∈ es.toList.map (fun e => (e.key, e.val)) := List.mem_map_of_mem hx
        rw [hm] at h1
        obtain ⟨y, hy, h2⟩ := List.mem_map.1 h1
        have h3 : (Value.string ⟨y.1.toArray⟩) = Value.string ⟨k.toArray⟩ := by
          have := congrArg Prod.fst h2
          rw [← e]; exact this
        have h4 : y.1 = k := by simpa using h3
        exact placeOf_none_ne k m 0 hp y hy h4
  | some p =>
    obtain ⟨j, u⟩ := p
    obtain ⟨_, h2, h3, h4⟩ := placeOf_some_put k v m 0 j u hp
    simp only [Nat.sub_zero] at h2 h3 h4
    have hl : es.toList.length = m.length := by have := congrArg List.length hm; simpa using this
    have hj : j < es.size := by simpa using (show j < es.toList.length by omega)
    have hkey : es[j].key = .string ⟨k.toArray⟩ := by
      have e := congrArg (fun l => l[j]?) hm
      simp only [List.getElem?_map] at e
      rw [List.getElem?_eq_getElem (by omega), List.getElem?_eq_getElem h2] at e
      simp only [Option.map_some, Option.some.injEq, Prod.mk.injEq] at e
      rw [h3] at e
      simpa using e.1
    have hstay : (Instr.keyThatStays (((es[j]?).map (·.key)).getD (.string ⟨k.toArray⟩)) (.string ⟨k.toArray⟩)).run P w = .ok (.string ⟨k.toArray⟩) w := by
      rw [Array.getElem?_eq_getElem hj]
      have h1 : ∀ n, Instr.sameBits n (.string ⟨k.toArray⟩) (.string ⟨k.toArray⟩) = true := fun n => by cases n <;> simp [Instr.sameBits, str_inj]
      simp [hkey, Instr.keyThatStays, h1]
    refine ⟨{ w with heap := w.heap.setIfInBounds r (.map (es.modify j fun e => { e with key := .string ⟨k.toArray⟩, val := v }) clock) }, ?_, ?_, hgrown _, by simp⟩
    · simp only [Instr.mapUpdate, Sem.run_bind, run_underlying hT, Result.andThen_ok, MapKept.run_getObj_map h, run_checkKey_str hK, run_findKey_str hK k hm, hp, hstay, hset]
    · refine ⟨_, _, by rw [setIfInBounds_getElem? _ _ _ _ hlt, if_pos rfl], ?_, MapKept.stamped_modify hst j (fun e => { e with key := .string ⟨k.toArray⟩, val := v }) (fun _ _ => rfl) (fun e _ he => by
        rw [Array.getElem?_eq_getElem hj] at he
        cases he
        exact hkey.symm)⟩
      rw [h4, List.map_set, ← hm]
      apply List.ext_getElem?
      intro i
      simp only [List.getElem?_map, Array.toList_modify, List.getElem?_modify, List.getElem?_set, List.length_map]
      by_cases hij : j = i
      · subst hij
        simp [hj]
      · simp [hij]
end

/-- a cell that was there is there behind a new block, whatever it is -/
theorem cell_old {w : World} {a : Addr} {v : Value} (o : Obj) (h : w.cell? a = some v) : (w.alloc o).cell? a = some v := by
  rw [((Below.refl w.heap.size w).alloc (Nat.le_refl _) o).cell (World.block_lt_of_cell? w a h)]; exact h
theorem cell_new1 (w : World) (v : Value) (t : TypeId) : (w.alloc (.cells #[v] t)).cell? ⟨w.heap.size, 0, none⟩ = some v := by simp
theorem cell_new1' (w : World) (o : Obj) (v : Value) (t : TypeId) : ((w.alloc o).alloc (.cells #[v] t)).cell? ⟨w.heap.size + 1, 0, none⟩ = some v := by
  have := cell_new1 (w.alloc o) v t
  rwa [World.size_alloc] at this
theorem ne_row {i j : Nat} (h : i ≠ j) : (some i : Option Nat) ≠ some j := fun e => h (Option.some.inj e)

section
variable {P : Program} {w : World} {ops : Array Oper} {rest : List Oper} {o : Oper} {a : Act} {Q : Exit → Act → World → Prop}

theorem wpList_smap_lookup (hgd : o.guard = none) (mo ko : Operand) (T K E : TypeId) (ok : Bool) (ho : o.op = .lookup T mo ko ok) (hT : P.underlying T = some (.map K E)) (hK : P.underlying K = some .string)
    (z : Value) (hz : (zeroValue E).run P w = .ok z w) (r : Nat) (m : KV) (h : SMap w r m) (k : Bytes) (hm : a.eval mo = .map (some r)) (hk : a.eval ko = .string ⟨k.toArray⟩)
    (hn : wpList P ops Q rest (a.put o.dst (if ok then .tuple #[(mapGet m k).getD z, .bool (mapGet m k).isSome] else (mapGet m k).getD z)) w) : wpList P ops Q (o :: rest) a w := by
  refine wpList_plain hgd fun K' hK' => ?_
  have hrun := run_lookup_str hT hK hz h k ok
  unfold Oper.wp
  simp only [execOp, ho, hm, hk, Sem.run_bind, hrun, Result.andThen_ok, Sem.run_pure]
  exact hK' _ _ hn

theorem wpList_smap_put (hgd : o.guard = none) (mo ko vo : Operand) (T K E : TypeId) (ho : o.op = .mapUpdate T mo ko vo ∨ o.op = .insert T mo ko vo) (hT : P.underlying T = some (.map K E)) (hK : P.underlying K = some .string)
    (r : Nat) (m : KV) (h : SMap w r m) (k : Bytes) (v : Value) (hm : a.eval mo = .map (some r)) (hk : a.eval ko = .string ⟨k.toArray⟩) (hv : a.eval vo = v)
    (hn : ∀ w', SMap w' r (mapPut m k v) → w.grownBy w' (some r) → w'.heap.size = w.heap.size → wpList P ops Q rest (a.put o.dst undef) w') : wpList P ops Q (o :: rest) a w := by
  refine wpList_plain hgd fun K' hK' => ?_
  obtain ⟨w', hrun, h1, h2, h3⟩ := run_mapUpdate_str hT hK h k v
  unfold Oper.wp
  rcases ho with ho | ho <;>
  · simp only [execOp, ho, hm, hk, hv, Sem.run_bind, hrun, Result.andThen_ok, Sem.run_pure]
    exact hK' _ _ (hn w' h1 h2 h3)
end
end Go.Proofs.YtfedkhicckgjaaaGreatDoor

namespace Go.Proofs.YtfedkhicckgjaaaGreatDoor
open Go.RowKit
set_option linter.unusedVariables false

def splitNL : Bytes → List Bytes
  | [] => [[]]
  | c :: r => if c = 10 then [] :: splitNL r else match splitNL r with
    | [] => [[c]]
    | p :: ps => (c :: p) :: ps
theorem splitNL_ten (r : Bytes) : splitNL (10 :: r) = [] :: splitNL r := by
  show (if (10 : UInt8) = 10 then _ else _) = _
  rw [if_pos rfl]
theorem splitNL_other {c : UInt8} {r p : Bytes} {ps : List Bytes} (h : c ≠ 10) (e : splitNL r = p :: ps) : splitNL (c :: r) = (c :: p) :: ps := by
  show (if c = 10 then _ else _) = _
  rw [if_neg h, e]
theorem splitK_eq : ∀ s : Bytes, Lib.splitK [10] 0 (Lib.count s [10]) s = splitNL s
  | [] => by rw [Lib.count_miss (by simp [Lib.index])]; rfl
  | b :: l => by
    have ih := splitK_eq l
    by_cases hb : b = 10
    · subst hb
      have hix : Lib.index (10 :: l) [10] = ((0 : Nat) : Int) := by rw [Lib.index]; simp [List.isPrefixOf]
      rw [Lib.count_cons_eq, splitNL_ten, ← ih, Nat.add_comm]
      show (if (Lib.index (10 :: l) [10] == -1) = true then _ else _) = _
      rw [hix, if_neg (by decide)]
      rfl
    · rw [Lib.count_cons_ne b 10 l hb]
      have hp : ([10] : Bytes).isPrefixOf (b :: l) = false := by simp [List.isPrefixOf, Ne.symm hb]
      have hix : Lib.index (b :: l) [10] = if Lib.index l [10] == -1 then -1 else Lib.index l [10] + 1 := by rw [Lib.index, hp]; simp
      by_cases hm : Lib.index l [10] = -1
      · rw [Lib.count_miss hm] at ih ⊢
        rw [splitNL_other hb (p := l) (ps := []) ih.symm]; rfl
      · have hge := Lib.index_ge l [10]
        obtain ⟨j, hj⟩ : ∃ j : Nat, Lib.index l [10] = j := ⟨(Lib.index l [10]).toNat, by omega⟩
        have hix' : Lib.index (b :: l) [10] = ((j + 1 : Nat) : Int) := by rw [hix, if_neg (fun e => hm (beq_iff_eq.1 e)), hj]; omega
        have hc := Lib.count_hit (s := l) (sub := [10]) (by simp) hj
        rw [Nat.add_comm] at hc
        rw [hc] at ih ⊢
        have e1 : ∀ n, Lib.splitK [10] 0 (n + 1) l = l.take j :: Lib.splitK [10] 0 n (l.drop (j + 1)) := fun n => by
          show (if (Lib.index l [10] == -1) = true then _ else _) = _
          rw [hj, if_neg (by intro e; have := beq_iff_eq.1 e; omega)]; rfl
        have e2 : ∀ n, Lib.splitK [10] 0 (n + 1) (b :: l) = (b :: l.take j) :: Lib.splitK [10] 0 n (l.drop (j + 1)) := fun n => by
          show (if (Lib.index (b :: l) [10] == -1) = true then _ else _) = _
          rw [hix', if_neg (by intro e; have := beq_iff_eq.1 e; omega)]; rfl
        rw [e1] at ih
        rw [e2, splitNL_other hb ih.symm]
theorem splitNL_ne : ∀ s : Bytes, splitNL s ≠ []
  | [] => by simp [splitNL]
  | c :: r => by
    by_cases h : c = 10
    · subst h; rw [splitNL_ten]; simp
    · obtain ⟨p, ps, e⟩ : ∃ p ps, splitNL r = p :: ps := by
        cases hq : splitNL r with
        | nil => exact absurd hq (splitNL_ne r)
        | cons p ps => exact ⟨p, ps, rfl⟩
      rw [splitNL_other h e]; simp
theorem splitNL_cons (r : Bytes) : ∃ p ps, splitNL r = p :: ps := by
  cases hq : splitNL r with
  | nil => exact absurd hq (splitNL_ne r)
  | cons p ps => exact ⟨p, ps, rfl⟩
theorem splitNL_snoc10 : ∀ t : Bytes, splitNL (t ++ [10]) = splitNL t ++ [[]]
  | [] => by rw [List.nil_append, splitNL_ten]; rfl
  | c :: r => by
    have ih := splitNL_snoc10 r
    by_cases h : c = 10
    · subst h; rw [List.cons_append, splitNL_ten, splitNL_ten, ih]; rfl
    · obtain ⟨p, ps, e⟩ := splitNL_cons r
      rw [List.cons_append, splitNL_other h e, splitNL_other h (p := p) (ps := ps ++ [[]]) (by rw [ih, e]; rfl)]; rfl
theorem splitNL_snoc {c : UInt8} (hc : c ≠ 10) : ∀ (t : Bytes) (xs : List Bytes) (y : Bytes), splitNL t = xs ++ [y] → splitNL (t ++ [c]) = xs ++ [y ++ [c]]
  | [], xs, y, h => by
    have : xs = [] ∧ y = [] := by
      cases xs with
      | nil => simp [splitNL] at h; exact ⟨rfl, h⟩
      | cons x xs => have := congrArg List.length h; simp [splitNL] at this
    obtain ⟨rfl, rfl⟩ := this
    rw [List.nil_append, splitNL_other hc (p := []) (ps := []) rfl]; rfl
  | d :: r, xs, y, h => by
    by_cases hd : d = 10
    · subst hd
      rw [splitNL_ten] at h
      cases xs with
      | nil => have h2 := congrArg List.length h; simp at h2; exact absurd h2 (splitNL_ne r)
      | cons x xs =>
        injection h with h1 h2
        subst h1
        rw [List.cons_append, splitNL_ten, splitNL_snoc hc r xs y h2]; rfl
    · obtain ⟨p, ps, e⟩ := splitNL_cons r
      rw [splitNL_other hd e] at h
      cases xs with
      | nil =>
        injection h with h1 h2
        subst h1 h2
        rw [List.cons_append, splitNL_other hd (splitNL_snoc hc r [] p (by rw [e]; rfl))]; rfl
      | cons x xs =>
        injection h with h1 h2
        subst h1
        rw [List.cons_append, splitNL_other hd (splitNL_snoc hc r (p :: xs) y (by rw [e, h2]; rfl))]; rfl

def trimNL (s : Bytes) : Bytes := if s.getLast? = some 10 then s.dropLast else s
def linesP (s : Bytes) : List Bytes := if s = [] then [] else splitNL (trimNL s)
theorem trimNL_eq (s : Bytes) : Lib.trimSuffix s [10] = trimNL s := by
  unfold Lib.trimSuffix Lib.hasSuffix trimNL
  by_cases h : s = []
  · subst h; rfl
  · rw [← List.dropLast_concat_getLast h]
    generalize s.dropLast = t
    generalize s.getLast h = c
    by_cases hc : c = 10
    · subst hc
      have : ([10] : Bytes).isSuffixOf (t ++ [10]) = true := by rw [List.isSuffixOf_iff_suffix]; exact ⟨t, rfl⟩
      rw [this]; simp
    · have : ([10] : Bytes).isSuffixOf (t ++ [c]) = false := by
        rw [Bool.eq_false_iff]
        intro e
        rw [List.isSuffixOf_iff_suffix] at e
        obtain ⟨u, hu⟩ := e
        have := List.append_inj_right' hu rfl
        injection this with h1
        exact hc h1.symm
      rw [this]; simp [hc]
/-- the reference's: what has been cut, and where the rest begins -/
def CutI (s : Bytes) (k fr : Nat) (out : List Bytes) : Prop := fr ≤ k ∧ splitNL (s.take k) = out ++ [(s.take k).drop fr]
theorem CutI.start (s : Bytes) : CutI s 0 0 [] := ⟨by omega, by simp [splitNL]⟩
theorem CutI.len {s : Bytes} {k fr : Nat} {out : List Bytes} (h : CutI s k fr out) : out.length ≤ k := by
  have key : ∀ t : Bytes, (splitNL t).length ≤ t.length + 1 := by
    intro t
    induction t with
    | nil => simp [splitNL]
    | cons c r ih =>
      by_cases hc : c = 10
      · subst hc; rw [splitNL_ten]; simp; omega
      · obtain ⟨p, ps, e⟩ := splitNL_cons r
        rw [splitNL_other hc e]
        rw [e] at ih
        simp at ih ⊢; omega
  have h1 := key (s.take k)
  rw [h.2, List.length_append, List.length_singleton, List.length_take] at h1
  omega
theorem CutI.ten {s : Bytes} {k fr : Nat} {out : List Bytes} (h : CutI s k fr out) (hk : k < s.length) (hc : s[k] = 10) : CutI s (k + 1) (k + 1) (out ++ [(s.take k).drop fr]) := by
  refine ⟨by omega, ?_⟩
  rw [List.take_succ_eq_append_getElem hk, hc, splitNL_snoc10, h.2]
  congr 2
  rw [List.drop_eq_nil_of_le (by rw [List.length_append, List.length_take]; simp; omega)]
theorem CutI.other {s : Bytes} {k fr : Nat} {out : List Bytes} (h : CutI s k fr out) (hk : k < s.length) (hc : s[k] ≠ 10) : CutI s (k + 1) fr out := by
  obtain ⟨h1, h2⟩ := h
  refine ⟨by omega, ?_⟩
  rw [List.take_succ_eq_append_getElem hk, splitNL_snoc hc _ _ _ h2]
  rw [List.drop_append_of_le_length (by rw [List.length_take]; omega)]
theorem CutI.stop {s : Bytes} {fr : Nat} {out : List Bytes} (h : CutI s s.length fr out) : (if fr < s.length then out ++ [s.drop fr] else out) = linesP s := by
  obtain ⟨h1, h2⟩ := h
  rw [List.take_length] at h2
  unfold linesP
  by_cases h0 : s = []
  · subst h0
    rw [if_pos rfl, if_neg (by simp)]
    cases out with
    | nil => rfl
    | cons x xs => have := congrArg List.length h2; simp [splitNL] at this
  · rw [if_neg h0]
    have hs := (List.dropLast_concat_getLast h0).symm
    generalize hte : s.dropLast = t at hs
    generalize s.getLast h0 = c at hs
    by_cases hc : c = 10
    · subst hc
      have e1 : trimNL s = t := by unfold trimNL; rw [hs]; simp
      rw [e1]
      rw [hs, splitNL_snoc10] at h2
      have h3 := List.append_inj' h2 rfl
      have h4 : (t ++ [10]).drop fr = [] := by
        have := h3.2; injection this with this; exact this.symm
      rw [← hs, List.drop_eq_nil_iff] at h4
      rw [if_neg (by omega), h3.1]
    · have e1 : trimNL s = s := by unfold trimNL; rw [hs]; simp [hc]
      rw [e1, h2]
      rw [if_pos]
      by_cases hlt : fr < s.length
      · exact hlt
      · exfalso
        have hfr : fr = s.length := by omega
        rw [hfr, List.drop_length] at h2
        obtain ⟨xs, y, hxy⟩ : ∃ xs y, splitNL t = xs ++ [y] := ⟨(splitNL t).dropLast, (splitNL t).getLast (splitNL_ne t), (List.dropLast_concat_getLast (splitNL_ne t)).symm⟩
        rw [hs, splitNL_snoc hc t xs y hxy] at h2
        have h3 := (List.append_inj' h2 rfl).2
        injection h3 with h3
        simp at h3
theorem linesP_len (s : Bytes) : (linesP s).length ≤ s.length + 1 := by
  unfold linesP
  split
  · simp
  · have h : CutI (trimNL s) (trimNL s).length 0 ((splitNL (trimNL s)).dropLast) → True := fun _ => trivial
    have key : ∀ t : Bytes, (splitNL t).length ≤ t.length + 1 := by
      intro t
      induction t with
      | nil => simp [splitNL]
      | cons c r ih =>
        by_cases hc : c = 10
        · subst hc; rw [splitNL_ten]; simp; omega
        · obtain ⟨p, ps, e⟩ := splitNL_cons r
          rw [splitNL_other hc e]
          rw [e] at ih
          simp at ih ⊢; omega
    have h1 := key (trimNL s)
    have h2 : (trimNL s).length ≤ s.length := by unfold trimNL; split <;> simp
    omega
end Go.Proofs.YtfedkhicckgjaaaGreatDoor

namespace Go.Proofs.YtfedkhicckgjaaaGreatDoor
theorem splitNL_len : ∀ t : Bytes, (splitNL t).length ≤ t.length + 1 := by
  intro t
  induction t with
  | nil => simp [splitNL]
  | cons c r ih =>
    by_cases hc : c = 10
    · subst hc; rw [splitNL_ten]; simp; omega
    · obtain ⟨p, ps, e⟩ := splitNL_cons r
      rw [splitNL_other hc e]
      rw [e] at ih
      simp at ih ⊢; omega
theorem splitNL_pos {s : Bytes} (h : s.getLast? ≠ some 10) (h0 : s ≠ []) : (splitNL s).length ≤ s.length := by
  have hs := (List.dropLast_concat_getLast h0).symm
  generalize hte : s.dropLast = t at hs
  generalize hce : s.getLast h0 = c at hs
  have hc : c ≠ 10 := by
    intro e; apply h; rw [List.getLast?_eq_some_getLast h0, hce, e]
  obtain ⟨xs, y, hxy⟩ : ∃ xs y, splitNL t = xs ++ [y] := ⟨(splitNL t).dropLast, (splitNL t).getLast (splitNL_ne t), (List.dropLast_concat_getLast (splitNL_ne t)).symm⟩
  have h1 := splitNL_len t
  have h2 := splitNL_snoc hc t xs y hxy
  rw [hs, h2]
  rw [hxy] at h1
  simp at h1 ⊢
  omega
theorem linesP_le (s : Bytes) : (linesP s).length ≤ s.length := by
  unfold linesP
  split
  · simp
  · rename_i h0
    by_cases h : s.getLast? = some 10
    · have e : trimNL s = s.dropLast := by unfold trimNL; exact if_pos h
      rw [e]
      have := splitNL_len s.dropLast
      have h2 : 0 < s.length := List.length_pos_iff.2 h0
      simp at this
      omega
    · have e : trimNL s = s := by unfold trimNL; exact if_neg h
      rw [e]
      exact splitNL_pos h h0
end Go.Proofs.YtfedkhicckgjaaaGreatDoor

namespace Go.Proofs.YtfedkhicckgjaaaGreatDoor
open Go.RowKit Go.ChangeShapes Go.WideShapes Go.Deep

def Sized {H : Type} (P : Program) (t : TypeId) (d : DataW H) : Prop := ∀ n ∈ d.weights P t, n ≤ reachBytes

section
variable {H : Type} {enc : TypeId × Value → H} {P : Program} {W : World}

theorem sized_arg {ts : List TypeId} {ds : List (DataW H)} (h : (DataW.weightsEach P ts ds).all (· ≤ reachBytes) = true) {j : Nat} {t : TypeId} {d : DataW H} (ht : ts[j]? = some t) (hd : ds[j]? = some d) : Sized P t d := by
  intro n hn
  have := List.all_eq_true.1 h _ (DataW.weights_mem_each ht hd n hn)
  simpa using this
theorem weightsAll_mem {e : TypeId} : ∀ {l : List (DataW H)} {d : DataW H}, d ∈ l → ∀ n ∈ d.weights P e, n ∈ DataW.weightsAll P e l
  | x :: l, d, hd, n, hn => by
    simp only [DataW.weightsAll, List.mem_append]
    rcases List.mem_cons.1 hd with rfl | h
    · exact .inl hn
    · exact .inr (weightsAll_mem h n hn)
theorem Sized.elem {t e : TypeId} {elems spare : List (DataW H)} (hu : P.underlying t = some (.slice e)) (h : Sized P t (.slice elems spare)) {d : DataW H} (hd : d ∈ elems) : Sized P e d := by
  intro n hn
  exact h n (by simp only [DataW.weights, hu, List.mem_cons, List.mem_append]; exact .inr (.inl (weightsAll_mem hd n hn)))
theorem Sized.len {t e : TypeId} {elems spare : List (DataW H)} (hu : P.underlying t = some (.slice e)) (h : Sized P t (.slice elems spare)) : elems.length * P.bytesOf e ≤ reachBytes := by
  have := h _ (by simp only [DataW.weights, hu, List.mem_cons]; exact .inl rfl)
  rw [Nat.add_mul] at this
  omega
theorem Sized.str {t : TypeId} {s : List UInt8} (h : Sized P t (.lit (.string s) : DataW H)) : s.length ≤ reachBytes := h _ (by simp [DataW.weights])
theorem Sized.two {t : TypeId} {f0 f1 : Field} {d0 d1 : DataW H} (hu : P.underlying t = some (.struct #[f0, f1])) (h : Sized P t (.agg [d0, d1])) : Sized P f0.type d0 ∧ Sized P f1.type d1 := by
  constructor
  · intro n hn; exact h n (by simp [DataW.weights, hu, DataW.weightsEach]; exact .inl hn)
  · intro n hn; exact h n (by simp [DataW.weights, hu, DataW.weightsEach]; exact .inr hn)

/-- a slice whose elements are told by 'enc': what is asked of the element's type stands in 'hel' -/
theorem open_sl {α : Type} [Inhabited α] {t e : TypeId} {sz : Nat} {encE : α → List Value} {good : α → Prop} (hu : P.underlying t = some (.slice e)) (hc : P.cellsOf e = sz) (hsz : 0 < sz) {v : Value} {d : DataW H} {ps : List MemPlace}
    (hel : ∀ (n : Nat) (cs : List Value) (x : DataW H × List MemPlace), DataW.trod enc P W 0 (fun _ => true) true n e cs = some x → Sized P e x.1 → ∃ y : α, encE y = cs ∧ good y)
    (hv : ∃ a len cap, v = .slice a len cap) (h : DataW.Trod enc P W 0 (fun _ => true) true t v d ps) (hs : Sized P t d) :
    ∃ (a : Option Addr) (c : Nat) (l : List α), v = .slice a l.length c ∧ At W sz encE a l ∧ (∀ x ∈ l, good x) ∧ l.length * P.bytesOf e ≤ reachBytes ∧ l.length ≤ c := by
  obtain ⟨a0, len0, cap0, rfl⟩ := hv
  obtain ⟨fuel, hf⟩ := h
  rcases open_slice hu hf with ⟨hcs, _⟩ | ⟨a, len, cap, m, n, D, Pl, hcs, _, hl, hm, hmm, hx, hcell⟩
  · simp [Value.cells] at hcs
    obtain ⟨rfl, rfl, rfl⟩ := hcs
    exact ⟨none, 0, [], rfl, .inl rfl, by simp, by simp, by simp⟩
  · simp [Value.cells] at hcs
    obtain ⟨rfl, rfl, rfl⟩ := hcs
    simp only [if_true] at hmm
    subst hmm
    have hd : d = .slice ((List.range len0).map D) ((List.range (m - len0)).map fun j => D (len0 + j)) := congrArg Prod.fst hx
    subst hd
    have hlen := Sized.len hu hs
    rw [List.length_map, List.length_range] at hlen
    have hex : ∀ i, i < len0 → ∃ y : α, (∀ j v, (encE y)[j]? = some v → W.cell? ((a.add (i * sz)).add j) = some v) ∧ (encE y).length = sz ∧ good y := by
      intro i hi
      obtain ⟨cs', h1, h2⟩ := hcell i (by omega)
      obtain ⟨y, hy, hg⟩ := hel n cs' _ h2 (Sized.elem hu hs (List.mem_map.2 ⟨i, List.mem_range.2 hi, rfl⟩))
      rw [hc] at h1
      obtain ⟨_, hlen', hc'⟩ := World.cells?_some h1
      refine ⟨y, fun j v hj => ?_, by rw [hy]; exact hlen', hg⟩
      rw [hy] at hj
      have hjs : j < sz := by rw [← hlen']; exact (List.getElem?_eq_some_iff.1 hj).1
      rw [hc' j hjs, hj]
    obtain ⟨f, hf⟩ := choose_lt hex
    refine ⟨some a, m, (List.range len0).map f, by simp, ?_, ?_, by simpa using hlen, by simpa using hl⟩
    · by_cases h0 : len0 = 0
      · subst h0; exact .inl rfl
      · obtain ⟨b, off, spot⟩ := a
        have hspot : spot = none := by
          obtain ⟨h1, h2, _⟩ := hf 0 (by omega)
          obtain ⟨v0, hv0⟩ : ∃ v0, (encE (f 0))[0]? = some v0 := ⟨_, List.getElem?_eq_getElem (by omega)⟩
          have := h1 0 v0 hv0
          simpa [Addr.add] using World.cell?_spot this
        subst hspot
        have hadd : ∀ i j, ((⟨b, off, none⟩ : Addr).add (i * sz)).add j = ⟨b, off + i * sz + j, none⟩ := by
          intro i j; unfold Addr.add; split <;> split <;> simp_all
        refine .inr ⟨b, off, rfl, ?_, ?_⟩
        · obtain ⟨h1, h2, _⟩ := hf 0 (by omega)
          obtain ⟨v0, hv0⟩ : ∃ v0, (encE (f 0))[0]? = some v0 := ⟨_, List.getElem?_eq_getElem (by omega)⟩
          have := World.block_lt_of_cell? W _ (h1 0 v0 hv0)
          rw [hadd] at this
          exact this
        · intro i x hi j v hj
          have hil : i < len0 := by simpa using (List.getElem?_eq_some_iff.1 hi).1
          have hx2 : x = f i := by
            rw [List.getElem?_map, List.getElem?_range hil] at hi
            simpa using hi.symm
          subst hx2
          rw [← hadd]
          exact (hf i hil).1 j v hj
    · intro x hx
      obtain ⟨i, hi, rfl⟩ := List.mem_map.1 hx
      exact (hf i (List.mem_range.1 hi)).2.2

theorem el_str {t : TypeId} (hu : P.underlying t = some .string) (n : Nat) (cs : List Value) (x : DataW H × List MemPlace) (h : DataW.trod enc P W 0 (fun _ => true) true n t cs = some x) (hs : Sized P t x.1) :
    ∃ y : Bytes, encS y = cs ∧ y.length ≤ reachBytes := by
  obtain ⟨s, rfl, rfl, _⟩ := DataW.trod_string hu h
  refine ⟨s.data.toList, by simp [encS], ?_⟩
  simpa using hs.str

theorem el_two {t s : TypeId} {f0 f1 : Field} (hu : P.underlying t = some (.struct #[f0, f1])) (hc : P.cellsOf t = 2) (h0 : f0.type = s ∧ f0.offset = 0) (h1 : f1.type = s ∧ f1.offset = 1) (hcs : P.cellsOf s = 1) (hus : P.underlying s = some .string)
    (n : Nat) (cs : List Value) (x : DataW H × List MemPlace) (h : DataW.trod enc P W 0 (fun _ => true) true n t cs = some x) (hs : Sized P t x.1) :
    ∃ y : Two, encT y = cs ∧ (y.name.length ≤ reachBytes ∧ y.value.length ≤ reachBytes) := by
  obtain ⟨y0, y1, m, rfl, hl, hy0, hy1⟩ := trod_struct2 hu h
  obtain ⟨hs0, hs1⟩ := Sized.two hu hs
  rw [h0.1, h0.2, hcs] at hy0
  rw [h1.1, h1.2, hcs] at hy1
  rw [h0.1] at hs0
  rw [h1.1] at hs1
  rw [hc] at hl
  obtain ⟨a, e0, rfl, _⟩ := DataW.trod_string hus hy0
  obtain ⟨b, e1, rfl, _⟩ := DataW.trod_string hus hy1
  match cs, hl with
  | [c0, c1], _ =>
    simp at e0 e1
    subst e0 e1
    refine ⟨⟨a.data.toList, b.data.toList⟩, by simp [encT], ?_, ?_⟩
    · simpa using hs0.str
    · simpa using hs1.str

/-- an array of two strings, by value -/
theorem open_arr2 {b0 : Nat} {t e : TypeId} {v : Value} {d : DataW H} {p : List MemPlace} (hu : P.underlying t = some (.array 2 e)) (hC : P.cellsOf t = 2) (hce : P.cellsOf e = 1) (hue : P.underlying e = some .string)
    (hv : Value.okWide P W .any b0 t v) (h : DataW.Trod enc P W 0 (fun _ => true) true t v d p) (hs : Sized P t d) :
    ∃ s0 s1 : Bytes, v = .agg #[.string ⟨s0.toArray⟩, .string ⟨s1.toArray⟩] ∧ s0.length ≤ reachBytes ∧ s1.length ≤ reachBytes := by
  simp only [Value.okWide, hu] at hv
  obtain ⟨cs, rfl, hsz, _⟩ := hv
  rw [hC] at hsz
  obtain ⟨c0, c1, rfl⟩ : ∃ c0 c1, cs = #[c0, c1] := by
    match cs, hsz with
    | ⟨[c0, c1]⟩, _ => exact ⟨c0, c1, rfl⟩
  obtain ⟨fuel, hf⟩ := h
  obtain ⟨xs, m, _, hx, hl, hn, hel⟩ := DataW.trod_array hu hf
  have e0 := hel 0 (by omega)
  have e1 := hel 1 (by omega)
  rw [hce] at e0 e1
  match xs, hn with
  | [y0, y1], _ =>
    have hd : d = .agg [y0.1, y1.1] := congrArg Prod.fst hx
    subst hd
    have w0 : Sized P e y0.1 := fun n hn' => hs n (by simp only [DataW.weights, hu, DataW.weightsAll, List.mem_append]; exact .inl hn')
    have w1 : Sized P e y1.1 := fun n hn' => hs n (by simp only [DataW.weights, hu, DataW.weightsAll, List.mem_append]; exact .inr (.inl hn'))
    obtain ⟨a, h0, h0', _⟩ := DataW.trod_string hue e0
    obtain ⟨b, h1, h1', _⟩ := DataW.trod_string hue e1
    refine ⟨a.data.toList, b.data.toList, ?_, ?_, ?_⟩
    · have k0 : c0 = .string a := by simpa [Value.cells] using h0
      have k1 : c1 = .string b := by simpa [Value.cells] using h1
      rw [k0, k1]
    · have := congrArg Prod.fst h0'
      rw [this] at w0
      simpa using w0.str
    · have := congrArg Prod.fst h1'
      rw [this] at w1
      simpa using w1.str
end

instance : Inhabited Two := ⟨⟨[], []⟩⟩
end Go.Proofs.YtfedkhicckgjaaaGreatDoor

namespace Go.Proofs.YtfedkhicckgjaaaGreatDoor
open Go.RowKit

/-! the law's early end: are sizes, taken together, beyond what is gone through? -/
def beyondB (n : Nat) : Bool := decide (1048576 < n)
theorem beyondB_le {n : Nat} (h : beyondB n = false) : n ≤ 1048576 := by simpa [beyondB] using h

def maxI : Int := 9223372036854775807

set_option maxHeartbeats 400000 in
theorem beyond1 (n : Nat) (b : Nat) (w : World) (hc : w.cell? ⟨b, 0, none⟩ = some (.int .i64 n)) (hn : n ≤ 140737488351232) :
    Calls Tryz.prog 10 #[.slice (some ⟨b, 0, none⟩) 1 1] w fun e w' => e = .returned (.bool (beyondB n)) ∧ w = w' := by
  by_cases h : 1048576 < n
  · have hr : beyondB n = true := by simpa [beyondB] using h
    rw [hr]
    go_enter Tryz.func10, Tryz.ntmps10
    go_wp2
    refine wp_loop_rounds 2 ?_
    repeat any_goals (rw [rounds_succ]; go_wp2)
    go_ret
    exact ⟨rfl, rfl⟩
  · have hr : beyondB n = false := by simpa [beyondB] using h
    rw [hr]
    go_enter Tryz.func10, Tryz.ntmps10
    go_wp2
    refine wp_loop_rounds 2 ?_
    repeat any_goals (rw [rounds_succ]; go_wp2)
    go_ret
    exact ⟨rfl, rfl⟩

set_option maxHeartbeats 800000 in
theorem beyond2 (n m : Nat) (b : Nat) (w : World) (hc : w.cell? ⟨b, 0, none⟩ = some (.int .i64 n)) (hc1 : w.cell? ⟨b, 1, none⟩ = some (.int .i64 m)) (hn : n ≤ 140737488351232) (hm : m ≤ 140737488351232) :
    Calls Tryz.prog 10 #[.slice (some ⟨b, 0, none⟩) 2 2] w fun e w' => e = .returned (.bool (beyondB (n + m))) ∧ w = w' := by
  by_cases h : 1048576 < n
  · have hr : beyondB (n + m) = true := by simp [beyondB]; omega
    rw [hr]
    go_enter Tryz.func10, Tryz.ntmps10
    go_wp2
    refine wp_loop_rounds 3 ?_
    repeat any_goals (rw [rounds_succ]; go_wp2)
    go_ret
    exact ⟨rfl, rfl⟩
  · by_cases h2 : 1048576 < n + m
    · have hr : beyondB (n + m) = true := by simp [beyondB]; omega
      rw [hr]
      go_enter Tryz.func10, Tryz.ntmps10
      go_wp2
      refine wp_loop_rounds 3 ?_
      repeat any_goals (rw [rounds_succ]; go_wp2)
      go_ret
      exact ⟨rfl, rfl⟩
    · have hr : beyondB (n + m) = false := by simp [beyondB]; omega
      rw [hr]
      go_enter Tryz.func10, Tryz.ntmps10
      go_wp2
      refine wp_loop_rounds 3 ?_
      repeat any_goals (rw [rounds_succ]; go_wp2)
      go_ret
      exact ⟨rfl, rfl⟩
end Go.Proofs.YtfedkhicckgjaaaGreatDoor
