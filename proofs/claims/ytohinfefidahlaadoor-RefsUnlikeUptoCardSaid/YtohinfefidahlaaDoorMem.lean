/- Slices in memory that read as lists; nothing of a program is named here. -/
import Derived.Test.YtohinfefidahlaaDoorPure
import Derived.Deep.QuietTactic
import Derived.BigQuiet
import Derived.Deep.Slices
namespace Go.Proofs.YtohinfefidahlaaDoor
open Go.RowKit

abbrev Bytes := List UInt8
def str (s : Bytes) : Value := .string ⟨s.toArray⟩
theorem str_def (s : Bytes) : str s = .string ⟨s.toArray⟩ := rfl
theorem bytes_of (s : ByteArray) : ∃ l : Bytes, s = ⟨l.toArray⟩ := ⟨s.data.toList, by apply ByteArray.ext; simp⟩
/-- a byte of a string that is told as a list -/
@[go_sem] theorem getElem_mk (l : Bytes) (k : Nat) (h : k < (ByteArray.mk l.toArray).size) : (ByteArray.mk l.toArray)[k] = l[k]'(by simpa [ByteArray.size] using h) := rfl
@[go_sem] theorem extract_mk (l : Bytes) (i j : Nat) : (ByteArray.mk l.toArray).extract i j = ⟨((l.take j).drop i).toArray⟩ := by
  apply ByteArray.ext
  rw [ByteArray.data_extract]
  simp [List.drop_take]
@[go_sem] theorem append_mk (a b : Bytes) : (ByteArray.mk a.toArray) ++ (ByteArray.mk b.toArray) = ⟨(a ++ b).toArray⟩ := by
  apply ByteArray.ext
  simp
theorem size_mk (l : Bytes) : (ByteArray.mk l.toArray).size = l.length := by simp [ByteArray.size]

/-- the elements' cells lie one behind the other, sz cells each, from cell off of block b on -/
def Row {α : Type} (w : World) (sz : Nat) (enc : α → List Value) (b off : Nat) (l : List α) : Prop :=
  ∀ i x, l[i]? = some x → ∀ j v, (enc x)[j]? = some v → w.cell? ⟨b, off + i * sz + j, none⟩ = some v

/-- a slice's address leads to the elements (an empty one's may lead anywhere) -/
def At {α : Type} (w : World) (sz : Nat) (enc : α → List Value) (a : Option Addr) (l : List α) : Prop :=
  l = [] ∨ ∃ b off, a = some ⟨b, off, none⟩ ∧ b < w.heap.size ∧ Row w sz enc b off l

section
variable {α : Type} {w w' : World} {sz : Nat} {enc : α → List Value} {a : Option Addr} {b off : Nat} {l : List α}

theorem Row.below {B : Nat} (h : Row w sz enc b off l) (hb : Below B w w') (hB : b < B) : Row w' sz enc b off l :=
  fun i x hi j v hj => by rw [hb.cell (p := ⟨b, off + i * sz + j, none⟩) hB]; exact h i x hi j v hj

theorem At.below (h : At w sz enc a l) (hb : Below w.heap.size w w') : At w' sz enc a l := by
  rcases h with h | ⟨b, off, ha, hlt, hr⟩
  · exact .inl h
  · exact .inr ⟨b, off, ha, Nat.lt_of_lt_of_le hlt hb.size, hr.below hb hlt⟩

theorem At.elem (h : At w sz enc a l) {i : Nat} (hi : i < l.length) : ∃ b off, a = some ⟨b, off, none⟩ ∧ b < w.heap.size ∧
    ∀ j v, (enc l[i])[j]? = some v → w.cell? ⟨b, off + i * sz + j, none⟩ = some v := by
  rcases h with h | ⟨b, off, ha, hlt, hr⟩
  · subst h; simp at hi
  · exact ⟨b, off, ha, hlt, fun j v hj => hr i l[i] (List.getElem?_eq_getElem hi) j v hj⟩

theorem At.nil (w : World) (sz : Nat) (enc : α → List Value) (a : Option Addr) : At w sz enc a [] := .inl rfl

theorem flat_get (hs : ∀ x, (enc x).length = sz) : ∀ (l : List α) (i j : Nat), j < sz → (l.flatMap enc)[i * sz + j]? = (l[i]?).bind fun x => (enc x)[j]?
  | [], i, j, _ => by simp
  | x :: l, 0, j, hj => by
    have : j < (enc x).length := by rw [hs]; exact hj
    simp [List.flatMap_cons, List.getElem?_append_left this]
  | x :: l, i + 1, j, hj => by
    have e : (i + 1) * sz + j = (enc x).length + (i * sz + j) := by rw [hs, Nat.succ_mul]; omega
    rw [List.flatMap_cons, e, List.getElem?_append_right (by omega), Nat.add_sub_cancel_left, flat_get hs l i j hj]
    simp
theorem flat_len (hs : ∀ x, (enc x).length = sz) (l : List α) : (l.flatMap enc).length = l.length * sz := by
  induction l with
  | nil => simp
  | cons x l ih => rw [List.flatMap_cons, List.length_append, hs, ih, List.length_cons, Nat.succ_mul]; omega

/-- what the call owns reads as its elements -/
theorem At.own {base : Nat} {e : TypeId} {v : Value} {n : Nat} (hs : ∀ x, (enc x).length = sz) (h : w.ownsRow base e sz v n (l.flatMap enc)) (hn : n = l.length) :
    ∃ a cap, v = .slice a n cap ∧ At w sz enc a l := by
  rcases h.2 with ⟨rfl, h0⟩ | ⟨g, cap, cur, rfl, hb, hg, hnc, hcm, hcs, htake⟩
  · subst h0
    have hl : l = [] := List.eq_nil_of_length_eq_zero hn.symm
    subst hl
    exact ⟨none, 0, rfl, .inl rfl⟩
  · refine ⟨_, cap, rfl, .inr ⟨g, 0, rfl, (Array.getElem?_eq_some_iff.1 hg).1, ?_⟩⟩
    intro i x hi j v hj
    rw [Nat.zero_add, cell_of_row w g _ cur e (0, 0) hg]
    have hjs : j < sz := by rw [← hs x]; exact (List.getElem?_eq_some_iff.1 hj).1
    have hil : i < l.length := (List.getElem?_eq_some_iff.1 hi).1
    have hfl := flat_get hs l i j hjs
    rw [hi] at hfl
    simp only [Option.bind_some, hj] at hfl
    rw [← htake, List.getElem?_take] at hfl
    split at hfl
    · simpa using hfl
    · cases hfl
end

/-! ### one string an element -/
def encS (s : Bytes) : List Value := [.string ⟨s.toArray⟩]
theorem encS_len (s : Bytes) : (encS s).length = 1 := rfl
theorem At.str {w : World} {a : Option Addr} {l : List Bytes} (h : At w 1 encS a l) {i : Nat} (hi : i < l.length) :
    ∃ b off, a = some ⟨b, off, none⟩ ∧ b < w.heap.size ∧ w.cell? ⟨b, off + i, none⟩ = some (.string ⟨l[i].toArray⟩) := by
  obtain ⟨b, off, ha, hlt, hc⟩ := h.elem hi
  refine ⟨b, off, ha, hlt, ?_⟩
  have := hc 0 _ rfl
  rwa [Nat.mul_one, Nat.add_zero] at this

/-! ### a name and a value (api.Attr, api.Source, api.File): two strings an element -/
structure Two where
  name : Bytes
  value : Bytes
def encT (x : Two) : List Value := [.string ⟨x.name.toArray⟩, .string ⟨x.value.toArray⟩]
theorem encT_len (x : Two) : (encT x).length = 2 := rfl
theorem At.two {w : World} {a : Option Addr} {l : List Two} (h : At w 2 encT a l) {i : Nat} (hi : i < l.length) :
    ∃ b off, a = some ⟨b, off, none⟩ ∧ b < w.heap.size ∧ w.cell? ⟨b, off + i * 2, none⟩ = some (.string ⟨l[i].name.toArray⟩) ∧ w.cell? ⟨b, off + i * 2 + 1, none⟩ = some (.string ⟨l[i].value.toArray⟩) := by
  obtain ⟨b, off, ha, hlt, hc⟩ := h.elem hi
  exact ⟨b, off, ha, hlt, hc 0 _ rfl, hc 1 _ rfl⟩

/-- Draws of the tape leave memory as it is. -/
theorem below_drewN {B : Nat} {a w : World} (h : Below B a w) (n : Nat) : Below B a (w.drewN n) := h.trans ⟨rfl, rfl, rfl, Nat.le_refl _, fun _ _ => rfl⟩

/-! ### slices that the call makes itself -/
/-- the program's table on a slice type t of elements e, sz cells and so many bytes each -/
def SlTy (P : Program) (t e : TypeId) (sz bytes : Nat) : Prop :=
  P.underlying t = some (.slice e) ∧ ∃ z, (P.info? e).map (fun i => (i.zero, i.size, i.bytes)) = some (some z, sz, bytes) ∧ z.cells.size = sz ∧ 0 < sz

/-- v is the call's own slice (its block is B or above), it holds l -/
def Own {α : Type} (w : World) (B : Nat) (e : TypeId) (sz : Nat) (enc : α → List Value) (v : Value) (l : List α) : Prop :=
  w.ownsRow B e sz v l.length (l.flatMap enc)

/-- how an element is told: sz cells, each a value of one cell -/
structure Enc {α : Type} (sz : Nat) (enc : α → List Value) : Prop where
  len : ∀ x, (enc x).length = sz
  one : ∀ x, ∀ u ∈ enc x, u.oneCell' = true

theorem encS_ok : Enc 1 encS := ⟨fun _ => rfl, fun x u hu => by simp [encS] at hu; subst hu; rfl⟩
theorem encT_ok : Enc 2 encT := ⟨fun _ => rfl, fun x u hu => by simp [encT] at hu; rcases hu with rfl | rfl <;> rfl⟩

section
variable {α : Type} {w w' : World} {B : Nat} {e : TypeId} {sz : Nat} {enc : α → List Value} {v : Value} {l : List α}

theorem Own.nil (w : World) (B : Nat) (e : TypeId) (sz : Nat) (enc : α → List Value) : Own w B e sz enc (.slice none 0 0) [] := by
  have := World.ownsRow_nil w B e sz
  simpa [Own] using this
theorem Own.reads (h : Own w B e sz enc v l) (he : Enc sz enc) : ∃ a cap, v = .slice a l.length cap ∧ At w sz enc a l := At.own he.len h rfl
theorem Own.addr {a : Option Addr} {n c : Nat} (h : Own w B e sz enc (.slice a n c) l) (he : Enc sz enc) : At w sz enc a l := by
  obtain ⟨a', c', hv, h'⟩ := h.reads he
  injection hv with h1 _ _
  rw [h1]; exact h'
theorem Own.shape (h : Own w B e sz enc v l) : ∃ a cap, v = .slice a l.length cap := by
  rcases h.2 with ⟨rfl, h0⟩ | ⟨g, cap, cur, rfl, _⟩
  · rw [h0]; exact ⟨_, _, rfl⟩
  · exact ⟨_, _, rfl⟩
/-- the block that an owned slice lies in, if any -/
theorem Own.block (h : Own w B e sz enc v l) : ∀ k, v.ownBlock = some k → B ≤ k ∧ k < w.heap.size := h.lt
theorem Own.kept (h : Own w B e sz enc v l) (hk : ∀ k, v.ownBlock = some k → w'.heap[k]? = w.heap[k]?) : Own w' B e sz enc v l := by
  refine ⟨h.1, ?_⟩
  rcases h.2 with hn | ⟨g, cap, cur, rfl, hb, hgg, rest⟩
  · exact .inl hn
  · exact .inr ⟨g, cap, cur, rfl, hb, by rw [hk g rfl]; exact hgg, rest⟩
/-- owned from B on; below B' nothing has turned, and the block lies below B' -/
theorem Own.below {B' : Nat} (h : Own w B e sz enc v l) (hb : Below B' w w') (hlt : w.heap.size ≤ B') : Own w' B e sz enc v l :=
  h.kept fun k hk => hb.block k (by have := (h.block k hk).2; omega)
theorem Own.alloc (h : Own w B e sz enc v l) (o : Obj) : Own (w.alloc o) B e sz enc v l := World.ownsRow.alloc h o
theorem Own.drewN (h : Own w B e sz enc v l) (n : Nat) : Own (w.drewN n) B e sz enc v l := h.kept fun _ _ => rfl
theorem Own.mono {B' : Nat} (h : Own w B e sz enc v l) (hB : B' ≤ B) : Own w B' e sz enc v l := by
  refine ⟨h.1, ?_⟩
  rcases h.2 with hn | ⟨g, cap, cur, rfl, hb, rest⟩
  · exact .inl hn
  · exact .inr ⟨g, cap, cur, rfl, Nat.le_trans hB hb, rest⟩
end

section
variable {α : Type} {P : Program} {w : World} {ops : Array Oper} {rest : List Oper} {o : Oper} {a : Act} {Q : Exit → Act → World → Prop}

/-- append one element to the call's own slice -/
theorem wpList_push (hgd : o.guard = none) (s x : Operand) (t : TypeId) (ho : o.op = .call { callee := .builtin .append, args := #[s, x], argTypes := #[t, t] })
    (B : Nat) (e : TypeId) (sz bytes : Nat) (hT : SlTy P t e sz bytes) (enc : α → List Value) (he : Enc sz enc)
    (v : Value) (l : List α) (hs : a.eval s = v) (hown : Own w B e sz enc v l)
    (y : α) (G : Nat) (hx : a.eval x = .slice (some ⟨G, 0, none⟩) 1 1) (hG : ∀ j u, (enc y)[j]? = some u → w.cell? ⟨G, j, none⟩ = some u)
    (hroom : (l.length + 1) * bytes ≤ 140737488355328) (hmax : l.length + 1 ≤ maxLen) (W : World) (hB : Below B W w) (hBs : B ≤ w.heap.size)
    (h : ∀ v' w', Own w' B e sz enc v' (l ++ [y]) → Below B W w' → w.grownBy w' v.ownBlock → wpList P ops Q rest (a.put o.dst v') w') : wpList P ops Q (o :: rest) a w := by
  obtain ⟨hu, z, hi, hz, hsz⟩ := hT
  obtain ⟨i, hi1, hi2, hi3, hi4⟩ := info_parts hi
  refine wpList_append_own w hgd s x t ho B e i z sz bytes hu hi1 hi2 hi3 hi4 hz hsz v l.length (l.flatMap enc) hs hown ⟨G, 0, none⟩ 1 1 (enc y) hx (by rw [he.len, Nat.one_mul])
    (fun j u hj => by
      have hadd : (⟨G, 0, none⟩ : Addr).add j = ⟨G, j, none⟩ := by unfold Addr.add; split <;> simp_all
      rw [hadd]; exact hG j u hj) (he.one y) hmax hroom hBs ?_
  intro v' w' h1 h2 _
  refine h v' w' ?_ (hB.grown h2 hBs (fun k hk => (hown.lt k hk).1)) h2
  unfold Own
  rw [List.length_append, List.flatMap_append]
  simpa using h1

/-- append one element within the capacity: the slice stays where it is -/
theorem wpList_push_fits (hgd : o.guard = none) (s x : Operand) (t : TypeId) (ho : o.op = .call { callee := .builtin .append, args := #[s, x], argTypes := #[t, t] })
    (B : Nat) (e : TypeId) (sz bytes : Nat) (hT : SlTy P t e sz bytes) (enc : α → List Value) (he : Enc sz enc)
    (g k cap : Nat) (l : List α) (hk : k = l.length) (hs : a.eval s = .slice (some ⟨g, 0, none⟩) k cap) (hown : Own w B e sz enc (.slice (some ⟨g, 0, none⟩) k cap) l)
    (y : α) (G : Nat) (hx : a.eval x = .slice (some ⟨G, 0, none⟩) 1 1) (hG : ∀ j u, (enc y)[j]? = some u → w.cell? ⟨G, j, none⟩ = some u)
    (hfit : k + 1 ≤ cap) (W : World) (hB : Below B W w) (hBs : B ≤ w.heap.size)
    (h : ∀ w', Own w' B e sz enc (.slice (some ⟨g, 0, none⟩) (k + 1) cap) (l ++ [y]) → Below B W w' → wpList P ops Q rest (a.put o.dst (.slice (some ⟨g, 0, none⟩) (k + 1) cap)) w') : wpList P ops Q (o :: rest) a w := by
  obtain ⟨hu, z, hi, hz, hsz⟩ := hT
  obtain ⟨i, hi1, hi2, hi3, hi4⟩ := info_parts hi
  subst hk
  refine wpList_append_fits w hgd s x t ho B e i sz hu hi1 hi3 g l.length cap (l.flatMap enc) hs hown ⟨G, 0, none⟩ 1 1 (enc y) hx (by rw [he.len, Nat.one_mul])
    (fun j u hj => by
      have hadd : (⟨G, 0, none⟩ : Addr).add j = ⟨G, j, none⟩ := by unfold Addr.add; split <;> simp_all
      rw [hadd]; exact hG j u hj) (he.one y) hfit ?_
  intro w' h1 h2
  refine h w' ?_ (hB.grown h2 hBs (fun k hk => by cases hk; exact (hown.lt g rfl).1))
  unfold Own
  rw [List.length_append, List.flatMap_append]
  simpa using h1

/-- make([]T, 0, n) -/
theorem wpList_mk (hgd : o.guard = none) (lo co : Operand) (t : TypeId) (ho : o.op = Op.makeSlice t lo co)
    (B : Nat) (e : TypeId) (sz bytes : Nat) (hT : SlTy P t e sz bytes) (enc : α → List Value)
    (n : Nat) (C : Int) (hl : a.eval lo = .int .i64 0) (hc : a.eval co = .int .i64 C) (hC : C = (n : Int)) (hroom : bytes * n ≤ 281474976710656) (hmax : n ≤ maxLen) (W : World) (hB : Below B W w) (hBs : B ≤ w.heap.size)
    (h : ∀ w', Own w' B e sz enc (.slice (some ⟨w.heap.size, 0, none⟩) 0 n) ([] : List α) → Below B W w' → w'.heap.size ≥ w.heap.size → wpList P ops Q rest (a.put o.dst (.slice (some ⟨w.heap.size, 0, none⟩) 0 n)) w') : wpList P ops Q (o :: rest) a w := by
  obtain ⟨hu, z, hi, hz, hsz⟩ := hT
  obtain ⟨i, hi1, hi2, hi3, hi4⟩ := info_parts hi
  refine wpList_make_own w hgd lo co t ho B e i z sz hu hi1 hi2 hi3 .i64 .i64 C n hl hc hC (by rw [hi4]; exact hroom) hmax hBs ?_
  intro w' h1 h2
  exact h w' (by simpa [Own] using h1) (hB.grown h2 hBs (fun k hk => by cases hk)) h2.size
end
end Go.Proofs.YtohinfefidahlaaDoor
