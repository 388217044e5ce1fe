/- What holds while a text is filled: the plain part. -/
import Derived.Test.YtfedkhicckgjaaaGreatDoorAsked
namespace Go.Proofs.YtfedkhicckgjaaaGreatDoor
open Go.RowKit

theorem fillT_lits (l : List Two) (s t : Bytes) (h : ∀ c ∈ s, c ≠ 123) : fillT l (s ++ t) = s ++ fillT l t ∧ asksOf (s ++ t) = asksOf t := by
  have hp := parse_lits s t h
  constructor
  · unfold fillT
    rw [hp, List.flatMap_append, List.flatMap_map]
    congr 1
    clear hp h
    induction s with
    | nil => rfl
    | cons c s ih => rw [List.flatMap_cons, ih]; rfl
  · unfold asksOf
    rw [hp, List.filterMap_append, List.filterMap_map]
    have : s.filterMap (segAsk ∘ Seg.lit) = [] := by rw [List.filterMap_eq_nil_iff]; intro c _; rfl
    rw [this]; rfl
theorem take_plain {s : Bytes} {n : Nat} (h : Lib.indexByte s 123 = n) : (∀ c ∈ s.take n, c ≠ 123) ∧ n < s.length ∧ s.drop n = 123 :: s.drop (n + 1) := by
  obtain ⟨hn, he, hall⟩ := idx_some h
  refine ⟨fun c hc => ?_, hn, ?_⟩
  · obtain ⟨i, hi, rfl⟩ := List.mem_iff_getElem.1 hc
    rw [List.length_take] at hi
    rw [List.getElem_take]
    exact hall i (by omega)
  · rw [List.drop_eq_getElem_cons hn, he]
theorem fillT_cons (l : List Two) {s : Bytes} (h : tokOf (123 :: s) = none) : fillT l (123 :: s) = 123 :: fillT l s ∧ asksOf (123 :: s) = asksOf s := by
  unfold fillT asksOf
  rw [parse_lit h]
  exact ⟨rfl, rfl⟩
theorem fillT_ask (l : List Two) {s nm : Bytes} (h : tokOf s = some nm) : fillT l s = (getL l nm).getD (123 :: nm ++ [125]) ++ fillT l (s.drop (nm.length + 2)) ∧ asksOf s = nm :: asksOf (s.drop (nm.length + 2)) := by
  unfold fillT asksOf
  rw [parse_ask h]
  exact ⟨rfl, rfl⟩
theorem tok_text {s nm : Bytes} (h : tokOf s = some nm) : s.take (nm.length + 2) = 123 :: nm ++ [125] := by
  match s with
  | [] => cases h
  | c :: r =>
    obtain ⟨h0, h1, h2, h3, h4⟩ := tokOf_some h
    obtain ⟨hlt, he⟩ := List.getElem?_eq_some_iff.1 h1
    subst h0
    rw [h4, List.take_succ_cons, List.take_succ_eq_append_getElem hlt, he, ← h3]
    rfl

structure FillI (l : List Two) (s : Bytes) (fr p : Nat) (out : Bytes) (nms : List Bytes) : Prop where
  le : fr ≤ p
  le2 : p ≤ s.length
  txt : fillT l s = out ++ (s.take p).drop fr ++ fillT l (s.drop p)
  nam : fillN s = (asksOf (s.drop p)).foldl addN nms
  len : nms.length ≤ p
  room : out.length ≤ fr * 100001

theorem FillI.start (l : List Two) (s : Bytes) : FillI l s 0 0 [] [] := ⟨by omega, by omega, by simp, by simp [fillN], by simp, by simp⟩
theorem addN_len1 (acc : List Bytes) (x : Bytes) : (addN acc x).length ≤ acc.length + 1 := by
  unfold addN; split <;> simp
theorem take_drop_add (s : Bytes) {fr p : Nat} (n : Nat) (h : fr ≤ p) (hp : p ≤ s.length) : (s.take p).drop fr ++ (s.drop p).take n = (s.take (p + n)).drop fr := by
  rw [List.take_add, List.drop_append_of_le_length (by rw [List.length_take]; omega)]

section
variable {l : List Two} {s : Bytes} {fr p : Nat} {out : Bytes} {nms : List Bytes} {n : Nat}

theorem FillI.idx (_h : FillI l s fr p out nms) (hi : Lib.indexByte (s.drop p) 123 = n) : p + n < s.length ∧ s.drop (p + n) = 123 :: s.drop (p + n + 1) ∧
    fillT l (s.drop p) = (s.drop p).take n ++ fillT l (s.drop (p + n)) ∧ asksOf (s.drop p) = asksOf (s.drop (p + n)) := by
  obtain ⟨h1, h2, h3⟩ := take_plain hi
  rw [List.length_drop] at h2
  rw [List.drop_drop, List.drop_drop] at h3
  have e := fillT_lits l ((s.drop p).take n) ((s.drop p).drop n) h1
  rw [List.take_append_drop, List.drop_drop] at e
  exact ⟨by omega, by rw [h3]; rfl, e.1, e.2⟩
theorem FillI.lit (h : FillI l s fr p out nms) (hi : Lib.indexByte (s.drop p) 123 = n) (ht : tokOf (s.drop (p + n)) = none) : FillI l s fr (p + n + 1) out nms := by
  obtain ⟨h1, h2, h3, h4⟩ := h.idx hi
  have hle := h.le
  have e := fillT_cons l (s := s.drop (p + n + 1)) (by rw [← h2]; exact ht)
  rw [← h2] at e
  refine ⟨by omega, by omega, ?_, ?_, by have := h.len; omega, h.room⟩
  · have e3 : fillT l (s.drop p) = (s.drop p).take (n + 1) ++ fillT l (s.drop (p + n + 1)) := by
      rw [h3, e.1, List.take_succ_eq_append_getElem (by rw [List.length_drop]; omega), List.append_assoc]
      congr 1
      have : (s.drop p)[n]'(by rw [List.length_drop]; omega) = 123 := by
        rw [List.getElem_drop]
        have := congrArg List.head? h2
        rw [List.head?_drop] at this
        rw [List.getElem?_eq_getElem (by omega)] at this
        simpa using this
      rw [this]; rfl
    rw [h.txt, e3, ← List.append_assoc, List.append_assoc out, take_drop_add s (n + 1) h.le h.le2, Nat.add_assoc]
  · rw [h.nam, h4, e.2]
theorem FillI.unset {nm : Bytes} (h : FillI l s fr p out nms) (hi : Lib.indexByte (s.drop p) 123 = n) (ht : tokOf (s.drop (p + n)) = some nm) (hg : getL l nm = none) :
    FillI l s fr (p + n + nm.length + 2) out (addN nms nm) := by
  obtain ⟨h1, h2, h3, h4⟩ := h.idx hi
  have hle := h.le
  have hl := tokOf_len ht
  rw [List.length_drop] at hl
  have e := fillT_ask l ht
  rw [hg, Option.getD_none, ← tok_text ht, List.drop_drop] at e
  refine ⟨by omega, by omega, ?_, ?_, by have := h.len; have := addN_len1 nms nm; omega, h.room⟩
  · rw [h.txt, h3, e.1, ← List.append_assoc, ← List.append_assoc, List.append_assoc out, take_drop_add s n h.le h.le2, List.append_assoc out, take_drop_add s _ (by omega) (by omega)]
    rfl
  · rw [h.nam, h4, e.2, List.foldl_cons]; rfl
theorem FillI.set {nm v : Bytes} (h : FillI l s fr p out nms) (hi : Lib.indexByte (s.drop p) 123 = n) (ht : tokOf (s.drop (p + n)) = some nm) (hg : getL l nm = some v) (hv : v.length ≤ 100000) :
    FillI l s (p + n + nm.length + 2) (p + n + nm.length + 2) (out ++ (s.take (p + n)).drop fr ++ v) (addN nms nm) := by
  obtain ⟨h1, h2, h3, h4⟩ := h.idx hi
  have hle := h.le
  have hl := tokOf_len ht
  rw [List.length_drop] at hl
  have e := fillT_ask l ht
  rw [hg, Option.getD_some, List.drop_drop] at e
  refine ⟨by omega, by omega, ?_, ?_, by have := h.len; have := addN_len1 nms nm; omega, ?_⟩
  · rw [h.txt, h3, e.1, ← List.append_assoc, ← List.append_assoc, List.append_assoc out, take_drop_add s n h.le h.le2]
    have : (s.take (p + n + nm.length + 2)).drop (p + n + nm.length + 2) = [] := by rw [List.drop_eq_nil_iff, List.length_take]; omega
    rw [this, List.append_nil]
    rfl
  · rw [h.nam, h4, e.2, List.foldl_cons]; rfl
  · have := h.room
    simp only [List.length_append, List.length_drop, List.length_take]
    omega
theorem FillI.stop (h : FillI l s fr p out nms) (hi : Lib.indexByte (s.drop p) 123 = -1) : fillT l s = out ++ s.drop fr ∧ fillN s = nms := by
  have hp := fillT_plain l (s.drop p) (idx_none hi)
  have ha : asksOf (s.drop p) = [] := by
    have := (fillT_lits l (s.drop p) [] (idx_none hi)).2
    rw [List.append_nil] at this
    rw [this]; rfl
  constructor
  · rw [h.txt, hp.1, List.append_assoc]
    congr 1
    have := take_drop_add s (s.length - p) h.le h.le2
    have e2 : (s.drop p).take (s.length - p) = s.drop p := List.take_of_length_le (by rw [List.length_drop]; exact Nat.le_refl _)
    have e3 : s.take (p + (s.length - p)) = s := List.take_of_length_le (by have := h.le2; omega)
    rw [e2, e3] at this
    exact this
  · rw [h.nam, ha]; rfl
end
theorem getL_len {l : List Two} {nm v : Bytes} (h : getL l nm = some v) (hv : ∀ x ∈ l, x.value.length ≤ 100000) : v.length ≤ 100000 := by
  unfold getL at h
  rw [Option.map_eq_some_iff] at h
  obtain ⟨x, hx, rfl⟩ := h
  exact hv x (List.mem_of_find?_eq_some hx)

/-- what the map of places holds -/
def placeV (l : List Two) (nm : Bytes) : Value := .int .i64 (findI (fun x => x.name == nm) l)
def placesOf (l : List Two) (nms : List Bytes) : List (Bytes × Value) := nms.map fun nm => (nm, placeV l nm)
end Go.Proofs.YtfedkhicckgjaaaGreatDoor
