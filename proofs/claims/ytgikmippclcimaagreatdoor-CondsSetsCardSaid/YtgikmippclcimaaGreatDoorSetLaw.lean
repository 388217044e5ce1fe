/- Attributes set and unset: the plain laws. -/
import Derived.Test.YtgikmippclcimaaGreatDoorSetOk
import Derived.Test.YtgikmippclcimaaGreatDoorUnset
namespace Go.Proofs.YtgikmippclcimaaGreatDoor
open Go.RowKit
set_option linter.unusedVariables false

/-! ### the order of texts -/
theorem bl_irrefl : ∀ x : Bytes, Op.bytesLess x x = false
  | [] => rfl
  | a :: x => by
    have : ¬ a < a := by rw [UInt8.lt_iff_toNat_lt]; omega
    simp [Op.bytesLess, this, bl_irrefl x]
theorem bl_trans : ∀ x y z : Bytes, Op.bytesLess x y = true → Op.bytesLess y z = true → Op.bytesLess x z = true
  | [], [], _, h, _ => by cases h
  | _ :: _, [], _, h, _ => by cases h
  | _, b :: y, [], _, h => by cases h
  | [], b :: y, c :: z, _, _ => rfl
  | a :: x, b :: y, c :: z, h1, h2 => by
    simp only [Op.bytesLess, Bool.or_eq_true, Bool.and_eq_true, decide_eq_true_eq, beq_iff_eq] at h1 h2 ⊢
    rcases h1 with h1 | ⟨h1, h1'⟩
    · rcases h2 with h2 | ⟨h2, h2'⟩
      · left; rw [UInt8.lt_iff_toNat_lt] at *; omega
      · subst h2; exact .inl h1
    · subst h1
      rcases h2 with h2 | ⟨h2, h2'⟩
      · exact .inl h2
      · exact .inr ⟨h2, bl_trans x y z h1' h2'⟩
theorem bl_tri : ∀ x y : Bytes, Op.bytesLess x y = false → (x == y) = false → Op.bytesLess y x = true
  | [], [], _, h => by simp at h
  | [], b :: y, h, _ => by cases h
  | a :: x, [], _, _ => rfl
  | a :: x, b :: y, h1, h2 => by
    simp only [Op.bytesLess, Bool.or_eq_false_iff, decide_eq_false_iff_not] at h1
    simp only [Op.bytesLess, Bool.or_eq_true, Bool.and_eq_true, decide_eq_true_eq, beq_iff_eq]
    by_cases hab : a = b
    · subst hab
      right
      refine ⟨rfl, bl_tri x y ?_ ?_⟩
      · have := h1.2; simpa using this
      · simpa using h2
    · left
      have h3 := h1.1
      rw [UInt8.lt_iff_toNat_lt] at *
      have : a.toNat ≠ b.toNat := fun e => hab (UInt8.toNat.inj e)
      omega
theorem bl_ne {x y : Bytes} (h : Op.bytesLess x y = true) : (x == y) = false := by
  cases he : (x == y)
  · rfl
  · have := eq_of_beq he
    subst this
    rw [bl_irrefl] at h; cases h

/-! ### attributes that may be -/
def okTwo (x : Two) : Bool := nameB x.name && validB x.value
def Sorted (l : List Two) : Prop := l.Pairwise fun x y => Op.bytesLess x.name y.name = true
theorem checkB_iff (l : List Two) : checkB l = true ↔ l.length ≤ 64 ∧ (∀ x ∈ l, okTwo x = true) ∧ Sorted l := by
  constructor
  · intro h
    unfold checkB at h
    simp only [Bool.and_eq_true, decide_eq_true_eq, List.all_eq_true, List.mem_range] at h
    obtain ⟨h1, h2⟩ := h
    refine ⟨h1, ?_, ?_⟩
    · intro x hx
      obtain ⟨i, hi, rfl⟩ := List.mem_iff_getElem.1 hx
      have := h2 i hi
      unfold okAt at this
      rw [List.getElem?_eq_getElem hi] at this
      simp only [Bool.and_eq_true] at this
      unfold okTwo
      simp [this.1.1, this.1.2]
    · have adj : ∀ i (hi : i + 1 < l.length), Op.bytesLess (l[i]'(by omega)).name l[i + 1].name = true := by
        intro i hi
        have := h2 (i + 1) hi
        rw [okAt_succ hi] at this
        simp only [Bool.and_eq_true] at this
        exact this.2
      unfold Sorted
      rw [List.pairwise_iff_getElem]
      intro i j hi hj hij
      obtain ⟨d, rfl⟩ : ∃ d, j = i + 1 + d := ⟨j - i - 1, by omega⟩
      induction d with
      | zero => exact adj i hj
      | succ d ih => exact bl_trans _ _ _ (ih (by omega) (by omega)) (adj (i + 1 + d) hj)
  · rintro ⟨h1, h2, h3⟩
    refine checkB_all h1 fun i hi => ?_
    have hm := h2 l[i] (List.getElem_mem hi)
    unfold okTwo at hm
    simp only [Bool.and_eq_true] at hm
    match i, hi, hm with
    | 0, hi, hm => rw [okAt_zero hi, hm.1, hm.2]; rfl
    | j + 1, hi, hm =>
      rw [okAt_succ hi, hm.1, hm.2]
      unfold Sorted at h3
      rw [List.pairwise_iff_getElem] at h3
      rw [h3 j (j + 1) (by omega) hi (by omega)]; rfl

/-! ### set, item by item -/
def setRec (s v : Bytes) : List Two → List Two
  | [] => [⟨s, v⟩]
  | x :: l => if Op.bytesLess x.name s = true then x :: setRec s v l else if (x.name == s) = true then ⟨s, v⟩ :: l else ⟨s, v⟩ :: x :: l
def hasRec (s : Bytes) : List Two → Bool
  | [] => false
  | x :: l => if Op.bytesLess x.name s = true then hasRec s l else x.name == s
theorem bl_symm {x y : Bytes} (h : (x == y) = false) : (y == x) = false := by
  cases he : (y == x)
  · rfl
  · rw [eq_of_beq he] at h; simp at h
theorem setRec_lt {s v : Bytes} {x : Two} {l : List Two} (h : Op.bytesLess x.name s = true) : setRec s v (x :: l) = x :: setRec s v l := by
  show (if _ then _ else _) = _
  rw [if_pos h]
theorem setRec_eq {s v : Bytes} {x : Two} {l : List Two} (h : Op.bytesLess x.name s = false) (he : (x.name == s) = true) : setRec s v (x :: l) = ⟨s, v⟩ :: l := by
  show (if _ then _ else _) = _
  rw [if_neg (by simp [h]), if_pos he]
theorem setRec_gt {s v : Bytes} {x : Two} {l : List Two} (h : Op.bytesLess x.name s = false) (he : (x.name == s) = false) : setRec s v (x :: l) = ⟨s, v⟩ :: x :: l := by
  show (if _ then _ else _) = _
  rw [if_neg (by simp [h]), if_neg (by rw [he]; simp)]
theorem posL_nil (s : Bytes) : posL [] s = 0 := rfl
theorem posL_lt {x : Two} {l : List Two} {s : Bytes} (h : Op.bytesLess x.name s = true) : posL (x :: l) s = posL l s + 1 := by
  unfold posL; rw [List.findIdx_cons]; simp [geB, h]
theorem posL_ge {x : Two} {l : List Two} {s : Bytes} (h : Op.bytesLess x.name s = false) : posL (x :: l) s = 0 := by
  unfold posL; rw [List.findIdx_cons]; simp [geB, h]
theorem hasAt_rec (s : Bytes) : ∀ l : List Two, hasAt l s (posL l s) = hasRec s l
  | [] => rfl
  | x :: l => by
    unfold hasRec
    cases h : Op.bytesLess x.name s
    · rw [posL_ge h, if_neg (by simp)]; rfl
    · rw [posL_lt h, if_pos rfl, ← hasAt_rec s l]; rfl
theorem setL_rec (s v : Bytes) : ∀ l : List Two, setL l s v = setRec s v l
  | [] => rfl
  | x :: l => by
    unfold setRec
    cases h : Op.bytesLess x.name s
    · rw [if_neg (by simp)]
      unfold setL
      rw [posL_ge h]
      have hh : hasAt (x :: l) s 0 = (x.name == s) := rfl
      rw [hh]
      cases hx : (x.name == s) <;> simp
    · rw [if_pos rfl, ← setL_rec s v l]
      unfold setL
      rw [posL_lt h]
      have hh : hasAt (x :: l) s (posL l s + 1) = hasAt l s (posL l s) := rfl
      rw [hh]
      cases hasAt l s (posL l s) <;> simp
theorem fullB_rec (l : List Two) (s : Bytes) : fullB l s = (!hasRec s l && decide (64 ≤ l.length)) := by unfold fullB; rw [hasAt_rec]
theorem hasRec_lt {s : Bytes} {x : Two} {l : List Two} (h : Op.bytesLess x.name s = true) : hasRec s (x :: l) = hasRec s l := by
  show (if _ then _ else _) = _
  rw [if_pos h]
theorem hasRec_ge {s : Bytes} {x : Two} {l : List Two} (h : Op.bytesLess x.name s = false) : hasRec s (x :: l) = (x.name == s) := by
  show (if _ then _ else _) = _
  rw [if_neg (by simp [h])]
theorem setRec_len (s v : Bytes) : ∀ l : List Two, (setRec s v l).length = l.length + if hasRec s l = true then 0 else 1
  | [] => rfl
  | x :: l => by
    cases h : Op.bytesLess x.name s
    · rw [hasRec_ge h]
      cases hx : (x.name == s)
      · rw [setRec_gt h hx]; rfl
      · rw [setRec_eq h hx]; rfl
    · rw [setRec_lt h, hasRec_lt h, List.length_cons, List.length_cons, setRec_len s v l]; omega
theorem setRec_mem (s v : Bytes) : ∀ (l : List Two), ∀ y ∈ setRec s v l, y = ⟨s, v⟩ ∨ y ∈ l
  | [], y, h => by simp [setRec] at h; exact .inl h
  | x :: l, y, h => by
    unfold setRec at h
    split at h
    · rcases List.mem_cons.1 h with h | h
      · exact .inr (by simp [h])
      · rcases setRec_mem s v l y h with h | h
        · exact .inl h
        · exact .inr (by simp [h])
    · split at h
      · rcases List.mem_cons.1 h with h | h
        · exact .inl h
        · exact .inr (by simp [h])
      · rcases List.mem_cons.1 h with h | h
        · exact .inl h
        · exact .inr h
theorem setRec_sorted (s v : Bytes) : ∀ (l : List Two), Sorted l → Sorted (setRec s v l)
  | [], _ => by unfold setRec Sorted; exact List.pairwise_singleton _ _
  | x :: l, h => by
    unfold Sorted at h
    rw [List.pairwise_cons] at h
    unfold setRec
    cases hx : Op.bytesLess x.name s
    · rw [if_neg (by simp)]
      cases he : (x.name == s)
      · rw [if_neg (by simp)]
        have hlt := bl_tri _ _ hx he
        unfold Sorted
        rw [List.pairwise_cons, List.pairwise_cons]
        refine ⟨fun y hy => ?_, h⟩
        rcases List.mem_cons.1 hy with rfl | hy
        · exact hlt
        · exact bl_trans _ _ _ hlt (h.1 y hy)
      · rw [if_pos rfl]
        unfold Sorted
        rw [List.pairwise_cons]
        refine ⟨fun y hy => ?_, h.2⟩
        have := h.1 y hy
        rwa [eq_of_beq he] at this
    · rw [if_pos rfl]
      unfold Sorted
      rw [List.pairwise_cons]
      refine ⟨fun y hy => ?_, setRec_sorted s v l h.2⟩
      rcases setRec_mem s v l y hy with rfl | hy
      · exact hx
      · exact h.1 y hy
theorem setRec_has (s v : Bytes) : ∀ l : List Two, hasRec s (setRec s v l) = true
  | [] => by simp [setRec, hasRec, bl_irrefl]
  | x :: l => by
    unfold setRec
    cases h : Op.bytesLess x.name s
    · rw [if_neg (by simp)]
      cases hx : (x.name == s) <;> simp [hasRec, bl_irrefl]
    · rw [if_pos rfl]
      unfold hasRec
      rw [if_pos h]; exact setRec_has s v l
theorem setRec_again (s v u : Bytes) : ∀ l : List Two, setRec s u (setRec s v l) = setRec s u l
  | [] => by
    show setRec s u [⟨s, v⟩] = _
    rw [setRec_eq (bl_irrefl s) (by simp)]; rfl
  | x :: l => by
    cases h : Op.bytesLess x.name s
    · cases hx : (x.name == s)
      · rw [setRec_gt h hx, setRec_gt h hx, setRec_eq (bl_irrefl s) (by simp)]
      · rw [setRec_eq h hx, setRec_eq h hx, setRec_eq (bl_irrefl s) (by simp)]
    · rw [setRec_lt h, setRec_lt h, setRec_lt h, setRec_again s v u l]
theorem filter_set (s v : Bytes) : ∀ l : List Two, (setRec s v l).filter (notB s) = l.filter (notB s)
  | [] => by simp [setRec, notB]
  | x :: l => by
    unfold setRec
    cases h : Op.bytesLess x.name s
    · rw [if_neg (by simp)]
      cases hx : (x.name == s) <;> simp [notB, hx]
    · rw [if_pos rfl, List.filter_cons, List.filter_cons, filter_set s v l]
theorem getL_cons (x : Two) (l : List Two) (t : Bytes) : getL (x :: l) t = if (x.name == t) = true then some x.value else getL l t := by
  unfold getL
  rw [List.find?_cons]
  cases (x.name == t) <;> simp
theorem getL_set (s v : Bytes) : ∀ l : List Two, getL (setRec s v l) s = some v
  | [] => by simp [setRec, getL_cons]
  | x :: l => by
    unfold setRec
    cases h : Op.bytesLess x.name s
    · rw [if_neg (by simp)]
      cases hx : (x.name == s) <;> simp [getL_cons]
    · rw [if_pos rfl, getL_cons, bl_ne h, if_neg (by simp)]; exact getL_set s v l
theorem getL_ne {x : Two} {l : List Two} {t : Bytes} (h : (x.name == t) = false) : getL (x :: l) t = getL l t := by rw [getL_cons, if_neg (by rw [h]; simp)]
theorem getL_set_other (s v t : Bytes) (ht : (t == s) = false) : ∀ l : List Two, getL (setRec s v l) t = getL l t
  | [] => getL_ne (bl_symm ht)
  | x :: l => by
    cases h : Op.bytesLess x.name s
    · cases hx : (x.name == s)
      · rw [setRec_gt h hx, getL_ne (bl_symm ht)]
      · have : (x.name == t) = false := by rw [eq_of_beq hx]; exact bl_symm ht
        rw [setRec_eq h hx, getL_ne (bl_symm ht), getL_ne this]
    · rw [setRec_lt h, getL_cons, getL_cons, getL_set_other s v t ht l]
theorem getL_unset (s : Bytes) : ∀ l : List Two, getL (l.filter (notB s)) s = none
  | [] => rfl
  | x :: l => by
    rw [List.filter_cons]
    cases hx : (x.name == s)
    · have : notB s x = true := by simp [notB, hx]
      rw [if_pos this, getL_cons, hx]; exact getL_unset s l
    · have : notB s x = false := by simp [notB, hx]
      rw [this]; exact getL_unset s l
theorem getL_unset_other (s t : Bytes) (ht : (t == s) = false) : ∀ l : List Two, getL (l.filter (notB s)) t = getL l t
  | [] => rfl
  | x :: l => by
    rw [List.filter_cons, getL_cons]
    cases hx : (x.name == s)
    · have : notB s x = true := by simp [notB, hx]
      rw [if_pos this, getL_cons, getL_unset_other s t ht l]
    · have h1 : notB s x = false := by simp [notB, hx]
      have h2 : (x.name == t) = false := by
        rw [eq_of_beq hx]; exact bl_symm ht
      rw [h1, h2]; exact getL_unset_other s t ht l

/-! ### what set and unset give may be -/
theorem check_set {l : List Two} {s v : Bytes} (hm : mayB l s v = true) (hf : fullB l s = false) : checkB (setRec s v l) = true := by
  unfold mayB at hm
  simp only [Bool.and_eq_true] at hm
  obtain ⟨⟨h1, h2⟩, h3⟩ := hm
  obtain ⟨h4, h5, h6⟩ := (checkB_iff l).1 h1
  refine (checkB_iff _).2 ⟨?_, ?_, setRec_sorted s v l h6⟩
  · rw [setRec_len]
    rw [fullB_rec] at hf
    cases hh : hasRec s l
    · rw [hh] at hf
      simp at hf
      simp; omega
    · simp; omega
  · intro x hx
    rcases setRec_mem s v l x hx with rfl | hx
    · simp [okTwo, h2, h3]
    · exact h5 x hx
theorem check_unset {l : List Two} (s : Bytes) (h : checkB l = true) : checkB (l.filter (notB s)) = true := by
  obtain ⟨h4, h5, h6⟩ := (checkB_iff l).1 h
  refine (checkB_iff _).2 ⟨Nat.le_trans (List.length_filter_le _ _) h4, fun x hx => h5 x (List.mem_filter.1 hx).1, h6.filter _⟩
theorem full_len {l : List Two} {s : Bytes} (h : checkB l = true) (hf : fullB l s = true) : l.length = 64 := by
  have h1 := ((checkB_iff l).1 h).1
  unfold fullB at hf
  simp only [Bool.and_eq_true, decide_eq_true_eq] at hf
  omega
theorem setR_ok {l : List Two} {s v : Bytes} (hm : mayB l s v = true) (hf : fullB l s = false) : setR l s v = setRec s v l ∧ setE l s v = 0 := by
  unfold setR setE
  rw [hm, hf]
  exact ⟨by simp [setL_rec], by simp⟩
theorem setR_bad {l : List Two} {s v : Bytes} (hm : mayB l s v = false) : setR l s v = [] ∧ setE l s v = 1 := by
  unfold setR setE; rw [hm]; exact ⟨rfl, rfl⟩
theorem setR_full {l : List Two} {s v : Bytes} (hm : mayB l s v = true) (hf : fullB l s = true) : setR l s v = [] ∧ setE l s v = 3 := by
  unfold setR setE; rw [hm, hf]; exact ⟨rfl, rfl⟩
theorem unsetR_ok {l : List Two} {s : Bytes} (h1 : checkB l = true) (h2 : nameB s = true) : unsetR l s = l.filter (notB s) ∧ unsetE l s = 0 := by
  unfold unsetR unsetE; rw [h1, h2]; exact ⟨rfl, rfl⟩
theorem unsetR_bad {l : List Two} {s : Bytes} (h : (checkB l && nameB s) = false) : unsetR l s = [] ∧ unsetE l s = 1 := by
  unfold unsetR unsetE; rw [h]; exact ⟨rfl, rfl⟩
end Go.Proofs.YtgikmippclcimaaGreatDoor
