/- The lines of a text with a byte 10 behind each; the lines of two texts. No program is named here. -/
import Derived.Test.YtfedkhicckgjaaaGreatDoorBaseA
namespace Go.Proofs.YtfedkhicckgjaaaGreatDoor
set_option linter.unusedVariables false

def joinNL (l : List Bytes) : Bytes := l.flatMap fun x => x ++ [10]
theorem joinNL_split : ∀ s : Bytes, joinNL (splitNL s) = s ++ [10]
  | [] => rfl
  | c :: r => by
    have ih := joinNL_split r
    by_cases h : c = 10
    · subst h
      rw [splitNL_ten]
      show [] ++ [10] ++ joinNL (splitNL r) = _
      rw [ih]; rfl
    · obtain ⟨p, ps, e⟩ := splitNL_cons r
      rw [splitNL_other h e]
      rw [e] at ih
      show c :: (p ++ [10]) ++ joinNL ps = _
      show c :: ((p ++ [10]) ++ joinNL ps) = _
      have h2 : (p ++ [10]) ++ joinNL ps = r ++ [10] := ih
      rw [h2]; rfl
theorem splitNL_app (s t : Bytes) : splitNL (s ++ 10 :: t) = splitNL s ++ splitNL t := by
  induction s with
  | nil => rw [List.nil_append, splitNL_ten]; rfl
  | cons c r ih =>
    by_cases h : c = 10
    · subst h; rw [List.cons_append, splitNL_ten, splitNL_ten, ih]; rfl
    · obtain ⟨p, ps, e⟩ := splitNL_cons r
      rw [List.cons_append, splitNL_other h e, splitNL_other h (p := p) (ps := ps ++ splitNL t) (by rw [ih, e]; rfl)]; rfl
theorem linesP_nil : linesP [] = [] := rfl
theorem linesP_end (s : Bytes) : linesP (s ++ [10]) = splitNL s := by
  unfold linesP trimNL
  rw [if_neg (by simp), if_pos (by simp)]; simp
theorem linesP_other {s : Bytes} (h0 : s ≠ []) (h : s.getLast? ≠ some 10) : linesP s = splitNL s := by
  unfold linesP trimNL
  rw [if_neg h0, if_neg h]
theorem ends10 {s : Bytes} (h : s.getLast? = some 10) : ∃ r, s = r ++ [10] := by
  obtain ⟨r, hr⟩ := List.getLast?_eq_some_iff.1 h
  exact ⟨r, hr⟩
/-- all lines with a byte 10 behind each -/
theorem join_ends {s : Bytes} (h : s.getLast? = some 10) : joinNL (linesP s) = s := by
  obtain ⟨r, rfl⟩ := ends10 h
  rw [linesP_end, joinNL_split]
theorem join_other {s : Bytes} (h0 : s ≠ []) (h : s.getLast? ≠ some 10) : joinNL (linesP s) = s ++ [10] := by
  rw [linesP_other h0 h, joinNL_split]
theorem join_any (s : Bytes) : joinNL (linesP s) = s ∨ joinNL (linesP s) = s ++ [10] := by
  by_cases h0 : s = []
  · subst h0; exact .inl rfl
  · by_cases h : s.getLast? = some 10
    · exact .inl (join_ends h)
    · exact .inr (join_other h0 h)
theorem linesP_app (s t : Bytes) : linesP (s ++ 10 :: t) = splitNL s ++ linesP t := by
  by_cases ht : t = []
  · subst ht; rw [linesP_end, linesP_nil, List.append_nil]
  · by_cases h : t.getLast? = some 10
    · obtain ⟨r, rfl⟩ := ends10 h
      have e : s ++ 10 :: (r ++ [10]) = (s ++ 10 :: r) ++ [10] := by simp
      rw [e, linesP_end, linesP_end, splitNL_app]
    · have h2 : (s ++ 10 :: t).getLast? ≠ some 10 := by
        have e : (s ++ 10 :: t).getLast? = t.getLast? := by
          rw [List.getLast?_append, List.getLast?_cons]
          cases hq : t.getLast? with
          | none => exact absurd (List.getLast?_eq_none_iff.1 hq) ht
          | some x => simp
        rw [e]; exact h
      rw [linesP_other (by simp) h2, linesP_other ht h, splitNL_app]
theorem parts_ends {s : Bytes} (t : Bytes) (h : s.getLast? = some 10) : linesP (s ++ t) = linesP s ++ linesP t := by
  obtain ⟨r, rfl⟩ := ends10 h
  rw [List.append_assoc]
  show linesP (r ++ 10 :: t) = _
  rw [linesP_app, linesP_end]
theorem parts_other {s : Bytes} (t : Bytes) (h0 : s ≠ []) (h : s.getLast? ≠ some 10) : linesP (s ++ [10] ++ t) = linesP s ++ linesP t := by
  rw [List.append_assoc]
  show linesP (s ++ 10 :: t) = _
  rw [linesP_app, linesP_other h0 h]
end Go.Proofs.YtfedkhicckgjaaaGreatDoor
