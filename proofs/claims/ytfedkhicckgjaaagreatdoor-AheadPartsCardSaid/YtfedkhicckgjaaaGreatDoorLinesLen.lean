/- No text has more lines than bytes. -/
import Derived.Test.YtfedkhicckgjaaaGreatDoorLines
namespace Go.Proofs.YtfedkhicckgjaaaGreatDoor
theorem splitNL_len : ∀ t : Bytes, (splitNL t).length ≤ t.length + 1 := by
  intro t
  induction t with
  | nil => simp [splitNL]
  | cons c r ih =>
    by_cases hc : c = 10
    · subst hc; rw [splitNL_ten]; simp; omega
    · obtain ⟨p, ps, e⟩ := splitNL_cons r
      rw [splitNL_other hc e]
      rw [e] at ih
      simp at ih ⊢; omega
theorem splitNL_pos {s : Bytes} (h : s.getLast? ≠ some 10) (h0 : s ≠ []) : (splitNL s).length ≤ s.length := by
  have hs := (List.dropLast_concat_getLast h0).symm
  generalize hte : s.dropLast = t at hs
  generalize hce : s.getLast h0 = c at hs
  have hc : c ≠ 10 := by
    intro e; apply h; rw [List.getLast?_eq_some_getLast h0, hce, e]
  obtain ⟨xs, y, hxy⟩ : ∃ xs y, splitNL t = xs ++ [y] := ⟨(splitNL t).dropLast, (splitNL t).getLast (splitNL_ne t), (List.dropLast_concat_getLast (splitNL_ne t)).symm⟩
  have h1 := splitNL_len t
  have h2 := splitNL_snoc hc t xs y hxy
  rw [hs, h2]
  rw [hxy] at h1
  simp at h1 ⊢
  omega
theorem linesP_le (s : Bytes) : (linesP s).length ≤ s.length := by
  unfold linesP
  split
  · simp
  · rename_i h0
    by_cases h : s.getLast? = some 10
    · have e : trimNL s = s.dropLast := by unfold trimNL; exact if_pos h
      rw [e]
      have := splitNL_len s.dropLast
      have h2 : 0 < s.length := List.length_pos_iff.2 h0
      simp at this
      omega
    · have e : trimNL s = s := by unfold trimNL; exact if_neg h
      rw [e]
      exact splitNL_pos h h0
end Go.Proofs.YtfedkhicckgjaaaGreatDoor
