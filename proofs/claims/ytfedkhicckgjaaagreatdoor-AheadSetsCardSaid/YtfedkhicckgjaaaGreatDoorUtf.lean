/- What the reading of a text rune by rune passes over. No program is named here. -/
import Derived.Laws.RangeAny
namespace Go.Proofs.YtfedkhicckgjaaaGreatDoor
set_option linter.unusedVariables false

theorem decode_skip (s : ByteArray) (pos : Nat) (h : pos < s.size) : 1 ≤ (Utf8.decode s pos).2 ∧ ∀ k, 1 ≤ k → k < (Utf8.decode s pos).2 → pos + k < s.size ∧ 128 ≤ (s.get! (pos + k)).toNat := by
  simp only [Utf8.decode]
  repeat' split
  all_goals refine ⟨by omega, fun k h1 h2 => ?_⟩
  all_goals try (exfalso; omega)
  all_goals simp only [Bool.and_eq_true, decide_eq_true_eq, beq_iff_eq] at *
  all_goals (obtain rfl | rfl | rfl : k = 1 ∨ k = 2 ∨ k = 3 := by omega)
  all_goals first | (exfalso; omega) | (constructor <;> omega)
end Go.Proofs.YtfedkhicckgjaaaGreatDoor
