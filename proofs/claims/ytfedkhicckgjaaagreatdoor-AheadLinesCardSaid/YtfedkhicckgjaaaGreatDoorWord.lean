/- binderylaw01.word: a mark as a text. -/
import Derived.Test.YtfedkhicckgjaaaGreatDoorHeld
namespace Go.Proofs.YtfedkhicckgjaaaGreatDoor
open Go.RowKit
set_option linter.unusedVariables false

def digB (n : Nat) : UInt8 := UInt8.ofNat (48 + n)
def wordB (n : Nat) : Bytes := [35, digB n]
set_option maxHeartbeats 1000000 in
theorem small_any (n : Nat) (w : World) (hn : n < 10) : Calls Tryz.prog 252 #[.int .i64 n] w fun e w' => e = .returned (.string ⟨#[digB n]⟩) ∧ w = w' := by
  have h10 : n = 0 ∨ n = 1 ∨ n = 2 ∨ n = 3 ∨ n = 4 ∨ n = 5 ∨ n = 6 ∨ n = 7 ∨ n = 8 ∨ n = 9 := by omega
  rcases h10 with rfl | rfl | rfl | rfl | rfl | rfl | rfl | rfl | rfl | rfl
  all_goals
    go_enter Tryz.func252, Tryz.ntmps252
    go_wp2_with fail
    go_ret
    exact ⟨by kernel_rfl, rfl⟩
set_option maxHeartbeats 1000000 in
theorem word_any (n : Nat) (w : World) (hn : n < 10) : Calls Tryz.prog 146 #[.int .i64 n] w fun e w' => e = .returned (.string ⟨(wordB n).toArray⟩) ∧ w = w' := by
  go_enter Tryz.func146, Tryz.ntmps146
  go_wp2_with (first | (go_at_call 252; refine (small_any n _ hn).mono ?_; rintro e w' ⟨rfl, rfl⟩) | (go_at_call 172; go_in) | (go_at_call 218; go_in) | (go_at_call 242; go_in))
  go_ret
  exact ⟨rfl, rfl⟩
end Go.Proofs.YtfedkhicckgjaaaGreatDoor
