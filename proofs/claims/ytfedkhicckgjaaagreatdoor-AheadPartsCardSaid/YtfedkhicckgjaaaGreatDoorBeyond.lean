/- The laws' early end: what binderylaw01.Beyond answers. -/
import Derived.Test.YtfedkhicckgjaaaGreatDoorPure
namespace Go.Proofs.YtfedkhicckgjaaaGreatDoor
open Go.RowKit

/-! the law's early end: are sizes, taken together, beyond what is gone through? -/
def beyondB (n : Nat) : Bool := decide (1048576 < n)
theorem beyondB_le {n : Nat} (h : beyondB n = false) : n ≤ 1048576 := by simpa [beyondB] using h

def maxI : Int := 9223372036854775807

set_option maxHeartbeats 400000 in
theorem beyond1 (n : Nat) (b : Nat) (w : World) (hc : w.cell? ⟨b, 0, none⟩ = some (.int .i64 n)) (hn : n ≤ 140737488351232) :
    Calls Tryz.prog 10 #[.slice (some ⟨b, 0, none⟩) 1 1] w fun e w' => e = .returned (.bool (beyondB n)) ∧ w = w' := by
  by_cases h : 1048576 < n
  · have hr : beyondB n = true := by simpa [beyondB] using h
    rw [hr]
    go_enter Tryz.func10, Tryz.ntmps10
    go_wp2
    refine wp_loop_rounds 2 ?_
    repeat any_goals (rw [rounds_succ]; go_wp2)
    go_ret
    exact ⟨rfl, rfl⟩
  · have hr : beyondB n = false := by simpa [beyondB] using h
    rw [hr]
    go_enter Tryz.func10, Tryz.ntmps10
    go_wp2
    refine wp_loop_rounds 2 ?_
    repeat any_goals (rw [rounds_succ]; go_wp2)
    go_ret
    exact ⟨rfl, rfl⟩

set_option maxHeartbeats 800000 in
theorem beyond2 (n m : Nat) (b : Nat) (w : World) (hc : w.cell? ⟨b, 0, none⟩ = some (.int .i64 n)) (hc1 : w.cell? ⟨b, 1, none⟩ = some (.int .i64 m)) (hn : n ≤ 140737488351232) (hm : m ≤ 140737488351232) :
    Calls Tryz.prog 10 #[.slice (some ⟨b, 0, none⟩) 2 2] w fun e w' => e = .returned (.bool (beyondB (n + m))) ∧ w = w' := by
  by_cases h : 1048576 < n
  · have hr : beyondB (n + m) = true := by simp [beyondB]; omega
    rw [hr]
    go_enter Tryz.func10, Tryz.ntmps10
    go_wp2
    refine wp_loop_rounds 3 ?_
    repeat any_goals (rw [rounds_succ]; go_wp2)
    go_ret
    exact ⟨rfl, rfl⟩
  · by_cases h2 : 1048576 < n + m
    · have hr : beyondB (n + m) = true := by simp [beyondB]; omega
      rw [hr]
      go_enter Tryz.func10, Tryz.ntmps10
      go_wp2
      refine wp_loop_rounds 3 ?_
      repeat any_goals (rw [rounds_succ]; go_wp2)
      go_ret
      exact ⟨rfl, rfl⟩
    · have hr : beyondB (n + m) = false := by simp [beyondB]; omega
      rw [hr]
      go_enter Tryz.func10, Tryz.ntmps10
      go_wp2
      refine wp_loop_rounds 3 ?_
      repeat any_goals (rw [rounds_succ]; go_wp2)
      go_ret
      exact ⟨rfl, rfl⟩
end Go.Proofs.YtfedkhicckgjaaaGreatDoor
