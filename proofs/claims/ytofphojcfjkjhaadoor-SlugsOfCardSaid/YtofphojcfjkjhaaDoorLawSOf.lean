/- The law SlugsOf, walked. -/
import Derived.Test.YtofphojcfjkjhaaDoorOf
import Derived.Test.YtofphojcfjkjhaaDoorROf
import Derived.Test.YtofphojcfjkjhaaDoorBeyond
namespace Go.Proofs.YtofphojcfjkjhaaDoor
open Go.RowKit
set_option linter.unusedVariables false

theorem reach_le {n : Nat} (h : n ≤ reachBytes) : n ≤ 140737488351232 := h
set_option maxHeartbeats 2000000 in
theorem walk_SlugsOf (w : World) (s : Bytes) (hs : s.length ≤ reachBytes) :
    Calls Tryd.prog 3 #[.string ⟨s.toArray⟩] w fun e w' => e = .returned (.bool true) ∧ Below w.heap.size w w' := by
  have hs' := reach_le hs
  go_enter Tryd.func3, Tryd.ntmps3
  go_wp2_with fail
  refine (beyond1 s.length w.heap.size _ (by simp) (by omega)).mono ?_
  rintro e w1 ⟨rfl, rfl⟩
  have hb1 := (Below.refl w.heap.size w).alloc (Nat.le_refl _) (.cells #[.int .i64 s.length] 3)
  cases hB : beyondB s.length
  · have hle := beyondB_le hB
    go_wp2_with fail
    refine (of_any s _ (by omega)).mono ?_
    rintro e w2 ⟨rfl, hb2⟩
    go_wp2_with fail
    refine (rof_any s _ (by omega)).mono ?_
    rintro e w3 ⟨rfl, hb3⟩
    go_wp2_with fail
    go_ret
    exact ⟨rfl, (hb1.trans (hb2.mono (by simp))).trans (hb3.mono (Nat.le_trans (by simp) hb2.size))⟩
  · go_wp2_with fail
    go_ret
    exact ⟨rfl, hb1⟩
end Go.Proofs.YtofphojcfjkjhaaDoor
