/- binderylaw01.SameLines, SameDiags: of lists that read alike. -/
import Derived.Test.YtfedkhicckgjaaaGreatDoorRdTwo
import Derived.Deep.QuietTactic
import Derived.BigQuiet
import Derived.Laws.StructEq
namespace Go.Proofs.YtfedkhicckgjaaaGreatDoor
open Go.RowKit
set_option linter.unusedVariables false

set_option maxHeartbeats 4000000 in
set_option maxRecDepth 100000 in
theorem sameLines_any (a1 : Option Addr) (c1 : Nat) (a2 : Option Addr) (c2 : Nat) (l : List Pl) (w : World) (hn : l.length ≤ 1048576) (hT : At w 3 encL a1 l) (hA : At w 3 encL a2 l) :
    Calls Tryz.prog 28 #[.slice a1 l.length c1, .slice a2 l.length c2] w fun e w' => e = .returned (.bool true) ∧ Below w.heap.size w w' := by
  have HA := Lib.hid hA
  have HT := Lib.hid hT
  clear hA hT
  go_enter Tryz.func28, Tryz.ntmps28
  go_wp2_with fail
  go_loopw [5] (fun v5 wr => ∃ k : Nat, k ≤ l.length ∧ v5 = .int .i64 k ∧ Below w.heap.size w wr) (fun v5 _ => l.length - (intOf v5).toNat)
  case atStart => exact ⟨0, by omega, rfl, Below.refl _ _⟩
  case round =>
    obtain ⟨k, hk, rfl, hb⟩ := hrel
    have hk0 : (0 : Int) ≤ (k : Int) := by omega
    by_cases hlt : k < l.length
    · have hk1 : (k : Int) < (l.length : Int) := by omega
      obtain ⟨b1, off1, ha1, hbl1, hc1⟩ := (HT.out.below hb).elem hlt
      obtain ⟨b2, off2, ha2, hbl2, hc2⟩ := (HA.out.below hb).elem hlt
      subst ha1 ha2
      generalize l[k] = x at *
      have d0 := hc1 0 (.string ⟨x.file.toArray⟩) rfl
      have d1 := hc1 1 (.int .i64 x.no) rfl
      have d2 := hc1 2 (.string ⟨x.text.toArray⟩) rfl
      have g0 := hc2 0 (.string ⟨x.file.toArray⟩) rfl
      have g1 := hc2 1 (.int .i64 x.no) rfl
      have g2 := hc2 2 (.string ⟨x.text.toArray⟩) rfl
      rw [Nat.add_zero] at d0 g0
      clear hc1 hc2
      go_wp2_with fail
      go_quiet (fail)
      go_wp2
      go_roundw
      case rel => exact ⟨k + 1, by omega, by go_num, below_drewN hb _⟩
      case measure => simp [intOf]; omega
    · go_wp2_with fail
      go_ret
      exact ⟨rfl, hb⟩

set_option maxHeartbeats 4000000 in
set_option maxRecDepth 100000 in
theorem sameDiags_any (a1 : Option Addr) (c1 : Nat) (a2 : Option Addr) (c2 : Nat) (l : List DiagS) (w : World) (hn : l.length ≤ 1048576) (hT : At w 4 encD a1 l) (hA : At w 4 encD a2 l) :
    Calls Tryz.prog 29 #[.slice a1 l.length c1, .slice a2 l.length c2] w fun e w' => e = .returned (.bool true) ∧ Below w.heap.size w w' := by
  have HA := Lib.hid hA
  have HT := Lib.hid hT
  clear hA hT
  go_enter Tryz.func29, Tryz.ntmps29
  go_wp2_with fail
  go_loopw [5] (fun v5 wr => ∃ k : Nat, k ≤ l.length ∧ v5 = .int .i64 k ∧ Below w.heap.size w wr) (fun v5 _ => l.length - (intOf v5).toNat)
  case atStart => exact ⟨0, by omega, rfl, Below.refl _ _⟩
  case round =>
    obtain ⟨k, hk, rfl, hb⟩ := hrel
    have hk0 : (0 : Int) ≤ (k : Int) := by omega
    by_cases hlt : k < l.length
    · have hk1 : (k : Int) < (l.length : Int) := by omega
      obtain ⟨b1, off1, ha1, hbl1, hc1⟩ := (HT.out.below hb).elem hlt
      obtain ⟨b2, off2, ha2, hbl2, hc2⟩ := (HA.out.below hb).elem hlt
      subst ha1 ha2
      generalize l[k] = x at *
      have d0 := hc1 0 (.string ⟨x.file.toArray⟩) rfl
      have d1 := hc1 1 (.int .i64 x.no) rfl
      have d2 := hc1 2 (.int .i64 x.fault) rfl
      have d3 := hc1 3 (.string ⟨x.text.toArray⟩) rfl
      have g0 := hc2 0 (.string ⟨x.file.toArray⟩) rfl
      have g1 := hc2 1 (.int .i64 x.no) rfl
      have g2 := hc2 2 (.int .i64 x.fault) rfl
      have g3 := hc2 3 (.string ⟨x.text.toArray⟩) rfl
      rw [Nat.add_zero] at d0 g0
      clear hc1 hc2
      go_wp2_with fail
      go_quiet (fail)
      go_wp2
      go_roundw
      case rel => exact ⟨k + 1, by omega, by go_num, below_drewN hb _⟩
      case measure => simp [intOf]; omega
    · go_wp2_with fail
      go_ret
      exact ⟨rfl, hb⟩
end Go.Proofs.YtfedkhicckgjaaaGreatDoor
