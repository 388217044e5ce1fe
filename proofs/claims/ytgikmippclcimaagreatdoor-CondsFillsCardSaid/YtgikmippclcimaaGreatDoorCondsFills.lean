/- The law binderylaw04.CondsFills returns true for every input, and each argument reads afterwards as it read before. No condition. -/
import Derived.Test.YtgikmippclcimaaGreatDoorLawF
import Derived.Test.YtgikmippclcimaaGreatDoorFrameC
import Derived.Test.YtgikmippclcimaaGreatDoorCards
import Derived.Test.YtgikmippclcimaaGreatDoorTie
import Derived.SevenTiedAt
import Derived.LaidMore
import Derived.Stop.Joined
import Derived.Test.YtgikmippclcimaaGreatDoorOpen
namespace Go.Proofs.YtgikmippclcimaaGreatDoor.condsFills
open Go.ChangeShapes Go.WideShapes Go.ChangeAt Go.RowKit
open Go.ChangeMaps (open_string shut_string)
set_option linter.unusedVariables false

set_option maxRecDepth 100000 in
theorem walks : WalksC Tryz.checked 5 Tryz.f5 := by
  intro H enc W base args ds ps hval0 hA0 hsz
  have hval : ∀ (j : Nat) t v, Tryz.f5.params[j]? = some t → args[j]? = some v → Value.okWide Tryz.prog W .any base t v := hval0
  have hA : DataW.TrodAll enc Tryz.prog W 0 (fun _ => true) true Tryz.f5.params.toList args.toList ds ps := hA0
  rw [Tryz.params5] at hA hval hsz
  obtain ⟨v0, vs0, d0, ds0, p0, q0, hargs, rfl, rfl, h0, r0⟩ := trodAll_cons hA
  obtain ⟨v1, vs1, d1, ds1, p1, q1, rfl, rfl, rfl, h1, r1⟩ := trodAll_cons r0
  obtain ⟨rfl, rfl, rfl⟩ := trodAll_nil r1
  obtain rfl : args = #[v0, v1] := by cases args; simp_all
  obtain ⟨a0, c0, l0, rfl, A0, G0, N0, C0⟩ := open_sl (α := Two) (good := fun y : Two => y.name.length ≤ reachBytes ∧ y.value.length ≤ reachBytes) (sz := 2) (encE := encT) Tryz.underlying22 (by kernel_rfl) (by decide) (fun n cs x hx hs => el_two Tryz.underlying59 (by kernel_rfl) ⟨rfl, rfl⟩ ⟨rfl, rfl⟩ (by kernel_rfl) Tryz.underlying9 n cs x hx hs) (okWide_slice Tryz.underlying22 (hval 0 22 v0 rfl rfl)) h0 (sized_arg hsz (j := 0) rfl rfl)
  have M0 : l0.length * 32 ≤ reachBytes := by have h := N0; rwa [show Tryz.prog.bytesOf 59 = 32 from by kernel_rfl] at h
  obtain ⟨a1, rfl, rfl, rfl, w1⟩ := open_string Tryz.underlying9 (hval 1 9 v1 rfl rfl) h1
  have b1 : a1.size ≤ reachBytes := by simpa using sized_string hsz (j := 1) rfl rfl
  obtain ⟨s1, rfl⟩ := bytes_of a1
  rw [size_mk] at b1
  exact walk_CondsFills W a0 c0 l0 A0 (Nat.le_trans (Nat.le_mul_of_pos_right _ (by decide)) M0) G0 s1 b1

abbrev laid3 := Rows.condsFillsRow.laid

set_option maxRecDepth 100000 in
theorem door_met (os : Os) (args : Array Value) : laidMetH Tryz.prog laid3 ((World.doorLaid Tryz.prog 24 os).forCall (fun _ _ => 0) ⟨#[], args, []⟩).memory :=
  laidMetH_of_parts3 (fuel := 8) (laidMet_of_run' 8 (by kernel_rfl) (by kernel_rfl)) (by kernel_rfl) (by kernel_rfl)

set_option maxRecDepth 100000 in
theorem lifted (os : Os) (started : os.Started) (H : Type) (enc : TypeId × Value → H) :
    ReturnsInHanded {} Tryz.checked os 5 .any (fun w args => (Rows.condsFillsSpec.pre enc Tryz.prog Tryz.f5 [] false w args ∧ laidMetH Tryz.prog laid3 w) ∧ sizedMet enc Tryz.prog Tryz.f5 (OpenSpec.ofChange Rows.condsFillsSpec) false w args) (Rows.condsFillsSpec.post enc Tryz.prog Tryz.f5 false true false false) :=
  card_lift (s := Rows.condsFillsSpec) started rfl Tryz.func5 (by kernel_rfl) rfl (by
      intro t ht
      rw [Tryz.params5] at ht
      simp at ht
      rcases ht with rfl | rfl <;> exact ⟨by kernel_rfl, of_decide_eq_true (by kernel_rfl)⟩)
    (by
      intro ds h
      have h' : ds.length = 2 := h
      match ds, h' with
      | [d1, d2], _ => rfl)
    (fun w _ => laidMetH Tryz.prog laid3 w) (fun _ _ _ hh h => h.of_heap hh)
    (ChangeSpec.witness_shaped (enc := enc) (C := Tryz.checked) (os := os) (X := fun w _ => laidMetH Tryz.prog laid3 w) false (World.doorLaid Tryz.prog 24 os) #[.slice none 0 0, .string ByteArray.empty] 8 rfl (World.shaped_of_RefB (by kernel_rfl) (by kernel_rfl)) (by kernel_rfl) (by kernel_rfl) (by kernel_rfl) (door_met os _)) walks

theorem row_holds : Rows.CondsFillsSaid :=
  OpenClaim.holds_of_wide 5 Tryz.f5 rfl rfl rfl rfl rfl rfl rfl ⟨rfl, rfl, rfl, rfl, rfl⟩ rfl rfl rfl rfl rfl (by kernel_rfl) Tryz.func5 (by kernel_rfl)
    (of_decide_eq_true (by kernel_rfl)) (by unfold Func.isWrapper; first | (rw [if_pos (by decide +kernel)]; kernel_rfl) | (rw [if_neg (by decide +kernel)]; exact ⟨rfl, rfl⟩))
    (fun os started H enc _ => lifted os started H enc)
theorem proved : Rows.CondsFillsCardSaid :=
  Claim7.holds_tied_plain_at .later [] [.data, .data, .data] true (true, "c938857c52e0af9c1c7cb867847ad2e7546c4626506e2f441fa55d404afa8e4c") false
    row_holds (fun _ h => by cases h) (by kernel_rfl) (fun _ h => by cases h) condsFills_row_tie rfl ⟨rfl, rfl⟩ (by kernel_rfl) rfl
    (fun f fn hf hfn => by
      obtain rfl : f = 5 := Option.some.inj ((show Tryz.prog.funcNamed "bindery/binderylaw04.CondsFills" = some 5 by kernel_rfl).symm.trans hf) |>.symm
      obtain rfl : fn = Tryz.f5 := (Option.some.inj (Tryz.func5.symm.trans hfn)).symm
      exact ⟨by kernel_rfl, fun j t ht => by
        rw [Tryz.params5] at ht
        match j, ht with
        | 0, ht => (simp at ht; subst ht; exact (show Tryz.prog.wantsStandIn 22 = false by kernel_rfl))
        | 1, ht => (simp at ht; subst ht; exact (show Tryz.prog.wantsStandIn 9 = false by kernel_rfl))
        | j + 2, ht => simp at ht⟩)
    (by kernel_rfl)
#print axioms proved
end Go.Proofs.YtgikmippclcimaaGreatDoor.condsFills
