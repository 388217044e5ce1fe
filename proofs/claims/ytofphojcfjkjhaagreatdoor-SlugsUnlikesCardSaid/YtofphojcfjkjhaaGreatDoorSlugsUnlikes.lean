/- The law binderylaw13.SlugsUnlikes returns true for every input, and each argument reads afterwards as it read before. No condition. -/
import Derived.Test.YtofphojcfjkjhaaGreatDoorLawUn
import Derived.Test.YtofphojcfjkjhaaGreatDoorFrameX
import Derived.Test.YtofphojcfjkjhaaGreatDoorCards
import Derived.Test.YtofphojcfjkjhaaGreatDoorTie
import Derived.SevenTiedAt
import Derived.LaidMore
import Derived.Stop.Joined
import Derived.Test.YtofphojcfjkjhaaGreatDoorOpen
namespace Go.Proofs.YtofphojcfjkjhaaGreatDoor.slugsUnlikes
open Go.ChangeShapes Go.WideShapes Go.ChangeAt Go.RowKit
open Go.ChangeMaps (open_string shut_string)
set_option linter.unusedVariables false

set_option maxRecDepth 100000 in
theorem walks : WalksCX Tryz.checked 3 Tryz.f3 Rows.slugsUnlikesRow.laid := by
  intro H enc W base args ds ps hval0 hA0 hsz hx
  have hval : ∀ (j : Nat) t v, Tryz.f3.params[j]? = some t → args[j]? = some v → Value.okWide Tryz.prog W .any base t v := hval0
  have hA : DataW.TrodAll enc Tryz.prog W 0 (fun _ => true) true Tryz.f3.params.toList args.toList ds ps := hA0
  rw [Tryz.params3] at hA hval hsz
  obtain ⟨v0, vs0, d0, ds0, p0, q0, hargs, rfl, rfl, h0, r0⟩ := trodAll_cons hA
  obtain ⟨rfl, rfl, rfl⟩ := trodAll_nil r0
  obtain rfl : args = #[v0] := by cases args; simp_all
  obtain ⟨a0, c0, l0, rfl, A0, G0, N0, C0⟩ := open_sl (α := Bytes) (good := fun y : Bytes => y.length ≤ reachBytes) (sz := 1) (encE := encS) Tryz.underlying22 (by kernel_rfl) (by decide) (fun n cs x hx hs => el_str Tryz.underlying9 n cs x hx hs) (okWide_slice Tryz.underlying22 (hval 0 22 v0 rfl rfl)) h0 (sized_arg hsz (j := 0) rfl rfl)
  have M0 : l0.length * 16 ≤ reachBytes := by have h := N0; rwa [show Tryz.prog.bytesOf 9 = 16 from by kernel_rfl] at h
  have htab : Lib.TabIs Tryz.prog W "internal/strconv.uint64pow10" .u64 Lib.pow10Tab := tab_pow10 (laidMetH.filter (fun x => x.1 == "internal/strconv.uint64pow10") hx)
  exact walk_SlugsUnlikes W a0 c0 l0 A0 (Nat.le_trans (Nat.le_mul_of_pos_right _ (by decide)) M0) G0 htab

abbrev laid3 := Rows.slugsUnlikesRow.laid

set_option maxRecDepth 100000 in
theorem door_met (os : Os) (args : Array Value) : laidMetH Tryz.prog laid3 ((World.doorLaid Tryz.prog 24 os).forCall (fun _ _ => 0) ⟨#[], args, []⟩).memory :=
  laidMetH_of_parts3 (fuel := 8) (laidMet_of_run' 8 (by kernel_rfl) (by kernel_rfl)) (by kernel_rfl) (by kernel_rfl)

set_option maxRecDepth 100000 in
theorem lifted (os : Os) (started : os.Started) (H : Type) (enc : TypeId × Value → H) :
    ReturnsInHanded {} Tryz.checked os 3 .any (fun w args => (Rows.slugsUnlikesSpec.pre enc Tryz.prog Tryz.f3 [] false w args ∧ laidMetH Tryz.prog laid3 w) ∧ sizedMet enc Tryz.prog Tryz.f3 (OpenSpec.ofChange Rows.slugsUnlikesSpec) false w args) (Rows.slugsUnlikesSpec.post enc Tryz.prog Tryz.f3 false true false false) :=
  card_liftX (s := Rows.slugsUnlikesSpec) started rfl Tryz.func3 (by kernel_rfl) rfl (by
      intro t ht
      rw [Tryz.params3] at ht
      simp at ht
      rcases ht with rfl <;> exact ⟨by kernel_rfl, of_decide_eq_true (by kernel_rfl)⟩)
    (by
      intro ds h
      have h' : ds.length = 1 := h
      match ds, h' with
      | [d1], _ => rfl)
    laid3
    (ChangeSpec.witness_shaped (enc := enc) (C := Tryz.checked) (os := os) (X := fun w _ => laidMetH Tryz.prog laid3 w) false (World.doorLaid Tryz.prog 24 os) #[.slice none 0 0] 8 rfl (World.shaped_of_RefB (by kernel_rfl) (by kernel_rfl)) (by kernel_rfl) (by kernel_rfl) (by kernel_rfl) (door_met os _)) walks

theorem row_holds : Rows.SlugsUnlikesSaid :=
  OpenClaim.holds_of_wide 3 Tryz.f3 rfl rfl rfl rfl rfl rfl rfl ⟨rfl, rfl, rfl, rfl, rfl⟩ rfl rfl rfl rfl rfl (by kernel_rfl) Tryz.func3 (by kernel_rfl)
    (of_decide_eq_true (by kernel_rfl)) (by unfold Func.isWrapper; first | (rw [if_pos (by decide +kernel)]; kernel_rfl) | (rw [if_neg (by decide +kernel)]; exact ⟨rfl, rfl⟩))
    (fun os started H enc _ => lifted os started H enc)
theorem proved : Rows.SlugsUnlikesCardSaid :=
  Claim7.holds_tied_plain_at .later [] [.data, .data, .data] true (true, "a2e2ed6eaa41909c2a508f503c0e2f1c541af153854da7971a21d42cea8e9849") false
    row_holds (fun _ h => by cases h) (by kernel_rfl) (fun _ h => by cases h) slugsUnlikes_row_tie rfl ⟨rfl, rfl⟩ (by kernel_rfl) rfl
    (fun f fn hf hfn => by
      obtain rfl : f = 3 := Option.some.inj ((show Tryz.prog.funcNamed "bindery/binderylaw13.SlugsUnlikes" = some 3 by kernel_rfl).symm.trans hf) |>.symm
      obtain rfl : fn = Tryz.f3 := (Option.some.inj (Tryz.func3.symm.trans hfn)).symm
      exact ⟨by kernel_rfl, fun j t ht => by
        rw [Tryz.params3] at ht
        match j, ht with
        | 0, ht => (simp at ht; subst ht; exact (show Tryz.prog.wantsStandIn 22 = false by kernel_rfl))
        | j + 1, ht => simp at ht⟩)
    (by kernel_rfl)
#print axioms proved
end Go.Proofs.YtofphojcfjkjhaaGreatDoor.slugsUnlikes
