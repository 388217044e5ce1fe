/- The law binderylaw05.AheadSets returns true for every input, and each argument reads afterwards as it read before. No condition. -/
import Derived.Test.YtfedkhicckgjaaaGreatDoorLawSt
import Derived.Test.YtfedkhicckgjaaaGreatDoorFrameS
import Derived.Test.YtfedkhicckgjaaaGreatDoorShelf
import Derived.Test.YtfedkhicckgjaaaGreatDoorCards
import Derived.Test.YtfedkhicckgjaaaGreatDoorTie
import Derived.SevenTiedAt
import Derived.LaidMore
import Derived.Stop.Joined
import Derived.Lay
import Derived.Test.YtfedkhicckgjaaaGreatDoorBaseA
namespace Go.Proofs.YtfedkhicckgjaaaGreatDoor.aheadSets
open Go.ChangeShapes Go.WideShapes Go.ChangeAt Go.RowKit
open Go.ChangeMaps (open_string shut_string)
set_option linter.unusedVariables false

set_option maxRecDepth 100000 in
theorem walks : WalksCS Tryz.checked 9 Tryz.f9 Rows.aheadSetsRow.laid := by
  intro H enc W base args ds ps hval0 hA0 hsz hx hsh
  have hval : ∀ (j : Nat) t v, Tryz.f9.params[j]? = some t → args[j]? = some v → Value.okWide Tryz.prog W .any base t v := hval0
  have hA : DataW.TrodAll enc Tryz.prog W 0 (fun _ => true) true Tryz.f9.params.toList args.toList ds ps := hA0
  rw [Tryz.params9] at hA hval hsz
  obtain ⟨v0, vs0, d0, ds0, p0, q0, hargs, rfl, rfl, h0, r0⟩ := trodAll_cons hA
  obtain ⟨v1, vs1, d1, ds1, p1, q1, rfl, rfl, rfl, h1, r1⟩ := trodAll_cons r0
  obtain ⟨rfl, rfl, rfl⟩ := trodAll_nil r1
  obtain rfl : args = #[v0, v1] := by cases args; simp_all
  obtain ⟨a0, rfl, rfl, rfl, w0⟩ := open_string Tryz.underlying9 (hval 0 9 v0 rfl rfl) h0
  have b0 : a0.size ≤ reachBytes := by simpa using sized_string hsz (j := 0) rfl rfl
  obtain ⟨s0, rfl⟩ := bytes_of a0
  rw [size_mk] at b0
  obtain ⟨a1, rfl, rfl, rfl, w1⟩ := open_string Tryz.underlying9 (hval 1 9 v1 rfl rfl) h1
  have b1 : a1.size ≤ reachBytes := by simpa using sized_string hsz (j := 1) rfl rfl
  obtain ⟨s1, rfl⟩ := bytes_of a1
  rw [size_mk] at b1
  exact walk_AheadSets W s0 b0 s1 b1 (Tryz.laysM146.s1_3 W hsh)

abbrev laid3 := Rows.aheadSetsRow.laid


set_option maxRecDepth 100000 in
theorem lifted (os : Os) (started : os.Started) (H : Type) (enc : TypeId × Value → H) :
    ReturnsInHanded {} Tryz.checked os 9 .any (fun w args => (Rows.aheadSetsSpec.pre enc Tryz.prog Tryz.f9 [] false w args ∧ laidMetH Tryz.prog laid3 w) ∧ sizedMet enc Tryz.prog Tryz.f9 (OpenSpec.ofChange Rows.aheadSetsSpec) false w args) (Rows.aheadSetsSpec.post enc Tryz.prog Tryz.f9 false true false false) :=
  card_liftS (s := Rows.aheadSetsSpec) started rfl Tryz.func9 (by kernel_rfl) rfl (by
      intro t ht
      rw [Tryz.params9] at ht
      simp at ht
      rcases ht with rfl <;> exact ⟨by kernel_rfl, of_decide_eq_true (by kernel_rfl)⟩)
    (by
      intro ds h
      have h' : ds.length = 2 := h
      match ds, h' with
      | [d1, d2], _ => rfl)
    laid3
    (ChangeSpec.witness_shaped (enc := enc) (C := Tryz.checked) (os := os) (X := fun w _ => laidMetH Tryz.prog laid3 w) false (World.laidAll Tryz.prog os laid3) #[.string ByteArray.empty, .string ByteArray.empty] 8 (World.laidAll_os _ _ _) (World.shaped_of_ZipB (by kernel_rfl) (by kernel_rfl)) (by kernel_rfl) (by kernel_rfl) (by kernel_rfl) (by rw [MakeChecks.laidMetH_plain _ _ _ (by kernel_rfl)]; exact laidMet_laidAll _ (by kernel_rfl) (by kernel_rfl))) walks

theorem row_holds : Rows.AheadSetsSaid :=
  OpenClaim.holds_of_wide 9 Tryz.f9 rfl rfl rfl rfl rfl rfl rfl ⟨rfl, rfl, rfl, rfl, rfl⟩ rfl rfl rfl rfl rfl (by kernel_rfl) Tryz.func9 (by kernel_rfl)
    (of_decide_eq_true (by kernel_rfl)) (by unfold Func.isWrapper; first | (rw [if_pos (by decide +kernel)]; kernel_rfl) | (rw [if_neg (by decide +kernel)]; exact ⟨rfl, rfl⟩))
    (fun os started H enc _ => lifted os started H enc)
theorem proved : Rows.AheadSetsCardSaid :=
  Claim7.holds_tied_plain_at .later [] [.data, .pinned] true (true, "498033c3e57c88556a439c757f1fb5daed9d74a32b2bbc96e308fb9526e8b4bd") true
    row_holds (fun _ h => by cases h) (by kernel_rfl) (fun _ h => by cases h) aheadSets_row_tie rfl ⟨rfl, rfl⟩ (by kernel_rfl) rfl
    (fun f fn hf hfn => by
      obtain rfl : f = 9 := Option.some.inj ((show Tryz.prog.funcNamed "bindery/binderylaw05.AheadSets" = some 9 by kernel_rfl).symm.trans hf) |>.symm
      obtain rfl : fn = Tryz.f9 := (Option.some.inj (Tryz.func9.symm.trans hfn)).symm
      exact ⟨by kernel_rfl, fun j t ht => by
        rw [Tryz.params9] at ht
        match j, ht with
        | 0, ht => (simp at ht; subst ht; exact (show Tryz.prog.wantsStandIn 9 = false by kernel_rfl))
        | 1, ht => (simp at ht; subst ht; exact (show Tryz.prog.wantsStandIn 9 = false by kernel_rfl))
        | j + 2, ht => simp at ht⟩)
    (by kernel_rfl)
#print axioms proved
end Go.Proofs.YtfedkhicckgjaaaGreatDoor.aheadSets
