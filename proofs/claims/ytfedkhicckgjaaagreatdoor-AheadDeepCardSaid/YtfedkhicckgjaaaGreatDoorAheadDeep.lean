/- The law binderylaw05.AheadDeep returns true for every input, and each argument reads afterwards as it read before. No condition. -/
import Derived.Test.YtfedkhicckgjaaaGreatDoorLawDp
import Derived.Test.YtfedkhicckgjaaaGreatDoorFrameS
import Derived.Test.YtfedkhicckgjaaaGreatDoorShelf
import Derived.Test.YtfedkhicckgjaaaGreatDoorCards
import Derived.Test.YtfedkhicckgjaaaGreatDoorTie
import Derived.SevenTiedAt
import Derived.LaidMore
import Derived.Stop.Joined
import Derived.Lay
import Derived.Test.YtfedkhicckgjaaaGreatDoorBaseA
namespace Go.Proofs.YtfedkhicckgjaaaGreatDoor.aheadDeep
open Go.ChangeShapes Go.WideShapes Go.ChangeAt Go.RowKit
open Go.ChangeMaps (open_string shut_string)
set_option linter.unusedVariables false

set_option maxRecDepth 100000 in
theorem walks : WalksCS Tryz.checked 6 Tryz.f6 Rows.aheadDeepRow.laid := by
  intro H enc W base args ds ps hval0 hA0 hsz hx hsh
  have hval : ∀ (j : Nat) t v, Tryz.f6.params[j]? = some t → args[j]? = some v → Value.okWide Tryz.prog W .any base t v := hval0
  have hA : DataW.TrodAll enc Tryz.prog W 0 (fun _ => true) true Tryz.f6.params.toList args.toList ds ps := hA0
  rw [Tryz.params6] at hA hval hsz
  obtain ⟨v0, vs0, d0, ds0, p0, q0, hargs, rfl, rfl, h0, r0⟩ := trodAll_cons hA
  obtain ⟨v1, vs1, d1, ds1, p1, q1, rfl, rfl, rfl, h1, r1⟩ := trodAll_cons r0
  obtain ⟨rfl, rfl, rfl⟩ := trodAll_nil r1
  obtain rfl : args = #[v0, v1] := by cases args; simp_all
  obtain ⟨a0, rfl, rfl, rfl, w0⟩ := open_string Tryz.underlying9 (hval 0 9 v0 rfl rfl) h0
  have b0 : a0.size ≤ reachBytes := by simpa using sized_string hsz (j := 0) rfl rfl
  obtain ⟨s0, rfl⟩ := bytes_of a0
  rw [size_mk] at b0
  obtain ⟨a1, rfl, rfl, rfl, w1⟩ := open_int Tryz.underlying5 (hval 1 5 v1 rfl rfl) h1
  obtain ⟨n1, rfl, b1⟩ : ∃ n : Nat, a1 = (n : Int) ∧ n < 256 := by
    simp only [Lit.wf, Bool.and_eq_true, IntKind.min, IntKind.max, IntKind.signed, IntKind.bits] at w1
    simp at w1
    exact ⟨a1.toNat, by omega, by omega⟩
  exact walk_AheadDeep W s0 b0 n1 b1 (Tryz.laysM146.s1_3 W hsh)

abbrev laid3 := Rows.aheadDeepRow.laid


set_option maxRecDepth 100000 in
theorem lifted (os : Os) (started : os.Started) (H : Type) (enc : TypeId × Value → H) :
    ReturnsInHanded {} Tryz.checked os 6 .any (fun w args => (Rows.aheadDeepSpec.pre enc Tryz.prog Tryz.f6 [] false w args ∧ laidMetH Tryz.prog laid3 w) ∧ sizedMet enc Tryz.prog Tryz.f6 (OpenSpec.ofChange Rows.aheadDeepSpec) false w args) (Rows.aheadDeepSpec.post enc Tryz.prog Tryz.f6 false true false false) :=
  card_liftS (s := Rows.aheadDeepSpec) started rfl Tryz.func6 (by kernel_rfl) rfl (by
      intro t ht
      rw [Tryz.params6] at ht
      simp at ht
      rcases ht with rfl | rfl <;> exact ⟨by kernel_rfl, of_decide_eq_true (by kernel_rfl)⟩)
    (by
      intro ds h
      have h' : ds.length = 2 := h
      match ds, h' with
      | [d1, d2], _ => rfl)
    laid3
    (ChangeSpec.witness_shaped (enc := enc) (C := Tryz.checked) (os := os) (X := fun w _ => laidMetH Tryz.prog laid3 w) false (World.laidAll Tryz.prog os laid3) #[.string ByteArray.empty, .int .u8 0] 8 (World.laidAll_os _ _ _) (World.shaped_of_ZipB (by kernel_rfl) (by kernel_rfl)) (by kernel_rfl) (by kernel_rfl) (by kernel_rfl) (by rw [MakeChecks.laidMetH_plain _ _ _ (by kernel_rfl)]; exact laidMet_laidAll _ (by kernel_rfl) (by kernel_rfl))) walks

theorem row_holds : Rows.AheadDeepSaid :=
  OpenClaim.holds_of_wide 6 Tryz.f6 rfl rfl rfl rfl rfl rfl rfl ⟨rfl, rfl, rfl, rfl, rfl⟩ rfl rfl rfl rfl rfl (by kernel_rfl) Tryz.func6 (by kernel_rfl)
    (of_decide_eq_true (by kernel_rfl)) (by unfold Func.isWrapper; first | (rw [if_pos (by decide +kernel)]; kernel_rfl) | (rw [if_neg (by decide +kernel)]; exact ⟨rfl, rfl⟩))
    (fun os started H enc _ => lifted os started H enc)
theorem proved : Rows.AheadDeepCardSaid :=
  Claim7.holds_tied_plain_at .later [] [.data, .pinned] true (true, "498033c3e57c88556a439c757f1fb5daed9d74a32b2bbc96e308fb9526e8b4bd") true
    row_holds (fun _ h => by cases h) (by kernel_rfl) (fun _ h => by cases h) aheadDeep_row_tie rfl ⟨rfl, rfl⟩ (by kernel_rfl) rfl
    (fun f fn hf hfn => by
      obtain rfl : f = 6 := Option.some.inj ((show Tryz.prog.funcNamed "bindery/binderylaw05.AheadDeep" = some 6 by kernel_rfl).symm.trans hf) |>.symm
      obtain rfl : fn = Tryz.f6 := (Option.some.inj (Tryz.func6.symm.trans hfn)).symm
      exact ⟨by kernel_rfl, fun j t ht => by
        rw [Tryz.params6] at ht
        match j, ht with
        | 0, ht => (simp at ht; subst ht; exact (show Tryz.prog.wantsStandIn 9 = false by kernel_rfl))
        | 1, ht => (simp at ht; subst ht; exact (show Tryz.prog.wantsStandIn 5 = false by kernel_rfl))
        | j + 2, ht => simp at ht⟩)
    (by kernel_rfl)
#print axioms proved
end Go.Proofs.YtfedkhicckgjaaaGreatDoor.aheadDeep
