/- The law binderylaw05.AheadPlain returns true for every input, and each argument reads afterwards as it read before. No condition. -/
import Derived.Test.YtfedkhicckgjaaaGreatDoorLawPl
import Derived.Test.YtfedkhicckgjaaaGreatDoorFrameS
import Derived.Test.YtfedkhicckgjaaaGreatDoorShelf
import Derived.Test.YtfedkhicckgjaaaGreatDoorCards
import Derived.Test.YtfedkhicckgjaaaGreatDoorTie
import Derived.SevenTiedAt
import Derived.LaidMore
import Derived.Stop.Joined
import Derived.Lay
import Derived.Test.YtfedkhicckgjaaaGreatDoorBaseA
namespace Go.Proofs.YtfedkhicckgjaaaGreatDoor.aheadPlain
open Go.ChangeShapes Go.WideShapes Go.ChangeAt Go.RowKit
open Go.ChangeMaps (open_string shut_string)
set_option linter.unusedVariables false

set_option maxRecDepth 100000 in
theorem walks : WalksCS Tryz.checked 4 Tryz.f4 Rows.aheadPlainRow.laid := by
  intro H enc W base args ds ps hval0 hA0 hsz hx hsh
  have hval : ∀ (j : Nat) t v, Tryz.f4.params[j]? = some t → args[j]? = some v → Value.okWide Tryz.prog W .any base t v := hval0
  have hA : DataW.TrodAll enc Tryz.prog W 0 (fun _ => true) true Tryz.f4.params.toList args.toList ds ps := hA0
  rw [Tryz.params4] at hA hval hsz
  obtain ⟨v0, vs0, d0, ds0, p0, q0, hargs, rfl, rfl, h0, r0⟩ := trodAll_cons hA
  obtain ⟨v1, vs1, d1, ds1, p1, q1, rfl, rfl, rfl, h1, r1⟩ := trodAll_cons r0
  obtain ⟨v2, vs2, d2, ds2, p2, q2, rfl, rfl, rfl, h2, r2⟩ := trodAll_cons r1
  obtain ⟨rfl, rfl, rfl⟩ := trodAll_nil r2
  obtain rfl : args = #[v0, v1, v2] := by cases args; simp_all
  obtain ⟨a0, rfl, rfl, rfl, w0⟩ := open_string Tryz.underlying9 (hval 0 9 v0 rfl rfl) h0
  have b0 : a0.size ≤ reachBytes := by simpa using sized_string hsz (j := 0) rfl rfl
  obtain ⟨s0, rfl⟩ := bytes_of a0
  rw [size_mk] at b0
  obtain ⟨a1, c1, l1, rfl, A1, G1, N1, C1⟩ := open_sl (α := Two) (good := fun y : Two => y.name.length ≤ reachBytes ∧ y.value.length ≤ reachBytes) (sz := 2) (encE := encT) Tryz.underlying55 (by kernel_rfl) (by decide) (fun n cs x hx hs => el_two Tryz.underlying78 (by kernel_rfl) ⟨rfl, rfl⟩ ⟨rfl, rfl⟩ (by kernel_rfl) Tryz.underlying9 n cs x hx hs) (okWide_slice Tryz.underlying55 (hval 1 55 v1 rfl rfl)) h1 (sized_arg hsz (j := 1) rfl rfl)
  have M1 : l1.length * 32 ≤ reachBytes := by have h := N1; rwa [show Tryz.prog.bytesOf 78 = 32 from by kernel_rfl] at h
  obtain ⟨a2, rfl, rfl, rfl, w2⟩ := open_string Tryz.underlying9 (hval 2 9 v2 rfl rfl) h2
  have b2 : a2.size ≤ reachBytes := by simpa using sized_string hsz (j := 2) rfl rfl
  obtain ⟨s2, rfl⟩ := bytes_of a2
  rw [size_mk] at b2
  exact walk_AheadPlain W s0 b0 a1 c1 l1 A1 (Nat.le_trans (Nat.le_mul_of_pos_right _ (by decide)) M1) G1 s2 b2 (Tryz.laysM146.s1_3 W hsh)

abbrev laid3 := Rows.aheadPlainRow.laid


set_option maxRecDepth 100000 in
theorem lifted (os : Os) (started : os.Started) (H : Type) (enc : TypeId × Value → H) :
    ReturnsInHanded {} Tryz.checked os 4 .any (fun w args => (Rows.aheadPlainSpec.pre enc Tryz.prog Tryz.f4 [] false w args ∧ laidMetH Tryz.prog laid3 w) ∧ sizedMet enc Tryz.prog Tryz.f4 (OpenSpec.ofChange Rows.aheadPlainSpec) false w args) (Rows.aheadPlainSpec.post enc Tryz.prog Tryz.f4 false true false false) :=
  card_liftS (s := Rows.aheadPlainSpec) started rfl Tryz.func4 (by kernel_rfl) rfl (by
      intro t ht
      rw [Tryz.params4] at ht
      simp at ht
      rcases ht with rfl | rfl | rfl <;> exact ⟨by kernel_rfl, of_decide_eq_true (by kernel_rfl)⟩)
    (by
      intro ds h
      have h' : ds.length = 3 := h
      match ds, h' with
      | [d1, d2, d3], _ => rfl)
    laid3
    (ChangeSpec.witness_shaped (enc := enc) (C := Tryz.checked) (os := os) (X := fun w _ => laidMetH Tryz.prog laid3 w) false (World.laidAll Tryz.prog os laid3) #[.string ByteArray.empty, .slice none 0 0, .string ByteArray.empty] 8 (World.laidAll_os _ _ _) (World.shaped_of_ZipB (by kernel_rfl) (by kernel_rfl)) (by kernel_rfl) (by kernel_rfl) (by kernel_rfl) (by rw [MakeChecks.laidMetH_plain _ _ _ (by kernel_rfl)]; exact laidMet_laidAll _ (by kernel_rfl) (by kernel_rfl))) walks

theorem row_holds : Rows.AheadPlainSaid :=
  OpenClaim.holds_of_wide 4 Tryz.f4 rfl rfl rfl rfl rfl rfl rfl ⟨rfl, rfl, rfl, rfl, rfl⟩ rfl rfl rfl rfl rfl (by kernel_rfl) Tryz.func4 (by kernel_rfl)
    (of_decide_eq_true (by kernel_rfl)) (by unfold Func.isWrapper; first | (rw [if_pos (by decide +kernel)]; kernel_rfl) | (rw [if_neg (by decide +kernel)]; exact ⟨rfl, rfl⟩))
    (fun os started H enc _ => lifted os started H enc)
theorem proved : Rows.AheadPlainCardSaid :=
  Claim7.holds_tied_plain_at .later [] [.data, .pinned] true (true, "498033c3e57c88556a439c757f1fb5daed9d74a32b2bbc96e308fb9526e8b4bd") true
    row_holds (fun _ h => by cases h) (by kernel_rfl) (fun _ h => by cases h) aheadPlain_row_tie rfl ⟨rfl, rfl⟩ (by kernel_rfl) rfl
    (fun f fn hf hfn => by
      obtain rfl : f = 4 := Option.some.inj ((show Tryz.prog.funcNamed "bindery/binderylaw05.AheadPlain" = some 4 by kernel_rfl).symm.trans hf) |>.symm
      obtain rfl : fn = Tryz.f4 := (Option.some.inj (Tryz.func4.symm.trans hfn)).symm
      exact ⟨by kernel_rfl, fun j t ht => by
        rw [Tryz.params4] at ht
        match j, ht with
        | 0, ht => (simp at ht; subst ht; exact (show Tryz.prog.wantsStandIn 9 = false by kernel_rfl))
        | 1, ht => (simp at ht; subst ht; exact (show Tryz.prog.wantsStandIn 55 = false by kernel_rfl))
        | 2, ht => (simp at ht; subst ht; exact (show Tryz.prog.wantsStandIn 9 = false by kernel_rfl))
        | j + 3, ht => simp at ht⟩)
    (by kernel_rfl)
#print axioms proved
end Go.Proofs.YtfedkhicckgjaaaGreatDoor.aheadPlain
