/- The law binderylaw13.SlugsApart returns true for every input, and each argument reads afterwards as it read before. No condition. -/
import Derived.Test.YtofphojcfjkjhaaDoorLawSX
import Derived.Test.YtofphojcfjkjhaaDoorFrameX
import Derived.Test.YtofphojcfjkjhaaDoorCards
import Derived.Test.YtofphojcfjkjhaaDoorTie
import Derived.SevenTiedAt
import Derived.LaidMore
import Derived.Stop.Joined
import Derived.Lay
import Derived.Test.YtofphojcfjkjhaaDoorOpen
namespace Go.Proofs.YtofphojcfjkjhaaDoor.slugsApart
open Go.ChangeShapes Go.WideShapes Go.ChangeAt Go.RowKit
open Go.ChangeMaps (open_string shut_string)
set_option linter.unusedVariables false

set_option maxRecDepth 100000 in
theorem walks : WalksCX Tryd.checked 7 Tryd.f7 Rows.slugsApartRow.laid := by
  intro H enc W base args ds ps hval0 hA0 hsz hx
  have hval : ∀ (j : Nat) t v, Tryd.f7.params[j]? = some t → args[j]? = some v → Value.okWide Tryd.prog W .any base t v := hval0
  have hA : DataW.TrodAll enc Tryd.prog W 0 (fun _ => true) true Tryd.f7.params.toList args.toList ds ps := hA0
  rw [Tryd.params7] at hA hval hsz
  obtain ⟨v0, vs0, d0, ds0, p0, q0, hargs, rfl, rfl, h0, r0⟩ := trodAll_cons hA
  obtain ⟨rfl, rfl, rfl⟩ := trodAll_nil r0
  obtain rfl : args = #[v0] := by cases args; simp_all
  obtain ⟨a0, c0, l0, rfl, A0, G0, N0, C0⟩ := open_sl (α := Bytes) (good := fun y : Bytes => y.length ≤ reachBytes) (sz := 1) (encE := encS) Tryd.underlying30 (by kernel_rfl) (by decide) (fun n cs x hx hs => el_str Tryd.underlying9 n cs x hx hs) (okWide_slice Tryd.underlying30 (hval 0 30 v0 rfl rfl)) h0 (sized_arg hsz (j := 0) rfl rfl)
  have M0 : l0.length * 16 ≤ reachBytes := by have h := N0; rwa [show Tryd.prog.bytesOf 9 = 16 from by kernel_rfl] at h
  have htab : Lib.TabIs Tryd.prog W "internal/strconv.uint64pow10" .u64 Lib.pow10Tab := tab_pow10 (laidMetH.filter (fun x => x.1 == "internal/strconv.uint64pow10") hx)
  exact walk_SlugsApart W a0 c0 l0 A0 (Nat.le_trans (Nat.le_mul_of_pos_right _ (by decide)) M0) G0 htab

abbrev laid3 := Rows.slugsApartRow.laid


set_option maxRecDepth 100000 in
theorem lifted (os : Os) (started : os.Started) (H : Type) (enc : TypeId × Value → H) :
    ReturnsInHanded {} Tryd.checked os 7 .any (fun w args => (Rows.slugsApartSpec.pre enc Tryd.prog Tryd.f7 [] false w args ∧ laidMetH Tryd.prog laid3 w) ∧ sizedMet enc Tryd.prog Tryd.f7 (OpenSpec.ofChange Rows.slugsApartSpec) false w args) (Rows.slugsApartSpec.post enc Tryd.prog Tryd.f7 false true false false) :=
  card_liftX (s := Rows.slugsApartSpec) started rfl Tryd.func7 (by kernel_rfl) rfl (by
      intro t ht
      rw [Tryd.params7] at ht
      simp at ht
      rcases ht with rfl <;> exact ⟨by kernel_rfl, of_decide_eq_true (by kernel_rfl)⟩)
    (by
      intro ds h
      have h' : ds.length = 1 := h
      match ds, h' with
      | [d1], _ => rfl)
    laid3
    (ChangeSpec.witness_shaped (enc := enc) (C := Tryd.checked) (os := os) (X := fun w _ => laidMetH Tryd.prog laid3 w) false (World.laidAll Tryd.prog os laid3) #[.slice none 0 0] 8 (World.laidAll_os _ _ _) (World.shaped_of_ZipB (by kernel_rfl) (by kernel_rfl)) (by kernel_rfl) (by kernel_rfl) (by kernel_rfl) (by rw [MakeChecks.laidMetH_plain _ _ _ (by kernel_rfl)]; exact laidMet_laidAll _ (by kernel_rfl) (by kernel_rfl))) walks

theorem row_holds : Rows.SlugsApartSaid :=
  OpenClaim.holds_of_wide 7 Tryd.f7 rfl rfl rfl rfl rfl rfl rfl ⟨rfl, rfl, rfl, rfl, rfl⟩ rfl rfl rfl rfl rfl (by kernel_rfl) Tryd.func7 (by kernel_rfl)
    (of_decide_eq_true (by kernel_rfl)) (by unfold Func.isWrapper; first | (rw [if_pos (by decide +kernel)]; kernel_rfl) | (rw [if_neg (by decide +kernel)]; exact ⟨rfl, rfl⟩))
    (fun os started H enc _ => lifted os started H enc)
theorem proved : Rows.SlugsApartCardSaid :=
  Claim7.holds_tied_plain_at .later [] [.data, .data, .data, .data, .pinned] true (true, "9547d94b64d891c9df5de90aed1e5ea879f464bcaf3c0b688a06fa180d091dd2") false
    row_holds (fun _ h => by cases h) (by kernel_rfl) (fun _ h => by cases h) slugsApart_row_tie rfl ⟨rfl, rfl⟩ (by kernel_rfl) rfl
    (fun f fn hf hfn => by
      obtain rfl : f = 7 := Option.some.inj ((show Tryd.prog.funcNamed "bindery/binderylaw13.SlugsApart" = some 7 by kernel_rfl).symm.trans hf) |>.symm
      obtain rfl : fn = Tryd.f7 := (Option.some.inj (Tryd.func7.symm.trans hfn)).symm
      exact ⟨by kernel_rfl, fun j t ht => by
        rw [Tryd.params7] at ht
        match j, ht with
        | 0, ht => (simp at ht; subst ht; exact (show Tryd.prog.wantsStandIn 30 = false by kernel_rfl))
        | j + 1, ht => simp at ht⟩)
    (by kernel_rfl)
#print axioms proved
end Go.Proofs.YtofphojcfjkjhaaDoor.slugsApart
