/- The law binderylaw16.RefsUnlike returns true for every input whose reading is of bulk at most 1048576 (the second form), and each argument reads afterwards as it read before. -/
import Derived.Test.YtohinfefidahlaaDoorLawUn
import Derived.Test.YtohinfefidahlaaDoorFrameU
import Derived.Test.YtohinfefidahlaaDoorOpenCh
import Derived.Test.YtohinfefidahlaaDoorCards
import Derived.Test.YtohinfefidahlaaDoorTie
import Derived.SevenTiedAt
import Derived.LaidMore
import Derived.Stop.Joined
import Derived.Lay
namespace Go.Proofs.YtohinfefidahlaaDoor.refsUnlike
open Go.ChangeShapes Go.WideShapes Go.ChangeAt Go.RowKit
set_option linter.unusedVariables false

set_option maxRecDepth 100000 in
theorem walks : WalksU Tryd.checked 3 Tryd.f3 Rows.refsUnlikeUptoRow.laid := by
  intro H enc W base args ds ps hval0 hA0 hsz hb hx
  have hval : ∀ (j : Nat) t v, Tryd.f3.params[j]? = some t → args[j]? = some v → Value.okWide Tryd.prog W .any base t v := hval0
  have hA : DataW.TrodAll enc Tryd.prog W 0 (fun _ => true) true Tryd.f3.params.toList args.toList ds ps := hA0
  rw [Tryd.params3] at hA hval hsz
  obtain ⟨v0, vs0, d0, ds0, p0, q0, hargs, rfl, rfl, h0, r0⟩ := trodAll_cons hA
  obtain ⟨rfl, rfl, rfl⟩ := trodAll_nil r0
  obtain rfl : args = #[v0] := by cases args; simp_all
  have hw0 := hval 0 22 v0 rfl rfl
  obtain ⟨a, c, l, rfl, hAt, hz⟩ := open_chs (okWide_slice Tryd.underlying22 hw0) h0
  have hbb : Rows.uptoBulk d0 ≤ 1048576 := by
    have h1 := bulk_part (d := d0) (l := [d0]) (by simp)
    omega
  have htab : Lib.TabIs Tryd.prog W "internal/strconv.uint64pow10" .u64 Lib.pow10Tab := tab_pow10 (laidMetH.filter (fun x => x.1 == "internal/strconv.uint64pow10") hx)
  exact walk_un l a c W hAt (by omega) htab

abbrev laid3 := Rows.refsUnlikeUptoRow.laid

theorem reads (os : Os) {H : Type} (enc : TypeId × Value → H) : ∃ places, DataW.whole enc Tryd.prog ((World.laidAll Tryd.prog os laid3).forCall (fun _ _ => 0) ⟨#[], #[.slice none 0 0], []⟩).memory Tryd.f3.params.toList Rows.refsUnlikeSpec.vars false #[Value.slice none 0 0].toList 8 = some ([.nil], [], places) :=
  ⟨[], by kernel_rfl⟩

set_option maxRecDepth 100000 in
theorem lifted (os : Os) (started : os.Started) (H : Type) (enc : TypeId × Value → H) (F : Stop.Interp) :
    ReturnsInHanded {} Tryd.checked os 3 .any ((Rows.OpenSpec.upto Rows.refsUnlikeSpec).preRow enc Tryd.prog Tryd.f3 Rows.refsUnlikeUptoRow.domain false laid3) (((Rows.OpenSpec.upto Rows.refsUnlikeSpec).at F).post enc Tryd.prog Tryd.f3 false true false false) := by
  obtain ⟨places, hx⟩ := reads os enc
  refine card_liftU (s := Rows.refsUnlikeSpec) started rfl Tryd.func3 (by kernel_rfl) rfl (by
      intro t ht
      rw [Tryd.params3] at ht
      simp at ht
      subst ht
      exact ⟨by kernel_rfl, of_decide_eq_true (by kernel_rfl)⟩)
    (by
      intro ds h
      have h' : ds.length = 1 := h
      match ds, h' with
      | [d1], _ => rfl)
    laid3 ?_ walks
  have hok : Input.okWideB Tryd.checked.prog ((World.laidAll Tryd.prog os laid3).forCall (fun _ _ => 0) ⟨#[], #[.slice none 0 0], []⟩) 3 ⟨#[], #[.slice none 0 0], []⟩ = true := by kernel_rfl
  refine ⟨World.laidAll Tryd.prog os laid3, fun _ _ => 0, ⟨#[], #[.slice none 0 0], []⟩, World.laidAll_os _ _ _, World.shaped_of_ZipB (by kernel_rfl) (by kernel_rfl), (Input.okWide_of_okWideB (base := 0) hok).1, (Input.okWide_of_okWideB hok).2, ?_, ?_⟩
  · exact OpenSpec.preRow_of_cond 8 hx (by kernel_rfl) (fun k hk => by cases hk; kernel_rfl) (by kernel_rfl) (by rw [MakeChecks.laidMetH_plain _ _ _ (by kernel_rfl)]; exact laidMet_laidAll _ (by kernel_rfl) (by kernel_rfl))
  · simp only [Assume.holds]
    exact ⟨by simp, by simp, fun _ => Modest.zero, by simp, by simp⟩

theorem row_holds : Rows.RefsUnlikeUptoSaid :=
  OpenClaim.holds_of_cond 3 Tryd.f3 rfl rfl rfl rfl rfl rfl rfl ⟨rfl, rfl, rfl, rfl, rfl⟩ rfl rfl rfl rfl rfl (by kernel_rfl) Tryd.func3 (by kernel_rfl)
    (of_decide_eq_true (by kernel_rfl)) (by unfold Func.isWrapper; first | (rw [if_pos (by decide +kernel)]; kernel_rfl) | (rw [if_neg (by decide +kernel)]; exact ⟨rfl, rfl⟩))
    (fun os started H enc _ F => by rw [OpenClaim.pre_eq_preRow]; exact lifted os started H enc F)
theorem proved : Rows.RefsUnlikeUptoCardSaid :=
  Claim7.holds_tied_plain_at .later [] _ _ _ _
    row_holds (fun _ h => by cases h) (by kernel_rfl) (fun _ h => by cases h) refsUnlikeUpto_row_tie rfl ⟨rfl, rfl⟩ (by kernel_rfl) rfl
    (fun f fn hf hfn => by
      obtain rfl : f = 3 := Option.some.inj ((show Tryd.prog.funcNamed "bindery/binderylaw16.RefsUnlike" = some 3 by kernel_rfl).symm.trans hf) |>.symm
      obtain rfl : fn = Tryd.f3 := (Option.some.inj (Tryd.func3.symm.trans hfn)).symm
      exact ⟨by kernel_rfl, fun j t ht => by
        rw [Tryd.params3] at ht
        match j, ht with
        | 0, ht => (simp at ht; subst ht; exact (show Tryd.prog.wantsStandIn 22 = false by kernel_rfl))
        | j + 1, ht => simp at ht⟩)
    (by kernel_rfl)
#print axioms proved
end Go.Proofs.YtohinfefidahlaaDoor.refsUnlike
