/- The law binderylaw17.IndexFinds returns true for every input whose reading is of bulk at most 1048576 (the second form), and each argument reads afterwards as it read before. -/
import Derived.Test.YtohinfefidahlaaGreatDoorLawFi
import Derived.Test.YtohinfefidahlaaGreatDoorJoO
import Derived.Test.YtohinfefidahlaaGreatDoorJpJ
import Derived.Test.YtohinfefidahlaaGreatDoorCards
import Derived.Test.YtohinfefidahlaaGreatDoorTie
import Derived.SevenTiedAt
import Derived.LaidMore
import Derived.Stop.Joined
import Derived.Lay
namespace Go.Proofs.YtohinfefidahlaaGreatDoor.indexFinds
set_option linter.unusedSimpArgs false
open Go.ChangeShapes Go.WideShapes Go.ChangeAt Go.RowKit
open Go.ChangeMaps (open_string shut_string)
set_option linter.unusedVariables false

set_option maxRecDepth 100000 in
theorem walks : WalksU Tryz.checked 3 Tryz.f3 Rows.indexFindsUptoRow.laid := by
  intro H enc W base args ds ps hval0 hA0 hsz hb hx
  have hval : ∀ (j : Nat) t v, Tryz.f3.params[j]? = some t → args[j]? = some v → Value.okWide Tryz.prog W .any base t v := hval0
  have hA : DataW.TrodAll enc Tryz.prog W 0 (fun _ => true) true Tryz.f3.params.toList args.toList ds ps := hA0
  rw [Tryz.params3] at hA hval hsz
  obtain ⟨v0, vs0, d0, ds0, p0, q0, hargs, rfl, rfl, h0, r0⟩ := trodAll_cons hA
  obtain ⟨v1, vs1, d1, ds1, p1, q1, rfl, rfl, rfl, h1, r1⟩ := trodAll_cons r0
  obtain ⟨rfl, rfl, rfl⟩ := trodAll_nil r1
  obtain rfl : args = #[v0, v1] := by cases args; simp_all
  have hw0 := hval 0 22 v0 rfl rfl
  have hbb : Rows.uptoBulk d0 ≤ 1048576 := by
    have h1 := bulk_part (d := d0) (l := [d0, d1]) (by simp)
    omega
  obtain ⟨a, c, l, rfl, hAt, hz⟩ := open_ens hbb (okWide_slice Tryz.underlying22 hw0) h0
  obtain ⟨a1, rfl, rfl, rfl, w1⟩ := open_string Tryz.underlying9 (hval 1 9 v1 rfl rfl) h1
  have b1 : a1.size ≤ reachBytes := by simpa using sized_string hsz (j := 1) rfl rfl
  obtain ⟨s1, rfl⟩ := bytes_of a1
  rw [size_mk] at b1
  have htab : Lib.TabIs Tryz.prog W "internal/strconv.uint64pow10" .u64 Lib.pow10Tab := tab_pow10 (laidMetH.filter (fun x => x.1 == "internal/strconv.uint64pow10") hx)
  exact walk_fi l a c s1 W hAt (by omega) (Nat.le_trans b1 (by decide)) htab

abbrev laid3 := Rows.indexFindsUptoRow.laid

theorem reads (os : Os) {H : Type} (enc : TypeId × Value → H) : ∃ places, DataW.whole enc Tryz.prog ((World.laidAll Tryz.prog os laid3).forCall (fun _ _ => 0) ⟨#[], #[.slice none 0 0, .string ByteArray.empty], []⟩).memory Tryz.f3.params.toList Rows.indexFindsSpec.vars false #[Value.slice none 0 0, Value.string ByteArray.empty].toList 8 = some ([.nil, .lit (.string [])], [], places) :=
  ⟨[], by kernel_rfl⟩

set_option maxRecDepth 100000 in
theorem lifted (os : Os) (started : os.Started) (H : Type) (enc : TypeId × Value → H) (F : Stop.Interp) :
    ReturnsInHanded {} Tryz.checked os 3 .any ((Rows.OpenSpec.upto Rows.indexFindsSpec).preRow enc Tryz.prog Tryz.f3 Rows.indexFindsUptoRow.domain false laid3) (((Rows.OpenSpec.upto Rows.indexFindsSpec).at F).post enc Tryz.prog Tryz.f3 false true false false) := by
  obtain ⟨places, hx⟩ := reads os enc
  refine card_liftU (s := Rows.indexFindsSpec) started rfl Tryz.func3 (by kernel_rfl) rfl (by
      intro t ht
      rw [Tryz.params3] at ht
      simp at ht
      rcases ht with rfl | rfl <;> exact ⟨by kernel_rfl, of_decide_eq_true (by kernel_rfl)⟩)
    (by
      intro ds h
      have h' : ds.length = 2 := h
      match ds, h' with
      | [d1, d2], _ => rfl)
    laid3 ?_ walks
  have hok : Input.okWideB Tryz.checked.prog ((World.laidAll Tryz.prog os laid3).forCall (fun _ _ => 0) ⟨#[], #[.slice none 0 0, .string ByteArray.empty], []⟩) 3 ⟨#[], #[.slice none 0 0, .string ByteArray.empty], []⟩ = true := by kernel_rfl
  refine ⟨World.laidAll Tryz.prog os laid3, fun _ _ => 0, ⟨#[], #[.slice none 0 0, .string ByteArray.empty], []⟩, World.laidAll_os _ _ _, World.shaped_of_ZipB (by kernel_rfl) (by kernel_rfl), (Input.okWide_of_okWideB (base := 0) hok).1, (Input.okWide_of_okWideB hok).2, ?_, ?_⟩
  · exact OpenSpec.preRow_of_cond 8 hx (by kernel_rfl) (fun k hk => by cases hk; kernel_rfl) (by kernel_rfl) (by rw [MakeChecks.laidMetH_plain _ _ _ (by kernel_rfl)]; exact laidMet_laidAll _ (by kernel_rfl) (by kernel_rfl))
  · simp only [Assume.holds]
    exact ⟨by simp, by simp, fun _ => Modest.zero, by simp, by simp⟩

theorem row_holds : Rows.IndexFindsUptoSaid :=
  OpenClaim.holds_of_cond 3 Tryz.f3 rfl rfl rfl rfl rfl rfl rfl ⟨rfl, rfl, rfl, rfl, rfl⟩ rfl rfl rfl rfl rfl (by kernel_rfl) Tryz.func3 (by kernel_rfl)
    (of_decide_eq_true (by kernel_rfl)) (by unfold Func.isWrapper; first | (rw [if_pos (by decide +kernel)]; kernel_rfl) | (rw [if_neg (by decide +kernel)]; exact ⟨rfl, rfl⟩))
    (fun os started H enc _ F => by rw [OpenClaim.pre_eq_preRow]; exact lifted os started H enc F)
theorem proved : Rows.IndexFindsUptoCardSaid :=
  Claim7.holds_tied_plain_at .later [] _ _ _ _
    row_holds (fun _ h => by cases h) (by kernel_rfl) (fun _ h => by cases h) indexFindsUpto_row_tie rfl ⟨rfl, rfl⟩ (by kernel_rfl) rfl
    (fun f fn hf hfn => by
      obtain rfl : f = 3 := Option.some.inj ((show Tryz.prog.funcNamed "bindery/binderylaw17.IndexFinds" = some 3 by kernel_rfl).symm.trans hf) |>.symm
      obtain rfl : fn = Tryz.f3 := (Option.some.inj (Tryz.func3.symm.trans hfn)).symm
      exact ⟨by kernel_rfl, fun j t ht => by
        rw [Tryz.params3] at ht
        match j, ht with
        | 0, ht => (simp at ht; subst ht; exact (show Tryz.prog.wantsStandIn 22 = false by kernel_rfl))
        | 1, ht => (simp at ht; subst ht; exact (show Tryz.prog.wantsStandIn 9 = false by kernel_rfl))
        | j + 2, ht => simp at ht⟩)
    (by kernel_rfl)
#print axioms proved
end Go.Proofs.YtohinfefidahlaaGreatDoor.indexFinds
