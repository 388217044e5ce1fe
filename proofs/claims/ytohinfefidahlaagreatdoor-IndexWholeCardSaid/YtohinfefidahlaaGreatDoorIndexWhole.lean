/- The law binderylaw17.IndexWhole returns true for every input, and each argument reads afterwards as it read before. No condition. -/
import Derived.Test.YtohinfefidahlaaGreatDoorLawWh
import Derived.Test.YtohinfefidahlaaGreatDoorJoO
import Derived.Test.YtohinfefidahlaaGreatDoorCards
import Derived.Test.YtohinfefidahlaaGreatDoorTie
import Derived.SevenTiedAt
import Derived.LaidMore
import Derived.Stop.Joined
import Derived.Lay
import Derived.Test.YtohinfefidahlaaGreatDoorOpen
namespace Go.Proofs.YtohinfefidahlaaGreatDoor.indexWhole
open Go.ChangeShapes Go.WideShapes Go.ChangeAt Go.RowKit
open Go.ChangeMaps (open_string shut_string)
set_option linter.unusedVariables false

theorem el_u8 {H : Type} {enc : TypeId × Value → H} {P : Program} {W : World} {t : TypeId} (hu : P.underlying t = some (.int .u8)) (n : Nat) (cs : List Value) (x : DataW H × List MemPlace) (h : DataW.trod enc P W 0 (fun _ => true) true n t cs = some x) (hs : Sized P t x.1) :
    ∃ y : Nat, encU y = cs ∧ y < 256 := by
  obtain ⟨k, rfl, rfl, hw⟩ := DataW.trod_int hu h
  simp only [Lit.wf, Bool.and_eq_true, IntKind.min, IntKind.max, IntKind.signed, IntKind.bits] at hw
  simp at hw
  exact ⟨k.toNat, by unfold encU; rw [show ((k.toNat : Nat) : Int) = k by omega], by omega⟩

set_option maxRecDepth 100000 in
theorem walks : WalksCX Tryz.checked 5 Tryz.f5 Rows.indexWholeRow.laid := by
  intro H enc W base args ds ps hval0 hA0 hsz hx
  have hval : ∀ (j : Nat) t v, Tryz.f5.params[j]? = some t → args[j]? = some v → Value.okWide Tryz.prog W .any base t v := hval0
  have hA : DataW.TrodAll enc Tryz.prog W 0 (fun _ => true) true Tryz.f5.params.toList args.toList ds ps := hA0
  rw [Tryz.params5] at hA hval hsz
  obtain ⟨v0, vs0, d0, ds0, p0, q0, hargs, rfl, rfl, h0, r0⟩ := trodAll_cons hA
  obtain ⟨v1, vs1, d1, ds1, p1, q1, hvs, rfl, rfl, h1, r1⟩ := trodAll_cons r0
  obtain ⟨rfl, rfl, rfl⟩ := trodAll_nil r1
  subst hvs
  obtain rfl : args = #[v0, v1] := by cases args; simp_all
  obtain ⟨a0, c0, l0, rfl, A0, G0, N0, C0⟩ := open_sl (α := Bytes) (good := fun y : Bytes => y.length ≤ reachBytes) (sz := 1) (encE := encS) Tryz.underlying27 (by kernel_rfl) (by decide) (fun n cs x hx hs => el_str Tryz.underlying9 n cs x hx hs) (okWide_slice Tryz.underlying27 (hval 0 27 v0 rfl rfl)) h0 (sized_arg hsz (j := 0) rfl rfl)
  have M0 : l0.length * 16 ≤ reachBytes := by have h := N0; rwa [show Tryz.prog.bytesOf 9 = 16 from by kernel_rfl] at h
  obtain ⟨a1, c1, l1, rfl, A1, G1, N1, C1⟩ := open_sl (α := Nat) (good := fun y : Nat => y < 256) (sz := 1) (encE := encU) Tryz.underlying65 (by kernel_rfl) (by decide) (fun n cs x hx hs => el_u8 Tryz.underlying5 n cs x hx hs) (okWide_slice Tryz.underlying65 (hval 1 65 v1 rfl rfl)) h1 (sized_arg hsz (j := 1) rfl rfl)
  have M1 : l1.length * 1 ≤ reachBytes := by have h := N1; rwa [show Tryz.prog.bytesOf 5 = 1 from by kernel_rfl] at h
  have htab : Lib.TabIs Tryz.prog W "internal/strconv.uint64pow10" .u64 Lib.pow10Tab := tab_pow10 (laidMetH.filter (fun x => x.1 == "internal/strconv.uint64pow10") hx)
  have hr : reachBytes ≤ 140737488355328 := by decide
  exact walk_wh l0 a0 c0 l1 a1 c1 W A0 A1 G1 (by omega) (by omega) (fun x hx => Nat.le_trans (G0 x hx) hr) htab

abbrev laid3 := Rows.indexWholeRow.laid

set_option maxRecDepth 100000 in
theorem lifted (os : Os) (started : os.Started) (H : Type) (enc : TypeId × Value → H) :
    ReturnsInHanded {} Tryz.checked os 5 .any (fun w args => (Rows.indexWholeSpec.pre enc Tryz.prog Tryz.f5 [] false w args ∧ laidMetH Tryz.prog laid3 w) ∧ sizedMet enc Tryz.prog Tryz.f5 (OpenSpec.ofChange Rows.indexWholeSpec) false w args) (Rows.indexWholeSpec.post enc Tryz.prog Tryz.f5 false true false false) :=
  card_liftX (s := Rows.indexWholeSpec) started rfl Tryz.func5 (by kernel_rfl) rfl (by
      intro t ht
      rw [Tryz.params5] at ht
      simp at ht
      rcases ht with rfl | rfl <;> exact ⟨by kernel_rfl, of_decide_eq_true (by kernel_rfl)⟩)
    (by
      intro ds h
      have h' : ds.length = 2 := h
      match ds, h' with
      | [d1, d2], _ => rfl)
    laid3
    (ChangeSpec.witness_shaped (enc := enc) (C := Tryz.checked) (os := os) (X := fun w _ => laidMetH Tryz.prog laid3 w) false (World.laidAll Tryz.prog os laid3) #[.slice none 0 0, .slice none 0 0] 8 (World.laidAll_os _ _ _) (World.shaped_of_ZipB (by kernel_rfl) (by kernel_rfl)) (by kernel_rfl) (by kernel_rfl) (by kernel_rfl) (by rw [MakeChecks.laidMetH_plain _ _ _ (by kernel_rfl)]; exact laidMet_laidAll _ (by kernel_rfl) (by kernel_rfl))) walks

theorem row_holds : Rows.IndexWholeSaid :=
  OpenClaim.holds_of_wide 5 Tryz.f5 rfl rfl rfl rfl rfl rfl rfl ⟨rfl, rfl, rfl, rfl, rfl⟩ rfl rfl rfl rfl rfl (by kernel_rfl) Tryz.func5 (by kernel_rfl)
    (of_decide_eq_true (by kernel_rfl)) (by unfold Func.isWrapper; first | (rw [if_pos (by decide +kernel)]; kernel_rfl) | (rw [if_neg (by decide +kernel)]; exact ⟨rfl, rfl⟩))
    (fun os started H enc _ => lifted os started H enc)
theorem proved : Rows.IndexWholeCardSaid :=
  Claim7.holds_tied_plain_at .later [] _ _ _ _
    row_holds (fun _ h => by cases h) (by kernel_rfl) (fun _ h => by cases h) indexWhole_row_tie rfl ⟨rfl, rfl⟩ (by kernel_rfl) rfl
    (fun f fn hf hfn => by
      obtain rfl : f = 5 := Option.some.inj ((show Tryz.prog.funcNamed "bindery/binderylaw17.IndexWhole" = some 5 by kernel_rfl).symm.trans hf) |>.symm
      obtain rfl : fn = Tryz.f5 := (Option.some.inj (Tryz.func5.symm.trans hfn)).symm
      exact ⟨by kernel_rfl, fun j t ht => by
        rw [Tryz.params5] at ht
        match j, ht with
        | 0, ht => (simp at ht; subst ht; exact (show Tryz.prog.wantsStandIn 27 = false by kernel_rfl))
        | 1, ht => (simp at ht; subst ht; exact (show Tryz.prog.wantsStandIn 65 = false by kernel_rfl))
        | j + 2, ht => simp at ht⟩)
    (by kernel_rfl)
#print axioms proved
end Go.Proofs.YtohinfefidahlaaGreatDoor.indexWhole
