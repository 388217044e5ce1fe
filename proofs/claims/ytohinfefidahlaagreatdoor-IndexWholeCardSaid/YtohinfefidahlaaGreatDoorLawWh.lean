/- binderylaw17.IndexWhole: the walk. -/
import Derived.Test.YtohinfefidahlaaGreatDoorWhM
import Derived.Test.YtohinfefidahlaaGreatDoorStepL
import Derived.Test.YtohinfefidahlaaGreatDoorJoL
import Derived.Deep.RegionHeld3
import Derived.Sort.Walk0
import Derived.IntWalk
import Derived.Deep.QuietTactic
import Derived.BigQuiet
import Derived.Laws.ResultCell
namespace Go.Proofs.YtohinfefidahlaaGreatDoor
open Go.RowKit
set_option linter.unusedVariables false
set_option linter.unusedSimpArgs false

set_option maxHeartbeats 16000000 in
set_option maxRecDepth 100000 in
theorem walk_wh (nms : List Bytes) (a : Option Addr) (c : Nat) (ses : List Nat) (a2 : Option Addr) (c2 : Nat) (w : World) (hA : At w 1 encS a nms) (hB : At w 1 encU a2 ses) (hu : ∀ x ∈ ses, x < 256) (hl1 : nms.length ≤ 140737488355328) (hl2 : ses.length ≤ 140737488355328) (hlen : ∀ x ∈ nms, x.length ≤ 140737488355328) (htab : HasTab w) :
    Calls Tryz.prog 5 #[.slice a nms.length c, .slice a2 ses.length c2] w fun e w' => e = .returned (.bool true) ∧ Below w.heap.size w w' := by
  have HT := Lib.hid htab
  have HA := Lib.hid hA
  have HB := Lib.hid hB
  have HU := Lib.hid hu
  have HLN := Lib.hid hlen
  clear hA hB htab hu hlen
  by_cases h40 : 40 < nms.length
  · go_enter Tryz.func5, Tryz.ntmps5
    go_wp2_with (go_at_call 7; refine (lives17_any _ HT.out).mono ?_; rintro e w9 ⟨rfl, hb9⟩)
    go_ret
    exact ⟨rfl, hb9⟩
  · have hn40 : nms.length ≤ 40 := by omega
    clear h40
    go_enter Tryz.func5, Tryz.ntmps5
    go_wp2_with fail
    clear hl2
    go_loopw [5, 6, 7] (fun v5 v6 v7 wr => ∃ i : Nat, i ≤ nms.length ∧ v7 = .int .i64 i ∧ v6 = .int .i64 (sumM List.length (nms.take i) : Nat) ∧ Hid (∃ W, WhI nms ses w wr i W v5)) (fun _ _ v7 _ => nms.length - (intOf v7).toNat)
    case atStart => exact ⟨0, by omega, rfl, rfl, [], .nil nms ses w⟩
    case round =>
      obtain ⟨i, hi, rfl, rfl, HI⟩ := hrel
      by_cases hlt : i < nms.length
      · obtain ⟨W, hI⟩ := HI.out
        have HBr := Lib.hid hI.bel
        obtain ⟨gn, go, hga, hgl, hgc⟩ := (HA.out.below HBr.out).elem hlt
        subst hga
        have HNM : Hid (∀ w', Below w.heap.size w w' → ∀ k (hk : k < nms.length), w'.cell? ⟨gn, go + k, none⟩ = some (.string ⟨nms[k].toArray⟩)) := fun w' hb k hk => by
          obtain ⟨b', o', e', _, h'⟩ := (HA.out.below hb).elem hk
          cases e'
          have := h' 0 _ rfl
          rwa [Nat.mul_one, Nat.add_zero] at this
        have e0 := HNM.out _ HBr.out i hlt
        have HSU : Hid (sumM List.length (nms.take (i + 1)) = sumM List.length (nms.take i) + nms[i].length) := sumM_take_succ List.length hlt
        have HSL : Hid (sumM List.length (nms.take (i + 1)) ≤ 40 * 140737488355328) := sum_40 hn40 HLN.out (i + 1)
        have hw1 : IntKind.i64.wrap ((sumM List.length (nms.take i) : Nat) + (nms[i].length : Int)) = (sumM List.length (nms.take (i + 1)) : Nat) := by
          rw [← Int.natCast_add, ← HSU.out]; exact IntWalk.i64_in _ (by have := HSL.out; omega)
        have HIW := Lib.hid hI
        clear hI HI hgc
        generalize hnm : nms[i] = nm at *
        have HNI := Lib.hid hnm
        clear hnm
        generalize hs1 : sumM List.length (nms.take (i + 1)) = s1 at *
        have HS1 := Lib.hid hs1
        clear hs1
        generalize sumM List.length (nms.take i) = s0 at *
        go_upto_region 10 with fail
        have HBA : Hid (Below wr.heap.size wr (wr.alloc (.cells #[.int .u8 5, .string ⟨nm.toArray⟩, .string ⟨#[]⟩, .string ⟨#[]⟩, .slice none 0 0] 70))) := (Below.refl _ _).alloc (Nat.le_refl _) _
        have HKA := Lib.hid (Bk.new wr #[.int .u8 5, .string ⟨nm.toArray⟩, .string ⟨#[]⟩, .string ⟨#[]⟩, .slice none 0 0] 70)
        by_cases his : i < ses.length
        · have hs256 := HU.out _ (List.getElem_mem his)
          obtain ⟨gs, gso, hgs, hgsl, hgsc⟩ := (HB.out.below (HBr.out.trans (HBA.out.mono HBr.out.size))).elem his
          subst hgs
          have s0c := hgsc 0 _ rfl
          rw [Nat.mul_one, Nat.add_zero] at s0c
          have HSE : Hid (seeW nms ses i = if ses[i] % 2 = 1 then nms.getD (ses[i] % nms.length) [] else []) := by
            show _ = _; unfold seeW; rw [List.getD_eq_getElem?_getD, List.getElem?_eq_getElem his]; rfl
          clear hgsc
          generalize ses[i] = se at *
          by_cases hod : se % 2 = 1
          · have hmod : Int.tmod (se : Int) 2 = 1 := by rw [show Int.tmod (se : Int) 2 = ((se % 2 : Nat) : Int) from rfl, hod]; rfl
            have hml : se % nms.length < nms.length := Nat.mod_lt _ (by omega)
            have d0 := HNM.out _ (HBr.out.trans (HBA.out.mono HBr.out.size)) (se % nms.length) hml
            have hsw : nms[se % nms.length] = seeW nms ses i := by rw [HSE.out, if_pos hod, List.getD_eq_getElem?_getD, List.getElem?_eq_getElem hml]; rfl
            rw [hsw] at d0
            clear hsw
            go_upto_region 12 with fail
            refine wp_gen fun Wt hWt => ?_
            have HKT : Hid (Bk Wt wr.heap.size (encSp (.mk 5 nm [] (seeW nms ses i) none 0 [])) 70) := by subst hWt; exact Bk.new wr #[.int .u8 5, .string ⟨nm.toArray⟩, .string ⟨#[]⟩, .string ⟨(seeW nms ses i).toArray⟩, .slice none 0 0] 70
            have HBT : Hid (Below wr.heap.size wr Wt) := by subst hWt; exact (Below.refl _ _).alloc (Nat.le_refl _) _
            clear hWt
            have t0 := HKT.out.cell 0
            change Wt.cell? ⟨wr.heap.size, 0, none⟩ = some (.int .u8 5) at t0
            have t1 := HKT.out.cell 1
            change Wt.cell? ⟨wr.heap.size, 1, none⟩ = some (.string ⟨nm.toArray⟩) at t1
            have t2 := HKT.out.cell 2
            change Wt.cell? ⟨wr.heap.size, 2, none⟩ = some (.string ⟨#[]⟩) at t2
            have t3 := HKT.out.cell 3
            change Wt.cell? ⟨wr.heap.size, 3, none⟩ = some (.string ⟨(seeW nms ses i).toArray⟩) at t3
            have t4 := HKT.out.cell 4
            change Wt.cell? ⟨wr.heap.size, 4, none⟩ = some (.slice none 0 0) at t4
            have htl := HKT.out.lt
            clear d0 s0c hmod HSE
            generalize hsw : seeW nms ses i = sw at *
            have HSW := Lib.hid hsw
            clear hsw
            have HIt := Lib.hid (HIW.out.next HBT.out)
            have hWl : (blW W).length ≤ 80 := by rw [blW_len, HIW.out.len]; omega
            have hwt : w.heap.size ≤ Wt.heap.size := HIt.out.bel.size
            go_wp2_with (at_builtin; refine wpList_pushL rfl _ _ 66 rfl w.heap.size 74 9 128 slblk encBl encBl_ok u5 (blW W) rfl (((HIt.out.own.alloc (.cells #[.int .u8 0, .string ⟨#[116]⟩, .string ⟨#[]⟩, .string ⟨#[]⟩, .slice none 0 0] 70)).alloc (.cells #[.int .u8 5, .string ⟨nm.toArray⟩, .string ⟨#[]⟩, .string ⟨sw.toArray⟩, .slice none 0 0] 70)).alloc (.cells #[.int .u8 1, .int .i64 2, .bool false, .string ⟨#[]⟩, .string ⟨#[]⟩, .slice (some ⟨Wt.heap.size, 0, none⟩) 1 1, .slice none 0 0, .string ⟨#[]⟩, .int .i64 0, .int .u8 2, .int .i64 0, .bool false, .string ⟨#[]⟩, .string ⟨#[]⟩, .slice (some ⟨Wt.heap.size + 1, 0, none⟩) 1 1, .slice none 0 0, .string ⟨#[]⟩, .int .i64 0] 74)) [hdW ⟨Wt.heap.size, Wt.heap.size + 1, nm, sw⟩, paW ⟨Wt.heap.size, Wt.heap.size + 1, nm, sw⟩] 2 2 (Wt.heap.size + 1 + 1) rfl rfl (fun j u hj => by (have h := (Bk.new ((Wt.alloc (.cells #[.int .u8 0, .string ⟨#[116]⟩, .string ⟨#[]⟩, .string ⟨#[]⟩, .slice none 0 0] 70)).alloc (.cells #[.int .u8 5, .string ⟨nm.toArray⟩, .string ⟨#[]⟩, .string ⟨sw.toArray⟩, .slice none 0 0] 70)) #[.int .u8 1, .int .i64 2, .bool false, .string ⟨#[]⟩, .string ⟨#[]⟩, .slice (some ⟨Wt.heap.size, 0, none⟩) 1 1, .slice none 0 0, .string ⟨#[]⟩, .int .i64 0, .int .u8 2, .int .i64 0, .bool false, .string ⟨#[]⟩, .string ⟨#[]⟩, .slice (some ⟨Wt.heap.size + 1, 0, none⟩) 1 1, .slice none 0 0, .string ⟨#[]⟩, .int .i64 0] 74).cell j); rw [World.size_alloc, World.size_alloc] at h; exact h.trans hj) (by omega) (by unfold maxLen; omega) (by simp; omega) ?_; intro v' w3 hown3 hg3)
            have HST : Hid (WhI nms ses w w3 (i + 1) (W ++ [⟨Wt.heap.size, Wt.heap.size + 1, nm, sw⟩]) v') := by
              have hb1 := (((Below.refl Wt.heap.size Wt).alloc (Nat.le_refl _) (.cells #[.int .u8 0, .string ⟨#[116]⟩, .string ⟨#[]⟩, .string ⟨#[]⟩, .slice none 0 0] 70)).alloc (by simp) (.cells #[.int .u8 5, .string ⟨nm.toArray⟩, .string ⟨#[]⟩, .string ⟨sw.toArray⟩, .slice none 0 0] 70)).alloc (by simp; omega) (.cells #[.int .u8 1, .int .i64 2, .bool false, .string ⟨#[]⟩, .string ⟨#[]⟩, .slice (some ⟨Wt.heap.size, 0, none⟩) 1 1, .slice none 0 0, .string ⟨#[]⟩, .int .i64 0, .int .u8 2, .int .i64 0, .bool false, .string ⟨#[]⟩, .string ⟨#[]⟩, .slice (some ⟨Wt.heap.size + 1, 0, none⟩) 1 1, .slice none 0 0, .string ⟨#[]⟩, .int .i64 0] 74)
              refine HIt.out.step hb1 ⟨?_, HSW.out.symm⟩ ?_ ?_ hown3 hg3
              · show nm = _
                rw [List.getD_eq_getElem?_getD, List.getElem?_eq_getElem hlt, ← HNI.out]; rfl
              · exact ((Bk.new Wt _ 70).alloc _).alloc _
              · have h := (Bk.new (Wt.alloc (.cells #[.int .u8 0, .string ⟨#[116]⟩, .string ⟨#[]⟩, .string ⟨#[]⟩, .slice none 0 0] 70)) #[.int .u8 5, .string ⟨nm.toArray⟩, .string ⟨#[]⟩, .string ⟨sw.toArray⟩, .slice none 0 0] 70).alloc (.cells #[.int .u8 1, .int .i64 2, .bool false, .string ⟨#[]⟩, .string ⟨#[]⟩, .slice (some ⟨Wt.heap.size, 0, none⟩) 1 1, .slice none 0 0, .string ⟨#[]⟩, .int .i64 0, .int .u8 2, .int .i64 0, .bool false, .string ⟨#[]⟩, .string ⟨#[]⟩, .slice (some ⟨Wt.heap.size + 1, 0, none⟩) 1 1, .slice none 0 0, .string ⟨#[]⟩, .int .i64 0] 74)
                rw [World.size_alloc] at h
                exact h
            clear hown3 hg3 t0 t1 t2 t3 t4 HKT HBT HIt
            go_wp2_with fail
            go_roundw
            case rel => exact ⟨i + 1, by omega, by go_num, by rw [HS1.out], ⟨_, HST.out⟩⟩
            case measure => simp [intOf]; omega
          · have hmod : Int.tmod (se : Int) 2 = 0 := by rw [show Int.tmod (se : Int) 2 = ((se % 2 : Nat) : Int) from rfl, show se % 2 = 0 by omega]; rfl
            have HSW0 : Hid (seeW nms ses i = []) := by show _ = _; rw [HSE.out, if_neg hod]
            go_upto_region 12 with fail
            refine wp_gen fun Wt hWt => ?_
            have HKT : Hid (Bk Wt wr.heap.size (encSp (.mk 5 nm [] (seeW nms ses i) none 0 [])) 70) := by subst hWt; rw [HSW0.out]; exact HKA.out
            have HBT : Hid (Below wr.heap.size wr Wt) := by subst hWt; exact HBA.out
            clear hWt
            have t0 := HKT.out.cell 0
            change Wt.cell? ⟨wr.heap.size, 0, none⟩ = some (.int .u8 5) at t0
            have t1 := HKT.out.cell 1
            change Wt.cell? ⟨wr.heap.size, 1, none⟩ = some (.string ⟨nm.toArray⟩) at t1
            have t2 := HKT.out.cell 2
            change Wt.cell? ⟨wr.heap.size, 2, none⟩ = some (.string ⟨#[]⟩) at t2
            have t3 := HKT.out.cell 3
            change Wt.cell? ⟨wr.heap.size, 3, none⟩ = some (.string ⟨(seeW nms ses i).toArray⟩) at t3
            have t4 := HKT.out.cell 4
            change Wt.cell? ⟨wr.heap.size, 4, none⟩ = some (.slice none 0 0) at t4
            have htl := HKT.out.lt
            clear s0c hmod HSE HSW0
            generalize hsw : seeW nms ses i = sw at *
            have HSW := Lib.hid hsw
            clear hsw
            have HIt := Lib.hid (HIW.out.next HBT.out)
            have hWl : (blW W).length ≤ 80 := by rw [blW_len, HIW.out.len]; omega
            have hwt : w.heap.size ≤ Wt.heap.size := HIt.out.bel.size
            go_wp2_with (at_builtin; refine wpList_pushL rfl _ _ 66 rfl w.heap.size 74 9 128 slblk encBl encBl_ok u5 (blW W) rfl (((HIt.out.own.alloc (.cells #[.int .u8 0, .string ⟨#[116]⟩, .string ⟨#[]⟩, .string ⟨#[]⟩, .slice none 0 0] 70)).alloc (.cells #[.int .u8 5, .string ⟨nm.toArray⟩, .string ⟨#[]⟩, .string ⟨sw.toArray⟩, .slice none 0 0] 70)).alloc (.cells #[.int .u8 1, .int .i64 2, .bool false, .string ⟨#[]⟩, .string ⟨#[]⟩, .slice (some ⟨Wt.heap.size, 0, none⟩) 1 1, .slice none 0 0, .string ⟨#[]⟩, .int .i64 0, .int .u8 2, .int .i64 0, .bool false, .string ⟨#[]⟩, .string ⟨#[]⟩, .slice (some ⟨Wt.heap.size + 1, 0, none⟩) 1 1, .slice none 0 0, .string ⟨#[]⟩, .int .i64 0] 74)) [hdW ⟨Wt.heap.size, Wt.heap.size + 1, nm, sw⟩, paW ⟨Wt.heap.size, Wt.heap.size + 1, nm, sw⟩] 2 2 (Wt.heap.size + 1 + 1) rfl rfl (fun j u hj => by (have h := (Bk.new ((Wt.alloc (.cells #[.int .u8 0, .string ⟨#[116]⟩, .string ⟨#[]⟩, .string ⟨#[]⟩, .slice none 0 0] 70)).alloc (.cells #[.int .u8 5, .string ⟨nm.toArray⟩, .string ⟨#[]⟩, .string ⟨sw.toArray⟩, .slice none 0 0] 70)) #[.int .u8 1, .int .i64 2, .bool false, .string ⟨#[]⟩, .string ⟨#[]⟩, .slice (some ⟨Wt.heap.size, 0, none⟩) 1 1, .slice none 0 0, .string ⟨#[]⟩, .int .i64 0, .int .u8 2, .int .i64 0, .bool false, .string ⟨#[]⟩, .string ⟨#[]⟩, .slice (some ⟨Wt.heap.size + 1, 0, none⟩) 1 1, .slice none 0 0, .string ⟨#[]⟩, .int .i64 0] 74).cell j); rw [World.size_alloc, World.size_alloc] at h; exact h.trans hj) (by omega) (by unfold maxLen; omega) (by simp; omega) ?_; intro v' w3 hown3 hg3)
            have HST : Hid (WhI nms ses w w3 (i + 1) (W ++ [⟨Wt.heap.size, Wt.heap.size + 1, nm, sw⟩]) v') := by
              have hb1 := (((Below.refl Wt.heap.size Wt).alloc (Nat.le_refl _) (.cells #[.int .u8 0, .string ⟨#[116]⟩, .string ⟨#[]⟩, .string ⟨#[]⟩, .slice none 0 0] 70)).alloc (by simp) (.cells #[.int .u8 5, .string ⟨nm.toArray⟩, .string ⟨#[]⟩, .string ⟨sw.toArray⟩, .slice none 0 0] 70)).alloc (by simp; omega) (.cells #[.int .u8 1, .int .i64 2, .bool false, .string ⟨#[]⟩, .string ⟨#[]⟩, .slice (some ⟨Wt.heap.size, 0, none⟩) 1 1, .slice none 0 0, .string ⟨#[]⟩, .int .i64 0, .int .u8 2, .int .i64 0, .bool false, .string ⟨#[]⟩, .string ⟨#[]⟩, .slice (some ⟨Wt.heap.size + 1, 0, none⟩) 1 1, .slice none 0 0, .string ⟨#[]⟩, .int .i64 0] 74)
              refine HIt.out.step hb1 ⟨?_, HSW.out.symm⟩ ?_ ?_ hown3 hg3
              · show nm = _
                rw [List.getD_eq_getElem?_getD, List.getElem?_eq_getElem hlt, ← HNI.out]; rfl
              · exact ((Bk.new Wt _ 70).alloc _).alloc _
              · have h := (Bk.new (Wt.alloc (.cells #[.int .u8 0, .string ⟨#[116]⟩, .string ⟨#[]⟩, .string ⟨#[]⟩, .slice none 0 0] 70)) #[.int .u8 5, .string ⟨nm.toArray⟩, .string ⟨#[]⟩, .string ⟨sw.toArray⟩, .slice none 0 0] 70).alloc (.cells #[.int .u8 1, .int .i64 2, .bool false, .string ⟨#[]⟩, .string ⟨#[]⟩, .slice (some ⟨Wt.heap.size, 0, none⟩) 1 1, .slice none 0 0, .string ⟨#[]⟩, .int .i64 0, .int .u8 2, .int .i64 0, .bool false, .string ⟨#[]⟩, .string ⟨#[]⟩, .slice (some ⟨Wt.heap.size + 1, 0, none⟩) 1 1, .slice none 0 0, .string ⟨#[]⟩, .int .i64 0] 74)
                rw [World.size_alloc] at h
                exact h
            clear hown3 hg3 t0 t1 t2 t3 t4 HKT HBT HIt
            go_wp2_with fail
            go_roundw
            case rel => exact ⟨i + 1, by omega, by go_num, by rw [HS1.out], ⟨_, HST.out⟩⟩
            case measure => simp [intOf]; omega
        · have HSW0 : Hid (seeW nms ses i = []) := by
            show _ = _
            unfold seeW
            rw [List.getD_eq_getElem?_getD, List.getElem?_eq_none (by omega)]; rfl
          go_upto_region 12 with fail
          refine wp_gen fun Wt hWt => ?_
          have HKT : Hid (Bk Wt wr.heap.size (encSp (.mk 5 nm [] (seeW nms ses i) none 0 [])) 70) := by subst hWt; rw [HSW0.out]; exact HKA.out
          have HBT : Hid (Below wr.heap.size wr Wt) := by subst hWt; exact HBA.out
          clear hWt
          have t0 := HKT.out.cell 0
          change Wt.cell? ⟨wr.heap.size, 0, none⟩ = some (.int .u8 5) at t0
          have t1 := HKT.out.cell 1
          change Wt.cell? ⟨wr.heap.size, 1, none⟩ = some (.string ⟨nm.toArray⟩) at t1
          have t2 := HKT.out.cell 2
          change Wt.cell? ⟨wr.heap.size, 2, none⟩ = some (.string ⟨#[]⟩) at t2
          have t3 := HKT.out.cell 3
          change Wt.cell? ⟨wr.heap.size, 3, none⟩ = some (.string ⟨(seeW nms ses i).toArray⟩) at t3
          have t4 := HKT.out.cell 4
          change Wt.cell? ⟨wr.heap.size, 4, none⟩ = some (.slice none 0 0) at t4
          have htl := HKT.out.lt
          clear HSW0
          generalize hsw : seeW nms ses i = sw at *
          have HSW := Lib.hid hsw
          clear hsw
          have HIt := Lib.hid (HIW.out.next HBT.out)
          have hWl : (blW W).length ≤ 80 := by rw [blW_len, HIW.out.len]; omega
          have hwt : w.heap.size ≤ Wt.heap.size := HIt.out.bel.size
          go_wp2_with (at_builtin; refine wpList_pushL rfl _ _ 66 rfl w.heap.size 74 9 128 slblk encBl encBl_ok u5 (blW W) rfl (((HIt.out.own.alloc (.cells #[.int .u8 0, .string ⟨#[116]⟩, .string ⟨#[]⟩, .string ⟨#[]⟩, .slice none 0 0] 70)).alloc (.cells #[.int .u8 5, .string ⟨nm.toArray⟩, .string ⟨#[]⟩, .string ⟨sw.toArray⟩, .slice none 0 0] 70)).alloc (.cells #[.int .u8 1, .int .i64 2, .bool false, .string ⟨#[]⟩, .string ⟨#[]⟩, .slice (some ⟨Wt.heap.size, 0, none⟩) 1 1, .slice none 0 0, .string ⟨#[]⟩, .int .i64 0, .int .u8 2, .int .i64 0, .bool false, .string ⟨#[]⟩, .string ⟨#[]⟩, .slice (some ⟨Wt.heap.size + 1, 0, none⟩) 1 1, .slice none 0 0, .string ⟨#[]⟩, .int .i64 0] 74)) [hdW ⟨Wt.heap.size, Wt.heap.size + 1, nm, sw⟩, paW ⟨Wt.heap.size, Wt.heap.size + 1, nm, sw⟩] 2 2 (Wt.heap.size + 1 + 1) rfl rfl (fun j u hj => by (have h := (Bk.new ((Wt.alloc (.cells #[.int .u8 0, .string ⟨#[116]⟩, .string ⟨#[]⟩, .string ⟨#[]⟩, .slice none 0 0] 70)).alloc (.cells #[.int .u8 5, .string ⟨nm.toArray⟩, .string ⟨#[]⟩, .string ⟨sw.toArray⟩, .slice none 0 0] 70)) #[.int .u8 1, .int .i64 2, .bool false, .string ⟨#[]⟩, .string ⟨#[]⟩, .slice (some ⟨Wt.heap.size, 0, none⟩) 1 1, .slice none 0 0, .string ⟨#[]⟩, .int .i64 0, .int .u8 2, .int .i64 0, .bool false, .string ⟨#[]⟩, .string ⟨#[]⟩, .slice (some ⟨Wt.heap.size + 1, 0, none⟩) 1 1, .slice none 0 0, .string ⟨#[]⟩, .int .i64 0] 74).cell j); rw [World.size_alloc, World.size_alloc] at h; exact h.trans hj) (by omega) (by unfold maxLen; omega) (by simp; omega) ?_; intro v' w3 hown3 hg3)
          have HST : Hid (WhI nms ses w w3 (i + 1) (W ++ [⟨Wt.heap.size, Wt.heap.size + 1, nm, sw⟩]) v') := by
            have hb1 := (((Below.refl Wt.heap.size Wt).alloc (Nat.le_refl _) (.cells #[.int .u8 0, .string ⟨#[116]⟩, .string ⟨#[]⟩, .string ⟨#[]⟩, .slice none 0 0] 70)).alloc (by simp) (.cells #[.int .u8 5, .string ⟨nm.toArray⟩, .string ⟨#[]⟩, .string ⟨sw.toArray⟩, .slice none 0 0] 70)).alloc (by simp; omega) (.cells #[.int .u8 1, .int .i64 2, .bool false, .string ⟨#[]⟩, .string ⟨#[]⟩, .slice (some ⟨Wt.heap.size, 0, none⟩) 1 1, .slice none 0 0, .string ⟨#[]⟩, .int .i64 0, .int .u8 2, .int .i64 0, .bool false, .string ⟨#[]⟩, .string ⟨#[]⟩, .slice (some ⟨Wt.heap.size + 1, 0, none⟩) 1 1, .slice none 0 0, .string ⟨#[]⟩, .int .i64 0] 74)
            refine HIt.out.step hb1 ⟨?_, HSW.out.symm⟩ ?_ ?_ hown3 hg3
            · show nm = _
              rw [List.getD_eq_getElem?_getD, List.getElem?_eq_getElem hlt, ← HNI.out]; rfl
            · exact ((Bk.new Wt _ 70).alloc _).alloc _
            · have h := (Bk.new (Wt.alloc (.cells #[.int .u8 0, .string ⟨#[116]⟩, .string ⟨#[]⟩, .string ⟨#[]⟩, .slice none 0 0] 70)) #[.int .u8 5, .string ⟨nm.toArray⟩, .string ⟨#[]⟩, .string ⟨sw.toArray⟩, .slice none 0 0] 70).alloc (.cells #[.int .u8 1, .int .i64 2, .bool false, .string ⟨#[]⟩, .string ⟨#[]⟩, .slice (some ⟨Wt.heap.size, 0, none⟩) 1 1, .slice none 0 0, .string ⟨#[]⟩, .int .i64 0, .int .u8 2, .int .i64 0, .bool false, .string ⟨#[]⟩, .string ⟨#[]⟩, .slice (some ⟨Wt.heap.size + 1, 0, none⟩) 1 1, .slice none 0 0, .string ⟨#[]⟩, .int .i64 0] 74)
              rw [World.size_alloc] at h
              exact h
          clear hown3 hg3 t0 t1 t2 t3 t4 HKT HBT HIt
          go_wp2_with fail
          go_roundw
          case rel => exact ⟨i + 1, by omega, by go_num, by rw [HS1.out], ⟨_, HST.out⟩⟩
          case measure => simp [intOf]; omega
      · obtain rfl : i = nms.length := by omega
        obtain ⟨W, hI⟩ := HI.out
        obtain ⟨ba, bc, hv⟩ := hI.own.shape
        subst hv
        rw [List.take_length]
        have HIW := Lib.hid hI
        have HBI := Lib.hid hI.bel
        have hbl : (blW W).length = 2 * nms.length := by rw [blW_len, hI.len]
        clear HI hI
        by_cases h3k : 3000 < sumM List.length nms
        · generalize sumM List.length nms = S at *
          go_wp2_with (go_at_call 7; refine (lives17_any _ (HT.out.below HBI.out)).mono ?_; rintro e w9 ⟨rfl, hb9⟩; have HB9 : Hid (Below w.heap.size w w9) := HBI.out.trans (hb9.mono HBI.out.size))
          go_ret
          exact ⟨rfl, HB9.out⟩
        · have HS3 : Hid (sumM List.length nms ≤ 3000) := Nat.le_of_not_lt h3k
          have HPL : Hid (∀ W1, ChsAt W1 (some ⟨wr.heap.size, 0, none⟩) [chW ba bc W] → Below w.heap.size w W1 → Calls Tryz.prog 17 #[.slice (some ⟨wr.heap.size, 0, none⟩) 1 1] W1 fun e w' => ∃ ap cp ad cd nd, e = .returned (.tuple #[.slice ap (totP [chW ba bc W]).pls.length cp, .slice ad nd cd]) ∧ At w' 6 encPl ap (totP [chW ba bc W]).pls ∧ (totP [chW ba bc W]).pls.length ≤ cp ∧ Below W1.heap.size W1 w') := fun W1 h1 h2 => wh_places (HIW.out.sz hn40 HS3.out) _ W1 h1 (HT.out.below h2)
          have HBU : Hid (∀ W1 ap cp, ChsAt W1 (some ⟨wr.heap.size, 0, none⟩) [chW ba bc W] → Below w.heap.size w W1 → At W1 6 encPl ap (totP [chW ba bc W]).pls → (totP [chW ba bc W]).pls.length ≤ cp → Calls Tryz.prog 18 #[.slice (some ⟨wr.heap.size, 0, none⟩) 1 1, .slice ap (totP [chW ba bc W]).pls.length cp] W1 fun e w' => ∃ ea ec ul ad cd, e = .returned (.tuple #[.slice ea (List.length ul) ec, .slice ad 0 cd]) ∧ EnsAt (fun _ => True) w' ea ul ∧ WhX nms ses W (totP [chW ba bc W]).pls ul ∧ Below W1.heap.size W1 w') := fun W1 ap cp h1 h2 h3 h4 => wh_build HIW.out hn40 HS3.out _ ap cp W1 h1 h3 h4 (HT.out.below h2)
          generalize sumM List.length nms = S at *
          go_wp2_with fail
          refine calls_gen fun W1 hW1 => ?_
          have HCH : Hid (ChsAt W1 (some ⟨wr.heap.size, 0, none⟩) [chW ba bc W]) := by subst hW1; (have h := HIW.out.chs 77); rw [hbl] at h; exact h
          have HBr1 : Hid (Below wr.heap.size wr W1) := by subst hW1; exact (Below.refl _ _).alloc (Nat.le_refl _) _
          have HB1 : Hid (Below w.heap.size w W1) := HBI.out.trans (HBr1.out.mono HBI.out.size)
          clear hW1
          refine (HPL.out W1 HCH.out HB1.out).mono ?_
          rintro e w2 ⟨ap, cp, ad, cd, nd, rfl, hp, hcp, hb2⟩
          have HB2 : Hid (Below w.heap.size w w2) := HB1.out.trans (hb2.mono HB1.out.size)
          have HBr2 : Hid (Below wr.heap.size wr w2) := HBr1.out.trans (hb2.mono HBr1.out.size)
          have HCH2 := Lib.hid (HCH.out.keep hb2)
          have HPA := Lib.hid hp
          have HPC := Lib.hid hcp
          clear hp hcp hb2
          go_wp2_with fail
          refine (HBU.out w2 _ _ HCH2.out HB2.out HPA.out HPC.out).mono ?_
          rintro e w3 ⟨ea, ec, ul, ad2, cd2, rfl, hE, hX, hb3⟩
          have HB3 : Hid (Below w.heap.size w w3) := HB2.out.trans (hb3.mono HB2.out.size)
          have HBr3 : Hid (Below wr.heap.size wr w3) := HBr2.out.trans (hb3.mono HBr2.out.size)
          have HI3 := Lib.hid (HIW.out.next HBr3.out)
          have HP3 := Lib.hid (HPA.out.below hb3)
          have HE := Lib.hid hE
          have HX := Lib.hid hX
          have hul : ul.length ≤ 1000000 := hX.ulen
          have hpl : (totP [chW ba bc W]).pls.length = nms.length := hX.len
          clear hE hX hb3 HPA HPC HPL HBU HCH HCH2 HIW
          generalize (totP [chW ba bc W]).pls = P at *
          have HPLn := Lib.hid hpl
          have HBLn := Lib.hid hbl
          have hI3 := HI3.out
          rw [hbl] at hI3
          clear hpl hbl
          go_wp2_with fail
          generalize hnb : 2 * nms.length = nb at *
          have HNB := Lib.hid hnb
          clear hnb
          go_loopw [14] (fun v14 wq => ∃ i : Nat, i ≤ nms.length ∧ v14 = .int .i64 i ∧ Hid (Below w3.heap.size w3 wq)) (fun v14 _ => nms.length - (intOf v14).toNat)
          case atStart => exact ⟨0, by omega, rfl, Below.refl _ _⟩
          case round =>
            obtain ⟨i, hi, rfl, HQ⟩ := hrel
            by_cases hlt : i < nms.length
            · obtain ⟨xw, pw, hxw, hpw, htw, hsw, hfw⟩ := HX.out.fnd i hlt
              obtain ⟨gn, gno, hga, hgl, hgc⟩ := (HA.out.below (HB3.out.trans (HQ.out.mono HB3.out.size))).elem hlt
              subst hga
              have e0 := hgc 0 _ rfl
              rw [Nat.mul_one, Nat.add_zero] at e0
              have HFI := Lib.hid (findE_any ul ea ec nms[i] _ wr (HE.out.next HQ.out) hul HX.out.small)
              obtain ⟨gB, hba, hc1, hc2, hc3, hc4⟩ := HI3.out.see_at hxw
              subst hba
              obtain ⟨gp, gpo, hgp, hgpl, hgpc⟩ := HP3.out.elem (i := i) (by rw [HPLn.out]; exact hlt)
              subst hgp
              have hpe : P[i]'(by rw [HPLn.out]; exact hlt) = pw := by
                have h := List.getElem?_eq_getElem (l := P) (i := i) (by rw [HPLn.out]; exact hlt)
                rw [hpw] at h
                exact (Option.some.inj h).symm
              rw [hpe] at hgpc
              have q2 := hgpc 2 (.string ⟨pw.number.toArray⟩) rfl
              have q5 := hgpc 5 (.string ⟨pw.anchor.toArray⟩) rfl
              have HQC := Lib.hid (And.intro hc1 (And.intro hc2 (And.intro q2 q5)))
              have HQL := Lib.hid (And.intro hc3 (And.intro hc4 hgpl))
              clear hgc hgpc q2 q5 hc1 hc2 hc3 hc4 hgpl hpe
              generalize nms[i] = nm at *
              go_wp2_with fail
              refine HFI.out.mono ?_
              rintro e w5 hF
              have hF5 : ∃ x, x ∈ ul ∧ En.term x = nm ∧ FoundG x wr e w5 := by
                rcases hF with ⟨j, x, hf, hx, hG⟩ | ⟨hno, _⟩
                · exact ⟨x, List.mem_of_getElem? hx, hf.term x hx, hG⟩
                · have h := first_of hfw.term
                  rw [htw] at h
                  exact absurd hno h
              obtain ⟨x, hxm, hxt, aa, ac, sa, sc, ua, uc, kl, rfl, hE5, hS5, hb5⟩ := hF5
              have HNO : Hid (xw.se = [] → ∃ a ∈ x.al, a.1 = (pw.page, pw.anchor, pw.number)) := fun e => hfw.none_ e x hxm (hxt.trans htw.symm)
              have HSO : Hid (xw.se ≠ [] → xw.se ∈ x.sl) := fun e => hfw.some_ e x hxm (hxt.trans htw.symm)
              obtain ⟨hal, hsl⟩ : x.al.length ≤ 1000000 ∧ x.sl.length ≤ 1000000 := by
                cases HX.out.small x hxm with
                | mk h1 h2 h3 h6 => exact ⟨h1, h2⟩
              have HQ5 : Hid (Below w3.heap.size w3 w5) := HQ.out.trans (hb5.mono HQ.out.size)
              have HAL : Hid (At w5 3 encLo aa x.al) := hE5.als.at_
              have HSLs : Hid (At w5 1 encS sa x.sl) := hE5.sls.at_
              clear hE5 hS5 hb5 hF hfw hxm hxw hpw htw hsw hxt e0 HFI
              have c1 := bcellN HQ5.out HQC.out.1
              have c2 := bcellN HQ5.out HQC.out.2.1
              have g1 : gB < w5.heap.size := Nat.lt_of_lt_of_le HQL.out.1 HQ5.out.size
              have g2 : xw.gb < w5.heap.size := Nat.lt_of_lt_of_le HQL.out.2.1 HQ5.out.size
              obtain ⟨m0, hm0⟩ : ∃ m0, 2 * i = m0 := ⟨_, rfl⟩
              obtain ⟨m, hm⟩ : ∃ m, m0 + 1 = m := ⟨_, rfl⟩
              rw [hm0, hm] at c1
              have hm1 : IntKind.i64.wrap (2 * (i : Int)) = (m0 : Int) := by rw [show 2 * (i : Int) = (m0 : Int) by omega]; exact IntWalk.i64_in _ (by omega)
              have hm2 : IntKind.i64.wrap ((m0 : Int) + 1) = (m : Int) := by rw [show (m0 : Int) + 1 = (m : Int) by omega]; exact IntWalk.i64_in _ (by omega)
              have hmlt : m < nb := by have := HNB.out; omega
              have hmi : (m : Int) < (nb : Int) := by omega
              have hd1 : decide ((nb : Int) ≤ (m : Int)) = false := decide_eq_false (by omega)
              have hpi : i < P.length := by rw [HPLn.out]; exact hlt
              have hd2 : decide ((P.length : Int) ≤ (i : Int)) = false := decide_eq_false (by omega)
              have hd3 : decide (P.length ≤ i) = false := decide_eq_false (by omega)
              have hd4 : decide (nb ≤ m) = false := decide_eq_false (by omega)
              clear hm hm0
              go_wp2_with fail
              refine wp_gen fun W6 hW6 => ?_
              have HB56 : Hid (Below w5.heap.size w5 W6) := by subst hW6; exact (Below.refl _ _).alloc (Nat.le_refl _) _
              have HXK : Hid (Bk W6 w5.heap.size [.string ⟨x.term.toArray⟩, .slice aa x.al.length ac, .slice sa x.sl.length sc, .slice ua kl.length uc] 29) := by subst hW6; exact Bk.new w5 _ _
              have HQ6 : Hid (Below w3.heap.size w3 W6) := HQ5.out.trans (HB56.out.mono HQ5.out.size)
              have HAL6 := Lib.hid (HAL.out.below HB56.out)
              have HSL6 := Lib.hid (HSLs.out.below HB56.out)
              clear hW6 c1 c2 hm1 hm2 hd1 hd2 hd3 hd4
              generalize xw.se = se at *
              generalize w5.heap.size = gx at *
              go_loopw [18, 19] (fun v18 v19 wq => ∃ (f : Bool) (k : Nat), k ≤ x.al.length ∧ v19 = .int .i64 k ∧ v18 = .bool f ∧ Hid (∀ j, j < k → ∀ y, x.al[j]? = some y → y.1.2.1 = pw.anchor → y.1.2.2 = pw.number → f = true) ∧ Hid (Below W6.heap.size W6 wq)) (fun _ v19 _ => x.al.length - (intOf v19).toNat)
              case atStart => exact ⟨false, 0, by omega, rfl, rfl, fun j h => absurd h (by omega), Below.refl _ _⟩
              case round =>
                obtain ⟨f, k, hk, rfl, rfl, HF, HBK⟩ := hrel
                have hxk := HXK.out.next HBK.out
                have x1 := hxk.cell 1
                change wr.cell? ⟨gx, 1, none⟩ = some (.slice aa x.al.length ac) at x1
                have x2 := hxk.cell 2
                change wr.cell? ⟨gx, 2, none⟩ = some (.slice sa x.sl.length sc) at x2
                have hgx := hxk.lt
                have HQ7 : Hid (Below w3.heap.size w3 wr) := HQ6.out.trans (HBK.out.mono HQ6.out.size)
                by_cases hkl : k < x.al.length
                · obtain ⟨ga, gao, haa, hgal, hgac⟩ := (HAL6.out.below HBK.out).elem hkl
                  subst haa
                  have y1 := hgac 1 _ rfl
                  have y2 := hgac 2 _ rfl
                  have HFN : Hid (∀ f' : Bool, (f = true → f' = true) → (x.al[k].1.2.1 = pw.anchor → x.al[k].1.2.2 = pw.number → f' = true) → ∀ j, j < k + 1 → ∀ y, x.al[j]? = some y → y.1.2.1 = pw.anchor → y.1.2.2 = pw.number → f' = true) := fun f' h1 h2 j hj y hy ha hb => by
                    rcases Nat.lt_succ_iff_lt_or_eq.1 hj with h | rfl
                    · exact h1 (HF.out j h y hy ha hb)
                    · rw [List.getElem?_eq_getElem hkl] at hy
                      cases hy
                      exact h2 ha hb
                  generalize x.al[k].1.2.1 = an at *
                  generalize x.al[k].1.2.2 = nu at *
                  have p2 := bcellN HQ7.out HQC.out.2.2.1
                  have p5 := bcellN HQ7.out HQC.out.2.2.2
                  clear hgac
                  cases f
                  · by_cases han : an = pw.anchor
                    · have hb1 : (an == pw.anchor) = true := by simpa using han
                      by_cases hnu : nu = pw.number
                      · have hb2 : (nu == pw.number) = true := by simpa using hnu
                        have HF2 := Lib.hid (HFN.out true (fun _ => rfl) (fun _ _ => rfl))
                        clear han hnu
                        go_wp2_with fail
                        go_quiet (fail)
                        have HBY : Hid (Below W6.heap.size W6 (wr.drewN nq)) := below_drewN HBK.out nq
                        go_wp2_with fail
                        go_roundw
                        case rel => exact ⟨_, k + 1, by omega, by go_num, rfl, (by first | exact fun _ _ _ _ _ _ => rfl | exact HF2.out | simpa using HF2.out), HBY.out⟩
                        case measure => simp [intOf]; omega
                      · have hb2 : (nu == pw.number) = false := beq_eq_false_iff_ne.2 hnu
                        have HF2 := Lib.hid (HFN.out false (fun h => h) (fun _ h => absurd h hnu))
                        clear han hnu
                        go_wp2_with fail
                        go_quiet (fail)
                        have HBY : Hid (Below W6.heap.size W6 (wr.drewN nq)) := below_drewN HBK.out nq
                        go_wp2_with fail
                        go_roundw
                        case rel => exact ⟨_, k + 1, by omega, by go_num, rfl, (by first | exact fun _ _ _ _ _ _ => rfl | exact HF2.out | simpa using HF2.out), HBY.out⟩
                        case measure => simp [intOf]; omega
                    · have hb1 : (an == pw.anchor) = false := beq_eq_false_iff_ne.2 han
                      have HF2 := Lib.hid (HFN.out false (fun h => h) (fun h => absurd h han))
                      clear han
                      go_wp2_with fail
                      go_quiet (fail)
                      have HBY : Hid (Below W6.heap.size W6 (wr.drewN nq)) := below_drewN HBK.out nq
                      go_wp2_with fail
                      go_roundw
                      case rel => exact ⟨_, k + 1, by omega, by go_num, rfl, (by first | exact fun _ _ _ _ _ _ => rfl | exact HF2.out | simpa using HF2.out), HBY.out⟩
                      case measure => simp [intOf]; omega
                  · have HF2 := Lib.hid (HFN.out true (fun _ => rfl) (fun _ _ => rfl))
                    go_wp2_with fail
                    go_quiet (fail)
                    have HBY : Hid (Below W6.heap.size W6 (wr.drewN nq)) := below_drewN HBK.out nq
                    go_wp2_with fail
                    go_roundw
                    case rel => exact ⟨_, k + 1, by omega, by go_num, rfl, (by first | exact fun _ _ _ _ _ _ => rfl | exact HF2.out | simpa using HF2.out), HBY.out⟩
                    case measure => simp [intOf]; omega
                · obtain rfl : k = x.al.length := by omega
                  have HA0 : Hid (se = [] → f = true) := fun e => by
                    obtain ⟨y, hy, e1⟩ := HNO.out e
                    obtain ⟨j, hj, rfl⟩ := List.getElem_of_mem hy
                    exact HF.out j hj _ (List.getElem?_eq_getElem hj) (by rw [e1]) (by rw [e1])
                  go_wp2_with fail
                  go_loopw [18, 20] (fun v18 v20 wq => ∃ (f' : Bool) (q : Nat), q ≤ x.sl.length ∧ v20 = .int .i64 q ∧ v18 = .bool f' ∧ Hid ((f = true → f' = true) ∧ ∀ j, j < q → x.sl[j]? = some se → se ≠ [] → f' = true) ∧ Hid (Below W6.heap.size W6 wq)) (fun _ v20 _ => x.sl.length - (intOf v20).toNat)
                  case atStart => exact ⟨f, 0, by omega, rfl, rfl, ⟨fun h => h, fun j h => absurd h (by omega)⟩, HBK.out⟩
                  case round =>
                    obtain ⟨f', q, hq, rfl, rfl, HG, HBL⟩ := hrel
                    have hxk := HXK.out.next HBL.out
                    have x2 := hxk.cell 2
                    change wr.cell? ⟨gx, 2, none⟩ = some (.slice sa x.sl.length sc) at x2
                    have hgx := hxk.lt
                    clear hxk
                    by_cases hql : q < x.sl.length
                    · obtain ⟨ga, gao, haa, hgal, hgac⟩ := (HSL6.out.below HBL.out).elem hql
                      subst haa
                      have y0 := hgac 0 _ rfl
                      rw [Nat.mul_one, Nat.add_zero] at y0
                      have HGN : Hid (∀ g : Bool, (f' = true → g = true) → (x.sl[q] = se → se ≠ [] → g = true) → (f = true → g = true) ∧ ∀ j, j < q + 1 → x.sl[j]? = some se → se ≠ [] → g = true) := fun g h1 h2 => by
                        refine ⟨fun h => h1 (HG.out.1 h), fun j hj hy hne => ?_⟩
                        rcases Nat.lt_succ_iff_lt_or_eq.1 hj with h | rfl
                        · exact h1 (HG.out.2 j h hy hne)
                        · rw [List.getElem?_eq_getElem hql] at hy
                          exact h2 (Option.some.inj hy) hne
                      generalize x.sl[q] = ys at *
                      clear hgac
                      cases f'
                      · by_cases hse : se = []
                        · subst hse
                          have HF3 := Lib.hid (HGN.out false (fun h => h) (fun _ h => absurd rfl h))
                          go_wp2_with fail
                          go_roundw
                          case rel => exact ⟨_, q + 1, by omega, by go_num, rfl, (by first | exact ⟨fun _ => rfl, fun _ _ _ _ => rfl⟩ | exact HF3.out | simpa using HF3.out), HBL.out⟩
                          case measure => simp [intOf]; omega
                        · have hs1 : (se == []) = false := beq_eq_false_iff_ne.2 hse
                          have hs2 : (se != []) = true := by rw [bne, hs1]; rfl
                          by_cases hys : ys = se
                          · have hb : (ys == se) = true := by simpa using hys
                            have HF3 := Lib.hid (HGN.out true (fun _ => rfl) (fun _ _ => rfl))
                            clear hys hse
                            go_wp2_with fail
                            go_roundw
                            case rel => exact ⟨_, q + 1, by omega, by go_num, rfl, (by first | exact ⟨fun _ => rfl, fun _ _ _ _ => rfl⟩ | exact HF3.out | simpa using HF3.out), HBL.out⟩
                            case measure => simp [intOf]; omega
                          · have hb : (ys == se) = false := beq_eq_false_iff_ne.2 hys
                            have HF3 := Lib.hid (HGN.out false (fun h => h) (fun h => absurd h hys))
                            clear hys hse
                            go_wp2_with fail
                            go_roundw
                            case rel => exact ⟨_, q + 1, by omega, by go_num, rfl, (by first | exact ⟨fun _ => rfl, fun _ _ _ _ => rfl⟩ | exact HF3.out | simpa using HF3.out), HBL.out⟩
                            case measure => simp [intOf]; omega
                      · have HF3 := Lib.hid (HGN.out true (fun _ => rfl) (fun _ _ => rfl))
                        go_wp2_with fail
                        go_roundw
                        case rel => exact ⟨_, q + 1, by omega, by go_num, rfl, (by first | exact ⟨fun _ => rfl, fun _ _ _ _ => rfl⟩ | exact HF3.out | simpa using HF3.out), HBL.out⟩
                        case measure => simp [intOf]; omega
                    · obtain rfl : q = x.sl.length := by omega
                      have hf : f' = true := by
                        by_cases hse : se = []
                        · exact HG.out.1 (HA0.out hse)
                        · obtain ⟨j, hj, e1⟩ := List.getElem_of_mem (HSO.out hse)
                          exact HG.out.2 j hj (by rw [List.getElem?_eq_getElem hj, e1]) hse
                      subst hf
                      have HBQ : Hid (Below w3.heap.size w3 wr) := HQ6.out.trans (HBL.out.mono HQ6.out.size)
                      go_wp2_with fail
                      go_roundw
                      case rel => exact ⟨i + 1, by omega, by go_num, HBQ.out⟩
                      case measure => simp [intOf]; omega
            · obtain rfl : i = nms.length := by omega
              have HBF : Hid (Below w.heap.size w wr) := HB3.out.trans (HQ.out.mono HB3.out.size)
              go_wp2_with (go_at_call 7; refine (lives17_any _ (HT.out.below HBF.out)).mono ?_; rintro e w9 ⟨rfl, hb9⟩; have HB9 : Hid (Below w.heap.size w w9) := HBF.out.trans (hb9.mono HBF.out.size))
              go_ret
              exact ⟨rfl, HB9.out⟩
end Go.Proofs.YtohinfefidahlaaGreatDoor
