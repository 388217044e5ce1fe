/- binderylaw17.IndexFinds returns true. -/
import Derived.Test.YtohinfefidahlaaGreatDoorTwinEn
import Derived.Test.YtohinfefidahlaaGreatDoorJpH
import Derived.Test.YtohinfefidahlaaGreatDoorJpE
import Derived.Test.YtohinfefidahlaaGreatDoorJoN
import Derived.Laws.ResultCell
namespace Go.Proofs.YtohinfefidahlaaGreatDoor
open Go.RowKit
set_option linter.unusedVariables false
set_option linter.unusedSimpArgs false

theorem Apart_k {B kb N : Nat} {D : Nat → Prop} {w0 w : World} (h : BkH B kb D N w0 w) : Calls Tryz.prog 15 #[.pointer (some ⟨kb, 0, none⟩)] w fun e w' => e = .returned (.bool true) ∧ Below B w0 w' := by
  obtain ⟨C, vT, vL, vE, hT, hL, hE, LT, LL, LE, h1, _⟩ := h
  exact Apart_any B kb C vT vL vE hT hL hE LT LL LE w0 w h1
set_option maxHeartbeats 4000000 in
set_option maxRecDepth 100000 in
theorem findR_any (l : List En) (N : Nat → Prop) (a : Option Addr) (c : Nat) (s : Bytes) (w : World) (hE : EnsAt N w a l) (hll : l.length ≤ 1000000) :
    Calls Tryz.prog 10 #[.slice a l.length c, .string ⟨s.toArray⟩] w fun e w' => e = .returned (.tuple #[aggE (ansE l s), .bool (isE l s)]) ∧ Below w.heap.size w w' := by
  have HE := Lib.hid hE
  clear hE
  go_enter Tryz.func10, Tryz.ntmps10
  go_wp2_with fail
  refine wp_gen fun W0 hW0 => ?_
  have hb0 : Below w.heap.size w W0 := by subst hW0; exact (Below.refl _ _).alloc (Nat.le_refl _) _
  have hz0 : Bk W0 w.heap.size [.string ⟨#[]⟩, .slice none 0 0, .slice none 0 0, .slice none 0 0] 29 := by subst hW0; exact Bk.new w #[.string ⟨#[]⟩, .slice none 0 0, .slice none 0 0, .slice none 0 0] 29
  have HB0 := Lib.hid hb0
  have HZ0 := Lib.hid hz0
  clear hW0 hb0 hz0
  go_loopw [6] (fun v6 wr => ∃ k : Nat, k ≤ l.length ∧ v6 = .int .i64 k ∧ Hid (Bk wr w.heap.size [.string ⟨#[]⟩, .slice none 0 0, .slice none 0 0, .slice none 0 0] 29) ∧ Hid (Below w.heap.size w wr) ∧ Hid (∀ j y, j < k → l[j]? = some y → y.term ≠ s)) (fun v6 _ => l.length - (intOf v6).toNat)
  case atStart => exact ⟨0, by omega, rfl, HZ0.out, HB0.out, fun j y h => by omega⟩
  case round =>
    obtain ⟨k, hk, rfl, HZ, HB, HA⟩ := hrel
    have z0 := HZ.out.cell 0
    have z1 := HZ.out.cell 1
    have z2 := HZ.out.cell 2
    have z3 := HZ.out.cell 3
    change wr.cell? ⟨w.heap.size, 0, none⟩ = some (.string ⟨#[]⟩) at z0
    change wr.cell? ⟨w.heap.size, 1, none⟩ = some (.slice none 0 0) at z1
    change wr.cell? ⟨w.heap.size, 2, none⟩ = some (.slice none 0 0) at z2
    change wr.cell? ⟨w.heap.size, 3, none⟩ = some (.slice none 0 0) at z3
    have zf := fun i => HZ.out.free i
    by_cases hlt : k < l.length
    · obtain ⟨b, off, ha, hbl, hc⟩ := (HE.out.1.at_.below HB.out).elem hlt
      subst ha
      have HG : Hid (l[k]? = some l[k]) := List.getElem?_eq_getElem hlt
      generalize l[k] = y at *
      have d0 := hc 0 (.string ⟨y.term.toArray⟩) rfl
      have d1 := hc 1 (.slice y.aa y.al.length y.ac) rfl
      have d2 := hc 2 (.slice y.sa y.sl.length y.sc) rfl
      have d3 := hc 3 (.slice y.ua y.ul.length y.uc) rfl
      rw [Nat.add_zero] at d0
      clear hc
      by_cases hq : y.term = s
      · have HF : Hid (l.find? (fun x => decide (x.term = s)) = some y) := find_first ⟨hlt, fun z hz => by rw [HG.out] at hz; cases hz; exact hq, HA.out⟩ HG.out
        have hqb : (y.term == s) = true := by simpa using hq
        clear hq
        go_wp2_with fail
        refine bodyPost_ret (v := .tuple #[aggE y, .bool true]) ?_ rfl ?_
        · rw [results_cell_tmp rfl]
          unfold aggE
          go_simp
        · refine ⟨?_, (((HB.out.setCell (by simp) _).setCell (by simp) _).setCell (by simp) _).setCell (by simp) _⟩
          unfold ansE isE
          rw [HF.out]
          rfl
      · have hqb : (y.term == s) = false := by simpa using hq
        have HA2 : Hid (∀ j z, j < k + 1 → l[j]? = some z → z.term ≠ s) := fun j z hj hz => by
          by_cases h : j < k
          · exact HA.out j z h hz
          · obtain rfl : j = k := by omega
            rw [HG.out] at hz; cases hz; exact hq
        clear hq
        go_wp2_with fail
        go_roundw
        case rel => exact ⟨k + 1, by omega, by go_num, HZ.out, HB.out, HA2.out⟩
        case measure => simp [intOf]; omega
    · obtain rfl : k = l.length := by omega
      have HF : Hid (l.find? (fun x => decide (x.term = s)) = none) := find_none fun y hy => by
        obtain ⟨i, hi, rfl⟩ := List.getElem_of_mem hy
        exact HA.out i _ hi (List.getElem?_eq_getElem hi)
      go_wp2_with fail
      refine bodyPost_ret (v := .tuple #[.agg #[.string ⟨#[]⟩, .slice none 0 0, .slice none 0 0, .slice none 0 0], .bool false]) ?_ rfl ?_
      · rw [results_cell_tmp rfl]
        go_simp
      · refine ⟨?_, (((HB.out.setCell (by simp) _).setCell (by simp) _).setCell (by simp) _).setCell (by simp) _⟩
        unfold ansE isE
        rw [HF.out]
        rfl
set_option maxHeartbeats 8000000 in
set_option maxRecDepth 100000 in
theorem walk_fi (l : List En) (a : Option Addr) (c : Nat) (s : Bytes) (w : World) (hA : EnsAt (fun _ => True) w a l) (hz : szM szE l ≤ 1048576) (hs : s.length ≤ 140737488355328) (htab : HasTab w) :
    Calls Tryz.prog 3 #[.slice a l.length c, .string ⟨s.toArray⟩] w fun e w' => e = .returned (.bool true) ∧ Below w.heap.size w w' := by
  have HT := Lib.hid htab
  have HTL := Lib.hid htab.lt
  have HG := Lib.hid (ens_size l _ a c w hA hz)
  have HA := Lib.hid hA
  have HSM : Hid (szM szE l ≤ 20000 → (∀ x ∈ l, EnSm x) ∧ l.length ≤ 20000 ∧ cnL l ≤ 60000 ∧ cnE (ansE l s) ≤ 60000) := fun h => by
    have hc := cnL_le l
    refine ⟨smallL_of (by omega), by unfold szM at h; omega, by omega, ?_⟩
    refine find_mem (fun x => cnE x ≤ 60000) (by unfold emE; rw [cnE, cnL]; omega) fun x hx => ?_
    have h1 := cn_le _ x (Nat.le_refl _)
    have h2 := szM_mem szE hx
    omega
  clear hA htab
  go_enter Tryz.func3, Tryz.ntmps3
  go_wp2_with fail
  refine HG.out.mono ?_
  rintro e w1 ⟨rfl, hb1⟩
  have HB1 := Lib.hid hb1
  clear HG hb1
  generalize szM szE l = zl at *
  by_cases hz2 : 20000 < zl
  · go_wp2_with (go_at_call 7; refine (lives17_any _ (HT.out.below HB1.out)).mono ?_; rintro e w9 ⟨rfl, hb9⟩; have HB9 : Hid (Below w.heap.size w w9) := HB1.out.trans (hb9.mono HB1.out.size))
    go_ret
    exact ⟨rfl, HB9.out⟩
  by_cases hs2 : 3000 < s.length
  · go_wp2_with (go_at_call 7; refine (lives17_any _ (HT.out.below HB1.out)).mono ?_; rintro e w9 ⟨rfl, hb9⟩; have HB9 : Hid (Below w.heap.size w w9) := HB1.out.trans (hb9.mono HB1.out.size))
    go_ret
    exact ⟨rfl, HB9.out⟩
  obtain ⟨hsm, hll, hcn, hca⟩ := HSM.out (by omega)
  have HS := Lib.hid hsm
  have HCN := Lib.hid hcn
  have HCA := Lib.hid hca
  clear HSM hsm hcn hca
  go_wp2_with fail
  refine (twinEns_any l _ a c w1 (HA.out.next HB1.out) HS.out (by omega)).mono ?_
  rintro e w2 ⟨g, ml, rfl, hg, hO, hE, hnd, hng, hSL, hb2⟩
  have HB2 : Hid (Below w.heap.size w w2) := HB1.out.trans (hb2.mono HB1.out.size)
  have HML : Hid (ml.length = l.length) := hSL.1.symm
  have hmll : ml.length ≤ 20000 := by have := HML.out; omega
  have HO := Lib.hid hO
  have HE := Lib.hid hE
  have HND := Lib.hid hnd
  have HNG := Lib.hid hng
  have HSL := Lib.hid hSL
  have HGL : Hid (g < w2.heap.size ∧ ∀ x ∈ bkL ml, x < w2.heap.size) := ⟨(hO.block g rfl).2, fun x hx => by
    obtain ⟨y, hy, hx⟩ := mem_bkL.1 hx
    exact ((hE y hy).own.block x hx).2⟩
  have HB12 : Hid (w.heap.size ≤ w1.heap.size) := HB1.out.size
  clear hg hO hE hnd hng hSL hb2
  have HCUT : Hid (Own w2 w1.heap.size 29 4 encEn (.slice (some ⟨g, 0, none⟩) ml.length (ml.length + 1)) ml) := HO.out.cut encEn_ok rfl rfl
  have HSMM : Hid (∀ y ∈ ml, EnSm y) := HSL.out.small HS.out
  have HFS := Lib.hid (find_same s HSL.out)
  go_wp2_with fail
  refine ((findO_any ml (some ⟨g, 0, none⟩) (ml.length + 1) s (fun x => w1.heap.size ≤ x) w2 ⟨HCUT.out.addrN encEn_ok fun k hk => (HCUT.out.block k hk).1, fun y hy => (HE.out y hy).own.in_⟩ (by omega) HSMM.out).mono (fun _ _ => ans_of)).mono ?_
  rintro e w3 ⟨y, rfl, hyO, hyN, hyS, hb3⟩
  have HB3 : Hid (Below w.heap.size w w3) := HB2.out.trans (hb3.mono HB2.out.size)
  have HYO := Lib.hid hyO
  have HYN := Lib.hid hyN
  have HYS : Hid (SameE (ansE l s) y) := HFS.out.2.trans hyS
  have HB23 := Lib.hid hb3
  rw [← HFS.out.1]
  clear hyO hyN hyS hb3 HFS
  unfold aggE
  go_wp2_with fail
  refine calls_gen fun W3 hW3 => ?_
  have hw3 : Below w3.heap.size w3 W3 := by subst hW3; exact (Below.refl _ _).alloc (Nat.le_refl _) _
  have hk3 : Bk W3 w3.heap.size [.string ⟨y.term.toArray⟩, .slice y.aa y.al.length y.ac, .slice y.sa y.sl.length y.sc, .slice y.ua y.ul.length y.uc] 29 := by subst hW3; exact Bk.new w3 #[.string ⟨y.term.toArray⟩, .slice y.aa y.al.length y.ac, .slice y.sa y.sl.length y.sc, .slice y.ua y.ul.length y.uc] 29
  clear hW3
  have HBW3 : Hid (Below w.heap.size w W3) := HB3.out.trans (hw3.mono HB3.out.size)
  have HK3 := Lib.hid hk3
  have HW3 := Lib.hid hw3
  clear hw3 hk3
  refine (findR_any l _ a c s W3 (HA.out.next HBW3.out) (by omega)).mono ?_
  rintro e w4 ⟨rfl, hb4⟩
  have HB4 : Hid (Below w.heap.size w w4) := HBW3.out.trans (hb4.mono HBW3.out.size)
  have HB34 : Hid (Below w3.heap.size w3 w4) := HW3.out.trans (hb4.mono HW3.out.size)
  have HK4 := Lib.hid (HK3.out.next hb4)
  have HZI : Hid (EnIn (fun _ => True) w (ansE l s)) := find_mem (EnIn (fun _ => True) w) (em_in _ _) HA.out.2
  have HZM : Hid (EnSm (ansE l s)) := find_mem EnSm em_small HS.out
  unfold aggE
  clear hb4 HBW3 HK3 HW3
  generalize ansE l s = z at *
  generalize isE l s = q at *
  have HYZ : Hid (SameE y z) := HYS.out.symm
  have HYM : Hid (EnSm y) := HYS.out.small HZM.out
  have HCY : Hid (cnE y ≤ 60000) := HYS.out.cn ▸ HCA.out
  have HCM : Hid (cnL ml ≤ 60000) := HSL.out.cns ▸ HCN.out
  have a0 : w4.cell? ⟨w3.heap.size, 0, none⟩ = some (.string ⟨y.term.toArray⟩) := HK4.out.cell 0
  have a1 : w4.cell? ⟨w3.heap.size, 1, none⟩ = some (.slice y.aa y.al.length y.ac) := HK4.out.cell 1
  have a2 : w4.cell? ⟨w3.heap.size, 2, none⟩ = some (.slice y.sa y.sl.length y.sc) := HK4.out.cell 2
  have a3 : w4.cell? ⟨w3.heap.size, 3, none⟩ = some (.slice y.ua y.ul.length y.uc) := HK4.out.cell 3
  have hl4 : w3.heap.size < w4.heap.size := HK4.out.lt
  clear HCA HCN HZM
  go_wp2_with fail
  refine calls_gen fun W4 hW4 => ?_
  have hw4 : Below w4.heap.size w4 W4 := by subst hW4; exact (Below.refl _ _).alloc (Nat.le_refl _) _
  clear hW4 a0 a1 a2 a3
  have HBW4 : Hid (Below w.heap.size w W4) := HB4.out.trans (hw4.mono HB4.out.size)
  have HB3W : Hid (Below w3.heap.size w3 W4) := HB34.out.trans (hw4.mono HB34.out.size)
  have HKW4 := Lib.hid (HK4.out.next hw4)
  clear hw4 HB34 HK4
  refine (sameEn_any y z _ _ W4 (HYO.out.next HB3W.out).in_ (HZI.out.next HBW4.out) HYZ.out HYM.out).mono ?_
  rintro e w5 ⟨rfl, hb5⟩
  have HB5 : Hid (Below w.heap.size w w5) := HBW4.out.trans (hb5.mono HBW4.out.size)
  have HB35 : Hid (Below w3.heap.size w3 w5) := HB3W.out.trans (hb5.mono HB3W.out.size)
  have HK5 := Lib.hid (HKW4.out.next hb5)
  have HB25 : Hid (Below w2.heap.size w2 w5) := HB23.out.trans (HB35.out.mono HB23.out.size)
  clear hb5 HKW4 HB3W HBW4 HYZ HYS HZI
  go_wp2_with fail
  refine (leftEns_any ml l w1.heap.size g _ a c w5 (HO.out.next rfl HB25.out) (fun x hx => (HE.out x hx).next HB25.out) (HA.out.next HB5.out) HSL.out.symm HSMM.out (by omega)).mono ?_
  rintro e w6 ⟨rfl, hb6⟩
  have HB6 : Hid (Below w.heap.size w w6) := HB5.out.trans (hb6.mono HB5.out.size)
  have HB36 : Hid (Below w3.heap.size w3 w6) := HB35.out.trans (hb6.mono HB35.out.size)
  have HB26 : Hid (Below w2.heap.size w2 w6) := HB25.out.trans (hb6.mono HB25.out.size)
  have HK6 := Lib.hid (HK5.out.next hb6)
  clear hb6 HB5 HB35 HB25 HK5
  go_wp2_with fail
  refine calls_gen fun W6 hW6 => ?_
  have hw6 : Below w6.heap.size w6 W6 := by subst hW6; exact (Below.refl _ _).alloc (Nat.le_refl _) _
  have hBk : BkH w.heap.size w6.heap.size (fun _ => False) 0 w W6 := by subst hW6; exact BkH.start w.heap.size w w6 HB6.out HB6.out.size (HT.out.below HB6.out) HTL.out _ rfl
  clear hW6
  have HOW : Hid (Own W6 w.heap.size 29 4 encEn (.slice (some ⟨g, 0, none⟩) ml.length (ml.length + 1)) ml) := ((HCUT.out.mono HB12.out).next rfl HB26.out).next rfl hw6
  have HEW : Hid (∀ x ∈ ml, EnO w.heap.size W6 x) := fun x hx => (((HE.out x hx).own.mono HB12.out).next HB26.out).next hw6
  have HYW : Hid (EnO w.heap.size W6 y) := ((HYO.out.mono HB2.out.size).next HB36.out).next hw6
  have HYB : Hid (∀ x ∈ bkE y, w2.heap.size ≤ x) := fun x hx => (HYO.out.block x hx).1
  have HKW := Lib.hid (HK6.out.next hw6)
  have HN1 : Hid ((obk (some ⟨g, 0, none⟩) ++ bkL ml).Nodup) := by
    unfold Hid
    rw [obk_some, List.singleton_append, List.nodup_cons]
    exact ⟨fun h => HNG.out g h rfl, HND.out⟩
  clear hw6 HB6 HB36 HB26 HK6 HCUT HO HE
  refine (Entries_k ml (some ⟨g, 0, none⟩) (ml.length + 1) hBk (by have := HCM.out; omega) HOW.out HEW.out HSMM.out (by omega) HN1.out (fun _ _ h => h)).mono ?_
  rintro e w7 ⟨rfl, hb7, hk7⟩
  have HB7 := Lib.hid hb7
  have HYW7 := Lib.hid (hk7.en HYW.out)
  have hk7b := hk7.bk HKW.out
  have a0 : w7.cell? ⟨w3.heap.size, 0, none⟩ = some (.string ⟨y.term.toArray⟩) := hk7b.cell 0
  have a1 : w7.cell? ⟨w3.heap.size, 1, none⟩ = some (.slice y.aa y.al.length y.ac) := hk7b.cell 1
  have a2 : w7.cell? ⟨w3.heap.size, 2, none⟩ = some (.slice y.sa y.sl.length y.sc) := hk7b.cell 2
  have a3 : w7.cell? ⟨w3.heap.size, 3, none⟩ = some (.slice y.ua y.ul.length y.uc) := hk7b.cell 3
  clear hBk hb7 hk7 hk7b HKW HYW HOW HEW
  go_wp2_with fail
  refine (Entry_k y HB7.out (by have := HCM.out; have := HCY.out; omega) HYW7.out HYM.out HYN.out (fun x hx h => ?_)).mono ?_
  · have h1 := HYB.out x hx
    rcases h with h | h
    · exact h
    · rw [obk_some, List.singleton_append] at h
      rcases List.mem_cons.1 h with h | h
      · have := HGL.out.1; omega
      · have := HGL.out.2 x h; omega
  rintro e w8 ⟨rfl, hb8, _⟩
  have HB8 := Lib.hid hb8
  clear hb8 a0 a1 a2 a3
  go_wp2_with fail
  refine (Apart_k HB8.out).mono ?_
  rintro e w9 ⟨rfl, hb9⟩
  have HB9 := Lib.hid hb9
  clear hb9
  go_wp2_with fail
  refine (lives17_any _ (HT.out.below HB9.out)).mono ?_
  rintro e wz ⟨rfl, hbz⟩
  have HBZ : Hid (Below w.heap.size w wz) := HB9.out.trans (hbz.mono HB9.out.size)
  clear hbz
  go_wp2_with fail
  go_ret
  exact ⟨rfl, HBZ.out⟩
end Go.Proofs.YtohinfefidahlaaGreatDoor
