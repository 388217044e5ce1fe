/- How deep chapters are, and the law's early end. -/
import Derived.Test.YtohinfefidahlaaGreatDoorSzC
namespace Go.Proofs.YtohinfefidahlaaGreatDoor
set_option linter.unusedSimpArgs false
open Go.RowKit
set_option linter.unusedVariables false

def DpGives (w : World) (n : Nat) (e : Ending) (w' : World) : Prop := (∃ d : Nat, e = .returned (.int .i64 (d : Nat)) ∧ d ≤ n) ∧ Below w.heap.size w w'
set_option maxHeartbeats 4000000 in
set_option maxRecDepth 100000 in
theorem spansDeep_any (n : Nat) : ∀ (l : List Sp), deepL l ≤ n → ∀ (a : Option Addr) (c : Nat) (w : World), SpsAt w a l → szM szS l ≤ 1048576 →
    Calls Tryz.prog 139 #[.slice a l.length c] w (DpGives w (deepL l)) := by
  induction n using Nat.strongRecOn with
  | _ n ih =>
  intro l hd a c w hA hz
  have HA := Lib.hid hA
  have HZ := Lib.hid hz
  have HIH := Lib.hid ih
  have hll : l.length ≤ 1048576 := by unfold szM at hz; omega
  have hdz : deepL l ≤ 1048576 := Nat.le_trans (deepL_sz l) hz
  clear hA hz ih
  go_enter Tryz.func139, Tryz.ntmps139
  go_wp2
  go_loopw [3, 4] (fun v3 v4 wr => ∃ k d : Nat, k ≤ l.length ∧ v4 = .int .i64 k ∧ v3 = .int .i64 d ∧ d ≤ deepL l ∧ Hid (Below w.heap.size w wr)) (fun _ v4 _ => l.length - (intOf v4).toNat)
  case atStart => exact ⟨0, 0, by omega, rfl, rfl, by omega, Below.refl _ _⟩
  case round =>
    obtain ⟨k, d, hk, rfl, rfl, hd1, HB⟩ := hrel
    by_cases hlt : k < l.length
    · obtain ⟨bb, off, ha, hbl, hc⟩ := (HA.out.1.below HB.out).elem hlt
      subst ha
      have HKA := Lib.hid (HA.out.2 _ (List.getElem_mem hlt)).kidsAt
      have HDL := Lib.hid (deep_lt hlt)
      have HSK := Lib.hid (szM_kids (List.getElem_mem hlt))
      generalize l[k] = x at *
      obtain ⟨kd, tx, sb, se, ka, kc, kids⟩ := x
      have d4 := hc 4 (.slice ka kids.length kc) rfl
      have hz := HB.out.size
      have HKK : Hid (SpsAt w ka kids) := HKA.out
      have HDL : Hid (deepL kids < deepL l) := HDL.out
      have HSK : Hid (szM szS kids + 1 + l.length ≤ szM szS l) := HSK.out
      have hdl := HDL.out
      clear hc HKA
      have hC : Calls Tryz.prog 139 #[.slice ka kids.length kc] wr (DpGives wr (deepL kids)) := HIH.out _ (Nat.lt_of_lt_of_le HDL.out hd) kids (Nat.le_refl _) ka kc wr (HKK.out.keep HB.out) (by have := HSK.out; have := HZ.out; omega)
      have HC := Lib.hid hC
      clear hC
      go_wp2_with (go_at_call 139; refine HC.out.mono ?_; rintro e w3 ⟨⟨d2, rfl, hd2⟩, hb3⟩; have HB3 : Hid (Below w.heap.size w w3) := HB.out.trans (hb3.mono hz))
      go_roundw
      case rel => exact ⟨k + 1, max d (1 + d2), by omega, by go_num, by congr 1; omega, by omega, HB3.out⟩
      case measure => simp [intOf]; omega
    · go_wp2
      go_ret
      exact ⟨⟨d, rfl, hd1⟩, HB.out⟩
theorem spans_deep (l : List Sp) (a : Option Addr) (c : Nat) (w : World) (hA : SpsAt w a l) (hz : szM szS l ≤ 1048576) :
    Calls Tryz.prog 139 #[.slice a l.length c] w (DpGives w 1048576) :=
  (spansDeep_any _ l (Nat.le_refl _) a c w hA hz).mono fun e w' ⟨⟨d, he, hd⟩, hb⟩ => ⟨⟨d, he, by have := deepL_sz l; omega⟩, hb⟩
set_option maxHeartbeats 8000000 in
set_option maxRecDepth 100000 in
theorem chaptersDeep_any (l : List Ch) (a : Option Addr) (c : Nat) (w : World) (hA : ChsAt w a l) (hz : szM szCh l ≤ 1048576) :
    Calls Tryz.prog 82 #[.slice a l.length c] w (DpGives w 1048576) := by
  have HA := Lib.hid hA
  have HZ := Lib.hid hz
  have hll : l.length ≤ 1048576 := by unfold szM at hz; omega
  clear hA hz
  go_enter Tryz.func82, Tryz.ntmps82
  go_wp2
  go_loopw [3, 4] (fun v3 v4 wr => ∃ i d : Nat, i ≤ l.length ∧ v4 = .int .i64 i ∧ v3 = .int .i64 d ∧ d ≤ 1048576 ∧ Hid (Below w.heap.size w wr)) (fun _ v4 _ => l.length - (intOf v4).toNat)
  case atStart => exact ⟨0, 0, by omega, rfl, rfl, by omega, Below.refl _ _⟩
  case round =>
    obtain ⟨i, d, hi, rfl, rfl, hd, HB⟩ := hrel
    by_cases hil : i < l.length
    · obtain ⟨bb, off, ha, hbl, hc⟩ := (HA.out.1.below HB.out).elem hil
      subst ha
      have HCI := Lib.hid (HA.out.2 _ (List.getElem_mem hil))
      have HSC := Lib.hid (szM_mem szCh (List.getElem_mem hil))
      have HCC : Hid (∀ W, Below w.heap.size w W → W.cell? ⟨bb, off + i * 6 + 1, none⟩ = some (.slice l[i].ba l[i].bl.length l[i].bc)) := fun W hb => by
        obtain ⟨b', o', e', _, h'⟩ := (HA.out.1.below hb).elem hil
        cases e'
        exact h' 1 _ rfl
      generalize l[i] = x at *
      have HBL : Hid (BlsAt w x.ba x.bl) := HCI.out.bls
      have HSB : Hid (szM szBl x.bl ≤ 1048576) := by
        show _ ≤ _
        have h1 := HSC.out
        have h2 := HZ.out
        have h3 : szM szBl x.bl ≤ szCh x := by unfold szCh; omega
        omega
      have hbln : x.bl.length ≤ 1048576 := by have := HSB.out; unfold szM at this; omega
      generalize x.bl = bl at *
      generalize x.ba = ba at *
      generalize x.bc = bc at *
      have c1 := HCC.out wr HB.out
      clear hc HCI HSC
      go_wp2
      go_loopw [3, 5] (fun v3 v5 wx => ∃ j d : Nat, j ≤ bl.length ∧ v5 = .int .i64 j ∧ v3 = .int .i64 d ∧ d ≤ 1048576 ∧ Hid (Below w.heap.size w wx)) (fun _ v5 _ => bl.length - (intOf v5).toNat)
      case atStart => exact ⟨0, d, by omega, rfl, rfl, hd, HB.out⟩
      case round =>
        clear c1
        obtain ⟨j, d1, hj, rfl, rfl, hd1, HBX⟩ := hrel
        have c2 := HCC.out _ HBX.out
        have hbb : bb < wr.heap.size := by
          rcases Nat.lt_or_ge bb wr.heap.size with h | h
          · exact h
          · simp [World.cell?, Array.getElem?_eq_none h] at c2
        by_cases hjl : j < bl.length
        · obtain ⟨b2, off2, ha2, hbl2, hc2⟩ := (HBL.out.keep HBX.out).1.elem hjl
          subst ha2
          have HBI : Hid (BlIn w bl[j]) := HBL.out.2 _ (List.getElem_mem hjl)
          have HSX := Lib.hid (szM_mem szBl (List.getElem_mem hjl))
          generalize bl[j] = b at *
          obtain ⟨kd, lv, od, lb, tx, sa, sc, sl, ra, rc, rl, fi, ln⟩ := b
          have d0 := hc2 0 (.int .u8 kd) rfl
          have e1 := hc2 1 (.int .i64 lv) rfl
          have e2 := hc2 2 (.bool od) rfl
          have d3 := hc2 3 (.string ⟨lb.toArray⟩) rfl
          have d4 := hc2 4 (.string ⟨tx.toArray⟩) rfl
          have d5 := hc2 5 (.slice sa sl.length sc) rfl
          have d6 := hc2 6 (.slice ra rl.length rc) rfl
          have d7 := hc2 7 (.string ⟨fi.toArray⟩) rfl
          have d8 := hc2 8 (.int .i64 ln) rfl
          rw [Nat.add_zero] at d0
          clear hc2
          have HSP : Hid (SpsAt w sa sl) := HBI.out.1
          have HRW : Hid (RwsAt w ra rl) := HBI.out.2
          have HZZ : Hid (szM szS sl ≤ 1048576 ∧ szM szRw rl ≤ 1048576) := by
            have h1 := HSX.out
            have h2 := HSB.out
            change 1 + lb.length + tx.length + fi.length + szM szS sl + szM szRw rl + bl.length ≤ szM szBl bl at h1
            exact ⟨by omega, by omega⟩
          have hrl : rl.length ≤ 1048576 := by have := HZZ.out.2; unfold szM at this; omega
          have hz := HBX.out.size
          have HBK := Lib.hid (Bk.new wr #[.int .u8 kd, .int .i64 lv, .bool od, .string ⟨lb.toArray⟩, .string ⟨tx.toArray⟩, .slice sa sl.length sc, .slice ra rl.length rc, .string ⟨fi.toArray⟩, .int .i64 ln] 74)
          have HB1 : Hid (Below w.heap.size w (wr.alloc (.cells #[.int .u8 kd, .int .i64 lv, .bool od, .string ⟨lb.toArray⟩, .string ⟨tx.toArray⟩, .slice sa sl.length sc, .slice ra rl.length rc, .string ⟨fi.toArray⟩, .int .i64 ln] 74))) := HBX.out.alloc hz _
          have HSD : Hid (∀ W, Below w.heap.size w W → Calls Tryz.prog 139 #[.slice sa sl.length sc] W (DpGives W 1048576)) := fun W hb => spans_deep sl sa sc W (HSP.out.keep hb) HZZ.out.1
          clear HBI HSX
          go_wp2_with (go_at_call 139; refine (HSD.out _ HB1.out).mono ?_; rintro e w3 ⟨⟨d2, rfl, hd2⟩, hb3⟩; have HB3 : Hid (Below w.heap.size w w3) := HB1.out.trans (hb3.mono HB1.out.size); have HBK3 := Lib.hid (HBK.out.next hb3); clear hb3)
          generalize wr.heap.size = gb at *
          clear d0 e1 e2 d3 d4 d5 d6 d7 d8
          go_loopw [3, 7] (fun v3 v7 wy => ∃ r d : Nat, r ≤ rl.length ∧ v7 = .int .i64 r ∧ v3 = .int .i64 d ∧ d ≤ 1048576 ∧ Hid (Bk wy gb [.int .u8 kd, .int .i64 lv, .bool od, .string ⟨lb.toArray⟩, .string ⟨tx.toArray⟩, .slice sa sl.length sc, .slice ra rl.length rc, .string ⟨fi.toArray⟩, .int .i64 ln] 74) ∧ Hid (Below w.heap.size w wy)) (fun _ v7 _ => rl.length - (intOf v7).toNat)
          case atStart => exact ⟨0, max d1 d2, by omega, rfl, by first | rfl | (congr 1; omega), by omega, HBK3.out, HB3.out⟩
          case round =>
            obtain ⟨r, d3, hr, rfl, rfl, hd3, HBY, HBR⟩ := hrel
            have y6 := HBY.out.cell 6
            change wr.cell? ⟨gb, 6, none⟩ = some (.slice ra rl.length rc) at y6
            by_cases hrr : r < rl.length
            · obtain ⟨b3, off3, ha3, hbl3, hc3⟩ := (HRW.out.1.below HBR.out).elem hrr
              subst ha3
              have HRI : Hid (RwIn w rl[r]) := HRW.out.2 _ (List.getElem_mem hrr)
              have HSR := Lib.hid (szM_mem szRw (List.getElem_mem hrr))
              have HRC : Hid (∀ W, Below w.heap.size w W → W.cell? ⟨b3, off3 + r, none⟩ = some (.slice rl[r].ca rl[r].cl.length rl[r].cc)) := fun W hb => by
                obtain ⟨b', o', e', _, h'⟩ := (HRW.out.1.below hb).elem hrr
                cases e'
                have h := h' 0 _ rfl
                rw [Nat.mul_one, Nat.add_zero] at h
                exact h
              generalize rl[r] = y at *
              obtain ⟨ca, cc, cl⟩ := y
              have HCL : Hid (At w 1 encCe ca cl ∧ ∀ c ∈ cl, CeIn w c) := HRI.out
              have HRC : Hid (∀ W, Below w.heap.size w W → W.cell? ⟨b3, off3 + r, none⟩ = some (.slice ca cl.length cc)) := HRC
              have HZC : Hid (szM szCe cl ≤ 1048576) := by
                show _ ≤ _
                have h1 := HSR.out
                have h2 := HZZ.out.2
                change 1 + szM szCe cl + rl.length ≤ szM szRw rl at h1
                omega
              have hcl : cl.length ≤ 1048576 := by have := HZC.out; unfold szM at this; omega
              have y0 := HRC.out _ HBR.out
              clear hc3 HRI HSR
              go_wp2
              go_loopw [3, 8] (fun v3 v8 wv => ∃ q d : Nat, q ≤ cl.length ∧ v8 = .int .i64 q ∧ v3 = .int .i64 d ∧ d ≤ 1048576 ∧ Hid (Bk wv gb [.int .u8 kd, .int .i64 lv, .bool od, .string ⟨lb.toArray⟩, .string ⟨tx.toArray⟩, .slice sa sl.length sc, .slice (some ⟨b3, off3, none⟩) rl.length rc, .string ⟨fi.toArray⟩, .int .i64 ln] 74) ∧ Hid (Below w.heap.size w wv)) (fun _ v8 _ => cl.length - (intOf v8).toNat)
              case atStart => exact ⟨0, d3, by omega, rfl, rfl, hd3, HBY.out, HBR.out⟩
              case round =>
                clear y0 y6
                obtain ⟨q, d4, hq, rfl, rfl, hd4, HBV, HBQ⟩ := hrel
                have y6 := HBV.out.cell 6
                change wr.cell? ⟨gb, 6, none⟩ = some (.slice (some ⟨b3, off3, none⟩) rl.length rc) at y6
                have y0 := HRC.out _ HBQ.out
                by_cases hqq : q < cl.length
                · obtain ⟨b4, off4, ha4, hbl4, hc4⟩ := (HCL.out.1.below HBQ.out).elem hqq
                  subst ha4
                  have HCE : Hid (CeIn w cl[q]) := HCL.out.2 _ (List.getElem_mem hqq)
                  have HSQ := Lib.hid (szM_mem szCe (List.getElem_mem hqq))
                  generalize cl[q] = z at *
                  obtain ⟨sa2, sc2, sl2⟩ := z
                  have y1 := hc4 0 (.slice sa2 sl2.length sc2) rfl
                  rw [Nat.mul_one, Nat.add_zero] at y1
                  have HSP2 : Hid (SpsAt w sa2 sl2) := HCE.out
                  have HSZ2 : Hid (szM szS sl2 ≤ 1048576) := by
                    show _ ≤ _
                    have h1 := HSQ.out
                    have h2 := HZC.out
                    change 1 + szM szS sl2 + cl.length ≤ szM szCe cl at h1
                    omega
                  have hz4 := HBQ.out.size
                  have HC4 := Lib.hid (spans_deep sl2 sa2 sc2 wr (HSP2.out.keep HBQ.out) HSZ2.out)
                  clear hc4 HCE HSQ
                  go_wp2_with (go_at_call 139; refine HC4.out.mono ?_; rintro e w5 ⟨⟨d5, rfl, hd5⟩, hb5⟩; have HB5 : Hid (Below w.heap.size w w5) := HBQ.out.trans (hb5.mono hz4); have HBK5 := Lib.hid (HBV.out.next hb5); clear hb5)
                  go_roundw
                  case rel => exact ⟨q + 1, max d4 d5, by omega, by go_num, by congr 1; omega, by omega, HBK5.out, HB5.out⟩
                  case measure => simp [intOf]; omega
                · obtain rfl : q = cl.length := by omega
                  go_wp2
                  go_roundw
                  case rel => exact ⟨r + 1, d4, by omega, by go_num, rfl, hd4, HBV.out, HBQ.out⟩
                  case measure => simp [intOf]; omega
            · obtain rfl : r = rl.length := by omega
              go_wp2
              go_roundw
              case rel => exact ⟨j + 1, d3, by omega, by go_num, rfl, hd3, HBR.out⟩
              case measure => simp [intOf]; omega
        · obtain rfl : j = bl.length := by omega
          go_wp2
          go_roundw
          case rel => exact ⟨i + 1, d1, by omega, by go_num, rfl, hd1, HBX.out⟩
          case measure => simp [intOf]; omega
    · go_wp2
      go_ret
      exact ⟨⟨d, rfl, hd⟩, HB.out⟩
end Go.Proofs.YtohinfefidahlaaGreatDoor
