/- binderylaw16.RefsNumbers: of chapters without a further title of level 1 the number of each place begins with its chapter's place, from 1 on, and a point, or is that. -/
import Derived.Test.YtohinfefidahlaaDoorLive16
import Derived.Test.YtohinfefidahlaaDoorGreatC
import Derived.Test.YtohinfefidahlaaDoorDigits
namespace Go.Proofs.YtohinfefidahlaaDoor
open Go.RowKit
set_option linter.unusedVariables false

theorem size_le_bl {l : List Ch} (hz : szM szCh l ≤ 20000) {i : Nat} (hi : i < l.length) : l[i].bl.length ≤ 20000 := by
  have h1 := szM_mem szCh (List.getElem_mem hi)
  have h2 : szM szBl l[i].bl ≤ szCh l[i] := by unfold szCh; omega
  unfold szM at h2; omega
theorem headsN_take_le (bs : List Bl) (k : Nat) : headsN (bs.take k) ≤ bs.length := by
  unfold headsN
  have h1 := List.length_filter_le (fun b : Bl => b.kind == 1) (bs.take k)
  rw [List.length_take] at h1
  omega
set_option maxHeartbeats 16000000 in
set_option maxRecDepth 100000 in
theorem walk_nm (l : List Ch) (a : Option Addr) (c : Nat) (w : World) (hA : ChsAt w a l) (hz : szM szCh l ≤ 1048576) (htab : HasTab w) :
    Calls Tryd.prog 4 #[.slice a l.length c] w fun e w' => e = .returned (.bool true) ∧ Below w.heap.size w w' := by
  have HT := Lib.hid htab
  have HG := Lib.hid (great16_any l a c w hA hz)
  have HA := Lib.hid hA
  have HPL : Hid (szM szCh l ≤ 20000 → ∀ W, Below w.heap.size w W → Calls Tryd.prog 8 #[.slice a l.length c] W (PlacesGives W l)) := fun h W hb => places_any l a c W (hA.keep hb) h (htab.below hb)
  have hll : l.length ≤ 1048576 := by unfold szM at hz; omega
  clear hA hz htab
  go_enter Tryd.func4, Tryd.ntmps4
  go_wp2_with fail
  refine HG.out.mono ?_
  rintro e w1 ⟨⟨g, rfl, hg⟩, hb1⟩
  have HB1 := Lib.hid hb1
  clear HG hb1
  cases g
  · have HSZ := Lib.hid (hg rfl)
    clear hg
    go_wp2_with fail
    go_loopw [3, 4, 5] (fun v3 _ _ wr => ∃ i : Nat, i ≤ l.length ∧ v3 = .int .i64 i ∧ Hid (∀ j (h : j < l.length), j < i → NoMore l[j].bl) ∧ Hid (Below w.heap.size w wr)) (fun v3 _ _ _ => l.length - (intOf v3).toNat)
    case atStart => exact ⟨0, by omega, rfl, fun j h hj => absurd hj (by omega), HB1.out⟩
    case round =>
      obtain ⟨i, hi, rfl, HN, HB⟩ := hrel
      by_cases hil : i < l.length
      · obtain ⟨bb, off, ha, hbl, hc⟩ := (HA.out.1.below HB.out).elem hil
        subst ha
        have HCI := Lib.hid (HA.out.2 _ (List.getElem_mem hil))
        have HCC : Hid (∀ W, Below w.heap.size w W → W.cell? ⟨bb, off + i * 6 + 1, none⟩ = some (.slice l[i].ba l[i].bl.length l[i].bc)) := fun W hb => by
          obtain ⟨b', o', e', _, h'⟩ := (HA.out.1.below hb).elem hil
          cases e'
          exact h' 1 _ rfl
        have HBL : Hid (BlsAt w l[i].ba l[i].bl) := HCI.out.bls
        have HN2 : Hid (NoMore l[i].bl → ∀ j (h : j < l.length), j < i + 1 → NoMore l[j].bl) := fun hx j h hj => by
          rcases Nat.lt_succ_iff_lt_or_eq.1 hj with h1 | rfl
          · exact HN.out j h h1
          · exact hx
        have hbln := size_le_bl HSZ.out hil
        generalize l[i].ba = ba at *
        generalize l[i].bc = bc at *
        generalize l[i].bl = bl at *
        have c1 := HCC.out wr HB.out
        clear hc HCI
        go_wp2_with fail
        go_loopw [4, 5] (fun v4 v5 wx => ∃ k : Nat, k ≤ bl.length ∧ v5 = .int .i64 k ∧ v4 = .int .i64 (headsN (bl.take k) : Nat) ∧ Hid (∀ j (h : j < bl.length), j < k → bl[j].kind = 1 → 1 < headsN (bl.take (j + 1)) → bl[j].level ≠ 1) ∧ Hid (Below w.heap.size w wx)) (fun _ v5 _ => bl.length - (intOf v5).toNat)
        case atStart => exact ⟨0, by omega, rfl, rfl, fun j h hj => absurd hj (by omega), HB.out⟩
        case round =>
          clear c1
          obtain ⟨k, hk, rfl, rfl, HK, HBX⟩ := hrel
          have c2 := HCC.out _ HBX.out
          have hnk := headsN_take_le bl k
          by_cases hkl : k < bl.length
          · obtain ⟨b2, off2, ha2, hbl2, hc2⟩ := (HBL.out.keep HBX.out).1.elem hkl
            subst ha2
            have HHS := Lib.hid (headsN_succ hkl)
            have HK2 : Hid ((bl[k].kind = 1 → 1 < headsN (bl.take (k + 1)) → bl[k].level ≠ 1) → ∀ j (h : j < bl.length), j < k + 1 → bl[j].kind = 1 → 1 < headsN (bl.take (j + 1)) → bl[j].level ≠ 1) := fun hx j h hj => by
              rcases Nat.lt_succ_iff_lt_or_eq.1 hj with h1 | rfl
              · exact HK.out j h h1
              · exact hx
            generalize hhd2 : headsN (bl.take (k + 1)) = hd2 at *
            have HD2 := Lib.hid hhd2
            clear hhd2
            generalize headsN (bl.take k) = hd at *
            generalize bl[k] = b at *
            obtain ⟨kd, lv, od, lb, tx, sa, sc, sl, ra, rc, rl, fi, ln⟩ := b
            have e0 := hc2 0 (.int .u8 kd) rfl
            have e1 := hc2 1 (.int .i64 lv) rfl
            rw [Nat.add_zero] at e0
            dsimp only at HHS HK2
            clear hc2
            by_cases hkd : kd = 1
            · subst hkd
              obtain rfl : hd2 = hd + 1 := by have := HHS.out; rwa [if_pos rfl] at this
              by_cases h1 : 1 < hd + 1
              · have h1i : (1 : Int) < (hd : Int) + 1 := by omega
                by_cases hlv : lv = 1
                · subst hlv
                  go_wp2_with (go_at_call 7; refine (lives16_any _ (HT.out.below HBX.out)).mono ?_; rintro e w9 ⟨rfl, hb9⟩; have HB9 : Hid (Below w.heap.size w w9) := HBX.out.trans (hb9.mono HBX.out.size))
                  go_ret
                  exact ⟨rfl, HB9.out⟩
                · have hlb : (lv == 1) = false := beq_eq_false_iff_ne.2 hlv
                  have HK3 := Lib.hid (HK2.out (fun _ _ => hlv))
                  clear hlv
                  go_wp2_with fail
                  go_roundw
                  case rel => exact ⟨k + 1, by omega, by go_num, by rw [HD2.out]; first | rfl | go_num, HK3.out, HBX.out⟩
                  case measure => simp [intOf]; omega
              · have h1i : ¬ (1 : Int) < (hd : Int) + 1 := by omega
                have HK3 := Lib.hid (HK2.out (fun _ h => absurd h h1))
                go_wp2_with fail
                go_roundw
                case rel => exact ⟨k + 1, by omega, by go_num, by rw [HD2.out]; first | rfl | go_num, HK3.out, HBX.out⟩
                case measure => simp [intOf]; omega
            · have hkb : ((kd : Int) == 1) = false := beq_eq_false_iff_ne.2 (by omega)
              obtain rfl : hd2 = hd := by have := HHS.out; rwa [if_neg hkd, Nat.add_zero] at this
              have HK3 := Lib.hid (HK2.out (fun h => absurd h hkd))
              clear hkd
              go_wp2_with fail
              go_roundw
              case rel => exact ⟨k + 1, by omega, by go_num, by rw [HD2.out], HK3.out, HBX.out⟩
              case measure => simp [intOf]; omega
          · obtain rfl : k = bl.length := by omega
            have HN3 := Lib.hid (HN2.out (fun j h => HK.out j h h))
            go_wp2_with fail
            go_roundw
            case rel => exact ⟨i + 1, by omega, by go_num, HN3.out, HBX.out⟩
            case measure => simp [intOf]; omega
      · obtain rfl : i = l.length := by omega
        have HNN : Hid (∀ j (h : j < l.length), NoMore l[j].bl) := fun j h => HN.out j h h
        have hl3 : l.length ≤ 20000 := by have := HSZ.out; unfold szM at this; omega
        have HTK := Lib.hid (totK_le l (by omega) l.length (Nat.le_refl _))
        have hPl : (totP l).pls.length ≤ 20000 := by
          have h1 := HTK.out.pls
          have h2 := nbl_le l
          have h3 := HSZ.out
          rw [List.take_length] at h1
          show (totK l l.length).pls.length ≤ 20000
          omega
        have HPT : Hid ((totK l l.length).pls.length = (totP l).pls.length) := rfl
        have HPAT : Hid (∀ i (hi : i < l.length) k (hk : k < l[i].bl.length), ledB l[i].bl[k].kind = true → ∃ q, (totP l).pls[nAt l i l[i] k]? = some q ∧ Begins (Lib.decDigits (i + 1)) q.number (l[i].bl[k].kind = 1)) := fun i hi k hk h => by
          obtain ⟨x, h1, _⟩ := place_at (by omega) hi hk h
          exact ⟨_, h1, num_begins (p := i + 1) (by omega) l[i].name _ _ (HNN.out i hi) hk⟩
        clear HN HTK HNN
        go_wp2_with (go_at_call 8; refine (HPL.out HSZ.out _ HB.out).mono ?_; rintro e w2 ⟨⟨v, dd, rfl, hp, hd⟩, hb2⟩; have HP2 := Lib.hid (hp.mono HB.out.size); have HB2 : Hid (Below w.heap.size w w2) := HB.out.trans (hb2.mono HB.out.size); (obtain ⟨ap, cp, hv⟩ := hp.shape); subst hv; (obtain ⟨ad, cd, hv2⟩ := hd.shape); subst hv2; clear hp hd hb2)
        generalize (totP l).dgs = dgs at *
        generalize (totP l).pls = P at *
        go_loopw [8, 9] (fun v8 v9 wr => ∃ i : Nat, i ≤ l.length ∧ v9 = .int .i64 i ∧ v8 = .int .i64 ((totK l i).pls.length : Nat) ∧ Hid (Own wr w.heap.size 41 6 encPl (.slice ap P.length cp) P) ∧ Hid (Below w.heap.size w wr)) (fun _ v9 _ => l.length - (intOf v9).toNat)
        case atStart => exact ⟨0, by omega, rfl, rfl, HP2.out, HB2.out⟩
        case round =>
          obtain ⟨i, hi2, rfl, rfl, HO, HB⟩ := hrel
          by_cases hil : i < l.length
          · obtain ⟨bb, off, ha, hbl, hc⟩ := (HA.out.1.below HB.out).elem hil
            subst ha
            have HCI := Lib.hid (HA.out.2 _ (List.getElem_mem hil))
            have HCC : Hid (∀ W, Below w.heap.size w W → W.cell? ⟨bb, off + i * 6 + 1, none⟩ = some (.slice l[i].ba l[i].bl.length l[i].bc)) := fun W hb => by
              obtain ⟨b', o', e', _, h'⟩ := (HA.out.1.below hb).elem hil
              cases e'
              exact h' 1 _ rfl
            have HBL : Hid (BlsAt w l[i].ba l[i].bl) := HCI.out.bls
            have hbln := size_le_bl HSZ.out hil
            have HPA := Lib.hid (HPAT.out i hil)
            have HNL : Hid (∀ k (hk : k < l[i].bl.length), ledB l[i].bl[k].kind = true → nAt l i l[i] (k + 1) = nAt l i l[i] k + 1) := fun k hk h => nAt_led hk h
            have HNO : Hid (∀ k (hk : k < l[i].bl.length), ¬ ledB l[i].bl[k].kind = true → nAt l i l[i] (k + 1) = nAt l i l[i] k) := fun k hk h => nAt_not hk h
            have HN0 : Hid (nAt l i l[i] 0 = (totK l i).pls.length) := nAt_zero i l[i]
            have HNF : Hid (nAt l i l[i] l[i].bl.length = (totK l (i + 1)).pls.length) := nAt_full (by omega) hil
            generalize l[i].ba = ba at *
            generalize l[i].bc = bc at *
            generalize l[i].bl = bl at *
            have c1 := HCC.out wr HB.out
            clear hc HCI
            generalize nAt l i l[i] = N at *
            rw [← HN0.out]
            have HDG : Hid (∀ W, Calls Tryd.prog 9 #[.int .i64 ((i : Int) + 1)] W fun e w' => e = .returned (.string ⟨(Lib.decDigits (i + 1)).toArray⟩) ∧ W = w') := fun W => digits_any (i + 1) W (by omega)
            have hdl : (Lib.decDigits (i + 1)).length ≤ 100 := dec_100 (by omega)
            generalize Lib.decDigits (i + 1) = ds at *
            go_wp2_with fail
            go_loopw [8, 10] (fun v8 v10 wx => ∃ k : Nat, k ≤ bl.length ∧ v10 = .int .i64 k ∧ v8 = .int .i64 (N k : Nat) ∧ Hid (Own wx w.heap.size 41 6 encPl (.slice ap P.length cp) P) ∧ Hid (Below w.heap.size w wx)) (fun _ v10 _ => bl.length - (intOf v10).toNat)
            case atStart => exact ⟨0, by omega, rfl, rfl, HO.out, HB.out⟩
            case round =>
              clear c1
              obtain ⟨k, hk, rfl, rfl, HOX, HBX⟩ := hrel
              have c2 := HCC.out _ HBX.out
              by_cases hkl : k < bl.length
              · obtain ⟨b2, off2, ha2, hbl2, hc2⟩ := (HBL.out.keep HBX.out).1.elem hkl
                subst ha2
                have HPK := Lib.hid (HPA.out k hkl)
                have HLK := Lib.hid (HNL.out k hkl)
                have HOK := Lib.hid (HNO.out k hkl)
                generalize bl[k] = b at *
                obtain ⟨kd, lv, od, lb, tx, sa, sc, sl, ra, rc, rl, fi, ln⟩ := b
                have e0 := hc2 0 (.int .u8 kd) rfl
                have e1 := hc2 1 (.int .i64 lv) rfl
                have e2 := hc2 2 (.bool od) rfl
                have e3 := hc2 3 (.string ⟨lb.toArray⟩) rfl
                have e4 := hc2 4 (.string ⟨tx.toArray⟩) rfl
                have e5 := hc2 5 (.slice sa sl.length sc) rfl
                have e6 := hc2 6 (.slice ra rl.length rc) rfl
                have e7 := hc2 7 (.string ⟨fi.toArray⟩) rfl
                have e8 := hc2 8 (.int .i64 ln) rfl
                rw [Nat.add_zero] at e0
                dsimp only at HPK HLK HOK
                clear hc2
                have hzx := HBX.out.size
                obtain hk1 | hk6 | hk7 | hno : kd = 1 ∨ kd = 6 ∨ kd = 7 ∨ (kd ≠ 1 ∧ kd ≠ 6 ∧ kd ≠ 7) := by omega
                · subst hk1
                  have e0 : wr.cell? ⟨b2, off2 + k * 9, none⟩ = some (.int .u8 1) := e0
                  have HBd : Hid (Below w.heap.size w (wr.alloc (.cells #[.int .u8 1, .int .i64 lv, .bool od, .string ⟨lb.toArray⟩, .string ⟨tx.toArray⟩, .slice sa sl.length sc, .slice ra rl.length rc, .string ⟨fi.toArray⟩, .int .i64 ln] 39))) := HBX.out.alloc hzx _
                  have HOd := Lib.hid (HOX.out.alloc (.cells #[.int .u8 1, .int .i64 lv, .bool od, .string ⟨lb.toArray⟩, .string ⟨tx.toArray⟩, .slice sa sl.length sc, .slice ra rl.length rc, .string ⟨fi.toArray⟩, .int .i64 ln] 39))
                  obtain ⟨q, hq, hbeg⟩ := HPK.out rfl
                  have HLN := Lib.hid (HLK.out rfl)
                  have hlt := (List.getElem?_eq_some_iff.1 hq).1
                  obtain ⟨gp, rfl, hgp1, hgp2, hgp3⟩ := HOd.out.ptr (by omega)
                  have p2 : (wr.alloc (.cells #[.int .u8 1, .int .i64 lv, .bool od, .string ⟨lb.toArray⟩, .string ⟨tx.toArray⟩, .slice sa sl.length sc, .slice ra rl.length rc, .string ⟨fi.toArray⟩, .int .i64 ln] 39)).cell? ⟨gp, N k * 6 + 2, none⟩ = some (.string ⟨q.number.toArray⟩) := HOd.out.cellAt encPl_ok hq (j := 2) rfl
                  have HQ := Lib.hid hq
                  generalize q.number = nb at *
                  clear hq
                  generalize N k = nk at *
                  rcases hbeg with ⟨hnb, hkk⟩ | ⟨t, hnb⟩
                  · subst hnb
                    go_wp2_with (go_at_call 9; refine (HDG.out _).mono ?_; rintro e w5 ⟨rfl, rfl⟩)
                    go_roundw
                    case rel => exact ⟨k + 1, by omega, by go_num, by rw [HLN.out]; first | rfl | go_num, HOd.out, HBd.out⟩
                    case measure => simp [intOf]; omega
                  · subst hnb
                    have hx : List.take ds.length (ds ++ 46 :: t) = ds := List.take_left
                    have hgt : (ds.length : Int) < ((ds ++ 46 :: t).length : Int) := by simp; omega
                    have hlt2 : ¬ ((ds ++ 46 :: t).length : Int) < (ds.length : Int) := by omega
                    have hne2 : (((ds ++ 46 :: t).length : Int) == (ds.length : Int)) = false := beq_eq_false_iff_ne.2 (by omega)
                    have hge : (ds ++ 46 :: t)[ds.length]? = some 46 := by rw [List.getElem?_append_right (Nat.le_refl _)]; simp
                    have hNB := Lib.hid hge
                    go_wp2_with (go_at_call 9; refine (HDG.out _).mono ?_; rintro e w5 ⟨rfl, rfl⟩)
                    go_roundw
                    case rel => exact ⟨k + 1, by omega, by go_num, by rw [HLN.out]; first | rfl | go_num, HOd.out, HBd.out⟩
                    case measure => simp [intOf]; omega
                · subst hk6
                  have e0 : wr.cell? ⟨b2, off2 + k * 9, none⟩ = some (.int .u8 6) := e0
                  have HBd : Hid (Below w.heap.size w (wr.alloc (.cells #[.int .u8 6, .int .i64 lv, .bool od, .string ⟨lb.toArray⟩, .string ⟨tx.toArray⟩, .slice sa sl.length sc, .slice ra rl.length rc, .string ⟨fi.toArray⟩, .int .i64 ln] 39))) := HBX.out.alloc hzx _
                  have HOd := Lib.hid (HOX.out.alloc (.cells #[.int .u8 6, .int .i64 lv, .bool od, .string ⟨lb.toArray⟩, .string ⟨tx.toArray⟩, .slice sa sl.length sc, .slice ra rl.length rc, .string ⟨fi.toArray⟩, .int .i64 ln] 39))
                  obtain ⟨q, hq, hbeg⟩ := HPK.out rfl
                  have HLN := Lib.hid (HLK.out rfl)
                  have hlt := (List.getElem?_eq_some_iff.1 hq).1
                  obtain ⟨gp, rfl, hgp1, hgp2, hgp3⟩ := HOd.out.ptr (by omega)
                  have p2 : (wr.alloc (.cells #[.int .u8 6, .int .i64 lv, .bool od, .string ⟨lb.toArray⟩, .string ⟨tx.toArray⟩, .slice sa sl.length sc, .slice ra rl.length rc, .string ⟨fi.toArray⟩, .int .i64 ln] 39)).cell? ⟨gp, N k * 6 + 2, none⟩ = some (.string ⟨q.number.toArray⟩) := HOd.out.cellAt encPl_ok hq (j := 2) rfl
                  have HQ := Lib.hid hq
                  generalize q.number = nb at *
                  clear hq
                  generalize N k = nk at *
                  rcases hbeg with ⟨hnb, hkk⟩ | ⟨t, hnb⟩
                  · exact absurd hkk (by decide)
                  · subst hnb
                    have hx : List.take ds.length (ds ++ 46 :: t) = ds := List.take_left
                    have hgt : (ds.length : Int) < ((ds ++ 46 :: t).length : Int) := by simp; omega
                    have hlt2 : ¬ ((ds ++ 46 :: t).length : Int) < (ds.length : Int) := by omega
                    have hne2 : (((ds ++ 46 :: t).length : Int) == (ds.length : Int)) = false := beq_eq_false_iff_ne.2 (by omega)
                    have hge : (ds ++ 46 :: t)[ds.length]? = some 46 := by rw [List.getElem?_append_right (Nat.le_refl _)]; simp
                    have hNB := Lib.hid hge
                    go_wp2_with (go_at_call 9; refine (HDG.out _).mono ?_; rintro e w5 ⟨rfl, rfl⟩)
                    go_roundw
                    case rel => exact ⟨k + 1, by omega, by go_num, by rw [HLN.out]; first | rfl | go_num, HOd.out, HBd.out⟩
                    case measure => simp [intOf]; omega
                · subst hk7
                  have e0 : wr.cell? ⟨b2, off2 + k * 9, none⟩ = some (.int .u8 7) := e0
                  have HBd : Hid (Below w.heap.size w (wr.alloc (.cells #[.int .u8 7, .int .i64 lv, .bool od, .string ⟨lb.toArray⟩, .string ⟨tx.toArray⟩, .slice sa sl.length sc, .slice ra rl.length rc, .string ⟨fi.toArray⟩, .int .i64 ln] 39))) := HBX.out.alloc hzx _
                  have HOd := Lib.hid (HOX.out.alloc (.cells #[.int .u8 7, .int .i64 lv, .bool od, .string ⟨lb.toArray⟩, .string ⟨tx.toArray⟩, .slice sa sl.length sc, .slice ra rl.length rc, .string ⟨fi.toArray⟩, .int .i64 ln] 39))
                  obtain ⟨q, hq, hbeg⟩ := HPK.out rfl
                  have HLN := Lib.hid (HLK.out rfl)
                  have hlt := (List.getElem?_eq_some_iff.1 hq).1
                  obtain ⟨gp, rfl, hgp1, hgp2, hgp3⟩ := HOd.out.ptr (by omega)
                  have p2 : (wr.alloc (.cells #[.int .u8 7, .int .i64 lv, .bool od, .string ⟨lb.toArray⟩, .string ⟨tx.toArray⟩, .slice sa sl.length sc, .slice ra rl.length rc, .string ⟨fi.toArray⟩, .int .i64 ln] 39)).cell? ⟨gp, N k * 6 + 2, none⟩ = some (.string ⟨q.number.toArray⟩) := HOd.out.cellAt encPl_ok hq (j := 2) rfl
                  have HQ := Lib.hid hq
                  generalize q.number = nb at *
                  clear hq
                  generalize N k = nk at *
                  rcases hbeg with ⟨hnb, hkk⟩ | ⟨t, hnb⟩
                  · exact absurd hkk (by decide)
                  · subst hnb
                    have hx : List.take ds.length (ds ++ 46 :: t) = ds := List.take_left
                    have hgt : (ds.length : Int) < ((ds ++ 46 :: t).length : Int) := by simp; omega
                    have hlt2 : ¬ ((ds ++ 46 :: t).length : Int) < (ds.length : Int) := by omega
                    have hne2 : (((ds ++ 46 :: t).length : Int) == (ds.length : Int)) = false := beq_eq_false_iff_ne.2 (by omega)
                    have hge : (ds ++ 46 :: t)[ds.length]? = some 46 := by rw [List.getElem?_append_right (Nat.le_refl _)]; simp
                    have hNB := Lib.hid hge
                    go_wp2_with (go_at_call 9; refine (HDG.out _).mono ?_; rintro e w5 ⟨rfl, rfl⟩)
                    go_roundw
                    case rel => exact ⟨k + 1, by omega, by go_num, by rw [HLN.out]; first | rfl | go_num, HOd.out, HBd.out⟩
                    case measure => simp [intOf]; omega
                · obtain ⟨n1, n6, n7⟩ := hno
                  have HLN := Lib.hid (HOK.out (by unfold ledB; simp [n1, n6, n7]))
                  have HBd : Hid (Below w.heap.size w (wr.alloc (.cells #[.int .u8 kd, .int .i64 lv, .bool od, .string ⟨lb.toArray⟩, .string ⟨tx.toArray⟩, .slice sa sl.length sc, .slice ra rl.length rc, .string ⟨fi.toArray⟩, .int .i64 ln] 39))) := HBX.out.alloc hzx _
                  have HOd := Lib.hid (HOX.out.alloc (.cells #[.int .u8 kd, .int .i64 lv, .bool od, .string ⟨lb.toArray⟩, .string ⟨tx.toArray⟩, .slice sa sl.length sc, .slice ra rl.length rc, .string ⟨fi.toArray⟩, .int .i64 ln] 39))
                  have m1 : ((kd : Int) == 1) = false := beq_eq_false_iff_ne.2 (by omega)
                  have m6 : ((kd : Int) == 6) = false := beq_eq_false_iff_ne.2 (by omega)
                  have m7 : ((kd : Int) == 7) = false := beq_eq_false_iff_ne.2 (by omega)
                  have k1 : ((kd : Int) != 1) = true := by rw [bne, m1]; rfl
                  have k6 : ((kd : Int) != 6) = true := by rw [bne, m6]; rfl
                  have k7 : ((kd : Int) != 7) = true := by rw [bne, m7]; rfl
                  clear n1 n6 n7
                  go_wp2_with fail
                  go_roundw
                  case rel => exact ⟨k + 1, by omega, by go_num, by rw [HLN.out], HOd.out, HBd.out⟩
                  case measure => simp [intOf]; omega
              · obtain rfl : k = bl.length := by omega
                go_wp2_with fail
                go_roundw
                case rel => exact ⟨i + 1, by omega, by go_num, by rw [HNF.out], HOX.out, HBX.out⟩
                case measure => simp [intOf]; omega
          · obtain rfl : i = l.length := by omega
            rw [HPT.out]
            go_wp2_with (go_at_call 7; refine (lives16_any _ (HT.out.below HB.out)).mono ?_; rintro e w9 ⟨rfl, hb9⟩; have HB9 : Hid (Below w.heap.size w w9) := HB.out.trans (hb9.mono HB.out.size))
            go_ret
            exact ⟨rfl, HB9.out⟩
  · go_wp2_with (go_at_call 7; refine (lives16_any _ (HT.out.below HB1.out)).mono ?_; rintro e w9 ⟨rfl, hb9⟩; have HB9 : Hid (Below w.heap.size w w9) := HB1.out.trans (hb9.mono HB1.out.size))
    go_ret
    exact ⟨rfl, HB9.out⟩
end Go.Proofs.YtohinfefidahlaaDoor

