/- refs.Places: any chapters. -/
import Derived.Test.YtohinfefidahlaaGreatDoorJoI
import Derived.Deep.RegionHeld3
import Derived.Test.YtohinfefidahlaaGreatDoorStepP
import Derived.Deep.DrawnRows
namespace Go.Proofs.YtohinfefidahlaaGreatDoor
set_option linter.unusedSimpArgs false
open Go.RowKit
set_option linter.unusedVariables false
attribute [local go_sem ↓] Go.wp_at_zero Go.wp_at_succ

def PlacesGives (w : World) (l : List Ch) (e : Ending) (w' : World) : Prop :=
  (∃ v d, e = .returned (.tuple #[v, d]) ∧ Own w' w.heap.size 81 6 encPl v (totP l).pls ∧ Own w' w.heap.size 103 4 encDg d (totP l).dgs) ∧ Below w.heap.size w w'

/-- what is asked of chapters: so few, of so many blocks, and names and titles not too long -/
structure BlOk (b : Bl) : Prop where
  label : b.label.length ≤ 140737488351232
  spans : ledB b.kind = true → SpLen b.sl ∧ (sayL b.sl).length ≤ 20000
structure ChsOk (l : List Ch) : Prop where
  len : l.length ≤ 20000
  sum : sumM nbl l ≤ 20000
  name : ∀ c ∈ l, c.name.length ≤ 20000
  bls : ∀ c ∈ l, ∀ b ∈ c.bl, BlOk b
theorem ChsOk.of_size {l : List Ch} (h : szM szCh l ≤ 20000) : ChsOk l := by
  refine ⟨by unfold szM at h; omega, by have := nbl_le l; omega, fun c hc => ?_, fun c hc b hb => ?_⟩
  · have h1 := szM_mem szCh hc
    have h2 : c.name.length ≤ szCh c := by unfold szCh; omega
    omega
  · have h1 := szM_mem szCh hc
    have h2 : szM szBl c.bl ≤ szCh c := by unfold szCh; omega
    have h3 := szM_mem szBl hb
    have h4 : b.label.length + szM szS b.sl ≤ szBl b := by unfold szBl; omega
    refine ⟨by omega, fun _ => ⟨spLen (by omega), ?_⟩⟩
    have h5 := sayL_le b.sl
    rw [szL_eq] at h5; omega
set_option maxHeartbeats 8000000 in
set_option maxRecDepth 100000 in
theorem places_all (l : List Ch) (a : Option Addr) (c : Nat) (w : World) (hA : ChsAt w a l) (hsz : ChsOk l) (htab : HasTab w) :
    Calls Tryz.prog 17 #[.slice a l.length c] w (PlacesGives w l) := by
  have HA := Lib.hid hA
  have HT := Lib.hid htab
  have HSZ := Lib.hid hsz
  have hll : l.length ≤ 20000 := hsz.len
  have htl := htab.lt
  clear hA htab hsz
  have hmm := @run_makeMap Tryz.prog
  go_enter Tryz.func17, Tryz.ntmps17
  go_wp2
  go_loopw [4, 5, 20] (fun v4 v5 v20 wr => ∃ k : Nat, k ≤ l.length ∧ v20 = .int .i64 k ∧ Hid (Own wr w.heap.size 81 6 encPl v4 (totK l k).pls) ∧ Hid (Own wr w.heap.size 103 4 encDg v5 (totK l k).dgs) ∧ Hid (∃ m, SMap wr w.heap.size m ∧ LInv (totK l k).labs m) ∧ Hid (Below w.heap.size w wr)) (fun _ _ v20 _ => l.length - (intOf v20).toNat)
  case atStart => exact ⟨0, by omega, rfl, Own.nil _ _ _ _ _, Own.nil _ _ _ _ _, ⟨[], SMap.new w, LInv.nil⟩, (Below.refl _ _).alloc (Nat.le_refl _) _⟩
  case round =>
    obtain ⟨k, hk, rfl, HP, HD, HM, HB⟩ := hrel
    by_cases hlt : k < l.length
    · obtain ⟨bb, off, ha, hbl, hc⟩ := (HA.out.keep HB.out).1.elem hlt
      subst ha
      have HCI : Hid (ChIn w l[k]) := HA.out.2 _ (List.getElem_mem hlt)
      have HTS := Lib.hid (totK_succ hlt)
      have HTL := Lib.hid (totK_le l (by omega) k (by omega))
      have HNA := Lib.hid (HSZ.out.name _ (List.getElem_mem hlt))
      have HBO := Lib.hid (HSZ.out.bls _ (List.getElem_mem hlt))
      have HNB := Lib.hid (Nat.le_trans (sumM_take_le nbl l (k + 1)) HSZ.out.sum)
      rw [sumM_take_succ nbl hlt] at HNB
      generalize l[k] = x at *
      generalize hT0 : totK l k = T0 at *
      obtain ⟨nm, ba, bc, bl, da, dc, dl, fa, fc, fl, aa, ac, al, ua, uc, ul⟩ := x
      have c0 := hc 0 (.string ⟨nm.toArray⟩) rfl
      have c1 := hc 1 (.slice ba bl.length bc) rfl
      have c2 := hc 2 (.slice da dl.length dc) rfl
      have c3 := hc 3 (.slice fa fl.length fc) rfl
      have c4 := hc 4 (.slice aa al.length ac) rfl
      have c5 := hc 5 (.slice ua ul.length uc) rfl
      rw [Nat.add_zero] at c0
      obtain ⟨ap, cp, hv⟩ := HP.out.shape
      clear hc hT0
      subst hv
      have HBL : Hid (BlsAt w ba bl) := HCI.out.bls
      have HNA : Hid (nm.length ≤ 20000) := HNA
      have HBO : Hid (∀ b ∈ bl, BlOk b) := HBO
      have HTN : Hid (T0.pls.length + bl.length ≤ 20000 ∧ T0.dgs.length + bl.length ≤ 20000 ∧ T0.labs.length + bl.length ≤ 20000) := by
        have h1 := HTL.out
        have h2 := HNB.out
        change sumM nbl (List.take k l) + bl.length ≤ 20000 at h2
        have := h1.pls; have := h1.dgs; have := h1.labs
        exact ⟨by omega, by omega, by omega⟩
      have hbln : bl.length ≤ 20000 := by have := HTN.out.1; omega
      have hsz0 := HB.out.size
      have hlt0 : w.heap.size < wr.heap.size := by obtain ⟨m, hm, _⟩ := HM.out; exact hm.lt
      have HPI := Lib.hid (PIn.start (p := k + 1) (C8 := encCh ⟨nm, ba, bc, bl, da, dc, dl, fa, fc, fl, aa, ac, al, ua, uc, ul⟩) (T0 := T0) HP.out HD.out HM.out hlt0 (C := #[.string ⟨nm.toArray⟩, .slice ba bl.length bc, .slice da dl.length dc, .slice fa fl.length fc, .slice aa al.length ac, .slice ua ul.length uc]) rfl)
      have HB2 := Lib.hid (((HB.out.alloc HB.out.size (.cells #[.string ⟨nm.toArray⟩, .slice ba bl.length bc, .slice da dl.length dc, .slice fa fl.length fc, .slice aa al.length ac, .slice ua ul.length uc] 77)).alloc (by simp; omega) (.cells #[.int .i64 ((k + 1 : Nat) : Int)] 3)).alloc (by simp; omega) (.cells #[.int .i64 ((k + 1 : Nat) : Int), .slice (some ⟨wr.heap.size + 1, 0, none⟩) 1 1, .int .i64 0, .int .i64 0, .int .i64 0, .int .i64 0, .int .i64 0, .int .i64 0, .int .i64 0, .int .i64 0] 96))
      rw [show ((k + 1 : Nat) : Int) = (k : Int) + 1 from rfl] at HPI HB2
      have HC8 : Hid ((encCh ⟨nm, ba, bc, bl, da, dc, dl, fa, fc, fl, aa, ac, al, ua, uc, ul⟩)[0]? = some (.string ⟨nm.toArray⟩)) := rfl
      have HTS2 : Hid (totK l (k + 1) = ⟨T0.pls ++ fixA (chapS (k + 1) nm T0.labs T0.dgs bl).pls (unlike (chapS (k + 1) nm T0.labs T0.dgs bl).anc), (chapS (k + 1) nm T0.labs T0.dgs bl).labs, (chapS (k + 1) nm T0.labs T0.dgs bl).dgs⟩) := HTS.out
      generalize encCh ⟨nm, ba, bc, bl, da, dc, dl, fa, fc, fl, aa, ac, al, ua, uc, ul⟩ = C8 at HC8 HPI
      clear HP HD HM HB HCI HNB HTL HTS
      go_wp2
      generalize (((wr.alloc (.cells #[.string ⟨nm.toArray⟩, .slice ba bl.length bc, .slice da dl.length dc, .slice fa fl.length fc, .slice aa al.length ac, .slice ua ul.length uc] 77)).alloc (.cells #[.int .i64 ((k : Int) + 1)] 3)).alloc (.cells #[.int .i64 ((k : Int) + 1), .slice (some ⟨wr.heap.size + 1, 0, none⟩) 1 1, .int .i64 0, .int .i64 0, .int .i64 0, .int .i64 0, .int .i64 0, .int .i64 0, .int .i64 0, .int .i64 0] 96)) = W at *
      generalize hg8 : wr.heap.size = g8 at *
      clear c0 c1 c2 c3 c4 c5 hg8
      have HST := Lib.hid (fun j (h : j < bl.length) => @chapS_succ (k + 1) nm T0.labs T0.dgs bl j h)
      have HLE := Lib.hid (fun j (h : j ≤ bl.length) => @chapS_le (k + 1) (by omega) nm T0.labs T0.dgs bl j h)
      go_loopw [4, 5, 11, 37] (fun v4 v5 v11 v37 wx => ∃ j : Nat, j ≤ bl.length ∧ v37 = .int .i64 j ∧ Hid (PIn wx w.heap.size g8 (g8 + 1 + 1) (k + 1) C8 v4 v5 v11 (T0.pls ++ (chS (k + 1) nm T0.labs T0.dgs bl j).pls) (chS (k + 1) nm T0.labs T0.dgs bl j).dgs (chS (k + 1) nm T0.labs T0.dgs bl j).anc (chS (k + 1) nm T0.labs T0.dgs bl j).labs (chS (k + 1) nm T0.labs T0.dgs bl j).cnt) ∧ Hid (Below w.heap.size w wx)) (fun _ _ _ v37 _ => bl.length - (intOf v37).toNat)
      case atStart =>
        refine ⟨0, by omega, rfl, ?_, HB2⟩
        rw [chS_zero]
        show PIn _ _ _ _ _ _ _ _ _ (T0.pls ++ []) _ _ _ _
        rw [List.append_nil]
        exact HPI.out
      case round =>
        obtain ⟨j, hj, rfl, HPJ, HBJ⟩ := hrel
        by_cases hjl : j < bl.length
        · have HBA : Hid (At wr 9 encBl ba bl) := (HBL.out.keep HBJ.out).1
          obtain ⟨b2, off2, ha2, hbl2, hc2⟩ := HBA.out.elem hjl
          subst ha2
          have HBI : Hid (BlIn w bl[j]) := HBL.out.2 _ (List.getElem_mem hjl)
          have HSX := Lib.hid (HBO.out _ (List.getElem_mem hjl))
          have HSL : Hid (StLe (k + 1) T0.labs T0.dgs j (chS (k + 1) nm T0.labs T0.dgs bl j)) := HLE.out j hj
          have HSTJ : Hid (chS (k + 1) nm T0.labs T0.dgs bl (j + 1) = stepB (k + 1) (nm ++ htmlB) (chS (k + 1) nm T0.labs T0.dgs bl j) bl[j]) := HST.out j hjl
          generalize bl[j] = b at *
          generalize chS (k + 1) nm T0.labs T0.dgs bl j = S at *
          obtain ⟨kd, lv, od, lb, tx, sa, sc, sl, ra, rc, rl, fi, ln⟩ := b
          have d0 := hc2 0 (.int .u8 kd) rfl
          have d1 := hc2 1 (.int .i64 lv) rfl
          have d2 := hc2 2 (.bool od) rfl
          have d3 := hc2 3 (.string ⟨lb.toArray⟩) rfl
          have d4 := hc2 4 (.string ⟨tx.toArray⟩) rfl
          have d5 := hc2 5 (.slice sa sl.length sc) rfl
          have d6 := hc2 6 (.slice ra rl.length rc) rfl
          have d7 := hc2 7 (.string ⟨fi.toArray⟩) rfl
          have d8 := hc2 8 (.int .i64 ln) rfl
          rw [Nat.add_zero] at d0
          clear hc2
          have HSP : Hid (SpsAt w sa sl) := HBI.out.1
          have HZZ : Hid (lb.length ≤ 140737488351232 ∧ (ledB kd = true → SpLen sl ∧ (sayL sl).length ≤ 20000) ∧ nm.length ≤ 20000) := ⟨HSX.out.label, HSX.out.spans, HNA.out⟩
          have HPJd := Lib.hid (HPJ.out.alloc (.cells #[.int .u8 kd, .int .i64 lv, .bool od, .string ⟨lb.toArray⟩, .string ⟨tx.toArray⟩, .slice sa sl.length sc, .slice ra rl.length rc, .string ⟨fi.toArray⟩, .int .i64 ln] 74))
          have HBJd : Hid (Below w.heap.size w (wr.alloc (.cells #[.int .u8 kd, .int .i64 lv, .bool od, .string ⟨lb.toArray⟩, .string ⟨tx.toArray⟩, .slice sa sl.length sc, .slice ra rl.length rc, .string ⟨fi.toArray⟩, .int .i64 ln] 74))) := HBJ.out.alloc HBJ.out.size _
          have HXd := Lib.hid (Bk.new wr #[.int .u8 kd, .int .i64 lv, .bool od, .string ⟨lb.toArray⟩, .string ⟨tx.toArray⟩, .slice sa sl.length sc, .slice ra rl.length rc, .string ⟨fi.toArray⟩, .int .i64 ln] 74)
          have hgb : g8 + 1 + 1 < wr.heap.size := by obtain ⟨C, hC⟩ := HPJ.out.ct.bk; exact hC.lt
          clear HBI HSX HBA HPJ HBJ
          by_cases hled : ledB kd = true
          · have HLD := Lib.hid hled
            clear hled
            have hlt9 : 1 < g8 + 1 + 1 := by have := HPJd.out.l8; omega
            go_wp2_with (first
              | (go_at_call 83; refine (led_any kd _).mono ?_; rw [HLD.out]; rintro e w2 ⟨rfl, rfl⟩)
              | (go_at_call 84; refine (splain_any sl sa sc _ (HSP.out.keep HBJd.out) (HZZ.out.2.1 HLD.out).1 (by have := (HZZ.out.2.1 HLD.out).2; omega)).mono ?_; rintro e w3 ⟨rfl, hb3⟩; have HPJe := Lib.hid (HPJd.out.next hb3); have HBJe : Hid (Below w.heap.size w w3) := HBJd.out.trans (hb3.mono HBJd.out.size); have HXe := Lib.hid (HXd.out.next hb3)))
            generalize wr.heap.size = gb at *
            have HTe : Hid (HasTab w3) := HT.out.below HBJe.out
            clear HPJd HBJd HXd hb3 d0 d1 d2 d3 d4 d5 d6 d7 d8
            have HPN : Hid ((T0.pls ++ S.pls).length ≤ 20000) := by
              show _ ≤ _
              have := HSL.out.pls; have := HTN.out.1
              simp; omega
            generalize hPL : T0.pls ++ S.pls = PL at *
            have HPL := Lib.hid hPL
            clear hPL
            obtain ⟨a4, c4, hv4⟩ := HPJe.out.pl.shape
            subst hv4
            have HNUM : Hid (∀ W, CntAt W w.heap.size (g8 + 1 + 1) (k + 1) S.cnt → HasTab W → Calls Tryz.prog 85 #[.pointer (some ⟨g8 + 1 + 1, 0, none⟩), .agg #[.int .u8 kd, .int .i64 lv, .bool od, .string ⟨lb.toArray⟩, .string ⟨tx.toArray⟩, .slice sa sl.length sc, .slice ra rl.length rc, .string ⟨fi.toArray⟩, .int .i64 ln]] W (NumGives W w.heap.size (g8 + 1 + 1) (k + 1) S.cnt kd lv)) := (fun W (hC : CntAt W w.heap.size (g8 + 1 + 1) (k + 1) S.cnt) (hT : HasTab W) => number_any ⟨kd, lv, od, lb, tx, sa, sc, sl, ra, rc, rl, fi, ln⟩ w.heap.size (g8 + 1 + 1) (k + 1) j S.cnt W HLD.out hC HSL.out.cnt (by omega) (by omega) hT hlt9 (by obtain ⟨C, hC⟩ := hC.bk; have := hC.lt; omega))
            have HPJe2 : Hid (PIn w3.drew w.heap.size g8 (g8 + 1 + 1) (k + 1) C8 (.slice a4 PL.length c4) u5 u11 PL S.dgs S.anc S.labs S.cnt) := HPJe.out.drewN 1
            have HTe2 : Hid (HasTab w3.drew) := HTe.out.below ⟨rfl, rfl, rfl, Nat.le_refl _, fun _ _ => rfl⟩
            have HXe2 := Lib.hid HXe.out.drew
            have HBJe2 : Hid (Below w.heap.size w w3.drew) := HBJe.out.trans ⟨rfl, rfl, rfl, Nat.le_refl _, fun _ _ => rfl⟩
            have HXK : Hid (∀ W, Kept (fun x => x = g8 + 1 + 1) w3.drew W → Bk W gb [.int .u8 kd, .int .i64 lv, .bool od, .string ⟨lb.toArray⟩, .string ⟨tx.toArray⟩, .slice sa sl.length sc, .slice ra rl.length rc, .string ⟨fi.toArray⟩, .int .i64 ln] 74) := fun W hK => hK.bk HXe2.out (by omega)
            have HBK : Hid (∀ W, Kept (fun x => x = g8 + 1 + 1) w3.drew W → Below w.heap.size w W) := fun W hK => HBJe2.out.trans (hK.below (fun x hx => by omega) HPJe2.out.sz)
            have HTK : Hid (∀ W, Kept (fun x => x = g8 + 1 + 1) w3.drew W → HasTab W) := fun W hK => HTe2.out.keptB hK (fun x hx => by omega)
            have HDC : Hid (81 ≠ 74) := by show _ ≠ _; decide
            have HPG : Hid (∀ W, Calls Tryz.prog 86 #[.string ⟨nm.toArray⟩] W fun e w' => e = .returned (.string ⟨(nm ++ htmlB).toArray⟩) ∧ W = w') := fun W => page_any nm W (by have := HZZ.out.2.2; omega)
            have HPM : Hid ((PL.length + 1) * 88 ≤ 140737488355328 ∧ PL.length + 1 ≤ maxLen) := by have := HPN.out; exact ⟨by omega, by unfold maxLen; omega⟩
            have HG : Hid (∀ W : World, ∀ j u, (encPl ⟨lb, kd, numP (k + 1) S.cnt kd lv, sayL sl, nm ++ htmlB, []⟩)[j]? = some u → (W.alloc (.cells #[.string ⟨lb.toArray⟩, .int .u8 kd, .string ⟨(numP (k + 1) S.cnt kd lv).toArray⟩, .string ⟨(sayL sl).toArray⟩, .string ⟨(nm ++ htmlB).toArray⟩, .string ⟨#[]⟩] 81)).cell? ⟨W.heap.size, j, none⟩ = some u) := fun W j u hj => ((Bk.new W #[.string ⟨lb.toArray⟩, .int .u8 kd, .string ⟨(numP (k + 1) S.cnt kd lv).toArray⟩, .string ⟨(sayL sl).toArray⟩, .string ⟨(nm ++ htmlB).toArray⟩, .string ⟨#[]⟩] 81).cell j).trans hj
            have e0 := HXe.out.cell 0
            change w3.cell? ⟨gb, 0, none⟩ = some (.int .u8 kd) at e0
            have e1 := HXe.out.cell 1
            change w3.cell? ⟨gb, 1, none⟩ = some (.int .i64 lv) at e1
            have e2 := HXe.out.cell 2
            change w3.cell? ⟨gb, 2, none⟩ = some (.bool od) at e2
            have e3 := HXe.out.cell 3
            change w3.cell? ⟨gb, 3, none⟩ = some (.string ⟨lb.toArray⟩) at e3
            have e4 := HXe.out.cell 4
            change w3.cell? ⟨gb, 4, none⟩ = some (.string ⟨tx.toArray⟩) at e4
            have e5 := HXe.out.cell 5
            change w3.cell? ⟨gb, 5, none⟩ = some (.slice sa sl.length sc) at e5
            have e6 := HXe.out.cell 6
            change w3.cell? ⟨gb, 6, none⟩ = some (.slice ra rl.length rc) at e6
            have e7 := HXe.out.cell 7
            change w3.cell? ⟨gb, 7, none⟩ = some (.string ⟨fi.toArray⟩) at e7
            have e8 := HXe.out.cell 8
            change w3.cell? ⟨gb, 8, none⟩ = some (.int .i64 ln) at e8
            have en := HPJe.out.ch.cell 0
            rw [HC8.out] at en
            go_region_held3 (fun w' => w'.cell? ⟨gb, 0, none⟩ = some (.int .u8 kd) ∧ w'.cell? ⟨gb, 1, none⟩ = some (.int .i64 lv) ∧ w'.cell? ⟨gb, 2, none⟩ = some (.bool od) ∧ w'.cell? ⟨gb, 3, none⟩ = some (.string ⟨lb.toArray⟩) ∧ w'.cell? ⟨gb, 4, none⟩ = some (.string ⟨tx.toArray⟩) ∧ w'.cell? ⟨gb, 5, none⟩ = some (.slice sa sl.length sc) ∧ w'.cell? ⟨gb, 6, none⟩ = some (.slice ra rl.length rc) ∧ w'.cell? ⟨gb, 7, none⟩ = some (.string ⟨fi.toArray⟩) ∧ w'.cell? ⟨gb, 8, none⟩ = some (.int .i64 ln) ∧ w'.cell? ⟨g8, 0, none⟩ = some (.string ⟨nm.toArray⟩)) (first | exact ⟨k0, k1, k2, k3, k4, k5, k6, k7, k8, kn⟩ | exact ⟨e0, e1, e2, e3, e4, e5, e6, e7, e8, en⟩ | exact ⟨m0, m1, m2, m3, m4, m5, m6, m7, m8, mn⟩ | go_keep) (first | (go_at_call 85; refine (HNUM.out _ HPJe2.out.ct HTe2.out).mono ?_; rintro e w5 ⟨rfl, hC5, hK5⟩; have HPJf := Lib.hid (HPJe2.out.numbered hK5 hC5); have HXf := Lib.hid (HXK.out _ hK5); have k0 := HXf.out.cell 0; change w5.cell? ⟨gb, 0, none⟩ = some (.int .u8 kd) at k0; have k1 := HXf.out.cell 1; change w5.cell? ⟨gb, 1, none⟩ = some (.int .i64 lv) at k1; have k2 := HXf.out.cell 2; change w5.cell? ⟨gb, 2, none⟩ = some (.bool od) at k2; have k3 := HXf.out.cell 3; change w5.cell? ⟨gb, 3, none⟩ = some (.string ⟨lb.toArray⟩) at k3; have k4 := HXf.out.cell 4; change w5.cell? ⟨gb, 4, none⟩ = some (.string ⟨tx.toArray⟩) at k4; have k5 := HXf.out.cell 5; change w5.cell? ⟨gb, 5, none⟩ = some (.slice sa sl.length sc) at k5; have k6 := HXf.out.cell 6; change w5.cell? ⟨gb, 6, none⟩ = some (.slice ra rl.length rc) at k6; have k7 := HXf.out.cell 7; change w5.cell? ⟨gb, 7, none⟩ = some (.string ⟨fi.toArray⟩) at k7; have k8 := HXf.out.cell 8; change w5.cell? ⟨gb, 8, none⟩ = some (.int .i64 ln) at k8; have kn := HPJf.out.ch.cell 0; (rw [HC8.out] at kn); have HBJf := Lib.hid (HBK.out _ hK5); have HTf := Lib.hid (HTK.out _ hK5); clear hC5 hK5) | (go_at_call 86; refine (HPG.out _).mono ?_; rintro e w6 ⟨rfl, rfl⟩) | (refine step_push (by rfl) _ _ _ (by rfl) w.heap.size 81 6 88 slpl encPl encPl_ok (.slice a4 PL.length c4) PL (by rfl) (HPJf.out.alloc _).pl ⟨lb, kd, numP (k + 1) S.cnt kd lv, sayL sl, nm ++ htmlB, []⟩ w5.heap.size (by rfl) (HG.out w5) HPM.out.1 HPM.out.2 (HPJf.out.alloc _).sz ?_; intro v4 w9 hown1 hgrow; have HPJg := Lib.hid ((HPJf.out.alloc _).pushPl hgrow hown1); have HXg := Lib.hid ((HXf.out.alloc _).grownBy hgrow (HPJf.out.pl.ne_bk HXf.out HDC.out)); have hblg := hgrow.block; have hszg := hgrow.size; have m0 := HXg.out.cell 0; change w9.cell? ⟨gb, 0, none⟩ = some (.int .u8 kd) at m0; have m1 := HXg.out.cell 1; change w9.cell? ⟨gb, 1, none⟩ = some (.int .i64 lv) at m1; have m2 := HXg.out.cell 2; change w9.cell? ⟨gb, 2, none⟩ = some (.bool od) at m2; have m3 := HXg.out.cell 3; change w9.cell? ⟨gb, 3, none⟩ = some (.string ⟨lb.toArray⟩) at m3; have m4 := HXg.out.cell 4; change w9.cell? ⟨gb, 4, none⟩ = some (.string ⟨tx.toArray⟩) at m4; have m5 := HXg.out.cell 5; change w9.cell? ⟨gb, 5, none⟩ = some (.slice sa sl.length sc) at m5; have m6 := HXg.out.cell 6; change w9.cell? ⟨gb, 6, none⟩ = some (.slice ra rl.length rc) at m6; have m7 := HXg.out.cell 7; change w9.cell? ⟨gb, 7, none⟩ = some (.string ⟨fi.toArray⟩) at m7; have m8 := HXg.out.cell 8; change w9.cell? ⟨gb, 8, none⟩ = some (.int .i64 ln) at m8; have mn := HPJg.out.ch.cell 0; (rw [HC8.out] at mn); clear hown1))
            have HSN : Hid (chS (k + 1) nm T0.labs T0.dgs bl (j + 1) = ⟨cntP S.cnt kd lv, S.pls ++ [⟨lb, kd, numP (k + 1) S.cnt kd lv, sayL sl, nm ++ htmlB, []⟩], S.anc ++ [if lb = [] then slugOf (sayL sl) else lb], if lb = [] then S.labs else S.labs ++ [lb], if lb ≠ [] ∧ lb ∈ S.labs then S.dgs ++ [⟨fi, ln, 11, lb⟩] else S.dgs⟩) := by
              show _ = _
              rw [HSTJ.out]
              unfold stepB
              rw [if_pos HLD.out]
              rfl
            have HBJg : Hid (Below w.heap.size w w9) := (HBJf.out.alloc HBJf.out.size _).grown hgrow (HPJf.out.alloc _).sz (fun k hk => (HPJf.out.pl.block k hk).1)
            have HSLg := Lib.hid (show S.anc.length ≤ 20000 ∧ S.labs.length ≤ 20000 ∧ S.dgs.length ≤ 20000 by have h1 := HSL.out; have := h1.pls; have := h1.anc; have := h1.labs; have := h1.dgs; have := HTN.out; exact ⟨by omega, by omega, by omega⟩)
            clear HNUM HXK HBK HTK HPG HPM HG HPJe HPJe2 HTe HTe2 HXe HXe2 HBJe HBJe2 HPJf HXf HBJf HTf hgrow hblg hszg e0 e1 e2 e3 e4 e5 e6 e7 e8 en k0 k1 k2 k3 k4 k5 k6 k7 k8 kn HSTJ
            generalize (⟨lb, kd, numP (k + 1) S.cnt kd lv, sayL sl, nm ++ htmlB, []⟩ : Pl) = NP at *
            generalize cntP S.cnt kd lv = NC at *
            generalize numP (k + 1) S.cnt kd lv = NB at *
            by_cases hlb : lb = []
            · subst hlb
              go_wp2_with (first
                | (go_at_call 87; refine (of_any (sayL sl) _ (by have := (HZZ.out.2.1 HLD.out).2; omega)).mono ?_; rintro e wa ⟨rfl, hba⟩)
                | (at_builtin; refine Hld.out ?_))
              constructor
              have HPJh := Lib.hid (HPJg.out.next hba)
              have HBJh : Hid (Below w.heap.size w wa) := HBJg.out.trans (hba.mono HBJg.out.size)
              refine wpList_push2 rfl _ _ 27 rfl w.heap.size 9 1 16 slstrs encS encS_ok u11 S.anc rfl (HPJh.out.alloc _).an (slugOf (sayL sl)) wa.heap.size rfl (fun j u hj => ((Bk.new wa #[.string ⟨(slugOf (sayL sl)).toArray⟩] 9).cell j).trans hj) (by have := HSLg.out.1; omega) (by have := HSLg.out.1; unfold maxLen; omega) (HPJh.out.alloc _).sz ?_
              intro v11 wb hob hgb2 _
              have HPJi := Lib.hid ((HPJh.out.alloc _).pushAn hgb2 hob)
              have HBJi : Hid (Below w.heap.size w wb) := (HBJh.out.alloc HBJh.out.size _).grown hgb2 (HPJh.out.alloc _).sz (fun k hk => (HPJh.out.an.block k hk).1)
              clear hgb2 hob HPJg HPJh HBJg HBJh hba
              go_wp2_with fail
              go_roundw
              case rel =>
                refine ⟨j + 1, by omega, by go_num, ?_, HBJi⟩
                rw [HSN.out]
                dsimp only
                rw [← List.append_assoc, HPL.out, if_pos trivial, if_pos trivial, if_neg (fun h => h.1 rfl)]
                exact HPJi.out
              case measure => simp [intOf]; omega
            · have gE : lb.isEmpty = false := by
                cases lb with
                | nil => exact absurd rfl hlb
                | cons _ _ => rfl
              go_wp2_with (at_builtin; refine Hld.out ?_)
              constructor
              refine wpList_push2 rfl _ _ 27 rfl w.heap.size 9 1 16 slstrs encS encS_ok u11 S.anc rfl (HPJg.out.alloc _).an lb w9.heap.size rfl (fun j u hj => ((Bk.new w9 #[.string ⟨lb.toArray⟩] 9).cell j).trans hj) (by have := HSLg.out.1; omega) (by have := HSLg.out.1; unfold maxLen; omega) (HPJg.out.alloc _).sz ?_
              intro v11 wb hob hgb2 _
              have HPJi := Lib.hid ((HPJg.out.alloc _).pushAn hgb2 hob)
              have HBJi : Hid (Below w.heap.size w wb) := (HBJg.out.alloc HBJg.out.size _).grown hgb2 (HPJg.out.alloc _).sz (fun k hk => (HPJg.out.an.block k hk).1)
              have HXi := Lib.hid ((HXg.out.alloc _).grownBy hgb2 (HPJg.out.an.ne_bk HXg.out (by decide)))
              clear hgb2 hob HPJg HBJg HXg m0 m1 m2 m3 m4 m5 m6 m7 m8 mn
              have p3 := HXi.out.cell 3
              change wb.cell? ⟨gb, 3, none⟩ = some (.string ⟨lb.toArray⟩) at p3
              have p7 := HXi.out.cell 7
              change wb.cell? ⟨gb, 7, none⟩ = some (.string ⟨fi.toArray⟩) at p7
              have p8 := HXi.out.cell 8
              change wb.cell? ⟨gb, 8, none⟩ = some (.int .i64 ln) at p8
              obtain ⟨mA, hmA, hlA⟩ := HPJi.out.mp
              have HMA := Lib.hid hmA
              obtain ⟨nA, hnA1, hnA2, hnA3⟩ := hlA.val lb
              have HNA1 := Lib.hid hnA1
              have HIN := Lib.hid hnA3
              clear hmA hlA hnA1 hnA3
              go_wp2_with (refine hold_at 79 rfl ?_)
              constructor
              refine wpList_smap_lookup rfl _ _ 91 9 3 false rfl Tryz.underlying91 Tryz.underlying9 (.int .i64 0) (zeroI _) w.heap.size mA HMA.out lb rfl rfl ?_
              rw [if_neg (by decide), HNA1.out]
              by_cases hin : lb ∈ S.labs
              · have gA : 0 < nA := HIN.out.2 hin
                clear HMA HNA1
                go_wp2_with (at_builtin; refine Hld.out ?_)
                constructor
                refine wpList_push2 rfl _ _ 59 rfl w.heap.size 103 4 48 sldg encDg encDg_ok u5 S.dgs rfl (HPJi.out.alloc _).dg ⟨fi, ln, 11, lb⟩ wb.heap.size rfl (fun j u hj => ((Bk.new wb #[.string ⟨fi.toArray⟩, .int .i64 ln, .int .i64 11, .string ⟨lb.toArray⟩] 103).cell j).trans hj) (by have := HSLg.out.2.2; omega) (by have := HSLg.out.2.2; unfold maxLen; omega) (HPJi.out.alloc _).sz ?_
                intro v5 wd hod hgd _
                have HPJj := Lib.hid ((HPJi.out.alloc _).pushDg hgd hod)
                have HBJj : Hid (Below w.heap.size w wd) := (HBJi.out.alloc HBJi.out.size _).grown hgd (HPJi.out.alloc _).sz (fun k hk => (HPJi.out.dg.block k hk).1)
                have HXj := Lib.hid ((HXi.out.alloc _).grownBy hgd (HPJi.out.dg.ne_bk HXi.out (by decide)))
                clear hgd hod HPJi HBJi HXi p3 p7 p8
                have q3 := HXj.out.cell 3
                change wd.cell? ⟨gb, 3, none⟩ = some (.string ⟨lb.toArray⟩) at q3
                have q7 := HXj.out.cell 7
                change wd.cell? ⟨gb, 7, none⟩ = some (.string ⟨fi.toArray⟩) at q7
                have q8 := HXj.out.cell 8
                change wd.cell? ⟨gb, 8, none⟩ = some (.int .i64 ln) at q8
                clear q7 q8
                obtain ⟨mB, hmB, hlB⟩ := HPJj.out.mp
                have HMB := Lib.hid hmB
                have HLB := Lib.hid hlB
                obtain ⟨nB, hnB1, hnB2, hnB3⟩ := hlB.val lb
                have HNB1 := Lib.hid hnB1
                have hnB4 : nB ≤ 20000 := by have := HSLg.out.2.1; omega
                clear hmB hlB hnB1 hnB3
                go_wp2_with (first | (refine hold_at 94 rfl ?_) | (refine hold_op (.mapUpdate 91 (.tmp 91) (.tmp 93) (.tmp 95)) rfl ?_))
                constructor
                refine wpList_smap_lookup rfl _ _ 91 9 3 false rfl Tryz.underlying91 Tryz.underlying9 (.int .i64 0) (zeroI _) w.heap.size mB HMB.out lb rfl rfl ?_
                rw [if_neg (by decide), HNB1.out]
                go_wp2_with (first | (refine hold_op (.mapUpdate 91 (.tmp 91) (.tmp 93) (.tmp 95)) rfl ?_))
                constructor
                refine wpList_smap_put rfl _ _ _ 91 9 3 (.inl rfl) Tryz.underlying91 Tryz.underlying9 w.heap.size mB HMB.out lb (.int .i64 ((nB : Int) + 1)) rfl rfl (by first | rfl | (show Value.int .i64 _ = _; congr 1; omega)) ?_
                intro wz hmz hgz hsz2
                have HPJz := Lib.hid (HPJj.out.put HMB.out hmz (HLB.out.put lb (n := nB) (by omega)) hgz)
                have HBJz : Hid (Below w.heap.size w wz) := HBJj.out.grown hgz HPJj.out.sz (fun k hk => by injection hk with hk; omega)
                clear hgz hmz hsz2
                go_wp2_with fail
                go_roundw
                case rel =>
                  refine ⟨j + 1, by omega, by go_num, ?_, HBJz⟩
                  rw [HSN.out]
                  dsimp only
                  rw [← List.append_assoc, HPL.out, if_neg hlb, if_neg hlb, if_pos ⟨hlb, hin⟩]
                  exact HPJz.out
                case measure => simp [intOf]; omega
              · obtain rfl : nA = 0 := Nat.eq_zero_of_not_pos fun h => hin (HIN.out.1 h)
                clear HMA HNA1 p7 p8
                obtain ⟨mB, hmB, hlB⟩ := HPJi.out.mp
                have HMB := Lib.hid hmB
                have HLB := Lib.hid hlB
                obtain ⟨nB, hnB1, hnB2, hnB3⟩ := hlB.val lb
                have HNB1 := Lib.hid hnB1
                have hnB4 : nB ≤ 20000 := by have := HSLg.out.2.1; omega
                clear hmB hlB hnB1 hnB3
                go_wp2_with (first | (refine hold_at 94 rfl ?_) | (refine hold_op (.mapUpdate 91 (.tmp 91) (.tmp 93) (.tmp 95)) rfl ?_))
                constructor
                refine wpList_smap_lookup rfl _ _ 91 9 3 false rfl Tryz.underlying91 Tryz.underlying9 (.int .i64 0) (zeroI _) w.heap.size mB HMB.out lb rfl rfl ?_
                rw [if_neg (by decide), HNB1.out]
                go_wp2_with (first | (refine hold_op (.mapUpdate 91 (.tmp 91) (.tmp 93) (.tmp 95)) rfl ?_))
                constructor
                refine wpList_smap_put rfl _ _ _ 91 9 3 (.inl rfl) Tryz.underlying91 Tryz.underlying9 w.heap.size mB HMB.out lb (.int .i64 ((nB : Int) + 1)) rfl rfl (by first | rfl | (show Value.int .i64 _ = _; congr 1; omega)) ?_
                intro wz hmz hgz hsz2
                have HPJz := Lib.hid (HPJi.out.put HMB.out hmz (HLB.out.put lb (n := nB) (by omega)) hgz)
                have HBJz : Hid (Below w.heap.size w wz) := HBJi.out.grown hgz HPJi.out.sz (fun k hk => by injection hk with hk; omega)
                clear hgz hmz hsz2
                go_wp2_with fail
                go_roundw
                case rel =>
                  refine ⟨j + 1, by omega, by go_num, ?_, HBJz⟩
                  rw [HSN.out]
                  dsimp only
                  rw [← List.append_assoc, HPL.out, if_neg hlb, if_neg hlb, if_neg (fun h => hin h.2)]
                  exact HPJz.out
                case measure => simp [intOf]; omega

          · have HLD : Hid (ledB kd = false) := by show _ = _; simpa using hled
            clear hled
            go_wp2_with (go_at_call 83; refine (led_any kd _).mono ?_; rw [HLD.out]; rintro e w2 ⟨rfl, rfl⟩)
            go_roundw
            case rel =>
              refine ⟨j + 1, by omega, by go_num, ?_, HBJd⟩
              rw [HSTJ.out]
              unfold stepB
              rw [if_neg (by rw [HLD.out]; decide)]
              exact HPJd
            case measure => simp [intOf]; omega
        · obtain rfl : j = bl.length := by omega
          have HFF : Hid (chS (k + 1) nm T0.labs T0.dgs bl bl.length = chapS (k + 1) nm T0.labs T0.dgs bl) := chS_full
          have HLF : Hid (StLe (k + 1) T0.labs T0.dgs bl.length (chS (k + 1) nm T0.labs T0.dgs bl bl.length)) := HLE.out bl.length (Nat.le_refl _)
          have HAL : Hid (∀ x ∈ (chS (k + 1) nm T0.labs T0.dgs bl bl.length).anc, x.length ≤ 140737488351232) := chS_anc_len (by omega) (fun b hb => (HBO.out b hb).label) bl.length (Nat.le_refl _)
          rw [← HFF.out] at HTS2
          clear HFF HST HLE
          generalize chS (k + 1) nm T0.labs T0.dgs bl bl.length = S at *
          obtain ⟨a11, c11, hv11⟩ := HPJ.out.an.shape
          subst hv11
          have HUL : Hid ((unlike S.anc).length = S.pls.length) := by show _ = _; rw [unlike_len, HLF.out.anc]
          have hfr : T0.pls.length + S.pls.length ≤ 20000 := by have := HTN.out.1; have := HLF.out.pls; omega
          go_wp2_with (go_at_call 88; refine (unlike_any a11 c11 S.anc _ (by have := HLF.out.anc; omega) (fun x hx => by have := HAL.out x hx; omega) (HPJ.out.an.addr encS_ok) (HT.out.below HBJ.out)).mono ?_; rintro e wu ⟨⟨r, rfl, hown⟩, hbu⟩; have HR := Lib.hid (hown.mono HPJ.out.sz); have HPU := Lib.hid (HPJ.out.next hbu); have HBU : Hid (Below w.heap.size w wu) := HBJ.out.trans (hbu.mono HPJ.out.sz); clear hown hbu; (obtain ⟨ar, cr, hvr⟩ := HR.out.shape); subst hvr)
          clear HPJ HBJ HAL
          generalize unlike S.anc = U at *
          obtain ⟨a4, c4, hv4⟩ := HPU.out.pl.shape
          subst hv4
          have HMU := Lib.hid HPU.out.mp
          have HDU := Lib.hid HPU.out.dg
          have hul : U.length ≤ 20000 := by have := HUL.out; omega
          go_loopw [100] (fun v100 wx => ∃ i : Nat, i ≤ U.length ∧ v100 = .int .i64 i ∧ Hid (Own wx w.heap.size 81 6 encPl (.slice a4 (T0.pls ++ S.pls).length c4) (T0.pls ++ fixK S.pls U i)) ∧ Hid (Own wx w.heap.size 9 1 encS (.slice ar U.length cr) U) ∧ Hid (Own wx w.heap.size 103 4 encDg u5 S.dgs) ∧ Hid (∃ m, SMap wx w.heap.size m ∧ LInv S.labs m) ∧ Hid (Below w.heap.size w wx)) (fun v100 _ => U.length - (intOf v100).toNat)
          case atStart => exact ⟨0, by omega, rfl, by rw [fixK_zero]; exact HPU.out.pl, HR.out, HDU.out, HMU.out, HBU.out⟩
          case round =>
            obtain ⟨i, hi, rfl, HPX, HRX, HDX, HMX, HBX⟩ := hrel
            by_cases hiu : i < U.length
            · obtain ⟨gr, rfl, hgr1, hgr2, hgr3⟩ := HRX.out.ptr (by omega)
              obtain ⟨gp, rfl, hgp1, hgp2, hgp3⟩ := HPX.out.ptr (by simp; have := HUL.out; omega)
              have r0 := HRX.out.cellAt encS_ok (List.getElem?_eq_getElem hiu) (j := 0) rfl
              rw [Nat.mul_one, Nat.add_zero] at r0
              have hip : i < S.pls.length := by have := HUL.out; omega
              have HG : Hid ((T0.pls ++ fixK S.pls U i)[T0.pls.length + i]? = some S.pls[i]) := by
                show _ = _
                rw [List.getElem?_append_right (by omega), show T0.pls.length + i - T0.pls.length = i by omega]
                exact fixK_get HUL.out hip
              have HFS := Lib.hid (fixK_succ HUL.out hip)
              have z0 := HPX.out.cellAt encPl_ok HG.out (j := 5) rfl
              have z1 := HPX.out.freeAt ((T0.pls.length + i) * 6 + 5)
              generalize U[i] = u at *
              generalize S.pls[i] = q at *
              go_wp2_with fail
              go_roundw
              case rel =>
                refine ⟨i + 1, by omega, by go_num, ?_, HRX.out.set_other (fun e => HRX.out.ne_own HPX.out (by decide) gp e rfl) _ _, HDX.out.set_other (fun e => HPX.out.ne_own HDX.out (by decide) gp rfl e) _ _, ?_, HBX.out.setCell hgp1 _⟩
                · rw [HFS.out]
                  have hs := HPX.out.setAt encPl_ok (k := T0.pls.length + i) (List.getElem?_eq_some_iff.1 HG.out).1 (p := 5) (by decide) (.string ⟨u.toArray⟩) (setA q u) (by rw [(List.getElem?_eq_some_iff.1 HG.out).2]; rfl)
                  rw [List.set_append_right _ _ (by omega), show T0.pls.length + i - T0.pls.length = i by omega] at hs
                  exact hs
                · obtain ⟨m, hm, hl⟩ := HMX.out
                  exact ⟨m, hm.setCell _, hl⟩
              case measure => simp [intOf]; omega
            · obtain rfl : i = U.length := by omega
              have HFK := Lib.hid (fixK_full HUL.out)
              rw [HFK.out] at HPX
              go_wp2_with fail
              go_roundw
              case rel => exact ⟨k + 1, by omega, by go_num, by rw [HTS2.out]; exact HPX.out, by rw [HTS2.out]; exact HDX.out, by rw [HTS2.out]; exact HMX.out, HBX.out⟩
              case measure => simp [intOf]; omega
    · obtain rfl : k = l.length := by omega
      go_wp2_with fail
      refine bodyPost_ret (results_tmp2 rfl _ _ _) rfl ?_
      exact ⟨⟨_, _, rfl, HP.out, HD.out⟩, HB.out⟩
theorem places_any (l : List Ch) (a : Option Addr) (c : Nat) (w : World) (hA : ChsAt w a l) (hsz : szM szCh l ≤ 20000) (htab : HasTab w) :
    Calls Tryz.prog 17 #[.slice a l.length c] w (PlacesGives w l) := places_all l a c w hA (ChsOk.of_size hsz) htab
end Go.Proofs.YtohinfefidahlaaGreatDoor

