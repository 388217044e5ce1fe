/- index.Build: the index of any chapters. -/
import Derived.Test.YtohinfefidahlaaGreatDoorBJ
import Derived.Deep.CutBlock
import Derived.Deep.RegionHeld3
namespace Go.Proofs.YtohinfefidahlaaGreatDoor
open Go.RowKit
set_option linter.unusedVariables false
set_option linter.unusedSimpArgs false

def diagsOf (s : BS) : List Dg := s.ws.filter fun d => (d.text, (none : Option Bytes)) ∉ (ixOf s.tl).ps
structure PlBd (p : Pl) : Prop where
  page : p.page.length ≤ 2000000
  anchor : p.anchor.length ≤ 2000000
  number : p.number.length ≤ 2000000
def BuildG (w : World) (pls : List Pl) (l : List Ch) (e : Ending) (w' : World) : Prop :=
  (∃ a c ul d, e = .returned (.tuple #[.slice a (List.length ul) c, d]) ∧ EnsAt (fun _ => True) w' a ul ∧ EnsOf (ixOf (allBS pls l l.length).tl) ul ∧ Own w' w.heap.size 103 4 encDg d (diagsOf (allBS pls l l.length))) ∧ Below w.heap.size w w'
/-- where the loop over the chapters stands -/
def BT (w wr : World) (pls : List Pl) (l : List Ch) (k : Nat) (v8 : Value) : Prop :=
  ∃ D v ra rc, Ix wr w.heap.size w.heap.size (ixOf (allBS pls l k).tl) D ∧ Bk wr (w.heap.size + 1) [.map (some w.heap.size)] 105 ∧ Bk wr (w.heap.size + 1 + 1) [v] 59 ∧ Own wr w.heap.size 103 4 encDg v (allBS pls l k).ws ∧
    Below w.heap.size w wr ∧ v8 = .slice ra (allBS pls l k).rest.length rc ∧ At w 6 encPl ra (allBS pls l k).rest ∧ (allBS pls l k).rest.length ≤ rc
/-- where the loop over the blocks of a chapter stands -/
def BU (w wr : World) (bh : Nat) (S : BS) (v8 : Value) : Prop :=
  ∃ D v ra rc, BJ wr w.heap.size w.heap.size (w.heap.size + 1) bh (w.heap.size + 1 + 1) S.here S.tl S.ws D v ∧ Below w.heap.size w wr ∧ v8 = .slice ra S.rest.length rc ∧ At w 6 encPl ra S.rest ∧ S.rest.length ≤ rc
set_option maxHeartbeats 32000000 in
set_option maxRecDepth 100000 in
theorem build_all (l : List Ch) (a : Option Addr) (c : Nat) (pls : List Pl) (pa : Option Addr) (pc : Nat) (w : World) (hA : ChsAt w a l) (hsz : szM szCh l ≤ 300000) (hbk : ∀ c ∈ l, ∀ b ∈ c.bl, szBl b ≤ 20000) (hP : At w 6 encPl pa pls) (hpc : pls.length ≤ pc) (hpl : pls.length ≤ 1000000) (hbd : ∀ p ∈ pls, PlBd p) (htab : HasTab w) :
    Calls Tryz.prog 18 #[.slice a l.length c, .slice pa pls.length pc] w (BuildG w pls l) := by
  have HA := Lib.hid hA
  have HSZ := Lib.hid hsz
  have HBK := Lib.hid hbk
  have HP := Lib.hid hP
  have HPC := Lib.hid hpc
  have HPL := Lib.hid hpl
  have HBD := Lib.hid hbd
  have HT := Lib.hid htab
  have hll : l.length ≤ 300000 := by unfold szM at hsz; omega
  have hmm := @run_makeMap Tryz.prog
  clear hA hsz hbk hP hpc hpl hbd htab
  go_enter Tryz.func18, Tryz.ntmps18
  go_wp2_with fail
  clear hmm
  refine wp_gen fun W0 hW0 => ?_
  have hb0 : Below w.heap.size w W0 := by subst hW0; exact (((Below.refl _ _).alloc (Nat.le_refl _) _).alloc (by simp) _).alloc (by simp; omega) _
  have hix : Ix W0 w.heap.size w.heap.size ix0 (fun _ => ⟨0, 0, 0, 0, .slice none 0 0⟩) := by subst hW0; exact ((Ix.new w (Nat.le_refl _) _).next ((Below.refl _ _).alloc (Nat.le_refl _) _)).next ((Below.refl _ _).alloc (Nat.le_refl _) _)
  have ht1 : Bk W0 (w.heap.size + 1) [.map (some w.heap.size)] 105 := by
    subst hW0
    have h := (Bk.new (w.alloc (.map #[] 0)) #[.map (some w.heap.size)] 105).alloc (.cells #[.slice none 0 0] 59)
    rw [World.size_alloc] at h
    exact h
  have hw1 : Bk W0 (w.heap.size + 1 + 1) [.slice none 0 0] 59 := by
    subst hW0
    have h := Bk.new ((w.alloc (.map #[] 0)).alloc (.cells #[.map (some w.heap.size)] 105)) #[.slice none 0 0] 59
    rw [World.size_alloc, World.size_alloc] at h
    exact h
  clear hW0
  have HS0 : Hid (BT w W0 pls l 0 (.slice pa pls.length pc)) := ⟨_, _, pa, pc, hix, ht1, hw1, Own.nil _ _ _ _ _, hb0, rfl, HP.out, HPC.out⟩
  clear hb0 hix ht1 hw1
  go_loopw [8, 22] (fun v8 v22 wr => ∃ k : Nat, k ≤ l.length ∧ v22 = .int .i64 k ∧ Hid (BT w wr pls l k v8)) (fun _ v22 _ => l.length - (intOf v22).toNat)
  case atStart => exact ⟨0, by omega, rfl, HS0.out⟩
  case round =>
    obtain ⟨k, hk, rfl, HS⟩ := hrel
    by_cases hlt : k < l.length
    · obtain ⟨D, v, ra, rc, hix, ht1, hw1, hown, hbel, hv8, hAr, hrc⟩ := HS.out
      subst hv8
      have HX := Lib.hid hix
      have HT1 := Lib.hid ht1
      have HW1 := Lib.hid hw1
      have HOW := Lib.hid hown
      have HBE := Lib.hid hbel
      have HAR := Lib.hid hAr
      have HRC := Lib.hid hrc
      obtain ⟨bb, off, ha, hbl, hc⟩ := (HA.out.keep hbel).1.elem hlt
      subst ha
      have HCI : Hid (ChIn w l[k]) := HA.out.2 _ (List.getElem_mem hlt)
      have HBC : Hid (∀ b ∈ l[k].bl, szBl b ≤ 20000) := HBK.out _ (List.getElem_mem hlt)
      have HSU := Lib.hid (allBS_succ (pls := pls) hlt)
      have HLE := Lib.hid (allBS_len pls l k (by omega))
      have HRS := Lib.hid (allBS_rest pls l k (by omega))
      have HZC : Hid (szCh l[k] + sumM szCh (l.take k) ≤ 300000) := by
        have h1 := sumM_take_succ szCh hlt
        have h2 := sumM_take_le szCh l (k + 1)
        have h3 := HSZ.out
        unfold szM at h3
        show _ ≤ _
        omega
      have htl := HT.out
      clear HS hix ht1 hw1 hown hbel hAr hrc
      generalize l[k] = x at *
      generalize hS : allBS pls l k = S at *
      have HSK := Lib.hid hS
      clear hS
      obtain ⟨nm, ba, bc, bl, da, dc, dl, fa, fc, fl, aa, ac, al, ua, uc, ul⟩ := x
      have c0 := hc 0 (.string ⟨nm.toArray⟩) rfl
      have c1 := hc 1 (.slice ba bl.length bc) rfl
      have c2 := hc 2 (.slice da dl.length dc) rfl
      have c3 := hc 3 (.slice fa fl.length fc) rfl
      have c4 := hc 4 (.slice aa al.length ac) rfl
      have c5 := hc 5 (.slice ua ul.length uc) rfl
      rw [Nat.add_zero] at c0
      have hnm : nm.length ≤ 300000 := by
        have h1 := HZC.out
        unfold szCh at h1
        simp only at h1
        omega
      clear hc htl
      go_wp2_with (go_at_call 86; refine (page_any nm _ (by omega)).mono ?_; rintro e w2 ⟨rfl, rfl⟩)
      refine calls_gen fun W1 hW1 => ?_
      have hb1 : Below wr.heap.size wr W1 := by subst hW1; exact ((Below.refl _ _).alloc (Nat.le_refl _) _).alloc (by simp) _
      have HC10 : Hid (Bk W1 wr.heap.size [.string ⟨nm.toArray⟩, .slice ba bl.length bc, .slice da dl.length dc, .slice fa fl.length fc, .slice aa al.length ac, .slice ua ul.length uc] 77) := by
        subst hW1
        exact (Bk.new wr #[.string ⟨nm.toArray⟩, .slice ba bl.length bc, .slice da dl.length dc, .slice fa fl.length fc, .slice aa al.length ac, .slice ua ul.length uc] 77).alloc _
      have hn1 : Bk W1 (wr.heap.size + 1) [.int .i64 ((k : Int) + 1)] 3 := by
        subst hW1
        have h := Bk.new (wr.alloc (.cells #[.string ⟨nm.toArray⟩, .slice ba bl.length bc, .slice da dl.length dc, .slice fa fl.length fc, .slice aa al.length ac, .slice ua ul.length uc] 77)) #[.int .i64 ((k : Int) + 1)] 3
        rw [World.size_alloc] at h
        exact h
      have hn2 : Bk W1 (wr.heap.size + 1) (List.flatMap encI [k + 1]) 3 := hn1
      have HT1' : Hid (HasTab W1) := HT.out.below (HBE.out.trans (hb1.mono HBE.out.size))
      clear hW1
      refine (dotted_any [k + 1] _ 1 _ (At.of_bk encI_ok hn2) (by simp) (by intro x hx; simp at hx; subst hx; exact ⟨by omega, dec_100 (by omega)⟩) HT1'.out).mono ?_
      rintro e w4 ⟨rfl, hb4⟩
      have hb14 : Below wr.heap.size wr w4 := hb1.trans (hb4.mono hb1.size)
      have HB14 := Lib.hid hb14
      have HC14 := Lib.hid (HC10.out.next hb4)
      have d1 := HC14.out.cell 1
      change w4.cell? ⟨wr.heap.size, 1, none⟩ = some (.slice ba bl.length bc) at d1
      have hwr4 : wr.heap.size < w4.heap.size := HC14.out.lt
      clear hb1 hb4 hb14 hn1 hn2 HC10 HT1' c0 c1 c2 c3 c4 c5
      go_wp2_with fail
      refine wp_gen fun W5 hW5 => ?_
      have hb5 : Below w4.heap.size w4 W5 := by subst hW5; exact (Below.refl _ _).alloc (Nat.le_refl _) _
      have hdl : (dotP [k + 1]).length ≤ 100 := by
        have : dotP [k + 1] = Lib.decDigits (k + 1) := rfl
        rw [this]; exact dec_100 (by omega)
      have hlo : (loOf (nm ++ htmlB) [] (dotP [k + 1])).1 = (nm ++ htmlB, [], dotP [k + 1]) := loOf_val (by rw [List.length_append]; have : htmlB.length = 5 := rfl; omega) (by simp) (by omega)
      have hh1 : Bk W5 w4.heap.size (encLo (loOf (nm ++ htmlB) [] (dotP [k + 1]))) 79 := by
        subst hW5
        unfold encLo
        rw [hlo]
        exact Bk.new w4 #[.string ⟨(nm ++ htmlB).toArray⟩, .string ⟨#[]⟩, .string ⟨(dotP [k + 1]).toArray⟩] 79
      have hb45 := HB14.out.trans (hb5.mono HB14.out.size)
      have HU : Hid (BU w W5 w4.heap.size (chBS0 S (k + 1) ⟨nm, ba, bc, bl, da, dc, dl, fa, fc, fl, aa, ac, al, ua, uc, ul⟩) (.slice ra S.rest.length rc)) :=
        ⟨D, v, ra, rc, ⟨HX.out.next hb45, HT1.out.next hb45, hh1, HW1.out.next hb45, HOW.out.below hb45 (Nat.le_refl _), fun hg => by have := (HX.out.ft_lt hg).2; have := HB14.out.size; omega, by omega, by have := HBE.out.size; omega⟩, HBE.out.trans (hb45.mono HBE.out.size), rfl, HAR.out, HRC.out⟩
      have HBL : Hid (BlsAt w ba bl) := HCI.out.bls
      clear hW5 hb5 hdl hlo hh1 hb45 HX HT1 HW1 HOW HBE HAR HRC HB14 HC14 d1 HCI
      have hbll : bl.length ≤ 300000 := by
        have h1 := HZC.out
        unfold szCh szM at h1
        simp only at h1
        omega
      have hbw4 : w.heap.size ≤ w4.heap.size := by
        obtain ⟨D, v, ra, rc, h1, _⟩ := HU.out
        exact h1.Bh
      generalize w4.heap.size = bh at *
      generalize hX : (⟨nm, ba, bc, bl, da, dc, dl, fa, fc, fl, aa, ac, al, ua, uc, ul⟩ : Ch) = X at *
      have HBX : Hid (X.bl = bl) := by subst hX; rfl
      clear hX
      obtain ⟨wo, hwo⟩ : ∃ wo : World, wo = wr := ⟨_, rfl⟩
      subst hwo
      go_loopw [8, 38] (fun v8 v38 wr => ∃ i : Nat, i ≤ bl.length ∧ v38 = .int .i64 i ∧ Hid (BU w wr bh (chBS S (k + 1) X i) v8)) (fun _ v38 _ => bl.length - (intOf v38).toNat)
      case atStart => exact ⟨0, by omega, rfl, by rw [chBS_zero]; exact HU.out⟩
      case round =>
        obtain ⟨i, hi, rfl, HV⟩ := hrel
        by_cases hli : i < bl.length
        · have HBr : Hid (Below w.heap.size w wr) := by
            obtain ⟨D, v, ra, rc, _, h, _⟩ := HV.out
            exact h
          obtain ⟨gb, goff, hga, hgl, hgc⟩ := (HBL.out.1.below HBr.out).elem hli
          subst hga
          have HBI : Hid (BlIn w bl[i]) := HBL.out.2 _ (List.getElem_mem hli)
          have HBS : Hid (chBS S (k + 1) X (i + 1) = stepBS (chBS S (k + 1) X i) bl[i]) := by
            show _ = _
            have h := chBS_succ (s := S) (p := k + 1) (c := X) (k := i) (by rw [HBX.out]; exact hli)
            rw [h]
            congr 1
            simp only [HBX.out]
          have HZB : Hid (szBl bl[i] ≤ 20000) := HBC.out _ (List.getElem_mem hli)
          have HLI : Hid ((chBS S (k + 1) X i).tl.length ≤ 400000 ∧ (chBS S (k + 1) X i).ws.length ≤ 400000) := by
            have h1 := chBS_len S (k + 1) X i (by rw [HBX.out]; omega)
            have h2 := sumM_take_le szBl X.bl i
            rw [HBX.out] at h1 h2
            have h3 := HLE.out
            have h4 := HZC.out
            have h5 : szM szBl X.bl ≤ szCh X := by unfold szCh; omega
            rw [HBX.out] at h5
            unfold szM at h5
            show _ ∧ _
            omega
          have HRI : Hid (∀ q ∈ (chBS S (k + 1) X i).rest, PlBd q) := fun q hq => HBD.out q (HRS.out q (chBS_rest S (k + 1) X i (by rw [HBX.out]; omega) q hq))
          generalize bl[i] = y at *
          generalize chBS S (k + 1) X i = T at *
          obtain ⟨D2, v2, ra2, rc2, hBJ, _, hv8, hAr2, hrc2⟩ := HV.out
          subst hv8
          have HBJ := Lib.hid hBJ
          have HAR2 := Lib.hid hAr2
          clear HV hBJ hAr2
          obtain ⟨kd, lv, od, lb, tx, sa, sc, sl, ya, yc, yl, fi, ln⟩ := y
          have e0 := hgc 0 (.int .u8 kd) rfl
          have e1 := hgc 1 (.int .i64 lv) rfl
          have e2 := hgc 2 (.bool od) rfl
          have e3 := hgc 3 (.string ⟨lb.toArray⟩) rfl
          have e4 := hgc 4 (.string ⟨tx.toArray⟩) rfl
          have e5 := hgc 5 (.slice sa sl.length sc) rfl
          have e6 := hgc 6 (.slice ya yl.length yc) rfl
          have e7 := hgc 7 (.string ⟨fi.toArray⟩) rfl
          have e8 := hgc 8 (.int .i64 ln) rfl
          rw [Nat.add_zero] at e0
          clear hgc
          go_upto_block 4 with fail
          refine wp_gen fun W6 hW6 => ?_
          have hb6 : Below wr.heap.size wr W6 := by subst hW6; exact (Below.refl _ _).alloc (Nat.le_refl _) _
          have HKB : Hid (Bk W6 wr.heap.size (encBl ⟨kd, lv, od, lb, tx, sa, sc, sl, ya, yc, yl, fi, ln⟩) 74) := by subst hW6; exact Bk.new wr #[.int .u8 kd, .int .i64 lv, .bool od, .string ⟨lb.toArray⟩, .string ⟨tx.toArray⟩, .slice sa sl.length sc, .slice ya yl.length yc, .string ⟨fi.toArray⟩, .int .i64 ln] 74
          have HJ6 := Lib.hid (HBJ.out.next hb6)
          have HB6 : Hid (Below w.heap.size w W6) := HBr.out.trans (hb6.mono HBr.out.size)
          have HA6 := Lib.hid HAR2.out
          clear hW6 hb6 HBJ HAR2 HBr e0 e1 e2 e3 e4 e5 e6 e7 e8
          obtain ⟨rs, hr, tl, ws⟩ := T
          have k0 := HKB.out.cell 0
          change W6.cell? ⟨wr.heap.size, 0, none⟩ = some (.int .u8 kd) at k0
          have hwl6 : wr.heap.size < W6.heap.size := HKB.out.lt
          have hbl6 : bh < W6.heap.size := HJ6.out.h1.lt
          go_cut [8] from 44 to 65 (fun v8 wx => Hid (BU w wx bh ⟨restB ⟨rs, hr, tl, ws⟩ ⟨kd, lv, od, lb, tx, sa, sc, sl, ya, yc, yl, fi, ln⟩, hereB ⟨rs, hr, tl, ws⟩ ⟨kd, lv, od, lb, tx, sa, sc, sl, ya, yc, yl, fi, ln⟩, tl, ws⟩ v8) ∧ Hid (Bk wx wr.heap.size (encBl ⟨kd, lv, od, lb, tx, sa, sc, sl, ya, yc, yl, fi, ln⟩) 74))
          case first =>
            by_cases hk1 : kd = 1
            · subst hk1
              cases rs with
              | nil =>
                have HZ7 := Lib.hid (Bk.new W6 #[.string ⟨#[]⟩, .int .u8 0, .string ⟨#[]⟩, .string ⟨#[]⟩, .string ⟨#[]⟩, .string ⟨#[]⟩] 81)
                have HH7 := Lib.hid (HJ6.out.next ((Below.refl _ _).alloc (Nat.le_refl _) (.cells #[.string ⟨#[]⟩, .int .u8 0, .string ⟨#[]⟩, .string ⟨#[]⟩, .string ⟨#[]⟩, .string ⟨#[]⟩] 81)))
                go_wp2_with (refine hold_op (.store 79 (.tmp 11) (.tmp 65)) rfl ?_)
                constructor
                have hfit : 0 + 3 ≤ (encLo hr).length := Nat.le_refl _
                refine wpList_store_bk rfl _ _ rfl rfl rfl (off := 0) (C' := [.string ⟨#[]⟩, .string ⟨#[]⟩, .string ⟨#[]⟩]) rfl HH7.out.h1 hfit (by kernel_rfl) (by simp [Value.oneCell']) ?_
                intro wf hbf hkf hzf
                have hTU := HH7.out.turn (here' := hereB ⟨[], hr, tl, ws⟩ ⟨1, lv, od, lb, tx, sa, sc, sl, ya, yc, yl, fi, ln⟩) hkf (by
                  rw [putCells_all (C := encLo hr) (C' := [.string ⟨#[]⟩, .string ⟨#[]⟩, .string ⟨#[]⟩]) rfl] at hbf
                  have e1 : encLo (hereB ⟨[], hr, tl, ws⟩ ⟨1, lv, od, lb, tx, sa, sc, sl, ya, yc, yl, fi, ln⟩) = [.string ⟨#[]⟩, .string ⟨#[]⟩, .string ⟨#[]⟩] := by
                    unfold encLo hereB
                    rw [if_pos rfl, loOf_val (Nat.zero_le _) (Nat.zero_le _) (Nat.zero_le _)]
                    rfl
                  rw [e1]; exact hbf)
                have HTU := Lib.hid hTU
                have HBf : Hid (Below w.heap.size w wf) := (HB6.out.alloc HB6.out.size _).trans (hkf.below (fun g e => by omega) (by have := HB6.out.size; simp; omega))
                have HKf : Hid (Bk wf wr.heap.size (encBl ⟨1, lv, od, lb, tx, sa, sc, sl, ya, yc, yl, fi, ln⟩) 74) := hkf.bk (HKB.out.alloc _) (fun e => by
                  have h1 := HKB.out.alloc (.cells #[.string ⟨#[]⟩, .int .u8 0, .string ⟨#[]⟩, .string ⟨#[]⟩, .string ⟨#[]⟩, .string ⟨#[]⟩] 81)
                  have h2 := HH7.out.h1
                  unfold Bk at h1 h2
                  have e' : wr.heap.size = bh := e
                  rw [e'] at h1
                  rw [h1] at h2
                  injection h2 with h2
                  injection h2 with _ h2 _
                  exact absurd h2 (by decide))
                clear hbf hkf hzf hTU
                go_wp2_with fail
                go_meet
                case rel => exact ⟨⟨D2, v2, ra2, rc2, HTU.out, HBf.out, rfl, HA6.out, hrc2⟩, HKf.out⟩
              | cons p r =>
                have HPB : Hid (PlBd p) := HRI.out p List.mem_cons_self
                obtain ⟨pb, poff, hpa, hpl6, hcp⟩ := (HA6.out.below HB6.out).elem (i := 0) (Nat.succ_pos _)
                subst hpa
                obtain ⟨plb, pk, pn, pt, pp, pan⟩ := p
                have f0 : W6.cell? ⟨pb, poff, none⟩ = some (.string ⟨plb.toArray⟩) := by have := hcp 0 _ rfl; simpa using this
                have f1 : W6.cell? ⟨pb, poff + 1, none⟩ = some (.int .u8 pk) := by have := hcp 1 _ rfl; simpa using this
                have f2 : W6.cell? ⟨pb, poff + 2, none⟩ = some (.string ⟨pn.toArray⟩) := by have := hcp 2 _ rfl; simpa using this
                have f3 : W6.cell? ⟨pb, poff + 3, none⟩ = some (.string ⟨pt.toArray⟩) := by have := hcp 3 _ rfl; simpa using this
                have f4 : W6.cell? ⟨pb, poff + 4, none⟩ = some (.string ⟨pp.toArray⟩) := by have := hcp 4 _ rfl; simpa using this
                have f5 : W6.cell? ⟨pb, poff + 5, none⟩ = some (.string ⟨pan.toArray⟩) := by have := hcp 5 _ rfl; simpa using this
                clear hcp
                have npb : pb ≠ W6.heap.size := by omega
                have npb2 : W6.heap.size ≠ pb := by omega
                have hrc3 : r.length + 1 ≤ rc2 := hrc2
                have HRC3 := Lib.hid hrc3
                have HTL := Lib.hid (at_tail (w := w) HA6.out hrc3)
                have htail := fun W => run_tail1 (some ⟨pb, poff, none⟩) (r.length + 1) rc2 (by omega) W
                rw [show r.length + 1 - 1 = r.length from rfl] at htail
                generalize (if rc2 = 1 then (some ⟨pb, poff, none⟩ : Option Addr) else (some ⟨pb, poff, none⟩ : Option Addr).map (·.add 6)) = ra4 at *
                go_wp2_with fail
                go_region_held3 (fun w' => w'.cell? ⟨pb, poff, none⟩ = some (.string ⟨plb.toArray⟩) ∧ w'.cell? ⟨pb, poff + 1, none⟩ = some (.int .u8 pk) ∧ w'.cell? ⟨pb, poff + 2, none⟩ = some (.string ⟨pn.toArray⟩) ∧ w'.cell? ⟨pb, poff + 3, none⟩ = some (.string ⟨pt.toArray⟩) ∧ w'.cell? ⟨pb, poff + 4, none⟩ = some (.string ⟨pp.toArray⟩) ∧ w'.cell? ⟨pb, poff + 5, none⟩ = some (.string ⟨pan.toArray⟩)) (first | exact ⟨f0, f1, f2, f3, f4, f5⟩ | go_keep) (fail)
                all_goals
                  have HH7 := Lib.hid (HJ6.out.next (below_drewN ((Below.refl _ _).alloc (Nat.le_refl _) (.cells #[.string ⟨plb.toArray⟩, .int .u8 pk, .string ⟨pn.toArray⟩, .string ⟨pt.toArray⟩, .string ⟨pp.toArray⟩, .string ⟨pan.toArray⟩] 81)) 1))
                  have HK7 := Lib.hid ((HKB.out.alloc (.cells #[.string ⟨plb.toArray⟩, .int .u8 pk, .string ⟨pn.toArray⟩, .string ⟨pt.toArray⟩, .string ⟨pp.toArray⟩, .string ⟨pan.toArray⟩] 81)).drewN 1)
                  have HB7 : Hid (Below w.heap.size w (W6.alloc (.cells #[.string ⟨plb.toArray⟩, .int .u8 pk, .string ⟨pn.toArray⟩, .string ⟨pt.toArray⟩, .string ⟨pp.toArray⟩, .string ⟨pan.toArray⟩] 81)).drew) := below_drewN (HB6.out.alloc HB6.out.size _) 1
                  go_wp2_with (refine hold_op (.store 79 (.tmp 11) (.tmp 65)) rfl ?_)
                  constructor
                  have hfit : 0 + 3 ≤ (encLo hr).length := Nat.le_refl _
                  refine wpList_store_bk rfl _ _ rfl rfl rfl (off := 0) (C' := [.string ⟨pp.toArray⟩, .string ⟨pan.toArray⟩, .string ⟨pn.toArray⟩]) rfl HH7.out.h1 hfit (by kernel_rfl) (by simp [Value.oneCell']) ?_
                  intro wf hbf hkf hzf
                  have hTU := HH7.out.turn (here' := hereB ⟨⟨plb, pk, pn, pt, pp, pan⟩ :: r, hr, tl, ws⟩ ⟨1, lv, od, lb, tx, sa, sc, sl, ya, yc, yl, fi, ln⟩) hkf (by
                    rw [putCells_all (C := encLo hr) (C' := [.string ⟨pp.toArray⟩, .string ⟨pan.toArray⟩, .string ⟨pn.toArray⟩]) rfl] at hbf
                    have e1 : encLo (hereB ⟨⟨plb, pk, pn, pt, pp, pan⟩ :: r, hr, tl, ws⟩ ⟨1, lv, od, lb, tx, sa, sc, sl, ya, yc, yl, fi, ln⟩) = [.string ⟨pp.toArray⟩, .string ⟨pan.toArray⟩, .string ⟨pn.toArray⟩] := by
                      have h1 : pp.length ≤ 2000000 := HPB.out.page
                      have h2 : pan.length ≤ 2000000 := HPB.out.anchor
                      have h3 : pn.length ≤ 2000000 := HPB.out.number
                      unfold encLo hereB
                      rw [if_pos rfl]
                      show [Value.string ⟨(loOf pp pan pn).1.1.toArray⟩, .string ⟨(loOf pp pan pn).1.2.1.toArray⟩, .string ⟨(loOf pp pan pn).1.2.2.toArray⟩] = _
                      rw [loOf_val h1 h2 h3]
                    rw [e1]; exact hbf)
                  have HTU := Lib.hid hTU
                  have HBf : Hid (Below w.heap.size w wf) := HB7.out.trans (hkf.below (fun g e => by omega) HB7.out.size)
                  have HKf : Hid (Bk wf wr.heap.size (encBl ⟨1, lv, od, lb, tx, sa, sc, sl, ya, yc, yl, fi, ln⟩) 74) := hkf.bk HK7.out (fun e => by
                    have h1 := HK7.out
                    have h2 := HH7.out.h1
                    unfold Bk at h1 h2
                    have e' : wr.heap.size = bh := e
                    rw [e'] at h1
                    rw [h1] at h2
                    injection h2 with h2
                    injection h2 with _ h2 _
                    exact absurd h2 (by decide))
                  clear hbf hkf hzf hTU
                  go_wp2_with fail
                  go_meet
                  case rel => exact ⟨⟨D2, v2, ra4, rc2 - 1, HTU.out, HBf.out, rfl, HTL.out, by have h : List.length r + 1 ≤ rc2 := HRC3.out; show List.length r ≤ rc2 - 1; omega⟩, HKf.out⟩
            · by_cases hk6 : kd = 6
              · subst hk6
                cases rs with
                | nil =>
                  go_wp2_with fail
                  go_meet
                  case rel => exact ⟨⟨D2, v2, ra2, rc2, HJ6.out.next ((Below.refl _ _).alloc (Nat.le_refl _) _), HB6.out.alloc HB6.out.size _, rfl, HA6.out, hrc2⟩, HKB.out.alloc _⟩
                | cons p r =>
                  have HPB : Hid (PlBd p) := HRI.out p List.mem_cons_self
                  obtain ⟨pb, poff, hpa, hpl6, hcp⟩ := (HA6.out.below HB6.out).elem (i := 0) (Nat.succ_pos _)
                  subst hpa
                  obtain ⟨plb, pk, pn, pt, pp, pan⟩ := p
                  have f0 : W6.cell? ⟨pb, poff, none⟩ = some (.string ⟨plb.toArray⟩) := by have := hcp 0 _ rfl; simpa using this
                  have f1 : W6.cell? ⟨pb, poff + 1, none⟩ = some (.int .u8 pk) := by have := hcp 1 _ rfl; simpa using this
                  have f2 : W6.cell? ⟨pb, poff + 2, none⟩ = some (.string ⟨pn.toArray⟩) := by have := hcp 2 _ rfl; simpa using this
                  have f3 : W6.cell? ⟨pb, poff + 3, none⟩ = some (.string ⟨pt.toArray⟩) := by have := hcp 3 _ rfl; simpa using this
                  have f4 : W6.cell? ⟨pb, poff + 4, none⟩ = some (.string ⟨pp.toArray⟩) := by have := hcp 4 _ rfl; simpa using this
                  have f5 : W6.cell? ⟨pb, poff + 5, none⟩ = some (.string ⟨pan.toArray⟩) := by have := hcp 5 _ rfl; simpa using this
                  clear hcp
                  have npb : pb ≠ W6.heap.size := by omega
                  have npb2 : W6.heap.size ≠ pb := by omega
                  have hrc3 : r.length + 1 ≤ rc2 := hrc2
                  have HRC3 := Lib.hid hrc3
                  have HTL := Lib.hid (at_tail (w := w) HA6.out hrc3)
                  have htail := fun W => run_tail1 (some ⟨pb, poff, none⟩) (r.length + 1) rc2 (by omega) W
                  rw [show r.length + 1 - 1 = r.length from rfl] at htail
                  generalize (if rc2 = 1 then (some ⟨pb, poff, none⟩ : Option Addr) else (some ⟨pb, poff, none⟩ : Option Addr).map (·.add 6)) = ra4 at *
                  go_wp2_with fail
                  go_region_held3 (fun w' => w'.cell? ⟨pb, poff, none⟩ = some (.string ⟨plb.toArray⟩) ∧ w'.cell? ⟨pb, poff + 1, none⟩ = some (.int .u8 pk) ∧ w'.cell? ⟨pb, poff + 2, none⟩ = some (.string ⟨pn.toArray⟩) ∧ w'.cell? ⟨pb, poff + 3, none⟩ = some (.string ⟨pt.toArray⟩) ∧ w'.cell? ⟨pb, poff + 4, none⟩ = some (.string ⟨pp.toArray⟩) ∧ w'.cell? ⟨pb, poff + 5, none⟩ = some (.string ⟨pan.toArray⟩)) (first | exact ⟨f0, f1, f2, f3, f4, f5⟩ | go_keep) (fail)
                  all_goals
                    go_wp2_with fail
                    go_meet
                    case rel => exact ⟨⟨D2, v2, ra4, rc2 - 1, HJ6.out.next (below_drewN ((Below.refl _ _).alloc (Nat.le_refl _) _) 1), below_drewN (HB6.out.alloc HB6.out.size _) 1, rfl, HTL.out, by have h : List.length r + 1 ≤ rc2 := HRC3.out; show List.length r ≤ rc2 - 1; omega⟩, (HKB.out.alloc _).drew⟩
              · by_cases hk7 : kd = 7
                · subst hk7
                  cases rs with
                  | nil =>
                    go_wp2_with fail
                    go_meet
                    case rel => exact ⟨⟨D2, v2, ra2, rc2, HJ6.out.next ((Below.refl _ _).alloc (Nat.le_refl _) _), HB6.out.alloc HB6.out.size _, rfl, HA6.out, hrc2⟩, HKB.out.alloc _⟩
                  | cons p r =>
                    have HPB : Hid (PlBd p) := HRI.out p List.mem_cons_self
                    obtain ⟨pb, poff, hpa, hpl6, hcp⟩ := (HA6.out.below HB6.out).elem (i := 0) (Nat.succ_pos _)
                    subst hpa
                    obtain ⟨plb, pk, pn, pt, pp, pan⟩ := p
                    have f0 : W6.cell? ⟨pb, poff, none⟩ = some (.string ⟨plb.toArray⟩) := by have := hcp 0 _ rfl; simpa using this
                    have f1 : W6.cell? ⟨pb, poff + 1, none⟩ = some (.int .u8 pk) := by have := hcp 1 _ rfl; simpa using this
                    have f2 : W6.cell? ⟨pb, poff + 2, none⟩ = some (.string ⟨pn.toArray⟩) := by have := hcp 2 _ rfl; simpa using this
                    have f3 : W6.cell? ⟨pb, poff + 3, none⟩ = some (.string ⟨pt.toArray⟩) := by have := hcp 3 _ rfl; simpa using this
                    have f4 : W6.cell? ⟨pb, poff + 4, none⟩ = some (.string ⟨pp.toArray⟩) := by have := hcp 4 _ rfl; simpa using this
                    have f5 : W6.cell? ⟨pb, poff + 5, none⟩ = some (.string ⟨pan.toArray⟩) := by have := hcp 5 _ rfl; simpa using this
                    clear hcp
                    have npb : pb ≠ W6.heap.size := by omega
                    have npb2 : W6.heap.size ≠ pb := by omega
                    have hrc3 : r.length + 1 ≤ rc2 := hrc2
                    have HRC3 := Lib.hid hrc3
                    have HTL := Lib.hid (at_tail (w := w) HA6.out hrc3)
                    have htail := fun W => run_tail1 (some ⟨pb, poff, none⟩) (r.length + 1) rc2 (by omega) W
                    rw [show r.length + 1 - 1 = r.length from rfl] at htail
                    generalize (if rc2 = 1 then (some ⟨pb, poff, none⟩ : Option Addr) else (some ⟨pb, poff, none⟩ : Option Addr).map (·.add 6)) = ra4 at *
                    go_wp2_with fail
                    go_region_held3 (fun w' => w'.cell? ⟨pb, poff, none⟩ = some (.string ⟨plb.toArray⟩) ∧ w'.cell? ⟨pb, poff + 1, none⟩ = some (.int .u8 pk) ∧ w'.cell? ⟨pb, poff + 2, none⟩ = some (.string ⟨pn.toArray⟩) ∧ w'.cell? ⟨pb, poff + 3, none⟩ = some (.string ⟨pt.toArray⟩) ∧ w'.cell? ⟨pb, poff + 4, none⟩ = some (.string ⟨pp.toArray⟩) ∧ w'.cell? ⟨pb, poff + 5, none⟩ = some (.string ⟨pan.toArray⟩)) (first | exact ⟨f0, f1, f2, f3, f4, f5⟩ | go_keep) (fail)
                    all_goals
                      go_wp2_with fail
                      go_meet
                      case rel => exact ⟨⟨D2, v2, ra4, rc2 - 1, HJ6.out.next (below_drewN ((Below.refl _ _).alloc (Nat.le_refl _) _) 1), below_drewN (HB6.out.alloc HB6.out.size _) 1, rfl, HTL.out, by have h : List.length r + 1 ≤ rc2 := HRC3.out; show List.length r ≤ rc2 - 1; omega⟩, (HKB.out.alloc _).drew⟩
                · have b1 : ((kd : Int) == 1) = false := beq_eq_false_iff_ne.2 (by omega)
                  have b6 : ((kd : Int) == 6) = false := beq_eq_false_iff_ne.2 (by omega)
                  have b7 : ((kd : Int) == 7) = false := beq_eq_false_iff_ne.2 (by omega)
                  have hled : ledB kd = false := by unfold ledB; simp [hk1, hk6, hk7]
                  have HL1 : Hid (restB ⟨rs, hr, tl, ws⟩ ⟨kd, lv, od, lb, tx, sa, sc, sl, ya, yc, yl, fi, ln⟩ = rs) := by show _ = _; unfold restB; simp only [hled]; rfl
                  have HL2 : Hid (hereB ⟨rs, hr, tl, ws⟩ ⟨kd, lv, od, lb, tx, sa, sc, sl, ya, yc, yl, fi, ln⟩ = hr) := by show _ = _; unfold hereB; simp only [hk1, if_false]
                  clear hk1 hk6 hk7 hled
                  go_wp2_with fail
                  go_meet
                  case rel => exact ⟨by rw [HL1.out, HL2.out]; exact ⟨D2, v2, ra2, rc2, HJ6.out, HB6.out, rfl, HA6.out, hrc2⟩, HKB.out⟩
          case rest =>
            obtain ⟨HUc, HKc⟩ := hcut
            obtain ⟨D3, v3, ra3, rc3, hBJ3, hb3, hv83, hA3, hr3⟩ := HUc.out
            subst hv83
            have q0 := HKc.out.cell 0
            change wc.cell? ⟨wr.heap.size, 0, none⟩ = some (.int .u8 kd) at q0
            have q1 := HKc.out.cell 1
            change wc.cell? ⟨wr.heap.size, 1, none⟩ = some (.int .i64 lv) at q1
            have q2 := HKc.out.cell 2
            change wc.cell? ⟨wr.heap.size, 2, none⟩ = some (.bool od) at q2
            have q3 := HKc.out.cell 3
            change wc.cell? ⟨wr.heap.size, 3, none⟩ = some (.string ⟨lb.toArray⟩) at q3
            have q4 := HKc.out.cell 4
            change wc.cell? ⟨wr.heap.size, 4, none⟩ = some (.string ⟨tx.toArray⟩) at q4
            have q5 := HKc.out.cell 5
            change wc.cell? ⟨wr.heap.size, 5, none⟩ = some (.slice sa sl.length sc) at q5
            have q6 := HKc.out.cell 6
            change wc.cell? ⟨wr.heap.size, 6, none⟩ = some (.slice ya yl.length yc) at q6
            have q7 := HKc.out.cell 7
            change wc.cell? ⟨wr.heap.size, 7, none⟩ = some (.string ⟨fi.toArray⟩) at q7
            have q8 := HKc.out.cell 8
            change wc.cell? ⟨wr.heap.size, 8, none⟩ = some (.int .i64 ln) at q8
            have hmf : ∀ (fn : Fn) (first cap : Array Value) (w : World), (Instr.makeFunc fn first cap).run Tryz.prog w = .ok (.func fn first cap) w := fun _ _ _ _ => rfl
            have HBJ3 := Lib.hid hBJ3
            have HB3 := Lib.hid hb3
            have HA3 := Lib.hid hA3
            have HR3 := Lib.hid hr3
            clear HUc hBJ3 hb3 hA3 hr3 k0 HJ6 HA6 HB6
            go_wp2_with fail
            have hbi := HBJ3.out.toBI HKc.out
            refine (ieach_any (wB := w) hbi rfl HB3.out HBI.out HZB.out (by have := HLI.out; omega) (by have := HLI.out; omega)).mono ?_
            rintro e w7 ⟨rfl, hE⟩
            have HU7 : Hid (BU w w7 bh (chBS S (k + 1) X (i + 1)) (.slice ra3 (List.length (restB ⟨rs, hr, tl, ws⟩ ⟨kd, lv, od, lb, tx, sa, sc, sl, ya, yc, yl, fi, ln⟩)) rc3)) := by
              have hbel := hE.below hbi
              obtain ⟨D4, v4, hBI4, hF4⟩ := hE
              rw [HBS.out]
              have hb7 := HB3.out.trans hbel
              refine ⟨D4, v4, ra3, rc3, hBI4.toBJ (by omega), hb7, rfl, HA3.out, HR3.out⟩
            clear hbi hE HBJ3 HB3 HA3 HR3 HKc HKB q0 q1 q2 q3 q4 q5 q6 q7 q8 hmf
            go_wp2_with fail
            go_roundw
            case rel => exact ⟨i + 1, by omega, by go_num, HU7.out⟩
            case measure => simp [intOf]; omega
        · obtain rfl : i = bl.length := by omega
          obtain ⟨D2, v2, ra2, rc2, hBJ, hb, hv8, hA2, hr2⟩ := HV.out
          subst hv8
          have HT2 : Hid (BT w wr pls l (k + 1) (.slice ra2 (chBS S (k + 1) X bl.length).rest.length rc2)) := by
            show BT _ _ _ _ _ _
            unfold BT
            rw [HSU.out]
            exact ⟨D2, v2, ra2, rc2, hBJ.ix, hBJ.t1, hBJ.w1, hBJ.own, hb, rfl, hA2, hr2⟩
          clear HV hBJ hb hA2 hr2
          go_wp2_with fail
          go_roundw
          case rel => exact ⟨k + 1, by omega, by go_num, HT2.out⟩
          case measure => simp [intOf]; omega
    · obtain rfl : k = l.length := by omega
      obtain ⟨D, v, ra, rc, hix, ht1, hw1, hown, hbel, hv8, hAr, hrc⟩ := HS.out
      subst hv8
      have HLE := Lib.hid (allBS_len pls l l.length (Nat.le_refl _))
      have HBDS := Lib.hid (allBS_bd pls HSZ.out l.length (Nat.le_refl _))
      have HSM : Hid (sumM szCh (l.take l.length) ≤ 300000) := by
        have h2 := sumM_take_le szCh l l.length
        have h3 := HSZ.out
        unfold szM at h3
        show _ ≤ _
        omega
      have HDG : Hid (diagsOf (allBS pls l l.length) = (allBS pls l l.length).ws.filter fun d => (d.text, (none : Option Bytes)) ∉ (ixOf (allBS pls l l.length).tl).ps) := rfl
      generalize hSe : allBS pls l l.length = S at *
      have HSE := Lib.hid hSe
      clear hSe
      have HX := Lib.hid hix
      have HT1 := Lib.hid ht1
      have HOW := Lib.hid hown
      have HBE := Lib.hid hbel
      have t0 := ht1.cell 0
      change wr.cell? ⟨w.heap.size + 1, 0, none⟩ = some (.map (some w.heap.size)) at t0
      obtain ⟨va, vc, hv⟩ := hown.shape
      subst hv
      have w0 := hw1.cell 0
      change wr.cell? ⟨w.heap.size + 1 + 1, 0, none⟩ = some (.slice va S.ws.length vc) at w0
      have hwl : S.ws.length ≤ 300000 := by have := HLE.out; have := HSM.out; omega
      have hbs := hbel.size
      clear HS hix ht1 hw1 hown hbel hAr hrc
      go_wp2_with fail
      obtain ⟨wS, hwS⟩ : ∃ wS : World, wS = wr := ⟨_, rfl⟩
      subst hwS
      go_loopw [15, 73] (fun v15 v73 wr => ∃ j : Nat, j ≤ S.ws.length ∧ v73 = .int .i64 j ∧ Hid (Own wr wS.heap.size 103 4 encDg v15 ((S.ws.take j).filter fun d => (d.text, (none : Option Bytes)) ∉ (ixOf S.tl).ps)) ∧ Hid (Below wS.heap.size wS wr)) (fun _ v73 _ => S.ws.length - (intOf v73).toNat)
      case atStart => exact ⟨0, by omega, rfl, Own.nil _ _ _ _ _, Below.refl _ _⟩
      case round =>
        obtain ⟨j, hj, rfl, HOJ, HBJ⟩ := hrel
        have HTJ := Lib.hid (HT1.out.next HBJ.out)
        have t0 := HTJ.out.cell 0
        change wr.cell? ⟨w.heap.size + 1, 0, none⟩ = some (.map (some w.heap.size)) at t0
        have htl := HTJ.out.lt
        by_cases hlj : j < S.ws.length
        · obtain ⟨db, doff, hda, hdl, hdc⟩ := ((HOW.out.below HBJ.out (Nat.le_refl _)).addr encDg_ok).elem hlj
          subst hda
          have HFS : Hid ((S.ws.take (j + 1)).filter (fun d => (d.text, (none : Option Bytes)) ∉ (ixOf S.tl).ps) = ((S.ws.take j).filter fun d => (d.text, (none : Option Bytes)) ∉ (ixOf S.tl).ps) ++ (if (S.ws[j].text, (none : Option Bytes)) ∈ (ixOf S.tl).ps then [] else [S.ws[j]])) := by
            show _ = _
            rw [List.take_succ_eq_append_getElem hlj, List.filter_append]
            congr 1
            by_cases h : (S.ws[j].text, (none : Option Bytes)) ∈ (ixOf S.tl).ps
            · simp [h]
            · simp [h]
          have HFL : Hid (((S.ws.take j).filter fun d => (d.text, (none : Option Bytes)) ∉ (ixOf S.tl).ps).length ≤ 300000) := by
            have h1 := List.length_filter_le (fun d : Dg => decide ((d.text, (none : Option Bytes)) ∉ (ixOf S.tl).ps)) (S.ws.take j)
            have h2 : (S.ws.take j).length ≤ S.ws.length := by rw [List.length_take]; omega
            show _ ≤ _
            omega
          generalize (S.ws.take j).filter (fun d => (d.text, (none : Option Bytes)) ∉ (ixOf S.tl).ps) = F at *
          generalize S.ws[j] = d at *
          obtain ⟨dfi, dln, dfa, dtx⟩ := d
          have g0 := hdc 0 (.string ⟨dfi.toArray⟩) rfl
          have g1 := hdc 1 (.int .i64 dln) rfl
          have g2 := hdc 2 (.int .i64 dfa) rfl
          have g3 := hdc 3 (.string ⟨dtx.toArray⟩) rfl
          rw [Nat.add_zero] at g0
          clear hdc
          have hlk := lookNode (t := dtx) ((HX.out.next (HBJ.out.alloc HBJ.out.size (.cells #[.string ⟨dfi.toArray⟩, .int .i64 dln, .int .i64 dfa, .string ⟨dtx.toArray⟩] 103))).mem)
          rw [tops_get] at hlk
          have HOJ1 := Lib.hid (HOJ.out.alloc (.cells #[.string ⟨dfi.toArray⟩, .int .i64 dln, .int .i64 dfa, .string ⟨dtx.toArray⟩] 103))
          have HBJ1 := Lib.hid (HBJ.out.alloc HBJ.out.size (.cells #[.string ⟨dfi.toArray⟩, .int .i64 dln, .int .i64 dfa, .string ⟨dtx.toArray⟩] 103))
          by_cases hin : (dtx, (none : Option Bytes)) ∈ (ixOf S.tl).ps
          · rw [if_pos hin] at hlk
            simp only [Option.getD_some, ptrV] at hlk
            rw [if_pos hin, List.append_nil] at HFS
            clear hin
            go_wp2_with fail
            go_roundw
            case rel => exact ⟨j + 1, by omega, by go_num, by rw [HFS.out]; exact HOJ1.out, HBJ1.out⟩
            case measure => simp [intOf]; omega
          · rw [if_neg hin] at hlk
            simp only [Option.getD_none] at hlk
            rw [if_neg hin] at HFS
            clear hin
            go_wp2_with (at_builtin; refine hold_op _ rfl ?_)
            constructor
            have hbk := Bk.new (wr.alloc (.cells #[.string ⟨dfi.toArray⟩, .int .i64 dln, .int .i64 dfa, .string ⟨dtx.toArray⟩] 103)) #[.string ⟨dfi.toArray⟩, .int .i64 dln, .int .i64 dfa, .string ⟨dtx.toArray⟩] 103
            rw [World.size_alloc] at hbk
            have hfl := HFL.out
            refine wpList_push2 rfl _ _ 59 rfl wS.heap.size 103 4 48 sldg encDg encDg_ok _ F rfl (HOJ1.out.alloc _) ⟨dfi, dln, dfa, dtx⟩ (wr.heap.size + 1) rfl (fun j u hj => (hbk.cell j).trans hj) (by omega) (by unfold maxLen; omega) (by have := HBJ1.out.size; simp at *; omega) ?_
            intro v' w5 hown5 hgrow5 hcase5
            have HO5 := Lib.hid hown5
            have HB5 : Hid (Below wS.heap.size wS w5) := (HBJ1.out.alloc HBJ1.out.size _).grown hgrow5 (by have := HBJ1.out.size; simp at *; omega) (fun k e => (HOJ1.out.block k e).1)
            clear hown5 hgrow5 hcase5 hbk hfl
            go_wp2_with fail
            go_roundw
            case rel => exact ⟨j + 1, by omega, by go_num, by rw [HFS.out]; exact HO5.out, HB5.out⟩
            case measure => simp [intOf]; omega
        · obtain rfl : j = S.ws.length := by omega
          have HOE := HOJ.out
          rw [List.take_length, ← HDG.out] at HOE
          have HOE := Lib.hid HOE
          clear HOJ
          go_wp2_with fail
          refine (entries_ix (HX.out.next HBJ.out) (ixOf_bd HBDS.out) (ixOf_le S.tl) (by have := HLE.out; have := HSM.out; omega)).mono ?_
          rintro e w7 ⟨⟨a7, c7, ul, rfl, hE, hU⟩, hb7⟩
          have HE := Lib.hid hE
          have HU := Lib.hid hU
          have HO7 : Hid (Own w7 w.heap.size 103 4 encDg _ (diagsOf S)) := (HOE.out.below hb7 (Nat.le_refl _)).mono hbs
          have HB7 : Hid (Below w.heap.size w w7) := (HBE.out.trans (HBJ.out.mono hbs)).trans (hb7.mono (by have := HBJ.out.size; omega))
          clear hE hU hb7 HOE
          go_wp2_with fail
          go_ret2
          exact ⟨⟨_, _, ul, _, rfl, HE.out.mono (fun _ _ _ => trivial), by rw [HSE.out]; exact HU.out, by rw [HSE.out]; exact HO7.out⟩, HB7.out⟩
theorem build_any (l : List Ch) (a : Option Addr) (c : Nat) (pls : List Pl) (pa : Option Addr) (pc : Nat) (w : World) (hA : ChsAt w a l) (hsz : szM szCh l ≤ 20000) (hP : At w 6 encPl pa pls) (hpc : pls.length ≤ pc) (hpl : pls.length ≤ 1000000) (hbd : ∀ p ∈ pls, PlBd p) (htab : HasTab w) :
    Calls Tryz.prog 18 #[.slice a l.length c, .slice pa pls.length pc] w (BuildG w pls l) :=
  build_all l a c pls pa pc w hA (by omega) (fun x hx b hb => by
    have h1 := szM_mem szBl hb
    have h2 := szM_mem szCh hx
    have h3 : szM szBl x.bl ≤ szCh x := by unfold szCh; omega
    omega) hP hpc hpl hbd htab
end Go.Proofs.YtohinfefidahlaaGreatDoor
