/- binderylaw16.RefsUnlike: no two places of chapters of unlike names have one page and one anchor; each place is a block's, in order. -/
import Derived.Test.YtohinfefidahlaaDoorLive16
import Derived.Test.YtohinfefidahlaaDoorGreatC
import Derived.Test.YtohinfefidahlaaDoorKey2
import Derived.StillTailTactics
namespace Go.Proofs.YtohinfefidahlaaDoor
open Go.RowKit
set_option linter.unusedVariables false

theorem size_le_blU {l : List Ch} (hz : szM szCh l ≤ 20000) {i : Nat} (hi : i < l.length) : l[i].bl.length ≤ 20000 := by
  have h1 := szM_mem szCh (List.getElem_mem hi)
  have h2 : szM szBl l[i].bl ≤ szCh l[i] := by unfold szCh; omega
  unfold szM at h2; omega
/-- what is known of the place of a block -/
def PlOk (b : Bl) (q : Pl) : Prop := q.label = b.label ∧ q.kind = b.kind ∧ q.page.length ≤ 1000000 ∧ q.anchor.length ≤ 1000000
theorem place_ok {l : List Ch} (hz : szM szCh l ≤ 20000) {i : Nat} (hi : i < l.length) {k : Nat} (hk : k < l[i].bl.length) (h : ledB l[i].bl[k].kind = true) :
    ∃ q, (totP l).pls[nAt l i l[i] k]? = some q ∧ PlOk l[i].bl[k] q := by
  have hll : l.length ≤ 20000 := by unfold szM at hz; omega
  obtain ⟨x, h1, h2⟩ := place_at (by omega) hi hk h
  refine ⟨_, h1, rfl, rfl, ?_, ?_⟩
  · have h3 := szM_mem szCh (List.getElem_mem hi)
    have h4 : l[i].name.length ≤ szCh l[i] := by unfold szCh; omega
    show (l[i].name ++ htmlB).length ≤ _
    rw [List.length_append]
    have : htmlB.length = 5 := rfl
    omega
  · have hb : ∀ b ∈ l[i].bl, b.label.length ≤ 20000 := fun b hb => by
      have h3 := szM_mem szCh (List.getElem_mem hi)
      have h4 : szM szBl l[i].bl ≤ szCh l[i] := by unfold szCh; omega
      have h5 := szM_mem szBl hb
      have h6 : b.label.length ≤ szBl b := by unfold szBl; omega
      omega
    have ha := chS_anc_len (p := i + 1) (name := l[i].name) (labs := (totK l i).labs) (dgs := (totK l i).dgs) (n := 20000) (by omega) hb l[i].bl.length (Nat.le_refl _)
    rw [chS_full] at ha
    have hm : x ∈ unlike ((endAt l i l[i]).anc.take (endAt l i l[i]).anc.length) := by rw [List.take_length]; exact List.mem_of_getElem? h2
    obtain ⟨s, hs, j, hj, rfl⟩ := unlike_mem _ (Nat.le_refl _) hm
    have hc := chapS_full (p := i + 1) (by omega) l[i].name (totK l i).labs (totK l i).dgs l[i].bl
    have hl : (endAt l i l[i]).anc.length ≤ 20000 := by
      have e1 : (endAt l i l[i]).anc.length = (endAt l i l[i]).pls.length := hc.anc
      have e2 : (endAt l i l[i]).pls.length ≤ l[i].bl.length := hc.pls
      have h3 := szM_mem szCh (List.getElem_mem hi)
      have h4 : szM szBl l[i].bl ≤ szCh l[i] := by unfold szCh; omega
      unfold szM at h4
      omega
    have h5 := (cand_len s (j := j) (by omega)).2
    have h6 := ha s hs
    show (cand s j).length ≤ _
    omega
/-- what was seen: the pages and anchors of the first places -/
def Seen (P : List Pl) (n : Nat) (m : List (K2 × Value)) : Prop := ∀ x : K2, gGet m x = none ∨ ∃ j, j < n ∧ ∃ q, P[j]? = some q ∧ pgA q = x.1
theorem Seen.nil (P : List Pl) (m0 : List (K2 × Value)) (h : m0 = []) : Seen P 0 m0 := by subst h; exact fun x => .inl rfl
theorem Seen.mono {P : List Pl} {n k : Nat} {m : List (K2 × Value)} (h : Seen P n m) (hk : n ≤ k) : Seen P k m := fun x => by
  rcases h x with h | ⟨j, hj, q, h1, h2⟩
  · exact .inl h
  · exact .inr ⟨j, by omega, q, h1, h2⟩
theorem Seen.put {P : List Pl} {n : Nat} {m : List (K2 × Value)} (h : Seen P n m) {q : Pl} (hq : P[n]? = some q) (x : K2) (hx : pgA q = x.1) (v : Value) : Seen P (n + 1) (gPut m x v) := fun y => by
  rw [gGet_put]
  by_cases hy : y = x
  · subst hy
    exact .inr ⟨n, by omega, q, hq, hx⟩
  · rw [if_neg hy]
    exact h.mono (Nat.le_succ n) y
theorem zeroI2 (w : World) : (zeroValue 3).run Tryd.prog w = .ok (.int .i64 0) w := by kernel_rfl
set_option maxHeartbeats 16000000 in
set_option maxRecDepth 100000 in
theorem walk_un (l : List Ch) (a : Option Addr) (c : Nat) (w : World) (hA : ChsAt w a l) (hz : szM szCh l ≤ 1048576) (htab : HasTab w) :
    Calls Tryd.prog 3 #[.slice a l.length c] w fun e w' => e = .returned (.bool true) ∧ Below w.heap.size w w' := by
  have HT := Lib.hid htab
  have HG := Lib.hid (great16_any l a c w hA hz)
  have HA := Lib.hid hA
  have HPL : Hid (szM szCh l ≤ 20000 → ∀ W, Below w.heap.size w W → Calls Tryd.prog 8 #[.slice a l.length c] W (PlacesGives W l)) := fun h W hb => places_any l a c W (hA.keep hb) h (htab.below hb)
  have hll : l.length ≤ 1048576 := by unfold szM at hz; omega
  have hmm := @run_makeMap Tryd.prog
  clear hA hz htab
  go_enter Tryd.func3, Tryd.ntmps3
  go_wp2_with fail
  refine HG.out.mono ?_
  rintro e w1 ⟨⟨g, rfl, hg⟩, hb1⟩
  have HB1 := Lib.hid hb1
  clear HG hb1
  cases g
  · have HSZ := Lib.hid (hg rfl)
    clear hg
    go_wp2_with fail
    go_loopw [3, 4] (fun v3 _ wr => ∃ i : Nat, i ≤ l.length ∧ v3 = .int .i64 i ∧ Hid (∀ p q (hp : p < l.length) (hq : q < p), p < i → l[p].name ≠ l[q].name) ∧ Hid (Below w.heap.size w wr)) (fun v3 _ _ => l.length - (intOf v3).toNat)
    case atStart => exact ⟨0, by omega, rfl, fun p q hp hq h => absurd h (by omega), HB1.out⟩
    case round =>
      obtain ⟨i, hi, rfl, HN, HB⟩ := hrel
      by_cases hil : i < l.length
      · have HN2 : Hid ((∀ j (h : j < i) (hj : j < l.length), l[i].name ≠ l[j].name) → ∀ p q (hp : p < l.length) (hq : q < p), p < i + 1 → l[p].name ≠ l[q].name) := fun hx p q hp hq hpi => by
          rcases Nat.lt_succ_iff_lt_or_eq.1 hpi with h1 | rfl
          · exact HN.out p q hp hq h1
          · exact hx q hq (by omega)
        obtain ⟨bb, off, ha, hbl, hc⟩ := (HA.out.1.below HB.out).elem hil
        subst ha
        have HCC : Hid (∀ W, Below w.heap.size w W → ∀ j (hj : j < l.length), W.cell? ⟨bb, off + j * 6, none⟩ = some (.string ⟨l[j].name.toArray⟩)) := fun W hb j hj => by
          obtain ⟨b', o', e', _, h'⟩ := (HA.out.1.below hb).elem hj
          cases e'
          exact h' 0 _ rfl
        clear hc
        go_wp2_with fail
        go_loopw [4] (fun v4 wx => ∃ k : Nat, k ≤ i ∧ v4 = .int .i64 k ∧ Hid (∀ j (h : j < k) (hj : j < l.length), l[i].name ≠ l[j].name) ∧ Hid (Below w.heap.size w wx)) (fun v4 _ => i - (intOf v4).toNat)
        case atStart => exact ⟨0, by omega, rfl, fun j h hj => absurd h (by omega), HB.out⟩
        case round =>
          obtain ⟨k, hk, rfl, HK, HBX⟩ := hrel
          by_cases hkl : k < i
          · have hkn : k < l.length := by omega
            have d0 := HCC.out _ HBX.out i hil
            have d1 := HCC.out _ HBX.out k hkn
            have HK2 : Hid (l[i].name ≠ l[k].name → ∀ j (h : j < k + 1) (hj : j < l.length), l[i].name ≠ l[j].name) := fun hx j h hj => by
              rcases Nat.lt_succ_iff_lt_or_eq.1 h with h1 | rfl
              · exact HK.out j h1 hj
              · exact hx
            generalize hni : l[i].name = ni at *
            generalize hnk : l[k].name = nk at *
            have HNI := Lib.hid hni
            have HNK := Lib.hid hnk
            clear hni hnk
            have hkl2 : (k : Int) < (l.length : Int) := by omega
            by_cases hnn : ni = nk
            · have hbq : (ni == nk) = true := by simpa using hnn
              clear hnn
              go_wp2_with fail
              go_quiet (fail)
              have HBY : Hid (Below w.heap.size w (wr.drewN nq)) := below_drewN HBX.out nq
              go_wp2_with (go_at_call 7; refine (lives16_any _ (HT.out.below HBY.out)).mono ?_; rintro e w9 ⟨rfl, hb9⟩; have HB9 : Hid (Below w.heap.size w w9) := HBY.out.trans (hb9.mono HBY.out.size))
              go_ret
              exact ⟨rfl, HB9.out⟩
            · have hbq : (ni == nk) = false := beq_eq_false_iff_ne.2 hnn
              have HK3 := Lib.hid (HK2.out hnn)
              clear hnn
              go_wp2_with fail
              go_quiet (fail)
              have HBY : Hid (Below w.heap.size w (wr.drewN nq)) := below_drewN HBX.out nq
              go_wp2_with fail
              go_roundw
              case rel => exact ⟨k + 1, by omega, by go_num, HK3.out, HBY.out⟩
              case measure => simp [intOf]; omega
          · obtain rfl : k = i := by omega
            have HN3 := Lib.hid (HN2.out (fun j h hj => HK.out j h hj))
            go_wp2_with fail
            go_roundw
            case rel => exact ⟨k + 1, by omega, by go_num, HN3.out, HBX.out⟩
            case measure => simp [intOf]; omega
      · obtain rfl : i = l.length := by omega
        have hl3 : l.length ≤ 20000 := by have := HSZ.out; unfold szM at this; omega
        have HUN : Hid (∀ i j p q, i < j → (totP l).pls[i]? = some p → (totP l).pls[j]? = some q → pgA p ≠ pgA q) := fun i j p q hij hp hq => totP_unlike (by omega) (fun i k hi hk => HN.out i k hi hk hi) hij hp hq
        have HTK := Lib.hid (totK_le l (by omega) l.length (Nat.le_refl _))
        have hPl : (totP l).pls.length ≤ 20000 := by
          have h1 := HTK.out.pls
          have h2 := nbl_le l
          have h3 := HSZ.out
          rw [List.take_length] at h1
          show (totK l l.length).pls.length ≤ 20000
          omega
        have HPT : Hid ((totK l l.length).pls.length = (totP l).pls.length) := rfl
        have HPAT : Hid (∀ i (hi : i < l.length) k (hk : k < l[i].bl.length), ledB l[i].bl[k].kind = true → ∃ q, (totP l).pls[nAt l i l[i] k]? = some q ∧ PlOk l[i].bl[k] q) := fun i hi k hk h => place_ok HSZ.out hi hk h
        clear HN HTK
        go_wp2_with fail
        refine (HPL.out HSZ.out _ HB.out).mono ?_
        rintro e w2 ⟨⟨v, dd, rfl, hp, hd⟩, hb2⟩
        have HP2 := Lib.hid ((hp.mono HB.out.size).alloc (.map #[] 0))
        have HB2 : Hid (Below w.heap.size w (w2.alloc (.map #[] 0))) := (HB.out.trans (hb2.mono HB.out.size)).alloc (by have := HB.out.size; have := hb2.size; omega) _
        have HM2 := Lib.hid (GMap.new encK2 w2)
        obtain ⟨ap, cp, hv⟩ := hp.shape
        subst hv
        obtain ⟨ad, cd, hv2⟩ := hd.shape
        subst hv2
        have hmbz : w.heap.size ≤ w2.heap.size := by have := HB.out.size; have := hb2.size; omega
        clear hp hd hb2
        go_wp2_with fail
        generalize hW2 : w2.alloc (.map #[] 0) = W2 at *
        clear hW2
        generalize hmb : w2.heap.size = mb at *
        clear hmb
        generalize (totP l).dgs = dgs at *
        generalize (totP l).pls = P at *
        go_loopw [8, 9] (fun v8 v9 wr => ∃ i : Nat, i ≤ l.length ∧ v9 = .int .i64 i ∧ v8 = .int .i64 ((totK l i).pls.length : Nat) ∧ Hid (Own wr w.heap.size 41 6 encPl (.slice ap P.length cp) P) ∧ Hid (∃ m, GMap encK2 wr mb m ∧ Seen P (totK l i).pls.length m) ∧ Hid (Below w.heap.size w wr)) (fun _ v9 _ => l.length - (intOf v9).toNat)
        case atStart => exact ⟨0, by omega, rfl, rfl, HP2.out, ⟨[], HM2.out, Seen.nil _ _ rfl⟩, HB2.out⟩
        case round =>
          obtain ⟨i, hi2, rfl, rfl, HO, HM, HB⟩ := hrel
          by_cases hil : i < l.length
          · obtain ⟨bb, off, ha, hbl, hc⟩ := (HA.out.1.below HB.out).elem hil
            subst ha
            have HCI := Lib.hid (HA.out.2 _ (List.getElem_mem hil))
            have HCC : Hid (∀ W, Below w.heap.size w W → W.cell? ⟨bb, off + i * 6 + 1, none⟩ = some (.slice l[i].ba l[i].bl.length l[i].bc)) := fun W hb => by
              obtain ⟨b', o', e', _, h'⟩ := (HA.out.1.below hb).elem hil
              cases e'
              exact h' 1 _ rfl
            have HBL : Hid (BlsAt w l[i].ba l[i].bl) := HCI.out.bls
            have hbln := size_le_blU HSZ.out hil
            have HPA := Lib.hid (HPAT.out i hil)
            have HNL : Hid (∀ k (hk : k < l[i].bl.length), ledB l[i].bl[k].kind = true → nAt l i l[i] (k + 1) = nAt l i l[i] k + 1) := fun k hk h => nAt_led hk h
            have HNO : Hid (∀ k (hk : k < l[i].bl.length), ¬ ledB l[i].bl[k].kind = true → nAt l i l[i] (k + 1) = nAt l i l[i] k) := fun k hk h => nAt_not hk h
            have HN0 : Hid (nAt l i l[i] 0 = (totK l i).pls.length) := nAt_zero i l[i]
            have HNF : Hid (nAt l i l[i] l[i].bl.length = (totK l (i + 1)).pls.length) := nAt_full (by omega) hil
            generalize l[i].ba = ba at *
            generalize l[i].bc = bc at *
            generalize l[i].bl = bl at *
            have c1 := HCC.out wr HB.out
            clear hc HCI
            generalize nAt l i l[i] = N at *
            rw [← HN0.out] at HM
            rw [← HN0.out]
            go_wp2_with fail
            go_loopw [8, 10] (fun v8 v10 wx => ∃ k : Nat, k ≤ bl.length ∧ v10 = .int .i64 k ∧ v8 = .int .i64 (N k : Nat) ∧ Hid (Own wx w.heap.size 41 6 encPl (.slice ap P.length cp) P) ∧ Hid (∃ m, GMap encK2 wx mb m ∧ Seen P (N k) m) ∧ Hid (Below w.heap.size w wx)) (fun _ v10 _ => bl.length - (intOf v10).toNat)
            case atStart => exact ⟨0, by omega, rfl, rfl, HO.out, HM.out, HB.out⟩
            case round =>
              clear c1
              obtain ⟨k, hk, rfl, rfl, HOX, HMX, HBX⟩ := hrel
              have c2 := HCC.out _ HBX.out
              by_cases hkl : k < bl.length
              · obtain ⟨b2, off2, ha2, hbl2, hc2⟩ := (HBL.out.keep HBX.out).1.elem hkl
                subst ha2
                have HPK := Lib.hid (HPA.out k hkl)
                have HLK := Lib.hid (HNL.out k hkl)
                have HOK := Lib.hid (HNO.out k hkl)
                generalize bl[k] = b at *
                obtain ⟨kd, lv, od, lb, tx, sa, sc, sl, ra, rc, rl, fi, ln⟩ := b
                have e0 := hc2 0 (.int .u8 kd) rfl
                have e1 := hc2 1 (.int .i64 lv) rfl
                have e2 := hc2 2 (.bool od) rfl
                have e3 := hc2 3 (.string ⟨lb.toArray⟩) rfl
                have e4 := hc2 4 (.string ⟨tx.toArray⟩) rfl
                have e5 := hc2 5 (.slice sa sl.length sc) rfl
                have e6 := hc2 6 (.slice ra rl.length rc) rfl
                have e7 := hc2 7 (.string ⟨fi.toArray⟩) rfl
                have e8 := hc2 8 (.int .i64 ln) rfl
                rw [Nat.add_zero] at e0
                dsimp only at HPK HLK HOK
                clear hc2
                have hzx := HBX.out.size
                obtain hk1 | hk6 | hk7 | hno : kd = 1 ∨ kd = 6 ∨ kd = 7 ∨ (kd ≠ 1 ∧ kd ≠ 6 ∧ kd ≠ 7) := by omega
                · subst hk1
                  have e0 : wr.cell? ⟨b2, off2 + k * 9, none⟩ = some (.int .u8 1) := e0
                  have HBd : Hid (Below w.heap.size w (wr.alloc (.cells #[.int .u8 1, .int .i64 lv, .bool od, .string ⟨lb.toArray⟩, .string ⟨tx.toArray⟩, .slice sa sl.length sc, .slice ra rl.length rc, .string ⟨fi.toArray⟩, .int .i64 ln] 39))) := HBX.out.alloc hzx _
                  have HOd := Lib.hid (HOX.out.alloc (.cells #[.int .u8 1, .int .i64 lv, .bool od, .string ⟨lb.toArray⟩, .string ⟨tx.toArray⟩, .slice sa sl.length sc, .slice ra rl.length rc, .string ⟨fi.toArray⟩, .int .i64 ln] 39))
                  obtain ⟨m, hm, hs⟩ := HMX.out
                  have HMd := Lib.hid (hm.alloc (.cells #[.int .u8 1, .int .i64 lv, .bool od, .string ⟨lb.toArray⟩, .string ⟨tx.toArray⟩, .slice sa sl.length sc, .slice ra rl.length rc, .string ⟨fi.toArray⟩, .int .i64 ln] 39))
                  have HSD := Lib.hid hs
                  obtain ⟨q, hq, hql, hqk, hqp, hqa⟩ := HPK.out rfl
                  have HLN := Lib.hid (HLK.out rfl)
                  have hlt := (List.getElem?_eq_some_iff.1 hq).1
                  have HGN : Hid (gGet m (⟨(q.page, q.anchor), hqp, hqa⟩ : K2) = none) := by
                    rcases hs ⟨(q.page, q.anchor), hqp, hqa⟩ with h | ⟨j, hj, q2, h1, h2⟩
                    · exact h
                    · exact absurd h2 (HUN.out _ _ _ _ hj h1 hq)
                  have HPUT := fun v => Lib.hid (hs.put hq (⟨(q.page, q.anchor), hqp, hqa⟩ : K2) rfl v)
                  obtain ⟨gp, rfl, hgp1, hgp2, hgp3⟩ := HOd.out.ptr (by omega)
                  obtain ⟨ql, qk, qn, qt, qp, qa⟩ := q
                  dsimp only at hql hqk hqp hqa HGN HPUT
                  have hql := hql.symm
                  subst hql hqk
                  have p0 : (wr.alloc (.cells #[.int .u8 1, .int .i64 lv, .bool od, .string ⟨lb.toArray⟩, .string ⟨tx.toArray⟩, .slice sa sl.length sc, .slice ra rl.length rc, .string ⟨fi.toArray⟩, .int .i64 ln] 39)).cell? ⟨gp, N k * 6, none⟩ = some (.string ⟨lb.toArray⟩) := HOd.out.cellAt encPl_ok hq (j := 0) rfl
                  have p1 : (wr.alloc (.cells #[.int .u8 1, .int .i64 lv, .bool od, .string ⟨lb.toArray⟩, .string ⟨tx.toArray⟩, .slice sa sl.length sc, .slice ra rl.length rc, .string ⟨fi.toArray⟩, .int .i64 ln] 39)).cell? ⟨gp, N k * 6 + 1, none⟩ = some (.int .u8 1) := HOd.out.cellAt encPl_ok hq (j := 1) rfl
                  have p4 : (wr.alloc (.cells #[.int .u8 1, .int .i64 lv, .bool od, .string ⟨lb.toArray⟩, .string ⟨tx.toArray⟩, .slice sa sl.length sc, .slice ra rl.length rc, .string ⟨fi.toArray⟩, .int .i64 ln] 39)).cell? ⟨gp, N k * 6 + 4, none⟩ = some (.string ⟨qp.toArray⟩) := HOd.out.cellAt encPl_ok hq (j := 4) rfl
                  have p5 : (wr.alloc (.cells #[.int .u8 1, .int .i64 lv, .bool od, .string ⟨lb.toArray⟩, .string ⟨tx.toArray⟩, .slice sa sl.length sc, .slice ra rl.length rc, .string ⟨fi.toArray⟩, .int .i64 ln] 39)).cell? ⟨gp, N k * 6 + 5, none⟩ = some (.string ⟨qa.toArray⟩) := HOd.out.cellAt encPl_ok hq (j := 5) rfl
                  clear hq hm hs
                  generalize N k = nk at *
                  have hlk : ∀ n, (Instr.lookup 34 (.map (some mb)) (.agg #[.string ⟨qp.toArray⟩, .string ⟨qa.toArray⟩]) false).run Tryd.prog ((wr.alloc (.cells #[.int .u8 1, .int .i64 lv, .bool od, .string ⟨lb.toArray⟩, .string ⟨tx.toArray⟩, .slice sa sl.length sc, .slice ra rl.length rc, .string ⟨fi.toArray⟩, .int .i64 ln] 39)).drewN n) = .ok (.int .i64 0) ((wr.alloc (.cells #[.int .u8 1, .int .i64 lv, .bool od, .string ⟨lb.toArray⟩, .string ⟨tx.toArray⟩, .slice sa sl.length sc, .slice ra rl.length rc, .string ⟨fi.toArray⟩, .int .i64 ln] 39)).drewN n) := fun n => by
                    have h := run_lookup_g (z := .int .i64 0) Tryd.underlying34 k2_enc (zeroI2 _) (HMd.out.drewN n) (⟨(qp, qa), hqp, hqa⟩ : K2) false
                    rw [HGN.out] at h
                    exact h
                  have hgt1 : decide ((P.length : Int) ≤ (nk : Int)) = false := decide_eq_false (by omega)
                  have hgt2 : decide (P.length ≤ nk) = false := decide_eq_false (by omega)
                  go_wp2_with fail
                  go_quiet (fail)
                  have HBq := Lib.hid (below_drewN HBd.out nq)
                  have HOq := Lib.hid (HOd.out.drewN nq)
                  have HMq := Lib.hid (HMd.out.drewN nq)
                  go_wp2_with fail
                  refine wp_gen fun W5 hW5 => ?_
                  have HB5 : Hid (Below w.heap.size w W5) := by subst hW5; exact HBq.out
                  have HO5 : Hid (Own W5 w.heap.size 41 6 encPl (.slice (some ⟨gp, 0, none⟩) P.length cp) P) := by subst hW5; exact HOq.out
                  have HM5 : Hid (GMap encK2 W5 mb m) := by subst hW5; exact HMq.out
                  have q4 : W5.cell? ⟨gp, nk * 6 + 4, none⟩ = some (.string ⟨qp.toArray⟩) := by subst hW5; exact p4
                  have q5 : W5.cell? ⟨gp, nk * 6 + 5, none⟩ = some (.string ⟨qa.toArray⟩) := by subst hW5; exact p5
                  clear hW5 p0 p1 p4 p5 hlk HBq HOq HMq HBd HOd HMd
                  have hgn : (nk : Int) < (P.length : Int) := by omega
                  go_still_tail 12, (by kernel_rfl)
                  change wpList _ _ _ _ _ W5.drew
                  refine wpList_gmap_put rfl _ _ _ 34 42 3 (.inl rfl) Tryd.underlying34 k2_enc mb m (HM5.out.drewN 1) (⟨(qp, qa), hqp, hqa⟩ : K2) (.int .i64 1) rfl rfl rfl ?_
                  intro wz hmz hgz hsz2
                  have HMZ := Lib.hid hmz
                  have HOZ : Hid (Own wz w.heap.size 41 6 encPl (.slice (some ⟨gp, 0, none⟩) P.length cp) P) := (HO5.out.drewN 1).grown hgz (fun k hk e => by
                    injection e with e
                    have h1 := (HO5.out.drewN 1).kind k hk
                    obtain ⟨cur, h1⟩ := h1
                    obtain ⟨es, ck, h2, _⟩ := HM5.out.drewN 1
                    rw [← e, h2] at h1
                    cases h1)
                  have HBZ : Hid (Below w.heap.size w wz) := (below_drewN HB5.out 1).grown hgz (by have := HB5.out.size; exact this) (fun k hk => by injection hk with hk; omega)
                  clear hmz hgz hsz2
                  go_wp2_with fail
                  go_roundw
                  case rel => exact ⟨k + 1, by omega, by go_num, by rw [HLN.out]; first | rfl | go_num, HOZ.out, ⟨_, HMZ.out, by rw [HLN.out]; exact (HPUT _).out⟩, HBZ.out⟩
                  case measure => simp [intOf]; omega
                · subst hk6
                  have e0 : wr.cell? ⟨b2, off2 + k * 9, none⟩ = some (.int .u8 6) := e0
                  have HBd : Hid (Below w.heap.size w (wr.alloc (.cells #[.int .u8 6, .int .i64 lv, .bool od, .string ⟨lb.toArray⟩, .string ⟨tx.toArray⟩, .slice sa sl.length sc, .slice ra rl.length rc, .string ⟨fi.toArray⟩, .int .i64 ln] 39))) := HBX.out.alloc hzx _
                  have HOd := Lib.hid (HOX.out.alloc (.cells #[.int .u8 6, .int .i64 lv, .bool od, .string ⟨lb.toArray⟩, .string ⟨tx.toArray⟩, .slice sa sl.length sc, .slice ra rl.length rc, .string ⟨fi.toArray⟩, .int .i64 ln] 39))
                  obtain ⟨m, hm, hs⟩ := HMX.out
                  have HMd := Lib.hid (hm.alloc (.cells #[.int .u8 6, .int .i64 lv, .bool od, .string ⟨lb.toArray⟩, .string ⟨tx.toArray⟩, .slice sa sl.length sc, .slice ra rl.length rc, .string ⟨fi.toArray⟩, .int .i64 ln] 39))
                  have HSD := Lib.hid hs
                  obtain ⟨q, hq, hql, hqk, hqp, hqa⟩ := HPK.out rfl
                  have HLN := Lib.hid (HLK.out rfl)
                  have hlt := (List.getElem?_eq_some_iff.1 hq).1
                  have HGN : Hid (gGet m (⟨(q.page, q.anchor), hqp, hqa⟩ : K2) = none) := by
                    rcases hs ⟨(q.page, q.anchor), hqp, hqa⟩ with h | ⟨j, hj, q2, h1, h2⟩
                    · exact h
                    · exact absurd h2 (HUN.out _ _ _ _ hj h1 hq)
                  have HPUT := fun v => Lib.hid (hs.put hq (⟨(q.page, q.anchor), hqp, hqa⟩ : K2) rfl v)
                  obtain ⟨gp, rfl, hgp1, hgp2, hgp3⟩ := HOd.out.ptr (by omega)
                  obtain ⟨ql, qk, qn, qt, qp, qa⟩ := q
                  dsimp only at hql hqk hqp hqa HGN HPUT
                  have hql := hql.symm
                  subst hql hqk
                  have p0 : (wr.alloc (.cells #[.int .u8 6, .int .i64 lv, .bool od, .string ⟨lb.toArray⟩, .string ⟨tx.toArray⟩, .slice sa sl.length sc, .slice ra rl.length rc, .string ⟨fi.toArray⟩, .int .i64 ln] 39)).cell? ⟨gp, N k * 6, none⟩ = some (.string ⟨lb.toArray⟩) := HOd.out.cellAt encPl_ok hq (j := 0) rfl
                  have p1 : (wr.alloc (.cells #[.int .u8 6, .int .i64 lv, .bool od, .string ⟨lb.toArray⟩, .string ⟨tx.toArray⟩, .slice sa sl.length sc, .slice ra rl.length rc, .string ⟨fi.toArray⟩, .int .i64 ln] 39)).cell? ⟨gp, N k * 6 + 1, none⟩ = some (.int .u8 6) := HOd.out.cellAt encPl_ok hq (j := 1) rfl
                  have p4 : (wr.alloc (.cells #[.int .u8 6, .int .i64 lv, .bool od, .string ⟨lb.toArray⟩, .string ⟨tx.toArray⟩, .slice sa sl.length sc, .slice ra rl.length rc, .string ⟨fi.toArray⟩, .int .i64 ln] 39)).cell? ⟨gp, N k * 6 + 4, none⟩ = some (.string ⟨qp.toArray⟩) := HOd.out.cellAt encPl_ok hq (j := 4) rfl
                  have p5 : (wr.alloc (.cells #[.int .u8 6, .int .i64 lv, .bool od, .string ⟨lb.toArray⟩, .string ⟨tx.toArray⟩, .slice sa sl.length sc, .slice ra rl.length rc, .string ⟨fi.toArray⟩, .int .i64 ln] 39)).cell? ⟨gp, N k * 6 + 5, none⟩ = some (.string ⟨qa.toArray⟩) := HOd.out.cellAt encPl_ok hq (j := 5) rfl
                  clear hq hm hs
                  generalize N k = nk at *
                  have hlk : ∀ n, (Instr.lookup 34 (.map (some mb)) (.agg #[.string ⟨qp.toArray⟩, .string ⟨qa.toArray⟩]) false).run Tryd.prog ((wr.alloc (.cells #[.int .u8 6, .int .i64 lv, .bool od, .string ⟨lb.toArray⟩, .string ⟨tx.toArray⟩, .slice sa sl.length sc, .slice ra rl.length rc, .string ⟨fi.toArray⟩, .int .i64 ln] 39)).drewN n) = .ok (.int .i64 0) ((wr.alloc (.cells #[.int .u8 6, .int .i64 lv, .bool od, .string ⟨lb.toArray⟩, .string ⟨tx.toArray⟩, .slice sa sl.length sc, .slice ra rl.length rc, .string ⟨fi.toArray⟩, .int .i64 ln] 39)).drewN n) := fun n => by
                    have h := run_lookup_g (z := .int .i64 0) Tryd.underlying34 k2_enc (zeroI2 _) (HMd.out.drewN n) (⟨(qp, qa), hqp, hqa⟩ : K2) false
                    rw [HGN.out] at h
                    exact h
                  have hgt1 : decide ((P.length : Int) ≤ (nk : Int)) = false := decide_eq_false (by omega)
                  have hgt2 : decide (P.length ≤ nk) = false := decide_eq_false (by omega)
                  go_wp2_with fail
                  go_quiet (fail)
                  have HBq := Lib.hid (below_drewN HBd.out nq)
                  have HOq := Lib.hid (HOd.out.drewN nq)
                  have HMq := Lib.hid (HMd.out.drewN nq)
                  go_wp2_with fail
                  refine wp_gen fun W5 hW5 => ?_
                  have HB5 : Hid (Below w.heap.size w W5) := by subst hW5; exact HBq.out
                  have HO5 : Hid (Own W5 w.heap.size 41 6 encPl (.slice (some ⟨gp, 0, none⟩) P.length cp) P) := by subst hW5; exact HOq.out
                  have HM5 : Hid (GMap encK2 W5 mb m) := by subst hW5; exact HMq.out
                  have q4 : W5.cell? ⟨gp, nk * 6 + 4, none⟩ = some (.string ⟨qp.toArray⟩) := by subst hW5; exact p4
                  have q5 : W5.cell? ⟨gp, nk * 6 + 5, none⟩ = some (.string ⟨qa.toArray⟩) := by subst hW5; exact p5
                  clear hW5 p0 p1 p4 p5 hlk HBq HOq HMq HBd HOd HMd
                  have hgn : (nk : Int) < (P.length : Int) := by omega
                  go_still_tail 12, (by kernel_rfl)
                  change wpList _ _ _ _ _ W5.drew
                  refine wpList_gmap_put rfl _ _ _ 34 42 3 (.inl rfl) Tryd.underlying34 k2_enc mb m (HM5.out.drewN 1) (⟨(qp, qa), hqp, hqa⟩ : K2) (.int .i64 1) rfl rfl rfl ?_
                  intro wz hmz hgz hsz2
                  have HMZ := Lib.hid hmz
                  have HOZ : Hid (Own wz w.heap.size 41 6 encPl (.slice (some ⟨gp, 0, none⟩) P.length cp) P) := (HO5.out.drewN 1).grown hgz (fun k hk e => by
                    injection e with e
                    have h1 := (HO5.out.drewN 1).kind k hk
                    obtain ⟨cur, h1⟩ := h1
                    obtain ⟨es, ck, h2, _⟩ := HM5.out.drewN 1
                    rw [← e, h2] at h1
                    cases h1)
                  have HBZ : Hid (Below w.heap.size w wz) := (below_drewN HB5.out 1).grown hgz (by have := HB5.out.size; exact this) (fun k hk => by injection hk with hk; omega)
                  clear hmz hgz hsz2
                  go_wp2_with fail
                  go_roundw
                  case rel => exact ⟨k + 1, by omega, by go_num, by rw [HLN.out]; first | rfl | go_num, HOZ.out, ⟨_, HMZ.out, by rw [HLN.out]; exact (HPUT _).out⟩, HBZ.out⟩
                  case measure => simp [intOf]; omega
                · subst hk7
                  have e0 : wr.cell? ⟨b2, off2 + k * 9, none⟩ = some (.int .u8 7) := e0
                  have HBd : Hid (Below w.heap.size w (wr.alloc (.cells #[.int .u8 7, .int .i64 lv, .bool od, .string ⟨lb.toArray⟩, .string ⟨tx.toArray⟩, .slice sa sl.length sc, .slice ra rl.length rc, .string ⟨fi.toArray⟩, .int .i64 ln] 39))) := HBX.out.alloc hzx _
                  have HOd := Lib.hid (HOX.out.alloc (.cells #[.int .u8 7, .int .i64 lv, .bool od, .string ⟨lb.toArray⟩, .string ⟨tx.toArray⟩, .slice sa sl.length sc, .slice ra rl.length rc, .string ⟨fi.toArray⟩, .int .i64 ln] 39))
                  obtain ⟨m, hm, hs⟩ := HMX.out
                  have HMd := Lib.hid (hm.alloc (.cells #[.int .u8 7, .int .i64 lv, .bool od, .string ⟨lb.toArray⟩, .string ⟨tx.toArray⟩, .slice sa sl.length sc, .slice ra rl.length rc, .string ⟨fi.toArray⟩, .int .i64 ln] 39))
                  have HSD := Lib.hid hs
                  obtain ⟨q, hq, hql, hqk, hqp, hqa⟩ := HPK.out rfl
                  have HLN := Lib.hid (HLK.out rfl)
                  have hlt := (List.getElem?_eq_some_iff.1 hq).1
                  have HGN : Hid (gGet m (⟨(q.page, q.anchor), hqp, hqa⟩ : K2) = none) := by
                    rcases hs ⟨(q.page, q.anchor), hqp, hqa⟩ with h | ⟨j, hj, q2, h1, h2⟩
                    · exact h
                    · exact absurd h2 (HUN.out _ _ _ _ hj h1 hq)
                  have HPUT := fun v => Lib.hid (hs.put hq (⟨(q.page, q.anchor), hqp, hqa⟩ : K2) rfl v)
                  obtain ⟨gp, rfl, hgp1, hgp2, hgp3⟩ := HOd.out.ptr (by omega)
                  obtain ⟨ql, qk, qn, qt, qp, qa⟩ := q
                  dsimp only at hql hqk hqp hqa HGN HPUT
                  have hql := hql.symm
                  subst hql hqk
                  have p0 : (wr.alloc (.cells #[.int .u8 7, .int .i64 lv, .bool od, .string ⟨lb.toArray⟩, .string ⟨tx.toArray⟩, .slice sa sl.length sc, .slice ra rl.length rc, .string ⟨fi.toArray⟩, .int .i64 ln] 39)).cell? ⟨gp, N k * 6, none⟩ = some (.string ⟨lb.toArray⟩) := HOd.out.cellAt encPl_ok hq (j := 0) rfl
                  have p1 : (wr.alloc (.cells #[.int .u8 7, .int .i64 lv, .bool od, .string ⟨lb.toArray⟩, .string ⟨tx.toArray⟩, .slice sa sl.length sc, .slice ra rl.length rc, .string ⟨fi.toArray⟩, .int .i64 ln] 39)).cell? ⟨gp, N k * 6 + 1, none⟩ = some (.int .u8 7) := HOd.out.cellAt encPl_ok hq (j := 1) rfl
                  have p4 : (wr.alloc (.cells #[.int .u8 7, .int .i64 lv, .bool od, .string ⟨lb.toArray⟩, .string ⟨tx.toArray⟩, .slice sa sl.length sc, .slice ra rl.length rc, .string ⟨fi.toArray⟩, .int .i64 ln] 39)).cell? ⟨gp, N k * 6 + 4, none⟩ = some (.string ⟨qp.toArray⟩) := HOd.out.cellAt encPl_ok hq (j := 4) rfl
                  have p5 : (wr.alloc (.cells #[.int .u8 7, .int .i64 lv, .bool od, .string ⟨lb.toArray⟩, .string ⟨tx.toArray⟩, .slice sa sl.length sc, .slice ra rl.length rc, .string ⟨fi.toArray⟩, .int .i64 ln] 39)).cell? ⟨gp, N k * 6 + 5, none⟩ = some (.string ⟨qa.toArray⟩) := HOd.out.cellAt encPl_ok hq (j := 5) rfl
                  clear hq hm hs
                  generalize N k = nk at *
                  have hlk : ∀ n, (Instr.lookup 34 (.map (some mb)) (.agg #[.string ⟨qp.toArray⟩, .string ⟨qa.toArray⟩]) false).run Tryd.prog ((wr.alloc (.cells #[.int .u8 7, .int .i64 lv, .bool od, .string ⟨lb.toArray⟩, .string ⟨tx.toArray⟩, .slice sa sl.length sc, .slice ra rl.length rc, .string ⟨fi.toArray⟩, .int .i64 ln] 39)).drewN n) = .ok (.int .i64 0) ((wr.alloc (.cells #[.int .u8 7, .int .i64 lv, .bool od, .string ⟨lb.toArray⟩, .string ⟨tx.toArray⟩, .slice sa sl.length sc, .slice ra rl.length rc, .string ⟨fi.toArray⟩, .int .i64 ln] 39)).drewN n) := fun n => by
                    have h := run_lookup_g (z := .int .i64 0) Tryd.underlying34 k2_enc (zeroI2 _) (HMd.out.drewN n) (⟨(qp, qa), hqp, hqa⟩ : K2) false
                    rw [HGN.out] at h
                    exact h
                  have hgt1 : decide ((P.length : Int) ≤ (nk : Int)) = false := decide_eq_false (by omega)
                  have hgt2 : decide (P.length ≤ nk) = false := decide_eq_false (by omega)
                  go_wp2_with fail
                  go_quiet (fail)
                  have HBq := Lib.hid (below_drewN HBd.out nq)
                  have HOq := Lib.hid (HOd.out.drewN nq)
                  have HMq := Lib.hid (HMd.out.drewN nq)
                  go_wp2_with fail
                  refine wp_gen fun W5 hW5 => ?_
                  have HB5 : Hid (Below w.heap.size w W5) := by subst hW5; exact HBq.out
                  have HO5 : Hid (Own W5 w.heap.size 41 6 encPl (.slice (some ⟨gp, 0, none⟩) P.length cp) P) := by subst hW5; exact HOq.out
                  have HM5 : Hid (GMap encK2 W5 mb m) := by subst hW5; exact HMq.out
                  have q4 : W5.cell? ⟨gp, nk * 6 + 4, none⟩ = some (.string ⟨qp.toArray⟩) := by subst hW5; exact p4
                  have q5 : W5.cell? ⟨gp, nk * 6 + 5, none⟩ = some (.string ⟨qa.toArray⟩) := by subst hW5; exact p5
                  clear hW5 p0 p1 p4 p5 hlk HBq HOq HMq HBd HOd HMd
                  have hgn : (nk : Int) < (P.length : Int) := by omega
                  go_still_tail 12, (by kernel_rfl)
                  change wpList _ _ _ _ _ W5.drew
                  refine wpList_gmap_put rfl _ _ _ 34 42 3 (.inl rfl) Tryd.underlying34 k2_enc mb m (HM5.out.drewN 1) (⟨(qp, qa), hqp, hqa⟩ : K2) (.int .i64 1) rfl rfl rfl ?_
                  intro wz hmz hgz hsz2
                  have HMZ := Lib.hid hmz
                  have HOZ : Hid (Own wz w.heap.size 41 6 encPl (.slice (some ⟨gp, 0, none⟩) P.length cp) P) := (HO5.out.drewN 1).grown hgz (fun k hk e => by
                    injection e with e
                    have h1 := (HO5.out.drewN 1).kind k hk
                    obtain ⟨cur, h1⟩ := h1
                    obtain ⟨es, ck, h2, _⟩ := HM5.out.drewN 1
                    rw [← e, h2] at h1
                    cases h1)
                  have HBZ : Hid (Below w.heap.size w wz) := (below_drewN HB5.out 1).grown hgz (by have := HB5.out.size; exact this) (fun k hk => by injection hk with hk; omega)
                  clear hmz hgz hsz2
                  go_wp2_with fail
                  go_roundw
                  case rel => exact ⟨k + 1, by omega, by go_num, by rw [HLN.out]; first | rfl | go_num, HOZ.out, ⟨_, HMZ.out, by rw [HLN.out]; exact (HPUT _).out⟩, HBZ.out⟩
                  case measure => simp [intOf]; omega
                · obtain ⟨n1, n6, n7⟩ := hno
                  have HLN := Lib.hid (HOK.out (by unfold ledB; simp [n1, n6, n7]))
                  have HBd : Hid (Below w.heap.size w (wr.alloc (.cells #[.int .u8 kd, .int .i64 lv, .bool od, .string ⟨lb.toArray⟩, .string ⟨tx.toArray⟩, .slice sa sl.length sc, .slice ra rl.length rc, .string ⟨fi.toArray⟩, .int .i64 ln] 39))) := HBX.out.alloc hzx _
                  have HOd := Lib.hid (HOX.out.alloc (.cells #[.int .u8 kd, .int .i64 lv, .bool od, .string ⟨lb.toArray⟩, .string ⟨tx.toArray⟩, .slice sa sl.length sc, .slice ra rl.length rc, .string ⟨fi.toArray⟩, .int .i64 ln] 39))
                  have HMd : Hid (∃ m, GMap encK2 (wr.alloc (.cells #[.int .u8 kd, .int .i64 lv, .bool od, .string ⟨lb.toArray⟩, .string ⟨tx.toArray⟩, .slice sa sl.length sc, .slice ra rl.length rc, .string ⟨fi.toArray⟩, .int .i64 ln] 39)) mb m ∧ Seen P (N k) m) := by
                    obtain ⟨m, hm, hs⟩ := HMX.out
                    exact ⟨m, hm.alloc _, hs⟩
                  have m1 : ((kd : Int) == 1) = false := beq_eq_false_iff_ne.2 (by omega)
                  have m6 : ((kd : Int) == 6) = false := beq_eq_false_iff_ne.2 (by omega)
                  have m7 : ((kd : Int) == 7) = false := beq_eq_false_iff_ne.2 (by omega)
                  have k1 : ((kd : Int) != 1) = true := by rw [bne, m1]; rfl
                  have k6 : ((kd : Int) != 6) = true := by rw [bne, m6]; rfl
                  have k7 : ((kd : Int) != 7) = true := by rw [bne, m7]; rfl
                  clear n1 n6 n7
                  go_wp2_with fail
                  go_roundw
                  case rel => exact ⟨k + 1, by omega, by go_num, by rw [HLN.out], HOd.out, by rw [HLN.out]; exact HMd.out, HBd.out⟩
                  case measure => simp [intOf]; omega
              · obtain rfl : k = bl.length := by omega
                rw [HNF.out] at HMX
                go_wp2_with fail
                go_roundw
                case rel => exact ⟨i + 1, by omega, by go_num, by rw [HNF.out], HOX.out, HMX.out, HBX.out⟩
                case measure => simp [intOf]; omega
          · obtain rfl : i = l.length := by omega
            rw [HPT.out]
            go_wp2_with (go_at_call 7; refine (lives16_any _ (HT.out.below HB.out)).mono ?_; rintro e w9 ⟨rfl, hb9⟩; have HB9 : Hid (Below w.heap.size w w9) := HB.out.trans (hb9.mono HB.out.size))
            go_ret
            exact ⟨rfl, HB9.out⟩
  · go_wp2_with (go_at_call 7; refine (lives16_any _ (HT.out.below HB1.out)).mono ?_; rintro e w9 ⟨rfl, hb9⟩; have HB9 : Hid (Below w.heap.size w w9) := HB1.out.trans (hb9.mono HB1.out.size))
    go_ret
    exact ⟨rfl, HB9.out⟩
end Go.Proofs.YtohinfefidahlaaDoor

