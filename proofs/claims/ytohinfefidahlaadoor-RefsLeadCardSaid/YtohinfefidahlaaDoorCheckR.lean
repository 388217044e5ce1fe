/- refs.Check: of chapters without rows of tables; any places. -/
import Derived.Test.YtohinfefidahlaaDoorChk
import Derived.Test.YtohinfefidahlaaDoorPlLaw
namespace Go.Proofs.YtohinfefidahlaaDoor
open Go.RowKit
set_option linter.unusedVariables false

def nBl (b : Bl) : Nat := 1 + szM nS b.sl
def nCh (c : Ch) : Nat := 1 + szM nBl c.bl
def labsP (ps : List Pl) : List Bytes := (ps.map Pl.label).filter fun s => decide (s ≠ [])
theorem labsP_succ {ps : List Pl} {k : Nat} (h : k < ps.length) : labsP (ps.take (k + 1)) = if ps[k].label = [] then labsP (ps.take k) else labsP (ps.take k) ++ [ps[k].label] := by
  unfold labsP
  rw [List.take_succ_eq_append_getElem h, List.map_append, List.filter_append]
  by_cases hl : ps[k].label = []
  · simp [hl]
  · simp [hl]
theorem labsP_len (ps : List Pl) : (labsP ps).length ≤ ps.length := by
  unfold labsP
  have := List.length_filter_le (fun s : Bytes => decide (s ≠ [])) (ps.map Pl.label)
  rwa [List.length_map] at this
def chkBl (labs : List Bytes) (b : Bl) : List Dg := chkT labs b.file b.line (eachL 4 b.sl)
def chkBs (labs : List Bytes) (bs : List Bl) : List Dg := bs.flatMap (chkBl labs)
def chkCs (labs : List Bytes) (l : List Ch) : List Dg := l.flatMap fun c => chkBs labs c.bl
theorem flat_le {α β : Type} {f : α → List β} {g : α → Nat} (h : ∀ x, (f x).length ≤ g x) : ∀ l : List α, (l.flatMap f).length ≤ sumM g l
  | [] => by simp [sumM]
  | x :: l => by rw [List.flatMap_cons, List.length_append, sumM_cons]; have := h x; have := flat_le h l; omega
theorem flat_take_succ {α β : Type} (f : α → List β) {l : List α} {k : Nat} (h : k < l.length) : (l.take (k + 1)).flatMap f = (l.take k).flatMap f ++ f l[k] := by
  rw [List.take_succ_eq_append_getElem h, List.flatMap_append]; simp
theorem chkBl_le (labs : List Bytes) (b : Bl) : (chkBl labs b).length ≤ nBl b := by
  have h1 := chkT_len labs b.file b.line (eachL 4 b.sl)
  have h2 := eachL_le 4 b.sl
  rw [nL_eq] at h2
  unfold chkBl nBl; omega
theorem chkBs_le (labs : List Bytes) (bs : List Bl) : (chkBs labs bs).length ≤ sumM nBl bs := flat_le (chkBl_le labs) bs
theorem chkCs_le (labs : List Bytes) (l : List Ch) : (chkCs labs l).length ≤ sumM nCh l := flat_le (fun c => by
  have := chkBs_le labs c.bl
  unfold nCh szM; omega) l

/-- what holds between two calls of the closure -/
structure CkB (w : World) (B mb kc dc : Nat) (labs : List Bytes) (v : Value) (D : List Dg) : Prop where
  k1 : Bk w kc [.map (some mb)] 57
  mp : ∃ m, SMap w mb m ∧ LInv labs m
  d1 : Bk w dc [v] 26
  own : Own w B 53 4 encDg v D
  Bd : B ≤ dc
  nk : dc ≠ kc
  nm : dc ≠ mb
section
variable {w w' : World} {B mb kc dc bc : Nat} {C : List Value} {labs : List Bytes} {f : Bytes} {ln : Int} {v v' : Value} {D D' : List Dg}
theorem CkI.toB (h : CkI w B mb kc dc bc C labs f ln v D) : CkB w B mb kc dc labs v D := ⟨h.k1, h.mp, h.d1, h.own, h.Bd, h.nk, h.nm⟩
theorem CkB.next (h : CkB w B mb kc dc labs v D) (hb : Below w.heap.size w w') : CkB w' B mb kc dc labs v D := by
  obtain ⟨m, hm, hl⟩ := h.mp
  exact ⟨h.k1.next hb, ⟨m, hm.below hb hm.lt, hl⟩, h.d1.next hb, h.own.next rfl hb, h.Bd, h.nk, h.nm⟩
theorem CkB.alloc (h : CkB w B mb kc dc labs v D) (o : Obj) : CkB (w.alloc o) B mb kc dc labs v D := h.next ((Below.refl _ _).alloc (Nat.le_refl _) o)
theorem CkB.sz (h : CkB w B mb kc dc labs v D) : B ≤ w.heap.size := Nat.le_trans h.Bd (Nat.le_of_lt h.d1.lt)
theorem CkB.at (h : CkB w B mb kc dc labs v D) (hC : Bk w bc C 39) (h7 : C[7]? = some (.string ⟨f.toArray⟩)) (h8 : C[8]? = some (.int .i64 ln)) (hn : dc ≠ bc) : CkI w B mb kc dc bc C labs f ln v D := ⟨h.k1, h.mp, h.d1, h.own, ⟨hC, h7, h8⟩, h.Bd, h.nk, h.nm, hn⟩
end
def CheckGives (w : World) (D : List Dg) (e : Ending) (w' : World) : Prop := (∃ v, e = .returned v ∧ Own w' w.heap.size 53 4 encDg v D) ∧ Below w.heap.size w w'
set_option maxHeartbeats 8000000 in
set_option maxRecDepth 100000 in
theorem check_any (l : List Ch) (a : Option Addr) (c : Nat) (ps : List Pl) (pa : Option Addr) (pc : Nat) (w : World) (hA : ChsAt w a l) (hsz : szM nCh l ≤ 20000) (hP : At w 6 encPl pa ps) (hps : ps.length ≤ 20000) (hR : ∀ x ∈ l, ∀ b ∈ x.bl, b.rl = []) :
    Calls Tryd.prog 11 #[.slice a l.length c, .slice pa ps.length pc] w (CheckGives w (chkCs (labsP ps) l)) := by
  have HA := Lib.hid hA
  have HSZ := Lib.hid hsz
  have HP := Lib.hid hP
  have HR := Lib.hid hR
  have hll : l.length ≤ 20000 := by unfold szM at hsz; omega
  clear hA hsz hP hR
  have hmm := @run_makeMap Tryd.prog
  have hmf : ∀ (fn : Fn) (first cap : Array Value) (w : World), (Instr.makeFunc fn first cap).run Tryd.prog w = .ok (.func fn first cap) w := fun _ _ _ _ => rfl
  go_enter Tryd.func11, Tryd.ntmps11
  go_wp2_with fail
  go_loopw [21] (fun v21 wr => ∃ k : Nat, k ≤ ps.length ∧ v21 = .int .i64 k ∧ Hid (Bk wr (w.heap.size + 1) [.map (some w.heap.size)] 57) ∧ Hid (∃ m, SMap wr w.heap.size m ∧ LInv (labsP (ps.take k)) m) ∧ Hid (Below w.heap.size w wr)) (fun v21 _ => ps.length - (intOf v21).toNat)
  case atStart =>
    refine ⟨0, by omega, rfl, ?_, ⟨[], (SMap.new w).alloc _, LInv.nil⟩, ((Below.refl _ _).alloc (Nat.le_refl _) _).alloc (by simp) _⟩
    have h := Bk.new (w.alloc (.map #[] 0)) #[.map (some w.heap.size)] 57
    rw [World.size_alloc] at h
    exact h
  case round =>
    obtain ⟨k, hk, rfl, HK, HM, HB⟩ := hrel
    by_cases hlt : k < ps.length
    · obtain ⟨bb, off, ha, hbl, hc⟩ := (HP.out.below HB.out).elem hlt
      subst ha
      have hz := HB.out.size
      have HLS := Lib.hid (labsP_succ hlt)
      have hll2 := labsP_len (ps.take k)
      rw [List.length_take] at hll2
      have hll3 : (labsP (ps.take k)).length ≤ 20000 := by omega
      clear hll2
      generalize ps[k] = q at *
      have d0 := hc 0 (.string ⟨q.label.toArray⟩) rfl
      have d1 := hc 1 (.int .u8 q.kind) rfl
      have d2 := hc 2 (.string ⟨q.number.toArray⟩) rfl
      have d3 := hc 3 (.string ⟨q.title.toArray⟩) rfl
      have d4 := hc 4 (.string ⟨q.page.toArray⟩) rfl
      have d5 := hc 5 (.string ⟨q.anchor.toArray⟩) rfl
      rw [Nat.add_zero] at d0
      clear hc
      by_cases hq : q.label = []
      · have hqe : q.label.isEmpty = true := by rw [hq]; rfl
        rw [if_pos hq] at HLS
        clear hq
        go_wp2_with fail
        go_roundw
        case rel =>
          obtain ⟨m, hm, hl⟩ := HM.out
          exact ⟨k + 1, by omega, by go_num, HK.out.alloc _, ⟨m, hm.alloc _, by rw [HLS.out]; exact hl⟩, HB.out.alloc hz _⟩
        case measure => simp [intOf]; omega
      · have hqe : q.label.isEmpty = false := by
          cases hx : q.label with
          | nil => exact absurd hx hq
          | cons _ _ => rfl
        rw [if_neg hq] at HLS
        clear hq
        have HK2 := Lib.hid (HK.out.alloc (.cells #[.string ⟨q.label.toArray⟩, .int .u8 q.kind, .string ⟨q.number.toArray⟩, .string ⟨q.title.toArray⟩, .string ⟨q.page.toArray⟩, .string ⟨q.anchor.toArray⟩] 41))
        have HB2 : Hid (Below w.heap.size w (wr.alloc (.cells #[.string ⟨q.label.toArray⟩, .int .u8 q.kind, .string ⟨q.number.toArray⟩, .string ⟨q.title.toArray⟩, .string ⟨q.page.toArray⟩, .string ⟨q.anchor.toArray⟩] 41))) := HB.out.alloc hz _
        obtain ⟨m, hm, hl⟩ := HM.out
        have HM2 := Lib.hid (hm.alloc (.cells #[.string ⟨q.label.toArray⟩, .int .u8 q.kind, .string ⟨q.number.toArray⟩, .string ⟨q.title.toArray⟩, .string ⟨q.page.toArray⟩, .string ⟨q.anchor.toArray⟩] 41))
        obtain ⟨nn, hn1, hn2, hn3⟩ := hl.val q.label
        have HN1 := Lib.hid hn1
        have HL := Lib.hid hl
        have hk1 := HK.out.cell 0
        change wr.cell? ⟨w.heap.size + 1, 0, none⟩ = some (.map (some w.heap.size)) at hk1
        have hk2 := HK.out.lt
        have hnn : nn ≤ 20000 := by omega
        clear hm hl hn1 hn3 HK HB HM
        go_wp2_with (refine hold_at 31 rfl ?_)
        constructor
        refine wpList_smap_lookup rfl _ _ 57 9 3 false rfl Tryd.underlying57 Tryd.underlying9 (.int .i64 0) (zeroI _) w.heap.size m HM2.out q.label rfl rfl ?_
        rw [if_neg (by decide), HN1.out]
        go_wp2_with (refine hold_op (.mapUpdate 57 (.tmp 28) (.tmp 30) (.tmp 32)) rfl ?_)
        constructor
        refine wpList_smap_put rfl _ _ _ 57 9 3 (.inl rfl) Tryd.underlying57 Tryd.underlying9 w.heap.size m HM2.out q.label (.int .i64 ((nn : Int) + 1)) rfl rfl (by first | rfl | (show Value.int .i64 _ = _; congr 1; omega)) ?_
        intro wz hmz hgz hsz2
        have HMZ := Lib.hid hmz
        have HLZ := Lib.hid (HL.out.put q.label (n := nn) (by omega))
        have HKZ := Lib.hid (HK2.out.grownBy hgz (by intro e; injection e with e; omega))
        have HBZ : Hid (Below w.heap.size w wz) := HB2.out.grown hgz (by have := HB2.out.size; omega) (fun k hk => by injection hk with hk; omega)
        clear hgz hmz hsz2
        go_wp2_with fail
        go_roundw
        case rel => exact ⟨k + 1, by omega, by go_num, HKZ.out, ⟨_, HMZ.out, by rw [HLS.out]; exact HLZ.out⟩, HBZ.out⟩
        case measure => simp [intOf]; omega
    · obtain rfl : k = ps.length := by omega
      rw [List.take_length] at HM
      have hz := HB.out.size
      have HB2 : Hid (Below w.heap.size w (wr.alloc (.cells #[.slice none 0 0] 26))) := HB.out.alloc hz _
      have HCB : Hid (CkB (wr.alloc (.cells #[.slice none 0 0] 26)) w.heap.size w.heap.size (w.heap.size + 1) wr.heap.size (labsP ps) (.slice none 0 0) []) := by
        obtain ⟨m, hm, hl⟩ := HM.out
        have h1 := HK.out.lt
        exact ⟨HK.out.alloc _, ⟨m, hm.alloc _, hl⟩, Bk.new _ _ _, Own.nil _ _ _ _ _, hz, by omega, by omega⟩
      clear HK HM HB
      go_wp2_with fail
      generalize hdc : wr.heap.size = dc at *
      clear hdc
      go_loopw [36] (fun v36 wx => ∃ i : Nat, i ≤ l.length ∧ v36 = .int .i64 i ∧ Hid (∃ v, CkB wx w.heap.size w.heap.size (w.heap.size + 1) dc (labsP ps) v (chkCs (labsP ps) (l.take i))) ∧ Hid (Below w.heap.size w wx)) (fun v36 _ => l.length - (intOf v36).toNat)
      case atStart => exact ⟨0, by omega, rfl, ⟨_, HCB.out⟩, HB2.out⟩
      case round =>
        obtain ⟨i, hi, rfl, HC, HBX⟩ := hrel
        by_cases hil : i < l.length
        · obtain ⟨bb, off, ha, hbl, hc⟩ := (HA.out.keep HBX.out).1.elem hil
          subst ha
          have HCI : Hid (ChIn w l[i]) := HA.out.2 _ (List.getElem_mem hil)
          have HSC := Lib.hid (szM_mem nCh (List.getElem_mem hil))
          have HRC := Lib.hid (HR.out _ (List.getElem_mem hil))
          have HTS : Hid (chkCs (labsP ps) (l.take (i + 1)) = chkCs (labsP ps) (l.take i) ++ chkBs (labsP ps) l[i].bl) := flat_take_succ _ hil
          have HCL : Hid ((chkCs (labsP ps) (l.take i)).length + nCh l[i] ≤ 20000) := by
            show _ ≤ _
            have h1 := chkCs_le (labsP ps) (l.take i)
            have h2 := sumM_take_le nCh l (i + 1)
            rw [sumM_take_succ nCh hil] at h2
            have h3 := HSZ.out
            unfold szM at h3
            omega
          generalize l[i] = x at *
          obtain ⟨nm, ba, bc, bl, da, dcc, dl, fa, fc, fl, aa, ac, al, ua, uc, ul⟩ := x
          have c0 := hc 0 (.string ⟨nm.toArray⟩) rfl
          have c1 := hc 1 (.slice ba bl.length bc) rfl
          have c2 := hc 2 (.slice da dl.length dcc) rfl
          have c3 := hc 3 (.slice fa fl.length fc) rfl
          have c4 := hc 4 (.slice aa al.length ac) rfl
          have c5 := hc 5 (.slice ua ul.length uc) rfl
          rw [Nat.add_zero] at c0
          clear hc
          have HBL : Hid (BlsAt w ba bl) := HCI.out.bls
          have HRB : Hid (∀ b ∈ bl, b.rl = []) := HRC.out
          have HTS : Hid (chkCs (labsP ps) (l.take (i + 1)) = chkCs (labsP ps) (l.take i) ++ chkBs (labsP ps) bl) := HTS
          have HZB : Hid ((chkCs (labsP ps) (l.take i)).length + (szM nBl bl) ≤ 20000) := by
            show _ ≤ _
            have h1 := HCL.out
            change (chkCs (labsP ps) (l.take i)).length + (1 + szM nBl bl) ≤ 20000 at h1
            omega
          have hbln : bl.length ≤ 20000 := by have := HZB.out; unfold szM at this; omega
          clear HCI HSC HRC HCL
          obtain ⟨v0, hv0⟩ := HC.out
          have HV0 := Lib.hid (hv0.alloc (.cells #[.string ⟨nm.toArray⟩, .slice ba bl.length bc, .slice da dl.length dcc, .slice fa fl.length fc, .slice aa al.length ac, .slice ua ul.length uc] 30))
          have HB0 : Hid (Below w.heap.size w (wr.alloc (.cells #[.string ⟨nm.toArray⟩, .slice ba bl.length bc, .slice da dl.length dcc, .slice fa fl.length fc, .slice aa al.length ac, .slice ua ul.length uc] 30))) := HBX.out.alloc hv0.sz _
          clear hv0 HC HBX
          generalize chkCs (labsP ps) (l.take i) = DD at *
          go_wp2_with fail
          clear c0 c1 c2 c3 c4 c5
          go_loopw [43] (fun v43 wx => ∃ j : Nat, j ≤ bl.length ∧ v43 = .int .i64 j ∧ Hid (∃ v, CkB wx w.heap.size w.heap.size (w.heap.size + 1) dc (labsP ps) v (DD ++ chkBs (labsP ps) (bl.take j))) ∧ Hid (Below w.heap.size w wx)) (fun v43 _ => bl.length - (intOf v43).toNat)
          case atStart => exact ⟨0, by omega, rfl, ⟨v0, by rw [List.take_zero]; show CkB _ _ _ _ _ _ _ (DD ++ []); rw [List.append_nil]; exact HV0.out⟩, HB0.out⟩
          case round =>
            obtain ⟨j, hj, rfl, HJ, HBJ⟩ := hrel
            by_cases hjl : j < bl.length
            · obtain ⟨b2, off2, ha2, hbl2, hc2⟩ := (HBL.out.keep HBJ.out).1.elem hjl
              subst ha2
              have HBI : Hid (BlIn w bl[j]) := HBL.out.2 _ (List.getElem_mem hjl)
              have HTJ : Hid (chkBs (labsP ps) (bl.take (j + 1)) = chkBs (labsP ps) (bl.take j) ++ chkBl (labsP ps) bl[j]) := flat_take_succ _ hjl
              have HRJ := Lib.hid (HRB.out _ (List.getElem_mem hjl))
              have HSX := Lib.hid (szM_mem nBl (List.getElem_mem hjl))
              have HDL : Hid ((DD ++ chkBs (labsP ps) (bl.take j)).length ≤ 20000) := by
                show _ ≤ _
                have h1 := chkBs_le (labsP ps) (bl.take j)
                have h2 := sumM_take_le nBl bl j
                have h3 := HZB.out
                unfold szM at h3
                rw [List.length_append]; omega
              generalize bl[j] = b at *
              obtain ⟨kd, lv, od, lb, tx, sa, sc, sl, ra, rc, rl, fi, ln⟩ := b
              obtain rfl : rl = [] := HRJ.out
              have d0 := hc2 0 (.int .u8 kd) rfl
              have d1 := hc2 1 (.int .i64 lv) rfl
              have d2 := hc2 2 (.bool od) rfl
              have d3 := hc2 3 (.string ⟨lb.toArray⟩) rfl
              have d4 := hc2 4 (.string ⟨tx.toArray⟩) rfl
              have d5 := hc2 5 (.slice sa sl.length sc) rfl
              have d6 := hc2 6 (.slice ra 0 rc) rfl
              have d7 := hc2 7 (.string ⟨fi.toArray⟩) rfl
              have d8 := hc2 8 (.int .i64 ln) rfl
              rw [Nat.add_zero] at d0
              clear hc2
              have HSP : Hid (SpsAt w sa sl) := HBI.out.1
              have HSL : Hid (szM nS sl ≤ 20000) := by
                show _ ≤ _
                have h1 := HSX.out
                have h2 := HZB.out
                change 1 + szM nS sl + bl.length ≤ szM nBl bl at h1
                omega
              have HTJ : Hid (chkBs (labsP ps) (bl.take (j + 1)) = chkBs (labsP ps) (bl.take j) ++ chkT (labsP ps) fi ln (eachL 4 sl)) := HTJ
              obtain ⟨v1, hv1⟩ := HJ.out
              have hdl := hv1.d1.lt
              have HV1 := Lib.hid ((hv1.alloc (.cells #[.int .u8 kd, .int .i64 lv, .bool od, .string ⟨lb.toArray⟩, .string ⟨tx.toArray⟩, .slice sa sl.length sc, .slice ra 0 rc, .string ⟨fi.toArray⟩, .int .i64 ln] 39)).at (Bk.new wr #[.int .u8 kd, .int .i64 lv, .bool od, .string ⟨lb.toArray⟩, .string ⟨tx.toArray⟩, .slice sa sl.length sc, .slice ra 0 rc, .string ⟨fi.toArray⟩, .int .i64 ln] 39) rfl rfl (by omega) (f := fi) (ln := ln))
              have HB1 : Hid (Below w.heap.size w (wr.alloc (.cells #[.int .u8 kd, .int .i64 lv, .bool od, .string ⟨lb.toArray⟩, .string ⟨tx.toArray⟩, .slice sa sl.length sc, .slice ra 0 rc, .string ⟨fi.toArray⟩, .int .i64 ln] 39))) := HBJ.out.alloc hv1.sz _
              clear hv1 HJ HBJ HBI HSX HRJ
              go_wp2_with (go_at_call 22; refine (chk1_any w.heap.size w.heap.size (w.heap.size + 1) dc wr.heap.size _ (labsP ps) fi ln v1 _ sl sa sc _ (HSP.out.keep HB1.out) HSL.out HV1.out (by have := HDL.out; omega)).mono ?_; rintro e w3 ⟨rfl, ⟨v3, hI3⟩, hb3⟩; have HI3 := Lib.hid hI3; have b6 := hI3.b1.1.cell 6; change w3.cell? ⟨wr.heap.size, 6, none⟩ = some (.slice ra 0 rc) at b6; have HB3 : Hid (Below w.heap.size w w3) := HB1.out.trans hb3; clear hb3)
              refine wp_loop_rounds 1 ?_
              rw [rounds_succ]
              go_wp2_with fail
              go_roundw
              case rel => exact ⟨j + 1, by omega, by go_num, ⟨v3, by rw [HTJ.out, ← List.append_assoc]; exact HI3.out.toB⟩, HB3.out⟩
              case measure => simp [intOf]; omega
            · obtain rfl : j = bl.length := by omega
              rw [List.take_length] at HJ
              go_wp2_with fail
              go_roundw
              case rel => exact ⟨i + 1, by omega, by go_num, by rw [HTS.out]; exact HJ.out, HBJ.out⟩
              case measure => simp [intOf]; omega
        · obtain rfl : i = l.length := by omega
          rw [List.take_length] at HC
          obtain ⟨v, hv⟩ := HC.out
          have HV := Lib.hid hv
          have o0 := hv.d1.cell 0
          change wr.cell? ⟨dc, 0, none⟩ = some v at o0
          obtain ⟨av, cv, hv2⟩ := hv.own.shape
          subst hv2
          clear hv HC
          go_wp2_with fail
          go_ret
          exact ⟨⟨_, rfl, HV.out.own⟩, HBX.out⟩
end Go.Proofs.YtohinfefidahlaaDoor

