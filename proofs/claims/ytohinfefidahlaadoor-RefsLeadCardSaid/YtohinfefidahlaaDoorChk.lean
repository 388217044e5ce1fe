/- refs.Check: of chapters without rows of tables. -/
import Derived.Test.YtohinfefidahlaaDoorEach
import Derived.Test.YtohinfefidahlaaDoorPlIn
namespace Go.Proofs.YtohinfefidahlaaDoor
open Go.RowKit
set_option linter.unusedVariables false

/-! ### what is told -/
def chkT (labs : List Bytes) (f : Bytes) (ln : Int) (ts : List Tm) : List Dg := (ts.filter fun t => decide (t.text ∉ labs)).map fun t => ⟨f, ln, 12, t.text⟩
theorem chkT_append (labs : List Bytes) (f : Bytes) (ln : Int) (a b : List Tm) : chkT labs f ln (a ++ b) = chkT labs f ln a ++ chkT labs f ln b := by unfold chkT; simp
theorem chkT_len (labs : List Bytes) (f : Bytes) (ln : Int) (ts : List Tm) : (chkT labs f ln ts).length ≤ ts.length := by unfold chkT; rw [List.length_map]; exact List.length_filter_le _ _
theorem chkT_take_succ (labs : List Bytes) (f : Bytes) (ln : Int) {ts : List Tm} {k : Nat} (h : k < ts.length) : chkT labs f ln (ts.take (k + 1)) = chkT labs f ln (ts.take k) ++ (if ts[k].text ∉ labs then [⟨f, ln, 12, ts[k].text⟩] else []) := by
  rw [List.take_succ_eq_append_getElem h, chkT_append]
  congr 1
  unfold chkT
  by_cases hm : ts[k].text ∈ labs
  · simp [hm]
  · simp [hm]
/-- what the closure of refs.Check works on -/
structure CkI (w : World) (B mb kc dc bc : Nat) (C : List Value) (labs : List Bytes) (f : Bytes) (ln : Int) (v : Value) (D : List Dg) : Prop where
  k1 : Bk w kc [.map (some mb)] 57
  mp : ∃ m, SMap w mb m ∧ LInv labs m
  d1 : Bk w dc [v] 26
  own : Own w B 53 4 encDg v D
  b1 : Bk w bc C 39 ∧ C[7]? = some (.string ⟨f.toArray⟩) ∧ C[8]? = some (.int .i64 ln)
  Bd : B ≤ dc
  nk : dc ≠ kc
  nm : dc ≠ mb
  nb : dc ≠ bc
section
variable {w w' : World} {B mb kc dc bc : Nat} {C : List Value} {labs : List Bytes} {f : Bytes} {ln : Int} {v v' : Value} {D D' : List Dg}
theorem CkI.next (h : CkI w B mb kc dc bc C labs f ln v D) (hb : Below w.heap.size w w') : CkI w' B mb kc dc bc C labs f ln v D := by
  obtain ⟨m, hm, hl⟩ := h.mp
  obtain ⟨hC, h7, h8⟩ := h.b1
  exact ⟨h.k1.next hb, ⟨m, hm.below hb hm.lt, hl⟩, h.d1.next hb, h.own.next rfl hb, ⟨hC.next hb, h7, h8⟩, h.Bd, h.nk, h.nm, h.nb⟩
theorem CkI.alloc (h : CkI w B mb kc dc bc C labs f ln v D) (o : Obj) : CkI (w.alloc o) B mb kc dc bc C labs f ln v D := h.next ((Below.refl _ _).alloc (Nat.le_refl _) o)
theorem CkI.sz (h : CkI w B mb kc dc bc C labs f ln v D) : B ≤ w.heap.size := Nat.le_trans h.Bd (Nat.le_of_lt h.d1.lt)
/-- one more is told, and the variable is written -/
theorem CkI.push (h : CkI w B mb kc dc bc C labs f ln v D) (hg : w.grownBy w' v.ownBlock) (ho : Own w' B 53 4 encDg v' D') : CkI (w'.setCell ⟨dc, 0, none⟩ v') B mb kc dc bc C labs f ln v' D' := by
  obtain ⟨m, hm, hl⟩ := h.mp
  obtain ⟨hC, h7, h8⟩ := h.b1
  have hd := h.d1.grownBy hg (h.own.ne_bk h.d1 (by decide))
  refine ⟨(h.k1.grownBy hg (h.own.ne_bk h.k1 (by decide))).set_other h.nk _ _, ⟨m, (hm.push h.own hg).setCell _, hl⟩, hd.set 0 _, ?_, ⟨(hC.grownBy hg (h.own.ne_bk hC (by decide))).set_other h.nb _ _, h7, h8⟩, h.Bd, h.nk, h.nm, h.nb⟩
  exact ho.set_other (ho.ne_bk hd (by decide)) _ _
end
def CkPost (B mb kc dc bc : Nat) (C : List Value) (labs : List Bytes) (f : Bytes) (ln : Int) (D : List Dg) (w : World) (e : Ending) (w' : World) : Prop :=
  e = .returned (.tuple #[]) ∧ (∃ v', CkI w' B mb kc dc bc C labs f ln v' D) ∧ Below B w w'

set_option maxHeartbeats 8000000 in
set_option maxRecDepth 100000 in
theorem chk1_any (B mb kc dc bc : Nat) (C : List Value) (labs : List Bytes) (f : Bytes) (ln : Int) (v : Value) (D : List Dg) (l : List Sp) (a : Option Addr) (c : Nat) (w : World) (hS : SpsAt w a l) (hz : szM nS l ≤ 20000) (hI : CkI w B mb kc dc bc C labs f ln v D) (hD : D.length ≤ 100000) :
    Calls Tryd.prog 22 #[.slice a l.length c, .pointer (some ⟨kc, 0, none⟩), .pointer (some ⟨dc, 0, none⟩), .pointer (some ⟨bc, 0, none⟩)] w (CkPost B mb kc dc bc C labs f ln (D ++ chkT labs f ln (eachL 4 l)) w) := by
  have HE := Lib.hid (each_any 4 l a c w hS hz)
  have HLE : Hid ((eachL 4 l).length ≤ 20000) := by show _ ≤ _; have := eachL_le 4 l; rw [nL_eq] at this; omega
  have HI := Lib.hid hI
  clear hS hI
  generalize eachL 4 l = ts at *
  go_enter Tryd.func22, Tryd.ntmps22
  go_wp2_with fail
  refine HE.out.mono ?_
  rintro e w1 ⟨⟨v1, L, rfl, hown, hL⟩, hb1⟩
  obtain ⟨a1, c1, rfl⟩ := hown.shape
  have hLL : L.length = ts.length := by rw [← hL, List.length_map]
  have hlt' : L.length ≤ 20000 := by rw [hLL]; exact HLE.out
  have HI1 := Lib.hid (HI.out.next hb1)
  have HB1 : Hid (Below B w w1) := hb1.mono HI.out.sz
  have HO := Lib.hid hown
  have HL := Lib.hid hL
  clear hown hL hb1 HE
  have HLN := Lib.hid hLL
  clear hLL
  go_wp2_with fail
  go_loopw [10] (fun v10 wr => ∃ j : Nat, j ≤ L.length ∧ v10 = .int .i64 j ∧ Hid (∃ v', CkI wr B mb kc dc bc C labs f ln v' (D ++ chkT labs f ln (ts.take j))) ∧ Hid (Own wr w.heap.size 47 5 encSk (.slice a1 L.length c1) L) ∧ Hid (Below B w wr)) (fun v10 _ => L.length - (intOf v10).toNat)
  case atStart => exact ⟨0, by omega, rfl, ⟨v, by rw [List.take_zero]; show CkI _ _ _ _ _ _ _ _ _ _ _ (D ++ []); rw [List.append_nil]; exact HI1.out⟩, HO.out, HB1.out⟩
  case round =>
    obtain ⟨j, hj, rfl, HJ, HA, HB⟩ := hrel
    by_cases hlt : j < L.length
    · obtain ⟨bb, off, ha, hbl, hc⟩ := (HA.out.addr encSk_ok).elem hlt
      subst ha
      have hjt : j < ts.length := by rw [← HLN.out]; exact hlt
      have HTS := Lib.hid (chkT_take_succ labs f ln hjt)
      have HTX : Hid (ts[j].text = L[j].text) := by
        show _ = _
        have h2 := HL.out
        have : ts[j]? = some (L[j].tm) := by rw [← h2, List.getElem?_map, List.getElem?_eq_getElem hlt]; rfl
        rw [List.getElem?_eq_getElem hjt] at this
        rw [Option.some.inj this]; rfl
      rw [HTX.out] at HTS
      have hcl := chkT_len labs f ln (ts.take j)
      rw [List.length_take] at hcl
      have hcl2 : (D ++ chkT labs f ln (ts.take j)).length ≤ 200000 := by rw [List.length_append]; have := HLE.out; omega
      clear HTX hcl
      have HTS2 : Hid (D ++ chkT labs f ln (ts.take (j + 1)) = (D ++ chkT labs f ln (ts.take j)) ++ (if L[j].text ∉ labs then [⟨f, ln, 12, L[j].text⟩] else [])) := by show _ = _; rw [HTS.out, List.append_assoc]
      clear HTS
      have HTS := HTS2
      clear HTS2
      generalize D ++ chkT labs f ln (ts.take j) = DD at *
      generalize L[j] = x at *
      obtain ⟨kd, tx, sb, se, ka, kn, kk⟩ := x
      dsimp only at HTS
      have d0 := hc 0 (.int .u8 kd) rfl
      have d1 := hc 1 (.string ⟨tx.toArray⟩) rfl
      have d2 := hc 2 (.string ⟨sb.toArray⟩) rfl
      have d3 := hc 3 (.string ⟨se.toArray⟩) rfl
      have d4 := hc 4 (.slice ka kn kk) rfl
      rw [Nat.add_zero] at d0
      clear hc hjt
      obtain ⟨v2, hI2⟩ := HJ.out
      have HI2 := Lib.hid hI2
      have HI3 := Lib.hid (hI2.alloc (.cells #[.int .u8 kd, .string ⟨tx.toArray⟩, .string ⟨sb.toArray⟩, .string ⟨se.toArray⟩, .slice ka kn kk] 47))
      have hsz2 := hI2.sz
      have hk1 := hI2.k1.cell 0
      change wr.cell? ⟨kc, 0, none⟩ = some (.map (some mb)) at hk1
      have hk2 := hI2.k1.lt
      have hd1 := hI2.d1.cell 0
      change wr.cell? ⟨dc, 0, none⟩ = some v2 at hd1
      have hd2 := hI2.d1.lt
      obtain ⟨hC, h7, h8⟩ := hI2.b1
      have hb7 := (hC.cell 7).trans h7
      have hb8 := (hC.cell 8).trans h8
      have hb2 := hC.lt
      obtain ⟨m, hm, hl⟩ := HI3.out.mp
      obtain ⟨nn, hn1, hn2, hn3⟩ := hl.val tx
      have HM := Lib.hid hm
      have HN1 := Lib.hid hn1
      have HN3 := Lib.hid hn3
      obtain ⟨a2, c2, hv2⟩ := hI2.own.shape
      subst hv2
      have HB3 : Hid (Below B w (wr.alloc (.cells #[.int .u8 kd, .string ⟨tx.toArray⟩, .string ⟨sb.toArray⟩, .string ⟨se.toArray⟩, .slice ka kn kk] 47))) := HB.out.alloc hsz2 _
      have HA3 := Lib.hid (HA.out.alloc (.cells #[.int .u8 kd, .string ⟨tx.toArray⟩, .string ⟨sb.toArray⟩, .string ⟨se.toArray⟩, .slice ka kn kk] 47))
      clear hI2 hC h7 h8 hm hl hn1 hn3 HJ HA HB
      go_wp2_with (refine hold_at 17 rfl ?_)
      constructor
      refine wpList_smap_lookup rfl _ _ 57 9 3 false rfl Tryd.underlying57 Tryd.underlying9 (.int .i64 0) (zeroI _) mb m HM.out tx rfl rfl ?_
      rw [if_neg (by decide), HN1.out]
      by_cases hin : tx ∈ labs
      · have hpos : 0 < nn := HN3.out.2 hin
        have hne : ((nn : Int) == 0) = false := beq_eq_false_iff_ne.2 (by omega)
        rw [if_neg (fun h => h hin), List.append_nil] at HTS
        clear hin
        go_wp2_with fail
        go_roundw
        case rel => exact ⟨j + 1, by omega, by go_num, ⟨_, by rw [HTS.out]; exact HI3.out⟩, HA3.out, HB3.out⟩
        case measure => simp [intOf]; omega
      · obtain rfl : nn = 0 := Nat.eq_zero_of_not_pos fun h => hin (HN3.out.1 h)
        rw [if_pos hin] at HTS
        clear hin
        go_wp2_with (at_builtin; refine Hld.out ?_)
        constructor
        have HI4 := Lib.hid (HI3.out.alloc (.cells #[.string ⟨f.toArray⟩, .int .i64 ln, .int .i64 12, .string ⟨tx.toArray⟩] 53))
        refine wpList_push2 rfl _ _ 26 rfl B 53 4 48 sldg encDg encDg_ok (.slice a2 DD.length c2) DD rfl HI4.out.own ⟨f, ln, 12, tx⟩ (wr.heap.size + 1) rfl ?_ (by omega) (by unfold maxLen; omega) HI4.out.sz ?_
        · intro j u hj
          have h := (Bk.new (wr.alloc (.cells #[.int .u8 kd, .string ⟨tx.toArray⟩, .string ⟨sb.toArray⟩, .string ⟨se.toArray⟩, .slice ka kn kk] 47)) #[.string ⟨f.toArray⟩, .int .i64 ln, .int .i64 12, .string ⟨tx.toArray⟩] 53).cell j
          rw [World.size_alloc] at h
          exact h.trans hj
        intro v3 w3 ho hg _
        obtain ⟨a3, c3, hv3⟩ := ho.shape
        rw [show (DD ++ [(⟨f, ln, 12, tx⟩ : Dg)]).length = DD.length + 1 by simp] at hv3
        subst hv3
        have HP := Lib.hid (HI4.out.push hg ho)
        have hd3 := HI4.out.d1.grownBy hg (HI4.out.own.ne_bk HI4.out.d1 (by decide))
        have q1 := hd3.cell 0
        have q2 := hd3.free 0
        have HA4 : Hid (Own (w3.setCell ⟨dc, 0, none⟩ (.slice a3 (DD.length + 1) c3)) w.heap.size 47 5 encSk (.slice (some ⟨bb, off, none⟩) L.length c1) L) :=
          ((HA3.out.alloc _).grown hg (fun k hk e => (HA3.out.alloc _).ne_own HI4.out.own (by decide) k hk e)).set_other (fun e => by have := (HA3.out.block dc e).1; have := HI.out.d1.lt; omega) _ _
        have HB4 : Hid (Below B w (w3.setCell ⟨dc, 0, none⟩ (.slice a3 (DD.length + 1) c3))) :=
          ((HB3.out.alloc (by simp; omega) _).grown hg (by simp; omega) (fun k hk => (HI4.out.own.block k hk).1)).setCell HI4.out.Bd _
        clear ho hg hd3 d0 d1 d2 d3 d4 hk1 hd1 hb7 hb8
        go_wp2_with fail
        go_roundw
        case rel => exact ⟨j + 1, by omega, by go_num, ⟨_, by rw [HTS.out]; exact HP.out⟩, HA4.out, HB4.out⟩
        case measure => simp [intOf]; omega
    · obtain rfl : j = L.length := by omega
      rw [HLN.out, List.take_length] at HJ
      go_wp2_with fail
      go_end0
      exact ⟨rfl, HJ.out, HB.out⟩
end Go.Proofs.YtohinfefidahlaaDoor

