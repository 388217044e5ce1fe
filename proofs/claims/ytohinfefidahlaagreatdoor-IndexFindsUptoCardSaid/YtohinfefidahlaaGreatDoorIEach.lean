/- index.each: the terms of a block are put, in order. -/
import Derived.Test.YtohinfefidahlaaGreatDoorPut
namespace Go.Proofs.YtohinfefidahlaaGreatDoor
set_option linter.unusedSimpArgs false
open Go.RowKit
set_option linter.unusedVariables false

/-- where `each` stands: so many terms are put -/
def EI (B top bt bh bw bb : Nat) (here : LoK) (b : Bl) (tl : List Tl) (ws : List Dg) (D : Path → Nd) (v : Value) (w0 : World) (pre : List Tm) (w : World) : Prop :=
  ∃ D' v', BI w B top bt bh bw bb here b (tl ++ tlsOf here pre) (ws ++ wsOf b pre) D' v' ∧ BFr top bw tl (tl ++ tlsOf here pre) D D' v v' w0 w
section
variable {w0 w w' : World} {B top bt bh bw bb : Nat} {here : LoK} {b : Bl} {tl : List Tl} {ws : List Dg} {D : Path → Nd} {v : Value} {pre : List Tm}
theorem EI.next (h : EI B top bt bh bw bb here b tl ws D v w0 pre w) (hb : Below w.heap.size w w') : EI B top bt bh bw bb here b tl ws D v w0 pre w' := by
  obtain ⟨D', v', h1, h2⟩ := h
  exact ⟨D', v', h1.next hb, h2.trans (BFr.of_below hb)⟩
theorem EI.start (h : BI w B top bt bh bw bb here b tl ws D v) : EI B top bt bh bw bb here b tl ws D v w [] w :=
  ⟨D, v, by show BI _ _ _ _ _ _ _ _ _ (tl ++ []) (ws ++ []) _ _; rw [List.append_nil, List.append_nil]; exact h, by show BFr _ _ _ (tl ++ []) _ _ _ _ _ _; rw [List.append_nil]; exact BFr.of_below (Below.refl _ _)⟩
theorem EI.below (h : EI B top bt bh bw bb here b tl ws D v w0 pre w) (h0 : BI w0 B top bt bh bw bb here b tl ws D v) : Below B w0 w := by
  obtain ⟨D', v', h1, h2⟩ := h
  exact h2.kept.below (fun g hg => (h0.lt hg).1) h0.size
theorem EI.size (h : EI B top bt bh bw bb here b tl ws D v w0 pre w) : w0.heap.size ≤ w.heap.size := by
  obtain ⟨D', v', h1, h2⟩ := h
  exact h2.kept.size
theorem tlsOf_append (here : LoK) (l m : List Tm) : tlsOf here (l ++ m) = tlsOf here l ++ tlsOf here m := by unfold tlsOf; rw [List.map_append]
theorem wsOf_append (b : Bl) (l m : List Tm) : wsOf b (l ++ m) = wsOf b l ++ wsOf b m := by unfold wsOf; rw [List.filterMap_append]
/-- a stretch of terms more -/
theorem EI.comp (h : EI B top bt bh bw bb here b tl ws D v w0 pre w) {more : List Tm}
    (k : ∀ D1 v1, BI w B top bt bh bw bb here b (tl ++ tlsOf here pre) (ws ++ wsOf b pre) D1 v1 → EI B top bt bh bw bb here b (tl ++ tlsOf here pre) (ws ++ wsOf b pre) D1 v1 w more w') : EI B top bt bh bw bb here b tl ws D v w0 (pre ++ more) w' := by
  obtain ⟨D1, v1, h1, h2⟩ := h
  obtain ⟨D2, v2, h3, h4⟩ := k D1 v1 h1
  refine ⟨D2, v2, ?_, ?_⟩
  · rw [tlsOf_append, wsOf_append, ← List.append_assoc, ← List.append_assoc]; exact h3
  · rw [tlsOf_append, ← List.append_assoc]; exact h2.trans h4
end
/-- a row of terms of the call's own is not written to -/
theorem EI.row {w0 w : World} {B top bt bh bw bb : Nat} {here : LoK} {b : Bl} {tl : List Tl} {ws : List Dg} {D : Path → Nd} {v : Value} {pre : List Tm} {B' : Nat} {e : TypeId} {sz : Nat} {α : Type} {enc : α → List Value} {u : Value} {l : List α}
    (h : EI B top bt bh bw bb here b tl ws D v w0 pre w) (hO : Own w0 B' e sz enc u l) (hN : ∀ g, u.ownBlock = some g → ¬ BF top bw tl D v g) : Own w B' e sz enc u l := by
  obtain ⟨D', v', h1, h2⟩ := h
  exact h2.kept.own hO hN
theorem tlsOf_len (here : LoK) (l : List Tm) : (tlsOf here l).length = l.length := by unfold tlsOf; rw [List.length_map]
theorem wsOf_len (b : Bl) (l : List Tm) : (wsOf b l).length ≤ l.length := List.length_filterMap_le _ _
theorem EI.snoc {w0 w : World} {B top bt bh bw bb : Nat} {here : LoK} {b : Bl} {tl : List Tl} {ws : List Dg} {D : Path → Nd} {v : Value} {pre : List Tm} (h : EI B top bt bh bw bb here b tl ws D v w0 pre w) (kd : Nat) (t : Tm) (ka : Option Addr) (kn kc : Nat) (hl : tl.length + pre.length ≤ 1000000) (hl2 : ws.length + pre.length ≤ 1000000) :
    Calls Tryz.prog 91 #[.agg #[.int .u8 kd, .string ⟨t.text.toArray⟩, .string ⟨t.sub.toArray⟩, .string ⟨t.see.toArray⟩, .slice ka kn kc], .pointer (some ⟨bt, 0, none⟩), .pointer (some ⟨bh, 0, none⟩), .pointer (some ⟨bw, 0, none⟩), .pointer (some ⟨bb, 0, none⟩)] w
      fun e w' => e = .returned (.tuple #[]) ∧ EI B top bt bh bw bb here b tl ws D v w0 (pre ++ [t]) w' := by
  obtain ⟨D2, v2, hB2, hF2⟩ := h
  refine (bput_any hB2 kd t ka kn kc (by rw [List.length_append, tlsOf_len]; exact hl) (by rw [List.length_append]; have := wsOf_len b pre; omega)).mono ?_
  rintro e w3 ⟨D3, v3, rfl, hB3, hF3⟩
  refine ⟨rfl, D3, v3, ?_, ?_⟩
  · rw [tlsOf_snoc, wsOf_snoc, ← List.append_assoc, ← List.append_assoc]; exact hB3
  · rw [tlsOf_snoc, ← List.append_assoc]; exact hF2.trans hF3
theorem EI.from {w0 w1 w : World} {B top bt bh bw bb : Nat} {here : LoK} {b : Bl} {tl : List Tl} {ws : List Dg} {D : Path → Nd} {v : Value} {pre : List Tm} (h : EI B top bt bh bw bb here b tl ws D v w1 pre w) (hb : Below w0.heap.size w0 w1) : EI B top bt bh bw bb here b tl ws D v w0 pre w := by
  obtain ⟨D', v', h1, h2⟩ := h
  exact ⟨D', v', h1, (BFr.of_below hb).trans h2⟩
theorem tmsC_append (a c : List Ce) : tmsC (a ++ c) = tmsC a ++ tmsC c := by unfold tmsC; rw [List.flatMap_append]
theorem tmsR_append (a c : List Rw) : tmsR (a ++ c) = tmsR a ++ tmsR c := by unfold tmsR; rw [List.flatMap_append]
theorem tmsC_succ {l : List Ce} {j : Nat} (h : j < l.length) : tmsC (l.take (j + 1)) = tmsC (l.take j) ++ eachL 5 l[j].sl := by
  rw [List.take_succ_eq_append_getElem h, tmsC_append]
  congr 1
  unfold tmsC; simp
theorem tmsR_succ {l : List Rw} {j : Nat} (h : j < l.length) : tmsR (l.take (j + 1)) = tmsR (l.take j) ++ tmsC l[j].cl := by
  rw [List.take_succ_eq_append_getElem h, tmsR_append]
  congr 1
  unfold tmsR; simp
theorem tmsC_take_le (l : List Ce) (j : Nat) : (tmsC (l.take j)).length ≤ (tmsC l).length := by
  have h := congrArg (fun m => (tmsC m).length) (List.take_append_drop j l)
  simp only [tmsC_append, List.length_append] at h
  omega
theorem tmsR_take_le (l : List Rw) (j : Nat) : (tmsR (l.take j)).length ≤ (tmsR l).length := by
  have h := congrArg (fun m => (tmsR m).length) (List.take_append_drop j l)
  simp only [tmsR_append, List.length_append] at h
  omega
theorem EI.bk {w0 w : World} {B top bt bh bw bb : Nat} {here : LoK} {b : Bl} {tl : List Tl} {ws : List Dg} {D : Path → Nd} {v : Value} {pre : List Tm} {g : Nat} {C : List Value} {T : TypeId}
    (h : EI B top bt bh bw bb here b tl ws D v w0 pre w) (hk : Bk w0 g C T) (hN : ¬ BF top bw tl D v g) : Bk w g C T := by
  obtain ⟨D', v', h1, h2⟩ := h
  exact h2.kept.bk hk hN
def EachI (B top bt bh bw bb : Nat) (here : LoK) (b : Bl) (tl : List Tl) (ws : List Dg) (D : Path → Nd) (v : Value) (w : World) (e : Ending) (w' : World) : Prop :=
  e = .returned (.tuple #[]) ∧ EI B top bt bh bw bb here b tl ws D v w (tmsB b) w'
set_option maxHeartbeats 16000000 in
set_option maxRecDepth 100000 in
theorem ieach_any {wB w : World} {B top bt bh bw bb : Nat} {here : LoK} {b : Bl} {tl : List Tl} {ws : List Dg} {D : Path → Nd} {v : Value} (h : BI w B top bt bh bw bb here b tl ws D v) (hB : wB.heap.size = B) (hb : Below B wB w) (hin : BlIn wB b)
    (hsz : szBl b ≤ 20000) (hn : tl.length ≤ 500000) (hw : ws.length ≤ 500000) :
    Calls Tryz.prog 90 #[.agg #[.int .u8 b.kind, .int .i64 b.level, .bool b.ord, .string ⟨b.label.toArray⟩, .string ⟨b.text.toArray⟩, .slice b.sa b.sl.length b.sc, .slice b.ra b.rl.length b.rc, .string ⟨b.file.toArray⟩, .int .i64 b.line], .func (.func 91) #[] #[.pointer (some ⟨bt, 0, none⟩), .pointer (some ⟨bh, 0, none⟩), .pointer (some ⟨bw, 0, none⟩), .pointer (some ⟨bb, 0, none⟩)]] w (EachI B top bt bh bw bb here b tl ws D v w) := by
  have HI := Lib.hid h
  have HIN := Lib.hid hin
  have HB0 := Lib.hid hb
  have HBB := Lib.hid hB
  have HSZ := Lib.hid hsz
  have HNL := Lib.hid hn
  have HWL := Lib.hid hw
  clear h hin hb hB hsz hn hw
  go_enter Tryz.func90, Tryz.ntmps90
  go_wp2_with fail
  refine calls_gen fun W hW => ?_
  have hb0 : Below w.heap.size w W := by subst hW; exact (Below.refl _ _).alloc (Nat.le_refl _) _
  have HG0 : Hid (Bk W w.heap.size [.int .u8 b.kind, .int .i64 b.level, .bool b.ord, .string ⟨b.label.toArray⟩, .string ⟨b.text.toArray⟩, .slice b.sa b.sl.length b.sc, .slice b.ra b.rl.length b.rc, .string ⟨b.file.toArray⟩, .int .i64 b.line] 74) := by subst hW; exact Bk.new w #[.int .u8 b.kind, .int .i64 b.level, .bool b.ord, .string ⟨b.label.toArray⟩, .string ⟨b.text.toArray⟩, .slice b.sa b.sl.length b.sc, .slice b.ra b.rl.length b.rc, .string ⟨b.file.toArray⟩, .int .i64 b.line] 74
  clear hW
  have HBW : Hid (Below B wB W) := HB0.out.trans (hb0.mono HI.out.size)
  have hS : SpsAt W b.sa b.sl := HIN.out.1.keep (by rw [HBB.out]; exact HBW.out)
  have hz5 : szM nS b.sl ≤ 20000 := by
    have h1 := nM_le b.sl
    have h2 : szM szS b.sl ≤ szBl b := by unfold szBl; omega
    have := HSZ.out
    omega
  refine (each_any 5 b.sl b.sa b.sc W hS hz5).mono ?_
  rintro e w1 ⟨⟨vL, L, rfl, hO, hL⟩, hb1⟩
  have HI1 := Lib.hid ((HI.out.next hb0).next hb1)
  have HF0 : Hid (EI B top bt bh bw bb here b tl ws D v w [] w1) := ((EI.start HI.out).next hb0).next hb1
  have HG1 := Lib.hid (HG0.out.next hb1)
  have HO := Lib.hid hO
  have HL := Lib.hid hL
  have HNO : Hid (∀ g, vL.ownBlock = some g → ¬ BF top bw tl D v g) := fun g hg hf => by
    have h1 := (hO.block g hg).1
    have h2 := (HI.out.lt hf).2
    have h3 := hb0.size
    omega
  have HNG : Hid (¬ BF top bw tl D v w.heap.size) := fun hf => by have := (HI.out.lt hf).2; omega
  obtain ⟨va, vc, hv⟩ := hO.shape
  subst hv
  have hLl : L.length ≤ 20000 := by
    have h1 := congrArg List.length hL
    rw [List.length_map] at h1
    have h2 := eachL_le 5 b.sl
    rw [nL_eq] at h2
    omega
  have HBw1 : Hid (Below w.heap.size w w1) := hb0.trans (hb1.mono hb0.size)
  clear hO hL hb0 hb1 hS hz5 HG0
  have g6 := HG1.out.cell 6
  change w1.cell? ⟨w.heap.size, 6, none⟩ = some (.slice b.ra b.rl.length b.rc) at g6
  go_wp2_with fail
  go_loopw [16] (fun vc_ wr => ∃ k : Nat, k ≤ L.length ∧ vc_ = .int .i64 k ∧ Hid (EI B top bt bh bw bb here b tl ws D v w1 ((L.map Sk.tm).take k) wr)) (fun vc_ _ => L.length - (intOf vc_).toNat)
  case atStart => exact ⟨0, by omega, rfl, by rw [List.take_zero]; exact EI.start HI1.out⟩
  case round =>
    obtain ⟨k, hk, rfl, HE⟩ := hrel
    by_cases hlt : k < L.length
    · have HOk := Lib.hid (HE.out.row HO.out HNO.out)
      obtain ⟨gb, goff, ha, hgl, hc⟩ := (HOk.out.addr encSk_ok).elem hlt
      subst ha
      have HTS : Hid ((L.map Sk.tm).take (k + 1) = (L.map Sk.tm).take k ++ [L[k].tm]) := by show _ = _; rw [List.take_succ_eq_append_getElem (by rw [List.length_map]; exact hlt)]; simp
      have HLT : Hid (((L.map Sk.tm).take k).length ≤ 20000) := by show _ ≤ _; rw [List.length_take]; omega
      generalize L[k] = x at *
      obtain ⟨kd, tx, sb, se, ka, kn, kc⟩ := x
      have d0 := hc 0 (.int .u8 kd) rfl
      have d1 := hc 1 (.string ⟨tx.toArray⟩) rfl
      have d2 := hc 2 (.string ⟨sb.toArray⟩) rfl
      have d3 := hc 3 (.string ⟨se.toArray⟩) rfl
      have d4 := hc 4 (.slice ka kn kc) rfl
      rw [Nat.add_zero] at d0
      clear hc
      go_wp2_with fail
      refine calls_gen fun W hW => ?_
      have hbW : Below wr.heap.size wr W := by subst hW; exact (Below.refl _ _).alloc (Nat.le_refl _) _
      clear hW
      refine ((HE.out.next hbW).snoc kd ⟨tx, sb, se⟩ ka kn kc (by have := HNL.out; have := HLT.out; omega) (by have := HWL.out; have := HLT.out; omega)).mono ?_
      rintro e w3 ⟨rfl, hE3⟩
      have HE3 := Lib.hid hE3
      clear hE3 hbW d0 d1 d2 d3 d4
      go_wp2_with fail
      go_roundw
      case rel => exact ⟨k + 1, by omega, by go_num, by rw [HTS.out]; exact HE3.out⟩
      case measure => simp [intOf]; omega
    · have HT : Hid ((L.map Sk.tm).take k = L.map Sk.tm) := List.take_of_length_le (by rw [List.length_map]; omega)
      rw [HT.out] at HE
      have HGr := Lib.hid (HE.out.bk HG1.out HNG.out)
      have HEa : Hid (EI B top bt bh bw bb here b tl ws D v w (eachL 5 b.sl) wr) := by rw [← HL.out]; exact HE.out.from HBw1.out
      clear HE HT g6
      clear HO HL HNO HI1 HF0 HG1 HBw1
      have g6 := HGr.out.cell 6
      change wr.cell? ⟨w.heap.size, 6, none⟩ = some (.slice b.ra b.rl.length b.rc) at g6
      have hrl : b.rl.length ≤ 20000 := by
        have h2 : szM szRw b.rl ≤ szBl b := by unfold szBl; omega
        have h3 := HSZ.out
        unfold szM at h2
        omega
      generalize hra : b.ra = ra at *
      have HRA := Lib.hid hra
      clear hra
      go_wp2_with fail
      obtain ⟨wm, hwm⟩ : ∃ wm : World, wm = wr := ⟨_, rfl⟩
      subst hwm
      go_loopw [27] (fun v27 wr => ∃ i : Nat, i ≤ b.rl.length ∧ v27 = .int .i64 i ∧ Hid (EI B top bt bh bw bb here b tl ws D v w (eachL 5 b.sl ++ tmsR (b.rl.take i)) wr)) (fun v27 _ => b.rl.length - (intOf v27).toNat)
      case atStart => exact ⟨0, by omega, rfl, by rw [List.take_zero]; show EI _ _ _ _ _ _ _ _ _ _ _ _ _ (_ ++ []) _; rw [List.append_nil]; exact HEa.out⟩
      case round =>
        obtain ⟨i, hi, rfl, HE⟩ := hrel
        by_cases hlt : i < b.rl.length
        · have HBr2 : Hid (Below B wB wr) := HB0.out.trans (HE.out.below HI.out)
          have HR2 : Hid (RwsAt wr ra b.rl) := by rw [← HRA.out]; exact HIN.out.2.keep (by rw [HBB.out]; exact HBr2.out)
          obtain ⟨gb, goff, ha, hgl, hc⟩ := HR2.out.1.elem hlt
          have HRI : Hid (RwIn wB b.rl[i]) := HIN.out.2.2 _ (List.getElem_mem hlt)
          have HTS := Lib.hid (tmsR_succ hlt)
          have HZR : Hid (szRw b.rl[i] ≤ 20000) := by
            have h1 := szM_mem szRw (List.getElem_mem hlt)
            have h2 : szM szRw b.rl ≤ szBl b := by unfold szBl; omega
            have := HSZ.out
            show _ ≤ _
            omega
          have HPR : Hid ((eachL 5 b.sl ++ tmsR (b.rl.take i)).length ≤ 40000) := by
            have h1 := eachL_le 5 b.sl
            have h2 := nL_le b.sl
            rw [szL_eq] at h2
            have h3 := tmsR_le b.rl
            have h4 := tmsR_take_le b.rl i
            have h5 : szM szS b.sl + szM szRw b.rl ≤ szBl b := by unfold szBl; omega
            have := HSZ.out
            show _ ≤ _
            rw [List.length_append]
            omega
          generalize b.rl[i] = x at *
          obtain ⟨ca, cc, cl⟩ := x
          have d0 := hc 0 (.slice ca cl.length cc) rfl
          rw [Nat.add_zero, Nat.mul_one] at d0
          clear hc
          subst ha
          have hcl : cl.length ≤ 20000 := by
            have h1 := HZR.out
            unfold szRw szM at h1
            simp only at h1
            omega
          go_wp2_with fail
          refine wp_gen fun W hW => ?_
          have hbW : Below wr.heap.size wr W := by subst hW; exact (Below.refl _ _).alloc (Nat.le_refl _) _
          have HEW := Lib.hid (HE.out.next hbW)
          clear hW hbW d0
          obtain ⟨wo, hwo⟩ : ∃ wo : World, wo = wr := ⟨_, rfl⟩
          subst hwo
          go_loopw [34] (fun v34 wr => ∃ j : Nat, j ≤ cl.length ∧ v34 = .int .i64 j ∧ Hid (EI B top bt bh bw bb here b tl ws D v w ((eachL 5 b.sl ++ tmsR (b.rl.take i)) ++ tmsC (cl.take j)) wr)) (fun v34 _ => cl.length - (intOf v34).toNat)
          case atStart => exact ⟨0, by omega, rfl, by rw [List.take_zero]; show EI _ _ _ _ _ _ _ _ _ _ _ _ _ (_ ++ []) _; rw [List.append_nil]; exact HEW.out⟩
          case round =>
            obtain ⟨j, hj, rfl, HEj⟩ := hrel
            by_cases hlj : j < cl.length
            · have HBr3 : Hid (Below B wB wr) := HB0.out.trans (HEj.out.below HI.out)
              have HR3 : Hid (RwIn wr ⟨ca, cc, cl⟩) := HRI.out.keep (by rw [HBB.out]; exact HBr3.out)
              obtain ⟨gc, gcoff, hca, hgcl, hcc⟩ := HR3.out.1.elem hlj
              have HCI : Hid (CeIn wB cl[j]) := HRI.out.2 _ (List.getElem_mem hlj)
              have HTC := Lib.hid (tmsC_succ hlj)
              have HZC : Hid (szCe cl[j] ≤ 20000) := by
                have h1 := szM_mem szCe (List.getElem_mem hlj)
                have h2 := HZR.out
                unfold szRw at h2
                simp only at h2
                show _ ≤ _
                omega
              have HPC : Hid (((eachL 5 b.sl ++ tmsR (b.rl.take i)) ++ tmsC (cl.take j)).length ≤ 60000) := by
                have h3 := tmsC_le cl
                have h4 := tmsC_take_le cl j
                have h2 := HZR.out
                have h5 := HPR.out
                unfold szRw at h2
                simp only at h2
                show _ ≤ _
                rw [List.length_append]
                omega
              generalize cl[j] = y at *
              obtain ⟨sa, sc, sl⟩ := y
              have e0 := hcc 0 (.slice sa sl.length sc) rfl
              rw [Nat.add_zero, Nat.mul_one] at e0
              clear hcc
              simp only at hca
              subst hca
              go_wp2_with fail
              refine calls_gen fun W3 hW3 => ?_
              have hb3 : Below wr.heap.size wr W3 := by subst hW3; exact (Below.refl _ _).alloc (Nat.le_refl _) _
              clear hW3 e0
              have HE3 := Lib.hid (HEj.out.next hb3)
              have hS : SpsAt W3 sa sl := HCI.out.keep (by rw [HBB.out]; exact HB0.out.trans (HE3.out.below HI.out))
              have hz5 : szM nS sl ≤ 20000 := by
                have h1 := nM_le sl
                have h2 := HZC.out
                unfold szCe at h2
                simp only at h2
                omega
              have hz6 : (eachL 5 sl).length ≤ 20000 := by
                have h2 := eachL_le 5 sl
                rw [nL_eq] at h2
                omega
              obtain ⟨D1, v1, hB1, hF1⟩ := HE3.out
              have HB1 := Lib.hid hB1
              refine (each_any 5 sl sa sc W3 hS hz5).mono ?_
              rintro e w5 ⟨⟨vL, L, rfl, hO, hL⟩, hb5⟩
              have HB5 := Lib.hid (hB1.next hb5)
              have HF5 : Hid (BFr top bw tl (tl ++ tlsOf here (eachL 5 b.sl ++ tmsR (b.rl.take i) ++ tmsC (cl.take j))) D D1 v v1 w w5) := hF1.trans (BFr.of_below hb5)
              have HO := Lib.hid hO
              have HL := Lib.hid hL
              have HNO : Hid (∀ g, vL.ownBlock = some g → ¬ BF top bw (tl ++ tlsOf here (eachL 5 b.sl ++ tmsR (b.rl.take i) ++ tmsC (cl.take j))) D1 v1 g) := fun g hg hf => by
                have h1 := (hO.block g hg).1
                have h2 := (HB1.out.lt hf).2
                omega
              obtain ⟨va2, vc2, hv⟩ := hO.shape
              subst hv
              have hLl : L.length ≤ 20000 := by
                have h1 := congrArg List.length hL
                rw [List.length_map] at h1
                omega
              have HN5 : Hid ((tl ++ tlsOf here (eachL 5 b.sl ++ tmsR (b.rl.take i) ++ tmsC (cl.take j))).length ≤ 900000) := by
                show _ ≤ _
                rw [List.length_append, tlsOf_len]
                have := HPC.out
                have := HNL.out
                omega
              have HW5 : Hid ((ws ++ wsOf b (eachL 5 b.sl ++ tmsR (b.rl.take i) ++ tmsC (cl.take j))).length ≤ 900000) := by
                show _ ≤ _
                rw [List.length_append]
                have h1 := wsOf_len b (eachL 5 b.sl ++ tmsR (b.rl.take i) ++ tmsC (cl.take j))
                have := HPC.out
                have := HWL.out
                omega
              clear hO hL hb3 hb5 hS hz5 hz6 hB1 hF1 HE3 HB1 HEj
              generalize hpre : eachL 5 b.sl ++ tmsR (b.rl.take i) ++ tmsC (cl.take j) = pre at *
              have HPRE := Lib.hid hpre
              clear hpre
              go_wp2_with fail
              obtain ⟨wp_, hwp_⟩ : ∃ wp_ : World, wp_ = wr := ⟨_, rfl⟩
              subst hwp_
              go_loopw [42] (fun vc_ wr => ∃ k : Nat, k ≤ L.length ∧ vc_ = .int .i64 k ∧ Hid (EI B top bt bh bw bb here b (tl ++ tlsOf here pre) (ws ++ wsOf b pre) D1 v1 w5 ((L.map Sk.tm).take k) wr)) (fun vc_ _ => L.length - (intOf vc_).toNat)
              case atStart => exact ⟨0, by omega, rfl, by rw [List.take_zero]; exact EI.start HB5.out⟩
              case round =>
                obtain ⟨k, hk, rfl, HE⟩ := hrel
                by_cases hlt : k < L.length
                · have HOk := Lib.hid (HE.out.row HO.out HNO.out)
                  obtain ⟨gb, goff, ha, hgl, hc⟩ := (HOk.out.addr encSk_ok).elem hlt
                  subst ha
                  have HTS : Hid ((L.map Sk.tm).take (k + 1) = (L.map Sk.tm).take k ++ [L[k].tm]) := by show _ = _; rw [List.take_succ_eq_append_getElem (by rw [List.length_map]; exact hlt)]; simp
                  have HLT : Hid (((L.map Sk.tm).take k).length ≤ 20000) := by show _ ≤ _; rw [List.length_take]; omega
                  generalize L[k] = x at *
                  obtain ⟨kd, tx, sb, se, ka, kn, kc⟩ := x
                  have d0 := hc 0 (.int .u8 kd) rfl
                  have d1 := hc 1 (.string ⟨tx.toArray⟩) rfl
                  have d2 := hc 2 (.string ⟨sb.toArray⟩) rfl
                  have d3 := hc 3 (.string ⟨se.toArray⟩) rfl
                  have d4 := hc 4 (.slice ka kn kc) rfl
                  rw [Nat.add_zero] at d0
                  clear hc
                  go_wp2_with fail
                  refine calls_gen fun W hW => ?_
                  have hbW : Below wr.heap.size wr W := by subst hW; exact (Below.refl _ _).alloc (Nat.le_refl _) _
                  clear hW
                  refine ((HE.out.next hbW).snoc kd ⟨tx, sb, se⟩ ka kn kc (by have := HN5.out; have := HLT.out; omega) (by have := HW5.out; have := HLT.out; omega)).mono ?_
                  rintro e w3 ⟨rfl, hE3⟩
                  have HE3 := Lib.hid hE3
                  clear hE3 hbW d0 d1 d2 d3 d4
                  go_wp2_with fail
                  go_roundw
                  case rel => exact ⟨k + 1, by omega, by go_num, by rw [HTS.out]; exact HE3.out⟩
                  case measure => simp [intOf]; omega
                · have HT : Hid ((L.map Sk.tm).take k = L.map Sk.tm) := List.take_of_length_le (by rw [List.length_map]; omega)
                  rw [HT.out] at HE
                  have HEc : Hid (EI B top bt bh bw bb here b tl ws D v w ((eachL 5 b.sl ++ tmsR (b.rl.take i)) ++ tmsC (cl.take (j + 1))) wr) := by
                    obtain ⟨D2, v2, h3, h4⟩ := HE.out
                    rw [HTC.out, ← List.append_assoc, HPRE.out, ← HL.out]
                    refine ⟨D2, v2, ?_, ?_⟩
                    · rw [tlsOf_append, wsOf_append, ← List.append_assoc, ← List.append_assoc]; exact h3
                    · rw [tlsOf_append, ← List.append_assoc]; exact HF5.out.trans h4
                  clear HE HT
                  go_wp2_with fail
                  go_roundw
                  case rel => exact ⟨j + 1, by omega, by go_num, HEc.out⟩
                  case measure => simp [intOf]; omega
            · have HT : Hid (cl.take j = cl) := List.take_of_length_le (by omega)
              have HEd : Hid (EI B top bt bh bw bb here b tl ws D v w (eachL 5 b.sl ++ tmsR (b.rl.take (i + 1))) wr) := by
                rw [HTS.out, ← List.append_assoc]
                have h := HEj.out
                rw [HT.out] at h
                exact h
              clear HEj HT
              go_wp2_with fail
              go_roundw
              case rel => exact ⟨i + 1, by omega, by go_num, HEd.out⟩
              case measure => simp [intOf]; omega
        · have HT : Hid (b.rl.take i = b.rl) := List.take_of_length_le (by omega)
          have HEd : Hid (EI B top bt bh bw bb here b tl ws D v w (tmsB b) wr) := by
            have h := HE.out
            rw [HT.out] at h
            exact h
          clear HE HT
          go_wp2_with fail
          go_end0
          exact ⟨rfl, HEd.out⟩
end Go.Proofs.YtohinfefidahlaaGreatDoor
