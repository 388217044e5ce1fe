/- binderyref13.Of. -/
import Derived.Test.YtofphojcfjkjhaaDoorLower
namespace Go.Proofs.YtofphojcfjkjhaaDoor
open Go.RowKit
set_option linter.unusedVariables false

/-- where the last letter stood -/
def LI (out : Bytes) (g : Bool) (k : Nat) (last : Int) : Prop := (out.length = 0 ∧ last = -1) ∨ (0 < out.length ∧ ∃ j : Nat, last = (j : Int) ∧ j < k ∧ g = decide (j + 1 < k))
theorem LI.start : LI [] false 0 (-1) := .inl ⟨rfl, rfl⟩
theorem LI.no {out : Bytes} {g : Bool} {k : Nat} {last : Int} (h : LI out g k last) : LI out true (k + 1) last := by
  rcases h with h | ⟨h, j, h1, h2, h3⟩
  · exact .inl h
  · exact .inr ⟨h, j, h1, by omega, by rw [decide_eq_true (by omega)]⟩
theorem LI.yes {out : Bytes} {k : Nat} (h : 0 < out.length) : LI out false (k + 1) k := .inr ⟨h, k, rfl, by omega, by rw [decide_eq_false (by omega)]⟩

theorem last_at {t : Bytes} {m : Nat} (h : t.length = m + 1) : t.getLast? = some (t[m]'(by omega)) := by
  rw [List.getLast?_eq_getElem?, show t.length - 1 = m by omega]
  exact List.getElem?_eq_getElem (by omega)
section
variable (s : Bytes) (w : World)
set_option maxHeartbeats 4000000 in
set_option maxRecDepth 100000 in
theorem rof_any (hs : s.length ≤ 100000000) :
    Calls Tryd.prog 11 #[.string ⟨s.toArray⟩] w fun e w' => e = .returned (.string ⟨(slugOf s).toArray⟩) ∧ Below w.heap.size w w' := by
  have hll := lowS_len s
  have hal : ∀ c ∈ lowS s, anB c = lnB c := by
    intro c hc
    unfold lowS at hc
    obtain ⟨x, _, rfl⟩ := List.mem_map.1 hc
    exact anB_low x
  have HAL := Lib.hid hal
  have HSO : Hid (slugOf s = slugC (foldH (lowS s)).1) := rfl
  have HLW := Lib.hid (fun w => rlower_any s w (by omega))
  clear hal
  generalize hL : lowS s = L at *
  have hLs : L.length ≤ 100000000 := by omega
  clear hL hll
  go_enter Tryd.func11, Tryd.ntmps11
  go_wp2_with fail
  refine (HLW.out _).mono ?_
  rintro e w1 ⟨rfl, hb1⟩
  go_wp2_with fail
  go_loopw [3, 4, 5] (fun v3 v4 v5 wr => ∃ (k : Nat) (last : Int), k ≤ L.length ∧ v5 = .int .i64 k ∧ v4 = .int .i64 last ∧ Hid (LI (foldH (L.take k)).1 (foldH (L.take k)).2 k last) ∧ Hid (Own wr w.heap.size 5 1 encB v3 (foldH (L.take k)).1) ∧ Below w.heap.size w wr) (fun _ _ v5 _ => L.length - (intOf v5).toNat)
  case atStart => exact ⟨0, -1, by omega, rfl, rfl, LI.start, Own.nil _ _ _ _ _, hb1⟩
  case round =>
    obtain ⟨k, last, hk, rfl, rfl, HI, HO, hb⟩ := hrel
    by_cases hlt : k < L.length
    · have hfl := foldH_len L k hk
      have hF := foldH_succ hlt
      have hcl := HAL.out L[k] (List.getElem_mem hlt)
      generalize hp : foldH (L.take k) = p at *
      obtain ⟨out, g⟩ := p
      simp only at HI HO hfl
      have hz := hb.size
      clear hp
      cases hc : lnB L[k]
      · rw [stepH_no hc] at hF
        have HF := Lib.hid hF
        have HN := Lib.hid HI.out.no
        have HLT := Lib.hid (fun w => letterB_any L[k] w)
        rw [hc] at hcl
        have HCL := Lib.hid hcl
        clear hF hcl hc
        go_wp2_with fail
        refine (HLT.out _).mono ?_
        rw [HCL.out]
        rintro e w' ⟨rfl, rfl⟩
        go_wp2_with fail
        go_roundw
        case rel => exact ⟨k + 1, last, by omega, by go_num, rfl, by rw [HF.out]; exact HN, by rw [HF.out]; exact HO, hb⟩
        case measure => simp [intOf]; omega
      · rw [hc] at hcl
        have HCL := Lib.hid hcl
        have HLT := Lib.hid (fun w => letterB_any L[k] w)
        rcases HI.out with ⟨h0, rfl⟩ | ⟨h0, j, rfl, hj, hg⟩
        · rw [stepH_one hc (by simp [h0])] at hF
          have HF := Lib.hid hF
          have HN : Hid (LI (out ++ [L[k]]) false (k + 1) k) := LI.yes (by simp)
          clear hF hcl hc h0
          go_wp2_with fail
          refine (HLT.out _).mono ?_
          rw [HCL.out]
          rintro e w' ⟨rfl, rfl⟩
          go_wp2_with (at_builtin; refine wpList_push rfl _ _ 28 rfl w.heap.size 5 1 1 bytes_sl encB encB_ok _ out rfl (HO.out.alloc _) L[k] wr.heap.size rfl (by intro j u hj; match j, hj with | 0, hj => (simp [encB] at hj; subst hj; simp) | j + 1, hj => simp [encB] at hj) (by omega) (by unfold maxLen; omega) w (hb.alloc hz _) (by simp; omega) ?_; intro v2 w3 hown2 hb3 _)
          go_roundw
          case rel => exact ⟨k + 1, k, by omega, by go_num, rfl, by rw [HF.out]; exact HN, by rw [HF.out]; exact hown2, hb3⟩
          case measure => simp [intOf]; omega
        · by_cases hjk : j + 1 < k
          · rw [decide_eq_true hjk] at hg
            subst hg
            rw [stepH_gap hc h0] at hF
            have HF := Lib.hid hF
            have HN : Hid (LI (out ++ [45] ++ [L[k]]) false (k + 1) k) := LI.yes (by simp)
            have hj1 : (j : Int) < (k : Int) - 1 := by omega
            have hj0 : (0 : Int) ≤ (j : Int) := by omega
            have hk1 : (1 : Int) ≤ (k : Int) := by omega
            clear hF hcl hc
            go_wp2_with fail
            refine (HLT.out _).mono ?_
            rw [HCL.out]
            rintro e w' ⟨rfl, rfl⟩
            go_wp2_with (first | (at_builtin; refine wpList_push rfl _ _ 28 rfl w.heap.size 5 1 1 bytes_sl encB encB_ok _ (out ++ [45]) rfl (HO2.out.alloc _) L[k] w3.heap.size rfl (by intro j u hj; match j, hj with | 0, hj => (simp [encB] at hj; subst hj; simp) | j + 1, hj => simp [encB] at hj) (by simp only [List.length_append, List.length_singleton]; omega) (by unfold maxLen; simp only [List.length_append, List.length_singleton]; omega) w (hb3.alloc hz3 _) (by simp; omega) ?_; intro v4 w4 hown4 hb4 _) | (at_builtin; refine wpList_push rfl _ _ 28 rfl w.heap.size 5 1 1 bytes_sl encB encB_ok _ out rfl (HO.out.alloc _) 45 wr.heap.size rfl (by intro j u hj; match j, hj with | 0, hj => (simp [encB] at hj; subst hj; simp) | j + 1, hj => simp [encB] at hj) (by omega) (by unfold maxLen; omega) w (hb.alloc hz _) (by simp; omega) ?_; intro v2 w3 hown2 hb3 _; have HO2 := Lib.hid hown2; have hz3 := hb3.size; clear hown2))
            go_roundw
            case rel => exact ⟨k + 1, k, by omega, by go_num, rfl, by rw [HF.out]; exact HN, by rw [HF.out]; exact hown4, hb4⟩
            case measure => simp [intOf]; omega
          · rw [decide_eq_false hjk] at hg
            subst hg
            rw [stepH_one hc (by simp)] at hF
            have HF := Lib.hid hF
            have HN : Hid (LI (out ++ [L[k]]) false (k + 1) k) := LI.yes (by simp)
            have hj1 : ¬ (j : Int) < (k : Int) - 1 := by omega
            have hj0 : (0 : Int) ≤ (j : Int) := by omega
            have hk1 : (1 : Int) ≤ (k : Int) := by omega
            clear hF hcl hc
            go_wp2_with fail
            refine (HLT.out _).mono ?_
            rw [HCL.out]
            rintro e w' ⟨rfl, rfl⟩
            go_wp2_with (at_builtin; refine wpList_push rfl _ _ 28 rfl w.heap.size 5 1 1 bytes_sl encB encB_ok _ out rfl (HO.out.alloc _) L[k] wr.heap.size rfl (by intro j u hj; match j, hj with | 0, hj => (simp [encB] at hj; subst hj; simp) | j + 1, hj => simp [encB] at hj) (by omega) (by unfold maxLen; omega) w (hb.alloc hz _) (by simp; omega) ?_; intro v2 w3 hown2 hb3 _)
            go_roundw
            case rel => exact ⟨k + 1, k, by omega, by go_num, rfl, by rw [HF.out]; exact HN, by rw [HF.out]; exact hown2, hb3⟩
            case measure => simp [intOf]; omega
    · obtain rfl : k = L.length := by omega
      have hfl := foldH_len L L.length (Nat.le_refl _)
      have HO1 := HO.out
      rw [List.take_length] at hfl HO1
      have hfin : slugOf s = slugC (foldH L).1 := HSO.out
      clear HSO HI HO
      generalize (foldH L).1 = out at *
      unfold slugC at hfin
      rcases Nat.eq_zero_or_pos out.length with h0 | h0
      · have h00 := List.eq_nil_of_length_eq_zero h0
        subst h00
        have hfin2 : slugOf s = partS := by rw [hfin]; rfl
        have HF := Lib.hid hfin2
        clear hfin hfin2 h0
        rcases HO1.2 with ⟨hv, _⟩ | ⟨g, cap, cur, hv, _⟩
        all_goals
          subst hv
          clear HO1
          go_wp2_with fail
          go_ret
          exact ⟨by rw [HF.out]; rfl, hb⟩
      · obtain ⟨xa, xc, rfl⟩ := HO1.shape
        obtain ⟨g, rfl, _, _, hnc⟩ := HO1.ptr h0
        by_cases h60 : out.length ≤ 60
        · rw [List.take_of_length_le h60] at hfin
          have htl : out.length = out.length := rfl
          generalize hnn : out.length = n at HO1 h0 h60 hfl hnc htl
          obtain ⟨m', rfl⟩ : ∃ m', n = m' + 1 := ⟨n - 1, by omega⟩
          have htl : out.length = m' + 1 := hnn
          have HT := Lib.hid HO1
          clear HO1 hnn
          have hlast : out.getLast? = some (out[m']'(by omega)) := last_at htl
          have z0 := HT.out.cellAt encB_ok (k := m') (x := out[m']'(by omega)) (List.getElem?_eq_getElem (by omega)) (j := 0) rfl
          rw [Nat.mul_one, Nat.add_zero] at z0
          generalize out[m']'(by omega) = x at *
          by_cases hx : x = 45
          · subst hx
            have htr : trim1 out = out.dropLast := if_pos hlast
            have hdl : out.dropLast.length = m' := by rw [List.length_dropLast]; omega
            have hsp : out = out.dropLast ++ [45] := by
              have hne : out ≠ [] := by intro e; rw [e] at htl; simp at htl
              have h1 := List.dropLast_concat_getLast hne
              rw [List.getLast?_eq_some_getLast hne] at hlast
              injection hlast with hlast
              rw [hlast] at h1
              exact h1.symm
            have hcut : Own wr w.heap.size 5 1 encB (.slice (some ⟨g, 0, none⟩) m' xc) out.dropLast := by
              have h1 := HT.out
              rw [hsp] at h1
              exact Own.cut encB_ok (n := m') (m := 1) (l2 := [45]) h1 hdl.symm rfl
            have HC := Lib.hid hcut
            rw [htr] at hfin
            have HDL := Lib.hid hdl
            clear htr hdl hsp hcut hlast htl
            generalize out.dropLast = u at *
            have z1 : wr.cell? ⟨g, m', none⟩ = some (.int .u8 45) := z0
            clear z0
            cases u with
            | nil =>
              have HF := Lib.hid hfin
              have hm0 : m' = 0 := by have := HDL.out; simpa using this.symm
              clear hfin
              subst hm0
              go_wp2_with fail
              go_ret
              exact ⟨by rw [HF.out]; rfl, hb⟩
            | cons y u =>
              have HF := Lib.hid hfin
              have hm0 : 0 < m' := by have := HDL.out; simp at this; omega
              clear hfin
              go_wp2_with (refine wpList_str_own rfl _ _ _ 5 rfl rfl Tryd.underlying28 Tryd.underlying5 Tryd.underlying9 (y :: u) HC.out ?_)
              go_ret
              exact ⟨by rw [HF.out]; rfl, hb⟩
          · have htr : trim1 out = out := if_neg (by rw [hlast]; intro e; injection e with e; exact hx e)
            rw [htr] at hfin
            have hne : out.isEmpty = false := by
              cases hq : out with
              | nil => rw [hq] at htl; simp at htl
              | cons => rfl
            rw [hne] at hfin
            have hfin2 : slugOf s = out := by rw [hfin]; rfl
            have HF := Lib.hid hfin2
            have hbx : ((x.toNat : Int) == 45) = false := by
              rw [beq_eq_false_iff_ne]; intro e
              exact hx (UInt8.toNat.inj (by have : x.toNat = 45 := by omega
                                            simpa using this))
            clear hfin hfin2 hne htr hlast hx htl
            generalize out = t at *
            go_wp2_with (refine wpList_str_own rfl _ _ _ 5 rfl rfl Tryd.underlying28 Tryd.underlying5 Tryd.underlying9 t HT.out ?_)
            go_ret
            exact ⟨by rw [HF.out]; rfl, hb⟩
        · have hcut : Own wr w.heap.size 5 1 encB (.slice (some ⟨g, 0, none⟩) 60 xc) (out.take 60) := by
            have e : out.length = 60 + (out.length - 60) := by omega
            have h1 : Own wr w.heap.size 5 1 encB (.slice (some ⟨g, 0, none⟩) (60 + (out.length - 60)) xc) (out.take 60 ++ out.drop 60) := by rw [List.take_append_drop, ← e]; exact HO1
            exact Own.cut encB_ok (n := 60) (m := out.length - 60) (l1 := out.take 60) (l2 := out.drop 60) h1 (by rw [List.length_take]; omega) (by rw [List.length_drop])
          have htl : (out.take 60).length = 60 := by rw [List.length_take]; omega
          have HT := Lib.hid hcut
          have h61 : 60 < (out.length : Int) := by omega
          clear hcut HO1
          have hlast : (out.take 60).getLast? = some ((out.take 60)[59]'(by omega)) := last_at htl
          have z0 := HT.out.cellAt encB_ok (k := 59) (x := (out.take 60)[59]'(by omega)) (List.getElem?_eq_getElem (by omega)) (j := 0) rfl
          rw [Nat.mul_one, Nat.add_zero] at z0
          generalize (out.take 60)[59]'(by omega) = x at *
          by_cases hx : x = 45
          · subst hx
            have htr : trim1 (out.take 60) = (out.take 60).dropLast := if_pos hlast
            have hdl : (out.take 60).dropLast.length = 59 := by rw [List.length_dropLast]; omega
            have hsp : (out.take 60) = (out.take 60).dropLast ++ [45] := by
              have hne : (out.take 60) ≠ [] := by intro e; rw [e] at htl; simp at htl
              have h1 := List.dropLast_concat_getLast hne
              rw [List.getLast?_eq_some_getLast hne] at hlast
              injection hlast with hlast
              rw [hlast] at h1
              exact h1.symm
            have hcut : Own wr w.heap.size 5 1 encB (.slice (some ⟨g, 0, none⟩) 59 xc) (out.take 60).dropLast := by
              have h1 := HT.out
              rw [hsp] at h1
              exact Own.cut encB_ok (n := 59) (m := 1) (l2 := [45]) h1 hdl.symm rfl
            have HC := Lib.hid hcut
            rw [htr] at hfin
            have HDL := Lib.hid hdl
            clear htr hdl hsp hcut hlast htl
            generalize (out.take 60).dropLast = u at *
            have z1 : wr.cell? ⟨g, 59, none⟩ = some (.int .u8 45) := z0
            clear z0
            cases u with
            | nil =>
              have HF := Lib.hid hfin
              have hm0 : 59 = 0 := by have := HDL.out; simpa using this.symm
              clear hfin
              omega
            | cons y u =>
              have HF := Lib.hid hfin
              have hm0 : 0 < 59 := by have := HDL.out; simp at this; omega
              clear hfin
              go_wp2_with (refine wpList_str_own rfl _ _ _ 5 rfl rfl Tryd.underlying28 Tryd.underlying5 Tryd.underlying9 (y :: u) HC.out ?_)
              go_ret
              exact ⟨by rw [HF.out]; rfl, hb⟩
          · have htr : trim1 (out.take 60) = (out.take 60) := if_neg (by rw [hlast]; intro e; injection e with e; exact hx e)
            rw [htr] at hfin
            have hne : (out.take 60).isEmpty = false := by
              cases hq : (out.take 60) with
              | nil => rw [hq] at htl; simp at htl
              | cons => rfl
            rw [hne] at hfin
            have hfin2 : slugOf s = (out.take 60) := by rw [hfin]; rfl
            have HF := Lib.hid hfin2
            have hbx : ((x.toNat : Int) == 45) = false := by
              rw [beq_eq_false_iff_ne]; intro e
              exact hx (UInt8.toNat.inj (by have : x.toNat = 45 := by omega
                                            simpa using this))
            clear hfin hfin2 hne htr hlast hx htl
            generalize (out.take 60) = t at *
            go_wp2_with (refine wpList_str_own rfl _ _ _ 5 rfl rfl Tryd.underlying28 Tryd.underlying5 Tryd.underlying9 t HT.out ?_)
            go_ret
            exact ⟨by rw [HF.out]; rfl, hb⟩
end
end Go.Proofs.YtofphojcfjkjhaaDoor
