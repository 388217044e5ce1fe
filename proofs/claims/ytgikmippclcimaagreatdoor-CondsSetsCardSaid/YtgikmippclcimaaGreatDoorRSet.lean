/- binderyref04.Set. -/
import Derived.Test.YtgikmippclcimaaGreatDoorSetLaw
namespace Go.Proofs.YtgikmippclcimaaGreatDoor
open Go.RowKit
set_option linter.unusedVariables false

def stepS (s v : Bytes) (p : List Two × Bool) (x : Two) : List Two × Bool :=
  ((if (!p.2 && geB x.name s) = true then p.1 ++ [⟨s, v⟩] else p.1) ++ (if notB s x = true then [x] else []), p.2 || geB x.name s)
def foldS (s v : Bytes) (l : List Two) (k : Nat) : List Two × Bool := (l.take k).foldl (stepS s v) ([], false)
theorem foldS_succ (s v : Bytes) {l : List Two} {k : Nat} (h : k < l.length) : foldS s v l (k + 1) = stepS s v (foldS s v l k) l[k] := by
  unfold foldS; rw [List.take_succ_eq_append_getElem h, List.foldl_append]; rfl
theorem stepS_len (s v : Bytes) (p : List Two × Bool) (x : Two) : (stepS s v p x).1.length ≤ p.1.length + 2 := by
  unfold stepS
  simp only
  rw [List.length_append]
  have h1 : (if (!p.2 && geB x.name s) = true then p.1 ++ [(⟨s, v⟩ : Two)] else p.1).length ≤ p.1.length + 1 := by split <;> simp
  have h2 : (if notB s x = true then [x] else ([] : List Two)).length ≤ 1 := by split <;> simp
  omega
theorem foldS_len (s v : Bytes) (l : List Two) : ∀ k, k ≤ l.length → (foldS s v l k).1.length ≤ 2 * k
  | 0, _ => by simp [foldS]
  | k + 1, h => by
    rw [foldS_succ s v (by omega)]
    have := stepS_len s v (foldS s v l k) (l[k]'(by omega))
    have := foldS_len s v l k (by omega)
    omega
theorem fold_true (s v : Bytes) : ∀ (l acc : List Two), l.foldl (stepS s v) (acc, true) = (acc ++ l.filter (notB s), true)
  | [], acc => by simp
  | x :: l, acc => by
    rw [List.foldl_cons]
    have : stepS s v (acc, true) x = (acc ++ (if notB s x = true then [x] else []), true) := by simp [stepS]
    rw [this, fold_true s v l, List.filter_cons]
    cases notB s x <;> simp
def finS (s v : Bytes) (p : List Two × Bool) : List Two := if p.2 = true then p.1 else p.1 ++ [⟨s, v⟩]
theorem filter_all {s : Bytes} : ∀ {l : List Two}, (∀ y ∈ l, Op.bytesLess s y.name = true) → l.filter (notB s) = l := by
  intro l h
  rw [List.filter_eq_self]
  intro y hy
  have := bl_symm (bl_ne (h y hy))
  simp [notB, this]
theorem fold_sorted (s v : Bytes) : ∀ (l acc : List Two), Sorted l → finS s v (l.foldl (stepS s v) (acc, false)) = acc ++ setRec s v l
  | [], acc, _ => by simp [finS, setRec]
  | x :: l, acc, h => by
    have h' := h
    unfold Sorted at h'
    rw [List.pairwise_cons] at h'
    rw [List.foldl_cons]
    cases hx : Op.bytesLess x.name s
    · cases he : (x.name == s)
      · have e : stepS s v (acc, false) x = ((acc ++ [⟨s, v⟩]) ++ [x], true) := by simp [stepS, geB, hx, notB, he]
        rw [e, fold_true, setRec_gt hx he]
        have hlt := bl_tri _ _ hx he
        rw [filter_all fun y hy => bl_trans _ _ _ hlt (h'.1 y hy)]
        simp [finS]
      · have e : stepS s v (acc, false) x = (acc ++ [⟨s, v⟩], true) := by simp [stepS, geB, hx, notB, he]
        rw [e, fold_true, setRec_eq hx he]
        rw [filter_all fun y hy => by have := h'.1 y hy; rwa [eq_of_beq he] at this]
        simp [finS]
    · have e : stepS s v (acc, false) x = (acc ++ [x], false) := by simp [stepS, geB, hx, notB, bl_ne hx]
      rw [e, fold_sorted s v l (acc ++ [x]) h'.2, setRec_lt hx]
      simp
theorem foldS_end {s v : Bytes} {l : List Two} (h : checkB l = true) : finS s v (foldS s v l l.length) = setRec s v l := by
  unfold foldS
  rw [List.take_length, fold_sorted s v l [] ((checkB_iff l).1 h).2.2]
  simp
theorem full_set {s v : Bytes} {l : List Two} (h : checkB l = true) : (fullB l s = true → (setRec s v l).length = 65) ∧ (fullB l s = false → (setRec s v l).length ≤ 64) := by
  have h1 := ((checkB_iff l).1 h).1
  have h2 := setRec_len s v l
  rw [fullB_rec]
  cases hh : hasRec s l <;> rw [hh] at h2 <;> simp at h2 ⊢ <;> omega

section
variable (a : Option Addr) (ca : Nat) (l : List Two) (s v : Bytes) (w : World)

set_option maxHeartbeats 4000000 in
theorem rset_any (hn : l.length ≤ 1048576) (hs : s.length ≤ 1048576) (hv : v.length ≤ 1048576) (hA : At w 2 encT a l) (hsz : ∀ x ∈ l, x.name.length + x.value.length ≤ 9223372036854775807) :
    Calls Tryz.prog 15 #[.slice a l.length ca, .string ⟨s.toArray⟩, .string ⟨v.toArray⟩] w (SetGives w (setR l s v) (setE l s v)) := by
  have HA := Lib.hid hA
  have HS := Lib.hid hsz
  clear hA hsz
  cases h1 : checkB l
  · obtain ⟨hR, hE⟩ := setR_bad (l := l) (s := s) (v := v) (by simp [mayB, h1])
    rw [hR, hE]
    have H1 := Lib.hid h1
    clear h1 hR hE
    go_enter Tryz.func15, Tryz.ntmps15
    go_wp2_with fail
    refine (rcheck_any a ca l _ hn HA.out HS.out).mono ?_
    rw [H1.out]
    rintro e w2 ⟨rfl, hb2⟩
    go_wp2_with fail
    go_ret2
    exact ⟨⟨_, rfl, Own.nil _ _ _ _ _⟩, hb2⟩
  cases h2 : nameB s
  · obtain ⟨hR, hE⟩ := setR_bad (l := l) (s := s) (v := v) (by simp [mayB, h2])
    rw [hR, hE]
    have H1 := Lib.hid h1
    have H2 := Lib.hid h2
    clear h1 h2 hR hE
    go_enter Tryz.func15, Tryz.ntmps15
    go_wp2_with fail
    refine (rcheck_any a ca l _ hn HA.out HS.out).mono ?_
    rw [H1.out]
    rintro e w2 ⟨rfl, hb2⟩
    go_wp2_with fail
    refine (rname_any s _ (by omega)).mono ?_
    rw [H2.out]
    rintro e w' ⟨rfl, rfl⟩
    go_wp2_with fail
    go_ret2
    exact ⟨⟨_, rfl, Own.nil _ _ _ _ _⟩, hb2⟩
  cases h3 : validB v
  · obtain ⟨hR, hE⟩ := setR_bad (l := l) (s := s) (v := v) (by simp [mayB, h3])
    rw [hR, hE]
    have H1 := Lib.hid h1
    have H2 := Lib.hid h2
    have H3 := Lib.hid h3
    clear h1 h2 h3 hR hE
    go_enter Tryz.func15, Tryz.ntmps15
    go_wp2_with fail
    refine (rcheck_any a ca l _ hn HA.out HS.out).mono ?_
    rw [H1.out]
    rintro e w2 ⟨rfl, hb2⟩
    go_wp2_with fail
    refine (rname_any s _ (by omega)).mono ?_
    rw [H2.out]
    rintro e w' ⟨rfl, rfl⟩
    go_wp2_with fail
    refine (rvalue_any v _ (by omega)).mono ?_
    rw [H3.out]
    rintro e w' ⟨rfl, rfl⟩
    go_wp2_with fail
    go_ret2
    exact ⟨⟨_, rfl, Own.nil _ _ _ _ _⟩, hb2⟩
  · have hm : mayB l s v = true := by simp [mayB, h1, h2, h3]
    have HFE := Lib.hid (foldS_end (s := s) (v := v) h1)
    have hfs := full_set (s := s) (v := v) h1
    have HFS := Lib.hid hfs
    have HM := Lib.hid hm
    have hl64 := ((checkB_iff l).1 h1).1
    have H1 := Lib.hid h1
    have H2 := Lib.hid h2
    have H3 := Lib.hid h3
    clear h1 h2 h3 hm hfs
    go_enter Tryz.func15, Tryz.ntmps15
    go_wp2_with fail
    refine (rcheck_any a ca l _ hn HA.out HS.out).mono ?_
    rw [H1.out]
    rintro e w2 ⟨rfl, hb2⟩
    go_wp2_with fail
    refine (rname_any s _ (by omega)).mono ?_
    rw [H2.out]
    rintro e w' ⟨rfl, rfl⟩
    go_wp2_with fail
    refine (rvalue_any v _ (by omega)).mono ?_
    rw [H3.out]
    rintro e w' ⟨rfl, rfl⟩
    go_wp2_with fail
    go_loopw [8, 9, 10] (fun v8 v9 v10 wr => ∃ k : Nat, k ≤ l.length ∧ v10 = .int .i64 k ∧ v9 = .bool (foldS s v l k).2 ∧ Hid (Own wr w.heap.size 59 2 encT v8 (foldS s v l k).1) ∧ Below w.heap.size w wr) (fun _ _ v10 _ => l.length - (intOf v10).toNat)
    case atStart => exact ⟨0, by omega, rfl, rfl, Own.nil _ _ _ _ _, hb2⟩
    case round =>
      obtain ⟨k, hk, rfl, rfl, HO, hb⟩ := hrel
      by_cases hlt : k < l.length
      · obtain ⟨b, off, ha, hbl, hc0, hc1⟩ := (HA.out.below hb).two hlt
        subst ha
        have hT := foldS_succ s v hlt
        have hL := foldS_len s v l k hk
        have hz := hb.size
        generalize hp : foldS s v l k = p at hT hL HO
        obtain ⟨R, D⟩ := p
        simp only at hL HO
        cases D
        · cases hg : (!Op.bytesLess l[k].name s)
          · have hbl : Op.bytesLess l[k].name s = true := by simpa using hg
            have he := bl_ne hbl
            have hT2 : foldS s v l (k + 1) = (R ++ [l[k]], false) := by
              rw [hT]; simp [stepS, geB, hbl, notB, he]
            have HT := Lib.hid hT2
            clear hT hT2 hp hbl
            go_wp2_with (at_builtin; refine wpList_push rfl _ _ 22 rfl w.heap.size 59 2 32 slattrs encT encT_ok _ R rfl (HO.out.alloc _) l[k] wr.heap.size rfl (by intro j u hj; match j, hj with | 0, hj => (simp [encT] at hj; subst hj; simp) | 1, hj => (simp [encT] at hj; subst hj; simp) | j + 2, hj => simp [encT] at hj) (by omega) (by unfold maxLen; omega) w (hb.alloc hz _) (by simp; omega) ?_; intro v2 w3 hown2 hb3 _)
            go_roundw
            case rel => exact ⟨k + 1, by omega, by go_num, by rw [HT.out], by show Own _ _ _ _ _ _ _; rw [HT.out]; exact hown2, hb3⟩
            case measure => simp [intOf]; omega
          · have hbl : Op.bytesLess l[k].name s = false := by simpa using hg
            cases he : (l[k].name == s)
            · have hT2 : foldS s v l (k + 1) = ((R ++ [⟨s, v⟩]) ++ [l[k]], true) := by
                rw [hT]; simp [stepS, geB, hbl, notB, he]
              have HT := Lib.hid hT2
              clear hT hT2 hp hbl
              go_wp2_with (first | (at_builtin; refine wpList_push rfl _ _ 22 rfl w.heap.size 59 2 32 slattrs encT encT_ok _ (R ++ [(⟨s, v⟩ : Two)]) rfl (HO2.out.alloc _) l[k] w3.heap.size rfl (by intro j u hj; match j, hj with | 0, hj => (simp [encT] at hj; subst hj; simp) | 1, hj => (simp [encT] at hj; subst hj; simp) | j + 2, hj => simp [encT] at hj) (by simp only [List.length_append, List.length_singleton]; omega) (by unfold maxLen; simp only [List.length_append, List.length_singleton]; omega) w (hb3.alloc hz3 _) (by simp; omega) ?_; intro v4 w4 hown4 hb4 _) | (at_builtin; refine wpList_push rfl _ _ 22 rfl w.heap.size 59 2 32 slattrs encT encT_ok _ R rfl (HO.out.alloc _) (⟨s, v⟩ : Two) wr.heap.size rfl (by intro j u hj; match j, hj with | 0, hj => (simp [encT] at hj; subst hj; simp) | 1, hj => (simp [encT] at hj; subst hj; simp) | j + 2, hj => simp [encT] at hj) (by omega) (by unfold maxLen; omega) w (hb.alloc hz _) (by simp; omega) ?_; intro v2 w3 hown2 hb3 _; have HO2 := Lib.hid hown2; have hz3 := hb3.size; have HA3 := (HA.out.below hb3); clear hown2; obtain ⟨b3, off3, ha3, hbl3, hc03, hc13⟩ := HA3.two hlt; injection ha3 with ha3; injection ha3 with e1 e2; subst e1 e2))
              go_roundw
              case rel => exact ⟨k + 1, by omega, by go_num, by rw [HT.out], by show Own _ _ _ _ _ _ _; rw [HT.out]; exact hown4, hb4⟩
              case measure => simp [intOf]; omega
            · have hT2 : foldS s v l (k + 1) = (R ++ [⟨s, v⟩], true) := by
                rw [hT]; simp [stepS, geB, hbl, notB, he]
              have HT := Lib.hid hT2
              clear hT hT2 hp hbl
              go_wp2_with (at_builtin; refine wpList_push rfl _ _ 22 rfl w.heap.size 59 2 32 slattrs encT encT_ok _ R rfl (HO.out.alloc _) (⟨s, v⟩ : Two) wr.heap.size rfl (by intro j u hj; match j, hj with | 0, hj => (simp [encT] at hj; subst hj; simp) | 1, hj => (simp [encT] at hj; subst hj; simp) | j + 2, hj => simp [encT] at hj) (by omega) (by unfold maxLen; omega) w (hb.alloc hz _) (by simp; omega) ?_; intro v2 w3 hown2 hb3 _; have HO2 := Lib.hid hown2; have hz3 := hb3.size; have HA3 := (HA.out.below hb3); clear hown2; obtain ⟨b3, off3, ha3, hbl3, hc03, hc13⟩ := HA3.two hlt; injection ha3 with ha3; injection ha3 with e1 e2; subst e1 e2)
              go_roundw
              case rel => exact ⟨k + 1, by omega, by go_num, by rw [HT.out], by show Own _ _ _ _ _ _ _; rw [HT.out]; exact HO2.out, hb3⟩
              case measure => simp [intOf]; omega
        · cases he : (l[k].name == s)
          · have hT2 : foldS s v l (k + 1) = (R ++ [l[k]], true) := by
              rw [hT]; simp [stepS, notB, he]
            have HT := Lib.hid hT2
            clear hT hT2 hp
            go_wp2_with (at_builtin; refine wpList_push rfl _ _ 22 rfl w.heap.size 59 2 32 slattrs encT encT_ok _ R rfl (HO.out.alloc _) l[k] wr.heap.size rfl (by intro j u hj; match j, hj with | 0, hj => (simp [encT] at hj; subst hj; simp) | 1, hj => (simp [encT] at hj; subst hj; simp) | j + 2, hj => simp [encT] at hj) (by omega) (by unfold maxLen; omega) w (hb.alloc hz _) (by simp; omega) ?_; intro v2 w3 hown2 hb3 _)
            go_roundw
            case rel => exact ⟨k + 1, by omega, by go_num, by rw [HT.out], by show Own _ _ _ _ _ _ _; rw [HT.out]; exact hown2, hb3⟩
            case measure => simp [intOf]; omega
          · have hT2 : foldS s v l (k + 1) = (R, true) := by
              rw [hT]; simp [stepS, notB, he]
            have HT := Lib.hid hT2
            clear hT hT2 hp
            go_wp2_with fail
            go_roundw
            case rel => exact ⟨k + 1, by omega, by go_num, by rw [HT.out], by show Own _ _ _ _ _ _ _; rw [HT.out]; exact HO.out, hb⟩
            case measure => simp [intOf]; omega
      · obtain rfl : k = l.length := by omega
        have hL := foldS_len s v l l.length (by omega)
        have HE := HFE.out
        generalize hp : foldS s v l l.length = p at HO HE hL
        obtain ⟨R, D⟩ := p
        simp only at HO hL
        have hz := hb.size
        cases D
        · have HE2 : R ++ [⟨s, v⟩] = setRec s v l := by simpa [finS] using HE
          have HE3 := Lib.hid HE2
          clear HE HE2 hp HFE
          cases hf : fullB l s
          · obtain ⟨hR, hE⟩ := setR_ok HM.out hf
            have hlen := HFS.out.2 hf
            rw [← HE3.out] at hlen hR
            have HR := Lib.hid hR
            have HER := Lib.hid hE
            have HF := Lib.hid hf
            have hlen1 : (R ++ [(⟨s, v⟩ : Two)]).length = R.length + 1 := by simp
            have hl1 : (R.length : Int) + 1 ≤ 64 := by omega
            clear hf hR hE hlen
            go_wp2_with (at_builtin; refine wpList_push rfl _ _ 22 rfl w.heap.size 59 2 32 slattrs encT encT_ok _ R rfl (HO.out.alloc _) (⟨s, v⟩ : Two) wr.heap.size rfl (by intro j u hj; match j, hj with | 0, hj => (simp [encT] at hj; subst hj; simp) | 1, hj => (simp [encT] at hj; subst hj; simp) | j + 2, hj => simp [encT] at hj) (by omega) (by unfold maxLen; omega) w (hb.alloc hz _) (by simp; omega) ?_; intro v2 w3 hown2 hb3 _; have HO2 := Lib.hid hown2; have hz3 := hb3.size; have HA3 := (HA.out.below hb3); clear hown2; obtain ⟨xr, xc, hv2⟩ := HO2.out.shape; rw [hlen1] at hv2; subst hv2)
            go_ret2
            show SetGives w (setR l s v) (setE l s v) _ _
            rw [HR.out, HER.out]
            exact ⟨⟨_, rfl, HO2.out⟩, hb3⟩
          · obtain ⟨hR, hE⟩ := setR_full HM.out hf
            have hlen := HFS.out.1 hf
            rw [← HE3.out] at hlen
            have HR := Lib.hid hR
            have HER := Lib.hid hE
            have HF := Lib.hid hf
            have hlen1 : (R ++ [(⟨s, v⟩ : Two)]).length = R.length + 1 := by simp
            have hl1 : 64 < (R.length : Int) + 1 := by omega
            clear hf hR hE hlen
            go_wp2_with (at_builtin; refine wpList_push rfl _ _ 22 rfl w.heap.size 59 2 32 slattrs encT encT_ok _ R rfl (HO.out.alloc _) (⟨s, v⟩ : Two) wr.heap.size rfl (by intro j u hj; match j, hj with | 0, hj => (simp [encT] at hj; subst hj; simp) | 1, hj => (simp [encT] at hj; subst hj; simp) | j + 2, hj => simp [encT] at hj) (by omega) (by unfold maxLen; omega) w (hb.alloc hz _) (by simp; omega) ?_; intro v2 w3 hown2 hb3 _; have HO2 := Lib.hid hown2; have hz3 := hb3.size; have HA3 := (HA.out.below hb3); clear hown2; obtain ⟨xr, xc, hv2⟩ := HO2.out.shape; rw [hlen1] at hv2; subst hv2)
            go_ret2
            show SetGives w (setR l s v) (setE l s v) _ _
            rw [HR.out, HER.out]
            exact ⟨⟨_, rfl, Own.nil _ _ _ _ _⟩, hb3⟩
        · have HE2 : R = setRec s v l := by simpa [finS] using HE
          have HE3 := Lib.hid HE2
          clear HE HE2 hp HFE
          obtain ⟨xr, xc, rfl⟩ := HO.out.shape
          cases hf : fullB l s
          · obtain ⟨hR, hE⟩ := setR_ok HM.out hf
            have hlen := HFS.out.2 hf
            rw [← HE3.out] at hlen hR
            have HR := Lib.hid hR
            have HER := Lib.hid hE
            have HF := Lib.hid hf
            clear hf hR hE
            go_wp2_with fail
            go_ret2
            show SetGives w (setR l s v) (setE l s v) _ _
            rw [HR.out, HER.out]
            exact ⟨⟨_, rfl, HO.out⟩, hb⟩
          · obtain ⟨hR, hE⟩ := setR_full HM.out hf
            have hlen := HFS.out.1 hf
            rw [← HE3.out] at hlen
            have HR := Lib.hid hR
            have HER := Lib.hid hE
            have HF := Lib.hid hf
            have hlen2 : 64 < R.length := by omega
            clear hf hR hE hlen
            go_wp2_with fail
            go_ret2
            show SetGives w (setR l s v) (setE l s v) _ _
            rw [HR.out, HER.out]
            exact ⟨⟨_, rfl, Own.nil _ _ _ _ _⟩, hb⟩
end
end Go.Proofs.YtgikmippclcimaaGreatDoor
