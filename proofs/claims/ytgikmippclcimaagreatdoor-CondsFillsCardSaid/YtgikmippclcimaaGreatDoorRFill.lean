/- binderyref04.Fill. -/
import Derived.Test.YtgikmippclcimaaGreatDoorFill
import Derived.Test.YtgikmippclcimaaGreatDoorRun
import Derived.Test.YtgikmippclcimaaGreatDoorBytesL
namespace Go.Proofs.YtgikmippclcimaaGreatDoor
open Go.RowKit
set_option linter.unusedVariables false

theorem runK_eq (s : Bytes) : runK s = runN s := rfl
section
variable {l : List Two} {s : Bytes} {p : Nat} {out : Bytes} {nms : List Bytes}
theorem FillI.txt0 (h : FillI l s p p out nms) : fillT l s = out ++ fillT l (s.drop p) := by
  have := h.txt
  rwa [show (s.take p).drop p = [] by rw [List.drop_eq_nil_iff, List.length_take]; omega, List.append_nil] at this
theorem FillI.lit1 (h : FillI l s p p out nms) (hlt : p < s.length) (ht : tokOf (s.drop p) = none) : FillI l s (p + 1) (p + 1) (out ++ [s[p]]) nms := by
  have hd := List.drop_eq_getElem_cons hlt
  rw [hd] at ht
  have hp := parse_lit ht
  have e1 : fillT l (s.drop p) = s[p] :: fillT l (s.drop (p + 1)) := by rw [hd]; unfold fillT; rw [hp]; rfl
  have e2 : asksOf (s.drop p) = asksOf (s.drop (p + 1)) := by rw [hd]; unfold asksOf; rw [hp]; rfl
  refine ⟨by omega, by omega, ?_, ?_, by have := h.len; omega, ?_⟩
  · rw [h.txt0, e1, show (s.take (p + 1)).drop (p + 1) = [] by rw [List.drop_eq_nil_iff, List.length_take]; omega]; simp
  · rw [h.nam, e2]
  · have := h.room; simp; omega
theorem FillI.ask1 {nm : Bytes} (h : FillI l s p p out nms) (hlt : p < s.length) (ht : tokOf (s.drop p) = some nm) (v : Bytes) (hg : (getL l nm).getD (123 :: nm ++ [125]) = v) (hv : v.length ≤ 100001) :
    FillI l s (p + 2 + nm.length) (p + 2 + nm.length) (out ++ v) (addN nms nm) := by
  have hl := tokOf_len ht
  rw [List.length_drop] at hl
  have e := fillT_ask l ht
  rw [hg, List.drop_drop] at e
  have ee : p + (nm.length + 2) = p + 2 + nm.length := by omega
  rw [ee] at e
  refine ⟨by omega, by omega, ?_, ?_, by have := h.len; have := addN_len1 nms nm; omega, ?_⟩
  · rw [h.txt0, e.1, show (s.take (p + 2 + nm.length)).drop (p + 2 + nm.length) = [] by rw [List.drop_eq_nil_iff, List.length_take]; omega]; simp
  · rw [h.nam, e.2]; rfl
  · have := h.room; simp; omega
theorem FillI.stop1 (h : FillI l s s.length s.length out nms) : fillT l s = out ∧ fillN s = nms := by
  have e1 := h.txt0
  have e2 := h.nam
  rw [List.drop_length] at e1 e2
  exact ⟨by rw [e1]; simp [fillT, parse_nil], by rw [e2]; simp [asksOf, parse_nil]⟩
end
/-- what stands behind a brace -/
theorem tok_parts {s : Bytes} {p : Nat} (h : p < s.length) : tokOf (s.drop p) = if (s[p] == 123 && (s.drop (p + 1))[runN (s.drop (p + 1))]? == some 125 && nameB ((s.drop (p + 1)).take (runN (s.drop (p + 1))))) = true then some ((s.drop (p + 1)).take (runN (s.drop (p + 1)))) else none := by
  rw [List.drop_eq_getElem_cons h, tokOf_cons]; rfl
theorem bytes_sl : SlTy Tryz.prog 67 5 1 1 := ⟨Tryz.underlying67, .int .u8 0, by kernel_rfl, rfl, by decide⟩
theorem contains_take_succ {l : List Bytes} {k : Nat} (h : k < l.length) (s : Bytes) : (l.take (k + 1)).contains s = ((l.take k).contains s || (l[k] == s)) := by
  rw [List.take_succ_eq_append_getElem h]
  simp only [List.contains_eq_mem, List.mem_append, List.mem_singleton]
  rw [Bool.eq_iff_iff]
  simp only [decide_eq_true_eq, Bool.or_eq_true, beq_iff_eq]
  constructor <;> rintro (h | h)
  · exact .inl h
  · exact .inr h.symm
  · exact .inl h
  · exact .inr h.symm

def inB (l : List Bytes) (s : Bytes) : Bool := l.contains s
theorem inB_succ {l : List Bytes} {k : Nat} (h : k < l.length) (s : Bytes) : inB (l.take (k + 1)) s = (inB (l.take k) s || (l[k] == s)) := contains_take_succ h s
theorem addN_in {nms : List Bytes} {nm : Bytes} (h : inB nms nm = true) : addN nms nm = nms := if_pos h
theorem addN_out {nms : List Bytes} {nm : Bytes} (h : inB nms nm = false) : addN nms nm = nms ++ [nm] := if_neg (by unfold inB at h; rw [h]; simp)
section
variable (a : Option Addr) (ca : Nat) (l : List Two) (s : Bytes) (w : World)
set_option maxHeartbeats 4000000 in
set_option maxRecDepth 100000 in
theorem rfill_any (hn : l.length ≤ 1048576) (hs : s.length ≤ 100000) (hA : At w 2 encT a l) (hv : ∀ x ∈ l, x.value.length ≤ 100000) :
    Calls Tryz.prog 17 #[.slice a l.length ca, .string ⟨s.toArray⟩] w (FillGives w (fillT l s) (fillN s)) := by
  have HA := Lib.hid hA
  have HV := Lib.hid hv
  clear hA hv
  go_enter Tryz.func17, Tryz.ntmps17
  go_wp2_with fail
  go_loopw [6, 7, 8] (fun v6 v7 v8 wr => ∃ (p : Nat) (out : Bytes) (nms : List Bytes), v8 = .int .i64 p ∧ p ≤ s.length ∧ Hid (FillI l s p p out nms) ∧ Hid (Own wr w.heap.size 5 1 encB v6 out) ∧ Hid (Own wr w.heap.size 9 1 encS v7 nms) ∧ Below w.heap.size w wr) (fun _ _ v8 _ => s.length - (intOf v8).toNat)
  case atStart => exact ⟨0, [], [], rfl, by omega, FillI.start l s, Own.nil _ _ _ _ _, Own.nil _ _ _ _ _, Below.refl _ _⟩
  case round =>
    obtain ⟨p, out, nms, rfl, hp, HI, HO, HN, hb⟩ := hrel
    by_cases hlt : p < s.length
    · have htp := tok_parts hlt
      have hnl := runN_le (s.drop (p + 1))
      rw [List.length_drop] at hnl
      have HRUN := Lib.hid (fun w => run_any (s.drop (p + 1)) w (by rw [List.length_drop]; omega))
      generalize hnn : runN (s.drop (p + 1)) = n at *
      have hroom := HI.out.room
      have hnml := HI.out.len
      have hz := hb.size
      clear hnn
      by_cases h1 : s[p] = 123
      · have hb1 : ((s[p].toNat : Int) != 123) = false := int_eq h1
        by_cases h2 : p + 1 + n < s.length
        · have hr : (s.drop (p + 1))[n]? = some s[p + 1 + n] := by rw [List.getElem?_drop, List.getElem?_eq_getElem h2]
          rw [hr] at htp
          have h2' : (p : Int) + 1 + (n : Int) < (s.length : Int) := by omega
          have h2z : (0 : Int) ≤ (p : Int) + 1 + (n : Int) := by omega
          by_cases h3 : s[p + 1 + n] = 125
          · have hb3 : ((s[p + 1 + n].toNat : Int) != 125) = false := int_eq h3
            have hdt : List.drop (p + 1) (List.take (p + 1 + n) s) = (s.drop (p + 1)).take n := by rw [List.drop_take, Nat.add_sub_cancel_left]
            have hnmlen : ((s.drop (p + 1)).take n).length = n := by rw [List.length_take, List.length_drop]; omega
            have HNAME : Hid (∀ w, Calls Tryz.prog 24 #[.string ⟨(List.drop (p + 1) (List.take (p + 1 + n) s)).toArray⟩] w fun e w' => e = .returned (.bool (nameB ((s.drop (p + 1)).take n))) ∧ w = w') := fun w => by rw [hdt]; exact rname_any _ w (by omega)
            cases hnb : nameB ((s.drop (p + 1)).take n)
            · have ht : tokOf (s.drop p) = none := by rw [htp, if_neg]; simp [hnb]
              have HB := Lib.hid hnb
              clear h1 h3 hr hdt hnb hnmlen
              have HF := Lib.hid (HI.out.lit1 hlt ht)
              clear htp ht
              go_wp2_with fail
              refine (HRUN.out _).mono ?_
              rintro e w' ⟨rfl, rfl⟩
              go_wp2_with fail
              refine (HNAME.out _).mono ?_
              rw [HB.out]
              rintro e w' ⟨rfl, rfl⟩
              go_wp2_with (at_builtin; refine wpList_push rfl _ _ 67 rfl w.heap.size 5 1 1 bytes_sl encB encB_ok _ out rfl (HO.out.alloc _) s[p] wr.heap.size rfl (by intro j u hj; match j, hj with | 0, hj => (simp [encB] at hj; subst hj; simp) | j + 1, hj => simp [encB] at hj) (by omega) (by unfold maxLen; omega) w (hb.alloc hz _) (by simp; omega) ?_; intro v2 w3 hown2 hb3 hg; have HO2 := Lib.hid hown2; have HN2 := Lib.hid ((HN.out.alloc _).grownOther (HO.out.alloc _) (by decide) hg); clear hown2 hg)
              go_roundw
              case rel => exact ⟨p + 1, _, nms, by go_num, by omega, HF, HO2, HN2, hb3⟩
              case measure => simp [intOf]; omega
            · have ht : tokOf (s.drop p) = some ((s.drop (p + 1)).take n) := by rw [htp, if_pos]; simp [h1, h3, hnb]
              have htl := tokOf_len ht
              rw [hnmlen, List.length_drop] at htl
              generalize hnme : (s.drop (p + 1)).take n = nm at *
              have hvl : ((getL l nm).getD (123 :: nm ++ [125])).length ≤ 100001 := by
                cases hg : getL l nm with
                | none => simp; omega
                | some v => have := getL_len hg HV.out; simp; omega
              have hF := HI.out.ask1 hlt ht _ rfl hvl
              rw [hnmlen] at hF
              have htx := tok_text ht
              rw [hnmlen, show (s.drop p).take (n + 2) = List.drop p (List.take (p + 2 + n) s) by rw [List.drop_take]; congr 1; omega] at htx
              have HF := Lib.hid hF
              have HTX := Lib.hid htx
              have HDT := Lib.hid hdt
              have HB := Lib.hid hnb
              have HGET : Hid (∀ w', At w' 2 encT a l → Calls Tryz.prog 88 #[.slice a l.length ca, .string ⟨nm.toArray⟩] w' fun e w'' => e = .returned (getV l nm) ∧ w' = w'') := fun w' h => rget_any a ca l nm w' hn h
              have hnl2 : nm.length = n := hnmlen
              have HNL := Lib.hid hnl2
              have hnml1 : nm.length ≤ 100000 := by omega
              clear htp ht h1 h3 hr hdt hnb hnmlen hF htx hnme hnl2
              go_wp2_with fail
              refine (HRUN.out _).mono ?_
              rintro e w' ⟨rfl, rfl⟩
              go_wp2_with fail
              refine (HNAME.out _).mono ?_
              rw [HB.out]
              rintro e w' ⟨rfl, rfl⟩
              go_wp2_with fail
              rw [HDT.out]
              refine (HGET.out _ (HA.out.below hb)).mono ?_
              unfold getV
              generalize hgg : getL l nm = gv at *
              have HGG := Lib.hid hgg
              clear hgg
              rintro e w' ⟨rfl, rfl⟩
              cases gv with
              | none =>
                have hvv : 123 :: nm ++ [125] = List.drop p (List.take (p + 2 + n) s) := HTX.out.symm
                have HVV := Lib.hid hvv
                simp only [Option.getD_none] at hvl HF ⊢
                rw [hvv] at hvl
                have HF3 : Hid (FillI l s (p + 2 + n) (p + 2 + n) (out ++ (List.drop p (List.take (p + 2 + n) s))) (addN nms nm)) := by have h := HF.out; rw [hvv] at h; exact h
                clear hvv
                go_wp2_with (at_builtin; refine wpList_cats rfl _ _ _ _ rfl w.heap.size 5 bytes_sl (by kernel_rfl) Tryz.underlying9 _ out rfl HO.out (List.drop p (List.take (p + 2 + n) s)) rfl (by omega) (by unfold maxLen; omega) w hb hz ?_; intro v2 w3 hown2 hbb hg; have HO2 := Lib.hid hown2; have HN2 := Lib.hid (HN.out.grownOther HO.out (by decide) hg); clear hown2 hg)
                have HF2 : Hid (FillI l s (p + 2 + n) (p + 2 + n) (out ++ (List.drop p (List.take (p + 2 + n) s))) (addN nms nm)) := HF3.out
                clear HF3 HF
                obtain ⟨xn, xc, rfl⟩ := HN2.out.shape
                go_loop [13, 14] (fun v13 v14 => ∃ k : Nat, k ≤ nms.length ∧ v14 = .int .i64 k ∧ v13 = .bool (inB (nms.take k) nm)) (fun _ v14 => nms.length - (intOf v14).toNat)
                case atStart => exact ⟨0, by omega, rfl, rfl⟩
                case round =>
                  obtain ⟨k, hk, rfl, rfl⟩ := hrel
                  by_cases hlt2 : k < nms.length
                  · obtain ⟨b, off, ha, hbl, hc0⟩ := (HN2.out.addr encS_ok).str hlt2
                    subst ha
                    have hS := inB_succ hlt2 nm
                    cases he : (nms[k] == nm) <;> cases hin : inB (nms.take k) nm
                    all_goals
                      rw [he, hin] at hS
                      have HS := Lib.hid hS
                      clear hS
                      go_wp2_with fail
                      go_round
                      case rel => exact ⟨k + 1, by omega, by go_num, by rw [HS.out]; rfl⟩
                      case measure => simp [intOf]; omega
                  · obtain rfl : k = nms.length := by omega
                    rw [List.take_length]
                    cases hin : inB nms nm
                    · have HAD := Lib.hid (addN_out hin)
                      have hbz := hbb.size
                      clear hin
                      go_wp2_with (at_builtin; refine wpList_push rfl _ _ 52 rfl w.heap.size 9 1 16 slstrs encS encS_ok _ nms rfl (HN2.out.alloc _) nm w3.heap.size rfl (by intro j u hj; match j, hj with | 0, hj => (simp [encS] at hj; subst hj; simp) | j + 1, hj => simp [encS] at hj) (by omega) (by unfold maxLen; omega) w (hbb.alloc hbz _) (by simp; omega) ?_; intro v4 w4 hown4 hb4 hg4; have HN4 := Lib.hid hown4; have HO4 := Lib.hid ((HO2.out.alloc _).grownOther (HN2.out.alloc _) (by decide) hg4); clear hown4 hg4)
                      go_roundw
                      case rel => exact ⟨p + 2 + n, _, nms ++ [nm], by go_num, by omega, by have h := HF2.out; rw [HAD.out] at h; exact h, HO4, HN4, hb4⟩
                      case measure => simp [intOf]; omega
                    · have HAD := Lib.hid (addN_in hin)
                      clear hin
                      go_wp2_with fail
                      go_roundw
                      case rel => exact ⟨p + 2 + n, _, nms, by go_num, by omega, by have h := HF2.out; rw [HAD.out] at h; exact h, HO2, HN2, hbb⟩
                      case measure => simp [intOf]; omega
              | some v =>
                simp only [Option.getD_some] at hvl HF ⊢
                have HF3 := HF
                go_wp2_with (at_builtin; refine wpList_cats rfl _ _ _ _ rfl w.heap.size 5 bytes_sl (by kernel_rfl) Tryz.underlying9 _ out rfl HO.out v rfl (by omega) (by unfold maxLen; omega) w hb hz ?_; intro v2 w3 hown2 hbb hg; have HO2 := Lib.hid hown2; have HN2 := Lib.hid (HN.out.grownOther HO.out (by decide) hg); clear hown2 hg)
                have HF2 : Hid (FillI l s (p + 2 + n) (p + 2 + n) (out ++ v) (addN nms nm)) := HF3.out
                clear HF3 HF
                obtain ⟨xn, xc, rfl⟩ := HN2.out.shape
                go_loop [13, 14] (fun v13 v14 => ∃ k : Nat, k ≤ nms.length ∧ v14 = .int .i64 k ∧ v13 = .bool (inB (nms.take k) nm)) (fun _ v14 => nms.length - (intOf v14).toNat)
                case atStart => exact ⟨0, by omega, rfl, rfl⟩
                case round =>
                  obtain ⟨k, hk, rfl, rfl⟩ := hrel
                  by_cases hlt2 : k < nms.length
                  · obtain ⟨b, off, ha, hbl, hc0⟩ := (HN2.out.addr encS_ok).str hlt2
                    subst ha
                    have hS := inB_succ hlt2 nm
                    cases he : (nms[k] == nm) <;> cases hin : inB (nms.take k) nm
                    all_goals
                      rw [he, hin] at hS
                      have HS := Lib.hid hS
                      clear hS
                      go_wp2_with fail
                      go_round
                      case rel => exact ⟨k + 1, by omega, by go_num, by rw [HS.out]; rfl⟩
                      case measure => simp [intOf]; omega
                  · obtain rfl : k = nms.length := by omega
                    rw [List.take_length]
                    cases hin : inB nms nm
                    · have HAD := Lib.hid (addN_out hin)
                      have hbz := hbb.size
                      clear hin
                      go_wp2_with (at_builtin; refine wpList_push rfl _ _ 52 rfl w.heap.size 9 1 16 slstrs encS encS_ok _ nms rfl (HN2.out.alloc _) nm w3.heap.size rfl (by intro j u hj; match j, hj with | 0, hj => (simp [encS] at hj; subst hj; simp) | j + 1, hj => simp [encS] at hj) (by omega) (by unfold maxLen; omega) w (hbb.alloc hbz _) (by simp; omega) ?_; intro v4 w4 hown4 hb4 hg4; have HN4 := Lib.hid hown4; have HO4 := Lib.hid ((HO2.out.alloc _).grownOther (HN2.out.alloc _) (by decide) hg4); clear hown4 hg4)
                      go_roundw
                      case rel => exact ⟨p + 2 + n, _, nms ++ [nm], by go_num, by omega, by have h := HF2.out; rw [HAD.out] at h; exact h, HO4, HN4, hb4⟩
                      case measure => simp [intOf]; omega
                    · have HAD := Lib.hid (addN_in hin)
                      clear hin
                      go_wp2_with fail
                      go_roundw
                      case rel => exact ⟨p + 2 + n, _, nms, by go_num, by omega, by have h := HF2.out; rw [HAD.out] at h; exact h, HO2, HN2, hbb⟩
                      case measure => simp [intOf]; omega
          · have ht : tokOf (s.drop p) = none := by rw [htp, if_neg]; simp [h3]
            have hb3 : ((s[p + 1 + n].toNat : Int) != 125) = true := int_ne h3
            clear h1 h3 hr
            have HF := Lib.hid (HI.out.lit1 hlt ht)
            clear htp ht
            go_wp2_with fail
            refine (HRUN.out _).mono ?_
            rintro e w' ⟨rfl, rfl⟩
            go_wp2_with (at_builtin; refine wpList_push rfl _ _ 67 rfl w.heap.size 5 1 1 bytes_sl encB encB_ok _ out rfl (HO.out.alloc _) s[p] wr.heap.size rfl (by intro j u hj; match j, hj with | 0, hj => (simp [encB] at hj; subst hj; simp) | j + 1, hj => simp [encB] at hj) (by omega) (by unfold maxLen; omega) w (hb.alloc hz _) (by simp; omega) ?_; intro v2 w3 hown2 hb3 hg; have HO2 := Lib.hid hown2; have HN2 := Lib.hid ((HN.out.alloc _).grownOther (HO.out.alloc _) (by decide) hg); clear hown2 hg)
            go_roundw
            case rel => exact ⟨p + 1, _, nms, by go_num, by omega, HF, HO2, HN2, hb3⟩
            case measure => simp [intOf]; omega
        · have hr : (s.drop (p + 1))[n]? = none := by rw [List.getElem?_eq_none]; rw [List.length_drop]; omega
          have ht : tokOf (s.drop p) = none := by rw [htp, if_neg]; simp [hr]
          have h2' : ¬ (p : Int) + 1 + (n : Int) < (s.length : Int) := by omega
          clear h1 hr h2
          have HF := Lib.hid (HI.out.lit1 hlt ht)
          clear htp ht
          go_wp2_with fail
          refine (HRUN.out _).mono ?_
          rintro e w' ⟨rfl, rfl⟩
          go_wp2_with (at_builtin; refine wpList_push rfl _ _ 67 rfl w.heap.size 5 1 1 bytes_sl encB encB_ok _ out rfl (HO.out.alloc _) s[p] wr.heap.size rfl (by intro j u hj; match j, hj with | 0, hj => (simp [encB] at hj; subst hj; simp) | j + 1, hj => simp [encB] at hj) (by omega) (by unfold maxLen; omega) w (hb.alloc hz _) (by simp; omega) ?_; intro v2 w3 hown2 hb3 hg; have HO2 := Lib.hid hown2; have HN2 := Lib.hid ((HN.out.alloc _).grownOther (HO.out.alloc _) (by decide) hg); clear hown2 hg)
          go_roundw
          case rel => exact ⟨p + 1, _, nms, by go_num, by omega, HF, HO2, HN2, hb3⟩
          case measure => simp [intOf]; omega
      · have ht : tokOf (s.drop p) = none := by rw [htp, if_neg]; simp [h1]
        have hb1 : ((s[p].toNat : Int) != 123) = true := int_ne h1
        clear h1
        have HF := Lib.hid (HI.out.lit1 hlt ht)
        clear htp ht
        go_wp2_with fail
        refine (HRUN.out _).mono ?_
        rintro e w' ⟨rfl, rfl⟩
        go_wp2_with (at_builtin; refine wpList_push rfl _ _ 67 rfl w.heap.size 5 1 1 bytes_sl encB encB_ok _ out rfl (HO.out.alloc _) s[p] wr.heap.size rfl (by intro j u hj; match j, hj with | 0, hj => (simp [encB] at hj; subst hj; simp) | j + 1, hj => simp [encB] at hj) (by omega) (by unfold maxLen; omega) w (hb.alloc hz _) (by simp; omega) ?_; intro v2 w3 hown2 hb3 hg; have HO2 := Lib.hid hown2; have HN2 := Lib.hid ((HN.out.alloc _).grownOther (HO.out.alloc _) (by decide) hg); clear hown2 hg)
        go_roundw
        case rel => exact ⟨p + 1, _, nms, by go_num, by omega, HF, HO2, HN2, hb3⟩
        case measure => simp [intOf]; omega
    · obtain rfl : p = s.length := by omega
      obtain ⟨h1, h2⟩ := HI.out.stop1
      have H1 := Lib.hid h1
      have H2 := Lib.hid h2
      clear h1 h2
      go_wp2_with (refine wpList_str_own rfl _ _ _ 5 rfl rfl Tryz.underlying67 Tryz.underlying5 Tryz.underlying9 out HO.out ?_)
      go_ret2
      show FillGives w (fillT l s) (fillN s) _ _
      rw [H1.out, H2.out]
      exact ⟨⟨_, rfl, HN.out⟩, hb⟩
end
end Go.Proofs.YtgikmippclcimaaGreatDoor
