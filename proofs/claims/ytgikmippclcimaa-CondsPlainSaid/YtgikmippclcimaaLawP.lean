/- The law CondsPlain, walked. -/
import Derived.Test.YtgikmippclcimaaAlive
import Derived.Test.YtgikmippclcimaaSize
namespace Go.Proofs.Ytgikmippclcimaa
open Go.RowKit
set_option linter.unusedVariables false

theorem parseF_len : ∀ (f : Nat) (s : Bytes), (parseF f s).length ≤ f
  | 0, _ => Nat.le_refl _
  | f + 1, [] => Nat.zero_le _
  | f + 1, c :: r => by
    unfold parseF
    split
    · have := parseF_len f (r.drop (List.length ‹Bytes› + 1)); simp; omega
    · have := parseF_len f r; simp; omega
theorem addN_len2 : ∀ (ys acc : List Bytes), (ys.foldl addN acc).length ≤ acc.length + ys.length
  | [], acc => by simp
  | y :: ys, acc => by
    have h1 := addN_len2 ys (addN acc y)
    have h2 := addN_len1 acc y
    rw [List.foldl_cons, List.length_cons]
    omega
theorem fillN_len (s : Bytes) : (fillN s).length ≤ s.length := by
  have h1 := addN_len2 (asksOf s) []
  have h2 : (asksOf s).length ≤ (parse s).length := List.length_filterMap_le _ _
  have h3 := parseF_len s.length s
  unfold fillN
  unfold parse at h2
  simp only [List.length_nil] at h1
  omega
theorem fillT_len {l : List Two} (hv : ∀ x ∈ l, x.value.length ≤ 100000) : ∀ (n : Nat) (s : Bytes), s.length ≤ n → (fillT l s).length ≤ s.length * 100001
  | _, [], _ => by simp [fillT, parse_nil]
  | 0, c :: r, h => by simp at h
  | n + 1, c :: r, h => by
    cases ht : tokOf (c :: r) with
    | none =>
      have e : fillT l (c :: r) = c :: fillT l r := by unfold fillT; rw [parse_lit ht]; rfl
      have := fillT_len hv n r (by simpa using h)
      rw [e, List.length_cons, List.length_cons]; omega
    | some nm =>
      have e := (fillT_ask l ht).1
      have hl := tokOf_len ht
      have hd : ((c :: r).drop (nm.length + 2)).length = (c :: r).length - (nm.length + 2) := List.length_drop
      have := fillT_len hv n ((c :: r).drop (nm.length + 2)) (by rw [hd]; omega)
      rw [hd] at this
      rw [e, List.length_append]
      cases hg : getL l nm with
      | none =>
        simp only [Option.getD_none, List.length_cons, List.length_append, List.length_nil] at *
        omega
      | some v =>
        have hv2 := getL_len hg hv
        simp only [Option.getD_some] at *
        omega
theorem openAt_snoc (o : Bool) (s : Bytes) (k : Nat) (h : k < s.length) : openAt o (s.take (k + 1)) = stepOpen (openAt o (s.take k)) s[k] := by
  unfold openAt
  rw [List.take_succ_eq_append_getElem h, List.foldl_append]; rfl
def anyB (s : Bytes) : Bool := s.any (fun c => c == 123)
theorem anyB_snoc (s : Bytes) (k : Nat) (h : k < s.length) : anyB (s.take (k + 1)) = (anyB (s.take k) || (s[k] == 123)) := by
  unfold anyB
  rw [List.take_succ_eq_append_getElem h, List.any_append]; simp
theorem anyB_false {s : Bytes} (h : anyB s = false) : ∀ c ∈ s, c ≠ 123 := by
  intro c hc e
  subst e
  unfold anyB at h
  rw [List.any_eq_false] at h
  exact h 123 hc (by simp)
theorem int_beq {c d : UInt8} : ((c.toNat : Int) == (d.toNat : Int)) = (c == d) := by
  rw [Bool.eq_iff_iff]
  simp only [beq_iff_eq]
  constructor
  · intro e; exact UInt8.toNat.inj (by omega)
  · intro e; rw [e]

set_option maxHeartbeats 4000000 in
theorem pl_great (w : World) (a : Option Addr) (c : Nat) (l : List Two) (hA : At w 2 encT a l) (hn : l.length ≤ 140737488351232) (hG : ∀ x ∈ l, x.name.length ≤ 140737488351232 ∧ x.value.length ≤ 140737488351232) (s : Bytes) (hs : s.length ≤ 140737488351232) (t : Bytes) (ht : t.length ≤ 140737488351232) (hM : MaxOk w) (hgr : greatB l s = true) :
    Calls Try.prog 8 #[.slice a l.length c, .string ⟨s.toArray⟩, .string ⟨t.toArray⟩] w fun e w' => e = .returned (.bool true) ∧ Below w.heap.size w w' := by
  have HGR := Lib.hid (fun w hA => great_any a c l s w hn hA hG hs)
  have HGB := Lib.hid hgr
  have HA := Lib.hid hA
  have HM := Lib.hid hM
  clear hA hG hgr hM
  go_enter Try.func8, Try.ntmps8
  go_wp2_with fail
  refine (alive_any _ HM.out).mono ?_
  rintro e w1 ⟨rfl, hc⟩
  have hb1 := hc
  have HM := Lib.hid (HM.out.next hc)
  have HA := Lib.hid (HA.out.below hc)
  clear hc
  go_wp2_with fail
  refine (HGR.out _ HA.out).mono ?_
  rw [HGB.out]
  rintro e w2 ⟨rfl, hc⟩
  have hb2 := hb1.trans (hc.mono hb1.size)
  have HM := Lib.hid (HM.out.next hc)
  have HA := Lib.hid (HA.out.below hc)
  clear hc
  go_wp2_with fail
  refine (alive_any _ HM.out).mono ?_
  rintro e w3 ⟨rfl, hc⟩
  have hb3 := hb2.trans (hc.mono hb2.size)
  have HM := Lib.hid (HM.out.next hc)
  have HA := Lib.hid (HA.out.below hc)
  clear hc
  go_wp2_with fail
  go_ret
  exact ⟨rfl, hb3⟩

set_option maxHeartbeats 4000000 in
theorem pl_long (w : World) (a : Option Addr) (c : Nat) (l : List Two) (hA : At w 2 encT a l) (hn : l.length ≤ 140737488351232) (hG : ∀ x ∈ l, x.name.length ≤ 140737488351232 ∧ x.value.length ≤ 140737488351232) (s : Bytes) (hs : s.length ≤ 140737488351232) (t : Bytes) (ht : t.length ≤ 140737488351232) (hM : MaxOk w) (hgr : greatB l s = false) (hlong : 3000 < s.length + t.length) :
    Calls Try.prog 8 #[.slice a l.length c, .string ⟨s.toArray⟩, .string ⟨t.toArray⟩] w fun e w' => e = .returned (.bool true) ∧ Below w.heap.size w w' := by
  obtain ⟨hl1, hn1, hv1⟩ := greatB_false hgr
  have hv2 : ∀ x ∈ l, x.value.length ≤ 100000 := fun x hx => by have := hv1 x hx; omega
  have HV := Lib.hid hv2
  have HGR := Lib.hid (fun w hA => great_any a c l s w hn hA hG hs)
  have HGB := Lib.hid hgr
  have HA := Lib.hid hA
  have HM := Lib.hid hM
  clear hA hG hgr hM hv1 hv2
  go_enter Try.func8, Try.ntmps8
  go_wp2_with fail
  refine (alive_any _ HM.out).mono ?_
  rintro e w1 ⟨rfl, hc⟩
  have hb1 := hc
  have HM := Lib.hid (HM.out.next hc)
  have HA := Lib.hid (HA.out.below hc)
  clear hc
  go_wp2_with fail
  refine (HGR.out _ HA.out).mono ?_
  rw [HGB.out]
  rintro e w2 ⟨rfl, hc⟩
  have hb2 := hb1.trans (hc.mono hb1.size)
  have HM := Lib.hid (HM.out.next hc)
  have HA := Lib.hid (HA.out.below hc)
  clear hc
  go_wp2_with fail
  refine (alive_any _ HM.out).mono ?_
  rintro e w3 ⟨rfl, hc⟩
  have hb3 := hb2.trans (hc.mono hb2.size)
  have HM := Lib.hid (HM.out.next hc)
  have HA := Lib.hid (HA.out.below hc)
  clear hc
  go_wp2_with fail
  go_ret
  exact ⟨rfl, hb3⟩

set_option maxHeartbeats 4000000 in
theorem pl_good (w : World) (a : Option Addr) (c : Nat) (l : List Two) (hA : At w 2 encT a l) (hn : l.length ≤ 140737488351232) (hG : ∀ x ∈ l, x.name.length ≤ 140737488351232 ∧ x.value.length ≤ 140737488351232) (s : Bytes) (hs : s.length ≤ 140737488351232) (t : Bytes) (ht : s.length + t.length ≤ 3000) (hM : MaxOk w) (hgr : greatB l s = false) :
    Calls Try.prog 8 #[.slice a l.length c, .string ⟨s.toArray⟩, .string ⟨t.toArray⟩] w fun e w' => e = .returned (.bool true) ∧ Below w.heap.size w w' := by
  obtain ⟨hl1, hn1, hv1⟩ := greatB_false hgr
  have hv2 : ∀ x ∈ l, x.value.length ≤ 100000 := fun x hx => by have := hv1 x hx; omega
  have HV := Lib.hid hv2
  have HGR := Lib.hid (fun w hA => great_any a c l s w hn hA hG hs)
  have HGB := Lib.hid hgr
  have HA := Lib.hid hA
  have HM := Lib.hid hM
  clear hA hG hgr hM hv1 hv2
  go_enter Try.func8, Try.ntmps8
  go_wp2_with fail
  refine (alive_any _ HM.out).mono ?_
  rintro e w1 ⟨rfl, hc⟩
  have hb1 := hc
  have HM := Lib.hid (HM.out.next hc)
  have HA := Lib.hid (HA.out.below hc)
  clear hc
  go_wp2_with fail
  refine (HGR.out _ HA.out).mono ?_
  rw [HGB.out]
  rintro e w2 ⟨rfl, hc⟩
  have hb2 := hb1.trans (hc.mono hb1.size)
  have HM := Lib.hid (HM.out.next hc)
  have HA := Lib.hid (HA.out.below hc)
  clear hc
  go_wp2_with fail
  go_loop [7, 8, 9] (fun v7 v8 v9 => ∃ (k : Nat) (o b : Bool), k ≤ s.length ∧ v9 = .int .i64 k ∧ v7 = .bool o ∧ v8 = .bool b ∧ Hid (o = openAt false (s.take k)) ∧ Hid (b = anyB (s.take k))) (fun _ _ v9 => s.length - (intOf v9).toNat)
  case atStart => exact ⟨0, false, false, by omega, rfl, rfl, rfl, rfl, rfl⟩
  case round =>
    obtain ⟨k, o, b, hk, rfl, rfl, rfl, HP, HQ⟩ := hrel
    by_cases hlt : k < s.length
    · have hcl : s[k].toNat < 256 := s[k].toNat_lt
      have HS := Lib.hid (openAt_snoc false s k hlt)
      have HB := Lib.hid (anyB_snoc s k hlt)
      have hb1 : ((s[k].toNat : Int) == 123) = (s[k] == 123) := int_beq (d := 123)
      have hb2' : ((s[k].toNat : Int) == 125) = (s[k] == 125) := int_beq (d := 125)
      have hb2 : ((s[k].toNat : Int) != 125) = !(s[k] == 125) := by rw [← hb2']; rfl
      clear hb2'
      cases h1 : (s[k] == 123) <;> cases h2 : (s[k] == 125) <;> cases o <;> cases b
      all_goals
        rw [h1] at hb1
        rw [h2] at hb2
        have H1 := Lib.hid h1
        have H2 := Lib.hid h2
        clear h1 h2
        go_wp2_with fail
        go_round
        case rel => exact ⟨k + 1, _, _, by omega, by go_num, rfl, rfl, by show _ = _; rw [HS.out, ← HP.out]; simp [stepOpen, H1.out, H2.out], by show _ = _; rw [HB.out, ← HQ.out, H1.out]; rfl⟩
        case measure => simp [intOf]; omega
    · obtain rfl : k = s.length := by omega
      have ho : openAt false s = o := by have h := HP.out; rw [List.take_length] at h; exact h.symm
      have hb : anyB s = b := by have h := HQ.out; rw [List.take_length] at h; exact h.symm
      clear HP HQ
      have hX := fillN_len s
      have hY := fillN_len t
      have HBF : Hid (b = false → fillT l s = s ∧ fillN s = []) := fun e => fillT_plain l s (anyB_false (by rw [hb, e]))
      have HOF : Hid (o = false → fillT l (s ++ t) = fillT l s ++ fillT l t ∧ (∃ more, fillN (s ++ t) = fillN s ++ more) ∧ (fillN (s ++ t)).length ≤ (fillN s).length + (fillN t).length) := fun e => fillT_append l s t (by rw [ho, e])
      have hL1 := fillT_len HV.out s.length s (Nat.le_refl _)
      have hL2 := fillT_len HV.out t.length t (Nat.le_refl _)
      clear hb ho
      cases b <;> cases o
      · have hf := HBF.out rfl
        have HF1 := Lib.hid hf.1
        have HF2 := Lib.hid hf.2
        clear hf
        obtain ⟨hc1, ⟨more, hc2⟩, hc3⟩ := HOF.out rfl
        rw [HF1.out] at hc1
        rw [HF2.out] at hc2 hc3
        rw [hc2] at hc3
        have HC1 := Lib.hid hc1
        have HC2 := Lib.hid hc2
        clear hc1 hc2
        clear HBF HOF
        go_wp2_with fail
        refine (fill_any a c l (s) _ (by omega) (by omega) HA.out HV.out).mono ?_
        rw [HF1.out, HF2.out]
        rintro e w3 ⟨⟨r1, rfl, hO⟩, hc⟩
        have hb3 := hb2.trans (hc.mono hb2.size)
        have HM := Lib.hid (HM.out.next hc)
        have HA := Lib.hid (HA.out.below hc)
        obtain ⟨y1, d1, rfl, hY1, hC1⟩ := hO.open encS_ok
        have HY1 := Lib.hid hY1
        clear hY1 hO
        clear hc
        go_wp2_with fail
        refine (fill_any a c l (t) _ (by omega) (by omega) HA.out HV.out).mono ?_
        rintro e w4 ⟨⟨r2, rfl, hO⟩, hc⟩
        have hb4 := hb3.trans (hc.mono hb3.size)
        have HM := Lib.hid (HM.out.next hc)
        have HA := Lib.hid (HA.out.below hc)
        have HY1 := Lib.hid (HY1.out.below hc)
        obtain ⟨y2, d2, rfl, hY2, hC2⟩ := hO.open encS_ok
        have HY2 := Lib.hid hY2
        clear hY2 hO
        clear hc
        go_wp2_with fail
        refine (fill_any a c l (s ++ t) _ (by omega) (by simp; omega) HA.out HV.out).mono ?_
        rw [HC1.out, HC2.out]
        rintro e w5 ⟨⟨r3, rfl, hO⟩, hc⟩
        have hb5 := hb4.trans (hc.mono hb4.size)
        have HM := Lib.hid (HM.out.next hc)
        have HA := Lib.hid (HA.out.below hc)
        have HY1 := Lib.hid (HY1.out.below hc)
        have HY2 := Lib.hid (HY2.out.below hc)
        obtain ⟨y3, d3, rfl, hY3, hC3⟩ := hO.open encS_ok
        have HY3 := Lib.hid hY3
        clear hY3 hO
        clear hc
        have hlen3 : (([] : List Bytes) ++ more).length = ([] : List Bytes).length + more.length := List.length_append
        have HLE := Lib.hid (show more.length ≤ (fillN t).length by simp only [List.length_append, List.length_nil] at hc3; omega)
        have hle1 : ((([] : List Bytes).length : Nat) : Int) ≤ (d3 : Int) := by omega
        go_wp2_with fail
        refine (sameTexts_any y3 d3 y1 d1 ([] : List Bytes) _ (by simp) HY3.out.left HY1.out).mono ?_
        rintro e w6 ⟨rfl, hc⟩
        have hb6 := hb5.trans (hc.mono hb5.size)
        have HM := Lib.hid (HM.out.next hc)
        have HA := Lib.hid (HA.out.below hc)
        have HY1 := Lib.hid (HY1.out.below hc)
        have HY2 := Lib.hid (HY2.out.below hc)
        have HY3 := Lib.hid (HY3.out.below hc)
        clear hc
        go_wp2_with fail
        go_ret
        exact ⟨ret_bool (decide_eq_true HLE.out), hb6⟩
      · have hf := HBF.out rfl
        have HF1 := Lib.hid hf.1
        have HF2 := Lib.hid hf.2
        clear hf
        clear HBF HOF
        go_wp2_with fail
        refine (fill_any a c l (s) _ (by omega) (by omega) HA.out HV.out).mono ?_
        rw [HF1.out, HF2.out]
        rintro e w3 ⟨⟨r1, rfl, hO⟩, hc⟩
        have hb3 := hb2.trans (hc.mono hb2.size)
        have HM := Lib.hid (HM.out.next hc)
        have HA := Lib.hid (HA.out.below hc)
        obtain ⟨y1, d1, rfl, hY1, hC1⟩ := hO.open encS_ok
        have HY1 := Lib.hid hY1
        clear hY1 hO
        clear hc
        go_wp2_with fail
        refine (fill_any a c l (t) _ (by omega) (by omega) HA.out HV.out).mono ?_
        rintro e w4 ⟨⟨r2, rfl, hO⟩, hc⟩
        have hb4 := hb3.trans (hc.mono hb3.size)
        have HM := Lib.hid (HM.out.next hc)
        have HA := Lib.hid (HA.out.below hc)
        have HY1 := Lib.hid (HY1.out.below hc)
        obtain ⟨y2, d2, rfl, hY2, hC2⟩ := hO.open encS_ok
        have HY2 := Lib.hid hY2
        clear hY2 hO
        clear hc
        go_wp2_with fail
        obtain ⟨z, zn, hz1⟩ : ∃ z zn, z = fillT l (s ++ t) ∧ zn = fillN (s ++ t) := ⟨_, _, rfl, rfl⟩
        refine (fill_any a c l (s ++ t) _ (by omega) (by simp; omega) HA.out HV.out).mono ?_
        rw [← hz1.1, ← hz1.2]
        rintro e w5 ⟨⟨r3, rfl, hO⟩, hc⟩
        have hb5 := hb4.trans (hc.mono hb4.size)
        have HM := Lib.hid (HM.out.next hc)
        have HA := Lib.hid (HA.out.below hc)
        have HY1 := Lib.hid (HY1.out.below hc)
        have HY2 := Lib.hid (HY2.out.below hc)
        obtain ⟨y3, d3, rfl, hY3, hC3⟩ := hO.open encS_ok
        clear hY3 hO hz1
        clear hc
        go_wp2_with fail
        go_ret
        exact ⟨rfl, hb5⟩
      · obtain ⟨hc1, ⟨more, hc2⟩, hc3⟩ := HOF.out rfl
        rw [hc2] at hc3
        have HC1 := Lib.hid hc1
        have HC2 := Lib.hid hc2
        clear hc1 hc2
        clear HBF HOF
        go_wp2_with fail
        refine (fill_any a c l (s) _ (by omega) (by omega) HA.out HV.out).mono ?_
        rintro e w3 ⟨⟨r1, rfl, hO⟩, hc⟩
        have hb3 := hb2.trans (hc.mono hb2.size)
        have HM := Lib.hid (HM.out.next hc)
        have HA := Lib.hid (HA.out.below hc)
        obtain ⟨y1, d1, rfl, hY1, hC1⟩ := hO.open encS_ok
        have HY1 := Lib.hid hY1
        clear hY1 hO
        clear hc
        go_wp2_with fail
        refine (fill_any a c l (t) _ (by omega) (by omega) HA.out HV.out).mono ?_
        rintro e w4 ⟨⟨r2, rfl, hO⟩, hc⟩
        have hb4 := hb3.trans (hc.mono hb3.size)
        have HM := Lib.hid (HM.out.next hc)
        have HA := Lib.hid (HA.out.below hc)
        have HY1 := Lib.hid (HY1.out.below hc)
        obtain ⟨y2, d2, rfl, hY2, hC2⟩ := hO.open encS_ok
        have HY2 := Lib.hid hY2
        clear hY2 hO
        clear hc
        go_wp2_with fail
        refine (fill_any a c l (s ++ t) _ (by omega) (by simp; omega) HA.out HV.out).mono ?_
        rw [HC1.out, HC2.out]
        rintro e w5 ⟨⟨r3, rfl, hO⟩, hc⟩
        have hb5 := hb4.trans (hc.mono hb4.size)
        have HM := Lib.hid (HM.out.next hc)
        have HA := Lib.hid (HA.out.below hc)
        have HY1 := Lib.hid (HY1.out.below hc)
        have HY2 := Lib.hid (HY2.out.below hc)
        obtain ⟨y3, d3, rfl, hY3, hC3⟩ := hO.open encS_ok
        have HY3 := Lib.hid hY3
        clear hY3 hO
        clear hc
        have hlen3 : ((fillN s) ++ more).length = (fillN s).length + more.length := List.length_append
        have HLE := Lib.hid (show more.length ≤ (fillN t).length by simp only [List.length_append, List.length_nil] at hc3; omega)
        have hle1 : (((fillN s).length : Nat) : Int) ≤ (d3 : Int) := by omega
        go_wp2_with fail
        refine (sameTexts_any y3 d3 y1 d1 (fillN s) _ (by omega) HY3.out.left HY1.out).mono ?_
        rintro e w6 ⟨rfl, hc⟩
        have hb6 := hb5.trans (hc.mono hb5.size)
        have HM := Lib.hid (HM.out.next hc)
        have HA := Lib.hid (HA.out.below hc)
        have HY1 := Lib.hid (HY1.out.below hc)
        have HY2 := Lib.hid (HY2.out.below hc)
        have HY3 := Lib.hid (HY3.out.below hc)
        clear hc
        go_wp2_with fail
        go_ret
        exact ⟨ret_bool (decide_eq_true HLE.out), hb6⟩
      · clear HBF HOF
        go_wp2_with fail
        refine (fill_any a c l (s) _ (by omega) (by omega) HA.out HV.out).mono ?_
        rintro e w3 ⟨⟨r1, rfl, hO⟩, hc⟩
        have hb3 := hb2.trans (hc.mono hb2.size)
        have HM := Lib.hid (HM.out.next hc)
        have HA := Lib.hid (HA.out.below hc)
        obtain ⟨y1, d1, rfl, hY1, hC1⟩ := hO.open encS_ok
        have HY1 := Lib.hid hY1
        clear hY1 hO
        clear hc
        go_wp2_with fail
        refine (fill_any a c l (t) _ (by omega) (by omega) HA.out HV.out).mono ?_
        rintro e w4 ⟨⟨r2, rfl, hO⟩, hc⟩
        have hb4 := hb3.trans (hc.mono hb3.size)
        have HM := Lib.hid (HM.out.next hc)
        have HA := Lib.hid (HA.out.below hc)
        have HY1 := Lib.hid (HY1.out.below hc)
        obtain ⟨y2, d2, rfl, hY2, hC2⟩ := hO.open encS_ok
        have HY2 := Lib.hid hY2
        clear hY2 hO
        clear hc
        go_wp2_with fail
        obtain ⟨z, zn, hz1⟩ : ∃ z zn, z = fillT l (s ++ t) ∧ zn = fillN (s ++ t) := ⟨_, _, rfl, rfl⟩
        refine (fill_any a c l (s ++ t) _ (by omega) (by simp; omega) HA.out HV.out).mono ?_
        rw [← hz1.1, ← hz1.2]
        rintro e w5 ⟨⟨r3, rfl, hO⟩, hc⟩
        have hb5 := hb4.trans (hc.mono hb4.size)
        have HM := Lib.hid (HM.out.next hc)
        have HA := Lib.hid (HA.out.below hc)
        have HY1 := Lib.hid (HY1.out.below hc)
        have HY2 := Lib.hid (HY2.out.below hc)
        obtain ⟨y3, d3, rfl, hY3, hC3⟩ := hO.open encS_ok
        clear hY3 hO hz1
        clear hc
        go_wp2_with fail
        go_ret
        exact ⟨rfl, hb5⟩

theorem walk_CondsPlain (w : World) (a : Option Addr) (c : Nat) (l : List Two) (hA : At w 2 encT a l) (hn : l.length ≤ 140737488351232) (hG : ∀ x ∈ l, x.name.length ≤ reachBytes ∧ x.value.length ≤ reachBytes) (s : Bytes) (hs : s.length ≤ reachBytes) (t : Bytes) (ht : t.length ≤ reachBytes) (hM : MaxOk w) :
    Calls Try.prog 8 #[.slice a l.length c, .string ⟨s.toArray⟩, .string ⟨t.toArray⟩] w fun e w' => e = .returned (.bool true) ∧ Below w.heap.size w w' := by
  cases hgr : greatB l s
  · by_cases hlong : s.length + t.length ≤ 3000
    · exact pl_good w a c l hA hn hG s hs t hlong hM hgr
    · exact pl_long w a c l hA hn hG s hs t ht hM hgr (by omega)
  · exact pl_great w a c l hA hn hG s hs t ht hM hgr
end Go.Proofs.Ytgikmippclcimaa
