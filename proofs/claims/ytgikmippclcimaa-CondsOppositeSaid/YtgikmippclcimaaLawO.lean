/- The law CondsOpposite, walked. -/
import Derived.Test.YtgikmippclcimaaAlive
import Derived.Test.YtgikmippclcimaaAskLaw
namespace Go.Proofs.Ytgikmippclcimaa
open Go.RowKit
set_option linter.unusedVariables false

theorem askP_form (l : List Two) (c : Bytes) : ∃ (x : Bytes) (b : Bool) (e : Int), askP l c = .tuple #[.string ⟨x.toArray⟩, .bool b, .int .i64 e] := by
  unfold askP
  split
  · exact ⟨_, _, _, rfl⟩
  · exact ⟨[], _, _, rfl⟩
def isS (l : List Two) (n : Bytes) : Bool := (getL l n).isSome
def valS (l : List Two) (n : Bytes) : Bytes := (getL l n).getD []
theorem name_cons {n : Bytes} (h : nameB n = true) : ∃ c r, n = c :: r ∧ c ≠ 33 := by
  match n with
  | [] => cases h
  | c :: r =>
    refine ⟨c, r, rfl, fun e => ?_⟩
    subst e
    have := nameB_signs h 33 (by simp)
    cases this
theorem name_not {n : Bytes} (h : nameB n = true) {k : UInt8} (hk : isSign k = false) : k ∉ n := fun hm => by
  have := nameB_signs h k hm
  rw [hk] at this; cases this
theorem op_1 (l : List Two) {n : Bytes} (h : nameB n = true) : askP l n = .tuple #[.string ⟨n.toArray⟩, .bool (isS l n), .int .i64 0] := by
  obtain ⟨c, r, rfl, hc⟩ := name_cons h
  have hs : splitP (c :: r) = ([], c :: r, [], true) := by rw [splitP_plain (noPrefix hc) (name_not h isSign_61), h]
  rw [askP_ok hs]
  rfl
theorem op_2 (l : List Two) {n : Bytes} (h : nameB n = true) : askP l (33 :: n) = .tuple #[.string ⟨n.toArray⟩, .bool (!isS l n), .int .i64 0] := by
  have hs : splitP (33 :: n) = ([33], n, [], true) := by rw [splitP_not, h]
  rw [askP_ok hs]
  rfl
theorem op_3 (l : List Two) {n : Bytes} (t : Bytes) (h : nameB n = true) : askP l (n ++ 61 :: t) = .tuple #[.string ⟨n.toArray⟩, .bool (isS l n && (valS l n == t)), .int .i64 0] := by
  obtain ⟨c, r, rfl, hc⟩ := name_cons h
  have hs : splitP ((c :: r) ++ 61 :: t) = ([61], c :: r, t, true) := by
    rw [splitP_eq (by rw [List.cons_append]; exact noPrefix hc) (name_not h isSign_61), h]
    cases hq : Lib.hasSuffix (c :: r) [33]
    · rfl
    · obtain ⟨p, hp⟩ := hasSuffix_mem hq
      exact absurd (by rw [hp]; simp) (name_not h isSign_33)
  rw [askP_ok hs]
  rfl
theorem op_4 (l : List Two) {n : Bytes} (t : Bytes) (h : nameB n = true) : askP l (n ++ 33 :: 61 :: t) = .tuple #[.string ⟨n.toArray⟩, .bool (!(isS l n && (valS l n == t))), .int .i64 0] := by
  obtain ⟨c, r, rfl, hc⟩ := name_cons h
  have e : (c :: r) ++ 33 :: 61 :: t = ((c :: r) ++ [33]) ++ 61 :: t := by simp
  have hs : splitP ((c :: r) ++ 33 :: 61 :: t) = ([33, 61], c :: r, t, true) := by
    rw [e, splitP_ne (by rw [List.append_assoc, List.cons_append]; exact noPrefix hc) (name_not h isSign_61), h]
  rw [askP_ok hs]
  rfl
theorem op_5 (l : List Two) (n : Bytes) : getV l n = .tuple #[.string ⟨(valS l n).toArray⟩, .bool (isS l n)] := getV_eq l n


set_option maxHeartbeats 4000000 in
theorem opp_great (w : World) (a : Option Addr) (c : Nat) (l : List Two) (hA : At w 2 encT a l) (hn : l.length ≤ 140737488351232) (hG : ∀ x ∈ l, x.name.length ≤ 140737488351232 ∧ x.value.length ≤ 140737488351232) (n : Bytes) (hs : n.length ≤ 140737488351232) (t : Bytes) (ht : t.length ≤ 140737488351232) (hM : MaxOk w) (hgr : greatB l n = true) :
    Calls Try.prog 7 #[.slice a l.length c, .string ⟨n.toArray⟩, .string ⟨t.toArray⟩] w fun e w' => e = .returned (.bool true) ∧ Below w.heap.size w w' := by
  have HGR := Lib.hid (fun w hA => great_any a c l n w hn hA hG hs)
  have HGB := Lib.hid hgr
  have HA := Lib.hid hA
  have HM := Lib.hid hM
  clear hA hG hgr hM
  go_enter Try.func7, Try.ntmps7
  go_wp2_with fail
  refine (alive_any _ HM.out).mono ?_
  rintro e w1 ⟨rfl, hc⟩
  have hb1 := hc
  have HM := Lib.hid (HM.out.next hc)
  have HA := Lib.hid (HA.out.below hc)
  clear hc
  go_wp2_with fail
  refine (HGR.out _ HA.out).mono ?_
  rw [HGB.out]
  rintro e w2 ⟨rfl, hc⟩
  have hb2 := hb1.trans (hc.mono hb1.size)
  have HM := Lib.hid (HM.out.next hc)
  have HA := Lib.hid (HA.out.below hc)
  clear hc
  go_wp2_with fail
  refine (alive_any _ HM.out).mono ?_
  rintro e w3 ⟨rfl, hc⟩
  have hb3 := hb2.trans (hc.mono hb2.size)
  have HM := Lib.hid (HM.out.next hc)
  have HA := Lib.hid (HA.out.below hc)
  clear hc
  go_wp2_with fail
  go_ret
  exact ⟨rfl, hb3⟩

set_option maxHeartbeats 4000000 in
theorem opp_long (w : World) (a : Option Addr) (c : Nat) (l : List Two) (hA : At w 2 encT a l) (hn : l.length ≤ 140737488351232) (hG : ∀ x ∈ l, x.name.length ≤ 140737488351232 ∧ x.value.length ≤ 140737488351232) (n : Bytes) (hs : n.length ≤ 140737488351232) (t : Bytes) (ht : t.length ≤ 140737488351232) (hM : MaxOk w) (hgr : greatB l n = false) (hlong : 100000 < t.length) :
    Calls Try.prog 7 #[.slice a l.length c, .string ⟨n.toArray⟩, .string ⟨t.toArray⟩] w fun e w' => e = .returned (.bool true) ∧ Below w.heap.size w w' := by
  obtain ⟨hl1, hn1, hv1⟩ := greatB_false hgr
  have HGR := Lib.hid (fun w hA => great_any a c l n w hn hA hG hs)
  have HGB := Lib.hid hgr
  have HA := Lib.hid hA
  have HM := Lib.hid hM
  clear hA hG hgr hM hv1
  go_enter Try.func7, Try.ntmps7
  go_wp2_with fail
  refine (alive_any _ HM.out).mono ?_
  rintro e w1 ⟨rfl, hc⟩
  have hb1 := hc
  have HM := Lib.hid (HM.out.next hc)
  have HA := Lib.hid (HA.out.below hc)
  clear hc
  go_wp2_with fail
  refine (HGR.out _ HA.out).mono ?_
  rw [HGB.out]
  rintro e w2 ⟨rfl, hc⟩
  have hb2 := hb1.trans (hc.mono hb1.size)
  have HM := Lib.hid (HM.out.next hc)
  have HA := Lib.hid (HA.out.below hc)
  clear hc
  go_wp2_with fail
  refine (alive_any _ HM.out).mono ?_
  rintro e w3 ⟨rfl, hc⟩
  have hb3 := hb2.trans (hc.mono hb2.size)
  have HM := Lib.hid (HM.out.next hc)
  have HA := Lib.hid (HA.out.below hc)
  clear hc
  go_wp2_with fail
  go_ret
  exact ⟨rfl, hb3⟩

set_option maxHeartbeats 4000000 in
theorem opp_bad (w : World) (a : Option Addr) (c : Nat) (l : List Two) (hA : At w 2 encT a l) (hn : l.length ≤ 140737488351232) (hG : ∀ x ∈ l, x.name.length ≤ 140737488351232 ∧ x.value.length ≤ 140737488351232) (n : Bytes) (hs : n.length ≤ 140737488351232) (t : Bytes) (ht : t.length ≤ 100000) (hM : MaxOk w) (hgr : greatB l n = false) (hnm : nameB n = false) :
    Calls Try.prog 7 #[.slice a l.length c, .string ⟨n.toArray⟩, .string ⟨t.toArray⟩] w fun e w' => e = .returned (.bool true) ∧ Below w.heap.size w w' := by
  have HN := Lib.hid hnm
  clear hnm
  obtain ⟨hl1, hn1, hv1⟩ := greatB_false hgr
  have HGR := Lib.hid (fun w hA => great_any a c l n w hn hA hG hs)
  have HGB := Lib.hid hgr
  have HA := Lib.hid hA
  have HM := Lib.hid hM
  clear hA hG hgr hM hv1
  go_enter Try.func7, Try.ntmps7
  go_wp2_with fail
  refine (alive_any _ HM.out).mono ?_
  rintro e w1 ⟨rfl, hc⟩
  have hb1 := hc
  have HM := Lib.hid (HM.out.next hc)
  have HA := Lib.hid (HA.out.below hc)
  clear hc
  go_wp2_with fail
  refine (HGR.out _ HA.out).mono ?_
  rw [HGB.out]
  rintro e w2 ⟨rfl, hc⟩
  have hb2 := hb1.trans (hc.mono hb1.size)
  have HM := Lib.hid (HM.out.next hc)
  have HA := Lib.hid (HA.out.below hc)
  clear hc
  go_wp2_with fail
  obtain ⟨x1, b1, e1, hf⟩ := askP_form l (n)
  have HF := Lib.hid hf
  clear hf
  refine (ask_any a c l (n) _ (by omega) (by omega) HA.out HM.out).mono ?_
  rw [HF.out]
  rintro e w3 ⟨rfl, hc⟩
  have hb3 := hb2.trans (hc.mono hb2.size)
  have HM := Lib.hid (HM.out.next hc)
  have HA := Lib.hid (HA.out.below hc)
  clear HF
  clear hc
  go_wp2_with fail
  obtain ⟨x2, b2, e2, hf⟩ := askP_form l (33 :: n)
  have HF := Lib.hid hf
  clear hf
  refine (ask_any a c l (33 :: n) _ (by omega) (by simp; omega) HA.out HM.out).mono ?_
  rw [HF.out]
  rintro e w4 ⟨rfl, hc⟩
  have hb4 := hb3.trans (hc.mono hb3.size)
  have HM := Lib.hid (HM.out.next hc)
  have HA := Lib.hid (HA.out.below hc)
  clear HF
  clear hc
  go_wp2_with fail
  refine (name_any n _ (by omega)).mono ?_
  rw [HN.out]
  rintro e w' ⟨rfl, rfl⟩
  go_wp2_with fail
  obtain ⟨x3, b3, e3, hf⟩ := askP_form l (n ++ 61 :: t)
  have HF := Lib.hid hf
  clear hf
  refine (ask_any a c l (n ++ 61 :: t) _ (by omega) (by simp; omega) HA.out HM.out).mono ?_
  rw [HF.out]
  rintro e w5 ⟨rfl, hc⟩
  have hb5 := hb4.trans (hc.mono hb4.size)
  have HM := Lib.hid (HM.out.next hc)
  have HA := Lib.hid (HA.out.below hc)
  clear HF
  clear hc
  go_wp2_with fail
  obtain ⟨x4, b4, e4, hf⟩ := askP_form l (n ++ 33 :: 61 :: t)
  have HF := Lib.hid hf
  clear hf
  refine (ask_any a c l (n ++ 33 :: 61 :: t) _ (by omega) (by simp; omega) HA.out HM.out).mono ?_
  rw [HF.out]
  rintro e w6 ⟨rfl, hc⟩
  have hb6 := hb5.trans (hc.mono hb5.size)
  have HM := Lib.hid (HM.out.next hc)
  have HA := Lib.hid (HA.out.below hc)
  clear HF
  clear hc
  go_wp2_with fail
  refine (name_any n _ (by omega)).mono ?_
  rw [HN.out]
  rintro e w' ⟨rfl, rfl⟩
  go_wp2_with fail
  go_ret
  exact ⟨rfl, hb6⟩

set_option maxHeartbeats 4000000 in
theorem opp_good (w : World) (a : Option Addr) (c : Nat) (l : List Two) (hA : At w 2 encT a l) (hn : l.length ≤ 140737488351232) (hG : ∀ x ∈ l, x.name.length ≤ 140737488351232 ∧ x.value.length ≤ 140737488351232) (n : Bytes) (hs : n.length ≤ 140737488351232) (t : Bytes) (ht : t.length ≤ 100000) (hM : MaxOk w) (hgr : greatB l n = false) (hnm : nameB n = true) :
    Calls Try.prog 7 #[.slice a l.length c, .string ⟨n.toArray⟩, .string ⟨t.toArray⟩] w fun e w' => e = .returned (.bool true) ∧ Below w.heap.size w w' := by
  have ho1 := op_1 l hnm
  have ho2 := op_2 l hnm
  have ho3 := op_3 l t hnm
  have ho4 := op_4 l t hnm
  have ho5 := op_5 l n
  generalize isS l n = S at *
  generalize valS l n = V at *
  have HN := Lib.hid hnm
  clear hnm
  obtain ⟨hl1, hn1, hv1⟩ := greatB_false hgr
  have HGR := Lib.hid (fun w hA => great_any a c l n w hn hA hG hs)
  have HGB := Lib.hid hgr
  have HA := Lib.hid hA
  have HM := Lib.hid hM
  clear hA hG hgr hM hv1
  cases hvt : (V == t) <;> cases S
  all_goals
    have HV := Lib.hid hvt
    rw [hvt] at ho3 ho4
    have HO1 := Lib.hid ho1
    have HO2 := Lib.hid ho2
    have HO3 := Lib.hid ho3
    have HO4 := Lib.hid ho4
    have HO5 := Lib.hid ho5
    clear ho1 ho2 ho3 ho4 ho5
    go_enter Try.func7, Try.ntmps7
    go_wp2_with fail
    refine (alive_any _ HM.out).mono ?_
    rintro e w1 ⟨rfl, hc⟩
    have hb1 := hc
    have HM := Lib.hid (HM.out.next hc)
    have HA := Lib.hid (HA.out.below hc)
    clear hc
    go_wp2_with fail
    refine (HGR.out _ HA.out).mono ?_
    rw [HGB.out]
    rintro e w2 ⟨rfl, hc⟩
    have hb2 := hb1.trans (hc.mono hb1.size)
    have HM := Lib.hid (HM.out.next hc)
    have HA := Lib.hid (HA.out.below hc)
    clear hc
    go_wp2_with fail
    refine (ask_any a c l (n) _ (by omega) (by omega) HA.out HM.out).mono ?_
    rw [HO1.out]
    rintro e w3 ⟨rfl, hc⟩
    have hb3 := hb2.trans (hc.mono hb2.size)
    have HM := Lib.hid (HM.out.next hc)
    have HA := Lib.hid (HA.out.below hc)
    clear hc
    go_wp2_with fail
    refine (ask_any a c l (33 :: n) _ (by omega) (by simp; omega) HA.out HM.out).mono ?_
    rw [HO2.out]
    rintro e w4 ⟨rfl, hc⟩
    have hb4 := hb3.trans (hc.mono hb3.size)
    have HM := Lib.hid (HM.out.next hc)
    have HA := Lib.hid (HA.out.below hc)
    clear hc
    go_wp2_with fail
    refine (name_any n _ (by omega)).mono ?_
    rw [HN.out]
    rintro e w' ⟨rfl, rfl⟩
    go_wp2_with fail
    refine (ask_any a c l (n ++ 61 :: t) _ (by omega) (by simp; omega) HA.out HM.out).mono ?_
    rw [HO3.out]
    rintro e w5 ⟨rfl, hc⟩
    have hb5 := hb4.trans (hc.mono hb4.size)
    have HM := Lib.hid (HM.out.next hc)
    have HA := Lib.hid (HA.out.below hc)
    clear hc
    go_wp2_with fail
    refine (ask_any a c l (n ++ 33 :: 61 :: t) _ (by omega) (by simp; omega) HA.out HM.out).mono ?_
    rw [HO4.out]
    rintro e w6 ⟨rfl, hc⟩
    have hb6 := hb5.trans (hc.mono hb5.size)
    have HM := Lib.hid (HM.out.next hc)
    have HA := Lib.hid (HA.out.below hc)
    clear hc
    go_wp2_with fail
    refine (name_any n _ (by omega)).mono ?_
    rw [HN.out]
    rintro e w' ⟨rfl, rfl⟩
    go_wp2_with fail
    refine (get_any a c l n _ (by omega) HA.out).mono ?_
    rw [HO5.out]
    rintro e w7 ⟨rfl, hc⟩
    have hb7 := hb6.trans (hc.mono hb6.size)
    have HM := Lib.hid (HM.out.next hc)
    have HA := Lib.hid (HA.out.below hc)
    clear hc
    go_wp2_with fail
    go_ret
    exact ⟨rfl, hb7⟩

theorem walk_CondsOpposite (w : World) (a : Option Addr) (c : Nat) (l : List Two) (hA : At w 2 encT a l) (hn : l.length ≤ 140737488351232) (hG : ∀ x ∈ l, x.name.length ≤ reachBytes ∧ x.value.length ≤ reachBytes) (n : Bytes) (hs : n.length ≤ reachBytes) (t : Bytes) (ht : t.length ≤ reachBytes) (hM : MaxOk w) :
    Calls Try.prog 7 #[.slice a l.length c, .string ⟨n.toArray⟩, .string ⟨t.toArray⟩] w fun e w' => e = .returned (.bool true) ∧ Below w.heap.size w w' := by
  cases hgr : greatB l n
  · by_cases hlong : t.length ≤ 100000
    · cases hnm : nameB n
      · exact opp_bad w a c l hA hn hG n hs t hlong hM hgr hnm
      · exact opp_good w a c l hA hn hG n hs t hlong hM hgr hnm
    · exact opp_long w a c l hA hn hG n hs t ht hM hgr (by omega)
  · exact opp_great w a c l hA hn hG n hs t ht hM hgr
end Go.Proofs.Ytgikmippclcimaa
