/- Conditions: what the reference answers. -/
import Derived.Test.YtgikmippclcimaaAsk
namespace Go.Proofs.Ytgikmippclcimaa
open Go.RowKit

def runN (s : Bytes) : Nat := (s.takeWhile isSign).length
theorem runN_le (s : Bytes) : runN s ≤ s.length := by
  unfold runN; exact (List.takeWhile_prefix _).length_le
theorem take_runN (s : Bytes) : s.take (runN s) = s.takeWhile isSign := by
  have h := List.takeWhile_append_dropWhile (p := isSign) (l := s)
  unfold runN
  conv => lhs; arg 2; rw [← h]
  rw [List.take_left]
theorem runN_of (s : Bytes) (k : Nat) (hk : k ≤ s.length) (h1 : (s.take k).all isSign = true) (h2 : k = s.length ∨ ∃ h : k < s.length, isSign s[k] = false) : runN s = k := by
  unfold runN
  have e := List.take_append_drop k s
  rw [← e, List.takeWhile_append_of_pos (by simpa using h1)]
  have : (s.drop k).takeWhile isSign = [] := by
    rcases h2 with h2 | ⟨h, h2⟩
    · subst h2; simp
    · rw [List.drop_eq_getElem_cons h, List.takeWhile_cons, h2]; rfl
  rw [this]; simp [hk]

set_option maxHeartbeats 1000000 in
theorem run_any (l : Bytes) (w : World) (hl : l.length ≤ 9223372036854775807) :
    Calls Try.prog 39 #[.string ⟨l.toArray⟩] w fun e w' => e = .returned (.int .i64 (runN l)) ∧ w = w' := by
  go_enter Try.func39, Try.ntmps39
  go_wp2_with fail
  go_loop [3] (fun v => ∃ k : Nat, k ≤ l.length ∧ v = .int .i64 k ∧ Hid ((l.take k).all isSign = true)) (fun v => l.length - (intOf v).toNat)
  case atStart => exact ⟨0, by omega, rfl, by simp [Hid]⟩
  case round =>
    obtain ⟨k, hk, rfl, HP⟩ := hrel
    by_cases hlt : k < l.length
    · have hcl : l[k].toNat < 256 := l[k].toNat_lt
      have hts := all_take_succ isSign l k hlt
      rw [HP.out, Bool.true_and] at hts
      have HT := Lib.hid hts
      clear hts
      cases hL : (isLetter l[k] || isDigit l[k])
      · by_cases h45 : l[k].toNat = 45
        · have hs : isSign l[k] = true := by simp [isSign, h45]
          have HS := Lib.hid hs
          have hb : ((l[k].toNat : Int) == 45) = true := by rw [h45]; rfl
          clear hs h45
          go_wp2_with (go_at_call 49; refine (rLetter_any l[k] _).mono ?_; rw [hL]; rintro e w' ⟨rfl, rfl⟩)
          go_round
          case rel => exact ⟨k + 1, by omega, by go_num, by show _ = _; rw [HT.out, HS.out]⟩
          case measure => simp [intOf]; omega
        · have hs : isSign l[k] = false := by unfold isSign; rw [hL, decide_eq_false h45]; rfl
          have HR := Lib.hid (runN_of l k hk HP.out (.inr ⟨hlt, hs⟩))
          have hb : ((l[k].toNat : Int) == 45) = false := beq_eq_false_iff_ne.2 (by omega)
          clear hs h45
          go_wp2_with (go_at_call 49; refine (rLetter_any l[k] _).mono ?_; rw [hL]; rintro e w' ⟨rfl, rfl⟩)
          go_ret
          exact ⟨by rw [HR.out]; rfl, rfl⟩
      · have hs : isSign l[k] = true := by unfold isSign; rw [hL]; rfl
        have HS := Lib.hid hs
        clear hs
        go_wp2_with (go_at_call 49; refine (rLetter_any l[k] _).mono ?_; rw [hL]; rintro e w' ⟨rfl, rfl⟩)
        go_round
        case rel => exact ⟨k + 1, by omega, by go_num, by show _ = _; rw [HT.out, HS.out]⟩
        case measure => simp [intOf]; omega
    · have HR := Lib.hid (runN_of l k hk HP.out (.inl (by omega)))
      go_wp2
      go_ret
      exact ⟨by rw [HR.out]; rfl, rfl⟩

/-! ### Ask -/

set_option maxHeartbeats 2000000 in
theorem rask_A1 (a : Option Addr) (ca : Nat) (l : List Two) (d nm rs : Bytes) (w : World) (hn : l.length ≤ 1048576) (hc : List.length d ≤ 1048575) (hA : At w 2 encT a l) (h1 : List.take (runN d) d = nm) (h2 : List.drop (runN d) d = rs) (hnm : nameB nm = false) :
    Calls Try.prog 19 #[.slice a l.length ca, .string ⟨List.toArray (33 :: d)⟩] w fun e w' => e = .returned (.tuple #[.string ⟨#[]⟩, .bool false, .int .i64 4]) ∧ Below w.heap.size w w' := by
  have HA := Lib.hid hA
  have hrl := runN_le d
  have htl : (List.take (runN d) d).length ≤ 9223372036854775807 := by rw [List.length_take]; exact Nat.le_trans (Nat.min_le_right _ _) (by omega)
  have HTL := Lib.hid htl
  clear hA htl
  have H1 := Lib.hid h1
  have H2 := Lib.hid h2
  have HN := Lib.hid hnm
  clear h1 h2 hnm

  go_enter Try.func19, Try.ntmps19
  go_wp2_with fail
  refine (run_any d _ (by omega)).mono ?_
  rintro e w' ⟨rfl, rfl⟩
  go_wp2_with fail
  refine (rname_any (List.take (runN d) d) _ HTL.out).mono ?_
  rw [H1.out, HN.out]
  rintro e w' ⟨rfl, rfl⟩
  rw [H2.out]
  go_wp2_with fail
  go_ret3
  exact ⟨by first | rfl | (simp; done) | (cases set <;> simp), Below.refl _ _⟩

set_option maxHeartbeats 2000000 in
theorem rask_A2 (a : Option Addr) (ca : Nat) (l : List Two) (d nm : Bytes) (w : World) (hn : l.length ≤ 1048576) (hc : List.length d ≤ 1048575) (hA : At w 2 encT a l) (h1 : List.take (runN d) d = nm) (h2 : List.drop (runN d) d = []) (hnm : nameB nm = true) :
    Calls Try.prog 19 #[.slice a l.length ca, .string ⟨List.toArray (33 :: d)⟩] w fun e w' => e = .returned (.tuple #[.string ⟨nm.toArray⟩, .bool (!(getL l nm).isSome), .int .i64 0]) ∧ Below w.heap.size w w' := by
  have HA := Lib.hid hA
  have hrl := runN_le d
  have htl : (List.take (runN d) d).length ≤ 9223372036854775807 := by rw [List.length_take]; exact Nat.le_trans (Nat.min_le_right _ _) (by omega)
  have HTL := Lib.hid htl
  clear hA htl
  have H1 := Lib.hid h1
  have H2 := Lib.hid h2
  have HN := Lib.hid hnm
  clear h1 h2 hnm
  have hgv := getV_eq l nm
  generalize (getL l nm).getD [] = val at *
  generalize (getL l nm).isSome = set at *
  have HGV := Lib.hid hgv
  clear hgv

  go_enter Try.func19, Try.ntmps19
  go_wp2_with fail
  refine (run_any d _ (by omega)).mono ?_
  rintro e w' ⟨rfl, rfl⟩
  go_wp2_with fail
  refine (rname_any (List.take (runN d) d) _ HTL.out).mono ?_
  rw [H1.out, HN.out]
  rintro e w' ⟨rfl, rfl⟩
  rw [H2.out]
  go_wp2_with fail
  refine (rget_any a ca l nm _ (by omega) HA.out).mono ?_
  rw [HGV.out]
  rintro e w' ⟨rfl, rfl⟩
  go_wp2_with fail
  go_ret3
  exact ⟨by first | rfl | (simp; done) | (cases set <;> simp), Below.refl _ _⟩

set_option maxHeartbeats 2000000 in
theorem rask_A3 (a : Option Addr) (ca : Nat) (l : List Two) (d nm r : Bytes) (z : UInt8) (w : World) (hn : l.length ≤ 1048576) (hc : List.length d ≤ 1048575) (hA : At w 2 encT a l) (h1 : List.take (runN d) d = nm) (h2 : List.drop (runN d) d = z :: r) (hnm : nameB nm = true) :
    Calls Try.prog 19 #[.slice a l.length ca, .string ⟨List.toArray (33 :: d)⟩] w fun e w' => e = .returned (.tuple #[.string ⟨#[]⟩, .bool false, .int .i64 4]) ∧ Below w.heap.size w w' := by
  have HA := Lib.hid hA
  have hrl := runN_le d
  have htl : (List.take (runN d) d).length ≤ 9223372036854775807 := by rw [List.length_take]; exact Nat.le_trans (Nat.min_le_right _ _) (by omega)
  have HTL := Lib.hid htl
  clear hA htl
  have H1 := Lib.hid h1
  have H2 := Lib.hid h2
  have HN := Lib.hid hnm
  clear h1 h2 hnm

  go_enter Try.func19, Try.ntmps19
  go_wp2_with fail
  refine (run_any d _ (by omega)).mono ?_
  rintro e w' ⟨rfl, rfl⟩
  go_wp2_with fail
  refine (rname_any (List.take (runN d) d) _ HTL.out).mono ?_
  rw [H1.out, HN.out]
  rintro e w' ⟨rfl, rfl⟩
  rw [H2.out]
  go_wp2_with fail
  go_ret3
  exact ⟨by first | rfl | (simp; done) | (cases set <;> simp), Below.refl _ _⟩

set_option maxHeartbeats 2000000 in
theorem rask_B0 (a : Option Addr) (ca : Nat) (l : List Two) (w : World) :
    Calls Try.prog 19 #[.slice a l.length ca, .string ⟨#[]⟩] w fun e w' => e = .returned (.tuple #[.string ⟨#[]⟩, .bool false, .int .i64 4]) ∧ Below w.heap.size w w' := by
  have HN : Hid (nameB [] = false) := by show _ = _; rfl
  go_enter Try.func19, Try.ntmps19
  go_wp2_with fail
  refine (run_any [] _ (by simp)).mono ?_
  rw [show runN [] = 0 from rfl]
  rintro e w' ⟨rfl, rfl⟩
  go_wp2_with fail
  refine (rname_any [] _ (by simp)).mono ?_
  rw [HN.out]
  rintro e w' ⟨rfl, rfl⟩
  go_wp2_with fail
  go_ret3
  exact ⟨rfl, Below.refl _ _⟩

set_option maxHeartbeats 2000000 in
theorem rask_B1 (a : Option Addr) (ca : Nat) (l : List Two) (y : UInt8) (t nm rs : Bytes) (w : World) (hn : l.length ≤ 1048576) (hc : List.length (y :: t) ≤ 1048575) (hA : At w 2 encT a l) (h1 : List.take (runN (y :: t)) (y :: t) = nm) (h2 : List.drop (runN (y :: t)) (y :: t) = rs) (hy : y.toNat ≠ 33) (hnm : nameB nm = false) :
    Calls Try.prog 19 #[.slice a l.length ca, .string ⟨List.toArray (y :: t)⟩] w fun e w' => e = .returned (.tuple #[.string ⟨#[]⟩, .bool false, .int .i64 4]) ∧ Below w.heap.size w w' := by
  have HA := Lib.hid hA
  have hrl := runN_le (y :: t)
  have htl : (List.take (runN (y :: t)) (y :: t)).length ≤ 9223372036854775807 := by rw [List.length_take]; exact Nat.le_trans (Nat.min_le_right _ _) (by omega)
  have HTL := Lib.hid htl
  clear hA htl
  have hc2 : List.length t + 1 ≤ 1048575 := hc
  have hrl3 : runN (y :: t) ≤ List.length t + 1 := hrl
  have H1 := Lib.hid h1
  have H2 := Lib.hid h2
  have HN := Lib.hid hnm
  clear h1 h2 hnm
  have hy1 : ((y.toNat : Int) == 33) = false := beq_eq_false_iff_ne.2 (by omega)

  go_enter Try.func19, Try.ntmps19
  go_wp2_with fail
  refine (run_any (y :: t) _ (by omega)).mono ?_
  rintro e w' ⟨rfl, rfl⟩
  go_wp2_with fail
  refine (rname_any (List.take (runN (y :: t)) (y :: t)) _ HTL.out).mono ?_
  rw [H1.out, HN.out]
  rintro e w' ⟨rfl, rfl⟩
  rw [H2.out]
  go_wp2_with fail
  go_ret3
  exact ⟨by first | rfl | (simp; done) | (cases set <;> simp), Below.refl _ _⟩

set_option maxHeartbeats 2000000 in
theorem rask_B2 (a : Option Addr) (ca : Nat) (l : List Two) (y : UInt8) (t nm  : Bytes) (w : World) (hn : l.length ≤ 1048576) (hc : List.length (y :: t) ≤ 1048575) (hA : At w 2 encT a l) (h1 : List.take (runN (y :: t)) (y :: t) = nm) (h2 : List.drop (runN (y :: t)) (y :: t) = []) (hy : y.toNat ≠ 33) (hnm : nameB nm = true) :
    Calls Try.prog 19 #[.slice a l.length ca, .string ⟨List.toArray (y :: t)⟩] w fun e w' => e = .returned (.tuple #[.string ⟨nm.toArray⟩, .bool ((getL l nm).isSome), .int .i64 0]) ∧ Below w.heap.size w w' := by
  have HA := Lib.hid hA
  have hrl := runN_le (y :: t)
  have htl : (List.take (runN (y :: t)) (y :: t)).length ≤ 9223372036854775807 := by rw [List.length_take]; exact Nat.le_trans (Nat.min_le_right _ _) (by omega)
  have HTL := Lib.hid htl
  clear hA htl
  have hc2 : List.length t + 1 ≤ 1048575 := hc
  have hrl3 : runN (y :: t) ≤ List.length t + 1 := hrl
  have H1 := Lib.hid h1
  have H2 := Lib.hid h2
  have HN := Lib.hid hnm
  clear h1 h2 hnm
  have hgv := getV_eq l nm
  generalize (getL l nm).getD [] = val at *
  generalize (getL l nm).isSome = set at *
  have HGV := Lib.hid hgv
  clear hgv
  have hy1 : ((y.toNat : Int) == 33) = false := beq_eq_false_iff_ne.2 (by omega)

  go_enter Try.func19, Try.ntmps19
  go_wp2_with fail
  refine (run_any (y :: t) _ (by omega)).mono ?_
  rintro e w' ⟨rfl, rfl⟩
  go_wp2_with fail
  refine (rname_any (List.take (runN (y :: t)) (y :: t)) _ HTL.out).mono ?_
  rw [H1.out, HN.out]
  rintro e w' ⟨rfl, rfl⟩
  rw [H2.out]
  go_wp2_with fail
  refine (rget_any a ca l nm _ (by omega) HA.out).mono ?_
  rw [HGV.out]
  rintro e w' ⟨rfl, rfl⟩
  go_wp2_with fail
  go_ret3
  exact ⟨by first | rfl | (simp; done) | (cases set <;> simp), Below.refl _ _⟩

set_option maxHeartbeats 2000000 in
theorem rask_B3 (a : Option Addr) (ca : Nat) (l : List Two) (y : UInt8) (t nm r : Bytes) (w : World) (hn : l.length ≤ 1048576) (hc : List.length (y :: t) ≤ 1048575) (hA : At w 2 encT a l) (h1 : List.take (runN (y :: t)) (y :: t) = nm) (h2 : List.drop (runN (y :: t)) (y :: t) = 61 :: r) (hy : y.toNat ≠ 33) (hnm : nameB nm = true) (hrl2 : List.length r ≤ 1048576) :
    Calls Try.prog 19 #[.slice a l.length ca, .string ⟨List.toArray (y :: t)⟩] w fun e w' => e = .returned (.tuple #[.string ⟨nm.toArray⟩, .bool ((getL l nm).isSome && ((getL l nm).getD [] == r)), .int .i64 0]) ∧ Below w.heap.size w w' := by
  have HA := Lib.hid hA
  have hrl := runN_le (y :: t)
  have htl : (List.take (runN (y :: t)) (y :: t)).length ≤ 9223372036854775807 := by rw [List.length_take]; exact Nat.le_trans (Nat.min_le_right _ _) (by omega)
  have HTL := Lib.hid htl
  clear hA htl
  have hc2 : List.length t + 1 ≤ 1048575 := hc
  have hrl3 : runN (y :: t) ≤ List.length t + 1 := hrl
  have H1 := Lib.hid h1
  have H2 := Lib.hid h2
  have HN := Lib.hid hnm
  clear h1 h2 hnm
  have hgv := getV_eq l nm
  generalize (getL l nm).getD [] = val at *
  generalize (getL l nm).isSome = set at *
  have HGV := Lib.hid hgv
  clear hgv
  have hy1 : ((y.toNat : Int) == 33) = false := beq_eq_false_iff_ne.2 (by omega)

  go_enter Try.func19, Try.ntmps19
  go_wp2_with fail
  refine (run_any (y :: t) _ (by omega)).mono ?_
  rintro e w' ⟨rfl, rfl⟩
  go_wp2_with fail
  refine (rname_any (List.take (runN (y :: t)) (y :: t)) _ HTL.out).mono ?_
  rw [H1.out, HN.out]
  rintro e w' ⟨rfl, rfl⟩
  rw [H2.out]
  go_wp2_with fail
  refine (rget_any a ca l nm _ (by omega) HA.out).mono ?_
  rw [HGV.out]
  rintro e w' ⟨rfl, rfl⟩
  cases set
  all_goals
    go_wp2_with fail
    go_quiet (fail)
    go_wp2_with fail
    go_ret3
    exact ⟨by first | rfl | (simp; done), below_drewN (Below.refl _ _) _⟩

set_option maxHeartbeats 2000000 in
theorem rask_B4 (a : Option Addr) (ca : Nat) (l : List Two) (y : UInt8) (t nm r : Bytes) (w : World) (hn : l.length ≤ 1048576) (hc : List.length (y :: t) ≤ 1048575) (hA : At w 2 encT a l) (h1 : List.take (runN (y :: t)) (y :: t) = nm) (h2 : List.drop (runN (y :: t)) (y :: t) = 33 :: 61 :: r) (hy : y.toNat ≠ 33) (hnm : nameB nm = true) (hrl2 : List.length r ≤ 1048576) :
    Calls Try.prog 19 #[.slice a l.length ca, .string ⟨List.toArray (y :: t)⟩] w fun e w' => e = .returned (.tuple #[.string ⟨nm.toArray⟩, .bool (!((getL l nm).isSome && ((getL l nm).getD [] == r))), .int .i64 0]) ∧ Below w.heap.size w w' := by
  have HA := Lib.hid hA
  have hrl := runN_le (y :: t)
  have htl : (List.take (runN (y :: t)) (y :: t)).length ≤ 9223372036854775807 := by rw [List.length_take]; exact Nat.le_trans (Nat.min_le_right _ _) (by omega)
  have HTL := Lib.hid htl
  clear hA htl
  have hc2 : List.length t + 1 ≤ 1048575 := hc
  have hrl3 : runN (y :: t) ≤ List.length t + 1 := hrl
  have H1 := Lib.hid h1
  have H2 := Lib.hid h2
  have HN := Lib.hid hnm
  clear h1 h2 hnm
  have hgv := getV_eq l nm
  generalize (getL l nm).getD [] = val at *
  generalize (getL l nm).isSome = set at *
  have HGV := Lib.hid hgv
  clear hgv
  have hy1 : ((y.toNat : Int) == 33) = false := beq_eq_false_iff_ne.2 (by omega)

  go_enter Try.func19, Try.ntmps19
  go_wp2_with fail
  refine (run_any (y :: t) _ (by omega)).mono ?_
  rintro e w' ⟨rfl, rfl⟩
  go_wp2_with fail
  refine (rname_any (List.take (runN (y :: t)) (y :: t)) _ HTL.out).mono ?_
  rw [H1.out, HN.out]
  rintro e w' ⟨rfl, rfl⟩
  rw [H2.out]
  go_wp2_with fail
  refine (rget_any a ca l nm _ (by omega) HA.out).mono ?_
  rw [HGV.out]
  rintro e w' ⟨rfl, rfl⟩
  cases set
  all_goals
    go_wp2_with fail
    go_quiet (fail)
    go_wp2_with fail
    go_ret3
    exact ⟨by first | rfl | (simp; done), below_drewN (Below.refl _ _) _⟩

set_option maxHeartbeats 2000000 in
theorem rask_B5a (a : Option Addr) (ca : Nat) (l : List Two) (y z : UInt8) (t nm : Bytes) (w : World) (hn : l.length ≤ 1048576) (hc : List.length (y :: t) ≤ 1048575) (hA : At w 2 encT a l) (h1 : List.take (runN (y :: t)) (y :: t) = nm) (h2 : List.drop (runN (y :: t)) (y :: t) = [z]) (hy : y.toNat ≠ 33) (hz : z.toNat ≠ 61) (hnm : nameB nm = true) :
    Calls Try.prog 19 #[.slice a l.length ca, .string ⟨List.toArray (y :: t)⟩] w fun e w' => e = .returned (.tuple #[.string ⟨#[]⟩, .bool false, .int .i64 4]) ∧ Below w.heap.size w w' := by
  have HA := Lib.hid hA
  have hrl := runN_le (y :: t)
  have htl : (List.take (runN (y :: t)) (y :: t)).length ≤ 9223372036854775807 := by rw [List.length_take]; exact Nat.le_trans (Nat.min_le_right _ _) (by omega)
  have HTL := Lib.hid htl
  clear hA htl
  have hc2 : List.length t + 1 ≤ 1048575 := hc
  have hrl3 : runN (y :: t) ≤ List.length t + 1 := hrl
  have H1 := Lib.hid h1
  have H2 := Lib.hid h2
  have HN := Lib.hid hnm
  clear h1 h2 hnm
  have hgv := getV_eq l nm
  generalize (getL l nm).getD [] = val at *
  generalize (getL l nm).isSome = set at *
  have HGV := Lib.hid hgv
  clear hgv
  have hy1 : ((y.toNat : Int) == 33) = false := beq_eq_false_iff_ne.2 (by omega)
  have hz1 : ((z.toNat : Int) == 61) = false := beq_eq_false_iff_ne.2 (by omega)

  go_enter Try.func19, Try.ntmps19
  go_wp2_with fail
  refine (run_any (y :: t) _ (by omega)).mono ?_
  rintro e w' ⟨rfl, rfl⟩
  go_wp2_with fail
  refine (rname_any (List.take (runN (y :: t)) (y :: t)) _ HTL.out).mono ?_
  rw [H1.out, HN.out]
  rintro e w' ⟨rfl, rfl⟩
  rw [H2.out]
  go_wp2_with fail
  refine (rget_any a ca l nm _ (by omega) HA.out).mono ?_
  rw [HGV.out]
  rintro e w' ⟨rfl, rfl⟩
  go_wp2_with fail
  go_ret3
  exact ⟨by first | rfl | (simp; done) | (cases set <;> simp), Below.refl _ _⟩

set_option maxHeartbeats 2000000 in
theorem rask_B5b (a : Option Addr) (ca : Nat) (l : List Two) (y z q : UInt8) (t nm r : Bytes) (w : World) (hn : l.length ≤ 1048576) (hc : List.length (y :: t) ≤ 1048575) (hA : At w 2 encT a l) (h1 : List.take (runN (y :: t)) (y :: t) = nm) (h2 : List.drop (runN (y :: t)) (y :: t) = z :: q :: r) (hy : y.toNat ≠ 33) (hz : z.toNat ≠ 61) (hz2 : z.toNat ≠ 33) (hnm : nameB nm = true) :
    Calls Try.prog 19 #[.slice a l.length ca, .string ⟨List.toArray (y :: t)⟩] w fun e w' => e = .returned (.tuple #[.string ⟨#[]⟩, .bool false, .int .i64 4]) ∧ Below w.heap.size w w' := by
  have HA := Lib.hid hA
  have hrl := runN_le (y :: t)
  have htl : (List.take (runN (y :: t)) (y :: t)).length ≤ 9223372036854775807 := by rw [List.length_take]; exact Nat.le_trans (Nat.min_le_right _ _) (by omega)
  have HTL := Lib.hid htl
  clear hA htl
  have hc2 : List.length t + 1 ≤ 1048575 := hc
  have hrl3 : runN (y :: t) ≤ List.length t + 1 := hrl
  have H1 := Lib.hid h1
  have H2 := Lib.hid h2
  have HN := Lib.hid hnm
  clear h1 h2 hnm
  have hgv := getV_eq l nm
  generalize (getL l nm).getD [] = val at *
  generalize (getL l nm).isSome = set at *
  have HGV := Lib.hid hgv
  clear hgv
  have hy1 : ((y.toNat : Int) == 33) = false := beq_eq_false_iff_ne.2 (by omega)
  have hz1 : ((z.toNat : Int) == 61) = false := beq_eq_false_iff_ne.2 (by omega)
  have hz3 : (z == 33) = false := beq_eq_false_iff_ne.2 (fun e => hz2 (by rw [e]; rfl))

  go_enter Try.func19, Try.ntmps19
  go_wp2_with fail
  refine (run_any (y :: t) _ (by omega)).mono ?_
  rintro e w' ⟨rfl, rfl⟩
  go_wp2_with fail
  refine (rname_any (List.take (runN (y :: t)) (y :: t)) _ HTL.out).mono ?_
  rw [H1.out, HN.out]
  rintro e w' ⟨rfl, rfl⟩
  rw [H2.out]
  go_wp2_with fail
  refine (rget_any a ca l nm _ (by omega) HA.out).mono ?_
  rw [HGV.out]
  rintro e w' ⟨rfl, rfl⟩
  go_wp2_with fail
  go_ret3
  exact ⟨by first | rfl | (simp; done) | (cases set <;> simp), Below.refl _ _⟩

set_option maxHeartbeats 2000000 in
theorem rask_B5c (a : Option Addr) (ca : Nat) (l : List Two) (y q : UInt8) (t nm r : Bytes) (w : World) (hn : l.length ≤ 1048576) (hc : List.length (y :: t) ≤ 1048575) (hA : At w 2 encT a l) (h1 : List.take (runN (y :: t)) (y :: t) = nm) (h2 : List.drop (runN (y :: t)) (y :: t) = 33 :: q :: r) (hy : y.toNat ≠ 33) (hz2 : q.toNat ≠ 61) (hnm : nameB nm = true) :
    Calls Try.prog 19 #[.slice a l.length ca, .string ⟨List.toArray (y :: t)⟩] w fun e w' => e = .returned (.tuple #[.string ⟨#[]⟩, .bool false, .int .i64 4]) ∧ Below w.heap.size w w' := by
  have HA := Lib.hid hA
  have hrl := runN_le (y :: t)
  have htl : (List.take (runN (y :: t)) (y :: t)).length ≤ 9223372036854775807 := by rw [List.length_take]; exact Nat.le_trans (Nat.min_le_right _ _) (by omega)
  have HTL := Lib.hid htl
  clear hA htl
  have hc2 : List.length t + 1 ≤ 1048575 := hc
  have hrl3 : runN (y :: t) ≤ List.length t + 1 := hrl
  have H1 := Lib.hid h1
  have H2 := Lib.hid h2
  have HN := Lib.hid hnm
  clear h1 h2 hnm
  have hgv := getV_eq l nm
  generalize (getL l nm).getD [] = val at *
  generalize (getL l nm).isSome = set at *
  have HGV := Lib.hid hgv
  clear hgv
  have hy1 : ((y.toNat : Int) == 33) = false := beq_eq_false_iff_ne.2 (by omega)
  have hz3 : (q == 61) = false := beq_eq_false_iff_ne.2 (fun e => hz2 (by rw [e]; rfl))

  go_enter Try.func19, Try.ntmps19
  go_wp2_with fail
  refine (run_any (y :: t) _ (by omega)).mono ?_
  rintro e w' ⟨rfl, rfl⟩
  go_wp2_with fail
  refine (rname_any (List.take (runN (y :: t)) (y :: t)) _ HTL.out).mono ?_
  rw [H1.out, HN.out]
  rintro e w' ⟨rfl, rfl⟩
  rw [H2.out]
  go_wp2_with fail
  refine (rget_any a ca l nm _ (by omega) HA.out).mono ?_
  rw [HGV.out]
  rintro e w' ⟨rfl, rfl⟩
  go_wp2_with fail
  go_ret3
  exact ⟨by first | rfl | (simp; done) | (cases set <;> simp), Below.refl _ _⟩
end Go.Proofs.Ytgikmippclcimaa
