/- The law AheadParts, walked. -/
import Derived.Test.YtfedkhicckgjaaaGreatDoorRdSeven
import Derived.Test.YtfedkhicckgjaaaGreatDoorPartsP
import Derived.Test.YtfedkhicckgjaaaGreatDoorLinesW
import Derived.Test.YtfedkhicckgjaaaGreatDoorLinesLen
import Derived.Test.YtfedkhicckgjaaaGreatDoorSameS
import Derived.Test.YtfedkhicckgjaaaGreatDoorSlStr
import Derived.Test.YtfedkhicckgjaaaGreatDoorFrameC
import Derived.Test.YtfedkhicckgjaaaGreatDoorCat
namespace Go.Proofs.YtfedkhicckgjaaaGreatDoor
open Go.RowKit
set_option linter.unusedVariables false
set_option linter.unusedSimpArgs false

theorem joinNL_snoc {l : List Bytes} {k : Nat} (h : k < l.length) : joinNL (l.take (k + 1)) = joinNL (l.take k) ++ l[k] ++ [10] := by
  rw [List.take_succ_eq_append_getElem h]
  unfold joinNL
  rw [List.flatMap_append]
  simp
theorem joinNL_le (l : List Bytes) (j : Nat) : (joinNL (l.take j)).length ≤ (joinNL l).length := by
  have h : joinNL l = joinNL (l.take j) ++ joinNL (l.drop j) := by unfold joinNL; rw [← List.flatMap_append, List.take_append_drop]
  rw [h, List.length_append]; omega

set_option maxHeartbeats 4000000 in
set_option maxRecDepth 100000 in
theorem parts_far (w : World) (s : Bytes) (t : Bytes) (hM : MaxOk w) (hs : s.length ≤ 140737488351232) (ht : t.length ≤ 140737488351232) (hbe : beyondB (s.length + t.length) = true) :
    Calls Tryz.prog 5 #[.string ⟨s.toArray⟩, .string ⟨t.toArray⟩] w fun e w' => e = .returned (.bool true) ∧ Below w.heap.size w w' := by
  have HM := Lib.hid hM
  have HBE := Lib.hid hbe
  clear hM hbe
  go_enter Tryz.func5, Tryz.ntmps5
  go_wp2_with (go_at_call 22; refine (alive_any _ HM.out).mono ?_; rintro e w1 ⟨rfl, hb1⟩)
  refine (beyond2 s.length t.length w1.heap.size _ (by simp) (by simp) hs ht).mono ?_
  rw [HBE.out]
  rintro e w2 ⟨rfl, rfl⟩
  have hb2 := hb1.alloc hb1.size (.cells #[.int .i64 (s.length : Nat), .int .i64 (t.length : Nat)] 3)
  go_wp2_with (go_at_call 22; refine (alive_any _ (HM.out.next hb2)).mono ?_; rintro e w3 ⟨rfl, hc⟩; have hb3 := hb2.trans (hc.mono hb2.size))
  go_ret
  exact ⟨rfl, hb3⟩

set_option maxHeartbeats 4000000 in
set_option maxRecDepth 100000 in
theorem parts_e_small (w : World) (s : Bytes) (t : Bytes) (hM : MaxOk w) (hbe : beyondB (s.length + t.length) = false) (hbl : s.length + t.length ≤ 1048576) (hs0 : s = []) (h5 : s.length ≤ 5000) :
    Calls Tryz.prog 5 #[.string ⟨s.toArray⟩, .string ⟨t.toArray⟩] w fun e w' => e = .returned (.bool true) ∧ Below w.heap.size w w' := by
  have HM := Lib.hid hM
  have HBE := Lib.hid hbe
  clear hM hbe
  have HJ : Hid (joinNL (linesP s) = s) := by show _ = _; subst hs0; rfl
  have HLS : Hid (linesP s = []) := by show _ = _; subst hs0; rfl
  have hz0 : s.length = 0 := by rw [hs0]; rfl
  have hz : ¬ (0 : Int) < (s.length : Int) := by omega
  have hs1 : (s == []) = true := by rw [hs0]; rfl
  clear hz0 hs0
  have hlen := linesP_le s
  have hlen2 := linesP_le t
  go_enter Tryz.func5, Tryz.ntmps5
  go_wp2_with (first
    | (go_at_call 22; refine (alive_any _ HM.out).mono ?_; rintro e w1 ⟨rfl, hb1⟩; have HM1 := Lib.hid (HM.out.next hb1))
    | (go_at_call 10; refine (beyond2 s.length t.length w1.heap.size _ (by simp) (by simp) (by omega) (by omega)).mono ?_; rw [HBE.out]; rintro e w2 ⟨rfl, rfl⟩; have hb2 := hb1.alloc hb1.size (.cells #[.int .i64 (s.length : Nat), .int .i64 (t.length : Nat)] 3))
    | (go_at_call 13; refine (lines_any s _ (by omega) (HM.out.next hb2)).mono ?_; rintro e w3 ⟨⟨vl, rfl, hOl⟩, hc⟩; obtain ⟨al, cl, rfl⟩ := hOl.shape; have hb3 := hb2.trans (hc.mono hb2.size); have HL := Lib.hid (hOl.mono hb2.size); clear hOl hc)
    | (at_builtin; refine Hold.out ?_))
  go_loopw [6, 7] (fun v6 v7 wr => ∃ k : Nat, ∃ all : Bytes, k ≤ (linesP s).length ∧ v7 = .int .i64 k ∧ v6 = .string ⟨all.toArray⟩ ∧ Hid (all = joinNL ((linesP s).take k)) ∧ Hid (Below w3.heap.size w3 wr)) (fun _ v7 _ => (linesP s).length - (intOf v7).toNat)
  case atStart => exact ⟨0, [], by omega, rfl, rfl, by show _ = _; rw [List.take_zero]; rfl, Below.refl _ _⟩
  case round =>
    obtain ⟨k, all, hk, rfl, rfl, HAL, HBr⟩ := hrel
    have HLk := Lib.hid (HL.out.next rfl HBr.out)
    by_cases hlt : k < (linesP s).length
    · obtain ⟨b, off, ha, hbl2, hc0⟩ := (HLk.out.addr encS_ok).str hlt
      subst ha
      have HN : Hid (all ++ (linesP s)[k] ++ [10] = joinNL ((linesP s).take (k + 1))) := by
        show _ = _
        rw [joinNL_snoc hlt, ← HAL.out]
      have hle : (joinNL ((linesP s).take (k + 1))).length ≤ 1048577 := by
        have h1 := joinNL_le (linesP s) (k + 1)
        rw [HJ.out] at h1
        omega
      rw [← HN.out] at hle
      generalize (linesP s)[k] = x at *
      simp only [List.length_append, List.length_singleton] at hle
      have hle1 : ¬ 9223372036854775807 < all.length + x.length := by omega
      have hle2 : ¬ 9223372036854775807 < all.length + x.length + 1 := by omega
      go_wp2
      go_roundw
      case rel => exact ⟨k + 1, _, by omega, by go_num, rfl, (by show _ = _; rw [← List.append_assoc]; exact HN.out), HBr.out⟩
      case measure => simp [intOf]; omega
    · have e : s = all := by
        have h1 := HAL.out
        rw [List.take_of_length_le (by omega), HJ.out] at h1
        exact h1.symm
      subst e
      have hb4 := hb3.trans (HBr.out.mono hb3.size)
      go_wp2_with (at_builtin; refine Hold.out ?_)
      constructor
      refine wpList_cat rfl _ _ 26 rfl w.heap.size 9 1 16 slstrs encS encS_ok _ [] rfl (Own.nil _ _ _ _ _) _ _ _ (linesP s) rfl rfl (HLk.out.addr encS_ok) (by simp; omega) (by unfold maxLen; simp; omega) w hb4 hb4.size ?_
      intro v5 w5 hO5 hb5 _
      rw [List.nil_append] at hO5
      obtain ⟨a5, c5, rfl⟩ := hO5.shape
      have HO5 := Lib.hid hO5
      clear hO5
      go_wp2_with (first | (go_at_call 13; refine (lines_any t _ (by omega) (HM.out.next hb5)).mono ?_; rintro e w6 ⟨⟨vl, rfl, hOl⟩, hc⟩; obtain ⟨a6, c6, rfl⟩ := hOl.shape; have hb6 := hb5.trans (hc.mono hb5.size); have HO6 := Lib.hid (HO5.out.next rfl hc); have HT6 := Lib.hid hOl; clear hOl hc) | (at_builtin; refine Hold.out ?_))
      constructor
      refine wpList_cat rfl _ _ 26 rfl w.heap.size 9 1 16 slstrs encS encS_ok _ (linesP s) rfl HO6.out _ _ _ (linesP t) rfl rfl (HT6.out.addr encS_ok) (by omega) (by unfold maxLen; omega) w hb6 hb6.size ?_
      intro v7 w7 hO7 hb7 _
      obtain ⟨l2, hl2⟩ : ∃ z, z = linesP s ++ linesP t := ⟨_, rfl⟩
      have hl2n : l2.length ≤ 1048576 := by rw [hl2, List.length_append]; omega
      rw [← hl2] at hO7
      have HL2 := Lib.hid hl2
      clear hl2
      obtain ⟨a7, c7, rfl⟩ := hO7.shape
      have HO7 := Lib.hid hO7
      clear hO7
      go_wp2_with fail
      go_ret
      exact ⟨rfl, hb7⟩

set_option maxHeartbeats 4000000 in
set_option maxRecDepth 100000 in
theorem parts_t_small (w : World) (s : Bytes) (t : Bytes) (hM : MaxOk w) (hbe : beyondB (s.length + t.length) = false) (hbl : s.length + t.length ≤ 1048576) (m : Nat) (hm : m < s.length) (hml : s.length = m + 1) (hx : s[m] = 10) (hend : s.getLast? = some 10) (h5 : s.length ≤ 5000) :
    Calls Tryz.prog 5 #[.string ⟨s.toArray⟩, .string ⟨t.toArray⟩] w fun e w' => e = .returned (.bool true) ∧ Below w.heap.size w w' := by
  have HM := Lib.hid hM
  have HBE := Lib.hid hbe
  clear hM hbe
  have HJ : Hid (joinNL (linesP s) = s) := join_ends hend
  have hp1 : (0 : Int) < (s.length : Int) := by omega
  have hp2 : (0 : Int) ≤ (m : Int) := by omega
  have hp3 : (m : Int) < (s.length : Int) := by omega
  have a1 : IntKind.i64.wrap ((s.length : Int) - 1) = (m : Int) := by rw [IntWalk.i64_in _ (by omega)]; omega
  have HP : Hid (linesP (s ++ t) = linesP s ++ linesP t) := parts_ends t hend
  clear hml hend
  have hlen := linesP_le s
  have hlen2 := linesP_le t
  go_enter Tryz.func5, Tryz.ntmps5
  go_wp2_with (first
    | (go_at_call 22; refine (alive_any _ HM.out).mono ?_; rintro e w1 ⟨rfl, hb1⟩; have HM1 := Lib.hid (HM.out.next hb1))
    | (go_at_call 10; refine (beyond2 s.length t.length w1.heap.size _ (by simp) (by simp) (by omega) (by omega)).mono ?_; rw [HBE.out]; rintro e w2 ⟨rfl, rfl⟩; have hb2 := hb1.alloc hb1.size (.cells #[.int .i64 (s.length : Nat), .int .i64 (t.length : Nat)] 3))
    | (go_at_call 13; refine (lines_any s _ (by omega) (HM.out.next hb2)).mono ?_; rintro e w3 ⟨⟨vl, rfl, hOl⟩, hc⟩; obtain ⟨al, cl, rfl⟩ := hOl.shape; have hb3 := hb2.trans (hc.mono hb2.size); have HL := Lib.hid (hOl.mono hb2.size); clear hOl hc)
    | (at_builtin; refine Hold.out ?_))
  go_loopw [6, 7] (fun v6 v7 wr => ∃ k : Nat, ∃ all : Bytes, k ≤ (linesP s).length ∧ v7 = .int .i64 k ∧ v6 = .string ⟨all.toArray⟩ ∧ Hid (all = joinNL ((linesP s).take k)) ∧ Hid (Below w3.heap.size w3 wr)) (fun _ v7 _ => (linesP s).length - (intOf v7).toNat)
  case atStart => exact ⟨0, [], by omega, rfl, rfl, by show _ = _; rw [List.take_zero]; rfl, Below.refl _ _⟩
  case round =>
    obtain ⟨k, all, hk, rfl, rfl, HAL, HBr⟩ := hrel
    have HLk := Lib.hid (HL.out.next rfl HBr.out)
    by_cases hlt : k < (linesP s).length
    · obtain ⟨b, off, ha, hbl2, hc0⟩ := (HLk.out.addr encS_ok).str hlt
      subst ha
      have HN : Hid (all ++ (linesP s)[k] ++ [10] = joinNL ((linesP s).take (k + 1))) := by
        show _ = _
        rw [joinNL_snoc hlt, ← HAL.out]
      have hle : (joinNL ((linesP s).take (k + 1))).length ≤ 1048577 := by
        have h1 := joinNL_le (linesP s) (k + 1)
        rw [HJ.out] at h1
        omega
      rw [← HN.out] at hle
      generalize (linesP s)[k] = x at *
      simp only [List.length_append, List.length_singleton] at hle
      have hle1 : ¬ 9223372036854775807 < all.length + x.length := by omega
      have hle2 : ¬ 9223372036854775807 < all.length + x.length + 1 := by omega
      go_wp2
      go_roundw
      case rel => exact ⟨k + 1, _, by omega, by go_num, rfl, (by show _ = _; rw [← List.append_assoc]; exact HN.out), HBr.out⟩
      case measure => simp [intOf]; omega
    · have e : s = all := by
        have h1 := HAL.out
        rw [List.take_of_length_le (by omega), HJ.out] at h1
        exact h1.symm
      subst e
      have hb4 := hb3.trans (HBr.out.mono hb3.size)
      go_wp2_with (at_builtin; refine Hold.out ?_)
      constructor
      refine wpList_cat rfl _ _ 26 rfl w.heap.size 9 1 16 slstrs encS encS_ok _ [] rfl (Own.nil _ _ _ _ _) _ _ _ (linesP s) rfl rfl (HLk.out.addr encS_ok) (by simp; omega) (by unfold maxLen; simp; omega) w hb4 hb4.size ?_
      intro v5 w5 hO5 hb5 _
      rw [List.nil_append] at hO5
      obtain ⟨a5, c5, rfl⟩ := hO5.shape
      have HO5 := Lib.hid hO5
      clear hO5
      go_wp2_with (first | (go_at_call 13; refine (lines_any t _ (by omega) (HM.out.next hb5)).mono ?_; rintro e w6 ⟨⟨vl, rfl, hOl⟩, hc⟩; obtain ⟨a6, c6, rfl⟩ := hOl.shape; have hb6 := hb5.trans (hc.mono hb5.size); have HO6 := Lib.hid (HO5.out.next rfl hc); have HT6 := Lib.hid hOl; clear hOl hc) | (at_builtin; refine Hold.out ?_))
      constructor
      refine wpList_cat rfl _ _ 26 rfl w.heap.size 9 1 16 slstrs encS encS_ok _ (linesP s) rfl HO6.out _ _ _ (linesP t) rfl rfl (HT6.out.addr encS_ok) (by omega) (by unfold maxLen; omega) w hb6 hb6.size ?_
      intro v7 w7 hO7 hb7 _
      obtain ⟨l2, hl2⟩ : ∃ z, z = linesP s ++ linesP t := ⟨_, rfl⟩
      have hl2n : l2.length ≤ 1048576 := by rw [hl2, List.length_append]; omega
      rw [← hl2] at hO7
      have HL2 := Lib.hid hl2
      clear hl2
      obtain ⟨a7, c7, rfl⟩ := hO7.shape
      have HO7 := Lib.hid hO7
      clear hO7
      have HP2 : Hid (linesP (s ++ t) = l2) := by show _ = _; rw [HL2.out, ← HP.out]
      go_wp2_with (first | (go_at_call 13; refine (lines_any (s ++ t) _ (by simp; omega) (HM.out.next hb7)).mono ?_; rw [HP2.out]; rintro e w8 ⟨⟨vl, rfl, hOl⟩, hc⟩; obtain ⟨a8, c8, rfl⟩ := hOl.shape; have hb8 := hb7.trans (hc.mono hb7.size); have HO8 := Lib.hid (HO7.out.next rfl hc); have HT8 := Lib.hid hOl; clear hOl hc) | (go_at_call 16; refine (sameTexts_any a8 c8 a7 c7 l2 _ hl2n (HT8.out.addr encS_ok) (HO8.out.addr encS_ok)).mono ?_; rintro e w9 ⟨rfl, hc⟩; have hb9 := hb8.trans (hc.mono hb8.size); clear hc))
      go_ret
      exact ⟨rfl, hb9⟩

set_option maxHeartbeats 4000000 in
set_option maxRecDepth 100000 in
theorem parts_t_big (w : World) (s : Bytes) (t : Bytes) (hM : MaxOk w) (hbe : beyondB (s.length + t.length) = false) (hbl : s.length + t.length ≤ 1048576) (m : Nat) (hm : m < s.length) (hml : s.length = m + 1) (hx : s[m] = 10) (hend : s.getLast? = some 10) (h5 : 5000 < s.length) :
    Calls Tryz.prog 5 #[.string ⟨s.toArray⟩, .string ⟨t.toArray⟩] w fun e w' => e = .returned (.bool true) ∧ Below w.heap.size w w' := by
  have HM := Lib.hid hM
  have HBE := Lib.hid hbe
  clear hM hbe
  have HJ : Hid (joinNL (linesP s) = s) := join_ends hend
  have hp1 : (0 : Int) < (s.length : Int) := by omega
  have hp2 : (0 : Int) ≤ (m : Int) := by omega
  have hp3 : (m : Int) < (s.length : Int) := by omega
  have a1 : IntKind.i64.wrap ((s.length : Int) - 1) = (m : Int) := by rw [IntWalk.i64_in _ (by omega)]; omega
  have HP : Hid (linesP (s ++ t) = linesP s ++ linesP t) := parts_ends t hend
  clear hml hend
  have hlen := linesP_le s
  have hlen2 := linesP_le t
  go_enter Tryz.func5, Tryz.ntmps5
  go_wp2_with (first
    | (go_at_call 22; refine (alive_any _ HM.out).mono ?_; rintro e w1 ⟨rfl, hb1⟩; have HM1 := Lib.hid (HM.out.next hb1))
    | (go_at_call 10; refine (beyond2 s.length t.length w1.heap.size _ (by simp) (by simp) (by omega) (by omega)).mono ?_; rw [HBE.out]; rintro e w2 ⟨rfl, rfl⟩; have hb2 := hb1.alloc hb1.size (.cells #[.int .i64 (s.length : Nat), .int .i64 (t.length : Nat)] 3))
    | (go_at_call 13; refine (lines_any s _ (by omega) (HM.out.next hb2)).mono ?_; rintro e w3 ⟨⟨vl, rfl, hOl⟩, hc⟩; obtain ⟨al, cl, rfl⟩ := hOl.shape; have hb3 := hb2.trans (hc.mono hb2.size); have HL := Lib.hid (hOl.mono hb2.size); clear hOl hc)
    | (at_builtin; refine Hold.out ?_))
  have hb4 := hb3
  have HLk := HL
  constructor
  refine wpList_cat rfl _ _ 26 rfl w.heap.size 9 1 16 slstrs encS encS_ok _ [] rfl (Own.nil _ _ _ _ _) _ _ _ (linesP s) rfl rfl (HLk.out.addr encS_ok) (by simp; omega) (by unfold maxLen; simp; omega) w hb4 hb4.size ?_
  intro v5 w5 hO5 hb5 _
  rw [List.nil_append] at hO5
  obtain ⟨a5, c5, rfl⟩ := hO5.shape
  have HO5 := Lib.hid hO5
  clear hO5
  go_wp2_with (first | (go_at_call 13; refine (lines_any t _ (by omega) (HM.out.next hb5)).mono ?_; rintro e w6 ⟨⟨vl, rfl, hOl⟩, hc⟩; obtain ⟨a6, c6, rfl⟩ := hOl.shape; have hb6 := hb5.trans (hc.mono hb5.size); have HO6 := Lib.hid (HO5.out.next rfl hc); have HT6 := Lib.hid hOl; clear hOl hc) | (at_builtin; refine Hold.out ?_))
  constructor
  refine wpList_cat rfl _ _ 26 rfl w.heap.size 9 1 16 slstrs encS encS_ok _ (linesP s) rfl HO6.out _ _ _ (linesP t) rfl rfl (HT6.out.addr encS_ok) (by omega) (by unfold maxLen; omega) w hb6 hb6.size ?_
  intro v7 w7 hO7 hb7 _
  obtain ⟨l2, hl2⟩ : ∃ z, z = linesP s ++ linesP t := ⟨_, rfl⟩
  have hl2n : l2.length ≤ 1048576 := by rw [hl2, List.length_append]; omega
  rw [← hl2] at hO7
  have HL2 := Lib.hid hl2
  clear hl2
  obtain ⟨a7, c7, rfl⟩ := hO7.shape
  have HO7 := Lib.hid hO7
  clear hO7
  have HP2 : Hid (linesP (s ++ t) = l2) := by show _ = _; rw [HL2.out, ← HP.out]
  go_wp2_with (first | (go_at_call 13; refine (lines_any (s ++ t) _ (by simp; omega) (HM.out.next hb7)).mono ?_; rw [HP2.out]; rintro e w8 ⟨⟨vl, rfl, hOl⟩, hc⟩; obtain ⟨a8, c8, rfl⟩ := hOl.shape; have hb8 := hb7.trans (hc.mono hb7.size); have HO8 := Lib.hid (HO7.out.next rfl hc); have HT8 := Lib.hid hOl; clear hOl hc) | (go_at_call 16; refine (sameTexts_any a8 c8 a7 c7 l2 _ hl2n (HT8.out.addr encS_ok) (HO8.out.addr encS_ok)).mono ?_; rintro e w9 ⟨rfl, hc⟩; have hb9 := hb8.trans (hc.mono hb8.size); clear hc))
  go_ret
  exact ⟨rfl, hb9⟩

set_option maxHeartbeats 4000000 in
set_option maxRecDepth 100000 in
theorem parts_o_small (w : World) (s : Bytes) (t : Bytes) (hM : MaxOk w) (hbe : beyondB (s.length + t.length) = false) (hbl : s.length + t.length ≤ 1048576) (m : Nat) (hm : m < s.length) (hml : s.length = m + 1) (c : UInt8) (hc10 : c ≠ 10) (hx : s[m] = c) (hend : s.getLast? ≠ some 10) (h5 : s.length ≤ 5000) :
    Calls Tryz.prog 5 #[.string ⟨s.toArray⟩, .string ⟨t.toArray⟩] w fun e w' => e = .returned (.bool true) ∧ Below w.heap.size w w' := by
  have HM := Lib.hid hM
  have HBE := Lib.hid hbe
  clear hM hbe
  have HJ : Hid (joinNL (linesP s) = s ++ [10]) := join_other (by intro e; rw [e] at hml; cases hml) hend
  have hp1 : (0 : Int) < (s.length : Int) := by omega
  have hp2 : (0 : Int) ≤ (m : Int) := by omega
  have hp3 : (m : Int) < (s.length : Int) := by omega
  have a1 : IntKind.i64.wrap ((s.length : Int) - 1) = (m : Int) := by rw [IntWalk.i64_in _ (by omega)]; omega
  have HP : Hid (linesP (s ++ [10] ++ t) = linesP s ++ linesP t) := parts_other t (by intro e; rw [e] at hml; cases hml) hend
  have hq1 : ((c.toNat : Int) == 10) = false := beq_eq_false_iff_ne.2 fun e => hc10 (UInt8.toNat_inj.1 (by show c.toNat = 10; omega))
  have hq2 : ((s ++ [10]) == s) = false := beq_eq_false_iff_ne.2 fun e => by have := congrArg List.length e; simp at this
  have hs0 : (s == []) = false := beq_eq_false_iff_ne.2 fun e => by rw [e] at hml; cases hml
  clear hml hend
  have hlen := linesP_le s
  have hlen2 := linesP_le t
  go_enter Tryz.func5, Tryz.ntmps5
  go_wp2_with (first
    | (go_at_call 22; refine (alive_any _ HM.out).mono ?_; rintro e w1 ⟨rfl, hb1⟩; have HM1 := Lib.hid (HM.out.next hb1))
    | (go_at_call 10; refine (beyond2 s.length t.length w1.heap.size _ (by simp) (by simp) (by omega) (by omega)).mono ?_; rw [HBE.out]; rintro e w2 ⟨rfl, rfl⟩; have hb2 := hb1.alloc hb1.size (.cells #[.int .i64 (s.length : Nat), .int .i64 (t.length : Nat)] 3))
    | (go_at_call 13; refine (lines_any s _ (by omega) (HM.out.next hb2)).mono ?_; rintro e w3 ⟨⟨vl, rfl, hOl⟩, hc⟩; obtain ⟨al, cl, rfl⟩ := hOl.shape; have hb3 := hb2.trans (hc.mono hb2.size); have HL := Lib.hid (hOl.mono hb2.size); clear hOl hc)
    | (at_builtin; refine Hold.out ?_))
  go_loopw [6, 7] (fun v6 v7 wr => ∃ k : Nat, ∃ all : Bytes, k ≤ (linesP s).length ∧ v7 = .int .i64 k ∧ v6 = .string ⟨all.toArray⟩ ∧ Hid (all = joinNL ((linesP s).take k)) ∧ Hid (Below w3.heap.size w3 wr)) (fun _ v7 _ => (linesP s).length - (intOf v7).toNat)
  case atStart => exact ⟨0, [], by omega, rfl, rfl, by show _ = _; rw [List.take_zero]; rfl, Below.refl _ _⟩
  case round =>
    obtain ⟨k, all, hk, rfl, rfl, HAL, HBr⟩ := hrel
    have HLk := Lib.hid (HL.out.next rfl HBr.out)
    by_cases hlt : k < (linesP s).length
    · obtain ⟨b, off, ha, hbl2, hc0⟩ := (HLk.out.addr encS_ok).str hlt
      subst ha
      have HN : Hid (all ++ (linesP s)[k] ++ [10] = joinNL ((linesP s).take (k + 1))) := by
        show _ = _
        rw [joinNL_snoc hlt, ← HAL.out]
      have hle : (joinNL ((linesP s).take (k + 1))).length ≤ 1048577 := by
        have h1 := joinNL_le (linesP s) (k + 1)
        rw [HJ.out] at h1
        simp only [List.length_append, List.length_singleton] at h1; omega
      rw [← HN.out] at hle
      generalize (linesP s)[k] = x at *
      simp only [List.length_append, List.length_singleton] at hle
      have hle1 : ¬ 9223372036854775807 < all.length + x.length := by omega
      have hle2 : ¬ 9223372036854775807 < all.length + x.length + 1 := by omega
      go_wp2
      go_roundw
      case rel => exact ⟨k + 1, _, by omega, by go_num, rfl, (by show _ = _; rw [← List.append_assoc]; exact HN.out), HBr.out⟩
      case measure => simp [intOf]; omega
    · have e : all = s ++ [10] := by
        have h1 := HAL.out
        rw [List.take_of_length_le (by omega), HJ.out] at h1
        exact h1
      subst e
      have hb4 := hb3.trans (HBr.out.mono hb3.size)
      go_wp2_with (at_builtin; refine Hold.out ?_)
      constructor
      refine wpList_cat rfl _ _ 26 rfl w.heap.size 9 1 16 slstrs encS encS_ok _ [] rfl (Own.nil _ _ _ _ _) _ _ _ (linesP s) rfl rfl (HLk.out.addr encS_ok) (by simp; omega) (by unfold maxLen; simp; omega) w hb4 hb4.size ?_
      intro v5 w5 hO5 hb5 _
      rw [List.nil_append] at hO5
      obtain ⟨a5, c5, rfl⟩ := hO5.shape
      have HO5 := Lib.hid hO5
      clear hO5
      go_wp2_with (first | (go_at_call 13; refine (lines_any t _ (by omega) (HM.out.next hb5)).mono ?_; rintro e w6 ⟨⟨vl, rfl, hOl⟩, hc⟩; obtain ⟨a6, c6, rfl⟩ := hOl.shape; have hb6 := hb5.trans (hc.mono hb5.size); have HO6 := Lib.hid (HO5.out.next rfl hc); have HT6 := Lib.hid hOl; clear hOl hc) | (at_builtin; refine Hold.out ?_))
      constructor
      refine wpList_cat rfl _ _ 26 rfl w.heap.size 9 1 16 slstrs encS encS_ok _ (linesP s) rfl HO6.out _ _ _ (linesP t) rfl rfl (HT6.out.addr encS_ok) (by omega) (by unfold maxLen; omega) w hb6 hb6.size ?_
      intro v7 w7 hO7 hb7 _
      obtain ⟨l2, hl2⟩ : ∃ z, z = linesP s ++ linesP t := ⟨_, rfl⟩
      have hl2n : l2.length ≤ 1048576 := by rw [hl2, List.length_append]; omega
      rw [← hl2] at hO7
      have HL2 := Lib.hid hl2
      clear hl2
      obtain ⟨a7, c7, rfl⟩ := hO7.shape
      have HO7 := Lib.hid hO7
      clear hO7
      have HP2 : Hid (linesP (s ++ 10 :: t) = l2) := by show _ = _; rw [HL2.out, ← HP.out]; simp
      go_wp2_with (first | (go_at_call 13; refine (lines_any (s ++ 10 :: t) _ (by simp; omega) (HM.out.next hb7)).mono ?_; rw [HP2.out]; rintro e w8 ⟨⟨vl, rfl, hOl⟩, hc⟩; obtain ⟨a8, c8, rfl⟩ := hOl.shape; have hb8 := hb7.trans (hc.mono hb7.size); have HO8 := Lib.hid (HO7.out.next rfl hc); have HT8 := Lib.hid hOl; clear hOl hc) | (go_at_call 16; refine (sameTexts_any a8 c8 a7 c7 l2 _ hl2n (HT8.out.addr encS_ok) (HO8.out.addr encS_ok)).mono ?_; rintro e w9 ⟨rfl, hc⟩; have hb9 := hb8.trans (hc.mono hb8.size); clear hc))
      go_ret
      exact ⟨rfl, hb9⟩

set_option maxHeartbeats 4000000 in
set_option maxRecDepth 100000 in
theorem parts_o_big (w : World) (s : Bytes) (t : Bytes) (hM : MaxOk w) (hbe : beyondB (s.length + t.length) = false) (hbl : s.length + t.length ≤ 1048576) (m : Nat) (hm : m < s.length) (hml : s.length = m + 1) (c : UInt8) (hc10 : c ≠ 10) (hx : s[m] = c) (hend : s.getLast? ≠ some 10) (h5 : 5000 < s.length) :
    Calls Tryz.prog 5 #[.string ⟨s.toArray⟩, .string ⟨t.toArray⟩] w fun e w' => e = .returned (.bool true) ∧ Below w.heap.size w w' := by
  have HM := Lib.hid hM
  have HBE := Lib.hid hbe
  clear hM hbe
  have HJ : Hid (joinNL (linesP s) = s ++ [10]) := join_other (by intro e; rw [e] at hml; cases hml) hend
  have hp1 : (0 : Int) < (s.length : Int) := by omega
  have hp2 : (0 : Int) ≤ (m : Int) := by omega
  have hp3 : (m : Int) < (s.length : Int) := by omega
  have a1 : IntKind.i64.wrap ((s.length : Int) - 1) = (m : Int) := by rw [IntWalk.i64_in _ (by omega)]; omega
  have HP : Hid (linesP (s ++ [10] ++ t) = linesP s ++ linesP t) := parts_other t (by intro e; rw [e] at hml; cases hml) hend
  have hq1 : ((c.toNat : Int) == 10) = false := beq_eq_false_iff_ne.2 fun e => hc10 (UInt8.toNat_inj.1 (by show c.toNat = 10; omega))
  have hq2 : ((s ++ [10]) == s) = false := beq_eq_false_iff_ne.2 fun e => by have := congrArg List.length e; simp at this
  have hs0 : (s == []) = false := beq_eq_false_iff_ne.2 fun e => by rw [e] at hml; cases hml
  clear hml hend
  have hlen := linesP_le s
  have hlen2 := linesP_le t
  go_enter Tryz.func5, Tryz.ntmps5
  go_wp2_with (first
    | (go_at_call 22; refine (alive_any _ HM.out).mono ?_; rintro e w1 ⟨rfl, hb1⟩; have HM1 := Lib.hid (HM.out.next hb1))
    | (go_at_call 10; refine (beyond2 s.length t.length w1.heap.size _ (by simp) (by simp) (by omega) (by omega)).mono ?_; rw [HBE.out]; rintro e w2 ⟨rfl, rfl⟩; have hb2 := hb1.alloc hb1.size (.cells #[.int .i64 (s.length : Nat), .int .i64 (t.length : Nat)] 3))
    | (go_at_call 13; refine (lines_any s _ (by omega) (HM.out.next hb2)).mono ?_; rintro e w3 ⟨⟨vl, rfl, hOl⟩, hc⟩; obtain ⟨al, cl, rfl⟩ := hOl.shape; have hb3 := hb2.trans (hc.mono hb2.size); have HL := Lib.hid (hOl.mono hb2.size); clear hOl hc)
    | (at_builtin; refine Hold.out ?_))
  have hb4 := hb3
  have HLk := HL
  constructor
  refine wpList_cat rfl _ _ 26 rfl w.heap.size 9 1 16 slstrs encS encS_ok _ [] rfl (Own.nil _ _ _ _ _) _ _ _ (linesP s) rfl rfl (HLk.out.addr encS_ok) (by simp; omega) (by unfold maxLen; simp; omega) w hb4 hb4.size ?_
  intro v5 w5 hO5 hb5 _
  rw [List.nil_append] at hO5
  obtain ⟨a5, c5, rfl⟩ := hO5.shape
  have HO5 := Lib.hid hO5
  clear hO5
  go_wp2_with (first | (go_at_call 13; refine (lines_any t _ (by omega) (HM.out.next hb5)).mono ?_; rintro e w6 ⟨⟨vl, rfl, hOl⟩, hc⟩; obtain ⟨a6, c6, rfl⟩ := hOl.shape; have hb6 := hb5.trans (hc.mono hb5.size); have HO6 := Lib.hid (HO5.out.next rfl hc); have HT6 := Lib.hid hOl; clear hOl hc) | (at_builtin; refine Hold.out ?_))
  constructor
  refine wpList_cat rfl _ _ 26 rfl w.heap.size 9 1 16 slstrs encS encS_ok _ (linesP s) rfl HO6.out _ _ _ (linesP t) rfl rfl (HT6.out.addr encS_ok) (by omega) (by unfold maxLen; omega) w hb6 hb6.size ?_
  intro v7 w7 hO7 hb7 _
  obtain ⟨l2, hl2⟩ : ∃ z, z = linesP s ++ linesP t := ⟨_, rfl⟩
  have hl2n : l2.length ≤ 1048576 := by rw [hl2, List.length_append]; omega
  rw [← hl2] at hO7
  have HL2 := Lib.hid hl2
  clear hl2
  obtain ⟨a7, c7, rfl⟩ := hO7.shape
  have HO7 := Lib.hid hO7
  clear hO7
  have HP2 : Hid (linesP (s ++ 10 :: t) = l2) := by show _ = _; rw [HL2.out, ← HP.out]; simp
  go_wp2_with (first | (go_at_call 13; refine (lines_any (s ++ 10 :: t) _ (by simp; omega) (HM.out.next hb7)).mono ?_; rw [HP2.out]; rintro e w8 ⟨⟨vl, rfl, hOl⟩, hc⟩; obtain ⟨a8, c8, rfl⟩ := hOl.shape; have hb8 := hb7.trans (hc.mono hb7.size); have HO8 := Lib.hid (HO7.out.next rfl hc); have HT8 := Lib.hid hOl; clear hOl hc) | (go_at_call 16; refine (sameTexts_any a8 c8 a7 c7 l2 _ hl2n (HT8.out.addr encS_ok) (HO8.out.addr encS_ok)).mono ?_; rintro e w9 ⟨rfl, hc⟩; have hb9 := hb8.trans (hc.mono hb8.size); clear hc))
  go_ret
  exact ⟨rfl, hb9⟩

theorem walk_AheadParts (w : World) (s : Bytes) (hs : s.length ≤ reachBytes) (t : Bytes) (ht : t.length ≤ reachBytes) (hM : MaxOk w) :
    Calls Tryz.prog 5 #[.string ⟨s.toArray⟩, .string ⟨t.toArray⟩] w fun e w' => e = .returned (.bool true) ∧ Below w.heap.size w w' := by
  have hs' : s.length ≤ 140737488351232 := hs
  have ht' : t.length ≤ 140737488351232 := ht
  cases hbe : beyondB (s.length + t.length)
  rotate_left
  · exact parts_far w s t hM hs' ht' hbe
  have hbl := beyondB_le hbe
  by_cases h0 : s = []
  · exact parts_e_small w s t hM hbe hbl h0 (by rw [h0]; simp)
  obtain ⟨m, hml⟩ : ∃ m, s.length = m + 1 := ⟨s.length - 1, by have := List.length_pos_iff.2 h0; omega⟩
  have hm : m < s.length := by omega
  have hg : s.getLast? = some s[m] := by
    rw [List.getLast?_eq_getElem?, show s.length - 1 = m from by omega, List.getElem?_eq_getElem hm]
  by_cases hx : s[m] = 10
  · have hend : s.getLast? = some 10 := by rw [hg, hx]
    by_cases h5 : s.length ≤ 5000
    · exact parts_t_small w s t hM hbe hbl m hm hml hx hend h5
    · exact parts_t_big w s t hM hbe hbl m hm hml hx hend (by omega)
  · have hend : s.getLast? ≠ some 10 := by rw [hg]; intro e; exact hx (Option.some.inj e)
    by_cases h5 : s.length ≤ 5000
    · exact parts_o_small w s t hM hbe hbl m hm hml s[m] hx rfl hend h5
    · exact parts_o_big w s t hM hbe hbl m hm hml s[m] hx rfl hend (by omega)
end Go.Proofs.YtfedkhicckgjaaaGreatDoor
