/- The law CondsValues, walked. -/
import Derived.Test.YtgikmippclcimaaAlive
import Derived.Test.YtgikmippclcimaaTwinA
import Derived.Test.YtgikmippclcimaaSize
namespace Go.Proofs.Ytgikmippclcimaa
open Go.RowKit
set_option linter.unusedVariables false

theorem nameA : nameB [97] = true := by kernel_rfl
theorem setE_one (s : Bytes) : setE [] [97] s = if validB s = true then 0 else 1 := by
  have h : checkB [] = true := by kernel_rfl
  have h2 : fullB [] [97] = false := by kernel_rfl
  unfold setE mayB
  rw [h, nameA, h2]
  simp
theorem setR_one (s : Bytes) : setR [] [97] s = if validB s = true then [⟨[97], s⟩] else [] := by
  have h : checkB [] = true := by kernel_rfl
  have h2 : fullB [] [97] = false := by kernel_rfl
  have h3 : setL [] [97] s = [⟨[97], s⟩] := rfl
  unfold setR mayB
  rw [h, nameA, h2, h3]
  simp
theorem checkB_one (s : Bytes) : checkB [⟨[97], s⟩] = validB s := by
  have h0 : okAt [⟨[97], s⟩] 0 = validB s := by rw [okAt_zero (by simp)]; show (nameB [97] && validB s) = _; rw [nameA]; rfl
  cases hv : validB s
  · exact checkB_at (l := [⟨[97], s⟩]) (k := 0) (by simp) (by rw [h0, hv])
  · refine checkB_all (by simp) fun i hi => ?_
    have : i = 0 := by simp at hi; exact hi
    subst this
    rw [h0, hv]

theorem okB_true {c : UInt8} (h : okByte c = true) : 32 ≤ c.toNat ∧ ((c.toNat : Int) != 127) = true := by
  rcases okByte_cases c with ⟨_, h1, h2⟩ | ⟨h1, _⟩ | ⟨h1, _⟩
  · exact ⟨h1, by rw [bne_iff_ne]; omega⟩
  · rw [h] at h1; cases h1
  · rw [h] at h1; cases h1

set_option maxHeartbeats 4000000 in
theorem values_small (w : World) (s : Bytes) (hs : s.length ≤ 100000) (hM : MaxOk w) :
    Calls Try.prog 10 #[.string ⟨s.toArray⟩] w fun e w' => e = .returned (.bool true) ∧ Below w.heap.size w w' := by
  by_cases h1024 : s.length ≤ 1024
  all_goals
    go_enter Try.func10, Try.ntmps10
    go_wp2_with fail
    refine (alive_any _ hM).mono ?_
    rintro e w1 ⟨rfl, hb1⟩
    go_wp2_with fail
    go_loop [3, 4] (fun v3 v4 => ∃ (k : Nat) (m : Bool), k ≤ s.length ∧ v4 = .int .i64 k ∧ v3 = .bool m ∧ Hid (m = (decide (s.length ≤ 1024) && (s.take k).all okByte))) (fun _ v4 => s.length - (intOf v4).toNat)
    case atStart => exact ⟨0, _, by omega, rfl, rfl, by simp [Hid, h1024]; omega⟩
    case round =>
      obtain ⟨k, m, hk, rfl, rfl, HP⟩ := hrel
      by_cases hlt : k < s.length
      · have hcl : s[k].toNat < 256 := s[k].toNat_lt
        have hts := all_take_succ okByte s k hlt
        have HT := Lib.hid hts
        clear hts
        cases m
        · go_wp2_with fail
          go_round
          case rel => exact ⟨k + 1, false, by omega, by go_num, rfl, by show _ = _; rw [HT.out, ← Bool.and_assoc, ← HP.out]; rfl⟩
          case measure => simp [intOf]; omega
        · rcases okByte_cases s[k] with ⟨h, h32, h127⟩ | ⟨h, h32⟩ | ⟨h, h32, h127⟩
          · have hb : ((s[k].toNat : Int) != 127) = true := by rw [bne_iff_ne]; omega
            have HH := Lib.hid h
            clear h h127
            go_wp2_with fail
            go_round
            case rel => exact ⟨k + 1, true, by omega, by go_num, rfl, by show _ = _; rw [HT.out, HH.out, ← Bool.and_assoc, ← HP.out]; rfl⟩
            case measure => simp [intOf]; omega
          · have HH := Lib.hid h
            clear h
            go_wp2_with fail
            go_round
            case rel => exact ⟨k + 1, false, by omega, by go_num, rfl, by show _ = _; rw [HT.out, HH.out, ← Bool.and_assoc, ← HP.out]; rfl⟩
            case measure => simp [intOf]; omega
          · have hb : ((s[k].toNat : Int) != 127) = false := by rw [h127]; rfl
            have HH := Lib.hid h
            clear h h127
            go_wp2_with fail
            go_round
            case rel => exact ⟨k + 1, false, by omega, by go_num, rfl, by show _ = _; rw [HT.out, HH.out, ← Bool.and_assoc, ← HP.out]; rfl⟩
            case measure => simp [intOf]; omega
      · obtain rfl : k = s.length := by omega
        have hv : m = validB s := by have h := HP.out; rw [List.take_length] at h; exact h
        have HM1 := Lib.hid (hM.next hb1)
        have HV := Lib.hid hv
        clear hv HP hM
        cases m
        · go_wp2_with fail
          refine (set_any none 0 [] [97] s _ (by decide) (by decide) (by omega) (At.nil _ _ _ _) (by decide) (by intro x hx; cases hx)).mono ?_
          rw [setE_one, setR_one, ← HV.out]
          rintro e w2 ⟨⟨r, rfl, hO⟩, hb2⟩
          go_wp2_with fail
          refine (one_any [97] s _).mono ?_
          rintro e w3 ⟨⟨a3, rfl, hA3⟩, hb3⟩
          have HA3 := Lib.hid hA3
          clear hA3
          go_wp2_with fail
          refine (check_any a3 1 [⟨[97], s⟩] _ (by simp) HA3.out (by intro x hx; simp at hx; subst hx; simp; omega)).mono ?_
          rw [checkB_one, ← HV.out]
          rintro e w4 ⟨rfl, hb4⟩
          go_wp2_with fail
          go_ret
          exact ⟨rfl, ((hb1.trans (hb2.mono hb1.size)).trans (hb3.mono (by have := hb1.size; have := hb2.size; omega))).trans (hb4.mono (by have := hb1.size; have := hb2.size; have := hb3.size; omega))⟩
        · go_wp2_with fail
          refine (set_any none 0 [] [97] s _ (by decide) (by decide) (by omega) (At.nil _ _ _ _) (by decide) (by intro x hx; cases hx)).mono ?_
          rw [setE_one, setR_one, ← HV.out]
          rintro e w2 ⟨⟨r, rfl, hO⟩, hb2⟩
          obtain ⟨a2, c2, rfl, hA2, _⟩ := hO.open encT_ok
          have HA2 := Lib.hid hA2
          clear hA2 hO
          go_wp2_with fail
          refine (one_any [97] s _).mono ?_
          rintro e w3 ⟨⟨a3, rfl, hA3⟩, hb3⟩
          have HA3 := Lib.hid hA3
          clear hA3
          go_wp2_with fail
          refine (check_any a3 1 [⟨[97], s⟩] _ (by simp) HA3.out (by intro x hx; simp at hx; subst hx; simp; omega)).mono ?_
          rw [checkB_one, ← HV.out]
          rintro e w4 ⟨rfl, hb4⟩
          go_wp2_with fail
          refine (one_any [97] s _).mono ?_
          rintro e w5 ⟨⟨a5, rfl, hA5⟩, hb5⟩
          have HA5 := Lib.hid hA5
          clear hA5
          go_wp2_with fail
          refine (sameAttrs_any a2 c2 a5 1 [⟨[97], s⟩] _ (by simp) (((HA2.out.below hb3).below hb4).below hb5) HA5.out).mono ?_
          rintro e w6 ⟨rfl, hb6⟩
          go_wp2_with fail
          go_ret
          exact ⟨rfl, ((((hb1.trans (hb2.mono hb1.size)).trans (hb3.mono (by have := hb1.size; have := hb2.size; omega))).trans (hb4.mono (by have := hb1.size; have := hb2.size; have := hb3.size; omega))).trans (hb5.mono (by have := hb1.size; have := hb2.size; have := hb3.size; have := hb4.size; omega))).trans (hb6.mono (by have := hb1.size; have := hb2.size; have := hb3.size; have := hb4.size; have := hb5.size; omega))⟩

set_option maxHeartbeats 4000000 in
theorem walk_CondsValues (w : World) (s : Bytes) (hs : s.length ≤ reachBytes) (hM : MaxOk w) :
    Calls Try.prog 10 #[.string ⟨s.toArray⟩] w fun e w' => e = .returned (.bool true) ∧ Below w.heap.size w w' := by
  by_cases h : s.length ≤ 100000
  · exact values_small w s h hM
  · have hs' : s.length ≤ 140737488351232 := hs
    go_enter Try.func10, Try.ntmps10
    go_wp2_with fail
    refine (alive_any _ hM).mono ?_
    rintro e w1 ⟨rfl, hb1⟩
    have HM1 := Lib.hid (hM.next hb1)
    clear hM
    go_wp2_with fail
    refine (alive_any _ HM1.out).mono ?_
    rintro e w2 ⟨rfl, hb2⟩
    go_wp2_with fail
    go_ret
    exact ⟨rfl, hb1.trans (hb2.mono hb1.size)⟩
end Go.Proofs.Ytgikmippclcimaa
