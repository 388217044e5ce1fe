/- binderyref04.run: how many signs of a name a text begins with. -/
import Derived.Test.YtgikmippclcimaaGreatDoorNames
namespace Go.Proofs.YtgikmippclcimaaGreatDoor
open Go.RowKit

def runN (s : Bytes) : Nat := (s.takeWhile isSign).length
theorem runN_le (s : Bytes) : runN s ≤ s.length := by
  unfold runN; exact (List.takeWhile_prefix _).length_le
theorem take_runN (s : Bytes) : s.take (runN s) = s.takeWhile isSign := by
  have h := List.takeWhile_append_dropWhile (p := isSign) (l := s)
  unfold runN
  conv => lhs; arg 2; rw [← h]
  rw [List.take_left]
theorem runN_of (s : Bytes) (k : Nat) (hk : k ≤ s.length) (h1 : (s.take k).all isSign = true) (h2 : k = s.length ∨ ∃ h : k < s.length, isSign s[k] = false) : runN s = k := by
  unfold runN
  have e := List.take_append_drop k s
  rw [← e, List.takeWhile_append_of_pos (by simpa using h1)]
  have : (s.drop k).takeWhile isSign = [] := by
    rcases h2 with h2 | ⟨h, h2⟩
    · subst h2; simp
    · rw [List.drop_eq_getElem_cons h, List.takeWhile_cons, h2]; rfl
  rw [this]; simp [hk]

set_option maxHeartbeats 1000000 in
theorem run_any (l : Bytes) (w : World) (hl : l.length ≤ 9223372036854775807) :
    Calls Tryz.prog 87 #[.string ⟨l.toArray⟩] w fun e w' => e = .returned (.int .i64 (runN l)) ∧ w = w' := by
  go_enter Tryz.func87, Tryz.ntmps87
  go_wp2_with fail
  go_loop [3] (fun v => ∃ k : Nat, k ≤ l.length ∧ v = .int .i64 k ∧ Hid ((l.take k).all isSign = true)) (fun v => l.length - (intOf v).toNat)
  case atStart => exact ⟨0, by omega, rfl, by simp [Hid]⟩
  case round =>
    obtain ⟨k, hk, rfl, HP⟩ := hrel
    by_cases hlt : k < l.length
    · have hcl : l[k].toNat < 256 := l[k].toNat_lt
      have hts := all_take_succ isSign l k hlt
      rw [HP.out, Bool.true_and] at hts
      have HT := Lib.hid hts
      clear hts
      cases hL : (isLetter l[k] || isDigit l[k])
      · by_cases h45 : l[k].toNat = 45
        · have hs : isSign l[k] = true := by simp [isSign, h45]
          have HS := Lib.hid hs
          have hb : ((l[k].toNat : Int) == 45) = true := by rw [h45]; rfl
          clear hs h45
          go_wp2_with (go_at_call 92; refine (rLetter_any l[k] _).mono ?_; rw [hL]; rintro e w' ⟨rfl, rfl⟩)
          go_round
          case rel => exact ⟨k + 1, by omega, by go_num, by show _ = _; rw [HT.out, HS.out]⟩
          case measure => simp [intOf]; omega
        · have hs : isSign l[k] = false := by unfold isSign; rw [hL, decide_eq_false h45]; rfl
          have HR := Lib.hid (runN_of l k hk HP.out (.inr ⟨hlt, hs⟩))
          have hb : ((l[k].toNat : Int) == 45) = false := beq_eq_false_iff_ne.2 (by omega)
          clear hs h45
          go_wp2_with (go_at_call 92; refine (rLetter_any l[k] _).mono ?_; rw [hL]; rintro e w' ⟨rfl, rfl⟩)
          go_ret
          exact ⟨by rw [HR.out]; rfl, rfl⟩
      · have hs : isSign l[k] = true := by unfold isSign; rw [hL]; rfl
        have HS := Lib.hid hs
        clear hs
        go_wp2_with (go_at_call 92; refine (rLetter_any l[k] _).mono ?_; rw [hL]; rintro e w' ⟨rfl, rfl⟩)
        go_round
        case rel => exact ⟨k + 1, by omega, by go_num, by show _ = _; rw [HT.out, HS.out]⟩
        case measure => simp [intOf]; omega
    · have HR := Lib.hid (runN_of l k hk HP.out (.inl (by omega)))
      go_wp2
      go_ret
      exact ⟨by rw [HR.out]; rfl, rfl⟩
end Go.Proofs.YtgikmippclcimaaGreatDoor
