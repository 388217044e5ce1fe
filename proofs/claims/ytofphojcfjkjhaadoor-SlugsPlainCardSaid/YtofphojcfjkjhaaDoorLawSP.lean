/- The law SlugsPlain, walked. -/
import Derived.Test.YtofphojcfjkjhaaDoorAliveS
namespace Go.Proofs.YtofphojcfjkjhaaDoor
open Go.RowKit
set_option linter.unusedVariables false

theorem reach_le {n : Nat} (h : n ≤ reachBytes) : n ≤ 140737488351232 := h
set_option maxHeartbeats 4000000 in
set_option maxRecDepth 100000 in
theorem walk_SlugsPlain (w : World) (s : Bytes) (hs : s.length ≤ reachBytes) (htab : HasTab w) :
    Calls Tryd.prog 6 #[.string ⟨s.toArray⟩] w fun e w' => e = .returned (.bool true) ∧ Below w.heap.size w w' := by
  have hs' := reach_le hs
  have HTB := Lib.hid htab
  clear htab
  go_enter Tryd.func6, Tryd.ntmps6
  go_wp2_with fail
  refine (alive_any _ HTB.out).mono ?_
  rintro e w1 ⟨rfl, hb1⟩
  by_cases h5 : s.length ≤ 5000
  rotate_left
  · go_wp2_with fail
    refine (alive_any _ (HTB.out.below hb1)).mono ?_
    rintro e w3 ⟨rfl, hb3⟩
    go_wp2_with fail
    go_ret
    exact ⟨rfl, hb1.trans (hb3.mono hb1.size)⟩
  rcases Nat.eq_zero_or_pos s.length with h0 | h0
  · obtain rfl := List.eq_nil_of_length_eq_zero h0
    clear h0
    go_wp2_with fail
    refine (alive_any _ (HTB.out.below hb1)).mono ?_
    rintro e w3 ⟨rfl, hb3⟩
    go_wp2_with fail
    go_ret
    exact ⟨rfl, hb1.trans (hb3.mono hb1.size)⟩
  have hn1 : s.isEmpty = false := by cases s with | nil => simp at h0 | cons c r => rfl
  have hn2 : (s == []) = false := by cases s with | nil => simp at h0 | cons c r => rfl
  go_wp2_with fail
  go_loop [3] (fun v3 => ∃ k : Nat, k ≤ s.length ∧ v3 = .int .i64 k ∧ Hid (∀ c ∈ s.take k, anB c = true)) (fun v3 => s.length - (intOf v3).toNat)
  case atStart => exact ⟨0, by omega, rfl, fun c hc => by simp at hc⟩
  case round =>
    obtain ⟨k, hk, rfl, HA⟩ := hrel
    by_cases hlt : k < s.length
    · cases hc : anB s[k]
      · have HC := Lib.hid hc
        clear hc
        go_wp2_with fail
        refine (letterL_any s[k] _).mono ?_
        rw [HC.out]
        rintro e w' ⟨rfl, rfl⟩
        go_wp2_with fail
        go_ret
        exact ⟨rfl, hb1⟩
      · have HC := Lib.hid hc
        have HA2 : Hid (∀ c ∈ s.take (k + 1), anB c = true) := by
          intro c hm
          rw [List.take_succ_eq_append_getElem hlt] at hm
          rcases List.mem_append.1 hm with h | h
          · exact HA.out c h
          · simp at h; rw [h]; exact hc
        clear hc
        go_wp2_with fail
        refine (letterL_any s[k] _).mono ?_
        rw [HC.out]
        rintro e w' ⟨rfl, rfl⟩
        go_wp2_with fail
        go_round
        case rel => exact ⟨k + 1, by omega, by go_num, HA2⟩
        case measure => simp [intOf]; omega
    · obtain rfl : k = s.length := by omega
      have hall := HA.out
      rw [List.take_length] at hall
      have hsl := slugOf_plain hall h0
      have hll := lowS_len s
      have hl1 : s.length ≤ (lowS s).length := by omega
      have HSL := Lib.hid hsl
      clear HA hall hsl
      have heq : (List.take 60 (lowS s) == List.take (min (60 : Int) (s.length : Int)).toNat (lowS s)) = true := by
        rw [beq_iff_eq]
        by_cases h60 : s.length ≤ 60
        · rw [show (min (60 : Int) (s.length : Int)).toNat = s.length by omega, List.take_of_length_le (by omega), List.take_of_length_le (by omega)]
        · rw [show (min (60 : Int) (s.length : Int)).toNat = 60 by omega]
      have HEQ := Lib.hid heq
      clear hll heq
      go_wp2_with fail
      refine (of_any s _ (by omega)).mono ?_
      rw [HSL.out]
      rintro e w2 ⟨rfl, hb2⟩
      have hb2' := hb1.trans (hb2.mono hb1.size)
      go_wp2_with fail
      refine (lower_any s _ (by omega)).mono ?_
      rintro e w3 ⟨rfl, hb3⟩
      have hb3' := hb2'.trans (hb3.mono hb2'.size)
      clear HSL
      generalize lowS s = L at *
      go_wp2_with fail
      go_ret
      exact ⟨by show Ending.returned (.bool _) = _; rw [HEQ.out], hb3'⟩
end Go.Proofs.YtofphojcfjkjhaaDoor
