/- binderyref13.among, .digits, .Unlike. -/
import Derived.Test.YtofphojcfjkjhaaGreatDoorUnlike
namespace Go.Proofs.YtofphojcfjkjhaaGreatDoor
open Go.RowKit
set_option linter.unusedVariables false

theorem dig_str (n : Nat) (h : n < 10) : List.drop n (48 :: List.take n ([49, 50, 51, 52, 53, 54, 55, 56, 57] : Bytes)) = [UInt8.ofNat (48 + n)] := by
  have h10 : n = 0 ∨ n = 1 ∨ n = 2 ∨ n = 3 ∨ n = 4 ∨ n = 5 ∨ n = 6 ∨ n = 7 ∨ n = 8 ∨ n = 9 := by omega
  rcases h10 with rfl | rfl | rfl | rfl | rfl | rfl | rfl | rfl | rfl | rfl <;> rfl
set_option maxHeartbeats 1000000 in
theorem digits_small (n : Nat) (w : World) (h10 : n < 10) :
    Calls Tryz.prog 14 #[.int .i64 n] w fun e w' => e = .returned (.string ⟨(Lib.decDigits n).toArray⟩) ∧ ∃ k, w' = w.drewN k := by
  have H := Lib.hid (Lib.decDigits_one h10)
  have HD := Lib.hid (dig_str n h10)
  go_enter Tryz.func14, Tryz.ntmps14
  go_wp2_with fail
  go_ret
  exact ⟨by rw [H.out, ← HD.out]; rfl, 0, rfl⟩
set_option maxHeartbeats 1000000 in
set_option maxRecDepth 100000 in
theorem digits_any : ∀ (f n : Nat) (w : World), n < 10 ^ (f + 1) → n ≤ 1000000000 →
    Calls Tryz.prog 14 #[.int .i64 n] w fun e w' => e = .returned (.string ⟨(Lib.decDigits n).toArray⟩) ∧ ∃ k, w' = w.drewN k := by
  intro f
  induction f with
  | zero => 
    intro n w h h1
    exact digits_small n w (by omega)
  | succ f ih =>
    intro n w h h1
    by_cases h10 : n < 10
    · exact digits_small n w h10
    · have h2 : n / 10 < 10 ^ (f + 1) := by rw [Nat.pow_succ] at h; omega
      have HI : Hid (∀ w', Calls Tryz.prog 14 #[.int .i64 ((n : Int) / 10)] w' fun e w'' => e = .returned (.string ⟨(Lib.decDigits (n / 10)).toArray⟩) ∧ ∃ k, w'' = w'.drewN k) := fun w' => ih (n / 10) w' h2 (by omega)
      have hdl := dec_len (n / 10) (by omega)
      have hm0 : (0 : Int) ≤ (n : Int) % 10 := by omega
      have hm1 : (n : Int) % 10 < 10 := by omega
      have hm2 : ((n : Int) % 10).toNat = n % 10 := by omega
      have hm3 : ((n : Int) % 10 + 1).toNat = n % 10 + 1 := by omega
      have hm4 : IntKind.i64.wrap ((n : Int) % 10 + 1) = (n : Int) % 10 + 1 := IntWalk.i64_in _ (by omega)
      have HD := Lib.hid (dig_str (n % 10) (by omega))
      have HS := Lib.hid (dec_step h10)
      clear ih h h2
      have hge : (10 : Int) ≤ (n : Int) := by omega
      go_enter Tryz.func14, Tryz.ntmps14
      go_wp2_with fail
      go_quiet ((go_at_call 14; exact Calls.quiet_of (HI.out _)))
      go_wp2
      go_ret
      exact ⟨by rw [HS.out, ← HD.out]; rfl, _, rfl⟩
def amongB (l : List Bytes) (s : Bytes) : Bool := l.contains s
set_option maxHeartbeats 1000000 in
theorem among_any (a : Option Addr) (c : Nat) (l : List Bytes) (s : Bytes) (w : World) (hn : l.length ≤ 1048576) (hA : At w 1 encS a l) :
    Calls Tryz.prog 13 #[.slice a l.length c, .string ⟨s.toArray⟩] w fun e w' => e = .returned (.bool (amongB l s)) ∧ w = w' := by
  have HA := Lib.hid hA
  clear hA
  go_enter Tryz.func13, Tryz.ntmps13
  go_wp2_with fail
  go_loop [5] (fun v5 => ∃ k : Nat, k ≤ l.length ∧ v5 = .int .i64 k ∧ Hid ((l.take k).contains s = false)) (fun v5 => l.length - (intOf v5).toNat)
  case atStart => exact ⟨0, by omega, rfl, Lib.hid (by simp)⟩
  case round =>
    obtain ⟨k, hk, rfl, HC⟩ := hrel
    by_cases hlt : k < l.length
    · obtain ⟨b, off, ha, hbl, hc0⟩ := (HA.out).str hlt
      subst ha
      cases he : (l[k] == s)
      · have hC2 : (l.take (k + 1)).contains s = false := by
          have := HC.out
          rw [List.take_succ_eq_append_getElem hlt, List.contains_eq_mem] at *
          simp only [decide_eq_false_iff_not, List.mem_append, List.mem_singleton] at this ⊢
          rintro (h | h)
          · exact this h
          · rw [← h] at he; simp at he
        have HC2 := Lib.hid hC2
        clear hC2
        go_wp2_with fail
        go_round
        case rel => exact ⟨k + 1, by omega, by go_num, HC2⟩
        case measure => simp [intOf]; omega
      · have hC2 : amongB l s = true := by
          unfold amongB
          rw [List.contains_eq_mem]
          simp only [decide_eq_true_eq]
          rw [← eq_of_beq he]
          exact List.getElem_mem hlt
        have HC2 := Lib.hid hC2
        clear hC2
        go_wp2_with fail
        go_ret
        exact ⟨by rw [HC2.out]; rfl, rfl⟩
    · obtain rfl : k = l.length := by omega
      have hC2 : amongB l s = false := by have := HC.out; rwa [List.take_length] at this
      have HC2 := Lib.hid hC2
      clear hC2
      go_wp2_with fail
      go_ret
      exact ⟨by rw [HC2.out]; rfl, rfl⟩

/-! ### the names, by the document -/
/-- the loop stands at number n: j = n - 2 were there already -/
def RInner (R : List Bytes) (s : Bytes) (N n : Nat) (nm : Bytes) : Prop := nm = cand s (n - 2) ∧ (∀ i, i < n - 2 → cand s i ∈ R) ∧ 2 ≤ n ∧ n ≤ N + 2
theorem RInner.start (R : List Bytes) (s : Bytes) (N : Nat) : RInner R s N 2 s := ⟨rfl, fun i hi => absurd hi (by omega), by omega, by omega⟩
theorem RInner.bound {R : List Bytes} {s nm : Bytes} {N n : Nat} (h : RInner R s N n nm) (hN : R.length < N) : n - 2 ≤ R.length ∧ n ≤ N + 1 := by
  have := tried_le (n := n - 2) h.2.1
  have := h.2.2
  omega
theorem RInner.next {R : List Bytes} {s nm : Bytes} {N n : Nat} (h : RInner R s N n nm) (hN : R.length < N) (hm : amongB R nm = true) : RInner R s N (n + 1) (s ++ 45 :: Lib.decDigits n) := by
  obtain ⟨h1, h2, h3, h4⟩ := h
  have hb := (RInner.bound ⟨h1, h2, h3, h4⟩ hN).2
  refine ⟨?_, fun i hi => ?_, by omega, by omega⟩
  · rw [cand_succ s (by omega), show n + 1 - 2 + 1 = n by omega]
  · by_cases e : i = n - 2
    · subst e; rw [← h1]; unfold amongB at hm; simpa using hm
    · exact h2 i (by omega)
theorem RInner.stop {R : List Bytes} {s nm : Bytes} {N n : Nat} (h : RInner R s N n nm) (hm : amongB R nm = false) : nameJ R s = nm := by
  obtain ⟨h1, h2, h3, h4⟩ := h
  rw [nameJ_of (j := n - 2) ⟨?_, h2⟩, h1]
  rw [← h1]; unfold amongB at hm; simpa using hm

set_option maxHeartbeats 4000000 in
set_option maxRecDepth 100000 in
theorem runlike_any (a : Option Addr) (ca : Nat) (l : List Bytes) (w : World) (hn : l.length ≤ 100000) (hs : ∀ x ∈ l, x.length ≤ 1000000) (hA : At w 1 encS a l) :
    Calls Tryz.prog 8 #[.slice a l.length ca] w (GivesTexts w (unlike l)) := by
  have HA := Lib.hid hA
  have HS := Lib.hid hs
  clear hA hs
  go_enter Tryz.func8, Tryz.ntmps8
  go_wp2_with fail
  go_loopw [3, 4] (fun v3 v4 wr => ∃ k : Nat, k ≤ l.length ∧ v4 = .int .i64 k ∧ Hid (Own wr w.heap.size 9 1 encS v3 (unlike (l.take k))) ∧ Below w.heap.size w wr) (fun _ v4 _ => l.length - (intOf v4).toNat)
  case atStart => exact ⟨0, by omega, rfl, Own.nil _ _ _ _ _, Below.refl _ _⟩
  case round =>
    obtain ⟨k, hk, rfl, HO, hb⟩ := hrel
    by_cases hlt : k < l.length
    · obtain ⟨b, off, ha, hbl, hc0⟩ := (HA.out.below hb).str hlt
      subst ha
      have hsl := HS.out l[k] (List.getElem_mem hlt)
      have hT := unlike_take hlt
      have hL := unlike_len_take l k hk
      generalize hse : l[k] = s at *
      generalize hRe : unlike (l.take k) = R at *
      obtain ⟨xa, xc, rfl⟩ := HO.out.shape
      have HT := Lib.hid hT
      have HSE := Lib.hid hse
      have hRl : R.length < l.length := by omega
      clear hT hL hRe hse
      have HSI := Lib.hid (RInner.start R s l.length)
      go_wp2_with fail
      obtain ⟨wo, hwo⟩ : ∃ wo : World, wo = wr := ⟨_, rfl⟩
      subst hwo
      go_loopw [5, 6] (fun v5 v6 wi => ∃ (n : Nat) (nm : Bytes), v5 = .string ⟨nm.toArray⟩ ∧ v6 = .int .i64 n ∧ n ≤ l.length + 2 ∧ Hid (RInner R s l.length n nm) ∧ Hid (Own wi w.heap.size 9 1 encS (.slice xa R.length xc) R) ∧ Below w.heap.size w wi) (fun _ v6 _ => l.length + 10 - (intOf v6).toNat)
      case atStart => exact ⟨2, s, rfl, rfl, by omega, HSI, HO, hb⟩
      case round =>
        obtain ⟨n, nm, rfl, rfl, hnl, HI, HO1, hb1⟩ := hrel
        obtain ⟨b', off', ha', hbl', hc'⟩ := (HA.out.below hb1).str hlt
        injection ha' with ha'
        injection ha' with e1 e2
        subst e1 e2
        rw [HSE.out] at hc'
        have hbd := (HI.out.bound hRl).2
        have hn2 := HI.out.2.2.1
        have hbi : (n : Int) ≤ (l.length : Int) + 1 := by omega
        cases hm : amongB R nm
        · have hnm := HI.out.stop hm
          have HNM := Lib.hid hnm
          have HM := Lib.hid hm
          have hbz := hb1.size
          clear hnm hm
          go_wp2_with fail
          refine (among_any xa xc R nm _ (by omega) (HO1.out.addr encS_ok)).mono ?_
          rw [HM.out]
          rintro e w' ⟨rfl, rfl⟩
          go_wp2_with (at_builtin; refine wpList_push rfl _ _ 22 rfl w.heap.size 9 1 16 slstrs encS encS_ok _ R rfl (HO1.out.alloc _) nm wr.heap.size rfl (by intro j u hj; match j, hj with | 0, hj => (simp [encS] at hj; subst hj; simp) | j + 1, hj => simp [encS] at hj) (by omega) (by unfold maxLen; omega) w (hb1.alloc hb1.size _) (by simp; omega) ?_; intro v2 wa hown2 hb2 hg2; have HO2 := Lib.hid hown2; clear hown2 hg2)
          go_roundw
          case rel => exact ⟨k + 1, by omega, by go_num, by show Own _ _ _ _ _ _ _; rw [HT.out, HNM.out]; exact HO2.out, hb2⟩
          case measure => simp [intOf]; omega
        · have hnx := HI.out.next hRl hm
          have HNX := Lib.hid hnx
          have HM := Lib.hid hm
          have hdl := dec_len n (by omega)
          clear hnx hm
          go_wp2_with fail
          refine (among_any xa xc R nm _ (by omega) (HO1.out.addr encS_ok)).mono ?_
          rw [HM.out]
          rintro e w' ⟨rfl, rfl⟩
          go_wp2_with fail
          go_quiet ((go_at_call 14; exact Calls.quiet_of (digits_any 9 n _ (by omega) (by omega))))
          go_wp2
          go_roundw
          case rel => exact ⟨n + 1, _, rfl, by go_num, by omega, HNX, Lib.hid (HO1.out.drewN _), below_drewN hb1 _⟩
          case measure => simp [intOf]; omega
    · obtain rfl : k = l.length := by omega
      have HO2 := HO.out
      rw [List.take_length] at HO2
      have HO3 := Lib.hid HO2
      clear HO2
      go_wp2_with fail
      go_ret
      exact ⟨⟨_, rfl, HO3.out⟩, hb⟩
end Go.Proofs.YtofphojcfjkjhaaGreatDoor
