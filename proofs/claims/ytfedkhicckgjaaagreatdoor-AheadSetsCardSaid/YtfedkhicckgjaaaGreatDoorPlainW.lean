/- plain and same of the ahead laws; what is read of one plain source. -/
import Derived.Test.YtfedkhicckgjaaaGreatDoorRdSeven
import Derived.Test.YtfedkhicckgjaaaGreatDoorPlainP
import Derived.Test.YtfedkhicckgjaaaGreatDoorBaseB
namespace Go.Proofs.YtfedkhicckgjaaaGreatDoor
open Go.RowKit
set_option linter.unusedVariables false

theorem int_beq {c d : UInt8} : ((c.toNat : Int) == (d.toNat : Int)) = (c == d) := by
  by_cases h : c = d
  · subst h; simp
  · have h1 : (c == d) = false := by simpa using h
    rw [h1]
    exact beq_eq_false_iff_ne.2 fun e => h (UInt8.toNat_inj.1 (by omega))
theorem numbered_get (file : Bytes) : ∀ (ts : List Bytes) (i k : Nat) (hk : k < ts.length), (numbered file i ts)[k]'(by rw [numbered_len]; exact hk) = ⟨file, i + k + 1, ts[k]⟩
  | [], _, _, hk => absurd hk (by simp)
  | t :: ts, i, 0, hk => rfl
  | t :: ts, i, k + 1, hk => by
    have h := numbered_get file ts (i + 1) k (by simpa using hk)
    show (numbered file (i + 1) ts)[k]'_ = _
    rw [h]
    simp only [List.getElem_cons_succ]
    congr 1
    omega
theorem mem_sum : ∀ (l : List Two) (x : Two), x ∈ l → x.name.length + x.value.length ≤ (l.map fun x => x.name.length + x.value.length).sum
  | [], x, h => absurd h (List.not_mem_nil)
  | y :: l, x, h => by
    rw [List.map_cons, List.sum_cons]
    rcases List.mem_cons.1 h with rfl | h
    · omega
    · have := mem_sum l x h; omega
theorem sizeA_le {l : List Two} {n : Nat} (h : sizeA l ≤ n) : l.length ≤ n ∧ ∀ x ∈ l, x.name.length + x.value.length ≤ n := by
  unfold sizeA at h
  exact ⟨by omega, fun x hx => by have := mem_sum l x hx; omega⟩
/-- one plain source is read -/
theorem readP_plain (attrs : List Two) (name s : Bytes) (hp : plainB s = true) (hs : s.length ≤ 10000) (ha : sizeA attrs ≤ 70000) :
    (readP [⟨name, s⟩] attrs name s).map RS.ans = some ⟨numbered name 0 (linesP s), [], [name], []⟩ := by
  have hl := linesP_le s
  obtain ⟨h1, h2⟩ := sizeA_le ha
  unfold readP
  generalize hA : (if checkB attrs = true then attrs else []) = A
  have hA1 : A.length ≤ 70000 ∧ ∀ x ∈ A, x.value.length ≤ 70000 := by
    rw [← hA]
    split
    · exact ⟨h1, fun x hx => by have := h2 x hx; omega⟩
    · exact ⟨by simp, fun x hx => absurd hx (List.not_mem_nil)⟩
  show (RS.readG (RS.read [⟨name, s⟩] 16) [⟨name, s⟩] (RS.new A) name s).map RS.ans = _
  have e : (RS.new A).enter name = ⟨A, [⟨name, []⟩], 0, [], [], [name], [], [], [name]⟩ := rfl
  have h0 : ((RS.new A).enter name).fits0 (linesP s).length = true := by
    rw [e]
    unfold RS.fits0
    simp only [Bool.and_eq_true, decide_eq_true_eq, List.all_eq_true]
    refine ⟨⟨⟨⟨⟨⟨by show A.length ≤ _; omega, fun x hx => ?_⟩, ?_⟩, ?_⟩, ?_⟩, ?_⟩, ?_⟩
    · have := hA1.2 x hx; omega
    · show List.length (RS.top _).conds ≤ _
      unfold RS.top; simp
    · show 0 ≤ _; omega
    · show 0 + _ ≤ _; omega
    · show 1 ≤ _; omega
    · show 1 ≤ _; omega
  rw [readG_plain _ _ (RS.new A) name s hp (by omega) (by show 0 ≤ _; omega) (by show 0 ≤ _; omega) (by show 0 + _ ≤ _; omega) h0, e]
  rfl

set_option maxHeartbeats 2000000 in
set_option maxRecDepth 100000 in
theorem plain_any (s : Bytes) (w : World) (hs : s.length ≤ 1048576) :
    Calls Tryz.prog 24 #[.string ⟨s.toArray⟩] w fun e w' => e = .returned (.bool (plainB s)) ∧ w = w' := by
  go_enter Tryz.func24, Tryz.ntmps24
  go_wp2
  go_loopw [3] (fun v wr => ∃ k : Nat, k ≤ s.length ∧ v = .int .i64 k ∧ Hid ((s.take k).all plainC = true) ∧ wr = w) (fun v _ => s.length - (intOf v).toNat)
  case atStart => exact ⟨0, by omega, rfl, rfl, rfl⟩
  case round =>
    obtain ⟨k, hk, rfl, HP, rfl⟩ := hrel
    have hk0 : (0 : Int) ≤ (k : Int) := by omega
    by_cases hlt : k < s.length
    · have hk1 : (k : Int) < (s.length : Int) := by omega
      have HS : Hid ((s.take (k + 1)).all plainC = plainC s[k]) := by
        show _ = _
        rw [List.take_succ_eq_append_getElem hlt, List.all_append, HP.out]; simp
      have HF : Hid (plainC s[k] = false → plainB s = false) := fun h => by
        unfold plainB
        rw [List.all_eq_false]
        exact ⟨s[k], List.getElem_mem hlt, by rw [h]; decide⟩
      generalize hx : s[k] = x at *
      have b1 : ((x.toNat : Int) == 64) = (x == 64) := int_beq (d := 64)
      have b2 : ((x.toNat : Int) == 123) = (x == 123) := int_beq (d := 123)
      have b3 : ((x.toNat : Int) == 92) = (x == 92) := int_beq (d := 92)
      have HC : Hid (plainC x = !((x == 64) || (x == 123) || (x == 92))) := rfl
      cases h1 : (x == 64) <;> cases h2 : (x == 123) <;> cases h3 : (x == 92)
      all_goals
        rw [h1] at b1 HC
        rw [h2] at b2 HC
        rw [h3] at b3 HC
        clear h1 h2 h3
        go_wp2
      · go_roundw
        case rel => exact ⟨k + 1, by omega, by go_num, by show _ = _; rw [HS.out, HC.out]; rfl, by trivial⟩
        case measure => simp [intOf]; omega
      all_goals
        go_ret
        exact ⟨by rw [HF.out (by rw [HC.out]; rfl)]; rfl, by trivial⟩
    · have HE : Hid (plainB s = true) := by
        have h := HP.out
        rw [List.take_of_length_le (by omega)] at h; exact h
      go_wp2
      go_ret
      exact ⟨by rw [HE.out]; rfl, by trivial⟩

set_option maxHeartbeats 4000000 in
set_option maxRecDepth 100000 in
theorem same_any (a1 : Option Addr) (c1 : Nat) (a2 : Option Addr) (c2 : Nat) (file : Bytes) (ts : List Bytes) (w : World) (hn : ts.length ≤ 1048576) (hT : At w 3 encL a1 (numbered file 0 ts)) (hA : At w 1 encS a2 ts) :
    Calls Tryz.prog 27 #[.slice a1 ts.length c1, .string ⟨file.toArray⟩, .slice a2 ts.length c2] w fun e w' => e = .returned (.bool true) ∧ Below w.heap.size w w' := by
  have HT := Lib.hid hT
  have HA := Lib.hid hA
  clear hT hA
  go_enter Tryz.func27, Tryz.ntmps27
  go_wp2
  go_loopw [7] (fun v wr => ∃ k : Nat, k ≤ ts.length ∧ v = .int .i64 k ∧ Below w.heap.size w wr) (fun v _ => ts.length - (intOf v).toNat)
  case atStart => exact ⟨0, by omega, rfl, Below.refl _ _⟩
  case round =>
    obtain ⟨k, hk, rfl, hb⟩ := hrel
    have hk0 : (0 : Int) ≤ (k : Int) := by omega
    by_cases hlt : k < ts.length
    · have hk1 : (k : Int) < (ts.length : Int) := by omega
      obtain ⟨b2, off2, ha2, hbl2, hc2⟩ := (HA.out.below hb).str hlt
      obtain ⟨b1, off1, ha1, hbl1, hc1⟩ := (HT.out.below hb).elem (i := k) (by rw [numbered_len]; exact hlt)
      rw [numbered_get file ts 0 k hlt] at hc1
      subst ha1 ha2
      generalize ts[k] = tx at *
      have d0 := hc1 0 (.string ⟨file.toArray⟩) rfl
      have d1 := hc1 1 (.int .i64 ((0 + k + 1 : Nat) : Int)) rfl
      have d2 := hc1 2 (.string ⟨tx.toArray⟩) rfl
      rw [Nat.add_zero] at d0
      have e1 : ((0 + k + 1 : Nat) : Int) = (k : Int) + 1 := by omega
      rw [e1] at d1
      have a1' : IntKind.i64.wrap ((k : Int) + 1) = (k : Int) + 1 := by rw [IntWalk.i64_in _ (by omega)]
      clear hc1 e1
      go_wp2_with fail
      go_quiet (fail)
      go_wp2
      go_roundw
      case rel => exact ⟨k + 1, by omega, by go_num, below_drewN hb _⟩
      case measure => simp [intOf]; omega
    · go_wp2
      go_ret
      exact ⟨rfl, hb⟩
end Go.Proofs.YtfedkhicckgjaaaGreatDoor
