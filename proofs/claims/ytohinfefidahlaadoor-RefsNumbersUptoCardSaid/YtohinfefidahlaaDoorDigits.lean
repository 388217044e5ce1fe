/- binderylaw16.digits. -/
import Derived.Test.YtohinfefidahlaaDoorNums
import Derived.Test.YtohinfefidahlaaDoorHld
namespace Go.Proofs.YtohinfefidahlaaDoor
open Go.RowKit
set_option linter.unusedVariables false

theorem ten_at : ∀ m : Nat, m < 10 → (ByteArray.mk #[48, 49, 50, 51, 52, 53, 54, 55, 56, 57]).extract m (m + 1) = ⟨#[UInt8.ofNat (48 + m)]⟩
  | 0, _ | 1, _ | 2, _ | 3, _ | 4, _ | 5, _ | 6, _ | 7, _ | 8, _ | 9, _ => rfl
  | m + 10, h => absurd h (by omega)
set_option maxHeartbeats 4000000 in
set_option maxRecDepth 100000 in
theorem digits_any (n : Nat) (w : World) (hn : n ≤ 1000000) :
    Calls Tryd.prog 9 #[.int .i64 (n : Nat)] w fun e w' => e = .returned (.string ⟨(Lib.decDigits n).toArray⟩) ∧ w = w' := by
  go_enter Tryd.func9, Tryd.ntmps9
  go_wp2
  go_loop [0, 3] (fun v0 v3 => ∃ (m : Nat) (s : Bytes), v0 = .int .i64 m ∧ v3 = .string ⟨s.toArray⟩ ∧ m ≤ 1000000 ∧ s.length ≤ 1000000 ∧ Hid (Lib.decDigits n = Lib.decDigits m ++ s) ∧ Hid (s.length + m ≤ 1000000)) (fun v0 _ => (intOf v0).toNat)
  case atStart => exact ⟨n, [], rfl, rfl, hn, by simp, by show _ = _; rw [List.append_nil], by show _ ≤ _; simpa using hn⟩
  case round =>
    obtain ⟨m, s, rfl, rfl, hm, hs, HE, HS⟩ := hrel
    by_cases h9 : 9 < m
    · have HD := Lib.hid (dec_step (u := m) (by omega))
      have h9i : (9 : Int) < (m : Int) := by omega
      obtain ⟨r, hr⟩ : ∃ r, m % 10 = r := ⟨_, rfl⟩
      have hml : r < 10 := by omega
      have HR : Hid ((m : Int) % 10 = (r : Int)) := by show _ = _; omega
      obtain ⟨q, hq⟩ : ∃ q, m / 10 = q := ⟨_, rfl⟩
      have HQ : Hid ((m : Int) / 10 = (q : Int)) := by show _ = _; omega
      have HQL : Hid (q < m ∧ q ≤ 1000000 ∧ s.length + 1 + q ≤ 1000000) := ⟨by omega, by omega, by have := HS.out; omega⟩
      have hx := ten_at r hml
      rw [hr, hq] at HD
      generalize UInt8.ofNat (48 + r) = cd at *
      clear hr hq
      go_wp2_with (refine hold_at 10 rfl ?_)
      constructor
      rw [HR.out]
      go_wp2_with (refine hold_at 0 rfl ?_)
      constructor
      rw [HQ.out]
      go_wp2_with fail
      · exact ⟨q, cd :: s, rfl, rfl, HQL.out.2.1, by have := HQL.out; simp; omega, by show _ = _; rw [HE.out, HD.out, List.append_assoc]; rfl, by have := HQL.out; show _ ≤ _; simp; omega⟩
      · rw [HQ.out]
        have := HQL.out
        show ((q : Int)).toNat < ((m : Int)).toNat
        omega
    · have h9i : ¬ (9 : Int) < (m : Int) := by omega
      have hx := ten_at m (by omega)
      have HD := Lib.hid (Lib.decDigits_one (i := m) (by omega))
      generalize UInt8.ofNat (48 + m) = cd at *
      go_wp2
      go_ret
      exact ⟨by rw [HE.out, HD.out]; rfl, rfl⟩
end Go.Proofs.YtohinfefidahlaaDoor
