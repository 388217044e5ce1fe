/- The digest's functions, the program's and the reference's: what each returns. -/
import Derived.Test.YtmnklljkhabodaaBase
namespace Go.Proofs.Ytmnklljkhabodaa
open Go.RowKit

/-! ### plain -/
def fnv1 (d : Nat) (c : UInt8) : Nat := (d ^^^ c.toNat) * 1099511628211 % 18446744073709551616
def fnv (d : Nat) (l : List UInt8) : Nat := l.foldl fnv1 d
theorem fnv1_lt (d : Nat) (c : UInt8) : fnv1 d c < 18446744073709551616 := Nat.mod_lt _ (by decide)
theorem fnv_nil (d : Nat) : fnv d [] = d := rfl
theorem fnv_cons (d : Nat) (c : UInt8) (l : List UInt8) : fnv d (c :: l) = fnv (fnv1 d c) l := rfl
theorem fnv_bd (N : Nat) (hN : ∀ d c, fnv1 d c < N) (d : Nat) (l : List UInt8) (h : d < N) : fnv d l < N := by
  induction l generalizing d with
  | nil => rw [fnv_nil]; exact h
  | cons c l ih => rw [fnv_cons]; exact ih _ (hN d c)
theorem fnv_lt (d : Nat) (l : List UInt8) (h : d < 18446744073709551616) : fnv d l < 18446744073709551616 := fnv_bd _ fnv1_lt d l h
theorem foldl_snoc' {α β : Type} (f : β → α → β) (d : β) (l : List α) (c : α) : (l ++ [c]).foldl f d = f (l.foldl f d) c := by simp
theorem foldl_append' {α β : Type} (f : β → α → β) (d : β) (l m : List α) : (l ++ m).foldl f d = m.foldl f (l.foldl f d) := by simp
theorem fnv_snoc (d : Nat) (l : List UInt8) (c : UInt8) : fnv d (l ++ [c]) = fnv1 (fnv d l) c := foldl_snoc' fnv1 d l c
theorem fnv_append (d : Nat) (l m : List UInt8) : fnv d (l ++ m) = fnv (fnv d l) m := foldl_append' fnv1 d l m
theorem mul_mod_cast (a C : Nat) : IntKind.u64.wrap ((a : Int) * (C : Int)) = ((a * C % 18446744073709551616 : Nat) : Int) := by
  rw [IntKind.wrap_u64, Int.natCast_emod, Int.natCast_mul]; rfl
theorem byte_u64 (c : UInt8) : IntKind.u64.wrap (c.toNat : Int) = (c.toNat : Int) := by
  have hc : c.toNat < 256 := c.toNat_lt
  exact IntWalk.u64_in (c.toNat : Int) (by omega)
theorem fnv1_walk (d : Nat) (c : UInt8) (h : d < 18446744073709551616) :
    IntKind.u64.wrap (bits BinOp.xor IntKind.u64 (d : Int) (IntKind.u64.wrap (c.toNat : Int)) * 1099511628211) = (fnv1 d c : Int) := by
  have hc : c.toNat < 256 := c.toNat_lt
  rw [byte_u64, bits_xor_u64_nat d c.toNat h (by omega)]
  exact mul_mod_cast (d ^^^ c.toNat) 1099511628211

def basis : Nat := 14695981039346656037
theorem basis_lt : basis < 18446744073709551616 := by decide

/-! ### More, Of -/
set_option maxHeartbeats 400000 in
theorem more_any (d : Nat) (s : ByteArray) (w : World) (hs : s.size ≤ maxLen) (hd : d < 18446744073709551616) :
    Calls Try.prog 12 #[.int .u64 d, .string s] w fun e w' => e = .returned (.int .u64 (fnv d s.data.toList)) ∧ w = w' := by
  unfold maxLen at hs
  go_enter Try.func12, Try.ntmps12
  go_wp2
  go_loop [0, 5, 8] (fun d' _ i => ∃ (k : Nat), k ≤ s.size ∧ i = .int .i64 k ∧ d' = .int .u64 (fnv d (s.data.toList.take k))) (fun _ _ i => s.size - (intOf i).toNat)
  case atStart => exact ⟨0, by omega, rfl, rfl⟩
  case round =>
    obtain ⟨k, hk, rfl, rfl⟩ := hrel
    have hlt' := fnv_lt d (s.data.toList.take k) hd
    by_cases hlt : k < s.size
    · have h1 := fnv1_walk (fnv d (s.data.toList.take k)) s[k] hlt'
      have h2 : fnv d (s.data.toList.take (k + 1)) = fnv1 (fnv d (s.data.toList.take k)) s[k] := by rw [take_snoc s k hlt, fnv_snoc]
      have H := Lib.hid (h1.trans (congrArg Nat.cast h2.symm))
      clear h1 h2
      go_wp2
      go_round
      case rel => exact ⟨k + 1, by omega, by go_num, by rw [← H.out]⟩
      case measure => simp [intOf]; omega
    · go_wp2
      go_ret
      exact ⟨ret_u64 (by rw [List.take_of_length_le (by simp; omega)]), rfl⟩

set_option maxHeartbeats 400000 in
theorem rmore_any (d : Nat) (s : ByteArray) (w : World) (hs : s.size ≤ maxLen) (hd : d < 18446744073709551616) :
    Calls Try.prog 13 #[.int .u64 d, .string s] w fun e w' => e = .returned (.int .u64 (fnv d s.data.toList)) ∧ w = w' := by
  unfold maxLen at hs
  go_enter Try.func13, Try.ntmps13
  go_wp2
  go_loop [0, 5] (fun d' i => ∃ (k : Nat), k ≤ s.size ∧ i = .int .i64 k ∧ d' = .int .u64 (fnv d (s.data.toList.take k))) (fun _ i => s.size - (intOf i).toNat)
  case atStart => exact ⟨0, by omega, rfl, rfl⟩
  case round =>
    obtain ⟨k, hk, rfl, rfl⟩ := hrel
    have hlt' := fnv_lt d (s.data.toList.take k) hd
    by_cases hlt : k < s.size
    · have h1 := fnv1_walk (fnv d (s.data.toList.take k)) s[k] hlt'
      have h2 : fnv d (s.data.toList.take (k + 1)) = fnv1 (fnv d (s.data.toList.take k)) s[k] := by rw [take_snoc s k hlt, fnv_snoc]
      have H := Lib.hid (h1.trans (congrArg Nat.cast h2.symm))
      clear h1 h2
      go_wp2
      go_round
      case rel => exact ⟨k + 1, by omega, by go_num, by rw [← H.out]⟩
      case measure => simp [intOf]; omega
    · go_wp2
      go_ret
      exact ⟨ret_u64 (by rw [List.take_of_length_le (by simp; omega)]), rfl⟩

theorem of_any (s : ByteArray) (w : World) (hs : s.size ≤ maxLen) :
    Calls Try.prog 10 #[.string s] w fun e w' => e = .returned (.int .u64 (fnv basis s.data.toList)) ∧ w = w' := by
  have hm := fun w => more_any basis s w hs basis_lt
  have H := Lib.hid hm
  clear hm
  go_enter Try.func10, Try.ntmps10
  go_wp2_with fail
  refine (H.out _).mono ?_
  rintro e w' ⟨rfl, rfl⟩
  go_wp2_with fail
  go_ret
  exact ⟨rfl, rfl⟩

theorem rof_any (s : ByteArray) (w : World) (hs : s.size ≤ maxLen) :
    Calls Try.prog 11 #[.string s] w fun e w' => e = .returned (.int .u64 (fnv basis s.data.toList)) ∧ w = w' := by
  have hm := fun w => rmore_any basis s w hs basis_lt
  have H := Lib.hid hm
  clear hm
  go_enter Try.func11, Try.ntmps11
  go_wp2_with fail
  refine (H.out _).mono ?_
  rintro e w' ⟨rfl, rfl⟩
  go_wp2_with fail
  go_ret
  exact ⟨rfl, rfl⟩
end Go.Proofs.Ytmnklljkhabodaa
