/- conds.asked: the name that is asked for at a text's beginning. -/
import Derived.Test.YtfedkhicckgjaaaGreatDoorFillP
import Derived.Test.YtfedkhicckgjaaaGreatDoorShelf
import Derived.Lib.IndexLaws
namespace Go.Proofs.YtfedkhicckgjaaaGreatDoor
open Go.RowKit
set_option linter.unusedVariables false

theorem idx_none {l : Bytes} {c : UInt8} (h : Lib.indexByte l c = -1) : ∀ x ∈ l, x ≠ c := by
  intro x hx e
  obtain ⟨i, hi, he⟩ := List.mem_iff_getElem.1 hx
  exact Lib.indexByte_none h i (by rw [List.getElem?_eq_getElem hi, he, e])
theorem idx_some {l : Bytes} {c : UInt8} {n : Nat} (h : Lib.indexByte l c = n) : ∃ hn : n < l.length, l[n] = c ∧ ∀ k (hk : k < n), l[k]'(Nat.lt_trans hk hn) ≠ c := by
  obtain ⟨h1, h2⟩ := Lib.indexByte_some h
  obtain ⟨hn, he⟩ := List.getElem?_eq_some_iff.1 h1
  exact ⟨hn, he, fun k hk e => h2 k hk (by rw [List.getElem?_eq_getElem (Nat.lt_trans hk hn), e])⟩
theorem idx_cases (l : Bytes) (c : UInt8) : Lib.indexByte l c = -1 ∨ ∃ n : Nat, Lib.indexByte l c = n := by
  have := Lib.indexByte_ge l c
  by_cases h : Lib.indexByte l c = -1
  · exact .inl h
  · exact .inr ⟨(Lib.indexByte l c).toNat, by omega⟩
theorem idx_any (s : Bytes) (c : UInt8) (w : World) :
    Calls Tryz.prog 223 #[.string ⟨s.toArray⟩, .int .u8 c.toNat] w fun e w' => e = .returned (.int .i64 (Lib.indexByte s c)) ∧ w = w' := by
  refine (Tryz.strings_IndexByte ⟨s.toArray⟩ c.toNat w).mono ?_
  rintro e w' ⟨rfl, rfl⟩
  refine ⟨?_, rfl⟩
  congr 3
  simp
theorem tok_noidx {r : Bytes} (h : Lib.indexByte (r.take 61) 125 = -1) : tokOf (123 :: r) = none := by
  cases hq : tokOf (123 :: r) with
  | none => rfl
  | some nm =>
    exfalso
    obtain ⟨_, h1, h2, h3, h4⟩ := tokOf_some hq
    have h5 := (nameB_len h2).2
    rw [← h3] at h5
    obtain ⟨hlt, he⟩ := List.getElem?_eq_some_iff.1 h1
    refine idx_none h 125 ?_ rfl
    rw [← he]
    rw [List.mem_iff_getElem]
    exact ⟨runK r, by rw [List.length_take]; omega, by rw [List.getElem_take]⟩
theorem tok_idx {r : Bytes} {n : Nat} (h : Lib.indexByte (r.take 61) 125 = n) : n < 61 ∧ n < r.length ∧ tokOf (123 :: r) = if nameB (r.take n) = true then some (r.take n) else none := by
  obtain ⟨hn, he, hall⟩ := idx_some h
  rw [List.length_take] at hn
  rw [List.getElem_take] at he
  have hnr : n < r.length := by omega
  refine ⟨by omega, hnr, ?_⟩
  split
  · rename_i hnm
    have hr : runK r = n := by
      refine runK_at hnr (fun i hi => ?_) (by rw [he]; exact sign_brace)
      have := nameB_signs hnm r[i] (by rw [List.mem_iff_getElem]; exact ⟨i, by rw [List.length_take]; omega, by rw [List.getElem_take]⟩)
      exact this
    rw [tokOf_cons, hr, if_pos (by rw [List.getElem?_eq_getElem hnr, he]; simp [hnm])]
  · rename_i hnm
    cases hq : tokOf (123 :: r) with
    | none => rfl
    | some nm =>
      exfalso
      obtain ⟨_, h1, h2, h3, h4⟩ := tokOf_some hq
      have h5 := (nameB_len h2).2
      rw [← h3] at h5
      obtain ⟨hlt, he2⟩ := List.getElem?_eq_some_iff.1 h1
      have hle : ¬ runK r < n := fun hk => by
        have := hall (runK r) hk
        rw [List.getElem_take] at this
        exact this he2
      have hge : ¬ n < runK r := fun hk => by
        have := runK_sign r n hnr hk
        rw [he, sign_brace] at this
        cases this
      have : runK r = n := by omega
      rw [this] at h2
      exact hnm h2

def tokV (s : Bytes) : Value := .tuple #[.string ⟨((tokOf s).getD []).toArray⟩, .bool (tokOf s).isSome]
theorem ne1 {s : Bytes} (h : 0 < s.length) : s.isEmpty = false := by cases s with | nil => simp at h | cons c r => rfl
theorem ne2 {s : Bytes} (h : 0 < s.length) : (s == []) = false := by cases s with | nil => simp at h | cons c r => rfl
theorem int_ne {c d : UInt8} (h : c ≠ d) : ((c.toNat : Int) != (d.toNat : Int)) = true := by
  rw [bne_iff_ne]
  intro e
  exact h (UInt8.toNat.inj (by omega))
theorem int_eq {c d : UInt8} (h : c = d) : ((c.toNat : Int) != (d.toNat : Int)) = false := by subst h; simp
set_option maxHeartbeats 2000000 in
theorem asked_nil (w : World) :
    Calls Tryz.prog 227 #[.string ⟨([] : Bytes).toArray⟩] w fun e w' => e = .returned (tokV []) ∧ w = w' := by
  go_enter Tryz.func227, Tryz.ntmps227
  go_wp2_with fail
  go_ret2
  exact ⟨rfl, rfl⟩
set_option maxHeartbeats 2000000 in
theorem asked_other (s : Bytes) (w : World) (hs : s.length ≤ 1048576) (h0 : 0 < s.length) (hc : s[0] ≠ 123) :
    Calls Tryz.prog 227 #[.string ⟨s.toArray⟩] w fun e w' => e = .returned (.tuple #[.string ⟨#[]⟩, .bool false]) ∧ w = w' := by
  have hb : ((s[0].toNat : Int) != 123) = true := int_ne hc
  have hne1 := ne1 h0
  have hne2 := ne2 h0
  clear hc
  go_enter Tryz.func227, Tryz.ntmps227
  go_wp2_with fail
  go_ret2
  exact ⟨rfl, rfl⟩
theorem win_eq (s : Bytes) : (List.take (min (s.length : Int) 62).toNat s).tail = s.tail.take 61 := by
  by_cases h : s.length ≤ 62
  · have e : (min (s.length : Int) 62).toNat = s.length := by omega
    rw [e, List.take_length, List.take_of_length_le (by simp; omega)]
  · have e : (min (s.length : Int) 62).toNat = 62 := by omega
    rw [e]
    cases s with
    | nil => rfl
    | cons c r => rfl
theorem idx_125 (s : Bytes) (w : World) : Calls Tryz.prog 223 #[.string ⟨s.toArray⟩, .int .u8 125] w fun e w' => e = .returned (.int .i64 (Lib.indexByte s 125)) ∧ w = w' := idx_any s 125 w
theorem idx_123 (s : Bytes) (w : World) : Calls Tryz.prog 223 #[.string ⟨s.toArray⟩, .int .u8 123] w fun e w' => e = .returned (.int .i64 (Lib.indexByte s 123)) ∧ w = w' := idx_any s 123 w
set_option maxHeartbeats 2000000 in
theorem asked_noidx (s : Bytes) (w : World) (hs : s.length ≤ 1048576) (h0 : 0 < s.length) (hc : s[0] = 123) (hi : Lib.indexByte (s.tail.take 61) 125 = -1) :
    Calls Tryz.prog 227 #[.string ⟨s.toArray⟩] w fun e w' => e = .returned (.tuple #[.string ⟨#[]⟩, .bool false]) ∧ w = w' := by
  have hb : ((s[0].toNat : Int) != 123) = false := int_eq hc
  have hne1 := ne1 h0
  have hne2 := ne2 h0
  clear hc
  rw [← win_eq] at hi
  have HI := Lib.hid hi
  clear hi
  go_enter Tryz.func227, Tryz.ntmps227
  go_wp2_with fail
  refine (idx_125 _ _).mono ?_
  rw [HI.out]
  rintro e w' ⟨rfl, rfl⟩
  go_wp2_with fail
  go_ret2
  exact ⟨rfl, rfl⟩
set_option maxHeartbeats 2000000 in
theorem asked_idx (s : Bytes) (n : Nat) (w : World) (hs : s.length ≤ 1048576) (h0 : 0 < s.length) (hc : s[0] = 123) (hi : Lib.indexByte (s.tail.take 61) 125 = n) (hn : n < 61) (hn2 : n < s.length) :
    Calls Tryz.prog 227 #[.string ⟨s.toArray⟩] w fun e w' => e = .returned (if nameB (s.tail.take n) = true then .tuple #[.string ⟨(s.tail.take n).toArray⟩, .bool true] else .tuple #[.string ⟨#[]⟩, .bool false]) ∧ w = w' := by
  have hb : ((s[0].toNat : Int) != 123) = false := int_eq hc
  have hne1 := ne1 h0
  have hne2 := ne2 h0
  have hlw : n < (s.tail.take 61).length := (idx_some hi).1
  clear hc
  rw [← win_eq] at hi hlw
  have htt : (List.take (min (s.length : Int) 62).toNat s).tail.take n = s.tail.take n := by rw [win_eq, List.take_take]; congr 1; omega
  have hle : (n : Int) ≤ ((List.take (min (s.length : Int) 62).toNat s).tail.length : Int) := by omega
  have hle2 : n ≤ (List.take (min (s.length : Int) 62).toNat s).tail.length := by omega
  have hlt61 : (s.tail.take n).length ≤ 61 := by rw [List.length_take]; omega
  have HI := Lib.hid hi
  rw [← htt]
  rw [← htt] at hlt61
  have HT := Lib.hid htt
  clear hi htt
  generalize hW : (List.take (min (s.length : Int) 62).toNat s).tail = W at *
  have HW := Lib.hid hW
  clear hW
  cases hnm : nameB (W.take n)
  · rw [if_neg (by simp)]
    have HN := Lib.hid hnm
    clear hnm
    go_enter Tryz.func227, Tryz.ntmps227
    go_wp2_with fail
    rw [HW.out]
    refine (idx_125 _ _).mono ?_
    rw [HI.out]
    rintro e w' ⟨rfl, rfl⟩
    go_wp2_with fail
    refine (name_any _ _ (by omega)).mono ?_
    rw [HN.out]
    rintro e w' ⟨rfl, rfl⟩
    go_wp2_with fail
    go_ret2
    exact ⟨rfl, rfl⟩
  · rw [if_pos rfl]
    have HN := Lib.hid hnm
    clear hnm
    go_enter Tryz.func227, Tryz.ntmps227
    go_wp2_with fail
    rw [HW.out]
    refine (idx_125 _ _).mono ?_
    rw [HI.out]
    rintro e w' ⟨rfl, rfl⟩
    go_wp2_with fail
    refine (name_any _ _ (by omega)).mono ?_
    rw [HN.out]
    rintro e w' ⟨rfl, rfl⟩
    go_wp2_with fail
    go_ret2
    exact ⟨rfl, rfl⟩
theorem asked_any (s : Bytes) (w : World) (hs : s.length ≤ 1048576) :
    Calls Tryz.prog 227 #[.string ⟨s.toArray⟩] w fun e w' => e = .returned (tokV s) ∧ w = w' := by
  match s, hs with
  | [], _ => exact asked_nil w
  | c :: r, hs =>
    by_cases hc : c = 123
    · subst hc
      rcases idx_cases (r.take 61) 125 with hi | ⟨n, hi⟩
      · have ht : tokV (123 :: r) = .tuple #[.string ⟨#[]⟩, .bool false] := by simp [tokV, tok_noidx hi]
        rw [ht]
        exact asked_noidx _ w hs (by simp) rfl hi
      · obtain ⟨h1, h2, h3⟩ := tok_idx hi
        have ht : tokV (123 :: r) = if nameB (r.take n) = true then .tuple #[.string ⟨(r.take n).toArray⟩, .bool true] else .tuple #[.string ⟨#[]⟩, .bool false] := by
          unfold tokV; rw [h3]; split <;> rfl
        rw [ht]
        exact asked_idx _ n w hs (by simp) rfl hi h1 (by simp; omega)
    · have ht : tokV (c :: r) = .tuple #[.string ⟨#[]⟩, .bool false] := by simp [tokV, tokOf_other hc]
      rw [ht]
      exact asked_other _ w hs (by simp) hc
end Go.Proofs.YtfedkhicckgjaaaGreatDoor
