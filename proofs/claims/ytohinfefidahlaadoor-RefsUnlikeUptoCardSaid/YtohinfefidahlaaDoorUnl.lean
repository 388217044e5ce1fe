/- Names, each unlike those ahead: the plain laws. No program is named here. -/
import Derived.Test.YtohinfefidahlaaDoorMem
import Derived.Lib.ItoaMem
import Derived.Lib.ItoaLen
namespace Go.Proofs.YtohinfefidahlaaDoor
open Go.RowKit
set_option linter.unusedVariables false

/-! ### numbers as texts -/
theorem dec_step {u : Nat} (h : ¬ u < 10) : Lib.decDigits u = Lib.decDigits (u / 10) ++ [UInt8.ofNat (48 + u % 10)] := by
  rw [Lib.decDigits, dif_neg h]
theorem dig_inj {a b : Nat} (ha : a < 10) (hb : b < 10) (h : UInt8.ofNat (48 + a) = UInt8.ofNat (48 + b)) : a = b := by
  have := congrArg UInt8.toNat h
  simp at this
  omega
theorem dec_ne_nil (u : Nat) : Lib.decDigits u ≠ [] := by
  rw [Lib.decDigits]
  split <;> simp
theorem dec_inj : ∀ (n a b : Nat), a ≤ n → Lib.decDigits a = Lib.decDigits b → a = b := by
  intro n
  induction n with
  | zero =>
    intro a b ha h
    obtain rfl : a = 0 := by omega
    by_cases hb : b < 10
    · rw [Lib.decDigits_one (by omega), Lib.decDigits_one hb] at h
      injection h with h
      exact dig_inj (by omega) hb h
    · rw [Lib.decDigits_one (by omega), dec_step hb] at h
      have := congrArg List.length h
      simp at this
      exact absurd this (dec_ne_nil _)
  | succ n ih =>
    intro a b ha h
    by_cases h1 : a < 10
    · by_cases hb : b < 10
      · rw [Lib.decDigits_one h1, Lib.decDigits_one hb] at h
        injection h with h
        exact dig_inj h1 hb h
      · rw [Lib.decDigits_one h1, dec_step hb] at h
        have := congrArg List.length h
        simp at this
        exact absurd this (dec_ne_nil _)
    · by_cases hb : b < 10
      · rw [Lib.decDigits_one hb, dec_step h1] at h
        have := congrArg List.length h
        simp at this
        exact absurd this (dec_ne_nil _)
      · rw [dec_step h1, dec_step hb] at h
        have h2 := List.append_inj' h rfl
        have h3 := ih (a / 10) (b / 10) (by omega) h2.1
        have h4 := h2.2
        injection h4 with h4
        have := dig_inj (by omega) (by omega) h4
        omega

/-! ### the names that are tried -/
def cand (s : Bytes) (j : Nat) : Bytes := if j = 0 then s else s ++ 45 :: Lib.decDigits (j + 1)
theorem cand_zero (s : Bytes) : cand s 0 = s := rfl
theorem cand_succ (s : Bytes) {j : Nat} (h : j ≠ 0) : cand s j = s ++ 45 :: Lib.decDigits (j + 1) := if_neg h
theorem cand_inj {s : Bytes} {i j : Nat} (h : cand s i = cand s j) : i = j := by
  by_cases hi : i = 0
  · by_cases hj : j = 0
    · omega
    · subst hi
      rw [cand_zero, cand_succ s hj] at h
      have := congrArg List.length h
      simp at this
  · by_cases hj : j = 0
    · subst hj
      rw [cand_zero, cand_succ s hi] at h
      have := congrArg List.length h
      simp at this
    · rw [cand_succ s hi, cand_succ s hj] at h
      have h := List.append_cancel_left h
      injection h with _ h
      have := dec_inj _ _ _ (Nat.le_refl _) h
      omega
theorem nodup_le : ∀ (l m : List Bytes), l.Nodup → (∀ x ∈ l, x ∈ m) → l.length ≤ m.length
  | [], _, _, _ => by simp
  | x :: l, m, hd, h => by
    rw [List.nodup_cons] at hd
    have hx := h x (by simp)
    have := nodup_le l (m.erase x) hd.2 (fun y hy => by
      have hne : y ≠ x := fun e => hd.1 (e ▸ hy)
      exact (List.mem_erase_of_ne hne).2 (h y (by simp [hy])))
    rw [List.length_erase_of_mem hx] at this
    have := List.length_pos_of_mem hx
    rw [List.length_cons]; omega
theorem cands_nodup (s : Bytes) (n : Nat) : ((List.range n).map (cand s)).Nodup := by
  induction n with
  | zero => simp
  | succ n ih =>
    rw [List.range_succ, List.map_append, List.nodup_append]
    refine ⟨ih, by simp, ?_⟩
    intro a ha b hb e
    subst e
    obtain ⟨i, hi, rfl⟩ := List.mem_map.1 ha
    simp at hb
    have := cand_inj hb
    have := List.mem_range.1 hi
    omega
/-- so many are tried at most -/
theorem tried_le {s : Bytes} {out : List Bytes} {n : Nat} (h : ∀ i, i < n → cand s i ∈ out) : n ≤ out.length := by
  have := nodup_le _ out (cands_nodup s n) (fun x hx => by
    obtain ⟨i, hi, rfl⟩ := List.mem_map.1 hx
    exact h i (List.mem_range.1 hi))
  simpa using this
/-- j is the first that is free -/
def Free (out : List Bytes) (s : Bytes) (j : Nat) : Prop := cand s j ∉ out ∧ ∀ i, i < j → cand s i ∈ out
theorem Free.unique {out : List Bytes} {s : Bytes} {i j : Nat} (h : Free out s i) (k : Free out s j) : i = j := by
  rcases Nat.lt_trichotomy i j with c | c | c
  · exact absurd (k.2 i c) h.1
  · exact c
  · exact absurd (h.2 j c) k.1
theorem Free.le {out : List Bytes} {s : Bytes} {j : Nat} (h : Free out s j) : j ≤ out.length := tried_le h.2
def freeJ (out : List Bytes) (s : Bytes) : Nat → Nat → Nat
  | 0, j => j
  | f + 1, j => if out.contains (cand s j) = true then freeJ out s f (j + 1) else j
theorem freeJ_free (out : List Bytes) (s : Bytes) : ∀ (f j : Nat), out.length < f + j → (∀ i, i < j → cand s i ∈ out) → Free out s (freeJ out s f j)
  | 0, j, hf, h => by have := tried_le h; omega
  | f + 1, j, hf, h => by
    unfold freeJ
    by_cases hc : out.contains (cand s j) = true
    · rw [if_pos hc]
      refine freeJ_free out s f (j + 1) (by omega) fun i hi => ?_
      rcases Nat.lt_succ_iff_lt_or_eq.1 hi with hlt | rfl
      · exact h i hlt
      · simpa using hc
    · rw [if_neg hc]
      exact ⟨by simpa using hc, h⟩
def firstJ (out : List Bytes) (s : Bytes) : Nat := freeJ out s (out.length + 1) 0
theorem firstJ_free (out : List Bytes) (s : Bytes) : Free out s (firstJ out s) := freeJ_free out s _ 0 (by omega) (fun i hi => absurd hi (by omega))
theorem firstJ_of {out : List Bytes} {s : Bytes} {j : Nat} (h : Free out s j) : firstJ out s = j := (firstJ_free out s).unique h
def nameJ (out : List Bytes) (s : Bytes) : Bytes := cand s (firstJ out s)
theorem nameJ_of {out : List Bytes} {s : Bytes} {j : Nat} (h : Free out s j) : nameJ out s = cand s j := by unfold nameJ; rw [firstJ_of h]
def stepU (out : List Bytes) (s : Bytes) : List Bytes := out ++ [nameJ out s]
def unlike (l : List Bytes) : List Bytes := l.foldl stepU []
theorem unlike_take {l : List Bytes} {k : Nat} (h : k < l.length) : unlike (l.take (k + 1)) = unlike (l.take k) ++ [nameJ (unlike (l.take k)) l[k]] := by
  unfold unlike
  rw [List.take_succ_eq_append_getElem h, List.foldl_append]
  rfl
theorem unlike_len_take (l : List Bytes) : ∀ k, k ≤ l.length → (unlike (l.take k)).length = k
  | 0, _ => by simp [unlike]
  | k + 1, h => by rw [unlike_take (by omega), List.length_append, unlike_len_take l k (by omega)]; rfl
theorem unlike_len (l : List Bytes) : (unlike l).length = l.length := by
  have := unlike_len_take l l.length (Nat.le_refl _)
  rwa [List.take_length] at this
theorem dec_len (n : Nat) (h : n ≤ 9223372036854775807) : (Lib.decDigits n).length ≤ 21 := by
  have := Lib.itoa_length_le (n : Int) (by omega) (by omega)
  rwa [Lib.itoa_nonneg] at this
theorem cand_len (s : Bytes) {j : Nat} (h : j ≤ 1000000) : s.length ≤ (cand s j).length ∧ (cand s j).length ≤ s.length + 22 := by
  by_cases hj : j = 0
  · subst hj; simp [cand]
  · rw [cand_succ s hj]
    have := dec_len (j + 1) (by omega)
    simp; omega
theorem unlike_mem {l : List Bytes} {x : Bytes} : ∀ k, k ≤ l.length → x ∈ unlike (l.take k) → ∃ s ∈ l, ∃ j, j < l.length ∧ x = cand s j
  | 0, _, h => by simp [unlike] at h
  | k + 1, hk, h => by
    rw [unlike_take (by omega)] at h
    rcases List.mem_append.1 h with h | h
    · exact unlike_mem k (by omega) h
    · simp at h
      have hj := (firstJ_free (unlike (l.take k)) (l[k]'(by omega))).le
      rw [unlike_len_take l k (by omega)] at hj
      exact ⟨_, List.getElem_mem (by omega), _, by omega, h⟩
end Go.Proofs.YtohinfefidahlaaDoor
