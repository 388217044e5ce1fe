/- What titles are called in links: the plain laws. No program is named here. -/
import Derived.Test.YtohinfefidahlaaGreatDoorJoA
namespace Go.Proofs.YtohinfefidahlaaGreatDoor
open Go.RowKit
set_option linter.unusedVariables false

def lowB (c : UInt8) : UInt8 := if 65 ≤ c.toNat ∧ c.toNat ≤ 90 then c + 32 else c
def lowS (s : Bytes) : Bytes := s.map lowB
/-- a small letter, or a digit -/
def lnB (c : UInt8) : Bool := decide (48 ≤ c.toNat ∧ c.toNat ≤ 57) || decide (97 ≤ c.toNat ∧ c.toNat ≤ 122)
/-- a letter, or a digit -/
def anB (c : UInt8) : Bool := lnB c || decide (65 ≤ c.toNat ∧ c.toNat ≤ 90)
theorem lowB_up {c : UInt8} (h : 65 ≤ c.toNat ∧ c.toNat ≤ 90) : lowB c = c + 32 ∧ (lowB c).toNat = c.toNat + 32 := by
  unfold lowB
  rw [if_pos h]
  refine ⟨rfl, ?_⟩
  rw [UInt8.toNat_add]
  show (c.toNat + 32) % 256 = _
  omega
theorem lowB_not {c : UInt8} (h : ¬ (65 ≤ c.toNat ∧ c.toNat ≤ 90)) : lowB c = c := if_neg h
theorem lowB_low (c : UInt8) : lowB (lowB c) = lowB c := by
  by_cases h : 65 ≤ c.toNat ∧ c.toNat ≤ 90
  · have := (lowB_up h).2
    exact lowB_not (by omega)
  · rw [lowB_not h, lowB_not h]
theorem lowS_low (s : Bytes) : lowS (lowS s) = lowS s := by
  unfold lowS; rw [List.map_map]; congr 1; funext c; exact lowB_low c
theorem lowS_len (s : Bytes) : (lowS s).length = s.length := by unfold lowS; simp
theorem lnB_low (c : UInt8) : lnB (lowB c) = anB c := by
  unfold anB
  by_cases h : 65 ≤ c.toNat ∧ c.toNat ≤ 90
  · have h2 := (lowB_up h).2
    have : lnB (lowB c) = true := by unfold lnB; rw [h2]; simp; omega
    rw [this]; simp [h]
  · rw [lowB_not h]; simp [h]
theorem not_up_low (c : UInt8) : ¬ (65 ≤ (lowB c).toNat ∧ (lowB c).toNat ≤ 90) := by
  by_cases h : 65 ≤ c.toNat ∧ c.toNat ≤ 90
  · have := (lowB_up h).2; omega
  · rwa [lowB_not h]
theorem anB_low (c : UInt8) : anB (lowB c) = lnB (lowB c) := by
  have := not_up_low c
  unfold anB; simp [this]
theorem ln_low {c : UInt8} (h : lnB c = true ∨ c = 45) : lowB c = c := by
  refine lowB_not ?_
  rcases h with h | h
  · unfold lnB at h; simp at h; omega
  · subst h; decide

/-! ### hyphens between -/
def stepH (p : Bytes × Bool) (c : UInt8) : Bytes × Bool :=
  if lnB c = true then ((if (p.2 && decide (0 < p.1.length)) = true then p.1 ++ [45] else p.1) ++ [c], false) else (p.1, true)
def foldH (s : Bytes) : Bytes × Bool := s.foldl stepH ([], false)
def trim1 (t : Bytes) : Bytes := if t.getLast? = some 45 then t.dropLast else t
def partS : Bytes := [112, 97, 114, 116]
def slugC (t : Bytes) : Bytes := if (trim1 (t.take 60)).isEmpty = true then partS else trim1 (t.take 60)
def slugOf (s : Bytes) : Bytes := slugC (foldH (lowS s)).1
theorem stepH_no {p : Bytes × Bool} {c : UInt8} (h : lnB c = false) : stepH p c = (p.1, true) := by unfold stepH; rw [if_neg (by simp [h])]
theorem stepH_gap {p : Bytes} {c : UInt8} (h : lnB c = true) (h0 : 0 < p.length) : stepH (p, true) c = (p ++ [45] ++ [c], false) := by unfold stepH; rw [if_pos h]; simp [h0]
theorem stepH_one {p : Bytes} {b : Bool} {c : UInt8} (h : lnB c = true) (h0 : (b && decide (0 < p.length)) = false) : stepH (p, b) c = (p ++ [c], false) := by
  unfold stepH; rw [if_pos h]; simp only [h0]; simp
theorem stepH_len (p : Bytes × Bool) (c : UInt8) : p.1.length ≤ (stepH p c).1.length ∧ (stepH p c).1.length ≤ p.1.length + 2 := by
  unfold stepH
  split
  · split <;> simp
  · simp
theorem foldH_succ {s : Bytes} {k : Nat} (h : k < s.length) : foldH (s.take (k + 1)) = stepH (foldH (s.take k)) s[k] := by
  unfold foldH; rw [List.take_succ_eq_append_getElem h, List.foldl_append]; rfl
theorem foldH_len (s : Bytes) : ∀ k, k ≤ s.length → (foldH (s.take k)).1.length ≤ 2 * k
  | 0, _ => by simp [foldH]
  | k + 1, h => by
    rw [foldH_succ (by omega)]
    have := (stepH_len (foldH (s.take k)) (s[k]'(by omega))).2
    have := foldH_len s k (by omega)
    omega

/-! ### texts that are well hyphened -/
/-- letters and digits, single hyphens between them; the last one may be a hyphen if b -/
inductive Hy : Bytes → Prop where
  | nil : Hy []
  | one {t : Bytes} {c : UInt8} : Hy t → lnB c = true → Hy (t ++ [c])
  | gap {t : Bytes} {c : UInt8} : Hy t → 0 < t.length → lnB c = true → Hy (t ++ [45] ++ [c])
theorem stepH_hy {p : Bytes × Bool} {c : UInt8} (h : Hy p.1) : Hy (stepH p c).1 := by
  cases hl : lnB c
  · rw [stepH_no hl]; exact h
  · obtain ⟨t, b⟩ := p
    cases hb : (b && decide (0 < t.length))
    · rw [stepH_one hl hb]; exact .one h hl
    · simp only [Bool.and_eq_true, decide_eq_true_eq] at hb
      obtain ⟨rfl, h0⟩ := hb
      rw [stepH_gap hl h0]; exact .gap h h0 hl
theorem fold_hy : ∀ (s : Bytes) (p : Bytes × Bool), Hy p.1 → Hy (s.foldl stepH p).1
  | [], p, h => h
  | c :: s, p, h => fold_hy s (stepH p c) (stepH_hy h)
theorem foldH_hy (s : Bytes) : Hy (foldH s).1 := fold_hy s _ .nil
theorem ln_ne45 {c : UInt8} (h : lnB c = true) : c ≠ 45 := by
  intro e; subst e; exact absurd h (by decide)
/-- a beginning of such a text: such a text, or one with a hyphen behind it -/
def Hy1 (t : Bytes) : Prop := Hy t ∨ ∃ u, Hy u ∧ 0 < u.length ∧ t = u ++ [45]
theorem take_snoc_le {α : Type} (t : List α) (c : α) (n : Nat) (h : n ≤ t.length) : (t ++ [c]).take n = t.take n := List.take_append_of_le_length h
theorem Hy.take {t : Bytes} (h : Hy t) : ∀ n, Hy1 (t.take n) := by
  induction h with
  | nil => intro n; left; simp; exact .nil
  | @one t c ht hc ih =>
    intro n
    by_cases hn : n ≤ t.length
    · rw [take_snoc_le _ _ _ hn]; exact ih n
    · rw [List.take_of_length_le (by simp; omega)]; exact .inl (.one ht hc)
  | @gap t c ht h0 hc ih =>
    intro n
    by_cases hn : n ≤ t.length
    · rw [take_snoc_le _ _ _ (by simp; omega), take_snoc_le _ _ _ hn]; exact ih n
    · by_cases hn2 : n ≤ t.length + 1
      · rw [take_snoc_le _ _ _ (by simp; omega), List.take_of_length_le (by simp; omega)]; exact .inr ⟨t, ht, h0, rfl⟩
      · rw [List.take_of_length_le (by simp; omega)]; exact .inl (.gap ht h0 hc)
theorem Hy.last {t : Bytes} (h : Hy t) : t.getLast? ≠ some 45 := by
  cases h with
  | nil => simp
  | one ht hc => rw [List.getLast?_concat]; intro e; injection e with e; exact ln_ne45 hc e
  | gap ht h0 hc => rw [List.getLast?_concat]; intro e; injection e with e; exact ln_ne45 hc e
theorem trim1_hy {t : Bytes} (h : Hy t) : trim1 t = t := if_neg h.last
theorem trim1_hy1 {t : Bytes} (h : Hy1 t) : Hy (trim1 t) := by
  rcases h with h | ⟨u, hu, h0, rfl⟩
  · rw [trim1_hy h]; exact h
  · unfold trim1; rw [if_pos (by simp)]; simp; exact hu
theorem Hy.fold {t : Bytes} (h : Hy t) : foldH t = (t, false) := by
  have key : ∀ {t : Bytes}, Hy t → foldH t = (t, false) := by
    intro t h
    induction h with
    | nil => rfl
    | @one t c ht hc ih => unfold foldH at *; rw [List.foldl_append, ih]; exact stepH_one hc rfl
    | @gap t c ht h0 hc ih =>
      unfold foldH at *
      rw [List.foldl_append, List.foldl_append, ih]
      show stepH (stepH (t, false) 45) c = _
      have e : stepH (t, false) 45 = (t, true) := stepH_no (by decide)
      rw [e]
      exact stepH_gap hc h0
  exact key h
theorem Hy.chars {t : Bytes} (h : Hy t) : ∀ c ∈ t, lnB c = true ∨ c = 45 := by
  induction h with
  | nil => intro c hc; cases hc
  | one ht hl ih =>
    intro c hc
    rcases List.mem_append.1 hc with h | h
    · exact ih c h
    · simp at h; subst h; exact .inl hl
  | gap ht h0 hl ih =>
    intro c hc
    rcases List.mem_append.1 hc with h | h
    · rcases List.mem_append.1 h with h | h
      · exact ih c h
      · simp at h; exact .inr h
    · simp at h; subst h; exact .inl hl
theorem Hy.low {t : Bytes} (h : Hy t) : lowS t = t := by
  unfold lowS
  conv => rhs; rw [← List.map_id t]
  apply List.map_congr_left
  intro c hc
  exact ln_low (h.chars c hc)
theorem part_hy : Hy partS := by
  have h1 : Hy [112] := .one .nil (by decide)
  have h2 : Hy [112, 97] := .one h1 (by decide)
  have h3 : Hy [112, 97, 114] := .one h2 (by decide)
  exact .one h3 (by decide)
theorem slugOf_hy (s : Bytes) : Hy (slugOf s) ∧ 0 < (slugOf s).length ∧ (slugOf s).length ≤ 60 := by
  unfold slugOf slugC
  have h := trim1_hy1 ((foldH_hy (lowS s)).take 60)
  split
  · exact ⟨part_hy, by decide, by decide⟩
  · rename_i hne
    refine ⟨h, ?_, ?_⟩
    · rcases Nat.eq_zero_or_pos (trim1 ((foldH (lowS s)).1.take 60)).length with h0 | h0
      · rw [List.eq_nil_of_length_eq_zero h0] at hne; simp at hne
      · exact h0
    · unfold trim1
      split
      · simp; omega
      · simp; omega
theorem slugOf_of_hy {t : Bytes} (h : Hy t) (h0 : 0 < t.length) (h60 : t.length ≤ 60) : slugOf t = t := by
  unfold slugOf slugC
  rw [h.low, h.fold]
  simp only
  rw [List.take_of_length_le h60, trim1_hy h, if_neg]
  cases t with
  | nil => simp at h0
  | cons => simp
theorem slugOf_again (s : Bytes) : slugOf (slugOf s) = slugOf s := slugOf_of_hy (slugOf_hy s).1 (slugOf_hy s).2.1 (slugOf_hy s).2.2
theorem slugOf_low (s : Bytes) : slugOf (lowS s) = slugOf s := by unfold slugOf; rw [lowS_low]
/-- no two hyphens side by side, none at the ends -/
theorem Hy.sides {t : Bytes} (h : Hy t) : ∀ i (hi : i < t.length), t[i] = 45 → 0 < i ∧ i + 1 < t.length ∧ ∀ (hj : i - 1 < t.length), t[i - 1] ≠ 45 := by
  induction h with
  | nil => intro i hi; simp at hi
  | @one t c ht hl ih =>
    intro i hi he
    simp only [List.length_append, List.length_singleton] at hi ⊢
    by_cases hit : i < t.length
    · rw [List.getElem_append_left hit] at he
      obtain ⟨h1, h2, h3⟩ := ih i hit he
      refine ⟨h1, by omega, fun hj => ?_⟩
      rw [List.getElem_append_left (by omega)]
      exact h3 (by omega)
    · obtain rfl : i = t.length := by omega
      rw [List.getElem_append_right (by omega)] at he
      simp at he
      exact absurd he (ln_ne45 hl)
  | @gap t c ht h0 hl ih =>
    intro i hi he
    simp only [List.length_append, List.length_singleton] at hi ⊢
    by_cases hit : i < t.length
    · rw [List.getElem_append_left (by simp; omega), List.getElem_append_left hit] at he
      obtain ⟨h1, h2, h3⟩ := ih i hit he
      refine ⟨h1, by omega, fun hj => ?_⟩
      rw [List.getElem_append_left (by simp; omega), List.getElem_append_left (by omega)]
      exact h3 (by omega)
    · by_cases hi2 : i = t.length
      · subst hi2
        refine ⟨h0, by omega, fun hj => ?_⟩
        rw [List.getElem_append_left (by simp; omega), List.getElem_append_left (by omega)]
        intro e
        have := ih (t.length - 1) (by omega) e
        omega
      · obtain rfl : i = t.length + 1 := by omega
        rw [List.getElem_append_right (by simp)] at he
        simp at he
        exact absurd he (ln_ne45 hl)
/-- trailing hyphens: there is one at most -/
theorem trimRight_hy1 {t : Bytes} (h : Hy1 t) : (t.reverse.dropWhile (· == 45)).reverse = trim1 t := by
  have hy : ∀ {t : Bytes}, Hy t → (t.reverse.dropWhile (· == 45)).reverse = t := by
    intro t h
    cases h with
    | nil => rfl
    | one ht hc => simp [List.reverse_append, ln_ne45 hc]
    | gap ht h0 hc => simp [List.reverse_append, ln_ne45 hc]
  rcases h with h | ⟨u, hu, h0, rfl⟩
  · rw [trim1_hy h, hy h]
  · unfold trim1
    rw [if_pos (by simp)]
    simp only [List.reverse_append, List.reverse_cons, List.reverse_nil, List.nil_append, List.singleton_append, List.dropLast_concat]
    rw [List.dropWhile_cons_of_pos (by decide)]
    exact hy hu

/-! ### what stands between makes no difference -/
theorem low_no {c : UInt8} (h : anB c = false) : lnB (lowB c) = false := by rw [lnB_low]; exact h
theorem foldH_app (a b : Bytes) : foldH (a ++ b) = b.foldl stepH (foldH a) := by unfold foldH; rw [List.foldl_append]
theorem lowS_app (a b : Bytes) : lowS (a ++ b) = lowS a ++ lowS b := by unfold lowS; simp
theorem signs_one (a b : Bytes) {p q : UInt8} (hp : anB p = false) (hq : anB q = false) : slugOf (a ++ [p] ++ b) = slugOf (a ++ [q] ++ b) := by
  unfold slugOf
  simp only [lowS_app, foldH_app]
  have : ∀ (x : UInt8), anB x = false → ∀ st, (lowS [x]).foldl stepH st = (st.1, true) := fun x hx st => by
    show stepH st (lowB x) = _
    exact stepH_no (low_no hx)
  rw [this p hp, this q hq]
theorem signs_more (a b : Bytes) {p q : UInt8} (hp : anB p = false) (hq : anB q = false) : slugOf (a ++ [p] ++ [q] ++ [p] ++ b) = slugOf (a ++ [p] ++ b) := by
  unfold slugOf
  simp only [lowS_app, foldH_app]
  have : ∀ (x : UInt8), anB x = false → ∀ st, (lowS [x]).foldl stepH st = (st.1, true) := fun x hx st => by
    show stepH st (lowB x) = _
    exact stepH_no (low_no hx)
  rw [this p hp, this q hq, this p hp]
theorem fold_start : ∀ (s : Bytes), (s.foldl stepH ([], true)).1 = (s.foldl stepH ([], false)).1
  | [] => rfl
  | c :: s => by
    rw [List.foldl_cons, List.foldl_cons]
    cases h : lnB c
    · rw [stepH_no h, stepH_no h]
    · rw [stepH_one h (by simp), stepH_one h (by simp)]
theorem signs_ends (a : Bytes) {p q : UInt8} (hp : anB p = false) (hq : anB q = false) : slugOf ([p] ++ [q] ++ a ++ [p]) = slugOf a := by
  unfold slugOf
  simp only [lowS_app, foldH_app]
  have : ∀ (x : UInt8), anB x = false → ∀ st, (lowS [x]).foldl stepH st = (st.1, true) := fun x hx st => by
    show stepH st (lowB x) = _
    exact stepH_no (low_no hx)
  rw [this p hp]
  have h2 : foldH (lowS [p]) = ([], true) := this p hp ([], false)
  rw [h2, this q hq]
  show slugC ((lowS a).foldl stepH ([], true)).1 = slugC (foldH (lowS a)).1
  rw [fold_start]; rfl

/-! ### letters and digits alone -/
theorem plain_hy : ∀ (s : Bytes), (∀ c ∈ s, anB c = true) → Hy (lowS s) := by
  intro s h
  have key : ∀ (n : Nat) (s : Bytes), s.length = n → (∀ c ∈ s, anB c = true) → Hy (lowS s) := by
    intro n
    induction n with
    | zero => intro s hs _; rw [List.eq_nil_of_length_eq_zero hs]; exact .nil
    | succ n ih =>
      intro s hs hc
      have hne : s ≠ [] := by intro e; subst e; simp at hs
      rw [← List.dropLast_concat_getLast hne, lowS_app]
      refine .one (ih _ (by simp; omega) fun c hm => hc c (List.dropLast_subset _ hm)) ?_
      rw [lnB_low]; exact hc _ (List.getLast_mem hne)
  exact key s.length s rfl h
theorem plain_all : ∀ {t : Bytes}, (∀ c ∈ t, lnB c = true) → Hy t := by
  intro t h
  have key : ∀ (n : Nat) (s : Bytes), s.length = n → (∀ c ∈ s, lnB c = true) → Hy s := by
    intro n
    induction n with
    | zero => intro s hs _; rw [List.eq_nil_of_length_eq_zero hs]; exact .nil
    | succ n ih =>
      intro s hs hc
      have hne : s ≠ [] := by intro e; subst e; simp at hs
      rw [← List.dropLast_concat_getLast hne]
      exact .one (ih _ (by simp; omega) fun c hm => hc c (List.dropLast_subset _ hm)) (hc _ (List.getLast_mem hne))
  exact key t.length t rfl h
theorem slugOf_plain {s : Bytes} (h : ∀ c ∈ s, anB c = true) (h0 : 0 < s.length) : slugOf s = (lowS s).take 60 := by
  unfold slugOf slugC
  rw [(plain_hy s h).fold]
  simp only
  have hy : Hy ((lowS s).take 60) := plain_all fun c hc => by
    have hm := List.mem_of_mem_take hc
    unfold lowS at hm
    obtain ⟨x, hx, rfl⟩ := List.mem_map.1 hm
    rw [lnB_low]; exact h x hx
  rw [trim1_hy hy, if_neg]
  have : 0 < ((lowS s).take 60).length := by rw [List.length_take, lowS_len]; omega
  cases hq : (lowS s).take 60 with
  | nil => rw [hq] at this; simp at this
  | cons => simp
end Go.Proofs.YtohinfefidahlaaGreatDoor
