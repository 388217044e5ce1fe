/- Lines of a text: the plain laws. No program is named here. -/
import Derived.Test.YtfedkhicckgjaaaGreatDoorMem
import Derived.Lib.SplitLaws
import Derived.Lib.Strings
namespace Go.Proofs.YtfedkhicckgjaaaGreatDoor
open Go.RowKit
set_option linter.unusedVariables false

def splitNL : Bytes → List Bytes
  | [] => [[]]
  | c :: r => if c = 10 then [] :: splitNL r else match splitNL r with
    | [] => [[c]]
    | p :: ps => (c :: p) :: ps
theorem splitNL_ten (r : Bytes) : splitNL (10 :: r) = [] :: splitNL r := by
  show (if (10 : UInt8) = 10 then _ else _) = _
  rw [if_pos rfl]
theorem splitNL_other {c : UInt8} {r p : Bytes} {ps : List Bytes} (h : c ≠ 10) (e : splitNL r = p :: ps) : splitNL (c :: r) = (c :: p) :: ps := by
  show (if c = 10 then _ else _) = _
  rw [if_neg h, e]
theorem splitK_eq : ∀ s : Bytes, Lib.splitK [10] 0 (Lib.count s [10]) s = splitNL s
  | [] => by rw [Lib.count_miss (by simp [Lib.index])]; rfl
  | b :: l => by
    have ih := splitK_eq l
    by_cases hb : b = 10
    · subst hb
      have hix : Lib.index (10 :: l) [10] = ((0 : Nat) : Int) := by rw [Lib.index]; simp [List.isPrefixOf]
      rw [Lib.count_cons_eq, splitNL_ten, ← ih, Nat.add_comm]
      show (if (Lib.index (10 :: l) [10] == -1) = true then _ else _) = _
      rw [hix, if_neg (by decide)]
      rfl
    · rw [Lib.count_cons_ne b 10 l hb]
      have hp : ([10] : Bytes).isPrefixOf (b :: l) = false := by simp [List.isPrefixOf, Ne.symm hb]
      have hix : Lib.index (b :: l) [10] = if Lib.index l [10] == -1 then -1 else Lib.index l [10] + 1 := by rw [Lib.index, hp]; simp
      by_cases hm : Lib.index l [10] = -1
      · rw [Lib.count_miss hm] at ih ⊢
        rw [splitNL_other hb (p := l) (ps := []) ih.symm]; rfl
      · have hge := Lib.index_ge l [10]
        obtain ⟨j, hj⟩ : ∃ j : Nat, Lib.index l [10] = j := ⟨(Lib.index l [10]).toNat, by omega⟩
        have hix' : Lib.index (b :: l) [10] = ((j + 1 : Nat) : Int) := by rw [hix, if_neg (fun e => hm (beq_iff_eq.1 e)), hj]; omega
        have hc := Lib.count_hit (s := l) (sub := [10]) (by simp) hj
        rw [Nat.add_comm] at hc
        rw [hc] at ih ⊢
        have e1 : ∀ n, Lib.splitK [10] 0 (n + 1) l = l.take j :: Lib.splitK [10] 0 n (l.drop (j + 1)) := fun n => by
          show (if (Lib.index l [10] == -1) = true then _ else _) = _
          rw [hj, if_neg (by intro e; have := beq_iff_eq.1 e; omega)]; rfl
        have e2 : ∀ n, Lib.splitK [10] 0 (n + 1) (b :: l) = (b :: l.take j) :: Lib.splitK [10] 0 n (l.drop (j + 1)) := fun n => by
          show (if (Lib.index (b :: l) [10] == -1) = true then _ else _) = _
          rw [hix', if_neg (by intro e; have := beq_iff_eq.1 e; omega)]; rfl
        rw [e1] at ih
        rw [e2, splitNL_other hb ih.symm]
theorem splitNL_ne : ∀ s : Bytes, splitNL s ≠ []
  | [] => by simp [splitNL]
  | c :: r => by
    by_cases h : c = 10
    · subst h; rw [splitNL_ten]; simp
    · obtain ⟨p, ps, e⟩ : ∃ p ps, splitNL r = p :: ps := by
        cases hq : splitNL r with
        | nil => exact absurd hq (splitNL_ne r)
        | cons p ps => exact ⟨p, ps, rfl⟩
      rw [splitNL_other h e]; simp
theorem splitNL_cons (r : Bytes) : ∃ p ps, splitNL r = p :: ps := by
  cases hq : splitNL r with
  | nil => exact absurd hq (splitNL_ne r)
  | cons p ps => exact ⟨p, ps, rfl⟩
theorem splitNL_snoc10 : ∀ t : Bytes, splitNL (t ++ [10]) = splitNL t ++ [[]]
  | [] => by rw [List.nil_append, splitNL_ten]; rfl
  | c :: r => by
    have ih := splitNL_snoc10 r
    by_cases h : c = 10
    · subst h; rw [List.cons_append, splitNL_ten, splitNL_ten, ih]; rfl
    · obtain ⟨p, ps, e⟩ := splitNL_cons r
      rw [List.cons_append, splitNL_other h e, splitNL_other h (p := p) (ps := ps ++ [[]]) (by rw [ih, e]; rfl)]; rfl
theorem splitNL_snoc {c : UInt8} (hc : c ≠ 10) : ∀ (t : Bytes) (xs : List Bytes) (y : Bytes), splitNL t = xs ++ [y] → splitNL (t ++ [c]) = xs ++ [y ++ [c]]
  | [], xs, y, h => by
    have : xs = [] ∧ y = [] := by
      cases xs with
      | nil => simp [splitNL] at h; exact ⟨rfl, h⟩
      | cons x xs => have := congrArg List.length h; simp [splitNL] at this
    obtain ⟨rfl, rfl⟩ := this
    rw [List.nil_append, splitNL_other hc (p := []) (ps := []) rfl]; rfl
  | d :: r, xs, y, h => by
    by_cases hd : d = 10
    · subst hd
      rw [splitNL_ten] at h
      cases xs with
      | nil => have h2 := congrArg List.length h; simp at h2; exact absurd h2 (splitNL_ne r)
      | cons x xs =>
        injection h with h1 h2
        subst h1
        rw [List.cons_append, splitNL_ten, splitNL_snoc hc r xs y h2]; rfl
    · obtain ⟨p, ps, e⟩ := splitNL_cons r
      rw [splitNL_other hd e] at h
      cases xs with
      | nil =>
        injection h with h1 h2
        subst h1 h2
        rw [List.cons_append, splitNL_other hd (splitNL_snoc hc r [] p (by rw [e]; rfl))]; rfl
      | cons x xs =>
        injection h with h1 h2
        subst h1
        rw [List.cons_append, splitNL_other hd (splitNL_snoc hc r (p :: xs) y (by rw [e, h2]; rfl))]; rfl

def trimNL (s : Bytes) : Bytes := if s.getLast? = some 10 then s.dropLast else s
def linesP (s : Bytes) : List Bytes := if s = [] then [] else splitNL (trimNL s)
theorem trimNL_eq (s : Bytes) : Lib.trimSuffix s [10] = trimNL s := by
  unfold Lib.trimSuffix Lib.hasSuffix trimNL
  by_cases h : s = []
  · subst h; rfl
  · rw [← List.dropLast_concat_getLast h]
    generalize s.dropLast = t
    generalize s.getLast h = c
    by_cases hc : c = 10
    · subst hc
      have : ([10] : Bytes).isSuffixOf (t ++ [10]) = true := by rw [List.isSuffixOf_iff_suffix]; exact ⟨t, rfl⟩
      rw [this]; simp
    · have : ([10] : Bytes).isSuffixOf (t ++ [c]) = false := by
        rw [Bool.eq_false_iff]
        intro e
        rw [List.isSuffixOf_iff_suffix] at e
        obtain ⟨u, hu⟩ := e
        have := List.append_inj_right' hu rfl
        injection this with h1
        exact hc h1.symm
      rw [this]; simp [hc]
/-- the reference's: what has been cut, and where the rest begins -/
def CutI (s : Bytes) (k fr : Nat) (out : List Bytes) : Prop := fr ≤ k ∧ splitNL (s.take k) = out ++ [(s.take k).drop fr]
theorem CutI.start (s : Bytes) : CutI s 0 0 [] := ⟨by omega, by simp [splitNL]⟩
theorem CutI.len {s : Bytes} {k fr : Nat} {out : List Bytes} (h : CutI s k fr out) : out.length ≤ k := by
  have key : ∀ t : Bytes, (splitNL t).length ≤ t.length + 1 := by
    intro t
    induction t with
    | nil => simp [splitNL]
    | cons c r ih =>
      by_cases hc : c = 10
      · subst hc; rw [splitNL_ten]; simp; omega
      · obtain ⟨p, ps, e⟩ := splitNL_cons r
        rw [splitNL_other hc e]
        rw [e] at ih
        simp at ih ⊢; omega
  have h1 := key (s.take k)
  rw [h.2, List.length_append, List.length_singleton, List.length_take] at h1
  omega
theorem CutI.ten {s : Bytes} {k fr : Nat} {out : List Bytes} (h : CutI s k fr out) (hk : k < s.length) (hc : s[k] = 10) : CutI s (k + 1) (k + 1) (out ++ [(s.take k).drop fr]) := by
  refine ⟨by omega, ?_⟩
  rw [List.take_succ_eq_append_getElem hk, hc, splitNL_snoc10, h.2]
  congr 2
  rw [List.drop_eq_nil_of_le (by rw [List.length_append, List.length_take]; simp; omega)]
theorem CutI.other {s : Bytes} {k fr : Nat} {out : List Bytes} (h : CutI s k fr out) (hk : k < s.length) (hc : s[k] ≠ 10) : CutI s (k + 1) fr out := by
  obtain ⟨h1, h2⟩ := h
  refine ⟨by omega, ?_⟩
  rw [List.take_succ_eq_append_getElem hk, splitNL_snoc hc _ _ _ h2]
  rw [List.drop_append_of_le_length (by rw [List.length_take]; omega)]
theorem CutI.stop {s : Bytes} {fr : Nat} {out : List Bytes} (h : CutI s s.length fr out) : (if fr < s.length then out ++ [s.drop fr] else out) = linesP s := by
  obtain ⟨h1, h2⟩ := h
  rw [List.take_length] at h2
  unfold linesP
  by_cases h0 : s = []
  · subst h0
    rw [if_pos rfl, if_neg (by simp)]
    cases out with
    | nil => rfl
    | cons x xs => have := congrArg List.length h2; simp [splitNL] at this
  · rw [if_neg h0]
    have hs := (List.dropLast_concat_getLast h0).symm
    generalize hte : s.dropLast = t at hs
    generalize s.getLast h0 = c at hs
    by_cases hc : c = 10
    · subst hc
      have e1 : trimNL s = t := by unfold trimNL; rw [hs]; simp
      rw [e1]
      rw [hs, splitNL_snoc10] at h2
      have h3 := List.append_inj' h2 rfl
      have h4 : (t ++ [10]).drop fr = [] := by
        have := h3.2; injection this with this; exact this.symm
      rw [← hs, List.drop_eq_nil_iff] at h4
      rw [if_neg (by omega), h3.1]
    · have e1 : trimNL s = s := by unfold trimNL; rw [hs]; simp [hc]
      rw [e1, h2]
      rw [if_pos]
      by_cases hlt : fr < s.length
      · exact hlt
      · exfalso
        have hfr : fr = s.length := by omega
        rw [hfr, List.drop_length] at h2
        obtain ⟨xs, y, hxy⟩ : ∃ xs y, splitNL t = xs ++ [y] := ⟨(splitNL t).dropLast, (splitNL t).getLast (splitNL_ne t), (List.dropLast_concat_getLast (splitNL_ne t)).symm⟩
        rw [hs, splitNL_snoc hc t xs y hxy] at h2
        have h3 := (List.append_inj' h2 rfl).2
        injection h3 with h3
        simp at h3
theorem linesP_len (s : Bytes) : (linesP s).length ≤ s.length + 1 := by
  unfold linesP
  split
  · simp
  · have h : CutI (trimNL s) (trimNL s).length 0 ((splitNL (trimNL s)).dropLast) → True := fun _ => trivial
    have key : ∀ t : Bytes, (splitNL t).length ≤ t.length + 1 := by
      intro t
      induction t with
      | nil => simp [splitNL]
      | cons c r ih =>
        by_cases hc : c = 10
        · subst hc; rw [splitNL_ten]; simp; omega
        · obtain ⟨p, ps, e⟩ := splitNL_cons r
          rw [splitNL_other hc e]
          rw [e] at ih
          simp at ih ⊢; omega
    have h1 := key (trimNL s)
    have h2 : (trimNL s).length ≤ s.length := by unfold trimNL; split <;> simp
    omega
end Go.Proofs.YtfedkhicckgjaaaGreatDoor
