/- Texts with attributes in the place of their names: what such a text is read as, in plain words. conds.asked: the name that is asked for at a text's beginning. What holds while a text is filled: the plain part. strings.Builder in this dump: copyCheck and WriteString (the shelf's laying falls: copyCheck's panic is not carried by the translation). conds.Fill. -/
import Derived.Test.YtfedkhicckgjaaaGreatDoorBaseB
import Derived.Test.YtfedkhicckgjaaaGreatDoorShelf
import Derived.Lib.IndexLaws
import Derived.Test.YtfedkhicckgjaaaGreatDoorBaseA
import Derived.Lib.FrozenHead2
import Derived.Lib.OthersKept
namespace Go.Proofs.YtfedkhicckgjaaaGreatDoor
open Go.RowKit

/-! ### what a text is read as -/
def runK (s : Bytes) : Nat := (s.takeWhile isSign).length
def tokOf : Bytes → Option Bytes
  | [] => none
  | c :: r => if (c == 123 && r[runK r]? == some 125 && nameB (r.take (runK r))) = true then some (r.take (runK r)) else none
theorem tokOf_cons (c : UInt8) (r : Bytes) : tokOf (c :: r) = if (c == 123 && r[runK r]? == some 125 && nameB (r.take (runK r))) = true then some (r.take (runK r)) else none := rfl
inductive Seg where
  | lit (c : UInt8)
  | ask (nm : Bytes)
def parseF : Nat → Bytes → List Seg
  | 0, _ => []
  | _ + 1, [] => []
  | f + 1, c :: r => match tokOf (c :: r) with
    | some nm => .ask nm :: parseF f (r.drop (nm.length + 1))
    | none => .lit c :: parseF f r
def parse (s : Bytes) : List Seg := parseF s.length s
def segOut (l : List Two) : Seg → Bytes
  | .lit c => [c]
  | .ask nm => (getL l nm).getD (123 :: nm ++ [125])
def segAsk : Seg → Option Bytes
  | .lit _ => none
  | .ask nm => some nm
def fillT (l : List Two) (s : Bytes) : Bytes := (parse s).flatMap (segOut l)
def asksOf (s : Bytes) : List Bytes := (parse s).filterMap segAsk
def addN (acc : List Bytes) (nm : Bytes) : List Bytes := if acc.contains nm = true then acc else acc ++ [nm]
def fillN (s : Bytes) : List Bytes := (asksOf s).foldl addN []

theorem parseF_eq : ∀ (f : Nat) (s : Bytes), s.length ≤ f → parseF f s = parse s := by
  have main : ∀ (n f g : Nat) (s : Bytes), s.length ≤ n → s.length ≤ f → s.length ≤ g → parseF f s = parseF g s := by
    intro n
    induction n with
    | zero =>
      intro f g s hn _ _
      have : s = [] := List.eq_nil_of_length_eq_zero (by omega)
      subst this
      cases f <;> cases g <;> rfl
    | succ n ih =>
      intro f g s hn hf hg
      match s with
      | [] => cases f <;> cases g <;> rfl
      | c :: r =>
        simp only [List.length_cons] at hn hf hg
        obtain ⟨f, rfl⟩ : ∃ f', f = f' + 1 := ⟨f - 1, by omega⟩
        obtain ⟨g, rfl⟩ : ∃ g', g = g' + 1 := ⟨g - 1, by omega⟩
        unfold parseF
        split
        · rw [ih f g _ (by simp; omega) (by simp; omega) (by simp; omega)]
        · rw [ih f g _ (by omega) (by omega) (by omega)]
  intro f s h
  exact main s.length f s.length s (Nat.le_refl _) h (Nat.le_refl _)
theorem parse_nil : parse [] = [] := rfl
theorem parse_lit {c : UInt8} {r : Bytes} (h : tokOf (c :: r) = none) : parse (c :: r) = .lit c :: parse r := by
  show parseF (r.length + 1) (c :: r) = _
  rw [parseF, h]
  rfl
theorem tokOf_some {c : UInt8} {r nm : Bytes} (h : tokOf (c :: r) = some nm) : c = 123 ∧ r[runK r]? = some 125 ∧ nameB (r.take (runK r)) = true ∧ nm = r.take (runK r) ∧ nm.length = runK r := by
  rw [tokOf_cons] at h
  split at h
  · rename_i hh
    simp only [Bool.and_eq_true, beq_iff_eq] at hh
    cases h
    refine ⟨hh.1.1, hh.1.2, hh.2, rfl, ?_⟩
    rw [List.length_take]
    have := (List.getElem?_eq_some_iff.1 hh.1.2).1
    omega
  · cases h
theorem parse_ask {s nm : Bytes} (h : tokOf s = some nm) : parse s = .ask nm :: parse (s.drop (nm.length + 2)) := by
  match s with
  | [] => cases h
  | c :: r =>
    show parseF (r.length + 1) (c :: r) = _
    rw [parseF, h]
    simp only
    rw [parseF_eq _ _ (by simp)]
    rfl
theorem runK_le : ∀ (s : Bytes), runK s ≤ s.length
  | [] => Nat.le_refl _
  | c :: s => by
    have h := runK_le s
    unfold runK at h ⊢
    rw [List.takeWhile_cons]
    split
    · simp; omega
    · simp
theorem runK_sign : ∀ (r : Bytes) (i : Nat) (hi : i < r.length), i < runK r → isSign r[i] = true
  | c :: r, i, hi, h => by
    unfold runK at h
    rw [List.takeWhile_cons] at h
    split at h
    · match i with
      | 0 => assumption
      | i + 1 => exact runK_sign r i (by simpa using hi) (by unfold runK; simpa using h)
    · simp at h
theorem tokOf_len {s nm : Bytes} (h : tokOf s = some nm) : nm.length + 2 ≤ s.length := by
  match s with
  | [] => cases h
  | c :: r =>
    obtain ⟨_, h1, _, _, h2⟩ := tokOf_some h
    have := (List.getElem?_eq_some_iff.1 h1).1
    simp; omega
theorem tokOf_other {c : UInt8} {r : Bytes} (h : c ≠ 123) : tokOf (c :: r) = none := by
  rw [tokOf_cons, if_neg (by simp [h])]

/-! ### where the run of signs ends -/
theorem runK_at {r : Bytes} {k : Nat} (hk : k < r.length) (h1 : ∀ i (hi : i < k), isSign (r[i]'(by omega)) = true) (h2 : isSign r[k] = false) : runK r = k := by
  unfold runK
  induction r generalizing k with
  | nil => simp at hk
  | cons c r ih =>
    match k with
    | 0 => simp only [List.getElem_cons_zero] at h2; simp [h2]
    | k + 1 =>
      have h0 := h1 0 (by omega)
      simp only [List.getElem_cons_zero] at h0
      rw [List.takeWhile_cons, if_pos h0, List.length_cons]
      rw [ih (k := k) (by simpa using hk) (fun i hi => by have := h1 (i + 1) (by omega); simpa using this) (by simpa using h2)]
theorem sign_brace : isSign 125 = false := by decide
theorem sign_open : isSign 123 = false := by decide
theorem nameB_signs {s : Bytes} (h : nameB s = true) : ∀ c ∈ s, isSign c = true := by
  unfold nameB at h
  simp only [Bool.and_eq_true] at h
  exact List.all_eq_true.1 h.2
theorem nameB_len {s : Bytes} (h : nameB s = true) : 1 ≤ s.length ∧ s.length ≤ 60 := by
  unfold nameB at h
  simp only [Bool.and_eq_true, decide_eq_true_eq] at h
  exact ⟨h.1.1.1, h.1.1.2⟩
theorem tokOf_name {nm rest : Bytes} (h : nameB nm = true) : tokOf (123 :: (nm ++ 125 :: rest)) = some nm := by
  have hs := nameB_signs h
  have hr : runK (nm ++ 125 :: rest) = nm.length := by
    refine runK_at (by simp) (fun i hi => ?_) ?_
    · rw [List.getElem_append_left hi]; exact hs _ (List.getElem_mem hi)
    · rw [List.getElem_append_right (Nat.le_refl _)]; simp [sign_brace]
  rw [tokOf_cons, hr]
  have ht : (nm ++ 125 :: rest).take nm.length = nm := by simp
  rw [ht, if_pos (by simp [h])]

/-! ### a text in parts -/
theorem parse_lits : ∀ (s t : Bytes), (∀ c ∈ s, c ≠ 123) → parse (s ++ t) = s.map .lit ++ parse t
  | [], t, _ => rfl
  | c :: s, t, h => by
    rw [List.cons_append, parse_lit (tokOf_other (h c (by simp))), parse_lits s t (fun c hc => h c (by simp [hc]))]
    rfl
theorem parse_name {nm rest : Bytes} (h : nameB nm = true) : parse (123 :: (nm ++ 125 :: rest)) = .ask nm :: parse rest := by
  rw [parse_ask (tokOf_name h)]
  congr 2
  show ((nm ++ 125 :: rest).drop (nm.length + 1)) = rest
  rw [List.drop_append, List.drop_of_length_le (by omega)]
  simp
def stepOpen (o : Bool) (c : UInt8) : Bool := (c == 123) || (o && !(c == 125))
def openAt (o : Bool) (s : Bytes) : Bool := s.foldl stepOpen o
theorem openAt_cons (o : Bool) (c : UInt8) (s : Bytes) : openAt o (c :: s) = openAt (stepOpen o c) s := rfl
theorem openAt_mono : ∀ (s : Bytes), openAt true s = false → openAt false s = false
  | [], h => by cases h
  | c :: s, h => by
    rw [openAt_cons] at h ⊢
    by_cases h1 : (c == 123) = true
    · have e1 : stepOpen true c = true := by simp [stepOpen, h1]
      have e2 : stepOpen false c = true := by simp [stepOpen, h1]
      rw [e1] at h; rw [e2]; exact h
    · have e2 : stepOpen false c = false := by simp [stepOpen, h1]
      rw [e2]
      by_cases h2 : stepOpen true c = true
      · rw [h2] at h; exact openAt_mono s h
      · have : stepOpen true c = false := by simpa using h2
        rwa [this] at h
theorem openAt_drop : ∀ (s : Bytes) (k : Nat), openAt true s = false → openAt false (s.drop k) = false
  | s, 0, h => openAt_mono s h
  | [], k + 1, h => by cases h
  | c :: s, k + 1, h => by
    rw [openAt_cons] at h
    show openAt false (s.drop k) = false
    cases hc : stepOpen true c
    · rw [hc] at h
      have : ∀ (s : Bytes) (k : Nat), openAt false s = false → openAt false (s.drop k) = false := by
        intro s
        induction s with
        | nil => intro k _; simp [openAt]
        | cons d s ih =>
          intro k hk
          match k with
          | 0 => exact hk
          | k + 1 =>
            rw [openAt_cons] at hk
            refine ih k ?_
            cases hd : stepOpen false d
            · rwa [hd] at hk
            · rw [hd] at hk; exact openAt_mono s hk
      exact this s k h
    · rw [hc] at h
      exact openAt_drop s k h
theorem openAt_brace : ∀ (s : Bytes), openAt true s = false → (125 : UInt8) ∈ s
  | [], h => by cases h
  | c :: s, h => by
    by_cases hc : c = 125
    · subst hc; simp
    · rw [openAt_cons] at h
      have : stepOpen true c = true := by simp [stepOpen, hc]
      rw [this] at h
      exact List.mem_cons_of_mem _ (openAt_brace s h)
theorem runK_lt {r : Bytes} (h : (125 : UInt8) ∈ r) : runK r < r.length := by
  by_cases hk : runK r < r.length
  · exact hk
  · obtain ⟨i, hi, he⟩ := List.mem_iff_getElem.1 h
    have := runK_sign r i hi (by omega)
    rw [he, sign_brace] at this
    cases this
theorem runK_append {r t : Bytes} (h : runK r < r.length) : runK (r ++ t) = runK r := by
  refine runK_at (by simp; omega) (fun i hi => ?_) ?_
  · rw [List.getElem_append_left (by omega)]; exact runK_sign r i _ hi
  · rw [List.getElem_append_left h]
    cases hs : isSign r[runK r]
    · rfl
    · exfalso
      have : (r.takeWhile isSign).length ≠ (r.takeWhile isSign).length := by
        have h3 : ∀ (l : Bytes) (hl : (l.takeWhile isSign).length < l.length), isSign (l[(l.takeWhile isSign).length]'hl) = false := by
          intro l
          induction l with
          | nil => intro hl; simp at hl
          | cons c l ih =>
            intro hl
            by_cases hc : isSign c = true
            · simp only [List.takeWhile_cons, hc, if_true, List.length_cons, List.getElem_cons_succ]
              exact ih (by simp only [List.takeWhile_cons, hc, if_true, List.length_cons] at hl; omega)
            · simp only [List.takeWhile_cons, hc]
              simpa using hc
        have := h3 r h
        unfold runK at hs
        rw [this] at hs
        cases hs
      exact this rfl
theorem tokOf_append {c : UInt8} {r t : Bytes} (h : runK r < r.length) : tokOf (c :: (r ++ t)) = tokOf (c :: r) := by
  rw [tokOf_cons, tokOf_cons, runK_append h, List.getElem?_append_left h, List.take_append_of_le_length (Nat.le_of_lt h)]
theorem parse_append : ∀ (n : Nat) (s t : Bytes), s.length ≤ n → openAt false s = false → parse (s ++ t) = parse s ++ parse t
  | _, [], t, _, _ => rfl
  | 0, c :: r, t, hn, _ => by simp at hn
  | n + 1, c :: r, t, hn, ho => by
    rw [openAt_cons] at ho
    by_cases hc : c = 123
    · have e : stepOpen false c = true := by simp [stepOpen, hc]
      rw [e] at ho
      have hlt := runK_lt (openAt_brace r ho)
      have htk := tokOf_append (c := c) (t := t) hlt
      cases hq : tokOf (c :: r) with
      | none =>
        rw [hq] at htk
        rw [List.cons_append, parse_lit htk, parse_lit hq, parse_append n r t (by simpa using hn) (openAt_mono r ho)]
        rfl
      | some nm =>
        rw [hq] at htk
        have hl := tokOf_len hq
        rw [List.cons_append, parse_ask htk, parse_ask hq]
        have e1 : (c :: (r ++ t)).drop (nm.length + 2) = (c :: r).drop (nm.length + 2) ++ t := by
          rw [← List.cons_append, List.drop_append_of_le_length hl]
        rw [e1, parse_append n _ t (by simp at hn ⊢; omega) ?_]
        · rfl
        · show openAt false (r.drop (nm.length + 1)) = false
          exact openAt_drop r _ ho
    · have e : stepOpen false c = false := by simp [stepOpen, hc]
      rw [e] at ho
      rw [List.cons_append, parse_lit (tokOf_other hc), parse_lit (tokOf_other hc), parse_append n r t (by simpa using hn) ho]
      rfl

/-! ### what is asked for -/
theorem addN_prefix : ∀ (ys acc : List Bytes), ∃ more, ys.foldl addN acc = acc ++ more
  | [], acc => ⟨[], by simp⟩
  | y :: ys, acc => by
    obtain ⟨m, hm⟩ := addN_prefix ys (addN acc y)
    rw [List.foldl_cons, hm]
    unfold addN
    split
    · exact ⟨m, rfl⟩
    · exact ⟨y :: m, by simp⟩
theorem addN_len : ∀ (ys acc acc' : List Bytes), (∀ x ∈ acc', x ∈ acc) → (ys.foldl addN acc).length + acc'.length ≤ acc.length + (ys.foldl addN acc').length
  | [], acc, acc', _ => Nat.le_refl _
  | y :: ys, acc, acc', h => by
    rw [List.foldl_cons, List.foldl_cons]
    by_cases h1 : y ∈ acc'
    · have e1 : addN acc' y = acc' := by unfold addN; rw [if_pos (by simpa using h1)]
      have e2 : addN acc y = acc := by unfold addN; rw [if_pos (by simpa using h y h1)]
      rw [e1, e2]; exact addN_len ys acc acc' h
    · have e1 : addN acc' y = acc' ++ [y] := by unfold addN; rw [if_neg (by simpa using h1)]
      by_cases h2 : y ∈ acc
      · have e2 : addN acc y = acc := by unfold addN; rw [if_pos (by simpa using h2)]
        rw [e1, e2]
        have := addN_len ys acc (acc' ++ [y]) (fun x hx => by rcases List.mem_append.1 hx with hx | hx; exact h x hx; simp at hx; subst hx; exact h2)
        simp at this ⊢; omega
      · have e2 : addN acc y = acc ++ [y] := by unfold addN; rw [if_neg (by simpa using h2)]
        rw [e1, e2]
        have := addN_len ys (acc ++ [y]) (acc' ++ [y]) (fun x hx => by rcases List.mem_append.1 hx with hx | hx; simp [h x hx]; simp at hx; simp [hx])
        simp at this ⊢; omega

/-! ### the laws' own questions -/
theorem fillT_plain (l : List Two) (s : Bytes) (h : ∀ c ∈ s, c ≠ 123) : fillT l s = s ∧ fillN s = [] := by
  have hp : parse s = s.map .lit := by
    have := parse_lits s [] h
    simpa [parse_nil] using this
  constructor
  · unfold fillT
    rw [hp, List.flatMap_map]
    induction s with
    | nil => rfl
    | cons c s ih =>
      rw [List.flatMap_cons, ih (fun c hc => h c (by simp [hc])) (by have := parse_lits s [] (fun c hc => h c (by simp [hc])); simpa [parse_nil] using this)]
      rfl
  · unfold fillN asksOf
    rw [hp]
    have : (s.map Seg.lit).filterMap segAsk = [] := by
      rw [List.filterMap_map, List.filterMap_eq_nil_iff]
      intro c _; rfl
    rw [this]; rfl
theorem fillT_append (l : List Two) (s t : Bytes) (h : openAt false s = false) : fillT l (s ++ t) = fillT l s ++ fillT l t ∧
    (∃ more, fillN (s ++ t) = fillN s ++ more) ∧ (fillN (s ++ t)).length ≤ (fillN s).length + (fillN t).length := by
  have hp := parse_append s.length s t (Nat.le_refl _) h
  have ha : asksOf (s ++ t) = asksOf s ++ asksOf t := by unfold asksOf; rw [hp, List.filterMap_append]
  have hn : fillN (s ++ t) = (asksOf t).foldl addN (fillN s) := by unfold fillN; rw [ha, List.foldl_append]
  refine ⟨by unfold fillT; rw [hp, List.flatMap_append], ?_, ?_⟩
  · rw [hn]; exact addN_prefix _ _
  · rw [hn]
    have := addN_len (asksOf t) (fillN s) [] (by simp)
    simpa [fillN] using this
theorem fillT_name (l : List Two) (nm ar : Bytes) (hn : nameB nm = true) (h : ∀ c ∈ ar, c ≠ 123) :
    fillT l (ar ++ 123 :: (nm ++ 125 :: (ar ++ 123 :: (nm ++ [125])))) = ar ++ ((getL l nm).getD (123 :: nm ++ [125]) ++ (ar ++ (getL l nm).getD (123 :: nm ++ [125]))) ∧
    fillN (ar ++ 123 :: (nm ++ 125 :: (ar ++ 123 :: (nm ++ [125])))) = [nm] := by
  have hp : parse (ar ++ 123 :: (nm ++ 125 :: (ar ++ 123 :: (nm ++ [125])))) = ar.map .lit ++ (.ask nm :: (ar.map .lit ++ [.ask nm])) := by
    rw [parse_lits _ _ h, parse_name hn, parse_lits _ _ h, parse_name hn, parse_nil]
  have hl : (ar.map Seg.lit).flatMap (segOut l) = ar := by
    rw [List.flatMap_map]
    induction ar with
    | nil => rfl
    | cons c s ih => rw [List.flatMap_cons, ih (fun c hc => h c (by simp [hc])) (by rw [parse_lits _ _ (fun c hc => h c (by simp [hc])), parse_name hn, parse_lits _ _ (fun c hc => h c (by simp [hc])), parse_name hn, parse_nil])]; rfl
  have ha : (ar.map Seg.lit).filterMap segAsk = [] := by
    rw [List.filterMap_map, List.filterMap_eq_nil_iff]
    intro c _; rfl
  constructor
  · unfold fillT
    rw [hp]
    simp only [List.flatMap_append, List.flatMap_cons, hl, List.flatMap_nil, List.append_nil]
    rfl
  · unfold fillN asksOf
    rw [hp]
    simp only [List.filterMap_append, List.filterMap_cons, ha, List.filterMap_nil, segAsk]
    simp [addN]
end Go.Proofs.YtfedkhicckgjaaaGreatDoor

namespace Go.Proofs.YtfedkhicckgjaaaGreatDoor
open Go.RowKit
set_option linter.unusedVariables false

theorem idx_none {l : Bytes} {c : UInt8} (h : Lib.indexByte l c = -1) : ∀ x ∈ l, x ≠ c := by
  intro x hx e
  obtain ⟨i, hi, he⟩ := List.mem_iff_getElem.1 hx
  exact Lib.indexByte_none h i (by rw [List.getElem?_eq_getElem hi, he, e])
theorem idx_some {l : Bytes} {c : UInt8} {n : Nat} (h : Lib.indexByte l c = n) : ∃ hn : n < l.length, l[n] = c ∧ ∀ k (hk : k < n), l[k]'(Nat.lt_trans hk hn) ≠ c := by
  obtain ⟨h1, h2⟩ := Lib.indexByte_some h
  obtain ⟨hn, he⟩ := List.getElem?_eq_some_iff.1 h1
  exact ⟨hn, he, fun k hk e => h2 k hk (by rw [List.getElem?_eq_getElem (Nat.lt_trans hk hn), e])⟩
theorem idx_cases (l : Bytes) (c : UInt8) : Lib.indexByte l c = -1 ∨ ∃ n : Nat, Lib.indexByte l c = n := by
  have := Lib.indexByte_ge l c
  by_cases h : Lib.indexByte l c = -1
  · exact .inl h
  · exact .inr ⟨(Lib.indexByte l c).toNat, by omega⟩
theorem idx_any (s : Bytes) (c : UInt8) (w : World) :
    Calls Tryz.prog 223 #[.string ⟨s.toArray⟩, .int .u8 c.toNat] w fun e w' => e = .returned (.int .i64 (Lib.indexByte s c)) ∧ w = w' := by
  refine (Tryz.strings_IndexByte ⟨s.toArray⟩ c.toNat w).mono ?_
  rintro e w' ⟨rfl, rfl⟩
  refine ⟨?_, rfl⟩
  congr 3
  simp
theorem tok_noidx {r : Bytes} (h : Lib.indexByte (r.take 61) 125 = -1) : tokOf (123 :: r) = none := by
  cases hq : tokOf (123 :: r) with
  | none => rfl
  | some nm =>
    exfalso
    obtain ⟨_, h1, h2, h3, h4⟩ := tokOf_some hq
    have h5 := (nameB_len h2).2
    rw [← h3] at h5
    obtain ⟨hlt, he⟩ := List.getElem?_eq_some_iff.1 h1
    refine idx_none h 125 ?_ rfl
    rw [← he]
    rw [List.mem_iff_getElem]
    exact ⟨runK r, by rw [List.length_take]; omega, by rw [List.getElem_take]⟩
theorem tok_idx {r : Bytes} {n : Nat} (h : Lib.indexByte (r.take 61) 125 = n) : n < 61 ∧ n < r.length ∧ tokOf (123 :: r) = if nameB (r.take n) = true then some (r.take n) else none := by
  obtain ⟨hn, he, hall⟩ := idx_some h
  rw [List.length_take] at hn
  rw [List.getElem_take] at he
  have hnr : n < r.length := by omega
  refine ⟨by omega, hnr, ?_⟩
  split
  · rename_i hnm
    have hr : runK r = n := by
      refine runK_at hnr (fun i hi => ?_) (by rw [he]; exact sign_brace)
      have := nameB_signs hnm r[i] (by rw [List.mem_iff_getElem]; exact ⟨i, by rw [List.length_take]; omega, by rw [List.getElem_take]⟩)
      exact this
    rw [tokOf_cons, hr, if_pos (by rw [List.getElem?_eq_getElem hnr, he]; simp [hnm])]
  · rename_i hnm
    cases hq : tokOf (123 :: r) with
    | none => rfl
    | some nm =>
      exfalso
      obtain ⟨_, h1, h2, h3, h4⟩ := tokOf_some hq
      have h5 := (nameB_len h2).2
      rw [← h3] at h5
      obtain ⟨hlt, he2⟩ := List.getElem?_eq_some_iff.1 h1
      have hle : ¬ runK r < n := fun hk => by
        have := hall (runK r) hk
        rw [List.getElem_take] at this
        exact this he2
      have hge : ¬ n < runK r := fun hk => by
        have := runK_sign r n hnr hk
        rw [he, sign_brace] at this
        cases this
      have : runK r = n := by omega
      rw [this] at h2
      exact hnm h2

def tokV (s : Bytes) : Value := .tuple #[.string ⟨((tokOf s).getD []).toArray⟩, .bool (tokOf s).isSome]
theorem ne1 {s : Bytes} (h : 0 < s.length) : s.isEmpty = false := by cases s with | nil => simp at h | cons c r => rfl
theorem ne2 {s : Bytes} (h : 0 < s.length) : (s == []) = false := by cases s with | nil => simp at h | cons c r => rfl
theorem int_ne {c d : UInt8} (h : c ≠ d) : ((c.toNat : Int) != (d.toNat : Int)) = true := by
  rw [bne_iff_ne]
  intro e
  exact h (UInt8.toNat.inj (by omega))
theorem int_eq {c d : UInt8} (h : c = d) : ((c.toNat : Int) != (d.toNat : Int)) = false := by subst h; simp
set_option maxHeartbeats 2000000 in
theorem asked_nil (w : World) :
    Calls Tryz.prog 227 #[.string ⟨([] : Bytes).toArray⟩] w fun e w' => e = .returned (tokV []) ∧ w = w' := by
  go_enter Tryz.func227, Tryz.ntmps227
  go_wp2_with fail
  go_ret2
  exact ⟨rfl, rfl⟩
set_option maxHeartbeats 2000000 in
theorem asked_other (s : Bytes) (w : World) (hs : s.length ≤ 1048576) (h0 : 0 < s.length) (hc : s[0] ≠ 123) :
    Calls Tryz.prog 227 #[.string ⟨s.toArray⟩] w fun e w' => e = .returned (.tuple #[.string ⟨#[]⟩, .bool false]) ∧ w = w' := by
  have hb : ((s[0].toNat : Int) != 123) = true := int_ne hc
  have hne1 := ne1 h0
  have hne2 := ne2 h0
  clear hc
  go_enter Tryz.func227, Tryz.ntmps227
  go_wp2_with fail
  go_ret2
  exact ⟨rfl, rfl⟩
theorem win_eq (s : Bytes) : (List.take (min (s.length : Int) 62).toNat s).tail = s.tail.take 61 := by
  by_cases h : s.length ≤ 62
  · have e : (min (s.length : Int) 62).toNat = s.length := by omega
    rw [e, List.take_length, List.take_of_length_le (by simp; omega)]
  · have e : (min (s.length : Int) 62).toNat = 62 := by omega
    rw [e]
    cases s with
    | nil => rfl
    | cons c r => rfl
theorem idx_125 (s : Bytes) (w : World) : Calls Tryz.prog 223 #[.string ⟨s.toArray⟩, .int .u8 125] w fun e w' => e = .returned (.int .i64 (Lib.indexByte s 125)) ∧ w = w' := idx_any s 125 w
theorem idx_123 (s : Bytes) (w : World) : Calls Tryz.prog 223 #[.string ⟨s.toArray⟩, .int .u8 123] w fun e w' => e = .returned (.int .i64 (Lib.indexByte s 123)) ∧ w = w' := idx_any s 123 w
set_option maxHeartbeats 2000000 in
theorem asked_noidx (s : Bytes) (w : World) (hs : s.length ≤ 1048576) (h0 : 0 < s.length) (hc : s[0] = 123) (hi : Lib.indexByte (s.tail.take 61) 125 = -1) :
    Calls Tryz.prog 227 #[.string ⟨s.toArray⟩] w fun e w' => e = .returned (.tuple #[.string ⟨#[]⟩, .bool false]) ∧ w = w' := by
  have hb : ((s[0].toNat : Int) != 123) = false := int_eq hc
  have hne1 := ne1 h0
  have hne2 := ne2 h0
  clear hc
  rw [← win_eq] at hi
  have HI := Lib.hid hi
  clear hi
  go_enter Tryz.func227, Tryz.ntmps227
  go_wp2_with fail
  refine (idx_125 _ _).mono ?_
  rw [HI.out]
  rintro e w' ⟨rfl, rfl⟩
  go_wp2_with fail
  go_ret2
  exact ⟨rfl, rfl⟩
set_option maxHeartbeats 2000000 in
theorem asked_idx (s : Bytes) (n : Nat) (w : World) (hs : s.length ≤ 1048576) (h0 : 0 < s.length) (hc : s[0] = 123) (hi : Lib.indexByte (s.tail.take 61) 125 = n) (hn : n < 61) (hn2 : n < s.length) :
    Calls Tryz.prog 227 #[.string ⟨s.toArray⟩] w fun e w' => e = .returned (if nameB (s.tail.take n) = true then .tuple #[.string ⟨(s.tail.take n).toArray⟩, .bool true] else .tuple #[.string ⟨#[]⟩, .bool false]) ∧ w = w' := by
  have hb : ((s[0].toNat : Int) != 123) = false := int_eq hc
  have hne1 := ne1 h0
  have hne2 := ne2 h0
  have hlw : n < (s.tail.take 61).length := (idx_some hi).1
  clear hc
  rw [← win_eq] at hi hlw
  have htt : (List.take (min (s.length : Int) 62).toNat s).tail.take n = s.tail.take n := by rw [win_eq, List.take_take]; congr 1; omega
  have hle : (n : Int) ≤ ((List.take (min (s.length : Int) 62).toNat s).tail.length : Int) := by omega
  have hle2 : n ≤ (List.take (min (s.length : Int) 62).toNat s).tail.length := by omega
  have hlt61 : (s.tail.take n).length ≤ 61 := by rw [List.length_take]; omega
  have HI := Lib.hid hi
  rw [← htt]
  rw [← htt] at hlt61
  have HT := Lib.hid htt
  clear hi htt
  generalize hW : (List.take (min (s.length : Int) 62).toNat s).tail = W at *
  have HW := Lib.hid hW
  clear hW
  cases hnm : nameB (W.take n)
  · rw [if_neg (by simp)]
    have HN := Lib.hid hnm
    clear hnm
    go_enter Tryz.func227, Tryz.ntmps227
    go_wp2_with fail
    rw [HW.out]
    refine (idx_125 _ _).mono ?_
    rw [HI.out]
    rintro e w' ⟨rfl, rfl⟩
    go_wp2_with fail
    refine (name_any _ _ (by omega)).mono ?_
    rw [HN.out]
    rintro e w' ⟨rfl, rfl⟩
    go_wp2_with fail
    go_ret2
    exact ⟨rfl, rfl⟩
  · rw [if_pos rfl]
    have HN := Lib.hid hnm
    clear hnm
    go_enter Tryz.func227, Tryz.ntmps227
    go_wp2_with fail
    rw [HW.out]
    refine (idx_125 _ _).mono ?_
    rw [HI.out]
    rintro e w' ⟨rfl, rfl⟩
    go_wp2_with fail
    refine (name_any _ _ (by omega)).mono ?_
    rw [HN.out]
    rintro e w' ⟨rfl, rfl⟩
    go_wp2_with fail
    go_ret2
    exact ⟨rfl, rfl⟩
theorem asked_any (s : Bytes) (w : World) (hs : s.length ≤ 1048576) :
    Calls Tryz.prog 227 #[.string ⟨s.toArray⟩] w fun e w' => e = .returned (tokV s) ∧ w = w' := by
  match s, hs with
  | [], _ => exact asked_nil w
  | c :: r, hs =>
    by_cases hc : c = 123
    · subst hc
      rcases idx_cases (r.take 61) 125 with hi | ⟨n, hi⟩
      · have ht : tokV (123 :: r) = .tuple #[.string ⟨#[]⟩, .bool false] := by simp [tokV, tok_noidx hi]
        rw [ht]
        exact asked_noidx _ w hs (by simp) rfl hi
      · obtain ⟨h1, h2, h3⟩ := tok_idx hi
        have ht : tokV (123 :: r) = if nameB (r.take n) = true then .tuple #[.string ⟨(r.take n).toArray⟩, .bool true] else .tuple #[.string ⟨#[]⟩, .bool false] := by
          unfold tokV; rw [h3]; split <;> rfl
        rw [ht]
        exact asked_idx _ n w hs (by simp) rfl hi h1 (by simp; omega)
    · have ht : tokV (c :: r) = .tuple #[.string ⟨#[]⟩, .bool false] := by simp [tokV, tokOf_other hc]
      rw [ht]
      exact asked_other _ w hs (by simp) hc
end Go.Proofs.YtfedkhicckgjaaaGreatDoor

namespace Go.Proofs.YtfedkhicckgjaaaGreatDoor
open Go.RowKit

theorem fillT_lits (l : List Two) (s t : Bytes) (h : ∀ c ∈ s, c ≠ 123) : fillT l (s ++ t) = s ++ fillT l t ∧ asksOf (s ++ t) = asksOf t := by
  have hp := parse_lits s t h
  constructor
  · unfold fillT
    rw [hp, List.flatMap_append, List.flatMap_map]
    congr 1
    clear hp h
    induction s with
    | nil => rfl
    | cons c s ih => rw [List.flatMap_cons, ih]; rfl
  · unfold asksOf
    rw [hp, List.filterMap_append, List.filterMap_map]
    have : s.filterMap (segAsk ∘ Seg.lit) = [] := by rw [List.filterMap_eq_nil_iff]; intro c _; rfl
    rw [this]; rfl
theorem take_plain {s : Bytes} {n : Nat} (h : Lib.indexByte s 123 = n) : (∀ c ∈ s.take n, c ≠ 123) ∧ n < s.length ∧ s.drop n = 123 :: s.drop (n + 1) := by
  obtain ⟨hn, he, hall⟩ := idx_some h
  refine ⟨fun c hc => ?_, hn, ?_⟩
  · obtain ⟨i, hi, rfl⟩ := List.mem_iff_getElem.1 hc
    rw [List.length_take] at hi
    rw [List.getElem_take]
    exact hall i (by omega)
  · rw [List.drop_eq_getElem_cons hn, he]
theorem fillT_cons (l : List Two) {s : Bytes} (h : tokOf (123 :: s) = none) : fillT l (123 :: s) = 123 :: fillT l s ∧ asksOf (123 :: s) = asksOf s := by
  unfold fillT asksOf
  rw [parse_lit h]
  exact ⟨rfl, rfl⟩
theorem fillT_ask (l : List Two) {s nm : Bytes} (h : tokOf s = some nm) : fillT l s = (getL l nm).getD (123 :: nm ++ [125]) ++ fillT l (s.drop (nm.length + 2)) ∧ asksOf s = nm :: asksOf (s.drop (nm.length + 2)) := by
  unfold fillT asksOf
  rw [parse_ask h]
  exact ⟨rfl, rfl⟩
theorem tok_text {s nm : Bytes} (h : tokOf s = some nm) : s.take (nm.length + 2) = 123 :: nm ++ [125] := by
  match s with
  | [] => cases h
  | c :: r =>
    obtain ⟨h0, h1, h2, h3, h4⟩ := tokOf_some h
    obtain ⟨hlt, he⟩ := List.getElem?_eq_some_iff.1 h1
    subst h0
    rw [h4, List.take_succ_cons, List.take_succ_eq_append_getElem hlt, he, ← h3]
    rfl

structure FillI (l : List Two) (s : Bytes) (fr p : Nat) (out : Bytes) (nms : List Bytes) : Prop where
  le : fr ≤ p
  le2 : p ≤ s.length
  txt : fillT l s = out ++ (s.take p).drop fr ++ fillT l (s.drop p)
  nam : fillN s = (asksOf (s.drop p)).foldl addN nms
  len : nms.length ≤ p
  room : out.length ≤ fr * 100001

theorem FillI.start (l : List Two) (s : Bytes) : FillI l s 0 0 [] [] := ⟨by omega, by omega, by simp, by simp [fillN], by simp, by simp⟩
theorem addN_len1 (acc : List Bytes) (x : Bytes) : (addN acc x).length ≤ acc.length + 1 := by
  unfold addN; split <;> simp
theorem take_drop_add (s : Bytes) {fr p : Nat} (n : Nat) (h : fr ≤ p) (hp : p ≤ s.length) : (s.take p).drop fr ++ (s.drop p).take n = (s.take (p + n)).drop fr := by
  rw [List.take_add, List.drop_append_of_le_length (by rw [List.length_take]; omega)]

section
variable {l : List Two} {s : Bytes} {fr p : Nat} {out : Bytes} {nms : List Bytes} {n : Nat}

theorem FillI.idx (_h : FillI l s fr p out nms) (hi : Lib.indexByte (s.drop p) 123 = n) : p + n < s.length ∧ s.drop (p + n) = 123 :: s.drop (p + n + 1) ∧
    fillT l (s.drop p) = (s.drop p).take n ++ fillT l (s.drop (p + n)) ∧ asksOf (s.drop p) = asksOf (s.drop (p + n)) := by
  obtain ⟨h1, h2, h3⟩ := take_plain hi
  rw [List.length_drop] at h2
  rw [List.drop_drop, List.drop_drop] at h3
  have e := fillT_lits l ((s.drop p).take n) ((s.drop p).drop n) h1
  rw [List.take_append_drop, List.drop_drop] at e
  exact ⟨by omega, by rw [h3]; rfl, e.1, e.2⟩
theorem FillI.lit (h : FillI l s fr p out nms) (hi : Lib.indexByte (s.drop p) 123 = n) (ht : tokOf (s.drop (p + n)) = none) : FillI l s fr (p + n + 1) out nms := by
  obtain ⟨h1, h2, h3, h4⟩ := h.idx hi
  have hle := h.le
  have e := fillT_cons l (s := s.drop (p + n + 1)) (by rw [← h2]; exact ht)
  rw [← h2] at e
  refine ⟨by omega, by omega, ?_, ?_, by have := h.len; omega, h.room⟩
  · have e3 : fillT l (s.drop p) = (s.drop p).take (n + 1) ++ fillT l (s.drop (p + n + 1)) := by
      rw [h3, e.1, List.take_succ_eq_append_getElem (by rw [List.length_drop]; omega), List.append_assoc]
      congr 1
      have : (s.drop p)[n]'(by rw [List.length_drop]; omega) = 123 := by
        rw [List.getElem_drop]
        have := congrArg List.head? h2
        rw [List.head?_drop] at this
        rw [List.getElem?_eq_getElem (by omega)] at this
        simpa using this
      rw [this]; rfl
    rw [h.txt, e3, ← List.append_assoc, List.append_assoc out, take_drop_add s (n + 1) h.le h.le2, Nat.add_assoc]
  · rw [h.nam, h4, e.2]
theorem FillI.unset {nm : Bytes} (h : FillI l s fr p out nms) (hi : Lib.indexByte (s.drop p) 123 = n) (ht : tokOf (s.drop (p + n)) = some nm) (hg : getL l nm = none) :
    FillI l s fr (p + n + nm.length + 2) out (addN nms nm) := by
  obtain ⟨h1, h2, h3, h4⟩ := h.idx hi
  have hle := h.le
  have hl := tokOf_len ht
  rw [List.length_drop] at hl
  have e := fillT_ask l ht
  rw [hg, Option.getD_none, ← tok_text ht, List.drop_drop] at e
  refine ⟨by omega, by omega, ?_, ?_, by have := h.len; have := addN_len1 nms nm; omega, h.room⟩
  · rw [h.txt, h3, e.1, ← List.append_assoc, ← List.append_assoc, List.append_assoc out, take_drop_add s n h.le h.le2, List.append_assoc out, take_drop_add s _ (by omega) (by omega)]
    rfl
  · rw [h.nam, h4, e.2, List.foldl_cons]; rfl
theorem FillI.set {nm v : Bytes} (h : FillI l s fr p out nms) (hi : Lib.indexByte (s.drop p) 123 = n) (ht : tokOf (s.drop (p + n)) = some nm) (hg : getL l nm = some v) (hv : v.length ≤ 100000) :
    FillI l s (p + n + nm.length + 2) (p + n + nm.length + 2) (out ++ (s.take (p + n)).drop fr ++ v) (addN nms nm) := by
  obtain ⟨h1, h2, h3, h4⟩ := h.idx hi
  have hle := h.le
  have hl := tokOf_len ht
  rw [List.length_drop] at hl
  have e := fillT_ask l ht
  rw [hg, Option.getD_some, List.drop_drop] at e
  refine ⟨by omega, by omega, ?_, ?_, by have := h.len; have := addN_len1 nms nm; omega, ?_⟩
  · rw [h.txt, h3, e.1, ← List.append_assoc, ← List.append_assoc, List.append_assoc out, take_drop_add s n h.le h.le2]
    have : (s.take (p + n + nm.length + 2)).drop (p + n + nm.length + 2) = [] := by rw [List.drop_eq_nil_iff, List.length_take]; omega
    rw [this, List.append_nil]
    rfl
  · rw [h.nam, h4, e.2, List.foldl_cons]; rfl
  · have := h.room
    simp only [List.length_append, List.length_drop, List.length_take]
    omega
theorem FillI.stop (h : FillI l s fr p out nms) (hi : Lib.indexByte (s.drop p) 123 = -1) : fillT l s = out ++ s.drop fr ∧ fillN s = nms := by
  have hp := fillT_plain l (s.drop p) (idx_none hi)
  have ha : asksOf (s.drop p) = [] := by
    have := (fillT_lits l (s.drop p) [] (idx_none hi)).2
    rw [List.append_nil] at this
    rw [this]; rfl
  constructor
  · rw [h.txt, hp.1, List.append_assoc]
    congr 1
    have := take_drop_add s (s.length - p) h.le h.le2
    have e2 : (s.drop p).take (s.length - p) = s.drop p := List.take_of_length_le (by rw [List.length_drop]; exact Nat.le_refl _)
    have e3 : s.take (p + (s.length - p)) = s := List.take_of_length_le (by have := h.le2; omega)
    rw [e2, e3] at this
    exact this
  · rw [h.nam, ha]; rfl
end
theorem getL_len {l : List Two} {nm v : Bytes} (h : getL l nm = some v) (hv : ∀ x ∈ l, x.value.length ≤ 100000) : v.length ≤ 100000 := by
  unfold getL at h
  rw [Option.map_eq_some_iff] at h
  obtain ⟨x, hx, rfl⟩ := h
  exact hv x (List.mem_of_find?_eq_some hx)

/-- what the map of places holds -/
def placeV (l : List Two) (nm : Bytes) : Value := .int .i64 (findI (fun x => x.name == nm) l)
def placesOf (l : List Two) (nms : List Bytes) : List (Bytes × Value) := nms.map fun nm => (nm, placeV l nm)
end Go.Proofs.YtfedkhicckgjaaaGreatDoor

namespace Go.Proofs.YtfedkhicckgjaaaGreatDoor
open Go.RowKit Go.Shelf
set_option linter.unusedVariables false

theorem slbytes : Tryz.prog.underlying 68 = some (.slice 5) := Tryz.underlying68
theorem infoByte : (Tryz.prog.info? 5).map (fun i => (i.zero, i.size, i.bytes)) = some (some (.int .u8 0), 1, 1) := by kernel_rfl
theorem sizeBld : (Tryz.prog.info? 284).map (·.size) = some 2 := by kernel_rfl

set_option maxHeartbeats 2000000 in
set_option maxRecDepth 100000 in
theorem copyCheck_fresh (b : Nat) (w : World) (h0 : w.cell? ⟨b, 0, none⟩ = some (.pointer none)) (hsh : w.shape? b = some (284, 2)) (hfz : w.frozen? ⟨b, 0, none⟩ = false) :
    Calls Tryz.prog 248 #[.pointer (some ⟨b, 0, none⟩)] w fun e w' => e = .returned (.tuple #[]) ∧ w.setCell ⟨b, 0, none⟩ (.pointer (some ⟨b, 0, none⟩)) = w' := by
  obtain ⟨j, hj, hjs⟩ := Option.map_eq_some_iff.1 sizeBld
  go_enter Tryz.func248, Tryz.ntmps248
  go_wp2
  rw [Lib.run_to_unsafe w ⟨b, 0, none⟩ Tryz.underlying282 Tryz.underlying316 hj (by rw [hjs]; decide) hsh (Nat.zero_lt_succ 1)]
  simp only [Result.andThen]
  rw [Oper.upon_value]
  go_wp2
  rw [run_callFunc_extern Tryz.func256 (by kernel_rfl) (by kernel_rfl) (by kernel_rfl) (e := Extern.AbiNoEscape.same) (by kernel_rfl)]
  rw [Lib.run_noEscape]
  simp only [Result.andThen]
  rw [Oper.upon_value]
  go_wp2
  rw [Lib.run_from_unsafe w ⟨b, 0, none⟩ Tryz.underlying316 Tryz.underlying282 hj hsh (by kernel_rfl)]
  simp only [Result.andThen]
  rw [Oper.upon_value]
  go_wp2
  go_end0
  exact ⟨rfl, rfl⟩

set_option maxHeartbeats 2000000 in
set_option maxRecDepth 100000 in
theorem copyCheck_used (b : Nat) (w : World) (h0 : w.cell? ⟨b, 0, none⟩ = some (.pointer (some ⟨b, 0, none⟩))) :
    Calls Tryz.prog 248 #[.pointer (some ⟨b, 0, none⟩)] w fun e w' => e = .returned (.tuple #[]) ∧ w = w' := by
  obtain ⟨j, hj, _⟩ := Option.map_eq_some_iff.1 sizeBld
  go_enter Tryz.func248, Tryz.ntmps248
  go_wp2
  rw [Lib.run_neq_ptr_same w _ Tryz.underlying282 hj]
  go_wp2
  go_end0
  exact ⟨rfl, rfl⟩

theorem copyCheck_k (B b : Nat) (bs : List Value) (w : World) (h : Lib.IsBuilderF 284 5 B b bs w) :
    Calls Tryz.prog 248 #[.pointer (some ⟨b, 0, none⟩)] w fun e w' => e = .returned (.tuple #[]) ∧ (Lib.BuilderAtF 284 5 B b (.pointer (some ⟨b, 0, none⟩)) bs w' ∧ Below B w w' ∧ Lib.OthersKept 5 (some b) w w') := by
  rcases h with h | h
  · refine (copyCheck_fresh b w h.cell0 h.shape h.frozen0).mono ?_
    rintro e w' ⟨rfl, rfl⟩
    exact ⟨rfl, h.used _, (Below.refl B w).setCell (p := ⟨b, 0, none⟩) h.1 _, (Lib.OthersKept.refl _ _ w).setCell ⟨b, 0, none⟩ rfl _⟩
  · refine (copyCheck_used b w h.cell0).mono ?_
    rintro e w' ⟨rfl, rfl⟩
    exact ⟨rfl, h, Below.refl B _, Lib.OthersKept.refl _ _ _⟩

set_option maxHeartbeats 2000000 in
set_option maxRecDepth 100000 in
theorem writeString_k (B b : Nat) (bs : List Value) (s : ByteArray) (w : World) (h : Lib.IsBuilderF 284 5 B b bs w) (hlen : bs.length + s.size ≤ 140737488355328) (hBw : B ≤ w.heap.size) :
    Calls Tryz.prog 228 #[.pointer (some ⟨b, 0, none⟩), .string s] w fun e w' => e = .returned (.tuple #[.int .i64 s.size, .nilIface]) ∧ (Lib.BuilderAtF 284 5 B b (.pointer (some ⟨b, 0, none⟩)) (bs ++ Lib.strCells s) w' ∧ Below B w w' ∧ Lib.OthersKept 5 (some b) w w') := by
  obtain ⟨i0, hi, hz0, hz1, hz2⟩ := info_parts infoByte
  go_enter Tryz.func228, Tryz.ntmps228
  go_wp2_with (go_at_call 248; refine (copyCheck_k B b bs _ h).mono ?_)
  rintro e w1 ⟨rfl, h1, hb1, hk1⟩
  obtain ⟨hB, v, hbk, hown, hne⟩ := h1
  have c0 : w1.cell? ⟨b, 0, none⟩ = some (.pointer (some ⟨b, 0, none⟩)) := by rw [Lib.cell_of_heap hbk]; rfl
  have c1 : w1.cell? ⟨b, 1, none⟩ = some v := by rw [Lib.cell_of_heap hbk]; rfl
  go_wp2_with (at_builtin; refine Lib.wpList_append_own_stringF _ rfl _ _ 68 9 rfl B 5 i0 Tryz.underlying68 Tryz.underlying9 hi hz0 hz1 hz2 _ _ _ rfl hown s rfl ?c3 ?c4 ?c5 ?_)
  case c3 => unfold maxLen; omega
  case c4 => omega
  case c5 => have := hb1.size; omega
  intro v' w2 hown' hgrow _
  have hlt : b < w1.heap.size := by
    rcases Nat.lt_or_ge b w1.heap.size with h' | h'
    · exact h'
    · simp [Array.getElem?_eq_none h'] at hbk
  have hb2 : w2.heap[b]? = some (.cells #[.pointer (some ⟨b, 0, none⟩), v] 284 (0, 0)) := by
    rw [hgrow.block b hlt (fun e => hne e.symm)]
    exact hbk
  have d0 : w2.cell? ⟨b, 0, none⟩ = some (.pointer (some ⟨b, 0, none⟩)) := by rw [Lib.cell_of_heap hb2]; rfl
  have d1 : w2.cell? ⟨b, 1, none⟩ = some v := by rw [Lib.cell_of_heap hb2]; rfl
  have f1 : w2.frozen? ⟨b, 1, none⟩ = false := Lib.frozen_of_heap hb2 1
  obtain ⟨ao, n', cap, rfl⟩ : ∃ ao n' cap, v' = .slice ao n' cap := by
    rcases hown'.2 with ⟨hv, _⟩ | ⟨g, cap, cur, fz, hv, _⟩
    · exact ⟨_, _, _, hv⟩
    · exact ⟨_, _, _, hv⟩
  go_wp2
  go_ret2
  refine ⟨rfl, ?_, ?_, (hk1.grown hgrow (Lib.ownsRowF_kind hown)).setCell ⟨b, 1, none⟩ rfl _⟩
  · exact Lib.BuilderAtF.put (T := 284) (e := 5) hB hb2 (bs' := bs ++ Lib.strCells s) (by simpa [Lib.strCells_length] using hown') (by decide)
  · exact (hb1.grown hgrow (by have := hb1.size; omega) (fun k hk => (hown.lt k hk).1)).setCell (p := ⟨b, 1, none⟩) hB _
/-- the text told so far by a builder -/
def Bld (B b : Nat) (s : Bytes) (w : World) : Prop := Lib.IsBuilderF 284 5 B b (Lib.byteCells s) w
theorem Bld.lt {B b : Nat} {s : Bytes} {w : World} (h : Bld B b s w) : b < w.heap.size := by
  rcases h with h | h
  · exact h.lt
  · exact h.lt
theorem Bld.alloc {B b : Nat} {s : Bytes} {w : World} (h : Bld B b s w) (o : Obj) : Bld B b s (w.alloc o) := by
  rcases h with h | h
  · exact .inl (h.alloc o)
  · exact .inr (h.alloc o)
theorem Bld.fresh (w : World) : Bld w.heap.size w.heap.size [] (w.alloc (.cells #[.pointer none, .slice none 0 0] 284)) := Lib.IsBuilderF.of (Lib.fresh_isBuilder 284 5 w)
theorem strCells_mk (t : Bytes) : Lib.strCells ⟨t.toArray⟩ = Lib.byteCells t := by simp [Lib.strCells, Lib.byteCells]
theorem byteCells_len (t : Bytes) : (Lib.byteCells t).length = t.length := Lib.byteCells_length t
theorem writeString_b (B b : Nat) (s t : Bytes) (w : World) (h : Bld B b s w) (hlen : s.length + t.length ≤ 140737488355328) (hBw : B ≤ w.heap.size) :
    Calls Tryz.prog 228 #[.pointer (some ⟨b, 0, none⟩), .string ⟨t.toArray⟩] w fun e w' => e = .returned (.tuple #[.int .i64 t.length, .nilIface]) ∧ Bld B b (s ++ t) w' ∧ Below B w w' ∧ Lib.OthersKept 5 (some b) w w' := by
  refine (writeString_k B b _ ⟨t.toArray⟩ w h (by rw [byteCells_len, size_mk]; exact hlen) hBw).mono ?_
  rintro e w' ⟨rfl, h1, h2, h3⟩
  rw [strCells_mk, ← Lib.byteCells_append] at h1
  exact ⟨by rw [size_mk], .inr h1, h2, h3⟩
theorem string_b (B b : Nat) (s : Bytes) (w : World) (h : Bld B b s w) (hBw : B ≤ w.heap.size) :
    Calls Tryz.prog 229 #[.pointer (some ⟨b, 0, none⟩)] w fun e w' => e = .returned (.string ⟨s.toArray⟩) ∧ Bld B b s w' ∧ Below B w w' ∧ Lib.OthersKept 5 (some b) w w' :=
  Tryz.Builder_String_any_k B b s w h hBw
/-- an append or a map's store elsewhere leaves the builder as it is -/
theorem Bld.grown {B b : Nat} {s : Bytes} {w w' : World} {row : Option Nat} (h : Bld B b s w) (hg : w.grownBy w' row)
    (hrow : ∀ g, row = some g → g ≠ b ∧ ∀ c fz, w.heap[g]? ≠ some (.cells c 5 fz)) : Bld B b s w' := by
  have key : ∀ p, Lib.BuilderAtF 284 5 B b p (Lib.byteCells s) w → Lib.BuilderAtF 284 5 B b p (Lib.byteCells s) w' := by
    rintro p ⟨hB, v, hb, hown, hne⟩
    have hlt : b < w.heap.size := (Array.getElem?_eq_some_iff.1 hb).1
    refine ⟨hB, v, ?_, ?_, hne⟩
    · rw [hg.block b hlt (fun e => (hrow b e.symm).1 rfl)]; exact hb
    · refine hown.kept hg ?_
      by_cases hv : v.ownBlock = none
      · exact .inl hv
      · right
        intro e
        obtain ⟨g, hgv⟩ := Option.ne_none_iff_exists'.1 hv
        obtain ⟨c, fz, hc⟩ := Lib.ownsRowF_kind hown g hgv
        exact (hrow g (by rw [← e, hgv])).2 c fz hc
  rcases h with h | h
  · exact .inl (key _ h)
  · exact .inr (key _ h)
end Go.Proofs.YtfedkhicckgjaaaGreatDoor

namespace Go.Proofs.YtfedkhicckgjaaaGreatDoor
open Go.RowKit
set_option linter.unusedVariables false

theorem zeroI (w : World) : (zeroValue 3).run Tryz.prog w = .ok (.int .i64 0) w := by kernel_rfl

/-! ### the call's own things side by side -/
theorem Own.row {α : Type} {w : World} {B : Nat} {e : TypeId} {sz : Nat} {enc : α → List Value} {v : Value} {l : List α} (h : Own w B e sz enc v l) : ∀ g, v.ownBlock = some g → ∃ cur, w.heap[g]? = some (.cells cur e (0, 0)) := by
  intro g hg
  rcases h.2 with ⟨rfl, _⟩ | ⟨g', cap, cur, rfl, _, hh, _⟩
  · cases hg
  · cases hg
    exact ⟨cur, hh⟩
theorem Bld.row {B b : Nat} {s : Bytes} {w : World} (h : Bld B b s w) : ∃ cs, w.heap[b]? = some (.cells cs 284 (0, 0)) := by
  rcases h with ⟨_, v, h, _⟩ | ⟨_, v, h, _⟩ <;> exact ⟨_, h⟩
theorem Own.others {α : Type} {w w' : World} {B B' b : Nat} {e : TypeId} {sz : Nat} {enc : α → List Value} {v : Value} {l : List α} {s : Bytes} (h : Own w B e sz enc v l) (hk : Lib.OthersKept 5 (some b) w w') (hb : Bld B' b s w) (he : e ≠ 5) (he2 : e ≠ 284) : Own w' B e sz enc v l := by
  refine h.kept fun k hv => ?_
  obtain ⟨cur, hh⟩ := h.row k hv
  rw [hh]
  refine hk k _ hh ?_ ?_
  · intro e1
    cases e1
    obtain ⟨cs, hc⟩ := hb.row
    rw [hh] at hc
    cases hc
    exact he2 rfl
  · intro c fz e1
    cases e1
    exact he rfl
theorem SMap.others {w w' : World} {r : Nat} {m : KV} {B' b : Nat} {s : Bytes} (h : SMap w r m) (hk : Lib.OthersKept 5 (some b) w w') (hb : Bld B' b s w) : SMap w' r m := by
  obtain ⟨es, clock, hh, hm⟩ := h
  refine ⟨es, clock, hk r _ hh ?_ (fun c fz e1 => by cases e1), hm⟩
  intro e1
  cases e1
  obtain ⟨cs, hc⟩ := hb.row
  rw [hh] at hc
  cases hc
theorem SMap.push {w w' : World} {r : Nat} {m : KV} {α : Type} {B : Nat} {e : TypeId} {sz : Nat} {enc : α → List Value} {v : Value} {l : List α} (h : SMap w r m) (ho : Own w B e sz enc v l) (hg : w.grownBy w' v.ownBlock) : SMap w' r m := by
  refine h.grown hg ?_
  intro e1
  obtain ⟨cur, hc⟩ := ho.row r e1
  obtain ⟨es, clock, hh, _⟩ := h
  rw [hh] at hc
  cases hc
theorem Bld.push {w w' : World} {B' b : Nat} {s : Bytes} {α : Type} {B : Nat} {e : TypeId} {sz : Nat} {enc : α → List Value} {v : Value} {l : List α} (h : Bld B' b s w) (ho : Own w B e sz enc v l) (hg : w.grownBy w' v.ownBlock) (he : e ≠ 5) (he2 : e ≠ 284) : Bld B' b s w' := by
  refine h.grown hg ?_
  intro g e1
  obtain ⟨cur, hc⟩ := ho.row g e1
  obtain ⟨cs, hb⟩ := h.row
  constructor
  · intro e2
    subst e2
    rw [hb] at hc
    cases hc
    exact he2 rfl
  · intro c fz e2
    rw [e2] at hc
    cases hc
    exact he rfl
theorem Bld.mapPut {w w' : World} {B' b : Nat} {s : Bytes} {r : Nat} {m : KV} (h : Bld B' b s w) (hm : SMap w r m) (hg : w.grownBy w' (some r)) : Bld B' b s w' := by
  refine h.grown hg ?_
  rintro g e1
  cases e1
  obtain ⟨es, clock, hh, _⟩ := hm
  obtain ⟨cs, hb⟩ := h.row
  constructor
  · intro e2
    subst e2
    rw [hh] at hb
    cases hb
  · intro c fz e2
    rw [e2] at hh
    cases hh
theorem Own.mapPut {w w' : World} {r : Nat} {m : KV} {α : Type} {B : Nat} {e : TypeId} {sz : Nat} {enc : α → List Value} {v : Value} {l : List α} (h : Own w B e sz enc v l) (hm : SMap w r m) (hg : w.grownBy w' (some r)) : Own w' B e sz enc v l := by
  refine h.kept fun k hv => hg.block k (h.block k hv).2 ?_
  intro e1
  cases e1
  obtain ⟨cur, hc⟩ := h.row _ hv
  obtain ⟨es, clock, hh, _⟩ := hm
  rw [hh] at hc
  cases hc
theorem SMap.bel {w w' : World} {r : Nat} {m : KV} (h : SMap w r m) (hb : Below w.heap.size w w') : SMap w' r m := h.below hb h.lt
theorem Bld.bel {w w' : World} {B b : Nat} {s : Bytes} (h : Bld B b s w) (hb : Below w.heap.size w w') : Bld B b s w' :=
  h.grown (row := none) ⟨hb.os, hb.tape, hb.output, hb.size, fun j hj _ => hb.block j hj⟩ (fun g e => by cases e)
theorem Own.bel {w w' : World} {α : Type} {B : Nat} {e : TypeId} {sz : Nat} {enc : α → List Value} {v : Value} {l : List α} (h : Own w B e sz enc v l) (hb : Below w.heap.size w w') : Own w' B e sz enc v l := h.below hb (Nat.le_refl _)

theorem placesOf_get (l : List Two) (nms : List Bytes) (nm : Bytes) : mapGet (placesOf l nms) nm = if nms.contains nm = true then some (placeV l nm) else none := by
  induction nms with
  | nil => rfl
  | cons x nms ih =>
    unfold placesOf mapGet at ih ⊢
    rw [List.map_cons, List.find?_cons]
    by_cases h : x = nm
    · subst h; simp
    · have h1 : (x == nm) = false := by simpa using h
      have h2 : (nm == x) = false := by simpa using fun e => h e.symm
      simp only [h1, List.contains_cons, h2, Bool.false_or]
      exact ih
theorem placesOf_put (l : List Two) (nms : List Bytes) (nm : Bytes) (h : nms.contains nm = false) : mapPut (placesOf l nms) nm (placeV l nm) = placesOf l (nms ++ [nm]) := by
  induction nms with
  | nil => rfl
  | cons x nms ih =>
    rw [List.contains_cons, Bool.or_eq_false_iff] at h
    have hx : (x == nm) = false := by
      have := h.1
      simp at this ⊢
      exact fun e => this e.symm
    show mapPut ((x, placeV l x) :: placesOf l nms) nm (placeV l nm) = _
    unfold mapPut
    rw [if_neg (by simp [hx]), ih h.2]
    rfl
section
variable {P : Program} {w : World} {ops : Array Oper} {rest : List Oper} {o : Oper} {a : Act} {Q : Exit → Act → World → Prop}
theorem wpList_smap_found (hgd : o.guard = none) (mo ko : Operand) (T K E : TypeId) (ho : o.op = .lookup T mo ko true) (hT : P.underlying T = some (.map K E)) (hK : P.underlying K = some .string)
    (z : Value) (hz : (zeroValue E).run P w = .ok z w) (r : Nat) (m : KV) (h : SMap w r m) (k : Bytes) (v : Value) (hg : mapGet m k = some v) (hm : a.eval mo = .map (some r)) (hk : a.eval ko = .string ⟨k.toArray⟩)
    (hn : wpList P ops Q rest (a.put o.dst (.tuple #[v, .bool true])) w) : wpList P ops Q (o :: rest) a w :=
  wpList_smap_lookup hgd mo ko T K E true ho hT hK z hz r m h k hm hk (by rw [hg]; exact hn)
theorem wpList_smap_missing (hgd : o.guard = none) (mo ko : Operand) (T K E : TypeId) (ho : o.op = .lookup T mo ko true) (hT : P.underlying T = some (.map K E)) (hK : P.underlying K = some .string)
    (z : Value) (hz : (zeroValue E).run P w = .ok z w) (r : Nat) (m : KV) (h : SMap w r m) (k : Bytes) (hg : mapGet m k = none) (hm : a.eval mo = .map (some r)) (hk : a.eval ko = .string ⟨k.toArray⟩)
    (hn : wpList P ops Q rest (a.put o.dst (.tuple #[z, .bool false])) w) : wpList P ops Q (o :: rest) a w :=
  wpList_smap_lookup hgd mo ko T K E true ho hT hK z hz r m h k hm hk (by rw [hg]; exact hn)
end
/-- a text, and a slice of texts of the call's own -/
def FillGives (w : World) (t : Bytes) (R : List Bytes) (e : Ending) (w' : World) : Prop := (∃ r, e = .returned (.tuple #[.string ⟨t.toArray⟩, r]) ∧ Own w' w.heap.size 9 1 encS r R) ∧ Below w.heap.size w w'

section
variable (a : Option Addr) (ca : Nat) (l : List Two) (s : Bytes) (w : World)
set_option maxHeartbeats 4000000 in
theorem fill_any (hn : l.length ≤ 1048576) (hs : s.length ≤ 100000) (hA : At w 2 encT a l) (hv : ∀ x ∈ l, x.value.length ≤ 100000) :
    Calls Tryz.prog 192 #[.slice a l.length ca, .string ⟨s.toArray⟩] w (FillGives w (fillT l s) (fillN s)) := by
  have HA := Lib.hid hA
  have HV := Lib.hid hv
  clear hA hv
  have hmm := @run_makeMap Tryz.prog
  go_enter Tryz.func192, Tryz.ntmps192
  go_wp2_with fail
  go_loopw [7, 9, 10] (fun v7 v9 v10 wr => ∃ (fr p : Nat) (out : Bytes) (nms : List Bytes), v9 = .int .i64 fr ∧ v10 = .int .i64 p ∧ p ≤ s.length ∧ fr ≤ p ∧ Hid (FillI l s fr p out nms) ∧ Hid (Own wr w.heap.size 9 1 encS v7 nms) ∧ Hid (SMap wr (w.heap.size + 1) (placesOf l nms)) ∧ Hid (Bld w.heap.size w.heap.size out wr) ∧ Below w.heap.size w wr) (fun _ _ v10 _ => s.length - (intOf v10).toNat)
  case atStart => exact ⟨0, 0, [], [], rfl, rfl, by omega, by omega, FillI.start l s, Own.nil _ _ _ _ _, by have h := SMap.new (w.alloc (.cells #[.pointer none, .slice none 0 0] 284)); exact Lib.hid (by show SMap _ _ []; simpa using h), (Bld.fresh w).alloc _, ((Below.refl _ _).alloc (Nat.le_refl _) _).alloc (by simp) _⟩
  case round =>
    obtain ⟨fr, p, out, nms, rfl, rfl, hp, hfr, HI, HO, HM, HB, hb⟩ := hrel
    rcases idx_cases (s.drop p) 123 with hi | ⟨n, hi⟩
    · have hst := HI.out.stop hi
      have HX := Lib.hid hi
      have HST := Lib.hid hst
      clear hi hst
      have hroom := HI.out.room
      go_wp2_with fail
      refine (idx_123 _ _).mono ?_
      rw [HX.out]
      rintro e w' ⟨rfl, rfl⟩
      go_wp2_with fail
      refine (writeString_b w.heap.size w.heap.size out _ _ HB.out (by simp only [List.length_drop]; omega) hb.size).mono ?_
      rintro e w1 ⟨rfl, HB1, hb1, hk1⟩
      have HO1 := Lib.hid (HO.out.others hk1 HB.out (by decide) (by decide))
      have HBB := Lib.hid HB1
      have hb1' := hb.trans hb1
      clear HB1
      go_wp2_with fail
      refine (string_b w.heap.size w.heap.size _ _ HBB.out hb1'.size).mono ?_
      rintro e w2 ⟨rfl, HB2, hb2, hk2⟩
      have HO2 := Lib.hid (HO1.out.others hk2 HBB.out (by decide) (by decide))
      have hb2' := hb1'.trans hb2
      clear HB2
      go_wp2_with fail
      go_ret2
      rw [HST.out.1, HST.out.2]
      exact ⟨⟨_, rfl, HO2.out⟩, hb2'⟩
    · obtain ⟨hpn, hdr, _, _⟩ := HI.out.idx hi
      have HDR := Lib.hid hdr
      have HX := Lib.hid hi
      have hi1 : (0 : Int) ≤ (n : Int) := by omega
      have hi2 : (p : Int) + (n : Int) ≤ (s.length : Int) := by omega
      have hi3 : (0 : Int) ≤ (p : Int) + (n : Int) := by omega
      have hroom := HI.out.room
      clear hdr hi
      cases htk : tokOf (s.drop (p + n)) with
      | none =>
        have HTK := Lib.hid htk
        have HF := Lib.hid (HI.out.lit HX.out htk)
        clear htk
        go_wp2_with fail
        refine (idx_123 _ _).mono ?_
        rw [HX.out]
        rintro e w' ⟨rfl, rfl⟩
        go_wp2_with fail
        refine (asked_any (s.drop (p + n)) _ (by simp only [List.length_drop]; omega)).mono ?_
        unfold tokV
        rw [HTK.out]
        rintro e w' ⟨rfl, rfl⟩
        go_wp2_with fail
        go_roundw
        case rel => exact ⟨fr, p + n + 1, out, nms, rfl, by go_num, by omega, by omega, HF.out, HO.out, HM.out, HB.out, hb⟩
        case measure => simp [intOf]; omega
      | some nm =>
        have HTK := Lib.hid htk
        have hnl := tokOf_len htk
        simp only [List.length_drop] at hnl
        clear htk
        have HFN := Lib.hid (fun (w' : World) (hA : At w' 2 encT a l) nb hc hnb => find_named (.pointer (some ⟨nb, 0, none⟩)) (fun x => x.name == nm) a ca l w' hn hA (named_asks nm nb w' hc hnb))
        cases hkn : nms.contains nm
        · rcases findI_cases (fun x => x.name == nm) l with ⟨hf, hall⟩ | ⟨k, hk, hf, hp, hall⟩
          · have HGET : Hid (mapGet (placesOf l nms) nm = none) := by unfold Hid; rw [placesOf_get, if_neg (by simp only [hkn, Bool.false_eq_true, not_false_eq_true])]
            have HADD : Hid (addN nms nm = nms ++ [nm]) := by unfold Hid addN; rw [if_neg (by simp only [hkn, Bool.false_eq_true, not_false_eq_true])]
            have HPUT := Lib.hid (placesOf_put l nms nm hkn)
            have HGL := Lib.hid (getL_none hall)
            have HF := Lib.hid (HI.out.unset HX.out HTK.out HGL.out)
            have HPL : Hid (placeV l nm = .int .i64 (-1)) := by unfold Hid placeV; rw [hf]
            have HFI := Lib.hid hf
            clear hf hall hkn
            go_wp2_with fail
            refine (idx_123 _ _).mono ?_
            rw [HX.out]
            rintro e w' ⟨rfl, rfl⟩
            go_wp2_with fail
            refine (asked_any (s.drop (p + n)) _ (by simp only [List.length_drop]; omega)).mono ?_
            unfold tokV
            rw [HTK.out]
            rintro e w' ⟨rfl, rfl⟩
            simp only [Option.getD_some, Option.isSome_some]
            go_wp2_with (first | (refine wpList_smap_missing rfl (.tmp 39) (.tmp 40) 285 9 3 rfl Tryz.underlying285 Tryz.underlying9 (.int .i64 0) (zeroI _) (w.heap.size + 1) _ HM.out nm HGET.out rfl rfl ?_) | (go_at_call 222; go_in))
            refine (HFN.out _ (HA.out.below (hb.alloc hb.size _)) _ (by simp) (by simp)).mono ?_
            rw [HFI.out]
            rintro e w3 ⟨rfl, hb3⟩
            have hA3 := (Below.refl wr.heap.size wr).alloc (Nat.le_refl _) (.cells #[.string ⟨nm.toArray⟩] 9)
            have hAll := hA3.trans (hb3.mono (by simp))
            have HO1 := Lib.hid (HO.out.bel hAll)
            have HM1 := Lib.hid (HM.out.bel hAll)
            have HB1 := Lib.hid (HB.out.bel hAll)
            have hb1 := hb.trans (hAll.mono hb.size)
            clear HFN hA3 hAll hb3
            go_wp2_with (first
              | (refine wpList_smap_put rfl (.tmp 50) (.tmp 51) (.tmp 52) 285 9 3 (.inl rfl) Tryz.underlying285 Tryz.underlying9 (w.heap.size + 1) _ HM1.out nm _ rfl rfl HPL.out.symm ?_; intro w4 hm4 hg4 hz4; rw [HPUT.out] at hm4; have HM4 := Lib.hid hm4; have HO4 := Lib.hid (HO1.out.mapPut HM1.out hg4); have HB4 := Lib.hid (HB1.out.mapPut HM1.out hg4); have hb4 := hb1.grown hg4 hb1.size (by intro k hk; cases hk; omega); clear hm4 hg4 hz4)
              | (at_builtin; refine wpList_push rfl _ _ 26 rfl w.heap.size 9 1 16 slstrs encS encS_ok _ nms rfl (HO4.out.alloc _) nm w4.heap.size rfl (by intro j u hj; match j, hj with | 0, hj => (simp [encS] at hj; subst hj; simp) | j + 1, hj => simp [encS] at hj) (by have := HI.out.len; omega) (by have := HI.out.len; unfold maxLen; omega) w (hb4.alloc hb4.size _) (by have := hb4.size; simp; omega) ?_; intro v2 wa hown2 hb2 hg2; have HO2 := Lib.hid hown2; have HM2 := Lib.hid ((HM4.out.alloc _).push (HO4.out.alloc _) hg2); have HB2 := Lib.hid ((HB4.out.alloc _).push (HO4.out.alloc _) hg2 (by decide) (by decide)); clear hown2 hg2))
            go_roundw
            case rel => exact ⟨fr, p + n + nm.length + 2, out, nms ++ [nm], by go_num, by go_num, by omega, by omega, by have h := HF.out; rw [HADD.out] at h; exact h, HO2.out, HM2.out, HB2.out, hb2⟩
            case measure => simp [intOf]; omega
          · have HGET : Hid (mapGet (placesOf l nms) nm = none) := by unfold Hid; rw [placesOf_get, if_neg (by simp only [hkn, Bool.false_eq_true, not_false_eq_true])]
            have HADD : Hid (addN nms nm = nms ++ [nm]) := by unfold Hid addN; rw [if_neg (by simp only [hkn, Bool.false_eq_true, not_false_eq_true])]
            have HPUT := Lib.hid (placesOf_put l nms nm hkn)
            have HGL := Lib.hid (getL_some hk hp hall)
            have hvl := HV.out l[k] (List.getElem_mem hk)
            have HF := Lib.hid (HI.out.set HX.out HTK.out HGL.out hvl)
            have HPL : Hid (placeV l nm = .int .i64 k) := by unfold Hid placeV; rw [hf]
            have HFI := Lib.hid hf
            clear hf hp hall hkn
            go_wp2_with fail
            refine (idx_123 _ _).mono ?_
            rw [HX.out]
            rintro e w' ⟨rfl, rfl⟩
            go_wp2_with fail
            refine (asked_any (s.drop (p + n)) _ (by simp only [List.length_drop]; omega)).mono ?_
            unfold tokV
            rw [HTK.out]
            rintro e w' ⟨rfl, rfl⟩
            simp only [Option.getD_some, Option.isSome_some]
            go_wp2_with (first | (refine wpList_smap_missing rfl (.tmp 39) (.tmp 40) 285 9 3 rfl Tryz.underlying285 Tryz.underlying9 (.int .i64 0) (zeroI _) (w.heap.size + 1) _ HM.out nm HGET.out rfl rfl ?_) | (go_at_call 222; go_in))
            refine (HFN.out _ (HA.out.below (hb.alloc hb.size _)) _ (by simp) (by simp)).mono ?_
            rw [HFI.out]
            rintro e w3 ⟨rfl, hb3⟩
            have hA3 := (Below.refl wr.heap.size wr).alloc (Nat.le_refl _) (.cells #[.string ⟨nm.toArray⟩] 9)
            have hAll := hA3.trans (hb3.mono (by simp))
            have HO1 := Lib.hid (HO.out.bel hAll)
            have HM1 := Lib.hid (HM.out.bel hAll)
            have HB1 := Lib.hid (HB.out.bel hAll)
            have hb1 := hb.trans (hAll.mono hb.size)
            clear HFN hA3 hAll hb3
            go_wp2_with (first
              | (refine wpList_smap_put rfl (.tmp 50) (.tmp 51) (.tmp 52) 285 9 3 (.inl rfl) Tryz.underlying285 Tryz.underlying9 (w.heap.size + 1) _ HM1.out nm _ rfl rfl HPL.out.symm ?_; intro w4 hm4 hg4 hz4; rw [HPUT.out] at hm4; have HM4 := Lib.hid hm4; have HO4 := Lib.hid (HO1.out.mapPut HM1.out hg4); have HB4 := Lib.hid (HB1.out.mapPut HM1.out hg4); have hb4 := hb1.grown hg4 hb1.size (by intro k hk; cases hk; omega); clear hm4 hg4 hz4)
              | (at_builtin; refine wpList_push rfl _ _ 26 rfl w.heap.size 9 1 16 slstrs encS encS_ok _ nms rfl (HO4.out.alloc _) nm w4.heap.size rfl (by intro j u hj; match j, hj with | 0, hj => (simp [encS] at hj; subst hj; simp) | j + 1, hj => simp [encS] at hj) (by have := HI.out.len; omega) (by have := HI.out.len; unfold maxLen; omega) w (hb4.alloc hb4.size _) (by have := hb4.size; simp; omega) ?_; intro v2 wa hown2 hb2 hg2; have HO2 := Lib.hid hown2; have HM2 := Lib.hid ((HM4.out.alloc _).push (HO4.out.alloc _) hg2); have HB2 := Lib.hid ((HB4.out.alloc _).push (HO4.out.alloc _) hg2 (by decide) (by decide)); clear hown2 hg2))
            refine (writeString_b w.heap.size w.heap.size out _ _ HB2.out (by simp only [List.length_drop, List.length_take]; omega) hb2.size).mono ?_
            rintro e w5 ⟨rfl, HB5, hb5, hk5⟩
            have HO5 := Lib.hid (HO2.out.others hk5 HB2.out (by decide) (by decide))
            have HM5 := Lib.hid (HM2.out.others hk5 HB2.out)
            have HBB := Lib.hid HB5
            have hb5' := hb2.trans hb5
            clear HB5
            obtain ⟨b, off, ha, hbl, hc0, hc1⟩ := (HA.out.below hb5').two hk
            subst ha
            go_wp2_with fail
            refine (writeString_b w.heap.size w.heap.size _ _ _ HBB.out (by simp only [List.length_append, List.length_drop, List.length_take]; omega) hb5'.size).mono ?_
            rintro e w6 ⟨rfl, HB6, hb6, hk6⟩
            have HO6 := Lib.hid (HO5.out.others hk6 HBB.out (by decide) (by decide))
            have HM6 := Lib.hid (HM5.out.others hk6 HBB.out)
            have HB6' := Lib.hid HB6
            have hb6' := hb5'.trans hb6
            clear HB6
            go_wp2_with fail
            go_roundw
            case rel => exact ⟨p + n + nm.length + 2, p + n + nm.length + 2, _, nms ++ [nm], by go_num, by go_num, by omega, by omega, by have h := HF.out; rw [HADD.out] at h; exact h, HO6.out, HM6.out, HB6'.out, hb6'⟩
            case measure => simp [intOf]; omega
        · rcases findI_cases (fun x => x.name == nm) l with ⟨hf, hall⟩ | ⟨k, hk, hf, hp, hall⟩
          · have HGET : Hid (mapGet (placesOf l nms) nm = some (placeV l nm)) := by unfold Hid; rw [placesOf_get, if_pos hkn]
            have HADD : Hid (addN nms nm = nms) := by unfold Hid addN; rw [if_pos hkn]
            have HGL := Lib.hid (getL_none hall)
            have HF := Lib.hid (HI.out.unset HX.out HTK.out HGL.out)
            have HPL : Hid (placeV l nm = .int .i64 (-1)) := by unfold Hid placeV; rw [hf]
            have HFI := Lib.hid hf
            clear hf hall hkn
            go_wp2_with fail
            refine (idx_123 _ _).mono ?_
            rw [HX.out]
            rintro e w' ⟨rfl, rfl⟩
            go_wp2_with fail
            refine (asked_any (s.drop (p + n)) _ (by simp only [List.length_drop]; omega)).mono ?_
            unfold tokV
            rw [HTK.out]
            rintro e w' ⟨rfl, rfl⟩
            simp only [Option.getD_some, Option.isSome_some]
            go_wp2_with (refine wpList_smap_found rfl (.tmp 39) (.tmp 40) 285 9 3 rfl Tryz.underlying285 Tryz.underlying9 (.int .i64 0) (zeroI _) (w.heap.size + 1) _ HM.out nm (placeV l nm) HGET.out rfl rfl ?_; rw [HPL.out])
            obtain ⟨wa, rfl⟩ : ∃ wa : World, wa = wr := ⟨_, rfl⟩
            have HO2 := HO
            have HM2 := HM
            have HB2 := HB
            have hb2 := hb
            go_roundw
            case rel => exact ⟨fr, p + n + nm.length + 2, out, nms, by go_num, by go_num, by omega, by omega, by have h := HF.out; rw [HADD.out] at h; exact h, HO2.out, HM2.out, HB2.out, hb2⟩
            case measure => simp [intOf]; omega
          · have HGET : Hid (mapGet (placesOf l nms) nm = some (placeV l nm)) := by unfold Hid; rw [placesOf_get, if_pos hkn]
            have HADD : Hid (addN nms nm = nms) := by unfold Hid addN; rw [if_pos hkn]
            have HGL := Lib.hid (getL_some hk hp hall)
            have hvl := HV.out l[k] (List.getElem_mem hk)
            have HF := Lib.hid (HI.out.set HX.out HTK.out HGL.out hvl)
            have HPL : Hid (placeV l nm = .int .i64 k) := by unfold Hid placeV; rw [hf]
            have HFI := Lib.hid hf
            clear hf hp hall hkn
            go_wp2_with fail
            refine (idx_123 _ _).mono ?_
            rw [HX.out]
            rintro e w' ⟨rfl, rfl⟩
            go_wp2_with fail
            refine (asked_any (s.drop (p + n)) _ (by simp only [List.length_drop]; omega)).mono ?_
            unfold tokV
            rw [HTK.out]
            rintro e w' ⟨rfl, rfl⟩
            simp only [Option.getD_some, Option.isSome_some]
            go_wp2_with (refine wpList_smap_found rfl (.tmp 39) (.tmp 40) 285 9 3 rfl Tryz.underlying285 Tryz.underlying9 (.int .i64 0) (zeroI _) (w.heap.size + 1) _ HM.out nm (placeV l nm) HGET.out rfl rfl ?_; rw [HPL.out])
            obtain ⟨wa, rfl⟩ : ∃ wa : World, wa = wr := ⟨_, rfl⟩
            have HO2 := HO
            have HM2 := HM
            have HB2 := HB
            have hb2 := hb
            refine (writeString_b w.heap.size w.heap.size out _ _ HB2.out (by simp only [List.length_drop, List.length_take]; omega) hb2.size).mono ?_
            rintro e w5 ⟨rfl, HB5, hb5, hk5⟩
            have HO5 := Lib.hid (HO2.out.others hk5 HB2.out (by decide) (by decide))
            have HM5 := Lib.hid (HM2.out.others hk5 HB2.out)
            have HBB := Lib.hid HB5
            have hb5' := hb2.trans hb5
            clear HB5
            obtain ⟨b, off, ha, hbl, hc0, hc1⟩ := (HA.out.below hb5').two hk
            subst ha
            go_wp2_with fail
            refine (writeString_b w.heap.size w.heap.size _ _ _ HBB.out (by simp only [List.length_append, List.length_drop, List.length_take]; omega) hb5'.size).mono ?_
            rintro e w6 ⟨rfl, HB6, hb6, hk6⟩
            have HO6 := Lib.hid (HO5.out.others hk6 HBB.out (by decide) (by decide))
            have HM6 := Lib.hid (HM5.out.others hk6 HBB.out)
            have HB6' := Lib.hid HB6
            have hb6' := hb5'.trans hb6
            clear HB6
            go_wp2_with fail
            go_roundw
            case rel => exact ⟨p + n + nm.length + 2, p + n + nm.length + 2, _, nms, by go_num, by go_num, by omega, by omega, by have h := HF.out; rw [HADD.out] at h; exact h, HO6.out, HM6.out, HB6'.out, hb6'⟩
            case measure => simp [intOf]; omega
end
end Go.Proofs.YtfedkhicckgjaaaGreatDoor
