/- Texts with attributes in the place of their names: what such a text is read as, in plain words. -/
import Derived.Test.YtfedkhicckgjaaaGreatDoorAttrs
namespace Go.Proofs.YtfedkhicckgjaaaGreatDoor
open Go.RowKit

/-! ### what a text is read as -/
def runK (s : Bytes) : Nat := (s.takeWhile isSign).length
def tokOf : Bytes → Option Bytes
  | [] => none
  | c :: r => if (c == 123 && r[runK r]? == some 125 && nameB (r.take (runK r))) = true then some (r.take (runK r)) else none
theorem tokOf_cons (c : UInt8) (r : Bytes) : tokOf (c :: r) = if (c == 123 && r[runK r]? == some 125 && nameB (r.take (runK r))) = true then some (r.take (runK r)) else none := rfl
inductive Seg where
  | lit (c : UInt8)
  | ask (nm : Bytes)
def parseF : Nat → Bytes → List Seg
  | 0, _ => []
  | _ + 1, [] => []
  | f + 1, c :: r => match tokOf (c :: r) with
    | some nm => .ask nm :: parseF f (r.drop (nm.length + 1))
    | none => .lit c :: parseF f r
def parse (s : Bytes) : List Seg := parseF s.length s
def segOut (l : List Two) : Seg → Bytes
  | .lit c => [c]
  | .ask nm => (getL l nm).getD (123 :: nm ++ [125])
def segAsk : Seg → Option Bytes
  | .lit _ => none
  | .ask nm => some nm
def fillT (l : List Two) (s : Bytes) : Bytes := (parse s).flatMap (segOut l)
def asksOf (s : Bytes) : List Bytes := (parse s).filterMap segAsk
def addN (acc : List Bytes) (nm : Bytes) : List Bytes := if acc.contains nm = true then acc else acc ++ [nm]
def fillN (s : Bytes) : List Bytes := (asksOf s).foldl addN []

theorem parseF_eq : ∀ (f : Nat) (s : Bytes), s.length ≤ f → parseF f s = parse s := by
  have main : ∀ (n f g : Nat) (s : Bytes), s.length ≤ n → s.length ≤ f → s.length ≤ g → parseF f s = parseF g s := by
    intro n
    induction n with
    | zero =>
      intro f g s hn _ _
      have : s = [] := List.eq_nil_of_length_eq_zero (by omega)
      subst this
      cases f <;> cases g <;> rfl
    | succ n ih =>
      intro f g s hn hf hg
      match s with
      | [] => cases f <;> cases g <;> rfl
      | c :: r =>
        simp only [List.length_cons] at hn hf hg
        obtain ⟨f, rfl⟩ : ∃ f', f = f' + 1 := ⟨f - 1, by omega⟩
        obtain ⟨g, rfl⟩ : ∃ g', g = g' + 1 := ⟨g - 1, by omega⟩
        unfold parseF
        split
        · rw [ih f g _ (by simp; omega) (by simp; omega) (by simp; omega)]
        · rw [ih f g _ (by omega) (by omega) (by omega)]
  intro f s h
  exact main s.length f s.length s (Nat.le_refl _) h (Nat.le_refl _)
theorem parse_nil : parse [] = [] := rfl
theorem parse_lit {c : UInt8} {r : Bytes} (h : tokOf (c :: r) = none) : parse (c :: r) = .lit c :: parse r := by
  show parseF (r.length + 1) (c :: r) = _
  rw [parseF, h]
  rfl
theorem tokOf_some {c : UInt8} {r nm : Bytes} (h : tokOf (c :: r) = some nm) : c = 123 ∧ r[runK r]? = some 125 ∧ nameB (r.take (runK r)) = true ∧ nm = r.take (runK r) ∧ nm.length = runK r := by
  rw [tokOf_cons] at h
  split at h
  · rename_i hh
    simp only [Bool.and_eq_true, beq_iff_eq] at hh
    cases h
    refine ⟨hh.1.1, hh.1.2, hh.2, rfl, ?_⟩
    rw [List.length_take]
    have := (List.getElem?_eq_some_iff.1 hh.1.2).1
    omega
  · cases h
theorem parse_ask {s nm : Bytes} (h : tokOf s = some nm) : parse s = .ask nm :: parse (s.drop (nm.length + 2)) := by
  match s with
  | [] => cases h
  | c :: r =>
    show parseF (r.length + 1) (c :: r) = _
    rw [parseF, h]
    simp only
    rw [parseF_eq _ _ (by simp)]
    rfl
theorem runK_le : ∀ (s : Bytes), runK s ≤ s.length
  | [] => Nat.le_refl _
  | c :: s => by
    have h := runK_le s
    unfold runK at h ⊢
    rw [List.takeWhile_cons]
    split
    · simp; omega
    · simp
theorem runK_sign : ∀ (r : Bytes) (i : Nat) (hi : i < r.length), i < runK r → isSign r[i] = true
  | c :: r, i, hi, h => by
    unfold runK at h
    rw [List.takeWhile_cons] at h
    split at h
    · match i with
      | 0 => assumption
      | i + 1 => exact runK_sign r i (by simpa using hi) (by unfold runK; simpa using h)
    · simp at h
theorem tokOf_len {s nm : Bytes} (h : tokOf s = some nm) : nm.length + 2 ≤ s.length := by
  match s with
  | [] => cases h
  | c :: r =>
    obtain ⟨_, h1, _, _, h2⟩ := tokOf_some h
    have := (List.getElem?_eq_some_iff.1 h1).1
    simp; omega
theorem tokOf_other {c : UInt8} {r : Bytes} (h : c ≠ 123) : tokOf (c :: r) = none := by
  rw [tokOf_cons, if_neg (by simp [h])]

/-! ### where the run of signs ends -/
theorem runK_at {r : Bytes} {k : Nat} (hk : k < r.length) (h1 : ∀ i (hi : i < k), isSign (r[i]'(by omega)) = true) (h2 : isSign r[k] = false) : runK r = k := by
  unfold runK
  induction r generalizing k with
  | nil => simp at hk
  | cons c r ih =>
    match k with
    | 0 => simp only [List.getElem_cons_zero] at h2; simp [h2]
    | k + 1 =>
      have h0 := h1 0 (by omega)
      simp only [List.getElem_cons_zero] at h0
      rw [List.takeWhile_cons, if_pos h0, List.length_cons]
      rw [ih (k := k) (by simpa using hk) (fun i hi => by have := h1 (i + 1) (by omega); simpa using this) (by simpa using h2)]
theorem sign_brace : isSign 125 = false := by decide
theorem sign_open : isSign 123 = false := by decide
theorem nameB_signs {s : Bytes} (h : nameB s = true) : ∀ c ∈ s, isSign c = true := by
  unfold nameB at h
  simp only [Bool.and_eq_true] at h
  exact List.all_eq_true.1 h.2
theorem nameB_len {s : Bytes} (h : nameB s = true) : 1 ≤ s.length ∧ s.length ≤ 60 := by
  unfold nameB at h
  simp only [Bool.and_eq_true, decide_eq_true_eq] at h
  exact ⟨h.1.1.1, h.1.1.2⟩
theorem tokOf_name {nm rest : Bytes} (h : nameB nm = true) : tokOf (123 :: (nm ++ 125 :: rest)) = some nm := by
  have hs := nameB_signs h
  have hr : runK (nm ++ 125 :: rest) = nm.length := by
    refine runK_at (by simp) (fun i hi => ?_) ?_
    · rw [List.getElem_append_left hi]; exact hs _ (List.getElem_mem hi)
    · rw [List.getElem_append_right (Nat.le_refl _)]; simp [sign_brace]
  rw [tokOf_cons, hr]
  have ht : (nm ++ 125 :: rest).take nm.length = nm := by simp
  rw [ht, if_pos (by simp [h])]

/-! ### a text in parts -/
theorem parse_lits : ∀ (s t : Bytes), (∀ c ∈ s, c ≠ 123) → parse (s ++ t) = s.map .lit ++ parse t
  | [], t, _ => rfl
  | c :: s, t, h => by
    rw [List.cons_append, parse_lit (tokOf_other (h c (by simp))), parse_lits s t (fun c hc => h c (by simp [hc]))]
    rfl
theorem parse_name {nm rest : Bytes} (h : nameB nm = true) : parse (123 :: (nm ++ 125 :: rest)) = .ask nm :: parse rest := by
  rw [parse_ask (tokOf_name h)]
  congr 2
  show ((nm ++ 125 :: rest).drop (nm.length + 1)) = rest
  rw [List.drop_append, List.drop_of_length_le (by omega)]
  simp
def stepOpen (o : Bool) (c : UInt8) : Bool := (c == 123) || (o && !(c == 125))
def openAt (o : Bool) (s : Bytes) : Bool := s.foldl stepOpen o
theorem openAt_cons (o : Bool) (c : UInt8) (s : Bytes) : openAt o (c :: s) = openAt (stepOpen o c) s := rfl
theorem openAt_mono : ∀ (s : Bytes), openAt true s = false → openAt false s = false
  | [], h => by cases h
  | c :: s, h => by
    rw [openAt_cons] at h ⊢
    by_cases h1 : (c == 123) = true
    · have e1 : stepOpen true c = true := by simp [stepOpen, h1]
      have e2 : stepOpen false c = true := by simp [stepOpen, h1]
      rw [e1] at h; rw [e2]; exact h
    · have e2 : stepOpen false c = false := by simp [stepOpen, h1]
      rw [e2]
      by_cases h2 : stepOpen true c = true
      · rw [h2] at h; exact openAt_mono s h
      · have : stepOpen true c = false := by simpa using h2
        rwa [this] at h
theorem openAt_drop : ∀ (s : Bytes) (k : Nat), openAt true s = false → openAt false (s.drop k) = false
  | s, 0, h => openAt_mono s h
  | [], k + 1, h => by cases h
  | c :: s, k + 1, h => by
    rw [openAt_cons] at h
    show openAt false (s.drop k) = false
    cases hc : stepOpen true c
    · rw [hc] at h
      have : ∀ (s : Bytes) (k : Nat), openAt false s = false → openAt false (s.drop k) = false := by
        intro s
        induction s with
        | nil => intro k _; simp [openAt]
        | cons d s ih =>
          intro k hk
          match k with
          | 0 => exact hk
          | k + 1 =>
            rw [openAt_cons] at hk
            refine ih k ?_
            cases hd : stepOpen false d
            · rwa [hd] at hk
            · rw [hd] at hk; exact openAt_mono s hk
      exact this s k h
    · rw [hc] at h
      exact openAt_drop s k h
theorem openAt_brace : ∀ (s : Bytes), openAt true s = false → (125 : UInt8) ∈ s
  | [], h => by cases h
  | c :: s, h => by
    by_cases hc : c = 125
    · subst hc; simp
    · rw [openAt_cons] at h
      have : stepOpen true c = true := by simp [stepOpen, hc]
      rw [this] at h
      exact List.mem_cons_of_mem _ (openAt_brace s h)
theorem runK_lt {r : Bytes} (h : (125 : UInt8) ∈ r) : runK r < r.length := by
  by_cases hk : runK r < r.length
  · exact hk
  · obtain ⟨i, hi, he⟩ := List.mem_iff_getElem.1 h
    have := runK_sign r i hi (by omega)
    rw [he, sign_brace] at this
    cases this
theorem runK_append {r t : Bytes} (h : runK r < r.length) : runK (r ++ t) = runK r := by
  refine runK_at (by simp; omega) (fun i hi => ?_) ?_
  · rw [List.getElem_append_left (by omega)]; exact runK_sign r i _ hi
  · rw [List.getElem_append_left h]
    cases hs : isSign r[runK r]
    · rfl
    · exfalso
      have : (r.takeWhile isSign).length ≠ (r.takeWhile isSign).length := by
        have h3 : ∀ (l : Bytes) (hl : (l.takeWhile isSign).length < l.length), isSign (l[(l.takeWhile isSign).length]'hl) = false := by
          intro l
          induction l with
          | nil => intro hl; simp at hl
          | cons c l ih =>
            intro hl
            by_cases hc : isSign c = true
            · simp only [List.takeWhile_cons, hc, if_true, List.length_cons, List.getElem_cons_succ]
              exact ih (by simp only [List.takeWhile_cons, hc, if_true, List.length_cons] at hl; omega)
            · simp only [List.takeWhile_cons, hc]
              simpa using hc
        have := h3 r h
        unfold runK at hs
        rw [this] at hs
        cases hs
      exact this rfl
theorem tokOf_append {c : UInt8} {r t : Bytes} (h : runK r < r.length) : tokOf (c :: (r ++ t)) = tokOf (c :: r) := by
  rw [tokOf_cons, tokOf_cons, runK_append h, List.getElem?_append_left h, List.take_append_of_le_length (Nat.le_of_lt h)]
theorem parse_append : ∀ (n : Nat) (s t : Bytes), s.length ≤ n → openAt false s = false → parse (s ++ t) = parse s ++ parse t
  | _, [], t, _, _ => rfl
  | 0, c :: r, t, hn, _ => by simp at hn
  | n + 1, c :: r, t, hn, ho => by
    rw [openAt_cons] at ho
    by_cases hc : c = 123
    · have e : stepOpen false c = true := by simp [stepOpen, hc]
      rw [e] at ho
      have hlt := runK_lt (openAt_brace r ho)
      have htk := tokOf_append (c := c) (t := t) hlt
      cases hq : tokOf (c :: r) with
      | none =>
        rw [hq] at htk
        rw [List.cons_append, parse_lit htk, parse_lit hq, parse_append n r t (by simpa using hn) (openAt_mono r ho)]
        rfl
      | some nm =>
        rw [hq] at htk
        have hl := tokOf_len hq
        rw [List.cons_append, parse_ask htk, parse_ask hq]
        have e1 : (c :: (r ++ t)).drop (nm.length + 2) = (c :: r).drop (nm.length + 2) ++ t := by
          rw [← List.cons_append, List.drop_append_of_le_length hl]
        rw [e1, parse_append n _ t (by simp at hn ⊢; omega) ?_]
        · rfl
        · show openAt false (r.drop (nm.length + 1)) = false
          exact openAt_drop r _ ho
    · have e : stepOpen false c = false := by simp [stepOpen, hc]
      rw [e] at ho
      rw [List.cons_append, parse_lit (tokOf_other hc), parse_lit (tokOf_other hc), parse_append n r t (by simpa using hn) ho]
      rfl

/-! ### what is asked for -/
theorem addN_prefix : ∀ (ys acc : List Bytes), ∃ more, ys.foldl addN acc = acc ++ more
  | [], acc => ⟨[], by simp⟩
  | y :: ys, acc => by
    obtain ⟨m, hm⟩ := addN_prefix ys (addN acc y)
    rw [List.foldl_cons, hm]
    unfold addN
    split
    · exact ⟨m, rfl⟩
    · exact ⟨y :: m, by simp⟩
theorem addN_len : ∀ (ys acc acc' : List Bytes), (∀ x ∈ acc', x ∈ acc) → (ys.foldl addN acc).length + acc'.length ≤ acc.length + (ys.foldl addN acc').length
  | [], acc, acc', _ => Nat.le_refl _
  | y :: ys, acc, acc', h => by
    rw [List.foldl_cons, List.foldl_cons]
    by_cases h1 : y ∈ acc'
    · have e1 : addN acc' y = acc' := by unfold addN; rw [if_pos (by simpa using h1)]
      have e2 : addN acc y = acc := by unfold addN; rw [if_pos (by simpa using h y h1)]
      rw [e1, e2]; exact addN_len ys acc acc' h
    · have e1 : addN acc' y = acc' ++ [y] := by unfold addN; rw [if_neg (by simpa using h1)]
      by_cases h2 : y ∈ acc
      · have e2 : addN acc y = acc := by unfold addN; rw [if_pos (by simpa using h2)]
        rw [e1, e2]
        have := addN_len ys acc (acc' ++ [y]) (fun x hx => by rcases List.mem_append.1 hx with hx | hx; exact h x hx; simp at hx; subst hx; exact h2)
        simp at this ⊢; omega
      · have e2 : addN acc y = acc ++ [y] := by unfold addN; rw [if_neg (by simpa using h2)]
        rw [e1, e2]
        have := addN_len ys (acc ++ [y]) (acc' ++ [y]) (fun x hx => by rcases List.mem_append.1 hx with hx | hx; simp [h x hx]; simp at hx; simp [hx])
        simp at this ⊢; omega

/-! ### the laws' own questions -/
theorem fillT_plain (l : List Two) (s : Bytes) (h : ∀ c ∈ s, c ≠ 123) : fillT l s = s ∧ fillN s = [] := by
  have hp : parse s = s.map .lit := by
    have := parse_lits s [] h
    simpa [parse_nil] using this
  constructor
  · unfold fillT
    rw [hp, List.flatMap_map]
    induction s with
    | nil => rfl
    | cons c s ih =>
      rw [List.flatMap_cons, ih (fun c hc => h c (by simp [hc])) (by have := parse_lits s [] (fun c hc => h c (by simp [hc])); simpa [parse_nil] using this)]
      rfl
  · unfold fillN asksOf
    rw [hp]
    have : (s.map Seg.lit).filterMap segAsk = [] := by
      rw [List.filterMap_map, List.filterMap_eq_nil_iff]
      intro c _; rfl
    rw [this]; rfl
theorem fillT_append (l : List Two) (s t : Bytes) (h : openAt false s = false) : fillT l (s ++ t) = fillT l s ++ fillT l t ∧
    (∃ more, fillN (s ++ t) = fillN s ++ more) ∧ (fillN (s ++ t)).length ≤ (fillN s).length + (fillN t).length := by
  have hp := parse_append s.length s t (Nat.le_refl _) h
  have ha : asksOf (s ++ t) = asksOf s ++ asksOf t := by unfold asksOf; rw [hp, List.filterMap_append]
  have hn : fillN (s ++ t) = (asksOf t).foldl addN (fillN s) := by unfold fillN; rw [ha, List.foldl_append]
  refine ⟨by unfold fillT; rw [hp, List.flatMap_append], ?_, ?_⟩
  · rw [hn]; exact addN_prefix _ _
  · rw [hn]
    have := addN_len (asksOf t) (fillN s) [] (by simp)
    simpa [fillN] using this
theorem fillT_name (l : List Two) (nm ar : Bytes) (hn : nameB nm = true) (h : ∀ c ∈ ar, c ≠ 123) :
    fillT l (ar ++ 123 :: (nm ++ 125 :: (ar ++ 123 :: (nm ++ [125])))) = ar ++ ((getL l nm).getD (123 :: nm ++ [125]) ++ (ar ++ (getL l nm).getD (123 :: nm ++ [125]))) ∧
    fillN (ar ++ 123 :: (nm ++ 125 :: (ar ++ 123 :: (nm ++ [125])))) = [nm] := by
  have hp : parse (ar ++ 123 :: (nm ++ 125 :: (ar ++ 123 :: (nm ++ [125])))) = ar.map .lit ++ (.ask nm :: (ar.map .lit ++ [.ask nm])) := by
    rw [parse_lits _ _ h, parse_name hn, parse_lits _ _ h, parse_name hn, parse_nil]
  have hl : (ar.map Seg.lit).flatMap (segOut l) = ar := by
    rw [List.flatMap_map]
    induction ar with
    | nil => rfl
    | cons c s ih => rw [List.flatMap_cons, ih (fun c hc => h c (by simp [hc])) (by rw [parse_lits _ _ (fun c hc => h c (by simp [hc])), parse_name hn, parse_lits _ _ (fun c hc => h c (by simp [hc])), parse_name hn, parse_nil])]; rfl
  have ha : (ar.map Seg.lit).filterMap segAsk = [] := by
    rw [List.filterMap_map, List.filterMap_eq_nil_iff]
    intro c _; rfl
  constructor
  · unfold fillT
    rw [hp]
    simp only [List.flatMap_append, List.flatMap_cons, hl, List.flatMap_nil, List.append_nil]
    rfl
  · unfold fillN asksOf
    rw [hp]
    simp only [List.filterMap_append, List.filterMap_cons, ha, List.filterMap_nil, segAsk]
    simp [addN]
end Go.Proofs.YtfedkhicckgjaaaGreatDoor
