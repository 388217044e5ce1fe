/- What is read of a part that does not hold. No program is named here. -/
import Derived.Test.YtfedkhicckgjaaaGreatDoorPlainP
import Derived.Test.YtfedkhicckgjaaaGreatDoorPartsP
namespace Go.Proofs.YtfedkhicckgjaaaGreatDoor
set_option linter.unusedVariables false

/-- a line that begins like one of a condition -/
def offLine (t : Bytes) : Bool := decide (3 ≤ t.length) && (t.take 3 == [64, 105, 102] || t.take 3 == [64, 101, 108] || t.take 3 == [64, 101, 110])
def offText (name s : Bytes) : Bytes := [64, 105, 102, 32] ++ name ++ 10 :: (s ++ 10 :: [64, 101, 110, 100, 10, 120])
theorem splitNL_none : ∀ (s : Bytes), (∀ c ∈ s, c ≠ 10) → splitNL s = [s]
  | [], _ => rfl
  | c :: r, h => splitNL_other (h c List.mem_cons_self) (splitNL_none r fun x hx => h x (List.mem_cons_of_mem _ hx))
theorem splitNL_lines (s : Bytes) : ∀ t ∈ splitNL s, t = [] ∨ t ∈ linesP s := by
  by_cases h0 : s = []
  · subst h0; intro t ht; exact .inl (by simpa [splitNL] using ht)
  · by_cases h : s.getLast? = some 10
    · obtain ⟨r, rfl⟩ : ∃ r, s = r ++ [10] := by
        obtain ⟨r, c, rfl⟩ : ∃ r c, s = r ++ [c] := ⟨s.dropLast, s.getLast h0, (List.dropLast_concat_getLast h0).symm⟩
        rw [List.getLast?_concat] at h
        cases h
        exact ⟨r, rfl⟩
      intro t ht
      rw [splitNL_snoc10] at ht
      rcases List.mem_append.1 ht with h1 | h1
      · refine .inr ?_
        unfold linesP trimNL
        rw [if_neg h0, if_pos h]
        simpa using h1
      · exact .inl (by simpa using h1)
    · intro t ht
      refine .inr ?_
      unfold linesP trimNL
      rw [if_neg h0, if_neg h]; exact ht
theorem name_not10 {n : Bytes} (h : nameB n = true) (k : UInt8) (hk : isSign k = false) : ∀ c ∈ n, c ≠ k := fun c hc e => by
  subst e
  have := nameB_signs h c hc
  rw [hk] at this; cases this
theorem off_lines (name s : Bytes) (hn : nameB name = true) : linesP (offText name s) = ([64, 105, 102, 32] ++ name) :: (splitNL s ++ [[64, 101, 110, 100], [120]]) := by
  unfold offText
  rw [linesP_app, linesP_app, splitNL_none _ (by
    intro c hc
    rcases List.mem_append.1 hc with h | h
    · simp at h; rcases h with rfl | rfl | rfl | rfl <;> decide
    · exact name_not10 hn 10 (by decide) c h)]
  rfl
theorem cut_no (k : UInt8) (c : Bytes) (h : ∀ x ∈ c, x ≠ k) : Lib.cut c [k] = (c, [], false) := by
  have h1 : Lib.index c [k] = -1 := by
    induction c with
    | nil => rfl
    | cons x c ih =>
      have hx : (k == x) = false := beq_eq_false_iff_ne.2 fun e => h x List.mem_cons_self e.symm
      simp [Lib.index, List.isPrefixOf, hx, ih fun y hy => h y (List.mem_cons_of_mem _ hy)]
  unfold Lib.cut
  rw [h1, if_neg (by decide)]
theorem splitP_name {n : Bytes} (h : nameB n = true) : splitP n = ([], n, [], true) := by
  unfold splitP
  rw [prefix_none (name_not10 h 33 (by decide)), if_neg (by decide), cut_no 61 n (name_not10 h 61 (by decide)), if_pos rfl, h]
theorem isBl_sign {c : UInt8} (h : isSign c = true) : isBl c = false := by
  unfold isBl
  have h1 : c ≠ 32 := fun e => by subst e; revert h; decide
  have h2 : c ≠ 9 := fun e => by subst e; revert h; decide
  simp [h1, h2]
theorem dropBl_none : ∀ (s : Bytes), (∀ c ∈ s, isBl c = false) → s.dropWhile isBl = s
  | [], _ => rfl
  | c :: r, h => by rw [List.dropWhile_cons, h c List.mem_cons_self]; rfl
/-- "@if name", taken apart -/
theorem if_word (n : Bytes) (h : nameB n = true) : wordOf ([64, 105, 102, 32] ++ n) = [64, 105, 102] ∧ restOf ([64, 105, 102, 32] ++ n) = n := by
  have hb : blankI ([64, 105, 102, 32] ++ n) = some 3 := by
    unfold blankI
    simp [List.findIdx?_cons, isBl]
  have hnb : ∀ c ∈ n, isBl c = false := fun c hc => isBl_sign (nameB_signs h c hc)
  constructor
  · unfold wordOf; rw [hb]; rfl
  · unfold restOf; rw [hb]
    show trimB (32 :: n) = n
    unfold trimB
    have h1 : (32 :: n).reverse.dropWhile isBl = (32 :: n).reverse := by
      rw [List.reverse_cons]
      cases hr : n.reverse with
      | nil => have := nameB_len h; rw [List.reverse_eq_nil_iff] at hr; subst hr; simp at this
      | cons x r =>
        have hx : isBl x = false := hnb x (List.mem_reverse.1 (by rw [hr]; exact List.mem_cons_self))
        rw [List.cons_append, List.dropWhile_cons, hx]; rfl
    rw [h1, List.reverse_reverse, List.dropWhile_cons]
    show (if isBl 32 = true then _ else _) = _
    rw [if_pos (by decide)]
    exact dropBl_none n hnb
theorem word_take (t w : Bytes) (h : wordOf t = w) : t.take w.length = w := by
  subst h
  unfold wordOf
  split
  · rename_i n hn
    by_cases h : n ≤ t.length
    · rw [List.length_take_of_le h]
    · rw [List.take_of_length_le (i := n) (by omega), List.take_length]
  · simp
/-- a line that is not one of a condition, in a part that does not hold -/
theorem line_skip (rd : Rd) (L : List Two) (r : RS) (l : Pl) (hl : offLine l.text = false) (hlen : l.text.length ≤ 100000) (hf : r.fits = true) (hfo : r.top.force = false) : RS.line rd L r l = some r := by
  unfold RS.line
  rw [if_pos ⟨hf, hlen⟩]
  split
  · rw [if_pos (show idxOk l.text = true from rfl)]
    unfold RS.word
    have no : ∀ w : Bytes, wordOf l.text = w → (w.take 3 == [64, 105, 102] || w.take 3 == [64, 101, 108] || w.take 3 == [64, 101, 110]) = true → 3 ≤ w.length → False := fun w hw h1 h3 => by
      have ht := word_take l.text w hw
      have h5 : l.text.take 3 = w.take 3 := by rw [← ht, List.take_take, Nat.min_eq_left h3]
      have h6 : 3 ≤ l.text.length := by
        have := congrArg List.length ht
        rw [List.length_take] at this; omega
      unfold offLine at hl
      rw [h5, h1] at hl
      simp [h6] at hl
    rw [if_neg fun e => no _ e (by decide) (by decide), if_neg fun e => no _ e (by decide) (by decide), if_neg fun e => no _ e (by decide) (by decide), if_pos hfo]
  · rw [if_neg (by rw [hfo]; decide)]
theorem rows_off (rd : Rd) (L : List Two) (file : Bytes) (more : List Bytes) : ∀ (ts : List Bytes) (i : Nat) (r : RS), (∀ t ∈ ts, offLine t = false ∧ t.length ≤ 100000) → r.top.force = false → r.count + ts.length ≤ 16384 → r.fits = true →
    RS.rows rd L file r i (ts ++ more) = RS.rows rd L file { r with count := r.count + ts.length } (i + ts.length) more
  | [], i, r, _, _, _, _ => by simp
  | t :: ts, i, r, ht, hf, hc, hs => by
    have h1 := ht t List.mem_cons_self
    rw [List.length_cons] at hc
    rw [List.cons_append]
    conv => lhs; unfold RS.rows
    rw [if_neg (by omega), line_skip rd L { r with count := r.count + 1 } ⟨file, i + 1, t⟩ h1.1 h1.2 hs hf]
    refine (rows_off rd L file more ts (i + 1) { r with count := r.count + 1 } (fun x hx => ht x (List.mem_cons_of_mem _ hx)) hf (by show r.count + 1 + ts.length ≤ 16384; omega) hs).trans ?_
    show RS.rows rd L file { r with count := r.count + 1 + ts.length } (i + 1 + ts.length) more = _
    rw [List.length_cons, show r.count + 1 + ts.length = r.count + (ts.length + 1) from by omega, show i + 1 + ts.length = i + (ts.length + 1) from by omega]
theorem readP_off (name s : Bytes) (hn : nameB name = true) (hs : s.length ≤ 3000) (hoff : ∀ t ∈ linesP s, offLine t = false) :
    (readP [⟨[109], offText name s⟩] [] [109] (offText name s)).map RS.ans = some ⟨[⟨[109], (splitNL s).length + 3, [120]⟩], [], [[109]], [name]⟩ := by
  have hnl := nameB_len hn
  have hsl := splitNL_len s
  have hlen : (offText name s).length ≤ 1048576 := by unfold offText; simp; omega
  obtain ⟨hw1, hw2⟩ := if_word name hn
  have hsp := splitP_name hn
  obtain ⟨rd, hrd⟩ : ∃ rd, rd = RS.read [⟨[109], offText name s⟩] 16 := ⟨_, rfl⟩
  obtain ⟨L, hL⟩ : ∃ L : List Two, L = [⟨[109], offText name s⟩] := ⟨_, rfl⟩
  obtain ⟨cd, hcd⟩ : ∃ cd : CondS, cd = ⟨⟨[109], 1, [64, 105, 102, 32] ++ name⟩, false, true, false⟩ := ⟨_, rfl⟩
  have h1 : RS.line rd L ⟨[], [⟨[109], []⟩], 1, [], [], [[109]], [], [], [[109]]⟩ ⟨[109], 1, [64, 105, 102, 32] ++ name⟩ = some ⟨[], [⟨[109], [cd]⟩], 1, [], [name], [[109]], [], [], [[109]]⟩ := by
    unfold RS.line
    rw [if_pos ⟨by decide, (by show ([64, 105, 102, 32] ++ name).length ≤ 100000; simp; omega)⟩]
    show (if Lib.hasPrefix ([64, 105, 102, 32] ++ name) [64] = true then (if idxOk _ = true then RS.word _ _ _ _ (wordOf ([64, 105, 102, 32] ++ name)) (restOf ([64, 105, 102, 32] ++ name)) else none) else _) = _
    rw [if_pos (by rfl), if_pos (show idxOk _ = true from rfl), hw1, hw2]
    unfold RS.word
    rw [if_pos rfl]
    unfold RS.begin
    rw [hsp]
    show some (RS.setTop (RS.ask _ name) ⟨[109], [] ++ [_]⟩) = _
    rw [hcd]
    rfl
  have h2 : RS.rows rd L [109] ⟨[], [⟨[109], [cd]⟩], 1, [], [name], [[109]], [], [], [[109]]⟩ 1 (splitNL s ++ [[64, 101, 110, 100], [120]]) =
      RS.rows rd L [109] ⟨[], [⟨[109], [cd]⟩], 1 + (splitNL s).length, [], [name], [[109]], [], [], [[109]]⟩ (1 + (splitNL s).length) [[64, 101, 110, 100], [120]] := by
    refine rows_off rd L [109] _ (splitNL s) 1 ⟨[], [⟨[109], [cd]⟩], 1, [], [name], [[109]], [], [], [[109]]⟩ (fun t ht => ?_) (by rw [hcd]; rfl) (by show 1 + _ ≤ _; omega) (by rw [hcd]; rfl)
    have h3 := (splitNL_mem s t ht).1
    refine ⟨?_, by omega⟩
    rcases splitNL_lines s t ht with h | h
    · subst h; rfl
    · exact hoff t h
  have h3 : RS.rows rd L [109] ⟨[], [⟨[109], [cd]⟩], 1 + (splitNL s).length, [], [name], [[109]], [], [], [[109]]⟩ (1 + (splitNL s).length) [[64, 101, 110, 100], [120]] =
      some ⟨[], [⟨[109], []⟩], 1 + (splitNL s).length + 1 + 1, [], [name], [[109]], [⟨[109], 1 + (splitNL s).length + 1 + 1, [120]⟩], [], [[109]]⟩ := by
    have e1 : RS.line rd L ⟨[], [⟨[109], [cd]⟩], 1 + (splitNL s).length + 1, [], [name], [[109]], [], [], [[109]]⟩ ⟨[109], 1 + (splitNL s).length + 1, [64, 101, 110, 100]⟩ = some ⟨[], [⟨[109], []⟩], 1 + (splitNL s).length + 1, [], [name], [[109]], [], [], [[109]]⟩ := by rw [hcd]; rfl
    have e2 := line_plain rd L ⟨[], [⟨[109], []⟩], 1 + (splitNL s).length + 1 + 1, [], [name], [[109]], [], [], [[109]]⟩ ⟨[109], 1 + (splitNL s).length + 1 + 1, [120]⟩ (by rfl) (show ([120] : Bytes).length ≤ 100000 by decide) (by rfl) (by rfl)
    unfold RS.rows
    rw [if_neg (show ¬ 16384 ≤ 1 + (splitNL s).length by omega), e1]
    show RS.rows rd L [109] _ (1 + (splitNL s).length + 1) [[120]] = _
    unfold RS.rows
    rw [if_neg (show ¬ 16384 ≤ 1 + (splitNL s).length + 1 by omega), e2]
    rfl
  unfold readP
  show (RS.readG (RS.read [⟨[109], offText name s⟩] 16) [⟨[109], offText name s⟩] (RS.new []) [109] (offText name s)).map RS.ans = _
  rw [← hrd, ← hL]
  unfold RS.readG
  rw [if_pos ⟨by show 0 ≤ _; omega, by show 0 ≤ _; omega, hlen⟩, off_lines name s hn]
  have e : (RS.new []).enter [109] = ⟨[], [⟨[109], []⟩], 0, [], [], [[109]], [], [], [[109]]⟩ := rfl
  rw [e]
  have hrows : RS.rows rd L [109] ⟨[], [⟨[109], []⟩], 0, [], [], [[109]], [], [], [[109]]⟩ 0 (([64, 105, 102, 32] ++ name) :: (splitNL s ++ [[64, 101, 110, 100], [120]])) = some ⟨[], [⟨[109], []⟩], 1 + (splitNL s).length + 1 + 1, [], [name], [[109]], [⟨[109], 1 + (splitNL s).length + 1 + 1, [120]⟩], [], [[109]]⟩ := by
    conv => lhs; unfold RS.rows
    rw [if_neg (show ¬ 16384 ≤ 0 by omega)]
    show (match RS.line rd L ⟨[], [⟨[109], []⟩], 1, [], [], [[109]], [], [], [[109]]⟩ ⟨[109], 1, [64, 105, 102, 32] ++ name⟩ with | none => none | some r' => RS.rows rd L [109] r' 1 (splitNL s ++ [[64, 101, 110, 100], [120]])) = _
    rw [h1]
    exact h2.trans h3
  rw [hrows]
  show (if RS.fits _ = true then some (RS.shut _) else none).map RS.ans = _
  rw [if_pos (by rfl), shut_none _ (by rfl)]
  show some (Ans.mk _ _ _ _) = _
  rw [show 1 + (splitNL s).length + 1 + 1 = (splitNL s).length + 3 from by omega]
end Go.Proofs.YtfedkhicckgjaaaGreatDoor
