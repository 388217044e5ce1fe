/- What is read of a source that takes in a plain one, so many times. No program is named here. -/
import Derived.Test.YtfedkhicckgjaaaGreatDoorPlainP
import Derived.Test.YtfedkhicckgjaaaGreatDoorPartsP
namespace Go.Proofs.YtfedkhicckgjaaaGreatDoor
set_option linter.unusedVariables false

def incL : Bytes := [64, 105, 110, 99, 108, 117, 100, 101, 32, 112, 97, 114, 116]
def partB : Bytes := [112, 97, 114, 116]
def firstB : Bytes := [102, 105, 114, 115, 116]
def lastB : Bytes := [108, 97, 115, 116]
def incRest : Nat → Bytes
  | 0 => lastB
  | n + 1 => incL ++ 10 :: incRest n
def incText (n : Nat) : Bytes := firstB ++ 10 :: incRest n
theorem incRest_lines : ∀ n, linesP (incRest n) = List.replicate n incL ++ [lastB]
  | 0 => rfl
  | n + 1 => by
    show linesP (incL ++ 10 :: incRest n) = _
    rw [linesP_app, incRest_lines n, List.replicate_succ]; rfl
theorem incText_lines (n : Nat) : linesP (incText n) = firstB :: (List.replicate n incL ++ [lastB]) := by
  unfold incText
  rw [linesP_app, incRest_lines]; rfl
/-- what the loop of the law makes of it -/
def incHead : Nat → Bytes
  | 0 => firstB ++ [10]
  | n + 1 => incHead n ++ (incL ++ [10])
theorem incHead_app : ∀ n t, incHead n ++ t = firstB ++ 10 :: ((List.replicate n (incL ++ [10])).flatten ++ t)
  | 0, t => by simp [incHead]
  | n + 1, t => by
    show incHead n ++ (incL ++ [10]) ++ t = _
    rw [List.append_assoc, incHead_app n, List.replicate_succ', List.flatten_append]
    simp
theorem incRest_eq : ∀ n, incRest n = (List.replicate n (incL ++ [10])).flatten ++ lastB
  | 0 => rfl
  | n + 1 => by
    show incL ++ 10 :: incRest n = _
    rw [incRest_eq n, List.replicate_succ, List.flatten_cons]
    simp
theorem incHead_text (n : Nat) : incHead n ++ lastB = incText n := by
  rw [incHead_app]; unfold incText; rw [incRest_eq]

/-- a line that takes in the plain source -/
theorem inc_line (L : List Two) (f : Nat) (r : RS) (no : Nat) (s : Bytes) (hs : srcL L partB = some s) (hp : plainB s = true) (hl : s.length ≤ 100000) (ho : r.opens = [⟨[109], []⟩]) (ha : r.attrs = []) (hd : r.diags = []) (hf : r.files.length ≤ 2)
    (hc : r.count + (linesP s).length ≤ 16384) (hn : r.lines.length + (linesP s).length ≤ 20000) :
    RS.line (RS.read L (f + 1)) L r ⟨[109], no, incL⟩ = some { r.enter partB with count := r.count + (linesP s).length, lines := r.lines ++ numbered partB 0 (linesP s), opens := r.opens } := by
  have htop : r.top = ⟨[109], []⟩ := by unfold RS.top; rw [ho]; rfl
  have hfit : r.fits = true := by
    unfold RS.fits
    rw [htop, ha, hd, ho]
    simp only [List.length_nil, List.all_nil, List.length_singleton, Bool.and_eq_true, decide_eq_true_eq]
    refine ⟨⟨⟨⟨⟨⟨by omega, trivial⟩, by omega⟩, by omega⟩, by omega⟩, by omega⟩, by omega⟩
  have h0 : (r.enter partB).fits0 (linesP s).length = true := by
    have e := enter_lines r partB
    have hf2 : (r.enter partB).files.length ≤ 3 := by
      unfold RS.enter
      split
      · show r.files.length ≤ 3; omega
      · show (r.files ++ [partB]).length ≤ 3; simp; omega
    unfold RS.fits0
    rw [enter_top, e.2.2.2.1, e.2.2.1, e.1, enter_opens, ha, hd, ho]
    simp only [List.length_nil, List.all_nil, Bool.and_eq_true, decide_eq_true_eq]
    refine ⟨⟨⟨⟨⟨⟨by omega, trivial⟩, by omega⟩, by omega⟩, by omega⟩, by omega⟩, by simp⟩
  have hforce : ¬ (r.top.force = false) := by rw [htop]; decide
  have hany : ¬ (r.opens.any (fun x => x.name == partB) = true) := by rw [ho]; decide
  have hlen : ¬ 16 ≤ r.opens.length := by rw [ho]; decide
  unfold RS.line
  rw [if_pos ⟨hfit, (by show incL.length ≤ 100000; decide)⟩, if_pos (show Lib.hasPrefix incL [64] = true by decide), if_pos (show idxOk incL = true by decide)]
  have e1 : wordOf incL = [64, 105, 110, 99, 108, 117, 100, 101] := by decide
  have e2 : restOf incL = partB := by decide
  show RS.word (RS.read L (f + 1)) L r ⟨[109], no, incL⟩ (wordOf incL) (restOf incL) = _
  rw [e1, e2]
  unfold RS.word
  rw [if_neg (by decide), if_neg (by decide), if_neg (by decide), if_neg hforce, if_pos rfl]
  unfold RS.include
  rw [if_pos (by decide), if_neg hany, if_neg hlen, hs]
  exact readG_plain (RS.read L f) L r partB s hp hl (by omega) (by rw [ho]; decide) hc h0

/-- the rows of the source that takes it in -/
theorem inc_rows (L : List Two) (f : Nat) (s : Bytes) (hs : srcL L partB = some s) (hp : plainB s = true) (hl : s.length ≤ 300) : ∀ (n i : Nat) (r : RS), r.opens = [⟨[109], []⟩] → r.attrs = [] → r.diags = [] → r.asked = [] →
    (r.begun = [[109]] ∧ r.files = [[109]] ∨ r.begun = [[109], partB] ∧ r.files = [[109], partB]) → r.count + n * 301 + 1 ≤ 16384 → r.lines.length + n * 300 + 1 ≤ 20000 →
    ∃ r', RS.rows (RS.read L (f + 1)) L [109] r i (List.replicate n incL ++ [lastB]) = some r' ∧ r'.opens = [⟨[109], []⟩] ∧ r'.attrs = [] ∧ r'.diags = [] ∧ r'.asked = [] ∧
      r'.lines = r.lines ++ (List.replicate n (numbered partB 0 (linesP s))).flatten ++ [⟨[109], i + n + 1, lastB⟩] ∧ r'.files = (if n = 0 then r.files else [[109], partB]) ∧ r'.lines.length ≤ 20000
  | 0, i, r, ho, ha, hd, hk, hb, hc, hn => by
    have htop : r.top = ⟨[109], []⟩ := by unfold RS.top; rw [ho]; rfl
    have hf : r.files.length ≤ 2 := by rcases hb with ⟨_, h⟩ | ⟨_, h⟩ <;> rw [h] <;> decide
    have h0 : r.fits0 1 = true := by
      unfold RS.fits0
      rw [htop, ha, hd, ho]
      simp only [List.length_nil, List.all_nil, List.length_singleton, Bool.and_eq_true, decide_eq_true_eq]
      refine ⟨⟨⟨⟨⟨⟨by omega, trivial⟩, by omega⟩, by omega⟩, by omega⟩, by omega⟩, by omega⟩
    refine ⟨_, rows_plain (RS.read L (f + 1)) L [109] [lastB] i r (fun t ht => by rw [List.mem_singleton] at ht; subst ht; decide) (by rw [htop]; rfl) (by show r.count + 1 ≤ 16384; omega) h0, ho, ha, hd, hk, ?_, ?_, ?_⟩
    · show r.lines ++ [⟨[109], i + 1, lastB⟩] = _
      simp
    · rw [if_pos rfl]
    · show (r.lines ++ [_]).length ≤ 20000
      simp; omega
  | n + 1, i, r, ho, ha, hd, hk, hb, hc, hn => by
    have hll := linesP_le s
    have hf : r.files.length ≤ 2 := by rcases hb with ⟨_, h⟩ | ⟨_, h⟩ <;> rw [h] <;> decide
    have h1 := inc_line L f { r with count := r.count + 1 } (i + 1) s hs hp (by omega) ho ha hd hf (by show r.count + 1 + _ ≤ _; omega) (by show r.lines.length + _ ≤ _; omega)
    have hbf : (RS.enter { r with count := r.count + 1 } partB).begun = [[109], partB] ∧ (RS.enter { r with count := r.count + 1 } partB).files = [[109], partB] := by
      unfold RS.enter
      rcases hb with ⟨h2, h3⟩ | ⟨h2, h3⟩
      · rw [if_neg (by show ¬ (r.begun.contains partB = true); rw [h2]; decide)]
        exact ⟨by show r.begun ++ [partB] = _; rw [h2]; rfl, by show r.files ++ [partB] = _; rw [h3]; rfl⟩
      · rw [if_pos (by show r.begun.contains partB = true; rw [h2]; decide)]
        exact ⟨h2, h3⟩
    have e := enter_lines { r with count := r.count + 1 } partB
    obtain ⟨r', g1, g2, g3, g4, g5, g6, g7, g8⟩ := inc_rows L f s hs hp hl n (i + 1) { RS.enter { r with count := r.count + 1 } partB with count := r.count + 1 + (linesP s).length, lines := r.lines ++ numbered partB 0 (linesP s), opens := r.opens }
      ho (e.2.2.2.1.trans ha) (e.2.2.1.trans hd) (e.2.2.2.2.1.trans hk) (.inr hbf) (by show r.count + 1 + _ + n * 301 + 1 ≤ _; omega) (by show (r.lines ++ _).length + _ + 1 ≤ _; rw [List.length_append, numbered_len]; omega)
    refine ⟨r', ?_, g2, g3, g4, g5, ?_, ?_, g8⟩
    · rw [List.replicate_succ, List.cons_append]
      unfold RS.rows
      rw [if_neg (by omega), h1]
      exact g1
    · rw [g6, List.replicate_succ, List.flatten_cons]
      show r.lines ++ numbered partB 0 (linesP s) ++ _ ++ [⟨[109], i + 1 + n + 1, lastB⟩] = _
      rw [show i + 1 + n + 1 = i + (n + 1) + 1 from by omega]
      simp
    · rw [g7]
      split
      · exact hbf.2.trans (by simp)
      · simp
/-- all of it -/
theorem readP_inc (n : Nat) (hn : 1 ≤ n ∧ n ≤ 5) (s : Bytes) (hp : plainB s = true) (hl : s.length ≤ 300) :
    (readP [⟨[109], incText n⟩, ⟨partB, s⟩] [] [109] (incText n)).map RS.ans = some ⟨⟨[109], 1, firstB⟩ :: ((List.replicate n (numbered partB 0 (linesP s))).flatten ++ [⟨[109], n + 2, lastB⟩]), [], [[109], partB], []⟩ := by
  have hs : srcL [⟨[109], incText n⟩, ⟨partB, s⟩] partB = some s := rfl
  have hlen : (incText n).length ≤ 1048576 := by
    have : ∀ k, (incRest k).length = 14 * k + 4 := fun k => by
      induction k with
      | zero => rfl
      | succ k ih => show (incL ++ 10 :: incRest k).length = _; simp [ih, incL]; omega
    unfold incText
    simp [this, firstB]; omega
  unfold readP
  show (RS.readG (RS.read _ 16) [⟨[109], incText n⟩, ⟨partB, s⟩] (RS.new []) [109] (incText n)).map RS.ans = _
  unfold RS.readG
  rw [if_pos ⟨by show 0 ≤ _; omega, by show 0 ≤ _; omega, hlen⟩, incText_lines]
  have e : (RS.new []).enter [109] = ⟨[], [⟨[109], []⟩], 0, [], [], [[109]], [], [], [[109]]⟩ := rfl
  rw [e]
  have h1 := line_plain (RS.read [⟨[109], incText n⟩, ⟨partB, s⟩] 16) [⟨[109], incText n⟩, ⟨partB, s⟩] ⟨[], [⟨[109], []⟩], 1, [], [], [[109]], [], [], [[109]]⟩ ⟨[109], 1, firstB⟩ (by decide) (by decide) (by decide) (by decide)
  obtain ⟨r', g1, g2, g3, g4, g5, g6, g7, g8⟩ := inc_rows [⟨[109], incText n⟩, ⟨partB, s⟩] 15 s hs hp hl n 1 ⟨[], [⟨[109], []⟩], 1, [], [], [[109]], [⟨[109], 1, firstB⟩], [], [[109]]⟩ rfl rfl rfl rfl (.inl ⟨rfl, rfl⟩) (by show 1 + _ + 1 ≤ _; omega) (by show 1 + _ + 1 ≤ _; omega)
  have hrows : RS.rows (RS.read [⟨[109], incText n⟩, ⟨partB, s⟩] 16) [⟨[109], incText n⟩, ⟨partB, s⟩] [109] ⟨[], [⟨[109], []⟩], 0, [], [], [[109]], [], [], [[109]]⟩ 0 (firstB :: (List.replicate n incL ++ [lastB])) = some r' := by
    unfold RS.rows
    rw [if_neg (by show ¬ 16384 ≤ 0; omega)]
    show (match RS.line (RS.read [⟨[109], incText n⟩, ⟨partB, s⟩] 16) [⟨[109], incText n⟩, ⟨partB, s⟩] (⟨[], [⟨[109], []⟩], 1, [], [], [[109]], [], [], [[109]]⟩ : RS) ⟨[109], 1, firstB⟩ with | none => none | some r' => RS.rows (RS.read [⟨[109], incText n⟩, ⟨partB, s⟩] 16) [⟨[109], incText n⟩, ⟨partB, s⟩] [109] r' 1 (List.replicate n incL ++ [lastB])) = _
    rw [h1]
    exact g1
  rw [hrows]
  have htop : r'.top = ⟨[109], []⟩ := by unfold RS.top; rw [g2]; rfl
  have hfiles : r'.files = [[109], partB] := by rw [g7, if_neg (by omega)]
  have hfit : r'.fits = true := by
    unfold RS.fits
    rw [htop, g2, g3, g4, hfiles]
    simp only [List.length_nil, List.all_nil, List.length_singleton, Bool.and_eq_true, decide_eq_true_eq]
    refine ⟨⟨⟨⟨⟨⟨by omega, trivial⟩, by omega⟩, by omega⟩, g8⟩, by decide⟩, by omega⟩
  show ((if r'.fits = true then some r'.shut else none).map RS.ans) = _
  rw [if_pos hfit, shut_none _ (by rw [htop])]
  show some (Ans.mk r'.lines r'.diags r'.files r'.asked) = _
  rw [g6, g4, hfiles, g5, show 1 + n + 1 = n + 2 from by omega]
  rfl
end Go.Proofs.YtfedkhicckgjaaaGreatDoor
