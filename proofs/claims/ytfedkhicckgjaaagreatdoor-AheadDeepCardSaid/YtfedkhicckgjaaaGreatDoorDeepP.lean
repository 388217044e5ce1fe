/- What is read of sources that take in one another. No program is named here. -/
import Derived.Test.YtfedkhicckgjaaaGreatDoorPlainP
namespace Go.Proofs.YtfedkhicckgjaaaGreatDoor
set_option linter.unusedVariables false

def nmC (i : Nat) : Bytes := [115, UInt8.ofNat (97 + i)]
def incC (i : Nat) : Bytes := [64, 105, 110, 99, 108, 117, 100, 101, 32, 115, UInt8.ofNat (98 + i)]
def txC (i : Nat) : Bytes := 120 :: 10 :: incC i
def namesC (k : Nat) : List Bytes := (List.range k).map nmC
def opensC (k : Nat) : List SrcS := (List.range k).map fun i => ⟨nmC i, []⟩
def chainL (k : Nat) : List Two := (List.range k).map fun i => ⟨nmC i, txC i⟩
def otherB : Bytes := [111, 116, 104, 101, 114]
def moreL (k : Nat) (s : Bytes) : List Two := chainL k ++ [⟨nmC k, s⟩, ⟨otherB, s⟩]
def xLines (k : Nat) : List Pl := (List.range k).map fun i => ⟨nmC i, 1, [120]⟩
theorem all_lt {p : Nat → Bool} {n : Nat} (h : (List.range n).all p = true) (i : Nat) (hi : i < n) : p i = true := List.all_eq_true.1 h i (List.mem_range.2 hi)

/-- open too deep: what stands behind makes no difference -/
def deepAns : Ans := ⟨xLines 16, [⟨nmC 15, 2, 5, nmC 16⟩], namesC 16, []⟩
theorem readP_deep (k : Nat) (h : 16 ≤ k ∧ k ≤ 20) : (readP (chainL k) [] (nmC 0) (txC 0)).map RS.ans = some deepAns := by
  obtain rfl | rfl | rfl | rfl | rfl : k = 16 ∨ k = 17 ∨ k = 18 ∨ k = 19 ∨ k = 20 := by omega
  all_goals kernel_rfl
theorem readP_deepM (k : Nat) (h : 16 ≤ k ∧ k ≤ 20) (s : Bytes) : (readP (moreL k s) [] (nmC 0) (txC 0)).map RS.ans = some deepAns := by
  obtain rfl | rfl | rfl | rfl | rfl : k = 16 ∨ k = 17 ∨ k = 18 ∨ k = 19 ∨ k = 20 := by omega
  all_goals kernel_rfl
/-- the last one is missed -/
def lowAns (k : Nat) : Ans := ⟨xLines k, [⟨nmC (k - 1), 2, 1, nmC k⟩], namesC k, []⟩
theorem readP_low (k : Nat) (h : 1 ≤ k ∧ k < 16) : (readP (chainL k) [] (nmC 0) (txC 0)).map RS.ans = some (lowAns k) := by
  obtain rfl | rfl | rfl | rfl | rfl | rfl | rfl | rfl | rfl | rfl | rfl | rfl | rfl | rfl | rfl : k = 1 ∨ k = 2 ∨ k = 3 ∨ k = 4 ∨ k = 5 ∨ k = 6 ∨ k = 7 ∨ k = 8 ∨ k = 9 ∨ k = 10 ∨ k = 11 ∨ k = 12 ∨ k = 13 ∨ k = 14 ∨ k = 15 := by omega
  all_goals kernel_rfl

/-! ### the last one is there: a plain text -/
theorem txC_lines (i : Nat) (h : i < 20) : linesP (txC i) = [[120], incC i] :=
  of_decide_eq_true (all_lt (p := fun i => decide (linesP (txC i) = [[120], incC i])) (n := 20) (by kernel_rfl) i h)
theorem incC_is (i : Nat) (h : i < 20) : wordOf (incC i) = [64, 105, 110, 99, 108, 117, 100, 101] ∧ restOf (incC i) = nmC (i + 1) ∧ Lib.hasPrefix (incC i) [64] = true ∧ idxOk (incC i) = true ∧ pathB (nmC (i + 1)) = true :=
  of_decide_eq_true (all_lt (p := fun i => decide (wordOf (incC i) = [64, 105, 110, 99, 108, 117, 100, 101] ∧ restOf (incC i) = nmC (i + 1) ∧ Lib.hasPrefix (incC i) [64] = true ∧ idxOk (incC i) = true ∧ pathB (nmC (i + 1)) = true)) (n := 20) (by kernel_rfl) i h)
theorem opensC_any (i : Nat) (h : i < 20) : (opensC (i + 1)).any (fun s => s.name == nmC (i + 1)) = false :=
  by have := all_lt (p := fun i => !(opensC (i + 1)).any (fun s => s.name == nmC (i + 1))) (n := 20) (by kernel_rfl) i h; simpa using this
theorem namesC_not (i : Nat) (h : i < 20) : (namesC i).contains (nmC i) = false := by
  have := all_lt (p := fun i => !(namesC i).contains (nmC i)) (n := 20) (by kernel_rfl) i h; simpa using this
theorem opensC_succ (j : Nat) : opensC (j + 1) = opensC j ++ [⟨nmC j, []⟩] := by unfold opensC; rw [List.range_succ, List.map_append]; rfl
theorem namesC_succ (j : Nat) : namesC (j + 1) = namesC j ++ [nmC j] := by unfold namesC; rw [List.range_succ, List.map_append]; rfl
theorem opensC_len (j : Nat) : (opensC j).length = j := by simp [opensC]
theorem namesC_len (j : Nat) : (namesC j).length = j := by simp [namesC]

/-- what is so while sources take in one another -/
structure ChSt (r : RS) (j : Nat) : Prop where
  opens : r.opens = opensC j
  attrs : r.attrs = []
  diags : r.diags = []
  asked : r.asked = []
theorem ch_read (L : List Two) (k : Nat) (s : Bytes) (hk : 1 ≤ k ∧ k ≤ 15) (hL : ∀ j, j < k → srcL L (nmC j) = some (txC j)) (hs : srcL L (nmC k) = some s) (hp : plainB s = true) (hl : s.length ≤ 500) :
    ∀ d j, j + d = k → ∀ f, d + 1 ≤ f → ∀ r : RS, ChSt r j → r.begun = namesC j → r.files = namesC j → r.count = 2 * j → r.lines.length = j →
    ∃ r', RS.read L f r (nmC j) (if d = 0 then s else txC j) = some r' ∧ ChSt r' j ∧ r'.files = namesC (k + 1) ∧ r'.lines.length = k + (linesP s).length
  | 0, j, hj, f, hf, r, hr, hb, hfi, hc, hn => by
    obtain ⟨f, rfl⟩ : ∃ g, f = g + 1 := ⟨f - 1, by omega⟩
    have hll := linesP_le s
    have hjk : j = k := by omega
    have hnot : ¬ (r.begun.contains (nmC j) = true) := by rw [hb, namesC_not j (by omega)]; decide
    have e := enter_lines r (nmC j)
    have h0 : (r.enter (nmC j)).fits0 (linesP s).length = true := by
      unfold RS.fits0
      rw [enter_top, e.2.2.2.1, e.2.2.1, e.1, enter_opens, hr.attrs, hr.diags, hr.opens]
      have hf2 : (r.enter (nmC j)).files.length ≤ 17 := by
        unfold RS.enter
        rw [if_neg hnot]
        show (r.files ++ [nmC j]).length ≤ 17
        rw [hfi, List.length_append, namesC_len, List.length_singleton]; omega
      simp only [List.length_nil, List.all_nil, Bool.and_eq_true, decide_eq_true_eq]
      refine ⟨⟨⟨⟨⟨⟨by omega, trivial⟩, by omega⟩, by omega⟩, by omega⟩, by omega⟩, ?_⟩
      rw [List.length_append, opensC_len, List.length_singleton]; omega
    refine ⟨_, readG_plain (RS.read L f) L r (nmC j) s hp (by omega) (by rw [hfi, namesC_len]; omega) (by rw [hr.opens, opensC_len]; omega) (by omega) h0, ⟨hr.opens, e.2.2.2.1.trans hr.attrs, e.2.2.1.trans hr.diags, e.2.2.2.2.1.trans hr.asked⟩, ?_, ?_⟩
    · show (r.enter (nmC j)).files = _
      unfold RS.enter
      rw [if_neg hnot]
      show r.files ++ [nmC j] = _
      rw [hfi, ← namesC_succ, hjk]
    · show (r.lines ++ numbered (nmC j) 0 (linesP s)).length = _
      rw [List.length_append, numbered_len, hn, hjk]
  | d + 1, j, hj, f, hf, r, hr, hb, hfi, hc, hn => by
    obtain ⟨f, rfl⟩ : ∃ g, f = g + 1 := ⟨f - 1, by omega⟩
    have hnot : ¬ (r.begun.contains (nmC j) = true) := by rw [hb, namesC_not j (by omega)]; decide
    have e := enter_lines r (nmC j)
    have htl := txC_lines j (by omega)
    obtain ⟨i1, i2, i3, i4, i5⟩ := incC_is j (by omega)
    have hent : r.enter (nmC j) = { r with begun := namesC (j + 1), files := namesC (j + 1), opens := opensC (j + 1) } := by
      unfold RS.enter
      rw [if_neg hnot, hr.opens, opensC_succ, namesC_succ, hb, hfi]
    have hlen : (txC j).length ≤ 1048576 := by unfold txC incC; simp
    -- behind the first line
    have htop : ∀ (c : Nat) (ls : List Pl), RS.top { r with begun := namesC (j + 1), files := namesC (j + 1), opens := opensC (j + 1), count := c, lines := ls } = ⟨nmC j, []⟩ := fun c ls => by
      unfold RS.top; rw [opensC_succ]; simp
    have hfit : ∀ (c : Nat) (ls : List Pl), ls.length ≤ 100 → RS.fits { r with begun := namesC (j + 1), files := namesC (j + 1), opens := opensC (j + 1), count := c, lines := ls } = true := fun c ls hls => by
      unfold RS.fits
      rw [htop]
      show (decide (r.attrs.length ≤ _) && r.attrs.all _ && decide _ && decide (r.diags.length ≤ _) && decide (ls.length ≤ _) && decide ((namesC (j + 1)).length ≤ _) && decide ((opensC (j + 1)).length ≤ _)) = true
      rw [hr.attrs, hr.diags, namesC_len, opensC_len]
      simp only [List.length_nil, List.all_nil, Bool.and_eq_true, decide_eq_true_eq]
      refine ⟨⟨⟨⟨⟨⟨by omega, trivial⟩, by omega⟩, by omega⟩, by omega⟩, by omega⟩, by omega⟩
    have h1 := line_plain (RS.read L f) L { r with begun := namesC (j + 1), files := namesC (j + 1), opens := opensC (j + 1), count := r.count + 1 } ⟨nmC j, 1, [120]⟩ (show plainB [120] = true by decide) (show ([120] : Bytes).length ≤ 100000 by decide) (hfit _ r.lines (by omega)) (by rw [htop _ r.lines]; rfl)
    obtain ⟨r', g1, g2, g3, g4⟩ := ch_read L k s hk hL hs hp hl d (j + 1) (by omega) f (by omega) { r with begun := namesC (j + 1), files := namesC (j + 1), opens := opensC (j + 1), count := r.count + 1 + 1, lines := r.lines ++ [⟨nmC j, 1, [120]⟩] } ⟨rfl, hr.attrs, hr.diags, hr.asked⟩ rfl rfl (by show r.count + 1 + 1 = _; omega) (by show (r.lines ++ [_]).length = _; simp; omega)
    have hsrc : srcL L (nmC (j + 1)) = some (if d = 0 then s else txC (j + 1)) := by
      by_cases hd : d = 0
      · rw [if_pos hd, show j + 1 = k from by omega, hs]
      · rw [if_neg hd, hL (j + 1) (by omega)]
    have h2 : RS.line (RS.read L f) L { r with begun := namesC (j + 1), files := namesC (j + 1), opens := opensC (j + 1), count := r.count + 1 + 1, lines := r.lines ++ [⟨nmC j, 1, [120]⟩] } ⟨nmC j, 2, incC j⟩ = some r' := by
      unfold RS.line
      rw [if_pos ⟨hfit _ (r.lines ++ [⟨nmC j, 1, [120]⟩]) (by simp; omega), (by show (incC j).length ≤ 100000; simp [incC])⟩]
      show (if Lib.hasPrefix (incC j) [64] = true then (if idxOk (incC j) = true then RS.word _ _ _ _ (wordOf (incC j)) (restOf (incC j)) else none) else _) = _
      rw [if_pos i3, if_pos i4, i1, i2]
      unfold RS.word
      rw [if_neg (by decide), if_neg (by decide), if_neg (by decide), htop (r.count + 1 + 1) (r.lines ++ [(⟨nmC j, 1, [120]⟩ : Pl)]), show (SrcS.mk (nmC j) []).force = true from rfl, if_neg (by decide), if_pos rfl]
      unfold RS.include
      rw [if_pos i5]
      show (if (opensC (j + 1)).any _ = true then _ else if 16 ≤ (opensC (j + 1)).length then _ else _) = _
      rw [opensC_any j (by omega), if_neg (by decide), opensC_len, if_neg (by omega), hsrc]
      exact g1
    have hll := linesP_le s
    have htop2 : r'.top = ⟨nmC j, []⟩ := by unfold RS.top; rw [g2.opens, opensC_succ]; simp
    have hfit2 : r'.fits = true := by
      unfold RS.fits
      rw [htop2, g2.attrs, g2.diags, g2.opens, g3, namesC_len, opensC_len, g4]
      simp only [List.length_nil, List.all_nil, Bool.and_eq_true, decide_eq_true_eq]
      refine ⟨⟨⟨⟨⟨⟨by omega, trivial⟩, by omega⟩, by omega⟩, by omega⟩, by omega⟩, by omega⟩
    have hsh : r'.shut = { r' with opens := opensC j } := by
      rw [shut_none _ (by rw [htop2]), g2.opens, opensC_succ]; simp
    refine ⟨{ r' with opens := opensC j }, ?_, ⟨rfl, g2.attrs, g2.diags, g2.asked⟩, g3, g4⟩
    rw [if_neg (by omega)]
    show RS.readG (RS.read L f) L r (nmC j) (txC j) = _
    unfold RS.readG
    rw [if_pos ⟨by rw [hfi, namesC_len]; omega, by rw [hr.opens, opensC_len]; omega, hlen⟩, htl, hent]
    have hrows : RS.rows (RS.read L f) L (nmC j) { r with begun := namesC (j + 1), files := namesC (j + 1), opens := opensC (j + 1) } 0 [[120], incC j] = some r' := by
      unfold RS.rows
      rw [if_neg (show ¬ 16384 ≤ r.count by omega)]
      show (match RS.line (RS.read L f) L { r with begun := namesC (j + 1), files := namesC (j + 1), opens := opensC (j + 1), count := r.count + 1 } ⟨nmC j, 1, [120]⟩ with | none => none | some r' => RS.rows (RS.read L f) L (nmC j) r' 1 [incC j]) = _
      rw [h1]
      show RS.rows (RS.read L f) L (nmC j) { r with begun := namesC (j + 1), files := namesC (j + 1), opens := opensC (j + 1), count := r.count + 1, lines := r.lines ++ [⟨nmC j, 1, [120]⟩] } 1 [incC j] = _
      unfold RS.rows
      rw [if_neg (show ¬ 16384 ≤ r.count + 1 by omega)]
      show (match RS.line (RS.read L f) L { r with begun := namesC (j + 1), files := namesC (j + 1), opens := opensC (j + 1), count := r.count + 1 + 1, lines := r.lines ++ [⟨nmC j, 1, [120]⟩] } ⟨nmC j, 2, incC j⟩ with | none => none | some r' => RS.rows (RS.read L f) L (nmC j) r' 2 []) = _
      rw [h2]
      rfl
    rw [hrows]
    show (if r'.fits = true then some r'.shut else none) = _
    rw [if_pos hfit2, hsh]
theorem srcL_app {l m : List Two} {n t : Bytes} (h : srcL l n = some t) : srcL (l ++ m) n = some t := by
  unfold srcL at *
  rw [List.find?_append]
  cases hf : l.find? (fun x => x.name == n) with
  | none => rw [hf] at h; cases h
  | some x => rw [hf] at h; exact h
/-- where the last one is there -/
theorem readP_more (k : Nat) (h : 1 ≤ k ∧ k < 16) (s : Bytes) (hp : plainB s = true) (hl : s.length ≤ 500) :
    ∃ a : Ans, (readP (moreL k s) [] (nmC 0) (txC 0)).map RS.ans = some a ∧ a.diags = [] ∧ a.asked = [] ∧ a.files.length = k + 1 ∧ a.lines.length = k + (linesP s).length := by
  have hL : ∀ j, j < k → srcL (moreL k s) (nmC j) = some (txC j) := fun j hj => by
    have h1 := all_lt (p := fun k => (List.range k).all fun j => decide (srcL (chainL k) (nmC j) = some (txC j))) (n := 16) (by kernel_rfl) k h.2
    exact srcL_app (of_decide_eq_true (all_lt h1 j hj))
  have hs : srcL (moreL k s) (nmC k) = some s := by
    obtain rfl | rfl | rfl | rfl | rfl | rfl | rfl | rfl | rfl | rfl | rfl | rfl | rfl | rfl | rfl : k = 1 ∨ k = 2 ∨ k = 3 ∨ k = 4 ∨ k = 5 ∨ k = 6 ∨ k = 7 ∨ k = 8 ∨ k = 9 ∨ k = 10 ∨ k = 11 ∨ k = 12 ∨ k = 13 ∨ k = 14 ∨ k = 15 := by omega
    all_goals kernel_rfl
  obtain ⟨r', h1, h2, h3, h4⟩ := ch_read (moreL k s) k s ⟨h.1, by omega⟩ hL hs hp hl k 0 (by omega) 17 (by omega) (RS.new []) ⟨rfl, rfl, rfl, rfl⟩ rfl rfl rfl rfl
  rw [if_neg (by omega)] at h1
  refine ⟨r'.ans, ?_, h2.diags, h2.asked, ?_, h4⟩
  · unfold readP
    show (RS.read (moreL k s) 17 (RS.new []) (nmC 0) (txC 0)).map RS.ans = _
    rw [h1]; rfl
  · show r'.files.length = _
    rw [h3, namesC_len]
end Go.Proofs.YtfedkhicckgjaaaGreatDoor
