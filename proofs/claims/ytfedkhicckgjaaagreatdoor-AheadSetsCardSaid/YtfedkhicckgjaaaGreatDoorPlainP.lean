/- What is read of a source without words, braces and backslashes. No program is named here. -/
import Derived.Test.YtfedkhicckgjaaaGreatDoorRdOne
import Derived.Test.YtfedkhicckgjaaaGreatDoorBaseA
namespace Go.Proofs.YtfedkhicckgjaaaGreatDoor
set_option linter.unusedVariables false

def plainC (c : UInt8) : Bool := !(c == 64 || c == 123 || c == 92)
def plainB (s : Bytes) : Bool := s.all plainC
theorem plainB_mem {s : Bytes} (h : plainB s = true) {c : UInt8} (hc : c ∈ s) : c ≠ 64 ∧ c ≠ 123 ∧ c ≠ 92 := by
  have := List.all_eq_true.1 h c hc
  unfold plainC at this
  simpa [and_assoc] using this
def numbered (file : Bytes) : Nat → List Bytes → List Pl
  | _, [] => []
  | i, t :: ts => ⟨file, i + 1, t⟩ :: numbered file (i + 1) ts
theorem numbered_len (file : Bytes) : ∀ (ts : List Bytes) (i : Nat), (numbered file i ts).length = ts.length
  | [], _ => rfl
  | t :: ts, i => by unfold numbered; rw [List.length_cons, numbered_len file ts]; rfl

theorem prefix_none {t : Bytes} {c : UInt8} {p : Bytes} (h : ∀ x ∈ t, x ≠ c) : Lib.hasPrefix t (c :: p) = false := by
  unfold Lib.hasPrefix
  cases t with
  | nil => rfl
  | cons x t =>
    have := h x (List.mem_cons_self)
    have h2 : (c == x) = false := by simpa using fun e : c = x => this e.symm
    simp [List.isPrefixOf, h2]
theorem fill_none (r : RS) {t : Bytes} (h : ∀ c ∈ t, c ≠ 123) : r.fill t = r := by
  unfold RS.fill; rw [(fillT_plain r.attrs t h).2]; rfl
theorem line_plain (rd : Rd) (L : List Two) (r : RS) (l : Pl) (hp : plainB l.text = true) (hl : l.text.length ≤ 100000) (hf : r.fits = true) (hfo : r.top.force = true) :
    RS.line rd L r l = some { r with lines := r.lines ++ [l] } := by
  have h1 : Lib.hasPrefix l.text [64] = false := prefix_none fun x hx => (plainB_mem hp hx).1
  have h2 : Lib.hasPrefix l.text [92, 64] = false := prefix_none fun x hx => (plainB_mem hp hx).2.2
  have h3 : ∀ c ∈ l.text, c ≠ 123 := fun x hx => (plainB_mem hp hx).2.1
  have h4 : plainOf l.text = l.text := by unfold plainOf; rw [h2]; rfl
  unfold RS.line
  rw [if_pos ⟨hf, hl⟩, h1, if_neg (by decide), if_pos hfo, h4, fill_none r h3, (fillT_plain r.attrs l.text h3).1]
/-- what stays small over plain lines -/
def RS.fits0 (r : RS) (n : Nat) : Bool :=
  decide (r.attrs.length ≤ 1000000) && r.attrs.all (fun x => decide (x.value.length ≤ 100000)) && decide (r.top.conds.length ≤ 20000) && decide (r.diags.length ≤ 60000) && decide (r.lines.length + n ≤ 20000) && decide (r.files.length ≤ 20000) && decide (r.opens.length ≤ 16)
theorem fits_of0 {r : RS} {n : Nat} (h : r.fits0 n = true) : r.fits = true := by
  unfold RS.fits0 at h
  unfold RS.fits
  simp only [Bool.and_eq_true, decide_eq_true_eq] at *
  refine ⟨⟨⟨⟨⟨⟨h.1.1.1.1.1.1, h.1.1.1.1.1.2⟩, h.1.1.1.1.2⟩, h.1.1.1.2⟩, by omega⟩, h.1.2⟩, h.2⟩
theorem fits0_step {r : RS} {n : Nat} (h : r.fits0 (n + 1) = true) (c : Nat) (l : Pl) : RS.fits0 { r with count := c, lines := r.lines ++ [l] } n = true := by
  unfold RS.fits0 at *
  simp only [Bool.and_eq_true, decide_eq_true_eq, List.length_append, List.length_singleton] at *
  have h5 := h.1.1.2
  exact ⟨⟨⟨⟨⟨⟨h.1.1.1.1.1.1, h.1.1.1.1.1.2⟩, h.1.1.1.1.2⟩, h.1.1.1.2⟩, by omega⟩, h.1.2⟩, h.2⟩
theorem rows_plain (rd : Rd) (L : List Two) (file : Bytes) : ∀ (ts : List Bytes) (i : Nat) (r : RS), (∀ t ∈ ts, plainB t = true ∧ t.length ≤ 100000) → r.top.force = true → r.count + ts.length ≤ 16384 → r.fits0 ts.length = true →
    RS.rows rd L file r i ts = some { r with count := r.count + ts.length, lines := r.lines ++ numbered file i ts }
  | [], i, r, _, _, _, _ => by unfold RS.rows numbered; simp
  | t :: ts, i, r, ht, hf, hc, hs => by
    have h1 := ht t List.mem_cons_self
    rw [List.length_cons] at hc hs
    have h0 : RS.fits { r with count := r.count + 1 } = true := fits_of0 (n := ts.length + 1) hs
    unfold RS.rows
    rw [if_neg (by omega), line_plain rd L { r with count := r.count + 1 } ⟨file, i + 1, t⟩ h1.1 h1.2 h0 hf]
    refine (rows_plain rd L file ts (i + 1) { r with count := r.count + 1, lines := r.lines ++ [⟨file, i + 1, t⟩] } (fun x hx => ht x (List.mem_cons_of_mem _ hx)) hf (by show r.count + 1 + ts.length ≤ 16384; omega) (fits0_step hs _ _)).trans ?_
    show some _ = some _
    congr 1
    have e : numbered file i (t :: ts) = ⟨file, i + 1, t⟩ :: numbered file (i + 1) ts := rfl
    rw [e]
    simp only [List.append_assoc, List.cons_append, List.nil_append, List.length_cons]
    congr 1
    omega
theorem splitNL_mem : ∀ (s : Bytes) (p : Bytes), p ∈ splitNL s → p.length ≤ s.length ∧ ∀ c ∈ p, c ∈ s
  | [], p, h => by
    have : p = [] := by simpa [splitNL] using h
    subst this; exact ⟨Nat.le_refl _, fun c hc => absurd hc (List.not_mem_nil)⟩
  | x :: r, p, h => by
    have ih := splitNL_mem r
    by_cases hx : x = 10
    · subst hx
      rw [splitNL_ten] at h
      rcases List.mem_cons.1 h with rfl | h
      · exact ⟨Nat.zero_le _, fun c hc => absurd hc (List.not_mem_nil)⟩
      · have := ih p h
        exact ⟨by simp; omega, fun c hc => List.mem_cons_of_mem _ (this.2 c hc)⟩
    · obtain ⟨q, qs, e⟩ := splitNL_cons r
      rw [splitNL_other hx e] at h
      rcases List.mem_cons.1 h with rfl | h
      · have := ih q (by rw [e]; exact List.mem_cons_self)
        refine ⟨by simp; omega, fun c hc => ?_⟩
        rcases List.mem_cons.1 hc with rfl | hc
        · exact List.mem_cons_self
        · exact List.mem_cons_of_mem _ (this.2 c hc)
      · have := ih p (by rw [e]; exact List.mem_cons_of_mem _ h)
        exact ⟨by simp; omega, fun c hc => List.mem_cons_of_mem _ (this.2 c hc)⟩
theorem trimNL_mem (s : Bytes) : (trimNL s).length ≤ s.length ∧ ∀ c ∈ trimNL s, c ∈ s := by
  unfold trimNL
  split
  · exact ⟨by simp, fun c hc => List.dropLast_subset _ hc⟩
  · exact ⟨Nat.le_refl _, fun c hc => hc⟩
theorem linesP_mem (s : Bytes) (p : Bytes) (h : p ∈ linesP s) : p.length ≤ s.length ∧ ∀ c ∈ p, c ∈ s := by
  unfold linesP at h
  split at h
  · exact absurd h (List.not_mem_nil)
  · have h1 := splitNL_mem _ _ h
    have h2 := trimNL_mem s
    exact ⟨by omega, fun c hc => h2.2 c (h1.2 c hc)⟩
theorem linesP_plain {s : Bytes} (h : plainB s = true) : ∀ t ∈ linesP s, plainB t = true ∧ t.length ≤ s.length := fun t ht => by
  have h1 := linesP_mem s t ht
  refine ⟨List.all_eq_true.2 fun c hc => List.all_eq_true.1 h c (h1.2 c hc), h1.1⟩
theorem enter_top (r : RS) (n : Bytes) : (r.enter n).top = ⟨n, []⟩ := by unfold RS.top; rw [enter_opens]; simp
theorem enter_lines (r : RS) (n : Bytes) : (r.enter n).lines = r.lines ∧ (r.enter n).count = r.count ∧ (r.enter n).diags = r.diags ∧ (r.enter n).attrs = r.attrs ∧ (r.enter n).asked = r.asked ∧ (r.enter n).done = r.done := by
  unfold RS.enter; split <;> exact ⟨rfl, rfl, rfl, rfl, rfl, rfl⟩
theorem shut_none (r : RS) (h : r.top.conds = []) : r.shut = { r with opens := r.opens.dropLast } := by unfold RS.shut; rw [h]; rfl
/-- a source without words, braces and backslashes is read -/
theorem readG_plain (rd : Rd) (L : List Two) (r : RS) (name text : Bytes) (hp : plainB text = true) (hl : text.length ≤ 100000) (hf : r.files.length ≤ 20000) (ho : r.opens.length ≤ 15)
    (hc : r.count + (linesP text).length ≤ 16384) (h0 : (r.enter name).fits0 (linesP text).length = true) :
    RS.readG rd L r name text = some { r.enter name with count := r.count + (linesP text).length, lines := r.lines ++ numbered name 0 (linesP text), opens := r.opens } := by
  have e := enter_lines r name
  have ht := enter_top r name
  have hfo : (r.enter name).top.force = true := by rw [ht]; rfl
  have hr := rows_plain rd L name (linesP text) 0 (r.enter name) (fun t h => ⟨(linesP_plain hp t h).1, Nat.le_trans (linesP_plain hp t h).2 hl⟩) hfo (by rw [e.2.1]; exact hc) h0
  have hfit : RS.fits { r.enter name with count := (r.enter name).count + (linesP text).length, lines := (r.enter name).lines ++ numbered name 0 (linesP text) } = true := by
    unfold RS.fits0 at h0
    unfold RS.fits
    simp only [Bool.and_eq_true, decide_eq_true_eq, List.length_append, numbered_len] at *
    exact ⟨⟨⟨⟨⟨⟨h0.1.1.1.1.1.1, h0.1.1.1.1.1.2⟩, h0.1.1.1.1.2⟩, h0.1.1.1.2⟩, h0.1.1.2⟩, h0.1.2⟩, h0.2⟩
  unfold RS.readG
  rw [if_pos ⟨hf, ho, by omega⟩, hr]
  show (if RS.fits _ = true then some (RS.shut _) else none) = _
  rw [if_pos hfit, shut_none _ (by show (r.enter name).top.conds = []; rw [ht])]
  show some _ = some _
  congr 1
  have e4 : (r.enter name).opens.dropLast = r.opens := by rw [enter_opens]; simp
  simp only [e4, e.1, e.2.1]
end Go.Proofs.YtfedkhicckgjaaaGreatDoor
