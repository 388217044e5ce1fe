/- One line of the source that is read now: its roads. -/
import Derived.Test.YtfedkhicckgjaaaGreatDoorRdFour
namespace Go.Proofs.YtfedkhicckgjaaaGreatDoor
open Go.RowKit
set_option linter.unusedVariables false

set_option maxHeartbeats 4000000 in
set_option maxRecDepth 100000 in
theorem line_text_true (A : Adr) (L : List Two) (r : RS) (V : Vals) (ss : List Op1) (x : Op1) (w : World) (h : Core A L r V (ss ++ [x]) w) (ht : Top A r.top x w) (hss : ss.length ≤ 900) (l : Pl) (hfit : r.fits = true) (hlen : l.text.length ≤ 100000) (hh : Lib.hasPrefix l.text [64] = false) (hf : r.top.force = true) (hh2 : Lib.hasPrefix l.text [92, 64] = true) (hfn : (fillN l.text.tail).length ≤ 1000000) :
    Calls Tryz.prog 164 #[.pointer (some ⟨A.rb, 0, none⟩), .agg #[.string ⟨l.file.toArray⟩, .int .i64 l.no, .string ⟨l.text.toArray⟩]] w (LineGives A L V ss x w { r.fill l.text.tail with lines := r.lines ++ [⟨l.file, l.no, fillT r.attrs l.text.tail⟩] }) := by
  obtain ⟨f1, f2, f3, f4, f5, f6, f7⟩ := fit_parts hfit
  have HC := Lib.hid h
  have HT := Lib.hid ht
  have HH := Lib.hid hh
  have HF := Lib.hid hf
  have HH2 := Lib.hid hh2
  obtain ⟨a0, d0, hvl⟩ := h.vl.shape
  have HVL : Hid (V.vl = .slice a0 r.lines.length d0) := hvl
  have HFT : Hid (∀ g, Foot A V g → g < w.heap.size) := fun g hg => h.foot_lt hg
  have hrb : A.rb < w.heap.size := h.rb.lt
  have hBs := h.base
  have hl2 : 2 ≤ l.text.length := by
    have := List.isPrefixOf_iff_prefix.1 hh2
    have := this.length_le
    simpa using this
  obtain ⟨i0, hi, hz0, hz1, hz2⟩ := info_parts (show (Tryz.prog.info? 76).map (fun i => (i.zero, i.size, i.bytes)) = some (some (.agg #[.string ⟨#[]⟩, .int .i64 0, .string ⟨#[]⟩]), 3, 40) by kernel_rfl)
  clear hh hf hh2 hvl
  clear h ht
  go_enter Tryz.func164, Tryz.ntmps164
  have hb0 : Below w.heap.size w (w.alloc (.cells #[.string ⟨l.file.toArray⟩, .int .i64 l.no, .string ⟨l.text.toArray⟩] 205)) := (Below.refl _ _).alloc (Nat.le_refl _) _
  have HP0 : Hid (Bk (w.alloc (.cells #[.string ⟨l.file.toArray⟩, .int .i64 l.no, .string ⟨l.text.toArray⟩] 205)) w.heap.size [.string ⟨l.file.toArray⟩, .int .i64 l.no, .string ⟨l.text.toArray⟩] 205) := Bk.new w #[.string ⟨l.file.toArray⟩, .int .i64 l.no, .string ⟨l.text.toArray⟩] 205
  go_wp2_with (first
    | (go_at_call 201; (first | (refine (hasPrefix_any l.text [64] _).mono ?_; rw [HH.out]; rintro e w1 ⟨rfl, rfl⟩) | (refine (hasPrefix_any l.text [92, 64] _).mono ?_; rw [HH2.out]; rintro e w1 ⟨rfl, rfl⟩)))
    | (go_at_call 147; refine (top_any A L r V ss x _ (HC.out.next hb0) (by omega)).mono ?_; rintro e w1 ⟨rfl, hc⟩; have hb1 := hb0.trans (hc.mono hb0.size); have HP1 := Lib.hid (HP0.out.next hc); clear hc)
    | (go_at_call 148; refine (force_any A r.top x _ (HT.out.next hb1) (by omega)).mono ?_; rw [HF.out]; rintro e w2 ⟨rfl, hc⟩; have hb2 := hb1.trans (hc.mono hb1.size); have HP2 := Lib.hid (HP1.out.next hc); clear hc; have p0 := HP2.out.cell 0; have p1 := HP2.out.cell 1; have p2 := HP2.out.cell 2; simp only [List.getElem?_cons_zero, List.getElem?_cons_succ] at p0 p1 p2))
  have c8 : w2.cell? ⟨A.rb, 8, none⟩ = some (.slice a0 r.lines.length d0) := by rw [(HC.out.next hb2).rb.cell, ← HVL.out]; rfl
  have HTP : Hid (RS.top { r.fill l.text.tail with lines := r.lines ++ [⟨l.file, l.no, fillT r.attrs l.text.tail⟩] } = r.top) := by show _ = _; unfold RS.top; show (r.fill l.text.tail).opens.getLast?.getD _ = _; rw [fill_opens]
  have hd2 := hb2.trans ((drew_below w2).mono hb2.size)
  have HC2 := Lib.hid (HC.out.next hd2)
  have HX3 : Hid ((rcells A L.length V (r.fill l.text.tail).count)[8]? = some (.slice a0 r.lines.length d0)) := by show _ = _; rw [← HVL.out]; rfl
  have HRF := Lib.hid (rdfill_any A L r V (ss ++ [x]) w2.drew HC2.out l.text.tail (by first | omega | (simp; omega)) (by omega) f2 hfn)
  have HF3 : Hid (∀ w3, Core A L (r.fill l.text.tail) V (ss ++ [x]) w3 → Step A V w2.drew V w3 → Hid (Core A L (r.fill l.text.tail) V (ss ++ [x]) w3) ∧ Hid (Top A r.top x w3) ∧ Hid (StepT A V x w V x w3) ∧ Hid (Bk w3 w.heap.size [.string ⟨l.file.toArray⟩, .int .i64 l.no, .string ⟨l.text.toArray⟩] 205) ∧ Hid (Bk w3 A.rb (rcells A L.length V (r.fill l.text.tail).count) 89) ∧ Hid (Own w3 A.B 76 3 encL (.slice a0 r.lines.length d0) r.lines) ∧ Hid ((Value.slice a0 r.lines.length d0).ownBlock ≠ some A.rb) ∧ A.rb < w3.heap.size ∧ w.heap.size ≤ w3.heap.size ∧ w3.cell? ⟨A.rb, 8, none⟩ = some (.slice a0 r.lines.length d0) ∧ w3.cell? ⟨w.heap.size, 0, none⟩ = some (.string ⟨l.file.toArray⟩) ∧ w3.cell? ⟨w.heap.size, 1, none⟩ = some (.int .i64 l.no)) := by
    intro w3 hc3 hs3
    have hp3 := hs3.kept.bk (HP2.out.drew) (fun hf => by have := HFT.out _ hf; omega)
    have ho3 : Own w3 A.B 76 3 encL (.slice a0 r.lines.length d0) r.lines := by have := hc3.vl; rw [HVL.out, foldAsk_lines] at this; exact this
    have q0 := hp3.cell 0
    have q1 := hp3.cell 1
    simp only [List.getElem?_cons_zero, List.getElem?_cons_succ] at q0 q1
    exact ⟨hc3, (HT.out.next hd2).step HC2.out hs3, ((StepT.refl A V x w).below hd2).trans (hs3.toT x), hp3, hc3.rb, ho3, ho3.ne_bk hc3.rb (by decide), hc3.rb.lt, by have := hs3.kept.size; have := hd2.size; omega, by rw [hc3.rb.cell, ← HVL.out]; rfl, q0, q1⟩
  go_region_law (first | (refine step_append_lies _ (by rfl) _ _ _ (by rfl) A.B 76 i0 _ 3 40 Tryz.underlying58 hi hz0 hz1 hz2 rfl (by omega) (.slice a0 r.lines.length d0) r.lines.length (r.lines.flatMap encL) (by rfl) ((HO3.out.alloc _)) ⟨w3.heap.size, 0, none⟩ 1 1 [.string ⟨l.file.toArray⟩, .int .i64 l.no, .string ⟨(fillT r.attrs l.text.tail).toArray⟩] (by rfl) (by rfl) (World.news_of_block (cs := #[.string ⟨l.file.toArray⟩, .int .i64 l.no, .string ⟨(fillT r.attrs l.text.tail).toArray⟩]) (t := 76) (fr := (0, 0)) (heap_alloc_new w3 _)) (by simp [Value.oneCell']) (by omega) (by unfold maxLen; omega) (by omega) (by simp; omega) (w3.heap.size + 1) (by simp) ?_; intro gg cap w9 hown1 hgrow hat hlt; have hk9 := Bk.grown (HK3.out.alloc _) hgrow HN3.out; have hp9 := Bk.grown (HP3.out.alloc _) hgrow (HO3.out.ne_bk HP3.out (by decide)); have z2 := hk9.free 8; have x8 := (hk9.cell 8).trans HX3.out; have x0 := hp9.cell 0; have x1 := hp9.cell 1; simp only [List.getElem?_cons_zero, List.getElem?_cons_succ] at x0 x1) | (go_simp; go_at_call 158; refine HRF.out.mono ?_; rintro e w3 ⟨rfl, hc3, hs3⟩; obtain ⟨HC3, HT3, HS3, HP3, HK3, HO3, HN3, hlt3, hz3, z8, y0, y1⟩ := HF3.out w3 hc3 hs3; clear hc3 hs3; dsimp only))
  all_goals
    go_wp2
    go_end0
    have hggk : gg ≠ A.rb := by
      rcases hat with h | h
      · intro e; rw [e] at h; exact HN3.out h
      · omega
    have hSt : Kept (fun g => g = A.rb ∨ V.vl.ownBlock = some g) w3 w9 := Kept.grown ((Kept.refl _ w3).alloc _) hgrow (fun g h => .inr (by rw [HVL.out]; exact h))
    have hl := HC3.out.line1 (y := ⟨l.file, l.no, fillT r.attrs l.text.tail⟩) (gg := gg) (cap := cap) hSt hk9
    rw [foldAsk_lines] at hl
    obtain ⟨V', h1, h2⟩ := hl hown1 hggk (by rcases hat with h | h; exact .inl (by rw [HVL.out]; exact h); exact .inr (by omega))
    exact ⟨rfl, V', x, h1, by rw [HTP.out]; exact HT3.out.step HC3.out h2, HS3.out.trans (h2.toT x)⟩
end Go.Proofs.YtfedkhicckgjaaaGreatDoor
