/- ahead's reader: @if. ahead's reader: @else, @end. ahead's reader: is a source open already? ahead's reader: @include. ahead's words, and the roads of @if, @else, @end joined. ahead.words: what each word does. ahead's reader: a source is opened; one line more is come to; a source is shut. -/
import Derived.Test.YtfedkhicckgjaaaGreatDoorRdTwo
import Derived.Deep.RegionHeld3
import Derived.Deep.AppendLies
import Derived.Deep.DrawnRows
import Derived.StillTailTactics
import Derived.Test.YtfedkhicckgjaaaGreatDoorFindS
import Derived.Test.YtfedkhicckgjaaaGreatDoorPath
import Derived.Test.YtfedkhicckgjaaaGreatDoorRdOne
namespace Go.Proofs.YtfedkhicckgjaaaGreatDoor
open Go.RowKit
set_option linter.unusedVariables false

theorem slconds : SlTy Tryz.prog 214 209 6 48 := ⟨Tryz.underlying214, .agg #[.string ⟨#[]⟩, .int .i64 0, .string ⟨#[]⟩, .bool false, .bool false, .bool false], by kernel_rfl, rfl, by decide⟩

/-- one condition more -/
theorem Core.cpush {A : Adr} {L : List Two} {r : RS} {V : Vals} {ss : List Op1} {s : SrcS} {x : Op1} {w w3 : World} {gg cap : Nat} {y : CondS} (h : Core A L r V (ss ++ [x]) w) (ht : Top A s x w) (hnm : s.name = x.name)
    (hSt : Kept (fun g => g = x.g ∨ x.vc.ownBlock = some g) w w3)
    (hk3 : Bk w3 x.g [.string ⟨s.name.toArray⟩, x.vc] 216) (hown : w3.ownsRow A.B 209 6 (.slice (some ⟨gg, 0, none⟩) (s.conds.length + 1) cap) (s.conds.length + 1) (s.conds.flatMap encC ++ encC y))
    (hgk : gg ≠ x.g) (hgn : x.vc.ownBlock = some gg ∨ w.heap.size ≤ gg) :
    ∃ x', Core A L (r.setTop ⟨s.name, s.conds ++ [y]⟩) V (ss ++ [x']) (w3.setCell ⟨x.g, 1, none⟩ (.slice (some ⟨gg, 0, none⟩) (s.conds.length + 1) cap)) ∧ Top A ⟨s.name, s.conds ++ [y]⟩ x' (w3.setCell ⟨x.g, 1, none⟩ (.slice (some ⟨gg, 0, none⟩) (s.conds.length + 1) cap))
      ∧ StepT A V x w V x' (w3.setCell ⟨x.g, 1, none⟩ (.slice (some ⟨gg, 0, none⟩) (s.conds.length + 1) cap)) := by
  have hSt2 := hSt.setCell (p := ⟨x.g, 1, none⟩) (.inl rfl) (.slice (some ⟨gg, 0, none⟩) (s.conds.length + 1) cap)
  have hO : Own (w3.setCell ⟨x.g, 1, none⟩ (.slice (some ⟨gg, 0, none⟩) (s.conds.length + 1) cap)) A.B 209 6 encC (.slice (some ⟨gg, 0, none⟩) (s.conds.length + 1) cap) (s.conds ++ [y]) := by
    refine Own.kept (w := w3) ?_ (fun k hk' => Below.heap_setCell _ _ _ _ (fun e => by cases hk'; exact hgk e))
    unfold Own
    rw [List.length_append, List.flatMap_append]
    simpa using hown
  have hbk := hk3.set 1 (.slice (some ⟨gg, 0, none⟩) (s.conds.length + 1) cap)
  refine ⟨_, h.setTop (s' := ⟨s.name, s.conds ++ [y]⟩) ht hSt2 (by rw [hnm] at hbk; exact hbk) hnm hO ?_⟩
  intro g hg
  cases hg
  rcases hgn with h1 | h1
  · exact .inl h1
  · exact .inr h1

set_option maxHeartbeats 4000000 in
set_option maxRecDepth 100000 in
theorem begin_off (A : Adr) (L : List Two) (r : RS) (V : Vals) (ss : List Op1) (s : SrcS) (x : Op1) (w : World) (h : Core A L r V (ss ++ [x]) w) (ht : Top A s x w) (hnm : s.name = x.name) (hss : ss.length ≤ 1000) (hsc : s.conds.length ≤ 30000) (l : Pl) (rest : Bytes) (hf : s.force = false) :
    Calls Tryz.prog 130 #[.pointer (some ⟨A.rb, 0, none⟩), .agg #[.string ⟨l.file.toArray⟩, .int .i64 l.no, .string ⟨l.text.toArray⟩], .string ⟨rest.toArray⟩] w fun e w' => e = .returned (.tuple #[]) ∧
      ∃ x', Core A L (r.setTop ⟨s.name, s.conds ++ [⟨l, false, false, false⟩]⟩) V (ss ++ [x']) w' ∧ Top A ⟨s.name, s.conds ++ [⟨l, false, false, false⟩]⟩ x' w' ∧ StepT A V x w V x' w' := by
  obtain ⟨a0, d0, hvc⟩ := ht.vc.shape
  have HVC : Hid (x.vc = .slice a0 s.conds.length d0) := hvc
  have HC := Lib.hid h
  have HT := Lib.hid ht
  have HNM := Lib.hid hnm
  have HF := Lib.hid hf
  have hBs := h.base
  clear h ht hnm hf hvc
  obtain ⟨i0, hi, hz0, hz1, hz2⟩ := info_parts (show (Tryz.prog.info? 209).map (fun i => (i.zero, i.size, i.bytes)) = some (some (.agg #[.string ⟨#[]⟩, .int .i64 0, .string ⟨#[]⟩, .bool false, .bool false, .bool false]), 6, 48) by kernel_rfl)
  go_enter Tryz.func130, Tryz.ntmps130
  have hb0 : Below w.heap.size w (w.alloc (.cells #[.string ⟨l.file.toArray⟩, .int .i64 l.no, .string ⟨l.text.toArray⟩] 205)) := (Below.refl _ _).alloc (Nat.le_refl _) _
  go_wp2_with (first
    | (go_at_call 147; refine (top_any A L r V ss x _ (HC.out.next hb0) hss).mono ?_; rintro e w1 ⟨rfl, hc⟩; have hb1 := hb0.trans (hc.mono hb0.size); have HP := Lib.hid ((Bk.new w #[.string ⟨l.file.toArray⟩, .int .i64 l.no, .string ⟨l.text.toArray⟩] 205).next hc); have hq := hc.size; rw [World.size_alloc] at hq; have q0 := HP.out.cell 0; have q1 := HP.out.cell 1; have q2 := HP.out.cell 2; simp only [List.getElem?_cons_zero, List.getElem?_cons_succ] at q0 q1 q2; have hb2 := hb1.alloc hb1.size (.cells #[.string ⟨l.file.toArray⟩, .int .i64 l.no, .string ⟨l.text.toArray⟩, .bool false, .bool false, .bool false] 209); clear hc)
    | (go_at_call 148; refine (force_any A s x _ (HT.out.next hb2) hsc).mono ?_; rw [HF.out]; rintro e w2 ⟨rfl, hc⟩; have HB := Lib.hid ((Bk.new w1 #[.string ⟨l.file.toArray⟩, .int .i64 l.no, .string ⟨l.text.toArray⟩, .bool false, .bool false, .bool false] 209).next hc); have hq2 := hc.size; rw [World.size_alloc] at hq2; have hb3 := hb2.trans (hc.mono hb2.size); have HCt := Lib.hid (HC.out.next hb3); have HTt := Lib.hid (HT.out.next hb3); have HSt := Lib.hid ((StepT.refl A V x w).below hb3); clear hc))
  have c1 : w2.cell? ⟨x.g, 1, none⟩ = some (.slice a0 s.conds.length d0) := by rw [HTt.out.bk.cell, ← HVC.out]; rfl
  have g1 : w2.frozen? ⟨x.g, 1, none⟩ = false := HTt.out.bk.free _
  have hlt1 : x.g < w2.heap.size := HTt.out.bk.lt
  have b0 := HB.out.cell 0
  have b1 := HB.out.cell 1
  have b2 := HB.out.cell 2
  have b3 := HB.out.cell 3
  have b4 := HB.out.cell 4
  have b5 := HB.out.cell 5
  simp only [List.getElem?_cons_zero, List.getElem?_cons_succ] at b0 b1 b2 b3 b4 b5
  have HX1 : Hid (([.string ⟨s.name.toArray⟩, x.vc] : List Value)[1]? = some (.slice a0 s.conds.length d0)) := by show _ = _; rw [HVC.out]; rfl
  have HO1 : Hid (Own w2 A.B 209 6 encC (.slice a0 s.conds.length d0) s.conds) := by have := HTt.out.vc; rw [HVC.out] at this; exact this
  have HN : Hid ((Value.slice a0 s.conds.length d0).ownBlock ≠ some x.g) := HO1.out.ne_bk HTt.out.bk (by decide)
  have hBt : A.B ≤ w2.heap.size := HCt.out.base
  go_region_law ((refine step_append_lies _ (by rfl) _ _ _ (by rfl) A.B 209 i0 _ 6 48 Tryz.underlying214 hi hz0 hz1 hz2 rfl (by omega) (.slice a0 s.conds.length d0) s.conds.length (s.conds.flatMap encC) (by rfl) ((HO1.out.alloc _)) ⟨w2.heap.size, 0, none⟩ 1 1 [.string ⟨l.file.toArray⟩, .int .i64 l.no, .string ⟨l.text.toArray⟩, .bool false, .bool false, .bool false] (by rfl) (by rfl) (World.news_of_block (cs := #[.string ⟨l.file.toArray⟩, .int .i64 l.no, .string ⟨l.text.toArray⟩, .bool false, .bool false, .bool false]) (t := 209) (fr := (0, 0)) (heap_alloc_new w2 _)) (by simp [Value.oneCell']) (by omega) (by unfold maxLen; omega) (by omega) (by simp; omega) (w2.heap.size + 1) (by simp) ?_; intro gg cap w9 hown1 hgrow hat hlt; have hk3 := Bk.grown (HTt.out.bk.alloc _).drew hgrow HN.out; have z1 := (hk3.cell 1).trans HX1.out; have z2 := hk3.free 1))
  all_goals
    go_wp2
    go_end0
    have hggk : gg ≠ x.g := by
      rcases hat with h | h
      · intro e; rw [e] at h; exact HN.out h
      · omega
    have hSt : Kept (fun g => g = x.g ∨ x.vc.ownBlock = some g) w2 w9 := Kept.grown (w1 := (w2.alloc _).drew) (((Kept.refl _ w2).alloc _).drewN 1) hgrow (fun g h => .inr (by rw [HVC.out]; exact h))
    obtain ⟨x', h1, h2, h3⟩ := HCt.out.cpush (y := ⟨l, false, false, false⟩) HTt.out HNM.out hSt hk3 hown1 hggk (by rcases hat with h | h; exact .inl (by rw [HVC.out]; exact h); exact .inr (by omega))
    exact ⟨rfl, x', h1, h2, HSt.out.trans h3⟩

set_option maxHeartbeats 4000000 in
set_option maxRecDepth 100000 in
theorem begin_bad (A : Adr) (L : List Two) (r : RS) (V : Vals) (ss : List Op1) (s : SrcS) (x : Op1) (w : World) (h : Core A L r V (ss ++ [x]) w) (ht : Top A s x w) (hnm : s.name = x.name) (hss : ss.length ≤ 1000) (hsc : s.conds.length ≤ 30000) (l : Pl) (rest : Bytes) (hf : s.force = true) (hrest : rest.length ≤ 1048576) (hat : r.attrs.length ≤ 1048576) (hdg : r.diags.length ≤ 200000) (hok : (splitP rest).2.2.2 = false) :
    Calls Tryz.prog 130 #[.pointer (some ⟨A.rb, 0, none⟩), .agg #[.string ⟨l.file.toArray⟩, .int .i64 l.no, .string ⟨l.text.toArray⟩], .string ⟨rest.toArray⟩] w fun e w' => e = .returned (.tuple #[]) ∧
      ∃ V' x', Core A L ((r.tell l 3 l.text).setTop ⟨s.name, s.conds ++ [⟨l, false, false, false⟩]⟩) V' (ss ++ [x']) w' ∧ Top A ⟨s.name, s.conds ++ [⟨l, false, false, false⟩]⟩ x' w' ∧ StepT A V x w V' x' w' := by
  obtain ⟨a0, d0, hvc⟩ := ht.vc.shape
  have HVC : Hid (x.vc = .slice a0 s.conds.length d0) := hvc
  have HC := Lib.hid h
  have HT := Lib.hid ht
  have HNM := Lib.hid hnm
  have HF := Lib.hid hf
  have hBs := h.base
  obtain ⟨aa, ac, hva⟩ := h.va.shape
  have HVA : Hid (V.va = .slice aa r.attrs.length ac) := hva
  have HATT : Hid (∀ w', Core A L r V (ss ++ [x]) w' → At w' 2 encT aa r.attrs) := fun w' h' => by have := h'.va; rw [hva] at this; exact this.addr encT_ok
  have HASK : Hid (askP r.attrs rest = .tuple #[.string ⟨#[]⟩, .bool false, .int .i64 4]) := if_neg (by rw [hok]; simp)
  clear h ht hnm hf hvc hva hok
  obtain ⟨i0, hi, hz0, hz1, hz2⟩ := info_parts (show (Tryz.prog.info? 209).map (fun i => (i.zero, i.size, i.bytes)) = some (some (.agg #[.string ⟨#[]⟩, .int .i64 0, .string ⟨#[]⟩, .bool false, .bool false, .bool false]), 6, 48) by kernel_rfl)
  go_enter Tryz.func130, Tryz.ntmps130
  have hb0 : Below w.heap.size w (w.alloc (.cells #[.string ⟨l.file.toArray⟩, .int .i64 l.no, .string ⟨l.text.toArray⟩] 205)) := (Below.refl _ _).alloc (Nat.le_refl _) _
  go_wp2_with (first
    | (go_at_call 147; refine (top_any A L r V ss x _ (HC.out.next hb0) hss).mono ?_; rintro e w1 ⟨rfl, hc⟩; have hb1 := hb0.trans (hc.mono hb0.size); have HP := Lib.hid ((Bk.new w #[.string ⟨l.file.toArray⟩, .int .i64 l.no, .string ⟨l.text.toArray⟩] 205).next hc); have hq := hc.size; rw [World.size_alloc] at hq; have q0 := HP.out.cell 0; have q1 := HP.out.cell 1; have q2 := HP.out.cell 2; simp only [List.getElem?_cons_zero, List.getElem?_cons_succ] at q0 q1 q2; have hb2 := hb1.alloc hb1.size (.cells #[.string ⟨l.file.toArray⟩, .int .i64 l.no, .string ⟨l.text.toArray⟩, .bool false, .bool false, .bool false] 209); clear hc)
    | (go_at_call 148; refine (force_any A s x _ (HT.out.next hb2) hsc).mono ?_; rw [HF.out]; rintro e w2 ⟨rfl, hc⟩; have hc0 := hc; have HB := Lib.hid ((Bk.new w1 #[.string ⟨l.file.toArray⟩, .int .i64 l.no, .string ⟨l.text.toArray⟩, .bool false, .bool false, .bool false] 209).next hc); have hq2 := hc.size; rw [World.size_alloc] at hq2; have hb3 := hb2.trans (hc.mono hb2.size); have HCt := Lib.hid (HC.out.next hb3); have HTt := Lib.hid (HT.out.next hb3); have HSt := Lib.hid ((StepT.refl A V x w).below hb3); have HP2 := Lib.hid ((HP.out.alloc (.cells #[.string ⟨l.file.toArray⟩, .int .i64 l.no, .string ⟨l.text.toArray⟩, .bool false, .bool false, .bool false] 209)).next hc0); have r0 := HP2.out.cell 0; have r1 := HP2.out.cell 1; have r2 := HP2.out.cell 2; simp only [List.getElem?_cons_zero, List.getElem?_cons_succ] at r0 r1 r2; have ca : w2.cell? ⟨A.rb, 1, none⟩ = some (.slice aa r.attrs.length ac) := (by rw [HCt.out.rb.cell, ← HVA.out]; rfl); clear hc0)
    | (go_at_call 149; refine (ask_any aa ac r.attrs rest _ hat hrest (HATT.out _ HCt.out) HCt.out.mx).mono ?_; rw [HASK.out]; rintro e w3 ⟨rfl, hc⟩; have HP3 := Lib.hid (HP2.out.next hc); have HB3 := Lib.hid (HB.out.next hc); have HC3 := Lib.hid (HCt.out.next hc); have HT3 := Lib.hid (HTt.out.next hc); have HS3 := Lib.hid (HSt.out.below hc); have hq3 := hc.size; clear hc; have s0 := HP3.out.cell 0; have s1 := HP3.out.cell 1; have s2 := HP3.out.cell 2; simp only [List.getElem?_cons_zero, List.getElem?_cons_succ] at s0 s1 s2; have cx : w3.cell? ⟨x.g, 1, none⟩ = some (.slice a0 s.conds.length d0) := (by rw [HT3.out.bk.cell, ← HVC.out]; rfl))
    | (go_at_call 150; refine (tell_any A L r V (ss ++ [x]) _ HC3.out l 3 l.text hdg).mono ?_; rintro e w4 ⟨rfl, V', hc4, hs4⟩; have HCt := Lib.hid hc4; have HTt := Lib.hid (HT3.out.step HC3.out hs4); have HSt := Lib.hid (HS3.out.trans (hs4.toT x)); have HB := Lib.hid (hs4.kept.bk HB3.out (fun hf => (HC3.out.foot_kind hf).1 HB3.out.isK)); have hq4 := hs4.kept.size; clear hc4 hs4))
  have c1 : w4.cell? ⟨x.g, 1, none⟩ = some (.slice a0 s.conds.length d0) := by rw [HTt.out.bk.cell, ← HVC.out]; rfl
  have g1 : w4.frozen? ⟨x.g, 1, none⟩ = false := HTt.out.bk.free _
  have hlt1 : x.g < w4.heap.size := HTt.out.bk.lt
  have b0 := HB.out.cell 0
  have b1 := HB.out.cell 1
  have b2 := HB.out.cell 2
  have b3 := HB.out.cell 3
  have b4 := HB.out.cell 4
  have b5 := HB.out.cell 5
  simp only [List.getElem?_cons_zero, List.getElem?_cons_succ] at b0 b1 b2 b3 b4 b5
  have HX1 : Hid (([.string ⟨s.name.toArray⟩, x.vc] : List Value)[1]? = some (.slice a0 s.conds.length d0)) := by show _ = _; rw [HVC.out]; rfl
  have HO1 : Hid (Own w4 A.B 209 6 encC (.slice a0 s.conds.length d0) s.conds) := by have := HTt.out.vc; rw [HVC.out] at this; exact this
  have HN : Hid ((Value.slice a0 s.conds.length d0).ownBlock ≠ some x.g) := HO1.out.ne_bk HTt.out.bk (by decide)
  have hBt : A.B ≤ w4.heap.size := HCt.out.base
  go_region_law ((refine step_append_lies _ (by rfl) _ _ _ (by rfl) A.B 209 i0 _ 6 48 Tryz.underlying214 hi hz0 hz1 hz2 rfl (by omega) (.slice a0 s.conds.length d0) s.conds.length (s.conds.flatMap encC) (by rfl) ((HO1.out.alloc _)) ⟨w4.heap.size, 0, none⟩ 1 1 [.string ⟨l.file.toArray⟩, .int .i64 l.no, .string ⟨l.text.toArray⟩, .bool false, .bool false, .bool false] (by rfl) (by rfl) (World.news_of_block (cs := #[.string ⟨l.file.toArray⟩, .int .i64 l.no, .string ⟨l.text.toArray⟩, .bool false, .bool false, .bool false]) (t := 209) (fr := (0, 0)) (heap_alloc_new w4 _)) (by simp [Value.oneCell']) (by omega) (by unfold maxLen; omega) (by omega) (by simp; omega) (w4.heap.size + 1) (by simp) ?_; intro gg cap w9 hown1 hgrow hat hlt; have hk3 := Bk.grown (HTt.out.bk.alloc _).drew hgrow HN.out; have z1 := (hk3.cell 1).trans HX1.out; have z2 := hk3.free 1))
  all_goals
    go_wp2
    go_end0
    have hggk : gg ≠ x.g := by
      rcases hat with h | h
      · intro e; rw [e] at h; exact HN.out h
      · omega
    have hSt : Kept (fun g => g = x.g ∨ x.vc.ownBlock = some g) w4 w9 := Kept.grown (w1 := (w4.alloc _).drew) (((Kept.refl _ w4).alloc _).drewN 1) hgrow (fun g h => .inr (by rw [HVC.out]; exact h))
    obtain ⟨x', h1, h2, h3⟩ := HCt.out.cpush (y := ⟨l, false, false, false⟩) HTt.out HNM.out hSt hk3 hown1 hggk (by rcases hat with h | h; exact .inl (by rw [HVC.out]; exact h); exact .inr (by omega))
    exact ⟨rfl, V', x', h1, h2, HSt.out.trans h3⟩

set_option maxHeartbeats 4000000 in
set_option maxRecDepth 100000 in
theorem begin_deep (A : Adr) (L : List Two) (r : RS) (V : Vals) (ss : List Op1) (s : SrcS) (x : Op1) (w : World) (h : Core A L r V (ss ++ [x]) w) (ht : Top A s x w) (hnm : s.name = x.name) (hss : ss.length ≤ 1000) (hsc : s.conds.length ≤ 30000) (l : Pl) (rest : Bytes) (hf : s.force = true) (hrest : rest.length ≤ 1048576) (hat : r.attrs.length ≤ 1048576) (hdg : r.diags.length ≤ 200000) (hok : (splitP rest).2.2.2 = true) (hdp : 16 ≤ s.conds.length) :
    Calls Tryz.prog 130 #[.pointer (some ⟨A.rb, 0, none⟩), .agg #[.string ⟨l.file.toArray⟩, .int .i64 l.no, .string ⟨l.text.toArray⟩], .string ⟨rest.toArray⟩] w fun e w' => e = .returned (.tuple #[]) ∧
      ∃ V' x', Core A L ((r.tell l 5 l.text).setTop ⟨s.name, s.conds ++ [⟨l, false, false, false⟩]⟩) V' (ss ++ [x']) w' ∧ Top A ⟨s.name, s.conds ++ [⟨l, false, false, false⟩]⟩ x' w' ∧ StepT A V x w V' x' w' := by
  obtain ⟨a0, d0, hvc⟩ := ht.vc.shape
  have HVC : Hid (x.vc = .slice a0 s.conds.length d0) := hvc
  have HC := Lib.hid h
  have HT := Lib.hid ht
  have HNM := Lib.hid hnm
  have HF := Lib.hid hf
  have hBs := h.base
  obtain ⟨aa, ac, hva⟩ := h.va.shape
  have HVA : Hid (V.va = .slice aa r.attrs.length ac) := hva
  have HATT : Hid (∀ w', Core A L r V (ss ++ [x]) w' → At w' 2 encT aa r.attrs) := fun w' h' => by have := h'.va; rw [hva] at this; exact this.addr encT_ok
  have HASK : Hid (askP r.attrs rest = .tuple #[.string ⟨(splitP rest).2.1.toArray⟩, .bool (holdsP r.attrs (splitP rest).1 (splitP rest).2.1 (splitP rest).2.2.1), .int .i64 0]) := if_pos hok
  clear h ht hnm hf hvc hva hok
  generalize (splitP rest).2.1 = nm at *
  generalize holdsP r.attrs (splitP rest).1 nm (splitP rest).2.2.1 = hb at *
  obtain ⟨i0, hi, hz0, hz1, hz2⟩ := info_parts (show (Tryz.prog.info? 209).map (fun i => (i.zero, i.size, i.bytes)) = some (some (.agg #[.string ⟨#[]⟩, .int .i64 0, .string ⟨#[]⟩, .bool false, .bool false, .bool false]), 6, 48) by kernel_rfl)
  go_enter Tryz.func130, Tryz.ntmps130
  have hb0 : Below w.heap.size w (w.alloc (.cells #[.string ⟨l.file.toArray⟩, .int .i64 l.no, .string ⟨l.text.toArray⟩] 205)) := (Below.refl _ _).alloc (Nat.le_refl _) _
  go_wp2_with (first
    | (go_at_call 147; refine (top_any A L r V ss x _ (HC.out.next hb0) hss).mono ?_; rintro e w1 ⟨rfl, hc⟩; have hb1 := hb0.trans (hc.mono hb0.size); have HP := Lib.hid ((Bk.new w #[.string ⟨l.file.toArray⟩, .int .i64 l.no, .string ⟨l.text.toArray⟩] 205).next hc); have hq := hc.size; rw [World.size_alloc] at hq; have q0 := HP.out.cell 0; have q1 := HP.out.cell 1; have q2 := HP.out.cell 2; simp only [List.getElem?_cons_zero, List.getElem?_cons_succ] at q0 q1 q2; have hb2 := hb1.alloc hb1.size (.cells #[.string ⟨l.file.toArray⟩, .int .i64 l.no, .string ⟨l.text.toArray⟩, .bool false, .bool false, .bool false] 209); clear hc)
    | (go_at_call 148; refine (force_any A s x _ (HT.out.next hb2) hsc).mono ?_; rw [HF.out]; rintro e w2 ⟨rfl, hc⟩; have hc0 := hc; have HB := Lib.hid ((Bk.new w1 #[.string ⟨l.file.toArray⟩, .int .i64 l.no, .string ⟨l.text.toArray⟩, .bool false, .bool false, .bool false] 209).next hc); have hq2 := hc.size; rw [World.size_alloc] at hq2; have hb3 := hb2.trans (hc.mono hb2.size); have HCt := Lib.hid (HC.out.next hb3); have HTt := Lib.hid (HT.out.next hb3); have HSt := Lib.hid ((StepT.refl A V x w).below hb3); have HP2 := Lib.hid ((HP.out.alloc (.cells #[.string ⟨l.file.toArray⟩, .int .i64 l.no, .string ⟨l.text.toArray⟩, .bool false, .bool false, .bool false] 209)).next hc0); have r0 := HP2.out.cell 0; have r1 := HP2.out.cell 1; have r2 := HP2.out.cell 2; simp only [List.getElem?_cons_zero, List.getElem?_cons_succ] at r0 r1 r2; have ca : w2.cell? ⟨A.rb, 1, none⟩ = some (.slice aa r.attrs.length ac) := (by rw [HCt.out.rb.cell, ← HVA.out]; rfl); clear hc0)
    | (go_at_call 149; refine (ask_any aa ac r.attrs rest _ hat hrest (HATT.out _ HCt.out) HCt.out.mx).mono ?_; rw [HASK.out]; rintro e w3 ⟨rfl, hc⟩; have HP3 := Lib.hid (HP2.out.next hc); have HB3 := Lib.hid (HB.out.next hc); have HC3 := Lib.hid (HCt.out.next hc); have HT3 := Lib.hid (HTt.out.next hc); have HS3 := Lib.hid (HSt.out.below hc); have hq3 := hc.size; clear hc; have s0 := HP3.out.cell 0; have s1 := HP3.out.cell 1; have s2 := HP3.out.cell 2; simp only [List.getElem?_cons_zero, List.getElem?_cons_succ] at s0 s1 s2; have cx : w3.cell? ⟨x.g, 1, none⟩ = some (.slice a0 s.conds.length d0) := (by rw [HT3.out.bk.cell, ← HVC.out]; rfl))
    | (go_at_call 150; refine (tell_any A L r V (ss ++ [x]) _ HC3.out l 5 l.text hdg).mono ?_; rintro e w4 ⟨rfl, V', hc4, hs4⟩; have HCt := Lib.hid hc4; have HTt := Lib.hid (HT3.out.step HC3.out hs4); have HSt := Lib.hid (HS3.out.trans (hs4.toT x)); have HB := Lib.hid (hs4.kept.bk HB3.out (fun hf => (HC3.out.foot_kind hf).1 HB3.out.isK)); have hq4 := hs4.kept.size; clear hc4 hs4))
  have c1 : w4.cell? ⟨x.g, 1, none⟩ = some (.slice a0 s.conds.length d0) := by rw [HTt.out.bk.cell, ← HVC.out]; rfl
  have g1 : w4.frozen? ⟨x.g, 1, none⟩ = false := HTt.out.bk.free _
  have hlt1 : x.g < w4.heap.size := HTt.out.bk.lt
  have b0 := HB.out.cell 0
  have b1 := HB.out.cell 1
  have b2 := HB.out.cell 2
  have b3 := HB.out.cell 3
  have b4 := HB.out.cell 4
  have b5 := HB.out.cell 5
  simp only [List.getElem?_cons_zero, List.getElem?_cons_succ] at b0 b1 b2 b3 b4 b5
  have HX1 : Hid (([.string ⟨s.name.toArray⟩, x.vc] : List Value)[1]? = some (.slice a0 s.conds.length d0)) := by show _ = _; rw [HVC.out]; rfl
  have HO1 : Hid (Own w4 A.B 209 6 encC (.slice a0 s.conds.length d0) s.conds) := by have := HTt.out.vc; rw [HVC.out] at this; exact this
  have HN : Hid ((Value.slice a0 s.conds.length d0).ownBlock ≠ some x.g) := HO1.out.ne_bk HTt.out.bk (by decide)
  have hBt : A.B ≤ w4.heap.size := HCt.out.base
  go_region_law ((refine step_append_lies _ (by rfl) _ _ _ (by rfl) A.B 209 i0 _ 6 48 Tryz.underlying214 hi hz0 hz1 hz2 rfl (by omega) (.slice a0 s.conds.length d0) s.conds.length (s.conds.flatMap encC) (by rfl) ((HO1.out.alloc _)) ⟨w4.heap.size, 0, none⟩ 1 1 [.string ⟨l.file.toArray⟩, .int .i64 l.no, .string ⟨l.text.toArray⟩, .bool false, .bool false, .bool false] (by rfl) (by rfl) (World.news_of_block (cs := #[.string ⟨l.file.toArray⟩, .int .i64 l.no, .string ⟨l.text.toArray⟩, .bool false, .bool false, .bool false]) (t := 209) (fr := (0, 0)) (heap_alloc_new w4 _)) (by simp [Value.oneCell']) (by omega) (by unfold maxLen; omega) (by omega) (by simp; omega) (w4.heap.size + 1) (by simp) ?_; intro gg cap w9 hown1 hgrow hat hlt; have hk3 := Bk.grown (HTt.out.bk.alloc _).drew hgrow HN.out; have z1 := (hk3.cell 1).trans HX1.out; have z2 := hk3.free 1))
  all_goals
    go_wp2
    go_end0
    have hggk : gg ≠ x.g := by
      rcases hat with h | h
      · intro e; rw [e] at h; exact HN.out h
      · omega
    have hSt : Kept (fun g => g = x.g ∨ x.vc.ownBlock = some g) w4 w9 := Kept.grown (w1 := (w4.alloc _).drew) (((Kept.refl _ w4).alloc _).drewN 1) hgrow (fun g h => .inr (by rw [HVC.out]; exact h))
    obtain ⟨x', h1, h2, h3⟩ := HCt.out.cpush (y := ⟨l, false, false, false⟩) HTt.out HNM.out hSt hk3 hown1 hggk (by rcases hat with h | h; exact .inl (by rw [HVC.out]; exact h); exact .inr (by omega))
    exact ⟨rfl, V', x', h1, h2, HSt.out.trans h3⟩

set_option maxHeartbeats 4000000 in
set_option maxRecDepth 100000 in
theorem begin_ok (A : Adr) (L : List Two) (r : RS) (V : Vals) (ss : List Op1) (s : SrcS) (x : Op1) (w : World) (h : Core A L r V (ss ++ [x]) w) (ht : Top A s x w) (hnm : s.name = x.name) (hss : ss.length ≤ 1000) (hsc : s.conds.length ≤ 30000) (l : Pl) (rest : Bytes) (hf : s.force = true) (hrest : rest.length ≤ 1048576) (hat : r.attrs.length ≤ 1048576) (hdg : r.diags.length ≤ 200000) (hok : (splitP rest).2.2.2 = true) (hdp : s.conds.length < 16) (nm : Bytes) (hb : Bool) (hnm2 : (splitP rest).2.1 = nm) (hhb : holdsP r.attrs (splitP rest).1 (splitP rest).2.1 (splitP rest).2.2.1 = hb) :
    Calls Tryz.prog 130 #[.pointer (some ⟨A.rb, 0, none⟩), .agg #[.string ⟨l.file.toArray⟩, .int .i64 l.no, .string ⟨l.text.toArray⟩], .string ⟨rest.toArray⟩] w fun e w' => e = .returned (.tuple #[]) ∧
      ∃ x', Core A L ((r.ask nm).setTop ⟨s.name, s.conds ++ [⟨l, hb, !hb, false⟩]⟩) V (ss ++ [x']) w' ∧ Top A ⟨s.name, s.conds ++ [⟨l, hb, !hb, false⟩]⟩ x' w' ∧ StepT A V x w V x' w' := by
  obtain ⟨a0, d0, hvc⟩ := ht.vc.shape
  have HVC : Hid (x.vc = .slice a0 s.conds.length d0) := hvc
  have HC := Lib.hid h
  have HT := Lib.hid ht
  have HNM := Lib.hid hnm
  have HF := Lib.hid hf
  have hBs := h.base
  obtain ⟨aa, ac, hva⟩ := h.va.shape
  have HVA : Hid (V.va = .slice aa r.attrs.length ac) := hva
  have HATT : Hid (∀ w', Core A L r V (ss ++ [x]) w' → At w' 2 encT aa r.attrs) := fun w' h' => by have := h'.va; rw [hva] at this; exact this.addr encT_ok
  have HASK : Hid (askP r.attrs rest = .tuple #[.string ⟨nm.toArray⟩, .bool hb, .int .i64 0]) := by rw [← hnm2, ← hhb]; exact if_pos hok
  clear h ht hnm hf hvc hva hok
  clear hnm2 hhb
  obtain ⟨i0, hi, hz0, hz1, hz2⟩ := info_parts (show (Tryz.prog.info? 209).map (fun i => (i.zero, i.size, i.bytes)) = some (some (.agg #[.string ⟨#[]⟩, .int .i64 0, .string ⟨#[]⟩, .bool false, .bool false, .bool false]), 6, 48) by kernel_rfl)
  go_enter Tryz.func130, Tryz.ntmps130
  have hb0 : Below w.heap.size w (w.alloc (.cells #[.string ⟨l.file.toArray⟩, .int .i64 l.no, .string ⟨l.text.toArray⟩] 205)) := (Below.refl _ _).alloc (Nat.le_refl _) _
  go_wp2_with (first
    | (go_at_call 147; refine (top_any A L r V ss x _ (HC.out.next hb0) hss).mono ?_; rintro e w1 ⟨rfl, hc⟩; have hb1 := hb0.trans (hc.mono hb0.size); have HP := Lib.hid ((Bk.new w #[.string ⟨l.file.toArray⟩, .int .i64 l.no, .string ⟨l.text.toArray⟩] 205).next hc); have hq := hc.size; rw [World.size_alloc] at hq; have q0 := HP.out.cell 0; have q1 := HP.out.cell 1; have q2 := HP.out.cell 2; simp only [List.getElem?_cons_zero, List.getElem?_cons_succ] at q0 q1 q2; have hb2 := hb1.alloc hb1.size (.cells #[.string ⟨l.file.toArray⟩, .int .i64 l.no, .string ⟨l.text.toArray⟩, .bool false, .bool false, .bool false] 209); clear hc)
    | (go_at_call 148; refine (force_any A s x _ (HT.out.next hb2) hsc).mono ?_; rw [HF.out]; rintro e w2 ⟨rfl, hc⟩; have hc0 := hc; have HB := Lib.hid ((Bk.new w1 #[.string ⟨l.file.toArray⟩, .int .i64 l.no, .string ⟨l.text.toArray⟩, .bool false, .bool false, .bool false] 209).next hc); have hq2 := hc.size; rw [World.size_alloc] at hq2; have hb3 := hb2.trans (hc.mono hb2.size); have HCt := Lib.hid (HC.out.next hb3); have HTt := Lib.hid (HT.out.next hb3); have HSt := Lib.hid ((StepT.refl A V x w).below hb3); have HP2 := Lib.hid ((HP.out.alloc (.cells #[.string ⟨l.file.toArray⟩, .int .i64 l.no, .string ⟨l.text.toArray⟩, .bool false, .bool false, .bool false] 209)).next hc0); have r0 := HP2.out.cell 0; have r1 := HP2.out.cell 1; have r2 := HP2.out.cell 2; simp only [List.getElem?_cons_zero, List.getElem?_cons_succ] at r0 r1 r2; have ca : w2.cell? ⟨A.rb, 1, none⟩ = some (.slice aa r.attrs.length ac) := (by rw [HCt.out.rb.cell, ← HVA.out]; rfl); clear hc0)
    | (go_at_call 149; refine (ask_any aa ac r.attrs rest _ hat hrest (HATT.out _ HCt.out) HCt.out.mx).mono ?_; rw [HASK.out]; rintro e w3 ⟨rfl, hc⟩; have HP3 := Lib.hid (HP2.out.next hc); have HB3 := Lib.hid (HB.out.next hc); have HC3 := Lib.hid (HCt.out.next hc); have HT3 := Lib.hid (HTt.out.next hc); have HS3 := Lib.hid (HSt.out.below hc); have hq3 := hc.size; clear hc; have s0 := HP3.out.cell 0; have s1 := HP3.out.cell 1; have s2 := HP3.out.cell 2; simp only [List.getElem?_cons_zero, List.getElem?_cons_succ] at s0 s1 s2; have cx : w3.cell? ⟨x.g, 1, none⟩ = some (.slice a0 s.conds.length d0) := (by rw [HT3.out.bk.cell, ← HVC.out]; rfl))
    | (go_at_call 151; refine (rask_any A L r V (ss ++ [x]) _ HC3.out nm).mono ?_; rintro e w4 ⟨rfl, hc4, hs4⟩; have HC4 := Lib.hid hc4; have HT4 := Lib.hid (HT3.out.step HC3.out hs4); have HS4 := Lib.hid (HS3.out.trans (hs4.toT x)); have HB4 := Lib.hid (hs4.kept.bk HB3.out (fun hf => (HC3.out.foot_kind hf).1 HB3.out.isK)); have hq4 := hs4.kept.size; clear hc4 hs4; have e3 := HB4.out.cell 3; have e4 := HB4.out.cell 4; have f3 := HB4.out.free 3; have f4 := HB4.out.free 4; simp only [List.getElem?_cons_zero, List.getElem?_cons_succ] at e3 e4))
  have hkk : Kept (fun g => g = w1.heap.size) w4 ((w4.setCell ⟨w1.heap.size, 3, none⟩ (.bool hb)).setCell ⟨w1.heap.size, 4, none⟩ (.bool (!hb))) := Kept.setCell (S := fun g => g = w1.heap.size) (Kept.setCell (S := fun g => g = w1.heap.size) (Kept.refl _ w4) (p := ⟨w1.heap.size, 3, none⟩) rfl _) (p := ⟨w1.heap.size, 4, none⟩) rfl _
  have HCt0 : Hid (Core A L (r.ask nm) V (ss ++ [x]) ((w4.setCell ⟨w1.heap.size, 3, none⟩ (.bool hb)).setCell ⟨w1.heap.size, 4, none⟩ (.bool (!hb)))) := HC4.out.kept (S := fun g => g = w1.heap.size) hkk (fun g e => ⟨by subst e; omega, .inl (by subst e; exact HB4.out.isK), fun y hy e2 => by subst e; have := HB4.out.isK.ne (e2 ▸ (HC4.out.ops y hy).1.isK); exact absurd this (by decide)⟩)
  have HTt0 : Hid (Top A s x ((w4.setCell ⟨w1.heap.size, 3, none⟩ (.bool hb)).setCell ⟨w1.heap.size, 4, none⟩ (.bool (!hb)))) := by
    refine ⟨hkk.bk HT4.out.bk (fun e => ?_), HT4.out.gB, hkk.own HT4.out.vc fun g e1 e2 => ?_⟩
    · have h1 : x.g = w1.heap.size := e; have := HB4.out.isK.ne (h1 ▸ HT4.out.bk.isK); exact absurd this (by decide)
    · have h1 := (HT.out.vc.block g e1).2; have h2 : g = w1.heap.size := e2; have := hb1.size; omega
  have HSt0 : Hid (StepT A V x w V x ((w4.setCell ⟨w1.heap.size, 3, none⟩ (.bool hb)).setCell ⟨w1.heap.size, 4, none⟩ (.bool (!hb)))) := by
    refine ⟨fun g hg => .inl hg, HS4.out.kept.transN (n := w.heap.size) (hkk.mono fun g e => .inr (by have := hb1.size; have h2 : g = w1.heap.size := e; omega)) (Nat.le_refl _), rfl, rfl⟩
  have HBt0 : Hid (Bk ((w4.setCell ⟨w1.heap.size, 3, none⟩ (.bool hb)).setCell ⟨w1.heap.size, 4, none⟩ (.bool (!hb))) w1.heap.size [.string ⟨l.file.toArray⟩, .int .i64 l.no, .string ⟨l.text.toArray⟩, .bool hb, .bool (!hb), .bool false] 209) := (HB4.out.set 3 _).set 4 _
  have hqt : ((w4.setCell ⟨w1.heap.size, 3, none⟩ (.bool hb)).setCell ⟨w1.heap.size, 4, none⟩ (.bool (!hb))).heap.size ≥ w4.heap.size := by simp [World.setCell]
  generalize (w4.setCell ⟨w1.heap.size, 3, none⟩ (.bool hb)).setCell ⟨w1.heap.size, 4, none⟩ (.bool (!hb)) = w5 at *
  clear hkk
  have HCt := HCt0
  have HTt := HTt0
  have HSt := HSt0
  have HB := HBt0
  clear HCt0 HTt0 HSt0 HBt0
  have c1 : w5.cell? ⟨x.g, 1, none⟩ = some (.slice a0 s.conds.length d0) := by rw [HTt.out.bk.cell, ← HVC.out]; rfl
  have g1 : w5.frozen? ⟨x.g, 1, none⟩ = false := HTt.out.bk.free _
  have hlt1 : x.g < w5.heap.size := HTt.out.bk.lt
  have b0 := HB.out.cell 0
  have b1 := HB.out.cell 1
  have b2 := HB.out.cell 2
  have b3 := HB.out.cell 3
  have b4 := HB.out.cell 4
  have b5 := HB.out.cell 5
  simp only [List.getElem?_cons_zero, List.getElem?_cons_succ] at b0 b1 b2 b3 b4 b5
  have HX1 : Hid (([.string ⟨s.name.toArray⟩, x.vc] : List Value)[1]? = some (.slice a0 s.conds.length d0)) := by show _ = _; rw [HVC.out]; rfl
  have HO1 : Hid (Own w5 A.B 209 6 encC (.slice a0 s.conds.length d0) s.conds) := by have := HTt.out.vc; rw [HVC.out] at this; exact this
  have HN : Hid ((Value.slice a0 s.conds.length d0).ownBlock ≠ some x.g) := HO1.out.ne_bk HTt.out.bk (by decide)
  have hBt : A.B ≤ w5.heap.size := HCt.out.base
  go_region_law ((refine step_append_lies _ (by rfl) _ _ _ (by rfl) A.B 209 i0 _ 6 48 Tryz.underlying214 hi hz0 hz1 hz2 rfl (by omega) (.slice a0 s.conds.length d0) s.conds.length (s.conds.flatMap encC) (by rfl) ((HO1.out.alloc _)) ⟨w5.heap.size, 0, none⟩ 1 1 [.string ⟨l.file.toArray⟩, .int .i64 l.no, .string ⟨l.text.toArray⟩, .bool hb, .bool !hb, .bool false] (by rfl) (by rfl) (World.news_of_block (cs := #[.string ⟨l.file.toArray⟩, .int .i64 l.no, .string ⟨l.text.toArray⟩, .bool hb, .bool !hb, .bool false]) (t := 209) (fr := (0, 0)) (heap_alloc_new w5 _)) (by simp [Value.oneCell']) (by omega) (by unfold maxLen; omega) (by omega) (by simp; omega) (w5.heap.size + 1) (by simp) ?_; intro gg cap w9 hown1 hgrow hat hlt; have hk3 := Bk.grown (HTt.out.bk.alloc _).drew hgrow HN.out; have z1 := (hk3.cell 1).trans HX1.out; have z2 := hk3.free 1))
  all_goals
    go_wp2
    go_end0
    have hggk : gg ≠ x.g := by
      rcases hat with h | h
      · intro e; rw [e] at h; exact HN.out h
      · omega
    have hSt : Kept (fun g => g = x.g ∨ x.vc.ownBlock = some g) w5 w9 := Kept.grown (w1 := (w5.alloc _).drew) (((Kept.refl _ w5).alloc _).drewN 1) hgrow (fun g h => .inr (by rw [HVC.out]; exact h))
    obtain ⟨x', h1, h2, h3⟩ := HCt.out.cpush (y := ⟨l, hb, !hb, false⟩) HTt.out HNM.out hSt hk3 hown1 hggk (by rcases hat with h | h; exact .inl (by rw [HVC.out]; exact h); exact .inr (by omega))
    exact ⟨rfl, x', h1, h2, HSt.out.trans h3⟩
end Go.Proofs.YtfedkhicckgjaaaGreatDoor

namespace Go.Proofs.YtfedkhicckgjaaaGreatDoor
open Go.RowKit
set_option linter.unusedVariables false

/-- what a line's work answers -/
def LineGives (A : Adr) (L : List Two) (V : Vals) (ss : List Op1) (x : Op1) (w : World) (r' : RS) (e : Ending) (w' : World) : Prop :=
  e = .returned (.tuple #[]) ∧ ∃ V' x', Core A L r' V' (ss ++ [x']) w' ∧ Top A r'.top x' w' ∧ StepT A V x w V' x' w'
theorem Own.dropLast {α : Type} {w : World} {B : Nat} {e : TypeId} {sz : Nat} {enc : α → List Value} {l : List α} {a : Option Addr} {n c : Nat} (he : Enc sz enc) (h : Own w B e sz enc (.slice a (n + 1) c) l) (hl : l.length = n + 1) : Own w B e sz enc (.slice a n c) l.dropLast := by
  have hne : l ≠ [] := by intro e; rw [e] at hl; cases hl
  have h2 := h
  rw [← List.dropLast_concat_getLast hne] at h2
  exact Own.cut he h2 (by simp [hl]) rfl
theorem top_setTop (r : RS) (s : SrcS) : (r.setTop s).top = s := by unfold RS.setTop RS.top; simp
theorem Core.top_name {A : Adr} {L : List Two} {r : RS} {V : Vals} {ss : List Op1} {x : Op1} {w : World} (h : Core A L r V (ss ++ [x]) w) : r.top.name = x.name := by
  have hn := h.nm
  have hne : r.opens ≠ [] := by intro e; rw [e] at hn; simp at hn
  have e1 : r.top = r.opens.getLast hne := by unfold RS.top; rw [List.getLast?_eq_some_getLast hne]; rfl
  rw [e1]
  have h2 := congrArg List.getLast? hn
  rw [List.getLast?_map, List.getLast?_map, List.getLast?_eq_some_getLast hne, List.getLast?_concat] at h2
  simpa using h2

set_option maxHeartbeats 2000000 in
set_option maxRecDepth 100000 in
theorem turn_none (A : Adr) (L : List Two) (r : RS) (V : Vals) (ss : List Op1) (x : Op1) (w : World) (h : Core A L r V (ss ++ [x]) w) (ht : Top A r.top x w) (hss : ss.length ≤ 1000) (l : Pl) (rest : Bytes) (hdg : r.diags.length ≤ 200000) (hc0 : r.top.conds.length = 0) :
    Calls Tryz.prog 131 #[.pointer (some ⟨A.rb, 0, none⟩), .agg #[.string ⟨l.file.toArray⟩, .int .i64 l.no, .string ⟨l.text.toArray⟩], .string ⟨rest.toArray⟩] w (LineGives A L V ss x w (r.tell l 4 l.text)) := by
  have hv : ∃ a c, x.vc = .slice a 0 c := by
    obtain ⟨a, c, e⟩ := ht.vc.shape
    exact ⟨a, c, by rw [e, hc0]⟩
  obtain ⟨a, c, hv⟩ := hv
  have hr : Hid (lastV x.vc = .pointer none) := by show _ = _; rw [hv]; cases a <;> rfl
  have HC := Lib.hid h
  have HT := Lib.hid ht
  clear h ht hv
  go_enter Tryz.func131, Tryz.ntmps131
  have hb0 : Below w.heap.size w (w.alloc (.cells #[.string ⟨l.file.toArray⟩, .int .i64 l.no, .string ⟨l.text.toArray⟩] 205)) := (Below.refl _ _).alloc (Nat.le_refl _) _
  go_wp2_with (first
    | (go_at_call 147; refine (top_any A L r V ss x _ (HC.out.next hb0) hss).mono ?_; rintro e w1 ⟨rfl, hc⟩; have hb1 := hb0.trans (hc.mono hb0.size); have HP := Lib.hid ((Bk.new w #[.string ⟨l.file.toArray⟩, .int .i64 l.no, .string ⟨l.text.toArray⟩] 205).next hc); clear hc)
    | (go_at_call 152; refine (last_any A _ x _ (HT.out.next hb1) (by omega)).mono ?_; rw [hr.out]; rintro e w2 ⟨rfl, hc⟩; have hb2 := hb1.trans (hc.mono hb1.size); have HP2 := Lib.hid (HP.out.next hc); have q0 := HP2.out.cell 0; have q1 := HP2.out.cell 1; have q2 := HP2.out.cell 2; simp only [List.getElem?_cons_zero, List.getElem?_cons_succ] at q0 q1 q2; clear hc)
    | (go_at_call 150; refine (tell_any A L r V (ss ++ [x]) _ (HC.out.next hb2) l 4 l.text hdg).mono ?_; rintro e w4 ⟨rfl, V', hc4, hs4⟩; have HCt := Lib.hid hc4; have HTt := Lib.hid ((HT.out.next hb2).step (HC.out.next hb2) hs4); have HSt := Lib.hid (((StepT.refl A V x w).below hb2).trans (hs4.toT x)); clear hc4 hs4))
  go_end0
  exact ⟨rfl, V', x, HCt.out, HTt.out, HSt.out⟩

set_option maxHeartbeats 2000000 in
set_option maxRecDepth 100000 in
theorem end_none (A : Adr) (L : List Two) (r : RS) (V : Vals) (ss : List Op1) (x : Op1) (w : World) (h : Core A L r V (ss ++ [x]) w) (ht : Top A r.top x w) (hss : ss.length ≤ 1000) (l : Pl) (rest : Bytes) (hdg : r.diags.length ≤ 200000) (hc0 : r.top.conds.length = 0) :
    Calls Tryz.prog 132 #[.pointer (some ⟨A.rb, 0, none⟩), .agg #[.string ⟨l.file.toArray⟩, .int .i64 l.no, .string ⟨l.text.toArray⟩], .string ⟨rest.toArray⟩] w (LineGives A L V ss x w (r.tell l 4 l.text)) := by
  have hv : ∃ a c, x.vc = .slice a 0 c := by
    obtain ⟨a, c, e⟩ := ht.vc.shape
    exact ⟨a, c, by rw [e, hc0]⟩
  obtain ⟨a, c, hv⟩ := hv
  have hr : Hid (lastV x.vc = .pointer none) := by show _ = _; rw [hv]; cases a <;> rfl
  have HC := Lib.hid h
  have HT := Lib.hid ht
  clear h ht hv
  go_enter Tryz.func132, Tryz.ntmps132
  have hb0 : Below w.heap.size w (w.alloc (.cells #[.string ⟨l.file.toArray⟩, .int .i64 l.no, .string ⟨l.text.toArray⟩] 205)) := (Below.refl _ _).alloc (Nat.le_refl _) _
  go_wp2_with (first
    | (go_at_call 147; refine (top_any A L r V ss x _ (HC.out.next hb0) hss).mono ?_; rintro e w1 ⟨rfl, hc⟩; have hb1 := hb0.trans (hc.mono hb0.size); have HP := Lib.hid ((Bk.new w #[.string ⟨l.file.toArray⟩, .int .i64 l.no, .string ⟨l.text.toArray⟩] 205).next hc); clear hc)
    | (go_at_call 152; refine (last_any A _ x _ (HT.out.next hb1) (by omega)).mono ?_; rw [hr.out]; rintro e w2 ⟨rfl, hc⟩; have hb2 := hb1.trans (hc.mono hb1.size); have HP2 := Lib.hid (HP.out.next hc); have q0 := HP2.out.cell 0; have q1 := HP2.out.cell 1; have q2 := HP2.out.cell 2; simp only [List.getElem?_cons_zero, List.getElem?_cons_succ] at q0 q1 q2; clear hc)
    | (go_at_call 150; refine (tell_any A L r V (ss ++ [x]) _ (HC.out.next hb2) l 4 l.text hdg).mono ?_; rintro e w4 ⟨rfl, V', hc4, hs4⟩; have HCt := Lib.hid hc4; have HTt := Lib.hid ((HT.out.next hb2).step (HC.out.next hb2) hs4); have HSt := Lib.hid (((StepT.refl A V x w).below hb2).trans (hs4.toT x)); clear hc4 hs4))
  go_end0
  exact ⟨rfl, V', x, HCt.out, HTt.out, HSt.out⟩

set_option maxHeartbeats 2000000 in
set_option maxRecDepth 100000 in
theorem end_some (A : Adr) (L : List Two) (r : RS) (V : Vals) (ss : List Op1) (x : Op1) (w : World) (h : Core A L r V (ss ++ [x]) w) (ht : Top A r.top x w) (hss : ss.length ≤ 1000) (l : Pl) (rest : Bytes) (n : Nat) (hn : n ≤ 29000) (hc0 : r.top.conds.length = n + 1) :
    Calls Tryz.prog 132 #[.pointer (some ⟨A.rb, 0, none⟩), .agg #[.string ⟨l.file.toArray⟩, .int .i64 l.no, .string ⟨l.text.toArray⟩], .string ⟨rest.toArray⟩] w (LineGives A L V ss x w (r.setTop ⟨r.top.name, r.top.conds.dropLast⟩)) := by
  obtain ⟨gc, c, hv, hc⟩ := ht.vc.ptr' hc0
  have hr : Hid (lastV x.vc = .pointer (some ⟨gc, n * 6, none⟩)) := by show _ = _; rw [hv]; rfl
  have HV : Hid (x.vc = .slice (some ⟨gc, 0, none⟩) (n + 1) c) := hv
  have hnm := h.top_name
  have HC := Lib.hid h
  have HT := Lib.hid ht
  have HNM := Lib.hid hnm
  have HL := Lib.hid hc0
  have hcl : r.top.conds.length ≤ 30000 := by omega
  clear h ht hv hnm hc0
  go_enter Tryz.func132, Tryz.ntmps132
  have hb0 : Below w.heap.size w (w.alloc (.cells #[.string ⟨l.file.toArray⟩, .int .i64 l.no, .string ⟨l.text.toArray⟩] 205)) := (Below.refl _ _).alloc (Nat.le_refl _) _
  go_wp2_with (first
    | (go_at_call 147; refine (top_any A L r V ss x _ (HC.out.next hb0) hss).mono ?_; rintro e w1 ⟨rfl, hc⟩; have hb1 := hb0.trans (hc.mono hb0.size); clear hc)
    | (go_at_call 152; refine (last_any A _ x _ (HT.out.next hb1) hcl).mono ?_; rw [hr.out]; rintro e w2 ⟨rfl, hc⟩; have hb2 := hb1.trans (hc.mono hb1.size); have HC2 := Lib.hid (HC.out.next hb2); have HT2 := Lib.hid (HT.out.next hb2); clear hc; have c1 : w2.cell? ⟨x.g, 1, none⟩ = some (.slice (some ⟨gc, 0, none⟩) (n + 1) c) := (by rw [HT2.out.bk.cell, ← HV.out]; rfl); have g1 : w2.frozen? ⟨x.g, 1, none⟩ = false := HT2.out.bk.free _))
  have a1 : IntKind.i64.wrap (((n + 1 : Nat) : Int) - 1) = ((n : Nat) : Int) := by rw [IntWalk.i64_in _ (by omega)]; omega
  have hm : n ≤ c := by omega
  go_region
  all_goals
    go_wp2
    go_end0
    have hk : Kept (fun g => g = x.g ∨ x.vc.ownBlock = some g) w2 (w2.setCell ⟨x.g, 1, none⟩ (.slice (some ⟨gc, 0, none⟩) n c)).drew := (Kept.setCell (S := fun g => g = x.g ∨ x.vc.ownBlock = some g) (Kept.refl _ w2) (p := ⟨x.g, 1, none⟩) (.inl rfl) _).drewN 1
    have hb9 := (HT2.out.bk.set 1 (.slice (some ⟨gc, 0, none⟩) n c)).drew
    have hO : Own w2 A.B 209 6 encC (.slice (some ⟨gc, 0, none⟩) (n + 1) c) r.top.conds := by have := HT2.out.vc; rw [HV.out] at this; exact this
    have hne := hO.ne_bk HT2.out.bk (by decide)
    have hO2 : Own (w2.setCell ⟨x.g, 1, none⟩ (.slice (some ⟨gc, 0, none⟩) n c)).drew A.B 209 6 encC (.slice (some ⟨gc, 0, none⟩) n c) r.top.conds.dropLast := ((hO.dropLast encC_ok HL.out).set_other hne 1 _).drewN 1
    obtain ⟨h1, h2, h3⟩ := HC2.out.setTop (s' := ⟨r.top.name, r.top.conds.dropLast⟩) HT2.out hk (by rw [HNM.out] at hb9; exact hb9) HNM.out hO2 (fun g hg => .inl (by rw [HV.out]; exact hg))
    exact ⟨rfl, V, _, h1, by rw [top_setTop]; exact h2, ((StepT.refl A V x w).below hb2).trans h3⟩

set_option maxHeartbeats 2000000 in
set_option maxRecDepth 100000 in
theorem turn_other (A : Adr) (L : List Two) (r : RS) (V : Vals) (ss : List Op1) (x : Op1) (w : World) (h : Core A L r V (ss ++ [x]) w) (ht : Top A r.top x w) (hss : ss.length ≤ 1000) (l : Pl) (rest : Bytes) (hdg : r.diags.length ≤ 200000) (cs : List CondS) (cd : CondS) (hcs : r.top.conds = cs ++ [cd]) (hcl : cs.length ≤ 29000) (ho : cd.other = true) :
    Calls Tryz.prog 131 #[.pointer (some ⟨A.rb, 0, none⟩), .agg #[.string ⟨l.file.toArray⟩, .int .i64 l.no, .string ⟨l.text.toArray⟩], .string ⟨rest.toArray⟩] w (LineGives A L V ss x w (r.tell l 4 l.text)) := by
  have hc0 : r.top.conds.length = cs.length + 1 := by rw [hcs]; simp
  have hl3 : r.top.conds.length ≤ 30000 := by omega
  obtain ⟨gc, c, hv, hc⟩ := ht.vc.ptr' hc0
  have hr : Hid (lastV x.vc = .pointer (some ⟨gc, cs.length * 6, none⟩)) := by show _ = _; rw [hv]; rfl
  have HV : Hid (x.vc = .slice (some ⟨gc, 0, none⟩) (cs.length + 1) c) := hv
  have HC := Lib.hid h
  have HT := Lib.hid ht
  have HX : Hid (∀ w', Top A r.top x w' → w'.cell? ⟨gc, cs.length * 6 + 5, none⟩ = some (.bool true)) := fun w' h' => by
    have hO := h'.vc
    rw [hv] at hO
    have := hO.cellAt encC_ok (k := cs.length) (x := cd) (by rw [hcs]; simp) (j := 5) (u := .bool cd.other) rfl
    rw [ho] at this; exact this
  clear h ht hv hcs ho hc0
  go_enter Tryz.func131, Tryz.ntmps131
  have hb0 : Below w.heap.size w (w.alloc (.cells #[.string ⟨l.file.toArray⟩, .int .i64 l.no, .string ⟨l.text.toArray⟩] 205)) := (Below.refl _ _).alloc (Nat.le_refl _) _
  go_wp2_with (first
    | (go_at_call 147; refine (top_any A L r V ss x _ (HC.out.next hb0) hss).mono ?_; rintro e w1 ⟨rfl, hc⟩; have hb1 := hb0.trans (hc.mono hb0.size); have HP := Lib.hid ((Bk.new w #[.string ⟨l.file.toArray⟩, .int .i64 l.no, .string ⟨l.text.toArray⟩] 205).next hc); clear hc)
    | (go_at_call 152; refine (last_any A _ x _ (HT.out.next hb1) hl3).mono ?_; rw [hr.out]; rintro e w2 ⟨rfl, hc⟩; have hb2 := hb1.trans (hc.mono hb1.size); have HP2 := Lib.hid (HP.out.next hc); have q0 := HP2.out.cell 0; have q1 := HP2.out.cell 1; have q2 := HP2.out.cell 2; simp only [List.getElem?_cons_zero, List.getElem?_cons_succ] at q0 q1 q2; clear hc; have cx := HX.out _ (HT.out.next hb2))
    | (go_at_call 150; refine (tell_any A L r V (ss ++ [x]) _ (HC.out.next hb2) l 4 l.text hdg).mono ?_; rintro e w4 ⟨rfl, V', hc4, hs4⟩; have HCt := Lib.hid hc4; have HTt := Lib.hid ((HT.out.next hb2).step (HC.out.next hb2) hs4); have HSt := Lib.hid (((StepT.refl A V x w).below hb2).trans (hs4.toT x)); clear hc4 hs4))
  go_end0
  exact ⟨rfl, V', x, HCt.out, HTt.out, HSt.out⟩

set_option maxHeartbeats 2000000 in
set_option maxRecDepth 100000 in
theorem turn_some (A : Adr) (L : List Two) (r : RS) (V : Vals) (ss : List Op1) (x : Op1) (w : World) (h : Core A L r V (ss ++ [x]) w) (ht : Top A r.top x w) (hss : ss.length ≤ 1000) (l : Pl) (rest : Bytes) (cs : List CondS) (cd : CondS) (hcs : r.top.conds = cs ++ [cd]) (hcl : cs.length ≤ 29000) (ho : cd.other = false) :
    Calls Tryz.prog 131 #[.pointer (some ⟨A.rb, 0, none⟩), .agg #[.string ⟨l.file.toArray⟩, .int .i64 l.no, .string ⟨l.text.toArray⟩], .string ⟨rest.toArray⟩] w (LineGives A L V ss x w (r.setTop ⟨r.top.name, r.top.conds.dropLast ++ [{ cd with other := true }]⟩)) := by
  have hc0 : r.top.conds.length = cs.length + 1 := by rw [hcs]; simp
  have hl3 : r.top.conds.length ≤ 30000 := by omega
  obtain ⟨gc, c, hv, hc⟩ := ht.vc.ptr' hc0
  have hr : Hid (lastV x.vc = .pointer (some ⟨gc, cs.length * 6, none⟩)) := by show _ = _; rw [hv]; rfl
  have HV : Hid (x.vc = .slice (some ⟨gc, 0, none⟩) (cs.length + 1) c) := hv
  have hnm := h.top_name
  have HC := Lib.hid h
  have HT := Lib.hid ht
  have HNM := Lib.hid hnm
  have HCS := Lib.hid hcs
  have HX : Hid (∀ w', Top A r.top x w' → w'.cell? ⟨gc, cs.length * 6 + 5, none⟩ = some (.bool false) ∧ w'.frozen? ⟨gc, cs.length * 6 + 5, none⟩ = false) := fun w' h' => by
    have hO := h'.vc
    rw [hv] at hO
    have := hO.cellAt encC_ok (k := cs.length) (x := cd) (by rw [hcs]; simp) (j := 5) (u := .bool cd.other) rfl
    rw [ho] at this; exact ⟨this, hO.freeAt _⟩
  clear h ht hv hcs ho hc0 hnm
  go_enter Tryz.func131, Tryz.ntmps131
  have hb0 : Below w.heap.size w (w.alloc (.cells #[.string ⟨l.file.toArray⟩, .int .i64 l.no, .string ⟨l.text.toArray⟩] 205)) := (Below.refl _ _).alloc (Nat.le_refl _) _
  go_wp2_with (first
    | (go_at_call 147; refine (top_any A L r V ss x _ (HC.out.next hb0) hss).mono ?_; rintro e w1 ⟨rfl, hc⟩; have hb1 := hb0.trans (hc.mono hb0.size); clear hc)
    | (go_at_call 152; refine (last_any A _ x _ (HT.out.next hb1) hl3).mono ?_; rw [hr.out]; rintro e w2 ⟨rfl, hc⟩; have hb2 := hb1.trans (hc.mono hb1.size); have HC2 := Lib.hid (HC.out.next hb2); have HT2 := Lib.hid (HT.out.next hb2); clear hc; have cx := (HX.out _ HT2.out).1; have cf := (HX.out _ HT2.out).2))
  go_end0
  have hk : Kept (fun g => g = x.g ∨ x.vc.ownBlock = some g) w2 (w2.setCell ⟨gc, cs.length * 6 + 5, none⟩ (.bool true)) := Kept.setCell (S := fun g => g = x.g ∨ x.vc.ownBlock = some g) (Kept.refl _ w2) (p := ⟨gc, cs.length * 6 + 5, none⟩) (.inr (by rw [HV.out]; rfl)) _
  have hO : Own w2 A.B 209 6 encC (.slice (some ⟨gc, 0, none⟩) (cs.length + 1) c) (cs ++ [cd]) := by have := HT2.out.vc; rw [HV.out, HCS.out] at this; exact this
  have hO2 := hO.setAt encC_ok (k := cs.length) (by simp) (p := 5) (by omega) (.bool true) { cd with other := true } (by simp [encC])
  have hne : gc ≠ x.g := fun e => hO.ne_bk HT2.out.bk (by decide) (by rw [e]; rfl)
  have hb9 := HT2.out.bk.set_other hne (cs.length * 6 + 5) (.bool true)
  have e2 : (cs ++ [cd]).set cs.length { cd with other := true } = r.top.conds.dropLast ++ [{ cd with other := true }] := by rw [HCS.out]; simp
  rw [e2, ← HV.out] at hO2
  obtain ⟨h1, h2, h3⟩ := HC2.out.setTop (s' := ⟨r.top.name, r.top.conds.dropLast ++ [{ cd with other := true }]⟩) HT2.out hk (by rw [HNM.out] at hb9; exact hb9) HNM.out hO2 (fun g hg => .inl hg)
  exact ⟨rfl, V, _, h1, by rw [top_setTop]; exact h2, ((StepT.refl A V x w).below hb2).trans h3⟩
end Go.Proofs.YtfedkhicckgjaaaGreatDoor

namespace Go.Proofs.YtfedkhicckgjaaaGreatDoor
open Go.RowKit
set_option linter.unusedVariables false

set_option maxHeartbeats 1000000 in
theorem clo_inc (g nb : Nat) (nm s : Bytes) (vc : Value) (w : World) (hb : Bk w g [.string ⟨nm.toArray⟩, vc] 216) (hc : w.cell? ⟨nb, 0, none⟩ = some (.string ⟨s.toArray⟩)) :
    Calls Tryz.prog 155 #[.pointer (some ⟨g, 0, none⟩), .pointer (some ⟨nb, 0, none⟩)] w fun e w' => e = .returned (.bool (nm == s)) ∧ Below w.heap.size w w' := by
  have c0 := hb.cell 0
  simp only [List.getElem?_cons_zero] at c0
  have hlt := hb.lt
  clear hb
  cases hq : (nm == s)
  all_goals
    have HQ := Lib.hid hq
    go_enter Tryz.func155, Tryz.ntmps155
    go_wp2_with fail
    go_quiet (fail)
    go_wp2
    go_ret
    exact ⟨by first | rfl | simp [HQ.out], below_drewN (Below.refl _ _) _⟩

set_option maxHeartbeats 1000000 in
theorem indexFunc_any (ss : List Op1) (a : Option Addr) (c nb : Nat) (s : Bytes) (w : World) (hA : At w 1 encP a (ss.map (·.g))) (hn : ss.length ≤ 1000) (hss : ∀ x ∈ ss, Bk w x.g [.string ⟨x.name.toArray⟩, x.vc] 216) (hc : w.cell? ⟨nb, 0, none⟩ = some (.string ⟨s.toArray⟩)) (hnb : nb < w.heap.size) :
    Calls Tryz.prog 181 #[.slice a ss.length c, .func (.func 155) #[] #[.pointer (some ⟨nb, 0, none⟩)]] w fun e w' => (∃ i : Int, e = .returned (.int .i64 i) ∧ decide (0 ≤ i) = ss.any (fun x => x.name == s)) ∧ Below w.heap.size w w' := by
  have HA := Lib.hid hA
  have HS := Lib.hid hss
  have HC := Lib.hid hc
  clear hA hss hc
  go_enter Tryz.func181, Tryz.ntmps181
  go_wp2
  go_loopw [8] (fun v wr => ∃ k : Nat, k ≤ ss.length ∧ v = .int .i64 k ∧ Hid (∀ i (hi : i < k) (hl : i < ss.length), (ss[i].name == s) = false) ∧ Below w.heap.size w wr) (fun v _ => ss.length - (intOf v).toNat)
  case atStart => exact ⟨0, by omega, rfl, (fun i hi => absurd hi (by omega)), Below.refl _ _⟩
  case round =>
    obtain ⟨k, hk, rfl, HP, hb⟩ := hrel
    by_cases hlt : k < ss.length
    · obtain ⟨b, off, ha, hbl, hcs⟩ := (HA.out.below hb).elem (i := k) (by simpa using hlt)
      subst ha
      have hc0 := hcs 0 (.pointer (some ⟨ss[k].g, 0, none⟩)) (by simp [encP])
      rw [Nat.mul_one, Nat.add_zero] at hc0
      clear hcs
      have HB1 := Lib.hid ((HS.out ss[k] (List.getElem_mem hlt)).next hb)
      have HC1 : Hid (wr.cell? ⟨nb, 0, none⟩ = some (.string ⟨s.toArray⟩)) := by show _ = _; rw [hb.cell (p := ⟨nb, 0, none⟩) hnb]; exact HC.out
      cases hp : (ss[k].name == s)
      · have HP2 := Lib.hid hp
        clear hp
        generalize ss[k].g = gk at *
        go_wp2_with (go_at_call 155; refine (clo_inc gk nb _ s _ _ HB1.out HC1.out).mono ?_; rw [HP2.out]; rintro e w2 ⟨rfl, hb2⟩)
        go_roundw
        case rel =>
          refine ⟨k + 1, by omega, by go_num, ?_, hb.trans (hb2.mono hb.size)⟩
          intro i hi hl
          rcases Nat.lt_succ_iff_lt_or_eq.1 hi with h | h
          · exact HP.out i h hl
          · subst h; exact HP2.out
        case measure => simp [intOf]; omega
      · have HR : Hid (ss.any (fun x => x.name == s) = true) := by show _ = _; rw [List.any_eq_true]; exact ⟨ss[k], List.getElem_mem hlt, hp⟩
        have HP2 := Lib.hid hp
        clear hp
        generalize ss[k].g = gk at *
        go_wp2_with (go_at_call 155; refine (clo_inc gk nb _ s _ _ HB1.out HC1.out).mono ?_; rw [HP2.out]; rintro e w2 ⟨rfl, hb2⟩)
        go_ret
        exact ⟨⟨k, rfl, by rw [HR.out]; simp⟩, hb.trans (hb2.mono hb.size)⟩
    · have HR : Hid (ss.any (fun x => x.name == s) = false) := by
        show _ = _
        rw [List.any_eq_false]
        intro x hx
        obtain ⟨i, hi, rfl⟩ := List.mem_iff_getElem.1 hx
        simpa using HP.out i (by omega) hi
      go_wp2
      go_ret
      exact ⟨⟨-1, rfl, by rw [HR.out]; rfl⟩, hb⟩

set_option maxHeartbeats 1000000 in
theorem containsFunc_any (ss : List Op1) (a : Option Addr) (c nb : Nat) (s : Bytes) (w : World) (hA : At w 1 encP a (ss.map (·.g))) (hn : ss.length ≤ 1000) (hss : ∀ x ∈ ss, Bk w x.g [.string ⟨x.name.toArray⟩, x.vc] 216) (hc : w.cell? ⟨nb, 0, none⟩ = some (.string ⟨s.toArray⟩)) (hnb : nb < w.heap.size) :
    Calls Tryz.prog 154 #[.slice a ss.length c, .func (.func 155) #[] #[.pointer (some ⟨nb, 0, none⟩)]] w fun e w' => e = .returned (.bool (ss.any (fun x => x.name == s))) ∧ Below w.heap.size w w' := by
  have HI := Lib.hid (indexFunc_any ss a c nb s w hA hn hss hc hnb)
  generalize ss.any (fun x => x.name == s) = bb at *
  clear hA hss hc
  go_enter Tryz.func154, Tryz.ntmps154
  go_wp2_with (go_at_call 181; refine HI.out.mono ?_; rintro e w1 ⟨⟨i, rfl, hi⟩, hb1⟩; have HI2 := Lib.hid hi; clear hi)
  go_ret
  exact ⟨by show Ending.returned (.bool (decide (0 ≤ i))) = _; rw [HI2.out], hb1⟩
end Go.Proofs.YtfedkhicckgjaaaGreatDoor

namespace Go.Proofs.YtfedkhicckgjaaaGreatDoor
open Go.RowKit
set_option linter.unusedVariables false

/-- a contract for the reading of a source -/
def ReadsAs (A : Adr) (L : List Two) (rd : Rd) : Prop := ∀ (r : RS) (V : Vals) (ss : List Op1) (w : World) (name text : Bytes) (r' : RS), Core A L r V ss w → rd r name text = some r' →
  r'.opens = r.opens ∧ Calls Tryz.prog 138 #[.pointer (some ⟨A.rb, 0, none⟩), .string ⟨name.toArray⟩, .string ⟨text.toArray⟩] w fun e w' => e = .returned (.tuple #[]) ∧ ∃ V', Core A L r' V' ss w' ∧ Step A V w V' w'
theorem Core.any_name {A : Adr} {L : List Two} {r : RS} {V : Vals} {ss : List Op1} {w : World} (h : Core A L r V ss w) (s : Bytes) : ss.any (fun x => x.name == s) = r.opens.any (fun x => x.name == s) := by
  have h1 : (ss.map (·.name)).any (fun n => n == s) = (r.opens.map (·.name)).any (fun n => n == s) := by rw [h.nm]
  rw [List.any_map, List.any_map] at h1
  exact h1
theorem Core.len_ss {A : Adr} {L : List Two} {r : RS} {V : Vals} {ss : List Op1} {w : World} (h : Core A L r V ss w) : ss.length = r.opens.length := by
  have := congrArg List.length h.nm
  simpa using this.symm
theorem srcV_none {L : List Two} {s : Bytes} (h : srcL L s = none) : srcV L s = [] ∧ srcB L s = false := by unfold srcV srcB; rw [h]; exact ⟨rfl, rfl⟩
theorem srcV_some {L : List Two} {s t : Bytes} (h : srcL L s = some t) : srcV L s = t ∧ srcB L s = true := by unfold srcV srcB; rw [h]; exact ⟨rfl, rfl⟩

set_option maxHeartbeats 4000000 in
set_option maxRecDepth 100000 in
theorem inc_bad (A : Adr) (L : List Two) (r : RS) (V : Vals) (ss : List Op1) (x : Op1) (w : World) (h : Core A L r V (ss ++ [x]) w) (ht : Top A r.top x w) (hss : ss.length ≤ 900) (l : Pl) (rest : Bytes) (hrest : rest.length ≤ 1048576) (hL : L.length ≤ 1048576) (hdg : r.diags.length ≤ 200000) (hp : pathB rest = false) :
    Calls Tryz.prog 133 #[.pointer (some ⟨A.rb, 0, none⟩), .agg #[.string ⟨l.file.toArray⟩, .int .i64 l.no, .string ⟨l.text.toArray⟩], .string ⟨rest.toArray⟩] w (LineGives A L V ss x w (r.tell l 3 l.text)) := by
  have hls := h.len_ss
  obtain ⟨oa, oc, hvo⟩ := h.vo.shape
  rw [List.length_map] at hvo
  have HVO : Hid (V.vo = .slice oa (ss ++ [x]).length oc) := hvo
  have HC := Lib.hid h
  have HT := Lib.hid ht
  have hlen : (ss ++ [x]).length ≤ 1000 := by simp; omega
  have hlo : (ss ++ [x]).length = r.opens.length := hls
  generalize hsx : ss ++ [x] = sx at *
  have HSX := Lib.hid hsx
  have HLO := Lib.hid hlo
  have HPB := Lib.hid hp
  clear h ht hvo hsx hls hlo hp
  go_enter Tryz.func133, Tryz.ntmps133
  have hb0 : Below w.heap.size w ((w.alloc (.cells #[.string ⟨l.file.toArray⟩, .int .i64 l.no, .string ⟨l.text.toArray⟩] 205)).alloc (.cells #[.string ⟨rest.toArray⟩] 9)) := ((Below.refl _ _).alloc (Nat.le_refl _) _).alloc (by simp) _
  have HP0 : Hid (Bk ((w.alloc (.cells #[.string ⟨l.file.toArray⟩, .int .i64 l.no, .string ⟨l.text.toArray⟩] 205)).alloc (.cells #[.string ⟨rest.toArray⟩] 9)) w.heap.size [.string ⟨l.file.toArray⟩, .int .i64 l.no, .string ⟨l.text.toArray⟩] 205) := (Bk.new w #[.string ⟨l.file.toArray⟩, .int .i64 l.no, .string ⟨l.text.toArray⟩] 205).alloc _
  have HR0 : Hid (Bk ((w.alloc (.cells #[.string ⟨l.file.toArray⟩, .int .i64 l.no, .string ⟨l.text.toArray⟩] 205)).alloc (.cells #[.string ⟨rest.toArray⟩] 9)) (w.heap.size + 1) [.string ⟨rest.toArray⟩] 9) := by have h1 := Bk.new (w.alloc (.cells #[.string ⟨l.file.toArray⟩, .int .i64 l.no, .string ⟨l.text.toArray⟩] 205)) #[.string ⟨rest.toArray⟩] 9; rw [World.size_alloc] at h1; exact h1
  go_wp2_with (first
    | (go_at_call 153; refine (pathCheck_any rest _ hrest (HC.out.next hb0).mx).mono ?_; rw [HPB.out]; rintro e w1 ⟨rfl, hc⟩; have hb1 := hb0.trans (hc.mono hb0.size); have HP1 := Lib.hid (HP0.out.next hc); have HR1 := Lib.hid (HR0.out.next hc); have HC1 := Lib.hid (HC.out.next hb1); have hz1 := hc.size; clear hc; have q0 := HP1.out.cell 0; have q1 := HP1.out.cell 1; have q2 := HP1.out.cell 2; have t0 := HR1.out.cell 0; simp only [List.getElem?_cons_zero, List.getElem?_cons_succ] at q0 q1 q2 t0; have o3 : w1.cell? ⟨A.rb, 3, none⟩ = some (.slice oa sx.length oc) := (by rw [HC1.out.rb.cell, ← HVO.out]; rfl); have o0 : w1.cell? ⟨A.rb, 0, none⟩ = some (.slice A.sa L.length A.sc) := (by rw [HC1.out.rb.cell]; rfl))
    | (go_at_call 150; refine (tell_any A L r V sx _ HC1.out l 3 l.text hdg).mono ?_; rintro e w4 ⟨rfl, V', hc4, hs4⟩; have HCt := Lib.hid hc4; have HTt := Lib.hid ((HT.out.next hb1).step HC1.out hs4); have HSt := Lib.hid (((StepT.refl A V x w).below hb1).trans (hs4.toT x)); clear hc4 hs4))
  go_end0
  exact ⟨rfl, V', x, by rw [HSX.out]; exact HCt.out, HTt.out, HSt.out⟩

set_option maxHeartbeats 4000000 in
set_option maxRecDepth 100000 in
theorem inc_circ (A : Adr) (L : List Two) (r : RS) (V : Vals) (ss : List Op1) (x : Op1) (w : World) (h : Core A L r V (ss ++ [x]) w) (ht : Top A r.top x w) (hss : ss.length ≤ 900) (l : Pl) (rest : Bytes) (hrest : rest.length ≤ 1048576) (hL : L.length ≤ 1048576) (hdg : r.diags.length ≤ 200000) (hp : pathB rest = true) (hany : r.opens.any (fun s => s.name == rest) = true) :
    Calls Tryz.prog 133 #[.pointer (some ⟨A.rb, 0, none⟩), .agg #[.string ⟨l.file.toArray⟩, .int .i64 l.no, .string ⟨l.text.toArray⟩], .string ⟨rest.toArray⟩] w (LineGives A L V ss x w (r.tell l 2 rest)) := by
  have hls := h.len_ss
  obtain ⟨oa, oc, hvo⟩ := h.vo.shape
  rw [List.length_map] at hvo
  have HVO : Hid (V.vo = .slice oa (ss ++ [x]).length oc) := hvo
  have HC := Lib.hid h
  have HT := Lib.hid ht
  have hlen : (ss ++ [x]).length ≤ 1000 := by simp; omega
  have hlo : (ss ++ [x]).length = r.opens.length := hls
  generalize hsx : ss ++ [x] = sx at *
  have HSX := Lib.hid hsx
  have HLO := Lib.hid hlo
  have HPB := Lib.hid hp
  have HANY : Hid (sx.any (fun y => y.name == rest) = true) := by show _ = _; rw [h.any_name]; exact hany
  clear h ht hvo hsx hls hlo hp hany
  go_enter Tryz.func133, Tryz.ntmps133
  have hb0 : Below w.heap.size w ((w.alloc (.cells #[.string ⟨l.file.toArray⟩, .int .i64 l.no, .string ⟨l.text.toArray⟩] 205)).alloc (.cells #[.string ⟨rest.toArray⟩] 9)) := ((Below.refl _ _).alloc (Nat.le_refl _) _).alloc (by simp) _
  have HP0 : Hid (Bk ((w.alloc (.cells #[.string ⟨l.file.toArray⟩, .int .i64 l.no, .string ⟨l.text.toArray⟩] 205)).alloc (.cells #[.string ⟨rest.toArray⟩] 9)) w.heap.size [.string ⟨l.file.toArray⟩, .int .i64 l.no, .string ⟨l.text.toArray⟩] 205) := (Bk.new w #[.string ⟨l.file.toArray⟩, .int .i64 l.no, .string ⟨l.text.toArray⟩] 205).alloc _
  have HR0 : Hid (Bk ((w.alloc (.cells #[.string ⟨l.file.toArray⟩, .int .i64 l.no, .string ⟨l.text.toArray⟩] 205)).alloc (.cells #[.string ⟨rest.toArray⟩] 9)) (w.heap.size + 1) [.string ⟨rest.toArray⟩] 9) := by have h1 := Bk.new (w.alloc (.cells #[.string ⟨l.file.toArray⟩, .int .i64 l.no, .string ⟨l.text.toArray⟩] 205)) #[.string ⟨rest.toArray⟩] 9; rw [World.size_alloc] at h1; exact h1
  go_wp2_with (first
    | (go_at_call 153; refine (pathCheck_any rest _ hrest (HC.out.next hb0).mx).mono ?_; rw [HPB.out]; rintro e w1 ⟨rfl, hc⟩; have hb1 := hb0.trans (hc.mono hb0.size); have HP1 := Lib.hid (HP0.out.next hc); have HR1 := Lib.hid (HR0.out.next hc); have HC1 := Lib.hid (HC.out.next hb1); have hz1 := hc.size; clear hc; have q0 := HP1.out.cell 0; have q1 := HP1.out.cell 1; have q2 := HP1.out.cell 2; have t0 := HR1.out.cell 0; simp only [List.getElem?_cons_zero, List.getElem?_cons_succ] at q0 q1 q2 t0; have o3 : w1.cell? ⟨A.rb, 3, none⟩ = some (.slice oa sx.length oc) := (by rw [HC1.out.rb.cell, ← HVO.out]; rfl); have o0 : w1.cell? ⟨A.rb, 0, none⟩ = some (.slice A.sa L.length A.sc) := (by rw [HC1.out.rb.cell]; rfl))
    | (go_at_call 154; refine (containsFunc_any sx oa oc (w.heap.size + 1) rest w1 (by have h1 := HC1.out.vo; rw [HVO.out] at h1; rw [← List.length_map (f := fun y : Op1 => y.g)] at h1; exact h1.addr encP_ok) hlen (fun y hy => (HC1.out.ops y hy).1) (HR1.out.cell 0) HR1.out.lt).mono ?_; rw [HANY.out]; rintro e w2 ⟨rfl, hc⟩; have hb2 := hb1.trans (hc.mono hb1.size); have HP2 := Lib.hid (HP1.out.next hc); have HR2 := Lib.hid (HR1.out.next hc); have HC2 := Lib.hid (HC.out.next hb2); have hz2 := hc.size; clear hc; have q0 := HP2.out.cell 0; have q1 := HP2.out.cell 1; have q2 := HP2.out.cell 2; have t0 := HR2.out.cell 0; simp only [List.getElem?_cons_zero, List.getElem?_cons_succ] at q0 q1 q2 t0; have o3 : w2.cell? ⟨A.rb, 3, none⟩ = some (.slice oa sx.length oc) := (by rw [HC2.out.rb.cell, ← HVO.out]; rfl); have o0 : w2.cell? ⟨A.rb, 0, none⟩ = some (.slice A.sa L.length A.sc) := (by rw [HC2.out.rb.cell]; rfl))
    | (go_at_call 150; refine (tell_any A L r V sx _ HC2.out l 2 rest hdg).mono ?_; rintro e w4 ⟨rfl, V', hc4, hs4⟩; have HCt := Lib.hid hc4; have HTt := Lib.hid ((HT.out.next hb2).step HC2.out hs4); have HSt := Lib.hid (((StepT.refl A V x w).below hb2).trans (hs4.toT x)); clear hc4 hs4))
  go_end0
  exact ⟨rfl, V', x, by rw [HSX.out]; exact HCt.out, HTt.out, HSt.out⟩

set_option maxHeartbeats 4000000 in
set_option maxRecDepth 100000 in
theorem inc_deep (A : Adr) (L : List Two) (r : RS) (V : Vals) (ss : List Op1) (x : Op1) (w : World) (h : Core A L r V (ss ++ [x]) w) (ht : Top A r.top x w) (hss : ss.length ≤ 900) (l : Pl) (rest : Bytes) (hrest : rest.length ≤ 1048576) (hL : L.length ≤ 1048576) (hdg : r.diags.length ≤ 200000) (hp : pathB rest = true) (hany : r.opens.any (fun s => s.name == rest) = false) (hd : 16 ≤ r.opens.length) :
    Calls Tryz.prog 133 #[.pointer (some ⟨A.rb, 0, none⟩), .agg #[.string ⟨l.file.toArray⟩, .int .i64 l.no, .string ⟨l.text.toArray⟩], .string ⟨rest.toArray⟩] w (LineGives A L V ss x w (r.tell l 5 rest)) := by
  have hls := h.len_ss
  obtain ⟨oa, oc, hvo⟩ := h.vo.shape
  rw [List.length_map] at hvo
  have HVO : Hid (V.vo = .slice oa (ss ++ [x]).length oc) := hvo
  have HC := Lib.hid h
  have HT := Lib.hid ht
  have hlen : (ss ++ [x]).length ≤ 1000 := by simp; omega
  have hlo : (ss ++ [x]).length = r.opens.length := hls
  generalize hsx : ss ++ [x] = sx at *
  have HSX := Lib.hid hsx
  have HLO := Lib.hid hlo
  have HPB := Lib.hid hp
  have hd2 : 16 ≤ sx.length := by omega
  have HANY : Hid (sx.any (fun y => y.name == rest) = false) := by show _ = _; rw [h.any_name]; exact hany
  clear h ht hvo hsx hls hlo hp hany hd
  go_enter Tryz.func133, Tryz.ntmps133
  have hb0 : Below w.heap.size w ((w.alloc (.cells #[.string ⟨l.file.toArray⟩, .int .i64 l.no, .string ⟨l.text.toArray⟩] 205)).alloc (.cells #[.string ⟨rest.toArray⟩] 9)) := ((Below.refl _ _).alloc (Nat.le_refl _) _).alloc (by simp) _
  have HP0 : Hid (Bk ((w.alloc (.cells #[.string ⟨l.file.toArray⟩, .int .i64 l.no, .string ⟨l.text.toArray⟩] 205)).alloc (.cells #[.string ⟨rest.toArray⟩] 9)) w.heap.size [.string ⟨l.file.toArray⟩, .int .i64 l.no, .string ⟨l.text.toArray⟩] 205) := (Bk.new w #[.string ⟨l.file.toArray⟩, .int .i64 l.no, .string ⟨l.text.toArray⟩] 205).alloc _
  have HR0 : Hid (Bk ((w.alloc (.cells #[.string ⟨l.file.toArray⟩, .int .i64 l.no, .string ⟨l.text.toArray⟩] 205)).alloc (.cells #[.string ⟨rest.toArray⟩] 9)) (w.heap.size + 1) [.string ⟨rest.toArray⟩] 9) := by have h1 := Bk.new (w.alloc (.cells #[.string ⟨l.file.toArray⟩, .int .i64 l.no, .string ⟨l.text.toArray⟩] 205)) #[.string ⟨rest.toArray⟩] 9; rw [World.size_alloc] at h1; exact h1
  go_wp2_with (first
    | (go_at_call 153; refine (pathCheck_any rest _ hrest (HC.out.next hb0).mx).mono ?_; rw [HPB.out]; rintro e w1 ⟨rfl, hc⟩; have hb1 := hb0.trans (hc.mono hb0.size); have HP1 := Lib.hid (HP0.out.next hc); have HR1 := Lib.hid (HR0.out.next hc); have HC1 := Lib.hid (HC.out.next hb1); have hz1 := hc.size; clear hc; have q0 := HP1.out.cell 0; have q1 := HP1.out.cell 1; have q2 := HP1.out.cell 2; have t0 := HR1.out.cell 0; simp only [List.getElem?_cons_zero, List.getElem?_cons_succ] at q0 q1 q2 t0; have o3 : w1.cell? ⟨A.rb, 3, none⟩ = some (.slice oa sx.length oc) := (by rw [HC1.out.rb.cell, ← HVO.out]; rfl); have o0 : w1.cell? ⟨A.rb, 0, none⟩ = some (.slice A.sa L.length A.sc) := (by rw [HC1.out.rb.cell]; rfl))
    | (go_at_call 154; refine (containsFunc_any sx oa oc (w.heap.size + 1) rest w1 (by have h1 := HC1.out.vo; rw [HVO.out] at h1; rw [← List.length_map (f := fun y : Op1 => y.g)] at h1; exact h1.addr encP_ok) hlen (fun y hy => (HC1.out.ops y hy).1) (HR1.out.cell 0) HR1.out.lt).mono ?_; rw [HANY.out]; rintro e w2 ⟨rfl, hc⟩; have hb2 := hb1.trans (hc.mono hb1.size); have HP2 := Lib.hid (HP1.out.next hc); have HR2 := Lib.hid (HR1.out.next hc); have HC2 := Lib.hid (HC.out.next hb2); have hz2 := hc.size; clear hc; have q0 := HP2.out.cell 0; have q1 := HP2.out.cell 1; have q2 := HP2.out.cell 2; have t0 := HR2.out.cell 0; simp only [List.getElem?_cons_zero, List.getElem?_cons_succ] at q0 q1 q2 t0; have o3 : w2.cell? ⟨A.rb, 3, none⟩ = some (.slice oa sx.length oc) := (by rw [HC2.out.rb.cell, ← HVO.out]; rfl); have o0 : w2.cell? ⟨A.rb, 0, none⟩ = some (.slice A.sa L.length A.sc) := (by rw [HC2.out.rb.cell]; rfl))
    | (go_at_call 150; refine (tell_any A L r V sx _ HC2.out l 5 rest hdg).mono ?_; rintro e w4 ⟨rfl, V', hc4, hs4⟩; have HCt := Lib.hid hc4; have HTt := Lib.hid ((HT.out.next hb2).step HC2.out hs4); have HSt := Lib.hid (((StepT.refl A V x w).below hb2).trans (hs4.toT x)); clear hc4 hs4))
  go_end0
  exact ⟨rfl, V', x, by rw [HSX.out]; exact HCt.out, HTt.out, HSt.out⟩

set_option maxHeartbeats 4000000 in
set_option maxRecDepth 100000 in
theorem inc_miss (A : Adr) (L : List Two) (r : RS) (V : Vals) (ss : List Op1) (x : Op1) (w : World) (h : Core A L r V (ss ++ [x]) w) (ht : Top A r.top x w) (hss : ss.length ≤ 900) (l : Pl) (rest : Bytes) (hrest : rest.length ≤ 1048576) (hL : L.length ≤ 1048576) (hdg : r.diags.length ≤ 200000) (hp : pathB rest = true) (hany : r.opens.any (fun s => s.name == rest) = false) (hd : r.opens.length < 16) (hs : srcL L rest = none) :
    Calls Tryz.prog 133 #[.pointer (some ⟨A.rb, 0, none⟩), .agg #[.string ⟨l.file.toArray⟩, .int .i64 l.no, .string ⟨l.text.toArray⟩], .string ⟨rest.toArray⟩] w (LineGives A L V ss x w (r.tell l 1 rest)) := by
  have hls := h.len_ss
  obtain ⟨oa, oc, hvo⟩ := h.vo.shape
  rw [List.length_map] at hvo
  have HVO : Hid (V.vo = .slice oa (ss ++ [x]).length oc) := hvo
  have HC := Lib.hid h
  have HT := Lib.hid ht
  have hlen : (ss ++ [x]).length ≤ 1000 := by simp; omega
  have hlo : (ss ++ [x]).length = r.opens.length := hls
  generalize hsx : ss ++ [x] = sx at *
  have HSX := Lib.hid hsx
  have HLO := Lib.hid hlo
  have HPB := Lib.hid hp
  have HSV := Lib.hid (srcV_none hs)
  have hd2 : sx.length < 16 := by omega
  have HANY : Hid (sx.any (fun y => y.name == rest) = false) := by show _ = _; rw [h.any_name]; exact hany
  clear h ht hvo hsx hls hlo hp hany hd hs
  go_enter Tryz.func133, Tryz.ntmps133
  have hb0 : Below w.heap.size w ((w.alloc (.cells #[.string ⟨l.file.toArray⟩, .int .i64 l.no, .string ⟨l.text.toArray⟩] 205)).alloc (.cells #[.string ⟨rest.toArray⟩] 9)) := ((Below.refl _ _).alloc (Nat.le_refl _) _).alloc (by simp) _
  have HP0 : Hid (Bk ((w.alloc (.cells #[.string ⟨l.file.toArray⟩, .int .i64 l.no, .string ⟨l.text.toArray⟩] 205)).alloc (.cells #[.string ⟨rest.toArray⟩] 9)) w.heap.size [.string ⟨l.file.toArray⟩, .int .i64 l.no, .string ⟨l.text.toArray⟩] 205) := (Bk.new w #[.string ⟨l.file.toArray⟩, .int .i64 l.no, .string ⟨l.text.toArray⟩] 205).alloc _
  have HR0 : Hid (Bk ((w.alloc (.cells #[.string ⟨l.file.toArray⟩, .int .i64 l.no, .string ⟨l.text.toArray⟩] 205)).alloc (.cells #[.string ⟨rest.toArray⟩] 9)) (w.heap.size + 1) [.string ⟨rest.toArray⟩] 9) := by have h1 := Bk.new (w.alloc (.cells #[.string ⟨l.file.toArray⟩, .int .i64 l.no, .string ⟨l.text.toArray⟩] 205)) #[.string ⟨rest.toArray⟩] 9; rw [World.size_alloc] at h1; exact h1
  go_wp2_with (first
    | (go_at_call 153; refine (pathCheck_any rest _ hrest (HC.out.next hb0).mx).mono ?_; rw [HPB.out]; rintro e w1 ⟨rfl, hc⟩; have hb1 := hb0.trans (hc.mono hb0.size); have HP1 := Lib.hid (HP0.out.next hc); have HR1 := Lib.hid (HR0.out.next hc); have HC1 := Lib.hid (HC.out.next hb1); have hz1 := hc.size; clear hc; have q0 := HP1.out.cell 0; have q1 := HP1.out.cell 1; have q2 := HP1.out.cell 2; have t0 := HR1.out.cell 0; simp only [List.getElem?_cons_zero, List.getElem?_cons_succ] at q0 q1 q2 t0; have o3 : w1.cell? ⟨A.rb, 3, none⟩ = some (.slice oa sx.length oc) := (by rw [HC1.out.rb.cell, ← HVO.out]; rfl); have o0 : w1.cell? ⟨A.rb, 0, none⟩ = some (.slice A.sa L.length A.sc) := (by rw [HC1.out.rb.cell]; rfl))
    | (go_at_call 154; refine (containsFunc_any sx oa oc (w.heap.size + 1) rest w1 (by have h1 := HC1.out.vo; rw [HVO.out] at h1; rw [← List.length_map (f := fun y : Op1 => y.g)] at h1; exact h1.addr encP_ok) hlen (fun y hy => (HC1.out.ops y hy).1) (HR1.out.cell 0) HR1.out.lt).mono ?_; rw [HANY.out]; rintro e w2 ⟨rfl, hc⟩; have hb2 := hb1.trans (hc.mono hb1.size); have HP2 := Lib.hid (HP1.out.next hc); have HR2 := Lib.hid (HR1.out.next hc); have HC2 := Lib.hid (HC.out.next hb2); have hz2 := hc.size; clear hc; have q0 := HP2.out.cell 0; have q1 := HP2.out.cell 1; have q2 := HP2.out.cell 2; have t0 := HR2.out.cell 0; simp only [List.getElem?_cons_zero, List.getElem?_cons_succ] at q0 q1 q2 t0; have o3 : w2.cell? ⟨A.rb, 3, none⟩ = some (.slice oa sx.length oc) := (by rw [HC2.out.rb.cell, ← HVO.out]; rfl); have o0 : w2.cell? ⟨A.rb, 0, none⟩ = some (.slice A.sa L.length A.sc) := (by rw [HC2.out.rb.cell]; rfl)))
  go_region_held3 (fun w' => w'.cell? ⟨A.rb, 0, none⟩ = some (.slice A.sa L.length A.sc) ∧ w'.cell? ⟨w.heap.size + 1, 0, none⟩ = some (.string ⟨rest.toArray⟩)) (first | exact ⟨o0, t0⟩ | go_keep) ((go_at_call 14; refine (find_any A.sa A.sc L rest _ hL (by exact HC2.out.src)).mono ?_; rw [HSV.out.1, HSV.out.2]; rintro e w3 ⟨rfl, hc0⟩; have hc : Below w2.heap.size w2 w3 := (show Below w2.heap.size w2 w2.drew from ⟨rfl, rfl, rfl, Nat.le_refl _, fun _ _ => rfl⟩).trans hc0; clear hc0; have hb3 := hb2.trans (hc.mono hb2.size); have HP3 := Lib.hid (HP2.out.next hc); have HR3 := Lib.hid (HR2.out.next hc); have HC3 := Lib.hid (HC.out.next hb3); have hz3 := hc.size; clear hc; have q0 := HP3.out.cell 0; have q1 := HP3.out.cell 1; have q2 := HP3.out.cell 2; have t0 := HR3.out.cell 0; simp only [List.getElem?_cons_zero, List.getElem?_cons_succ] at q0 q1 q2 t0; have o3 : w3.cell? ⟨A.rb, 3, none⟩ = some (.slice oa sx.length oc) := (by rw [HC3.out.rb.cell, ← HVO.out]; rfl); have o0 : w3.cell? ⟨A.rb, 0, none⟩ = some (.slice A.sa L.length A.sc) := (by rw [HC3.out.rb.cell]; rfl)))
  go_wp2_with ((go_at_call 150; refine (tell_any A L r V sx _ HC3.out l 1 rest hdg).mono ?_; rintro e w4 ⟨rfl, V', hc4, hs4⟩; have HCt := Lib.hid hc4; have HTt := Lib.hid ((HT.out.next hb3).step HC3.out hs4); have HSt := Lib.hid (((StepT.refl A V x w).below hb3).trans (hs4.toT x)); clear hc4 hs4))
  go_end0
  exact ⟨rfl, V', x, by rw [HSX.out]; exact HCt.out, HTt.out, HSt.out⟩

set_option maxHeartbeats 4000000 in
set_option maxRecDepth 100000 in
theorem inc_read (A : Adr) (L : List Two) (r : RS) (V : Vals) (ss : List Op1) (x : Op1) (w : World) (h : Core A L r V (ss ++ [x]) w) (ht : Top A r.top x w) (hss : ss.length ≤ 900) (l : Pl) (rest : Bytes) (hrest : rest.length ≤ 1048576) (hL : L.length ≤ 1048576) (hdg : r.diags.length ≤ 200000) (hp : pathB rest = true) (hany : r.opens.any (fun s => s.name == rest) = false) (hd : r.opens.length < 16) (t : Bytes) (hs : srcL L rest = some t) (rd : Rd) (hrd : ReadsAs A L rd) (r2 : RS) (hr2 : rd r rest t = some r2) :
    Calls Tryz.prog 133 #[.pointer (some ⟨A.rb, 0, none⟩), .agg #[.string ⟨l.file.toArray⟩, .int .i64 l.no, .string ⟨l.text.toArray⟩], .string ⟨rest.toArray⟩] w (LineGives A L V ss x w r2) := by
  have hls := h.len_ss
  obtain ⟨oa, oc, hvo⟩ := h.vo.shape
  rw [List.length_map] at hvo
  have HVO : Hid (V.vo = .slice oa (ss ++ [x]).length oc) := hvo
  have HC := Lib.hid h
  have HT := Lib.hid ht
  have hlen : (ss ++ [x]).length ≤ 1000 := by simp; omega
  have hlo : (ss ++ [x]).length = r.opens.length := hls
  generalize hsx : ss ++ [x] = sx at *
  have HSX := Lib.hid hsx
  have HLO := Lib.hid hlo
  have HPB := Lib.hid hp
  have HSV := Lib.hid (srcV_some hs)
  have hd2 : sx.length < 16 := by omega
  have HRD := Lib.hid (fun w' h' => hrd r V sx w' rest t r2 h' hr2)
  have hop : r2.opens = r.opens := (hrd r V sx w rest t r2 h hr2).1
  have HTP : Hid (r2.top = r.top) := by show _ = _; unfold RS.top; rw [hop]
  have HANY : Hid (sx.any (fun y => y.name == rest) = false) := by show _ = _; rw [h.any_name]; exact hany
  clear h ht hvo hsx hls hlo hp hany hd hs hrd hr2 hop
  go_enter Tryz.func133, Tryz.ntmps133
  have hb0 : Below w.heap.size w ((w.alloc (.cells #[.string ⟨l.file.toArray⟩, .int .i64 l.no, .string ⟨l.text.toArray⟩] 205)).alloc (.cells #[.string ⟨rest.toArray⟩] 9)) := ((Below.refl _ _).alloc (Nat.le_refl _) _).alloc (by simp) _
  have HP0 : Hid (Bk ((w.alloc (.cells #[.string ⟨l.file.toArray⟩, .int .i64 l.no, .string ⟨l.text.toArray⟩] 205)).alloc (.cells #[.string ⟨rest.toArray⟩] 9)) w.heap.size [.string ⟨l.file.toArray⟩, .int .i64 l.no, .string ⟨l.text.toArray⟩] 205) := (Bk.new w #[.string ⟨l.file.toArray⟩, .int .i64 l.no, .string ⟨l.text.toArray⟩] 205).alloc _
  have HR0 : Hid (Bk ((w.alloc (.cells #[.string ⟨l.file.toArray⟩, .int .i64 l.no, .string ⟨l.text.toArray⟩] 205)).alloc (.cells #[.string ⟨rest.toArray⟩] 9)) (w.heap.size + 1) [.string ⟨rest.toArray⟩] 9) := by have h1 := Bk.new (w.alloc (.cells #[.string ⟨l.file.toArray⟩, .int .i64 l.no, .string ⟨l.text.toArray⟩] 205)) #[.string ⟨rest.toArray⟩] 9; rw [World.size_alloc] at h1; exact h1
  go_wp2_with (first
    | (go_at_call 153; refine (pathCheck_any rest _ hrest (HC.out.next hb0).mx).mono ?_; rw [HPB.out]; rintro e w1 ⟨rfl, hc⟩; have hb1 := hb0.trans (hc.mono hb0.size); have HP1 := Lib.hid (HP0.out.next hc); have HR1 := Lib.hid (HR0.out.next hc); have HC1 := Lib.hid (HC.out.next hb1); have hz1 := hc.size; clear hc; have q0 := HP1.out.cell 0; have q1 := HP1.out.cell 1; have q2 := HP1.out.cell 2; have t0 := HR1.out.cell 0; simp only [List.getElem?_cons_zero, List.getElem?_cons_succ] at q0 q1 q2 t0; have o3 : w1.cell? ⟨A.rb, 3, none⟩ = some (.slice oa sx.length oc) := (by rw [HC1.out.rb.cell, ← HVO.out]; rfl); have o0 : w1.cell? ⟨A.rb, 0, none⟩ = some (.slice A.sa L.length A.sc) := (by rw [HC1.out.rb.cell]; rfl))
    | (go_at_call 154; refine (containsFunc_any sx oa oc (w.heap.size + 1) rest w1 (by have h1 := HC1.out.vo; rw [HVO.out] at h1; rw [← List.length_map (f := fun y : Op1 => y.g)] at h1; exact h1.addr encP_ok) hlen (fun y hy => (HC1.out.ops y hy).1) (HR1.out.cell 0) HR1.out.lt).mono ?_; rw [HANY.out]; rintro e w2 ⟨rfl, hc⟩; have hb2 := hb1.trans (hc.mono hb1.size); have HP2 := Lib.hid (HP1.out.next hc); have HR2 := Lib.hid (HR1.out.next hc); have HC2 := Lib.hid (HC.out.next hb2); have hz2 := hc.size; clear hc; have q0 := HP2.out.cell 0; have q1 := HP2.out.cell 1; have q2 := HP2.out.cell 2; have t0 := HR2.out.cell 0; simp only [List.getElem?_cons_zero, List.getElem?_cons_succ] at q0 q1 q2 t0; have o3 : w2.cell? ⟨A.rb, 3, none⟩ = some (.slice oa sx.length oc) := (by rw [HC2.out.rb.cell, ← HVO.out]; rfl); have o0 : w2.cell? ⟨A.rb, 0, none⟩ = some (.slice A.sa L.length A.sc) := (by rw [HC2.out.rb.cell]; rfl)))
  go_region_held3 (fun w' => w'.cell? ⟨A.rb, 0, none⟩ = some (.slice A.sa L.length A.sc) ∧ w'.cell? ⟨w.heap.size + 1, 0, none⟩ = some (.string ⟨rest.toArray⟩)) (first | exact ⟨o0, t0⟩ | go_keep) ((go_at_call 14; refine (find_any A.sa A.sc L rest _ hL (by exact HC2.out.src)).mono ?_; rw [HSV.out.1, HSV.out.2]; rintro e w3 ⟨rfl, hc0⟩; have hc : Below w2.heap.size w2 w3 := (show Below w2.heap.size w2 w2.drew from ⟨rfl, rfl, rfl, Nat.le_refl _, fun _ _ => rfl⟩).trans hc0; clear hc0; have hb3 := hb2.trans (hc.mono hb2.size); have HP3 := Lib.hid (HP2.out.next hc); have HR3 := Lib.hid (HR2.out.next hc); have HC3 := Lib.hid (HC.out.next hb3); have hz3 := hc.size; clear hc; have q0 := HP3.out.cell 0; have q1 := HP3.out.cell 1; have q2 := HP3.out.cell 2; have t0 := HR3.out.cell 0; simp only [List.getElem?_cons_zero, List.getElem?_cons_succ] at q0 q1 q2 t0; have o3 : w3.cell? ⟨A.rb, 3, none⟩ = some (.slice oa sx.length oc) := (by rw [HC3.out.rb.cell, ← HVO.out]; rfl); have o0 : w3.cell? ⟨A.rb, 0, none⟩ = some (.slice A.sa L.length A.sc) := (by rw [HC3.out.rb.cell]; rfl)))
  go_wp2_with ((go_at_call 138; refine (HRD.out w3 HC3.out).2.mono ?_; rintro e w4 ⟨rfl, V', hc4, hs4⟩; have HCt := Lib.hid hc4; have HTt := Lib.hid ((HT.out.next hb3).step HC3.out hs4); have HSt := Lib.hid (((StepT.refl A V x w).below hb3).trans (hs4.toT x)); clear hc4 hs4))
  go_end0
  exact ⟨rfl, V', x, by rw [HSX.out]; exact HCt.out, by rw [HTP.out]; exact HTt.out, HSt.out⟩

theorem include_any (A : Adr) (L : List Two) (r : RS) (V : Vals) (ss : List Op1) (x : Op1) (w : World) (h : Core A L r V (ss ++ [x]) w) (ht : Top A r.top x w) (hss : ss.length ≤ 900) (l : Pl) (rest : Bytes) (hrest : rest.length ≤ 1048576) (hL : L.length ≤ 1048576) (hdg : r.diags.length ≤ 200000) (rd : Rd) (hrd : ReadsAs A L rd) (r2 : RS) (hr2 : r.include rd L l rest = some r2) :
    Calls Tryz.prog 133 #[.pointer (some ⟨A.rb, 0, none⟩), .agg #[.string ⟨l.file.toArray⟩, .int .i64 l.no, .string ⟨l.text.toArray⟩], .string ⟨rest.toArray⟩] w (LineGives A L V ss x w r2) := by
  unfold RS.include at hr2
  by_cases hp : pathB rest = true
  · rw [if_pos hp] at hr2
    by_cases hany : r.opens.any (fun s => s.name == rest) = true
    · rw [if_pos hany] at hr2
      cases hr2
      exact inc_circ A L r V ss x w h ht hss l rest hrest hL hdg hp hany
    · rw [if_neg hany] at hr2
      have hany2 := Bool.eq_false_iff.2 hany
      by_cases hd : 16 ≤ r.opens.length
      · rw [if_pos hd] at hr2
        cases hr2
        exact inc_deep A L r V ss x w h ht hss l rest hrest hL hdg hp hany2 hd
      · rw [if_neg hd] at hr2
        cases hs : srcL L rest with
        | none =>
          rw [hs] at hr2
          cases hr2
          exact inc_miss A L r V ss x w h ht hss l rest hrest hL hdg hp hany2 (by omega) hs
        | some t =>
          rw [hs] at hr2
          exact inc_read A L r V ss x w h ht hss l rest hrest hL hdg hp hany2 (by omega) t hs rd hrd r2 hr2
  · rw [if_neg hp] at hr2
    cases hr2
    exact inc_bad A L r V ss x w h ht hss l rest hrest hL hdg (Bool.eq_false_iff.2 hp)
end Go.Proofs.YtfedkhicckgjaaaGreatDoor

namespace Go.Proofs.YtfedkhicckgjaaaGreatDoor
open Go.RowKit
set_option linter.unusedVariables false

theorem begin_any (A : Adr) (L : List Two) (r : RS) (V : Vals) (ss : List Op1) (x : Op1) (w : World) (h : Core A L r V (ss ++ [x]) w) (ht : Top A r.top x w) (hss : ss.length ≤ 900) (l : Pl) (rest : Bytes) (hrest : rest.length ≤ 1048576) (hdg : r.diags.length ≤ 200000) (hat : r.attrs.length ≤ 1048576) (hsc : r.top.conds.length ≤ 29000) :
    Calls Tryz.prog 130 #[.pointer (some ⟨A.rb, 0, none⟩), .agg #[.string ⟨l.file.toArray⟩, .int .i64 l.no, .string ⟨l.text.toArray⟩], .string ⟨rest.toArray⟩] w (LineGives A L V ss x w (r.begin l rest)) := by
  have hnm := h.top_name
  unfold RS.begin
  by_cases hf : r.top.force = true
  · rw [if_pos hf]
    by_cases hok : (splitP rest).2.2.2 = true
    · rw [if_pos hok]
      by_cases hd : 16 ≤ r.top.conds.length
      · rw [if_pos hd]
        refine (begin_deep A L r V ss _ x w h ht hnm (by omega) (by omega) l rest hf hrest hat hdg hok hd).mono ?_
        rintro e w' ⟨he, V', x', h1, h2, h3⟩
        exact ⟨he, V', x', h1, by rw [top_setTop]; exact h2, h3⟩
      · rw [if_neg hd]
        refine (begin_ok A L r V ss _ x w h ht hnm (by omega) (by omega) l rest hf hrest hat hdg hok (by omega) _ _ rfl rfl).mono ?_
        rintro e w' ⟨he, x', h1, h2, h3⟩
        exact ⟨he, V, x', h1, by rw [top_setTop]; exact h2, h3⟩
    · rw [if_neg hok]
      refine (begin_bad A L r V ss _ x w h ht hnm (by omega) (by omega) l rest hf hrest hat hdg (Bool.eq_false_iff.2 hok)).mono ?_
      rintro e w' ⟨he, V', x', h1, h2, h3⟩
      exact ⟨he, V', x', h1, by rw [top_setTop]; exact h2, h3⟩
  · rw [if_neg hf]
    refine (begin_off A L r V ss _ x w h ht hnm (by omega) (by omega) l rest (Bool.eq_false_iff.2 hf)).mono ?_
    rintro e w' ⟨he, x', h1, h2, h3⟩
    exact ⟨he, V, x', h1, by rw [top_setTop]; exact h2, h3⟩
theorem turn_any (A : Adr) (L : List Two) (r : RS) (V : Vals) (ss : List Op1) (x : Op1) (w : World) (h : Core A L r V (ss ++ [x]) w) (ht : Top A r.top x w) (hss : ss.length ≤ 900) (l : Pl) (rest : Bytes) (hdg : r.diags.length ≤ 200000) (hsc : r.top.conds.length ≤ 29000) :
    Calls Tryz.prog 131 #[.pointer (some ⟨A.rb, 0, none⟩), .agg #[.string ⟨l.file.toArray⟩, .int .i64 l.no, .string ⟨l.text.toArray⟩], .string ⟨rest.toArray⟩] w (LineGives A L V ss x w (r.turn l)) := by
  rcases List.eq_nil_or_concat r.top.conds with hc | ⟨cs, cd, hc⟩
  · have e : r.turn l = r.tell l 4 l.text := by unfold RS.turn; rw [hc]; rfl
    rw [e]
    exact turn_none A L r V ss x w h ht (by omega) l rest hdg (by rw [hc]; rfl)
  · have hc2 : r.top.conds = cs ++ [cd] := by rw [hc]; simp
    have hl : cs.length ≤ 29000 := by rw [hc2] at hsc; simp at hsc; omega
    by_cases ho : cd.other = true
    · have e : r.turn l = r.tell l 4 l.text := by unfold RS.turn; rw [hc2, List.getLast?_concat]; exact if_pos ho
      rw [e]
      exact turn_other A L r V ss x w h ht (by omega) l rest hdg cs cd hc2 hl ho
    · have e : r.turn l = r.setTop ⟨r.top.name, r.top.conds.dropLast ++ [{ cd with other := true }]⟩ := by
        unfold RS.turn
        have : r.top.conds.getLast? = some cd := by rw [hc2, List.getLast?_concat]
        rw [this]; exact if_neg ho
      rw [e]
      exact turn_some A L r V ss x w h ht (by omega) l rest cs cd hc2 hl (Bool.eq_false_iff.2 ho)
theorem end_any (A : Adr) (L : List Two) (r : RS) (V : Vals) (ss : List Op1) (x : Op1) (w : World) (h : Core A L r V (ss ++ [x]) w) (ht : Top A r.top x w) (hss : ss.length ≤ 900) (l : Pl) (rest : Bytes) (hdg : r.diags.length ≤ 200000) (hsc : r.top.conds.length ≤ 29000) :
    Calls Tryz.prog 132 #[.pointer (some ⟨A.rb, 0, none⟩), .agg #[.string ⟨l.file.toArray⟩, .int .i64 l.no, .string ⟨l.text.toArray⟩], .string ⟨rest.toArray⟩] w (LineGives A L V ss x w (r.end_ l)) := by
  unfold RS.end_
  cases hl : r.top.conds.length with
  | zero =>
    rw [if_pos (by rw [List.isEmpty_iff]; exact List.eq_nil_of_length_eq_zero hl)]
    exact end_none A L r V ss x w h ht (by omega) l rest hdg hl
  | succ n =>
    rw [if_neg (by intro e; rw [List.isEmpty_iff] at e; rw [e] at hl; cases hl)]
    exact end_some A L r V ss x w h ht (by omega) l rest n (by omega) hl
end Go.Proofs.YtfedkhicckgjaaaGreatDoor

namespace Go.Proofs.YtfedkhicckgjaaaGreatDoor
open Go.RowKit
set_option linter.unusedVariables false

set_option maxHeartbeats 2000000 in
set_option maxRecDepth 100000 in
theorem words_any (w : World) :
    Calls Tryz.prog 86 #[] w fun e w' => e = .returned (.map (some w.heap.size)) ∧ SMap w' w.heap.size wordsKV ∧ Below w.heap.size w w' := by
  have hmm := @run_makeMap Tryz.prog
  have H0 := Lib.hid (SMap.new w)
  have hb0 := (Below.refl w.heap.size w).alloc (Nat.le_refl _) (.map #[] 0)
  go_enter Tryz.func86, Tryz.ntmps86
  go_wp2_with (first
    | (refine wpList_smap_put rfl (.tmp 1) (.const (.string ⟨#[64, 105, 102]⟩)) (.tmp 2) 84 9 200 (.inr rfl) Tryz.underlying84 Tryz.underlying9 w.heap.size _ H0.out [64, 105, 102] (.agg #[.func (.func 130) #[] #[], .bool true]) rfl rfl rfl ?_; intro w1 hm hg hz; have H1 := Lib.hid hm; have hb1 := hb0.grown hg hb0.size (by intro k hk; cases hk; omega); clear hm hg hz)
    | (refine wpList_smap_put rfl (.tmp 1) (.const (.string ⟨#[64, 101, 108, 115, 101]⟩)) (.tmp 3) 84 9 200 (.inr rfl) Tryz.underlying84 Tryz.underlying9 w.heap.size _ H1.out [64, 101, 108, 115, 101] (.agg #[.func (.func 131) #[] #[], .bool true]) rfl rfl rfl ?_; intro w2 hm hg hz; have H2 := Lib.hid hm; have hb2 := hb1.grown hg hb1.size (by intro k hk; cases hk; omega); clear hm hg hz)
    | (refine wpList_smap_put rfl (.tmp 1) (.const (.string ⟨#[64, 101, 110, 100]⟩)) (.tmp 4) 84 9 200 (.inr rfl) Tryz.underlying84 Tryz.underlying9 w.heap.size _ H2.out [64, 101, 110, 100] (.agg #[.func (.func 132) #[] #[], .bool true]) rfl rfl rfl ?_; intro w3 hm hg hz; have H3 := Lib.hid hm; have hb3 := hb2.grown hg hb2.size (by intro k hk; cases hk; omega); clear hm hg hz)
    | (refine wpList_smap_put rfl (.tmp 1) (.const (.string ⟨#[64, 105, 110, 99, 108, 117, 100, 101]⟩)) (.tmp 5) 84 9 200 (.inr rfl) Tryz.underlying84 Tryz.underlying9 w.heap.size _ H3.out [64, 105, 110, 99, 108, 117, 100, 101] (.agg #[.func (.func 133) #[] #[], .bool false]) rfl rfl rfl ?_; intro w4 hm hg hz; have H4 := Lib.hid hm; have hb4 := hb3.grown hg hb3.size (by intro k hk; cases hk; omega); clear hm hg hz)
    | (refine wpList_smap_put rfl (.tmp 1) (.const (.string ⟨#[64, 115, 101, 116]⟩)) (.tmp 6) 84 9 200 (.inr rfl) Tryz.underlying84 Tryz.underlying9 w.heap.size _ H4.out [64, 115, 101, 116] (.agg #[.func (.func 134) #[] #[], .bool false]) rfl rfl rfl ?_; intro w5 hm hg hz; have H5 := Lib.hid hm; have hb5 := hb4.grown hg hb4.size (by intro k hk; cases hk; omega); clear hm hg hz)
    | (refine wpList_smap_put rfl (.tmp 1) (.const (.string ⟨#[64, 117, 110, 115, 101, 116]⟩)) (.tmp 7) 84 9 200 (.inr rfl) Tryz.underlying84 Tryz.underlying9 w.heap.size _ H5.out [64, 117, 110, 115, 101, 116] (.agg #[.func (.func 135) #[] #[], .bool false]) rfl rfl rfl ?_; intro w6 hm hg hz; have H6 := Lib.hid hm; have hb6 := hb5.grown hg hb5.size (by intro k hk; cases hk; omega); clear hm hg hz))
  go_ret
  exact ⟨rfl, H6.out, hb6⟩
end Go.Proofs.YtfedkhicckgjaaaGreatDoor

namespace Go.Proofs.YtfedkhicckgjaaaGreatDoor
open Go.RowKit
set_option linter.unusedVariables false

section
variable {A : Adr} {L : List Two} {r : RS} {V V1 V2 : Vals} {ss : List Op1} {s : SrcS} {x x0 x1 x2 : Op1} {w w1 w2 w3 : World}
/-- a source that was opened is of no account behind it -/
theorem StepT.close (h : Step A V w V1 w1) (hx : w.heap.size ≤ x0.g) (hv : x0.vc.ownBlock = none) (k : StepT A V1 x0 w1 V2 x2 w2) : Step A V w V2 w2 := by
  have hz := h.kept.size
  have hF : ∀ g, FootT A V1 x0 g → Foot A V g ∨ w.heap.size ≤ g := fun g hg => by
    rcases hg with h1 | rfl | e
    · exact h.foot g h1
    · exact .inr hx
    · rw [hv] at e; cases e
  refine ⟨fun g hg => ?_, h.kept.transN (n := w.heap.size) (k.kept.mono hF) (Nat.le_refl _)⟩
  rcases k.foot g (.inl hg) with h1 | h1
  · exact hF g h1
  · exact .inr (by omega)
/-- one more line is come to -/
theorem Core.cnt (h : Core A L r V ss w) : Core A L { r with count := r.count + 1 } V ss (w.setCell ⟨A.rb, 4, none⟩ (.int .i64 ((r.count + 1 : Nat) : Int))) ∧ Step A V w V (w.setCell ⟨A.rb, 4, none⟩ (.int .i64 ((r.count + 1 : Nat) : Int))) := by
  have hk : Kept (fun g => g = A.rb) w (w.setCell ⟨A.rb, 4, none⟩ (.int .i64 ((r.count + 1 : Nat) : Int))) := Kept.setCell (S := fun g => g = A.rb) (Kept.refl _ w) (p := ⟨A.rb, 4, none⟩) rfl _
  have hb := h.rb.set 4 (.int .i64 ((r.count + 1 : Nat) : Int))
  refine ⟨h.upd (T := 89) hk (fun g hg => .inl hg) (by decide) hb (fun e => absurd e (by decide)) (fun _ => ⟨rfl, rfl⟩) (fun e => absurd e (by decide)) (fun _ => ⟨rfl, rfl⟩) (fun e => absurd e (by decide)) (fun _ => ⟨rfl, rfl⟩) (fun e => absurd e (by decide)) (fun _ => ⟨rfl, rfl⟩) (by decide) rfl rfl rfl rfl rfl (fun g hg => by rw [hg]; exact h.hrb), ⟨fun g hg => .inl hg, hk.mono fun g hg => .inl hg⟩⟩
/-- a source is opened -/
theorem Core.push {gg cap gs : Nat} {nm : Bytes} (h : Core A L r V ss w) (hSt : Kept (fun g => g = A.rb ∨ V.vo.ownBlock = some g) w w3)
    (hk3 : Bk w3 A.rb (rcells A L.length V r.count) 89) (hown : w3.ownsRow A.B 206 1 (.slice (some ⟨gg, 0, none⟩) (ss.length + 1) cap) (ss.length + 1) ((ss.map (·.g)).flatMap encP ++ encP gs))
    (hgk : gg ≠ A.rb) (hgn : V.vo.ownBlock = some gg ∨ w.heap.size ≤ gg) (hs3 : Bk w3 gs [.string ⟨nm.toArray⟩, .slice none 0 0] 216) (hgs : w.heap.size ≤ gs) (r2 : RS)
    (hr2 : r2 = { r with opens := r.opens ++ [⟨nm, []⟩] }) :
    ∃ V', Core A L r2 V' (ss ++ [⟨gs, nm, .slice none 0 0⟩]) (w3.setCell ⟨A.rb, 3, none⟩ (.slice (some ⟨gg, 0, none⟩) (ss.length + 1) cap))
      ∧ Top A ⟨nm, []⟩ ⟨gs, nm, .slice none 0 0⟩ (w3.setCell ⟨A.rb, 3, none⟩ (.slice (some ⟨gg, 0, none⟩) (ss.length + 1) cap))
      ∧ Step A V w V' (w3.setCell ⟨A.rb, 3, none⟩ (.slice (some ⟨gg, 0, none⟩) (ss.length + 1) cap)) := by
  have hSt2 := hSt.setCell (p := ⟨A.rb, 3, none⟩) (.inl rfl) (.slice (some ⟨gg, 0, none⟩) (ss.length + 1) cap)
  have hO : Own (w3.setCell ⟨A.rb, 3, none⟩ (.slice (some ⟨gg, 0, none⟩) (ss.length + 1) cap)) A.B 206 1 encP (.slice (some ⟨gg, 0, none⟩) (ss.length + 1) cap) ((ss ++ [(⟨gs, nm, .slice none 0 0⟩ : Op1)]).map (·.g)) := by
    refine Own.kept (w := w3) ?_ (fun k hk' => Below.heap_setCell _ _ _ _ (fun e => by cases hk'; exact hgk e))
    unfold Own
    rw [List.map_append, List.length_append, List.flatMap_append, List.length_map]
    simpa using hown
  have hlt := h.rb.lt
  have hBs := h.base
  have hgr : A.rb ≠ gs := by omega
  have hs4 := hs3.set_other hgr 3 (.slice (some ⟨gg, 0, none⟩) (ss.length + 1) cap)
  obtain ⟨h1, h2⟩ := h.updO (V' := { V with vo := .slice (some ⟨gg, 0, none⟩) (ss.length + 1) cap }) (r' := r2) (ss' := ss ++ [⟨gs, nm, .slice none 0 0⟩]) hSt2 (fun g hg => hg) (by rw [hr2]; exact hk3.set 3 _) hO ⟨rfl, rfl, rfl, rfl⟩ (by rw [hr2]; exact ⟨rfl, rfl, rfl, rfl, rfl, rfl, rfl⟩)
    (fun y hy => by
      rcases List.mem_append.1 hy with hy | hy
      · refine ⟨hSt2.bk (h.ops y hy).1 (fun hs => ?_), (h.ops y hy).2⟩
        rcases hs with e | e
        · have := (h.ops y hy).1.isK; rw [e] at this; exact absurd (this.ne h.rb.isK) (by decide)
        · exact absurd ((h.vo.isK e).ne (h.ops y hy).1.isK) (by decide)
      · rw [List.mem_singleton] at hy
        subst hy
        exact ⟨hs4, by show A.B ≤ gs; omega⟩)
    (by
      rw [List.map_append, List.nodup_append]
      refine ⟨h.nd, by simp, fun a ha b hb => ?_⟩
      obtain ⟨y, hy, rfl⟩ := List.mem_map.1 ha
      have := (h.ops y hy).1.lt
      simp at hb
      omega)
    (by rw [hr2]; show (r.opens ++ [_]).map _ = _; rw [List.map_append, List.map_append, h.nm]; rfl)
    (fun g e => by cases e; exact hgn)
  exact ⟨_, h1, ⟨hs4, by show A.B ≤ gs; omega, Own.nil _ _ _ _ _⟩, h2⟩
/-- a source is shut -/
theorem Core.pop {go c : Nat} (h : Core A L r V (ss ++ [x]) w) (hv : V.vo = .slice (some ⟨go, 0, none⟩) (ss.length + 1) c) (w3 : World) (hw : w3 = (w.setCell ⟨A.rb, 3, none⟩ (.slice (some ⟨go, 0, none⟩) ss.length c)).drew) (r2 : RS) (hr2 : r2 = { r with opens := r.opens.dropLast }) :
    ∃ V', Core A L r2 V' ss w3 ∧ Step A V w V' w3 := by
  subst hw
  have hk : Kept (fun g => g = A.rb ∨ V.vo.ownBlock = some g) w (w.setCell ⟨A.rb, 3, none⟩ (.slice (some ⟨go, 0, none⟩) ss.length c)).drew := ((Kept.refl _ w).setCell (p := ⟨A.rb, 3, none⟩) (.inl rfl) _).drewN 1
  have hO : Own w A.B 206 1 encP (.slice (some ⟨go, 0, none⟩) (ss.length + 1) c) (ss.map (·.g) ++ [x.g]) := by
    have := h.vo; rw [hv] at this; simpa using this
  have hne := hO.ne_bk h.rb (by decide)
  have hO2 : Own (w.setCell ⟨A.rb, 3, none⟩ (.slice (some ⟨go, 0, none⟩) ss.length c)).drew A.B 206 1 encP (.slice (some ⟨go, 0, none⟩) ss.length c) (ss.map (·.g)) := by
    have h1 := (Own.cut encP_ok hO (by simp) rfl).set_other (g := A.rb) (by intro e; exact hne e) 3 (.slice (some ⟨go, 0, none⟩) ss.length c)
    exact h1.drewN 1
  have hb := (h.rb.set 3 (.slice (some ⟨go, 0, none⟩) ss.length c)).drew
  have hnd := h.nd
  rw [List.map_append, List.nodup_append] at hnd
  have hnm := h.nm
  obtain ⟨h1, h2⟩ := h.updO (V' := { V with vo := .slice (some ⟨go, 0, none⟩) ss.length c }) (r' := r2) (ss' := ss) hk (fun g hg => hg) (by rw [hr2]; exact hb) hO2 ⟨rfl, rfl, rfl, rfl⟩ (by rw [hr2]; exact ⟨rfl, rfl, rfl, rfl, rfl, rfl, rfl⟩)
    (fun y hy => by
      have hy2 := h.ops y (List.mem_append_left _ hy)
      refine ⟨hk.bk hy2.1 (fun hs => ?_), hy2.2⟩
      rcases hs with e | e
      · have := hy2.1.isK; rw [e] at this; exact absurd (this.ne h.rb.isK) (by decide)
      · exact absurd ((h.vo.isK e).ne hy2.1.isK) (by decide))
    hnd.1
    (by
      rw [hr2]
      show r.opens.dropLast.map _ = _
      rw [List.map_dropLast, hnm, List.map_append]; simp)
    (fun g e => .inl (by rw [hv]; exact e))
  exact ⟨_, h1, h2⟩
end
end Go.Proofs.YtfedkhicckgjaaaGreatDoor
