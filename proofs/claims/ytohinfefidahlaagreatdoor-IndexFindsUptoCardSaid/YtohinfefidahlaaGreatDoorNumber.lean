/- refs.counts.number: what a block is counted as. -/
import Derived.Test.YtohinfefidahlaaGreatDoorJoH
import Derived.Deep.RegionHeld3
import Derived.Deep.DrawnRows
import Derived.StillTailTactics
namespace Go.Proofs.YtohinfefidahlaaGreatDoor
open Go.RowKit
set_option linter.unusedVariables false
set_option linter.unusedSimpArgs false

/-! ### the table of powers stays -/
theorem HasTab.lt {w : World} (h : HasTab w) : 1 < w.heap.size := by
  have h2 := h
  unfold HasTab Lib.TabIs World.var? at h2
  rw [powTab] at h2
  simp only [Option.bind_some] at h2
  rcases Nat.lt_or_ge 1 w.heap.size with h' | h'
  · exact h'
  · rw [Array.getElem?_eq_none h'] at h2; cases h2
theorem HasTab.of_block {w w' : World} (h : HasTab w) (hb : w'.heap[1]? = w.heap[1]?) : HasTab w' := by
  unfold HasTab Lib.TabIs World.var? at *
  rw [powTab] at *
  simp only [Option.bind_some] at *
  rw [hb]; exact h
theorem HasTab.keptB {S : Nat → Prop} {w w' : World} (h : HasTab w) (hk : Kept S w w') (hS : ∀ g, S g → 1 < g) : HasTab w' :=
  h.of_block (hk.block _ h.lt fun hs => Nat.lt_irrefl _ (hS _ hs))

def cntCells (p : Nat) (v : Value) (ks : List Nat) : List Value := .int .i64 p :: v :: ks.map fun n : Nat => Value.int .i64 (n : Int)
/-- counts in memory: at block g, their titles in memory from B on -/
def CntAt (w : World) (B g p : Nat) (c : Cnt) : Prop := ∃ v, Bk w g (cntCells p v c.ks) 96 ∧ Own w B 3 1 encI v c.ts
theorem CntAt.next {w w' : World} {B g p : Nat} {c : Cnt} (h : CntAt w B g p c) (hb : Below w.heap.size w w') : CntAt w' B g p c := by
  obtain ⟨v, h1, h2⟩ := h
  exact ⟨v, h1.next hb, h2.next rfl hb⟩
def NumGives (w : World) (B g p : Nat) (c : Cnt) (k : Nat) (lv : Int) (e : Ending) (w' : World) : Prop :=
  e = .returned (.string ⟨(numP p c k lv).toArray⟩) ∧ CntAt w' B g p (cntP c k lv) ∧ Kept (fun x => x = g) w w'
theorem list8 {l : List Nat} (h : l.length = 8) : ∃ a0 a1 a2 a3 a4 a5 a6 a7, l = [a0, a1, a2, a3, a4, a5, a6, a7] := by
  match l, h with
  | [a0, a1, a2, a3, a4, a5, a6, a7], _ => exact ⟨_, _, _, _, _, _, _, _, rfl⟩
theorem CntOk.eight {n : Nat} {c : Cnt} (h : CntOk n c) (hn : n ≤ 1000000) : ∃ a0 a1 a2 a3 a4 a5 a6 a7 : Nat, c.ks = [a0, a1, a2, a3, a4, a5, a6, a7] ∧ a1 ≤ 1000000 ∧ a6 ≤ 1000000 ∧ a7 ≤ 1000000 := by
  obtain ⟨a0, a1, a2, a3, a4, a5, a6, a7, hks⟩ := list8 h.ks
  have hle := h.kle
  rw [hks] at hle
  have h1 : a1 ≤ n := hle 1
  have h6 : a6 ≤ n := hle 6
  have h7 : a7 ≤ n := hle 7
  exact ⟨a0, a1, a2, a3, a4, a5, a6, a7, hks, by omega, by omega, by omega⟩
theorem dec_100 {n : Nat} (h : n ≤ 9223372036854775807) : (Lib.decDigits n).length ≤ 100 := by have := dec_len n h; omega

set_option maxHeartbeats 4000000 in
set_option maxRecDepth 100000 in
theorem number_6 (b : Bl) (B g p n : Nat) (hbk : b.kind = 6) (c : Cnt) (w : World) (hC : CntAt w B g p c) (hok : CntOk n c) (hp : p ≤ 30000) (hn : n ≤ 1000000) (htab : HasTab w) (hgT : 1 < g) (hBw : B ≤ w.heap.size) :
    Calls Tryz.prog 85 #[.pointer (some ⟨g, 0, none⟩), .agg #[.int .u8 b.kind, .int .i64 b.level, .bool b.ord, .string ⟨b.label.toArray⟩, .string ⟨b.text.toArray⟩, .slice b.sa b.sl.length b.sc, .slice b.ra b.rl.length b.rc, .string ⟨b.file.toArray⟩, .int .i64 b.line]] w (NumGives w B g p c 6 b.level) := by
  obtain ⟨v, hbk2, hown⟩ := hC
  obtain ⟨a0, a1, a2, a3, a4, a5, a6, a7, hks, h1, h6, h7⟩ := hok.eight hn
  rw [hks] at hbk2
  have HOK := Lib.hid hok
  have HB := Lib.hid (hbk2.alloc (.cells #[.int .u8 b.kind, .int .i64 b.level, .bool b.ord, .string ⟨b.label.toArray⟩, .string ⟨b.text.toArray⟩, .slice b.sa b.sl.length b.sc, .slice b.ra b.rl.length b.rc, .string ⟨b.file.toArray⟩, .int .i64 b.line] 74))
  have hX := Bk.new w #[.int .u8 b.kind, .int .i64 b.level, .bool b.ord, .string ⟨b.label.toArray⟩, .string ⟨b.text.toArray⟩, .slice b.sa b.sl.length b.sc, .slice b.ra b.rl.length b.rc, .string ⟨b.file.toArray⟩, .int .i64 b.line] 74
  have HX := Lib.hid hX
  have x0 := hX.cell 0
  have x1 := hX.cell 1
  have HO := Lib.hid (hown.alloc (.cells #[.int .u8 b.kind, .int .i64 b.level, .bool b.ord, .string ⟨b.label.toArray⟩, .string ⟨b.text.toArray⟩, .slice b.sa b.sl.length b.sc, .slice b.ra b.rl.length b.rc, .string ⟨b.file.toArray⟩, .int .i64 b.line] 74))
  have HBB := Lib.hid ((Below.refl w.heap.size w).alloc (Nat.le_refl _) (.cells #[.int .u8 b.kind, .int .i64 b.level, .bool b.ord, .string ⟨b.label.toArray⟩, .string ⟨b.text.toArray⟩, .slice b.sa b.sl.length b.sc, .slice b.ra b.rl.length b.rc, .string ⟨b.file.toArray⟩, .int .i64 b.line] 74))
  have hgl := hbk2.lt
  have hne : g ≠ w.heap.size := by omega
  have hne2 : w.heap.size ≠ g := by omega
  have ck := HB.out.cell 8
  have fk := HB.out.free 8
  simp only [cntCells, List.map_cons, List.map_nil] at ck
  have HT := Lib.hid (htab.below HBB.out)
  have HKS := Lib.hid hks
  clear hbk2 hown htab hok hks hX
  rw [hbk] at *
  clear hbk
  go_enter Tryz.func85, Tryz.ntmps85
  go_wp2
  generalize w.alloc (.cells #[.int .u8 _, .int .i64 b.level, .bool b.ord, .string ⟨b.label.toArray⟩, .string ⟨b.text.toArray⟩, .slice b.sa b.sl.length b.sc, .slice b.ra b.rl.length b.rc, .string ⟨b.file.toArray⟩, .int .i64 b.line] 74) = W at *
  change W.cell? ⟨g, 8, none⟩ = some (.int .i64 a6) at ck
  change W.cell? ⟨w.heap.size, 0, none⟩ = some (.int .u8 _) at x0
  change W.cell? ⟨w.heap.size, 1, none⟩ = some (.int .i64 b.level) at x1
  have hw : IntKind.i64.wrap ((a6 : Int) + 1) = (a6 : Int) + 1 := IntWalk.i64_in _ (by omega)
  go_still_tail 11, (by kernel_rfl)
  change wpList _ _ _ _ _ W.drew
  clear hw
  go_wp2
  have HB2 : Hid (Bk (W.setCell ⟨g, 8, none⟩ (.int .i64 ((a6 : Int) + 1))).drew g (cntCells p v [a0, a1, a2, a3, a4, a5, a6 + 1, a7]) 96) := by
    have h := (HB.out.set 8 (.int .i64 ((a6 : Int) + 1))).drew
    exact h
  have HX2 := Lib.hid ((HX.out.set_other hne 8 (.int .i64 ((a6 : Int) + 1))).drew)
  have HK2 : Hid (Kept (fun x => x = g) w (W.setCell ⟨g, 8, none⟩ (.int .i64 ((a6 : Int) + 1))).drew) := ((Kept.of_below HBB.out).setCell (S := fun x => x = g) (p := ⟨g, 8, none⟩) rfl _).drewN 1
  have HKW : Hid (Kept (fun x => x = g) W (W.setCell ⟨g, 8, none⟩ (.int .i64 ((a6 : Int) + 1))).drew) := ((Kept.refl (fun x => x = g) W).setCell (S := fun x => x = g) (p := ⟨g, 8, none⟩) rfl _).drewN 1
  have HO2 : Hid (Own (W.setCell ⟨g, 8, none⟩ (.int .i64 ((a6 : Int) + 1))).drew B 3 1 encI v c.ts) := (HO.out.set_other (HO.out.ne_bk HB.out (by decide)) 8 _).drewN 1
  have HT2 : Hid (HasTab (W.setCell ⟨g, 8, none⟩ (.int .i64 ((a6 : Int) + 1))).drew) := HT.out.keptB HKW.out fun x hx => by rw [hx]; exact hgT
  clear HKW
  generalize (W.setCell ⟨g, 8, none⟩ (.int .i64 ((a6 : Int) + 1))).drew = W2 at *
  have c0 := HB2.out.cell 0
  have c1 := HB2.out.cell 1
  have ci := HB2.out.cell 8
  have f1 := HB2.out.free 1
  have y0 := HX2.out.cell 0
  have y1 := HX2.out.cell 1
  change W2.cell? ⟨g, 0, none⟩ = some (.int .i64 p) at c0
  change W2.cell? ⟨g, 1, none⟩ = some v at c1
  change W2.cell? ⟨g, 8, none⟩ = some (.int .i64 ((a6 : Int) + 1)) at ci
  change W2.cell? ⟨w.heap.size, 0, none⟩ = some (.int .u8 _) at y0
  change W2.cell? ⟨w.heap.size, 1, none⟩ = some (.int .i64 b.level) at y1
  clear ck fk x0 x1 HB HX HBB HO HT
  go_still_tail 11, (by kernel_rfl)
  change wpList _ _ _ _ _ W2.drew
  have HB3 := Lib.hid (HB2.out.drew.alloc (.cells #[.int .i64 p, .int .i64 ((a6 : Int) + 1)] 3))
  have HN3 := Lib.hid (Bk.new W2.drew #[.int .i64 p, .int .i64 ((a6 : Int) + 1)] 3)
  have HK3 := Lib.hid ((HK2.out.drewN 1).alloc (.cells #[.int .i64 p, .int .i64 ((a6 : Int) + 1)] 3))
  have HO3 := Lib.hid ((HO2.out.drewN 1).alloc (.cells #[.int .i64 p, .int .i64 ((a6 : Int) + 1)] 3))
  have HT3 : Hid (HasTab (W2.drew.alloc (.cells #[.int .i64 p, .int .i64 ((a6 : Int) + 1)] 3))) := HT2.out.below (((Below.refl _ W2).trans ⟨rfl, rfl, rfl, Nat.le_refl _, fun _ _ => rfl⟩ : Below W2.heap.size W2 W2.drew).alloc (Nat.le_refl _) _)
  clear c0 c1 ci y0 y1
  go_wp2_with (go_at_call 89; refine (dotted_any [p, a6 + 1] _ 2 _ (At.of_bk encI_ok HN3.out) (by simp) (by intro x hx; simp at hx; rcases hx with rfl | rfl <;> exact ⟨by omega, dec_100 (by omega)⟩) HT3.out).mono ?_; rintro e w4 ⟨rfl, hb⟩)
  go_ret
  have e1 : (cntP c 6 b.level) = ⟨c.ts, [a0, a1, a2, a3, a4, a5, a6 + 1, a7]⟩ := by
    unfold cntP bumpK; rw [HKS.out]; rfl
  refine ⟨?_, ?_, HK3.out.trans (Kept.of_below hb)⟩
  · unfold numP; rw [e1]; rfl
  · rw [e1]
    exact ⟨v, HB3.out.next hb, HO3.out.next rfl hb⟩

set_option maxHeartbeats 4000000 in
set_option maxRecDepth 100000 in
theorem number_7 (b : Bl) (B g p n : Nat) (hbk : b.kind = 7) (c : Cnt) (w : World) (hC : CntAt w B g p c) (hok : CntOk n c) (hp : p ≤ 30000) (hn : n ≤ 1000000) (htab : HasTab w) (hgT : 1 < g) (hBw : B ≤ w.heap.size) :
    Calls Tryz.prog 85 #[.pointer (some ⟨g, 0, none⟩), .agg #[.int .u8 b.kind, .int .i64 b.level, .bool b.ord, .string ⟨b.label.toArray⟩, .string ⟨b.text.toArray⟩, .slice b.sa b.sl.length b.sc, .slice b.ra b.rl.length b.rc, .string ⟨b.file.toArray⟩, .int .i64 b.line]] w (NumGives w B g p c 7 b.level) := by
  obtain ⟨v, hbk2, hown⟩ := hC
  obtain ⟨a0, a1, a2, a3, a4, a5, a6, a7, hks, h1, h6, h7⟩ := hok.eight hn
  rw [hks] at hbk2
  have HOK := Lib.hid hok
  have HB := Lib.hid (hbk2.alloc (.cells #[.int .u8 b.kind, .int .i64 b.level, .bool b.ord, .string ⟨b.label.toArray⟩, .string ⟨b.text.toArray⟩, .slice b.sa b.sl.length b.sc, .slice b.ra b.rl.length b.rc, .string ⟨b.file.toArray⟩, .int .i64 b.line] 74))
  have hX := Bk.new w #[.int .u8 b.kind, .int .i64 b.level, .bool b.ord, .string ⟨b.label.toArray⟩, .string ⟨b.text.toArray⟩, .slice b.sa b.sl.length b.sc, .slice b.ra b.rl.length b.rc, .string ⟨b.file.toArray⟩, .int .i64 b.line] 74
  have HX := Lib.hid hX
  have x0 := hX.cell 0
  have x1 := hX.cell 1
  have HO := Lib.hid (hown.alloc (.cells #[.int .u8 b.kind, .int .i64 b.level, .bool b.ord, .string ⟨b.label.toArray⟩, .string ⟨b.text.toArray⟩, .slice b.sa b.sl.length b.sc, .slice b.ra b.rl.length b.rc, .string ⟨b.file.toArray⟩, .int .i64 b.line] 74))
  have HBB := Lib.hid ((Below.refl w.heap.size w).alloc (Nat.le_refl _) (.cells #[.int .u8 b.kind, .int .i64 b.level, .bool b.ord, .string ⟨b.label.toArray⟩, .string ⟨b.text.toArray⟩, .slice b.sa b.sl.length b.sc, .slice b.ra b.rl.length b.rc, .string ⟨b.file.toArray⟩, .int .i64 b.line] 74))
  have hgl := hbk2.lt
  have hne : g ≠ w.heap.size := by omega
  have hne2 : w.heap.size ≠ g := by omega
  have ck := HB.out.cell 9
  have fk := HB.out.free 9
  simp only [cntCells, List.map_cons, List.map_nil] at ck
  have HT := Lib.hid (htab.below HBB.out)
  have HKS := Lib.hid hks
  clear hbk2 hown htab hok hks hX
  rw [hbk] at *
  clear hbk
  go_enter Tryz.func85, Tryz.ntmps85
  go_wp2
  generalize w.alloc (.cells #[.int .u8 _, .int .i64 b.level, .bool b.ord, .string ⟨b.label.toArray⟩, .string ⟨b.text.toArray⟩, .slice b.sa b.sl.length b.sc, .slice b.ra b.rl.length b.rc, .string ⟨b.file.toArray⟩, .int .i64 b.line] 74) = W at *
  change W.cell? ⟨g, 9, none⟩ = some (.int .i64 a7) at ck
  change W.cell? ⟨w.heap.size, 0, none⟩ = some (.int .u8 _) at x0
  change W.cell? ⟨w.heap.size, 1, none⟩ = some (.int .i64 b.level) at x1
  have hw : IntKind.i64.wrap ((a7 : Int) + 1) = (a7 : Int) + 1 := IntWalk.i64_in _ (by omega)
  go_still_tail 11, (by kernel_rfl)
  change wpList _ _ _ _ _ W.drew
  clear hw
  go_wp2
  have HB2 : Hid (Bk (W.setCell ⟨g, 9, none⟩ (.int .i64 ((a7 : Int) + 1))).drew g (cntCells p v [a0, a1, a2, a3, a4, a5, a6, a7 + 1]) 96) := by
    have h := (HB.out.set 9 (.int .i64 ((a7 : Int) + 1))).drew
    exact h
  have HX2 := Lib.hid ((HX.out.set_other hne 9 (.int .i64 ((a7 : Int) + 1))).drew)
  have HK2 : Hid (Kept (fun x => x = g) w (W.setCell ⟨g, 9, none⟩ (.int .i64 ((a7 : Int) + 1))).drew) := ((Kept.of_below HBB.out).setCell (S := fun x => x = g) (p := ⟨g, 9, none⟩) rfl _).drewN 1
  have HKW : Hid (Kept (fun x => x = g) W (W.setCell ⟨g, 9, none⟩ (.int .i64 ((a7 : Int) + 1))).drew) := ((Kept.refl (fun x => x = g) W).setCell (S := fun x => x = g) (p := ⟨g, 9, none⟩) rfl _).drewN 1
  have HO2 : Hid (Own (W.setCell ⟨g, 9, none⟩ (.int .i64 ((a7 : Int) + 1))).drew B 3 1 encI v c.ts) := (HO.out.set_other (HO.out.ne_bk HB.out (by decide)) 9 _).drewN 1
  have HT2 : Hid (HasTab (W.setCell ⟨g, 9, none⟩ (.int .i64 ((a7 : Int) + 1))).drew) := HT.out.keptB HKW.out fun x hx => by rw [hx]; exact hgT
  clear HKW
  generalize (W.setCell ⟨g, 9, none⟩ (.int .i64 ((a7 : Int) + 1))).drew = W2 at *
  have c0 := HB2.out.cell 0
  have c1 := HB2.out.cell 1
  have ci := HB2.out.cell 9
  have f1 := HB2.out.free 1
  have y0 := HX2.out.cell 0
  have y1 := HX2.out.cell 1
  change W2.cell? ⟨g, 0, none⟩ = some (.int .i64 p) at c0
  change W2.cell? ⟨g, 1, none⟩ = some v at c1
  change W2.cell? ⟨g, 9, none⟩ = some (.int .i64 ((a7 : Int) + 1)) at ci
  change W2.cell? ⟨w.heap.size, 0, none⟩ = some (.int .u8 _) at y0
  change W2.cell? ⟨w.heap.size, 1, none⟩ = some (.int .i64 b.level) at y1
  clear ck fk x0 x1 HB HX HBB HO HT
  go_still_tail 11, (by kernel_rfl)
  change wpList _ _ _ _ _ W2.drew
  have HB3 := Lib.hid (HB2.out.drew.alloc (.cells #[.int .i64 p, .int .i64 ((a7 : Int) + 1)] 3))
  have HN3 := Lib.hid (Bk.new W2.drew #[.int .i64 p, .int .i64 ((a7 : Int) + 1)] 3)
  have HK3 := Lib.hid ((HK2.out.drewN 1).alloc (.cells #[.int .i64 p, .int .i64 ((a7 : Int) + 1)] 3))
  have HO3 := Lib.hid ((HO2.out.drewN 1).alloc (.cells #[.int .i64 p, .int .i64 ((a7 : Int) + 1)] 3))
  have HT3 : Hid (HasTab (W2.drew.alloc (.cells #[.int .i64 p, .int .i64 ((a7 : Int) + 1)] 3))) := HT2.out.below (((Below.refl _ W2).trans ⟨rfl, rfl, rfl, Nat.le_refl _, fun _ _ => rfl⟩ : Below W2.heap.size W2 W2.drew).alloc (Nat.le_refl _) _)
  clear c0 c1 ci y0 y1
  go_wp2_with (go_at_call 89; refine (dotted_any [p, a7 + 1] _ 2 _ (At.of_bk encI_ok HN3.out) (by simp) (by intro x hx; simp at hx; rcases hx with rfl | rfl <;> exact ⟨by omega, dec_100 (by omega)⟩) HT3.out).mono ?_; rintro e w4 ⟨rfl, hb⟩)
  go_ret
  have e1 : (cntP c 7 b.level) = ⟨c.ts, [a0, a1, a2, a3, a4, a5, a6, a7 + 1]⟩ := by
    unfold cntP bumpK; rw [HKS.out]; rfl
  refine ⟨?_, ?_, HK3.out.trans (Kept.of_below hb)⟩
  · unfold numP; rw [e1]; rfl
  · rw [e1]
    exact ⟨v, HB3.out.next hb, HO3.out.next rfl hb⟩

set_option maxHeartbeats 4000000 in
set_option maxRecDepth 100000 in
theorem number_one (b : Bl) (B g p n : Nat) (hbk : b.kind = 1) (c : Cnt) (w : World) (hC : CntAt w B g p c) (hok : CntOk n c) (hp : p ≤ 30000) (hn : n ≤ 1000000) (htab : HasTab w) (hgT : 1 < g) (hBw : B ≤ w.heap.size) (hone : ¬ (1 < (bumpK c.ks 1).getD 1 0 ∨ b.level ≠ 1)) :
    Calls Tryz.prog 85 #[.pointer (some ⟨g, 0, none⟩), .agg #[.int .u8 b.kind, .int .i64 b.level, .bool b.ord, .string ⟨b.label.toArray⟩, .string ⟨b.text.toArray⟩, .slice b.sa b.sl.length b.sc, .slice b.ra b.rl.length b.rc, .string ⟨b.file.toArray⟩, .int .i64 b.line]] w (NumGives w B g p c 1 b.level) := by
  obtain ⟨v, hbk2, hown⟩ := hC
  obtain ⟨a0, a1, a2, a3, a4, a5, a6, a7, hks, h1, h6, h7⟩ := hok.eight hn
  rw [hks] at hbk2
  have HOK := Lib.hid hok
  have HB := Lib.hid (hbk2.alloc (.cells #[.int .u8 b.kind, .int .i64 b.level, .bool b.ord, .string ⟨b.label.toArray⟩, .string ⟨b.text.toArray⟩, .slice b.sa b.sl.length b.sc, .slice b.ra b.rl.length b.rc, .string ⟨b.file.toArray⟩, .int .i64 b.line] 74))
  have hX := Bk.new w #[.int .u8 b.kind, .int .i64 b.level, .bool b.ord, .string ⟨b.label.toArray⟩, .string ⟨b.text.toArray⟩, .slice b.sa b.sl.length b.sc, .slice b.ra b.rl.length b.rc, .string ⟨b.file.toArray⟩, .int .i64 b.line] 74
  have HX := Lib.hid hX
  have x0 := hX.cell 0
  have x1 := hX.cell 1
  have HO := Lib.hid (hown.alloc (.cells #[.int .u8 b.kind, .int .i64 b.level, .bool b.ord, .string ⟨b.label.toArray⟩, .string ⟨b.text.toArray⟩, .slice b.sa b.sl.length b.sc, .slice b.ra b.rl.length b.rc, .string ⟨b.file.toArray⟩, .int .i64 b.line] 74))
  have HBB := Lib.hid ((Below.refl w.heap.size w).alloc (Nat.le_refl _) (.cells #[.int .u8 b.kind, .int .i64 b.level, .bool b.ord, .string ⟨b.label.toArray⟩, .string ⟨b.text.toArray⟩, .slice b.sa b.sl.length b.sc, .slice b.ra b.rl.length b.rc, .string ⟨b.file.toArray⟩, .int .i64 b.line] 74))
  have hgl := hbk2.lt
  have hne : g ≠ w.heap.size := by omega
  have hne2 : w.heap.size ≠ g := by omega
  have ck := HB.out.cell 3
  have fk := HB.out.free 3
  simp only [cntCells, List.map_cons, List.map_nil] at ck
  have HT := Lib.hid (htab.below HBB.out)
  have HKS := Lib.hid hks
  clear hbk2 hown htab hok hks hX
  rw [hbk] at *
  clear hbk
  go_enter Tryz.func85, Tryz.ntmps85
  go_wp2
  generalize w.alloc (.cells #[.int .u8 _, .int .i64 b.level, .bool b.ord, .string ⟨b.label.toArray⟩, .string ⟨b.text.toArray⟩, .slice b.sa b.sl.length b.sc, .slice b.ra b.rl.length b.rc, .string ⟨b.file.toArray⟩, .int .i64 b.line] 74) = W at *
  change W.cell? ⟨g, 3, none⟩ = some (.int .i64 a1) at ck
  change W.cell? ⟨w.heap.size, 0, none⟩ = some (.int .u8 _) at x0
  change W.cell? ⟨w.heap.size, 1, none⟩ = some (.int .i64 b.level) at x1
  have hw : IntKind.i64.wrap ((a1 : Int) + 1) = (a1 : Int) + 1 := IntWalk.i64_in _ (by omega)
  go_still_tail 11, (by kernel_rfl)
  change wpList _ _ _ _ _ W.drew
  clear hw
  go_wp2
  obtain ⟨hn1, hl1⟩ : (bumpK c.ks 1).getD 1 0 ≤ 1 ∧ b.level = 1 := by omega
  have e0 : (bumpK c.ks 1).getD 1 0 = a1 + 1 := by unfold bumpK; rw [HKS.out]; rfl
  rw [e0] at hn1
  obtain ⟨av, cv, hv⟩ := HO.out.shape
  subst hv
  have HB2 : Hid (Bk (W.setCell ⟨g, 3, none⟩ (.int .i64 ((a1 : Int) + 1))).drew g (cntCells p (.slice av c.ts.length cv) [a0, a1 + 1, a2, a3, a4, a5, a6, a7]) 96) := by
    have h := (HB.out.set 3 (.int .i64 ((a1 : Int) + 1))).drew
    exact h
  have HX2 := Lib.hid ((HX.out.set_other hne 3 (.int .i64 ((a1 : Int) + 1))).drew)
  have HK2 : Hid (Kept (fun x => x = g) w (W.setCell ⟨g, 3, none⟩ (.int .i64 ((a1 : Int) + 1))).drew) := ((Kept.of_below HBB.out).setCell (S := fun x => x = g) (p := ⟨g, 3, none⟩) rfl _).drewN 1
  have HKW : Hid (Kept (fun x => x = g) W (W.setCell ⟨g, 3, none⟩ (.int .i64 ((a1 : Int) + 1))).drew) := ((Kept.refl (fun x => x = g) W).setCell (S := fun x => x = g) (p := ⟨g, 3, none⟩) rfl _).drewN 1
  have HO2 : Hid (Own (W.setCell ⟨g, 3, none⟩ (.int .i64 ((a1 : Int) + 1))).drew B 3 1 encI (.slice av c.ts.length cv) c.ts) := (HO.out.set_other (HO.out.ne_bk HB.out (by decide)) 3 _).drewN 1
  have HT2 : Hid (HasTab (W.setCell ⟨g, 3, none⟩ (.int .i64 ((a1 : Int) + 1))).drew) := HT.out.keptB HKW.out fun x hx => by rw [hx]; exact hgT
  clear HKW
  generalize (W.setCell ⟨g, 3, none⟩ (.int .i64 ((a1 : Int) + 1))).drew = W2 at *
  have c0 := HB2.out.cell 0
  have c1 := HB2.out.cell 1
  have ci := HB2.out.cell 3
  have f1 := HB2.out.free 1
  have y0 := HX2.out.cell 0
  have y1 := HX2.out.cell 1
  change W2.cell? ⟨g, 0, none⟩ = some (.int .i64 p) at c0
  change W2.cell? ⟨g, 1, none⟩ = some (.slice av c.ts.length cv) at c1
  change W2.cell? ⟨g, 3, none⟩ = some (.int .i64 ((a1 : Int) + 1)) at ci
  change W2.cell? ⟨w.heap.size, 0, none⟩ = some (.int .u8 _) at y0
  change W2.cell? ⟨w.heap.size, 1, none⟩ = some (.int .i64 b.level) at y1
  rw [hl1] at y1
  clear ck fk x0 x1 HB HX HBB HO HT hone e0
  have g1 : decide ((1 : Int) < (a1 : Int) + 1) = false := decide_eq_false (by omega)
  have g2 : ((1 : Int) != 1) = false := rfl
  go_quiet (fail)
  go_wp2_with (go_at_call 89; refine (dotted_any c.ts _ _ _ ((HO2.out.drewN _).addr encI_ok) (by have := HOK.out.len; omega) (fun x hx => by have := HOK.out.le x hx; exact ⟨by omega, dec_100 (by omega)⟩) (HT2.out.below ⟨rfl, rfl, rfl, Nat.le_refl _, fun _ _ => rfl⟩)).mono ?_; rintro e w4 ⟨rfl, hb⟩)
  go_ret
  have e1 : (cntP c 1 b.level) = ⟨c.ts, [a0, a1 + 1, a2, a3, a4, a5, a6, a7]⟩ := by
    unfold cntP
    rw [if_neg (by rw [hl1]; unfold bumpK; rw [HKS.out]; show ¬ (1 = 1 ∧ (1 < a1 + 1 ∨ _)); omega)]
    unfold bumpK; rw [HKS.out]; rfl
  have hb' : Below W2.heap.size W2 w4 := (show Below W2.heap.size W2 (W2.drewN _) from ⟨rfl, rfl, rfl, Nat.le_refl _, fun _ _ => rfl⟩).trans hb
  refine ⟨?_, ?_, HK2.out.trans (Kept.of_below hb')⟩
  · unfold numP; rw [e1]; rfl
  · rw [e1]
    exact ⟨_, HB2.out.next hb', HO2.out.next rfl hb'⟩

set_option maxHeartbeats 4000000 in
set_option maxRecDepth 100000 in
theorem number_more (b : Bl) (B g p n : Nat) (hbk : b.kind = 1) (c : Cnt) (w : World) (hC : CntAt w B g p c) (hok : CntOk n c) (hp : p ≤ 30000) (hn : n ≤ 1000000) (htab : HasTab w) (hgT : 1 < g) (hBw : B ≤ w.heap.size) (hone : 1 < (bumpK c.ks 1).getD 1 0 ∨ b.level ≠ 1) :
    Calls Tryz.prog 85 #[.pointer (some ⟨g, 0, none⟩), .agg #[.int .u8 b.kind, .int .i64 b.level, .bool b.ord, .string ⟨b.label.toArray⟩, .string ⟨b.text.toArray⟩, .slice b.sa b.sl.length b.sc, .slice b.ra b.rl.length b.rc, .string ⟨b.file.toArray⟩, .int .i64 b.line]] w (NumGives w B g p c 1 b.level) := by
  obtain ⟨v, hbk2, hown⟩ := hC
  obtain ⟨a0, a1, a2, a3, a4, a5, a6, a7, hks, h1, h6, h7⟩ := hok.eight hn
  rw [hks] at hbk2
  have HOK := Lib.hid hok
  have HB := Lib.hid (hbk2.alloc (.cells #[.int .u8 b.kind, .int .i64 b.level, .bool b.ord, .string ⟨b.label.toArray⟩, .string ⟨b.text.toArray⟩, .slice b.sa b.sl.length b.sc, .slice b.ra b.rl.length b.rc, .string ⟨b.file.toArray⟩, .int .i64 b.line] 74))
  have hX := Bk.new w #[.int .u8 b.kind, .int .i64 b.level, .bool b.ord, .string ⟨b.label.toArray⟩, .string ⟨b.text.toArray⟩, .slice b.sa b.sl.length b.sc, .slice b.ra b.rl.length b.rc, .string ⟨b.file.toArray⟩, .int .i64 b.line] 74
  have HX := Lib.hid hX
  have x0 := hX.cell 0
  have x1 := hX.cell 1
  have HO := Lib.hid (hown.alloc (.cells #[.int .u8 b.kind, .int .i64 b.level, .bool b.ord, .string ⟨b.label.toArray⟩, .string ⟨b.text.toArray⟩, .slice b.sa b.sl.length b.sc, .slice b.ra b.rl.length b.rc, .string ⟨b.file.toArray⟩, .int .i64 b.line] 74))
  have HBB := Lib.hid ((Below.refl w.heap.size w).alloc (Nat.le_refl _) (.cells #[.int .u8 b.kind, .int .i64 b.level, .bool b.ord, .string ⟨b.label.toArray⟩, .string ⟨b.text.toArray⟩, .slice b.sa b.sl.length b.sc, .slice b.ra b.rl.length b.rc, .string ⟨b.file.toArray⟩, .int .i64 b.line] 74))
  have hgl := hbk2.lt
  have hne : g ≠ w.heap.size := by omega
  have hne2 : w.heap.size ≠ g := by omega
  have ck := HB.out.cell 3
  have fk := HB.out.free 3
  simp only [cntCells, List.map_cons, List.map_nil] at ck
  have HT := Lib.hid (htab.below HBB.out)
  have HKS := Lib.hid hks
  clear hbk2 hown htab hok hks hX
  rw [hbk] at *
  clear hbk
  go_enter Tryz.func85, Tryz.ntmps85
  go_wp2
  generalize w.alloc (.cells #[.int .u8 _, .int .i64 b.level, .bool b.ord, .string ⟨b.label.toArray⟩, .string ⟨b.text.toArray⟩, .slice b.sa b.sl.length b.sc, .slice b.ra b.rl.length b.rc, .string ⟨b.file.toArray⟩, .int .i64 b.line] 74) = W at *
  change W.cell? ⟨g, 3, none⟩ = some (.int .i64 a1) at ck
  change W.cell? ⟨w.heap.size, 0, none⟩ = some (.int .u8 _) at x0
  change W.cell? ⟨w.heap.size, 1, none⟩ = some (.int .i64 b.level) at x1
  have hw : IntKind.i64.wrap ((a1 : Int) + 1) = (a1 : Int) + 1 := IntWalk.i64_in _ (by omega)
  go_still_tail 11, (by kernel_rfl)
  change wpList _ _ _ _ _ W.drew
  clear hw
  go_wp2
  have e0 : (bumpK c.ks 1).getD 1 0 = a1 + 1 := by unfold bumpK; rw [HKS.out]; rfl
  obtain ⟨av, cv, hv⟩ := HO.out.shape
  subst hv
  have HB2 : Hid (Bk (W.setCell ⟨g, 3, none⟩ (.int .i64 ((a1 : Int) + 1))).drew g (cntCells p (.slice av c.ts.length cv) [a0, a1 + 1, a2, a3, a4, a5, a6, a7]) 96) := by
    have h := (HB.out.set 3 (.int .i64 ((a1 : Int) + 1))).drew
    exact h
  have HX2 := Lib.hid ((HX.out.set_other hne 3 (.int .i64 ((a1 : Int) + 1))).drew)
  have HK2 : Hid (Kept (fun x => x = g) w (W.setCell ⟨g, 3, none⟩ (.int .i64 ((a1 : Int) + 1))).drew) := ((Kept.of_below HBB.out).setCell (S := fun x => x = g) (p := ⟨g, 3, none⟩) rfl _).drewN 1
  have HKW : Hid (Kept (fun x => x = g) W (W.setCell ⟨g, 3, none⟩ (.int .i64 ((a1 : Int) + 1))).drew) := ((Kept.refl (fun x => x = g) W).setCell (S := fun x => x = g) (p := ⟨g, 3, none⟩) rfl _).drewN 1
  have HO2 : Hid (Own (W.setCell ⟨g, 3, none⟩ (.int .i64 ((a1 : Int) + 1))).drew B 3 1 encI (.slice av c.ts.length cv) c.ts) := (HO.out.set_other (HO.out.ne_bk HB.out (by decide)) 3 _).drewN 1
  have HT2 : Hid (HasTab (W.setCell ⟨g, 3, none⟩ (.int .i64 ((a1 : Int) + 1))).drew) := HT.out.keptB HKW.out fun x hx => by rw [hx]; exact hgT
  clear HKW
  generalize (W.setCell ⟨g, 3, none⟩ (.int .i64 ((a1 : Int) + 1))).drew = W2 at *
  have c0 := HB2.out.cell 0
  have c1 := HB2.out.cell 1
  have ci := HB2.out.cell 3
  have f1 := HB2.out.free 1
  have y0 := HX2.out.cell 0
  have y1 := HX2.out.cell 1
  change W2.cell? ⟨g, 0, none⟩ = some (.int .i64 p) at c0
  change W2.cell? ⟨g, 1, none⟩ = some (.slice av c.ts.length cv) at c1
  change W2.cell? ⟨g, 3, none⟩ = some (.int .i64 ((a1 : Int) + 1)) at ci
  change W2.cell? ⟨w.heap.size, 0, none⟩ = some (.int .u8 _) at y0
  change W2.cell? ⟨w.heap.size, 1, none⟩ = some (.int .i64 b.level) at y1
  clear ck fk x0 x1 HB HX HBB HO HT
  have e1 : Hid ((cntP c 1 b.level) = ⟨tsP c.ts b.level, [a0, a1 + 1, a2, a3, a4, a5, a6, a7]⟩) := by
    show _ = _
    unfold cntP
    rw [if_pos ⟨rfl, hone⟩]
    unfold bumpK; rw [HKS.out]; rfl
  rw [e0] at hone
  clear e0
  have HRT := Lib.hid (tsP_ok b.level HOK.out.len HOK.out.le)
  have HE : Hid (tsP c.ts b.level = if nextE c.ts b.level = 0 then nextP c.ts b.level.toNat else c.ts) := by show _ = _; rfl
  have HNX := Lib.hid (fun W => next_any c.ts av cv b.level W)
  unfold NextGives at HNX
  generalize tsP c.ts b.level = R at *
  generalize nextP c.ts b.level.toNat = R0 at *
  generalize nextE c.ts b.level = E at *
  have HQ : Hid (Below W2.heap.size W2 (W2.drewN 0)) := ⟨rfl, rfl, rfl, Nat.le_refl _, fun _ _ => rfl⟩
  by_cases hm : 1 < a1 + 1
  · have g1 : decide ((1 : Int) < (a1 : Int) + 1) = true := decide_eq_true (by omega)
    go_quiet (fail)
    have HB3 := Lib.hid (HB2.out.drewN nq)
    have HX3 := Lib.hid (HX2.out.drewN nq)
    have HK3 := Lib.hid (HK2.out.drewN nq)
    have HO3 := Lib.hid (HO2.out.drewN nq)
    have HT3 : Hid (HasTab (W2.drewN nq)) := HT2.out
    generalize W2.drewN nq = W3 at *
    clear HB2 HX2 HK2 HO2 HT2 HQ
    have d1 := HB3.out.cell 1
    have z1 := HX3.out.cell 1
    change W3.cell? ⟨g, 1, none⟩ = some (.slice av c.ts.length cv) at d1
    change W3.cell? ⟨w.heap.size, 1, none⟩ = some (.int .i64 b.level) at z1
    go_wp2
    have HA4 : Hid (At W3.drew 1 encI av c.ts) := (HO3.out.drewN 1).addr encI_ok
    have HB4 := Lib.hid HB3.out.drew
    have HK4 : Hid (Kept (fun x => x = g) w W3.drew) := HK3.out.drewN 1
    have HO4 : Hid (Own W3.drew B 3 1 encI (.slice av c.ts.length cv) c.ts) := HO3.out.drewN 1
    have HT4 : Hid (HasTab W3.drew) := HT3.out
    have hW4 : w.heap.size ≤ W3.drew.heap.size := HK4.out.size
    go_region_held3 (fun w' => w'.cell? ⟨g, 1, none⟩ = some (.slice av c.ts.length cv) ∧ w'.cell? ⟨w.heap.size, 1, none⟩ = some (.int .i64 b.level)) (first | exact ⟨k1, k2⟩ | go_keep) ((go_at_call 142; refine (HNX.out _ HA4.out HOK.out.len HOK.out.le).mono ?_; rintro e w5 ⟨⟨v5, rfl, hO5⟩, hb5⟩; have k1 := (HB4.out.next hb5).cell 1; have k2 := (HX3.out.drew.next hb5).cell 1; change w5.cell? ⟨g, 1, none⟩ = some (.slice av c.ts.length cv) at k1; change w5.cell? ⟨w.heap.size, 1, none⟩ = some (.int .i64 b.level) at k2))
    clear k1 k2 d1 z1 c0 c1 ci y0 y1 f1
    have HB5 := Lib.hid (HB4.out.next hb5)
    have HK5 := Lib.hid (HK4.out.trans (Kept.of_below hb5))
    have HT5 := Lib.hid (HT4.out.below hb5)
    have HOP := Lib.hid (HO4.out.next rfl hb5)
    have f5 := HB5.out.free 1
    have d5 := HB5.out.cell 1
    change w5.cell? ⟨g, 1, none⟩ = some (.slice av c.ts.length cv) at d5
    clear hb5 HB4 HK4 HO4 HT4 HA4 HB3 HX3 HK3 HO3 HT3
    by_cases hE : E = 0
    · subst hE
      have HO5 := Lib.hid ((hO5 rfl).mono (Nat.le_trans hBw hW4))
      have HRE : Hid (R = R0) := by show _ = _; rw [HE.out, if_pos rfl]
      obtain ⟨aT, cT, rfl⟩ := (hO5 rfl).shape
      clear hO5
      have HB6 : Hid (Bk (w5.setCell ⟨g, 1, none⟩ (.slice aT R0.length cT)) g (cntCells p (.slice aT R0.length cT) [a0, a1 + 1, a2, a3, a4, a5, a6, a7]) 96) := by
        have h := HB5.out.set 1 (.slice aT R0.length cT)
        exact h
      have HO6 := Lib.hid (HO5.out.set_other (HO5.out.ne_bk HB5.out (by decide)) 1 (.slice aT R0.length cT))
      have HK6 : Hid (Kept (fun x => x = g) w (w5.setCell ⟨g, 1, none⟩ (.slice aT R0.length cT))) := HK5.out.setCell (S := fun x => x = g) (p := ⟨g, 1, none⟩) rfl _
      have HKW : Hid (Kept (fun x => x = g) w5 (w5.setCell ⟨g, 1, none⟩ (.slice aT R0.length cT))) := (Kept.refl (fun x => x = g) w5).setCell (S := fun x => x = g) (p := ⟨g, 1, none⟩) rfl _
      have HT6 : Hid (HasTab (w5.setCell ⟨g, 1, none⟩ (.slice aT R0.length cT))) := HT5.out.keptB HKW.out fun x hx => by rw [hx]; exact hgT
      rw [HRE.out] at HRT e1
      go_wp2_with (go_at_call 89; refine (dotted_any R0 aT cT _ (HO6.out.addr encI_ok) (by have := HRT.out.1; omega) (fun x hx => by have := HRT.out.2 x hx; exact ⟨by omega, dec_100 (by omega)⟩) HT6.out).mono ?_; rintro e w6 ⟨rfl, hb⟩)
      go_ret
      refine ⟨?_, ?_, HK6.out.trans (Kept.of_below hb)⟩
      · unfold numP; rw [e1.out]; rfl
      · rw [e1.out]
        exact ⟨_, HB6.out.next hb, HO6.out.next rfl hb⟩
    · have g3 : ((E : Int) == 0) = false := beq_eq_false_iff_ne.2 (by omega)
      have HRE : Hid (R = c.ts) := by show _ = _; rw [HE.out, if_neg hE]
      rw [HRE.out] at e1
      clear hO5
      go_wp2_with (go_at_call 89; refine (dotted_any c.ts av cv _ (HOP.out.addr encI_ok) (by have := HOK.out.len; omega) (fun x hx => by have := HOK.out.le x hx; exact ⟨by omega, dec_100 (by omega)⟩) HT5.out).mono ?_; rintro e w6 ⟨rfl, hb⟩)
      go_ret
      refine ⟨?_, ?_, HK5.out.trans (Kept.of_below hb)⟩
      · unfold numP; rw [e1.out]; rfl
      · rw [e1.out]
        exact ⟨_, HB5.out.next hb, HOP.out.next rfl hb⟩
  · have g1 : decide ((1 : Int) < (a1 : Int) + 1) = false := decide_eq_false (by omega)
    have g2 : ((b.level : Int) != 1) = true := by rw [bne_iff_ne]; omega
    go_quiet (fail)
    have HB3 := Lib.hid (HB2.out.drewN nq)
    have HX3 := Lib.hid (HX2.out.drewN nq)
    have HK3 := Lib.hid (HK2.out.drewN nq)
    have HO3 := Lib.hid (HO2.out.drewN nq)
    have HT3 : Hid (HasTab (W2.drewN nq)) := HT2.out
    generalize W2.drewN nq = W3 at *
    clear HB2 HX2 HK2 HO2 HT2 HQ
    have d1 := HB3.out.cell 1
    have z1 := HX3.out.cell 1
    change W3.cell? ⟨g, 1, none⟩ = some (.slice av c.ts.length cv) at d1
    change W3.cell? ⟨w.heap.size, 1, none⟩ = some (.int .i64 b.level) at z1
    go_wp2
    have HA4 : Hid (At W3.drew 1 encI av c.ts) := (HO3.out.drewN 1).addr encI_ok
    have HB4 := Lib.hid HB3.out.drew
    have HK4 : Hid (Kept (fun x => x = g) w W3.drew) := HK3.out.drewN 1
    have HO4 : Hid (Own W3.drew B 3 1 encI (.slice av c.ts.length cv) c.ts) := HO3.out.drewN 1
    have HT4 : Hid (HasTab W3.drew) := HT3.out
    have hW4 : w.heap.size ≤ W3.drew.heap.size := HK4.out.size
    go_region_held3 (fun w' => w'.cell? ⟨g, 1, none⟩ = some (.slice av c.ts.length cv) ∧ w'.cell? ⟨w.heap.size, 1, none⟩ = some (.int .i64 b.level)) (first | exact ⟨k1, k2⟩ | go_keep) ((go_at_call 142; refine (HNX.out _ HA4.out HOK.out.len HOK.out.le).mono ?_; rintro e w5 ⟨⟨v5, rfl, hO5⟩, hb5⟩; have k1 := (HB4.out.next hb5).cell 1; have k2 := (HX3.out.drew.next hb5).cell 1; change w5.cell? ⟨g, 1, none⟩ = some (.slice av c.ts.length cv) at k1; change w5.cell? ⟨w.heap.size, 1, none⟩ = some (.int .i64 b.level) at k2))
    clear k1 k2 d1 z1 c0 c1 ci y0 y1 f1
    have HB5 := Lib.hid (HB4.out.next hb5)
    have HK5 := Lib.hid (HK4.out.trans (Kept.of_below hb5))
    have HT5 := Lib.hid (HT4.out.below hb5)
    have HOP := Lib.hid (HO4.out.next rfl hb5)
    have f5 := HB5.out.free 1
    have d5 := HB5.out.cell 1
    change w5.cell? ⟨g, 1, none⟩ = some (.slice av c.ts.length cv) at d5
    clear hb5 HB4 HK4 HO4 HT4 HA4 HB3 HX3 HK3 HO3 HT3
    by_cases hE : E = 0
    · subst hE
      have HO5 := Lib.hid ((hO5 rfl).mono (Nat.le_trans hBw hW4))
      have HRE : Hid (R = R0) := by show _ = _; rw [HE.out, if_pos rfl]
      obtain ⟨aT, cT, rfl⟩ := (hO5 rfl).shape
      clear hO5
      have HB6 : Hid (Bk (w5.setCell ⟨g, 1, none⟩ (.slice aT R0.length cT)) g (cntCells p (.slice aT R0.length cT) [a0, a1 + 1, a2, a3, a4, a5, a6, a7]) 96) := by
        have h := HB5.out.set 1 (.slice aT R0.length cT)
        exact h
      have HO6 := Lib.hid (HO5.out.set_other (HO5.out.ne_bk HB5.out (by decide)) 1 (.slice aT R0.length cT))
      have HK6 : Hid (Kept (fun x => x = g) w (w5.setCell ⟨g, 1, none⟩ (.slice aT R0.length cT))) := HK5.out.setCell (S := fun x => x = g) (p := ⟨g, 1, none⟩) rfl _
      have HKW : Hid (Kept (fun x => x = g) w5 (w5.setCell ⟨g, 1, none⟩ (.slice aT R0.length cT))) := (Kept.refl (fun x => x = g) w5).setCell (S := fun x => x = g) (p := ⟨g, 1, none⟩) rfl _
      have HT6 : Hid (HasTab (w5.setCell ⟨g, 1, none⟩ (.slice aT R0.length cT))) := HT5.out.keptB HKW.out fun x hx => by rw [hx]; exact hgT
      rw [HRE.out] at HRT e1
      go_wp2_with (go_at_call 89; refine (dotted_any R0 aT cT _ (HO6.out.addr encI_ok) (by have := HRT.out.1; omega) (fun x hx => by have := HRT.out.2 x hx; exact ⟨by omega, dec_100 (by omega)⟩) HT6.out).mono ?_; rintro e w6 ⟨rfl, hb⟩)
      go_ret
      refine ⟨?_, ?_, HK6.out.trans (Kept.of_below hb)⟩
      · unfold numP; rw [e1.out]; rfl
      · rw [e1.out]
        exact ⟨_, HB6.out.next hb, HO6.out.next rfl hb⟩
    · have g3 : ((E : Int) == 0) = false := beq_eq_false_iff_ne.2 (by omega)
      have HRE : Hid (R = c.ts) := by show _ = _; rw [HE.out, if_neg hE]
      rw [HRE.out] at e1
      clear hO5
      go_wp2_with (go_at_call 89; refine (dotted_any c.ts av cv _ (HOP.out.addr encI_ok) (by have := HOK.out.len; omega) (fun x hx => by have := HOK.out.le x hx; exact ⟨by omega, dec_100 (by omega)⟩) HT5.out).mono ?_; rintro e w6 ⟨rfl, hb⟩)
      go_ret
      refine ⟨?_, ?_, HK5.out.trans (Kept.of_below hb)⟩
      · unfold numP; rw [e1.out]; rfl
      · rw [e1.out]
        exact ⟨_, HB5.out.next hb, HOP.out.next rfl hb⟩

theorem number_any (b : Bl) (B g p n : Nat) (c : Cnt) (w : World) (hk : ledB b.kind = true) (hC : CntAt w B g p c) (hok : CntOk n c) (hp : p ≤ 30000) (hn : n ≤ 1000000) (htab : HasTab w) (hgT : 1 < g) (hBw : B ≤ w.heap.size) :
    Calls Tryz.prog 85 #[.pointer (some ⟨g, 0, none⟩), .agg #[.int .u8 b.kind, .int .i64 b.level, .bool b.ord, .string ⟨b.label.toArray⟩, .string ⟨b.text.toArray⟩, .slice b.sa b.sl.length b.sc, .slice b.ra b.rl.length b.rc, .string ⟨b.file.toArray⟩, .int .i64 b.line]] w (NumGives w B g p c b.kind b.level) := by
  have hk2 : b.kind = 1 ∨ b.kind = 6 ∨ b.kind = 7 := by unfold ledB at hk; simpa [or_assoc] using hk
  rcases hk2 with h | h | h
  · by_cases hm : 1 < (bumpK c.ks 1).getD 1 0 ∨ b.level ≠ 1
    · have := number_more b B g p n h c w hC hok hp hn htab hgT hBw hm
      rw [h] at *; exact this
    · have := number_one b B g p n h c w hC hok hp hn htab hgT hBw hm
      rw [h] at *; exact this
  · have := number_6 b B g p n h c w hC hok hp hn htab hgT hBw
    rw [h] at *; exact this
  · have := number_7 b B g p n h c w hC hok hp hn htab hgT hBw
    rw [h] at *; exact this
end Go.Proofs.YtohinfefidahlaaGreatDoor

