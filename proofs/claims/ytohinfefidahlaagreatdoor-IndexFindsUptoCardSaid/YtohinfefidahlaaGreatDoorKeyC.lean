/- letters.key: the letters and digits of a text, small. -/
import Derived.Test.YtohinfefidahlaaGreatDoorJoB
import Derived.Test.YtohinfefidahlaaGreatDoorDrawn
namespace Go.Proofs.YtohinfefidahlaaGreatDoor
open Go.RowKit
set_option linter.unusedVariables false
attribute [local go_sem] Oper.semAt_some

def keyS (s : Bytes) : Bytes := keyF (lowS s)
set_option maxRecDepth 100000 in
set_option maxHeartbeats 4000000 in
theorem key_in (s : Bytes) (hs : s.length ≤ 1000000) (w : World) :
    CallsIn Fence.wide 3 Tryz.prog 155 #[.string ⟨s.toArray⟩] w fun e w' => (∃ v, e = .returned v ∧ w'.ownsRow w.heap.size 5 1 v (keyS s).length ((keyS s).map vB)) ∧ Below w.heap.size w w' := by
  obtain ⟨i0, hi, hz0, hz1, hz2⟩ := info_parts infoB
  have hx : ∀ f, Fence.wide.fn f := fun _ => trivial
  have hl := lower_any s (w.alloc (.cells #[.slice none 0 0] 65)) (by omega)
  have hll : (lowS s).length = s.length := lowS_len s
  refine callsIn_of_wp_marks Tryz.func155 rfl trivial ?_ rfl
  simp only [Tryz.ntmps155, List.size_toArray, List.length_cons, List.length_nil, Nat.reduceAdd, Nat.reduceSub, Array.replicate_succ, Array.replicate_zero, List.push_toArray, List.append_toArray, List.nil_append, List.cons_append]
  gi_wp2_with (first | (gi_at_call 144; refine (callsIn_wide.2 hl).mono ?_; rintro e w1 ⟨rfl, hb1⟩) | (gi_at_call 178; refine (callsIn_wide.2 (only_any (lowS s) _)).mono ?_; rintro e w2 ⟨rfl, rfl⟩))
  have hz1w : w.heap.size + 1 ≤ w1.heap.size := by have := hb1.size; rw [World.size_alloc] at this; exact this
  have bO1 : Boxed w1 w.heap.size 65 (.slice none 0 0) := by
    have := Boxed.new w 65 (.slice none 0 0)
    unfold Boxed at this ⊢
    rw [hb1.block _ (by rw [World.size_alloc]; omega)]; exact this
  have hB1 : Below w.heap.size w w1 := ((Below.refl _ w).alloc (Nat.le_refl _) _).trans (hb1.mono (by rw [World.size_alloc]; omega))
  clear hb1 hl
  have bS := Boxed.new w1 9 (.string ⟨(lowS s).toArray⟩)
  have bF := Boxed.new (w1.alloc (.cells #[.string ⟨(lowS s).toArray⟩] 9)) 260 (.func (.func 179) #[] #[])
  rw [World.size_alloc] at bF
  have bS2 := bS.alloc (.cells #[.func (.func 179) #[] #[]] 260)
  have bO2 := (bO1.alloc (.cells #[.string ⟨(lowS s).toArray⟩] 9)).alloc (.cells #[.func (.func 179) #[] #[]] 260)
  have hB2 : Below w.heap.size w ((w1.alloc (.cells #[.string ⟨(lowS s).toArray⟩] 9)).alloc (.cells #[.func (.func 179) #[] #[]] 260)) := (hB1.alloc (by omega) _).alloc (by simp; omega) _
  have hW0s : ((w1.alloc (.cells #[.string ⟨(lowS s).toArray⟩] 9)).alloc (.cells #[.func (.func 179) #[] #[]] 260)).heap.size = w1.heap.size + 2 := by simp
  generalize (w1.alloc (.cells #[.string ⟨(lowS s).toArray⟩] 9)).alloc (.cells #[.func (.func 179) #[] #[]] 260) = W0 at *
  clear bS
  refine wpIn_rangeFunc_ownG rfl (by omega) (gf := 208) (lb := #[.pointer (some ⟨w1.heap.size, 0, none⟩), .pointer (some ⟨w1.heap.size + 1, 0, none⟩)]) rfl trivial (enters_of Tryz.func208 (by kernel_rfl) rfl)
    (only1_stops _ (by omega) w1.heap.size (w1.heap.size + 1) (lowS s) (by omega) W0 ⟨by omega, by omega⟩ bS2.cell bF.cell) keepB_t (fun W l o o' h1 h2 h3 h4 => keepB_b (m := W0.heap.size) (by omega) (by omega) W l o o' h1 h2 h3 h4) (Below.refl _ _) (fun _ => rfl)
    (fun pre W => (∃ v, Boxed W w.heap.size 65 v ∧ W.ownsRow w.heap.size 5 1 v pre.length (pre.map vB) ∧ True) ∧ (Below w.heap.size w W ∧ (Boxed W w1.heap.size 9 (.string ⟨(lowS s).toArray⟩) ∧ Boxed W (w1.heap.size + 1) 260 (.func (.func 179) #[] #[]))))
    (fun _ _ _ => False)
    (OwnFrom.and (Own.from (holdsRow_own w.heap.size w.heap.size 65 5 1 (fun pre : List UInt8 => pre.length) (fun pre => pre.map vB) (fun _ _ => True)) _) (OwnFrom.and (ownFrom_below (Nat.le_refl _) (by omega)) (OwnFrom.and (Own.from (boxed_own _ _ _) _) (Own.from (boxed_own _ _ _) _))))
    (fun _ _ _ _ _ hs _ _ => hs)
    ⟨⟨_, bO2, World.ownsRow_nil _ _ _ _, trivial⟩, hB2, bS2, bF⟩
    (fun x => { tmps := #[.string ⟨s.toArray⟩, undef, .slice none 0 0, .pointer (some ⟨w.heap.size, 0, none⟩), .int .u8 (x.toNat : Int), .string ⟨s.toArray⟩, .string ⟨(lowS s).toArray⟩, .func (.func 208) #[] #[.pointer (some ⟨w1.heap.size, 0, none⟩), .pointer (some ⟨w1.heap.size + 1, 0, none⟩)], .int .u8 (x.toNat : Int), undef, undef, undef, undef, undef], defers := [] }) ?assign ?body ?done ?stop
  case assign =>
    intro l x W K hK
    gi_wp2
    exact hK
  case body =>
    rintro l pre x W ⟨⟨v, hv, hrow, _⟩, hB, hbs, hbf⟩ hlt
    have hc := hv.cell
    gi_wp2_with (gi_at_builtin; refine wpListIn_append_own _ rfl _ _ 65 rfl w.heap.size 5 i0 (.int .u8 0) 1 1 Tryz.underlying65 hi hz0 hz1 hz2 rfl (by decide) _ _ _ rfl (hrow.alloc _) ⟨W.heap.size, 0, none⟩ 1 1 [.int .u8 (x.toNat : Int)] rfl rfl (cell_one_new _ _ _) (by simp [Value.oneCell']) (by unfold maxLen; omega) (by omega) (by have := hB.size; simp; omega) ?_; intro v' w2 hown' hgrow _; obtain ⟨g', cap', rfl⟩ := ownsRow_succ hown'; obtain ⟨hv1, hv2, hr2, hk2, hb2⟩ := hv.appended (by decide) hrow hB.size (Nat.le_refl _) hown' hgrow; have hc1 := hv1.cell; have hf1 := hv1.frozen; have gs1 := (hbs.alloc (.cells #[.int .u8 (x.toNat : Int)] 5)).kept hgrow (hbs.not_row (by decide) hrow); have gf1 := (hbf.alloc (.cells #[.int .u8 (x.toNat : Int)] 5)).kept hgrow (hbf.not_row (by decide) hrow))
    have gs2 := gs1.other (B' := w.heap.size) (by omega) (.slice (some ⟨g', 0, none⟩) (pre.length + 1) cap')
    have gf2 := gf1.other (B' := w.heap.size) (by omega) (.slice (some ⟨g', 0, none⟩) (pre.length + 1) cap')
    exact ⟨hk2.from _, ⟨Eq.trans gs2 (Eq.symm hbs), Eq.trans gf2 (Eq.symm hbf)⟩, ⟨_, hv2, by simpa [vB] using hr2, trivial⟩, hB.trans hb2, gs2, gf2⟩
  case done =>
    rintro D ys W hD rfl ⟨⟨v, hv, hrow, _⟩, hB, _⟩ hK
    have hc := hv.cell
    gi_wp2
    refine ⟨by simp, .inl ⟨_, _, rfl, run_takeDeferred hK, ?_⟩⟩
    exact ⟨_, results_tmp rfl _ _ _, ⟨v, rfl, ownsRow_putObj hrow _ hK rfl⟩, hB.trans (belowK_b (w := w) (Nat.le_refl _) W D _ _ (by omega) hK rfl rfl)⟩
  case stop =>
    rintro D c pre W _ _ h _
    exact h.elim
/-- the letters and digits of a text, small, in memory of their own; the count of draws has not fallen -/
theorem key_any (s : Bytes) (hs : s.length ≤ 1000000) (w : World) :
    Calls Tryz.prog 155 #[.string ⟨s.toArray⟩] w fun e w' => (∃ v, e = .returned v ∧ Own w' w.heap.size 5 1 encB v (keyS s)) ∧ Below w.heap.size w w' := by
  refine (callsIn_wide.1 (key_in s hs w)).mono ?_
  rintro e w' ⟨⟨v, rfl, hown⟩, hb⟩
  refine ⟨⟨v, rfl, ?_⟩, hb⟩
  have h1 : (keyS s).map vB = (keyS s).flatMap encB := by
    induction keyS s with
    | nil => rfl
    | cons x l ih => rw [List.map_cons, List.flatMap_cons, ih]; rfl
  rw [h1] at hown
  exact hown
end Go.Proofs.YtohinfefidahlaaGreatDoor
