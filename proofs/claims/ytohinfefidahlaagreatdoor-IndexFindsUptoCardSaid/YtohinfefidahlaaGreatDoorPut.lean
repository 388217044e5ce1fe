/- index.Build's closure: one term is put, and what it is told to see is wanted. -/
import Derived.Test.YtohinfefidahlaaGreatDoorAddW
import Derived.Test.YtohinfefidahlaaGreatDoorJoH
import Derived.Test.YtohinfefidahlaaGreatDoorJoI
namespace Go.Proofs.YtohinfefidahlaaGreatDoor
open Go.RowKit
set_option linter.unusedVariables false
set_option linter.unusedSimpArgs false

theorem Ix.kind {w : World} {B top : Nat} {s : IxS} {D : Path → Nd} (h : Ix w B top s D) {g : Nat} (hg : IxFt top s D g) :
    (∃ es c, w.heap[g]? = some (.map es c)) ∨ ∃ cur T, w.heap[g]? = some (.cells cur T (0, 0)) ∧ (T = 220 ∨ T = 79) := by
  rcases hg with rfl | ⟨p, hp, hg⟩
  · obtain ⟨es, c, h1, _⟩ := h.mem
    exact .inl ⟨es, c, h1⟩
  · have hN := h.nodes p hp
    rcases hg with rfl | rfl | rfl | rfl | hg
    · exact .inr ⟨_, _, hN.cells, .inl rfl⟩
    · obtain ⟨es, c, h1, _⟩ := hN.been
      exact .inl ⟨es, c, h1⟩
    · obtain ⟨es, c, h1, _⟩ := hN.see
      exact .inl ⟨es, c, h1⟩
    · obtain ⟨es, c, h1, _⟩ := hN.under
      exact .inl ⟨es, c, h1⟩
    · obtain ⟨cur, h1⟩ := hN.at_.kind g hg
      exact .inr ⟨cur, _, h1, .inr rfl⟩
theorem Ix.not_bk {w : World} {B top : Nat} {s : IxS} {D : Path → Nd} (h : Ix w B top s D) {g : Nat} {C : List Value} {T : TypeId} (hb : Bk w g C T) (h1 : T ≠ 220) (h2 : T ≠ 79) : ¬ IxFt top s D g := by
  intro hg
  unfold Bk at hb
  rcases h.kind hg with ⟨es, c, h3⟩ | ⟨cur, T', h3, h4⟩
  · rw [hb] at h3; cases h3
  · rw [hb] at h3
    cases h3
    rcases h4 with h4 | h4
    · exact h1 h4
    · exact h2 h4
theorem Ix.not_own {α : Type} {w : World} {B B' top sz : Nat} {s : IxS} {D : Path → Nd} {e : TypeId} {enc : α → List Value} {v : Value} {l : List α} (h : Ix w B top s D) (ho : Own w B' e sz enc v l) (h1 : e ≠ 220) (h2 : e ≠ 79) :
    ∀ g, v.ownBlock = some g → ¬ IxFt top s D g := by
  intro g hv hg
  obtain ⟨cur', h5⟩ := ho.kind g hv
  rcases h.kind hg with ⟨es, c, h3⟩ | ⟨cur, T', h3, h4⟩
  · rw [h5] at h3; cases h3
  · rw [h5] at h3
    cases h3
    rcases h4 with h4 | h4
    · exact h1 h4
    · exact h2 h4

/-- where Build stands: the tree, what is wanted, the variables that its closure reads -/
structure BI (w : World) (B top bt bh bw bb : Nat) (here : LoK) (b : Bl) (tl : List Tl) (ws : List Dg) (D : Path → Nd) (v : Value) : Prop where
  ix : Ix w B top (ixOf tl) D
  t1 : Bk w bt [.map (some top)] 105
  h1 : Bk w bh (encLo here) 79
  w1 : Bk w bw [v] 59
  b1 : Bk w bb (encBl b) 74
  own : Own w B 103 4 encDg v ws
  nh : ¬ IxFt top (ixOf tl) D bh
  Bw : B ≤ bw
def BF (top bw : Nat) (tl : List Tl) (D : Path → Nd) (v : Value) (g : Nat) : Prop := IxFt top (ixOf tl) D g ∨ g = bw ∨ v.ownBlock = some g
section
variable {w w' : World} {B top bt bh bw bb : Nat} {here : LoK} {b : Bl} {tl : List Tl} {ws : List Dg} {D : Path → Nd} {v : Value}
theorem BI.next (h : BI w B top bt bh bw bb here b tl ws D v) (hb : Below w.heap.size w w') : BI w' B top bt bh bw bb here b tl ws D v :=
  ⟨h.ix.next hb, h.t1.next hb, h.h1.next hb, h.w1.next hb, h.b1.next hb, h.own.below hb (Nat.le_refl _), h.nh, h.Bw⟩
theorem BI.lt (h : BI w B top bt bh bw bb here b tl ws D v) {g : Nat} (hg : BF top bw tl D v g) : B ≤ g ∧ g < w.heap.size := by
  rcases hg with hg | rfl | hg
  · exact h.ix.ft_lt hg
  · exact ⟨h.Bw, h.w1.lt⟩
  · exact h.own.block g hg
theorem BI.size (h : BI w B top bt bh bw bb here b tl ws D v) : B ≤ w.heap.size := by have := h.Bw; have := h.w1.lt; omega
end
structure BFr (top bw : Nat) (tl tl' : List Tl) (D D' : Path → Nd) (v v' : Value) (w w' : World) : Prop where
  kept : Kept (BF top bw tl D v) w w'
  ft : ∀ g, BF top bw tl' D' v' g → BF top bw tl D v g ∨ w.heap.size ≤ g
theorem BFr.trans {top bw : Nat} {tl tl1 tl2 : List Tl} {D D1 D2 : Path → Nd} {v v1 v2 : Value} {w w1 w2 : World} (h : BFr top bw tl tl1 D D1 v v1 w w1) (k : BFr top bw tl1 tl2 D1 D2 v1 v2 w1 w2) : BFr top bw tl tl2 D D2 v v2 w w2 := by
  refine ⟨Kept.transN (n := w.heap.size) h.kept (k.kept.mono fun g hg => h.ft g hg) (Nat.le_refl _), fun g hg => ?_⟩
  rcases k.ft g hg with h1 | h1
  · exact h.ft g h1
  · exact .inr (Nat.le_trans h.kept.size h1)
theorem BFr.of_below {top bw : Nat} {tl : List Tl} {D : Path → Nd} {v : Value} {w w' : World} (hb : Below w.heap.size w w') : BFr top bw tl tl D D v v w w' := ⟨Kept.of_below hb, fun g hg => .inl hg⟩
section
variable {w W w1 W0 w5 : World} {B top bt bh bw bb : Nat} {here : LoK} {b : Bl} {tl : List Tl} {ws : List Dg} {D D1 : Path → Nd} {v v' : Value}
theorem BI.added (h : BI w B top bt bh bw bb here b tl ws D v) {x : Tl} (hb0 : Below w.heap.size w W) (hI1 : Ix w1 B top ((ixOf tl).step x) D1) (hF1 : IxFr top (ixOf tl) D ((ixOf tl).step x) D1 W w1) :
    BI w1 B top bt bh bw bb here b (tl ++ [x]) ws D1 v ∧ BFr top bw tl (tl ++ [x]) D D1 v v w w1 := by
  have k := h.next hb0
  have e := ixOf_snoc tl x
  have nt := k.ix.not_bk k.t1 (by decide) (by decide)
  have nw := k.ix.not_bk k.w1 (by decide) (by decide)
  have nb := k.ix.not_bk k.b1 (by decide) (by decide)
  have no := k.ix.not_own k.own (by decide) (by decide)
  refine ⟨⟨by rw [e]; exact hI1, hF1.kept.bk k.t1 nt, hF1.kept.bk k.h1 h.nh, hF1.kept.bk k.w1 nw, hF1.kept.bk k.b1 nb, hF1.kept.own k.own no, fun hg => ?_, h.Bw⟩, ⟨(Kept.of_below hb0).trans (hF1.kept.mono fun g hg => .inl hg), fun g hg => ?_⟩⟩
  · rw [e] at hg
    rcases hF1.ft _ hg with h1 | h1
    · exact h.nh h1
    · have := k.h1.lt; omega
  · rcases hg with hg | hg | hg
    · rw [e] at hg
      rcases hF1.ft g hg with h1 | h1
      · exact .inl (.inl h1)
      · exact .inr (Nat.le_trans hb0.size h1)
    · exact .inl (.inr (.inl hg))
    · exact .inl (.inr (.inr hg))
theorem BI.wanted (h : BI w B top bt bh bw bb here b tl ws D v) {d : Dg} (hb0 : Below w.heap.size w W0) (hgrow : W0.grownBy w5 v.ownBlock) (hown : Own w5 B 103 4 encDg v' (ws ++ [d]))
    (hat : ∀ g, v'.ownBlock = some g → v.ownBlock = some g ∨ w.heap.size ≤ g) :
    BI (w5.setCell ⟨bw, 0, none⟩ v') B top bt bh bw bb here b tl (ws ++ [d]) D v' ∧ BFr top bw tl tl D D v v' w (w5.setCell ⟨bw, 0, none⟩ v') := by
  have k := h.next hb0
  have no := k.ix.not_own k.own (by decide) (by decide)
  have hw5 : Bk w5 bw [v] 59 := k.w1.grown hgrow (k.own.ne_bk k.w1 (by decide))
  have ht5 := k.t1.grown hgrow (k.own.ne_bk k.t1 (by decide))
  have hh5 := k.h1.grown hgrow (k.own.ne_bk k.h1 (by decide))
  have hb5 := k.b1.grown hgrow (k.own.ne_bk k.b1 (by decide))
  have ne : ∀ {g : Nat} {C : List Value} {T : TypeId}, Bk w5 g C T → T ≠ 59 → bw ≠ g := by
    rintro g C T hC hT rfl
    unfold Bk at hC hw5
    rw [hw5] at hC
    cases hC
    exact hT rfl
  have nw : ¬ IxFt top (ixOf tl) D bw := k.ix.not_bk k.w1 (by decide) (by decide)
  have hI5 : Ix w5 B top (ixOf tl) D := k.ix.of_blocks fun g hg => hgrow.block g (k.ix.ft_lt hg).2 (fun e => no g e.symm hg)
  have hI6 : Ix (w5.setCell ⟨bw, 0, none⟩ v') B top (ixOf tl) D := hI5.of_blocks fun g hg => Below.heap_setCell _ _ _ _ (fun e : g = bw => nw (e ▸ hg))
  have hk : Kept (BF top bw tl D v) w (w5.setCell ⟨bw, 0, none⟩ v') := ((Kept.of_below hb0).grown hgrow (fun g e => .inr (.inr e))).setCell (.inr (.inl rfl)) _
  refine ⟨⟨hI6, ht5.set_other (ne ht5 (by decide)) 0 _, hh5.set_other (ne hh5 (by decide)) 0 _, hw5.set 0 v', hb5.set_other (ne hb5 (by decide)) 0 _, hown.set_other (hown.ne_bk hw5 (by decide)) 0 _, h.nh, h.Bw⟩, ⟨hk, fun g hg => ?_⟩⟩
  rcases hg with hg | hg | hg
  · exact .inl (.inl hg)
  · exact .inl (.inr (.inl hg))
  · rcases hat g hg with h1 | h1
    · exact .inl (.inr (.inr h1))
    · exact .inr h1
end
def PutG (B top bt bh bw bb : Nat) (here : LoK) (b : Bl) (tl : List Tl) (ws : List Dg) (D : Path → Nd) (v : Value) (t : Tm) (w : World) (e : Ending) (w' : World) : Prop :=
  ∃ D' v', e = .returned (.tuple #[]) ∧ BI w' B top bt bh bw bb here b (tl ++ [⟨t.text, t.sub, t.see, here⟩]) (ws ++ (wantB b t).toList) D' v' ∧ BFr top bw tl (tl ++ [⟨t.text, t.sub, t.see, here⟩]) D D' v v' w w'

set_option maxHeartbeats 4000000 in
set_option maxRecDepth 100000 in
theorem bput_any {w : World} {B top bt bh bw bb : Nat} {here : LoK} {b : Bl} {tl : List Tl} {ws : List Dg} {D : Path → Nd} {v : Value} (h : BI w B top bt bh bw bb here b tl ws D v) (k : Nat) (t : Tm) (ka : Option Addr) (kn kc : Nat)
    (hn : tl.length ≤ 1000000) (hw : ws.length ≤ 1000000) :
    Calls Tryz.prog 91 #[.agg #[.int .u8 k, .string ⟨t.text.toArray⟩, .string ⟨t.sub.toArray⟩, .string ⟨t.see.toArray⟩, .slice ka kn kc], .pointer (some ⟨bt, 0, none⟩), .pointer (some ⟨bh, 0, none⟩), .pointer (some ⟨bw, 0, none⟩), .pointer (some ⟨bb, 0, none⟩)] w (PutG B top bt bh bw bb here b tl ws D v t w) := by
  obtain ⟨tx, sb, se⟩ := t
  have HI := Lib.hid h
  have HLE : Hid (∀ p, ((ixOf tl).at_ p).length ≤ 1000000) := fun p => Nat.le_trans ((ixOf_le tl).at_ p) hn
  have HWL := Lib.hid hw
  have c0 := h.t1.cell 0
  change w.cell? ⟨bt, 0, none⟩ = some (.map (some top)) at c0
  have c1 := h.h1.cell 0
  have c2 := h.h1.cell 1
  have c3 := h.h1.cell 2
  change w.cell? ⟨bh, 0, none⟩ = some (.string ⟨here.1.1.toArray⟩) at c1
  change w.cell? ⟨bh, 1, none⟩ = some (.string ⟨here.1.2.1.toArray⟩) at c2
  change w.cell? ⟨bh, 2, none⟩ = some (.string ⟨here.1.2.2.toArray⟩) at c3
  have l1 := h.t1.lt
  have l2 := h.h1.lt
  clear h hn hw
  go_enter Tryz.func91, Tryz.ntmps91
  go_wp2_with fail
  refine calls_gen fun W hW => ?_
  have hb0 : Below w.heap.size w W := by subst hW; exact (Below.refl _ _).alloc (Nat.le_refl _) _
  have HS0 : Hid (Bk W w.heap.size [.int .u8 k, .string ⟨tx.toArray⟩, .string ⟨sb.toArray⟩, .string ⟨se.toArray⟩, .slice ka kn kc] 70) := by subst hW; exact Bk.new w #[.int .u8 k, .string ⟨tx.toArray⟩, .string ⟨sb.toArray⟩, .string ⟨se.toArray⟩, .slice ka kn kc] 70
  clear hW
  refine (add_any (HI.out.ix.next hb0) (Nat.le_trans HI.out.size hb0.size) k tx sb se here ka kn kc HLE.out).mono ?_
  rintro e w1 ⟨D1, rfl, hI1, hF1⟩
  have hA := HI.out.added hb0 hI1 hF1
  have HA := Lib.hid hA.1
  have HF := Lib.hid hA.2
  have HS1 := Lib.hid (hF1.kept.bk HS0.out ((HI.out.ix.next hb0).not_bk HS0.out (by decide) (by decide)))
  clear hb0 HS0 hI1 hF1 hA c0 c1 c2 c3
  have d3 := HS1.out.cell 3
  change w1.cell? ⟨w.heap.size, 3, none⟩ = some (.string ⟨se.toArray⟩) at d3
  by_cases hse : se = []
  · subst hse
    have hw0 : wantB b ⟨tx, sb, []⟩ = none := rfl
    go_wp2_with fail
    go_end0
    refine ⟨D1, v, rfl, ?_, HF.out⟩
    rw [hw0]
    show BI _ _ _ _ _ _ _ _ _ _ (ws ++ []) _ _
    rw [List.append_nil]
    exact HA.out
  · have hsee := emptyB hse
    have hw0 : wantB b ⟨tx, sb, se⟩ = some ⟨b.file, b.line, 14, se⟩ := by unfold wantB; rw [if_neg hse]
    have HW0 := Lib.hid hw0
    clear hw0
    have e0 := HA.out.w1.cell 0
    change w1.cell? ⟨bw, 0, none⟩ = some v at e0
    have ef := HA.out.w1.free 0
    obtain ⟨va, vc, hv⟩ := HA.out.own.shape
    subst hv
    have e7 := HA.out.b1.cell 7
    have e8 := HA.out.b1.cell 8
    change w1.cell? ⟨bb, 7, none⟩ = some (.string ⟨b.file.toArray⟩) at e7
    change w1.cell? ⟨bb, 8, none⟩ = some (.int .i64 b.line) at e8
    have l3 := HA.out.w1.lt
    have hBz := HA.out.size
    go_wp2_with (at_builtin; refine hold_op _ rfl ?_)
    constructor
    refine wpList_push2 rfl _ _ 59 rfl B 103 4 48 sldg encDg encDg_ok (.slice va ws.length vc) ws rfl (HA.out.own.alloc _) ⟨b.file, b.line, 14, se⟩ w1.heap.size rfl (fun j u hj => ((Bk.new w1 #[.string ⟨b.file.toArray⟩, .int .i64 b.line, .int .i64 14, .string ⟨se.toArray⟩] 103).cell j).trans hj) (by have := HWL.out; omega) (by have := HWL.out; unfold maxLen; omega) (by simp; omega) ?_
    intro v' w5 hown hgrow hcase
    obtain ⟨va', vc', hv'⟩ := hown.shape
    rw [List.length_append, List.length_singleton] at hv'
    subst hv'
    have hne : (Value.slice va ws.length vc).ownBlock ≠ some bw := HA.out.own.ne_bk HA.out.w1 (by decide)
    have hw5 := (HA.out.w1.alloc (.cells #[.string ⟨b.file.toArray⟩, .int .i64 b.line, .int .i64 14, .string ⟨se.toArray⟩] 103)).grown hgrow hne
    clear hne
    have z0 := hw5.cell 0
    change w5.cell? ⟨bw, 0, none⟩ = some (.slice va ws.length vc) at z0
    have zf := hw5.free 0
    have HOWN := Lib.hid hown
    have HGR := Lib.hid hgrow
    have HCA := Lib.hid hcase
    clear hown hgrow hcase hw5
    go_wp2_with fail
    go_end0
    have hb := (Below.refl w1.heap.size w1).alloc (Nat.le_refl _) (.cells #[.string ⟨b.file.toArray⟩, .int .i64 b.line, .int .i64 14, .string ⟨se.toArray⟩] 103)
    have hW := HA.out.wanted hb HGR.out HOWN.out (fun g hg => by
      rcases HCA.out with ⟨g', c, h1, h2⟩ | ⟨h1, _⟩
      · rw [h2] at hg; rw [h1]; exact .inl hg
      · rw [h1] at hg
        have := Option.some.inj hg
        right; simp at this; omega)
    refine ⟨D1, _, rfl, ?_, HF.out.trans hW.2⟩
    rw [HW0.out]
    exact hW.1
end Go.Proofs.YtohinfefidahlaaGreatDoor
