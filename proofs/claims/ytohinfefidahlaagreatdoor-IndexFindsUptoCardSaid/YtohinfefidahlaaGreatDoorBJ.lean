/- index.Build: what its loops keep. -/
import Derived.Test.YtohinfefidahlaaGreatDoorIEach
import Derived.Test.YtohinfefidahlaaGreatDoorJoK
import Derived.Test.YtohinfefidahlaaGreatDoorPlaces
namespace Go.Proofs.YtohinfefidahlaaGreatDoor
set_option linter.unusedSimpArgs false
open Go.RowKit
set_option linter.unusedVariables false

/-- as BI, without the block at hand -/
structure BJ (w : World) (B top bt bh bw : Nat) (here : LoK) (tl : List Tl) (ws : List Dg) (D : Path → Nd) (v : Value) : Prop where
  ix : Ix w B top (ixOf tl) D
  t1 : Bk w bt [.map (some top)] 105
  h1 : Bk w bh (encLo here) 79
  w1 : Bk w bw [v] 59
  own : Own w B 103 4 encDg v ws
  nh : ¬ IxFt top (ixOf tl) D bh
  Bw : B ≤ bw
  Bh : B ≤ bh
section
variable {w w' : World} {B top bt bh bw bb : Nat} {here here' : LoK} {b : Bl} {tl : List Tl} {ws : List Dg} {D : Path → Nd} {v : Value}
theorem BJ.next (h : BJ w B top bt bh bw here tl ws D v) (hb : Below w.heap.size w w') : BJ w' B top bt bh bw here tl ws D v :=
  ⟨h.ix.next hb, h.t1.next hb, h.h1.next hb, h.w1.next hb, h.own.below hb (Nat.le_refl _), h.nh, h.Bw, h.Bh⟩
theorem BJ.toBI (h : BJ w B top bt bh bw here tl ws D v) (hb : Bk w bb (encBl b) 74) : BI w B top bt bh bw bb here b tl ws D v := ⟨h.ix, h.t1, h.h1, h.w1, hb, h.own, h.nh, h.Bw⟩
theorem BI.toBJ (h : BI w B top bt bh bw bb here b tl ws D v) (hB : B ≤ bh) : BJ w B top bt bh bw here tl ws D v := ⟨h.ix, h.t1, h.h1, h.w1, h.own, h.nh, h.Bw, hB⟩
/-- another place is told to the variable -/
theorem BJ.turn (h : BJ w B top bt bh bw here tl ws D v) (hk : Kept (fun g => g = bh) w w') (hb : Bk w' bh (encLo here') 79) : BJ w' B top bt bh bw here' tl ws D v := by
  have ne : ∀ {g : Nat} {C : List Value} {T : TypeId}, Bk w g C T → T ≠ 79 → ¬ g = bh := by
    rintro g C T hC hT rfl
    have h1 := h.h1
    unfold Bk at hC h1
    rw [hC] at h1
    cases h1
    exact hT rfl
  exact ⟨h.ix.kept hk (fun g hg e => h.nh (e ▸ hg)), hk.bk h.t1 (ne h.t1 (by decide)), hb, hk.bk h.w1 (ne h.w1 (by decide)), hk.own h.own (fun g e h2 => h.own.ne_bk h.h1 (by decide) (h2 ▸ e)), h.nh, h.Bw, h.Bh⟩
end
theorem run_tail1 (a : Option Addr) (n c : Nat) (hn : 0 < n) (w : World) :
    (Instr.slice 58 (.slice a n c) (some (.int .i64 1)) none none).run Tryz.prog w = .ok (.slice (if c = 1 then a else a.map (·.add 6)) (n - 1) (c - 1)) w := by
  have h := run_slice_l (P := Tryz.prog) (w := w) 58 a n c (by kernel_rfl) .i64 1 (by decide) (by omega)
  have hs : (sizeOf (Tryz.prog.elem 58)).run Tryz.prog w = .ok 6 w := by kernel_rfl
  rw [h, hs]
  rfl
theorem at_tail {w : World} {a : Option Addr} {p : Pl} {l : List Pl} {c : Nat} (h : At w 6 encPl a (p :: l)) (hc : l.length + 1 ≤ c) : At w 6 encPl (if c = 1 then a else a.map (·.add 6)) l := by
  by_cases h1 : c = 1
  · have : l = [] := List.eq_nil_of_length_eq_zero (by omega)
    subst this
    exact At.nil _ _ _ _
  · rw [if_neg h1]
    rcases h with h | ⟨b, off, rfl, hb, hr⟩
    · cases h
    · refine .inr ⟨b, off + 6, rfl, hb, fun i x hi j v hj => ?_⟩
      have := hr (i + 1) x (by simpa using hi) j v hj
      rw [show off + (i + 1) * 6 + j = off + 6 + i * 6 + j from by omega] at this
      exact this
end Go.Proofs.YtohinfefidahlaaGreatDoor
