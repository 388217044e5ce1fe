/- A step of a walk that is held: its law is given in the open. No program is named here. -/
import Derived.Test.YtohinfefidahlaaDoorHeld
namespace Go.Proofs.YtohinfefidahlaaDoor
open Go.RowKit
set_option linter.unusedVariables false
structure Hld (p : Prop) : Prop where
  out : p
section
variable {P : Program} {w : World} {ops : Array Oper} {rest : List Oper} {o : Oper} {a : Act} {Q : Exit → Act → World → Prop}
/-- the operation that fills a slot -/
theorem hold_at (k : Nat) (ho : o.dst = some k) (h : Hld (wpList P ops Q (o :: rest) a w)) : wpList P ops Q (o :: rest) a w := h.out
/-- an operation that is told whole -/
theorem hold_op (x : Op) (ho : o.op = x) (h : Hld (wpList P ops Q (o :: rest) a w)) : wpList P ops Q (o :: rest) a w := h.out
end
theorem At.of_bk {α : Type} {w : World} {g sz : Nat} {enc : α → List Value} {l : List α} {T : TypeId} (he : Enc sz enc) (h : Bk w g (l.flatMap enc) T) : At w sz enc (some ⟨g, 0, none⟩) l := by
  refine .inr ⟨g, 0, rfl, h.lt, fun i x hi j v hj => ?_⟩
  have hjz : j < sz := by rw [← he.len x]; exact (List.getElem?_eq_some_iff.1 hj).1
  rw [Nat.zero_add, h.cell, flat_get he.len l i j hjz, hi]
  exact hj
/-- the world of what is to be shown, named -/
theorem calls_gen {P : Program} {f : FuncId} {args : Array Value} {w : World} {Q : Ending → World → Prop} (h : ∀ W, W = w → Calls P f args W Q) : Calls P f args w Q := h w rfl
theorem wp_gen {P : Program} {c : Code} {Q : Exit → Act → World → Prop} {a : Act} {w : World} (h : ∀ W, W = w → Code.wp P c Q a W) : Code.wp P c Q a w := h w rfl
theorem exit_gen {K : Exit → Act → World → Prop} {e : Exit} {a : Act} {w : World} (h : ∀ W, W = w → K e a W) : K e a w := h w rfl
end Go.Proofs.YtohinfefidahlaaDoor
