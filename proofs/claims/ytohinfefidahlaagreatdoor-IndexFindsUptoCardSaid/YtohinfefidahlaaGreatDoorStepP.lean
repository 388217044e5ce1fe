/- One element more in a slice of the call's own, at a step of a region that draws its order. No program is named here. -/
import Derived.Test.YtohinfefidahlaaGreatDoorHeld
import Derived.Deep.AppendLies
namespace Go.Proofs.YtohinfefidahlaaGreatDoor
open Go.RowKit
set_option linter.unusedVariables false
section
variable {α : Type} {P : Program} {w : World} {ops : Array Oper} {o : Oper} {a : Act} {K : Act → World → Prop} {Q : Exit → Act → World → Prop} {E : Prop}
theorem step_push (hgd : o.guard = none) (s x : Operand) (t : TypeId) (ho : o.op = .call { callee := .builtin .append, args := #[s, x], argTypes := #[t, t] })
    (B : Nat) (e : TypeId) (sz bytes : Nat) (hT : SlTy P t e sz bytes) (enc : α → List Value) (he : Enc sz enc)
    (v : Value) (l : List α) (hs : a.eval s = v) (hown : Own w B e sz enc v l)
    (y : α) (G : Nat) (hx : a.eval x = .slice (some ⟨G, 0, none⟩) 1 1) (hG : ∀ j u, (enc y)[j]? = some u → w.cell? ⟨G, j, none⟩ = some u)
    (hroom : (l.length + 1) * bytes ≤ 140737488355328) (hmax : l.length + 1 ≤ maxLen) (hBs : B ≤ w.heap.size)
    (h : ∀ v' w', Own w' B e sz enc v' (l ++ [y]) → w.grownBy w' v.ownBlock → K (a.put o.dst v') w') :
    if Region.wanted o (yielded ops a.tmps) = true then Oper.wp P o a w K Q else E := by
  obtain ⟨hu, z, hi, hz, hsz⟩ := hT
  obtain ⟨i, hi1, hi2, hi3, hi4⟩ := info_parts hi
  have hnews : ∀ j u, (enc y)[j]? = some u → w.cell? ((⟨G, 0, none⟩ : Addr).add j) = some u := by
    intro j u hj
    have hadd : (⟨G, 0, none⟩ : Addr).add j = ⟨G, j, none⟩ := by unfold Addr.add; split <;> simp_all
    rw [hadd]; exact hG j u hj
  refine step_append_lies w hgd s x t ho B e i z sz bytes hu hi1 hi2 hi3 hi4 hz hsz v l.length (l.flatMap enc) hs hown ⟨G, 0, none⟩ 1 1 (enc y) hx (by rw [he.len, Nat.one_mul]) hnews (he.one y) (by omega) hmax hroom hBs w.heap.size rfl ?_
  intro g cap w' h1 h2 h3 h4
  refine h _ w' ?_ h2
  unfold Own
  rw [List.length_append, List.flatMap_append]
  simpa using h1
end
end Go.Proofs.YtohinfefidahlaaGreatDoor
