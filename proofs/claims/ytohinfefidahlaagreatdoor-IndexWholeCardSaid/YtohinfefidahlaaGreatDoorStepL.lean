/- Some elements more in a slice of the call's own. No program is named here. -/
import Derived.Test.YtohinfefidahlaaGreatDoorHeld
import Derived.Deep.AppendLies
namespace Go.Proofs.YtohinfefidahlaaGreatDoor
open Go.RowKit
set_option linter.unusedVariables false
set_option linter.unusedSimpArgs false
section
variable {α : Type} {P : Program} {w : World} {ops : Array Oper} {rest : List Oper} {o : Oper} {a : Act} {K : Act → World → Prop} {Q : Exit → Act → World → Prop} {E : Prop}
theorem news_of {G : Nat} {C : List Value} (hG : ∀ j u, C[j]? = some u → w.cell? ⟨G, j, none⟩ = some u) : ∀ j u, C[j]? = some u → w.cell? ((⟨G, 0, none⟩ : Addr).add j) = some u := by
  intro j u hj
  have hadd : (⟨G, 0, none⟩ : Addr).add j = ⟨G, j, none⟩ := by unfold Addr.add; split <;> simp_all
  rw [hadd]; exact hG j u hj
theorem ones_of {sz : Nat} {enc : α → List Value} (he : Enc sz enc) (ys : List α) : ∀ u ∈ ys.flatMap enc, u.oneCell' = true := fun u hu => by
  obtain ⟨y, _, h⟩ := List.mem_flatMap.1 hu
  exact he.one y u h
theorem step_pushL (hgd : o.guard = none) (s x : Operand) (t : TypeId) (ho : o.op = .call { callee := .builtin .append, args := #[s, x], argTypes := #[t, t] })
    (B : Nat) (e : TypeId) (sz bytes : Nat) (hT : SlTy P t e sz bytes) (enc : α → List Value) (he : Enc sz enc)
    (v : Value) (l : List α) (hs : a.eval s = v) (hown : Own w B e sz enc v l)
    (ys : List α) (n c G : Nat) (hn : ys.length = n) (hn0 : 0 < n) (hx : a.eval x = .slice (some ⟨G, 0, none⟩) n c) (hG : ∀ j u, (ys.flatMap enc)[j]? = some u → w.cell? ⟨G, j, none⟩ = some u)
    (hroom : (l.length + n) * bytes ≤ 140737488355328) (hmax : l.length + n ≤ maxLen) (hBs : B ≤ w.heap.size)
    (h : ∀ v' w', Own w' B e sz enc v' (l ++ ys) → w.grownBy w' v.ownBlock → K (a.put o.dst v') w') :
    if Region.wanted o (yielded ops a.tmps) = true then Oper.wp P o a w K Q else E := by
  obtain ⟨hu, z, hi, hz, hsz⟩ := hT
  obtain ⟨i, hi1, hi2, hi3, hi4⟩ := info_parts hi
  subst hn
  refine step_append_lies w hgd s x t ho B e i z sz bytes hu hi1 hi2 hi3 hi4 hz hsz v l.length (l.flatMap enc) hs hown ⟨G, 0, none⟩ ys.length c (ys.flatMap enc) hx (flat_len he.len ys) (news_of hG) (ones_of he ys) hn0 hmax hroom hBs w.heap.size rfl ?_
  intro g cap w' h1 h2 h3 h4
  refine h _ w' ?_ h2
  unfold Own
  rw [List.length_append, List.flatMap_append]
  simpa using h1
theorem wpList_pushL (hgd : o.guard = none) (s x : Operand) (t : TypeId) (ho : o.op = .call { callee := .builtin .append, args := #[s, x], argTypes := #[t, t] })
    (B : Nat) (e : TypeId) (sz bytes : Nat) (hT : SlTy P t e sz bytes) (enc : α → List Value) (he : Enc sz enc)
    (v : Value) (l : List α) (hs : a.eval s = v) (hown : Own w B e sz enc v l)
    (ys : List α) (n c G : Nat) (hn : ys.length = n) (hx : a.eval x = .slice (some ⟨G, 0, none⟩) n c) (hG : ∀ j u, (ys.flatMap enc)[j]? = some u → w.cell? ⟨G, j, none⟩ = some u)
    (hroom : (l.length + n) * bytes ≤ 140737488355328) (hmax : l.length + n ≤ maxLen) (hBs : B ≤ w.heap.size)
    (h : ∀ v' w', Own w' B e sz enc v' (l ++ ys) → w.grownBy w' v.ownBlock → wpList P ops Q rest (a.put o.dst v') w') : wpList P ops Q (o :: rest) a w := by
  obtain ⟨hu, z, hi, hz, hsz⟩ := hT
  obtain ⟨i, hi1, hi2, hi3, hi4⟩ := info_parts hi
  subst hn
  refine wpList_append_own w hgd s x t ho B e i z sz bytes hu hi1 hi2 hi3 hi4 hz hsz v l.length (l.flatMap enc) hs hown ⟨G, 0, none⟩ ys.length c (ys.flatMap enc) hx (flat_len he.len ys) (news_of hG) (ones_of he ys) hmax hroom hBs ?_
  intro v' w' h1 h2 _
  refine h v' w' ?_ h2
  unfold Own
  rw [List.length_append, List.flatMap_append]
  simpa using h1
end
end Go.Proofs.YtohinfefidahlaaGreatDoor
