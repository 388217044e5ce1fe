/- Slices of bytes that the call made itself. Nothing of a program is named here. -/
import Derived.Test.YtohinfefidahlaaDoorHeld
import Derived.Lib.AppendStr
import Derived.Lib.BufferRead
namespace Go.Proofs.YtohinfefidahlaaDoor
open Go.RowKit
set_option linter.unusedVariables false

def encB (c : UInt8) : List Value := [.int .u8 c.toNat]
theorem encB_ok : Enc 1 encB := ⟨fun _ => rfl, fun x u hu => by simp [encB] at hu; subst hu; rfl⟩
theorem encB_flat (l : Bytes) : l.flatMap encB = Lib.strCells ⟨l.toArray⟩ := by
  unfold Lib.strCells
  simp only
  induction l with
  | nil => rfl
  | cons c l ih => rw [List.flatMap_cons, ih]; rfl

/-- what is put behind one of the call's own slices leaves those of other kinds -/
theorem Own.grownOther {α β : Type} {w w' : World} {B B' : Nat} {e e' : TypeId} {sz sz' : Nat} {enc : α → List Value} {enc' : β → List Value} {v v' : Value} {l : List α} {l' : List β}
    (h : Own w B e sz enc v l) (h' : Own w B' e' sz' enc' v' l') (he : e ≠ e') (hg : w.grownBy w' v'.ownBlock) : Own w' B e sz enc v l :=
  h.kept fun k hk => hg.block k (h.block k hk).2 fun ee => h.ne_own h' he k hk ee.symm

section
variable {P : Program} {w : World} {ops : Array Oper} {rest : List Oper} {o : Oper} {a : Act} {Q : Exit → Act → World → Prop}
/-- append(out, s...), s a string -/
theorem wpList_cats (hgd : o.guard = none) (sl x : Operand) (t u : TypeId) (ho : o.op = .call { callee := .builtin .append, args := #[sl, x], argTypes := #[t, u] })
    (B : Nat) (e : TypeId) (hT : SlTy P t e 1 1) (hz : (P.info? e).map (·.zero) = some (some (.int .u8 0))) (hu : P.underlying u = some .string)
    (v : Value) (l : Bytes) (hs : a.eval sl = v) (hown : Own w B e 1 encB v l) (s : Bytes) (hx : a.eval x = .string ⟨s.toArray⟩)
    (hroom : l.length + s.length ≤ 140737488355328) (hmax : l.length + s.length ≤ maxLen) (W : World) (hB : Below B W w) (hBs : B ≤ w.heap.size)
    (h : ∀ v' w', Own w' B e 1 encB v' (l ++ s) → Below B W w' → w.grownBy w' v.ownBlock → wpList P ops Q rest (a.put o.dst v') w') : wpList P ops Q (o :: rest) a w := by
  obtain ⟨hu1, z, hi, hzz, hsz⟩ := hT
  obtain ⟨i, hi1, hi2, hi3, hi4⟩ := info_parts hi
  rw [hi1] at hz
  simp only [Option.map_some, Option.some.injEq] at hz
  have hsize : (ByteArray.mk s.toArray).size = s.length := size_mk s
  refine Lib.wpList_append_own_string w hgd sl x t u ho B e i hu1 hu hi1 hz hi3 hi4 v l.length (l.flatMap encB) hs hown ⟨s.toArray⟩ hx (by rw [hsize]; exact hmax) (by rw [hsize]; exact hroom) hBs ?_
  intro v' w' h1 h2 _
  refine h v' w' ?_ (hB.grown h2 hBs (fun k hk => (hown.lt k hk).1)) h2
  unfold Own
  rw [List.length_append, List.flatMap_append, encB_flat s, ← hsize]
  exact h1

/-- string(out) of the call's own bytes -/
theorem run_str_own {B : Nat} (src dst e : TypeId) (hs : P.underlying src = some (.slice e)) (he : P.underlying e = some (.int .u8)) (hd : P.underlying dst = some .string)
    {v : Value} {l : Bytes} (hown : Own w B e 1 encB v l) : (convert src dst v).run P w = .ok (.string ⟨l.toArray⟩) w := by
  rcases hown.2 with ⟨rfl, h0⟩ | ⟨g, cap, cur, rfl, hb, hg, hnc, hcm, hcs, htake⟩
  · have : l = [] := List.eq_nil_of_length_eq_zero h0
    subst this
    exact Lib.run_convert_nil_bytes w src dst e 0 hs he hd
  · have h2 : Own w B e 1 encB (.slice (some ⟨g, 0, none⟩) l.length cap) l := hown
    refine run_bytes_str w src dst e hs he hd g 0 l.length cap l rfl fun i hi => ?_
    have := h2.cellAt encB_ok (k := i) (x := l.getD i 0) (by rw [List.getElem?_eq_getElem hi, List.getD_eq_getElem?_getD, List.getElem?_eq_getElem hi]; rfl) (j := 0) rfl
    rw [Nat.zero_add]
    simpa using this
theorem wpList_str_own (hgd : o.guard = none) (x : Operand) (src dst e : TypeId) (ho : o.op = .convert src dst x) {B : Nat} {v : Value} (hx : a.eval x = v)
    (hs : P.underlying src = some (.slice e)) (he : P.underlying e = some (.int .u8)) (hd : P.underlying dst = some .string) (l : Bytes) (hown : Own w B e 1 encB v l)
    (h : wpList P ops Q rest (a.put o.dst (.string ⟨l.toArray⟩)) w) : wpList P ops Q (o :: rest) a w := by
  refine wpList_plain hgd fun K hK => ?_
  have hrun := run_str_own (P := P) src dst e hs he hd hown
  unfold Oper.wp
  simp only [execOp, ho, hx, Sem.run_bind, hrun, Result.andThen_ok, Sem.run_pure]
  exact hK _ _ h
end
end Go.Proofs.YtohinfefidahlaaDoor
