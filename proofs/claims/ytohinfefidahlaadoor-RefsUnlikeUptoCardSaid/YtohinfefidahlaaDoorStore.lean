/- Stores of several cells into a block that is known whole. No program is named here. -/
import Derived.Test.YtohinfefidahlaaDoorHeld
import Derived.Deep.MidRow
import Derived.Laws.CopyRow
import Derived.Laws.CopyOwn
import Derived.Laws.MakeOwn
namespace Go.Proofs.YtohinfefidahlaaDoor
open Go.RowKit
set_option linter.unusedVariables false

theorem Kept.only (w : World) (g : Nat) (cs : Array Value) : Kept (fun x => x = g) w (w.setRow g cs) :=
  ⟨rfl, rfl, rfl, by simp [World.setRow], fun k _ hk => setRow_other w g k cs hk⟩
theorem size_setRow (w : World) (g : Nat) (cs : Array Value) : (w.setRow g cs).heap.size = w.heap.size := by simp [World.setRow]
section
variable {P : Program} {w : World} {g off : Nat} {C C' : List Value} {T ty : TypeId}
/-- what lies in the block behind the store -/
def putCells (C : List Value) (off : Nat) (C' : List Value) : List Value := C.take off ++ C' ++ C.drop (off + C'.length)
theorem putCells_len (h : off + C'.length ≤ C.length) : (putCells C off C').length = C.length := by unfold putCells; simp; omega
theorem putCells_all (h : C'.length = C.length) : putCells C 0 C' = C' := by unfold putCells; simp [h]
theorem run_store_bk (hb : Bk w g C T) (hfit : off + C'.length ≤ C.length) (hi : (P.info? ty).map (·.size) = some C'.length) (h1 : ∀ v ∈ C', v.oneCell' = true) :
    (storeVar ty ⟨g, off, none⟩ (.agg C'.toArray)).run P w = .ok () (w.setRow g (putCells C off C').toArray) := by
  have := run_storeCells_at (P := P) g off T C' 0 C.toArray w hb (by simpa using hfit) h1
  cases hq : P.info? ty with
  | none => simp [hq] at hi
  | some i =>
    have hs : C'.length = i.size := by simp [hq] at hi; omega
    simp only [Nat.add_zero] at this
    simp [storeVar, sizeOf, typeInfo, hq, Value.cells, hs, this, putCells]
theorem Bk.setRow (hb : Bk w g C T) (D : List Value) : Bk (w.setRow g D.toArray) g D T := setRow_heap w g C.toArray D.toArray T (0, 0) hb
theorem Bk.setRow_other {g' : Nat} (hb : Bk w g C T) (hne : g ≠ g') (D : Array Value) : Bk (w.setRow g' D) g C T := hb.of_block (Go.setRow_other w g' g D hne)
variable {ops : Array Oper} {rest : List Oper} {o : Oper} {a : Act} {Q : Exit → Act → World → Prop}
theorem wpList_store_bk (hgd : o.guard = none) (x y : Operand) (ho : o.op = .store ty x y) (hdst : o.dst = none)
    (hx : a.eval x = .pointer (some ⟨g, off, none⟩)) (hy : a.eval y = .agg C'.toArray) (hb : Bk w g C T) (hfit : off + C'.length ≤ C.length)
    (hi : (P.info? ty).map (·.size) = some C'.length) (h1 : ∀ v ∈ C', v.oneCell' = true)
    (h : ∀ w', Bk w' g (putCells C off C') T → Kept (fun x => x = g) w w' → w'.heap.size = w.heap.size → wpList P ops Q rest a w') : wpList P ops Q (o :: rest) a w := by
  refine wpList_plain hgd fun K hK => ?_
  unfold Oper.wp execOp
  simp only [ho, hx, hy, Instr.storeAt, Instr.sureAddr, Sem.run_bind, Sem.run_pure, Result.andThen_ok, run_store_bk hb hfit hi h1]
  refine hK _ _ ?_
  rw [hdst]
  exact h _ (hb.setRow _) (Kept.only _ _ _) (size_setRow _ _ _)
theorem wpList_mkrow {e t : TypeId} {sz bytes : Nat} (hgd : o.guard = none) (lo co : Operand) (ho : o.op = Op.makeSlice t lo co) (hT : SlTy P t e sz bytes)
    (n : Nat) (L M : Int) (hl : a.eval lo = .int .i64 L) (hc : a.eval co = .int .i64 M) (hL : L = (n : Int)) (hM : M = (n : Int)) (hroom : bytes * n ≤ 281474976710656) (hmax : n ≤ maxLen)
    (h : ∀ w' D, Bk w' w.heap.size D e → D.length = n * sz → Below w.heap.size w w' → w'.heap.size = w.heap.size + 1 → wpList P ops Q rest (a.put o.dst (.slice (some ⟨w.heap.size, 0, none⟩) n n)) w') : wpList P ops Q (o :: rest) a w := by
  obtain ⟨hu, z, hi, hz, hsz⟩ := hT
  obtain ⟨i, hi1, hi2, hi3, hi4⟩ := info_parts hi
  subst hL hM
  have hrun := run_make (P := P) w t e i z hu hi1 hi2 .i64 .i64 (n : Int) (n : Int) (by omega) (Int.le_refl _) (by rw [hi4, ← Int.natCast_mul]; exact Int.ofNat_le.2 hroom) (by unfold maxLen at hmax; omega)
  rw [Int.toNat_natCast, hi3] at hrun
  refine wpList_plain hgd fun K hK => ?_
  clear hroom hmax
  unfold Oper.wp
  simp [execOp, ho, hl, hc, hrun, Result.andThen]
  exact hK _ _ (h _ _ (Bk.new _ _ _) (by rw [Array.length_toList, size_madeCells]) ((Below.refl _ _).alloc (Nat.le_refl _) _) (World.size_alloc _ _))
end
end Go.Proofs.YtohinfefidahlaaDoor
