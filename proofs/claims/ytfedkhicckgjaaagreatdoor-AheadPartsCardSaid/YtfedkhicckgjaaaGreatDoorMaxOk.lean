/- The library's own variable. -/
import Derived.Test.YtfedkhicckgjaaaGreatDoorMem
namespace Go.Proofs.YtfedkhicckgjaaaGreatDoor
open Go.RowKit

/-- the library's own variable (the length up to which it searches in one way) holds some number -/
def MaxOk (w : World) : Prop := ∃ m : Int, w.cell? ⟨0, 0, none⟩ = some (.int .i64 m)
theorem MaxOk.lt {w : World} (h : MaxOk w) : 0 < w.heap.size := by
  obtain ⟨m, h⟩ := h
  exact World.block_lt_of_cell? w _ h
theorem MaxOk.below {B : Nat} {w w' : World} (h : MaxOk w) (hb : Below B w w') (hB : 0 < B) : MaxOk w' := by
  obtain ⟨m, h⟩ := h
  exact ⟨m, by rw [hb.cell (p := ⟨0, 0, none⟩) hB]; exact h⟩
theorem MaxOk.next {w w' : World} (h : MaxOk w) (hb : Below w.heap.size w w') : MaxOk w' := h.below hb h.lt
theorem MaxOk.heap {w w' : World} (h : MaxOk w) (e : w'.heap = w.heap) : MaxOk w' := by
  obtain ⟨m, h⟩ := h
  exact ⟨m, by unfold World.cell? at *; rw [e]; exact h⟩
end Go.Proofs.YtfedkhicckgjaaaGreatDoor
