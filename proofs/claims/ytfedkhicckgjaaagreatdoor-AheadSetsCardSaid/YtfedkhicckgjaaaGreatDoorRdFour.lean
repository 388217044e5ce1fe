/- ahead's reader: one line of the source that is read now. -/
import Derived.Test.YtfedkhicckgjaaaGreatDoorRdThree
import Derived.Test.YtfedkhicckgjaaaGreatDoorRdTwo
import Derived.Test.YtfedkhicckgjaaaGreatDoorRdOne
import Derived.Test.YtfedkhicckgjaaaGreatDoorIdxA
import Derived.Test.YtfedkhicckgjaaaGreatDoorTrim
import Derived.Deep.RegionHeld3
import Derived.Laws.EntriesVeiled
import Derived.Deep.AppendLies
import Derived.Deep.DrawnRows
import Derived.StillTailTactics
namespace Go.Proofs.YtfedkhicckgjaaaGreatDoor
open Go.RowKit
set_option linter.unusedVariables false

theorem drew_below (w : World) : Below w.heap.size w w.drew := ⟨rfl, rfl, rfl, Nat.le_refl _, fun _ _ => rfl⟩
theorem fit_parts {r : RS} (h : r.fits = true) : r.attrs.length ≤ 1000000 ∧ (∀ x ∈ r.attrs, x.value.length ≤ 100000) ∧ r.top.conds.length ≤ 20000 ∧ r.diags.length ≤ 60000 ∧ r.lines.length ≤ 20000 ∧ r.files.length ≤ 20000 ∧ r.opens.length ≤ 16 := by
  unfold RS.fits at h
  simp only [Bool.and_eq_true, decide_eq_true_eq, List.all_eq_true] at h
  exact ⟨h.1.1.1.1.1.1, h.1.1.1.1.1.2, h.1.1.1.1.2, h.1.1.1.2, h.1.1.2, h.1.2, h.2⟩
theorem hasPrefix_any (s p : Bytes) (w : World) : Calls Tryz.prog 201 #[.string ⟨s.toArray⟩, .string ⟨p.toArray⟩] w fun e w' => e = .returned (.bool (Lib.hasPrefix s p)) ∧ w = w' :=
  (Tryz.strings_HasPrefix ⟨s.toArray⟩ ⟨p.toArray⟩ w).mono fun e w' h => ⟨by rw [h.1], h.2.symm⟩
theorem ask_lines (r : RS) (n : Bytes) : (r.ask n).lines = r.lines := by unfold RS.ask; split <;> rfl
theorem foldAsk_lines' : ∀ (l : List Bytes) (r : RS), (l.foldl RS.ask r).lines = r.lines
  | [], _ => rfl
  | n :: l, r => by rw [List.foldl_cons, foldAsk_lines' l, ask_lines]
theorem foldAsk_lines (r : RS) (s : Bytes) : (r.fill s).lines = r.lines := foldAsk_lines' _ _
theorem idxI_some (n : Nat) : idxI (some n) = (n : Int) := rfl
theorem idxI_none : idxI none = -1 := rfl
theorem zeroWord (w : World) : (zeroValue 200).run Tryz.prog w = .ok (.agg #[.nilFunc, .bool false]) w := by kernel_rfl
theorem sllines : SlTy Tryz.prog 58 76 3 40 := ⟨Tryz.underlying58, .agg #[.string ⟨#[]⟩, .int .i64 0, .string ⟨#[]⟩], by kernel_rfl, rfl, by decide⟩
end Go.Proofs.YtfedkhicckgjaaaGreatDoor
