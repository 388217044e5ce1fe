/- strings.IndexAny of the two blanks: where the first one stands. -/
import Derived.Test.YtfedkhicckgjaaaGreatDoorShelf
import Derived.Test.YtfedkhicckgjaaaGreatDoorRdTwo
import Derived.Test.YtfedkhicckgjaaaGreatDoorIdxS
namespace Go.Proofs.YtfedkhicckgjaaaGreatDoor
open Go.RowKit
set_option linter.unusedVariables false

theorem isBl_con (c : UInt8) : ([32, 9] : List UInt8).contains c = isBl c := by
  simp [isBl]; rfl
theorem indexAny_blank : ∀ s : Bytes, Lib.indexAny s [32, 9] = idxI (blankI s)
  | [] => rfl
  | c :: s => by
    have ih := indexAny_blank s
    have e : blankI (c :: s) = if isBl c = true then some 0 else (blankI s).map (· + 1) := by
      unfold blankI; rw [List.findIdx?_cons]
    rw [e, Lib.indexAny, isBl_con, ih]
    cases isBl c
    · cases blankI s with
      | none => rfl
      | some n =>
        have : ((n : Int) == -1) = false := beq_eq_false_iff_ne.2 (by omega)
        simp [idxI, this]
    · rfl
theorem blankI_lt {s : Bytes} {n : Nat} (h : blankI s = some n) : n < s.length := by
  unfold blankI at h
  exact (List.findIdx?_eq_some_iff_getElem.1 h).1

theorem indexAny_any (s : Bytes) (w : World) (hs : s.length ≤ 1048576) (ha : idxOk s = true) :
    Calls Tryz.prog 156 #[.string ⟨s.toArray⟩, .string ⟨#[32, 9]⟩] w fun e w' => e = .returned (.int .i64 (idxI (blankI s))) ∧ Below w.heap.size w w' := by
  have hz : (ByteArray.mk s.toArray).size = s.length := by simp [ByteArray.size]
  have hd : (ByteArray.mk s.toArray).data.toList = s := by simp
  have h2 : (ByteArray.mk #[32, 9]).data.toList = [32, 9] := rfl
  have hc : ∀ (j : Nat) b, (ByteArray.mk #[32, 9]).data.toList[j]? = some b → b.toNat < 128 := fun j b h => by
    rw [h2] at h
    have := List.mem_of_getElem? h
    simp at this
    rcases this with rfl | rfl <;> decide
  rw [← indexAny_blank]
  by_cases h8 : 8 < s.length
  · refine (Tryz.strings_IndexAny_long (fun w => by kernel_rfl) ⟨s.toArray⟩ ⟨#[32, 9]⟩ w (by decide) (by omega) (by omega) (by decide) hc).mono ?_
    rintro e w' ⟨h1, h3⟩
    rw [hd] at h1
    refine ⟨h1, ?_⟩
    rw [h3]
    exact ((Below.refl _ _).alloc (Nat.le_refl _) _).alloc (by simp) _
  · rw [indexAny_blank]
    exact indexAny_short s w (by omega)
end Go.Proofs.YtfedkhicckgjaaaGreatDoor
