/- A new binderylaw01.Book holds no list. -/
import Derived.Test.YtfedkhicckgjaaaGreatDoorBkKeepS
namespace Go.Proofs.YtfedkhicckgjaaaGreatDoor
open Go.RowKit
set_option linter.unusedVariables false

def newBook : List Value := [.int .i64 0, .slice none 0 0, .slice none 0 0, .slice none 0 0, .slice none 0 0, .slice none 0 0, .slice none 0 0, .slice none 0 0, .slice none 0 0, .slice none 0 0, .slice none 0 0, .slice none 0 0, .slice none 0 0, .slice none 0 0, .slice none 0 0, .slice none 0 0, .slice none 0 0, .slice none 0 0]
theorem Part.none {α : Type} (B : Nat) (E HT : TypeId) (sz : Nat) (enc : α → List Value) (mk : Nat → α) (w : World) : Part B E HT sz enc mk (.slice none 0 0) [] (fun _ => []) False False w :=
  ⟨Own.nil w B HT 3 encH, fun j hj => absurd hj (by simp), fun i j hi => absurd hi (by simp), fun j hj => absurd hj (by simp), by simp, fun _ => by simp, fun h => h.elim, fun h => h.elim⟩
theorem Bun.start (B : Nat) (w : World) (hB : B ≤ w.heap.size) (C : Array Value) (hC : C.toList = newBook) :
    Bun B w.heap.size newBook (.slice none 0 0) (.slice none 0 0) [] [] (fun _ => []) (fun _ => []) False False False False w (w.alloc (.cells C 50)) := by
  refine ⟨(Below.refl _ _).alloc hB _, hB, by have h := Bk.new w C 50; rw [hC] at h; exact h, by simp; omega, rfl, rfl, fun i h0 h1 _ _ => ?_, Part.none .., Part.none ..⟩
  match i, h0, h1 with
  | 1, _, _ | 2, _, _ | 3, _, _ | 4, _, _ | 5, _, _ | 7, _, _ | 6, _, _ | 8, _, _ | 9, _, _ | 10, _, _ | 11, _, _ | 12, _, _ | 13, _, _ | 14, _, _ | 15, _, _ | 16, _, _ | 17, _, _ => rfl
  | k + 18, _, h => exact absurd h (by omega)
theorem newBook_len : newBook.length = 18 := rfl
theorem newBook_0 : newBook[0]? = some (.int .i64 ((0 : Nat) : Int)) := rfl
end Go.Proofs.YtfedkhicckgjaaaGreatDoor
