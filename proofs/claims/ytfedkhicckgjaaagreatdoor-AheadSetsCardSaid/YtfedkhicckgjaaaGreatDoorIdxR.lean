/- strings.IndexRune among the two blanks, of what is no ASCII byte; strings.IndexAny of the two blanks in a text of at most 8 bytes, whatever these are. -/
import Derived.Test.YtfedkhicckgjaaaGreatDoorUtf
import Derived.Test.YtfedkhicckgjaaaGreatDoorBaseA
import Derived.Test.YtfedkhicckgjaaaGreatDoorShelf
import Derived.Test.YtfedkhicckgjaaaGreatDoorRdOne
import Derived.Laws.Runes
import Derived.Scope
import Derived.WalkMore
import Derived.Deep.QuietTactic
import Derived.BigQuiet
namespace Go.Proofs.YtfedkhicckgjaaaGreatDoor
open Go.RowKit
set_option linter.unusedVariables false

/-! ### plain -/
def idxI : Option Nat → Int
  | some n => n
  | none => -1
theorem encode_shape (c : Nat) (h : 128 ≤ c) (hv : Lib.validRune c = true) :
    (∃ x y, Utf8.encode c = ⟨#[x, y]⟩ ∧ 128 ≤ y.toNat) ∨ (∃ x y z, Utf8.encode c = ⟨#[x, y, z]⟩) ∨ (∃ x y z u, Utf8.encode c = ⟨#[x, y, z, u]⟩) := by
  have hv2 : Utf8.valid (c : Int) = true := by rw [validRune_eq]; exact hv
  unfold Utf8.encode
  simp only [hv2, if_true]
  rw [if_neg (by omega)]
  split
  · refine .inl ⟨_, _, rfl, ?_⟩
    simp; omega
  · split
    · exact .inr (.inl ⟨_, _, _, rfl⟩)
    · exact .inr (.inr ⟨_, _, _, _, rfl⟩)
theorem blankI_none {s : Bytes} (h : ∀ j (hj : j < s.length), isBl s[j] = false) : blankI s = none := by
  unfold blankI
  rw [List.findIdx?_eq_none_iff]
  intro x hx
  obtain ⟨j, hj, rfl⟩ := List.getElem_of_mem hx
  exact h j hj
theorem blankI_hit {s : Bytes} {n : Nat} (hn : n < s.length) (h1 : isBl s[n] = true) (h2 : ∀ j (hj : j < n), isBl (s[j]'(by omega)) = false) : blankI s = some n := by
  unfold blankI
  rw [List.findIdx?_eq_some_iff_getElem]
  exact ⟨hn, h1, fun j hj => by rw [h2 j hj]; decide⟩
theorem get_mk (s : Bytes) (i : Nat) (h : i < s.length) : (ByteArray.mk s.toArray).get! i = s[i] := by
  simp [ByteArray.get!, h]
theorem index_bl (b : UInt8) : Lib.indexByte [32, 9] b = if isBl b = true then (if b = 32 then 0 else 1) else -1 := by
  by_cases h1 : b = 32
  · subst h1; rfl
  · by_cases h2 : b = 9
    · subst h2; rfl
    · have e1 : ((32 : UInt8) == b) = false := beq_eq_false_iff_ne.2 fun e => h1 e.symm
      have e2 : ((9 : UInt8) == b) = false := beq_eq_false_iff_ne.2 fun e => h2 e.symm
      have e3 : isBl b = false := by unfold isBl; simp [h1, h2]
      rw [e3]
      simp [Lib.indexByte, e1, e2]
theorem isBl_high {b : UInt8} (h : 128 ≤ b.toNat) : isBl b = false := by
  unfold isBl
  have h1 : b ≠ 32 := fun e => by subst e; revert h; decide
  have h2 : b ≠ 9 := fun e => by subst e; revert h; decide
  simp [h1, h2]

/-! ### the model's iterator over a text, in whatever world -/
def _root_.Go.World.itTo (W : World) (g : Nat) (s : ByteArray) (pos : Nat) : World := { W with heap := W.heap.setIfInBounds g (.stringIter s pos) }
theorem next_gen {P : Program} (W : World) (g : Nat) (s : ByteArray) (pos : Nat) (ty : TypeId) (hi : W.heap[g]? = some (.stringIter s pos)) (h : pos < s.size) :
    (Instr.next (.pointer (some ⟨g, 0, none⟩)) true ty).run P W = .ok (.tuple #[.bool true, .int .i64 pos, .int .i32 (Utf8.decode s pos).1]) (W.itTo g s (pos + (Utf8.decode s pos).2)) := by
  simp only [Instr.next, getObj, setObj, Sem.run_bind, Sem.run, hi, Result.andThen, h, if_true]
  simp [goInt, World.itTo]
theorem next_stop {P : Program} (W : World) (g : Nat) (s : ByteArray) (pos : Nat) (ty : TypeId) (hi : W.heap[g]? = some (.stringIter s pos)) (h : ¬ pos < s.size) :
    (Instr.next (.pointer (some ⟨g, 0, none⟩)) true ty).run P W = .ok (.tuple #[.bool false]) W := by
  simp [Instr.next, getObj, Sem.run, hi, h]
theorem itTo_at {W : World} {g : Nat} {s : ByteArray} {p : Nat} (h : g < W.heap.size) : (W.itTo g s p).heap[g]? = some (.stringIter s p) := by
  simp [World.itTo, h]
theorem itTo_below {W w : World} {B g : Nat} {s : ByteArray} {p : Nat} (h : Below B w W) (hg : B ≤ g) : Below B w (W.itTo g s p) := by
  refine h.trans ⟨rfl, rfl, rfl, by simp [World.itTo], fun k hk => ?_⟩
  simp only [World.itTo]
  rw [Array.getElem?_setIfInBounds_ne (by omega)]

set_option maxHeartbeats 4000000 in
set_option maxRecDepth 100000 in
theorem idxRune_err (w : World) :
    Calls Tryz.prog 182 #[.string ⟨#[32, 9]⟩, .int .i32 65533] w fun e w' => e = .returned (.int .i64 (-1)) ∧ Below w.heap.size w w' := by
  have n0 := fun ty => run_next_ascii (P := Tryz.prog) w ⟨#[32, 9]⟩ 0 ty (by decide) (by decide)
  have n1 := fun ty => run_next_ascii (P := Tryz.prog) w ⟨#[32, 9]⟩ 1 ty (by decide) (by decide)
  have n2 := fun ty => run_next_end (P := Tryz.prog) w ⟨#[32, 9]⟩ 2 ty (by decide)
  go_enter Tryz.func182, Tryz.ntmps182
  go_wp2
  refine wp_loop_rounds 4 ?_
  repeat any_goals (rw [rounds_succ]; go_wp2)
  go_ret
  exact ⟨rfl, (Below.refl _ _).alloc (Nat.le_refl _) _⟩

set_option maxHeartbeats 4000000 in
set_option maxRecDepth 100000 in
theorem idxRune_bad (c : Nat) (w : World) (h : 128 ≤ c) (hne : c ≠ 65533) (hv : Lib.validRune c = false) :
    Calls Tryz.prog 182 #[.string ⟨#[32, 9]⟩, .int .i32 c] w fun e w' => e = .returned (.int .i64 (-1)) ∧ Below w.heap.size w w' := by
  have h1 : (c : Int) ≠ 65533 := by omega
  have h2 : ((c : Int) == 65533) = false := beq_eq_false_iff_ne.2 h1
  have h3 : ¬ (c : Int) < 128 := by omega
  have h4 : (0 : Int) ≤ c := by omega
  have HV := Lib.hid hv
  clear hv hne h1
  go_enter Tryz.func182, Tryz.ntmps182
  go_wp2_with (go_at_call 224; refine (Tryz.utf8_ValidRune (c : Int) w).mono ?_; rw [HV.out]; rintro e w2 ⟨rfl, rfl⟩)
  go_ret
  exact ⟨rfl, Below.refl _ _⟩

set_option maxHeartbeats 4000000 in
set_option maxRecDepth 1000000 in
theorem idxRune_two (c : Nat) (w : World) (x y : UInt8) (h : 128 ≤ c) (hne : c ≠ 65533) (hv : Lib.validRune c = true) (he : Utf8.encode c = ⟨#[x, y]⟩) (hy : 128 ≤ y.toNat) :
    Calls Tryz.prog 182 #[.string ⟨#[32, 9]⟩, .int .i32 c] w fun e w' => e = .returned (.int .i64 (-1)) ∧ Below w.heap.size w w' := by
  have h1 : (c : Int) ≠ 65533 := by omega
  have h2 : ((c : Int) == 65533) = false := beq_eq_false_iff_ne.2 h1
  have h3 : ¬ (c : Int) < 128 := by omega
  have h4 : (0 : Int) ≤ c := by omega
  have h5 : ((9 : Int) != (y.toNat : Int)) = true := by simp; omega
  have hw1 : IntKind.i64.wrap 2 = 2 := by decide
  have hw2 : IntKind.i64.wrap (1 + 1) = 2 := by decide
  have HV := Lib.hid hv
  have hcv : ∀ w', (convert 21 9 (.int .i32 c)).run Tryz.prog w' = .ok (.string ⟨#[x, y]⟩) w' := fun w' => by
    simp [convert, run_underlying Tryz.underlying21, run_underlying Tryz.underlying9, Conv.intToString, he]
  clear hv hne h1 he
  go_enter Tryz.func182, Tryz.ntmps182
  go_wp2_with (go_at_call 224; refine (Tryz.utf8_ValidRune (c : Int) w).mono ?_; rw [HV.out]; rintro e w2 ⟨rfl, rfl⟩)
  refine wp_scope_straight ?_
  go_wp2
  refine wp_loop_rounds 2 ?_
  rw [rounds_succ]
  go_wp2
  refine wp_scope_straight ?_
  go_wp2_with fail
  go_quiet (fail)
  go_wp2
  go_wp2_with fail
  go_region_law ((go_simp; go_at_call 223; refine (Tryz.strings_IndexByte ⟨#[]⟩ _ _).mono ?_; rintro e w5 ⟨rfl, rfl⟩; dsimp only))
  go_wp2
  rw [Exit.noGoto_ret]
  dsimp only [Exit.inBlock, Exit.then]
  rw [Exit.noGoto_ret]
  go_ret
  exact ⟨rfl, below_drewN (Below.refl _ _) _⟩
set_option maxHeartbeats 4000000 in
set_option maxRecDepth 100000 in
theorem idxRune_three (c : Nat) (w : World) (x y z : UInt8) (h : 128 ≤ c) (hne : c ≠ 65533) (hv : Lib.validRune c = true) (he : Utf8.encode c = ⟨#[x, y, z]⟩) :
    Calls Tryz.prog 182 #[.string ⟨#[32, 9]⟩, .int .i32 c] w fun e w' => e = .returned (.int .i64 (-1)) ∧ Below w.heap.size w w' := by
  have h1 : (c : Int) ≠ 65533 := by omega
  have h2 : ((c : Int) == 65533) = false := beq_eq_false_iff_ne.2 h1
  have h3 : ¬ (c : Int) < 128 := by omega
  have h4 : (0 : Int) ≤ c := by omega
  have HV := Lib.hid hv
  have hcv : ∀ w', (convert 21 9 (.int .i32 c)).run Tryz.prog w' = .ok (.string ⟨#[x, y, z]⟩) w' := fun w' => by
    simp [convert, run_underlying Tryz.underlying21, run_underlying Tryz.underlying9, Conv.intToString, he]
  clear hv hne h1 he
  go_enter Tryz.func182, Tryz.ntmps182
  go_wp2_with (go_at_call 224; refine (Tryz.utf8_ValidRune (c : Int) w).mono ?_; rw [HV.out]; rintro e w2 ⟨rfl, rfl⟩)
  refine wp_scope_straight ?_
  go_wp2
  refine wp_loop_rounds 2 ?_
  rw [rounds_succ]
  go_wp2
  (try rw [Exit.noGoto_ret])
  go_ret
  exact ⟨rfl, Below.refl _ _⟩
set_option maxHeartbeats 4000000 in
set_option maxRecDepth 100000 in
theorem idxRune_four (c : Nat) (w : World) (x y z u : UInt8) (h : 128 ≤ c) (hne : c ≠ 65533) (hv : Lib.validRune c = true) (he : Utf8.encode c = ⟨#[x, y, z, u]⟩) :
    Calls Tryz.prog 182 #[.string ⟨#[32, 9]⟩, .int .i32 c] w fun e w' => e = .returned (.int .i64 (-1)) ∧ Below w.heap.size w w' := by
  have h1 : (c : Int) ≠ 65533 := by omega
  have h2 : ((c : Int) == 65533) = false := beq_eq_false_iff_ne.2 h1
  have h3 : ¬ (c : Int) < 128 := by omega
  have h4 : (0 : Int) ≤ c := by omega
  have HV := Lib.hid hv
  have hcv : ∀ w', (convert 21 9 (.int .i32 c)).run Tryz.prog w' = .ok (.string ⟨#[x, y, z, u]⟩) w' := fun w' => by
    simp [convert, run_underlying Tryz.underlying21, run_underlying Tryz.underlying9, Conv.intToString, he]
  clear hv hne h1 he
  go_enter Tryz.func182, Tryz.ntmps182
  go_wp2_with (go_at_call 224; refine (Tryz.utf8_ValidRune (c : Int) w).mono ?_; rw [HV.out]; rintro e w2 ⟨rfl, rfl⟩)
  refine wp_scope_straight ?_
  go_wp2
  refine wp_loop_rounds 2 ?_
  rw [rounds_succ]
  go_wp2
  (try rw [Exit.noGoto_ret])
  go_ret
  exact ⟨rfl, Below.refl _ _⟩
theorem idxRune_high (c : Nat) (w : World) (h : 128 ≤ c) :
    Calls Tryz.prog 182 #[.string ⟨#[32, 9]⟩, .int .i32 c] w fun e w' => e = .returned (.int .i64 (-1)) ∧ Below w.heap.size w w' := by
  by_cases he : c = 65533
  · subst he; exact idxRune_err w
  · cases hv : Lib.validRune c
    · exact idxRune_bad c w h he hv
    · rcases encode_shape c h hv with ⟨x, y, h1, h2⟩ | ⟨x, y, z, h1⟩ | ⟨x, y, z, u, h1⟩
      · exact idxRune_two c w x y h he hv h1 h2
      · exact idxRune_three c w x y z h he hv h1
      · exact idxRune_four c w x y z u h he hv h1
end Go.Proofs.YtfedkhicckgjaaaGreatDoor
