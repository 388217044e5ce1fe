/- binderylaw01.Book: fill, grow, look at a kind of which it holds no list. -/
import Derived.Test.YtohinfefidahlaaGreatDoorJpA
namespace Go.Proofs.YtohinfefidahlaaGreatDoor
open Go.RowKit
set_option linter.unusedVariables false

theorem fillByte_nil (kb : Nat) (C : List Value) (w : World) (hk : Bk w kb C 52) (h1 : C[1]? = some (.slice none 0 0)) : Calls Tryz.prog 30 #[.pointer (some ⟨kb, 0, none⟩)] w fun e w' => e = .returned (.tuple #[]) ∧ w' = w := by
  have hc1 : w.cell? ⟨kb, 1, none⟩ = some (.slice none 0 0) := by rw [hk.cell]; exact h1
  go_enter Tryz.func30, Tryz.ntmps30
  go_wp2_with fail
  go_loopw [2] (fun v wr => v = .int .i64 0 ∧ wr = w) (fun _ _ => 0)
  case atStart => exact ⟨rfl, rfl⟩
  case round =>
    obtain ⟨rfl, rfl⟩ := hrel
    go_wp2_with fail
    go_end0
    exact ⟨rfl, rfl⟩

theorem growByte_nil (kb : Nat) (C : List Value) (w : World) (hk : Bk w kb C 52) (h1 : C[1]? = some (.slice none 0 0)) : Calls Tryz.prog 47 #[.pointer (some ⟨kb, 0, none⟩)] w fun e w' => e = .returned (.tuple #[]) ∧ w' = w := by
  have hc1 : w.cell? ⟨kb, 1, none⟩ = some (.slice none 0 0) := by rw [hk.cell]; exact h1
  go_enter Tryz.func47, Tryz.ntmps47
  go_wp2_with fail
  go_loopw [2] (fun v wr => v = .int .i64 0 ∧ wr = w) (fun _ _ => 0)
  case atStart => exact ⟨rfl, rfl⟩
  case round =>
    obtain ⟨rfl, rfl⟩ := hrel
    go_wp2_with fail
    go_end0
    exact ⟨rfl, rfl⟩

theorem lookByte_nil (kb : Nat) (C : List Value) (w : World) (hk : Bk w kb C 52) (h1 : C[1]? = some (.slice none 0 0)) : Calls Tryz.prog 64 #[.pointer (some ⟨kb, 0, none⟩)] w fun e w' => e = .returned (.bool true) ∧ w' = w := by
  have hc1 : w.cell? ⟨kb, 1, none⟩ = some (.slice none 0 0) := by rw [hk.cell]; exact h1
  go_enter Tryz.func64, Tryz.ntmps64
  go_wp2_with fail
  go_loopw [3] (fun v wr => v = .int .i64 0 ∧ wr = w) (fun _ _ => 0)
  case atStart => exact ⟨rfl, rfl⟩
  case round =>
    obtain ⟨rfl, rfl⟩ := hrel
    go_wp2_with fail
    go_ret
    exact ⟨rfl, rfl⟩

theorem fillInt_nil (kb : Nat) (C : List Value) (w : World) (hk : Bk w kb C 52) (h1 : C[2]? = some (.slice none 0 0)) : Calls Tryz.prog 31 #[.pointer (some ⟨kb, 0, none⟩)] w fun e w' => e = .returned (.tuple #[]) ∧ w' = w := by
  have hc1 : w.cell? ⟨kb, 2, none⟩ = some (.slice none 0 0) := by rw [hk.cell]; exact h1
  go_enter Tryz.func31, Tryz.ntmps31
  go_wp2_with fail
  go_loopw [2] (fun v wr => v = .int .i64 0 ∧ wr = w) (fun _ _ => 0)
  case atStart => exact ⟨rfl, rfl⟩
  case round =>
    obtain ⟨rfl, rfl⟩ := hrel
    go_wp2_with fail
    go_end0
    exact ⟨rfl, rfl⟩

theorem growInt_nil (kb : Nat) (C : List Value) (w : World) (hk : Bk w kb C 52) (h1 : C[2]? = some (.slice none 0 0)) : Calls Tryz.prog 48 #[.pointer (some ⟨kb, 0, none⟩)] w fun e w' => e = .returned (.tuple #[]) ∧ w' = w := by
  have hc1 : w.cell? ⟨kb, 2, none⟩ = some (.slice none 0 0) := by rw [hk.cell]; exact h1
  go_enter Tryz.func48, Tryz.ntmps48
  go_wp2_with fail
  go_loopw [2] (fun v wr => v = .int .i64 0 ∧ wr = w) (fun _ _ => 0)
  case atStart => exact ⟨rfl, rfl⟩
  case round =>
    obtain ⟨rfl, rfl⟩ := hrel
    go_wp2_with fail
    go_end0
    exact ⟨rfl, rfl⟩

theorem lookInt_nil (kb : Nat) (C : List Value) (w : World) (hk : Bk w kb C 52) (h1 : C[2]? = some (.slice none 0 0)) : Calls Tryz.prog 65 #[.pointer (some ⟨kb, 0, none⟩)] w fun e w' => e = .returned (.bool true) ∧ w' = w := by
  have hc1 : w.cell? ⟨kb, 2, none⟩ = some (.slice none 0 0) := by rw [hk.cell]; exact h1
  go_enter Tryz.func65, Tryz.ntmps65
  go_wp2_with fail
  go_loopw [3] (fun v wr => v = .int .i64 0 ∧ wr = w) (fun _ _ => 0)
  case atStart => exact ⟨rfl, rfl⟩
  case round =>
    obtain ⟨rfl, rfl⟩ := hrel
    go_wp2_with fail
    go_ret
    exact ⟨rfl, rfl⟩

theorem fillText_nil (kb : Nat) (C : List Value) (w : World) (hk : Bk w kb C 52) (h1 : C[3]? = some (.slice none 0 0)) : Calls Tryz.prog 32 #[.pointer (some ⟨kb, 0, none⟩)] w fun e w' => e = .returned (.tuple #[]) ∧ w' = w := by
  have hc1 : w.cell? ⟨kb, 3, none⟩ = some (.slice none 0 0) := by rw [hk.cell]; exact h1
  go_enter Tryz.func32, Tryz.ntmps32
  go_wp2_with fail
  go_loopw [2] (fun v wr => v = .int .i64 0 ∧ wr = w) (fun _ _ => 0)
  case atStart => exact ⟨rfl, rfl⟩
  case round =>
    obtain ⟨rfl, rfl⟩ := hrel
    go_wp2_with fail
    go_end0
    exact ⟨rfl, rfl⟩

theorem growText_nil (kb : Nat) (C : List Value) (w : World) (hk : Bk w kb C 52) (h1 : C[3]? = some (.slice none 0 0)) : Calls Tryz.prog 49 #[.pointer (some ⟨kb, 0, none⟩)] w fun e w' => e = .returned (.tuple #[]) ∧ w' = w := by
  have hc1 : w.cell? ⟨kb, 3, none⟩ = some (.slice none 0 0) := by rw [hk.cell]; exact h1
  go_enter Tryz.func49, Tryz.ntmps49
  go_wp2_with fail
  go_loopw [2] (fun v wr => v = .int .i64 0 ∧ wr = w) (fun _ _ => 0)
  case atStart => exact ⟨rfl, rfl⟩
  case round =>
    obtain ⟨rfl, rfl⟩ := hrel
    go_wp2_with fail
    go_end0
    exact ⟨rfl, rfl⟩

theorem lookText_nil (kb : Nat) (C : List Value) (w : World) (hk : Bk w kb C 52) (h1 : C[3]? = some (.slice none 0 0)) : Calls Tryz.prog 66 #[.pointer (some ⟨kb, 0, none⟩)] w fun e w' => e = .returned (.bool true) ∧ w' = w := by
  have hc1 : w.cell? ⟨kb, 3, none⟩ = some (.slice none 0 0) := by rw [hk.cell]; exact h1
  go_enter Tryz.func66, Tryz.ntmps66
  go_wp2_with fail
  go_loopw [3] (fun v wr => v = .int .i64 0 ∧ wr = w) (fun _ _ => 0)
  case atStart => exact ⟨rfl, rfl⟩
  case round =>
    obtain ⟨rfl, rfl⟩ := hrel
    go_wp2_with fail
    go_ret
    exact ⟨rfl, rfl⟩

theorem fillFault_nil (kb : Nat) (C : List Value) (w : World) (hk : Bk w kb C 52) (h1 : C[4]? = some (.slice none 0 0)) : Calls Tryz.prog 33 #[.pointer (some ⟨kb, 0, none⟩)] w fun e w' => e = .returned (.tuple #[]) ∧ w' = w := by
  have hc1 : w.cell? ⟨kb, 4, none⟩ = some (.slice none 0 0) := by rw [hk.cell]; exact h1
  go_enter Tryz.func33, Tryz.ntmps33
  go_wp2_with fail
  go_loopw [2] (fun v wr => v = .int .i64 0 ∧ wr = w) (fun _ _ => 0)
  case atStart => exact ⟨rfl, rfl⟩
  case round =>
    obtain ⟨rfl, rfl⟩ := hrel
    go_wp2_with fail
    go_end0
    exact ⟨rfl, rfl⟩

theorem growFault_nil (kb : Nat) (C : List Value) (w : World) (hk : Bk w kb C 52) (h1 : C[4]? = some (.slice none 0 0)) : Calls Tryz.prog 50 #[.pointer (some ⟨kb, 0, none⟩)] w fun e w' => e = .returned (.tuple #[]) ∧ w' = w := by
  have hc1 : w.cell? ⟨kb, 4, none⟩ = some (.slice none 0 0) := by rw [hk.cell]; exact h1
  go_enter Tryz.func50, Tryz.ntmps50
  go_wp2_with fail
  go_loopw [2] (fun v wr => v = .int .i64 0 ∧ wr = w) (fun _ _ => 0)
  case atStart => exact ⟨rfl, rfl⟩
  case round =>
    obtain ⟨rfl, rfl⟩ := hrel
    go_wp2_with fail
    go_end0
    exact ⟨rfl, rfl⟩

theorem lookFault_nil (kb : Nat) (C : List Value) (w : World) (hk : Bk w kb C 52) (h1 : C[4]? = some (.slice none 0 0)) : Calls Tryz.prog 67 #[.pointer (some ⟨kb, 0, none⟩)] w fun e w' => e = .returned (.bool true) ∧ w' = w := by
  have hc1 : w.cell? ⟨kb, 4, none⟩ = some (.slice none 0 0) := by rw [hk.cell]; exact h1
  go_enter Tryz.func67, Tryz.ntmps67
  go_wp2_with fail
  go_loopw [3] (fun v wr => v = .int .i64 0 ∧ wr = w) (fun _ _ => 0)
  case atStart => exact ⟨rfl, rfl⟩
  case round =>
    obtain ⟨rfl, rfl⟩ := hrel
    go_wp2_with fail
    go_ret
    exact ⟨rfl, rfl⟩

theorem fillLine_nil (kb : Nat) (C : List Value) (w : World) (hk : Bk w kb C 52) (h1 : C[5]? = some (.slice none 0 0)) : Calls Tryz.prog 34 #[.pointer (some ⟨kb, 0, none⟩)] w fun e w' => e = .returned (.tuple #[]) ∧ w' = w := by
  have hc1 : w.cell? ⟨kb, 5, none⟩ = some (.slice none 0 0) := by rw [hk.cell]; exact h1
  go_enter Tryz.func34, Tryz.ntmps34
  go_wp2_with fail
  go_loopw [2] (fun v wr => v = .int .i64 0 ∧ wr = w) (fun _ _ => 0)
  case atStart => exact ⟨rfl, rfl⟩
  case round =>
    obtain ⟨rfl, rfl⟩ := hrel
    go_wp2_with fail
    go_end0
    exact ⟨rfl, rfl⟩

theorem growLine_nil (kb : Nat) (C : List Value) (w : World) (hk : Bk w kb C 52) (h1 : C[5]? = some (.slice none 0 0)) : Calls Tryz.prog 51 #[.pointer (some ⟨kb, 0, none⟩)] w fun e w' => e = .returned (.tuple #[]) ∧ w' = w := by
  have hc1 : w.cell? ⟨kb, 5, none⟩ = some (.slice none 0 0) := by rw [hk.cell]; exact h1
  go_enter Tryz.func51, Tryz.ntmps51
  go_wp2_with fail
  go_loopw [2] (fun v wr => v = .int .i64 0 ∧ wr = w) (fun _ _ => 0)
  case atStart => exact ⟨rfl, rfl⟩
  case round =>
    obtain ⟨rfl, rfl⟩ := hrel
    go_wp2_with fail
    go_end0
    exact ⟨rfl, rfl⟩

theorem lookLine_nil (kb : Nat) (C : List Value) (w : World) (hk : Bk w kb C 52) (h1 : C[5]? = some (.slice none 0 0)) : Calls Tryz.prog 68 #[.pointer (some ⟨kb, 0, none⟩)] w fun e w' => e = .returned (.bool true) ∧ w' = w := by
  have hc1 : w.cell? ⟨kb, 5, none⟩ = some (.slice none 0 0) := by rw [hk.cell]; exact h1
  go_enter Tryz.func68, Tryz.ntmps68
  go_wp2_with fail
  go_loopw [3] (fun v wr => v = .int .i64 0 ∧ wr = w) (fun _ _ => 0)
  case atStart => exact ⟨rfl, rfl⟩
  case round =>
    obtain ⟨rfl, rfl⟩ := hrel
    go_wp2_with fail
    go_ret
    exact ⟨rfl, rfl⟩

theorem fillSource_nil (kb : Nat) (C : List Value) (w : World) (hk : Bk w kb C 52) (h1 : C[6]? = some (.slice none 0 0)) : Calls Tryz.prog 35 #[.pointer (some ⟨kb, 0, none⟩)] w fun e w' => e = .returned (.tuple #[]) ∧ w' = w := by
  have hc1 : w.cell? ⟨kb, 6, none⟩ = some (.slice none 0 0) := by rw [hk.cell]; exact h1
  go_enter Tryz.func35, Tryz.ntmps35
  go_wp2_with fail
  go_loopw [2] (fun v wr => v = .int .i64 0 ∧ wr = w) (fun _ _ => 0)
  case atStart => exact ⟨rfl, rfl⟩
  case round =>
    obtain ⟨rfl, rfl⟩ := hrel
    go_wp2_with fail
    go_end0
    exact ⟨rfl, rfl⟩

theorem growSource_nil (kb : Nat) (C : List Value) (w : World) (hk : Bk w kb C 52) (h1 : C[6]? = some (.slice none 0 0)) : Calls Tryz.prog 52 #[.pointer (some ⟨kb, 0, none⟩)] w fun e w' => e = .returned (.tuple #[]) ∧ w' = w := by
  have hc1 : w.cell? ⟨kb, 6, none⟩ = some (.slice none 0 0) := by rw [hk.cell]; exact h1
  go_enter Tryz.func52, Tryz.ntmps52
  go_wp2_with fail
  go_loopw [2] (fun v wr => v = .int .i64 0 ∧ wr = w) (fun _ _ => 0)
  case atStart => exact ⟨rfl, rfl⟩
  case round =>
    obtain ⟨rfl, rfl⟩ := hrel
    go_wp2_with fail
    go_end0
    exact ⟨rfl, rfl⟩

theorem lookSource_nil (kb : Nat) (C : List Value) (w : World) (hk : Bk w kb C 52) (h1 : C[6]? = some (.slice none 0 0)) : Calls Tryz.prog 69 #[.pointer (some ⟨kb, 0, none⟩)] w fun e w' => e = .returned (.bool true) ∧ w' = w := by
  have hc1 : w.cell? ⟨kb, 6, none⟩ = some (.slice none 0 0) := by rw [hk.cell]; exact h1
  go_enter Tryz.func69, Tryz.ntmps69
  go_wp2_with fail
  go_loopw [3] (fun v wr => v = .int .i64 0 ∧ wr = w) (fun _ _ => 0)
  case atStart => exact ⟨rfl, rfl⟩
  case round =>
    obtain ⟨rfl, rfl⟩ := hrel
    go_wp2_with fail
    go_ret
    exact ⟨rfl, rfl⟩

theorem fillAttr_nil (kb : Nat) (C : List Value) (w : World) (hk : Bk w kb C 52) (h1 : C[7]? = some (.slice none 0 0)) : Calls Tryz.prog 36 #[.pointer (some ⟨kb, 0, none⟩)] w fun e w' => e = .returned (.tuple #[]) ∧ w' = w := by
  have hc1 : w.cell? ⟨kb, 7, none⟩ = some (.slice none 0 0) := by rw [hk.cell]; exact h1
  go_enter Tryz.func36, Tryz.ntmps36
  go_wp2_with fail
  go_loopw [2] (fun v wr => v = .int .i64 0 ∧ wr = w) (fun _ _ => 0)
  case atStart => exact ⟨rfl, rfl⟩
  case round =>
    obtain ⟨rfl, rfl⟩ := hrel
    go_wp2_with fail
    go_end0
    exact ⟨rfl, rfl⟩

theorem growAttr_nil (kb : Nat) (C : List Value) (w : World) (hk : Bk w kb C 52) (h1 : C[7]? = some (.slice none 0 0)) : Calls Tryz.prog 53 #[.pointer (some ⟨kb, 0, none⟩)] w fun e w' => e = .returned (.tuple #[]) ∧ w' = w := by
  have hc1 : w.cell? ⟨kb, 7, none⟩ = some (.slice none 0 0) := by rw [hk.cell]; exact h1
  go_enter Tryz.func53, Tryz.ntmps53
  go_wp2_with fail
  go_loopw [2] (fun v wr => v = .int .i64 0 ∧ wr = w) (fun _ _ => 0)
  case atStart => exact ⟨rfl, rfl⟩
  case round =>
    obtain ⟨rfl, rfl⟩ := hrel
    go_wp2_with fail
    go_end0
    exact ⟨rfl, rfl⟩

theorem lookAttr_nil (kb : Nat) (C : List Value) (w : World) (hk : Bk w kb C 52) (h1 : C[7]? = some (.slice none 0 0)) : Calls Tryz.prog 70 #[.pointer (some ⟨kb, 0, none⟩)] w fun e w' => e = .returned (.bool true) ∧ w' = w := by
  have hc1 : w.cell? ⟨kb, 7, none⟩ = some (.slice none 0 0) := by rw [hk.cell]; exact h1
  go_enter Tryz.func70, Tryz.ntmps70
  go_wp2_with fail
  go_loopw [3] (fun v wr => v = .int .i64 0 ∧ wr = w) (fun _ _ => 0)
  case atStart => exact ⟨rfl, rfl⟩
  case round =>
    obtain ⟨rfl, rfl⟩ := hrel
    go_wp2_with fail
    go_ret
    exact ⟨rfl, rfl⟩

theorem fillDiag_nil (kb : Nat) (C : List Value) (w : World) (hk : Bk w kb C 52) (h1 : C[8]? = some (.slice none 0 0)) : Calls Tryz.prog 37 #[.pointer (some ⟨kb, 0, none⟩)] w fun e w' => e = .returned (.tuple #[]) ∧ w' = w := by
  have hc1 : w.cell? ⟨kb, 8, none⟩ = some (.slice none 0 0) := by rw [hk.cell]; exact h1
  go_enter Tryz.func37, Tryz.ntmps37
  go_wp2_with fail
  go_loopw [2] (fun v wr => v = .int .i64 0 ∧ wr = w) (fun _ _ => 0)
  case atStart => exact ⟨rfl, rfl⟩
  case round =>
    obtain ⟨rfl, rfl⟩ := hrel
    go_wp2_with fail
    go_end0
    exact ⟨rfl, rfl⟩

theorem growDiag_nil (kb : Nat) (C : List Value) (w : World) (hk : Bk w kb C 52) (h1 : C[8]? = some (.slice none 0 0)) : Calls Tryz.prog 54 #[.pointer (some ⟨kb, 0, none⟩)] w fun e w' => e = .returned (.tuple #[]) ∧ w' = w := by
  have hc1 : w.cell? ⟨kb, 8, none⟩ = some (.slice none 0 0) := by rw [hk.cell]; exact h1
  go_enter Tryz.func54, Tryz.ntmps54
  go_wp2_with fail
  go_loopw [2] (fun v wr => v = .int .i64 0 ∧ wr = w) (fun _ _ => 0)
  case atStart => exact ⟨rfl, rfl⟩
  case round =>
    obtain ⟨rfl, rfl⟩ := hrel
    go_wp2_with fail
    go_end0
    exact ⟨rfl, rfl⟩

theorem lookDiag_nil (kb : Nat) (C : List Value) (w : World) (hk : Bk w kb C 52) (h1 : C[8]? = some (.slice none 0 0)) : Calls Tryz.prog 71 #[.pointer (some ⟨kb, 0, none⟩)] w fun e w' => e = .returned (.bool true) ∧ w' = w := by
  have hc1 : w.cell? ⟨kb, 8, none⟩ = some (.slice none 0 0) := by rw [hk.cell]; exact h1
  go_enter Tryz.func71, Tryz.ntmps71
  go_wp2_with fail
  go_loopw [3] (fun v wr => v = .int .i64 0 ∧ wr = w) (fun _ _ => 0)
  case atStart => exact ⟨rfl, rfl⟩
  case round =>
    obtain ⟨rfl, rfl⟩ := hrel
    go_wp2_with fail
    go_ret
    exact ⟨rfl, rfl⟩

theorem fillSpan_nil (kb : Nat) (C : List Value) (w : World) (hk : Bk w kb C 52) (h1 : C[9]? = some (.slice none 0 0)) : Calls Tryz.prog 38 #[.pointer (some ⟨kb, 0, none⟩)] w fun e w' => e = .returned (.tuple #[]) ∧ w' = w := by
  have hc1 : w.cell? ⟨kb, 9, none⟩ = some (.slice none 0 0) := by rw [hk.cell]; exact h1
  go_enter Tryz.func38, Tryz.ntmps38
  go_wp2_with fail
  go_loopw [2] (fun v wr => v = .int .i64 0 ∧ wr = w) (fun _ _ => 0)
  case atStart => exact ⟨rfl, rfl⟩
  case round =>
    obtain ⟨rfl, rfl⟩ := hrel
    go_wp2_with fail
    go_end0
    exact ⟨rfl, rfl⟩

theorem growSpan_nil (kb : Nat) (C : List Value) (w : World) (hk : Bk w kb C 52) (h1 : C[9]? = some (.slice none 0 0)) : Calls Tryz.prog 55 #[.pointer (some ⟨kb, 0, none⟩)] w fun e w' => e = .returned (.tuple #[]) ∧ w' = w := by
  have hc1 : w.cell? ⟨kb, 9, none⟩ = some (.slice none 0 0) := by rw [hk.cell]; exact h1
  go_enter Tryz.func55, Tryz.ntmps55
  go_wp2_with fail
  go_loopw [2] (fun v wr => v = .int .i64 0 ∧ wr = w) (fun _ _ => 0)
  case atStart => exact ⟨rfl, rfl⟩
  case round =>
    obtain ⟨rfl, rfl⟩ := hrel
    go_wp2_with fail
    go_end0
    exact ⟨rfl, rfl⟩

theorem lookSpan_nil (kb : Nat) (C : List Value) (w : World) (hk : Bk w kb C 52) (h1 : C[9]? = some (.slice none 0 0)) : Calls Tryz.prog 72 #[.pointer (some ⟨kb, 0, none⟩)] w fun e w' => e = .returned (.bool true) ∧ w' = w := by
  have hc1 : w.cell? ⟨kb, 9, none⟩ = some (.slice none 0 0) := by rw [hk.cell]; exact h1
  go_enter Tryz.func72, Tryz.ntmps72
  go_wp2_with fail
  go_loopw [3] (fun v wr => v = .int .i64 0 ∧ wr = w) (fun _ _ => 0)
  case atStart => exact ⟨rfl, rfl⟩
  case round =>
    obtain ⟨rfl, rfl⟩ := hrel
    go_wp2_with fail
    go_ret
    exact ⟨rfl, rfl⟩

theorem fillCell_nil (kb : Nat) (C : List Value) (w : World) (hk : Bk w kb C 52) (h1 : C[10]? = some (.slice none 0 0)) : Calls Tryz.prog 39 #[.pointer (some ⟨kb, 0, none⟩)] w fun e w' => e = .returned (.tuple #[]) ∧ w' = w := by
  have hc1 : w.cell? ⟨kb, 10, none⟩ = some (.slice none 0 0) := by rw [hk.cell]; exact h1
  go_enter Tryz.func39, Tryz.ntmps39
  go_wp2_with fail
  go_loopw [2] (fun v wr => v = .int .i64 0 ∧ wr = w) (fun _ _ => 0)
  case atStart => exact ⟨rfl, rfl⟩
  case round =>
    obtain ⟨rfl, rfl⟩ := hrel
    go_wp2_with fail
    go_end0
    exact ⟨rfl, rfl⟩

theorem growCell_nil (kb : Nat) (C : List Value) (w : World) (hk : Bk w kb C 52) (h1 : C[10]? = some (.slice none 0 0)) : Calls Tryz.prog 56 #[.pointer (some ⟨kb, 0, none⟩)] w fun e w' => e = .returned (.tuple #[]) ∧ w' = w := by
  have hc1 : w.cell? ⟨kb, 10, none⟩ = some (.slice none 0 0) := by rw [hk.cell]; exact h1
  go_enter Tryz.func56, Tryz.ntmps56
  go_wp2_with fail
  go_loopw [2] (fun v wr => v = .int .i64 0 ∧ wr = w) (fun _ _ => 0)
  case atStart => exact ⟨rfl, rfl⟩
  case round =>
    obtain ⟨rfl, rfl⟩ := hrel
    go_wp2_with fail
    go_end0
    exact ⟨rfl, rfl⟩

theorem lookCell_nil (kb : Nat) (C : List Value) (w : World) (hk : Bk w kb C 52) (h1 : C[10]? = some (.slice none 0 0)) : Calls Tryz.prog 73 #[.pointer (some ⟨kb, 0, none⟩)] w fun e w' => e = .returned (.bool true) ∧ w' = w := by
  have hc1 : w.cell? ⟨kb, 10, none⟩ = some (.slice none 0 0) := by rw [hk.cell]; exact h1
  go_enter Tryz.func73, Tryz.ntmps73
  go_wp2_with fail
  go_loopw [3] (fun v wr => v = .int .i64 0 ∧ wr = w) (fun _ _ => 0)
  case atStart => exact ⟨rfl, rfl⟩
  case round =>
    obtain ⟨rfl, rfl⟩ := hrel
    go_wp2_with fail
    go_ret
    exact ⟨rfl, rfl⟩

theorem fillRow_nil (kb : Nat) (C : List Value) (w : World) (hk : Bk w kb C 52) (h1 : C[11]? = some (.slice none 0 0)) : Calls Tryz.prog 40 #[.pointer (some ⟨kb, 0, none⟩)] w fun e w' => e = .returned (.tuple #[]) ∧ w' = w := by
  have hc1 : w.cell? ⟨kb, 11, none⟩ = some (.slice none 0 0) := by rw [hk.cell]; exact h1
  go_enter Tryz.func40, Tryz.ntmps40
  go_wp2_with fail
  go_loopw [2] (fun v wr => v = .int .i64 0 ∧ wr = w) (fun _ _ => 0)
  case atStart => exact ⟨rfl, rfl⟩
  case round =>
    obtain ⟨rfl, rfl⟩ := hrel
    go_wp2_with fail
    go_end0
    exact ⟨rfl, rfl⟩

theorem growRow_nil (kb : Nat) (C : List Value) (w : World) (hk : Bk w kb C 52) (h1 : C[11]? = some (.slice none 0 0)) : Calls Tryz.prog 57 #[.pointer (some ⟨kb, 0, none⟩)] w fun e w' => e = .returned (.tuple #[]) ∧ w' = w := by
  have hc1 : w.cell? ⟨kb, 11, none⟩ = some (.slice none 0 0) := by rw [hk.cell]; exact h1
  go_enter Tryz.func57, Tryz.ntmps57
  go_wp2_with fail
  go_loopw [2] (fun v wr => v = .int .i64 0 ∧ wr = w) (fun _ _ => 0)
  case atStart => exact ⟨rfl, rfl⟩
  case round =>
    obtain ⟨rfl, rfl⟩ := hrel
    go_wp2_with fail
    go_end0
    exact ⟨rfl, rfl⟩

theorem lookRow_nil (kb : Nat) (C : List Value) (w : World) (hk : Bk w kb C 52) (h1 : C[11]? = some (.slice none 0 0)) : Calls Tryz.prog 74 #[.pointer (some ⟨kb, 0, none⟩)] w fun e w' => e = .returned (.bool true) ∧ w' = w := by
  have hc1 : w.cell? ⟨kb, 11, none⟩ = some (.slice none 0 0) := by rw [hk.cell]; exact h1
  go_enter Tryz.func74, Tryz.ntmps74
  go_wp2_with fail
  go_loopw [3] (fun v wr => v = .int .i64 0 ∧ wr = w) (fun _ _ => 0)
  case atStart => exact ⟨rfl, rfl⟩
  case round =>
    obtain ⟨rfl, rfl⟩ := hrel
    go_wp2_with fail
    go_ret
    exact ⟨rfl, rfl⟩

theorem fillBlock_nil (kb : Nat) (C : List Value) (w : World) (hk : Bk w kb C 52) (h1 : C[12]? = some (.slice none 0 0)) : Calls Tryz.prog 41 #[.pointer (some ⟨kb, 0, none⟩)] w fun e w' => e = .returned (.tuple #[]) ∧ w' = w := by
  have hc1 : w.cell? ⟨kb, 12, none⟩ = some (.slice none 0 0) := by rw [hk.cell]; exact h1
  go_enter Tryz.func41, Tryz.ntmps41
  go_wp2_with fail
  go_loopw [2] (fun v wr => v = .int .i64 0 ∧ wr = w) (fun _ _ => 0)
  case atStart => exact ⟨rfl, rfl⟩
  case round =>
    obtain ⟨rfl, rfl⟩ := hrel
    go_wp2_with fail
    go_end0
    exact ⟨rfl, rfl⟩

theorem growBlock_nil (kb : Nat) (C : List Value) (w : World) (hk : Bk w kb C 52) (h1 : C[12]? = some (.slice none 0 0)) : Calls Tryz.prog 58 #[.pointer (some ⟨kb, 0, none⟩)] w fun e w' => e = .returned (.tuple #[]) ∧ w' = w := by
  have hc1 : w.cell? ⟨kb, 12, none⟩ = some (.slice none 0 0) := by rw [hk.cell]; exact h1
  go_enter Tryz.func58, Tryz.ntmps58
  go_wp2_with fail
  go_loopw [2] (fun v wr => v = .int .i64 0 ∧ wr = w) (fun _ _ => 0)
  case atStart => exact ⟨rfl, rfl⟩
  case round =>
    obtain ⟨rfl, rfl⟩ := hrel
    go_wp2_with fail
    go_end0
    exact ⟨rfl, rfl⟩

theorem lookBlock_nil (kb : Nat) (C : List Value) (w : World) (hk : Bk w kb C 52) (h1 : C[12]? = some (.slice none 0 0)) : Calls Tryz.prog 75 #[.pointer (some ⟨kb, 0, none⟩)] w fun e w' => e = .returned (.bool true) ∧ w' = w := by
  have hc1 : w.cell? ⟨kb, 12, none⟩ = some (.slice none 0 0) := by rw [hk.cell]; exact h1
  go_enter Tryz.func75, Tryz.ntmps75
  go_wp2_with fail
  go_loopw [3] (fun v wr => v = .int .i64 0 ∧ wr = w) (fun _ _ => 0)
  case atStart => exact ⟨rfl, rfl⟩
  case round =>
    obtain ⟨rfl, rfl⟩ := hrel
    go_wp2_with fail
    go_ret
    exact ⟨rfl, rfl⟩

theorem fillChapter_nil (kb : Nat) (C : List Value) (w : World) (hk : Bk w kb C 52) (h1 : C[13]? = some (.slice none 0 0)) : Calls Tryz.prog 42 #[.pointer (some ⟨kb, 0, none⟩)] w fun e w' => e = .returned (.tuple #[]) ∧ w' = w := by
  have hc1 : w.cell? ⟨kb, 13, none⟩ = some (.slice none 0 0) := by rw [hk.cell]; exact h1
  go_enter Tryz.func42, Tryz.ntmps42
  go_wp2_with fail
  go_loopw [2] (fun v wr => v = .int .i64 0 ∧ wr = w) (fun _ _ => 0)
  case atStart => exact ⟨rfl, rfl⟩
  case round =>
    obtain ⟨rfl, rfl⟩ := hrel
    go_wp2_with fail
    go_end0
    exact ⟨rfl, rfl⟩

theorem growChapter_nil (kb : Nat) (C : List Value) (w : World) (hk : Bk w kb C 52) (h1 : C[13]? = some (.slice none 0 0)) : Calls Tryz.prog 59 #[.pointer (some ⟨kb, 0, none⟩)] w fun e w' => e = .returned (.tuple #[]) ∧ w' = w := by
  have hc1 : w.cell? ⟨kb, 13, none⟩ = some (.slice none 0 0) := by rw [hk.cell]; exact h1
  go_enter Tryz.func59, Tryz.ntmps59
  go_wp2_with fail
  go_loopw [2] (fun v wr => v = .int .i64 0 ∧ wr = w) (fun _ _ => 0)
  case atStart => exact ⟨rfl, rfl⟩
  case round =>
    obtain ⟨rfl, rfl⟩ := hrel
    go_wp2_with fail
    go_end0
    exact ⟨rfl, rfl⟩

theorem lookChapter_nil (kb : Nat) (C : List Value) (w : World) (hk : Bk w kb C 52) (h1 : C[13]? = some (.slice none 0 0)) : Calls Tryz.prog 76 #[.pointer (some ⟨kb, 0, none⟩)] w fun e w' => e = .returned (.bool true) ∧ w' = w := by
  have hc1 : w.cell? ⟨kb, 13, none⟩ = some (.slice none 0 0) := by rw [hk.cell]; exact h1
  go_enter Tryz.func76, Tryz.ntmps76
  go_wp2_with fail
  go_loopw [3] (fun v wr => v = .int .i64 0 ∧ wr = w) (fun _ _ => 0)
  case atStart => exact ⟨rfl, rfl⟩
  case round =>
    obtain ⟨rfl, rfl⟩ := hrel
    go_wp2_with fail
    go_ret
    exact ⟨rfl, rfl⟩

theorem fillPlace_nil (kb : Nat) (C : List Value) (w : World) (hk : Bk w kb C 52) (h1 : C[14]? = some (.slice none 0 0)) : Calls Tryz.prog 43 #[.pointer (some ⟨kb, 0, none⟩)] w fun e w' => e = .returned (.tuple #[]) ∧ w' = w := by
  have hc1 : w.cell? ⟨kb, 14, none⟩ = some (.slice none 0 0) := by rw [hk.cell]; exact h1
  go_enter Tryz.func43, Tryz.ntmps43
  go_wp2_with fail
  go_loopw [2] (fun v wr => v = .int .i64 0 ∧ wr = w) (fun _ _ => 0)
  case atStart => exact ⟨rfl, rfl⟩
  case round =>
    obtain ⟨rfl, rfl⟩ := hrel
    go_wp2_with fail
    go_end0
    exact ⟨rfl, rfl⟩

theorem growPlace_nil (kb : Nat) (C : List Value) (w : World) (hk : Bk w kb C 52) (h1 : C[14]? = some (.slice none 0 0)) : Calls Tryz.prog 60 #[.pointer (some ⟨kb, 0, none⟩)] w fun e w' => e = .returned (.tuple #[]) ∧ w' = w := by
  have hc1 : w.cell? ⟨kb, 14, none⟩ = some (.slice none 0 0) := by rw [hk.cell]; exact h1
  go_enter Tryz.func60, Tryz.ntmps60
  go_wp2_with fail
  go_loopw [2] (fun v wr => v = .int .i64 0 ∧ wr = w) (fun _ _ => 0)
  case atStart => exact ⟨rfl, rfl⟩
  case round =>
    obtain ⟨rfl, rfl⟩ := hrel
    go_wp2_with fail
    go_end0
    exact ⟨rfl, rfl⟩

theorem lookPlace_nil (kb : Nat) (C : List Value) (w : World) (hk : Bk w kb C 52) (h1 : C[14]? = some (.slice none 0 0)) : Calls Tryz.prog 77 #[.pointer (some ⟨kb, 0, none⟩)] w fun e w' => e = .returned (.bool true) ∧ w' = w := by
  have hc1 : w.cell? ⟨kb, 14, none⟩ = some (.slice none 0 0) := by rw [hk.cell]; exact h1
  go_enter Tryz.func77, Tryz.ntmps77
  go_wp2_with fail
  go_loopw [3] (fun v wr => v = .int .i64 0 ∧ wr = w) (fun _ _ => 0)
  case atStart => exact ⟨rfl, rfl⟩
  case round =>
    obtain ⟨rfl, rfl⟩ := hrel
    go_wp2_with fail
    go_ret
    exact ⟨rfl, rfl⟩

theorem fillLocator_nil (kb : Nat) (C : List Value) (w : World) (hk : Bk w kb C 52) (h1 : C[15]? = some (.slice none 0 0)) : Calls Tryz.prog 44 #[.pointer (some ⟨kb, 0, none⟩)] w fun e w' => e = .returned (.tuple #[]) ∧ w' = w := by
  have hc1 : w.cell? ⟨kb, 15, none⟩ = some (.slice none 0 0) := by rw [hk.cell]; exact h1
  go_enter Tryz.func44, Tryz.ntmps44
  go_wp2_with fail
  go_loopw [2] (fun v wr => v = .int .i64 0 ∧ wr = w) (fun _ _ => 0)
  case atStart => exact ⟨rfl, rfl⟩
  case round =>
    obtain ⟨rfl, rfl⟩ := hrel
    go_wp2_with fail
    go_end0
    exact ⟨rfl, rfl⟩

theorem growLocator_nil (kb : Nat) (C : List Value) (w : World) (hk : Bk w kb C 52) (h1 : C[15]? = some (.slice none 0 0)) : Calls Tryz.prog 61 #[.pointer (some ⟨kb, 0, none⟩)] w fun e w' => e = .returned (.tuple #[]) ∧ w' = w := by
  have hc1 : w.cell? ⟨kb, 15, none⟩ = some (.slice none 0 0) := by rw [hk.cell]; exact h1
  go_enter Tryz.func61, Tryz.ntmps61
  go_wp2_with fail
  go_loopw [2] (fun v wr => v = .int .i64 0 ∧ wr = w) (fun _ _ => 0)
  case atStart => exact ⟨rfl, rfl⟩
  case round =>
    obtain ⟨rfl, rfl⟩ := hrel
    go_wp2_with fail
    go_end0
    exact ⟨rfl, rfl⟩

theorem lookLocator_nil (kb : Nat) (C : List Value) (w : World) (hk : Bk w kb C 52) (h1 : C[15]? = some (.slice none 0 0)) : Calls Tryz.prog 78 #[.pointer (some ⟨kb, 0, none⟩)] w fun e w' => e = .returned (.bool true) ∧ w' = w := by
  have hc1 : w.cell? ⟨kb, 15, none⟩ = some (.slice none 0 0) := by rw [hk.cell]; exact h1
  go_enter Tryz.func78, Tryz.ntmps78
  go_wp2_with fail
  go_loopw [3] (fun v wr => v = .int .i64 0 ∧ wr = w) (fun _ _ => 0)
  case atStart => exact ⟨rfl, rfl⟩
  case round =>
    obtain ⟨rfl, rfl⟩ := hrel
    go_wp2_with fail
    go_ret
    exact ⟨rfl, rfl⟩

theorem fillEntry_nil (kb : Nat) (C : List Value) (w : World) (hk : Bk w kb C 52) (h1 : C[16]? = some (.slice none 0 0)) : Calls Tryz.prog 45 #[.pointer (some ⟨kb, 0, none⟩)] w fun e w' => e = .returned (.tuple #[]) ∧ w' = w := by
  have hc1 : w.cell? ⟨kb, 16, none⟩ = some (.slice none 0 0) := by rw [hk.cell]; exact h1
  go_enter Tryz.func45, Tryz.ntmps45
  go_wp2_with fail
  go_loopw [2] (fun v wr => v = .int .i64 0 ∧ wr = w) (fun _ _ => 0)
  case atStart => exact ⟨rfl, rfl⟩
  case round =>
    obtain ⟨rfl, rfl⟩ := hrel
    go_wp2_with fail
    go_end0
    exact ⟨rfl, rfl⟩

theorem growEntry_nil (kb : Nat) (C : List Value) (w : World) (hk : Bk w kb C 52) (h1 : C[16]? = some (.slice none 0 0)) : Calls Tryz.prog 62 #[.pointer (some ⟨kb, 0, none⟩)] w fun e w' => e = .returned (.tuple #[]) ∧ w' = w := by
  have hc1 : w.cell? ⟨kb, 16, none⟩ = some (.slice none 0 0) := by rw [hk.cell]; exact h1
  go_enter Tryz.func62, Tryz.ntmps62
  go_wp2_with fail
  go_loopw [2] (fun v wr => v = .int .i64 0 ∧ wr = w) (fun _ _ => 0)
  case atStart => exact ⟨rfl, rfl⟩
  case round =>
    obtain ⟨rfl, rfl⟩ := hrel
    go_wp2_with fail
    go_end0
    exact ⟨rfl, rfl⟩

theorem lookEntry_nil (kb : Nat) (C : List Value) (w : World) (hk : Bk w kb C 52) (h1 : C[16]? = some (.slice none 0 0)) : Calls Tryz.prog 79 #[.pointer (some ⟨kb, 0, none⟩)] w fun e w' => e = .returned (.bool true) ∧ w' = w := by
  have hc1 : w.cell? ⟨kb, 16, none⟩ = some (.slice none 0 0) := by rw [hk.cell]; exact h1
  go_enter Tryz.func79, Tryz.ntmps79
  go_wp2_with fail
  go_loopw [3] (fun v wr => v = .int .i64 0 ∧ wr = w) (fun _ _ => 0)
  case atStart => exact ⟨rfl, rfl⟩
  case round =>
    obtain ⟨rfl, rfl⟩ := hrel
    go_wp2_with fail
    go_ret
    exact ⟨rfl, rfl⟩

theorem fillFile_nil (kb : Nat) (C : List Value) (w : World) (hk : Bk w kb C 52) (h1 : C[17]? = some (.slice none 0 0)) : Calls Tryz.prog 46 #[.pointer (some ⟨kb, 0, none⟩)] w fun e w' => e = .returned (.tuple #[]) ∧ w' = w := by
  have hc1 : w.cell? ⟨kb, 17, none⟩ = some (.slice none 0 0) := by rw [hk.cell]; exact h1
  go_enter Tryz.func46, Tryz.ntmps46
  go_wp2_with fail
  go_loopw [2] (fun v wr => v = .int .i64 0 ∧ wr = w) (fun _ _ => 0)
  case atStart => exact ⟨rfl, rfl⟩
  case round =>
    obtain ⟨rfl, rfl⟩ := hrel
    go_wp2_with fail
    go_end0
    exact ⟨rfl, rfl⟩

theorem growFile_nil (kb : Nat) (C : List Value) (w : World) (hk : Bk w kb C 52) (h1 : C[17]? = some (.slice none 0 0)) : Calls Tryz.prog 63 #[.pointer (some ⟨kb, 0, none⟩)] w fun e w' => e = .returned (.tuple #[]) ∧ w' = w := by
  have hc1 : w.cell? ⟨kb, 17, none⟩ = some (.slice none 0 0) := by rw [hk.cell]; exact h1
  go_enter Tryz.func63, Tryz.ntmps63
  go_wp2_with fail
  go_loopw [2] (fun v wr => v = .int .i64 0 ∧ wr = w) (fun _ _ => 0)
  case atStart => exact ⟨rfl, rfl⟩
  case round =>
    obtain ⟨rfl, rfl⟩ := hrel
    go_wp2_with fail
    go_end0
    exact ⟨rfl, rfl⟩

theorem lookFile_nil (kb : Nat) (C : List Value) (w : World) (hk : Bk w kb C 52) (h1 : C[17]? = some (.slice none 0 0)) : Calls Tryz.prog 80 #[.pointer (some ⟨kb, 0, none⟩)] w fun e w' => e = .returned (.bool true) ∧ w' = w := by
  have hc1 : w.cell? ⟨kb, 17, none⟩ = some (.slice none 0 0) := by rw [hk.cell]; exact h1
  go_enter Tryz.func80, Tryz.ntmps80
  go_wp2_with fail
  go_loopw [3] (fun v wr => v = .int .i64 0 ∧ wr = w) (fun _ _ => 0)
  case atStart => exact ⟨rfl, rfl⟩
  case round =>
    obtain ⟨rfl, rfl⟩ := hrel
    go_wp2_with fail
    go_ret
    exact ⟨rfl, rfl⟩
end Go.Proofs.YtohinfefidahlaaGreatDoor
