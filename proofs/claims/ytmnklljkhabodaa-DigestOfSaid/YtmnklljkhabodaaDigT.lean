/- The digest's text and back: what the program's and the reference's functions return. -/
import Derived.Test.YtmnklljkhabodaaDig
import Derived.Laws.CopyOwn
namespace Go.Proofs.Ytmnklljkhabodaa
open Go.RowKit

/-! ### plain -/
def hexDig (n : Nat) : UInt8 := if n < 10 then UInt8.ofNat (48 + n) else UInt8.ofNat (87 + n)
def lowHex : Nat → Nat → List UInt8
  | 0, _ => []
  | i + 1, d => hexDig (d / 16 ^ i % 16) :: lowHex i d
theorem lowHex_len (i d : Nat) : (lowHex i d).length = i := by
  induction i with
  | zero => rfl
  | succ i ih => simp [lowHex, ih]
def byteVal (c : UInt8) : Value := .int .u8 c.toNat
def hexCells : Array Value := #[.int .u8 48, .int .u8 49, .int .u8 50, .int .u8 51, .int .u8 52, .int .u8 53, .int .u8 54, .int .u8 55, .int .u8 56, .int .u8 57, .int .u8 97, .int .u8 98, .int .u8 99, .int .u8 100, .int .u8 101, .int .u8 102]
theorem hexCells_at : ∀ n, n < 16 → hexCells[n]? = some (byteVal (hexDig n)) := by
  intro n hn
  match n, hn with
  | 0, _ => rfl
  | 1, _ => rfl
  | 2, _ => rfl
  | 3, _ => rfl
  | 4, _ => rfl
  | 5, _ => rfl
  | 6, _ => rfl
  | 7, _ => rfl
  | 8, _ => rfl
  | 9, _ => rfl
  | 10, _ => rfl
  | 11, _ => rfl
  | 12, _ => rfl
  | 13, _ => rfl
  | 14, _ => rfl
  | 15, _ => rfl
  | n + 16, h => omega

theorem hexCells_one : (hexCells.all fun x => x.oneCell') = true := by simp [hexCells, Value.oneCell']

def outC (i d : Nat) : Array Value := (List.replicate (16 - i) (Value.int .u8 0) ++ (lowHex i d).map byteVal).toArray
theorem outC_at (i d : Nat) (h : i < 16) : (outC i d)[15 - i]? = some (.int .u8 0) := by
  unfold outC
  rw [List.getElem?_toArray, List.getElem?_append_left (by simp; omega), List.getElem?_replicate, if_pos (by omega)]
theorem outC_set (i d : Nat) (h : i < 16) : (outC i d).setIfInBounds (15 - i) (byteVal (hexDig (d / 16 ^ i % 16))) = outC (i + 1) d := by
  unfold outC
  rw [show 16 - i = (15 - i) + 1 by omega, show 16 - (i + 1) = 15 - i by omega, List.replicate_succ', lowHex]
  simp

/-! ### digits -/
theorem run_copy_hex (w : World) :
    (Builtin.copy_ #[35, 9] 3 #[.slice (some ⟨w.heap.size + 1, 0, none⟩) 16 16, .string { data := #[48, 49, 50, 51, 52, 53, 54, 55, 56, 57, 97, 98, 99, 100, 101, 102] }]).run Try.prog
      ((w.alloc (.cells #[.int .u8 0, .int .u8 0, .int .u8 0, .int .u8 0, .int .u8 0, .int .u8 0, .int .u8 0, .int .u8 0, .int .u8 0, .int .u8 0, .int .u8 0, .int .u8 0, .int .u8 0, .int .u8 0, .int .u8 0, .int .u8 0] 39)).alloc (.cells #[.int .u8 0, .int .u8 0, .int .u8 0, .int .u8 0, .int .u8 0, .int .u8 0, .int .u8 0, .int .u8 0, .int .u8 0, .int .u8 0, .int .u8 0, .int .u8 0, .int .u8 0, .int .u8 0, .int .u8 0, .int .u8 0] 39)) =
    .ok (.int .i64 16) ((w.alloc (.cells #[.int .u8 0, .int .u8 0, .int .u8 0, .int .u8 0, .int .u8 0, .int .u8 0, .int .u8 0, .int .u8 0, .int .u8 0, .int .u8 0, .int .u8 0, .int .u8 0, .int .u8 0, .int .u8 0, .int .u8 0, .int .u8 0] 39)).alloc (.cells hexCells 39)) := by
  generalize hW : (w.alloc (.cells #[.int .u8 0, .int .u8 0, .int .u8 0, .int .u8 0, .int .u8 0, .int .u8 0, .int .u8 0, .int .u8 0, .int .u8 0, .int .u8 0, .int .u8 0, .int .u8 0, .int .u8 0, .int .u8 0, .int .u8 0, .int .u8 0] 39)) = W
  have hz : w.heap.size + 1 = W.heap.size := by rw [← hW]; simp
  rw [hz]
  rw [run_copy_str (W.alloc _) 35 9 3 5 W.heap.size 0 16 16 _ _ 39 hexCells.toList Try.underlying35 (by kernel_rfl) (heap_alloc_new W _) (by decide) (by simp [hexCells]) (by decide)]
  rw [setRow_alloc]
  rfl

set_option maxHeartbeats 400000 in
theorem digits_any (w : World) :
    Calls Try.prog 19 #[] w fun e w' => e = .returned (.agg hexCells) ∧ Below w.heap.size w w' := by
  have hcp := run_copy_hex w
  go_enter Try.func19, Try.ntmps19
  go_wp2_with (first | (refine wpList_load_row rfl 39 (.tmp 1) rfl (w.heap.size + 1) rfl 39 hexCells (0,0) (.array 16 5) (heap_alloc2_new w _ _) Try.underlying39 rfl (by kernel_rfl) ?_) | (refine wpList_store_row rfl 39 (.tmp 0) (.tmp 4) rfl w.heap.size hexCells rfl rfl 39 _ (heap_alloc2_old w _ _) (by kernel_rfl) rfl ?_ ?_))
  · exact hexCells_one
  · exact bodyPost_ret (v := .agg hexCells) (results_cell_row rfl _ _ w.heap.size 39 hexCells (0,0) (.array 16 5) rfl (setRow_heap _ _ _ _ _ _ (heap_alloc2_old w _ _)) Try.underlying39 rfl (by kernel_rfl)) rfl ⟨rfl, below_setRow (((Below.refl _ _).alloc (Nat.le_refl _) _).alloc (by simp) _) (Nat.le_refl _) _⟩

set_option maxHeartbeats 400000 in
theorem text_any (d : Nat) (w : World) (hd : d < 18446744073709551616) :
    Calls Try.prog 16 #[.int .u64 d] w fun e w' => e = .returned (.string ⟨(lowHex 16 d).toArray⟩) ∧ Below w.heap.size w w' := by
  go_enter Try.func16, Try.ntmps16
  go_wp2_with fail
  refine (digits_any _).mono ?_
  rintro e w1 ⟨rfl, hb⟩
  go_wp2_with (first | (refine wpList_store_row rfl 39 (.tmp 3) (.tmp 6) rfl w1.heap.size hexCells rfl rfl 39 _ (heap_alloc_new w1 _) (by kernel_rfl) rfl hexCells_one ?_; rw [setRow_alloc]))
  have hz0 : w1.alloc (.cells hexCells 39) = w1.alloc (.cells hexCells 39) := rfl
  go_loopw [0, 5, 7] (fun v0 _ v7 wr => ∃ i x : Nat, i ≤ 16 ∧ v7 = .int .i64 i ∧ v0 = .int .u64 x ∧ x < 18446744073709551616 ∧ Hid (x = d / 16 ^ i) ∧ wr = (w1.alloc (.cells hexCells 39)).alloc (.cells (outC i d) 39)) (fun _ _ v7 _ => 16 - (intOf v7).toNat)
  case atStart => exact ⟨0, d, by omega, rfl, rfl, hd, by simp [Hid], rfl⟩
  case round =>
    obtain ⟨i, x, hi, rfl, rfl, hx, HX, rfl⟩ := hrel
    by_cases hlt : i < 16
    · have hb1 : bits BinOp.and .u64 (x : Int) 15 = (x : Int) % 16 := by
        have := u64_and_nat x 15 hx (by omega)
        rw [show ((15 : Nat) : Int) = 15 from rfl] at this
        rw [this, show (15 : Nat) = 2 ^ 4 - 1 from rfl, Nat.and_two_pow_sub_one_eq_mod]; omega
      have hc1 : hexCells[x % 16]? = some (byteVal (hexDig (x % 16))) := hexCells_at _ (by omega)
      unfold byteVal at hc1
      have hc2 : (outC i d)[15 - i]? = some (.int .u8 0) := outC_at i d hlt
      have H4 := Lib.hid (outC_set i d hlt)
      go_wp2
      go_roundw
      case rel =>
        have h5 : x / 16 = d / 16 ^ (i + 1) := by rw [HX.out, Nat.pow_succ, Nat.div_div_eq_div_mul]
        refine ⟨i + 1, x / 16, by omega, by go_num, by rfl, by omega, h5, ?_⟩
        rw [← H4.out, ← HX.out]; rfl
      case measure => simp [intOf]; omega
    · have hi16 : i = 16 := by omega
      subst hi16
      have hcv : (convert 35 9 (.slice (some ⟨w1.heap.size + 1, 0, none⟩) 16 16)).run Try.prog ((w1.alloc (.cells hexCells 39)).alloc (.cells (outC 16 d) 39)) = .ok (.string ⟨(lowHex 16 d).toArray⟩) ((w1.alloc (.cells hexCells 39)).alloc (.cells (outC 16 d) 39)) := by
        refine run_bytes_str _ _ _ 5 Try.underlying35 Try.underlying5 Try.underlying9 _ 0 16 16 (lowHex 16 d) (lowHex_len _ _) ?_
        intro i hi
        rw [World.cell?, heap_alloc2_new]
        have : i < (lowHex 16 d).length := by rw [lowHex_len]; exact hi
        simp [outC, List.getD, List.getElem?_eq_getElem this, byteVal]
      go_wp2
      go_ret
      exact ⟨rfl, (hb.alloc (by have := hb.size; omega) _).alloc (by have := hb.size; simp; omega) _⟩
end Go.Proofs.Ytmnklljkhabodaa
