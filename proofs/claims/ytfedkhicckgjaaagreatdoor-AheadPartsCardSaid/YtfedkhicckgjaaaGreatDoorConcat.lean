/- slices.Grow and slices.Concat. -/
import Derived.Test.YtfedkhicckgjaaaGreatDoorCat
import Derived.Test.YtfedkhicckgjaaaGreatDoorTwinA
namespace Go.Proofs.YtfedkhicckgjaaaGreatDoor
open Go.RowKit
set_option maxRecDepth 100000

/-- a slice within a slice -/
structure Sl (α : Type) where
  a : Option Addr
  c : Nat
  l : List α
def encSl {α : Type} (x : Sl α) : List Value := [.slice x.a x.l.length x.c]
def sumL {α : Type} (Ls : List (Sl α)) : Nat := (Ls.map fun x => x.l.length).sum
theorem sumL_take_succ {α : Type} (l : List (Sl α)) (k : Nat) (h : k < l.length) : sumL (l.take (k + 1)) = sumL (l.take k) + l[k].l.length := by
  unfold sumL; rw [List.take_succ_eq_append_getElem h, List.map_append, List.sum_append]; simp
theorem sumL_take_le {α : Type} (l : List (Sl α)) (k : Nat) : sumL (l.take k) ≤ sumL l := by
  unfold sumL
  conv => rhs; rw [← List.take_append_drop k l]
  rw [List.map_append, List.sum_append]; omega
theorem flat_sum {α : Type} (l : List (Sl α)) : (l.flatMap (·.l)).length = sumL l := by
  unfold sumL; rw [List.length_flatMap]
theorem At.sl {α : Type} {w : World} {a : Option Addr} {l : List (Sl α)} (h : At w 1 encSl a l) {i : Nat} (hi : i < l.length) :
    ∃ b off, a = some ⟨b, off, none⟩ ∧ b < w.heap.size ∧ w.cell? ⟨b, off + i, none⟩ = some (.slice l[i].a l[i].l.length l[i].c) := by
  obtain ⟨b, off, ha, hlt, hc⟩ := h.elem hi
  refine ⟨b, off, ha, hlt, ?_⟩
  have := hc 0 _ rfl
  rwa [Nat.mul_one, Nat.add_zero] at this

set_option maxHeartbeats 2000000 in
theorem growAttrs_any (n : Nat) (w : World) (h1 : 1 ≤ n) (hn : n ≤ 16777216) :
    Calls Tryz.prog 230 #[.slice none 0 0, .int .i64 n] w fun e w' => (∃ v, e = .returned v ∧ Own w' w.heap.size 78 2 encT v []) ∧ Below w.heap.size w w' := by
  obtain ⟨hu, z, hi, hz, hsz⟩ := slattrs
  obtain ⟨i, hi1, hi2, hi3, hi4⟩ := info_parts hi
  have hr := Lib.run_append_nil_zeros w 55 3 55 78 i z .i64 .i64 hu Tryz.underlying3 hi1 hi2 n h1 (by rw [hi3]; exact hsz) (by omega) (by rw [hi4]; omega)
  have hw0 : wrap64 ((0 : Int) - 0) = 0 := by unfold wrap64; omega
  have hw : wrap64 ((n : Int) - 0) = n := by unfold wrap64; omega
  have HO : Hid (Own (w.drew.alloc (.cells (Builtin.zeroCells z.cells n ++ Builtin.zeroCells z.cells (grownCap w n 0 78 - n)) 78)) w.heap.size 78 2 encT (.slice (some ⟨w.heap.size, 0, none⟩) 0 (grownCap w n 0 78)) ([] : List Two)) :=
    Own.zeros w.drew 78 2 encT _ _ (grownCap_le_maxLen w n 0 _ (by unfold maxLen; omega)) (by
      have h := grownCap_ge w n 0 78
      rw [Array.size_append, size_zeroCells, size_zeroCells, hz, ← Nat.add_mul]; congr 1; omega) w.heap.size (Nat.le_refl _)
  have hg0 : 0 ≤ grownCap w n 0 78 := Nat.zero_le _
  generalize hC : grownCap w n 0 78 = C at *
  generalize hW : w.drew.alloc (.cells (Builtin.zeroCells z.cells n ++ Builtin.zeroCells z.cells (C - n)) 78) = W2 at *
  have HB : Hid (Below w.heap.size w W2) := by
    rw [← hW]
    have h0 : Below w.heap.size w w.drew := ⟨rfl, rfl, rfl, Nat.le_refl _, fun _ _ => rfl⟩
    exact Lib.hid (h0.alloc (Nat.le_refl _) _)
  have HR := Lib.hid hr
  clear hr hC hW hi hi1 hi2 hi3 hi4 hz hsz
  go_enter Tryz.func230, Tryz.ntmps230
  go_wp2_with (at_builtin; refine Lib.wpList_append_run _ rfl _ _ _ _ rfl _ _ rfl rfl _ _ HR.out ?_)
  go_ret
  exact ⟨⟨_, rfl, HO.out⟩, HB.out⟩

set_option maxHeartbeats 2000000 in
theorem concatAttrs_any (a0 : Option Addr) (c0 : Nat) (Ls : List (Sl Two)) (w : World) (hn : Ls.length ≤ 1048576) (hA : At w 1 encSl a0 Ls) (hL : ∀ x ∈ Ls, At w 2 encT x.a x.l) (h1 : 1 ≤ sumL Ls) (hs : sumL Ls ≤ 1048576) :
    Calls Tryz.prog 195 #[.slice a0 Ls.length c0] w fun e w' => (∃ v, e = .returned v ∧ Own w' w.heap.size 78 2 encT v (Ls.flatMap (·.l))) ∧ Below w.heap.size w w' := by
  have HA := Lib.hid hA
  have HL := Lib.hid hL
  clear hA hL
  go_enter Tryz.func195, Tryz.ntmps195
  go_wp2_with fail
  go_loop [3, 11] (fun v3 v11 => ∃ k : Nat, k ≤ Ls.length ∧ v11 = .int .i64 k ∧ v3 = .int .i64 (sumL (Ls.take k) : Nat)) (fun _ v11 => Ls.length - (intOf v11).toNat)
  case atStart => exact ⟨0, by omega, rfl, rfl⟩
  case round =>
    obtain ⟨k, hk, rfl, rfl⟩ := hrel
    by_cases hlt : k < Ls.length
    · obtain ⟨b, off, ha, hbl, hc0⟩ := HA.out.sl hlt
      subst ha
      have hT := sumL_take_succ Ls k hlt
      have hle := sumL_take_le Ls (k + 1)
      generalize hs1 : sumL (Ls.take (k + 1)) = s1 at *
      generalize hs0 : sumL (Ls.take k) = s0 at *
      generalize hll : Ls[k].l.length = ll at *
      have HS1 := Lib.hid hs1
      have hw : wrap64 ((s0 : Int) + (ll : Int)) = (s1 : Int) := by unfold wrap64; omega
      clear hs1 hs0 hll
      go_wp2_with fail
      go_round
      case rel => exact ⟨k + 1, by omega, by go_num, by rw [HS1.out, hT]; simp⟩
      case measure => simp [intOf]; omega
    · obtain rfl : k = Ls.length := by omega
      rw [List.take_length]
      go_wp2_with fail
      refine (growAttrs_any (sumL Ls) _ h1 (by omega)).mono ?_
      rintro e w1 ⟨⟨v, rfl, hO⟩, hb⟩
      have HO := Lib.hid hO
      clear hO
      go_wp2_with fail
      go_loopw [6, 27] (fun v6 v27 wr => ∃ k : Nat, k ≤ Ls.length ∧ v27 = .int .i64 k ∧ Hid (Own wr w.heap.size 78 2 encT v6 ((Ls.take k).flatMap (·.l))) ∧ Below w.heap.size w wr) (fun _ v27 _ => Ls.length - (intOf v27).toNat)
      case atStart => exact ⟨0, by omega, rfl, HO, hb⟩
      case round =>
        obtain ⟨k, hk, rfl, HO, hb⟩ := hrel
        by_cases hlt : k < Ls.length
        · obtain ⟨b, off, ha, hbl, hc0⟩ := (HA.out.below hb).sl hlt
          subst ha
          have hx : Hid (At wr 2 encT Ls[k].a Ls[k].l) := (HL.out _ (List.getElem_mem hlt)).below hb
          have hT := sumL_take_succ Ls k hlt
          have hle := sumL_take_le Ls (k + 1)
          have hfl := flat_sum (Ls.take k)
          have hF : Hid ((Ls.take (k + 1)).flatMap (·.l) = (Ls.take k).flatMap (·.l) ++ Ls[k].l) := by unfold Hid; rw [List.take_succ_eq_append_getElem hlt, List.flatMap_append]; simp
          go_wp2_with (at_builtin; refine wpList_cat rfl _ _ 55 rfl w.heap.size 78 2 32 slattrs encT encT_ok _ _ rfl HO.out _ _ _ Ls[k].l rfl rfl hx.out (by omega) (by unfold maxLen; omega) w hb hb.size ?_; intro v2 w2 hown2 hb2 _)
          go_roundw
          case rel => exact ⟨k + 1, by omega, by go_num, by rw [hF.out]; exact hown2, hb2⟩
          case measure => simp [intOf]; omega
        · obtain rfl : k = Ls.length := by omega
          have HO2 := HO.out
          rw [List.take_length] at HO2
          have HO3 := Lib.hid HO2
          clear HO2
          go_wp2_with fail
          go_ret
          exact ⟨⟨_, rfl, HO3.out⟩, hb⟩
end Go.Proofs.YtfedkhicckgjaaaGreatDoor
