/- Copies of texts with a mark behind them, and whether they are left as they were: binderylaw01.TwinTexts, LeftTexts. -/
import Derived.Test.YtofphojcfjkjhaaGreatDoorTwinA
import Derived.Laws.CopyOwn
namespace Go.Proofs.YtofphojcfjkjhaaGreatDoor
open Go.RowKit

theorem sltexts : SlTy Tryz.prog 22 9 1 16 := ⟨Tryz.underlying22, .string ⟨#[]⟩, by kernel_rfl, rfl, by decide⟩
def spareTexts : Bytes := [115, 112, 97, 114, 101]

set_option maxHeartbeats 2000000 in
theorem twinTexts_any (a : Option Addr) (c : Nat) (l : List Bytes) (w : World) (hn : l.length ≤ 1048576) (hA : At w 1 encS a l) :
    Calls Tryz.prog 5 #[.slice a l.length c] w fun e w' => (∃ g, e = .returned (.slice (some ⟨g, 0, none⟩) l.length (l.length + 1)) ∧ w.heap.size ≤ g ∧ Own w' w.heap.size 9 1 encS (.slice (some ⟨g, 0, none⟩) (l.length + 1) (l.length + 1)) (l ++ [spareTexts])) ∧ Below w.heap.size w w' := by
  have HA := Lib.hid hA
  clear hA
  go_enter Tryz.func5, Tryz.ntmps5
  go_wp2_with (at_make; refine wpList_mk rfl _ _ 22 rfl w.heap.size 9 1 16 sltexts encS (l.length + 1) _ rfl rfl (by simp) (by omega) (by unfold maxLen; omega) w (Below.refl _ _) (Nat.le_refl _) ?_; intro w1 hown hb1 hz1)
  generalize hg : w.heap.size = g at *
  have HG : Hid (w.heap.size = g) := hg
  clear hg
  go_loopw [3, 4] (fun v3 v4 wr => ∃ k : Nat, k ≤ l.length ∧ v4 = .int .i64 k ∧ v3 = .slice (some ⟨g, 0, none⟩) k (l.length + 1) ∧ Hid (Own wr g 9 1 encS (.slice (some ⟨g, 0, none⟩) k (l.length + 1)) (l.take k)) ∧ Below g w wr ∧ g ≤ wr.heap.size) (fun _ v4 _ => l.length - (intOf v4).toNat)
  case atStart => exact ⟨0, by omega, rfl, rfl, hown, hb1, by omega⟩
  case round =>
    obtain ⟨k, hk, rfl, rfl, HO, hb, hz⟩ := hrel
    by_cases hlt : k < l.length
    · have hbw : Below w.heap.size w wr := by rw [HG.out]; exact hb
      obtain ⟨b, off, ha, hbl, hc0⟩ := (HA.out.below hbw).str hlt
      subst ha
      clear hbw
      have HT : Hid (l.take (k + 1) = l.take k ++ [l[k]]) := List.take_succ_eq_append_getElem hlt
      have HL : Hid ((l.take k).length = k) := List.length_take_of_le hk
      go_wp2_with (at_builtin; refine wpList_push_fits rfl _ _ 22 rfl g 9 1 16 sltexts encS encS_ok g k (l.length + 1) (l.take k) HL.out.symm rfl (HO.out.alloc _) l[k] wr.heap.size rfl (by intro j u hj; match j, hj with | 0, hj => (simp [encS] at hj; subst hj; simp) | j + 1, hj => simp [encS] at hj) (by omega) w (hb.alloc hz _) (by simp; omega) ?_; intro w2 hown2 hb2)
      go_roundw
      case rel => exact ⟨k + 1, by omega, by go_num, rfl, by show Own _ _ _ _ _ _ _; rw [HT.out]; exact hown2, hb2, by have := hb2.size; have := HG.out; omega⟩
      case measure => simp [intOf]; omega
    · obtain rfl : k = l.length := by omega
      have HO2 : Hid (Own wr g 9 1 encS (.slice (some ⟨g, 0, none⟩) l.length (l.length + 1)) l) := by have h := HO.out; rw [List.take_length] at h; exact h
      go_wp2_with (at_builtin; refine wpList_push_fits rfl _ _ 22 rfl g 9 1 16 sltexts encS encS_ok g l.length (l.length + 1) l rfl rfl (HO2.out.alloc _) spareTexts wr.heap.size rfl (by unfold spareTexts; intro j u hj; match j, hj with | 0, hj => (simp [encS] at hj; subst hj; simp) | j + 1, hj => simp [encS] at hj) (by omega) w (hb.alloc hz _) (by simp; omega) ?_; intro w2 hown2 hb2)
      go_ret
      exact ⟨⟨g, rfl, Nat.le_of_eq HG.out, by rw [HG.out]; exact hown2⟩, by rw [HG.out]; exact hb2⟩

set_option maxHeartbeats 2000000 in
theorem leftTexts_any (g : Nat) (a : Option Addr) (c : Nat) (l : List Bytes) (w : World) (hn : l.length ≤ 1048576) (hT : At w 1 encS (some ⟨g, 0, none⟩) (l ++ [spareTexts])) (hA : At w 1 encS a l) :
    Calls Tryz.prog 9 #[.slice (some ⟨g, 0, none⟩) l.length (l.length + 1), .slice a l.length c] w fun e w' => e = .returned (.bool true) ∧ Below w.heap.size w w' := by
  have HA := Lib.hid hA
  have HT := Lib.hid hT
  clear hA hT
  go_enter Tryz.func9, Tryz.ntmps9
  go_wp2_with fail
  go_loopw [5] (fun v5 wr => ∃ k : Nat, k ≤ l.length ∧ v5 = .int .i64 k ∧ Below w.heap.size w wr) (fun v5 _ => l.length - (intOf v5).toNat)
  case atStart => exact ⟨0, by omega, rfl, Below.refl _ _⟩
  case round =>
    obtain ⟨k, hk, rfl, hb⟩ := hrel
    by_cases hlt : k < l.length
    · obtain ⟨b, off, ha, hbl, hc0⟩ := (HA.out.below hb).str hlt
      obtain ⟨b', off', ha', hbl', hd0⟩ := ((HT.out.below hb).left).str hlt
      cases ha'
      rw [Nat.zero_add] at hd0
      subst ha
      go_wp2_with fail
      go_quiet (fail)
      go_wp2
      go_roundw
      case rel => exact ⟨k + 1, by omega, by go_num, below_drewN hb _⟩
      case measure => simp [intOf]; omega
    · obtain rfl : k = l.length := by omega
      obtain ⟨b', off', ha', hbl', hd0⟩ := (HT.out.below hb).str (i := l.length) (by simp)
      cases ha'
      rw [Nat.zero_add] at hd0
      simp at hd0
      go_wp2_with fail
      go_ret
      first | exact ⟨rfl, hb⟩ | exact ⟨rfl, hb.alloc hb.size _⟩

end Go.Proofs.YtofphojcfjkjhaaGreatDoor
