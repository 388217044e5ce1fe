/- Copies with a mark behind them, and whether they are left as they were: binderylaw01.Twin.., Left.., Same.. -/
import Derived.Test.YtfedkhicckgjaaaGreatDoorMem
import Derived.Laws.CopyOwn
namespace Go.Proofs.YtfedkhicckgjaaaGreatDoor
open Go.RowKit

theorem slsources : SlTy Tryz.prog 22 63 2 32 := ⟨Tryz.underlying22, .agg #[.string ⟨#[]⟩, .string ⟨#[]⟩], by kernel_rfl, rfl, by decide⟩
def spareSources : Two := ⟨[115, 112, 97, 114, 101], []⟩

set_option maxHeartbeats 2000000 in
theorem twinSources_any (a : Option Addr) (c : Nat) (l : List Two) (w : World) (hn : l.length ≤ 1048576) (hA : At w 2 encT a l) :
    Calls Tryz.prog 12 #[.slice a l.length c] w fun e w' => (∃ g, e = .returned (.slice (some ⟨g, 0, none⟩) l.length (l.length + 1)) ∧ w.heap.size ≤ g ∧ Own w' w.heap.size 63 2 encT (.slice (some ⟨g, 0, none⟩) (l.length + 1) (l.length + 1)) (l ++ [spareSources])) ∧ Below w.heap.size w w' := by
  have HA := Lib.hid hA
  clear hA
  go_enter Tryz.func12, Tryz.ntmps12
  go_wp2_with (at_make; refine wpList_mk rfl _ _ 22 rfl w.heap.size 63 2 32 slsources encT (l.length + 1) _ rfl rfl (by simp) (by omega) (by unfold maxLen; omega) w (Below.refl _ _) (Nat.le_refl _) ?_; intro w1 hown hb1 hz1)
  generalize hg : w.heap.size = g at *
  have HG : Hid (w.heap.size = g) := hg
  clear hg
  go_loopw [3, 4] (fun v3 v4 wr => ∃ k : Nat, k ≤ l.length ∧ v4 = .int .i64 k ∧ v3 = .slice (some ⟨g, 0, none⟩) k (l.length + 1) ∧ Hid (Own wr g 63 2 encT (.slice (some ⟨g, 0, none⟩) k (l.length + 1)) (l.take k)) ∧ Below g w wr ∧ g ≤ wr.heap.size) (fun _ v4 _ => l.length - (intOf v4).toNat)
  case atStart => exact ⟨0, by omega, rfl, rfl, hown, hb1, by omega⟩
  case round =>
    obtain ⟨k, hk, rfl, rfl, HO, hb, hz⟩ := hrel
    by_cases hlt : k < l.length
    · have hbw : Below w.heap.size w wr := by rw [HG.out]; exact hb
      obtain ⟨b, off, ha, hbl, hc0, hc1⟩ := (HA.out.below hbw).two hlt
      subst ha
      clear hbw
      have HT : Hid (l.take (k + 1) = l.take k ++ [l[k]]) := List.take_succ_eq_append_getElem hlt
      have HL : Hid ((l.take k).length = k) := List.length_take_of_le hk
      go_wp2_with (at_builtin; refine wpList_push_fits rfl _ _ 22 rfl g 63 2 32 slsources encT encT_ok g k (l.length + 1) (l.take k) HL.out.symm rfl (HO.out.alloc _) l[k] wr.heap.size rfl (by intro j u hj; match j, hj with | 0, hj => (simp [encT] at hj; subst hj; simp) | 1, hj => (simp [encT] at hj; subst hj; simp) | j + 2, hj => simp [encT] at hj) (by omega) w (hb.alloc hz _) (by simp; omega) ?_; intro w2 hown2 hb2)
      go_roundw
      case rel => exact ⟨k + 1, by omega, by go_num, rfl, by show Own _ _ _ _ _ _ _; rw [HT.out]; exact hown2, hb2, by have := hb2.size; have := HG.out; omega⟩
      case measure => simp [intOf]; omega
    · obtain rfl : k = l.length := by omega
      have HO2 : Hid (Own wr g 63 2 encT (.slice (some ⟨g, 0, none⟩) l.length (l.length + 1)) l) := by have h := HO.out; rw [List.take_length] at h; exact h
      go_wp2_with (at_builtin; refine wpList_push_fits rfl _ _ 22 rfl g 63 2 32 slsources encT encT_ok g l.length (l.length + 1) l rfl rfl (HO2.out.alloc _) spareSources wr.heap.size rfl (by unfold spareSources; intro j u hj; match j, hj with | 0, hj => (simp [encT] at hj; subst hj; simp) | 1, hj => (simp [encT] at hj; subst hj; simp) | j + 2, hj => simp [encT] at hj) (by omega) w (hb.alloc hz _) (by simp; omega) ?_; intro w2 hown2 hb2)
      go_ret
      exact ⟨⟨g, rfl, Nat.le_of_eq HG.out, by rw [HG.out]; exact hown2⟩, by rw [HG.out]; exact hb2⟩

theorem At.left {α : Type} {w : World} {sz : Nat} {enc : α → List Value} {a : Option Addr} {l m : List α} (h : At w sz enc a (l ++ m)) : At w sz enc a l := by
  rcases h with h | ⟨b, off, ha, hlt, hr⟩
  · exact .inl (List.append_eq_nil_iff.1 h).1
  · refine .inr ⟨b, off, ha, hlt, fun i x hi j v hj => hr i x ?_ j v hj⟩
    rw [List.getElem?_append_left (List.getElem?_eq_some_iff.1 hi).1]; exact hi

set_option maxHeartbeats 2000000 in
theorem leftSources_any (g : Nat) (a : Option Addr) (c : Nat) (l : List Two) (w : World) (hn : l.length ≤ 1048576) (hT : At w 2 encT (some ⟨g, 0, none⟩) (l ++ [spareSources])) (hA : At w 2 encT a l) :
    Calls Tryz.prog 18 #[.slice (some ⟨g, 0, none⟩) l.length (l.length + 1), .slice a l.length c] w fun e w' => e = .returned (.bool true) ∧ Below w.heap.size w w' := by
  have HA := Lib.hid hA
  have HT := Lib.hid hT
  clear hA hT
  go_enter Tryz.func18, Tryz.ntmps18
  go_wp2_with fail
  go_loopw [5] (fun v5 wr => ∃ k : Nat, k ≤ l.length ∧ v5 = .int .i64 k ∧ Below w.heap.size w wr) (fun v5 _ => l.length - (intOf v5).toNat)
  case atStart => exact ⟨0, by omega, rfl, Below.refl _ _⟩
  case round =>
    obtain ⟨k, hk, rfl, hb⟩ := hrel
    by_cases hlt : k < l.length
    · obtain ⟨b, off, ha, hbl, hc0, hc1⟩ := (HA.out.below hb).two hlt
      obtain ⟨b', off', ha', hbl', hd0, hd1⟩ := ((HT.out.below hb).left).two hlt
      cases ha'
      rw [Nat.zero_add] at hd0 hd1
      subst ha
      go_wp2_with fail
      go_quiet (fail)
      go_wp2
      go_roundw
      case rel => exact ⟨k + 1, by omega, by go_num, below_drewN hb _⟩
      case measure => simp [intOf]; omega
    · obtain rfl : k = l.length := by omega
      obtain ⟨b', off', ha', hbl', hd0, hd1⟩ := (HT.out.below hb).two (i := l.length) (by simp)
      cases ha'
      rw [Nat.zero_add] at hd0 hd1
      simp at hd0 hd1
      go_wp2_with fail
      go_ret
      first | exact ⟨rfl, hb⟩ | exact ⟨rfl, hb.alloc hb.size _⟩

end Go.Proofs.YtfedkhicckgjaaaGreatDoor
