/- Slices of texts: are two of them alike? binderylaw01.SameTexts -/
import Derived.Test.YtfedkhicckgjaaaGreatDoorMem
namespace Go.Proofs.YtfedkhicckgjaaaGreatDoor
open Go.RowKit

/-- a slice of the call's own, laid open -/
theorem Own.open {α : Type} {w : World} {B : Nat} {e : TypeId} {sz : Nat} {enc : α → List Value} {v : Value} {l : List α} (h : Own w B e sz enc v l) (he : Enc sz enc) :
    ∃ a cap, v = .slice a l.length cap ∧ At w sz enc a l ∧ l.length ≤ cap := by
  obtain ⟨a, cap, hv, hA⟩ := h.reads he
  refine ⟨a, cap, hv, hA, ?_⟩
  rcases h.2 with ⟨h1, h2⟩ | ⟨g, cap', cur, h1, _, _, h2, _⟩
  · rw [hv] at h1
    injection h1 with _ h3 _
    omega
  · rw [hv] at h1
    injection h1 with _ h3 h4
    omega

set_option maxHeartbeats 2000000 in
theorem sameTexts_any (a1 : Option Addr) (c1 : Nat) (a2 : Option Addr) (c2 : Nat) (l : List Bytes) (w : World) (hn : l.length ≤ 1048576) (hT : At w 1 encS a1 l) (hA : At w 1 encS a2 l) :
    Calls Tryz.prog 16 #[.slice a1 l.length c1, .slice a2 l.length c2] w fun e w' => e = .returned (.bool true) ∧ Below w.heap.size w w' := by
  have HA := Lib.hid hA
  have HT := Lib.hid hT
  clear hA hT
  go_enter Tryz.func16, Tryz.ntmps16
  go_wp2_with fail
  go_loopw [5] (fun v5 wr => ∃ k : Nat, k ≤ l.length ∧ v5 = .int .i64 k ∧ Below w.heap.size w wr) (fun v5 _ => l.length - (intOf v5).toNat)
  case atStart => exact ⟨0, by omega, rfl, Below.refl _ _⟩
  case round =>
    obtain ⟨k, hk, rfl, hb⟩ := hrel
    by_cases hlt : k < l.length
    · obtain ⟨b, off, ha, hbl, hc0⟩ := (HA.out.below hb).str hlt
      obtain ⟨b', off', ha', hbl', hd0⟩ := (HT.out.below hb).str hlt
      subst ha'
      subst ha
      go_wp2_with fail
      go_quiet (fail)
      go_wp2
      go_roundw
      case rel => exact ⟨k + 1, by omega, by go_num, below_drewN hb _⟩
      case measure => simp [intOf]; omega
    · go_wp2_with fail
      go_ret
      exact ⟨rfl, hb⟩
end Go.Proofs.YtfedkhicckgjaaaGreatDoor
