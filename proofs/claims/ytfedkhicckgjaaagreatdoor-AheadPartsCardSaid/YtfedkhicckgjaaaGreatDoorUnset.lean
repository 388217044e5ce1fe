/- conds.Unset. -/
import Derived.Test.YtfedkhicckgjaaaGreatDoorSet
namespace Go.Proofs.YtfedkhicckgjaaaGreatDoor
open Go.RowKit
set_option linter.unusedVariables false

def notB (s : Bytes) (x : Two) : Bool := !(x.name == s)
def unsetR (l : List Two) (s : Bytes) : List Two := if (checkB l && nameB s) = true then l.filter (notB s) else []
def unsetE (l : List Two) (s : Bytes) : Int := if (checkB l && nameB s) = true then 0 else 1
theorem filter_take_succ {l : List Two} (p : Two → Bool) {k : Nat} (h : k < l.length) : (l.take (k + 1)).filter p = (l.take k).filter p ++ (if p l[k] = true then [l[k]] else []) := by
  rw [List.take_succ_eq_append_getElem h, List.filter_append]
  cases hp : p l[k] <;> simp [hp]
theorem filter_take_len {l : List Two} (p : Two → Bool) {k : Nat} (h : k ≤ l.length) : ((l.take k).filter p).length ≤ k := by
  have := List.length_filter_le p (l.take k)
  rw [List.length_take] at this
  omega

section
variable (a : Option Addr) (ca : Nat) (l : List Two) (s : Bytes) (w : World)

set_option maxHeartbeats 2000000 in
theorem unset_any (hn : l.length ≤ 1048576) (hs : s.length ≤ 1048576) (hA : At w 2 encT a l) (hsz : ∀ x ∈ l, x.name.length + x.value.length ≤ 9223372036854775807) :
    Calls Tryz.prog 162 #[.slice a l.length ca, .string ⟨s.toArray⟩] w (SetGives w (unsetR l s) (unsetE l s)) := by
  have HA := Lib.hid hA
  have HS := Lib.hid hsz
  clear hA hsz
  cases h1 : checkB l
  · have hR : unsetR l s = [] := by simp [unsetR, h1]
    have hE : unsetE l s = 1 := by simp [unsetE, h1]
    rw [hR, hE]
    have H1 := Lib.hid h1
    clear h1 hR hE
    go_enter Tryz.func162, Tryz.ntmps162
    go_wp2_with fail
    refine (check_any a ca l _ hn HA.out HS.out).mono ?_
    rw [H1.out]
    rintro e w2 ⟨rfl, hb2⟩
    go_wp2_with fail
    go_ret2
    exact ⟨⟨_, rfl, Own.nil _ _ _ _ _⟩, hb2⟩
  cases h2 : nameB s
  · have hR : unsetR l s = [] := by simp [unsetR, h2]
    have hE : unsetE l s = 1 := by simp [unsetE, h2]
    rw [hR, hE]
    have H1 := Lib.hid h1
    have H2 := Lib.hid h2
    clear h1 h2 hR hE
    go_enter Tryz.func162, Tryz.ntmps162
    go_wp2_with fail
    refine (check_any a ca l _ hn HA.out HS.out).mono ?_
    rw [H1.out]
    rintro e w2 ⟨rfl, hb2⟩
    go_wp2_with fail
    refine (name_any s _ (by omega)).mono ?_
    rw [H2.out]
    rintro e w' ⟨rfl, rfl⟩
    go_wp2_with fail
    go_ret2
    exact ⟨⟨_, rfl, Own.nil _ _ _ _ _⟩, hb2⟩
  · have hR : unsetR l s = l.filter (notB s) := by simp [unsetR, h1, h2]
    have hE : unsetE l s = 0 := by simp [unsetE, h1, h2]
    rw [hR, hE]
    have H1 := Lib.hid h1
    have H2 := Lib.hid h2
    clear h1 h2 hR hE
    go_enter Tryz.func162, Tryz.ntmps162
    go_wp2_with fail
    refine (check_any a ca l _ hn HA.out HS.out).mono ?_
    rw [H1.out]
    rintro e w2 ⟨rfl, hb2⟩
    go_wp2_with fail
    refine (name_any s _ (by omega)).mono ?_
    rw [H2.out]
    rintro e w' ⟨rfl, rfl⟩
    go_wp2_with fail
    go_loopw [6, 19] (fun v6 v19 wr => ∃ k : Nat, k ≤ l.length ∧ v19 = .int .i64 k ∧ Hid (Own wr w.heap.size 78 2 encT v6 ((l.take k).filter (notB s))) ∧ Below w.heap.size w wr) (fun _ v19 _ => l.length - (intOf v19).toNat)
    case atStart => exact ⟨0, by omega, rfl, Own.nil _ _ _ _ _, hb2⟩
    case round =>
      obtain ⟨k, hk, rfl, HO, hb⟩ := hrel
      by_cases hlt : k < l.length
      · obtain ⟨b, off, ha, hbl, hc0, hc1⟩ := (HA.out.below hb).two hlt
        subst ha
        have hT := filter_take_succ (notB s) hlt
        have hL := filter_take_len (notB s) hk
        have hz := hb.size
        cases hp : (l[k].name == s)
        · rw [if_pos (by simp [notB, hp])] at hT
          have HT := Lib.hid hT
          clear hT
          go_wp2_with (at_builtin; refine wpList_push rfl _ _ 55 rfl w.heap.size 78 2 32 slattrs encT encT_ok _ ((l.take k).filter (notB s)) rfl ((HO.out.alloc _).alloc _) l[k] (wr.heap.size + 1) rfl (by intro j u hj; match j, hj with | 0, hj => (simp [encT] at hj; subst hj; simp) | 1, hj => (simp [encT] at hj; subst hj; simp) | j + 2, hj => simp [encT] at hj) (by omega) (by unfold maxLen; omega) w ((hb.alloc hz _).alloc (by simp; omega) _) (by simp; omega) ?_; intro v2 w3 hown2 hb3 _)
          go_roundw
          case rel => exact ⟨k + 1, by omega, by go_num, by show Own _ _ _ _ _ _ _; rw [HT.out]; exact hown2, hb3⟩
          case measure => simp [intOf]; omega
        · rw [if_neg (by simp [notB, hp]), List.append_nil] at hT
          have HT := Lib.hid hT
          clear hT
          go_wp2_with fail
          go_roundw
          case rel => exact ⟨k + 1, by omega, by go_num, by show Own _ _ _ _ _ _ _; rw [HT.out]; exact HO.out.alloc _, hb.alloc hz _⟩
          case measure => simp [intOf]; omega
      · obtain rfl : k = l.length := by omega
        have HO2 := HO.out
        rw [List.take_length] at HO2
        have HO3 := Lib.hid HO2
        clear HO2
        go_wp2_with fail
        go_ret2
        exact ⟨⟨_, rfl, HO3.out⟩, hb⟩
end
end Go.Proofs.YtfedkhicckgjaaaGreatDoor
