/- May attributes be? conds.Check and the reference's Check. -/
import Derived.Test.YtfedkhicckgjaaaGreatDoorSize
namespace Go.Proofs.YtfedkhicckgjaaaGreatDoor
open Go.RowKit

/-! ### plain -/
def okAt (l : List Two) (i : Nat) : Bool := match l[i]? with
  | none => true
  | some x => nameB x.name && validB x.value && (match i with
    | 0 => true
    | j + 1 => match l[j]? with
      | none => true
      | some y => Op.bytesLess y.name x.name)
def checkB (l : List Two) : Bool := decide (l.length ≤ 64) && (List.range l.length).all (okAt l)
theorem okAt_zero {l : List Two} (h : 0 < l.length) : okAt l 0 = (nameB l[0].name && validB l[0].value) := by
  simp [okAt, List.getElem?_eq_getElem h]
theorem okAt_succ {l : List Two} {j : Nat} (h : j + 1 < l.length) : okAt l (j + 1) = (nameB l[j + 1].name && validB l[j + 1].value && Op.bytesLess (l[j]'(by omega)).name l[j + 1].name) := by
  have h' : j < l.length := by omega
  simp [okAt, List.getElem?_eq_getElem h, List.getElem?_eq_getElem h']
theorem okAt_name {l : List Two} {k : Nat} (h : k < l.length) (hn : nameB l[k].name = false) : okAt l k = false := by
  simp [okAt, List.getElem?_eq_getElem h, hn]
theorem okAt_value {l : List Two} {k : Nat} (h : k < l.length) (hn : validB l[k].value = false) : okAt l k = false := by
  simp [okAt, List.getElem?_eq_getElem h, hn]
theorem checkB_big {l : List Two} (h : 64 < l.length) : checkB l = false := by
  unfold checkB; rw [decide_eq_false (by omega)]; rfl
theorem checkB_at {l : List Two} {k : Nat} (h : k < l.length) (hn : okAt l k = false) : checkB l = false := by
  unfold checkB
  rw [Bool.and_eq_false_iff]
  right
  rw [List.all_eq_false]
  exact ⟨k, List.mem_range.2 h, by simp [hn]⟩
theorem checkB_all {l : List Two} (h : l.length ≤ 64) (hn : ∀ i, i < l.length → okAt l i = true) : checkB l = true := by
  unfold checkB
  rw [decide_eq_true h, Bool.true_and, List.all_eq_true]
  intro i hi
  exact hn i (List.mem_range.1 hi)

theorem quiet_same {P : Program} {f : FuncId} {args : Array Value} {w : World} {n : Nat} {v : Value}
    (h : Calls P f args (w.drewN n) fun e w' => e = .returned v ∧ w.drewN n = w') : Calls P f args (w.drewN n) fun e w'' => e = .returned v ∧ ∃ m, w'' = w.drewN m :=
  Calls.quiet_of_same (h.mono fun _ _ ⟨he, hm⟩ => ⟨he, hm.symm⟩)

set_option maxHeartbeats 4000000 in
theorem check_any (a : Option Addr) (c : Nat) (l : List Two) (w : World) (hn : l.length ≤ 1048576) (hA : At w 2 encT a l) (hs : ∀ x ∈ l, x.name.length + x.value.length ≤ 9223372036854775807) :
    Calls Tryz.prog 87 #[.slice a l.length c] w fun e w' => e = .returned (.bool (checkB l)) ∧ Below w.heap.size w w' := by
  have HA := Lib.hid hA
  have HS := Lib.hid hs
  clear hA hs
  by_cases h64 : 64 < l.length
  · rw [checkB_big h64]
    go_enter Tryz.func87, Tryz.ntmps87
    go_wp2_with fail
    go_ret
    exact ⟨rfl, Below.refl _ _⟩
  go_enter Tryz.func87, Tryz.ntmps87
  go_wp2_with fail
  go_loopw [10] (fun v wr => ∃ k : Nat, k ≤ l.length ∧ v = .int .i64 k ∧ Hid (∀ i, i < k → okAt l i = true) ∧ Below w.heap.size w wr) (fun v _ => l.length - (intOf v).toNat)
  case atStart => exact ⟨0, by omega, rfl, (fun i hi => absurd hi (by omega)), Below.refl _ _⟩
  case round =>
    obtain ⟨k, hk, rfl, HP, hb⟩ := hrel
    by_cases hlt : k < l.length
    · obtain ⟨b, off, ha, hbl, hc0, hc1⟩ := (HA.out.below hb).two hlt
      have hsz := HS.out l[k] (List.getElem_mem hlt)
      have HN := Lib.hid (fun w => name_any l[k].name w (by omega))
      have HV := Lib.hid (fun w => valid_any l[k].value w (by omega))
      subst ha
      cases hnm : nameB l[k].name
      · have HR := Lib.hid (checkB_at hlt (okAt_name hlt hnm))
        have HNM := Lib.hid hnm
        clear hnm
        go_wp2_with (go_at_call 30; refine (HN.out _).mono ?_; rw [HNM.out]; rintro e w' ⟨rfl, rfl⟩)
        go_ret
        exact ⟨by rw [HR.out]; rfl, hb.alloc hb.size _⟩
      · cases hvl : validB l[k].value
        · have HR := Lib.hid (checkB_at hlt (okAt_value hlt hvl))
          have HNM := Lib.hid hnm
          have HVL := Lib.hid hvl
          clear hnm hvl
          go_wp2_with (first | (go_at_call 30; refine (HN.out _).mono ?_; rw [HNM.out]; rintro e w' ⟨rfl, rfl⟩) | (go_at_call 136; refine (HV.out _).mono ?_; rw [HVL.out]; rintro e w' ⟨rfl, rfl⟩))
          go_ret
          exact ⟨by rw [HR.out]; rfl, hb.alloc hb.size _⟩
        · match k, hk, hlt, hc0, hc1, HN, HV, HP, hsz, hnm, hvl with
          | 0, hk, hlt, hc0, hc1, HN, HV, HP, hsz, hnm, hvl =>
            have hok : okAt l 0 = true := by rw [okAt_zero hlt, hnm, hvl]; rfl
            have HO := Lib.hid hok
            have HNM := Lib.hid hnm
            have HVL := Lib.hid hvl
            clear hnm hvl hok
            have hc0' : wr.cell? ⟨b, off, none⟩ = some (.string ⟨l[0].name.toArray⟩) := by simpa using hc0
            have hc1' : wr.cell? ⟨b, off + 1, none⟩ = some (.string ⟨l[0].value.toArray⟩) := by simpa using hc1
            clear hc0 hc1
            go_wp2_with (first | (go_at_call 30; refine (HN.out _).mono ?_; rw [HNM.out]; rintro e w' ⟨rfl, rfl⟩) | (go_at_call 136; refine (HV.out _).mono ?_; rw [HVL.out]; rintro e w' ⟨rfl, rfl⟩))
            go_quiet (fail)
            go_wp2
            go_roundw
            case rel => exact ⟨1, by omega, by go_num, (fun i hi => by rcases Nat.lt_succ_iff_lt_or_eq.1 hi with h | h; exact HP.out i h; subst h; exact HO.out), below_drewN (hb.alloc hb.size _) _⟩
            case measure => simp [intOf]; omega
          | j + 1, hk, hlt, hc0, hc1, HN, HV, HP, hsz, hnm, hvl =>
            have hj : j < l.length := by omega
            obtain ⟨b', off', ha', hbl', hd0, hd1⟩ := (HA.out.below hb).two hj
            cases ha'
            have hos := okAt_succ hlt
            rw [hnm, hvl, Bool.true_and, Bool.true_and] at hos
            have HNM := Lib.hid hnm
            have HVL := Lib.hid hvl
            clear hnm hvl
            cases hls : Op.bytesLess l[j].name l[j + 1].name
            · rw [hls] at hos
              have HR := Lib.hid (checkB_at hlt hos)
              clear hos
              go_wp2_with (first | (go_at_call 30; refine (HN.out _).mono ?_; rw [HNM.out]; rintro e w' ⟨rfl, rfl⟩) | (go_at_call 136; refine (HV.out _).mono ?_; rw [HVL.out]; rintro e w' ⟨rfl, rfl⟩))
              go_quiet (fail)
              go_wp2
              go_ret
              exact ⟨by rw [HR.out]; rfl, below_drewN (hb.alloc hb.size _) _⟩
            · rw [hls] at hos
              have HO := Lib.hid hos
              clear hos
              go_wp2_with (first | (go_at_call 30; refine (HN.out _).mono ?_; rw [HNM.out]; rintro e w' ⟨rfl, rfl⟩) | (go_at_call 136; refine (HV.out _).mono ?_; rw [HVL.out]; rintro e w' ⟨rfl, rfl⟩))
              go_quiet (fail)
              go_wp2
              go_roundw
              case rel => exact ⟨j + 1 + 1, by omega, by go_num, (fun i hi => by rcases Nat.lt_succ_iff_lt_or_eq.1 hi with h | h; exact HP.out i h; subst h; exact HO.out), below_drewN (hb.alloc hb.size _) _⟩
              case measure => simp [intOf]; omega
    · have HR := Lib.hid (checkB_all (l := l) (by omega) (fun i hi => HP.out i (by omega)))
      go_wp2_with fail
      go_ret
      exact ⟨by rw [HR.out]; rfl, hb⟩

end Go.Proofs.YtfedkhicckgjaaaGreatDoor
