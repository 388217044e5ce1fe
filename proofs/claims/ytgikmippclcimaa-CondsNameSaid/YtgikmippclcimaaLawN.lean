/- The law CondsName, walked. -/
import Derived.Test.YtgikmippclcimaaLawP
namespace Go.Proofs.Ytgikmippclcimaa
open Go.RowKit
set_option linter.unusedVariables false

theorem getV_some {l : List Two} {n v : Bytes} (h : getL l n = some v) : getV l n = .tuple #[.string ⟨v.toArray⟩, .bool true] := by unfold getV; rw [h]
theorem getV_none {l : List Two} {n : Bytes} (h : getL l n = none) : getV l n = .tuple #[.string ⟨([] : Bytes).toArray⟩, .bool false] := by unfold getV; rw [h]
theorem name_some {l : List Two} {n v ar : Bytes} (hn : nameB n = true) (har : ∀ c ∈ ar, c ≠ 123) (h : getL l n = some v) :
    fillT l (ar ++ 123 :: (n ++ 125 :: (ar ++ 123 :: (n ++ [125])))) = ar ++ (v ++ (ar ++ v)) := by
  rw [(fillT_name l n ar hn har).1, h]; rfl
theorem name_none {l : List Two} {n ar : Bytes} (hn : nameB n = true) (har : ∀ c ∈ ar, c ≠ 123) (h : getL l n = none) :
    fillT l (ar ++ 123 :: (n ++ 125 :: (ar ++ 123 :: (n ++ [125])))) = ar ++ 123 :: (n ++ 125 :: (ar ++ 123 :: (n ++ [125]))) := by
  rw [(fillT_name l n ar hn har).1, h]; simp

set_option maxHeartbeats 4000000 in
theorem nm_great (w : World) (a : Option Addr) (c : Nat) (l : List Two) (hA : At w 2 encT a l) (hn : l.length ≤ 140737488351232) (hG : ∀ x ∈ l, x.name.length ≤ 140737488351232 ∧ x.value.length ≤ 140737488351232) (n : Bytes) (hs : n.length ≤ 140737488351232) (s : Bytes) (ht : s.length ≤ 140737488351232) (hM : MaxOk w) (hgr : greatB l n = true) :
    Calls Try.prog 9 #[.slice a l.length c, .string ⟨n.toArray⟩, .string ⟨s.toArray⟩] w fun e w' => e = .returned (.bool true) ∧ Below w.heap.size w w' := by
  have HGR := Lib.hid (fun w hA => great_any a c l n w hn hA hG hs)
  have HGB := Lib.hid hgr
  have HA := Lib.hid hA
  have HM := Lib.hid hM
  clear hA hG hgr hM
  go_enter Try.func9, Try.ntmps9
  go_wp2_with fail
  refine (alive_any _ HM.out).mono ?_
  rintro e w1 ⟨rfl, hc⟩
  have hb1 := hc
  have HM := Lib.hid (HM.out.next hc)
  have HA := Lib.hid (HA.out.below hc)
  clear hc
  go_wp2_with fail
  refine (HGR.out _ HA.out).mono ?_
  rw [HGB.out]
  rintro e w2 ⟨rfl, hc⟩
  have hb2 := hb1.trans (hc.mono hb1.size)
  have HM := Lib.hid (HM.out.next hc)
  have HA := Lib.hid (HA.out.below hc)
  clear hc
  go_wp2_with fail
  refine (alive_any _ HM.out).mono ?_
  rintro e w3 ⟨rfl, hc⟩
  have hb3 := hb2.trans (hc.mono hb2.size)
  have HM := Lib.hid (HM.out.next hc)
  have HA := Lib.hid (HA.out.below hc)
  clear hc
  go_wp2_with fail
  go_ret
  exact ⟨rfl, hb3⟩

set_option maxHeartbeats 4000000 in
theorem nm_bad (w : World) (a : Option Addr) (c : Nat) (l : List Two) (hA : At w 2 encT a l) (hn : l.length ≤ 140737488351232) (hG : ∀ x ∈ l, x.name.length ≤ 140737488351232 ∧ x.value.length ≤ 140737488351232) (n : Bytes) (hs : n.length ≤ 140737488351232) (s : Bytes) (ht : s.length ≤ 140737488351232) (hM : MaxOk w) (hgr : greatB l n = false) (hnm : nameB n = false)  :
    Calls Try.prog 9 #[.slice a l.length c, .string ⟨n.toArray⟩, .string ⟨s.toArray⟩] w fun e w' => e = .returned (.bool true) ∧ Below w.heap.size w w' := by
  obtain ⟨hl1, hn1, hv1⟩ := greatB_false hgr
  have hv2 : ∀ x ∈ l, x.value.length ≤ 100000 := fun x hx => by have := hv1 x hx; omega
  have HV := Lib.hid hv2
  have HGR := Lib.hid (fun w hA => great_any a c l n w hn hA hG hs)
  have HGB := Lib.hid hgr
  have HA := Lib.hid hA
  have HM := Lib.hid hM
  have HN := Lib.hid hnm
  clear hA hG hgr hM hv1 hv2 hnm
  go_enter Try.func9, Try.ntmps9
  go_wp2_with fail
  refine (alive_any _ HM.out).mono ?_
  rintro e w1 ⟨rfl, hc⟩
  have hb1 := hc
  have HM := Lib.hid (HM.out.next hc)
  have HA := Lib.hid (HA.out.below hc)
  clear hc
  go_wp2_with fail
  refine (HGR.out _ HA.out).mono ?_
  rw [HGB.out]
  rintro e w2 ⟨rfl, hc⟩
  have hb2 := hb1.trans (hc.mono hb1.size)
  have HM := Lib.hid (HM.out.next hc)
  have HA := Lib.hid (HA.out.below hc)
  clear hc
  go_wp2_with fail
  refine (name_any n _ (by omega)).mono ?_
  rw [HN.out]
  rintro e w' ⟨rfl, rfl⟩
  go_wp2_with fail
  refine (alive_any _ HM.out).mono ?_
  rintro e w3 ⟨rfl, hc⟩
  have hb3 := hb2.trans (hc.mono hb2.size)
  have HM := Lib.hid (HM.out.next hc)
  have HA := Lib.hid (HA.out.below hc)
  clear hc
  go_wp2_with fail
  go_ret
  exact ⟨rfl, hb3⟩

set_option maxHeartbeats 4000000 in
theorem nm_long (w : World) (a : Option Addr) (c : Nat) (l : List Two) (hA : At w 2 encT a l) (hn : l.length ≤ 140737488351232) (hG : ∀ x ∈ l, x.name.length ≤ 140737488351232 ∧ x.value.length ≤ 140737488351232) (n : Bytes) (hs : n.length ≤ 140737488351232) (s : Bytes) (ht : s.length ≤ 140737488351232) (hM : MaxOk w) (hgr : greatB l n = false) (hnm : nameB n = true) (hlong : 1000 < s.length) :
    Calls Try.prog 9 #[.slice a l.length c, .string ⟨n.toArray⟩, .string ⟨s.toArray⟩] w fun e w' => e = .returned (.bool true) ∧ Below w.heap.size w w' := by
  obtain ⟨hl1, hn1, hv1⟩ := greatB_false hgr
  have hv2 : ∀ x ∈ l, x.value.length ≤ 100000 := fun x hx => by have := hv1 x hx; omega
  have HV := Lib.hid hv2
  have HGR := Lib.hid (fun w hA => great_any a c l n w hn hA hG hs)
  have HGB := Lib.hid hgr
  have HA := Lib.hid hA
  have HM := Lib.hid hM
  have HN := Lib.hid hnm
  clear hA hG hgr hM hv1 hv2 hnm
  go_enter Try.func9, Try.ntmps9
  go_wp2_with fail
  refine (alive_any _ HM.out).mono ?_
  rintro e w1 ⟨rfl, hc⟩
  have hb1 := hc
  have HM := Lib.hid (HM.out.next hc)
  have HA := Lib.hid (HA.out.below hc)
  clear hc
  go_wp2_with fail
  refine (HGR.out _ HA.out).mono ?_
  rw [HGB.out]
  rintro e w2 ⟨rfl, hc⟩
  have hb2 := hb1.trans (hc.mono hb1.size)
  have HM := Lib.hid (HM.out.next hc)
  have HA := Lib.hid (HA.out.below hc)
  clear hc
  go_wp2_with fail
  refine (name_any n _ (by omega)).mono ?_
  rw [HN.out]
  rintro e w' ⟨rfl, rfl⟩
  go_wp2_with fail
  refine (alive_any _ HM.out).mono ?_
  rintro e w3 ⟨rfl, hc⟩
  have hb3 := hb2.trans (hc.mono hb2.size)
  have HM := Lib.hid (HM.out.next hc)
  have HA := Lib.hid (HA.out.below hc)
  clear hc
  go_wp2_with fail
  go_ret
  exact ⟨rfl, hb3⟩

set_option maxHeartbeats 4000000 in
theorem nm_good (w : World) (a : Option Addr) (c : Nat) (l : List Two) (hA : At w 2 encT a l) (hn : l.length ≤ 140737488351232) (hG : ∀ x ∈ l, x.name.length ≤ 140737488351232 ∧ x.value.length ≤ 140737488351232) (n : Bytes) (hs : n.length ≤ 140737488351232) (s : Bytes) (ht : s.length ≤ 1000) (hM : MaxOk w) (hgr : greatB l n = false) (hnm : nameB n = true) :
    Calls Try.prog 9 #[.slice a l.length c, .string ⟨n.toArray⟩, .string ⟨s.toArray⟩] w fun e w' => e = .returned (.bool true) ∧ Below w.heap.size w w' := by
  have hn60 := (nameB_len hnm).2
  obtain ⟨hl1, hn1, hv1⟩ := greatB_false hgr
  have hv2 : ∀ x ∈ l, x.value.length ≤ 100000 := fun x hx => by have := hv1 x hx; omega
  have HV := Lib.hid hv2
  have HGR := Lib.hid (fun w hA => great_any a c l n w hn hA hG hs)
  have HGB := Lib.hid hgr
  have HA := Lib.hid hA
  have HM := Lib.hid hM
  have HN := Lib.hid hnm
  clear hA hG hgr hM hv1 hv2 hnm
  go_enter Try.func9, Try.ntmps9
  go_wp2_with fail
  refine (alive_any _ HM.out).mono ?_
  rintro e w1 ⟨rfl, hc⟩
  have hb1 := hc
  have HM := Lib.hid (HM.out.next hc)
  have HA := Lib.hid (HA.out.below hc)
  clear hc
  go_wp2_with fail
  refine (HGR.out _ HA.out).mono ?_
  rw [HGB.out]
  rintro e w2 ⟨rfl, hc⟩
  have hb2 := hb1.trans (hc.mono hb1.size)
  have HM := Lib.hid (HM.out.next hc)
  have HA := Lib.hid (HA.out.below hc)
  clear hc
  go_wp2_with fail
  refine (name_any n _ (by omega)).mono ?_
  rw [HN.out]
  rintro e w' ⟨rfl, rfl⟩
  go_wp2_with fail
  go_loop [7] (fun v7 => ∃ (k : Nat), k ≤ s.length ∧ v7 = .int .i64 k ∧ Hid (∀ c ∈ s.take k, c ≠ 123)) (fun v7 => s.length - (intOf v7).toNat)
  case atStart => exact ⟨0, by omega, rfl, fun c hc => by simp at hc⟩
  case round =>
    obtain ⟨k, hk, rfl, HP⟩ := hrel
    by_cases hlt : k < s.length
    · have hcl : s[k].toNat < 256 := s[k].toNat_lt
      have hb3 : ((s[k].toNat : Int) == 123) = (s[k] == 123) := int_beq (d := 123)
      have hb4 : ((s[k].toNat : Int) == 125) = (s[k] == 125) := int_beq (d := 125)
      cases h1 : (s[k] == 123)
      · cases h2 : (s[k] == 125)
        · rw [h1] at hb3
          rw [h2] at hb4
          have HS : Hid (∀ c ∈ s.take (k + 1), c ≠ 123) := by
            intro c hc
            rw [List.take_succ_eq_append_getElem hlt] at hc
            rcases List.mem_append.1 hc with hc | hc
            · exact HP.out c hc
            · simp at hc
              subst hc
              simpa using h1
          clear h1 h2
          go_wp2_with fail
          go_round
          case rel => exact ⟨k + 1, by omega, by go_num, HS⟩
          case measure => simp [intOf]; omega
        · rw [h1] at hb3
          rw [h2] at hb4
          clear h1 h2
          go_wp2_with fail
          go_ret
          exact ⟨rfl, hb2⟩
      · rw [h1] at hb3
        clear h1 hb4
        go_wp2_with fail
        go_ret
        exact ⟨rfl, hb2⟩
    · obtain rfl : k = s.length := by omega
      have hp : ∀ c ∈ s, c ≠ 123 := by have h := HP.out; rw [List.take_length] at h; exact h
      have hfn := (fillT_name l n s HN.out hp).2
      have HFN := Lib.hid hfn
      clear HP hfn
      cases hgl : getL l n with
      | none =>
        have HGV := Lib.hid (getV_none hgl)
        have HFT := Lib.hid (name_none HN.out hp hgl)
        clear hp hgl
        go_wp2_with fail
        refine (get_any a c l n _ (by omega) HA.out).mono ?_
        rw [HGV.out]
        rintro e w3 ⟨rfl, hc⟩
        have hb3 := hb2.trans (hc.mono hb2.size)
        have HM := Lib.hid (HM.out.next hc)
        have HA := Lib.hid (HA.out.below hc)
        clear hc
        go_wp2_with fail
        refine (fill_any a c l (s ++ 123 :: (n ++ 125 :: (s ++ 123 :: (n ++ [125])))) _ (by omega) (by simp; omega) HA.out HV.out).mono ?_
        rw [HFT.out, HFN.out]
        rintro e w4 ⟨⟨r1, rfl, hO⟩, hc⟩
        have hb4 := hb3.trans (hc.mono hb3.size)
        have HM := Lib.hid (HM.out.next hc)
        have HA := Lib.hid (HA.out.below hc)
        obtain ⟨y1, d1, rfl, hY1, hC1⟩ := hO.open encS_ok
        obtain ⟨b, off, ha, hbl, hc0⟩ := hY1.str (i := 0) (by simp)
        rw [Nat.add_zero] at hc0
        have hc1 : _ = some (Value.string ⟨n.toArray⟩) := hc0
        subst ha
        clear hY1 hO hc0
        clear hc
        go_wp2_with fail
        go_ret
        exact ⟨rfl, hb4⟩
      | some v =>
        have hv := getL_len hgl HV.out
        have HGV := Lib.hid (getV_some hgl)
        have HFT := Lib.hid (name_some HN.out hp hgl)
        clear hp hgl
        go_wp2_with fail
        refine (get_any a c l n _ (by omega) HA.out).mono ?_
        rw [HGV.out]
        rintro e w3 ⟨rfl, hc⟩
        have hb3 := hb2.trans (hc.mono hb2.size)
        have HM := Lib.hid (HM.out.next hc)
        have HA := Lib.hid (HA.out.below hc)
        clear hc
        go_wp2_with fail
        refine (fill_any a c l (s ++ 123 :: (n ++ 125 :: (s ++ 123 :: (n ++ [125])))) _ (by omega) (by simp; omega) HA.out HV.out).mono ?_
        rw [HFT.out, HFN.out]
        rintro e w4 ⟨⟨r1, rfl, hO⟩, hc⟩
        have hb4 := hb3.trans (hc.mono hb3.size)
        have HM := Lib.hid (HM.out.next hc)
        have HA := Lib.hid (HA.out.below hc)
        obtain ⟨y1, d1, rfl, hY1, hC1⟩ := hO.open encS_ok
        obtain ⟨b, off, ha, hbl, hc0⟩ := hY1.str (i := 0) (by simp)
        rw [Nat.add_zero] at hc0
        have hc1 : _ = some (Value.string ⟨n.toArray⟩) := hc0
        subst ha
        clear hY1 hO hc0
        clear hc
        go_wp2_with fail
        go_ret
        exact ⟨rfl, hb4⟩

theorem walk_CondsName (w : World) (a : Option Addr) (c : Nat) (l : List Two) (hA : At w 2 encT a l) (hn : l.length ≤ 140737488351232) (hG : ∀ x ∈ l, x.name.length ≤ reachBytes ∧ x.value.length ≤ reachBytes) (n : Bytes) (hs : n.length ≤ reachBytes) (s : Bytes) (ht : s.length ≤ reachBytes) (hM : MaxOk w) :
    Calls Try.prog 9 #[.slice a l.length c, .string ⟨n.toArray⟩, .string ⟨s.toArray⟩] w fun e w' => e = .returned (.bool true) ∧ Below w.heap.size w w' := by
  cases hgr : greatB l n
  · cases hnm : nameB n
    · exact nm_bad w a c l hA hn hG n hs s ht hM hgr hnm
    · by_cases hlong : s.length ≤ 1000
      · exact nm_good w a c l hA hn hG n hs s hlong hM hgr hnm
      · exact nm_long w a c l hA hn hG n hs s ht hM hgr hnm (by omega)
  · exact nm_great w a c l hA hn hG n hs s ht hM hgr
end Go.Proofs.Ytgikmippclcimaa
