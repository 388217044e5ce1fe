/- The law AheadPlain, walked. -/
import Derived.Test.YtfedkhicckgjaaaGreatDoorPlainW
import Derived.Test.YtfedkhicckgjaaaGreatDoorBaseA
import Derived.Test.YtfedkhicckgjaaaGreatDoorFrameC
namespace Go.Proofs.YtfedkhicckgjaaaGreatDoor
open Go.RowKit
set_option linter.unusedVariables false

set_option maxHeartbeats 4000000 in
set_option maxRecDepth 100000 in
theorem plain_long (w : World) (s : Bytes) (hs : s.length ≤ 140737488351232) (a : Option Addr) (c : Nat) (l : List Two) (hA : At w 2 encT a l) (hn : l.length ≤ 140737488351232) (hG : ∀ x ∈ l, x.name.length ≤ 140737488351232 ∧ x.value.length ≤ 140737488351232) (nm : Bytes) (hnm : nm.length ≤ 140737488351232) (hM : MaxOk w) (h1 : 10000 < s.length) :
    Calls Tryz.prog 4 #[.string ⟨s.toArray⟩, .slice a l.length c, .string ⟨nm.toArray⟩] w fun e w' => e = .returned (.bool true) ∧ Below w.heap.size w w' := by
  have HSZ := Lib.hid (fun w hA => attrsSize_any a c l w hn hA hG)
  have HA := Lib.hid hA
  have HM := Lib.hid hM
  clear hA hM
  go_enter Tryz.func4, Tryz.ntmps4
  go_wp2_with (first
    | (go_at_call 22; refine (alive_any _ HM.out).mono ?_; rintro e w1 ⟨rfl, hb1⟩)
    | (go_at_call 22; refine (alive_any _ (HM.out.next hb1)).mono ?_; rintro e w9 ⟨rfl, hc⟩; have hb9 := hb1.trans (hc.mono hb1.size)))
  go_ret
  exact ⟨rfl, hb9⟩

set_option maxHeartbeats 4000000 in
set_option maxRecDepth 100000 in
theorem plain_size (w : World) (s : Bytes) (hs : s.length ≤ 140737488351232) (a : Option Addr) (c : Nat) (l : List Two) (hA : At w 2 encT a l) (hn : l.length ≤ 140737488351232) (hG : ∀ x ∈ l, x.name.length ≤ 140737488351232 ∧ x.value.length ≤ 140737488351232) (nm : Bytes) (hnm : nm.length ≤ 140737488351232) (hM : MaxOk w) (h1 : s.length ≤ 10000) (h2 : 70000 < sizeA l) :
    Calls Tryz.prog 4 #[.string ⟨s.toArray⟩, .slice a l.length c, .string ⟨nm.toArray⟩] w fun e w' => e = .returned (.bool true) ∧ Below w.heap.size w w' := by
  have HSZ := Lib.hid (fun w hA => attrsSize_any a c l w hn hA hG)
  have HA := Lib.hid hA
  have HM := Lib.hid hM
  have HS2 := Lib.hid h2
  clear h2
  clear hA hM
  go_enter Tryz.func4, Tryz.ntmps4
  go_wp2_with (first
    | (go_at_call 22; refine (alive_any _ HM.out).mono ?_; rintro e w1 ⟨rfl, hb1⟩)
    | (go_at_call 23; refine (HSZ.out _ (HA.out.below hb1)).mono ?_; rintro e w2 ⟨⟨r, rfl, hr⟩, hc⟩; have h3 : 70000 < r := (by have := HS2.out; omega); clear hr; have hb2 := hb1.trans (hc.mono hb1.size); clear hc)
    | (go_at_call 22; refine (alive_any _ (HM.out.next hb2)).mono ?_; rintro e w9 ⟨rfl, hc⟩; have hb9 := hb2.trans (hc.mono hb2.size)))
  go_ret
  exact ⟨rfl, hb9⟩

set_option maxHeartbeats 4000000 in
set_option maxRecDepth 100000 in
theorem plain_not (w : World) (s : Bytes) (hs : s.length ≤ 140737488351232) (a : Option Addr) (c : Nat) (l : List Two) (hA : At w 2 encT a l) (hn : l.length ≤ 140737488351232) (hG : ∀ x ∈ l, x.name.length ≤ 140737488351232 ∧ x.value.length ≤ 140737488351232) (nm : Bytes) (hnm : nm.length ≤ 140737488351232) (hM : MaxOk w) (h1 : s.length ≤ 10000) (h2 : sizeA l ≤ 70000) (hp : plainB s = false) :
    Calls Tryz.prog 4 #[.string ⟨s.toArray⟩, .slice a l.length c, .string ⟨nm.toArray⟩] w fun e w' => e = .returned (.bool true) ∧ Below w.heap.size w w' := by
  have HSZ := Lib.hid (fun w hA => attrsSize_any a c l w hn hA hG)
  have HA := Lib.hid hA
  have HM := Lib.hid hM
  have HS2 := Lib.hid h2
  have HPL := Lib.hid hp
  clear h2 hp
  clear hA hM
  go_enter Tryz.func4, Tryz.ntmps4
  go_wp2_with (first
    | (go_at_call 22; refine (alive_any _ HM.out).mono ?_; rintro e w1 ⟨rfl, hb1⟩)
    | (go_at_call 23; refine (HSZ.out _ (HA.out.below hb1)).mono ?_; rintro e w2 ⟨⟨r, rfl, hr⟩, hc⟩; have h3 : r ≤ 70000 := (by have := HS2.out; omega); clear hr; have hb2 := hb1.trans (hc.mono hb1.size); clear hc)
    | (go_at_call 24; refine (plain_any s _ (by omega)).mono ?_; rw [HPL.out]; rintro e w3 ⟨rfl, rfl⟩)
    | (go_at_call 22; refine (alive_any _ (HM.out.next hb2)).mono ?_; rintro e w9 ⟨rfl, hc⟩; have hb9 := hb2.trans (hc.mono hb2.size)))
  go_ret
  exact ⟨rfl, hb9⟩

set_option maxHeartbeats 4000000 in
set_option maxRecDepth 100000 in
theorem plain_far (w : World) (s : Bytes) (hs : s.length ≤ 140737488351232) (a : Option Addr) (c : Nat) (l : List Two) (hA : At w 2 encT a l) (hn : l.length ≤ 140737488351232) (hG : ∀ x ∈ l, x.name.length ≤ 140737488351232 ∧ x.value.length ≤ 140737488351232) (nm : Bytes) (hnm : nm.length ≤ 140737488351232) (hM : MaxOk w) (h1 : s.length ≤ 10000) (h2 : sizeA l ≤ 70000) (hp : plainB s = true) (hbe : beyondB nm.length = true) :
    Calls Tryz.prog 4 #[.string ⟨s.toArray⟩, .slice a l.length c, .string ⟨nm.toArray⟩] w fun e w' => e = .returned (.bool true) ∧ Below w.heap.size w w' := by
  have HSZ := Lib.hid (fun w hA => attrsSize_any a c l w hn hA hG)
  have HA := Lib.hid hA
  have HM := Lib.hid hM
  have HS2 := Lib.hid h2
  have HPL := Lib.hid hp
  have HBE := Lib.hid hbe
  clear h2 hp hbe
  clear hA hM
  go_enter Tryz.func4, Tryz.ntmps4
  go_wp2_with (first
    | (go_at_call 22; refine (alive_any _ HM.out).mono ?_; rintro e w1 ⟨rfl, hb1⟩)
    | (go_at_call 23; refine (HSZ.out _ (HA.out.below hb1)).mono ?_; rintro e w2 ⟨⟨r, rfl, hr⟩, hc⟩; have h3 : r ≤ 70000 := (by have := HS2.out; omega); clear hr; have hb2 := hb1.trans (hc.mono hb1.size); clear hc)
    | (go_at_call 24; refine (plain_any s _ (by omega)).mono ?_; rw [HPL.out]; rintro e w3 ⟨rfl, rfl⟩)
    | (go_at_call 10; refine (beyond1 nm.length w2.heap.size _ (by simp) hnm).mono ?_; rw [HBE.out]; rintro e w4 ⟨rfl, rfl⟩; have hb4 := hb2.alloc hb2.size (.cells #[.int .i64 (nm.length : Nat)] 3))
    | (go_at_call 22; refine (alive_any _ (HM.out.next hb4)).mono ?_; rintro e w9 ⟨rfl, hc⟩; have hb9 := hb4.trans (hc.mono hb4.size)))
  go_ret
  exact ⟨rfl, hb9⟩

set_option maxHeartbeats 4000000 in
set_option maxRecDepth 100000 in
theorem plain_main (w : World) (s : Bytes) (hs : s.length ≤ 140737488351232) (a : Option Addr) (c : Nat) (l : List Two) (hA : At w 2 encT a l) (hn : l.length ≤ 140737488351232) (hG : ∀ x ∈ l, x.name.length ≤ 140737488351232 ∧ x.value.length ≤ 140737488351232) (nm : Bytes) (hnm : nm.length ≤ 140737488351232) (hM : MaxOk w) (h1 : s.length ≤ 10000) (h2 : sizeA l ≤ 70000) (hp : plainB s = true) (hbe : beyondB nm.length = false) :
    Calls Tryz.prog 4 #[.string ⟨s.toArray⟩, .slice a l.length c, .string ⟨nm.toArray⟩] w fun e w' => e = .returned (.bool true) ∧ Below w.heap.size w w' := by
  have HSZ := Lib.hid (fun w hA => attrsSize_any a c l w hn hA hG)
  have HA := Lib.hid hA
  have HM := Lib.hid hM
  have HS2 := Lib.hid h2
  have HPL := Lib.hid hp
  have HBE := Lib.hid hbe
  obtain ⟨hl1, hl2⟩ := sizeA_le h2
  have HL2 := Lib.hid hl2
  have HRD := Lib.hid (readP_plain l nm s hp h1 h2)
  have hll := linesP_le s
  clear h2 hp hbe hl2
  clear hA hM
  go_enter Tryz.func4, Tryz.ntmps4
  go_wp2_with (first
    | (go_at_call 22; refine (alive_any _ HM.out).mono ?_; rintro e w1 ⟨rfl, hb1⟩)
    | (go_at_call 23; refine (HSZ.out _ (HA.out.below hb1)).mono ?_; rintro e w2 ⟨⟨r, rfl, hr⟩, hc⟩; have h3 : r ≤ 70000 := (by have := HS2.out; omega); clear hr; have hb2 := hb1.trans (hc.mono hb1.size); clear hc)
    | (go_at_call 24; refine (plain_any s _ (by omega)).mono ?_; rw [HPL.out]; rintro e w3 ⟨rfl, rfl⟩)
    | (go_at_call 10; refine (beyond1 nm.length w2.heap.size _ (by simp) hnm).mono ?_; rw [HBE.out]; rintro e w4 ⟨rfl, rfl⟩; have hb4 := hb2.alloc hb2.size (.cells #[.int .i64 (nm.length : Nat)] 3))
    | (go_at_call 26; refine Hold.out ?_))
  constructor
  refine (src_any _ _ _).mono ?_
  rintro e w5 ⟨rfl, hc⟩
  have hb5 := hb4.trans (hc.mono hb4.size)
  clear hc
  go_wp2_with (first
    | (go_at_call 25; refine Hold.out ?_))
  constructor
  refine gen_calls fun W6 hW => ?_
  have hBL6 : Bk W6 w5.heap.size ((([⟨nm, s⟩] : List Two)).flatMap encT) 63 := by rw [hW]; exact Bk.new w5 _ _
  have hb6 : Below w.heap.size w W6 := by rw [hW]; exact hb5.alloc hb5.size _
  clear hW
  refine (read_ans (some ⟨w5.heap.size, 0, none⟩) 1 [⟨nm, s⟩] a c l nm s _ (At.ofBk encT_ok hBL6) (fun b off e => by cases e; exact hBL6.lt) (by simp) (HA.out.below hb6) (by omega) (fun x hx => by have := HL2.out x hx; omega) (HM.out.next hb6) (by simp [srcL]) _ HRD.out ⟨by simp, fun x hx => absurd hx (List.not_mem_nil)⟩).mono ?_
  rintro e w7 ⟨⟨u0, u1, u2, u3, rfl, h0, h1', h2', h3'⟩, hc⟩
  rw [sortB_nil] at h3'
  obtain ⟨aa, ka, hv⟩ := h0.shape
  rw [numbered_len] at hv
  subst hv
  obtain ⟨ab, kb, rfl⟩ := h1'.shape
  obtain ⟨gc, kc, rfl, hgc⟩ := h2'.ptrN 0 rfl
  obtain ⟨ad, kd, rfl⟩ := h3'.shape
  have hb7 := hb6.trans (hc.mono hb6.size)
  have HL7 : Hid (At w7 3 encL aa (numbered nm 0 (linesP s))) := by have h9 := h0; rw [← numbered_len nm (linesP s) 0] at h9; exact h9.addr encL_ok
  have HC7 := Lib.hid h2'
  clear h0 h1' h2' h3' hc hBL6
  go_wp2_with (first
    | (go_at_call 13; refine (lines_any s _ (by omega) (HM.out.next hb7)).mono ?_; rintro e w8 ⟨⟨vl, rfl, hOl⟩, hc⟩; obtain ⟨al, cl, rfl⟩ := hOl.shape; have hb8 := hb7.trans (hc.mono hb7.size); have HO8 := Lib.hid hOl; have HL8 := Lib.hid (HL7.out.below hc); have HC8 := Lib.hid (HC7.out.next rfl hc); clear hOl hc)
    | (go_at_call 27; refine (same_any aa ka al cl nm (linesP s) _ (by omega) HL8.out (HO8.out.addr encS_ok)).mono ?_; rintro e w9 ⟨rfl, hc⟩; have hb9 := hb8.trans (hc.mono hb8.size); have HC9 := Lib.hid (HC8.out.next rfl hc); clear hc; have hcell : w9.cell? ⟨gc, 0, none⟩ = some (.string ⟨nm.toArray⟩) := HC9.out.cellAt encS_ok (k := 0) (j := 0) rfl rfl))
  go_ret
  exact ⟨rfl, hb9⟩

theorem walk_AheadPlain (w : World) (s : Bytes) (hs : s.length ≤ reachBytes) (a : Option Addr) (c : Nat) (l : List Two) (hA : At w 2 encT a l) (hn : l.length ≤ 140737488351232) (hG : ∀ x ∈ l, x.name.length ≤ reachBytes ∧ x.value.length ≤ reachBytes) (nm : Bytes) (hnm : nm.length ≤ reachBytes) (hM : MaxOk w) :
    Calls Tryz.prog 4 #[.string ⟨s.toArray⟩, .slice a l.length c, .string ⟨nm.toArray⟩] w fun e w' => e = .returned (.bool true) ∧ Below w.heap.size w w' := by
  have hs' : s.length ≤ 140737488351232 := hs
  have hnm' : nm.length ≤ 140737488351232 := hnm
  have hG' : ∀ x ∈ l, x.name.length ≤ 140737488351232 ∧ x.value.length ≤ 140737488351232 := hG
  by_cases h1 : 10000 < s.length
  · exact plain_long w s hs' a c l hA hn hG' nm hnm' hM h1
  by_cases h2 : 70000 < sizeA l
  · exact plain_size w s hs' a c l hA hn hG' nm hnm' hM (by omega) h2
  cases hp : plainB s
  · exact plain_not w s hs' a c l hA hn hG' nm hnm' hM (by omega) (by omega) hp
  cases hbe : beyondB nm.length
  · exact plain_main w s hs' a c l hA hn hG' nm hnm' hM (by omega) (by omega) hp hbe
  · exact plain_far w s hs' a c l hA hn hG' nm hnm' hM (by omega) (by omega) hp hbe
end Go.Proofs.YtfedkhicckgjaaaGreatDoor
