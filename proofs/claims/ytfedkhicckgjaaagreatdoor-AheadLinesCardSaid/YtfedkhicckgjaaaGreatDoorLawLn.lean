/- The law AheadLines, walked. -/
import Derived.Test.YtfedkhicckgjaaaGreatDoorLinesW
import Derived.Test.YtfedkhicckgjaaaGreatDoorLinesLen
import Derived.Test.YtfedkhicckgjaaaGreatDoorFindS
import Derived.Test.YtfedkhicckgjaaaGreatDoorSameS
import Derived.Test.YtfedkhicckgjaaaGreatDoorTwinS
import Derived.Test.YtfedkhicckgjaaaGreatDoorBkStartS
import Derived.Test.YtfedkhicckgjaaaGreatDoorFrameC
namespace Go.Proofs.YtfedkhicckgjaaaGreatDoor
open Go.RowKit
set_option linter.unusedVariables false

theorem reach_le {n : Nat} (h : n ≤ reachBytes) : n ≤ 140737488351232 := h
theorem Bun.otherS {B kb : Nat} {C : List Value} {vt va : Value} {ht ha : List HeldV} {LT : Nat → List Bytes} {LA : Nat → List Two} {mt lt ma la : Prop} {w0 w w' : World} (h : Bun B kb C vt va ht ha LT LA mt lt ma la w0 w) (hk : Kept (fun g => g = kb ∨ va.ownBlock = some g) w w')
    {B' : Nat} {v : Value} {l : List Bytes} (hl : Own w B' 9 1 encS v l) : Own w' B' 9 1 encS v l := hk.own hl fun g hg hs => by
  obtain ⟨c1, k⟩ := hl.kind g hg
  rcases hs with rfl | e
  · exact KindIn.not_bk (E := 9) (HT := 9) (by decide) (by decide) h.bk ⟨c1, .inl k⟩
  · obtain ⟨cur, hc⟩ := h.pa.own.kind g e
    rw [hc] at k
    injection k with k
    injection k with _ k _
    exact absurd k (by decide)
theorem Bun.otherT {B kb : Nat} {C : List Value} {vt va : Value} {ht ha : List HeldV} {LT : Nat → List Bytes} {LA : Nat → List Two} {mt lt ma la : Prop} {w0 w w' : World} (h : Bun B kb C vt va ht ha LT LA mt lt ma la w0 w) (hk : Kept (fun g => g = kb ∨ vt.ownBlock = some g) w w')
    {B' : Nat} {v : Value} {l : List Bytes} (hl : Own w B' 9 1 encS v l) : Own w' B' 9 1 encS v l := hk.own hl fun g hg hs => by
  obtain ⟨c1, k⟩ := hl.kind g hg
  rcases hs with rfl | e
  · exact KindIn.not_bk (E := 9) (HT := 9) (by decide) (by decide) h.bk ⟨c1, .inl k⟩
  · obtain ⟨cur, hc⟩ := h.pt.own.kind g e
    rw [hc] at k
    injection k with k
    injection k with _ k _
    exact absurd k (by decide)
theorem not_hs1 {x : HeldV} {g : Nat} (h : x.v.ownBlock ≠ some g) : ¬ HS ([] ++ [x]) g := by
  rintro ⟨j, hj, e⟩
  simp at hj
  subst hj
  exact h e

set_option maxHeartbeats 4000000 in
set_option maxRecDepth 100000 in
theorem walk_AheadLines (w : World) (s : Bytes) (hs : s.length ≤ reachBytes) (a : Option Addr) (c : Nat) (l : List Two) (hA : At w 2 encT a l) (hn : l.length ≤ 140737488351232) (hG : ∀ x ∈ l, x.name.length ≤ reachBytes ∧ x.value.length ≤ reachBytes) (nm : Bytes) (hnm : nm.length ≤ reachBytes) (hM : MaxOk w) :
    Calls Tryz.prog 3 #[.string ⟨s.toArray⟩, .slice a l.length c, .string ⟨nm.toArray⟩] w fun e w' => e = .returned (.bool true) ∧ Below w.heap.size w w' := by
  have hs' := reach_le hs
  have hnm' := reach_le hnm
  have hG' : ∀ x ∈ l, x.name.length ≤ 140737488351232 ∧ x.value.length ≤ 140737488351232 := hG
  have HSZ := Lib.hid (fun w hA => sourcesSize_any a c l w hn hA hG')
  have HA := Lib.hid hA
  have HM := Lib.hid hM
  clear hA hG hG' hM hs hnm
  cases hbe : beyondB (s.length + nm.length)
  rotate_left
  · go_enter Tryz.func3, Tryz.ntmps3
    go_wp2_with fail
    refine (beyond2 s.length nm.length w.heap.size _ (by simp) (by simp) hs' hnm').mono ?_
    rw [hbe]
    rintro e w1 ⟨rfl, rfl⟩
    go_wp2_with fail
    go_ret
    exact ⟨rfl, (Below.refl _ _).alloc (Nat.le_refl _) _⟩
  have hbl := beyondB_le hbe
  by_cases hbig : 100000 < sizeS l
  · have H2 := Lib.hid hbig
    clear hbig
    go_enter Tryz.func3, Tryz.ntmps3
    go_wp2_with fail
    refine (beyond2 s.length nm.length w.heap.size _ (by simp) (by simp) hs' hnm').mono ?_
    rw [hbe]
    rintro e w1 ⟨rfl, rfl⟩
    go_wp2_with fail
    refine (HSZ.out _ (HA.out.below ((Below.refl _ _).alloc (Nat.le_refl _) _))).mono ?_
    rintro e w1 ⟨⟨r, rfl, hr⟩, hb⟩
    have h3 : 100000 < r := by have := H2.out; omega
    have HR := Lib.hid hr
    clear hr
    go_wp2_with fail
    go_ret
    exact ⟨rfl, ((Below.refl _ _).alloc (Nat.le_refl _) _).trans (hb.mono (by simp))⟩
  have hll : l.length ≤ 100000 := by unfold sizeS at hbig; omega
  have H2 := Lib.hid hbig
  have hL := linesP_le s
  have HBE := Lib.hid hbe
  clear hbig hbe
  go_enter Tryz.func3, Tryz.ntmps3
  go_wp2_with fail
  refine (beyond2 s.length nm.length w.heap.size _ (by simp) (by simp) hs' hnm').mono ?_
  rw [HBE.out]
  rintro e w1 ⟨rfl, rfl⟩
  have hb0 : Below w.heap.size w (w.alloc (.cells #[.int .i64 (s.length : Nat), .int .i64 (nm.length : Nat)] 3)) := (Below.refl _ _).alloc (Nat.le_refl _) _
  go_wp2_with fail
  refine (HSZ.out _ (HA.out.below hb0)).mono ?_
  rintro e w1 ⟨⟨r, rfl, hr⟩, hc⟩
  have h3 : r ≤ 100000 := by have := H2.out; omega
  have HR := Lib.hid hr
  have hb1 := hb0.trans (hc.mono hb0.size)
  have HA := Lib.hid (HA.out.below hb1)
  have HM := Lib.hid (HM.out.next hb1)
  clear hr hc hb0
  go_wp2_with fail
  refine (twinSources_any a c l _ (by omega) HA.out).mono ?_
  rintro e w2 ⟨⟨g, rfl, hg, hown⟩, hc⟩
  have hb2 := hb1.trans (hc.mono hb1.size)
  have HA := Lib.hid (HA.out.below hc)
  have HM := Lib.hid (HM.out.next hc)
  have HT := Lib.hid hown
  have HL := Lib.hid ((Own.cut encT_ok hown rfl rfl).mono hb1.size)
  clear hown hc
  go_wp2_with fail
  refine (lines_any s _ (by omega) HM.out).mono ?_
  rintro e w3 ⟨⟨ra, rfl, hOa⟩, hc⟩
  obtain ⟨xa, ca, rfl⟩ := hOa.shape
  have haB := hOa.block
  have hb3 := hb2.trans (hc.mono hb2.size)
  have HA := Lib.hid (HA.out.below hc)
  have HM := Lib.hid (HM.out.next hc)
  have HL := Lib.hid (HL.out.next rfl hc)
  have HT := Lib.hid (HT.out.next rfl hc)
  have HOa := Lib.hid (hOa.mono hb2.size)
  have HaB := Lib.hid haB
  clear hc hOa haB
  go_wp2_with fail
  refine (lines_any s _ (by omega) HM.out).mono ?_
  rintro e w4 ⟨⟨rb, rfl, hOb⟩, hc⟩
  obtain ⟨xb, cb, rfl⟩ := hOb.shape
  have hbB := hOb.block
  have hb4 := hb3.trans (hc.mono hb3.size)
  have HA := Lib.hid (HA.out.below hc)
  have HL := Lib.hid (HL.out.next rfl hc)
  have HT := Lib.hid (HT.out.next rfl hc)
  have HOa := Lib.hid (HOa.out.next rfl hc)
  have HOb := Lib.hid (hOb.mono hb3.size)
  have HbB := Lib.hid hbB
  clear hc hOb hbB
  go_wp2_with fail
  refine (find_any (some ⟨g, 0, none⟩) (l.length + 1) l nm _ (by omega) (HL.out.addr encT_ok)).mono ?_
  rintro e w5 ⟨rfl, hc⟩
  have hb5 := hb4.trans (hc.mono hb4.size)
  have HA := Lib.hid (HA.out.below hc)
  have HL := Lib.hid (HL.out.next rfl hc)
  have HT := Lib.hid (HT.out.next rfl hc)
  have HOa := Lib.hid (HOa.out.next rfl hc)
  have HOb := Lib.hid (HOb.out.next rfl hc)
  clear hc
  go_wp2_with fail
  refine (rfind_any a c l nm _ (by omega) HA.out).mono ?_
  rintro e w6 ⟨rfl, hc⟩
  have hb6 := hb5.trans (hc.mono hb5.size)
  have HA := Lib.hid (HA.out.below hc)
  have HL := Lib.hid (HL.out.next rfl hc)
  have HT := Lib.hid (HT.out.next rfl hc)
  have HOa := Lib.hid (HOa.out.next rfl hc)
  have HOb := Lib.hid (HOb.out.next rfl hc)
  clear hc
  go_wp2_with fail
  refine (rlines_any s _ (by omega)).mono ?_
  rintro e w7 ⟨⟨rc, rfl, hOc⟩, hc⟩
  obtain ⟨xc, cc, rfl⟩ := hOc.shape
  have hb7 := hb6.trans (hc.mono hb6.size)
  have HOc := Lib.hid hOc
  have HA := Lib.hid (HA.out.below hc)
  have HL := Lib.hid (HL.out.next rfl hc)
  have HT := Lib.hid (HT.out.next rfl hc)
  have HOa := Lib.hid (HOa.out.next rfl hc)
  have HOb := Lib.hid (HOb.out.next rfl hc)
  clear hc hOc
  go_wp2_with fail
  refine (sameTexts_any xa ca xc cc (linesP s) _ (by omega) (HOa.out.addr encS_ok) (HOc.out.addr encS_ok)).mono ?_
  rintro e w8 ⟨rfl, hc⟩
  have hb8 := hb7.trans (hc.mono hb7.size)
  have HA := Lib.hid (HA.out.below hc)
  have HL := Lib.hid (HL.out.next rfl hc)
  have HT := Lib.hid (HT.out.next rfl hc)
  have HOa := Lib.hid (HOa.out.next rfl hc)
  have HOb := Lib.hid (HOb.out.next rfl hc)
  clear hc HOc
  have hq1 : (srcV l nm == srcV l nm) = true := by simp
  have hq2 : (srcB l nm == srcB l nm) = true := by simp
  go_wp2_with fail
  refine (leftSources_any g a c l _ (by omega) (HT.out.addr encT_ok) HA.out).mono ?_
  rintro e w9 ⟨rfl, hc⟩
  have hb9 := hb8.trans (hc.mono hb8.size)
  have HL := Lib.hid (HL.out.next rfl hc)
  have HOa := Lib.hid (HOa.out.next rfl hc)
  have HOb := Lib.hid (HOb.out.next rfl hc)
  clear hc HT HA
  go_wp2_with fail
  have HS0 := Lib.hid (Bun.start w.heap.size w9 hb9.size #[.int .i64 0, .slice none 0 0, .slice none 0 0, .slice none 0 0, .slice none 0 0, .slice none 0 0, .slice none 0 0, .slice none 0 0, .slice none 0 0, .slice none 0 0, .slice none 0 0, .slice none 0 0, .slice none 0 0, .slice none 0 0, .slice none 0 0, .slice none 0 0, .slice none 0 0, .slice none 0 0] rfl)
  have HOa := Lib.hid (HOa.out.alloc (.cells #[.int .i64 0, .slice none 0 0, .slice none 0 0, .slice none 0 0, .slice none 0 0, .slice none 0 0, .slice none 0 0, .slice none 0 0, .slice none 0 0, .slice none 0 0, .slice none 0 0, .slice none 0 0, .slice none 0 0, .slice none 0 0, .slice none 0 0, .slice none 0 0, .slice none 0 0, .slice none 0 0] 50))
  have HOb := Lib.hid (HOb.out.alloc (.cells #[.int .i64 0, .slice none 0 0, .slice none 0 0, .slice none 0 0, .slice none 0 0, .slice none 0 0, .slice none 0 0, .slice none 0 0, .slice none 0 0, .slice none 0 0, .slice none 0 0, .slice none 0 0, .slice none 0 0, .slice none 0 0, .slice none 0 0, .slice none 0 0, .slice none 0 0, .slice none 0 0] 50))
  have HL := Lib.hid (HL.out.alloc (.cells #[.int .i64 0, .slice none 0 0, .slice none 0 0, .slice none 0 0, .slice none 0 0, .slice none 0 0, .slice none 0 0, .slice none 0 0, .slice none 0 0, .slice none 0 0, .slice none 0 0, .slice none 0 0, .slice none 0 0, .slice none 0 0, .slice none 0 0, .slice none 0 0, .slice none 0 0, .slice none 0 0] 50))
  refine (Sources_any _ _ 0 _ _ _ _ _ _ _ _ _ HS0.out newBook_len newBook_0 (by decide) (by simp) _ _ _ l HL.out (by omega) (by rintro g1 _ ⟨j, hj, _⟩; simp at hj)).mono ?_
  rintro e w10 ⟨⟨rfl, C1, v1, hl1, h01, hB1⟩, hk1⟩
  have HOa := Lib.hid (HS0.out.otherS hk1 HOa.out)
  have HOb := Lib.hid (HS0.out.otherS hk1 HOb.out)
  have HB1 := Lib.hid hB1
  clear hB1 hk1
  go_wp2_with fail
  refine (Texts_any _ _ 1 _ _ _ _ _ _ _ _ _ HB1.out hl1 h01 (by decide) (by simp) _ _ _ (linesP s) HOa.out (by omega) (by rintro g1 _ ⟨j, hj, _⟩; simp at hj)).mono ?_
  rintro e w11 ⟨⟨rfl, C2, v2, hl2, h02, hB2⟩, hk2⟩
  have HOb := Lib.hid (HB1.out.otherT hk2 HOb.out)
  have HB2 := Lib.hid hB2
  clear hB2 hk2
  go_wp2_with fail
  refine (Texts_any _ _ 2 _ _ _ _ _ _ _ _ _ HB2.out hl2 h02 (by decide) (by simp) _ _ _ (linesP s) HOb.out (by omega) (fun g1 hg1 => not_hs1 (fun e => by have h1 := (HbB.out g1 hg1).1; have h2 := (HaB.out g1 e).2; omega))).mono ?_
  rintro e w12 ⟨⟨rfl, C3, v3, hl3, h03, hB3⟩, hk3⟩
  have HB3 := Lib.hid hB3
  clear hB3 hk3
  go_wp2_with fail
  refine (Apart_any _ _ _ _ _ _ _ _ _ _ _ HB3.out).mono ?_
  rintro e w13 ⟨rfl, hb13⟩
  go_wp2_with fail
  go_ret
  exact ⟨rfl, hb9.trans hb13⟩
end Go.Proofs.YtfedkhicckgjaaaGreatDoor
