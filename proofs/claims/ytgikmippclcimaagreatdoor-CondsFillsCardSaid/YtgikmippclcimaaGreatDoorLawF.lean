/- The law CondsFills, walked. -/
import Derived.Test.YtgikmippclcimaaGreatDoorRFill
import Derived.Test.YtgikmippclcimaaGreatDoorSameS
import Derived.Test.YtgikmippclcimaaGreatDoorSize
import Derived.Test.YtgikmippclcimaaGreatDoorTwinA
import Derived.Test.YtgikmippclcimaaGreatDoorBkStart
namespace Go.Proofs.YtgikmippclcimaaGreatDoor
open Go.RowKit
set_option linter.unusedVariables false

theorem reach_le {n : Nat} (h : n ≤ reachBytes) : n ≤ 140737488351232 := h
theorem parseF_len : ∀ (f : Nat) (s : Bytes), (parseF f s).length ≤ f
  | 0, _ => by simp [parseF]
  | f + 1, [] => by simp [parseF]
  | f + 1, c :: r => by
    unfold parseF
    split
    · rw [List.length_cons]; exact Nat.succ_le_succ (parseF_len f _)
    · rw [List.length_cons]; exact Nat.succ_le_succ (parseF_len f _)
theorem foldN_len : ∀ (ys acc : List Bytes), (ys.foldl addN acc).length ≤ acc.length + ys.length
  | [], acc => by simp
  | y :: ys, acc => by
    rw [List.foldl_cons, List.length_cons]
    have := foldN_len ys (addN acc y)
    have := addN_len1 acc y
    omega
theorem fillN_len (s : Bytes) : (fillN s).length ≤ s.length := by
  unfold fillN
  have h1 := foldN_len (asksOf s) []
  have h2 : (asksOf s).length ≤ (parse s).length := List.length_filterMap_le _ _
  have h3 := parseF_len s.length s
  unfold parse at h2
  simp only [List.length_nil] at h1
  omega
theorem Bun.otherA {B kb : Nat} {C : List Value} {vt va : Value} {ht ha : List HeldV} {LT : Nat → List Bytes} {LA : Nat → List Two} {mt lt ma la : Prop} {w0 w w' : World} (h : Bun B kb C vt va ht ha LT LA mt lt ma la w0 w) (hk : Kept (fun g => g = kb ∨ va.ownBlock = some g) w w')
    {B' : Nat} {v : Value} {l : List Two} (hl : Own w B' 59 2 encT v l) : Own w' B' 59 2 encT v l := hk.own hl fun g hg hs => by
  obtain ⟨c1, k⟩ := hl.kind g hg
  rcases hs with rfl | e
  · exact KindIn.not_bk (E := 59) (HT := 59) (by decide) (by decide) h.bk ⟨c1, .inl k⟩
  · obtain ⟨cur, hc⟩ := h.pa.own.kind g e
    rw [hc] at k
    injection k with k
    injection k with _ k _
    exact absurd k (by decide)
theorem Bun.otherT {B kb : Nat} {C : List Value} {vt va : Value} {ht ha : List HeldV} {LT : Nat → List Bytes} {LA : Nat → List Two} {mt lt ma la : Prop} {w0 w w' : World} (h : Bun B kb C vt va ht ha LT LA mt lt ma la w0 w) (hk : Kept (fun g => g = kb ∨ vt.ownBlock = some g) w w')
    {B' : Nat} {v : Value} {l : List Bytes} (hl : Own w B' 9 1 encS v l) : Own w' B' 9 1 encS v l := hk.own hl fun g hg hs => by
  obtain ⟨c1, k⟩ := hl.kind g hg
  rcases hs with rfl | e
  · exact KindIn.not_bk (E := 9) (HT := 9) (by decide) (by decide) h.bk ⟨c1, .inl k⟩
  · obtain ⟨cur, hc⟩ := h.pt.own.kind g e
    rw [hc] at k
    injection k with k
    injection k with _ k _
    exact absurd k (by decide)
theorem Bun.otherTA {B kb : Nat} {C : List Value} {vt va : Value} {ht ha : List HeldV} {LT : Nat → List Bytes} {LA : Nat → List Two} {mt lt ma la : Prop} {w0 w w' : World} (h : Bun B kb C vt va ht ha LT LA mt lt ma la w0 w) (hk : Kept (fun g => g = kb ∨ va.ownBlock = some g) w w')
    {B' : Nat} {v : Value} {l : List Bytes} (hl : Own w B' 9 1 encS v l) : Own w' B' 9 1 encS v l := hk.own hl fun g hg hs => by
  obtain ⟨c1, k⟩ := hl.kind g hg
  rcases hs with rfl | e
  · exact KindIn.not_bk (E := 9) (HT := 9) (by decide) (by decide) h.bk ⟨c1, .inl k⟩
  · obtain ⟨cur, hc⟩ := h.pa.own.kind g e
    rw [hc] at k
    injection k with k
    injection k with _ k _
    exact absurd k (by decide)
theorem not_hs1 {x : HeldV} {g : Nat} (h : x.v.ownBlock ≠ some g) : ¬ HS ([] ++ [x]) g := by
  rintro ⟨j, hj, e⟩
  simp at hj
  subst hj
  exact h e

set_option maxHeartbeats 4000000 in
set_option maxRecDepth 100000 in
theorem walk_CondsFills (w : World) (a : Option Addr) (c : Nat) (l : List Two) (hA : At w 2 encT a l) (hn : l.length ≤ 140737488351232) (hG : ∀ x ∈ l, x.name.length ≤ reachBytes ∧ x.value.length ≤ reachBytes) (s : Bytes) (hs : s.length ≤ reachBytes) :
    Calls Tryz.prog 5 #[.slice a l.length c, .string ⟨s.toArray⟩] w fun e w' => e = .returned (.bool true) ∧ Below w.heap.size w w' := by
  have hs' := reach_le hs
  have hG' : ∀ x ∈ l, x.name.length ≤ 140737488351232 ∧ x.value.length ≤ 140737488351232 := hG
  have HGR := Lib.hid (great_any a c l s w hn hA hG' hs')
  have HA := Lib.hid hA
  clear hA hG hG'
  go_enter Tryz.func5, Tryz.ntmps5
  go_wp2_with fail
  refine HGR.out.mono ?_
  rintro e w1 ⟨rfl, hb1⟩
  cases hgr : greatB l s
  rotate_left
  · go_wp2_with fail
    go_ret
    exact ⟨rfl, hb1⟩
  by_cases h3k : s.length ≤ 3000
  rotate_left
  · go_wp2_with fail
    go_ret
    exact ⟨rfl, hb1⟩
  obtain ⟨h1, h2, h3⟩ := greatB_false hgr
  have hv3 : ∀ x ∈ l, x.value.length ≤ 100000 := fun x hx => by have := h3 x hx; omega
  have HV := Lib.hid hv3
  have hR := fillN_len s
  clear h3 hv3
  have HA := Lib.hid (HA.out.below hb1)
  go_wp2_with fail
  refine (twinAttrs_any a c l _ (by omega) HA.out).mono ?_
  rintro e w2 ⟨⟨g, rfl, hg, hown⟩, hc⟩
  have hb2 := hb1.trans (hc.mono hb1.size)
  have HA := Lib.hid (HA.out.below hc)
  have HT := Lib.hid hown
  have HL := Lib.hid ((Own.cut encT_ok hown rfl rfl).mono hb1.size)
  clear hown hc
  go_wp2_with fail
  refine (fill_any (some ⟨g, 0, none⟩) (l.length + 1) l s _ (by omega) (by omega) (HL.out.addr encT_ok) HV.out).mono ?_
  rintro e w3 ⟨⟨ra, rfl, hOa⟩, hc⟩
  obtain ⟨xa, ca, rfl⟩ := hOa.shape
  have haB := hOa.block
  have hb3 := hb2.trans (hc.mono hb2.size)
  have HA := Lib.hid (HA.out.below hc)
  have HL := Lib.hid (HL.out.next rfl hc)
  have HT := Lib.hid (HT.out.next rfl hc)
  have HOa := Lib.hid (hOa.mono hb2.size)
  have HaB := Lib.hid haB
  clear hc hOa haB
  go_wp2_with fail
  refine (fill_any (some ⟨g, 0, none⟩) (l.length + 1) l s _ (by omega) (by omega) (HL.out.addr encT_ok) HV.out).mono ?_
  rintro e w4 ⟨⟨rb, rfl, hOb⟩, hc⟩
  obtain ⟨xb, cb, rfl⟩ := hOb.shape
  have hbB := hOb.block
  have hb4 := hb3.trans (hc.mono hb3.size)
  have HA := Lib.hid (HA.out.below hc)
  have HL := Lib.hid (HL.out.next rfl hc)
  have HT := Lib.hid (HT.out.next rfl hc)
  have HOa := Lib.hid (HOa.out.next rfl hc)
  have HOb := Lib.hid (hOb.mono hb3.size)
  have HbB := Lib.hid hbB
  clear hc hOb hbB
  go_wp2_with fail
  refine (rfill_any a c l s _ (by omega) (by omega) HA.out HV.out).mono ?_
  rintro e w5 ⟨⟨rc, rfl, hOc⟩, hc⟩
  obtain ⟨xc, cc, rfl⟩ := hOc.shape
  have hb5 := hb4.trans (hc.mono hb4.size)
  have HOc := Lib.hid hOc
  have HA := Lib.hid (HA.out.below hc)
  have HL := Lib.hid (HL.out.next rfl hc)
  have HT := Lib.hid (HT.out.next rfl hc)
  have HOa := Lib.hid (HOa.out.next rfl hc)
  have HOb := Lib.hid (HOb.out.next rfl hc)
  clear hc hOc
  go_wp2_with fail
  refine (sameTexts_any xa ca xc cc (fillN s) _ (by omega) (HOa.out.addr encS_ok) (HOc.out.addr encS_ok)).mono ?_
  rintro e w6 ⟨rfl, hc⟩
  have hb6 := hb5.trans (hc.mono hb5.size)
  have HA := Lib.hid (HA.out.below hc)
  have HOc := Lib.hid (HOc.out.next rfl hc)
  have HL := Lib.hid (HL.out.next rfl hc)
  have HT := Lib.hid (HT.out.next rfl hc)
  have HOa := Lib.hid (HOa.out.next rfl hc)
  have HOb := Lib.hid (HOb.out.next rfl hc)
  clear hc
  go_wp2_with fail
  refine (sameTexts_any xb cb xc cc (fillN s) _ (by omega) (HOb.out.addr encS_ok) (HOc.out.addr encS_ok)).mono ?_
  rintro e w7 ⟨rfl, hc⟩
  have hb7 := hb6.trans (hc.mono hb6.size)
  have HA := Lib.hid (HA.out.below hc)
  have HOc := Lib.hid (HOc.out.next rfl hc)
  have HL := Lib.hid (HL.out.next rfl hc)
  have HT := Lib.hid (HT.out.next rfl hc)
  have HOa := Lib.hid (HOa.out.next rfl hc)
  have HOb := Lib.hid (HOb.out.next rfl hc)
  clear hc
  go_wp2_with fail
  refine (leftAttrs_any g a c l _ (by omega) (HT.out.addr encT_ok) HA.out).mono ?_
  rintro e w8 ⟨rfl, hc⟩
  have hb8 := hb7.trans (hc.mono hb7.size)
  have HA := Lib.hid (HA.out.below hc)
  have HOc := Lib.hid (HOc.out.next rfl hc)
  have HL := Lib.hid (HL.out.next rfl hc)
  have HT := Lib.hid (HT.out.next rfl hc)
  have HOa := Lib.hid (HOa.out.next rfl hc)
  have HOb := Lib.hid (HOb.out.next rfl hc)
  clear hc
  go_wp2_with fail
  have HS0 := Lib.hid (Bun.start w.heap.size w8 hb8.size #[.int .i64 0, .slice none 0 0, .slice none 0 0, .slice none 0 0, .slice none 0 0, .slice none 0 0, .slice none 0 0, .slice none 0 0, .slice none 0 0, .slice none 0 0, .slice none 0 0, .slice none 0 0, .slice none 0 0, .slice none 0 0, .slice none 0 0, .slice none 0 0, .slice none 0 0, .slice none 0 0] rfl)
  have HOa := Lib.hid (HOa.out.alloc (.cells #[.int .i64 0, .slice none 0 0, .slice none 0 0, .slice none 0 0, .slice none 0 0, .slice none 0 0, .slice none 0 0, .slice none 0 0, .slice none 0 0, .slice none 0 0, .slice none 0 0, .slice none 0 0, .slice none 0 0, .slice none 0 0, .slice none 0 0, .slice none 0 0, .slice none 0 0, .slice none 0 0] 47))
  have HOb := Lib.hid (HOb.out.alloc (.cells #[.int .i64 0, .slice none 0 0, .slice none 0 0, .slice none 0 0, .slice none 0 0, .slice none 0 0, .slice none 0 0, .slice none 0 0, .slice none 0 0, .slice none 0 0, .slice none 0 0, .slice none 0 0, .slice none 0 0, .slice none 0 0, .slice none 0 0, .slice none 0 0, .slice none 0 0, .slice none 0 0] 47))
  have HL := Lib.hid (HL.out.alloc (.cells #[.int .i64 0, .slice none 0 0, .slice none 0 0, .slice none 0 0, .slice none 0 0, .slice none 0 0, .slice none 0 0, .slice none 0 0, .slice none 0 0, .slice none 0 0, .slice none 0 0, .slice none 0 0, .slice none 0 0, .slice none 0 0, .slice none 0 0, .slice none 0 0, .slice none 0 0, .slice none 0 0] 47))
  refine (Attrs_any _ _ 0 _ _ _ _ _ _ _ _ _ HS0.out newBook_len newBook_0 (by decide) (by simp) _ _ _ l HL.out (by omega) (by rintro g1 _ ⟨j, hj, _⟩; simp at hj)).mono ?_
  rintro e w9 ⟨⟨rfl, C1, v1, hl1, h01, hB1⟩, hk1⟩
  have HOa := Lib.hid (HS0.out.otherTA hk1 HOa.out)
  have HOb := Lib.hid (HS0.out.otherTA hk1 HOb.out)
  have HB1 := Lib.hid hB1
  clear hB1 hk1
  go_wp2_with fail
  refine (Texts_any _ _ 1 _ _ _ _ _ _ _ _ _ HB1.out hl1 h01 (by decide) (by simp) _ _ _ (fillN s) HOa.out (by omega) (by rintro g1 _ ⟨j, hj, _⟩; simp at hj)).mono ?_
  rintro e w10 ⟨⟨rfl, C2, v2, hl2, h02, hB2⟩, hk2⟩
  have HOb := Lib.hid (HB1.out.otherT hk2 HOb.out)
  have HB2 := Lib.hid hB2
  clear hB2 hk2
  go_wp2_with fail
  refine (Texts_any _ _ 2 _ _ _ _ _ _ _ _ _ HB2.out hl2 h02 (by decide) (by simp) _ _ _ (fillN s) HOb.out (by omega) (fun g1 hg1 => not_hs1 (fun e => by have h1 := (HbB.out g1 hg1).1; have h2 := (HaB.out g1 e).2; omega))).mono ?_
  rintro e w11 ⟨⟨rfl, C3, v3, hl3, h03, hB3⟩, hk3⟩
  have HB3 := Lib.hid hB3
  clear hB3 hk3
  go_wp2_with fail
  refine (Apart_any _ _ _ _ _ _ _ _ _ _ _ HB3.out).mono ?_
  rintro e w12 ⟨rfl, hb12⟩
  go_wp2_with fail
  go_ret
  exact ⟨rfl, hb8.trans hb12⟩
end Go.Proofs.YtgikmippclcimaaGreatDoor
