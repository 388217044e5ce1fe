/- The law SlugsUnlikes, walked. -/
import Derived.Test.YtofphojcfjkjhaaGreatDoorRUnlike
import Derived.Test.YtofphojcfjkjhaaGreatDoorTwinX
import Derived.Test.YtofphojcfjkjhaaGreatDoorTSize
import Derived.Test.YtofphojcfjkjhaaGreatDoorSameS
import Derived.Test.YtofphojcfjkjhaaGreatDoorBkStart
namespace Go.Proofs.YtofphojcfjkjhaaGreatDoor
open Go.RowKit
set_option linter.unusedVariables false

theorem reach_le {n : Nat} (h : n ≤ reachBytes) : n ≤ 140737488351232 := h
theorem Bun.otherT {B kb : Nat} {C : List Value} {vt va : Value} {ht ha : List HeldV} {LT : Nat → List Bytes} {LA : Nat → List Two} {mt lt ma la : Prop} {w0 w w' : World} (h : Bun B kb C vt va ht ha LT LA mt lt ma la w0 w) (hk : Kept (fun g => g = kb ∨ vt.ownBlock = some g) w w')
    {B' : Nat} {v : Value} {l : List Bytes} (hl : Own w B' 9 1 encS v l) : Own w' B' 9 1 encS v l := hk.own hl fun g hg hs => by
  obtain ⟨c1, k⟩ := hl.kind g hg
  rcases hs with rfl | e
  · exact KindIn.not_bk (E := 9) (HT := 9) (by decide) (by decide) h.bk ⟨c1, .inl k⟩
  · obtain ⟨cur, hc⟩ := h.pt.own.kind g e
    rw [hc] at k
    injection k with k
    injection k with _ k _
    exact absurd k (by decide)
theorem not_hs1 {x : HeldV} {g : Nat} (h : x.v.ownBlock ≠ some g) : ¬ HS ([] ++ [x]) g := by
  rintro ⟨j, hj, e⟩
  simp at hj
  subst hj
  exact h e
theorem not_hs2 {x y : HeldV} {g : Nat} (h : x.v.ownBlock ≠ some g) (h2 : y.v.ownBlock ≠ some g) : ¬ HS (([] ++ [x]) ++ [y]) g := by
  rintro ⟨j, hj, e⟩
  simp at hj
  match j, hj with
  | 0, _ => exact h e
  | 1, _ => exact h2 e

set_option maxHeartbeats 4000000 in
set_option maxRecDepth 100000 in
theorem walk_SlugsUnlikes (w : World) (a : Option Addr) (c : Nat) (l : List Bytes) (hA : At w 1 encS a l) (hn : l.length ≤ 140737488351232) (hG : ∀ x ∈ l, x.length ≤ reachBytes) (htab : HasTab w) :
    Calls Tryz.prog 3 #[.slice a l.length c] w fun e w' => e = .returned (.bool true) ∧ Below w.heap.size w w' := by
  have hG' : ∀ x ∈ l, x.length ≤ 140737488351232 := hG
  have HTS := Lib.hid (textsSize_any a c l w hn hA hG')
  have HA := Lib.hid hA
  have HTB := Lib.hid htab
  clear hA hG hG' htab
  go_enter Tryz.func3, Tryz.ntmps3
  by_cases h200 : l.length ≤ 200
  rotate_left
  · go_wp2_with fail
    go_ret
    exact ⟨rfl, Below.refl _ _⟩
  go_wp2_with fail
  refine HTS.out.mono ?_
  rintro e w1 ⟨⟨r, rfl, hr⟩, hb1⟩
  by_cases hbig : 20000 < r
  · go_wp2_with fail
    go_ret
    exact ⟨rfl, hb1⟩
  have hsz : ∀ x ∈ l, x.length ≤ 20000 := by
    intro x hx
    have := sizeT_mem hx
    rcases hr with hr | ⟨hr, _⟩ <;> omega
  have hU : (unlike l).length ≤ 200 := by rw [unlike_len]; exact h200
  have HSZ := Lib.hid (fun x hx => Nat.le_trans (hsz x hx) (by omega : 20000 ≤ 1000000))
  clear hsz hr
  have HA := Lib.hid (HA.out.below hb1)
  go_wp2_with fail
  refine (twinTexts_any a c l _ (by omega) HA.out).mono ?_
  rintro e w2 ⟨⟨g, rfl, hg, hown⟩, hc⟩
  have hb2 := hb1.trans (hc.mono hb1.size)
  have HA := Lib.hid (HA.out.below hc)
  have HT := Lib.hid hown
  have hTl : g < w2.heap.size := (hown.block g rfl).2
  have HL := Lib.hid ((Own.cut encS_ok hown rfl rfl).mono hb1.size)
  clear hown hc
  go_wp2_with fail
  refine (unlike_any (some ⟨g, 0, none⟩) (l.length + 1) l _ (by omega) HSZ.out (HL.out.addr encS_ok) (HTB.out.below hb2)).mono ?_
  rintro e w3 ⟨⟨ra, rfl, hOa⟩, hc⟩
  obtain ⟨xa, ca, rfl⟩ := hOa.shape
  have hAb := hOa.block
  have hb3 := hb2.trans (hc.mono hb2.size)
  have hz23 := hc.size
  have HA := Lib.hid (HA.out.below hc)
  have HL := Lib.hid (HL.out.next rfl hc)
  have HT := Lib.hid (HT.out.next rfl hc)
  have HOa := Lib.hid (hOa.mono hb2.size)
  have HAb := Lib.hid hAb
  clear hc hOa hAb
  go_wp2_with fail
  refine (unlike_any (some ⟨g, 0, none⟩) (l.length + 1) l _ (by omega) HSZ.out (HL.out.addr encS_ok) (HTB.out.below hb3)).mono ?_
  rintro e w4 ⟨⟨rb, rfl, hOb⟩, hc⟩
  obtain ⟨xb, cb, rfl⟩ := hOb.shape
  have hBb := hOb.block
  have HOb := Lib.hid (hOb.mono hb3.size)
  have HBb := Lib.hid hBb
  have hb4 := hb3.trans (hc.mono hb3.size)
  have HA := Lib.hid (HA.out.below hc)
  have HL := Lib.hid (HL.out.next rfl hc)
  have HT := Lib.hid (HT.out.next rfl hc)
  have HOa := Lib.hid (HOa.out.next rfl hc)
  clear hc hOb hBb
  go_wp2_with fail
  refine (runlike_any a c l _ (by omega) HSZ.out HA.out).mono ?_
  rintro e w5 ⟨⟨rc, rfl, hOc⟩, hc⟩
  obtain ⟨xc, cc, rfl⟩ := hOc.shape
  have hb5 := hb4.trans (hc.mono hb4.size)
  have HOc := Lib.hid hOc
  have HA := Lib.hid (HA.out.below hc)
  have HL := Lib.hid (HL.out.next rfl hc)
  have HT := Lib.hid (HT.out.next rfl hc)
  have HOa := Lib.hid (HOa.out.next rfl hc)
  have HOb := Lib.hid (HOb.out.next rfl hc)
  clear hc hOc
  go_wp2_with fail
  refine (sameTexts_any xa ca xc cc (unlike l) _ (by omega) (HOa.out.addr encS_ok) (HOc.out.addr encS_ok)).mono ?_
  rintro e w6 ⟨rfl, hc⟩
  have hb6 := hb5.trans (hc.mono hb5.size)
  have HA := Lib.hid (HA.out.below hc)
  have HOc := Lib.hid (HOc.out.next rfl hc)
  have HL := Lib.hid (HL.out.next rfl hc)
  have HT := Lib.hid (HT.out.next rfl hc)
  have HOa := Lib.hid (HOa.out.next rfl hc)
  have HOb := Lib.hid (HOb.out.next rfl hc)
  clear hc
  go_wp2_with fail
  refine (sameTexts_any xb cb xa ca (unlike l) _ (by omega) (HOb.out.addr encS_ok) (HOa.out.addr encS_ok)).mono ?_
  rintro e w7 ⟨rfl, hc⟩
  have hb7 := hb6.trans (hc.mono hb6.size)
  have HA := Lib.hid (HA.out.below hc)
  have HOc := Lib.hid (HOc.out.next rfl hc)
  have HL := Lib.hid (HL.out.next rfl hc)
  have HT := Lib.hid (HT.out.next rfl hc)
  have HOa := Lib.hid (HOa.out.next rfl hc)
  have HOb := Lib.hid (HOb.out.next rfl hc)
  clear hc
  go_wp2_with fail
  refine (leftTexts_any g a c l _ (by omega) (HT.out.addr encS_ok) HA.out).mono ?_
  rintro e w8 ⟨rfl, hc⟩
  have hb8 := hb7.trans (hc.mono hb7.size)
  have HA := Lib.hid (HA.out.below hc)
  have HOc := Lib.hid (HOc.out.next rfl hc)
  have HL := Lib.hid (HL.out.next rfl hc)
  have HT := Lib.hid (HT.out.next rfl hc)
  have HOa := Lib.hid (HOa.out.next rfl hc)
  have HOb := Lib.hid (HOb.out.next rfl hc)
  clear hc
  go_wp2_with fail
  have HS0 := Lib.hid (Bun.start w.heap.size w8 hb8.size #[.int .i64 0, .slice none 0 0, .slice none 0 0, .slice none 0 0, .slice none 0 0, .slice none 0 0, .slice none 0 0, .slice none 0 0, .slice none 0 0, .slice none 0 0, .slice none 0 0, .slice none 0 0, .slice none 0 0, .slice none 0 0, .slice none 0 0, .slice none 0 0, .slice none 0 0, .slice none 0 0] rfl)
  have HOa := Lib.hid (HOa.out.alloc (.cells #[.int .i64 0, .slice none 0 0, .slice none 0 0, .slice none 0 0, .slice none 0 0, .slice none 0 0, .slice none 0 0, .slice none 0 0, .slice none 0 0, .slice none 0 0, .slice none 0 0, .slice none 0 0, .slice none 0 0, .slice none 0 0, .slice none 0 0, .slice none 0 0, .slice none 0 0, .slice none 0 0] 44))
  have HOb := Lib.hid (HOb.out.alloc (.cells #[.int .i64 0, .slice none 0 0, .slice none 0 0, .slice none 0 0, .slice none 0 0, .slice none 0 0, .slice none 0 0, .slice none 0 0, .slice none 0 0, .slice none 0 0, .slice none 0 0, .slice none 0 0, .slice none 0 0, .slice none 0 0, .slice none 0 0, .slice none 0 0, .slice none 0 0, .slice none 0 0] 44))
  have HL := Lib.hid (HL.out.alloc (.cells #[.int .i64 0, .slice none 0 0, .slice none 0 0, .slice none 0 0, .slice none 0 0, .slice none 0 0, .slice none 0 0, .slice none 0 0, .slice none 0 0, .slice none 0 0, .slice none 0 0, .slice none 0 0, .slice none 0 0, .slice none 0 0, .slice none 0 0, .slice none 0 0, .slice none 0 0, .slice none 0 0] 44))
  refine (Texts_any _ _ 0 _ _ _ _ _ _ _ _ _ HS0.out newBook_len newBook_0 (by decide) (by simp) _ _ _ l HL.out (by omega) (by rintro g1 _ ⟨j, hj, _⟩; simp at hj)).mono ?_
  rintro e w9 ⟨⟨rfl, C1, v1, hl1, h01, hB1⟩, hk1⟩
  have HOa := Lib.hid (HS0.out.otherT hk1 HOa.out)
  have HOb := Lib.hid (HS0.out.otherT hk1 HOb.out)
  have HB1 := Lib.hid hB1
  clear hB1 hk1
  go_wp2_with fail
  refine (Texts_any _ _ 1 _ _ _ _ _ _ _ _ _ HB1.out hl1 h01 (by decide) (by simp) _ _ _ (unlike l) HOa.out (by omega) (fun g1 hg1 => not_hs1 (fun e => by have := (HAb.out g1 hg1).1; have e2 : g = g1 := Option.some.inj e; omega))).mono ?_
  rintro e w10 ⟨⟨rfl, C2, v2, hl2, h02, hB2⟩, hk2⟩
  have HOb := Lib.hid (HB1.out.otherT hk2 HOb.out)
  have HB2 := Lib.hid hB2
  clear hB2 hk2
  go_wp2_with fail
  refine (Texts_any _ _ 2 _ _ _ _ _ _ _ _ _ HB2.out hl2 h02 (by decide) (by simp) _ _ _ (unlike l) HOb.out (by omega) (fun g1 hg1 => not_hs2 (fun e => by have := (HBb.out g1 hg1).1; have e2 : g = g1 := Option.some.inj e; omega) (fun e => by have h1 := (HBb.out g1 hg1).1; have h2 := (HAb.out g1 e).2; omega))).mono ?_
  rintro e w11 ⟨⟨rfl, C3, v3, hl3, h03, hB3⟩, hk3⟩
  have HB3 := Lib.hid hB3
  clear hB3 hk3
  go_wp2_with fail
  refine (Apart_any _ _ _ _ _ _ _ _ _ _ _ HB3.out).mono ?_
  rintro e w12 ⟨rfl, hb12⟩
  go_wp2_with fail
  go_ret
  exact ⟨rfl, hb8.trans hb12⟩
end Go.Proofs.YtofphojcfjkjhaaGreatDoor
