/- binderylaw13.alive. -/
import Derived.Test.YtofphojcfjkjhaaDoorOf
import Derived.Test.YtofphojcfjkjhaaDoorUnlike
import Derived.Test.YtofphojcfjkjhaaDoorSameS
namespace Go.Proofs.YtofphojcfjkjhaaDoor
open Go.RowKit
set_option linter.unusedVariables false

theorem at_built {α : Type} {sz : Nat} {enc : α → List Value} (he : ∀ x, (enc x).length = sz) (w : World) (C : Array Value) (t : TypeId) (l : List α) (h : C.toList = l.flatMap enc) : At (w.alloc (.cells C t)) sz enc (some ⟨w.heap.size, 0, none⟩) l := by
  refine .inr ⟨w.heap.size, 0, rfl, by simp, fun i x hi j v hj => ?_⟩
  have hb := Bk.new w C t
  rw [h] at hb
  rw [Nat.zero_add, hb.cell]
  have hjs : j < sz := by rw [← he x]; exact (List.getElem?_eq_some_iff.1 hj).1
  rw [flat_get he l i j hjs, hi]
  exact hj
theorem s_title : slugOf [65, 32, 84, 105, 116, 108, 101, 44, 32, 50] = [97, 45, 116, 105, 116, 108, 101, 45, 50] := by decide +kernel
theorem s_ab : slugOf [32, 45, 45, 97, 46, 46, 98, 45] = [97, 45, 98] := by decide +kernel
theorem s_nil : slugOf [] = [112, 97, 114, 116] := by decide +kernel
theorem s_e : slugOf [195, 169] = [112, 97, 114, 116] := by decide +kernel
theorem cand1 (s : Bytes) : cand s 1 = s ++ [45, 50] := by rw [cand_succ s (by decide), Lib.decDigits_one (by decide)]; rfl
theorem cand2 (s : Bytes) : cand s 2 = s ++ [45, 51] := by rw [cand_succ s (by decide), Lib.decDigits_one (by decide)]; rfl
theorem stepU_of {out : List Bytes} {s : Bytes} {j : Nat} (h : Free out s j) : stepU out s = out ++ [cand s j] := by unfold stepU; rw [nameJ_of h]
theorem u_five : unlike [[97], [97], [98], [97], [97, 45, 50]] = [[97], [97, 45, 50], [98], [97, 45, 51], [97, 45, 50, 45, 50]] := by
  have e1 : stepU [] [97] = [[97]] := by rw [stepU_of (j := 0) ⟨by rw [cand_zero]; decide, fun i hi => absurd hi (by omega)⟩]; rfl
  have e2 : stepU [[97]] [97] = [[97], [97, 45, 50]] := by
    rw [stepU_of (j := 1) ⟨by rw [cand1]; decide, fun i hi => by rw [show i = 0 from by omega, cand_zero]; decide⟩, cand1]; rfl
  have e3 : stepU [[97], [97, 45, 50]] [98] = [[97], [97, 45, 50], [98]] := by rw [stepU_of (j := 0) ⟨by rw [cand_zero]; decide, fun i hi => absurd hi (by omega)⟩]; rfl
  have e4 : stepU [[97], [97, 45, 50], [98]] [97] = [[97], [97, 45, 50], [98], [97, 45, 51]] := by
    rw [stepU_of (j := 2) ⟨by rw [cand2]; decide, fun i hi => by
      rcases (by omega : i = 0 ∨ i = 1) with rfl | rfl
      · rw [cand_zero]; decide
      · rw [cand1]; decide⟩, cand2]; rfl
  have e5 : stepU [[97], [97, 45, 50], [98], [97, 45, 51]] [97, 45, 50] = [[97], [97, 45, 50], [98], [97, 45, 51], [97, 45, 50, 45, 50]] := by
    rw [stepU_of (j := 1) ⟨by rw [cand1]; decide, fun i hi => by rw [show i = 0 from by omega, cand_zero]; decide⟩, cand1]; rfl
  unfold unlike
  simp only [List.foldl_cons, List.foldl_nil, e1, e2, e3, e4, e5]
set_option maxHeartbeats 4000000 in
set_option maxRecDepth 100000 in
theorem alive_any (w : World) (htab : HasTab w) : Calls Tryd.prog 12 #[] w fun e w' => e = .returned (.bool true) ∧ Below w.heap.size w w' := by
  have HTB := Lib.hid htab
  have H1 := Lib.hid s_title
  have H2 := Lib.hid s_ab
  have H3 := Lib.hid s_nil
  have H4 := Lib.hid s_e
  have H5 := Lib.hid u_five
  clear htab
  go_enter Tryd.func12, Tryd.ntmps12
  go_wp2_with fail
  refine (of_any [65, 32, 84, 105, 116, 108, 101, 44, 32, 50] _ (by decide)).mono ?_
  rw [H1.out]
  rintro e w1 ⟨rfl, hb1⟩
  go_wp2_with fail
  refine (of_any [32, 45, 45, 97, 46, 46, 98, 45] _ (by decide)).mono ?_
  rw [H2.out]
  rintro e w2 ⟨rfl, hb2⟩
  have hb2' := hb1.trans (hb2.mono hb1.size)
  go_wp2_with fail
  refine (of_any [] _ (by decide)).mono ?_
  rw [H3.out]
  rintro e w3 ⟨rfl, hb3⟩
  have hb3' := hb2'.trans (hb3.mono hb2'.size)
  go_wp2_with fail
  refine (of_any [195, 169] _ (by decide)).mono ?_
  rw [H4.out]
  rintro e w4 ⟨rfl, hb4⟩
  have hb4' := hb3'.trans (hb4.mono hb3'.size)
  clear hb1 hb2 hb3 hb4 hb2' hb3'
  go_wp2_with fail
  refine (unlike_any (some ⟨w4.heap.size, 0, none⟩) 5 [[97], [97], [98], [97], [97, 45, 50]] _ (by decide) (by decide) (at_built encS_len w4 _ _ _ rfl) (HTB.out.below (hb4'.alloc hb4'.size _))).mono ?_
  rw [H5.out]
  rintro e w5 ⟨⟨r, rfl, hO⟩, hb5⟩
  obtain ⟨xa, xc, rfl⟩ := hO.shape
  have HO := Lib.hid hO
  have hb5' := (hb4'.alloc hb4'.size _).trans (hb5.mono (by have := hb4'.size; simp; omega))
  clear hO hb5 hb4'
  go_wp2_with fail
  refine (sameTexts_any xa xc (some ⟨w5.heap.size, 0, none⟩) 5 [[97], [97, 45, 50], [98], [97, 45, 51], [97, 45, 50, 45, 50]] _ (by decide) ((HO.out.alloc _).addr encS_ok) (at_built encS_len w5 _ _ _ rfl)).mono ?_
  rintro e w6 ⟨rfl, hb6⟩
  go_wp2_with fail
  go_ret
  exact ⟨rfl, (hb5'.alloc hb5'.size _).trans (hb6.mono (by have := hb5'.size; simp; omega))⟩
end Go.Proofs.YtofphojcfjkjhaaDoor
