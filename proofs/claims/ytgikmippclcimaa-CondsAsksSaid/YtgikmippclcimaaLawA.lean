/- The law CondsChecks, walked. -/
import Derived.Test.YtgikmippclcimaaCheck
import Derived.Test.YtgikmippclcimaaTwinA
namespace Go.Proofs.Ytgikmippclcimaa
open Go.RowKit

theorem reach_le {n : Nat} (h : n ≤ reachBytes) : n ≤ 140737488351232 := h
theorem getV_form (l : List Two) (s : Bytes) : ∃ (v : Bytes) (b : Bool), getV l s = .tuple #[.string ⟨v.toArray⟩, .bool b] := by
  unfold getV
  split
  · exact ⟨_, _, rfl⟩
  · exact ⟨[], _, rfl⟩

set_option maxHeartbeats 2000000 in
theorem walk_CondsChecks (w : World) (a : Option Addr) (c : Nat) (l : List Two) (hA : At w 2 encT a l) (hn : l.length ≤ 140737488351232) (hG : ∀ x ∈ l, x.name.length ≤ reachBytes ∧ x.value.length ≤ reachBytes) (s : Bytes) (hs : s.length ≤ reachBytes) :
    Calls Try.prog 3 #[.slice a l.length c, .string ⟨s.toArray⟩] w fun e w' => e = .returned (.bool true) ∧ Below w.heap.size w w' := by
  have hs' := reach_le hs
  have hG' : ∀ x ∈ l, x.name.length ≤ 140737488351232 ∧ x.value.length ≤ 140737488351232 := hG
  have HGR := Lib.hid (great_any a c l s w hn hA hG' hs')
  have HA := Lib.hid hA
  obtain ⟨va, vb, hv⟩ := getV_form l s
  have HV := Lib.hid hv
  clear hA hG hG' hv
  go_enter Try.func3, Try.ntmps3
  go_wp2_with fail
  refine HGR.out.mono ?_
  rintro e w1 ⟨rfl, hb1⟩
  cases hgr : greatB l s
  · obtain ⟨h1, h2, h3⟩ := greatB_false hgr
    have h3' : ∀ x ∈ l, x.name.length + x.value.length ≤ 9223372036854775807 := fun x hx => by have := h3 x hx; omega
    have H3 := Lib.hid h3'
    clear h3 h3'
    have hA1 := Lib.hid (HA.out.below hb1)
    go_wp2_with fail
    refine (twinAttrs_any a c l _ (by omega) hA1.out).mono ?_
    rintro e w2 ⟨⟨g, rfl, hg, hown⟩, hb2⟩
    have hAt := hown.addr encT_ok
    have hAl := hAt.left
    have hAt2 := Lib.hid hAt
    have hAl2 := Lib.hid hAl
    have hA2 := Lib.hid (hA1.out.below hb2)
    have hO := Lib.hid hown
    clear hAt hAl hown
    go_wp2_with fail
    refine (get_any (some ⟨g, 0, none⟩) (l.length + 1) l s _ (by omega) hAl2.out).mono ?_
    rw [HV.out]
    rintro e w3 ⟨rfl, hb3⟩
    go_wp2_with fail
    refine (rget_any a c l s _ (by omega) (hA2.out.below hb3)).mono ?_
    rw [HV.out]
    rintro e w' ⟨rfl, rfl⟩
    go_wp2_with fail
    refine (check_any (some ⟨g, 0, none⟩) (l.length + 1) l _ (by omega) (hAl2.out.below hb3) H3.out).mono ?_
    rintro e w4 ⟨rfl, hb4⟩
    go_wp2_with fail
    refine (rcheck_any a c l _ (by omega) ((hA2.out.below hb3).below hb4) H3.out).mono ?_
    rintro e w5 ⟨rfl, hb5⟩
    go_wp2_with fail
    refine (leftAttrs_any g a c l _ (by omega) (((hAt2.out.below hb3).below hb4).below hb5) (((hA2.out.below hb3).below hb4).below hb5)).mono ?_
    rintro e w6 ⟨rfl, hb6⟩
    go_wp2_with fail
    go_ret
    exact ⟨rfl, ((((hb1.trans (hb2.mono hb1.size)).trans (hb3.mono (by have := hb1.size; have := hb2.size; omega))).trans (hb4.mono (by have := hb1.size; have := hb2.size; have := hb3.size; omega))).trans (hb5.mono (by have := hb1.size; have := hb2.size; have := hb3.size; have := hb4.size; omega))).trans (hb6.mono (by have := hb1.size; have := hb2.size; have := hb3.size; have := hb4.size; have := hb5.size; omega))⟩
  · go_wp2_with fail
    go_ret
    exact ⟨rfl, hb1⟩
end Go.Proofs.Ytgikmippclcimaa
