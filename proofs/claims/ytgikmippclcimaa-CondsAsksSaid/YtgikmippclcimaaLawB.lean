/- The law CondsAsks, walked. -/
import Derived.Test.YtgikmippclcimaaAskLaw
import Derived.Test.YtgikmippclcimaaTwinA
import Derived.Test.YtgikmippclcimaaLawA
namespace Go.Proofs.Ytgikmippclcimaa
open Go.RowKit

theorem askP_form (l : List Two) (c : Bytes) : ∃ (v : Bytes) (b : Bool) (n : Int), askP l c = .tuple #[.string ⟨v.toArray⟩, .bool b, .int .i64 n] := by
  unfold askP
  split
  · exact ⟨_, _, _, rfl⟩
  · exact ⟨[], _, _, rfl⟩

set_option maxHeartbeats 2000000 in
theorem walk_CondsAsks (w : World) (a : Option Addr) (c : Nat) (l : List Two) (hA : At w 2 encT a l) (hn : l.length ≤ 140737488351232) (hG : ∀ x ∈ l, x.name.length ≤ reachBytes ∧ x.value.length ≤ reachBytes) (s : Bytes) (hs : s.length ≤ reachBytes) (hM : MaxOk w) :
    Calls Try.prog 4 #[.slice a l.length c, .string ⟨s.toArray⟩] w fun e w' => e = .returned (.bool true) ∧ Below w.heap.size w w' := by
  have hs' := reach_le hs
  have hG' : ∀ x ∈ l, x.name.length ≤ 140737488351232 ∧ x.value.length ≤ 140737488351232 := hG
  have HGR := Lib.hid (great_any a c l s w hn hA hG' hs')
  have HA := Lib.hid hA
  have HM := Lib.hid hM
  obtain ⟨va, vb, vn, hv⟩ := askP_form l s
  have HV := Lib.hid hv
  clear hA hG hG' hv hM
  go_enter Try.func4, Try.ntmps4
  go_wp2_with fail
  refine HGR.out.mono ?_
  rintro e w1 ⟨rfl, hb1⟩
  cases hgr : greatB l s
  · obtain ⟨h1, h2, h3⟩ := greatB_false hgr
    clear h3
    have hA1 := Lib.hid (HA.out.below hb1)
    have hM1 := Lib.hid (HM.out.next hb1)
    go_wp2_with fail
    refine (twinAttrs_any a c l _ (by omega) hA1.out).mono ?_
    rintro e w2 ⟨⟨g, rfl, hg, hown⟩, hb2⟩
    have hAt := hown.addr encT_ok
    have hAl := hAt.left
    have hAt2 := Lib.hid hAt
    have hAl2 := Lib.hid hAl
    have hA2 := Lib.hid (hA1.out.below hb2)
    have hM2 := Lib.hid (hM1.out.next hb2)
    clear hAt hAl hown
    go_wp2_with fail
    refine (ask_any (some ⟨g, 0, none⟩) (l.length + 1) l s _ (by omega) (by omega) hAl2.out hM2.out).mono ?_
    rw [HV.out]
    rintro e w3 ⟨rfl, hb3⟩
    go_wp2_with fail
    refine (rask_any a c l s _ (by omega) (by omega) (hA2.out.below hb3)).mono ?_
    rw [HV.out]
    rintro e w4 ⟨rfl, hb4⟩
    go_wp2_with fail
    refine (leftAttrs_any g a c l _ (by omega) ((hAt2.out.below hb3).below hb4) ((hA2.out.below hb3).below hb4)).mono ?_
    rintro e w5 ⟨rfl, hb5⟩
    go_wp2_with fail
    go_ret
    exact ⟨rfl, (((hb1.trans (hb2.mono hb1.size)).trans (hb3.mono (by have := hb1.size; have := hb2.size; omega))).trans (hb4.mono (by have := hb1.size; have := hb2.size; have := hb3.size; omega))).trans (hb5.mono (by have := hb1.size; have := hb2.size; have := hb3.size; have := hb4.size; omega))⟩
  · go_wp2_with fail
    go_ret
    exact ⟨rfl, hb1⟩
end Go.Proofs.Ytgikmippclcimaa
