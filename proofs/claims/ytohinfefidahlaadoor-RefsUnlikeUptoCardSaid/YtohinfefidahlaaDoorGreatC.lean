/- binderylaw16.great. -/
import Derived.Test.YtohinfefidahlaaDoorDeepC
namespace Go.Proofs.YtohinfefidahlaaDoor
open Go.RowKit
set_option linter.unusedVariables false

def GreatGives (w : World) (n : Nat) (e : Ending) (w' : World) : Prop := (∃ g : Bool, e = .returned (.bool g) ∧ (g = false → n ≤ 20000)) ∧ Below w.heap.size w w'
theorem mul_small {a b : Nat} (ha : a ≤ 20000) (hb : b ≤ 1048576) : ((a : Int) * (b : Int)) ≤ 9223372036854775807 ∧ -9223372036854775808 ≤ ((a : Int) * (b : Int)) := by
  have h : a * b ≤ 20000 * 1048576 := Nat.mul_le_mul ha hb
  rw [← Int.natCast_mul]
  omega
set_option maxHeartbeats 4000000 in
set_option maxRecDepth 100000 in
theorem great16_any (l : List Ch) (a : Option Addr) (c : Nat) (w : World) (hA : ChsAt w a l) (hz : szM szCh l ≤ 1048576) :
    Calls Tryd.prog 6 #[.slice a l.length c] w (GreatGives w (szM szCh l)) := by
  have HC1 : Hid (∀ W, Below w.heap.size w W → Calls Tryd.prog 13 #[.slice a l.length c] W (SzGives W (szM szCh l))) := fun W hb => chapters_size l a c W (hA.keep hb) hz
  have HC2 : Hid (∀ W, Below w.heap.size w W → Calls Tryd.prog 14 #[.slice a l.length c] W (DpGives W 1048576)) := fun W hb => chaptersDeep_any l a c W (hA.keep hb) hz
  generalize szM szCh l = n at *
  clear hA
  by_cases hbig : 20000 < n
  · go_enter Tryd.func6, Tryd.ntmps6
    go_wp2_with (go_at_call 13; refine (HC1.out _ (Below.refl _ _)).mono ?_; rintro e w1 ⟨rfl, hb1⟩)
    go_ret
    exact ⟨⟨true, rfl, fun h => by cases h⟩, hb1⟩
  · go_enter Tryd.func6, Tryd.ntmps6
    go_wp2_with fail
    refine (HC1.out _ (Below.refl _ _)).mono ?_
    rintro e w1 ⟨rfl, hb1⟩
    have hd : decide ((20000 : Int) < (n : Int)) = false := decide_eq_false (by omega)
    go_wp2_with fail
    refine (HC1.out _ hb1).mono ?_
    rintro e w2 ⟨rfl, hb2⟩
    have HB2 : Hid (Below w.heap.size w w2) := hb1.trans (hb2.mono hb1.size)
    clear hb1 hb2
    go_wp2_with fail
    refine (HC2.out _ HB2.out).mono ?_
    rintro e w3 ⟨⟨d, rfl, hd3⟩, hb3⟩
    have HB3 : Hid (Below w.heap.size w w3) := HB2.out.trans (hb3.mono HB2.out.size)
    have hm := mul_small (a := n) (b := d) (by omega) hd3
    have hm2 : IntKind.i64.wrap ((n : Int) * (d : Int)) = (n : Int) * (d : Int) := IntWalk.i64_in _ (by omega)
    clear hb3
    go_wp2_with fail
    all_goals go_ret
    all_goals exact ⟨⟨_, rfl, fun _ => by omega⟩, HB3.out⟩
end Go.Proofs.YtohinfefidahlaaDoor
