/- binderylaw04.alive: some answers that the document fixes. -/
import Derived.Test.YtgikmippclcimaaSetOk
import Derived.Test.YtgikmippclcimaaUnset
import Derived.Test.YtgikmippclcimaaAsk
import Derived.Test.YtgikmippclcimaaFill
import Derived.Test.YtgikmippclcimaaSameS
namespace Go.Proofs.Ytgikmippclcimaa
open Go.RowKit
set_option linter.unusedVariables false

theorem one_any (x v : Bytes) (w : World) :
    Calls Try.prog 27 #[.string ⟨x.toArray⟩, .string ⟨v.toArray⟩] w fun e w' => (∃ a, e = .returned (.slice a 1 1) ∧ At w' 2 encT a [⟨x, v⟩]) ∧ Below w.heap.size w w' := by
  go_enter Try.func27, Try.ntmps27
  go_wp2_with fail
  go_ret
  exact ⟨⟨_, rfl, At.one (by simp) (by simp) (by simp)⟩, (Below.refl _ _).alloc (Nat.le_refl _) _⟩

def aliveA : List Two := [⟨[97], [49]⟩]
def aliveX : List Two := [⟨[97], [120]⟩]
def aliveB : List Two := [⟨[98], [50]⟩]
def aliveL : List Two := [⟨[97], [49]⟩, ⟨[98], [50]⟩]
theorem al_set : setR aliveB [97] [49] = aliveL ∧ setE aliveB [97] [49] = 0 := by constructor <;> kernel_rfl
theorem al_unset : unsetR aliveL [97] = aliveB ∧ unsetE aliveL [97] = 0 := by constructor <;> kernel_rfl
theorem al_bad : setR [] [49] [] = [] ∧ setE [] [49] [] = 1 := by constructor <;> kernel_rfl
theorem al_ask1 : askP aliveA [98, 33, 61, 49] = .tuple #[.string ⟨#[98]⟩, .bool true, .int .i64 0] := by kernel_rfl
theorem al_ask2 : askP aliveA [97, 33, 61, 49] = .tuple #[.string ⟨#[97]⟩, .bool false, .int .i64 0] := by kernel_rfl
theorem al_ask3 : askP [] [33, 97, 61, 49] = .tuple #[.string ⟨#[]⟩, .bool false, .int .i64 4] := by kernel_rfl
theorem al_fill : fillT aliveX [123, 97, 125, 123, 98, 125, 123, 97, 125, 32, 123, 123, 97, 125, 125, 32, 123, 97, 32, 98, 125] = [120, 123, 98, 125, 120, 32, 123, 120, 125, 32, 123, 97, 32, 98, 125] ∧ fillN [123, 97, 125, 123, 98, 125, 123, 97, 125, 32, 123, 123, 97, 125, 125, 32, 123, 97, 32, 98, 125] = [[97], [98]] := by constructor <;> kernel_rfl
theorem al_get : getV aliveL [98] = .tuple #[.string ⟨#[50]⟩, .bool true] := by kernel_rfl
theorem al_check : checkB aliveL = true := by kernel_rfl
theorem szB : ∀ x ∈ aliveB, x.name.length + x.value.length ≤ 9223372036854775807 := by simp [aliveB]
theorem szL : ∀ x ∈ aliveL, x.name.length + x.value.length ≤ 9223372036854775807 := by simp [aliveL]
theorem szX : ∀ x ∈ aliveX, x.value.length ≤ 100000 := by simp [aliveX]
theorem at_built2 (w : World) (l : List Two) (h : l = aliveL := by rfl) : At (w.alloc (.cells #[.string ⟨#[97]⟩, .string ⟨#[49]⟩, .string ⟨#[98]⟩, .string ⟨#[50]⟩] 48)) 2 encT (some ⟨w.heap.size, 0, none⟩) l := by
  subst h
  refine .inr ⟨_, 0, rfl, by simp, ?_⟩
  intro i y hi j v hj
  match i, hi with
  | 0, hi =>
    cases hi
    match j, hj with
    | 0, hj => cases hj; simp
    | 1, hj => cases hj; simp
    | j + 2, hj => simp [encT] at hj
  | 1, hi =>
    cases hi
    match j, hj with
    | 0, hj => cases hj; simp
    | 1, hj => cases hj; simp
    | j + 2, hj => simp [encT] at hj
  | i + 2, hi => simp [aliveL] at hi
theorem at_builtS2 (w : World) (s t : Bytes) : At (w.alloc (.cells #[.string ⟨s.toArray⟩, .string ⟨t.toArray⟩] 9)) 1 encS (some ⟨w.heap.size, 0, none⟩) [s, t] := by
  refine .inr ⟨_, 0, rfl, by simp, ?_⟩
  intro i y hi j v hj
  match i, hi with
  | 0, hi =>
    cases hi
    match j, hj with
    | 0, hj => cases hj; simp
    | j + 1, hj => simp [encS] at hj
  | 1, hi =>
    cases hi
    match j, hj with
    | 0, hj => cases hj; simp
    | j + 1, hj => simp [encS] at hj
  | i + 2, hi => simp at hi

set_option maxHeartbeats 4000000 in
theorem alive_any (w : World) (hM : MaxOk w) : Calls Try.prog 20 #[] w fun e w' => e = .returned (.bool true) ∧ Below w.heap.size w w' := by
  go_enter Try.func20, Try.ntmps20
  go_wp2_with fail
  refine (one_any [98] [50] _).mono ?_
  rintro e w1 ⟨⟨a1, rfl, hA⟩, hc⟩
  have hb1 := hc
  have HM := Lib.hid (hM.next hc)
  clear hM
  have Ha1 : Hid (At w1 2 encT a1 aliveB) := hA
  clear hA hc
  go_wp2_with fail
  refine (set_any a1 1 aliveB [97] [49] _ (by decide) (by decide) (by decide) Ha1.out (by decide) szB).mono ?_
  rw [al_set.1, al_set.2]
  rintro e w2 ⟨⟨rL, rfl, hO⟩, hc⟩
  have hb2 := hb1.trans (hc.mono hb1.size)
  have Ha1 := Lib.hid (Ha1.out.below hc)
  have HM := Lib.hid (HM.out.next hc)
  obtain ⟨L, cL, rfl, hA, hCL⟩ := hO.open encT_ok
  have HL : Hid (At w2 2 encT L aliveL) := hA
  clear hA hO hc
  go_wp2_with fail
  refine (unset_any L cL aliveL [97] _ (by decide) (by decide) HL.out szL).mono ?_
  rw [al_unset.1, al_unset.2]
  rintro e w3 ⟨⟨rm, rfl, hO⟩, hc⟩
  have hb3 := hb2.trans (hc.mono hb2.size)
  have Ha1 := Lib.hid (Ha1.out.below hc)
  have HL := Lib.hid (HL.out.below hc)
  have HM := Lib.hid (HM.out.next hc)
  obtain ⟨m, cm, rfl, hA, hCm⟩ := hO.open encT_ok
  have Hm : Hid (At w3 2 encT m aliveB) := hA
  clear hA hO hc
  go_wp2_with fail
  refine (set_any none 0 [] [49] [] _ (by decide) (by decide) (by decide) (At.nil _ _ _ _) (by decide) (by intro x hx; cases hx)).mono ?_
  rw [al_bad.1, al_bad.2]
  rintro e w4 ⟨⟨rz, rfl, hO⟩, hc⟩
  have hb4 := hb3.trans (hc.mono hb3.size)
  have Ha1 := Lib.hid (Ha1.out.below hc)
  have HL := Lib.hid (HL.out.below hc)
  have Hm := Lib.hid (Hm.out.below hc)
  have HM := Lib.hid (HM.out.next hc)
  obtain ⟨z, cz, rfl, hA, hCz⟩ := hO.open encT_ok
  have Hz : Hid (At w4 2 encT z []) := hA
  clear hA hO hc
  go_wp2_with fail
  refine (one_any [97] [49] _).mono ?_
  rintro e w5 ⟨⟨a2, rfl, hA⟩, hc⟩
  have hb5 := hb4.trans (hc.mono hb4.size)
  have Ha1 := Lib.hid (Ha1.out.below hc)
  have HL := Lib.hid (HL.out.below hc)
  have Hm := Lib.hid (Hm.out.below hc)
  have Hz := Lib.hid (Hz.out.below hc)
  have HM := Lib.hid (HM.out.next hc)
  have Ha2 : Hid (At w5 2 encT a2 aliveA) := hA
  clear hA hc
  go_wp2_with fail
  refine (ask_any a2 1 aliveA [98, 33, 61, 49] _ (by decide) (by decide) Ha2.out HM.out).mono ?_
  rw [al_ask1]
  rintro e w6 ⟨rfl, hc⟩
  have hb6 := hb5.trans (hc.mono hb5.size)
  have Ha1 := Lib.hid (Ha1.out.below hc)
  have HL := Lib.hid (HL.out.below hc)
  have Hm := Lib.hid (Hm.out.below hc)
  have Hz := Lib.hid (Hz.out.below hc)
  have Ha2 := Lib.hid (Ha2.out.below hc)
  have HM := Lib.hid (HM.out.next hc)
  clear hc
  go_wp2_with fail
  refine (one_any [97] [49] _).mono ?_
  rintro e w7 ⟨⟨a3, rfl, hA⟩, hc⟩
  have hb7 := hb6.trans (hc.mono hb6.size)
  have Ha1 := Lib.hid (Ha1.out.below hc)
  have HL := Lib.hid (HL.out.below hc)
  have Hm := Lib.hid (Hm.out.below hc)
  have Hz := Lib.hid (Hz.out.below hc)
  have Ha2 := Lib.hid (Ha2.out.below hc)
  have HM := Lib.hid (HM.out.next hc)
  have Ha3 : Hid (At w7 2 encT a3 aliveA) := hA
  clear hA hc
  go_wp2_with fail
  refine (ask_any a3 1 aliveA [97, 33, 61, 49] _ (by decide) (by decide) Ha3.out HM.out).mono ?_
  rw [al_ask2]
  rintro e w8 ⟨rfl, hc⟩
  have hb8 := hb7.trans (hc.mono hb7.size)
  have Ha1 := Lib.hid (Ha1.out.below hc)
  have HL := Lib.hid (HL.out.below hc)
  have Hm := Lib.hid (Hm.out.below hc)
  have Hz := Lib.hid (Hz.out.below hc)
  have Ha2 := Lib.hid (Ha2.out.below hc)
  have Ha3 := Lib.hid (Ha3.out.below hc)
  have HM := Lib.hid (HM.out.next hc)
  clear hc
  go_wp2_with fail
  refine (ask_any none 0 [] [33, 97, 61, 49] _ (by decide) (by decide) (At.nil _ _ _ _) HM.out).mono ?_
  rw [al_ask3]
  rintro e w9 ⟨rfl, hc⟩
  have hb9 := hb8.trans (hc.mono hb8.size)
  have Ha1 := Lib.hid (Ha1.out.below hc)
  have HL := Lib.hid (HL.out.below hc)
  have Hm := Lib.hid (Hm.out.below hc)
  have Hz := Lib.hid (Hz.out.below hc)
  have Ha2 := Lib.hid (Ha2.out.below hc)
  have Ha3 := Lib.hid (Ha3.out.below hc)
  have HM := Lib.hid (HM.out.next hc)
  clear hc
  go_wp2_with fail
  refine (one_any [97] [120] _).mono ?_
  rintro e w10 ⟨⟨a4, rfl, hA⟩, hc⟩
  have hb10 := hb9.trans (hc.mono hb9.size)
  have Ha1 := Lib.hid (Ha1.out.below hc)
  have HL := Lib.hid (HL.out.below hc)
  have Hm := Lib.hid (Hm.out.below hc)
  have Hz := Lib.hid (Hz.out.below hc)
  have Ha2 := Lib.hid (Ha2.out.below hc)
  have Ha3 := Lib.hid (Ha3.out.below hc)
  have HM := Lib.hid (HM.out.next hc)
  have Ha4 : Hid (At w10 2 encT a4 aliveX) := hA
  clear hA hc
  go_wp2_with fail
  refine (fill_any a4 1 aliveX [123, 97, 125, 123, 98, 125, 123, 97, 125, 32, 123, 123, 97, 125, 125, 32, 123, 97, 32, 98, 125] _ (by decide) (by decide) Ha4.out szX).mono ?_
  rw [al_fill.1, al_fill.2]
  rintro e w11 ⟨⟨rx, rfl, hO⟩, hc⟩
  have hb11 := hb10.trans (hc.mono hb10.size)
  have Ha1 := Lib.hid (Ha1.out.below hc)
  have HL := Lib.hid (HL.out.below hc)
  have Hm := Lib.hid (Hm.out.below hc)
  have Hz := Lib.hid (Hz.out.below hc)
  have Ha2 := Lib.hid (Ha2.out.below hc)
  have Ha3 := Lib.hid (Ha3.out.below hc)
  have Ha4 := Lib.hid (Ha4.out.below hc)
  have HM := Lib.hid (HM.out.next hc)
  obtain ⟨x, cx, rfl, hA, hCx⟩ := hO.open encS_ok
  have Hx : Hid (At w11 1 encS x [[97], [98]]) := hA
  clear hA hO hc
  go_wp2_with fail
  refine (get_any L cL aliveL [98] _ (by decide) HL.out).mono ?_
  rw [al_get]
  rintro e w12 ⟨rfl, hc⟩
  have hb12 := hb11.trans (hc.mono hb11.size)
  have Ha1 := Lib.hid (Ha1.out.below hc)
  have HL := Lib.hid (HL.out.below hc)
  have Hm := Lib.hid (Hm.out.below hc)
  have Hz := Lib.hid (Hz.out.below hc)
  have Ha2 := Lib.hid (Ha2.out.below hc)
  have Ha3 := Lib.hid (Ha3.out.below hc)
  have Ha4 := Lib.hid (Ha4.out.below hc)
  have Hx := Lib.hid (Hx.out.below hc)
  have HM := Lib.hid (HM.out.next hc)
  clear hc
  go_wp2_with fail
  refine (sameAttrs_any L cL _ 2 aliveL _ (by decide) (HL.out.below ((Below.refl _ _).alloc (Nat.le_refl _) _)) (at_built2 w12 aliveL)).mono ?_
  rintro e w13 ⟨rfl, hc⟩
  have hc := ((Below.refl w12.heap.size w12).alloc (Nat.le_refl _) _).trans (hc.mono (by simp))
  have hb13 := hb12.trans (hc.mono hb12.size)
  have Ha1 := Lib.hid (Ha1.out.below hc)
  have HL := Lib.hid (HL.out.below hc)
  have Hm := Lib.hid (Hm.out.below hc)
  have Hz := Lib.hid (Hz.out.below hc)
  have Ha2 := Lib.hid (Ha2.out.below hc)
  have Ha3 := Lib.hid (Ha3.out.below hc)
  have Ha4 := Lib.hid (Ha4.out.below hc)
  have Hx := Lib.hid (Hx.out.below hc)
  have HM := Lib.hid (HM.out.next hc)
  clear hc
  go_wp2_with fail
  refine (one_any [98] [50] _).mono ?_
  rintro e w14 ⟨⟨a5, rfl, hA⟩, hc⟩
  have hb14 := hb13.trans (hc.mono hb13.size)
  have Ha1 := Lib.hid (Ha1.out.below hc)
  have HL := Lib.hid (HL.out.below hc)
  have Hm := Lib.hid (Hm.out.below hc)
  have Hz := Lib.hid (Hz.out.below hc)
  have Ha2 := Lib.hid (Ha2.out.below hc)
  have Ha3 := Lib.hid (Ha3.out.below hc)
  have Ha4 := Lib.hid (Ha4.out.below hc)
  have Hx := Lib.hid (Hx.out.below hc)
  have HM := Lib.hid (HM.out.next hc)
  have Ha5 : Hid (At w14 2 encT a5 aliveB) := hA
  clear hA hc
  go_wp2_with fail
  refine (sameAttrs_any m cm a5 1 aliveB _ (by decide) Hm.out Ha5.out).mono ?_
  rintro e w15 ⟨rfl, hc⟩
  have hb15 := hb14.trans (hc.mono hb14.size)
  have Ha1 := Lib.hid (Ha1.out.below hc)
  have HL := Lib.hid (HL.out.below hc)
  have Hm := Lib.hid (Hm.out.below hc)
  have Hz := Lib.hid (Hz.out.below hc)
  have Ha2 := Lib.hid (Ha2.out.below hc)
  have Ha3 := Lib.hid (Ha3.out.below hc)
  have Ha4 := Lib.hid (Ha4.out.below hc)
  have Hx := Lib.hid (Hx.out.below hc)
  have Ha5 := Lib.hid (Ha5.out.below hc)
  have HM := Lib.hid (HM.out.next hc)
  clear hc
  go_wp2_with fail
  refine (sameTexts_any x cx _ 2 [[97], [98]] _ (by decide) (Hx.out.below ((Below.refl _ _).alloc (Nat.le_refl _) _)) (at_builtS2 w15 [97] [98])).mono ?_
  rintro e w16 ⟨rfl, hc⟩
  have hc := ((Below.refl w15.heap.size w15).alloc (Nat.le_refl _) _).trans (hc.mono (by simp))
  have hb16 := hb15.trans (hc.mono hb15.size)
  have Ha1 := Lib.hid (Ha1.out.below hc)
  have HL := Lib.hid (HL.out.below hc)
  have Hm := Lib.hid (Hm.out.below hc)
  have Hz := Lib.hid (Hz.out.below hc)
  have Ha2 := Lib.hid (Ha2.out.below hc)
  have Ha3 := Lib.hid (Ha3.out.below hc)
  have Ha4 := Lib.hid (Ha4.out.below hc)
  have Hx := Lib.hid (Hx.out.below hc)
  have Ha5 := Lib.hid (Ha5.out.below hc)
  have HM := Lib.hid (HM.out.next hc)
  clear hc
  go_wp2_with fail
  refine (check_any L cL aliveL _ (by decide) HL.out szL).mono ?_
  rw [al_check]
  rintro e w17 ⟨rfl, hc⟩
  have hb17 := hb16.trans (hc.mono hb16.size)
  have Ha1 := Lib.hid (Ha1.out.below hc)
  have HL := Lib.hid (HL.out.below hc)
  have Hm := Lib.hid (Hm.out.below hc)
  have Hz := Lib.hid (Hz.out.below hc)
  have Ha2 := Lib.hid (Ha2.out.below hc)
  have Ha3 := Lib.hid (Ha3.out.below hc)
  have Ha4 := Lib.hid (Ha4.out.below hc)
  have Hx := Lib.hid (Hx.out.below hc)
  have Ha5 := Lib.hid (Ha5.out.below hc)
  have HM := Lib.hid (HM.out.next hc)
  clear hc
  go_wp2_with fail
  go_ret
  exact ⟨rfl, hb17⟩
end Go.Proofs.Ytgikmippclcimaa
