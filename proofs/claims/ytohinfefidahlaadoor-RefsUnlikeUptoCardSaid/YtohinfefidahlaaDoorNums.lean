/- numbers.Dotted, numbers.Next: of lists of natural numbers. -/
import Derived.Test.YtohinfefidahlaaDoorBld
import Derived.Test.YtohinfefidahlaaDoorUnlike
namespace Go.Proofs.YtohinfefidahlaaDoor
open Go.RowKit
set_option linter.unusedVariables false

def encI (n : Nat) : List Value := [.int .i64 n]
theorem encI_ok : Enc 1 encI := ⟨fun _ => rfl, fun x u hu => by simp [encI] at hu; subst hu; rfl⟩
/-- numbers with points between -/
def dotP : List Nat → Bytes
  | [] => []
  | [n] => Lib.decDigits n
  | n :: l => Lib.decDigits n ++ 46 :: dotP l
/-- what is told behind the first numbers -/
def dotK (l : List Nat) : Nat → Bytes
  | 0 => []
  | k + 1 => dotK l k ++ ((if 0 < k then [46] else []) ++ Lib.decDigits (l.getD k 0))
theorem dotK_cons (n : Nat) (l : List Nat) (hl : l ≠ []) : ∀ k, 0 < k → dotK (n :: l) (k + 1) = Lib.decDigits n ++ 46 :: dotK l k
  | 0, h => absurd h (by omega)
  | 1, _ => by simp [dotK]
  | k + 2, _ => by
    have ih := dotK_cons n l hl (k + 1) (by omega)
    rw [dotK, ih]
    conv => rhs; rw [dotK]
    simp
theorem dotK_len : ∀ (l : List Nat), dotK l l.length = dotP l
  | [] => rfl
  | [n] => by simp [dotK, dotP]
  | n :: m :: l => by
    rw [List.length_cons, dotK_cons n (m :: l) (by simp) (m :: l).length (by simp), dotK_len (m :: l)]
    rfl
theorem dotK_bound (l : List Nat) (h : ∀ x ∈ l, (Lib.decDigits x).length ≤ 100) : ∀ k, k ≤ l.length → (dotK l k).length ≤ 101 * k
  | 0, _ => by simp [dotK]
  | k + 1, hk => by
    have ih := dotK_bound l h k (by omega)
    have h1 := h (l.getD k 0) (by rw [List.getD_eq_getElem?_getD, List.getElem?_eq_getElem (by omega)]; exact List.getElem_mem _)
    rw [dotK]
    generalize Lib.decDigits (l.getD k 0) = t at *
    simp only [List.length_append]
    split
    · simp only [List.length_singleton]; omega
    · simp only [List.length_nil]; omega

theorem Bld.next {B b : Nat} {s : Bytes} {w w' : World} (h : Bld B b s w) (hb : Below w.heap.size w w') : Bld B b s w' :=
  h.grown (row := none) ⟨hb.os, hb.tape, hb.output, hb.size, fun k hk _ => hb.block k hk⟩ (fun g e => by cases e)

set_option maxHeartbeats 4000000 in
set_option maxRecDepth 100000 in
theorem join_any (l : List Nat) (a : Option Addr) (c : Nat) (w : World) (hA : At w 1 encI a l) (hn : l.length ≤ 1000) (hx : ∀ x ∈ l, x ≤ 9223372036854775807 ∧ (Lib.decDigits x).length ≤ 100) (htab : HasTab w) :
    Calls Tryd.prog 41 #[.string ⟨#[46]⟩, .slice a l.length c] w fun e w' => e = .returned (.string ⟨(dotP l).toArray⟩) ∧ Below w.heap.size w w' := by
  have HA := Lib.hid hA
  have HX := Lib.hid hx
  have HT := Lib.hid htab
  have hb0 := (Below.refl w.heap.size w).alloc (Nat.le_refl _) (.cells #[.pointer none, .slice none 0 0] 80)
  have HF := Lib.hid (Bld.fresh w)
  clear hA hx htab
  go_enter Tryd.func41, Tryd.ntmps41
  go_wp2
  go_loopw [10] (fun v10 wr => ∃ k : Nat, k ≤ l.length ∧ v10 = .int .i64 k ∧ Hid (Bld w.heap.size w.heap.size (dotK l k) wr) ∧ Hid (Below w.heap.size w wr)) (fun v10 _ => l.length - (intOf v10).toNat)
  case atStart => exact ⟨0, by omega, rfl, HF.out, hb0⟩
  case round =>
    obtain ⟨k, hk, rfl, HB, HBr⟩ := hrel
    by_cases hlt : k < l.length
    · obtain ⟨bb, off, ha, hbl, hc⟩ := (HA.out.below HBr.out).elem hlt
      subst ha
      have hxk := HX.out l[k] (List.getElem_mem hlt)
      have hkb := dotK_bound l (fun x hx => (HX.out x hx).2) k (by omega)
      have HG : Hid (l.getD k 0 = l[k]) := by show _ = _; rw [List.getD_eq_getElem?_getD, List.getElem?_eq_getElem hlt]; rfl
      have HS : Hid (dotK l (k + 1) = dotK l k ++ ((if 0 < k then [46] else []) ++ Lib.decDigits l[k])) := by show _ = _; rw [dotK, HG.out]
      generalize l[k] = x at *
      have d0 := hc 0 (.int .i64 x) rfl
      rw [Nat.mul_one, Nat.add_zero] at d0
      have hz := HBr.out.size
      have HTr := Lib.hid (HT.out.below HBr.out)
      clear hc
      by_cases h0 : 0 < k
      · have h0i : (0 : Int) < (k : Int) := by omega
        rw [if_pos h0] at HS
        have hz1 : (dotK l k).length + 1 ≤ 1000000 := by omega
        go_wp2_with (first
          | (go_at_call 33; refine (itoa_any x _ hxk.1 (HT.out.below HBr3.out)).mono ?_; rintro e w4 ⟨rfl, hc⟩; have HB4 := Lib.hid (HB3.out.next hc); have HBr4 := Lib.hid (HBr3.out.trans (hc.mono HBr3.out.size)); clear hc)
          | (go_at_call 40; refine (writeString_b w.heap.size w.heap.size (dotK l k ++ [46]) (Lib.decDigits x) _ HB4.out (by simp; omega) HBr4.out.size).mono ?_; rintro e w5 ⟨rfl, hB5, hb5, _⟩; have HB5 := Lib.hid hB5; have HBr5 := Lib.hid (HBr4.out.trans hb5); clear hB5 hb5)
          | (go_at_call 40; refine (writeString_b w.heap.size w.heap.size (dotK l k) [46] _ HB.out (by simp; omega) hz).mono ?_; rintro e w3 ⟨rfl, hB3, hb3, _⟩; have HB3 := Lib.hid hB3; have HBr3 := Lib.hid (HBr.out.trans hb3); clear hB3 hb3))
        go_roundw
        case rel => exact ⟨k + 1, by omega, by go_num, by rw [HS.out, ← List.append_assoc]; exact HB5.out, HBr5.out⟩
        case measure => simp [intOf]; omega
      · have h0i : ¬ (0 : Int) < (k : Int) := by omega
        rw [if_neg h0, List.nil_append] at HS
        go_wp2_with (first
          | (go_at_call 33; refine (itoa_any x _ hxk.1 (HT.out.below HBr.out)).mono ?_; rintro e w4 ⟨rfl, hc⟩; have HB4 := Lib.hid (HB.out.next hc); have HBr4 := Lib.hid (HBr.out.trans (hc.mono HBr.out.size)); clear hc)
          | (go_at_call 40; refine (writeString_b w.heap.size w.heap.size (dotK l k) (Lib.decDigits x) _ HB4.out (by omega) HBr4.out.size).mono ?_; rintro e w5 ⟨rfl, hB5, hb5, _⟩; have HB5 := Lib.hid hB5; have HBr5 := Lib.hid (HBr4.out.trans hb5); clear hB5 hb5))
        go_roundw
        case rel => exact ⟨k + 1, by omega, by go_num, by rw [HS.out]; exact HB5.out, HBr5.out⟩
        case measure => simp [intOf]; omega
    · have hE : k = l.length := by omega
      subst hE
      rw [dotK_len] at HB
      go_wp2_with (go_at_call 27; refine (string_b w.heap.size w.heap.size _ _ HB.out HBr.out.size).mono ?_; rintro e w2 ⟨rfl, _, hb2, _⟩; have HBc := Lib.hid (HBr.out.trans hb2); clear hb2)
      go_ret
      exact ⟨rfl, HBc.out⟩

set_option maxHeartbeats 1000000 in
theorem dotted_any (l : List Nat) (a : Option Addr) (c : Nat) (w : World) (hA : At w 1 encI a l) (hn : l.length ≤ 1000) (hx : ∀ x ∈ l, x ≤ 9223372036854775807 ∧ (Lib.decDigits x).length ≤ 100) (htab : HasTab w) :
    Calls Tryd.prog 28 #[.slice a l.length c] w fun e w' => e = .returned (.string ⟨(dotP l).toArray⟩) ∧ Below w.heap.size w w' := by
  have HA := Lib.hid hA
  have HX := Lib.hid hx
  have HT := Lib.hid htab
  clear hA hx htab
  go_enter Tryd.func28, Tryd.ntmps28
  go_wp2_with (go_at_call 41; refine (join_any l a c w HA.out hn HX.out HT.out).mono ?_; rintro e w1 ⟨rfl, hb⟩)
  go_ret
  exact ⟨rfl, hb⟩
end Go.Proofs.YtohinfefidahlaaDoor
