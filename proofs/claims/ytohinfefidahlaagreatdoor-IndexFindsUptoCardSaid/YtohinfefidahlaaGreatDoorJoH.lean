/- numbers.Dotted, numbers.Next: of lists of natural numbers. numbers.Next: of at most three natural numbers. Where labels lead: the plain laws of the places of chapters. No program is named here. index.Build in plain words: which terms chapters tell, and where. -/
import Derived.Test.YtohinfefidahlaaGreatDoorBld
import Derived.Test.YtohinfefidahlaaGreatDoorJoG
import Derived.Test.YtohinfefidahlaaGreatDoorHeld
import Derived.Test.YtohinfefidahlaaGreatDoorJoC
import Derived.Laws.CopyOwn
import Derived.Test.YtohinfefidahlaaGreatDoorJoF
import Derived.Test.YtohinfefidahlaaGreatDoorSlug
import Derived.Test.YtohinfefidahlaaGreatDoorEach
namespace Go.Proofs.YtohinfefidahlaaGreatDoor
open Go.RowKit
set_option linter.unusedVariables false
set_option linter.unusedSimpArgs false

def encI (n : Nat) : List Value := [.int .i64 n]
theorem encI_ok : Enc 1 encI := ⟨fun _ => rfl, fun x u hu => by simp [encI] at hu; subst hu; rfl⟩
/-- numbers with points between -/
def dotP : List Nat → Bytes
  | [] => []
  | [n] => Lib.decDigits n
  | n :: l => Lib.decDigits n ++ 46 :: dotP l
/-- what is told behind the first numbers -/
def dotK (l : List Nat) : Nat → Bytes
  | 0 => []
  | k + 1 => dotK l k ++ ((if 0 < k then [46] else []) ++ Lib.decDigits (l.getD k 0))
theorem dotK_cons (n : Nat) (l : List Nat) (hl : l ≠ []) : ∀ k, 0 < k → dotK (n :: l) (k + 1) = Lib.decDigits n ++ 46 :: dotK l k
  | 0, h => absurd h (by omega)
  | 1, _ => by simp [dotK]
  | k + 2, _ => by
    have ih := dotK_cons n l hl (k + 1) (by omega)
    rw [dotK, ih]
    conv => rhs; rw [dotK]
    simp
theorem dotK_len : ∀ (l : List Nat), dotK l l.length = dotP l
  | [] => rfl
  | [n] => by simp [dotK, dotP]
  | n :: m :: l => by
    rw [List.length_cons, dotK_cons n (m :: l) (by simp) (m :: l).length (by simp), dotK_len (m :: l)]
    rfl
theorem dotK_bound (l : List Nat) (h : ∀ x ∈ l, (Lib.decDigits x).length ≤ 100) : ∀ k, k ≤ l.length → (dotK l k).length ≤ 101 * k
  | 0, _ => by simp [dotK]
  | k + 1, hk => by
    have ih := dotK_bound l h k (by omega)
    have h1 := h (l.getD k 0) (by rw [List.getD_eq_getElem?_getD, List.getElem?_eq_getElem (by omega)]; exact List.getElem_mem _)
    rw [dotK]
    generalize Lib.decDigits (l.getD k 0) = t at *
    simp only [List.length_append]
    split
    · simp only [List.length_singleton]; omega
    · simp only [List.length_nil]; omega

theorem Bld.next {B b : Nat} {s : Bytes} {w w' : World} (h : Bld B b s w) (hb : Below w.heap.size w w') : Bld B b s w' :=
  h.grown (row := none) ⟨hb.os, hb.tape, hb.output, hb.size, fun k hk _ => hb.block k hk⟩ (fun g e => by cases e)

set_option maxHeartbeats 4000000 in
set_option maxRecDepth 100000 in
theorem join_any (l : List Nat) (a : Option Addr) (c : Nat) (w : World) (hA : At w 1 encI a l) (hn : l.length ≤ 1000) (hx : ∀ x ∈ l, x ≤ 9223372036854775807 ∧ (Lib.decDigits x).length ≤ 100) (htab : HasTab w) :
    Calls Tryz.prog 147 #[.string ⟨#[46]⟩, .slice a l.length c] w fun e w' => e = .returned (.string ⟨(dotP l).toArray⟩) ∧ Below w.heap.size w w' := by
  have HA := Lib.hid hA
  have HX := Lib.hid hx
  have HT := Lib.hid htab
  have hb0 := (Below.refl w.heap.size w).alloc (Nat.le_refl _) (.cells #[.pointer none, .slice none 0 0] 204)
  have HF := Lib.hid (Bld.fresh w)
  clear hA hx htab
  go_enter Tryz.func147, Tryz.ntmps147
  go_wp2
  go_loopw [10] (fun v10 wr => ∃ k : Nat, k ≤ l.length ∧ v10 = .int .i64 k ∧ Hid (Bld w.heap.size w.heap.size (dotK l k) wr) ∧ Hid (Below w.heap.size w wr)) (fun v10 _ => l.length - (intOf v10).toNat)
  case atStart => exact ⟨0, by omega, rfl, HF.out, hb0⟩
  case round =>
    obtain ⟨k, hk, rfl, HB, HBr⟩ := hrel
    by_cases hlt : k < l.length
    · obtain ⟨bb, off, ha, hbl, hc⟩ := (HA.out.below HBr.out).elem hlt
      subst ha
      have hxk := HX.out l[k] (List.getElem_mem hlt)
      have hkb := dotK_bound l (fun x hx => (HX.out x hx).2) k (by omega)
      have HG : Hid (l.getD k 0 = l[k]) := by show _ = _; rw [List.getD_eq_getElem?_getD, List.getElem?_eq_getElem hlt]; rfl
      have HS : Hid (dotK l (k + 1) = dotK l k ++ ((if 0 < k then [46] else []) ++ Lib.decDigits l[k])) := by show _ = _; rw [dotK, HG.out]
      generalize l[k] = x at *
      have d0 := hc 0 (.int .i64 x) rfl
      rw [Nat.mul_one, Nat.add_zero] at d0
      have hz := HBr.out.size
      have HTr := Lib.hid (HT.out.below HBr.out)
      clear hc
      by_cases h0 : 0 < k
      · have h0i : (0 : Int) < (k : Int) := by omega
        rw [if_pos h0] at HS
        have hz1 : (dotK l k).length + 1 ≤ 1000000 := by omega
        go_wp2_with (first
          | (go_at_call 146; refine (itoa_any x _ hxk.1 (HT.out.below HBr3.out)).mono ?_; rintro e w4 ⟨rfl, hc⟩; have HB4 := Lib.hid (HB3.out.next hc); have HBr4 := Lib.hid (HBr3.out.trans (hc.mono HBr3.out.size)); clear hc)
          | (go_at_call 161; refine (writeString_b w.heap.size w.heap.size (dotK l k ++ [46]) (Lib.decDigits x) _ HB4.out (by simp; omega) HBr4.out.size).mono ?_; rintro e w5 ⟨rfl, hB5, hb5, _⟩; have HB5 := Lib.hid hB5; have HBr5 := Lib.hid (HBr4.out.trans hb5); clear hB5 hb5)
          | (go_at_call 161; refine (writeString_b w.heap.size w.heap.size (dotK l k) [46] _ HB.out (by simp; omega) hz).mono ?_; rintro e w3 ⟨rfl, hB3, hb3, _⟩; have HB3 := Lib.hid hB3; have HBr3 := Lib.hid (HBr.out.trans hb3); clear hB3 hb3))
        go_roundw
        case rel => exact ⟨k + 1, by omega, by go_num, by rw [HS.out, ← List.append_assoc]; exact HB5.out, HBr5.out⟩
        case measure => simp [intOf]; omega
      · have h0i : ¬ (0 : Int) < (k : Int) := by omega
        rw [if_neg h0, List.nil_append] at HS
        go_wp2_with (first
          | (go_at_call 146; refine (itoa_any x _ hxk.1 (HT.out.below HBr.out)).mono ?_; rintro e w4 ⟨rfl, hc⟩; have HB4 := Lib.hid (HB.out.next hc); have HBr4 := Lib.hid (HBr.out.trans (hc.mono HBr.out.size)); clear hc)
          | (go_at_call 161; refine (writeString_b w.heap.size w.heap.size (dotK l k) (Lib.decDigits x) _ HB4.out (by omega) HBr4.out.size).mono ?_; rintro e w5 ⟨rfl, hB5, hb5, _⟩; have HB5 := Lib.hid hB5; have HBr5 := Lib.hid (HBr4.out.trans hb5); clear hB5 hb5))
        go_roundw
        case rel => exact ⟨k + 1, by omega, by go_num, by rw [HS.out]; exact HB5.out, HBr5.out⟩
        case measure => simp [intOf]; omega
    · have hE : k = l.length := by omega
      subst hE
      rw [dotK_len] at HB
      go_wp2_with (go_at_call 141; refine (string_b w.heap.size w.heap.size _ _ HB.out HBr.out.size).mono ?_; rintro e w2 ⟨rfl, _, hb2, _⟩; have HBc := Lib.hid (HBr.out.trans hb2); clear hb2)
      go_ret
      exact ⟨rfl, HBc.out⟩

set_option maxHeartbeats 1000000 in
theorem dotted_any (l : List Nat) (a : Option Addr) (c : Nat) (w : World) (hA : At w 1 encI a l) (hn : l.length ≤ 1000) (hx : ∀ x ∈ l, x ≤ 9223372036854775807 ∧ (Lib.decDigits x).length ≤ 100) (htab : HasTab w) :
    Calls Tryz.prog 89 #[.slice a l.length c] w fun e w' => e = .returned (.string ⟨(dotP l).toArray⟩) ∧ Below w.heap.size w w' := by
  have HA := Lib.hid hA
  have HX := Lib.hid hx
  have HT := Lib.hid htab
  clear hA hx htab
  go_enter Tryz.func89, Tryz.ntmps89
  go_wp2_with (go_at_call 147; refine (join_any l a c w HA.out hn HX.out HT.out).mono ?_; rintro e w1 ⟨rfl, hb⟩)
  go_ret
  exact ⟨rfl, hb⟩
end Go.Proofs.YtohinfefidahlaaGreatDoor

namespace Go.Proofs.YtohinfefidahlaaGreatDoor
open Go.RowKit
set_option linter.unusedVariables false
set_option linter.unusedSimpArgs false

def padP (l : List Nat) (lv : Nat) : List Nat := (l ++ List.replicate lv 0).take lv
def nextP (l : List Nat) (lv : Nat) : List Nat := (padP l lv).set (lv - 1) ((padP l lv).getD (lv - 1) 0 + 1)
def nextE (l : List Nat) (lv : Int) : Nat :=
  if lv < 1 ∨ 3 < lv ∨ 3 < l.length then 1 else if l.any (fun n => decide (3999 < n)) = true then 1 else if 3999 ≤ (padP l lv.toNat).getD (lv.toNat - 1) 0 then 3 else 0
def NextG (w : World) (E : Nat) (R : List Nat) (e : Ending) (w' : World) : Prop :=
  (∃ v, e = .returned (.tuple #[v, .int .i64 E]) ∧ (E = 0 → Own w' w.heap.size 3 1 encI v R)) ∧ Below w.heap.size w w'
def NextGives (w : World) (l : List Nat) (lv : Int) : Ending → World → Prop := NextG w (nextE l lv) (nextP l lv.toNat)

set_option maxHeartbeats 2000000 in
set_option maxRecDepth 100000 in
theorem next_form (l : List Nat) (a : Option Addr) (c : Nat) (lv : Int) (w : World) (h : lv < 1 ∨ 3 < lv ∨ 3 < l.length) (hn : l.length ≤ 140737488351232) :
    Calls Tryz.prog 142 #[.slice a l.length c, .int .i64 lv] w (NextGives w l lv) := by
  have HE : Hid (nextE l lv = 1) := by show _ = _; unfold nextE; rw [if_pos h]
  by_cases h1 : lv < 1
  · go_enter Tryz.func142, Tryz.ntmps142
    go_wp2
    refine bodyPost_ret (results_tmp2 rfl _ _ _) rfl ?_
    exact ⟨⟨_, by rw [HE.out]; rfl, fun e => by rw [HE.out] at e; cases e⟩, Below.refl _ _⟩
  by_cases h2 : 3 < lv
  · have hd1 : decide (lv < 1) = false := decide_eq_false h1
    go_enter Tryz.func142, Tryz.ntmps142
    go_wp2
    refine bodyPost_ret (results_tmp2 rfl _ _ _) rfl ?_
    exact ⟨⟨_, by rw [HE.out]; rfl, fun e => by rw [HE.out] at e; cases e⟩, Below.refl _ _⟩
  · have h3 : (3 : Int) < (l.length : Int) := by omega
    have hd1 : decide (lv < 1) = false := decide_eq_false h1
    have hd2 : decide (3 < lv) = false := decide_eq_false h2
    go_enter Tryz.func142, Tryz.ntmps142
    go_wp2
    refine bodyPost_ret (results_tmp2 rfl _ _ _) rfl ?_
    exact ⟨⟨_, by rw [HE.out]; rfl, fun e => by rw [HE.out] at e; cases e⟩, Below.refl _ _⟩

theorem Own.of_bk {α : Type} {w : World} {B : Nat} {T : TypeId} {sz : Nat} {enc : α → List Value} (he : Enc sz enc) {g n : Nat} {l : List α} (h : Bk w g (l.flatMap enc) T) (hB : B ≤ g) (hn : n = l.length) (hm : n ≤ maxLen) : Own w B T sz enc (.slice (some ⟨g, 0, none⟩) n n) l := by
  subst hn
  exact ⟨flat_len he.len l, .inr ⟨g, l.length, (l.flatMap enc).toArray, rfl, hB, h, Nat.le_refl _, hm, by simp [flat_len he.len l], by rw [List.take_of_length_le]; rw [List.toList_toArray, flat_len he.len l]; exact Nat.le_refl _⟩⟩
theorem flatI (l : List Nat) : l.flatMap encI = l.map fun n : Nat => Value.int .i64 (n : Int) := by induction l with
  | nil => rfl
  | cons x l ih => rw [List.flatMap_cons, ih]; rfl
theorem splice_pad (l : List Nat) (m : Nat) : splice (List.replicate m (Value.int .i64 0)) 0 ((l.take m).flatMap encI) = (padP l m).flatMap encI := by
  unfold splice padP
  rw [flatI, flatI, List.take_zero, List.nil_append, List.length_map, List.length_take, Nat.zero_add, List.drop_replicate, List.take_append, List.map_append, List.take_replicate, List.map_replicate]
  congr 2
  omega
set_option maxRecDepth 100000 in
theorem mk_ints (m : Nat) (hm : m ≤ 3) (u : World) : (Instr.makeSlice 93 (.int .i64 (m : Int)) (.int .i64 (m : Int))).run Tryz.prog u = .ok (.slice (some ⟨u.heap.size, 0, none⟩) m m) (u.alloc (.cells (List.replicate m (Value.int .i64 0)).toArray 3)) := by
  obtain ⟨i0, hi, hz0, hz1, hz2⟩ := info_parts (show (Tryz.prog.info? 3).map (fun i => (i.zero, i.size, i.bytes)) = some (some (.int .i64 0), 1, 8) by kernel_rfl)
  have h := run_make (P := Tryz.prog) u 93 3 i0 (.int .i64 0) Tryz.underlying93 hi hz0 .i64 .i64 (m : Int) (m : Int) (by omega) (Int.le_refl _) (by rw [hz2]; omega) (by omega)
  rw [Int.toNat_natCast] at h
  rw [h, hz1]
  congr 3
  rw [Nat.mul_one]
  refine Array.ext (by simp [size_madeCells]) fun i h1 h2 => ?_
  simp [madeCells, Value.cells, Nat.mod_one]
set_option maxHeartbeats 4000000 in
set_option maxRecDepth 100000 in
theorem next_in (l : List Nat) (a : Option Addr) (c : Nat) (m : Nat) (w : World) (hA : At w 1 encI a l) (hn : l.length ≤ 3) (hm : m = 1 ∨ m = 2 ∨ m = 3) (hx : ∀ x ∈ l, x ≤ 30000) :
    Calls Tryz.prog 142 #[.slice a l.length c, .int .i64 (m : Nat)] w (NextG w (nextE l m) (nextP l m)) := by
  have HA := Lib.hid hA
  have HX := Lib.hid hx
  have HE : Hid (nextE l m = if l.any (fun n => decide (3999 < n)) = true then 1 else if 3999 ≤ (padP l m).getD (m - 1) 0 then 3 else 0) := by
    show _ = _; unfold nextE; rw [if_neg (by omega)]; rfl
  have HP : Hid (nextP l m = (padP l m).set (m - 1) ((padP l m).getD (m - 1) 0 + 1)) := by show _ = _; rfl
  generalize nextP l m = R at *
  generalize nextE l (m : Int) = E at *
  clear hA hx
  have hm1 : (1 : Int) ≤ (m : Int) := by omega
  have hm3 : (m : Int) ≤ 3 := by omega
  have hmN : m ≤ 3 := by omega
  have hm0 : 1 ≤ m := by omega
  clear hm
  ·
    go_enter Tryz.func142, Tryz.ntmps142
    go_wp2
    go_loop [22] (fun v22 => ∃ k : Nat, k ≤ l.length ∧ v22 = .int .i64 k ∧ Hid (∀ j, j < k → l.getD j 0 ≤ 3999)) (fun v22 => l.length - (intOf v22).toNat)
    case atStart => exact ⟨0, by omega, rfl, fun j hj => absurd hj (by omega)⟩
    case round =>
      obtain ⟨k, hk, rfl, HK⟩ := hrel
      by_cases hlt : k < l.length
      · obtain ⟨bb, off, ha, hbl, hc⟩ := HA.out.elem hlt
        subst ha
        have HG : Hid (l.getD k 0 = l[k]) := by show _ = _; rw [List.getD_eq_getElem?_getD, List.getElem?_eq_getElem hlt]; rfl
        have HM : Hid (l[k] ∈ l) := List.getElem_mem hlt
        generalize l[k] = x at *
        have d0 := hc 0 (.int .i64 x) rfl
        rw [Nat.mul_one, Nat.add_zero] at d0
        clear hc
        have hx0 : ¬ (x : Int) < 0 := by omega
        by_cases h39 : 3999 < x
        · have h39i : (3999 : Int) < (x : Int) := by omega
          have HN : Hid (l.any (fun n => decide (3999 < n)) = true) := by show _ = _; rw [List.any_eq_true]; exact ⟨x, HM.out, by simpa using h39⟩
          go_wp2
          refine bodyPost_ret (results_tmp2 rfl _ _ _) rfl ?_
          exact ⟨⟨_, by rw [HE.out, if_pos HN.out]; rfl, fun e => by rw [HE.out, if_pos HN.out] at e; cases e⟩, Below.refl _ _⟩
        · have h39i : ¬ (3999 : Int) < (x : Int) := by omega
          go_wp2
          go_round
          case rel => exact ⟨k + 1, by omega, by go_num, fun j hj => by
            rcases Nat.lt_succ_iff_lt_or_eq.1 hj with h | rfl
            · exact HK.out j h
            · rw [HG.out]; omega⟩
          case measure => simp [intOf]; omega
      · have HN : Hid (¬ l.any (fun n => decide (3999 < n)) = true) := by
          show ¬ _
          rw [List.any_eq_true]
          rintro ⟨x, hx, hx2⟩
          obtain ⟨j, hj, rfl⟩ := List.getElem_of_mem hx
          have := HK.out j (by omega)
          rw [List.getD_eq_getElem?_getD, List.getElem?_eq_getElem hj] at this
          simp at hx2
          simp at this
          omega
        have HZ : Hid ((padP l m).length = m) := by show _ = _; unfold padP; simp
        have hmk := mk_ints m hmN
        have HSP := Lib.hid (splice_pad l m)
        have HZL : Hid ((List.replicate m (Value.int .i64 0)).length = m) := List.length_replicate
        generalize List.replicate m (Value.int .i64 0) = Z at *
        have hrow := heap_alloc_new w (.cells Z.toArray 3)
        have HN1 : Hid (((l.take m).flatMap encI).length = Nat.min l.length m) := by show _ = _; rw [flatI, List.length_map, List.length_take]; exact Nat.min_comm _ _
        have HP1 : Hid (0 < ((l.take m).flatMap encI).length → ∃ ad, a = some ad ∧ ∀ j v, ((l.take m).flatMap encI)[j]? = some v → (w.alloc (.cells Z.toArray 3)).cell? (ad.add j) = some v) := by
          intro h0
          rw [flatI, List.length_map, List.length_take] at h0
          rcases HA.out with h | ⟨b, off, ha, hlt, hr⟩
          · rw [h] at h0; simp at h0
          · refine ⟨⟨b, off, none⟩, ha, fun j v hj => ?_⟩
            rw [flatI, List.getElem?_map, List.getElem?_take] at hj
            have hadd : (⟨b, off, none⟩ : Addr).add j = ⟨b, off + j, none⟩ := by unfold Addr.add; split <;> simp_all
            rw [hadd, ((Below.refl w.heap.size w).alloc (Nat.le_refl _) _).cell (p := ⟨b, off + j, none⟩) hlt]
            split at hj
            · cases hlj : l[j]? with
              | none => rw [hlj] at hj; cases hj
              | some x =>
                rw [hlj] at hj
                have := hr j x hlj 0 v (by rw [← hj]; rfl)
                rwa [Nat.mul_one, Nat.add_zero] at this
            · cases hj
        have HF1 : Hid (0 + ((l.take m).flatMap encI).length ≤ Z.length) := by show _ ≤ _; rw [flatI, List.length_map, List.length_take, HZL.out]; omega
        have HO1 : Hid (∀ v ∈ (l.take m).flatMap encI, v.oneCell' = true) := fun v hv => by
          rw [flatI] at hv
          obtain ⟨x, _, rfl⟩ := List.mem_map.1 hv
          rfl
        generalize (l.take m).flatMap encI = cs at *
        go_wp2_with (refine hold_at 37 rfl ?_)
        constructor
        refine wpList_copy_splice rfl (.tmp 35) (.tmp 36) 93 93 rfl 3 Tryz.underlying93 (by kernel_rfl) (some ⟨w.heap.size, 0, none⟩) a m m l.length c rfl rfl w.heap.size 0 Z 3 hrow cs HN1.out (fun h0 => ⟨rfl, HP1.out h0⟩) HF1.out HO1.out w.heap.size w ((Below.refl _ _).alloc (Nat.le_refl _) _) (Nat.le_refl _) ?_
        intro w2 hB2 hb2
        have HB2 : Hid (Bk w2 w.heap.size ((padP l m).flatMap encI) 3) := by
          show Bk _ _ _ _
          rw [← HSP.out]; exact hB2.out
        clear hB2 hrow hmk HN1 HP1 HF1 HO1 HSP
        have hzm := HZ.out
        have hlen : m - 1 < (padP l m).length := by omega
        have HY : Hid ((padP l m).getD (m - 1) 0 ≤ 30000) := by
          show _ ≤ _
          rw [List.getD_eq_getElem?_getD, List.getElem?_eq_getElem hlen]
          have hmem := List.getElem_mem hlen
          unfold padP at hmem
          rcases List.mem_append.1 (List.mem_of_mem_take hmem) with h | h
          · exact HX.out _ h
          · have := List.eq_of_mem_replicate h
            unfold padP
            simp only [Option.getD_some]
            omega
        have hcl : w2.cell? ⟨w.heap.size, m - 1, none⟩ = some (.int .i64 ((padP l m).getD (m - 1) 0 : Nat)) := by
          rw [HB2.out.cell, flatI, List.getElem?_map, List.getD_eq_getElem?_getD, List.getElem?_eq_getElem hlen]; rfl
        have hfr : w2.frozen? ⟨w.heap.size, m - 1, none⟩ = false := HB2.out.free _
        generalize padP l m = D at *
        generalize D.getD (m - 1) 0 = y at *
        have hy := HY.out
        obtain ⟨q, rfl⟩ : ∃ q, m = q + 1 := ⟨m - 1, by omega⟩
        rw [Nat.add_sub_cancel] at *
        have HE2 : Hid (E = if 3999 ≤ y then 3 else 0) := by show _ = _; rw [HE.out, if_neg HN.out]
        clear HE HN HK hzm
        by_cases h39 : 3999 ≤ y
        · have h39i : (3999 : Int) ≤ (y : Int) := by omega
          go_wp2
          have e3 : E = 3 := by rw [HE2.out, if_pos h39]
          refine bodyPost_ret (results_tmp2 rfl _ _ _) rfl ?_
          exact ⟨⟨_, by rw [e3]; rfl, fun e => by rw [e3] at e; cases e⟩, hb2⟩
        · have h39i : ¬ (3999 : Int) ≤ (y : Int) := by omega
          go_wp2
          have e3 : E = 0 := by rw [HE2.out, if_neg h39]
          refine bodyPost_ret (results_tmp2 rfl _ _ _) rfl ?_
          refine ⟨⟨_, by rw [e3]; rfl, fun _ => ?_⟩, hb2.setCell (p := ⟨w.heap.size, q, none⟩) (Nat.le_refl _) _⟩
          have hbk := HB2.out.set q (.int .i64 ((y : Int) + 1))
          have e4 : (D.flatMap encI).set q (.int .i64 ((y : Int) + 1)) = R.flatMap encI := by
            rw [HP.out, flatI, flatI, List.map_set]; rfl
          rw [e4] at hbk
          exact Own.of_bk encI_ok hbk (Nat.le_refl _) (by rw [HP.out, List.length_set, HZ.out]) (by unfold maxLen; omega)
theorem next_any (l : List Nat) (a : Option Addr) (c : Nat) (lv : Int) (w : World) (hA : At w 1 encI a l) (hn : l.length ≤ 3) (hx : ∀ x ∈ l, x ≤ 30000) :
    Calls Tryz.prog 142 #[.slice a l.length c, .int .i64 lv] w (NextGives w l lv) := by
  by_cases h : 1 ≤ lv ∧ lv ≤ 3
  · obtain ⟨m, rfl⟩ : ∃ m : Nat, lv = (m : Int) := ⟨lv.toNat, by omega⟩
    have h2 := next_in l a c m w hA hn (by omega) hx
    unfold NextGives
    rw [Int.toNat_natCast]
    exact h2
  · exact next_form l a c lv w (by omega) (by omega)
end Go.Proofs.YtohinfefidahlaaGreatDoor

namespace Go.Proofs.YtohinfefidahlaaGreatDoor
open Go.RowKit
set_option linter.unusedVariables false
set_option linter.unusedSimpArgs false

structure Pl where
  label : Bytes
  kind : Nat
  number : Bytes
  title : Bytes
  page : Bytes
  anchor : Bytes
def encPl (x : Pl) : List Value := [.string ⟨x.label.toArray⟩, .int .u8 x.kind, .string ⟨x.number.toArray⟩, .string ⟨x.title.toArray⟩, .string ⟨x.page.toArray⟩, .string ⟨x.anchor.toArray⟩]
theorem encPl_ok : Enc 6 encPl := ⟨fun _ => rfl, fun x u hu => by simp [encPl] at hu; rcases hu with rfl | rfl | rfl | rfl | rfl | rfl <;> rfl⟩

/-! ### counts -/
structure Cnt where
  ts : List Nat
  ks : List Nat
def ledB (k : Nat) : Bool := k == 1 || k == 6 || k == 7
def bumpK (ks : List Nat) (k : Nat) : List Nat := ks.set k (ks.getD k 0 + 1)
def tsP (ts : List Nat) (lv : Int) : List Nat := if nextE ts lv = 0 then nextP ts lv.toNat else ts
def cntP (c : Cnt) (k : Nat) (lv : Int) : Cnt :=
  ⟨if k = 1 ∧ (1 < (bumpK c.ks k).getD k 0 ∨ lv ≠ 1) then tsP c.ts lv else c.ts, bumpK c.ks k⟩
def numP (p : Nat) (c : Cnt) (k : Nat) (lv : Int) : Bytes := if k = 1 then dotP (cntP c k lv).ts else dotP [p, (cntP c k lv).ks.getD k 0]
def cnt0 (p : Nat) : Cnt := ⟨[p], [0, 0, 0, 0, 0, 0, 0, 0]⟩

/-! ### the places of a chapter, and of all -/
structure St where
  cnt : Cnt
  pls : List Pl
  anc : List Bytes
  labs : List Bytes
  dgs : List Dg
def plP (p : Nat) (page : Bytes) (c : Cnt) (b : Bl) : Pl := ⟨b.label, b.kind, numP p c b.kind b.level, sayL b.sl, page, []⟩
def ancP (b : Bl) : Bytes := if b.label = [] then slugOf (sayL b.sl) else b.label
def stepB (p : Nat) (page : Bytes) (s : St) (b : Bl) : St :=
  if ledB b.kind = true then
    ⟨cntP s.cnt b.kind b.level, s.pls ++ [plP p page s.cnt b], s.anc ++ [ancP b], if b.label = [] then s.labs else s.labs ++ [b.label],
      if b.label ≠ [] ∧ b.label ∈ s.labs then s.dgs ++ [⟨b.file, b.line, 11, b.label⟩] else s.dgs⟩
  else s
def htmlB : Bytes := [46, 104, 116, 109, 108]
def chapS (p : Nat) (name : Bytes) (labs : List Bytes) (dgs : List Dg) (bs : List Bl) : St := bs.foldl (stepB p (name ++ htmlB)) ⟨cnt0 p, [], [], labs, dgs⟩
def setA (p : Pl) (a : Bytes) : Pl := { p with anchor := a }
def fixA (pls : List Pl) (xs : List Bytes) : List Pl := List.zipWith setA pls xs
structure Tot where
  pls : List Pl
  labs : List Bytes
  dgs : List Dg
def stepC (t : Tot) (p : Nat) (c : Ch) : Tot :=
  ⟨t.pls ++ fixA (chapS p c.name t.labs t.dgs c.bl).pls (unlike (chapS p c.name t.labs t.dgs c.bl).anc), (chapS p c.name t.labs t.dgs c.bl).labs, (chapS p c.name t.labs t.dgs c.bl).dgs⟩
def totK (l : List Ch) : Nat → Tot
  | 0 => ⟨[], [], []⟩
  | k + 1 => match l[k]? with
    | some c => stepC (totK l k) (k + 1) c
    | none => totK l k
def totP (l : List Ch) : Tot := totK l l.length
theorem totK_succ {l : List Ch} {k : Nat} (h : k < l.length) : totK l (k + 1) = stepC (totK l k) (k + 1) l[k] := by
  rw [totK, List.getElem?_eq_getElem h]
theorem chapS_succ {p : Nat} {name : Bytes} {labs : List Bytes} {dgs : List Dg} {bs : List Bl} {k : Nat} (h : k < bs.length) :
    chapS p name labs dgs (bs.take (k + 1)) = stepB p (name ++ htmlB) (chapS p name labs dgs (bs.take k)) bs[k] := by
  unfold chapS; rw [List.take_succ_eq_append_getElem h, List.foldl_append]; rfl

/-! ### the counts' lengths and bounds -/
theorem padP_len (l : List Nat) (lv : Nat) : (padP l lv).length = lv := by unfold padP; simp
theorem nextP_len (l : List Nat) (lv : Nat) : (nextP l lv).length = lv := by unfold nextP; rw [List.length_set, padP_len]
theorem bumpK_len (ks : List Nat) (k : Nat) : (bumpK ks k).length = ks.length := by unfold bumpK; simp
theorem bumpK_get (ks : List Nat) (k j : Nat) (hk : k < ks.length) : (bumpK ks k).getD j 0 = if j = k then ks.getD k 0 + 1 else ks.getD j 0 := by
  unfold bumpK
  rw [List.getD_eq_getElem?_getD, List.getElem?_set]
  by_cases h : k = j
  · subst h; simp [hk]
  · rw [if_neg h, if_neg (fun e => h e.symm), ← List.getD_eq_getElem?_getD]
theorem padP_mem {l : List Nat} {lv x : Nat} (h : x ∈ padP l lv) : x = 0 ∨ x ∈ l := by
  unfold padP at h
  have := List.mem_of_mem_take h
  rcases List.mem_append.1 this with h | h
  · exact .inr h
  · exact .inl (List.eq_of_mem_replicate h)
theorem nextE_zero {l : List Nat} {lv : Int} (h : nextE l lv = 0) : 1 ≤ lv ∧ lv ≤ 3 ∧ l.length ≤ 3 ∧ (∀ x ∈ l, x ≤ 3999) ∧ (padP l lv.toNat).getD (lv.toNat - 1) 0 < 3999 := by
  unfold nextE at h
  split at h
  · cases h
  · rename_i h1
    split at h
    · cases h
    · rename_i h2
      split at h
      · cases h
      · rename_i h3
        refine ⟨by omega, by omega, by omega, fun x hx => ?_, by omega⟩
        simp only [List.any_eq_true, decide_eq_true_eq, not_exists, not_and] at h2
        have := h2 x hx; omega
/-- what counts are like: one to three numbers, none too great; eight kinds, none counted more often than there were blocks -/
structure CntOk (n : Nat) (c : Cnt) : Prop where
  len : c.ts.length ≤ 3
  le : ∀ x ∈ c.ts, x ≤ 30000
  ks : c.ks.length = 8
  kle : ∀ k, c.ks.getD k 0 ≤ n
theorem CntOk.start (p : Nat) (hp : p ≤ 30000) : CntOk 0 (cnt0 p) :=
  ⟨by simp [cnt0], by simpa [cnt0] using hp, rfl, fun k => by
    match k with
    | 0 | 1 | 2 | 3 | 4 | 5 | 6 | 7 => simp [cnt0]
    | k + 8 => simp [cnt0]⟩
theorem CntOk.mono {n m : Nat} {c : Cnt} (h : CntOk n c) (hm : n ≤ m) : CntOk m c := ⟨h.len, h.le, h.ks, fun k => Nat.le_trans (h.kle k) hm⟩
theorem tsP_ok {ts : List Nat} (lv : Int) (h1 : ts.length ≤ 3) (h2 : ∀ x ∈ ts, x ≤ 30000) : (tsP ts lv).length ≤ 3 ∧ ∀ x ∈ tsP ts lv, x ≤ 30000 := by
  unfold tsP
  by_cases he : nextE ts lv = 0
  · rw [if_pos he]
    obtain ⟨g1, g2, g3, g4, g5⟩ := nextE_zero he
    refine ⟨by rw [nextP_len]; omega, fun x hx => ?_⟩
    unfold nextP at hx
    rcases List.mem_or_eq_of_mem_set hx with hx | hx
    · rcases padP_mem hx with hx | hx
      · omega
      · exact h2 x hx
    · omega
  · rw [if_neg he]; exact ⟨h1, h2⟩
theorem CntOk.next {n : Nat} {c : Cnt} (h : CntOk n c) {k : Nat} (hk : k < 8) (lv : Int) : CntOk (n + 1) (cntP c k lv) := by
  have hks : (bumpK c.ks k).length = 8 := by rw [bumpK_len]; exact h.ks
  have hkle : ∀ j, (bumpK c.ks k).getD j 0 ≤ n + 1 := fun j => by
    rw [bumpK_get _ _ _ (by rw [h.ks]; exact hk)]
    have h1 := h.kle k
    have h2 := h.kle j
    split <;> omega
  have ht := tsP_ok lv h.len h.le
  unfold cntP
  split
  · exact ⟨ht.1, ht.2, hks, hkle⟩
  · exact ⟨h.len, h.le, hks, hkle⟩
theorem nextP_head {p : Nat} {r : List Nat} {lv : Nat} (h : 2 ≤ lv) : ∃ r', nextP (p :: r) lv = p :: r' := by
  obtain ⟨m, rfl⟩ : ∃ m, lv = m + 2 := ⟨lv - 2, by omega⟩
  refine ⟨((r ++ List.replicate (m + 2) 0).take (m + 1)).set m ((padP (p :: r) (m + 2)).getD (m + 1) 0 + 1), ?_⟩
  unfold nextP
  rw [show m + 2 - 1 = m + 1 from rfl]
  unfold padP
  rw [List.cons_append, List.take_succ_cons, List.set_cons_succ]
/-- the first number is the chapter's, where no further title has level 1 -/
def HdOk (p : Nat) (c : Cnt) : Prop := ∃ r, c.ts = p :: r
theorem HdOk.next {p : Nat} {c : Cnt} (h : HdOk p c) {k : Nat} {lv : Int} (hlv : k = 1 → lv = 1 → (bumpK c.ks k).getD k 0 ≤ 1) : HdOk p (cntP c k lv) := by
  unfold cntP
  by_cases hc : k = 1 ∧ (1 < (bumpK c.ks k).getD k 0 ∨ lv ≠ 1)
  · rw [if_pos hc]
    unfold tsP
    by_cases he : nextE c.ts lv = 0
    · rw [if_pos he]
      obtain ⟨h1, h2, h3, h4, h5⟩ := nextE_zero he
      have hlv2 : lv ≠ 1 := fun e => by
        have := hlv hc.1 e
        rcases hc.2 with h | h
        · omega
        · exact h e
      obtain ⟨r, hr⟩ := h
      show ∃ r', nextP _ _ = p :: r'
      rw [hr]
      exact nextP_head (by omega)
    · rw [if_neg he]; exact h
  · rw [if_neg hc]; exact h
end Go.Proofs.YtohinfefidahlaaGreatDoor

namespace Go.Proofs.YtohinfefidahlaaGreatDoor
open Go.RowKit
set_option linter.unusedVariables false
set_option linter.unusedSimpArgs false

def loOf (p a n : Bytes) : LoK := if h : p.length ≤ 2000000 ∧ a.length ≤ 2000000 ∧ n.length ≤ 2000000 then ⟨(p, a, n), h⟩ else ⟨([], [], []), by simp⟩
theorem loOf_val {p a n : Bytes} (h1 : p.length ≤ 2000000) (h2 : a.length ≤ 2000000) (h3 : n.length ≤ 2000000) : (loOf p a n).1 = (p, a, n) := by unfold loOf; rw [dif_pos ⟨h1, h2, h3⟩]
structure BS where
  rest : List Pl
  here : LoK
  tl : List Tl
  ws : List Dg
def pl0 : Pl := ⟨[], 0, [], [], [], []⟩
def tlsOf (here : LoK) (l : List Tm) : List Tl := l.map fun t => ⟨t.text, t.sub, t.see, here⟩
def wantB (b : Bl) (t : Tm) : Option Dg := if t.see = [] then none else some ⟨b.file, b.line, 14, t.see⟩
def wsOf (b : Bl) (l : List Tm) : List Dg := l.filterMap (wantB b)
def placeB (s : BS) : Pl := s.rest.headD pl0
def hereB (s : BS) (b : Bl) : LoK := if b.kind = 1 then loOf (placeB s).page (placeB s).anchor (placeB s).number else s.here
def restB (s : BS) (b : Bl) : List Pl := if ledB b.kind then s.rest.tail else s.rest
def tmsC (l : List Ce) : List Tm := l.flatMap fun c => eachL 5 c.sl
def tmsR (l : List Rw) : List Tm := l.flatMap fun r => tmsC r.cl
def tmsB (b : Bl) : List Tm := eachL 5 b.sl ++ tmsR b.rl
def stepBS (s : BS) (b : Bl) : BS := ⟨restB s b, hereB s b, s.tl ++ tlsOf (hereB s b) (tmsB b), s.ws ++ wsOf b (tmsB b)⟩
def chBS0 (s : BS) (p : Nat) (c : Ch) : BS := { s with here := loOf (c.name ++ htmlB) [] (dotP [p]) }
def chBS (s : BS) (p : Nat) (c : Ch) (k : Nat) : BS := (c.bl.take k).foldl stepBS (chBS0 s p c)
def allBS (pls : List Pl) (l : List Ch) : Nat → BS
  | 0 => ⟨pls, loOf [] [] [], [], []⟩
  | k + 1 => match l[k]? with
    | some c => chBS (allBS pls l k) (k + 1) c c.bl.length
    | none => allBS pls l k
theorem allBS_succ {pls : List Pl} {l : List Ch} {k : Nat} (h : k < l.length) : allBS pls l (k + 1) = chBS (allBS pls l k) (k + 1) l[k] l[k].bl.length := by
  rw [allBS, List.getElem?_eq_getElem h]
theorem chBS_succ {s : BS} {p : Nat} {c : Ch} {k : Nat} (h : k < c.bl.length) : chBS s p c (k + 1) = stepBS (chBS s p c k) c.bl[k] := by
  unfold chBS; rw [List.take_succ_eq_append_getElem h, List.foldl_append]; rfl
theorem chBS_zero (s : BS) (p : Nat) (c : Ch) : chBS s p c 0 = chBS0 s p c := rfl
theorem tlsOf_snoc (here : LoK) (l : List Tm) (t : Tm) : tlsOf here (l ++ [t]) = tlsOf here l ++ [⟨t.text, t.sub, t.see, here⟩] := by unfold tlsOf; rw [List.map_append]; rfl
theorem wsOf_snoc (b : Bl) (l : List Tm) (t : Tm) : wsOf b (l ++ [t]) = wsOf b l ++ (wantB b t).toList := by
  unfold wsOf
  rw [List.filterMap_append]
  cases h : wantB b t <;> simp [h]

/-! ### how many, how long -/
theorem tmsC_le (l : List Ce) : (tmsC l).length ≤ szM szCe l := by
  induction l with
  | nil => exact Nat.le_refl _
  | cons c l ih =>
    have h1 := eachL_le 5 c.sl
    have h2 := nL_le c.sl
    rw [szL_eq] at h2
    have e : tmsC (c :: l) = eachL 5 c.sl ++ tmsC l := rfl
    rw [e, List.length_append]
    unfold szM at ih ⊢
    rw [sumM_cons, List.length_cons]
    have : szCe c = 1 + szM szS c.sl := rfl
    omega
theorem tmsR_le (l : List Rw) : (tmsR l).length ≤ szM szRw l := by
  induction l with
  | nil => exact Nat.le_refl _
  | cons c l ih =>
    have h1 := tmsC_le c.cl
    have e : tmsR (c :: l) = tmsC c.cl ++ tmsR l := rfl
    rw [e, List.length_append]
    unfold szM at ih ⊢
    rw [sumM_cons, List.length_cons]
    have : szRw c = 1 + szM szCe c.cl := rfl
    unfold szM at this h1
    omega
theorem tmsB_le (b : Bl) : (tmsB b).length ≤ szBl b := by
  have h1 := eachL_le 5 b.sl
  have h2 := nL_le b.sl
  rw [szL_eq] at h2
  have h3 := tmsR_le b.rl
  unfold tmsB szBl
  rw [List.length_append]
  omega
theorem tlsOf_length (here : LoK) (l : List Tm) : (tlsOf here l).length = l.length := by unfold tlsOf; rw [List.length_map]
theorem wsOf_length (b : Bl) (l : List Tm) : (wsOf b l).length ≤ l.length := List.length_filterMap_le _ _
theorem chBS_len (s : BS) (p : Nat) (c : Ch) : ∀ k, k ≤ c.bl.length → (chBS s p c k).tl.length ≤ s.tl.length + sumM szBl (c.bl.take k) ∧ (chBS s p c k).ws.length ≤ s.ws.length + sumM szBl (c.bl.take k)
  | 0, _ => ⟨Nat.le_add_right _ _, Nat.le_add_right _ _⟩
  | k + 1, h => by
    have ih := chBS_len s p c k (by omega)
    rw [chBS_succ (by omega), sumM_take_succ szBl (by omega)]
    have h1 := tmsB_le c.bl[k]
    have h2 := wsOf_length c.bl[k] (tmsB c.bl[k])
    unfold stepBS
    constructor
    · show (_ ++ tlsOf _ _).length ≤ _
      rw [List.length_append, tlsOf_length]; omega
    · show (_ ++ wsOf _ _).length ≤ _
      rw [List.length_append]; omega
theorem chBS_rest (s : BS) (p : Nat) (c : Ch) : ∀ k, k ≤ c.bl.length → ∀ x ∈ (chBS s p c k).rest, x ∈ s.rest
  | 0, _ => fun x hx => hx
  | k + 1, h => fun x hx => by
    have ih := chBS_rest s p c k (by omega)
    rw [chBS_succ (by omega)] at hx
    have hx : x ∈ restB (chBS s p c k) c.bl[k] := hx
    unfold restB at hx
    split at hx
    · exact ih x (List.mem_of_mem_tail hx)
    · exact ih x hx
theorem allBS_len (pls : List Pl) (l : List Ch) : ∀ k, k ≤ l.length → (allBS pls l k).tl.length ≤ sumM szCh (l.take k) ∧ (allBS pls l k).ws.length ≤ sumM szCh (l.take k)
  | 0, _ => ⟨Nat.zero_le _, Nat.zero_le _⟩
  | k + 1, h => by
    have ih := allBS_len pls l k (by omega)
    rw [allBS_succ (by omega), sumM_take_succ szCh (by omega)]
    have h1 := chBS_len (allBS pls l k) (k + 1) l[k] l[k].bl.length (Nat.le_refl _)
    rw [List.take_length] at h1
    have h2 : szM szBl l[k].bl ≤ szCh l[k] := by unfold szCh; omega
    unfold szM at h2
    omega
theorem allBS_rest (pls : List Pl) (l : List Ch) : ∀ k, k ≤ l.length → ∀ x ∈ (allBS pls l k).rest, x ∈ pls
  | 0, _ => fun x hx => hx
  | k + 1, h => fun x hx => by
    rw [allBS_succ (by omega)] at hx
    exact allBS_rest pls l k (by omega) x (chBS_rest _ _ _ _ (Nat.le_refl _) x hx)
def tmSz (t : Tm) : Nat := t.text.length + t.sub.length + t.see.length
mutual
theorem eachS_bd (k : Nat) : ∀ (x : Sp), ∀ t ∈ eachS k x, tmSz t ≤ szS x
  | .mk kd a b c ka kc kids => fun t ht => by
    rw [eachS] at ht
    rw [szS]
    rcases List.mem_append.1 ht with ht | ht
    · split at ht
      · rw [List.mem_singleton.1 ht]; unfold tmSz; simp only; omega
      · cases ht
    · have := eachL_bd k kids t ht; omega
theorem eachL_bd (k : Nat) : ∀ (l : List Sp), ∀ t ∈ eachL k l, tmSz t ≤ szL l
  | [] => fun t ht => by rw [eachL] at ht; cases ht
  | x :: l => fun t ht => by
    rw [eachL] at ht
    rw [szL]
    rcases List.mem_append.1 ht with ht | ht
    · have := eachS_bd k x t ht; omega
    · have := eachL_bd k l t ht; omega
end
theorem tmsB_bd (b : Bl) : ∀ t ∈ tmsB b, tmSz t ≤ szBl b := by
  intro t ht
  unfold tmsB at ht
  unfold szBl
  rcases List.mem_append.1 ht with ht | ht
  · have := eachL_bd 5 b.sl t ht
    rw [szL_eq] at this; omega
  · unfold tmsR at ht
    obtain ⟨r, hr, ht⟩ := List.mem_flatMap.1 ht
    unfold tmsC at ht
    obtain ⟨c, hc, ht⟩ := List.mem_flatMap.1 ht
    have h1 := eachL_bd 5 c.sl t ht
    rw [szL_eq] at h1
    have h2 := szM_mem szCe hc
    have h3 := szM_mem szRw hr
    have h4 : szCe c = 1 + szM szS c.sl := rfl
    have h5 : szRw r = 1 + szM szCe r.cl := rfl
    omega
theorem chBS_bd {s : BS} {p : Nat} {c : Ch} (hs : ∀ x ∈ s.tl, TlBd x) (hc : ∀ b ∈ c.bl, szBl b ≤ 1000000) : ∀ k, k ≤ c.bl.length → ∀ x ∈ (chBS s p c k).tl, TlBd x
  | 0, _ => hs
  | k + 1, h => fun x hx => by
    rw [chBS_succ (by omega)] at hx
    have hx : x ∈ (chBS s p c k).tl ++ tlsOf (hereB (chBS s p c k) c.bl[k]) (tmsB c.bl[k]) := hx
    rcases List.mem_append.1 hx with hx | hx
    · exact chBS_bd hs hc k (by omega) x hx
    · unfold tlsOf at hx
      obtain ⟨t, ht, rfl⟩ := List.mem_map.1 hx
      have h1 := tmsB_bd _ t ht
      have h2 := hc _ (List.getElem_mem (show k < c.bl.length by omega))
      unfold tmSz at h1
      exact ⟨by show t.text.length ≤ _; omega, by show t.sub.length ≤ _; omega, by show t.see.length ≤ _; omega⟩
theorem allBS_bd (pls : List Pl) {l : List Ch} (hl : szM szCh l ≤ 300000) : ∀ k, k ≤ l.length → ∀ x ∈ (allBS pls l k).tl, TlBd x
  | 0, _ => fun x hx => by cases hx
  | k + 1, h => by
    rw [allBS_succ (by omega)]
    refine chBS_bd (allBS_bd pls hl k (by omega)) (fun b hb => ?_) _ (Nat.le_refl _)
    have h1 := szM_mem szBl hb
    have h2 := szM_mem szCh (List.getElem_mem (show k < l.length by omega))
    have h3 : szM szBl l[k].bl ≤ szCh l[k] := by unfold szCh; omega
    omega
end Go.Proofs.YtohinfefidahlaaGreatDoor
