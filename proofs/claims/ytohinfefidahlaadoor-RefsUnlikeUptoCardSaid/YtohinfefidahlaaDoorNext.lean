/- numbers.Next: of at most three natural numbers. -/
import Derived.Test.YtohinfefidahlaaDoorNums
import Derived.Test.YtohinfefidahlaaDoorHeld
import Derived.Test.YtohinfefidahlaaDoorHld
import Derived.Laws.CopyOwn
namespace Go.Proofs.YtohinfefidahlaaDoor
open Go.RowKit
set_option linter.unusedVariables false

def padP (l : List Nat) (lv : Nat) : List Nat := (l ++ List.replicate lv 0).take lv
def nextP (l : List Nat) (lv : Nat) : List Nat := (padP l lv).set (lv - 1) ((padP l lv).getD (lv - 1) 0 + 1)
def nextE (l : List Nat) (lv : Int) : Nat :=
  if lv < 1 ∨ 3 < lv ∨ 3 < l.length then 1 else if l.any (fun n => decide (3999 < n)) = true then 1 else if 3999 ≤ (padP l lv.toNat).getD (lv.toNat - 1) 0 then 3 else 0
def NextG (w : World) (E : Nat) (R : List Nat) (e : Ending) (w' : World) : Prop :=
  (∃ v, e = .returned (.tuple #[v, .int .i64 E]) ∧ (E = 0 → Own w' w.heap.size 3 1 encI v R)) ∧ Below w.heap.size w w'
def NextGives (w : World) (l : List Nat) (lv : Int) : Ending → World → Prop := NextG w (nextE l lv) (nextP l lv.toNat)

set_option maxHeartbeats 2000000 in
set_option maxRecDepth 100000 in
theorem next_form (l : List Nat) (a : Option Addr) (c : Nat) (lv : Int) (w : World) (h : lv < 1 ∨ 3 < lv ∨ 3 < l.length) (hn : l.length ≤ 140737488351232) :
    Calls Tryd.prog 29 #[.slice a l.length c, .int .i64 lv] w (NextGives w l lv) := by
  have HE : Hid (nextE l lv = 1) := by show _ = _; unfold nextE; rw [if_pos h]
  by_cases h1 : lv < 1
  · go_enter Tryd.func29, Tryd.ntmps29
    go_wp2
    refine bodyPost_ret (results_tmp2 rfl _ _ _) rfl ?_
    exact ⟨⟨_, by rw [HE.out]; rfl, fun e => by rw [HE.out] at e; cases e⟩, Below.refl _ _⟩
  by_cases h2 : 3 < lv
  · have hd1 : decide (lv < 1) = false := decide_eq_false h1
    go_enter Tryd.func29, Tryd.ntmps29
    go_wp2
    refine bodyPost_ret (results_tmp2 rfl _ _ _) rfl ?_
    exact ⟨⟨_, by rw [HE.out]; rfl, fun e => by rw [HE.out] at e; cases e⟩, Below.refl _ _⟩
  · have h3 : (3 : Int) < (l.length : Int) := by omega
    have hd1 : decide (lv < 1) = false := decide_eq_false h1
    have hd2 : decide (3 < lv) = false := decide_eq_false h2
    go_enter Tryd.func29, Tryd.ntmps29
    go_wp2
    refine bodyPost_ret (results_tmp2 rfl _ _ _) rfl ?_
    exact ⟨⟨_, by rw [HE.out]; rfl, fun e => by rw [HE.out] at e; cases e⟩, Below.refl _ _⟩

theorem Own.of_bk {α : Type} {w : World} {B : Nat} {T : TypeId} {sz : Nat} {enc : α → List Value} (he : Enc sz enc) {g n : Nat} {l : List α} (h : Bk w g (l.flatMap enc) T) (hB : B ≤ g) (hn : n = l.length) (hm : n ≤ maxLen) : Own w B T sz enc (.slice (some ⟨g, 0, none⟩) n n) l := by
  subst hn
  exact ⟨flat_len he.len l, .inr ⟨g, l.length, (l.flatMap enc).toArray, rfl, hB, h, Nat.le_refl _, hm, by simp [flat_len he.len l], by rw [List.take_of_length_le]; rw [List.toList_toArray, flat_len he.len l]; exact Nat.le_refl _⟩⟩
theorem flatI (l : List Nat) : l.flatMap encI = l.map fun n : Nat => Value.int .i64 (n : Int) := by induction l with
  | nil => rfl
  | cons x l ih => rw [List.flatMap_cons, ih]; rfl
theorem splice_pad (l : List Nat) (m : Nat) : splice (List.replicate m (Value.int .i64 0)) 0 ((l.take m).flatMap encI) = (padP l m).flatMap encI := by
  unfold splice padP
  rw [flatI, flatI, List.take_zero, List.nil_append, List.length_map, List.length_take, Nat.zero_add, List.drop_replicate, List.take_append, List.map_append, List.take_replicate, List.map_replicate]
  congr 2
  omega
set_option maxRecDepth 100000 in
theorem mk_ints (m : Nat) (hm : m ≤ 3) (u : World) : (Instr.makeSlice 59 (.int .i64 (m : Int)) (.int .i64 (m : Int))).run Tryd.prog u = .ok (.slice (some ⟨u.heap.size, 0, none⟩) m m) (u.alloc (.cells (List.replicate m (Value.int .i64 0)).toArray 3)) := by
  obtain ⟨i0, hi, hz0, hz1, hz2⟩ := info_parts (show (Tryd.prog.info? 3).map (fun i => (i.zero, i.size, i.bytes)) = some (some (.int .i64 0), 1, 8) by kernel_rfl)
  have h := run_make (P := Tryd.prog) u 59 3 i0 (.int .i64 0) Tryd.underlying59 hi hz0 .i64 .i64 (m : Int) (m : Int) (by omega) (Int.le_refl _) (by rw [hz2]; omega) (by omega)
  rw [Int.toNat_natCast] at h
  rw [h, hz1]
  congr 3
  rw [Nat.mul_one]
  refine Array.ext (by simp [size_madeCells]) fun i h1 h2 => ?_
  simp [madeCells, Value.cells, Nat.mod_one]
set_option maxHeartbeats 4000000 in
set_option maxRecDepth 100000 in
theorem next_in (l : List Nat) (a : Option Addr) (c : Nat) (m : Nat) (w : World) (hA : At w 1 encI a l) (hn : l.length ≤ 3) (hm : m = 1 ∨ m = 2 ∨ m = 3) (hx : ∀ x ∈ l, x ≤ 30000) :
    Calls Tryd.prog 29 #[.slice a l.length c, .int .i64 (m : Nat)] w (NextG w (nextE l m) (nextP l m)) := by
  have HA := Lib.hid hA
  have HX := Lib.hid hx
  have HE : Hid (nextE l m = if l.any (fun n => decide (3999 < n)) = true then 1 else if 3999 ≤ (padP l m).getD (m - 1) 0 then 3 else 0) := by
    show _ = _; unfold nextE; rw [if_neg (by omega)]; rfl
  have HP : Hid (nextP l m = (padP l m).set (m - 1) ((padP l m).getD (m - 1) 0 + 1)) := by show _ = _; rfl
  generalize nextP l m = R at *
  generalize nextE l (m : Int) = E at *
  clear hA hx
  have hm1 : (1 : Int) ≤ (m : Int) := by omega
  have hm3 : (m : Int) ≤ 3 := by omega
  have hmN : m ≤ 3 := by omega
  have hm0 : 1 ≤ m := by omega
  clear hm
  ·
    go_enter Tryd.func29, Tryd.ntmps29
    go_wp2
    go_loop [22] (fun v22 => ∃ k : Nat, k ≤ l.length ∧ v22 = .int .i64 k ∧ Hid (∀ j, j < k → l.getD j 0 ≤ 3999)) (fun v22 => l.length - (intOf v22).toNat)
    case atStart => exact ⟨0, by omega, rfl, fun j hj => absurd hj (by omega)⟩
    case round =>
      obtain ⟨k, hk, rfl, HK⟩ := hrel
      by_cases hlt : k < l.length
      · obtain ⟨bb, off, ha, hbl, hc⟩ := HA.out.elem hlt
        subst ha
        have HG : Hid (l.getD k 0 = l[k]) := by show _ = _; rw [List.getD_eq_getElem?_getD, List.getElem?_eq_getElem hlt]; rfl
        have HM : Hid (l[k] ∈ l) := List.getElem_mem hlt
        generalize l[k] = x at *
        have d0 := hc 0 (.int .i64 x) rfl
        rw [Nat.mul_one, Nat.add_zero] at d0
        clear hc
        have hx0 : ¬ (x : Int) < 0 := by omega
        by_cases h39 : 3999 < x
        · have h39i : (3999 : Int) < (x : Int) := by omega
          have HN : Hid (l.any (fun n => decide (3999 < n)) = true) := by show _ = _; rw [List.any_eq_true]; exact ⟨x, HM.out, by simpa using h39⟩
          go_wp2
          refine bodyPost_ret (results_tmp2 rfl _ _ _) rfl ?_
          exact ⟨⟨_, by rw [HE.out, if_pos HN.out]; rfl, fun e => by rw [HE.out, if_pos HN.out] at e; cases e⟩, Below.refl _ _⟩
        · have h39i : ¬ (3999 : Int) < (x : Int) := by omega
          go_wp2
          go_round
          case rel => exact ⟨k + 1, by omega, by go_num, fun j hj => by
            rcases Nat.lt_succ_iff_lt_or_eq.1 hj with h | rfl
            · exact HK.out j h
            · rw [HG.out]; omega⟩
          case measure => simp [intOf]; omega
      · have HN : Hid (¬ l.any (fun n => decide (3999 < n)) = true) := by
          show ¬ _
          rw [List.any_eq_true]
          rintro ⟨x, hx, hx2⟩
          obtain ⟨j, hj, rfl⟩ := List.getElem_of_mem hx
          have := HK.out j (by omega)
          rw [List.getD_eq_getElem?_getD, List.getElem?_eq_getElem hj] at this
          simp at hx2
          simp at this
          omega
        have HZ : Hid ((padP l m).length = m) := by show _ = _; unfold padP; simp
        have hmk := mk_ints m hmN
        have HSP := Lib.hid (splice_pad l m)
        have HZL : Hid ((List.replicate m (Value.int .i64 0)).length = m) := List.length_replicate
        generalize List.replicate m (Value.int .i64 0) = Z at *
        have hrow := heap_alloc_new w (.cells Z.toArray 3)
        have HN1 : Hid (((l.take m).flatMap encI).length = Nat.min l.length m) := by show _ = _; rw [flatI, List.length_map, List.length_take]; exact Nat.min_comm _ _
        have HP1 : Hid (0 < ((l.take m).flatMap encI).length → ∃ ad, a = some ad ∧ ∀ j v, ((l.take m).flatMap encI)[j]? = some v → (w.alloc (.cells Z.toArray 3)).cell? (ad.add j) = some v) := by
          intro h0
          rw [flatI, List.length_map, List.length_take] at h0
          rcases HA.out with h | ⟨b, off, ha, hlt, hr⟩
          · rw [h] at h0; simp at h0
          · refine ⟨⟨b, off, none⟩, ha, fun j v hj => ?_⟩
            rw [flatI, List.getElem?_map, List.getElem?_take] at hj
            have hadd : (⟨b, off, none⟩ : Addr).add j = ⟨b, off + j, none⟩ := by unfold Addr.add; split <;> simp_all
            rw [hadd, ((Below.refl w.heap.size w).alloc (Nat.le_refl _) _).cell (p := ⟨b, off + j, none⟩) hlt]
            split at hj
            · cases hlj : l[j]? with
              | none => rw [hlj] at hj; cases hj
              | some x =>
                rw [hlj] at hj
                have := hr j x hlj 0 v (by rw [← hj]; rfl)
                rwa [Nat.mul_one, Nat.add_zero] at this
            · cases hj
        have HF1 : Hid (0 + ((l.take m).flatMap encI).length ≤ Z.length) := by show _ ≤ _; rw [flatI, List.length_map, List.length_take, HZL.out]; omega
        have HO1 : Hid (∀ v ∈ (l.take m).flatMap encI, v.oneCell' = true) := fun v hv => by
          rw [flatI] at hv
          obtain ⟨x, _, rfl⟩ := List.mem_map.1 hv
          rfl
        generalize (l.take m).flatMap encI = cs at *
        go_wp2_with (refine hold_at 37 rfl ?_)
        constructor
        refine wpList_copy_splice rfl (.tmp 35) (.tmp 36) 59 59 rfl 3 Tryd.underlying59 (by kernel_rfl) (some ⟨w.heap.size, 0, none⟩) a m m l.length c rfl rfl w.heap.size 0 Z 3 hrow cs HN1.out (fun h0 => ⟨rfl, HP1.out h0⟩) HF1.out HO1.out w.heap.size w ((Below.refl _ _).alloc (Nat.le_refl _) _) (Nat.le_refl _) ?_
        intro w2 hB2 hb2
        have HB2 : Hid (Bk w2 w.heap.size ((padP l m).flatMap encI) 3) := by
          show Bk _ _ _ _
          rw [← HSP.out]; exact hB2.out
        clear hB2 hrow hmk HN1 HP1 HF1 HO1 HSP
        have hzm := HZ.out
        have hlen : m - 1 < (padP l m).length := by omega
        have HY : Hid ((padP l m).getD (m - 1) 0 ≤ 30000) := by
          show _ ≤ _
          rw [List.getD_eq_getElem?_getD, List.getElem?_eq_getElem hlen]
          have hmem := List.getElem_mem hlen
          unfold padP at hmem
          rcases List.mem_append.1 (List.mem_of_mem_take hmem) with h | h
          · exact HX.out _ h
          · have := List.eq_of_mem_replicate h
            unfold padP
            simp only [Option.getD_some]
            omega
        have hcl : w2.cell? ⟨w.heap.size, m - 1, none⟩ = some (.int .i64 ((padP l m).getD (m - 1) 0 : Nat)) := by
          rw [HB2.out.cell, flatI, List.getElem?_map, List.getD_eq_getElem?_getD, List.getElem?_eq_getElem hlen]; rfl
        have hfr : w2.frozen? ⟨w.heap.size, m - 1, none⟩ = false := HB2.out.free _
        generalize padP l m = D at *
        generalize D.getD (m - 1) 0 = y at *
        have hy := HY.out
        obtain ⟨q, rfl⟩ : ∃ q, m = q + 1 := ⟨m - 1, by omega⟩
        rw [Nat.add_sub_cancel] at *
        have HE2 : Hid (E = if 3999 ≤ y then 3 else 0) := by show _ = _; rw [HE.out, if_neg HN.out]
        clear HE HN HK hzm
        by_cases h39 : 3999 ≤ y
        · have h39i : (3999 : Int) ≤ (y : Int) := by omega
          go_wp2
          have e3 : E = 3 := by rw [HE2.out, if_pos h39]
          refine bodyPost_ret (results_tmp2 rfl _ _ _) rfl ?_
          exact ⟨⟨_, by rw [e3]; rfl, fun e => by rw [e3] at e; cases e⟩, hb2⟩
        · have h39i : ¬ (3999 : Int) ≤ (y : Int) := by omega
          go_wp2
          have e3 : E = 0 := by rw [HE2.out, if_neg h39]
          refine bodyPost_ret (results_tmp2 rfl _ _ _) rfl ?_
          refine ⟨⟨_, by rw [e3]; rfl, fun _ => ?_⟩, hb2.setCell (p := ⟨w.heap.size, q, none⟩) (Nat.le_refl _) _⟩
          have hbk := HB2.out.set q (.int .i64 ((y : Int) + 1))
          have e4 : (D.flatMap encI).set q (.int .i64 ((y : Int) + 1)) = R.flatMap encI := by
            rw [HP.out, flatI, flatI, List.map_set]; rfl
          rw [e4] at hbk
          exact Own.of_bk encI_ok hbk (Nat.le_refl _) (by rw [HP.out, List.length_set, HZ.out]) (by unfold maxLen; omega)
theorem next_any (l : List Nat) (a : Option Addr) (c : Nat) (lv : Int) (w : World) (hA : At w 1 encI a l) (hn : l.length ≤ 3) (hx : ∀ x ∈ l, x ≤ 30000) :
    Calls Tryd.prog 29 #[.slice a l.length c, .int .i64 lv] w (NextGives w l lv) := by
  by_cases h : 1 ≤ lv ∧ lv ≤ 3
  · obtain ⟨m, rfl⟩ : ∃ m : Nat, lv = (m : Int) := ⟨lv.toNat, by omega⟩
    have h2 := next_in l a c m w hA hn (by omega) hx
    unfold NextGives
    rw [Int.toNat_natCast]
    exact h2
  · exact next_form l a c lv w (by omega) (by omega)
end Go.Proofs.YtohinfefidahlaaDoor
