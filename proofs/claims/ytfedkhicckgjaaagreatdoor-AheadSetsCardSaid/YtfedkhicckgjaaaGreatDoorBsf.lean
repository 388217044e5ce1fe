/- Where an attribute stands, among one at most; one put in where there is none; one taken out. -/
import Derived.Test.YtfedkhicckgjaaaGreatDoorRdTwo
import Derived.Test.YtfedkhicckgjaaaGreatDoorShelf
import Derived.Deep.RegionHeld3
import Derived.Deep.AppendLies
namespace Go.Proofs.YtfedkhicckgjaaaGreatDoor
open Go.RowKit
set_option linter.unusedVariables false

theorem cmp_self : ∀ s : Bytes, Lib.compareBytes s s = 0
  | [] => rfl
  | a :: s => by
    unfold Lib.compareBytes
    rw [if_neg (UInt8.lt_irrefl a), if_neg (UInt8.lt_irrefl a), cmp_self s]

set_option maxHeartbeats 1000000 in
theorem wherecl_any (x : Two) (n : Bytes) (w : World) :
    Calls Tryz.prog 197 #[.agg #[.string ⟨x.name.toArray⟩, .string ⟨x.value.toArray⟩], .string ⟨n.toArray⟩] w fun e w' => e = .returned (.int .i64 (Lib.compareBytes x.name n)) ∧ Below w.heap.size w w' := by
  go_enter Tryz.func197, Tryz.ntmps197
  go_wp2_with (go_at_call 198; refine (Tryz.strings_Compare ⟨x.name.toArray⟩ ⟨n.toArray⟩ _).mono ?_; rintro e w1 ⟨rfl, rfl⟩)
  go_ret
  exact ⟨rfl, (Below.refl _ _).alloc (Nat.le_refl _) _⟩

set_option maxHeartbeats 2000000 in
set_option maxRecDepth 100000 in
theorem bsearch_nil (a : Option Addr) (c : Nat) (n : Bytes) (F : Value) (w : World) :
    Calls Tryz.prog 196 #[.slice a 0 c, .string ⟨n.toArray⟩, F] w fun e w' => e = .returned (.tuple #[.int .i64 0, .bool false]) ∧ Below w.heap.size w w' := by
  go_enter Tryz.func196, Tryz.ntmps196
  go_wp2
  refine wp_loop_rounds 1 ?_
  rw [rounds_succ]
  go_wp2
  refine bodyPost_ret (results_tmp2 rfl _ _ _) rfl ?_
  exact ⟨rfl, Below.refl _ _⟩

set_option maxHeartbeats 4000000 in
set_option maxRecDepth 100000 in
theorem bsearch_one (a : Option Addr) (c : Nat) (x : Two) (n : Bytes) (hn : x.name = n) (w : World) (hA : At w 2 encT a [x]) :
    Calls Tryz.prog 196 #[.slice a 1 c, .string ⟨n.toArray⟩, .func (.func 197) #[] #[]] w fun e w' => e = .returned (.tuple #[.int .i64 0, .bool true]) ∧ Below w.heap.size w w' := by
  have HA := Lib.hid hA
  obtain ⟨b, off, ha, hbl, hc⟩ := hA.elem (i := 0) (by simp)
  subst ha
  have d0 := hc 0 (.string ⟨x.name.toArray⟩) rfl
  have d1 := hc 1 (.string ⟨x.value.toArray⟩) rfl
  simp only [Nat.zero_mul, Nat.add_zero] at d0 d1
  have HCM : Hid (Lib.compareBytes x.name n = 0) := by show _ = _; rw [hn, cmp_self]
  clear hA hc hn
  go_enter Tryz.func196, Tryz.ntmps196
  go_wp2
  refine wp_loop_rounds 3 ?_
  rw [rounds_succ]
  go_wp2_with (go_at_call 197; refine (wherecl_any x n _).mono ?_; rw [HCM.out]; rintro e w1 ⟨rfl, hb1⟩; have e0 : w1.cell? ⟨b, off, none⟩ = some (.string ⟨x.name.toArray⟩) := (hb1.cell (p := ⟨b, off, none⟩) hbl).trans d0; have e1 : w1.cell? ⟨b, off + 1, none⟩ = some (.string ⟨x.value.toArray⟩) := (hb1.cell (p := ⟨b, off + 1, none⟩) hbl).trans d1)
  rw [rounds_succ]
  go_wp2_with (go_at_call 197; refine (wherecl_any x n _).mono ?_; rw [HCM.out]; rintro e w2 ⟨rfl, hc⟩; have hb2 := hb1.trans (hc.mono hb1.size))
  refine bodyPost_ret (results_tmp2 rfl _ _ _) rfl ?_
  exact ⟨rfl, hb2⟩

theorem slattrs6 : SlTy Tryz.prog 55 78 2 32 := ⟨Tryz.underlying55, .agg #[.string ⟨#[]⟩, .string ⟨#[]⟩], by kernel_rfl, rfl, by decide⟩

set_option maxHeartbeats 2000000 in
set_option maxRecDepth 100000 in
/-- put in where there is none -/
theorem insert_none (v : Value) (B : Nat) (x : Two) (G : Nat) (w : World) (hv : Own w B 78 2 encT v []) (hB : B ≤ w.heap.size) (hG : ∀ j u, (encT x)[j]? = some u → w.cell? ⟨G, j, none⟩ = some u) :
    Calls Tryz.prog 161 #[v, .int .i64 0, .slice (some ⟨G, 0, none⟩) 1 1] w fun e w' => ∃ v', e = .returned v' ∧ Own w' B 78 2 encT v' [x] ∧ w.grownBy w' v.ownBlock ∧ (∀ g, v'.ownBlock = some g → v.ownBlock = some g ∨ w.heap.size ≤ g) := by
  obtain ⟨a, c, rfl⟩ := hv.shape
  have HV := Lib.hid hv
  have HG := Lib.hid hG
  clear hv hG
  go_enter Tryz.func161, Tryz.ntmps161
  go_wp2_with (at_builtin; refine wpList_push2 rfl _ _ 55 rfl B 78 2 32 slattrs6 encT encT_ok (.slice a 0 c) [] rfl HV.out x G rfl HG.out (by simp) (by unfold maxLen; simp) hB ?_; intro v1 w1 hO1 hg1 hor; have HO1 := Lib.hid hO1; have HG1 := Lib.hid hg1; have HOR := Lib.hid hor; clear hO1 hg1 hor)
  go_ret
  refine ⟨v1, rfl, HO1.out, HG1.out, fun g hg => ?_⟩
  rcases HOR.out with ⟨g', c', h1, h2⟩ | ⟨h1, _⟩
  · rw [h2] at hg; rw [h1]; exact .inl hg
  · rw [h1] at hg; cases hg; exact .inr (Nat.le_refl _)

theorem clear_attr (W : World) (g c : Nat) (cur : Array Value) (ty : TypeId) (hg : W.heap[g]? = some (.cells cur 78 (0, 0))) (hs : 2 ≤ cur.size) :
    (Builtin.clear_ #[55] ty #[.slice (some ⟨g, 0, none⟩) 1 c]).run Tryz.prog W = .ok (.tuple #[]) (W.setRow g ([Value.string ⟨#[]⟩, Value.string ⟨#[]⟩] ++ cur.toList.drop 2).toArray) := by
  have h := run_storeCells_at (P := Tryz.prog) g 0 78 [.string ⟨#[]⟩, .string ⟨#[]⟩] 0 cur W hg (by simpa using hs) (by simp [Value.oneCell'])
  have hz : (Builtin.zeroCells (Value.agg #[.string ⟨#[]⟩, .string ⟨#[]⟩]).cells 1).toList = [.string ⟨#[]⟩, .string ⟨#[]⟩] := by kernel_rfl
  simp [Builtin.clear_, run_underlying Tryz.underlying55, hz, h]

set_option maxHeartbeats 4000000 in
set_option maxRecDepth 100000 in
/-- the only one taken out -/
theorem delete_one (g c : Nat) (B : Nat) (x : Two) (w : World) (hv : Own w B 78 2 encT (.slice (some ⟨g, 0, none⟩) 1 c) [x]) (hB : B ≤ w.heap.size) :
    Calls Tryz.prog 163 #[.slice (some ⟨g, 0, none⟩) 1 c, .int .i64 0, .int .i64 1] w fun e w' => e = .returned (.slice (some ⟨g, 0, none⟩) 0 c) ∧ Own w' B 78 2 encT (.slice (some ⟨g, 0, none⟩) 0 c) [] ∧ w.grownBy w' (some g) := by
  obtain ⟨cur, hgB, hg, hc1, hcm, hcs⟩ : ∃ cur, B ≤ g ∧ w.heap[g]? = some (.cells cur 78 (0, 0)) ∧ 1 ≤ c ∧ c ≤ maxLen ∧ cur.size = c * 2 := by
    rcases hv.2 with ⟨h1, _⟩ | ⟨g', cap, cur, h1, h2, h3, h4, h5, h6, _⟩
    · cases h1
    · injection h1 with ha hb hc
      injection ha with ha
      injection ha with ha
      subst ha hc
      exact ⟨cur, h2, h3, h4, h5, h6⟩
  have hcl := fun ty => clear_attr w.drew g c cur ty hg (by omega)
  have HG := Lib.hid hg
  clear hv hg
  have hc1i : (1 : Int) ≤ (c : Int) := by omega
  obtain ⟨nc, hnc⟩ : ∃ nc, nc = ([.string ⟨#[]⟩, .string ⟨#[]⟩] ++ cur.toList.drop 2 : List Value).toArray := ⟨_, rfl⟩
  rw [← hnc] at hcl
  have HNS : Hid (nc.size = c * 2) := by show _ = _; rw [hnc]; simp; omega
  clear hnc
  go_enter Tryz.func163, Tryz.ntmps163
  by_cases h1c : c = 1
  · subst h1c
    go_wp2_with fail
    go_region
    go_wp2_with fail
    go_ret
    have hg2 : (w.drew.setRow g nc).heap[g]? = some (.cells nc 78 (0, 0)) := setRow_heap w.drew g cur nc 78 (0, 0) HG.out
    refine ⟨rfl, ⟨rfl, .inr ⟨g, _, nc, rfl, hgB, hg2, Nat.zero_le _, hcm, HNS.out, by simp⟩⟩, rfl, rfl, rfl, by simp, fun k hk hne => ?_⟩
    rw [setRow_other w.drew g k nc (fun e => hne (by rw [e]))]; rfl
  · go_wp2_with fail
    go_region
    go_wp2_with fail
    go_ret
    have hg2 : (w.drew.setRow g nc).heap[g]? = some (.cells nc 78 (0, 0)) := setRow_heap w.drew g cur nc 78 (0, 0) HG.out
    refine ⟨rfl, ⟨rfl, .inr ⟨g, _, nc, rfl, hgB, hg2, Nat.zero_le _, hcm, HNS.out, by simp⟩⟩, rfl, rfl, rfl, by simp, fun k hk hne => ?_⟩
    rw [setRow_other w.drew g k nc (fun e => hne (by rw [e]))]; rfl
end Go.Proofs.YtfedkhicckgjaaaGreatDoor
