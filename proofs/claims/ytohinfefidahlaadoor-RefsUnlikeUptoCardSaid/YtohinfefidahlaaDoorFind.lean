/- refs.Find, refs.Contents: of any places. -/
import Derived.Test.YtohinfefidahlaaDoorPlIn
import Derived.Test.YtohinfefidahlaaDoorStore
import Derived.Test.YtohinfefidahlaaDoorHld
import Derived.Laws.StructEq
import Derived.Laws.ResultCell
import Derived.Deep.QuietTactic
import Derived.BigQuiet
namespace Go.Proofs.YtohinfefidahlaaDoor
open Go.RowKit
set_option linter.unusedVariables false

def pl0 : Pl := ⟨[], 0, [], [], [], []⟩
def findO (l : List Pl) (s : Bytes) : Option Pl := if s = [] then none else l.find? fun p => p.label == s
def FindGives (w : World) (o : Option Pl) (e : Ending) (w' : World) : Prop := e = .returned (.tuple #[.agg (encPl (o.getD pl0)).toArray, .bool o.isSome]) ∧ Below w.heap.size w w'
theorem find_none {l : List Pl} {s : Bytes} (hs : s ≠ []) (h : ∀ j (hj : j < l.length), l[j].label ≠ s) : findO l s = none := by
  unfold findO
  rw [if_neg hs, List.find?_eq_none]
  intro x hx
  obtain ⟨j, hj, rfl⟩ := List.getElem_of_mem hx
  simpa using h j hj
theorem find_some {l : List Pl} {s : Bytes} (hs : s ≠ []) {k : Nat} (hk : k < l.length) (h : ∀ j (hj : j < k), l[j].label ≠ s) (he : l[k].label = s) : findO l s = some l[k] := by
  unfold findO
  rw [if_neg hs, List.find?_eq_some_iff_getElem]
  exact ⟨by simpa using he, k, hk, rfl, fun j hj => by simpa using h j hj⟩

set_option maxHeartbeats 8000000 in
set_option maxRecDepth 100000 in
theorem find_any (l : List Pl) (a : Option Addr) (c : Nat) (s : Bytes) (w : World) (hA : At w 6 encPl a l) (hn : l.length ≤ 1000000) :
    Calls Tryd.prog 12 #[.slice a l.length c, .string ⟨s.toArray⟩] w (FindGives w (findO l s)) := by
  have HA := Lib.hid hA
  clear hA
  by_cases hs : s = []
  · have HO : Hid (findO l s = none) := by show _ = _; unfold findO; rw [if_pos hs]
    generalize findO l s = o at *
    have he : s.isEmpty = true := by subst hs; rfl
    go_enter Tryd.func12, Tryd.ntmps12
    go_wp2
    go_loopw [12] (fun v12 wr => ∃ k : Nat, k ≤ l.length ∧ v12 = .int .i64 k ∧ Hid (Bk wr w.heap.size (encPl pl0) 41) ∧ Hid (Bk wr (w.heap.size + 1) (encPl pl0) 41) ∧ Hid (Bk wr (w.heap.size + 1 + 1) (encPl pl0) 41) ∧ Hid (Below w.heap.size w wr)) (fun v12 _ => l.length - (intOf v12).toNat)
    case atStart =>
      refine ⟨0, by omega, rfl, ?_, ?_, ?_, (((Below.refl _ _).alloc (Nat.le_refl _) _).alloc (by simp) _).alloc (by simp; omega) _⟩
      · exact ((Bk.new w _ 41).alloc _).alloc _
      · have h := (Bk.new (w.alloc (.cells #[.string ⟨#[]⟩, .int .u8 0, .string ⟨#[]⟩, .string ⟨#[]⟩, .string ⟨#[]⟩, .string ⟨#[]⟩] 41)) #[.string ⟨#[]⟩, .int .u8 0, .string ⟨#[]⟩, .string ⟨#[]⟩, .string ⟨#[]⟩, .string ⟨#[]⟩] 41).alloc (.cells #[.string ⟨#[]⟩, .int .u8 0, .string ⟨#[]⟩, .string ⟨#[]⟩, .string ⟨#[]⟩, .string ⟨#[]⟩] 41)
        rw [World.size_alloc] at h
        exact h
      · have h := Bk.new ((w.alloc (.cells #[.string ⟨#[]⟩, .int .u8 0, .string ⟨#[]⟩, .string ⟨#[]⟩, .string ⟨#[]⟩, .string ⟨#[]⟩] 41)).alloc (.cells #[.string ⟨#[]⟩, .int .u8 0, .string ⟨#[]⟩, .string ⟨#[]⟩, .string ⟨#[]⟩, .string ⟨#[]⟩] 41)) #[.string ⟨#[]⟩, .int .u8 0, .string ⟨#[]⟩, .string ⟨#[]⟩, .string ⟨#[]⟩, .string ⟨#[]⟩] 41
        rw [World.size_alloc, World.size_alloc] at h
        exact h
    case round =>
      obtain ⟨k, hk, rfl, H0, H1, H2, HB⟩ := hrel
      by_cases hlt : k < l.length
      · obtain ⟨bb, off, ha, hbl, hc⟩ := (HA.out.below HB.out).elem hlt
        subst ha
        have hz := HB.out.size
        generalize l[k] = q at *
        have d0 := hc 0 (.string ⟨q.label.toArray⟩) rfl
        have d1 := hc 1 (.int .u8 q.kind) rfl
        have d2 := hc 2 (.string ⟨q.number.toArray⟩) rfl
        have d3 := hc 3 (.string ⟨q.title.toArray⟩) rfl
        have d4 := hc 4 (.string ⟨q.page.toArray⟩) rfl
        have d5 := hc 5 (.string ⟨q.anchor.toArray⟩) rfl
        rw [Nat.add_zero] at d0
        clear hc
        go_wp2
        go_roundw
        case rel => exact ⟨k + 1, by omega, by go_num, H0.out.alloc _, H1.out.alloc _, H2.out.alloc _, HB.out.alloc hz _⟩
        case measure => simp [intOf]; omega
      · have f0 := H2.out.cell 0
        change wr.cell? ⟨w.heap.size + 1 + 1, 0, none⟩ = some (.string ⟨#[]⟩) at f0
        have f1 := H2.out.cell 1
        change wr.cell? ⟨w.heap.size + 1 + 1, 1, none⟩ = some (.int .u8 0) at f1
        have f2 := H2.out.cell 2
        change wr.cell? ⟨w.heap.size + 1 + 1, 2, none⟩ = some (.string ⟨#[]⟩) at f2
        have f3 := H2.out.cell 3
        change wr.cell? ⟨w.heap.size + 1 + 1, 3, none⟩ = some (.string ⟨#[]⟩) at f3
        have f4 := H2.out.cell 4
        change wr.cell? ⟨w.heap.size + 1 + 1, 4, none⟩ = some (.string ⟨#[]⟩) at f4
        have f5 := H2.out.cell 5
        change wr.cell? ⟨w.heap.size + 1 + 1, 5, none⟩ = some (.string ⟨#[]⟩) at f5
        have n0 := H1.out.cell 0
        change wr.cell? ⟨w.heap.size + 1, 0, none⟩ = some (.string ⟨#[]⟩) at n0
        have n1 := H1.out.cell 1
        change wr.cell? ⟨w.heap.size + 1, 1, none⟩ = some (.int .u8 0) at n1
        have n2 := H1.out.cell 2
        change wr.cell? ⟨w.heap.size + 1, 2, none⟩ = some (.string ⟨#[]⟩) at n2
        have n3 := H1.out.cell 3
        change wr.cell? ⟨w.heap.size + 1, 3, none⟩ = some (.string ⟨#[]⟩) at n3
        have n4 := H1.out.cell 4
        change wr.cell? ⟨w.heap.size + 1, 4, none⟩ = some (.string ⟨#[]⟩) at n4
        have n5 := H1.out.cell 5
        change wr.cell? ⟨w.heap.size + 1, 5, none⟩ = some (.string ⟨#[]⟩) at n5
        have z0 := H0.out.cell 0
        change wr.cell? ⟨w.heap.size, 0, none⟩ = some (.string ⟨#[]⟩) at z0
        have z1 := H0.out.cell 1
        change wr.cell? ⟨w.heap.size, 1, none⟩ = some (.int .u8 0) at z1
        have z2 := H0.out.cell 2
        change wr.cell? ⟨w.heap.size, 2, none⟩ = some (.string ⟨#[]⟩) at z2
        have z3 := H0.out.cell 3
        change wr.cell? ⟨w.heap.size, 3, none⟩ = some (.string ⟨#[]⟩) at z3
        have z4 := H0.out.cell 4
        change wr.cell? ⟨w.heap.size, 4, none⟩ = some (.string ⟨#[]⟩) at z4
        have z5 := H0.out.cell 5
        change wr.cell? ⟨w.heap.size, 5, none⟩ = some (.string ⟨#[]⟩) at z5
        have zf := fun i => H0.out.free i
        go_wp2
        go_region
        go_wp2
        refine bodyPost_ret (v := .tuple #[.agg #[.string ⟨#[]⟩, .int .u8 0, .string ⟨#[]⟩, .string ⟨#[]⟩, .string ⟨#[]⟩, .string ⟨#[]⟩], .bool false]) ?_ rfl ?_
        · rw [results_cell_tmp rfl]
          go_simp
        · exact ⟨by rw [HO.out]; rfl, (((((((HB.out.setCell (by simp) _).setCell (by simp) _).setCell (by simp) _).setCell (by simp) _).setCell (by simp) _).setCell (by simp) _).drew)⟩
  · have he : s.isEmpty = false := by
      cases s with
      | nil => exact absurd rfl hs
      | cons _ _ => rfl
    have HON := Lib.hid (find_none (l := l) hs)
    have HOS : Hid (∀ k (hk : k < l.length), (∀ j (hj : j < k), l[j].label ≠ s) → l[k].label = s → findO l s = some l[k]) := fun k hk h1 h2 => find_some hs hk h1 h2
    have HS := Lib.hid hs
    generalize findO l s = o at *
    clear hs
    go_enter Tryd.func12, Tryd.ntmps12
    go_wp2
    go_loopw [12] (fun v12 wr => ∃ k : Nat, k ≤ l.length ∧ v12 = .int .i64 k ∧ Hid (Bk wr w.heap.size (encPl pl0) 41) ∧ Hid (Bk wr (w.heap.size + 1) (encPl pl0) 41) ∧ Hid (Bk wr (w.heap.size + 1 + 1) (encPl pl0) 41) ∧ Hid (∀ j (hk : j < k) (hj : j < l.length), l[j].label ≠ s) ∧ Hid (Below w.heap.size w wr)) (fun v12 _ => l.length - (intOf v12).toNat)
    case atStart =>
      refine ⟨0, by omega, rfl, ?_, ?_, ?_, fun j hk => absurd hk (by omega), (((Below.refl _ _).alloc (Nat.le_refl _) _).alloc (by simp) _).alloc (by simp; omega) _⟩
      · exact ((Bk.new w _ 41).alloc _).alloc _
      · have h := (Bk.new (w.alloc (.cells #[.string ⟨#[]⟩, .int .u8 0, .string ⟨#[]⟩, .string ⟨#[]⟩, .string ⟨#[]⟩, .string ⟨#[]⟩] 41)) #[.string ⟨#[]⟩, .int .u8 0, .string ⟨#[]⟩, .string ⟨#[]⟩, .string ⟨#[]⟩, .string ⟨#[]⟩] 41).alloc (.cells #[.string ⟨#[]⟩, .int .u8 0, .string ⟨#[]⟩, .string ⟨#[]⟩, .string ⟨#[]⟩, .string ⟨#[]⟩] 41)
        rw [World.size_alloc] at h
        exact h
      · have h := Bk.new ((w.alloc (.cells #[.string ⟨#[]⟩, .int .u8 0, .string ⟨#[]⟩, .string ⟨#[]⟩, .string ⟨#[]⟩, .string ⟨#[]⟩] 41)).alloc (.cells #[.string ⟨#[]⟩, .int .u8 0, .string ⟨#[]⟩, .string ⟨#[]⟩, .string ⟨#[]⟩, .string ⟨#[]⟩] 41)) #[.string ⟨#[]⟩, .int .u8 0, .string ⟨#[]⟩, .string ⟨#[]⟩, .string ⟨#[]⟩, .string ⟨#[]⟩] 41
        rw [World.size_alloc, World.size_alloc] at h
        exact h
    case round =>
      obtain ⟨k, hk, rfl, H0, H1, H2, HN, HB⟩ := hrel
      by_cases hlt : k < l.length
      · have HOS2 := Lib.hid (HOS.out k hlt (fun j hj => HN.out j hj (by omega)))
        have HN2 : Hid (l[k].label ≠ s → ∀ j (hk : j < k + 1) (hj : j < l.length), l[j].label ≠ s) := fun h j hj hl => by
          rcases Nat.lt_succ_iff_lt_or_eq.1 hj with h2 | rfl
          · exact HN.out j h2 hl
          · exact h
        obtain ⟨bb, off, ha, hbl, hc⟩ := (HA.out.below HB.out).elem hlt
        subst ha
        have hz := HB.out.size
        generalize l[k] = q at *
        have d0 := hc 0 (.string ⟨q.label.toArray⟩) rfl
        have d1 := hc 1 (.int .u8 q.kind) rfl
        have d2 := hc 2 (.string ⟨q.number.toArray⟩) rfl
        have d3 := hc 3 (.string ⟨q.title.toArray⟩) rfl
        have d4 := hc 4 (.string ⟨q.page.toArray⟩) rfl
        have d5 := hc 5 (.string ⟨q.anchor.toArray⟩) rfl
        rw [Nat.add_zero] at d0
        clear hc
        by_cases hq : q.label = s
        · have HOQ := Lib.hid (HOS2.out hq)
          have hqe : q.label.isEmpty = false := by rw [hq]; exact he
          obtain ⟨lb, kd, nu, ti, pg, an⟩ := q
          dsimp only at hq hqe d0 d1 d2 d3 d4 d5
          subst hq
          clear HS HN HN2 HOS HOS2 HON
          have HBd := Lib.hid (HB.out.alloc hz (.cells #[.string ⟨lb.toArray⟩, .int .u8 kd, .string ⟨nu.toArray⟩, .string ⟨ti.toArray⟩, .string ⟨pg.toArray⟩, .string ⟨an.toArray⟩] 41))
          have H2d := Lib.hid (H2.out.alloc (.cells #[.string ⟨lb.toArray⟩, .int .u8 kd, .string ⟨nu.toArray⟩, .string ⟨ti.toArray⟩, .string ⟨pg.toArray⟩, .string ⟨an.toArray⟩] 41))
          have H1d := Lib.hid (H1.out.alloc (.cells #[.string ⟨lb.toArray⟩, .int .u8 kd, .string ⟨nu.toArray⟩, .string ⟨ti.toArray⟩, .string ⟨pg.toArray⟩, .string ⟨an.toArray⟩] 41))
          have H0d := Lib.hid (H0.out.alloc (.cells #[.string ⟨lb.toArray⟩, .int .u8 kd, .string ⟨nu.toArray⟩, .string ⟨ti.toArray⟩, .string ⟨pg.toArray⟩, .string ⟨an.toArray⟩] 41))
          go_wp2_with (refine hold_op (.store 41 (.tmp 7) (.tmp 24)) rfl ?_)
          constructor
          refine wpList_store_bk rfl _ _ rfl rfl rfl (C' := [ .string ⟨lb.toArray⟩, .int .u8 kd, .string ⟨nu.toArray⟩, .string ⟨ti.toArray⟩, .string ⟨pg.toArray⟩, .string ⟨an.toArray⟩]) rfl H2d.out (show 0 + 6 ≤ 6 by omega) (by kernel_rfl) (by simp [Value.oneCell']) ?_
          intro wf hbf hkf hzf
          have H2f := Lib.hid hbf
          have H1f := Lib.hid (hkf.bk H1d.out (by omega))
          have H0f := Lib.hid (hkf.bk H0d.out (by omega))
          have HB := Lib.hid (HBd.out.trans (hkf.below (B := w.heap.size) (fun x hx => by omega) HBd.out.size))
          clear hbf hkf hzf H0 H1 H2 H2d H1d H0d d0 d1 d2 d3 d4 d5
          have f0 := H2f.out.cell 0
          change wf.cell? ⟨w.heap.size + 1 + 1, 0, none⟩ = some (.string ⟨lb.toArray⟩) at f0
          have f1 := H2f.out.cell 1
          change wf.cell? ⟨w.heap.size + 1 + 1, 1, none⟩ = some (.int .u8 kd) at f1
          have f2 := H2f.out.cell 2
          change wf.cell? ⟨w.heap.size + 1 + 1, 2, none⟩ = some (.string ⟨nu.toArray⟩) at f2
          have f3 := H2f.out.cell 3
          change wf.cell? ⟨w.heap.size + 1 + 1, 3, none⟩ = some (.string ⟨ti.toArray⟩) at f3
          have f4 := H2f.out.cell 4
          change wf.cell? ⟨w.heap.size + 1 + 1, 4, none⟩ = some (.string ⟨pg.toArray⟩) at f4
          have f5 := H2f.out.cell 5
          change wf.cell? ⟨w.heap.size + 1 + 1, 5, none⟩ = some (.string ⟨an.toArray⟩) at f5
          have n0 := H1f.out.cell 0
          change wf.cell? ⟨w.heap.size + 1, 0, none⟩ = some (.string ⟨#[]⟩) at n0
          have n1 := H1f.out.cell 1
          change wf.cell? ⟨w.heap.size + 1, 1, none⟩ = some (.int .u8 0) at n1
          have n2 := H1f.out.cell 2
          change wf.cell? ⟨w.heap.size + 1, 2, none⟩ = some (.string ⟨#[]⟩) at n2
          have n3 := H1f.out.cell 3
          change wf.cell? ⟨w.heap.size + 1, 3, none⟩ = some (.string ⟨#[]⟩) at n3
          have n4 := H1f.out.cell 4
          change wf.cell? ⟨w.heap.size + 1, 4, none⟩ = some (.string ⟨#[]⟩) at n4
          have n5 := H1f.out.cell 5
          change wf.cell? ⟨w.heap.size + 1, 5, none⟩ = some (.string ⟨#[]⟩) at n5
          have z0 := H0f.out.cell 0
          change wf.cell? ⟨w.heap.size, 0, none⟩ = some (.string ⟨#[]⟩) at z0
          have z1 := H0f.out.cell 1
          change wf.cell? ⟨w.heap.size, 1, none⟩ = some (.int .u8 0) at z1
          have z2 := H0f.out.cell 2
          change wf.cell? ⟨w.heap.size, 2, none⟩ = some (.string ⟨#[]⟩) at z2
          have z3 := H0f.out.cell 3
          change wf.cell? ⟨w.heap.size, 3, none⟩ = some (.string ⟨#[]⟩) at z3
          have z4 := H0f.out.cell 4
          change wf.cell? ⟨w.heap.size, 4, none⟩ = some (.string ⟨#[]⟩) at z4
          have z5 := H0f.out.cell 5
          change wf.cell? ⟨w.heap.size, 5, none⟩ = some (.string ⟨#[]⟩) at z5
          have zf := fun i => H0f.out.free i
          go_wp2
          go_region
          go_wp2
          refine bodyPost_ret (v := .tuple #[.agg #[.string ⟨lb.toArray⟩, .int .u8 kd, .string ⟨nu.toArray⟩, .string ⟨ti.toArray⟩, .string ⟨pg.toArray⟩, .string ⟨an.toArray⟩], .bool true]) ?_ rfl ?_
          · rw [results_cell_tmp rfl]
            go_simp
          · exact ⟨by rw [HOQ.out]; rfl, (((((((HB.out.setCell (by simp) _).setCell (by simp) _).setCell (by simp) _).setCell (by simp) _).setCell (by simp) _).setCell (by simp) _).drew)⟩
        · have hqb : (q.label == s) = false := beq_eq_false_iff_ne.2 hq
          have HNX := Lib.hid (HN2.out hq)
          clear hq
          go_wp2
          go_roundw
          case rel => exact ⟨k + 1, by omega, by go_num, H0.out.alloc _, H1.out.alloc _, H2.out.alloc _, HNX.out, HB.out.alloc hz _⟩
          case measure => simp [intOf]; omega
      · have HON2 := Lib.hid (HON.out (fun j hj => HN.out j (by omega) hj))
        have f0 := H2.out.cell 0
        change wr.cell? ⟨w.heap.size + 1 + 1, 0, none⟩ = some (.string ⟨#[]⟩) at f0
        have f1 := H2.out.cell 1
        change wr.cell? ⟨w.heap.size + 1 + 1, 1, none⟩ = some (.int .u8 0) at f1
        have f2 := H2.out.cell 2
        change wr.cell? ⟨w.heap.size + 1 + 1, 2, none⟩ = some (.string ⟨#[]⟩) at f2
        have f3 := H2.out.cell 3
        change wr.cell? ⟨w.heap.size + 1 + 1, 3, none⟩ = some (.string ⟨#[]⟩) at f3
        have f4 := H2.out.cell 4
        change wr.cell? ⟨w.heap.size + 1 + 1, 4, none⟩ = some (.string ⟨#[]⟩) at f4
        have f5 := H2.out.cell 5
        change wr.cell? ⟨w.heap.size + 1 + 1, 5, none⟩ = some (.string ⟨#[]⟩) at f5
        have n0 := H1.out.cell 0
        change wr.cell? ⟨w.heap.size + 1, 0, none⟩ = some (.string ⟨#[]⟩) at n0
        have n1 := H1.out.cell 1
        change wr.cell? ⟨w.heap.size + 1, 1, none⟩ = some (.int .u8 0) at n1
        have n2 := H1.out.cell 2
        change wr.cell? ⟨w.heap.size + 1, 2, none⟩ = some (.string ⟨#[]⟩) at n2
        have n3 := H1.out.cell 3
        change wr.cell? ⟨w.heap.size + 1, 3, none⟩ = some (.string ⟨#[]⟩) at n3
        have n4 := H1.out.cell 4
        change wr.cell? ⟨w.heap.size + 1, 4, none⟩ = some (.string ⟨#[]⟩) at n4
        have n5 := H1.out.cell 5
        change wr.cell? ⟨w.heap.size + 1, 5, none⟩ = some (.string ⟨#[]⟩) at n5
        have z0 := H0.out.cell 0
        change wr.cell? ⟨w.heap.size, 0, none⟩ = some (.string ⟨#[]⟩) at z0
        have z1 := H0.out.cell 1
        change wr.cell? ⟨w.heap.size, 1, none⟩ = some (.int .u8 0) at z1
        have z2 := H0.out.cell 2
        change wr.cell? ⟨w.heap.size, 2, none⟩ = some (.string ⟨#[]⟩) at z2
        have z3 := H0.out.cell 3
        change wr.cell? ⟨w.heap.size, 3, none⟩ = some (.string ⟨#[]⟩) at z3
        have z4 := H0.out.cell 4
        change wr.cell? ⟨w.heap.size, 4, none⟩ = some (.string ⟨#[]⟩) at z4
        have z5 := H0.out.cell 5
        change wr.cell? ⟨w.heap.size, 5, none⟩ = some (.string ⟨#[]⟩) at z5
        have zf := fun i => H0.out.free i
        go_wp2
        go_region
        go_wp2
        refine bodyPost_ret (v := .tuple #[.agg #[.string ⟨#[]⟩, .int .u8 0, .string ⟨#[]⟩, .string ⟨#[]⟩, .string ⟨#[]⟩, .string ⟨#[]⟩], .bool false]) ?_ rfl ?_
        · rw [results_cell_tmp rfl]
          go_simp
        · exact ⟨by rw [HON2.out]; rfl, (((((((HB.out.setCell (by simp) _).setCell (by simp) _).setCell (by simp) _).setCell (by simp) _).setCell (by simp) _).setCell (by simp) _).drew)⟩
/-! ### the titles -/
def headsP (l : List Pl) : List Pl := l.filter fun p => p.kind == 1
theorem headsP_len (l : List Pl) : (headsP l).length ≤ l.length := List.length_filter_le _ _
theorem headsP_succ {l : List Pl} {k : Nat} (h : k < l.length) : headsP (l.take (k + 1)) = headsP (l.take k) ++ (if l[k].kind = 1 then [l[k]] else []) := by
  unfold headsP
  rw [List.take_succ_eq_append_getElem h, List.filter_append]
  by_cases hk : l[k].kind = 1
  · simp [hk]
  · have : (l[k].kind == 1) = false := by simpa using hk
    simp [this, hk]
def ContGives (w : World) (l : List Pl) (e : Ending) (w' : World) : Prop := (∃ v, e = .returned v ∧ Own w' w.heap.size 41 6 encPl v (headsP l)) ∧ Below w.heap.size w w'
set_option maxHeartbeats 4000000 in
set_option maxRecDepth 100000 in
theorem contents_any (l : List Pl) (a : Option Addr) (c : Nat) (w : World) (hA : At w 6 encPl a l) (hn : l.length ≤ 1000000) :
    Calls Tryd.prog 15 #[.slice a l.length c] w (ContGives w l) := by
  have HA := Lib.hid hA
  clear hA
  go_enter Tryd.func15, Tryd.ntmps15
  go_wp2
  go_loopw [3, 8] (fun v3 v8 wr => ∃ k : Nat, k ≤ l.length ∧ v8 = .int .i64 k ∧ Hid (Own wr w.heap.size 41 6 encPl v3 (headsP (l.take k))) ∧ Hid (Below w.heap.size w wr)) (fun _ v8 _ => l.length - (intOf v8).toNat)
  case atStart => exact ⟨0, by omega, rfl, by rw [List.take_zero]; exact Own.nil _ _ _ _ _, Below.refl _ _⟩
  case round =>
    obtain ⟨k, hk, rfl, HP, HB⟩ := hrel
    by_cases hlt : k < l.length
    · have HS := Lib.hid (headsP_succ hlt)
      have hle := headsP_len (l.take k)
      rw [List.length_take] at hle
      have hle2 : (headsP (l.take k)).length ≤ 1000000 := by omega
      clear hle
      obtain ⟨bb, off, ha, hbl, hc⟩ := (HA.out.below HB.out).elem hlt
      subst ha
      have hz := HB.out.size
      generalize l[k] = q at *
      have d0 := hc 0 (.string ⟨q.label.toArray⟩) rfl
      have d1 := hc 1 (.int .u8 q.kind) rfl
      have d2 := hc 2 (.string ⟨q.number.toArray⟩) rfl
      have d3 := hc 3 (.string ⟨q.title.toArray⟩) rfl
      have d4 := hc 4 (.string ⟨q.page.toArray⟩) rfl
      have d5 := hc 5 (.string ⟨q.anchor.toArray⟩) rfl
      rw [Nat.add_zero] at d0
      clear hc
      by_cases hq : q.kind = 1
      · obtain ⟨lb, kd, nu, ti, pg, an⟩ := q
        dsimp only at hq d0 d1 d2 d3 d4 d5
        subst hq
        rw [if_pos rfl] at HS
        have HPd := Lib.hid (HP.out.alloc (.cells #[.string ⟨lb.toArray⟩, .int .u8 ((1 : Nat) : Int), .string ⟨nu.toArray⟩, .string ⟨ti.toArray⟩, .string ⟨pg.toArray⟩, .string ⟨an.toArray⟩] 41))
        go_wp2_with (at_builtin; refine Hld.out ?_)
        constructor
        refine wpList_push2 rfl _ _ 31 rfl w.heap.size 41 6 88 slpl encPl encPl_ok u3 (headsP (l.take k)) rfl (HPd.out.alloc _) ⟨lb, 1, nu, ti, pg, an⟩ (wr.heap.size + 1) rfl ?_ (by omega) (by unfold maxLen; omega) (by simp; omega) ?_
        · intro j u hj
          have h := (Bk.new (wr.alloc (.cells #[.string ⟨lb.toArray⟩, .int .u8 1, .string ⟨nu.toArray⟩, .string ⟨ti.toArray⟩, .string ⟨pg.toArray⟩, .string ⟨an.toArray⟩] 41)) #[.string ⟨lb.toArray⟩, .int .u8 1, .string ⟨nu.toArray⟩, .string ⟨ti.toArray⟩, .string ⟨pg.toArray⟩, .string ⟨an.toArray⟩] 41).cell j
          rw [World.size_alloc] at h
          exact h.trans hj
        intro v3 w3 ho hg _
        have HO := Lib.hid ho
        have HB3 : Hid (Below w.heap.size w w3) := ((HB.out.alloc hz _).alloc (by simp; omega) _).grown hg (by simp; omega) (fun k hk => (HP.out.block k hk).1)
        clear ho hg
        go_wp2
        go_roundw
        case rel => exact ⟨k + 1, by omega, by go_num, by rw [HS.out]; exact HO.out, HB3.out⟩
        case measure => simp [intOf]; omega
      · have hqi : ((q.kind : Int) == 1) = false := beq_eq_false_iff_ne.2 (by omega)
        rw [if_neg hq, List.append_nil] at HS
        clear hq
        go_wp2
        go_roundw
        case rel => exact ⟨k + 1, by omega, by go_num, by rw [HS.out]; exact HP.out.alloc _, HB.out.alloc hz _⟩
        case measure => simp [intOf]; omega
    · obtain rfl : k = l.length := by omega
      rw [List.take_length] at HP
      go_wp2
      go_ret
      exact ⟨⟨_, rfl, HP.out⟩, HB.out⟩
end Go.Proofs.YtohinfefidahlaaDoor
