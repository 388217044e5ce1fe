/- index.add: the walk. -/
import Derived.Test.YtohinfefidahlaaGreatDoorAdd
namespace Go.Proofs.YtohinfefidahlaaGreatDoor
open Go.RowKit Go.WideMaps
set_option linter.unusedVariables false
set_option linter.unusedSimpArgs false

def AddG (B top : Nat) (s : IxS) (D : Path → Nd) (x : Tl) (w : World) (e : Ending) (w' : World) : Prop :=
  ∃ D', e = .returned (.tuple #[]) ∧ Ix w' B top (s.step x) D' ∧ IxFr top s D (s.step x) D' w w'
theorem emptyB {l : Bytes} (h : l ≠ []) : l.isEmpty = false := by cases l with
  | nil => exact absurd rfl h
  | cons _ _ => rfl
theorem unit_store (w : World) (p : Option Addr) : True := trivial
set_option maxHeartbeats 8000000 in
set_option maxRecDepth 100000 in
theorem add_a {w : World} {B top : Nat} {s : IxS} {D : Path → Nd} (h : Ix w B top s D) (hB : B ≤ w.heap.size) (k : Nat) (tx se : Bytes) (here : LoK) (ka : Option Addr) (kn kc : Nat) (hse : se ≠ []) :
    Calls Tryz.prog 92 #[.map (some top), .agg #[.int .u8 k, .string ⟨tx.toArray⟩, .string ⟨#[]⟩, .string ⟨se.toArray⟩, .slice ka kn kc], .agg #[.string ⟨here.1.1.toArray⟩, .string ⟨here.1.2.1.toArray⟩, .string ⟨here.1.2.2.toArray⟩]] w (AddG B top s D ⟨tx, [], se, here⟩ w) := by
  have HI0 := Lib.hid h
  have hlt := h.mem.lt
  have HL0 : Hid (∀ g, IxFt top s D g → g < w.heap.size) := fun g hg => (HI0.out.ft_lt hg).2
  have HB := Lib.hid hB
  clear h hB
  have hsee := emptyB hse
  go_enter Tryz.func92, Tryz.ntmps92
  go_wp2_with fail
  refine calls_gen fun W hW => ?_
  have hb0 : Below w.heap.size w W := by subst hW; exact ((Below.refl _ _).alloc (Nat.le_refl _) _).alloc (by simp) _
  have HS0 : Hid (Bk W w.heap.size [.int .u8 k, .string ⟨tx.toArray⟩, .string ⟨#[]⟩, .string ⟨se.toArray⟩, .slice ka kn kc] 70) := by subst hW; exact (Bk.new w #[.int .u8 k, .string ⟨tx.toArray⟩, .string ⟨#[]⟩, .string ⟨se.toArray⟩, .slice ka kn kc] 70).alloc _
  have HH0 : Hid (Bk W (w.heap.size + 1) [.string ⟨here.1.1.toArray⟩, .string ⟨here.1.2.1.toArray⟩, .string ⟨here.1.2.2.toArray⟩] 79) := by
    subst hW
    have h := Bk.new (w.alloc (.cells #[.int .u8 k, .string ⟨tx.toArray⟩, .string ⟨#[]⟩, .string ⟨se.toArray⟩, .slice ka kn kc] 70)) #[.string ⟨here.1.1.toArray⟩, .string ⟨here.1.2.1.toArray⟩, .string ⟨here.1.2.2.toArray⟩] 79
    rw [World.size_alloc] at h
    exact h
  have hWs : W.heap.size = w.heap.size + 1 + 1 := by subst hW; simp
  have HWs := Lib.hid hWs
  clear hW hWs
  refine (growTop (HI0.out.next hb0) (Nat.le_trans HB.out hb0.size) tx).mono ?_
  rintro e w1 ⟨D1, rfl, hI1, hF1⟩
  have HI1 := Lib.hid hI1
  have HF1 : Hid (IxFr top s D (s.grow (tx, none)) D1 w w1) := (IxFr.of_below hb0).trans hF1
  have HL1 : Hid (∀ g, IxFt top (s.grow (tx, none)) D1 g → g < w.heap.size ∨ w.heap.size + 2 ≤ g) := fun g hg => by
    have h2 := HWs.out
    rcases hF1.ft g hg with h1 | h1
    · exact .inl (HL0.out g h1)
    · right; omega
  have HS1 := Lib.hid (hF1.kept.bk HS0.out (fun hg => by have := HL0.out _ hg; omega))
  have HH1 := Lib.hid (hF1.kept.bk HH0.out (fun hg => by have := HL0.out _ hg; omega))
  have hz1 : w.heap.size + 2 ≤ w1.heap.size := by have := hF1.kept.size; have := HWs.out; omega
  have HP1 : Hid ((tx, none) ∈ (s.grow (tx, none)).ps) := mem_ins.2 (.inr rfl)
  clear hI1 hF1 hb0 HS0 HH0 HI0 HWs
  have HN1 := Lib.hid (HI1.out.nodes _ HP1.out)
  have n1 := HN1.out.cells.cell 1
  have n2 := HN1.out.cells.cell 2
  have n3 := HN1.out.cells.cell 3
  have n4 := HN1.out.cells.cell 4
  have nf := HN1.out.cells.free 1
  change w1.cell? ⟨(D1 _).b, 1, none⟩ = some (D1 _).v at n1
  change w1.cell? ⟨(D1 _).b, 2, none⟩ = some (.map (some (D1 _).r1)) at n2
  change w1.cell? ⟨(D1 _).b, 3, none⟩ = some (.map (some (D1 _).r2)) at n3
  change w1.cell? ⟨(D1 _).b, 4, none⟩ = some (.map (some (D1 _).r3)) at n4
  have b2 := HS1.out.cell 2
  have b3 := HS1.out.cell 3
  change w1.cell? ⟨w.heap.size, 2, none⟩ = some (.string ⟨#[]⟩) at b2
  change w1.cell? ⟨w.heap.size, 3, none⟩ = some (.string ⟨se.toArray⟩) at b3
  have l0 := HH1.out.cell 0
  have l1 := HH1.out.cell 1
  have l2 := HH1.out.cell 2
  change w1.cell? ⟨w.heap.size + 1, 0, none⟩ = some (.string ⟨here.1.1.toArray⟩) at l0
  change w1.cell? ⟨w.heap.size + 1, 1, none⟩ = some (.string ⟨here.1.2.1.toArray⟩) at l1
  change w1.cell? ⟨w.heap.size + 1, 2, none⟩ = some (.string ⟨here.1.2.2.toArray⟩) at l2
  generalize hD : D1 (tx, none) = nd at *
  have HD := Lib.hid hD
  clear hD
  go_wp2_with fail
  go_still_tail 7, (by kernel_rfl)
  go_wp2_with (at_mapUpdate; refine hold_op _ rfl ?_)
  constructor
  refine wpList_smap_put rfl _ _ _ _ _ _ (.inl rfl) Tryz.underlying218 Tryz.underlying9 nd.r2 _ HN1.out.see se unitV rfl rfl rfl ?_
  intro wz hmz hgz hzz
  have hmz' : SMap wz (D1 (tx, none)).r2 (mapPut (((s.grow (tx, none)).see (tx, none)).map fun u => (u, unitV)) se unitV) := by rw [HD.out]; exact hmz
  have hkz : Kept (fun g => g = (D1 (tx, none)).r2) w1 wz := by
    rw [HD.out]
    exact ((Kept.refl _ w1).trans (Kept.of_below (drewN_below' w1 1))).grown hgz (fun g e => (Option.some.inj e).symm)
  have HIz := Lib.hid (HI1.out.seen HP1.out se hmz' hkz)
  have HFz := Lib.hid (HF1.out.trans (IxFr.seen HP1.out se hkz))
  clear hmz hmz' hgz hzz hkz
  go_wp2_with fail
  go_end0
  have e1 : s.step ⟨tx, [], se, here⟩ = (s.grow (tx, none)).putSee (tx, none) se := by
    rw [step_see (x := ⟨tx, [], se, here⟩) hse]
    unfold IxS.paths Tl.path
    rw [if_pos rfl, if_pos rfl]
  exact ⟨_, rfl, by rw [e1]; exact HIz.out, by rw [e1]; exact HFz.out⟩
set_option maxHeartbeats 8000000 in
set_option maxRecDepth 100000 in
theorem add_b {w : World} {B top : Nat} {s : IxS} {D : Path → Nd} (h : Ix w B top s D) (hB : B ≤ w.heap.size) (k : Nat) (tx : Bytes) (here : LoK) (ka : Option Addr) (kn kc : Nat) (ha : here ∈ s.at_ (tx, none)) (hlen : ∀ p, (s.at_ p).length ≤ 1000000) :
    Calls Tryz.prog 92 #[.map (some top), .agg #[.int .u8 k, .string ⟨tx.toArray⟩, .string ⟨#[]⟩, .string ⟨#[]⟩, .slice ka kn kc], .agg #[.string ⟨here.1.1.toArray⟩, .string ⟨here.1.2.1.toArray⟩, .string ⟨here.1.2.2.toArray⟩]] w (AddG B top s D ⟨tx, [], [], here⟩ w) := by
  have HI0 := Lib.hid h
  have hlt := h.mem.lt
  have HL0 : Hid (∀ g, IxFt top s D g → g < w.heap.size) := fun g hg => (HI0.out.ft_lt hg).2
  have HB := Lib.hid hB
  clear h hB
  go_enter Tryz.func92, Tryz.ntmps92
  go_wp2_with fail
  refine calls_gen fun W hW => ?_
  have hb0 : Below w.heap.size w W := by subst hW; exact ((Below.refl _ _).alloc (Nat.le_refl _) _).alloc (by simp) _
  have HS0 : Hid (Bk W w.heap.size [.int .u8 k, .string ⟨tx.toArray⟩, .string ⟨#[]⟩, .string ⟨#[]⟩, .slice ka kn kc] 70) := by subst hW; exact (Bk.new w #[.int .u8 k, .string ⟨tx.toArray⟩, .string ⟨#[]⟩, .string ⟨#[]⟩, .slice ka kn kc] 70).alloc _
  have HH0 : Hid (Bk W (w.heap.size + 1) [.string ⟨here.1.1.toArray⟩, .string ⟨here.1.2.1.toArray⟩, .string ⟨here.1.2.2.toArray⟩] 79) := by
    subst hW
    have h := Bk.new (w.alloc (.cells #[.int .u8 k, .string ⟨tx.toArray⟩, .string ⟨#[]⟩, .string ⟨#[]⟩, .slice ka kn kc] 70)) #[.string ⟨here.1.1.toArray⟩, .string ⟨here.1.2.1.toArray⟩, .string ⟨here.1.2.2.toArray⟩] 79
    rw [World.size_alloc] at h
    exact h
  have hWs : W.heap.size = w.heap.size + 1 + 1 := by subst hW; simp
  have HWs := Lib.hid hWs
  clear hW hWs
  refine (growTop (HI0.out.next hb0) (Nat.le_trans HB.out hb0.size) tx).mono ?_
  rintro e w1 ⟨D1, rfl, hI1, hF1⟩
  have HI1 := Lib.hid hI1
  have HF1 : Hid (IxFr top s D (s.grow (tx, none)) D1 w w1) := (IxFr.of_below hb0).trans hF1
  have HL1 : Hid (∀ g, IxFt top (s.grow (tx, none)) D1 g → g < w.heap.size ∨ w.heap.size + 2 ≤ g) := fun g hg => by
    have h2 := HWs.out
    rcases hF1.ft g hg with h1 | h1
    · exact .inl (HL0.out g h1)
    · right; omega
  have HS1 := Lib.hid (hF1.kept.bk HS0.out (fun hg => by have := HL0.out _ hg; omega))
  have HH1 := Lib.hid (hF1.kept.bk HH0.out (fun hg => by have := HL0.out _ hg; omega))
  have hz1 : w.heap.size + 2 ≤ w1.heap.size := by have := hF1.kept.size; have := HWs.out; omega
  have HP1 : Hid ((tx, none) ∈ (s.grow (tx, none)).ps) := mem_ins.2 (.inr rfl)
  clear hI1 hF1 hb0 HS0 HH0 HI0 HWs
  have HN1 := Lib.hid (HI1.out.nodes _ HP1.out)
  have n1 := HN1.out.cells.cell 1
  have n2 := HN1.out.cells.cell 2
  have n3 := HN1.out.cells.cell 3
  have n4 := HN1.out.cells.cell 4
  have nf := HN1.out.cells.free 1
  change w1.cell? ⟨(D1 _).b, 1, none⟩ = some (D1 _).v at n1
  change w1.cell? ⟨(D1 _).b, 2, none⟩ = some (.map (some (D1 _).r1)) at n2
  change w1.cell? ⟨(D1 _).b, 3, none⟩ = some (.map (some (D1 _).r2)) at n3
  change w1.cell? ⟨(D1 _).b, 4, none⟩ = some (.map (some (D1 _).r3)) at n4
  have b2 := HS1.out.cell 2
  have b3 := HS1.out.cell 3
  change w1.cell? ⟨w.heap.size, 2, none⟩ = some (.string ⟨#[]⟩) at b2
  change w1.cell? ⟨w.heap.size, 3, none⟩ = some (.string ⟨#[]⟩) at b3
  have l0 := HH1.out.cell 0
  have l1 := HH1.out.cell 1
  have l2 := HH1.out.cell 2
  change w1.cell? ⟨w.heap.size + 1, 0, none⟩ = some (.string ⟨here.1.1.toArray⟩) at l0
  change w1.cell? ⟨w.heap.size + 1, 1, none⟩ = some (.string ⟨here.1.2.1.toArray⟩) at l1
  change w1.cell? ⟨w.heap.size + 1, 2, none⟩ = some (.string ⟨here.1.2.2.toArray⟩) at l2
  generalize hD : D1 (tx, none) = nd at *
  have HD := Lib.hid hD
  clear hD
  have hlk1 := lookLo (W := w1.drew) HN1.out.been here true ⟨fun _ => ha, fun _ => rfl⟩
  have hlk2 := lookLo (W := (w1.alloc (.cells #[] 221)).drew) (HN1.out.been.alloc _) here true ⟨fun _ => ha, fun _ => rfl⟩
  have HA := Lib.hid ha
  have HLN := Lib.hid hlen
  clear ha hlen
  go_wp2_with fail
  go_cut [8] from 7 to 41 (fun v8 wx => v8 = .bool true ∧ Hid (Below w1.heap.size w1 wx))
  case first =>
    go_region_held3 (fun w' => w'.cell? ⟨nd.b, 2, none⟩ = some (.map (some nd.r1)) ∧ w'.cell? ⟨w.heap.size + 1, 0, none⟩ = some (.string ⟨here.1.1.toArray⟩) ∧ w'.cell? ⟨w.heap.size + 1, 1, none⟩ = some (.string ⟨here.1.2.1.toArray⟩) ∧ w'.cell? ⟨w.heap.size + 1, 2, none⟩ = some (.string ⟨here.1.2.2.toArray⟩)) (first | exact ⟨n2, l0, l1, l2⟩ | go_keep) (fail)
    all_goals
      go_wp2_with fail
      go_meet
      case rel => exact ⟨rfl, below_drewN ((Below.refl _ _).alloc (Nat.le_refl _) _) 1⟩
  case rest =>
    obtain ⟨rfl, HBc⟩ := hcut
    go_wp2_with fail
    go_end0
    have e1 : s.step ⟨tx, [], [], here⟩ = (s.grow (tx, none)).putAt (tx, none) here := by (rw [step_at (x := ⟨tx, [], [], here⟩) rfl]; unfold IxS.paths Tl.path; rw [if_pos rfl, if_pos rfl])
    exact ⟨D1, rfl, by rw [e1]; exact (HI1.out.next HBc.out).there HA.out, by rw [e1]; exact HF1.out.trans (IxFr.there _ _ HBc.out)⟩
set_option maxHeartbeats 8000000 in
set_option maxRecDepth 100000 in
theorem add_c {w : World} {B top : Nat} {s : IxS} {D : Path → Nd} (h : Ix w B top s D) (hB : B ≤ w.heap.size) (k : Nat) (tx : Bytes) (here : LoK) (ka : Option Addr) (kn kc : Nat) (ha : here ∉ s.at_ (tx, none)) (hlen : ∀ p, (s.at_ p).length ≤ 1000000) :
    Calls Tryz.prog 92 #[.map (some top), .agg #[.int .u8 k, .string ⟨tx.toArray⟩, .string ⟨#[]⟩, .string ⟨#[]⟩, .slice ka kn kc], .agg #[.string ⟨here.1.1.toArray⟩, .string ⟨here.1.2.1.toArray⟩, .string ⟨here.1.2.2.toArray⟩]] w (AddG B top s D ⟨tx, [], [], here⟩ w) := by
  have HI0 := Lib.hid h
  have hlt := h.mem.lt
  have HL0 : Hid (∀ g, IxFt top s D g → g < w.heap.size) := fun g hg => (HI0.out.ft_lt hg).2
  have HB := Lib.hid hB
  clear h hB
  go_enter Tryz.func92, Tryz.ntmps92
  go_wp2_with fail
  refine calls_gen fun W hW => ?_
  have hb0 : Below w.heap.size w W := by subst hW; exact ((Below.refl _ _).alloc (Nat.le_refl _) _).alloc (by simp) _
  have HS0 : Hid (Bk W w.heap.size [.int .u8 k, .string ⟨tx.toArray⟩, .string ⟨#[]⟩, .string ⟨#[]⟩, .slice ka kn kc] 70) := by subst hW; exact (Bk.new w #[.int .u8 k, .string ⟨tx.toArray⟩, .string ⟨#[]⟩, .string ⟨#[]⟩, .slice ka kn kc] 70).alloc _
  have HH0 : Hid (Bk W (w.heap.size + 1) [.string ⟨here.1.1.toArray⟩, .string ⟨here.1.2.1.toArray⟩, .string ⟨here.1.2.2.toArray⟩] 79) := by
    subst hW
    have h := Bk.new (w.alloc (.cells #[.int .u8 k, .string ⟨tx.toArray⟩, .string ⟨#[]⟩, .string ⟨#[]⟩, .slice ka kn kc] 70)) #[.string ⟨here.1.1.toArray⟩, .string ⟨here.1.2.1.toArray⟩, .string ⟨here.1.2.2.toArray⟩] 79
    rw [World.size_alloc] at h
    exact h
  have hWs : W.heap.size = w.heap.size + 1 + 1 := by subst hW; simp
  have HWs := Lib.hid hWs
  clear hW hWs
  refine (growTop (HI0.out.next hb0) (Nat.le_trans HB.out hb0.size) tx).mono ?_
  rintro e w1 ⟨D1, rfl, hI1, hF1⟩
  have HI1 := Lib.hid hI1
  have HF1 : Hid (IxFr top s D (s.grow (tx, none)) D1 w w1) := (IxFr.of_below hb0).trans hF1
  have HL1 : Hid (∀ g, IxFt top (s.grow (tx, none)) D1 g → g < w.heap.size ∨ w.heap.size + 2 ≤ g) := fun g hg => by
    have h2 := HWs.out
    rcases hF1.ft g hg with h1 | h1
    · exact .inl (HL0.out g h1)
    · right; omega
  have HS1 := Lib.hid (hF1.kept.bk HS0.out (fun hg => by have := HL0.out _ hg; omega))
  have HH1 := Lib.hid (hF1.kept.bk HH0.out (fun hg => by have := HL0.out _ hg; omega))
  have hz1 : w.heap.size + 2 ≤ w1.heap.size := by have := hF1.kept.size; have := HWs.out; omega
  have HP1 : Hid ((tx, none) ∈ (s.grow (tx, none)).ps) := mem_ins.2 (.inr rfl)
  clear hI1 hF1 hb0 HS0 HH0 HI0 HWs
  have HN1 := Lib.hid (HI1.out.nodes _ HP1.out)
  have n1 := HN1.out.cells.cell 1
  have n2 := HN1.out.cells.cell 2
  have n3 := HN1.out.cells.cell 3
  have n4 := HN1.out.cells.cell 4
  have nf := HN1.out.cells.free 1
  change w1.cell? ⟨(D1 _).b, 1, none⟩ = some (D1 _).v at n1
  change w1.cell? ⟨(D1 _).b, 2, none⟩ = some (.map (some (D1 _).r1)) at n2
  change w1.cell? ⟨(D1 _).b, 3, none⟩ = some (.map (some (D1 _).r2)) at n3
  change w1.cell? ⟨(D1 _).b, 4, none⟩ = some (.map (some (D1 _).r3)) at n4
  have b2 := HS1.out.cell 2
  have b3 := HS1.out.cell 3
  change w1.cell? ⟨w.heap.size, 2, none⟩ = some (.string ⟨#[]⟩) at b2
  change w1.cell? ⟨w.heap.size, 3, none⟩ = some (.string ⟨#[]⟩) at b3
  have l0 := HH1.out.cell 0
  have l1 := HH1.out.cell 1
  have l2 := HH1.out.cell 2
  change w1.cell? ⟨w.heap.size + 1, 0, none⟩ = some (.string ⟨here.1.1.toArray⟩) at l0
  change w1.cell? ⟨w.heap.size + 1, 1, none⟩ = some (.string ⟨here.1.2.1.toArray⟩) at l1
  change w1.cell? ⟨w.heap.size + 1, 2, none⟩ = some (.string ⟨here.1.2.2.toArray⟩) at l2
  generalize hD : D1 (tx, none) = nd at *
  have HD := Lib.hid hD
  clear hD
  have hlk1 := lookLo (W := w1.drew) HN1.out.been here false ⟨fun e => (by cases e), fun e => absurd e ha⟩
  have hlk2 := lookLo (W := (w1.alloc (.cells #[] 221)).drew) (HN1.out.been.alloc _) here false ⟨fun e => (by cases e), fun e => absurd e ha⟩
  have HA := Lib.hid ha
  have HLN := Lib.hid hlen
  clear ha hlen
  go_wp2_with fail
  go_cut [8] from 7 to 41 (fun v8 wx => v8 = .bool false ∧ Hid (Below w1.heap.size w1 wx))
  case first =>
    go_region_held3 (fun w' => w'.cell? ⟨nd.b, 2, none⟩ = some (.map (some nd.r1)) ∧ w'.cell? ⟨w.heap.size + 1, 0, none⟩ = some (.string ⟨here.1.1.toArray⟩) ∧ w'.cell? ⟨w.heap.size + 1, 1, none⟩ = some (.string ⟨here.1.2.1.toArray⟩) ∧ w'.cell? ⟨w.heap.size + 1, 2, none⟩ = some (.string ⟨here.1.2.2.toArray⟩)) (first | exact ⟨n2, l0, l1, l2⟩ | go_keep) (fail)
    all_goals
      go_wp2_with fail
      go_meet
      case rel => exact ⟨rfl, below_drewN ((Below.refl _ _).alloc (Nat.le_refl _) _) 1⟩
  case rest =>
    obtain ⟨rfl, HBc⟩ := hcut
    have HIc := Lib.hid (HI1.out.next HBc.out)
    have HNc := Lib.hid (HIc.out.nodes _ HP1.out)
    rw [HD.out] at HNc
    have HHc := Lib.hid (HH1.out.next HBc.out)
    have HFc := Lib.hid (HF1.out.trans (IxFr.of_below HBc.out))
    have hzc : w.heap.size + 2 ≤ wc.heap.size := by have := HBc.out.size; omega
    have HBs : Hid (B ≤ w.heap.size) := HB.out
    clear n1 n2 n3 n4 nf l0 l1 l2 b2 b3 hlk1 hlk2 HBc
    have m2 := HNc.out.cells.cell 2
    change wc.cell? ⟨nd.b, 2, none⟩ = some (.map (some nd.r1)) at m2
    have q0 := HHc.out.cell 0
    have q1 := HHc.out.cell 1
    have q2 := HHc.out.cell 2
    change wc.cell? ⟨w.heap.size + 1, 0, none⟩ = some (.string ⟨here.1.1.toArray⟩) at q0
    change wc.cell? ⟨w.heap.size + 1, 1, none⟩ = some (.string ⟨here.1.2.1.toArray⟩) at q1
    change wc.cell? ⟨w.heap.size + 1, 2, none⟩ = some (.string ⟨here.1.2.2.toArray⟩) at q2
    go_wp2_with fail
    go_still_tail 6, (by kernel_rfl)
    go_wp2_with (at_mapUpdate; refine hold_op _ rfl ?_)
    constructor
    refine wpList_gmap_put rfl _ _ _ _ _ _ (.inl rfl) Tryz.underlying217 lo_enc nd.r1 _ HNc.out.been here unitV rfl rfl rfl ?_
    intro wy hmy hgy hzy
    have hky : Kept (fun g => g = nd.r1) wc wy := ((Kept.refl _ wc).trans (Kept.of_below (drewN_below' wc 1))).grown hgy (fun g e => (Option.some.inj e).symm)
    have HMY : Hid (GMap encLoV wy nd.r1 (gPut (((s.grow (tx, none)).at_ (tx, none)).map fun u => (u, unitV)) here unitV)) := hmy
    have HKY := Lib.hid hky
    have hpc := push_cells HIc.out HP1.out HD.out hky
    have HCY := Lib.hid hpc.1
    have HOY := Lib.hid hpc.2
    have HHY := Lib.hid (hky.bk HHc.out (HHc.out.ne_gmap HNc.out.been))
    have hzy2 : w.heap.size + 2 ≤ wy.heap.size := by have := hky.size; omega
    have HLA : Hid (((s.grow (tx, none)).at_ (tx, none)).length ≤ 1000000) := HLN.out (tx, none)
    generalize hL : (s.grow (tx, none)).at_ (tx, none) = L at *
    have HL := Lib.hid hL
    clear hL hmy hgy hzy hky hpc m2 q0 q1 q2
    have y1 := HCY.out.cell 1
    change wy.cell? ⟨nd.b, 1, none⟩ = some nd.v at y1
    have yf := HCY.out.free 1
    have q0 := HHY.out.cell 0
    have q1 := HHY.out.cell 1
    have q2 := HHY.out.cell 2
    change wy.cell? ⟨w.heap.size + 1, 0, none⟩ = some (.string ⟨here.1.1.toArray⟩) at q0
    change wy.cell? ⟨w.heap.size + 1, 1, none⟩ = some (.string ⟨here.1.2.1.toArray⟩) at q1
    change wy.cell? ⟨w.heap.size + 1, 2, none⟩ = some (.string ⟨here.1.2.2.toArray⟩) at q2
    have hbl : nd.b < wy.heap.size := HCY.out.lt
    obtain ⟨va, vc, hv⟩ := HOY.out.shape
    rw [hv] at y1
    have HV := Lib.hid hv
    clear hv
    have hBy : B ≤ wy.heap.size := by have := HBs.out; omega
    go_wp2_with fail
    go_region_law ((refine step_push2 (by rfl) _ _ _ (by rfl) B 79 3 48 slloc encLo encLo_ok (.slice va L.length vc) L (by rfl) (by rw [← HV.out]; exact HOY.out.alloc _) here wy.heap.size (by rfl) (fun j u hj => ((Bk.new wy #[.string ⟨here.1.1.toArray⟩, .string ⟨here.1.2.1.toArray⟩, .string ⟨here.1.2.2.toArray⟩] 79).cell j).trans hj) (by have := HLA.out; omega) (by have := HLA.out; unfold maxLen; omega) (by simp; omega) ?_; intro gg cap w5 hown hgrow hat; have hc5 := Bk.grown (HCY.out.alloc _).drew hgrow (by rw [← HV.out]; exact HOY.out.ne_bk HCY.out (by decide)); have z1 := hc5.cell 1; change w5.cell? ⟨nd.b, 1, none⟩ = some nd.v at z1; rw [HV.out] at z1; have zf := hc5.free 1))
    all_goals
      go_wp2_with fail
      go_end0
      have e1 : s.step ⟨tx, [], [], here⟩ = (s.grow (tx, none)).putAt (tx, none) here := by (rw [step_at (x := ⟨tx, [], [], here⟩) rfl]; unfold IxS.paths Tl.path; rw [if_pos rfl, if_pos rfl])
      have hPD := push_done HIc.out HP1.out (show here ∉ (s.grow (tx, none)).at_ (tx, none) from HA.out) HD.out (by rw [HL.out]; exact HMY.out) HKY.out (W0 := (wy.alloc (.cells #[.string ⟨here.1.1.toArray⟩, .string ⟨here.1.2.1.toArray⟩, .string ⟨here.1.2.2.toArray⟩] 79)).drew) (below_drewN ((Below.refl _ _).alloc (Nat.le_refl _) _) 1) (by rw [HV.out]; exact hgrow) (by rw [HL.out]; exact hown) (by rw [HV.out]; exact hat)
      exact ⟨_, rfl, by rw [e1]; exact hPD.1, by rw [e1]; exact HFc.out.trans hPD.2⟩
set_option maxHeartbeats 8000000 in
set_option maxRecDepth 100000 in
theorem add_d {w : World} {B top : Nat} {s : IxS} {D : Path → Nd} (h : Ix w B top s D) (hB : B ≤ w.heap.size) (k : Nat) (tx sb se : Bytes) (here : LoK) (ka : Option Addr) (kn kc : Nat) (hsb : sb ≠ []) (hse : se ≠ []) :
    Calls Tryz.prog 92 #[.map (some top), .agg #[.int .u8 k, .string ⟨tx.toArray⟩, .string ⟨sb.toArray⟩, .string ⟨se.toArray⟩, .slice ka kn kc], .agg #[.string ⟨here.1.1.toArray⟩, .string ⟨here.1.2.1.toArray⟩, .string ⟨here.1.2.2.toArray⟩]] w (AddG B top s D ⟨tx, sb, se, here⟩ w) := by
  have HI0 := Lib.hid h
  have hlt := h.mem.lt
  have HL0 : Hid (∀ g, IxFt top s D g → g < w.heap.size) := fun g hg => (HI0.out.ft_lt hg).2
  have HB := Lib.hid hB
  clear h hB
  have hsbe := emptyB hsb
  have hsee := emptyB hse
  go_enter Tryz.func92, Tryz.ntmps92
  go_wp2_with fail
  refine calls_gen fun W hW => ?_
  have hb0 : Below w.heap.size w W := by subst hW; exact ((Below.refl _ _).alloc (Nat.le_refl _) _).alloc (by simp) _
  have HS0 : Hid (Bk W w.heap.size [.int .u8 k, .string ⟨tx.toArray⟩, .string ⟨sb.toArray⟩, .string ⟨se.toArray⟩, .slice ka kn kc] 70) := by subst hW; exact (Bk.new w #[.int .u8 k, .string ⟨tx.toArray⟩, .string ⟨sb.toArray⟩, .string ⟨se.toArray⟩, .slice ka kn kc] 70).alloc _
  have HH0 : Hid (Bk W (w.heap.size + 1) [.string ⟨here.1.1.toArray⟩, .string ⟨here.1.2.1.toArray⟩, .string ⟨here.1.2.2.toArray⟩] 79) := by
    subst hW
    have h := Bk.new (w.alloc (.cells #[.int .u8 k, .string ⟨tx.toArray⟩, .string ⟨sb.toArray⟩, .string ⟨se.toArray⟩, .slice ka kn kc] 70)) #[.string ⟨here.1.1.toArray⟩, .string ⟨here.1.2.1.toArray⟩, .string ⟨here.1.2.2.toArray⟩] 79
    rw [World.size_alloc] at h
    exact h
  have hWs : W.heap.size = w.heap.size + 1 + 1 := by subst hW; simp
  have HWs := Lib.hid hWs
  clear hW hWs
  refine (growTop (HI0.out.next hb0) (Nat.le_trans HB.out hb0.size) tx).mono ?_
  rintro e w1 ⟨D1, rfl, hI1, hF1⟩
  have HI1 := Lib.hid hI1
  have HF1 : Hid (IxFr top s D (s.grow (tx, none)) D1 w w1) := (IxFr.of_below hb0).trans hF1
  have HL1 : Hid (∀ g, IxFt top (s.grow (tx, none)) D1 g → g < w.heap.size ∨ w.heap.size + 2 ≤ g) := fun g hg => by
    have h2 := HWs.out
    rcases hF1.ft g hg with h1 | h1
    · exact .inl (HL0.out g h1)
    · right; omega
  have HS1 := Lib.hid (hF1.kept.bk HS0.out (fun hg => by have := HL0.out _ hg; omega))
  have HH1 := Lib.hid (hF1.kept.bk HH0.out (fun hg => by have := HL0.out _ hg; omega))
  have hz1 : w.heap.size + 2 ≤ w1.heap.size := by have := hF1.kept.size; have := HWs.out; omega
  have HP1 : Hid ((tx, none) ∈ (s.grow (tx, none)).ps) := mem_ins.2 (.inr rfl)
  clear hI1 hF1 hb0 HS0 HH0 HI0 HWs
  have HN1 := Lib.hid (HI1.out.nodes _ HP1.out)
  have n1 := HN1.out.cells.cell 1
  have n2 := HN1.out.cells.cell 2
  have n3 := HN1.out.cells.cell 3
  have n4 := HN1.out.cells.cell 4
  have nf := HN1.out.cells.free 1
  change w1.cell? ⟨(D1 _).b, 1, none⟩ = some (D1 _).v at n1
  change w1.cell? ⟨(D1 _).b, 2, none⟩ = some (.map (some (D1 _).r1)) at n2
  change w1.cell? ⟨(D1 _).b, 3, none⟩ = some (.map (some (D1 _).r2)) at n3
  change w1.cell? ⟨(D1 _).b, 4, none⟩ = some (.map (some (D1 _).r3)) at n4
  have b2 := HS1.out.cell 2
  have b3 := HS1.out.cell 3
  change w1.cell? ⟨w.heap.size, 2, none⟩ = some (.string ⟨sb.toArray⟩) at b2
  change w1.cell? ⟨w.heap.size, 3, none⟩ = some (.string ⟨se.toArray⟩) at b3
  clear n1 n2 n3 nf
  go_wp2_with fail
  go_still_tail 6, (by kernel_rfl)
  go_wp2_with fail
  refine (growSub (HI1.out.next (drewN_below' w1 1)) (Nat.le_trans HB.out (Nat.le_trans (by omega) hz1)) HP1.out sb).mono ?_
  rintro e w2 ⟨D2, rfl, hI2, hF2⟩
  have HI2 := Lib.hid hI2
  have HF2 : Hid (IxFr top s D ((s.grow (tx, none)).grow (tx, some sb)) D2 w w2) := HF1.out.trans ((IxFr.of_below (drewN_below' w1 1)).trans hF2)
  have HS2 := Lib.hid (hF2.kept.bk HS1.out (fun hg => by have := HL1.out _ hg; omega))
  have HH2 := Lib.hid (hF2.kept.bk HH1.out (fun hg => by have := HL1.out _ hg; omega))
  have hz2 : w.heap.size + 2 ≤ w2.heap.size := Nat.le_trans hz1 hF2.kept.size
  have HP2 : Hid ((tx, some sb) ∈ ((s.grow (tx, none)).grow (tx, some sb)).ps) := mem_ins.2 (.inr rfl)
  clear hI2 hF2 HS1 HH1 HI1 HF1 HP1 HL1 HN1 n4 b2 b3
  have HN2 := Lib.hid (HI2.out.nodes _ HP2.out)
  have n1 := HN2.out.cells.cell 1
  have n2 := HN2.out.cells.cell 2
  have n3 := HN2.out.cells.cell 3
  have n4 := HN2.out.cells.cell 4
  have nf := HN2.out.cells.free 1
  change w2.cell? ⟨(D2 _).b, 1, none⟩ = some (D2 _).v at n1
  change w2.cell? ⟨(D2 _).b, 2, none⟩ = some (.map (some (D2 _).r1)) at n2
  change w2.cell? ⟨(D2 _).b, 3, none⟩ = some (.map (some (D2 _).r2)) at n3
  change w2.cell? ⟨(D2 _).b, 4, none⟩ = some (.map (some (D2 _).r3)) at n4
  have b2 := HS2.out.cell 2
  have b3 := HS2.out.cell 3
  change w2.cell? ⟨w.heap.size, 2, none⟩ = some (.string ⟨sb.toArray⟩) at b2
  change w2.cell? ⟨w.heap.size, 3, none⟩ = some (.string ⟨se.toArray⟩) at b3
  have l0 := HH2.out.cell 0
  have l1 := HH2.out.cell 1
  have l2 := HH2.out.cell 2
  change w2.cell? ⟨w.heap.size + 1, 0, none⟩ = some (.string ⟨here.1.1.toArray⟩) at l0
  change w2.cell? ⟨w.heap.size + 1, 1, none⟩ = some (.string ⟨here.1.2.1.toArray⟩) at l1
  change w2.cell? ⟨w.heap.size + 1, 2, none⟩ = some (.string ⟨here.1.2.2.toArray⟩) at l2
  generalize hD : D2 (tx, some sb) = nd at *
  have HD := Lib.hid hD
  clear hD
  go_wp2_with fail
  go_still_tail 7, (by kernel_rfl)
  go_wp2_with (at_mapUpdate; refine hold_op _ rfl ?_)
  constructor
  refine wpList_smap_put rfl _ _ _ _ _ _ (.inl rfl) Tryz.underlying218 Tryz.underlying9 nd.r2 _ HN2.out.see se unitV rfl rfl rfl ?_
  intro wz hmz hgz hzz
  have hmz' : SMap wz (D2 (tx, some sb)).r2 (mapPut ((((s.grow (tx, none)).grow (tx, some sb)).see (tx, some sb)).map fun u => (u, unitV)) se unitV) := by rw [HD.out]; exact hmz
  have hkz : Kept (fun g => g = (D2 (tx, some sb)).r2) w2 wz := by
    rw [HD.out]
    exact ((Kept.refl _ w2).trans (Kept.of_below (drewN_below' w2 1))).grown hgz (fun g e => (Option.some.inj e).symm)
  have HIz := Lib.hid (HI2.out.seen HP2.out se hmz' hkz)
  have HFz := Lib.hid (HF2.out.trans (IxFr.seen HP2.out se hkz))
  clear hmz hmz' hgz hzz hkz
  go_wp2_with fail
  go_end0
  have e1 : s.step ⟨tx, sb, se, here⟩ = ((s.grow (tx, none)).grow (tx, some sb)).putSee (tx, some sb) se := by
    rw [step_see (x := ⟨tx, sb, se, here⟩) hse]
    unfold IxS.paths Tl.path
    rw [if_neg hsb, if_neg hsb]
  exact ⟨_, rfl, by rw [e1]; exact HIz.out, by rw [e1]; exact HFz.out⟩
set_option maxHeartbeats 8000000 in
set_option maxRecDepth 100000 in
theorem add_e {w : World} {B top : Nat} {s : IxS} {D : Path → Nd} (h : Ix w B top s D) (hB : B ≤ w.heap.size) (k : Nat) (tx sb : Bytes) (here : LoK) (ka : Option Addr) (kn kc : Nat) (hsb : sb ≠ []) (ha : here ∈ s.at_ (tx, some sb)) (hlen : ∀ p, (s.at_ p).length ≤ 1000000) :
    Calls Tryz.prog 92 #[.map (some top), .agg #[.int .u8 k, .string ⟨tx.toArray⟩, .string ⟨sb.toArray⟩, .string ⟨#[]⟩, .slice ka kn kc], .agg #[.string ⟨here.1.1.toArray⟩, .string ⟨here.1.2.1.toArray⟩, .string ⟨here.1.2.2.toArray⟩]] w (AddG B top s D ⟨tx, sb, [], here⟩ w) := by
  have HI0 := Lib.hid h
  have hlt := h.mem.lt
  have HL0 : Hid (∀ g, IxFt top s D g → g < w.heap.size) := fun g hg => (HI0.out.ft_lt hg).2
  have HB := Lib.hid hB
  clear h hB
  have hsbe := emptyB hsb
  go_enter Tryz.func92, Tryz.ntmps92
  go_wp2_with fail
  refine calls_gen fun W hW => ?_
  have hb0 : Below w.heap.size w W := by subst hW; exact ((Below.refl _ _).alloc (Nat.le_refl _) _).alloc (by simp) _
  have HS0 : Hid (Bk W w.heap.size [.int .u8 k, .string ⟨tx.toArray⟩, .string ⟨sb.toArray⟩, .string ⟨#[]⟩, .slice ka kn kc] 70) := by subst hW; exact (Bk.new w #[.int .u8 k, .string ⟨tx.toArray⟩, .string ⟨sb.toArray⟩, .string ⟨#[]⟩, .slice ka kn kc] 70).alloc _
  have HH0 : Hid (Bk W (w.heap.size + 1) [.string ⟨here.1.1.toArray⟩, .string ⟨here.1.2.1.toArray⟩, .string ⟨here.1.2.2.toArray⟩] 79) := by
    subst hW
    have h := Bk.new (w.alloc (.cells #[.int .u8 k, .string ⟨tx.toArray⟩, .string ⟨sb.toArray⟩, .string ⟨#[]⟩, .slice ka kn kc] 70)) #[.string ⟨here.1.1.toArray⟩, .string ⟨here.1.2.1.toArray⟩, .string ⟨here.1.2.2.toArray⟩] 79
    rw [World.size_alloc] at h
    exact h
  have hWs : W.heap.size = w.heap.size + 1 + 1 := by subst hW; simp
  have HWs := Lib.hid hWs
  clear hW hWs
  refine (growTop (HI0.out.next hb0) (Nat.le_trans HB.out hb0.size) tx).mono ?_
  rintro e w1 ⟨D1, rfl, hI1, hF1⟩
  have HI1 := Lib.hid hI1
  have HF1 : Hid (IxFr top s D (s.grow (tx, none)) D1 w w1) := (IxFr.of_below hb0).trans hF1
  have HL1 : Hid (∀ g, IxFt top (s.grow (tx, none)) D1 g → g < w.heap.size ∨ w.heap.size + 2 ≤ g) := fun g hg => by
    have h2 := HWs.out
    rcases hF1.ft g hg with h1 | h1
    · exact .inl (HL0.out g h1)
    · right; omega
  have HS1 := Lib.hid (hF1.kept.bk HS0.out (fun hg => by have := HL0.out _ hg; omega))
  have HH1 := Lib.hid (hF1.kept.bk HH0.out (fun hg => by have := HL0.out _ hg; omega))
  have hz1 : w.heap.size + 2 ≤ w1.heap.size := by have := hF1.kept.size; have := HWs.out; omega
  have HP1 : Hid ((tx, none) ∈ (s.grow (tx, none)).ps) := mem_ins.2 (.inr rfl)
  clear hI1 hF1 hb0 HS0 HH0 HI0 HWs
  have HN1 := Lib.hid (HI1.out.nodes _ HP1.out)
  have n1 := HN1.out.cells.cell 1
  have n2 := HN1.out.cells.cell 2
  have n3 := HN1.out.cells.cell 3
  have n4 := HN1.out.cells.cell 4
  have nf := HN1.out.cells.free 1
  change w1.cell? ⟨(D1 _).b, 1, none⟩ = some (D1 _).v at n1
  change w1.cell? ⟨(D1 _).b, 2, none⟩ = some (.map (some (D1 _).r1)) at n2
  change w1.cell? ⟨(D1 _).b, 3, none⟩ = some (.map (some (D1 _).r2)) at n3
  change w1.cell? ⟨(D1 _).b, 4, none⟩ = some (.map (some (D1 _).r3)) at n4
  have b2 := HS1.out.cell 2
  have b3 := HS1.out.cell 3
  change w1.cell? ⟨w.heap.size, 2, none⟩ = some (.string ⟨sb.toArray⟩) at b2
  change w1.cell? ⟨w.heap.size, 3, none⟩ = some (.string ⟨#[]⟩) at b3
  clear n1 n2 n3 nf
  go_wp2_with fail
  go_still_tail 6, (by kernel_rfl)
  go_wp2_with fail
  refine (growSub (HI1.out.next (drewN_below' w1 1)) (Nat.le_trans HB.out (Nat.le_trans (by omega) hz1)) HP1.out sb).mono ?_
  rintro e w2 ⟨D2, rfl, hI2, hF2⟩
  have HI2 := Lib.hid hI2
  have HF2 : Hid (IxFr top s D ((s.grow (tx, none)).grow (tx, some sb)) D2 w w2) := HF1.out.trans ((IxFr.of_below (drewN_below' w1 1)).trans hF2)
  have HS2 := Lib.hid (hF2.kept.bk HS1.out (fun hg => by have := HL1.out _ hg; omega))
  have HH2 := Lib.hid (hF2.kept.bk HH1.out (fun hg => by have := HL1.out _ hg; omega))
  have hz2 : w.heap.size + 2 ≤ w2.heap.size := Nat.le_trans hz1 hF2.kept.size
  have HP2 : Hid ((tx, some sb) ∈ ((s.grow (tx, none)).grow (tx, some sb)).ps) := mem_ins.2 (.inr rfl)
  clear hI2 hF2 HS1 HH1 HI1 HF1 HP1 HL1 HN1 n4 b2 b3
  have HN2 := Lib.hid (HI2.out.nodes _ HP2.out)
  have n1 := HN2.out.cells.cell 1
  have n2 := HN2.out.cells.cell 2
  have n3 := HN2.out.cells.cell 3
  have n4 := HN2.out.cells.cell 4
  have nf := HN2.out.cells.free 1
  change w2.cell? ⟨(D2 _).b, 1, none⟩ = some (D2 _).v at n1
  change w2.cell? ⟨(D2 _).b, 2, none⟩ = some (.map (some (D2 _).r1)) at n2
  change w2.cell? ⟨(D2 _).b, 3, none⟩ = some (.map (some (D2 _).r2)) at n3
  change w2.cell? ⟨(D2 _).b, 4, none⟩ = some (.map (some (D2 _).r3)) at n4
  have b2 := HS2.out.cell 2
  have b3 := HS2.out.cell 3
  change w2.cell? ⟨w.heap.size, 2, none⟩ = some (.string ⟨sb.toArray⟩) at b2
  change w2.cell? ⟨w.heap.size, 3, none⟩ = some (.string ⟨#[]⟩) at b3
  have l0 := HH2.out.cell 0
  have l1 := HH2.out.cell 1
  have l2 := HH2.out.cell 2
  change w2.cell? ⟨w.heap.size + 1, 0, none⟩ = some (.string ⟨here.1.1.toArray⟩) at l0
  change w2.cell? ⟨w.heap.size + 1, 1, none⟩ = some (.string ⟨here.1.2.1.toArray⟩) at l1
  change w2.cell? ⟨w.heap.size + 1, 2, none⟩ = some (.string ⟨here.1.2.2.toArray⟩) at l2
  generalize hD : D2 (tx, some sb) = nd at *
  have HD := Lib.hid hD
  clear hD
  have hlk1 := lookLo (W := w2.drew) HN2.out.been here true ⟨fun _ => ha, fun _ => rfl⟩
  have hlk2 := lookLo (W := (w2.alloc (.cells #[] 221)).drew) (HN2.out.been.alloc _) here true ⟨fun _ => ha, fun _ => rfl⟩
  have HA := Lib.hid ha
  have HLN := Lib.hid hlen
  clear ha hlen
  go_wp2_with fail
  go_cut [8] from 7 to 41 (fun v8 wx => v8 = .bool true ∧ Hid (Below w2.heap.size w2 wx))
  case first =>
    go_region_held3 (fun w' => w'.cell? ⟨nd.b, 2, none⟩ = some (.map (some nd.r1)) ∧ w'.cell? ⟨w.heap.size + 1, 0, none⟩ = some (.string ⟨here.1.1.toArray⟩) ∧ w'.cell? ⟨w.heap.size + 1, 1, none⟩ = some (.string ⟨here.1.2.1.toArray⟩) ∧ w'.cell? ⟨w.heap.size + 1, 2, none⟩ = some (.string ⟨here.1.2.2.toArray⟩)) (first | exact ⟨n2, l0, l1, l2⟩ | go_keep) (fail)
    all_goals
      go_wp2_with fail
      go_meet
      case rel => exact ⟨rfl, below_drewN ((Below.refl _ _).alloc (Nat.le_refl _) _) 1⟩
  case rest =>
    obtain ⟨rfl, HBc⟩ := hcut
    go_wp2_with fail
    go_end0
    have e1 : s.step ⟨tx, sb, [], here⟩ = ((s.grow (tx, none)).grow (tx, some sb)).putAt (tx, some sb) here := by (rw [step_at (x := ⟨tx, sb, [], here⟩) rfl]; unfold IxS.paths Tl.path; rw [if_neg hsb, if_neg hsb])
    exact ⟨D2, rfl, by rw [e1]; exact (HI2.out.next HBc.out).there HA.out, by rw [e1]; exact HF2.out.trans (IxFr.there _ _ HBc.out)⟩
set_option maxHeartbeats 8000000 in
set_option maxRecDepth 100000 in
theorem add_f {w : World} {B top : Nat} {s : IxS} {D : Path → Nd} (h : Ix w B top s D) (hB : B ≤ w.heap.size) (k : Nat) (tx sb : Bytes) (here : LoK) (ka : Option Addr) (kn kc : Nat) (hsb : sb ≠ []) (ha : here ∉ s.at_ (tx, some sb)) (hlen : ∀ p, (s.at_ p).length ≤ 1000000) :
    Calls Tryz.prog 92 #[.map (some top), .agg #[.int .u8 k, .string ⟨tx.toArray⟩, .string ⟨sb.toArray⟩, .string ⟨#[]⟩, .slice ka kn kc], .agg #[.string ⟨here.1.1.toArray⟩, .string ⟨here.1.2.1.toArray⟩, .string ⟨here.1.2.2.toArray⟩]] w (AddG B top s D ⟨tx, sb, [], here⟩ w) := by
  have HI0 := Lib.hid h
  have hlt := h.mem.lt
  have HL0 : Hid (∀ g, IxFt top s D g → g < w.heap.size) := fun g hg => (HI0.out.ft_lt hg).2
  have HB := Lib.hid hB
  clear h hB
  have hsbe := emptyB hsb
  go_enter Tryz.func92, Tryz.ntmps92
  go_wp2_with fail
  refine calls_gen fun W hW => ?_
  have hb0 : Below w.heap.size w W := by subst hW; exact ((Below.refl _ _).alloc (Nat.le_refl _) _).alloc (by simp) _
  have HS0 : Hid (Bk W w.heap.size [.int .u8 k, .string ⟨tx.toArray⟩, .string ⟨sb.toArray⟩, .string ⟨#[]⟩, .slice ka kn kc] 70) := by subst hW; exact (Bk.new w #[.int .u8 k, .string ⟨tx.toArray⟩, .string ⟨sb.toArray⟩, .string ⟨#[]⟩, .slice ka kn kc] 70).alloc _
  have HH0 : Hid (Bk W (w.heap.size + 1) [.string ⟨here.1.1.toArray⟩, .string ⟨here.1.2.1.toArray⟩, .string ⟨here.1.2.2.toArray⟩] 79) := by
    subst hW
    have h := Bk.new (w.alloc (.cells #[.int .u8 k, .string ⟨tx.toArray⟩, .string ⟨sb.toArray⟩, .string ⟨#[]⟩, .slice ka kn kc] 70)) #[.string ⟨here.1.1.toArray⟩, .string ⟨here.1.2.1.toArray⟩, .string ⟨here.1.2.2.toArray⟩] 79
    rw [World.size_alloc] at h
    exact h
  have hWs : W.heap.size = w.heap.size + 1 + 1 := by subst hW; simp
  have HWs := Lib.hid hWs
  clear hW hWs
  refine (growTop (HI0.out.next hb0) (Nat.le_trans HB.out hb0.size) tx).mono ?_
  rintro e w1 ⟨D1, rfl, hI1, hF1⟩
  have HI1 := Lib.hid hI1
  have HF1 : Hid (IxFr top s D (s.grow (tx, none)) D1 w w1) := (IxFr.of_below hb0).trans hF1
  have HL1 : Hid (∀ g, IxFt top (s.grow (tx, none)) D1 g → g < w.heap.size ∨ w.heap.size + 2 ≤ g) := fun g hg => by
    have h2 := HWs.out
    rcases hF1.ft g hg with h1 | h1
    · exact .inl (HL0.out g h1)
    · right; omega
  have HS1 := Lib.hid (hF1.kept.bk HS0.out (fun hg => by have := HL0.out _ hg; omega))
  have HH1 := Lib.hid (hF1.kept.bk HH0.out (fun hg => by have := HL0.out _ hg; omega))
  have hz1 : w.heap.size + 2 ≤ w1.heap.size := by have := hF1.kept.size; have := HWs.out; omega
  have HP1 : Hid ((tx, none) ∈ (s.grow (tx, none)).ps) := mem_ins.2 (.inr rfl)
  clear hI1 hF1 hb0 HS0 HH0 HI0 HWs
  have HN1 := Lib.hid (HI1.out.nodes _ HP1.out)
  have n1 := HN1.out.cells.cell 1
  have n2 := HN1.out.cells.cell 2
  have n3 := HN1.out.cells.cell 3
  have n4 := HN1.out.cells.cell 4
  have nf := HN1.out.cells.free 1
  change w1.cell? ⟨(D1 _).b, 1, none⟩ = some (D1 _).v at n1
  change w1.cell? ⟨(D1 _).b, 2, none⟩ = some (.map (some (D1 _).r1)) at n2
  change w1.cell? ⟨(D1 _).b, 3, none⟩ = some (.map (some (D1 _).r2)) at n3
  change w1.cell? ⟨(D1 _).b, 4, none⟩ = some (.map (some (D1 _).r3)) at n4
  have b2 := HS1.out.cell 2
  have b3 := HS1.out.cell 3
  change w1.cell? ⟨w.heap.size, 2, none⟩ = some (.string ⟨sb.toArray⟩) at b2
  change w1.cell? ⟨w.heap.size, 3, none⟩ = some (.string ⟨#[]⟩) at b3
  clear n1 n2 n3 nf
  go_wp2_with fail
  go_still_tail 6, (by kernel_rfl)
  go_wp2_with fail
  refine (growSub (HI1.out.next (drewN_below' w1 1)) (Nat.le_trans HB.out (Nat.le_trans (by omega) hz1)) HP1.out sb).mono ?_
  rintro e w2 ⟨D2, rfl, hI2, hF2⟩
  have HI2 := Lib.hid hI2
  have HF2 : Hid (IxFr top s D ((s.grow (tx, none)).grow (tx, some sb)) D2 w w2) := HF1.out.trans ((IxFr.of_below (drewN_below' w1 1)).trans hF2)
  have HS2 := Lib.hid (hF2.kept.bk HS1.out (fun hg => by have := HL1.out _ hg; omega))
  have HH2 := Lib.hid (hF2.kept.bk HH1.out (fun hg => by have := HL1.out _ hg; omega))
  have hz2 : w.heap.size + 2 ≤ w2.heap.size := Nat.le_trans hz1 hF2.kept.size
  have HP2 : Hid ((tx, some sb) ∈ ((s.grow (tx, none)).grow (tx, some sb)).ps) := mem_ins.2 (.inr rfl)
  clear hI2 hF2 HS1 HH1 HI1 HF1 HP1 HL1 HN1 n4 b2 b3
  have HN2 := Lib.hid (HI2.out.nodes _ HP2.out)
  have n1 := HN2.out.cells.cell 1
  have n2 := HN2.out.cells.cell 2
  have n3 := HN2.out.cells.cell 3
  have n4 := HN2.out.cells.cell 4
  have nf := HN2.out.cells.free 1
  change w2.cell? ⟨(D2 _).b, 1, none⟩ = some (D2 _).v at n1
  change w2.cell? ⟨(D2 _).b, 2, none⟩ = some (.map (some (D2 _).r1)) at n2
  change w2.cell? ⟨(D2 _).b, 3, none⟩ = some (.map (some (D2 _).r2)) at n3
  change w2.cell? ⟨(D2 _).b, 4, none⟩ = some (.map (some (D2 _).r3)) at n4
  have b2 := HS2.out.cell 2
  have b3 := HS2.out.cell 3
  change w2.cell? ⟨w.heap.size, 2, none⟩ = some (.string ⟨sb.toArray⟩) at b2
  change w2.cell? ⟨w.heap.size, 3, none⟩ = some (.string ⟨#[]⟩) at b3
  have l0 := HH2.out.cell 0
  have l1 := HH2.out.cell 1
  have l2 := HH2.out.cell 2
  change w2.cell? ⟨w.heap.size + 1, 0, none⟩ = some (.string ⟨here.1.1.toArray⟩) at l0
  change w2.cell? ⟨w.heap.size + 1, 1, none⟩ = some (.string ⟨here.1.2.1.toArray⟩) at l1
  change w2.cell? ⟨w.heap.size + 1, 2, none⟩ = some (.string ⟨here.1.2.2.toArray⟩) at l2
  generalize hD : D2 (tx, some sb) = nd at *
  have HD := Lib.hid hD
  clear hD
  have hlk1 := lookLo (W := w2.drew) HN2.out.been here false ⟨fun e => (by cases e), fun e => absurd e ha⟩
  have hlk2 := lookLo (W := (w2.alloc (.cells #[] 221)).drew) (HN2.out.been.alloc _) here false ⟨fun e => (by cases e), fun e => absurd e ha⟩
  have HA := Lib.hid ha
  have HLN := Lib.hid hlen
  clear ha hlen
  go_wp2_with fail
  go_cut [8] from 7 to 41 (fun v8 wx => v8 = .bool false ∧ Hid (Below w2.heap.size w2 wx))
  case first =>
    go_region_held3 (fun w' => w'.cell? ⟨nd.b, 2, none⟩ = some (.map (some nd.r1)) ∧ w'.cell? ⟨w.heap.size + 1, 0, none⟩ = some (.string ⟨here.1.1.toArray⟩) ∧ w'.cell? ⟨w.heap.size + 1, 1, none⟩ = some (.string ⟨here.1.2.1.toArray⟩) ∧ w'.cell? ⟨w.heap.size + 1, 2, none⟩ = some (.string ⟨here.1.2.2.toArray⟩)) (first | exact ⟨n2, l0, l1, l2⟩ | go_keep) (fail)
    all_goals
      go_wp2_with fail
      go_meet
      case rel => exact ⟨rfl, below_drewN ((Below.refl _ _).alloc (Nat.le_refl _) _) 1⟩
  case rest =>
    obtain ⟨rfl, HBc⟩ := hcut
    have HIc := Lib.hid (HI2.out.next HBc.out)
    have HNc := Lib.hid (HIc.out.nodes _ HP2.out)
    rw [HD.out] at HNc
    have HHc := Lib.hid (HH2.out.next HBc.out)
    have HFc := Lib.hid (HF2.out.trans (IxFr.of_below HBc.out))
    have hzc : w.heap.size + 2 ≤ wc.heap.size := by have := HBc.out.size; omega
    have HBs : Hid (B ≤ w.heap.size) := HB.out
    clear n1 n2 n3 n4 nf l0 l1 l2 b2 b3 hlk1 hlk2 HBc
    have m2 := HNc.out.cells.cell 2
    change wc.cell? ⟨nd.b, 2, none⟩ = some (.map (some nd.r1)) at m2
    have q0 := HHc.out.cell 0
    have q1 := HHc.out.cell 1
    have q2 := HHc.out.cell 2
    change wc.cell? ⟨w.heap.size + 1, 0, none⟩ = some (.string ⟨here.1.1.toArray⟩) at q0
    change wc.cell? ⟨w.heap.size + 1, 1, none⟩ = some (.string ⟨here.1.2.1.toArray⟩) at q1
    change wc.cell? ⟨w.heap.size + 1, 2, none⟩ = some (.string ⟨here.1.2.2.toArray⟩) at q2
    go_wp2_with fail
    go_still_tail 6, (by kernel_rfl)
    go_wp2_with (at_mapUpdate; refine hold_op _ rfl ?_)
    constructor
    refine wpList_gmap_put rfl _ _ _ _ _ _ (.inl rfl) Tryz.underlying217 lo_enc nd.r1 _ HNc.out.been here unitV rfl rfl rfl ?_
    intro wy hmy hgy hzy
    have hky : Kept (fun g => g = nd.r1) wc wy := ((Kept.refl _ wc).trans (Kept.of_below (drewN_below' wc 1))).grown hgy (fun g e => (Option.some.inj e).symm)
    have HMY : Hid (GMap encLoV wy nd.r1 (gPut ((((s.grow (tx, none)).grow (tx, some sb)).at_ (tx, some sb)).map fun u => (u, unitV)) here unitV)) := hmy
    have HKY := Lib.hid hky
    have hpc := push_cells HIc.out HP2.out HD.out hky
    have HCY := Lib.hid hpc.1
    have HOY := Lib.hid hpc.2
    have HHY := Lib.hid (hky.bk HHc.out (HHc.out.ne_gmap HNc.out.been))
    have hzy2 : w.heap.size + 2 ≤ wy.heap.size := by have := hky.size; omega
    have HLA : Hid ((((s.grow (tx, none)).grow (tx, some sb)).at_ (tx, some sb)).length ≤ 1000000) := HLN.out (tx, some sb)
    generalize hL : ((s.grow (tx, none)).grow (tx, some sb)).at_ (tx, some sb) = L at *
    have HL := Lib.hid hL
    clear hL hmy hgy hzy hky hpc m2 q0 q1 q2
    have y1 := HCY.out.cell 1
    change wy.cell? ⟨nd.b, 1, none⟩ = some nd.v at y1
    have yf := HCY.out.free 1
    have q0 := HHY.out.cell 0
    have q1 := HHY.out.cell 1
    have q2 := HHY.out.cell 2
    change wy.cell? ⟨w.heap.size + 1, 0, none⟩ = some (.string ⟨here.1.1.toArray⟩) at q0
    change wy.cell? ⟨w.heap.size + 1, 1, none⟩ = some (.string ⟨here.1.2.1.toArray⟩) at q1
    change wy.cell? ⟨w.heap.size + 1, 2, none⟩ = some (.string ⟨here.1.2.2.toArray⟩) at q2
    have hbl : nd.b < wy.heap.size := HCY.out.lt
    obtain ⟨va, vc, hv⟩ := HOY.out.shape
    rw [hv] at y1
    have HV := Lib.hid hv
    clear hv
    have hBy : B ≤ wy.heap.size := by have := HBs.out; omega
    go_wp2_with fail
    go_region_law ((refine step_push2 (by rfl) _ _ _ (by rfl) B 79 3 48 slloc encLo encLo_ok (.slice va L.length vc) L (by rfl) (by rw [← HV.out]; exact HOY.out.alloc _) here wy.heap.size (by rfl) (fun j u hj => ((Bk.new wy #[.string ⟨here.1.1.toArray⟩, .string ⟨here.1.2.1.toArray⟩, .string ⟨here.1.2.2.toArray⟩] 79).cell j).trans hj) (by have := HLA.out; omega) (by have := HLA.out; unfold maxLen; omega) (by simp; omega) ?_; intro gg cap w5 hown hgrow hat; have hc5 := Bk.grown (HCY.out.alloc _).drew hgrow (by rw [← HV.out]; exact HOY.out.ne_bk HCY.out (by decide)); have z1 := hc5.cell 1; change w5.cell? ⟨nd.b, 1, none⟩ = some nd.v at z1; rw [HV.out] at z1; have zf := hc5.free 1))
    all_goals
      go_wp2_with fail
      go_end0
      have e1 : s.step ⟨tx, sb, [], here⟩ = ((s.grow (tx, none)).grow (tx, some sb)).putAt (tx, some sb) here := by (rw [step_at (x := ⟨tx, sb, [], here⟩) rfl]; unfold IxS.paths Tl.path; rw [if_neg hsb, if_neg hsb])
      have hPD := push_done HIc.out HP2.out (show here ∉ ((s.grow (tx, none)).grow (tx, some sb)).at_ (tx, some sb) from HA.out) HD.out (by rw [HL.out]; exact HMY.out) HKY.out (W0 := (wy.alloc (.cells #[.string ⟨here.1.1.toArray⟩, .string ⟨here.1.2.1.toArray⟩, .string ⟨here.1.2.2.toArray⟩] 79)).drew) (below_drewN ((Below.refl _ _).alloc (Nat.le_refl _) _) 1) (by rw [HV.out]; exact hgrow) (by rw [HL.out]; exact hown) (by rw [HV.out]; exact hat)
      exact ⟨_, rfl, by rw [e1]; exact hPD.1, by rw [e1]; exact HFc.out.trans hPD.2⟩
set_option maxRecDepth 100000 in
theorem add_any {w : World} {B top : Nat} {s : IxS} {D : Path → Nd} (h : Ix w B top s D) (hB : B ≤ w.heap.size) (k : Nat) (tx sb se : Bytes) (here : LoK) (ka : Option Addr) (kn kc : Nat) (hlen : ∀ p, (s.at_ p).length ≤ 1000000) :
    Calls Tryz.prog 92 #[.map (some top), .agg #[.int .u8 k, .string ⟨tx.toArray⟩, .string ⟨sb.toArray⟩, .string ⟨se.toArray⟩, .slice ka kn kc], .agg #[.string ⟨here.1.1.toArray⟩, .string ⟨here.1.2.1.toArray⟩, .string ⟨here.1.2.2.toArray⟩]] w (AddG B top s D ⟨tx, sb, se, here⟩ w) := by
  by_cases hsb : sb = []
  · subst hsb
    by_cases hse : se = []
    · subst hse
      by_cases ha : here ∈ s.at_ (tx, none)
      · exact add_b h hB k tx here ka kn kc ha hlen
      · exact add_c h hB k tx here ka kn kc ha hlen
    · exact add_a h hB k tx se here ka kn kc hse
  · by_cases hse : se = []
    · subst hse
      by_cases ha : here ∈ s.at_ (tx, some sb)
      · exact add_e h hB k tx sb here ka kn kc hsb ha hlen
      · exact add_f h hB k tx sb here ka kn kc hsb ha hlen
    · exact add_d h hB k tx sb se here ka kn kc hsb hse
end Go.Proofs.YtohinfefidahlaaGreatDoor
