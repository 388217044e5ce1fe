/- index.entries: nodes told as they are sorted. -/
import Derived.Test.YtohinfefidahlaaGreatDoorJoE
import Derived.Test.YtohinfefidahlaaGreatDoorPut
import Derived.Deep.RegionHeld3
import Derived.Deep.CutRange
namespace Go.Proofs.YtohinfefidahlaaGreatDoor
open Go.RowKit
set_option linter.unusedVariables false
set_option linter.unusedSimpArgs false

/-- a node that is to be told -/
structure It where
  term : Bytes
  nd : Nd
  al : List LoK
  sl : List Bytes
  km : KV
/-- what is told of nodes: entries in memory of their own, or where the nodes had it (below n0) -/
def EntG (n0 : Nat) (U : List En → Prop) (W : World) (e : Ending) (W' : World) : Prop :=
  (∃ a c ul, e = .returned (.slice a ul.length c) ∧ EnsAt (fun g => g < n0 ∨ W.heap.size ≤ g) W' a ul ∧ U ul) ∧ Below W.heap.size W W'
structure Told (U : It → List En → Prop) (it : It) (x : En) : Prop where
  term : x.term = it.term
  al : x.al = it.al
  see : x.sl.Perm it.sl
  sorted : x.sl.Pairwise (fun a b => a ≤ b)
  under : U it x.ul
structure Lists (U : It → List En → Prop) (items : List It) (ml : List En) : Prop where
  perm : (ml.map En.term).Perm (items.map It.term)
  ord : ml.Pairwise (fun a b => nodeO a.term b.term ≤ 0)
  told : ∀ x ∈ ml, ∃ it ∈ items, Told U it x
structure ItOk (w : World) (B : Nat) (x : It) : Prop where
  nd : NdIn w B x.term x.al x.sl x.km x.nd
  len : x.term.length ≤ 1000000
  see : x.sl.length ≤ 1000000
def prs (l : List It) : List (Bytes × Nat) := l.map fun x => (x.term, x.nd.b)
def kvs (l : List (Bytes × Nat)) : KV := l.map fun x => (x.1, ptrV x.2)
theorem slso : SlTy Tryz.prog 223 225 2 24 := ⟨Tryz.underlying223, .agg #[.string ⟨#[]⟩, .pointer none], by kernel_rfl, rfl, by decide⟩
theorem slen : SlTy Tryz.prog 22 29 4 88 := ⟨Tryz.underlying22, .agg #[.string ⟨#[]⟩, .slice none 0 0, .slice none 0 0, .slice none 0 0], by kernel_rfl, rfl, by decide⟩
set_option maxHeartbeats 4000000 in
set_option maxRecDepth 100000 in
theorem entries_nil {w : World} {r n0 : Nat} {U : List En → Prop} (hm : SMap w r []) (hU : U []) : Calls Tryz.prog 93 #[.map (some r)] w (EntG n0 U w) := by
  have hlen := fun ty => run_len_smap (P := Tryz.prog) (t := 105) (ty := ty) (by kernel_rfl) hm
  clear hm
  go_enter Tryz.func93, Tryz.ntmps93
  go_wp2_with fail
  go_ret
  exact ⟨⟨none, 0, [], rfl, EnsAt.nil _ _ _, hU⟩, Below.refl _ _⟩
theorem kvs_mem {items : List It} {x : Bytes × Value} (h : x ∈ kvs (prs items)) : ∃ it ∈ items, x = (it.term, ptrV it.nd.b) := by
  unfold kvs prs at h
  rw [List.map_map] at h
  obtain ⟨it, hi, rfl⟩ := List.mem_map.1 h
  exact ⟨it, hi, rfl⟩
theorem kvs_append (a c : List (Bytes × Nat)) : kvs (a ++ c) = kvs a ++ kvs c := by unfold kvs; rw [List.map_append]
theorem kvs_perm {a c : List (Bytes × Nat)} (h : (kvs a).Perm (kvs c)) : a.Perm c := by
  have hf : ∀ l : List (Bytes × Nat), (kvs l).map (fun x => (x.1, match x.2 with | .pointer (some p) => p.block | _ => 0)) = l := by
    intro l
    unfold kvs
    rw [List.map_map]
    induction l with
    | nil => rfl
    | cons x l ih => rw [List.map_cons, ih]; rfl
  have := h.map (fun x : Bytes × Value => (x.1, match x.2 with | .pointer (some p) => p.block | _ => 0))
  rw [hf, hf] at this
  exact this
/-- the first loop: what is done, what is to come -/
def Ran1 (w : World) (r ri : Nat) (items : List It) (v : Value) (wr : World) : Prop :=
  ∃ (left : KV) (dl : List (Bytes × Nat)), SRange wr r ri (kvs (prs items)) left ∧ (kvs dl ++ left).Perm (kvs (prs items)) ∧ Own wr w.heap.size 225 2 encSo v dl
theorem sortB_sorted (l : List Bytes) : (sortB l).Pairwise (fun a b => a ≤ b) := by
  have h := List.pairwise_mergeSort (le := fun x y : Bytes => decide (x ≤ y)) (fun a b c h1 h2 => by
    simp only [decide_eq_true_eq] at h1 h2 ⊢
    exact List.le_trans h1 h2) (fun a b => by
    have := List.le_total a b
    simpa using this) l
  exact h.imp fun {a b} h => by simpa using h
theorem take_put {D C : List Value} {k n : Nat} (hD : D.length = n * 4) (hk : k < n) (hC : C.length = 4) : (putCells D (k * 4) C).take ((k + 1) * 4) = D.take (k * 4) ++ C := by
  unfold putCells
  have h1 : (D.take (k * 4) ++ C).length = (k + 1) * 4 := by rw [List.length_append, List.length_take, hC, hD]; omega
  rw [← h1, List.take_left]
/-- the second loop: so many entries are told -/
def Ran2 (n0 : Nat) (w : World) (g2 n : Nat) (U : It → List En → Prop) (items : List It) (l : List (Bytes × Nat)) (wr : World) (i : Nat) : Prop :=
  ∃ (D : List Value) (ml : List En), Bk wr g2 D 29 ∧ D.length = n * 4 ∧ ml.length = i ∧ D.take (i * 4) = ml.flatMap encEn ∧ (∀ x ∈ ml, EnIn (fun g => g < n0 ∨ (w.heap.size ≤ g ∧ g ≠ g2)) wr x) ∧ ml.map En.term = (l.take i).map (·.1) ∧ ∀ x ∈ ml, ∃ it ∈ items, Told U it x
/-- an entry as it is begun: its term, where it stands, what stands under it -/
def Ran3 (n0 : Nat) (U : It → List En → Prop) (it : It) (W0 : World) (v : Value) (wx : World) : Prop :=
  ∃ ge ua uc ul, v = .pointer (some ⟨ge, 0, none⟩) ∧ Bk wx ge [.string ⟨it.term.toArray⟩, it.nd.v, .slice none 0 0, .slice ua (List.length ul) uc] 29 ∧ EnsAt (fun g => g < n0 ∨ (W0.heap.size ≤ g ∧ g ≠ ge)) wx ua ul ∧ U it ul ∧ W0.heap.size ≤ ge ∧ Below W0.heap.size W0 wx
theorem ran3_a {n0 : Nat} {U : It → List En → Prop} {it : It} {W0 w8 : World} {ua ata : Option Addr} {uc atc : Nat} {ul : List En} (hv : it.nd.v = .slice ata it.al.length atc) (hE : EnsAt (fun g => g < n0 ∨ W0.heap.size ≤ g) w8 ua ul) (hU : U it ul) (hb : Below W0.heap.size W0 w8) :
    Ran3 n0 U it W0 (.pointer (some ⟨w8.heap.size, 0, none⟩)) (w8.alloc (.cells #[.string ⟨it.term.toArray⟩, .slice ata it.al.length atc, .slice none 0 0, .slice ua ul.length uc] 29)) := by
  refine ⟨w8.heap.size, ua, uc, ul, rfl, ?_, ?_, hU, hb.size, hb.alloc hb.size _⟩
  · rw [hv]; exact Bk.new w8 #[.string ⟨it.term.toArray⟩, .slice ata it.al.length atc, .slice none 0 0, .slice ua ul.length uc] 29
  · refine (hE.mono (N' := fun g => g < n0 ∨ (W0.heap.size ≤ g ∧ g ≠ w8.heap.size)) fun g hg hN => ?_).next ((Below.refl _ _).alloc (Nat.le_refl _) _)
    rcases hN with h | h
    · exact .inl h
    · exact .inr ⟨h, by omega⟩
theorem ran3_b {n0 : Nat} {U : It → List En → Prop} {it : It} {W0 w8 : World} {ua ata : Option Addr} {uc atc : Nat} {ul : List En} (hv : it.nd.v = .slice ata it.al.length atc) (hn : n0 ≤ W0.heap.size) (hE : EnsAt (fun g => g < n0 ∨ W0.heap.size + 1 ≤ g) w8 ua ul) (hU : U it ul) (hb : Below W0.heap.size W0 w8)
    (hz : Bk w8 W0.heap.size [.string ⟨#[]⟩, .slice none 0 0, .slice none 0 0, .slice none 0 0] 29) :
    Ran3 n0 U it W0 (.pointer (some ⟨W0.heap.size, 0, none⟩)) ((((w8.setCell ⟨W0.heap.size, 0, none⟩ (.string ⟨it.term.toArray⟩)).setCell ⟨W0.heap.size, 1, none⟩ (.slice ata it.al.length atc)).setCell ⟨W0.heap.size, 2, none⟩ (.slice none 0 0)).setCell ⟨W0.heap.size, 3, none⟩ (.slice ua ul.length uc)) := by
  have hk : Kept (fun g => g = W0.heap.size) w8 ((((w8.setCell ⟨W0.heap.size, 0, none⟩ (.string ⟨it.term.toArray⟩)).setCell ⟨W0.heap.size, 1, none⟩ (.slice ata it.al.length atc)).setCell ⟨W0.heap.size, 2, none⟩ (.slice none 0 0)).setCell ⟨W0.heap.size, 3, none⟩ (.slice ua ul.length uc)) :=
    ((((Kept.refl (fun g => g = W0.heap.size) w8).setCell (p := ⟨W0.heap.size, 0, none⟩) rfl _).setCell (p := ⟨W0.heap.size, 1, none⟩) rfl _).setCell (p := ⟨W0.heap.size, 2, none⟩) rfl _).setCell (p := ⟨W0.heap.size, 3, none⟩) rfl _
  refine ⟨W0.heap.size, ua, uc, ul, rfl, ?_, ?_, hU, Nat.le_refl _, hb.trans (hk.below (fun g e => by omega) hb.size)⟩
  · rw [hv]; exact (((hz.set 0 _).set 1 _).set 2 _).set 3 _
  · refine (hE.mono (N' := fun g => g < n0 ∨ (W0.heap.size ≤ g ∧ g ≠ W0.heap.size)) fun g hg hN => ?_).kept hk (fun g hN _ e => ?_)
    · rcases hN with h | h
      · exact .inl h
      · exact .inr ⟨by omega, by omega⟩
    · rcases hN with h | h
      · omega
      · exact h.2 e
/-- the third loop: what the entry is told to see, so far -/
def Ran4 (it : It) (Bs r2 ri ge : Nat) (under : Value) (wr : World) : Prop :=
  ∃ (left : KV) (dl : List Bytes) (vs : Value), SRange wr r2 ri (it.sl.map fun u => (u, unitV)) left ∧ ((dl.map fun u => (u, unitV)) ++ left).Perm (it.sl.map fun u => (u, unitV)) ∧ Own wr Bs 9 1 encS vs dl ∧ Bk wr ge [.string ⟨it.term.toArray⟩, it.nd.v, vs, under] 29
theorem sees_perm {a c : List Bytes} (h : (a.map fun u => (u, unitV)).Perm (c.map fun u => (u, unitV))) : a.Perm c := by
  have := h.map (fun x : Bytes × Value => x.1)
  rw [List.map_map, List.map_map] at this
  simpa [Function.comp_def] using this
theorem Kept.grownN {S : Nat → Prop} {w w1 w2 : World} {row : Option Nat} (h : Kept S w w1) (hg : w1.grownBy w2 row) (hr : ∀ g, row = some g → w.heap.size ≤ g ∨ S g) : Kept S w w2 :=
  ⟨hg.os.trans h.os, hg.tape.trans h.tape, hg.output.trans h.output, Nat.le_trans h.size hg.size, fun k hk hn => by
    rw [hg.block k (Nat.lt_of_lt_of_le hk h.size) (fun e => by rcases hr k e.symm with h1 | h1; · omega
                                                               · exact hn h1)]
    exact h.block k hk hn⟩
set_option maxHeartbeats 16000000 in
set_option maxRecDepth 100000 in
theorem entries_step {w : World} {B r n0 : Nat} {items : List It} {U : It → List En → Prop} (hne : items ≠ []) (hlen : items.length ≤ 1000000) (hm : SMap w r (kvs (prs items))) (hin : ∀ x ∈ items, ItOk w B x) (hn0 : n0 ≤ w.heap.size)
    (hv0 : ∀ x ∈ items, ∀ g, x.nd.v.ownBlock = some g → g < n0) (hrec : ∀ x ∈ items, ∀ W, Below w.heap.size w W → Calls Tryz.prog 93 #[.map (some x.nd.r3)] W (EntG n0 (U x) W)) :
    Calls Tryz.prog 93 #[.map (some r)] w (EntG n0 (Lists U items) w) := by
  have hln := fun ty => run_len_smap (P := Tryz.prog) (t := 105) (ty := ty) (by kernel_rfl) hm
  have hl0 : 0 < items.length := List.length_pos_iff.2 hne
  have hkl : (kvs (prs items)).length = items.length := by unfold kvs prs; simp
  have HM := Lib.hid hm
  have HIN := Lib.hid hin
  have HN0 := Lib.hid hn0
  have HV0 := Lib.hid hv0
  have HREC := Lib.hid hrec
  have HLEN := Lib.hid hlen
  rw [hkl] at hln
  have hz : ((items.length : Int) == 0) = false := beq_eq_false_iff_ne.2 (by omega)
  clear hm hin hn0 hv0 hrec hne hkl hlen
  go_enter Tryz.func93, Tryz.ntmps93
  go_wp2_with (first
    | (at_make; refine wpList_mk rfl _ _ _ rfl w.heap.size 225 2 24 slso encSo items.length _ rfl rfl rfl (by have := HLEN.out; omega) (by have := HLEN.out; unfold maxLen; omega) w (Below.refl _ _) (Nat.le_refl _) ?_; intro w1 hown1 hb1 hz1)
    | (at_range; refine hold_op _ rfl ?_))
  constructor
  refine wpList_srange rfl _ _ rfl Tryz.underlying105 rfl (HM.out.below hb1 HM.out.lt) ?_
  intro w2 hrg hb2 hz2
  have HB2 : Hid (Below w.heap.size w w2) := hb1.trans (hb2.mono hb1.size)
  have HR0 : Hid (Ran1 w r w1.heap.size items (.slice (some ⟨w.heap.size, 0, none⟩) 0 items.length) w2) := ⟨_, [], hrg, List.Perm.refl _, hown1.below hb2 (Nat.le_refl _)⟩
  have hri : w.heap.size ≤ w1.heap.size := hb1.size
  clear hrg hb2 hb1 hown1 hz1 hz2
  go_wp2_with fail
  go_frame
  go_loopw [3] (fun v3 wr => Hid (Ran1 w r w1.heap.size items v3 wr) ∧ Hid (Below w.heap.size w wr)) (fun _ wr => wr.rangeLeft r w1.heap.size)
  case atStart => exact ⟨HR0.out, HB2.out⟩
  case round =>
    obtain ⟨HR, HB⟩ := hrel
    obtain ⟨left, dl, hrg, hperm, hown⟩ := HR.out
    have HRG := Lib.hid hrg
    have HPE := Lib.hid hperm
    have HOW := Lib.hid hown
    clear HR hrg hperm hown HR0 HB2
    go_wp2_with (at_next; refine hold_op _ rfl ?_)
    constructor
    refine wpList_snext rfl _ rfl rfl HRG.out ?_ ?_
    · intro hl0
      subst hl0
      have hpd : dl.Perm (prs items) := kvs_perm (by have h := HPE.out; rw [List.append_nil] at h; exact h)
      have HPD := Lib.hid hpd
      have hdl : dl.length = items.length := by rw [hpd.length_eq]; unfold prs; simp
      obtain ⟨va, vc, hv⟩ := HOW.out.shape
      subst hv
      obtain ⟨g, hga, hgB, hgl, hgc⟩ := HOW.out.ptr (by omega)
      subst hga
      have HOK : Hid (∀ x ∈ dl, SoOk wr g x) := fun x hx => by
        have h1 := hpd.subset hx
        unfold prs at h1
        obtain ⟨it, hit, rfl⟩ := List.mem_map.1 h1
        have h2 := HIN.out it hit
        have h3 := h2.nd.cells.lt
        have h4 : Bk wr it.nd.b (ndC it.term it.nd) 220 := h2.nd.cells.below HB.out h3
        exact ⟨h2.len, (h4.cell 0), by show it.nd.b ≠ g; omega⟩
      have HDL := Lib.hid hdl
      have hdl0 : dl ≠ [] := by intro e; rw [e] at hdl; simp at hdl; omega
      have HD0 := Lib.hid hdl0
      clear HPE HRG hpd hdl hdl0
      go_wp2_with fail
      refine (sortNodes HD0.out (by rw [HDL.out]; exact HLEN.out) HOW.out rfl HOK.out).mono ?_
      rintro e w6 ⟨rfl, l, hlp, hlo, hown6, hk6⟩
      have HLP : Hid (l.Perm (prs items)) := hlp.trans HPD.out
      have HLO := Lib.hid hlo
      have HO6 := Lib.hid hown6
      have HB6 : Hid (Below w.heap.size w w6) := HB.out.trans (hk6.below (fun k e => by omega) HB.out.size)
      have hll : dl.length = l.length := by rw [hlp.length_eq]
      have hln0 : l.length = items.length := by have h := HDL.out; omega
      rw [hll] at HO6
      have HLN := Lib.hid hln0
      clear hlp hlo hown6 hk6 HOW HOK HPD HB HD0 HDL
      rw [hll]
      clear hll hln0
      have hl20 := HLEN.out
      have hlN := HLN.out
      have hlle : l.length ≤ 1000000 := by omega
      clear hl20 hlN
      go_wp2_with (at_make; refine wpList_mkrow rfl _ _ rfl slen l.length _ _ rfl rfl rfl rfl (by omega) (by unfold maxLen; omega) ?_; intro w7 D hD hDl hb7 hz7)
      have hgl6 : g < w6.heap.size := (HO6.out.block g rfl).2
      have hz6 := HB6.out.size
      have HR7 : Hid (Ran2 n0 w w6.heap.size l.length U items l w7 0) := ⟨D, [], hD, hDl, rfl, by simp, by simp, rfl, by simp⟩
      have HO7 := Lib.hid (HO6.out.below hb7 (Nat.le_refl _))
      have HB7 : Hid (Below w.heap.size w w7) := HB6.out.trans (hb7.mono hz6)
      clear hD hDl hb7 hz7 HO6 HB6
      generalize w6.heap.size = g2 at *
      go_loopw [40] (fun v40 wr => ∃ i : Nat, i ≤ l.length ∧ v40 = .int .i64 i ∧ Hid (Ran2 n0 w g2 l.length U items l wr i) ∧ Hid (Own wr w.heap.size 225 2 encSo (.slice (some ⟨g, 0, none⟩) l.length vc) l) ∧ Hid (Below w.heap.size w wr)) (fun v40 _ => l.length - (intOf v40).toNat)
      case atStart => exact ⟨0, by omega, rfl, HR7.out, HO7.out, HB7.out⟩
      case round =>
        obtain ⟨i, hi, rfl, HR, HO, HB⟩ := hrel
        by_cases hlt : i < l.length
        · have hmem : l[i] ∈ prs items := HLP.out.subset (List.getElem_mem hlt)
          unfold prs at hmem
          obtain ⟨it, hit, hil⟩ := List.mem_map.1 hmem
          have HIL : Hid (l[i] = (it.term, it.nd.b)) := hil.symm
          have d0 := HO.out.cellAt encSo_ok (List.getElem?_eq_getElem hlt) (j := 0) (u := .string ⟨(keyT it.term).toArray⟩) (by rw [HIL.out]; rfl)
          have d1 := HO.out.cellAt encSo_ok (List.getElem?_eq_getElem hlt) (j := 1) (u := .pointer (some ⟨it.nd.b, 0, none⟩)) (by rw [HIL.out]; rfl)
          rw [Nat.add_zero] at d0
          have HN : Hid (NdIn wr B it.term it.al it.sl it.km it.nd) := (HIN.out it hit).nd.of_blocks fun g' hg' => HB.out.block g' ((HIN.out it hit).nd.foot_lt hg').2
          have n0_ := HN.out.cells.cell 0
          change wr.cell? ⟨it.nd.b, 0, none⟩ = some (.string ⟨it.term.toArray⟩) at n0_
          have n1 := HN.out.cells.cell 1
          change wr.cell? ⟨it.nd.b, 1, none⟩ = some it.nd.v at n1
          obtain ⟨ata, atc, hatv⟩ := HN.out.at_.shape
          rw [hatv] at n1
          have HAV := Lib.hid hatv
          clear hatv
          have n3 := HN.out.cells.cell 3
          change wr.cell? ⟨it.nd.b, 3, none⟩ = some (.map (some it.nd.r2)) at n3
          have n4 := HN.out.cells.cell 4
          change wr.cell? ⟨it.nd.b, 4, none⟩ = some (.map (some it.nd.r3)) at n4
          clear hil hmem
          go_wp2_with fail
          refine wp_gen fun W0 hW0 => ?_
          have hb0 : Below wr.heap.size wr W0 := by subst hW0; exact (Below.refl _ _).alloc (Nat.le_refl _) _
          have HK9 : Hid (Bk W0 wr.heap.size [.string ⟨(keyT it.term).toArray⟩, .pointer (some ⟨it.nd.b, 0, none⟩)] 225) := by subst hW0; exact Bk.new wr #[.string ⟨(keyT it.term).toArray⟩, .pointer (some ⟨it.nd.b, 0, none⟩)] 225
          have hz0 : W0.heap.size = wr.heap.size + 1 := by subst hW0; simp
          have HZ0 := Lib.hid hz0
          have HB0 : Hid (Below w.heap.size w W0) := HB.out.trans (hb0.mono HB.out.size)
          have HBr := Lib.hid hb0
          have e0 := bcellN hb0 n0_
          have e1 := bcellN hb0 n1
          have e3 := bcellN hb0 n3
          have e4 := bcellN hb0 n4
          have p1 := HK9.out.cell 1
          change W0.cell? ⟨wr.heap.size, 1, none⟩ = some (.pointer (some ⟨it.nd.b, 0, none⟩)) at p1
          have q1 : wr.heap.size ≠ W0.heap.size := by omega
          have q2 : it.nd.b ≠ W0.heap.size := by have := HN.out.cells.lt; omega
          have q3 : W0.heap.size ≠ wr.heap.size := by omega
          have q4 : W0.heap.size ≠ it.nd.b := by have := HN.out.cells.lt; omega
          clear hW0 hb0 hz0 d0 d1 n0_ n1 n3 n4
          go_cut [10] from 45 to 61 (fun v10 wx => Hid (Ran3 n0 U it W0 v10 wx))
          case first =>
            go_region_held3 (fun w' => w'.cell? ⟨wr.heap.size, 1, none⟩ = some (.pointer (some ⟨it.nd.b, 0, none⟩)) ∧ w'.cell? ⟨it.nd.b, 0, none⟩ = some (.string ⟨it.term.toArray⟩) ∧ w'.cell? ⟨it.nd.b, 1, none⟩ = some (.slice ata it.al.length atc) ∧ w'.cell? ⟨it.nd.b, 4, none⟩ = some (.map (some it.nd.r3))) (first | exact ⟨p1, e0, e1, e4⟩ | go_keep) (first | (go_at_call 93; refine (HREC.out it hit _ (by first | exact below_drewN HB0.out 1 | exact below_drewN (HB0.out.alloc HB0.out.size _) 1)).mono ?_; rintro e w8 ⟨⟨ua, uc, ul, rfl, hE, hU⟩, hb8⟩; have HB8 := Lib.hid hb8; have hb : Below W0.heap.size W0 w8 := (by first | exact (below_drewN (Below.refl _ _) 1).trans hb8 | exact (below_drewN ((Below.refl _ _).alloc (Nat.le_refl _) _) 1).trans (hb8.mono (by simp))); have p1 := bcellN hb p1; have e0 := bcellN hb e0; have e1 := bcellN hb e1; have e4 := bcellN hb e4; (try have HZB := Lib.hid ((Bk.new W0 #[.string ⟨#[]⟩, .slice none 0 0, .slice none 0 0, .slice none 0 0] 29).drew.next hb8)); (try have z0 := HZB.out.cell 0); (try have z1 := HZB.out.cell 1); (try have z2 := HZB.out.cell 2); (try have z3 := HZB.out.cell 3); (try have zf := HZB.out.free); (try simp only [List.getElem?_cons_zero, List.getElem?_cons_succ] at z0 z1 z2 z3); have HBX := Lib.hid hb; have HE := Lib.hid hE; have HU := Lib.hid hU; clear hb hb8 hE hU))
            · go_wp2_with fail
              go_meet
              case rel => exact ran3_a HAV.out HE.out HU.out HBX.out
            · go_wp2_with fail
              go_meet
              case rel => exact ran3_b HAV.out (by have h1 := HN0.out; have h2 := HB0.out.size; omega) (by have h := HE.out; rw [show (W0.alloc (.cells #[.string ⟨#[]⟩, .slice none 0 0, .slice none 0 0, .slice none 0 0] 29)).drew.heap.size = W0.heap.size + 1 from World.size_alloc _ _] at h; exact h) HU.out HBX.out HZB.out
          case rest =>
            obtain ⟨ge, ua, uc, ul, rfl, hK, hE, hU, hge, hbx⟩ := hcut.out
            have HK := Lib.hid hK
            have HE := Lib.hid hE
            have HU := Lib.hid hU
            have HGE := Lib.hid hge
            have HBX := Lib.hid hbx
            have HBc : Hid (Below w.heap.size w wc) := HB0.out.trans (hbx.mono HB0.out.size)
            have hbc : Below wr.heap.size wr wc := HBr.out.trans (hbx.mono HBr.out.size)
            have HOc := Lib.hid (HO.out.below hbc (Nat.le_refl _))
            have HRc : Hid (∃ (D : List Value) (ml : List En), Bk wc g2 D 29 ∧ D.length = l.length * 4 ∧ ml.length = i ∧ D.take (i * 4) = ml.flatMap encEn ∧ (∀ x ∈ ml, EnIn (fun g => g < n0 ∨ (w.heap.size ≤ g ∧ g ≠ g2 ∧ g < ge)) wc x) ∧ ml.map En.term = (l.take i).map (·.1) ∧ ∀ x ∈ ml, ∃ it ∈ items, Told U it x) := by
              obtain ⟨D, ml, h1, h2, h3, h4, h5, h6, h7⟩ := HR.out
              have h8 := HZ0.out
              exact ⟨D, ml, h1.next hbc, h2, h3, h4, fun x hx => ((h5 x hx).mono fun g' hg' hN => by
                rcases hN with h | h
                · exact .inl h
                · exact .inr ⟨h.1, h.2, by omega⟩).next hbc, h6, h7⟩
            have HNc : Hid (NdIn wc B it.term it.al it.sl it.km it.nd) := HN.out.of_blocks fun g' hg' => hbc.block g' (HN.out.foot_lt hg').2
            have hK9 := HK9.out.next hbx
            have m1 := hK9.cell 1
            change wc.cell? ⟨wr.heap.size, 1, none⟩ = some (.pointer (some ⟨it.nd.b, 0, none⟩)) at m1
            have m3 := HNc.out.cells.cell 3
            change wc.cell? ⟨it.nd.b, 3, none⟩ = some (.map (some it.nd.r2)) at m3
            have hgw : w.heap.size ≤ ge := by have h1 := HB0.out.size; omega
            have hgl2 : g2 < ge := by
              obtain ⟨D, ml, h1, _⟩ := HR.out
              have h2 := h1.lt
              have h3 := HZ0.out
              omega
            have hgg : g < ge := by omega
            have HB0s : Hid (w.heap.size ≤ W0.heap.size ∧ g2 < W0.heap.size) := ⟨HB0.out.size, by
              obtain ⟨D, ml, h1, _⟩ := HR.out
              have h2 := h1.lt
              have h3 := HZ0.out
              omega⟩
            clear hcut hK hE hU hbx hbc hK9 HR HO HB HN HB0 HBr e0 e1 e3 e4 p1
            go_wp2_with (at_range; refine hold_op _ rfl ?_)
            constructor
            refine wpList_srange rfl _ _ rfl Tryz.underlying218 rfl HNc.out.see ?_
            intro wS hrg hbS hzS
            have HR0 : Hid (Ran4 it wc.heap.size it.nd.r2 wc.heap.size ge (.slice ua ul.length uc) wS) := ⟨_, [], .slice none 0 0, hrg, List.Perm.refl _, Own.nil _ _ _ _ _, HK.out.next hbS⟩
            have HKS : Hid (Kept (fun g => g = ge) wc wS) := Kept.of_below hbS
            clear hrg hbS hzS m1 m3
            go_wp2_with fail
            go_frame
            obtain ⟨wo, hwo⟩ : ∃ wo : World, wo = wr := ⟨_, rfl⟩
            subst hwo
            go_loopw [11] (fun v11 wr => Hid (Ran4 it wc.heap.size it.nd.r2 wc.heap.size ge (.slice ua ul.length uc) wr) ∧ Hid (Kept (fun g => g = ge) wc wr)) (fun _ wr => wr.rangeLeft it.nd.r2 wc.heap.size)
            case atStart => exact ⟨HR0.out, HKS.out⟩
            case round =>
              obtain ⟨HR4, HK4⟩ := hrel
              obtain ⟨left, dl4, vs, hrg, hperm, hown, hbk⟩ := HR4.out
              have HRG := Lib.hid hrg
              have HPE := Lib.hid hperm
              have HOW := Lib.hid hown
              have HBK := Lib.hid hbk
              clear HR4 hrg hperm hown hbk HR0 HKS
              obtain ⟨va, vc2, hv⟩ := HOW.out.shape
              subst hv
              go_wp2_with (at_next; refine hold_op _ rfl ?_)
              constructor
              refine wpList_snext rfl _ rfl rfl HRG.out ?_ ?_
              · intro hl0
                subst hl0
                have HPS : Hid (dl4.Perm it.sl) := sees_perm (by have h := HPE.out; rw [List.append_nil] at h; exact h)
                have hdl4 : dl4.length ≤ 1000000 := by
                  have h1 := HPS.out.length_eq
                  have h2 := (HIN.out it hit).see
                  omega
                have k2 := HBK.out.cell 2
                change wr.cell? ⟨ge, 2, none⟩ = some (.slice va dl4.length vc2) at k2
                clear HPE HRG
                go_wp2_with fail
                refine (sortStr HOW.out hdl4).mono ?_
                rintro e w8 ⟨rfl, hown8, hk8⟩
                have HOW8 := Lib.hid hown8
                have HBK8 := Lib.hid (hk8.bk HBK.out (HOW.out.ne_bk HBK.out (by decide)))
                have HK8 : Hid (Kept (fun g' => g' = ge ∨ wc.heap.size ≤ g') wc w8) := (HK4.out.mono fun g' e => .inl e).trans (hk8.mono fun g' e => .inr (HOW.out.block g' e).1)
                clear hown8 hk8 HOW HBK HK4 k2
                have k0 := HBK8.out.cell 0
                have k1 := HBK8.out.cell 1
                have k2 := HBK8.out.cell 2
                have k3 := HBK8.out.cell 3
                change w8.cell? ⟨ge, 0, none⟩ = some (.string ⟨it.term.toArray⟩) at k0
                change w8.cell? ⟨ge, 1, none⟩ = some it.nd.v at k1
                rw [HAV.out] at k1
                change w8.cell? ⟨ge, 2, none⟩ = some (.slice va dl4.length vc2) at k2
                change w8.cell? ⟨ge, 3, none⟩ = some (.slice ua ul.length uc) at k3
                go_wp2_with (refine hold_op (.store 29 (.tmp 84) (.tmp 83)) rfl ?_)
                constructor
                obtain ⟨D2, ml, hb1, hb2, hb3, hb4, hb5, hb6, hb7⟩ := HRc.out
                have hge2 := HGE.out
                have hg2c := hb1.lt
                have HG8 := Lib.hid (HK8.out.bk hb1 (fun h => by rcases h with h | h <;> omega))
                have hfit : i * 4 + 4 ≤ D2.length := by rw [hb2]; omega
                have HX : Hid (Told U it (.mk it.term ata atc it.al va vc2 (sortB dl4) ua uc ul)) := ⟨rfl, rfl, (sortB_perm dl4).trans HPS.out, sortB_sorted dl4, HU.out⟩
                have HEX : Hid (encEn (.mk it.term ata atc it.al va vc2 (sortB dl4) ua uc ul) = [.string ⟨it.term.toArray⟩, .slice ata it.al.length atc, .slice va dl4.length vc2, .slice ua ul.length uc]) := by
                  show encEn _ = _
                  unfold encEn
                  simp only [En.term, En.aa, En.al, En.ac, En.sa, En.sl, En.sc, En.ua, En.ul, En.uc]
                  rw [sortB_len]
                have HTP := Lib.hid (take_put (C := [.string ⟨it.term.toArray⟩, .slice ata it.al.length atc, .slice va dl4.length vc2, .slice ua ul.length uc]) hb2 hlt rfl)
                have HPL := Lib.hid ((putCells_len (C := D2) (off := i * 4) (C' := [.string ⟨it.term.toArray⟩, .slice ata it.al.length atc, .slice va dl4.length vc2, .slice ua ul.length uc]) hfit).trans hb2)
                have HML : Hid (ml.length = i ∧ D2.take (i * 4) = ml.flatMap encEn ∧ (∀ x ∈ ml, EnIn (fun g => g < n0 ∨ (w.heap.size ≤ g ∧ g ≠ g2 ∧ g < ge)) wc x) ∧ ml.map En.term = (l.take i).map (·.1) ∧ ∀ x ∈ ml, ∃ it ∈ items, Told U it x) := ⟨hb3, hb4, hb5, hb6, hb7⟩
                refine wpList_store_bk rfl _ _ rfl rfl rfl (off := i * 4) (C' := [.string ⟨it.term.toArray⟩, .slice ata it.al.length atc, .slice va dl4.length vc2, .slice ua ul.length uc]) rfl HG8.out hfit (by kernel_rfl) (by simp [Value.oneCell']) ?_
                intro wf hbf hkf hzf
                have hKT : Kept (fun g' => g' = ge ∨ g' = g2 ∨ wc.heap.size ≤ g') wc wf := (HK8.out.mono fun g' e => by rcases e with e | e; · exact .inl e
                                                                                                                        · exact .inr (.inr e)).trans (hkf.mono fun g' e => .inr (.inl e))
                have hBf : Below w.heap.size w wf := HBc.out.trans (hKT.below (fun k e => by have h := HBc.out.size; rcases e with e | e | e <;> omega) HBc.out.size)
                have HBf := Lib.hid hBf
                have HOf := Lib.hid (hKT.own HOc.out (fun k e h => by
                  have h1 := (HOc.out.block k e).2
                  have e1 : g = k := Option.some.inj e
                  subst e1
                  rcases h with h | h | h <;> omega))
                have hat : AtN (fun g => g < n0 ∨ (w.heap.size ≤ g ∧ g ≠ g2)) wf 3 encLo ata it.al := by
                  have h1 : NdIn wf B it.term it.al it.sl it.km it.nd := (HIN.out it hit).nd.of_blocks fun g' hg' => hBf.block g' ((HIN.out it hit).nd.foot_lt hg').2
                  have h2 := h1.at_
                  rw [HAV.out] at h2
                  exact h2.addrN encLo_ok fun k hk => .inl (HV0.out it hit k (by rw [HAV.out]; exact hk))
                have hst : AtN (fun g => g < n0 ∨ (w.heap.size ≤ g ∧ g ≠ g2)) wf 1 encS va (sortB dl4) := by
                  have h1 := HOW8.out
                  have h0 := HBc.out.size
                  rw [← sortB_len dl4] at h1
                  refine (h1.addrN (N := fun g => wc.heap.size ≤ g) encS_ok fun k hk => (h1.block k hk).1).kept hkf (fun k hk _ e => by omega) |>.mono fun k _ hk => .inr ⟨by omega, by omega⟩
                have hut : EnsAt (fun g => g < n0 ∨ (w.heap.size ≤ g ∧ g ≠ g2)) wf ua ul := by
                  have h0 := HN0.out
                  have h3 := HB0s.out
                  refine ((HE.out.mono (N' := fun g' => g' < n0 ∨ (W0.heap.size ≤ g' ∧ g' ≠ ge ∧ g' < wc.heap.size)) fun k hk hN => ?_).kept hKT (fun k hN _ h => ?_)).mono fun k _ hN => ?_
                  · rcases hN with h | h
                    · exact .inl h
                    · exact .inr ⟨h.1, h.2, hk⟩
                  · rcases hN with h1 | h1 <;> rcases h with h | h | h <;> omega
                  · rcases hN with h1 | h1
                    · exact .inl h1
                    · exact .inr ⟨by omega, by omega⟩
                have HRf : Hid (Ran2 n0 w g2 l.length U items l wf (i + 1)) := by
                  obtain ⟨a1, a2, a3, a4, a5⟩ := HML.out
                  refine ⟨_, ml ++ [.mk it.term ata atc it.al va vc2 (sortB dl4) ua uc ul], hbf, HPL.out, by rw [List.length_append, a1]; rfl, ?_, ?_, ?_, ?_⟩
                  · rw [HTP.out, a2, List.flatMap_append, List.flatMap_singleton, HEX.out]
                  · intro x hx
                    rcases List.mem_append.1 hx with hx | hx
                    · refine ((a3 x hx).kept hKT (fun k hN _ h => ?_)).mono fun k _ hN => ?_
                      · have h0 := HN0.out
                        rcases hN with h1 | h1 <;> rcases h with h | h | h <;> omega
                      · rcases hN with h1 | h1
                        · exact .inl h1
                        · exact .inr ⟨h1.1, h1.2.1⟩
                    · rw [List.mem_singleton.1 hx]
                      exact .mk hat hst hut.1 hut.2
                  · rw [List.map_append, a4, List.take_succ_eq_append_getElem hlt, List.map_append, List.map_singleton, HIL.out]
                    rfl
                  · intro x hx
                    rcases List.mem_append.1 hx with hx | hx
                    · exact a5 x hx
                    · rw [List.mem_singleton.1 hx]
                      exact ⟨it, hit, HX.out⟩
                clear hb1 hb2 hb3 hb4 hb5 hb6 hb7 hbf hkf hzf hKT hBf hat hst hut HTP HPL HML HX HEX HG8 HK8 HOW8 HBK8 HPS k0 k1 k2 k3
                go_wp2_with fail
                go_roundw
                case rel => exact ⟨i + 1, by omega, by go_num, HRf.out, HOf.out, HBf.out⟩
                case measure => simp [intOf]; omega
              · intro l1 x l2 w3 hl hrg3 hg3 hz3 hen
                subst hl
                have hxm : x ∈ it.sl.map fun u => (u, unitV) := HPE.out.subset (by simp)
                obtain ⟨sx, hsx, rfl⟩ := List.mem_map.1 hxm
                have HDL : Hid (dl4.length + 1 ≤ 1000000) := by
                  have h1 := HPE.out.length_eq
                  have h2 := (HIN.out it hit).see
                  simp at h1
                  show _ ≤ _
                  omega
                have hlm : (l1 ++ l2).length < wr.rangeLeft it.nd.r2 wc.heap.size := by rw [HRG.out.left_eq]; simp
                have HW3 : Hid (Own w3 wc.heap.size 9 1 encS (.slice va dl4.length vc2) dl4) := HOW.out.kept fun k hk => hg3.block k (HOW.out.block k hk).2 (fun e => HRG.out.ne_own HOW.out (hk.trans e))
                have HBK3 : Hid (Bk w3 ge [.string ⟨it.term.toArray⟩, it.nd.v, .slice va dl4.length vc2, .slice ua ul.length uc] 29) := HBK.out.grown hg3 (fun e => HRG.out.ne_bk HBK.out (Option.some.inj e).symm)
                have HK3 : Hid (Kept (fun g => g = ge) wc w3) := by
                  refine ⟨hg3.os.trans HK4.out.os, hg3.tape.trans HK4.out.tape, hg3.output.trans HK4.out.output, Nat.le_trans HK4.out.size hg3.size, fun k hk hn => ?_⟩
                  rw [hg3.block k (Nat.lt_of_lt_of_le hk HK4.out.size) (fun e => by cases e; omega)]
                  exact HK4.out.block k hk hn
                have HP3 : Hid ((((dl4 ++ [sx]).map fun u => (u, unitV)) ++ (l1 ++ l2)).Perm (it.sl.map fun u => (u, unitV))) := by
                  refine List.Perm.trans ?_ HPE.out
                  rw [List.map_append, List.append_assoc]
                  exact List.Perm.append_left _ (show ((sx, unitV) :: (l1 ++ l2)).Perm _ from List.perm_middle.symm)
                have HRG3 := Lib.hid hrg3
                have m2 := HBK3.out.cell 2
                change w3.cell? ⟨ge, 2, none⟩ = some (.slice va dl4.length vc2) at m2
                have mf := HBK3.out.free 2
                have hgel := HBK3.out.lt
                clear HPE HOW HRG HBK HK4 hrg3 hg3 hz3 hxm hsx
                simp only [unitV] at hen
                go_wp2_with (at_builtin; refine hold_op _ rfl ?_)
                constructor
                have HDL2 := HDL.out
                refine wpList_push2 rfl _ _ 27 rfl wc.heap.size 9 1 16 slstrs encS encS_ok (.slice va dl4.length vc2) dl4 rfl (HW3.out.alloc _) sx w3.heap.size rfl (fun j u hj => ((Bk.new w3 #[.string ⟨sx.toArray⟩] 9).cell j).trans hj) (by omega) (by unfold maxLen; omega) (by have := HK3.out.size; simp; omega) ?_
                intro v5 w5 hown5 hgrow5 hcase5
                obtain ⟨va5, vc5, hv5⟩ := hown5.shape
                rw [List.length_append, List.length_singleton] at hv5
                subst hv5
                have hsr := HRG3.out.next (((Below.refl _ _).alloc (Nat.le_refl _) (.cells #[.string ⟨sx.toArray⟩] 9)))
                have hso := HW3.out.alloc (.cells #[.string ⟨sx.toArray⟩] 9)
                have hbk3 := HBK3.out.alloc (.cells #[.string ⟨sx.toArray⟩] 9)
                have hsr5 : SRange w5 it.nd.r2 wc.heap.size (it.sl.map fun u => (u, unitV)) (l1 ++ l2) := hsr.of_blocks (hgrow5.block _ hsr.map.lt (fun e => own_ne_map hsr hso e.symm)) (hgrow5.block _ hsr.lt (fun e => hsr.ne_own hso e.symm))
                have hbk5 : Bk w5 ge [.string ⟨it.term.toArray⟩, it.nd.v, .slice va dl4.length vc2, .slice ua ul.length uc] 29 := hbk3.grown hgrow5 (hso.ne_bk hbk3 (by decide))
                have hk5 : Kept (fun g => g = ge) wc w5 := (HK3.out.alloc _).grownN hgrow5 (fun g' e => .inl (hso.block g' e).1)
                have HSR5 := Lib.hid hsr5
                have HBK5 := Lib.hid hbk5
                have HK5 := Lib.hid hk5
                have HOW5 := Lib.hid hown5
                have z2 := hbk5.cell 2
                change w5.cell? ⟨ge, 2, none⟩ = some (.slice va dl4.length vc2) at z2
                have zf := hbk5.free 2
                clear hown5 hgrow5 hcase5 hsr hso hbk3 hsr5 hbk5 hk5 HRG3 HW3 HBK3 HK3 HDL HDL2 m2 mf hgel
                go_wp2_with fail
                have HRf : Hid (Ran4 it wc.heap.size it.nd.r2 wc.heap.size ge (.slice ua ul.length uc) (w5.setCell ⟨ge, 2, none⟩ (.slice va5 (dl4.length + 1) vc5))) := by
                  refine ⟨_, _, _, HSR5.out.of_blocks (Below.heap_setCell _ _ _ _ (fun e : it.nd.r2 = ge => HBK5.out.ne_smap HSR5.out.map e.symm)) (Below.heap_setCell _ _ _ _ (fun e : wc.heap.size = ge => HSR5.out.ne_bk HBK5.out e.symm)), HP3.out, HOW5.out.set_other (HOW5.out.ne_bk HBK5.out (by decide)) 2 _, ?_⟩
                  exact HBK5.out.set 2 _
                have HKf : Hid (Kept (fun g => g = ge) wc (w5.setCell ⟨ge, 2, none⟩ (.slice va5 (dl4.length + 1) vc5))) := HK5.out.setCell (p := ⟨ge, 2, none⟩) rfl _
                have hlmf : (w5.setCell ⟨ge, 2, none⟩ (.slice va5 (dl4.length + 1) vc5)).rangeLeft it.nd.r2 wc.heap.size < wr.rangeLeft it.nd.r2 wc.heap.size := by
                  have h := HSR5.out.of_blocks (w' := w5.setCell ⟨ge, 2, none⟩ (.slice va5 (dl4.length + 1) vc5)) (Below.heap_setCell _ _ _ _ (fun e : it.nd.r2 = ge => HBK5.out.ne_smap HSR5.out.map e.symm)) (Below.heap_setCell _ _ _ _ (fun e : wc.heap.size = ge => HSR5.out.ne_bk HBK5.out e.symm))
                  rw [h.left_eq]; exact hlm
                clear HSR5 HBK5 HK5 HOW5 HP3 z2 zf
                go_roundw
                case rel => exact ⟨HRf.out, HKf.out⟩
                case measure => exact hlmf
        · obtain rfl : i = l.length := by omega
          obtain ⟨D3, ml, h1, h2, h3, h4, h5, h6, h7⟩ := HR.out
          have hD3 : D3 = ml.flatMap encEn := by rw [← h4, ← h2, List.take_length]
          rw [List.take_length] at h6
          have HL : Hid (Lists U items ml) := by
            refine ⟨?_, ?_, h7⟩
            · rw [h6]
              have := HLP.out.map (fun x : Bytes × Nat => x.1)
              unfold prs at this
              rw [List.map_map] at this
              exact this
            · have h8 := HLO.out
              have h9 : (l.map (·.1)).Pairwise (fun a b => nodeO a b ≤ 0) := by rw [List.pairwise_map]; exact h8
              rw [← h6, List.pairwise_map] at h9
              exact h9
          have HE : Hid (EnsAt (fun g => g < n0 ∨ w.heap.size ≤ g) wr (some ⟨g2, 0, none⟩) ml) := by
            refine ⟨?_, fun x hx => (h5 x hx).mono fun k _ hN => ?_⟩
            · rcases At.of_bk encEn_ok (by rw [← hD3]; exact h1) with h8 | ⟨b, off, h8, h9, h10⟩
              · exact .inl h8
              · have h11 : b = g2 := by injection h8 with h8; injection h8 with h8 _; exact h8.symm
                exact .inr ⟨b, off, h8, h9, .inr (by omega), h10⟩
            · rcases hN with h | h
              · exact .inl h
              · exact .inr h.1
          have HN3 := Lib.hid h3
          clear h1 h2 h3 h4 h5 h6 h7 hD3 HR HO
          go_wp2_with fail
          go_ret
          exact ⟨⟨_, _, ml, by rw [HN3.out]; rfl, HE.out, HL.out⟩, HB.out⟩
    · intro l1 x l2 w3 hl hrg3 hg3 hz3 hen
      subst hl
      have hxm : x ∈ kvs (prs items) := HPE.out.subset (by simp)
      obtain ⟨it, hit, rfl⟩ := kvs_mem hxm
      have hOk := HIN.out it hit
      have HT1 : Hid (it.term.length ≤ 1000000) := hOk.len
      have HDL : Hid (dl.length + 1 ≤ 1000000) := by
        have h1 := HPE.out.length_eq
        have h2 := HLEN.out
        unfold kvs prs at h1
        simp at h1
        show _ ≤ _
        omega
      have hlm : (l1 ++ l2).length < wr.rangeLeft r w1.heap.size := by rw [HRG.out.left_eq]; simp
      have HW3 : Hid (Own w3 w.heap.size 225 2 encSo u3 dl) := HOW.out.kept fun k hk => hg3.block k (HOW.out.block k hk).2 (fun e => HRG.out.ne_own HOW.out (hk.trans e))
      have HB3 : Hid (Below w.heap.size w w3) := HB.out.grown hg3 HB.out.size (fun k e => by cases e; exact hri)
      have HRG3 := Lib.hid hrg3
      have HP3 : Hid ((kvs (dl ++ [(it.term, it.nd.b)]) ++ (l1 ++ l2)).Perm (kvs (prs items))) := by
        refine List.Perm.trans ?_ HPE.out
        rw [kvs_append, List.append_assoc]
        exact List.Perm.append_left _ (show ((it.term, ptrV it.nd.b) :: (l1 ++ l2)).Perm _ from List.perm_middle.symm)
      clear HPE HOW HRG HB hrg3 hg3 hxm hOk
      simp only [ptrV] at hen
      generalize it.term = t at *
      generalize it.nd.b = nb at *
      go_wp2_with fail
      refine (termKey_any t HT1.out _).mono ?_
      rintro e w4 ⟨rfl, hb4⟩
      have HW4 := Lib.hid (HW3.out.below hb4 (Nat.le_refl _))
      have HRG4 := Lib.hid (HRG3.out.next hb4)
      have HB4 : Hid (Below w.heap.size w w4) := HB3.out.trans (hb4.mono HB3.out.size)
      clear hb4 HW3 HRG3 HB3
      obtain ⟨va, vc, hv⟩ := HW4.out.shape
      subst hv
      go_wp2_with (at_builtin; refine hold_op _ rfl ?_)
      constructor
      have HDL2 := HDL.out
      refine wpList_push2 rfl _ _ 223 rfl w.heap.size 225 2 24 slso encSo encSo_ok (.slice va dl.length vc) dl rfl (HW4.out.alloc _) (t, nb) w4.heap.size rfl (fun j u hj => ((Bk.new w4 #[.string ⟨(keyT t).toArray⟩, .pointer (some ⟨nb, 0, none⟩)] 225).cell j).trans hj) (by omega) (by unfold maxLen; omega) (by have := HB4.out.size; simp; omega) ?_
      intro v5 w5 hown5 hgrow5 hcase5
      have hsr := HRG4.out.next (((Below.refl _ _).alloc (Nat.le_refl _) (.cells #[.string ⟨(keyT t).toArray⟩, .pointer (some ⟨nb, 0, none⟩)] 225)))
      have hso := HW4.out.alloc (.cells #[.string ⟨(keyT t).toArray⟩, .pointer (some ⟨nb, 0, none⟩)] 225)
      have HRG5 : Hid (SRange w5 r w1.heap.size (kvs (prs items)) (l1 ++ l2)) := hsr.of_blocks (hgrow5.block _ hsr.map.lt (fun e => own_ne_map hsr hso e.symm)) (hgrow5.block _ hsr.lt (fun e => hsr.ne_own hso e.symm))
      have HB5 : Hid (Below w.heap.size w w5) := (HB4.out.alloc HB4.out.size _).grown hgrow5 (by have := HB4.out.size; simp; omega) (fun k hk => (hso.block k hk).1)
      have HR5 : Hid (Ran1 w r w1.heap.size items v5 w5) := ⟨_, _, HRG5.out, HP3.out, hown5⟩
      have hlm5 : w5.rangeLeft r w1.heap.size < wr.rangeLeft r w1.heap.size := by rw [HRG5.out.left_eq]; exact hlm
      clear hown5 hgrow5 hcase5 hsr hso HRG4 HW4 HB4 HRG5 HP3 HDL HDL2
      go_wp2_with fail
      go_roundw
      case rel => exact ⟨HR5.out, HB5.out⟩
      case measure => exact hlm5
end Go.Proofs.YtohinfefidahlaaGreatDoor
