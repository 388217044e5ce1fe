/- Copies of entries with a mark behind each list: binderylaw01.TwinEntries. -/
import Derived.Test.YtohinfefidahlaaGreatDoorJpF
import Derived.Test.YtohinfefidahlaaGreatDoorJpG
import Derived.Test.YtohinfefidahlaaGreatDoorJoE
import Derived.Deep.RegionHeld3
import Derived.Deep.DrawnRows
import Derived.StillTailTactics
namespace Go.Proofs.YtohinfefidahlaaGreatDoor
open Go.RowKit
set_option linter.unusedVariables false
set_option linter.unusedSimpArgs false

def TwinsG (l : List En) (w : World) (e : Ending) (w' : World) : Prop :=
  ∃ g ml, e = .returned (.slice (some ⟨g, 0, none⟩) (List.length ml) (List.length ml + 1)) ∧ w.heap.size ≤ g ∧ Own w' w.heap.size 29 4 encEn (.slice (some ⟨g, 0, none⟩) (List.length ml + 1) (List.length ml + 1)) (ml ++ [spEn]) ∧ (∀ y ∈ ml, EnT w.heap.size w' y) ∧ (bkL ml).Nodup ∧ (∀ x ∈ bkL ml, x ≠ g) ∧ SameL l ml ∧ Below w.heap.size w w'
def TwinG (x : En) (w : World) (e : Ending) (w' : World) : Prop :=
  ∃ y, e = .returned (aggE y) ∧ EnT w.heap.size w' y ∧ (bkE y).Nodup ∧ SameE x y ∧ Below w.heap.size w w'
theorem twin_done {w wA wB wC wf : World} {t : Bytes} {al : List LoK} {sl : List Bytes} {aa sa ua : Option Addr} {ac sc uc : Nat} {ul ml : List En} {ga gs g : Nat} {nA nB nC : Nat}
    (h1 : Own wA nA 79 3 encLo (.slice (some ⟨ga, 0, none⟩) (al.length + 1) (al.length + 1)) (al ++ [spLo])) (hA : w.heap.size + 2 ≤ nA) (hAB : Below wA.heap.size wA wB)
    (h2 : Own wB nB 9 1 encS (.slice (some ⟨gs, 0, none⟩) (sl.length + 1) (sl.length + 1)) (sl ++ [spareB])) (hB : wA.heap.size ≤ nB) (hBC : Below wB.heap.size wB wC)
    (h3 : Own wC nC 29 4 encEn (.slice (some ⟨g, 0, none⟩) (ml.length + 1) (ml.length + 1)) (ml ++ [spEn])) (hE : ∀ y ∈ ml, EnT nC wC y) (hC : wB.heap.size ≤ nC) (hnd : (bkL ml).Nodup) (hng : ∀ x ∈ bkL ml, x ≠ g) (hS : SameL ul ml) (hCf : Kept (fun g => g = w.heap.size + 1) wC wf) (hw : Below w.heap.size w wA) :
    TwinG (.mk t aa ac al sa sc sl ua uc ul) w (.returned (.agg #[.string ⟨t.toArray⟩, .slice (some ⟨ga, 0, none⟩) al.length (al.length + 1), .slice (some ⟨gs, 0, none⟩) sl.length (sl.length + 1), .slice (some ⟨g, 0, none⟩) ml.length (ml.length + 1)])) wf := by
  have hABs := hAB.size
  have hBCs := hBC.size
  have hws := hw.size
  have bA := (h1.block ga rfl)
  have bB := (h2.block gs rfl)
  have bC := (h3.block g rfl)
  have bL : ∀ x ∈ bkL ml, nC ≤ x := fun x hx => by
    obtain ⟨y, hy, hx⟩ := mem_bkL.1 hx
    exact ((hE y hy).own.block x hx).1
  refine ⟨.mk t (some ⟨ga, 0, none⟩) (al.length + 1) al (some ⟨gs, 0, none⟩) (sl.length + 1) sl (some ⟨g, 0, none⟩) (ml.length + 1) ml, rfl, .mk ?_ ?_ ?_ fun y hy => ?_, ?_, .mk hS.1 hS.2, ?_⟩
  · exact hCf.own (((h1.mono (by omega)).next rfl hAB).next rfl hBC) fun g' hg h => by have e' := Option.some.inj hg; simp only at e'; omega
  · exact hCf.own ((h2.mono (by omega)).next rfl hBC) fun g' hg h => by have e' := Option.some.inj hg; simp only at e'; omega
  · exact hCf.own (h3.mono (by omega)) fun g' hg h => by have e' := Option.some.inj hg; simp only at e'; omega
  · refine ((hE y hy).mono (by omega)).kept hCf fun g' hg h => ?_
    have := bL g' (mem_bkL.2 ⟨y, hy, hg⟩); omega
  · rw [bkE, obk_some, obk_some, obk_some]
    simp only [List.singleton_append, List.nodup_cons, List.mem_cons, not_or]
    refine ⟨⟨by omega, by omega, fun h => ?_⟩, ⟨by omega, fun h => ?_⟩, fun h => hng g h rfl, hnd⟩
    · have := bL ga h; omega
    · have := bL gs h; omega
  · exact (hw.trans ((hAB.trans (hBC.mono hABs)).mono hws)).trans (hCf.below (fun g h => by omega) (by omega))
section
variable {α : Type} {P : Program} {w : World} {ops : Array Oper} {rest : List Oper} {o : Oper} {a : Act} {Q : Exit → Act → World → Prop}
/-- append one element within the capacity: what has grown -/
theorem wpList_push_fitsG (hgd : o.guard = none) (s x : Operand) (t : TypeId) (ho : o.op = .call { callee := .builtin .append, args := #[s, x], argTypes := #[t, t] })
    (B : Nat) (e : TypeId) (sz bytes : Nat) (hT : SlTy P t e sz bytes) (enc : α → List Value) (he : Enc sz enc)
    (g k cap : Nat) (l : List α) (hk : k = l.length) (hs : a.eval s = .slice (some ⟨g, 0, none⟩) k cap) (hown : Own w B e sz enc (.slice (some ⟨g, 0, none⟩) k cap) l)
    (y : α) (G : Nat) (hx : a.eval x = .slice (some ⟨G, 0, none⟩) 1 1) (hG : ∀ j u, (enc y)[j]? = some u → w.cell? ⟨G, j, none⟩ = some u)
    (hfit : k + 1 ≤ cap)
    (h : ∀ w', Own w' B e sz enc (.slice (some ⟨g, 0, none⟩) (k + 1) cap) (l ++ [y]) → w.grownBy w' (some g) → wpList P ops Q rest (a.put o.dst (.slice (some ⟨g, 0, none⟩) (k + 1) cap)) w') : wpList P ops Q (o :: rest) a w := by
  obtain ⟨hu, z, hi, hz, hsz⟩ := hT
  obtain ⟨i, hi1, hi2, hi3, hi4⟩ := info_parts hi
  subst hk
  refine wpList_append_fits w hgd s x t ho B e i sz hu hi1 hi3 g l.length cap (l.flatMap enc) hs hown ⟨G, 0, none⟩ 1 1 (enc y) hx (by rw [he.len, Nat.one_mul])
    (fun j u hj => by
      have hadd : (⟨G, 0, none⟩ : Addr).add j = ⟨G, j, none⟩ := by unfold Addr.add; split <;> simp_all
      rw [hadd]; exact hG j u hj) (he.one y) hfit ?_
  intro w' h1 h2
  refine h w' ?_ h2
  unfold Own
  rw [List.length_append, List.flatMap_append]
  simpa using h1
end
/-- where the loop of TwinEntries stands -/
structure TwI (l : List En) (w wr : World) (k : Nat) (ml : List En) : Prop where
  len : ml.length = k
  own : Own wr w.heap.size 29 4 encEn (.slice (some ⟨w.heap.size, 0, none⟩) k (l.length + 1)) ml
  lt : w.heap.size < wr.heap.size
  ent : ∀ y ∈ ml, EnT w.heap.size wr y
  nd : (bkL ml).Nodup
  ne : ∀ g ∈ bkL ml, w.heap.size < g
  same : ∀ (i : Nat) a b, i < k → l[i]? = some a → ml[i]? = some b → SameE a b
  bel : Below w.heap.size w wr
theorem TwI.push {l : List En} {w wr wn : World} {k : Nat} {ml : List En} {x y : En} {n8 : Nat} {w8 : World} (h : TwI l w wr k ml) (hx : l[k]? = some x) (hn8 : wr.heap.size ≤ n8) (hE : EnT n8 w8 y) (hN : (bkE y).Nodup) (hS : SameE x y) (h8 : Below wr.heap.size wr w8)
    (hown : Own wn w.heap.size 29 4 encEn (.slice (some ⟨w.heap.size, 0, none⟩) (k + 1) (l.length + 1)) (ml ++ [y])) (hk : Kept (fun g => g = w.heap.size) w8 wn) : TwI l w wn (k + 1) (ml ++ [y]) := by
  have b8 := hE.own.block
  have hlt := h.lt
  have h8s := h8.size
  refine ⟨by rw [List.length_append, h.len]; rfl, hown, Nat.lt_of_lt_of_le hlt (Nat.le_trans h8s hk.size), fun z hz => ?_, ?_, fun g hg => ?_, fun i a b hi ha hb => ?_, h.bel.trans ((h8.mono h.bel.size).trans (hk.below (fun g h => by omega) (Nat.le_trans h.bel.size h8s)))⟩
  · rcases List.mem_append.1 hz with hz | hz
    · refine ((h.ent z hz).next h8).kept hk fun g hg e => ?_
      have := h.ne g (mem_bkL.2 ⟨z, hz, hg⟩); omega
    · rw [List.mem_singleton.1 hz]
      refine (hE.mono (by have := h.bel.size; omega)).kept hk fun g hg e => ?_
      have := b8 g hg; omega
  · refine nodup_snoc h.nd hN (n := wr.heap.size) (fun g hg => ?_) fun g hg => by have := b8 g hg; omega
    obtain ⟨z, hz, hg⟩ := mem_bkL.1 hg
    exact ((h.ent z hz).own.block g hg).2
  · rw [bkL_snoc] at hg
    rcases List.mem_append.1 hg with hg | hg
    · exact h.ne g hg
    · have := b8 g hg; omega
  · by_cases h' : i < k
    · rw [List.getElem?_append_left (by rw [h.len]; omega)] at hb
      exact h.same i a b h' ha hb
    · obtain rfl : i = k := by omega
      rw [List.getElem?_append_right (by rw [h.len]; omega), h.len, Nat.sub_self] at hb
      rw [hx] at ha
      cases ha
      cases hb
      exact hS
set_option maxHeartbeats 8000000 in
set_option maxRecDepth 100000 in
/-- an entry, where those under it are copied as they are said to be -/
theorem twinE_of (t : Bytes) (aa : Option Addr) (ac : Nat) (al : List LoK) (sa : Option Addr) (sc : Nat) (sl : List Bytes) (ua : Option Addr) (uc : Nat) (ul : List En) (w : World) (hal : al.length ≤ 1000000) (hsl : sl.length ≤ 1000000)
    (h1 : At w 3 encLo aa al) (h2 : At w 1 encS sa sl) (hrec : ∀ W, Below w.heap.size w W → Calls Tryz.prog 8 #[.slice ua ul.length uc] W (TwinsG ul W)) :
    Calls Tryz.prog 21 #[.agg #[.string ⟨t.toArray⟩, .slice aa al.length ac, .slice sa sl.length sc, .slice ua ul.length uc]] w (TwinG (.mk t aa ac al sa sc sl ua uc ul) w) := by
  have H1 := Lib.hid h1
  have H2 := Lib.hid h2
  have HR := Lib.hid hrec
  clear h1 h2 hrec
  go_enter Tryz.func21, Tryz.ntmps21
  go_wp2_with fail
  refine wp_gen fun W0 hW0 => ?_
  have hw0 : Below w.heap.size w W0 := by subst hW0; exact ((Below.refl _ _).alloc (Nat.le_refl _) _).alloc (by simp) _
  have hs0 : W0.heap.size = w.heap.size + 2 := by subst hW0; simp
  have hx0 : Bk W0 w.heap.size [.string ⟨t.toArray⟩, .slice aa al.length ac, .slice sa sl.length sc, .slice ua ul.length uc] 29 := by
    subst hW0
    exact (Bk.new w #[.string ⟨t.toArray⟩, .slice aa al.length ac, .slice sa sl.length sc, .slice ua ul.length uc] 29).alloc _
  have hz0 : Bk W0 (w.heap.size + 1) [.string ⟨#[]⟩, .slice none 0 0, .slice none 0 0, .slice none 0 0] 29 := by
    subst hW0
    have h := Bk.new (w.alloc (.cells #[.string ⟨t.toArray⟩, .slice aa al.length ac, .slice sa sl.length sc, .slice ua ul.length uc] 29)) #[.string ⟨#[]⟩, .slice none 0 0, .slice none 0 0, .slice none 0 0] 29
    rw [World.size_alloc] at h
    exact h
  have HW := Lib.hid hw0
  have HZ := Lib.hid hz0
  have x0 : W0.cell? ⟨w.heap.size, 0, none⟩ = some (.string ⟨t.toArray⟩) := hx0.cell 0
  have x1 : W0.cell? ⟨w.heap.size, 1, none⟩ = some (.slice aa al.length ac) := hx0.cell 1
  have x2 : W0.cell? ⟨w.heap.size, 2, none⟩ = some (.slice sa sl.length sc) := hx0.cell 2
  have x3 : W0.cell? ⟨w.heap.size, 3, none⟩ = some (.slice ua ul.length uc) := hx0.cell 3
  have z0 : W0.cell? ⟨w.heap.size + 1, 0, none⟩ = some (.string ⟨#[]⟩) := hz0.cell 0
  have z1 : W0.cell? ⟨w.heap.size + 1, 1, none⟩ = some (.slice none 0 0) := hz0.cell 1
  have z2 : W0.cell? ⟨w.heap.size + 1, 2, none⟩ = some (.slice none 0 0) := hz0.cell 2
  have z3 : W0.cell? ⟨w.heap.size + 1, 3, none⟩ = some (.slice none 0 0) := hz0.cell 3
  clear hW0 hw0 hx0 hz0
  go_region_held3 (fun w' => w'.cell? ⟨w.heap.size, 0, none⟩ = some (.string ⟨t.toArray⟩) ∧ w'.cell? ⟨w.heap.size, 1, none⟩ = some (.slice aa al.length ac) ∧ w'.cell? ⟨w.heap.size, 2, none⟩ = some (.slice sa sl.length sc) ∧ w'.cell? ⟨w.heap.size, 3, none⟩ = some (.slice ua ul.length uc)) (first | exact ⟨x0, x1, x2, x3⟩ | go_keep) (first
    | (go_at_call 98; refine (twinLocators_any aa ac al _ (by omega) (H1.out.below (below_drewN HW.out 1))).mono ?_; rintro e wA ⟨⟨ga, rfl, hga, hOA⟩, hb⟩; have HBA : Hid (Below W0.heap.size W0 wA) := (below_drewN (Below.refl _ _) 1).trans hb; have HOA := Lib.hid hOA; clear hb hOA hga; have x0 := bcellN HBA.out x0; have x1 := bcellN HBA.out x1; have x2 := bcellN HBA.out x2; have x3 := bcellN HBA.out x3; have z0 := bcellN HBA.out z0; have z1 := bcellN HBA.out z1; have z2 := bcellN HBA.out z2; have z3 := bcellN HBA.out z3; have HBw : Hid (Below w.heap.size w wA) := HW.out.trans (HBA.out.mono HW.out.size); have HZA := Lib.hid (HZ.out.next HBA.out))
    | (go_at_call 99; refine (twinTexts_any sa sc sl _ (by omega) (H2.out.below HBw.out)).mono ?_; rintro e wB ⟨⟨gs, rfl, hgs, hOB⟩, hb⟩; have HBB := Lib.hid hb; have HOB := Lib.hid hOB; clear hb hOB hgs; have x0 := bcellN HBB.out x0; have x1 := bcellN HBB.out x1; have x2 := bcellN HBB.out x2; have x3 := bcellN HBB.out x3; have z0 := bcellN HBB.out z0; have z1 := bcellN HBB.out z1; have z2 := bcellN HBB.out z2; have z3 := bcellN HBB.out z3; have HBw2 : Hid (Below w.heap.size w wB) := HBw.out.trans (HBB.out.mono HBw.out.size); have HZB := Lib.hid (HZA.out.next HBB.out))
    | (go_at_call 8; refine (HR.out _ HBw2.out).mono ?_; rintro e wC ⟨g, ml, rfl, hg, hO, hE, hnd, hng, hS, hb⟩; have HBC := Lib.hid hb; have HO := Lib.hid hO; have HE := Lib.hid hE; have HND := Lib.hid hnd; have HNG := Lib.hid hng; have HS := Lib.hid hS; clear hb hO hE hnd hng hS hg; have x0 := bcellN HBC.out x0; have x1 := bcellN HBC.out x1; have x2 := bcellN HBC.out x2; have x3 := bcellN HBC.out x3; have z0 := bcellN HBC.out z0; have z1 := bcellN HBC.out z1; have z2 := bcellN HBC.out z2; have z3 := bcellN HBC.out z3; have HZC := Lib.hid (HZB.out.next HBC.out); have zf := fun i => HZC.out.free i))
  all_goals
    go_wp2_with fail
    refine bodyPost_ret (v := .agg #[.string ⟨t.toArray⟩, .slice (some ⟨ga, 0, none⟩) al.length (al.length + 1), .slice (some ⟨gs, 0, none⟩) sl.length (sl.length + 1), .slice (some ⟨g, 0, none⟩) ml.length (ml.length + 1)]) ?_ rfl ?_
    · simp only [results, Tryz.results21]
      go_simp
    · have hsA := HBA.out.size
      refine twin_done HOA.out (by show w.heap.size + 2 ≤ W0.heap.size; omega) HBB.out HOB.out (Nat.le_refl _) HBC.out HO.out HE.out (Nat.le_refl _) HND.out HNG.out HS.out ?_ HBw.out
      exact (((((Kept.refl (fun g => g = w.heap.size + 1) wC).setCell (p := ⟨w.heap.size + 1, 0, none⟩) rfl _).setCell (p := ⟨w.heap.size + 1, 1, none⟩) rfl _).setCell (p := ⟨w.heap.size + 1, 2, none⟩) rfl _).setCell (p := ⟨w.heap.size + 1, 3, none⟩) rfl _)
set_option maxHeartbeats 8000000 in
set_option maxRecDepth 100000 in
theorem twinEns_n (n : Nat) : ∀ (l : List En), nEs l ≤ n → ∀ (N : Nat → Prop) (a : Option Addr) (c : Nat) (w : World), EnsAt N w a l → (∀ x ∈ l, EnSm x) → l.length ≤ 1000000 →
    Calls Tryz.prog 8 #[.slice a l.length c] w (TwinsG l w) := by
  induction n using Nat.strongRecOn with
  | _ n ih =>
  intro l hd N a c w hA hsm hll
  have HA := Lib.hid hA
  have HREC : Hid (∀ x ∈ l, ∀ W, Below w.heap.size w W → Calls Tryz.prog 21 #[aggE x] W (TwinG x W)) := fun x hxm W hb => by
    have hix := (hA.2 x hxm).next hb
    have hsx := hsm x hxm
    have hlt := nEs_mem hxm
    clear hA hsm hxm
    obtain ⟨t, aa, ac, al, sa, sc, sl, ua, uc, ul⟩ := x
    rw [nE] at hlt
    refine twinE_of t aa ac al sa sc sl ua uc ul W (by cases hsx; assumption) (by cases hsx; assumption) hix.als.at_ hix.sls.at_ fun W2 hb2 => ?_
    have h1 := hix.next hb2
    exact ih (nEs ul) (by omega) ul (Nat.le_refl _) N ua uc W2 ⟨h1.uls, h1.kids⟩ hsx.kids (by cases hsx; assumption)
  clear hA hsm ih
  go_enter Tryz.func8, Tryz.ntmps8
  go_wp2_with (at_make; refine wpList_mk rfl _ _ 22 rfl w.heap.size 29 4 88 slen encEn (l.length + 1) _ rfl rfl (by simp) (by omega) (by unfold maxLen; omega) w (Below.refl _ _) (Nat.le_refl _) ?_; intro w1 hown hb1 hz1)
  have HST : Hid (TwI l w w1 0 []) := ⟨rfl, by simpa using hown, (hown.block _ rfl).2, fun y hy => (List.not_mem_nil hy).elim, by simp [bkL], by simp [bkL], by intro i a b h; omega, hb1⟩
  clear hown hb1 hz1
  go_loopw [3, 4] (fun v3 v4 wr => ∃ (k : Nat) (ml : List En), k ≤ l.length ∧ v4 = .int .i64 k ∧ v3 = .slice (some ⟨w.heap.size, 0, none⟩) k (l.length + 1) ∧ Hid (TwI l w wr k ml)) (fun _ v4 _ => l.length - (intOf v4).toNat)
  case atStart => exact ⟨0, [], by omega, rfl, rfl, HST.out⟩
  case round =>
    obtain ⟨k, ml, hk, rfl, rfl, HI⟩ := hrel
    have hml := HI.out.len
    have HB := Lib.hid HI.out.bel
    have hz := HI.out.lt
    by_cases hlt : k < l.length
    · obtain ⟨b, off, ha, hbl, hc⟩ := (HA.out.1.at_.below HB.out).elem hlt
      subst ha
      have d0 := hc 0 _ rfl
      have d1 := hc 1 _ rfl
      have d2 := hc 2 _ rfl
      have d3 := hc 3 _ rfl
      rw [Nat.add_zero] at d0
      have HC := Lib.hid (HREC.out l[k] (List.getElem_mem hlt))
      have HG : Hid (l[k]? = some l[k]) := List.getElem?_eq_getElem hlt
      generalize l[k] = x at *
      unfold aggE at HC
      clear hc
      have HO := Lib.hid HI.out.own
      have HML := Lib.hid hml
      go_wp2_with (first
        | (go_at_call 21; refine (HC.out _ HB.out).mono ?_; rintro e w8 ⟨y, rfl, hE8, hN8, hS8, hb8⟩; have HE8 := Lib.hid hE8; have HN8 := Lib.hid hN8; have HS8 := Lib.hid hS8; have HB8 := Lib.hid hb8; have HO8 := Lib.hid (HO.out.next (by rfl) hb8); clear hE8 hN8 hS8 hb8; unfold aggE)
        | (at_builtin; refine wpList_push_fitsG rfl _ _ 22 rfl w.heap.size 29 4 88 slen encEn encEn_ok w.heap.size k (l.length + 1) ml HML.out.symm rfl (HO8.out.alloc _) y w8.heap.size rfl (fun j u hj => ((Bk.new w8 #[.string ⟨y.term.toArray⟩, .slice y.aa y.al.length y.ac, .slice y.sa y.sl.length y.sc, .slice y.ua y.ul.length y.uc] 29).cell j).trans hj) (by omega) ?_; intro w9 hown9 hg9))
      have HI2 : Hid (TwI l w w9 (k + 1) (ml ++ [y])) := TwI.push HI.out HG.out (Nat.le_refl _) HE8.out HN8.out HS8.out HB8.out hown9 (((Kept.refl (fun g => g = w.heap.size) w8).alloc _).grown hg9 (fun g e => (Option.some.inj e).symm))
      clear hown9 hg9
      go_roundw
      case rel => exact ⟨k + 1, ml ++ [y], by omega, by go_num, rfl, HI2.out⟩
      case measure => simp [intOf]; omega
    · obtain rfl : k = l.length := by omega
      have HO := Lib.hid HI.out.own
      have HML := Lib.hid hml
      go_wp2_with (at_builtin; refine wpList_push_fitsG rfl _ _ 22 rfl w.heap.size 29 4 88 slen encEn encEn_ok w.heap.size l.length (l.length + 1) ml HML.out.symm rfl (HO.out.alloc _) spEn wr.heap.size rfl (by intro j u hj; match j, hj with | 0, hj => (simp [encEn, spEn, En.term, spareB] at hj; subst hj; simp) | 1, hj => (simp [encEn, spEn, En.aa, En.al, En.ac] at hj; subst hj; simp) | 2, hj => (simp [encEn, spEn, En.sa, En.sl, En.sc] at hj; subst hj; simp) | 3, hj => (simp [encEn, spEn, En.ua, En.ul, En.uc] at hj; subst hj; simp) | j + 4, hj => simp [encEn] at hj) (by omega) ?_; intro w2 hown2 hg2)
      have hK : Kept (fun g => g = w.heap.size) wr w2 := ((Kept.refl (fun g => g = w.heap.size) wr).alloc _).grown hg2 (fun g e => (Option.some.inj e).symm)
      go_ret
      rw [← hml] at hown2
      refine ⟨w.heap.size, ml, by rw [hml]; rfl, Nat.le_refl _, hown2, fun y hy => (HI.out.ent y hy).kept hK fun g hg e => ?_, HI.out.nd, fun x hx e => ?_, ⟨hml.symm, fun i a b ha hb => HI.out.same i a b (List.getElem?_eq_some_iff.1 ha).1 ha hb⟩, HI.out.bel.trans (hK.below (fun g h => by omega) (by omega))⟩
      · have := HI.out.ne g (mem_bkL.2 ⟨y, hy, hg⟩); omega
      · have := HI.out.ne x hx; omega
theorem twinEns_any (l : List En) (N : Nat → Prop) (a : Option Addr) (c : Nat) (w : World) (hA : EnsAt N w a l) (hsm : ∀ x ∈ l, EnSm x) (hll : l.length ≤ 1000000) :
    Calls Tryz.prog 8 #[.slice a l.length c] w (TwinsG l w) := twinEns_n _ l (Nat.le_refl _) N a c w hA hsm hll
end Go.Proofs.YtohinfefidahlaaGreatDoor
