/- The nodes of the growing index in memory: each path's node lies apart from all others. -/
import Derived.Test.YtohinfefidahlaaGreatDoorJoC
import Derived.Test.YtohinfefidahlaaGreatDoorJoD
import Derived.Test.YtohinfefidahlaaGreatDoorHeld
namespace Go.Proofs.YtohinfefidahlaaGreatDoor
open Go.RowKit
set_option linter.unusedVariables false
set_option linter.unusedSimpArgs false

def unitV : Value := .agg #[]
def encLoV (x : LoK) : Value := .agg #[.string ⟨x.1.1.toArray⟩, .string ⟨x.1.2.1.toArray⟩, .string ⟨x.1.2.2.toArray⟩]
structure Nd where
  b : Nat
  r1 : Nat
  r2 : Nat
  r3 : Nat
  v : Value
def ptrV (b : Nat) : Value := .pointer (some ⟨b, 0, none⟩)
def ndC (term : Bytes) (x : Nd) : List Value := [.string ⟨term.toArray⟩, x.v, .map (some x.r1), .map (some x.r2), .map (some x.r3)]
def Nd.foot (x : Nd) (g : Nat) : Prop := g = x.b ∨ g = x.r1 ∨ g = x.r2 ∨ g = x.r3 ∨ x.v.ownBlock = some g
structure NdIn (w : World) (B : Nat) (term : Bytes) (al : List LoK) (sl : List Bytes) (km : KV) (x : Nd) : Prop where
  cells : Bk w x.b (ndC term x) 220
  at_ : Own w B 79 3 encLo x.v al
  been : GMap encLoV w x.r1 (al.map fun a => (a, unitV))
  see : SMap w x.r2 (sl.map fun s => (s, unitV))
  under : SMap w x.r3 km
  lo : B ≤ x.b ∧ B ≤ x.r1 ∧ B ≤ x.r2 ∧ B ≤ x.r3
  ne : x.r1 ≠ x.r2 ∧ x.r1 ≠ x.r3 ∧ x.r2 ≠ x.r3
theorem Bk.ne_smap {w : World} {g r : Nat} {C : List Value} {T : TypeId} {m : KV} (h : Bk w g C T) (k : SMap w r m) : g ≠ r := by
  rintro rfl
  obtain ⟨es, cl, hh, _⟩ := k
  unfold Bk at h
  rw [h] at hh; cases hh
theorem Bk.ne_gmap {α : Type} [DecidableEq α] {enc : α → Value} {w : World} {g r : Nat} {C : List Value} {T : TypeId} {m : List (α × Value)} (h : Bk w g C T) (k : GMap enc w r m) : g ≠ r := by
  rintro rfl
  obtain ⟨es, cl, hh, _⟩ := k
  unfold Bk at h
  rw [h] at hh; cases hh
theorem Own.ne_smap {α : Type} {w : World} {B : Nat} {e : TypeId} {sz : Nat} {enc : α → List Value} {v : Value} {l : List α} {r : Nat} {m : KV} (h : Own w B e sz enc v l) (k : SMap w r m) : v.ownBlock ≠ some r := by
  intro hg
  obtain ⟨cur, hh⟩ := h.kind r hg
  obtain ⟨es, cl, h2, _⟩ := k
  rw [h2] at hh; cases hh
theorem Own.ne_gmap {α β : Type} [DecidableEq β] {encb : β → Value} {w : World} {B : Nat} {e : TypeId} {sz : Nat} {enc : α → List Value} {v : Value} {l : List α} {r : Nat} {m : List (β × Value)} (h : Own w B e sz enc v l) (k : GMap encb w r m) : v.ownBlock ≠ some r := by
  intro hg
  obtain ⟨cur, hh⟩ := h.kind r hg
  obtain ⟨es, cl, h2, _⟩ := k
  rw [h2] at hh; cases hh
section
variable {w w' : World} {B : Nat} {term : Bytes} {al : List LoK} {sl : List Bytes} {km : KV} {x : Nd}
theorem NdIn.of_blocks (h : NdIn w B term al sl km x) (e : ∀ g, x.foot g → w'.heap[g]? = w.heap[g]?) : NdIn w' B term al sl km x :=
  ⟨h.cells.of_block (e _ (.inl rfl)), h.at_.kept fun k hk => e k (.inr (.inr (.inr (.inr hk)))), h.been.of_block (e _ (.inr (.inl rfl))), h.see.of_block (e _ (.inr (.inr (.inl rfl)))), h.under.of_block (e _ (.inr (.inr (.inr (.inl rfl))))), h.lo, h.ne⟩
theorem NdIn.foot_lt (h : NdIn w B term al sl km x) {g : Nat} (hg : x.foot g) : B ≤ g ∧ g < w.heap.size := by
  rcases hg with rfl | rfl | rfl | rfl | hg
  · exact ⟨h.lo.1, h.cells.lt⟩
  · exact ⟨h.lo.2.1, h.been.lt⟩
  · exact ⟨h.lo.2.2.1, h.see.lt⟩
  · exact ⟨h.lo.2.2.2, h.under.lt⟩
  · exact h.at_.block g hg
end

/-! ### the tree -/
def termOf (p : Path) : Bytes := p.2.getD p.1
def upd (D : Path → Nd) (p : Path) (x : Nd) : Path → Nd := fun q => if q = p then x else D q
theorem upd_same (D : Path → Nd) (p : Path) (x : Nd) : upd D p x p = x := by unfold upd; rw [if_pos rfl]
theorem upd_other (D : Path → Nd) {p q : Path} (x : Nd) (h : q ≠ p) : upd D p x q = D q := by unfold upd; rw [if_neg h]
def topE (D : Path → Nd) (p : Path) : Option (Bytes × Value) := match p.2 with
  | none => some (p.1, ptrV (D p).b)
  | some _ => none
def kidE (D : Path → Nd) (t : Bytes) (p : Path) : Option (Bytes × Value) := match p.2 with
  | none => none
  | some u => if p.1 = t then some (u, ptrV (D p).b) else none
def topsOf (ps : List Path) (D : Path → Nd) : KV := ps.filterMap (topE D)
def kidsOf (ps : List Path) (D : Path → Nd) (t : Bytes) : KV := ps.filterMap (kidE D t)
def kmOf (ps : List Path) (D : Path → Nd) (p : Path) : KV := match p.2 with
  | none => kidsOf ps D p.1
  | some _ => []
theorem filterMap_cg {α β : Type} {f g : α → Option β} : ∀ {l : List α}, (∀ a ∈ l, f a = g a) → l.filterMap f = l.filterMap g
  | [], _ => rfl
  | x :: l, h => by rw [List.filterMap_cons, List.filterMap_cons, h x (by simp), filterMap_cg fun a ha => h a (by simp [ha])]
theorem topsOf_congr {ps : List Path} {D D' : Path → Nd} (h : ∀ p ∈ ps, (D' p).b = (D p).b) : topsOf ps D' = topsOf ps D := by
  unfold topsOf
  refine filterMap_cg fun p hp => ?_
  unfold topE
  rw [h p hp]
theorem kidsOf_congr {ps : List Path} {D D' : Path → Nd} (t : Bytes) (h : ∀ p ∈ ps, (D' p).b = (D p).b) : kidsOf ps D' t = kidsOf ps D t := by
  unfold kidsOf
  refine filterMap_cg fun p hp => ?_
  unfold kidE
  rw [h p hp]
theorem kmOf_congr {ps : List Path} {D D' : Path → Nd} (q : Path) (h : ∀ p ∈ ps, (D' p).b = (D p).b) : kmOf ps D' q = kmOf ps D q := by
  unfold kmOf
  split
  · exact kidsOf_congr _ h
  · rfl
theorem mapGet_nil (k : Bytes) : mapGet [] k = none := rfl
theorem mapGet_cons (x : Bytes × Value) (m : KV) (k : Bytes) : mapGet (x :: m) k = if x.1 = k then some x.2 else mapGet m k := by
  unfold mapGet
  by_cases h : x.1 = k
  · have : (x.1 == k) = true := by simpa using h
    simp [this, h]
  · have : (x.1 == k) = false := by simpa using h
    simp [this, h]
theorem tops_get (D : Path → Nd) (t : Bytes) : ∀ ps : List Path, mapGet (topsOf ps D) t = if (t, none) ∈ ps then some (ptrV (D (t, none)).b) else none
  | [] => rfl
  | (a, none) :: ps => by
    have ih := tops_get D t ps
    have e : topsOf ((a, none) :: ps) D = (a, ptrV (D (a, none)).b) :: topsOf ps D := rfl
    rw [e, mapGet_cons, ih]
    by_cases h : a = t
    · subst h; simp
    · have : (t, none) ≠ (a, (none : Option Bytes)) := fun e => h (by injection e with e _; exact e.symm)
      have h' : ¬ t = a := fun e => h e.symm
      simp [h, h']
  | (a, some u) :: ps => by
    have ih := tops_get D t ps
    have e : topsOf ((a, some u) :: ps) D = topsOf ps D := rfl
    rw [e, ih]
    simp
theorem kids_get (D : Path → Nd) (t u : Bytes) : ∀ ps : List Path, mapGet (kidsOf ps D t) u = if (t, some u) ∈ ps then some (ptrV (D (t, some u)).b) else none
  | [] => rfl
  | (a, none) :: ps => by
    have ih := kids_get D t u ps
    have e : kidsOf ((a, none) :: ps) D t = kidsOf ps D t := rfl
    rw [e, ih]
    simp
  | (a, some c) :: ps => by
    have ih := kids_get D t u ps
    by_cases h : a = t
    · subst h
      have e : kidsOf ((a, some c) :: ps) D a = (c, ptrV (D (a, some c)).b) :: kidsOf ps D a := by unfold kidsOf; rw [List.filterMap_cons]; simp [kidE]
      rw [e, mapGet_cons, ih]
      by_cases h2 : c = u
      · subst h2; simp
      · have h' : ¬ u = c := fun e => h2 e.symm
        simp [h2, h']
    · have e : kidsOf ((a, some c) :: ps) D t = kidsOf ps D t := by unfold kidsOf; rw [List.filterMap_cons]; simp [kidE, h]
      have h' : ¬ t = a := fun e => h e.symm
      rw [e, ih]
      simp [h']
theorem mapPut_new {m : KV} {k : Bytes} (v : Value) (h : mapGet m k = none) : mapPut m k v = m ++ [(k, v)] := by
  refine placeOf_none_put k v m 0 ?_
  have := placeOf_get k m 0
  rw [h] at this
  exact Option.map_eq_none_iff.1 this

structure Ix (w : World) (B top : Nat) (s : IxS) (D : Path → Nd) : Prop where
  ok : IxOk s
  mem : SMap w top (topsOf s.ps D)
  lo : B ≤ top
  nodes : ∀ p ∈ s.ps, NdIn w B (termOf p) (s.at_ p) (s.see p) (kmOf s.ps D p) (D p)
  apart : ∀ p ∈ s.ps, ∀ q ∈ s.ps, p ≠ q → ∀ g, (D p).foot g → ¬ (D q).foot g
  topN : ∀ p ∈ s.ps, ¬ (D p).foot top
/-- the blocks of the tree -/
def IxFt (top : Nat) (s : IxS) (D : Path → Nd) (g : Nat) : Prop := g = top ∨ ∃ p ∈ s.ps, (D p).foot g
section
variable {w w' : World} {B top : Nat} {s : IxS} {D : Path → Nd}
theorem Ix.of_blocks (h : Ix w B top s D) (e : ∀ g, IxFt top s D g → w'.heap[g]? = w.heap[g]?) : Ix w' B top s D :=
  ⟨h.ok, h.mem.of_block (e _ (.inl rfl)), h.lo, fun p hp => (h.nodes p hp).of_blocks fun g hg => e g (.inr ⟨p, hp, hg⟩), h.apart, h.topN⟩
theorem Ix.ft_lt (h : Ix w B top s D) {g : Nat} (hg : IxFt top s D g) : B ≤ g ∧ g < w.heap.size := by
  rcases hg with rfl | ⟨p, hp, hg⟩
  · exact ⟨h.lo, h.mem.lt⟩
  · exact (h.nodes p hp).foot_lt hg
theorem Ix.next (h : Ix w B top s D) (hb : Below w.heap.size w w') : Ix w' B top s D := h.of_blocks fun g hg => hb.block g (h.ft_lt hg).2
theorem Ix.kept {S : Nat → Prop} (h : Ix w B top s D) (hk : Kept S w w') (hS : ∀ g, IxFt top s D g → ¬ S g) : Ix w' B top s D := h.of_blocks fun g hg => hk.block g (h.ft_lt hg).2 (hS g hg)
theorem Ix.new (w : World) {B : Nat} (hB : B ≤ w.heap.size) (D : Path → Nd) : Ix (w.alloc (.map #[] 0)) B w.heap.size ix0 D :=
  ⟨ix0_ok, SMap.new w, hB, by simp [ix0], by simp [ix0], by simp [ix0]⟩

/-- a node more: p is a new path; its parent's map (or the top's) is r -/
theorem Ix.grown (h : Ix w B top s D) {p : Path} (hn : p ∉ s.ps) (hpar : ∀ u, p.2 = some u → (p.1, none) ∈ s.ps) {nd : Nd} (hfresh : ∀ g, nd.foot g → w.heap.size ≤ g)
    (hnd : NdIn w' B (termOf p) [] [] [] nd) {r : Nat} (hr : r = match p.2 with | none => top | some _ => (D (p.1, none)).r3)
    (hmap : SMap w' r (match p.2 with | none => mapPut (topsOf s.ps D) p.1 (ptrV nd.b) | some u => mapPut (kidsOf s.ps D p.1) u (ptrV nd.b))) (hk : Kept (fun g => g = r) w w') :
    Ix w' B top (s.grow p) (upd D p nd) := by
  have hps : (s.grow p).ps = s.ps ++ [p] := by unfold IxS.grow ins; rw [if_neg hn]
  have hsame : ∀ q ∈ s.ps, upd D p nd q = D q := fun q hq => upd_other D nd (fun e => hn (e ▸ hq))
  have hb : ∀ q ∈ s.ps, (upd D p nd q).b = (D q).b := fun q hq => by rw [hsame q hq]
  have hfoot : ∀ q ∈ s.ps, ∀ g, (D q).foot g → g < w.heap.size := fun q hq g hg => ((h.nodes q hq).foot_lt hg).2
  have hrl : r < w.heap.size := by
    subst hr
    split
    · exact h.mem.lt
    · rename_i u hu; exact (h.nodes _ (hpar u hu)).under.lt
  have hks : ∀ q ∈ s.ps, ∀ g, (D q).foot g → g ≠ r → w'.heap[g]? = w.heap[g]? := fun q hq g hg hne => hk.block g (hfoot q hq g hg) hne
  refine ⟨h.ok.grow hpar, ?_, h.lo, fun q hq => ?_, fun q hq q' hq' hne g hg => ?_, fun q hq hg => ?_⟩
  · rw [hps]
    have e : topsOf (s.ps ++ [p]) (upd D p nd) = topsOf s.ps D ++ (match p.2 with | none => [(p.1, ptrV nd.b)] | some _ => []) := by
      unfold topsOf
      rw [List.filterMap_append]
      have := topsOf_congr hb
      unfold topsOf at this
      rw [this]
      congr 1
      obtain ⟨t, u⟩ := p
      cases u with
      | none => simp [topE, upd_same]
      | some u => simp [topE]
    rw [e]
    obtain ⟨t, u⟩ := p
    cases u with
    | none =>
      subst hr
      have : mapGet (topsOf s.ps D) t = none := by rw [tops_get, if_neg hn]
      simp only at hmap
      rw [mapPut_new _ this] at hmap
      exact hmap
    | some u =>
      simp only [List.append_nil]
      refine h.mem.of_block (hk.block _ h.mem.lt fun e => ?_)
      exact h.topN _ (hpar u rfl) (.inr (.inr (.inr (.inl (e.trans hr)))))
  · rw [hps] at hq ⊢
    have hq0 := List.mem_append.1 hq
    clear hq
    rcases hq0 with hq | hq
    · rw [hsame q hq]
      have e : kmOf (s.ps ++ [p]) (upd D p nd) q = kmOf s.ps D q ++ (match p.2 with | none => [] | some u => match q.2 with | none => if p.1 = q.1 then [(u, ptrV nd.b)] else [] | some _ => []) := by
        unfold kmOf
        obtain ⟨a, c⟩ := q
        obtain ⟨t, u⟩ := p
        cases c with
        | none =>
          simp only
          unfold kidsOf
          rw [List.filterMap_append]
          have := kidsOf_congr a hb
          unfold kidsOf at this
          rw [this]
          congr 1
          cases u with
          | none => simp [kidE]
          | some u =>
            by_cases h : t = a
            · simp [kidE, h]; subst h; rw [upd_same]
            · simp [kidE, h]
        | some c => cases u <;> simp
      have hN := h.nodes q hq
      by_cases hqp : ∃ u, p.2 = some u ∧ q = (p.1, none)
      · obtain ⟨u, hu, hqe⟩ := hqp
        obtain ⟨t, pu⟩ := p
        simp only at hu hqe
        subst hu
        subst hqe
        simp only at hr hmap hN
        have hget : mapGet (kidsOf s.ps D t) u = none := by rw [kids_get, if_neg hn]
        rw [mapPut_new _ hget] at hmap
        have hw : ∀ g, (D (t, none)).foot g → g ≠ (D (t, none)).r3 → w'.heap[g]? = w.heap[g]? := fun g hg hne => hks _ hq g hg (by rw [hr]; exact hne)
        have hbr := hN.cells.ne_smap hN.under
        have hvr : ∀ k, (D (t, none)).v.ownBlock = some k → k ≠ (D (t, none)).r3 := fun k hk e => hN.at_.ne_smap hN.under (e ▸ hk)
        rw [e]
        simp only [if_pos]
        refine ⟨hN.cells.of_block (hw _ (.inl rfl) hbr), hN.at_.kept fun k hk => hw k (.inr (.inr (.inr (.inr hk)))) (hvr k hk), hN.been.of_block (hw _ (.inr (.inl rfl)) hN.ne.2.1), hN.see.of_block (hw _ (.inr (.inr (.inl rfl))) hN.ne.2.2), ?_, hN.lo, hN.ne⟩
        rw [← hr]; exact hmap
      · have e2 : kmOf (s.ps ++ [p]) (upd D p nd) q = kmOf s.ps D q := by
          rw [e]
          obtain ⟨a, c⟩ := q
          obtain ⟨t, u⟩ := p
          cases u with
          | none => simp
          | some u =>
            cases c with
            | none =>
              have : t ≠ a := fun e => hqp ⟨u, rfl, by rw [e]⟩
              simp [this]
            | some c => simp
        rw [e2]
        refine hN.of_blocks fun g hg => hks q hq g hg fun e3 => ?_
        subst e3
        obtain ⟨t, u⟩ := p
        cases u with
        | none =>
          have hr : g = top := hr
          exact h.topN q hq (hr ▸ hg)
        | some u =>
          have hne : q ≠ (t, none) := fun e => hqp ⟨u, rfl, e⟩
          exact h.apart q hq (t, none) (hpar u rfl) hne g hg (.inr (.inr (.inr (.inl hr))))
    · simp at hq
      subst hq
      rw [upd_same]
      have e1 : (s.grow q).at_ q = [] := (h.ok.out q hn).1
      have e2 : (s.grow q).see q = [] := (h.ok.out q hn).2
      have e3 : kmOf (s.ps ++ [q]) (upd D q nd) q = [] := by
        obtain ⟨t, u⟩ := q
        cases u with
        | none =>
          show kidsOf _ _ t = []
          unfold kidsOf
          rw [List.filterMap_eq_nil_iff]
          intro a ha
          rcases List.mem_append.1 ha with ha | ha
          · obtain ⟨a1, a2⟩ := a
            cases a2 with
            | none => rfl
            | some a2 =>
              unfold kidE
              have : a1 ≠ t := fun e => hn (h.ok.par t a2 (e ▸ ha))
              simp [this]
          · simp at ha; subst ha; rfl
        | some u => rfl
      rw [e1, e2, e3]; exact hnd
  · rw [hps] at hq hq'
    have hq0 := List.mem_append.1 hq
    have hq0' := List.mem_append.1 hq'
    clear hq hq'
    rcases hq0 with hq | hq <;> rcases hq0' with hq' | hq'
    · rw [hsame _ hq] at hg; rw [hsame _ hq']; exact h.apart q hq q' hq' hne g hg
    · simp at hq'; subst hq'
      rw [hsame _ hq] at hg; rw [upd_same]
      intro h2
      have := hfoot q hq g hg
      have := hfresh g h2
      omega
    · simp at hq; subst hq
      rw [upd_same] at hg; rw [hsame _ hq']
      intro h2
      have := hfoot q' hq' g h2
      have := hfresh g hg
      omega
    · simp at hq hq'; subst hq; subst hq'; exact absurd rfl hne
  · rw [hps] at hq
    have hq0 := List.mem_append.1 hq
    clear hq
    rcases hq0 with hq | hq
    · rw [hsame _ hq] at hg; exact h.topN q hq hg
    · simp at hq; subst hq
      rw [upd_same] at hg
      have := hfresh _ hg
      have := h.mem.lt
      omega

/-- a node's own data turn: its tops and kids stay -/
theorem Ix.turned (h : Ix w B top s D) {p : Path} (hp : p ∈ s.ps) {s' : IxS} (hs' : IxOk s') (hps : s'.ps = s.ps) (hother : ∀ q, q ≠ p → s'.at_ q = s.at_ q ∧ s'.see q = s.see q) {nd : Nd} (hb : nd.b = (D p).b)
    (hnd : NdIn w' B (termOf p) (s'.at_ p) (s'.see p) (kmOf s.ps D p) nd) (hft : ∀ g, nd.foot g → (D p).foot g ∨ w.heap.size ≤ g) (hk : Kept (fun g => (D p).foot g) w w') : Ix w' B top s' (upd D p nd) := by
  have hbb : ∀ q ∈ s.ps, (upd D p nd q).b = (D q).b := fun q hq => by
    by_cases e : q = p
    · subst e; rw [upd_same]; exact hb
    · rw [upd_other D nd e]
  refine ⟨hs', ?_, h.lo, fun q hq => ?_, fun q hq q' hq' hne g hg => ?_, fun q hq hg => ?_⟩
  · rw [hps, topsOf_congr hbb]
    exact h.mem.of_block (hk.block _ h.mem.lt (h.topN p hp))
  · rw [hps] at hq ⊢
    rw [kmOf_congr q hbb]
    by_cases e : q = p
    · subst e; rw [upd_same]; exact hnd
    · rw [upd_other D nd e, (hother q e).1, (hother q e).2]
      exact (h.nodes q hq).of_blocks fun g hg => hk.block g ((h.nodes q hq).foot_lt hg).2 (h.apart q hq p hp e g hg)
  · rw [hps] at hq hq'
    have hlt : ∀ q ∈ s.ps, (D q).foot g → g < w.heap.size := fun q hq hg => ((h.nodes q hq).foot_lt hg).2
    by_cases e : q = p
    · subst e
      rw [upd_same] at hg
      have hne' : q' ≠ q := fun e => hne e.symm
      rw [upd_other D nd hne']
      intro h2
      rcases hft g hg with h3 | h3
      · exact h.apart q hq q' hq' hne g h3 h2
      · have := hlt q' hq' h2; omega
    · rw [upd_other D nd e] at hg
      by_cases e' : q' = p
      · subst e'
        rw [upd_same]
        intro h2
        rcases hft g h2 with h3 | h3
        · exact h.apart q hq q' hq' hne g hg h3
        · have := hlt q hq hg; omega
      · rw [upd_other D nd e']; exact h.apart q hq q' hq' hne g hg
  · rw [hps] at hq
    by_cases e : q = p
    · subst e
      rw [upd_same] at hg
      rcases hft _ hg with h3 | h3
      · exact h.topN q hq h3
      · have := h.mem.lt; omega
    · rw [upd_other D nd e] at hg; exact h.topN q hq hg
/-- what a node is told to see -/
theorem Ix.seen (h : Ix w B top s D) {p : Path} (hp : p ∈ s.ps) (a : Bytes) (hmap : SMap w' (D p).r2 (mapPut ((s.see p).map fun u => (u, unitV)) a unitV)) (hk : Kept (fun g => g = (D p).r2) w w') : Ix w' B top (s.putSee p a) (upd D p (D p)) := by
  have hN := h.nodes p hp
  refine h.turned hp (h.ok.putSee hp a) rfl (fun q hq => ⟨rfl, by simp only [IxS.putSee, if_neg hq]⟩) rfl ?_ (fun g hg => .inl hg) (hk.mono fun g hg => .inr (.inr (.inl hg)))
  have hw : ∀ g, (D p).foot g → g ≠ (D p).r2 → w'.heap[g]? = w.heap[g]? := fun g hg hne => hk.block g (hN.foot_lt hg).2 hne
  refine ⟨hN.cells.of_block (hw _ (.inl rfl) (hN.cells.ne_smap hN.see)), hN.at_.kept fun k hk => hw k (.inr (.inr (.inr (.inr hk)))) (fun e => hN.at_.ne_smap hN.see (e ▸ hk)), hN.been.of_block (hw _ (.inr (.inl rfl)) hN.ne.1), ?_, hN.under.of_block (hw _ (.inr (.inr (.inr (.inl rfl)))) (fun e => hN.ne.2.2 e.symm)), hN.lo, hN.ne⟩
  have e1 : (s.putSee p a).see p = ins (s.see p) a := by simp only [IxS.putSee, if_pos]
  rw [e1]
  have key : ∀ l : List Bytes, mapPut (l.map fun u => (u, unitV)) a unitV = (ins l a).map fun u => (u, unitV) := by
    intro l
    by_cases hm : a ∈ l
    · have : ins l a = l := by unfold ins; rw [if_pos hm]
      rw [this]
      clear this
      induction l with
      | nil => simp at hm
      | cons x l ih =>
        rw [List.map_cons]
        unfold mapPut
        by_cases hx : x = a
        · subst hx; simp
        · have : (x == a) = false := by simpa using hx
          have hm' : a ∈ l := by
            rcases List.mem_cons.1 hm with e | e
            · exact absurd e.symm hx
            · exact e
          rw [if_neg (by simp [this]), ih hm']
    · have e2 : mapGet (l.map fun u => (u, unitV)) a = none := by
        clear hmap hk hw e1
        induction l with
        | nil => rfl
        | cons x l ih =>
          rw [List.map_cons, mapGet_cons]
          have hx : x ≠ a := fun e => hm (by simp [e])
          simp only [if_neg hx]
          exact ih fun h => hm (by simp [h])
      rw [mapPut_new _ e2]
      unfold ins
      rw [if_neg hm, List.map_append]; rfl
  rw [← key]; exact hmap
/-- where a node's term stands: it was told before -/
theorem Ix.there (h : Ix w B top s D) {p : Path} {a : LoK} (ha : a ∈ s.at_ p) : Ix w B top (s.putAt p a) D := by
  have : s.putAt p a = s := by
    unfold IxS.putAt
    have : (fun q => if q = p then ins (s.at_ q) a else s.at_ q) = s.at_ := by
      funext q
      by_cases e : q = p
      · subst e; rw [if_pos rfl]; unfold ins; rw [if_pos ha]
      · rw [if_neg e]
    rw [this]
  rw [this]; exact h
/-- where a node's term stands: one place more -/
theorem Ix.pushed (h : Ix w B top s D) {p : Path} (hp : p ∈ s.ps) {a : LoK} (ha : a ∉ s.at_ p) {v' : Value} (hmap : GMap encLoV w' (D p).r1 (gPut ((s.at_ p).map fun u => (u, unitV)) a unitV))
    (hcells : Bk w' (D p).b (ndC (termOf p) { D p with v := v' }) 220) (hown : Own w' B 79 3 encLo v' (s.at_ p ++ [a])) (hv : ∀ g, v'.ownBlock = some g → (D p).v.ownBlock = some g ∨ w.heap.size ≤ g)
    (hk : Kept (fun g => g = (D p).r1 ∨ g = (D p).b ∨ (D p).v.ownBlock = some g) w w') : Ix w' B top (s.putAt p a) (upd D p { D p with v := v' }) := by
  have hN := h.nodes p hp
  refine h.turned hp (h.ok.putAt hp a) rfl (fun q hq => ⟨by simp only [IxS.putAt, if_neg hq], rfl⟩) rfl ?_ (fun g hg => ?_) (hk.mono fun g hg => ?_)
  · have e1 : (s.putAt p a).at_ p = s.at_ p ++ [a] := by simp only [IxS.putAt, if_pos]; unfold ins; rw [if_neg ha]
    rw [e1]
    refine ⟨hcells, hown, ?_, ?_, ?_, hN.lo, hN.ne⟩
    · rw [gPut_new _ (fun x hx e => by obtain ⟨y, hy, rfl⟩ := List.mem_map.1 hx; exact ha (e ▸ hy))] at hmap
      rw [List.map_append]; exact hmap
    · refine hN.see.of_block (hk.block _ hN.see.lt ?_)
      rintro (e | e | e)
      · exact hN.ne.1 e.symm
      · exact hN.cells.ne_smap hN.see e.symm
      · exact hN.at_.ne_smap hN.see e
    · refine hN.under.of_block (hk.block _ hN.under.lt ?_)
      rintro (e | e | e)
      · exact hN.ne.2.1 e.symm
      · exact hN.cells.ne_smap hN.under e.symm
      · exact hN.at_.ne_smap hN.under e
  · rcases hg with hg | hg | hg | hg | hg
    · exact .inl (.inl hg)
    · exact .inl (.inr (.inl hg))
    · exact .inl (.inr (.inr (.inl hg)))
    · exact .inl (.inr (.inr (.inr (.inl hg))))
    · rcases hv g hg with h2 | h2
      · exact .inl (.inr (.inr (.inr (.inr h2))))
      · exact .inr h2
  · rcases hg with hg | hg | hg
    · exact .inr (.inl hg)
    · exact .inl hg
    · exact .inr (.inr (.inr (.inr hg)))
end
end Go.Proofs.YtohinfefidahlaaGreatDoor
