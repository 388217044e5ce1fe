/- index.entries of the tree: what it tells, in plain words. A slice appended to a slice; memory for so many elements. Nothing of a program is named here. -/
import Derived.Test.YtohinfefidahlaaGreatDoorEnt
import Derived.Test.YtohinfefidahlaaGreatDoorJoA
import Derived.Lib.AppendZeros
namespace Go.Proofs.YtohinfefidahlaaGreatDoor
open Go.RowKit
set_option linter.unusedVariables false
set_option linter.unusedSimpArgs false

def topN (p : Path) : Option Bytes := match p.2 with
  | none => some p.1
  | some _ => none
def subN (t : Bytes) (p : Path) : Option Bytes := match p.2 with
  | none => none
  | some u => if p.1 = t then some u else none
def topT (ps : List Path) : List Bytes := ps.filterMap topN
def subT (ps : List Path) (t : Bytes) : List Bytes := ps.filterMap (subN t)
structure SubOf (s : IxS) (t : Bytes) (l : List En) : Prop where
  perm : (l.map En.term).Perm (subT s.ps t)
  ord : l.Pairwise (fun a b => nodeO a.term b.term ≤ 0)
  al : ∀ y ∈ l, y.al = s.at_ (t, some y.term)
  see : ∀ y ∈ l, y.sl.Perm (s.see (t, some y.term))
  sorted : ∀ y ∈ l, y.sl.Pairwise (fun a b => a ≤ b)
  under : ∀ y ∈ l, y.ul = []
structure EnsOf (s : IxS) (l : List En) : Prop where
  perm : (l.map En.term).Perm (topT s.ps)
  ord : l.Pairwise (fun a b => nodeO a.term b.term ≤ 0)
  al : ∀ y ∈ l, y.al = s.at_ (y.term, none)
  see : ∀ y ∈ l, y.sl.Perm (s.see (y.term, none))
  sorted : ∀ y ∈ l, y.sl.Pairwise (fun a b => a ≤ b)
  under : ∀ y ∈ l, SubOf s y.term y.ul
def topI (s : IxS) (D : Path → Nd) (p : Path) : Option It := match p.2 with
  | none => some ⟨p.1, D p, s.at_ p, s.see p, kmOf s.ps D p⟩
  | some _ => none
def subI (s : IxS) (D : Path → Nd) (t : Bytes) (p : Path) : Option It := match p.2 with
  | none => none
  | some u => if p.1 = t then some ⟨u, D p, s.at_ p, s.see p, []⟩ else none
theorem kvs_top (s : IxS) (D : Path → Nd) : ∀ ps : List Path, kvs (prs (ps.filterMap (topI s D))) = topsOf ps D
  | [] => rfl
  | (a, none) :: ps => by
    have ih := kvs_top s D ps
    show kvs (prs (_ :: ps.filterMap (topI s D))) = _ :: topsOf ps D
    rw [← ih]; rfl
  | (a, some u) :: ps => kvs_top s D ps
theorem kvs_sub (s : IxS) (D : Path → Nd) (t : Bytes) : ∀ ps : List Path, kvs (prs (ps.filterMap (subI s D t))) = kidsOf ps D t
  | [] => rfl
  | (a, none) :: ps => kvs_sub s D t ps
  | (a, some u) :: ps => by
    have ih := kvs_sub s D t ps
    by_cases h : a = t
    · subst h
      have e1 : ((a, some u) :: ps).filterMap (subI s D a) = ⟨u, D (a, some u), s.at_ (a, some u), s.see (a, some u), []⟩ :: ps.filterMap (subI s D a) := by rw [List.filterMap_cons]; simp [subI]
      have e2 : kidsOf ((a, some u) :: ps) D a = (u, ptrV (D (a, some u)).b) :: kidsOf ps D a := by unfold kidsOf; rw [List.filterMap_cons]; simp [kidE]
      rw [e1, e2, ← ih]; rfl
    · have e1 : ((a, some u) :: ps).filterMap (subI s D t) = ps.filterMap (subI s D t) := by rw [List.filterMap_cons]; simp [subI, h]
      have e2 : kidsOf ((a, some u) :: ps) D t = kidsOf ps D t := by unfold kidsOf; rw [List.filterMap_cons]; simp [kidE, h]
      rw [e1, e2, ih]
theorem terms_top (s : IxS) (D : Path → Nd) : ∀ ps : List Path, (ps.filterMap (topI s D)).map It.term = topT ps
  | [] => rfl
  | (a, none) :: ps => by
    have ih := terms_top s D ps
    show _ :: (ps.filterMap (topI s D)).map It.term = _ :: topT ps
    rw [ih]
  | (a, some u) :: ps => terms_top s D ps
theorem terms_sub (s : IxS) (D : Path → Nd) (t : Bytes) : ∀ ps : List Path, (ps.filterMap (subI s D t)).map It.term = subT ps t
  | [] => rfl
  | (a, none) :: ps => terms_sub s D t ps
  | (a, some u) :: ps => by
    have ih := terms_sub s D t ps
    by_cases h : a = t
    · subst h
      have e1 : ((a, some u) :: ps).filterMap (subI s D a) = ⟨u, D (a, some u), s.at_ (a, some u), s.see (a, some u), []⟩ :: ps.filterMap (subI s D a) := by rw [List.filterMap_cons]; simp [subI]
      have e2 : subT ((a, some u) :: ps) a = u :: subT ps a := by unfold subT; rw [List.filterMap_cons]; simp [subN]
      rw [e1, e2, ← ih]; rfl
    · have e1 : ((a, some u) :: ps).filterMap (subI s D t) = ps.filterMap (subI s D t) := by rw [List.filterMap_cons]; simp [subI, h]
      have e2 : subT ((a, some u) :: ps) t = subT ps t := by unfold subT; rw [List.filterMap_cons]; simp [subN, h]
      rw [e1, e2, ih]
theorem mem_topI {s : IxS} {D : Path → Nd} {x : It} (h : x ∈ s.ps.filterMap (topI s D)) : ∃ t, (t, none) ∈ s.ps ∧ x = ⟨t, D (t, none), s.at_ (t, none), s.see (t, none), kidsOf s.ps D t⟩ := by
  obtain ⟨p, hp, e⟩ := List.mem_filterMap.1 h
  obtain ⟨t, u⟩ := p
  cases u with
  | none => exact ⟨t, hp, (Option.some.inj e).symm⟩
  | some u => cases e
theorem mem_subI {s : IxS} {D : Path → Nd} {t : Bytes} {x : It} (h : x ∈ s.ps.filterMap (subI s D t)) : ∃ u, (t, some u) ∈ s.ps ∧ x = ⟨u, D (t, some u), s.at_ (t, some u), s.see (t, some u), []⟩ := by
  obtain ⟨p, hp, e⟩ := List.mem_filterMap.1 h
  obtain ⟨a, u⟩ := p
  cases u with
  | none => cases e
  | some u =>
    unfold subI at e
    simp only at e
    split at e
    · rename_i h1
      subst h1
      exact ⟨u, hp, (Option.some.inj e).symm⟩
    · cases e
section
variable {w : World} {B top n : Nat} {s : IxS} {D : Path → Nd}
theorem entries_sub (h : Ix w B top s D) (hbd : IxBd s) (hle : IxLe n s) (hn : n ≤ 400000) {t : Bytes} (ht : (t, none) ∈ s.ps) {n0 : Nat} (hn0 : n0 ≤ w.heap.size) (hv0 : ∀ p ∈ s.ps, ∀ g, (D p).foot g → g < n0) :
    Calls Tryz.prog 93 #[.map (some (D (t, none)).r3)] w (EntG n0 (SubOf s t) w) := by
  have hmap : SMap w (D (t, none)).r3 (kvs (prs (s.ps.filterMap (subI s D t)))) := by rw [kvs_sub]; exact (h.nodes _ ht).under
  have hlen : (s.ps.filterMap (subI s D t)).length ≤ 1000000 := by
    have h1 := List.length_filterMap_le (subI s D t) s.ps
    have h2 := hle.ps
    omega
  by_cases hne : s.ps.filterMap (subI s D t) = []
  · rw [hne] at hmap
    have e1 := terms_sub s D t s.ps
    rw [hne] at e1
    exact entries_nil hmap ⟨by rw [← e1]; exact List.Perm.refl _, List.Pairwise.nil, by simp, by simp, by simp, by simp⟩
  · refine (entries_step (B := B) (U := fun _ ul => ul = []) hne hlen hmap (fun x hx => ?_) hn0 (fun x hx g hg => ?_) (fun x hx W hb => ?_)).mono ?_
    · obtain ⟨u, hu, rfl⟩ := mem_subI hx
      exact ⟨h.nodes _ hu, hbd.sub _ hu u rfl, by have := hle.see (t, some u); show (s.see (t, some u)).length ≤ _; omega⟩
    · obtain ⟨u, hu, rfl⟩ := mem_subI hx
      exact hv0 _ hu g (.inr (.inr (.inr (.inr hg))))
    · obtain ⟨u, hu, rfl⟩ := mem_subI hx
      exact entries_nil ((h.next hb).nodes _ hu).under rfl
    · rintro e w' ⟨⟨a, c, ul, rfl, hE, hU⟩, hb⟩
      refine ⟨⟨a, c, ul, rfl, hE, ?_⟩, hb⟩
      have key : ∀ y ∈ ul, y.al = s.at_ (t, some y.term) ∧ y.sl.Perm (s.see (t, some y.term)) ∧ y.sl.Pairwise (fun a b => a ≤ b) ∧ y.ul = [] := fun y hy => by
        obtain ⟨it, hit, hT⟩ := hU.told y hy
        obtain ⟨u, hu, rfl⟩ := mem_subI hit
        have e1 : y.term = u := hT.term
        subst e1
        exact ⟨hT.al, hT.see, hT.sorted, hT.under⟩
      exact ⟨by rw [← terms_sub s D t s.ps]; exact hU.perm, hU.ord, fun y hy => (key y hy).1, fun y hy => (key y hy).2.1, fun y hy => (key y hy).2.2.1, fun y hy => (key y hy).2.2.2⟩
theorem entries_ix (h : Ix w B top s D) (hbd : IxBd s) (hle : IxLe n s) (hn : n ≤ 400000) : Calls Tryz.prog 93 #[.map (some top)] w (EntG w.heap.size (EnsOf s) w) := by
  have hmap : SMap w top (kvs (prs (s.ps.filterMap (topI s D)))) := by rw [kvs_top]; exact h.mem
  have hlen : (s.ps.filterMap (topI s D)).length ≤ 1000000 := by
    have h1 := List.length_filterMap_le (topI s D) s.ps
    have h2 := hle.ps
    omega
  have hv0 : ∀ p ∈ s.ps, ∀ g, (D p).foot g → g < w.heap.size := fun p hp g hg => ((h.nodes p hp).foot_lt hg).2
  by_cases hne : s.ps.filterMap (topI s D) = []
  · rw [hne] at hmap
    have e1 := terms_top s D s.ps
    rw [hne] at e1
    exact entries_nil hmap ⟨by rw [← e1]; exact List.Perm.refl _, List.Pairwise.nil, by simp, by simp, by simp, by simp⟩
  · refine (entries_step (B := B) (U := fun x ul => SubOf s x.term ul) hne hlen hmap (fun x hx => ?_) (Nat.le_refl _) (fun x hx g hg => ?_) (fun x hx W hb => ?_)).mono ?_
    · obtain ⟨t, ht, rfl⟩ := mem_topI hx
      exact ⟨h.nodes _ ht, hbd.top _ ht, by have := hle.see (t, none); show (s.see (t, none)).length ≤ _; omega⟩
    · obtain ⟨t, ht, rfl⟩ := mem_topI hx
      exact hv0 _ ht g (.inr (.inr (.inr (.inr hg))))
    · obtain ⟨t, ht, rfl⟩ := mem_topI hx
      exact entries_sub (h.next hb) hbd hle hn ht hb.size hv0
    · rintro e w' ⟨⟨a, c, ul, rfl, hE, hU⟩, hb⟩
      refine ⟨⟨a, c, ul, rfl, hE, ?_⟩, hb⟩
      have key : ∀ y ∈ ul, y.al = s.at_ (y.term, none) ∧ y.sl.Perm (s.see (y.term, none)) ∧ y.sl.Pairwise (fun a b => a ≤ b) ∧ SubOf s y.term y.ul := fun y hy => by
        obtain ⟨it, hit, hT⟩ := hU.told y hy
        obtain ⟨t, ht, rfl⟩ := mem_topI hit
        have e1 : y.term = t := hT.term
        subst e1
        exact ⟨hT.al, hT.see, hT.sorted, hT.under⟩
      exact ⟨by rw [← terms_top s D s.ps]; exact hU.perm, hU.ord, fun y hy => (key y hy).1, fun y hy => (key y hy).2.1, fun y hy => (key y hy).2.2.1, fun y hy => (key y hy).2.2.2⟩
end
end Go.Proofs.YtohinfefidahlaaGreatDoor

namespace Go.Proofs.YtohinfefidahlaaGreatDoor
set_option linter.unusedSimpArgs false
open Go.RowKit

section
variable {α : Type} {P : Program} {w : World} {ops : Array Oper} {rest : List Oper} {o : Oper} {a : Act} {Q : Exit → Act → World → Prop}

theorem run_append_none (t ty e : TypeId) (i : TypeInfo) (ht : P.underlying t = some (.slice e)) (hi : P.info? e = some i) (B size : Nat) (v : Value) (n : Nat) (xs : List Value) (hown : w.ownsRow B e size v n xs) (c : Nat) :
    (Builtin.append_ #[t, t] ty #[v, .slice none 0 c]).run P w = .ok v w := by
  rcases hown.2 with ⟨rfl, rfl⟩ | ⟨g, cap, cur, rfl, hbg, hg, hnc, hcm, hcs, htake⟩
  · simp [Builtin.append_, run_underlying ht, sizeOf, typeInfo, hi, Builtin.lenOf, Builtin.firstCells]
  · simp [Builtin.append_, run_underlying ht, sizeOf, typeInfo, hi, Builtin.lenOf, Builtin.firstCells, loadCells, hnc, storeCells]

/-- append the elements of a slice to the call's own slice -/
theorem wpList_cat (hgd : o.guard = none) (s x : Operand) (t : TypeId) (ho : o.op = .call { callee := .builtin .append, args := #[s, x], argTypes := #[t, t] })
    (B : Nat) (e : TypeId) (sz bytes : Nat) (hT : SlTy P t e sz bytes) (enc : α → List Value) (he : Enc sz enc)
    (v : Value) (l : List α) (hs : a.eval s = v) (hown : Own w B e sz enc v l)
    (ra : Option Addr) (c2 n2 : Nat) (m : List α) (hn2 : n2 = m.length) (hx : a.eval x = .slice ra n2 c2) (hA : At w sz enc ra m)
    (hroom : (l.length + m.length) * bytes ≤ 140737488355328) (hmax : l.length + m.length ≤ maxLen) (W : World) (hB : Below B W w) (hBs : B ≤ w.heap.size)
    (h : ∀ v' w', Own w' B e sz enc v' (l ++ m) → Below B W w' → w.grownBy w' v.ownBlock → wpList P ops Q rest (a.put o.dst v') w') : wpList P ops Q (o :: rest) a w := by
  obtain ⟨hu, z, hi, hz, hsz⟩ := hT
  obtain ⟨i, hi1, hi2, hi3, hi4⟩ := info_parts hi
  subst hn2
  cases ra with
  | none =>
    have hm : m = [] := by
      rcases hA with h | ⟨b, off, ha, _⟩
      · exact h
      · cases ha
    subst hm
    refine Lib.wpList_append_run w hgd s x t t ho v _ hs hx v w (run_append_none t o.type e i hu hi1 B sz v l.length _ hown c2) ?_
    exact h v w (by simpa using hown) hB ⟨rfl, rfl, rfl, Nat.le_refl _, fun _ _ _ => rfl⟩
  | some ad =>
    have hnews : ∀ j u, (m.flatMap enc)[j]? = some u → w.cell? (ad.add j) = some u := by
      rcases hA with h | ⟨b, off, ha, hlt, hr⟩
      · subst h; intro j u hj; simp at hj
      · cases ha
        intro j u hj
        have hjl : j < m.length * sz := by rw [← flat_len he.len]; exact (List.getElem?_eq_some_iff.1 hj).1
        have hmod : j % sz < sz := Nat.mod_lt _ hsz
        have hdm : j / sz * sz + j % sz = j := by rw [Nat.mul_comm]; exact Nat.div_add_mod j sz
        have hd : j / sz < m.length := Nat.div_lt_of_lt_mul (by rw [Nat.mul_comm]; exact hjl)
        have h1 := flat_get he.len m (j / sz) (j % sz) hmod
        rw [hdm, hj, List.getElem?_eq_getElem hd] at h1
        have h2 := hr (j / sz) m[j / sz] (List.getElem?_eq_getElem hd) (j % sz) u h1.symm
        have e1 : (⟨b, off, none⟩ : Addr).add j = ⟨b, off + j, none⟩ := by unfold Addr.add; split <;> simp_all
        rw [e1]
        rwa [Nat.add_assoc, hdm] at h2
    refine wpList_append_own w hgd s x t ho B e i z sz bytes hu hi1 hi2 hi3 hi4 hz hsz v l.length (l.flatMap enc) hs hown ad m.length c2 (m.flatMap enc) hx (flat_len he.len m) hnews
      (fun u hu => by obtain ⟨y, _, hy⟩ := List.mem_flatMap.1 hu; exact he.one y u hy) hmax hroom hBs ?_
    intro v' w' h1 h2 _
    refine h v' w' ?_ (hB.grown h2 hBs (fun k hk => (hown.lt k hk).1)) h2
    unfold Own
    rw [List.length_append, List.flatMap_append]
    simpa using h1
end

theorem Own.zeros {α : Type} (w : World) (e : TypeId) (sz : Nat) (enc : α → List Value) (cs : Array Value) (cap : Nat) (hcm : cap ≤ maxLen) (hcs : cs.size = cap * sz) (B : Nat) (hB : B ≤ w.heap.size) :
    Own (w.alloc (.cells cs e)) B e sz enc (.slice (some ⟨w.heap.size, 0, none⟩) 0 cap) ([] : List α) :=
  ⟨by simp, .inr ⟨w.heap.size, cap, cs, rfl, hB, by rw [World.alloc]; simp, Nat.zero_le _, hcm, hcs, by simp⟩⟩
end Go.Proofs.YtohinfefidahlaaGreatDoor
