/- Memory of the call's own, list by list: what is written to one leaves the others. Nothing of a program is named here. -/
import Derived.Test.YtohinfefidahlaaGreatDoorJoA
import Derived.Laws.OwnMore
namespace Go.Proofs.YtohinfefidahlaaGreatDoor
open Go.RowKit

/-! ### a block that is known whole, with its type -/
def Bk (w : World) (g : Nat) (C : List Value) (T : TypeId) : Prop := w.heap[g]? = some (.cells C.toArray T (0, 0))
section
variable {w w' : World} {g : Nat} {C : List Value} {T : TypeId}
theorem Bk.lt (h : Bk w g C T) : g < w.heap.size := (Array.getElem?_eq_some_iff.1 h).1
theorem Bk.cell (h : Bk w g C T) (i : Nat) : w.cell? ⟨g, i, none⟩ = C[i]? := by
  unfold Bk at h; simp [World.cell?, h]
theorem Bk.free (h : Bk w g C T) (i : Nat) : w.frozen? ⟨g, i, none⟩ = false := by
  unfold Bk at h; simp [World.frozen?, h]
theorem Bk.of_block (h : Bk w g C T) (e : w'.heap[g]? = w.heap[g]?) : Bk w' g C T := e.trans h
theorem Bk.below {B : Nat} (h : Bk w g C T) (hb : Below B w w') (hg : g < B) : Bk w' g C T := h.of_block (hb.block g hg)
theorem Bk.next (h : Bk w g C T) (hb : Below w.heap.size w w') : Bk w' g C T := h.below hb h.lt
theorem Bk.alloc (h : Bk w g C T) (o : Obj) : Bk (w.alloc o) g C T := h.of_block (Below.heap_alloc w o g h.lt)
theorem Bk.drew (h : Bk w g C T) : Bk w.drew g C T := h
theorem Bk.drewN (h : Bk w g C T) (n : Nat) : Bk (w.drewN n) g C T := h
theorem Bk.set (h : Bk w g C T) (i : Nat) (v : Value) : Bk (w.setCell ⟨g, i, none⟩ v) g (C.set i v) T := by
  unfold Bk at *
  have hlt := (Array.getElem?_eq_some_iff.1 h).1
  have hv := (Array.getElem?_eq_some_iff.1 h).2
  simp only [World.setCell]
  rw [Array.getElem?_eq_getElem (by simpa using hlt), Array.getElem_modify_self, hv]
  simp
theorem Bk.set_other (h : Bk w g C T) {g' : Nat} (hne : g' ≠ g) (i : Nat) (v : Value) : Bk (w.setCell ⟨g', i, none⟩ v) g C T :=
  h.of_block (Below.heap_setCell _ _ _ _ (Ne.symm hne))
theorem Bk.new (w : World) (C : Array Value) (t : TypeId) : Bk (w.alloc (.cells C t)) w.heap.size C.toList t := by
  unfold Bk; rw [heap_alloc_new]
theorem Bk.grown {row : Option Nat} (h : Bk w g C T) (hg : w.grownBy w' row) (hr : row ≠ some g) : Bk w' g C T := h.of_block (hg.block g h.lt (fun e => hr e.symm))
end

/-! ### what may have changed -/
structure Kept (S : Nat → Prop) (w w' : World) : Prop where
  os : w'.os = w.os
  tape : w'.tape = w.tape
  output : w'.output = w.output
  size : w.heap.size ≤ w'.heap.size
  block : ∀ k, k < w.heap.size → ¬ S k → w'.heap[k]? = w.heap[k]?
section
variable {S S' : Nat → Prop} {w w1 w2 : World}
theorem Kept.refl (S : Nat → Prop) (w : World) : Kept S w w := ⟨rfl, rfl, rfl, Nat.le_refl _, fun _ _ _ => rfl⟩
theorem Kept.trans (h : Kept S w w1) (k : Kept S w1 w2) : Kept S w w2 :=
  ⟨k.os.trans h.os, k.tape.trans h.tape, k.output.trans h.output, Nat.le_trans h.size k.size, fun i hi hn => (k.block i (Nat.lt_of_lt_of_le hi h.size) hn).trans (h.block i hi hn)⟩
theorem Kept.mono (h : Kept S w w1) (hs : ∀ k, S k → S' k) : Kept S' w w1 := ⟨h.os, h.tape, h.output, h.size, fun i hi hn => h.block i hi (fun hk => hn (hs i hk))⟩
/-- what is new may change as well -/
theorem Kept.transN {n : Nat} (h : Kept S w w1) (k : Kept (fun g => S g ∨ n ≤ g) w1 w2) (hn : w.heap.size ≤ n) : Kept S w w2 :=
  ⟨k.os.trans h.os, k.tape.trans h.tape, k.output.trans h.output, Nat.le_trans h.size k.size, fun i hi hs => (k.block i (Nat.lt_of_lt_of_le hi h.size) (fun hk => by rcases hk with hk | hk; exact hs hk; omega)).trans (h.block i hi hs)⟩
theorem Kept.of_below (h : Below w.heap.size w w1) : Kept S w w1 := ⟨h.os, h.tape, h.output, h.size, fun i hi _ => h.block i hi⟩
theorem Kept.alloc (h : Kept S w w1) (o : Obj) : Kept S w (w1.alloc o) := h.trans (Kept.of_below ((Below.refl _ _).alloc (Nat.le_refl _) o))
theorem Kept.drewN (h : Kept S w w1) (n : Nat) : Kept S w (w1.drewN n) := h.trans ⟨rfl, rfl, rfl, Nat.le_refl _, fun _ _ _ => rfl⟩
theorem Kept.setCell (h : Kept S w w1) {p : Addr} (hp : S p.block) (v : Value) : Kept S w (w1.setCell p v) := by
  refine h.trans ⟨rfl, rfl, rfl, by simp [World.setCell], fun i hi hn => ?_⟩
  exact Below.heap_setCell _ _ _ _ (fun e => hn (e ▸ hp))
theorem Kept.grown {row : Option Nat} (h : Kept S w w1) (hg : w1.grownBy w2 row) (hr : ∀ g, row = some g → S g) : Kept S w w2 :=
  h.trans ⟨hg.os, hg.tape, hg.output, hg.size, fun i hi hn => hg.block i hi (fun e => hn (hr i e.symm))⟩
theorem Kept.below {B : Nat} (h : Kept S w w1) (hS : ∀ k, S k → B ≤ k) (hB : B ≤ w.heap.size) : Below B w w1 :=
  ⟨h.os, h.tape, h.output, h.size, fun k hk => h.block k (Nat.lt_of_lt_of_le hk hB) (fun hs => by have := hS k hs; omega)⟩
theorem Kept.bk {g : Nat} {C : List Value} {T : TypeId} (h : Kept S w w1) (hb : Bk w g C T) (hn : ¬ S g) : Bk w1 g C T := hb.of_block (h.block g hb.lt hn)
theorem Kept.own {α : Type} {B : Nat} {e : TypeId} {sz : Nat} {enc : α → List Value} {v : Value} {l : List α} (h : Kept S w w1) (ho : Own w B e sz enc v l) (hn : ∀ g, v.ownBlock = some g → ¬ S g) : Own w1 B e sz enc v l :=
  ho.kept fun k hk => h.block k (ho.block k hk).2 (hn k hk)
end

/-! ### rows of the call's own -/
section
variable {α : Type} {w w' : World} {B : Nat} {e : TypeId} {sz : Nat} {enc : α → List Value} {v : Value} {l : List α}
theorem Own.kind (h : Own w B e sz enc v l) : ∀ g, v.ownBlock = some g → ∃ cur, w.heap[g]? = some (.cells cur e (0, 0)) := by
  intro g hg
  rcases h.2 with ⟨rfl, _⟩ | ⟨g', cap, cur, rfl, _, hh, _⟩
  · cases hg
  · cases hg
    exact ⟨cur, hh⟩
theorem Own.ne_bk {g : Nat} {C : List Value} {T : TypeId} (h : Own w B e sz enc v l) (hb : Bk w g C T) (hT : e ≠ T) : v.ownBlock ≠ some g := by
  intro hg
  obtain ⟨cur, hh⟩ := h.kind g hg
  unfold Bk at hb
  rw [hb] at hh
  cases hh
  exact hT rfl
theorem Own.ne_own {β : Type} {B' : Nat} {e' : TypeId} {sz' : Nat} {enc' : β → List Value} {v' : Value} {l' : List β} (h : Own w B e sz enc v l) (h' : Own w B' e' sz' enc' v' l') (he : e ≠ e') : ∀ g, v.ownBlock = some g → v'.ownBlock ≠ some g := by
  intro g hg hg'
  obtain ⟨cur, hh⟩ := h.kind g hg
  obtain ⟨cur', hh'⟩ := h'.kind g hg'
  rw [hh] at hh'
  cases hh'
  exact he rfl
theorem Own.next {w0 : World} (h : Own w0 B e sz enc v l) (e0 : w.heap = w0.heap) (hb : Below w.heap.size w w') : Own w' B e sz enc v l :=
  h.kept fun k hk => by rw [hb.block k (by rw [e0]; exact (h.block k hk).2), e0]
theorem Bk.next0 {w0 : World} {g : Nat} {C : List Value} {T : TypeId} (h : Bk w0 g C T) (e0 : w.heap = w0.heap) (hb : Below w.heap.size w w') : Bk w' g C T := by
  unfold Bk at *
  rw [hb.block g (by rw [e0]; exact (Array.getElem?_eq_some_iff.1 h).1), e0]; exact h
theorem Own.ptr {a : Option Addr} {n c : Nat} (h : Own w B e sz enc (.slice a n c) l) (hn : 0 < n) : ∃ g, a = some ⟨g, 0, none⟩ ∧ B ≤ g ∧ g < w.heap.size ∧ n ≤ c := by
  rcases h.2 with ⟨h1, h2⟩ | ⟨g, cap, cur, h1, h2, h3, h4, _⟩
  · injection h1 with _ h3 _; omega
  · injection h1 with ha hb hc
    exact ⟨g, ha, h2, (Array.getElem?_eq_some_iff.1 h3).1, by omega⟩
theorem Own.cellAt (he : Enc sz enc) {g n c : Nat} (h : Own w B e sz enc (.slice (some ⟨g, 0, none⟩) n c) l) {k : Nat} {x : α} (hk : l[k]? = some x) {j : Nat} {u : Value} (hj : (enc x)[j]? = some u) : w.cell? ⟨g, k * sz + j, none⟩ = some u := by
  have hkl := (List.getElem?_eq_some_iff.1 hk).1
  obtain ⟨b, off, ha, _, hc⟩ := (h.addr he).elem hkl
  cases ha
  rw [List.getElem?_eq_getElem hkl] at hk
  cases hk
  have := hc j u hj
  rwa [Nat.zero_add] at this
theorem Own.freeAt {g n c : Nat} (h : Own w B e sz enc (.slice (some ⟨g, 0, none⟩) n c) l) (j : Nat) : w.frozen? ⟨g, j, none⟩ = false := by
  obtain ⟨cur, hh⟩ := h.kind g rfl
  exact Bk.free (C := cur.toList) (T := e) (by unfold Bk; simpa using hh) j
theorem Own.set_other {g : Nat} (h : Own w B e sz enc v l) (hne : v.ownBlock ≠ some g) (j : Nat) (u : Value) : Own (w.setCell ⟨g, j, none⟩ u) B e sz enc v l :=
  h.kept fun k hk => Below.heap_setCell _ _ _ _ (fun e => hne (by rw [hk, e]))
/-- the first n elements alone -/
theorem Own.cut {a : Option Addr} {n m c : Nat} {l1 l2 : List α} (he : Enc sz enc) (h : Own w B e sz enc (.slice a (n + m) c) (l1 ++ l2)) (hn : n = l1.length) (hm : m = l2.length) : Own w B e sz enc (.slice a n c) l1 := by
  subst hn hm
  unfold Own at *
  refine ⟨flat_len he.len l1, ?_⟩
  rcases h.2 with ⟨h1, h2⟩ | ⟨g, cap, cur, h1, h2, h3, h4, h5, h6, h7⟩
  · injection h1 with ha hb hc
    rw [List.length_append] at h2
    left
    have : l1.length = 0 := by omega
    exact ⟨by rw [ha, hc, this], this⟩
  · injection h1 with ha hb hc
    right
    refine ⟨g, cap, cur, by rw [ha, hc], h2, h3, by rw [List.length_append] at h4; omega, h5, h6, ?_⟩
    have := congrArg (List.take (l1.length * sz)) h7
    rw [List.take_take, List.flatMap_append, List.take_left' (flat_len he.len l1)] at this
    rw [← this]
    congr 1
    rw [List.length_append, Nat.add_mul]; omega
/-- one cell of one element is written -/
theorem Own.setAt (he : Enc sz enc) {g n c : Nat} (h : Own w B e sz enc (.slice (some ⟨g, 0, none⟩) n c) l) {k : Nat} (hk : k < l.length) {p : Nat} (hp : p < sz) (u : Value) (y : α) (hy : enc y = (enc l[k]).set p u) :
    Own (w.setCell ⟨g, k * sz + p, none⟩ u) B e sz enc (.slice (some ⟨g, 0, none⟩) n c) (l.set k y) := by
  unfold Own at *
  have hlen : (l.set k y).length = l.length := List.length_set
  refine ⟨by rw [flat_len he.len], ?_⟩
  rcases h.2 with ⟨h1, h2⟩ | ⟨g', cap, cur, h1, h2, h3, h4, h5, h6, h7⟩
  · cases h1
  · injection h1 with ha hb hc
    injection ha with ha
    injection ha with hg
    subst hg hb hc
    right
    rw [hlen]
    have hb' := Bk.set (w := w) (g := g) (C := cur.toList) (T := e) (by unfold Bk; simpa using h3) (k * sz + p) u
    unfold Bk at hb'
    refine ⟨g, c, _, rfl, h2, hb', h4, h5, ?_, ?_⟩
    · simp; exact h6
    · have hle : k * sz + p < l.length * sz := by
        have : (k + 1) * sz ≤ l.length * sz := Nat.mul_le_mul_right _ hk
        rw [Nat.add_mul] at this; omega
      have e1 : ((cur.toList.set (k * sz + p) u).toArray).toList.take (l.length * sz) = ((cur.toList.take (l.length * sz)).set (k * sz + p) u) := by
        simp [List.take_set]
      rw [e1, h7]
      apply List.ext_getElem?
      intro i
      by_cases hi : i < l.length * sz
      · have hsz : 0 < sz := by omega
        have hmod : i % sz < sz := Nat.mod_lt _ hsz
        have hdm : i / sz * sz + i % sz = i := by rw [Nat.mul_comm]; exact Nat.div_add_mod i sz
        have hd : i / sz < l.length := Nat.div_lt_of_lt_mul (by rw [Nat.mul_comm]; exact hi)
        have f1 := flat_get he.len l (i / sz) (i % sz) hmod
        have f2 := flat_get he.len (l.set k y) (i / sz) (i % sz) hmod
        rw [hdm] at f1 f2
        rw [f2, List.getElem?_set, f1]
        by_cases hik : k * sz + p = i
        · have hq : i / sz = k := by rw [← hik, Nat.mul_comm, Nat.mul_add_div hsz, Nat.div_eq_of_lt hp]; rfl
          have hr : i % sz = p := by rw [← hik, Nat.mul_comm, Nat.mul_add_mod, Nat.mod_eq_of_lt hp]
          rw [hq, hr, List.getElem?_set_self hk]
          have hpl : p < (enc l[k]).length := by rw [he.len]; exact hp
          simp [hy, hik, hi, flat_len he.len, List.getElem?_set_self hpl]
        · rw [if_neg hik, List.getElem?_set]
          by_cases hq : k = i / sz
          · subst hq
            have hpne : p ≠ i % sz := fun e => hik (by rw [e]; exact hdm)
            rw [if_pos rfl, if_pos hk, List.getElem?_eq_getElem hk]
            simp [hy, List.getElem?_set_ne hpne]
          · rw [if_neg hq]
      · have a1 : ((l.flatMap enc).set (k * sz + p) u).length ≤ i := by rw [List.length_set, flat_len he.len]; omega
        have a2 : ((l.set k y).flatMap enc).length ≤ i := by rw [flat_len he.len, hlen]; omega
        rw [List.getElem?_eq_none a1, List.getElem?_eq_none a2]
end

section
variable {α : Type} {P : Program} {w : World} {ops : Array Oper} {rest : List Oper} {o : Oper} {a : Act} {Q : Exit → Act → World → Prop}
/-- append one element to the call's own slice: in place, or in new memory -/
theorem wpList_push2 (hgd : o.guard = none) (s x : Operand) (t : TypeId) (ho : o.op = .call { callee := .builtin .append, args := #[s, x], argTypes := #[t, t] })
    (B : Nat) (e : TypeId) (sz bytes : Nat) (hT : SlTy P t e sz bytes) (enc : α → List Value) (he : Enc sz enc)
    (v : Value) (l : List α) (hs : a.eval s = v) (hown : Own w B e sz enc v l)
    (y : α) (G : Nat) (hx : a.eval x = .slice (some ⟨G, 0, none⟩) 1 1) (hG : ∀ j u, (enc y)[j]? = some u → w.cell? ⟨G, j, none⟩ = some u)
    (hroom : (l.length + 1) * bytes ≤ 140737488355328) (hmax : l.length + 1 ≤ maxLen) (hBs : B ≤ w.heap.size)
    (h : ∀ v' w', Own w' B e sz enc v' (l ++ [y]) → w.grownBy w' v.ownBlock →
      ((∃ g c, v = .slice (some ⟨g, 0, none⟩) l.length c ∧ v' = .slice (some ⟨g, 0, none⟩) (l.length + 1) c) ∨ (v'.ownBlock = some w.heap.size ∧ w.grownBy w' none)) →
      wpList P ops Q rest (a.put o.dst v') w') : wpList P ops Q (o :: rest) a w := by
  obtain ⟨hu, z, hi, hz, hsz⟩ := hT
  obtain ⟨i, hi1, hi2, hi3, hi4⟩ := info_parts hi
  have hnews : ∀ j u, (enc y)[j]? = some u → w.cell? ((⟨G, 0, none⟩ : Addr).add j) = some u := by
    intro j u hj
    have hadd : (⟨G, 0, none⟩ : Addr).add j = ⟨G, j, none⟩ := by unfold Addr.add; split <;> simp_all
    rw [hadd]; exact hG j u hj
  by_cases hroom2 : ∃ g c, v = .slice (some ⟨g, 0, none⟩) l.length c ∧ l.length + 1 ≤ c
  · obtain ⟨g, c, rfl, hc⟩ := hroom2
    refine wpList_append_fits w hgd s x t ho B e i sz hu hi1 hi3 g l.length c (l.flatMap enc) hs hown ⟨G, 0, none⟩ 1 1 (enc y) hx (by rw [he.len, Nat.one_mul]) hnews (he.one y) hc ?_
    intro w' h1 h2
    refine h _ w' ?_ h2 (.inl ⟨g, c, rfl, rfl⟩)
    unfold Own
    rw [List.length_append, List.flatMap_append]
    simpa using h1
  · -- it has to grow
    have hgrow : ∃ v' w', (Builtin.append_ #[t, t] o.type #[v, .slice (some ⟨G, 0, none⟩) 1 1]).run P w = .ok v' w' ∧ Own w' B e sz enc v' (l ++ [y]) ∧ v'.ownBlock = some w.heap.size ∧ ∀ row, w.grownBy w' row := by
      have hsmall : l.length + 1 ≤ 9223372036854775807 := by unfold maxLen at hmax; omega
      have hlen : (enc y).length = 1 * i.size := by rw [he.len, hi3, Nat.one_mul]
      have hxs : (l.flatMap enc).length = l.length * i.size := by rw [flat_len he.len, hi3]
      have grown : ∀ (old : Nat), old < l.length + 1 → Own (w.drew.alloc (.cells ((l.flatMap enc).toArray ++ (enc y).toArray ++ Builtin.zeroCells z.cells (grownCap w (l.length + 1) old e - (l.length + 1))) e)) B e sz enc
          (.slice (some ⟨w.heap.size, 0, none⟩) (l.length + 1) (grownCap w (l.length + 1) old e)) (l ++ [y]) ∧
          ∀ row, w.grownBy (w.drew.alloc (.cells ((l.flatMap enc).toArray ++ (enc y).toArray ++ Builtin.zeroCells z.cells (grownCap w (l.length + 1) old e - (l.length + 1))) e)) row := by
        intro old hold
        have hge := grownCap_ge w (l.length + 1) old e
        have hcm := grownCap_le_maxLen w (l.length + 1) old e hmax
        refine ⟨?_, fun row => ⟨rfl, rfl, rfl, by simp, fun k hk _ => Below.heap_alloc w.drew _ k hk⟩⟩
        unfold Own
        have e1 : (l ++ [y]).flatMap enc = l.flatMap enc ++ enc y := by simp
        have e2 : (l ++ [y]).length = l.length + 1 := by simp
        rw [e1, e2]
        have hl2 : (l.flatMap enc ++ enc y).length = (l.length + 1) * sz := by rw [List.length_append, flat_len he.len, he.len, Nat.add_mul, Nat.one_mul]
        refine ⟨hl2, .inr ⟨w.heap.size, _, _, rfl, hBs, heap_alloc_new w.drew _, hge, hcm, ?_, ?_⟩⟩
        · simp only [Array.size_append, List.size_toArray, size_zeroCells, hz, flat_len he.len, he.len]
          have : grownCap w (l.length + 1) old e = (l.length + 1) + (grownCap w (l.length + 1) old e - (l.length + 1)) := by omega
          rw [this, Nat.add_mul, Nat.add_mul]
          simp
        · simp only [Array.toList_append, List.append_assoc]
          rw [← List.append_assoc, ← hl2]
          exact List.take_left
      rcases hown.2 with ⟨rfl, h0⟩ | ⟨g, cap, cur, rfl, hbg, hg, hnc, hcm, hcs, htake⟩
      · have hl0 : l = [] := List.eq_nil_of_length_eq_zero h0
        subst hl0
        have hr := run_append_nil (P := P) w t o.type e i z hu hi1 hi2 ⟨G, 0, none⟩ 1 1 (enc y) hlen hnews (by omega) (by omega) (by rw [hi4]; simp at hroom; omega)
        have hgr := grown 0 (by omega)
        simp only [List.length_nil, Nat.zero_add, List.flatMap_nil, List.nil_append, Array.empty_append] at hgr
        refine ⟨_, _, hr, ?_, rfl, hgr.2⟩
        simpa using hgr.1
      · have hgt : ¬ l.length + 1 ≤ cap := fun hc => hroom2 ⟨g, cap, rfl, hc⟩
        have holds : ∀ j u, (l.flatMap enc)[j]? = some u → w.cell? ((⟨g, 0, none⟩ : Addr).add j) = some u := World.ownsRow.cells hown (g := g) rfl
        have hr := run_append_grow (P := P) w t o.type e i z hu hi1 hi2 ⟨g, 0, none⟩ l.length cap (l.flatMap enc) hxs holds ⟨G, 0, none⟩ 1 1 (enc y) hlen hnews (by omega) (by omega) (by rw [hi4]; exact growslice_fits (by omega) hroom)
        have hgr := grown cap (by omega)
        exact ⟨_, _, hr, hgr.1, rfl, hgr.2⟩
    obtain ⟨v', w', hr, h1, h2, h3⟩ := hgrow
    refine wpList_plain hgd fun K hK => ?_
    unfold Oper.wp execOp
    simp only [ho, resolve, invoke, builtin, Sem.run_bind, Sem.run_pure, Result.andThen_ok, List.map_toArray, List.map_cons, List.map_nil, hs, hx, hr]
    exact hK _ _ (h v' w' h1 (h3 _) (.inr ⟨h2, h3 none⟩))
end
end Go.Proofs.YtohinfefidahlaaGreatDoor
