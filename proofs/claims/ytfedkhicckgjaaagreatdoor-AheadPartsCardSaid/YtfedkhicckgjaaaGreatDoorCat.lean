/- A slice appended to a slice; memory for so many elements. Nothing of a program is named here. -/
import Derived.Test.YtfedkhicckgjaaaGreatDoorMem
import Derived.Lib.AppendZeros
namespace Go.Proofs.YtfedkhicckgjaaaGreatDoor
open Go.RowKit

section
variable {α : Type} {P : Program} {w : World} {ops : Array Oper} {rest : List Oper} {o : Oper} {a : Act} {Q : Exit → Act → World → Prop}

theorem run_append_none (t ty e : TypeId) (i : TypeInfo) (ht : P.underlying t = some (.slice e)) (hi : P.info? e = some i) (B size : Nat) (v : Value) (n : Nat) (xs : List Value) (hown : w.ownsRow B e size v n xs) (c : Nat) :
    (Builtin.append_ #[t, t] ty #[v, .slice none 0 c]).run P w = .ok v w := by
  rcases hown.2 with ⟨rfl, rfl⟩ | ⟨g, cap, cur, rfl, hbg, hg, hnc, hcm, hcs, htake⟩
  · simp [Builtin.append_, run_underlying ht, sizeOf, typeInfo, hi, Builtin.lenOf, Builtin.firstCells]
  · simp [Builtin.append_, run_underlying ht, sizeOf, typeInfo, hi, Builtin.lenOf, Builtin.firstCells, loadCells, hnc, storeCells]

/-- append the elements of a slice to the call's own slice -/
theorem wpList_cat (hgd : o.guard = none) (s x : Operand) (t : TypeId) (ho : o.op = .call { callee := .builtin .append, args := #[s, x], argTypes := #[t, t] })
    (B : Nat) (e : TypeId) (sz bytes : Nat) (hT : SlTy P t e sz bytes) (enc : α → List Value) (he : Enc sz enc)
    (v : Value) (l : List α) (hs : a.eval s = v) (hown : Own w B e sz enc v l)
    (ra : Option Addr) (c2 n2 : Nat) (m : List α) (hn2 : n2 = m.length) (hx : a.eval x = .slice ra n2 c2) (hA : At w sz enc ra m)
    (hroom : (l.length + m.length) * bytes ≤ 140737488355328) (hmax : l.length + m.length ≤ maxLen) (W : World) (hB : Below B W w) (hBs : B ≤ w.heap.size)
    (h : ∀ v' w', Own w' B e sz enc v' (l ++ m) → Below B W w' → w.grownBy w' v.ownBlock → wpList P ops Q rest (a.put o.dst v') w') : wpList P ops Q (o :: rest) a w := by
  obtain ⟨hu, z, hi, hz, hsz⟩ := hT
  obtain ⟨i, hi1, hi2, hi3, hi4⟩ := info_parts hi
  subst hn2
  cases ra with
  | none =>
    have hm : m = [] := by
      rcases hA with h | ⟨b, off, ha, _⟩
      · exact h
      · cases ha
    subst hm
    refine Lib.wpList_append_run w hgd s x t t ho v _ hs hx v w (run_append_none t o.type e i hu hi1 B sz v l.length _ hown c2) ?_
    exact h v w (by simpa using hown) hB ⟨rfl, rfl, rfl, Nat.le_refl _, fun _ _ _ => rfl⟩
  | some ad =>
    have hnews : ∀ j u, (m.flatMap enc)[j]? = some u → w.cell? (ad.add j) = some u := by
      rcases hA with h | ⟨b, off, ha, hlt, hr⟩
      · subst h; intro j u hj; simp at hj
      · cases ha
        intro j u hj
        have hjl : j < m.length * sz := by rw [← flat_len he.len]; exact (List.getElem?_eq_some_iff.1 hj).1
        have hmod : j % sz < sz := Nat.mod_lt _ hsz
        have hdm : j / sz * sz + j % sz = j := by rw [Nat.mul_comm]; exact Nat.div_add_mod j sz
        have hd : j / sz < m.length := Nat.div_lt_of_lt_mul (by rw [Nat.mul_comm]; exact hjl)
        have h1 := flat_get he.len m (j / sz) (j % sz) hmod
        rw [hdm, hj, List.getElem?_eq_getElem hd] at h1
        have h2 := hr (j / sz) m[j / sz] (List.getElem?_eq_getElem hd) (j % sz) u h1.symm
        have e1 : (⟨b, off, none⟩ : Addr).add j = ⟨b, off + j, none⟩ := by unfold Addr.add; split <;> simp_all
        rw [e1]
        rwa [Nat.add_assoc, hdm] at h2
    refine wpList_append_own w hgd s x t ho B e i z sz bytes hu hi1 hi2 hi3 hi4 hz hsz v l.length (l.flatMap enc) hs hown ad m.length c2 (m.flatMap enc) hx (flat_len he.len m) hnews
      (fun u hu => by obtain ⟨y, _, hy⟩ := List.mem_flatMap.1 hu; exact he.one y u hy) hmax hroom hBs ?_
    intro v' w' h1 h2 _
    refine h v' w' ?_ (hB.grown h2 hBs (fun k hk => (hown.lt k hk).1)) h2
    unfold Own
    rw [List.length_append, List.flatMap_append]
    simpa using h1
end

theorem Own.zeros {α : Type} (w : World) (e : TypeId) (sz : Nat) (enc : α → List Value) (cs : Array Value) (cap : Nat) (hcm : cap ≤ maxLen) (hcs : cs.size = cap * sz) (B : Nat) (hB : B ≤ w.heap.size) :
    Own (w.alloc (.cells cs e)) B e sz enc (.slice (some ⟨w.heap.size, 0, none⟩) 0 cap) ([] : List α) :=
  ⟨by simp, .inr ⟨w.heap.size, cap, cs, rfl, hB, by rw [World.alloc]; simp, Nat.zero_le _, hcm, hcs, by simp⟩⟩
end Go.Proofs.YtfedkhicckgjaaaGreatDoor
