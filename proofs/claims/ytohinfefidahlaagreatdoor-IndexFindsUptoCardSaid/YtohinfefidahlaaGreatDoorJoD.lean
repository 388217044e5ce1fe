/- Maps with strings as keys that the call made itself: whatever their elements are. Maps whose keys are arrays or structs, that the call made itself: whatever their elements are. -/
import Derived.Test.YtohinfefidahlaaGreatDoorJoA
import Derived.MapKept
import Derived.Maps.OwnOps
import Derived.WideKeyArr
import Derived.DeepKeys5
namespace Go.Proofs.YtohinfefidahlaaGreatDoor
open Go.RowKit

/-- the entries of a map: keys that are all unlike, each with its value, in the order in which they came -/
abbrev KV := List (Bytes × Value)
def entryOf (x : Bytes × Value) (e : MapEntry) : Prop := e.key = .string ⟨x.1.toArray⟩ ∧ e.val = x.2
/-- block r is a map with these entries -/
def SMap (w : World) (r : Nat) (m : KV) : Prop :=
  ∃ es clock, w.heap[r]? = some (.map es clock) ∧ es.toList.map (fun e => (e.key, e.val)) = m.map (fun x => (Value.string ⟨x.1.toArray⟩, x.2)) ∧ MapKept.Stamped es clock
def mapGet (m : KV) (k : Bytes) : Option Value := (m.find? fun x => x.1 == k).map (·.2)
def mapPut (m : KV) (k : Bytes) (v : Value) : KV := match m with
  | [] => [(k, v)]
  | x :: m => if x.1 == k then (k, v) :: m else x :: mapPut m k v

theorem mapGet_put (m : KV) (k : Bytes) (v : Value) (k' : Bytes) : mapGet (mapPut m k v) k' = if k' = k then some v else mapGet m k' := by
  induction m with
  | nil =>
    by_cases h : k' = k
    · subst h; simp [mapGet, mapPut]
    · have : (k == k') = false := by simpa using fun e => h e.symm
      simp [mapGet, mapPut, this, h]
  | cons x m ih =>
    unfold mapPut
    by_cases hx : x.1 = k
    · have hb : (x.1 == k) = true := by simpa using hx
      rw [if_pos hb]
      by_cases h : k' = k
      · subst h; simp [mapGet]
      · have h1 : (k == k') = false := by simpa using fun e => h e.symm
        have h2 : (x.1 == k') = false := by rw [hx]; exact h1
        simp [mapGet, h1, h2, h]
    · have hb : (x.1 == k) = false := by simpa using hx
      rw [if_neg (by simp [hb])]
      by_cases h : x.1 = k'
      · have h1 : (x.1 == k') = true := by simpa using h
        have h2 : k' ≠ k := fun e => hx (h.trans e)
        simp [mapGet, h1, h2]
      · have h1 : (x.1 == k') = false := by simpa using h
        have : mapGet (x :: mapPut m k v) k' = mapGet (mapPut m k v) k' := by simp [mapGet, h1]
        rw [this, ih]
        have h3 : mapGet (x :: m) k' = mapGet m k' := by simp [mapGet, h1]
        rw [h3]

section
variable {P : Program} {w w' : World} {r : Nat} {m : KV}

theorem SMap.lt (h : SMap w r m) : r < w.heap.size := by
  obtain ⟨es, clock, h, _⟩ := h
  exact (Array.getElem?_eq_some_iff.1 h).1
theorem SMap.of_block (h : SMap w r m) (e : w'.heap[r]? = w.heap[r]?) : SMap w' r m := by
  obtain ⟨es, clock, h, hm⟩ := h
  exact ⟨es, clock, e.trans h, hm⟩
theorem SMap.below {B : Nat} (h : SMap w r m) (hb : Below B w w') (hr : r < B) : SMap w' r m := h.of_block (hb.block r hr)
theorem SMap.grown {row : Option Nat} (h : SMap w r m) (hg : w.grownBy w' row) (hr : row ≠ some r) : SMap w' r m := h.of_block (hg.block r h.lt (fun e => hr e.symm))
theorem SMap.alloc (h : SMap w r m) (o : Obj) : SMap (w.alloc o) r m := h.of_block (Below.heap_alloc w o r h.lt)
theorem SMap.setCell (h : SMap w r m) {a : Addr} (v : Value) : SMap (w.setCell a v) r m := by
  obtain ⟨es, clock, h, hm⟩ := h
  refine ⟨es, clock, ?_, hm⟩
  simp only [World.setCell, Array.getElem?_modify]
  split
  · rw [h]; rfl
  · exact h
theorem SMap.new (w : World) : SMap (w.alloc (.map #[] 0)) w.heap.size [] := ⟨#[], 0, heap_alloc_new w _, rfl, MapKept.stamped_empty 0⟩

theorem str_inj {a b : Bytes} : ((ByteArray.mk a.toArray) == (ByteArray.mk b.toArray)) = (a == b) := by
  show (a.toArray == b.toArray) = (a == b)
  simp

/-- where a key is found: its place and its value -/
def placeOf (k : Bytes) : KV → Nat → Option (Nat × Value)
  | [], _ => none
  | x :: m, i => if k == x.1 then some (i, x.2) else placeOf k m (i + 1)

theorem findNow_str (k : Bytes) : ∀ (es : List MapEntry) (m : KV) (i : Nat), es.map (fun e => (e.key, e.val)) = m.map (fun x => (Value.string ⟨x.1.toArray⟩, x.2)) →
    Instr.findNow .string (.string ⟨k.toArray⟩) es i = some (placeOf k m i)
  | [], [], _, _ => rfl
  | e :: es, x :: m, i, h => by
    simp only [List.map_cons, List.cons.injEq, Prod.mk.injEq] at h
    obtain ⟨⟨h1, h2⟩, h3⟩ := h
    unfold Instr.findNow placeOf
    rw [h1, h2]
    simp only [Instr.sameNow, str_inj]
    cases hk : (k == x.1)
    · simp only [Bool.false_eq_true, if_false]; exact findNow_str k es m (i + 1) h3
    · simp
  | [], _ :: _, _, h => by simp at h
  | _ :: _, [], _, h => by simp at h

theorem run_findKey_str {K : TypeId} (hK : P.underlying K = some .string) (k : Bytes) {es : List MapEntry} (h : es.map (fun e => (e.key, e.val)) = m.map (fun x => (Value.string ⟨x.1.toArray⟩, x.2))) :
    (Instr.findKey K (.string ⟨k.toArray⟩) es).run P w = .ok (placeOf k m 0) w := by
  simp [Instr.findKey, run_underlying hK, findNow_str k es m 0 h]

theorem run_checkKey_str {K : TypeId} (hK : P.underlying K = some .string) (b : Bool) (k : ByteArray) : (Instr.checkKey b 10000 K (.string k)).run P w = .ok () w := by
  have h : ∀ n, (Instr.checkKey b (n + 1) K (.string k)).run P w = .ok () w := fun n => by simp [Instr.checkKey, run_underlying hK]
  exact h 9999

theorem placeOf_get (k : Bytes) : ∀ (m : KV) (i : Nat), (placeOf k m i).map (·.2) = mapGet m k
  | [], _ => rfl
  | x :: m, i => by
    unfold placeOf mapGet
    by_cases h : k = x.1
    · have h1 : (k == x.1) = true := by simpa using h
      have h2 : (x.1 == k) = true := by simpa using h.symm
      simp [h1, h2]
    · have h1 : (k == x.1) = false := by simpa using h
      have h2 : (x.1 == k) = false := by simpa using fun e => h e.symm
      rw [if_neg (by simp [h1])]
      simp only [List.find?_cons, h2]
      exact placeOf_get k m (i + 1)

theorem run_lookup_str {T K E : TypeId} (hT : P.underlying T = some (.map K E)) (hK : P.underlying K = some .string) {z : Value} (hz : (zeroValue E).run P w = .ok z w) (h : SMap w r m) (k : Bytes) (ok : Bool) :
    (Instr.lookup T (.map (some r)) (.string ⟨k.toArray⟩) ok).run P w = .ok (if ok then .tuple #[(mapGet m k).getD z, .bool (mapGet m k).isSome] else (mapGet m k).getD z) w := by
  obtain ⟨es, clock, h, hm, _⟩ := h
  have hg := placeOf_get k m 0
  cases hp : placeOf k m 0 with
  | none =>
    rw [hp] at hg
    simp only [Option.map_none] at hg
    rw [← hg]
    simp [Instr.lookup, run_underlying hT, MapKept.run_getObj_map h, run_checkKey_str hK, run_findKey_str hK k hm, hp, hz, Result.andThen]
  | some p =>
    rw [hp] at hg
    simp only [Option.map_some] at hg
    rw [← hg]
    simp [Instr.lookup, run_underlying hT, MapKept.run_getObj_map h, run_checkKey_str hK, run_findKey_str hK k hm, hp, Result.andThen]

theorem placeOf_none_put (k : Bytes) (v : Value) : ∀ (m : KV) (i : Nat), placeOf k m i = none → mapPut m k v = m ++ [(k, v)]
  | [], _, _ => rfl
  | x :: m, i, h => by
    unfold placeOf at h
    by_cases hk : (k == x.1) = true
    · rw [if_pos hk] at h; cases h
    · rw [if_neg hk] at h
      unfold mapPut
      have : ¬ (x.1 == k) = true := by intro e; apply hk; have := eq_of_beq e; simp [this]
      rw [if_neg this, placeOf_none_put k v m (i + 1) h]; rfl
theorem placeOf_some_put (k : Bytes) (v : Value) : ∀ (m : KV) (i j : Nat) (u : Value), placeOf k m i = some (j, u) →
    ∃ _ : i ≤ j, ∃ h2 : j - i < m.length, (m[j - i]).1 = k ∧ mapPut m k v = m.set (j - i) (k, v)
  | [], _, _, _, h => by simp [placeOf] at h
  | x :: m, i, j, u, h => by
    unfold placeOf at h
    by_cases hk : (k == x.1) = true
    · rw [if_pos hk] at h
      simp only [Option.some.injEq, Prod.mk.injEq] at h
      obtain ⟨rfl, rfl⟩ := h
      have e := eq_of_beq hk
      refine ⟨Nat.le_refl _, by simp, by simp [e], ?_⟩
      unfold mapPut
      have : (x.1 == k) = true := by simp [e]
      rw [if_pos this]; simp
    · rw [if_neg hk] at h
      obtain ⟨h1, h2, h3, h4⟩ := placeOf_some_put k v m (i + 1) j u h
      have e : j - i = (j - (i + 1)) + 1 := by omega
      refine ⟨by omega, by simp; omega, ?_, ?_⟩
      · simp only [e, List.getElem_cons_succ]; exact h3
      · unfold mapPut
        have : ¬ (x.1 == k) = true := by intro e; apply hk; have := eq_of_beq e; simp [this]
        rw [if_neg this, h4, e]; rfl

theorem setIfInBounds_getElem? (a : Array Obj) (i k : Nat) (o : Obj) (h : i < a.size) : (a.setIfInBounds i o)[k]? = if i = k then some o else a[k]? := by
  rw [Array.getElem?_setIfInBounds]; split <;> simp_all

theorem placeOf_none_ne (k : Bytes) : ∀ (m : KV) (i : Nat), placeOf k m i = none → ∀ x ∈ m, x.1 ≠ k
  | [], _, _, _, hx => absurd hx (List.not_mem_nil)
  | y :: m, i, h, x, hx => by
    unfold placeOf at h
    split at h
    · cases h
    · rename_i hk
      rcases List.mem_cons.1 hx with e | e
      · rw [e]; intro e2; exact hk (by simp [e2])
      · exact placeOf_none_ne k m (i + 1) h x e

theorem run_mapUpdate_str {T K E : TypeId} (hT : P.underlying T = some (.map K E)) (hK : P.underlying K = some .string) (h : SMap w r m) (k : Bytes) (v : Value) :
    ∃ w', (Instr.mapUpdate T (.map (some r)) (.string ⟨k.toArray⟩) v).run P w = .ok () w' ∧ SMap w' r (mapPut m k v) ∧ w.grownBy w' (some r) ∧ w'.heap.size = w.heap.size := by
  have hlt := h.lt
  obtain ⟨es, clock, h, hm, hst⟩ := h
  have hset : ∀ o, (setObj r o).run P w = .ok () { w with heap := w.heap.setIfInBounds r o } := by
    intro o; simp [setObj, Sem.run, h]
  have hgrown : ∀ o, w.grownBy ({ w with heap := w.heap.setIfInBounds r o } : World) (some r) := fun o =>
    ⟨rfl, rfl, rfl, by simp, fun j hj hne => by
      show (w.heap.setIfInBounds r o)[j]? = _
      rw [setIfInBounds_getElem? _ _ _ _ hlt, if_neg (fun e => hne (by rw [e]))]⟩
  cases hp : placeOf k m 0 with
  | none =>
    refine ⟨{ w with heap := w.heap.setIfInBounds r (.map (es.push { key := .string ⟨k.toArray⟩, val := v, born := clock }) (clock + 1)) }, ?_, ?_, hgrown _, by simp⟩
    · simp [Instr.mapUpdate, run_underlying hT, MapKept.run_getObj_map h, run_checkKey_str hK, run_findKey_str hK k hm, hp, Result.andThen, hset]
    · refine ⟨_, _, by rw [setIfInBounds_getElem? _ _ _ _ hlt, if_pos rfl], ?_, MapKept.stamped_push hst fun x hx e => ?_⟩
      · rw [placeOf_none_put k v m 0 hp]
        simp [hm]
      · have h1 : (x.key, x.val) ∈ es.toList.map (fun e => (e.key, e.val)) := List.mem_map_of_mem hx
        rw [hm] at h1
        obtain ⟨y, hy, h2⟩ := List.mem_map.1 h1
        have h3 : (Value.string ⟨y.1.toArray⟩) = Value.string ⟨k.toArray⟩ := by
          have := congrArg Prod.fst h2
          rw [← e]; exact this
        have h4 : y.1 = k := by simpa using h3
        exact placeOf_none_ne k m 0 hp y hy h4
  | some p =>
    obtain ⟨j, u⟩ := p
    obtain ⟨_, h2, h3, h4⟩ := placeOf_some_put k v m 0 j u hp
    simp only [Nat.sub_zero] at h2 h3 h4
    have hl : es.toList.length = m.length := by have := congrArg List.length hm; simpa using this
    have hj : j < es.size := by simpa using (show j < es.toList.length by omega)
    have hkey : es[j].key = .string ⟨k.toArray⟩ := by
      have e := congrArg (fun l => l[j]?) hm
      simp only [List.getElem?_map] at e
      rw [List.getElem?_eq_getElem (by omega), List.getElem?_eq_getElem h2] at e
      simp only [Option.map_some, Option.some.injEq, Prod.mk.injEq] at e
      rw [h3] at e
      simpa using e.1
    have hstay : (Instr.keyThatStays (((es[j]?).map (·.key)).getD (.string ⟨k.toArray⟩)) (.string ⟨k.toArray⟩)).run P w = .ok (.string ⟨k.toArray⟩) w := by
      rw [Array.getElem?_eq_getElem hj]
      have h1 : ∀ n, Instr.sameBits n (.string ⟨k.toArray⟩) (.string ⟨k.toArray⟩) = true := fun n => by cases n <;> simp [Instr.sameBits, str_inj]
      simp [hkey, Instr.keyThatStays, h1]
    refine ⟨{ w with heap := w.heap.setIfInBounds r (.map (es.modify j fun e => { e with key := .string ⟨k.toArray⟩, val := v }) clock) }, ?_, ?_, hgrown _, by simp⟩
    · simp only [Instr.mapUpdate, Sem.run_bind, run_underlying hT, Result.andThen_ok, MapKept.run_getObj_map h, run_checkKey_str hK, run_findKey_str hK k hm, hp, hstay, hset]
    · refine ⟨_, _, by rw [setIfInBounds_getElem? _ _ _ _ hlt, if_pos rfl], ?_, MapKept.stamped_modify hst j (fun e => { e with key := .string ⟨k.toArray⟩, val := v }) (fun _ _ => rfl) (fun e _ he => by
        rw [Array.getElem?_eq_getElem hj] at he
        cases he
        exact hkey.symm)⟩
      rw [h4, List.map_set, ← hm]
      apply List.ext_getElem?
      intro i
      simp only [List.getElem?_map, Array.toList_modify, List.getElem?_modify, List.getElem?_set, List.length_map]
      by_cases hij : j = i
      · subst hij
        simp [hj]
      · simp [hij]
end

/-- a cell that was there is there behind a new block, whatever it is -/
theorem cell_old {w : World} {a : Addr} {v : Value} (o : Obj) (h : w.cell? a = some v) : (w.alloc o).cell? a = some v := by
  rw [((Below.refl w.heap.size w).alloc (Nat.le_refl _) o).cell (World.block_lt_of_cell? w a h)]; exact h
theorem cell_new1 (w : World) (v : Value) (t : TypeId) : (w.alloc (.cells #[v] t)).cell? ⟨w.heap.size, 0, none⟩ = some v := by simp
theorem cell_new1' (w : World) (o : Obj) (v : Value) (t : TypeId) : ((w.alloc o).alloc (.cells #[v] t)).cell? ⟨w.heap.size + 1, 0, none⟩ = some v := by
  have := cell_new1 (w.alloc o) v t
  rwa [World.size_alloc] at this
theorem ne_row {i j : Nat} (h : i ≠ j) : (some i : Option Nat) ≠ some j := fun e => h (Option.some.inj e)

section
variable {P : Program} {w : World} {ops : Array Oper} {rest : List Oper} {o : Oper} {a : Act} {Q : Exit → Act → World → Prop}

theorem wpList_smap_lookup (hgd : o.guard = none) (mo ko : Operand) (T K E : TypeId) (ok : Bool) (ho : o.op = .lookup T mo ko ok) (hT : P.underlying T = some (.map K E)) (hK : P.underlying K = some .string)
    (z : Value) (hz : (zeroValue E).run P w = .ok z w) (r : Nat) (m : KV) (h : SMap w r m) (k : Bytes) (hm : a.eval mo = .map (some r)) (hk : a.eval ko = .string ⟨k.toArray⟩)
    (hn : wpList P ops Q rest (a.put o.dst (if ok then .tuple #[(mapGet m k).getD z, .bool (mapGet m k).isSome] else (mapGet m k).getD z)) w) : wpList P ops Q (o :: rest) a w := by
  refine wpList_plain hgd fun K' hK' => ?_
  have hrun := run_lookup_str hT hK hz h k ok
  unfold Oper.wp
  simp only [execOp, ho, hm, hk, Sem.run_bind, hrun, Result.andThen_ok, Sem.run_pure]
  exact hK' _ _ hn

theorem wpList_smap_put (hgd : o.guard = none) (mo ko vo : Operand) (T K E : TypeId) (ho : o.op = .mapUpdate T mo ko vo ∨ o.op = .insert T mo ko vo) (hT : P.underlying T = some (.map K E)) (hK : P.underlying K = some .string)
    (r : Nat) (m : KV) (h : SMap w r m) (k : Bytes) (v : Value) (hm : a.eval mo = .map (some r)) (hk : a.eval ko = .string ⟨k.toArray⟩) (hv : a.eval vo = v)
    (hn : ∀ w', SMap w' r (mapPut m k v) → w.grownBy w' (some r) → w'.heap.size = w.heap.size → wpList P ops Q rest (a.put o.dst undef) w') : wpList P ops Q (o :: rest) a w := by
  refine wpList_plain hgd fun K' hK' => ?_
  obtain ⟨w', hrun, h1, h2, h3⟩ := run_mapUpdate_str hT hK h k v
  unfold Oper.wp
  rcases ho with ho | ho <;>
  · simp only [execOp, ho, hm, hk, hv, Sem.run_bind, hrun, Result.andThen_ok, Sem.run_pure]
    exact hK' _ _ (hn w' h1 h2 h3)
end
end Go.Proofs.YtohinfefidahlaaGreatDoor

namespace Go.Proofs.YtohinfefidahlaaGreatDoor
open Go.RowKit Go.WideMaps
set_option linter.unusedVariables false
set_option linter.unusedSectionVars false

/-- how the keys of a map lie in a value -/
structure KEnc (P : Program) (K : TypeId) {α : Type} (enc : α → Value) : Prop where
  law : KeyLaw P K
  key : ∀ a, ∃ l, keyOf P K (enc a) = some l
  inj : ∀ a b, enc a = enc b → a = b
section
variable {α : Type} [DecidableEq α]
/-- block r is a map with these entries -/
def GMap (enc : α → Value) (w : World) (r : Nat) (m : List (α × Value)) : Prop :=
  ∃ es clock, w.heap[r]? = some (.map es clock) ∧ es.toList.map (fun e => (e.key, e.val)) = m.map (fun x => (enc x.1, x.2)) ∧ MapKept.Stamped es clock ∧ (m.map (·.1)).Nodup
def gGet (m : List (α × Value)) (k : α) : Option Value := (m.find? fun x => x.1 == k).map (·.2)
def gPut (m : List (α × Value)) (k : α) (v : Value) : List (α × Value) := match m with
  | [] => [(k, v)]
  | x :: m => if x.1 == k then (k, v) :: m else x :: gPut m k v
theorem gGet_put (m : List (α × Value)) (k : α) (v : Value) (k' : α) : gGet (gPut m k v) k' = if k' = k then some v else gGet m k' := by
  induction m with
  | nil =>
    by_cases h : k' = k
    · subst h; simp [gGet, gPut]
    · have : (k == k') = false := by simpa using fun e => h e.symm
      simp [gGet, gPut, this, h]
  | cons x m ih =>
    unfold gPut
    by_cases hx : x.1 = k
    · have hb : (x.1 == k) = true := by simpa using hx
      rw [if_pos hb]
      by_cases h : k' = k
      · subst h; simp [gGet]
      · have h1 : (k == k') = false := by simpa using fun e => h e.symm
        have h2 : (x.1 == k') = false := by rw [hx]; exact h1
        simp [gGet, h1, h2, h]
    · have hb : (x.1 == k) = false := by simpa using hx
      rw [if_neg (by simp [hb])]
      by_cases h : x.1 = k'
      · have h1 : (x.1 == k') = true := by simpa using h
        have h2 : k' ≠ k := fun e => hx (h.trans e)
        simp [gGet, h1, h2]
      · have h1 : (x.1 == k') = false := by simpa using h
        have : gGet (x :: gPut m k v) k' = gGet (gPut m k v) k' := by simp [gGet, h1]
        rw [this, ih]
        have h3 : gGet (x :: m) k' = gGet m k' := by simp [gGet, h1]
        rw [h3]
theorem gGet_none {m : List (α × Value)} {k : α} (h : ∀ x ∈ m, x.1 ≠ k) : gGet m k = none := by
  unfold gGet
  rw [List.find?_eq_none.2 fun x hx => by simpa using h x hx]; rfl
theorem gGet_at : ∀ {m : List (α × Value)}, (m.map (·.1)).Nodup → ∀ {j : Nat} {x : α × Value}, m[j]? = some x → gGet m x.1 = some x.2
  | [], _, j, x, h => by simp at h
  | y :: m, hn, 0, x, h => by
    simp at h; subst h; simp [gGet]
  | y :: m, hn, j + 1, x, h => by
    rw [List.map_cons, List.nodup_cons] at hn
    have hx : x ∈ m := List.mem_of_getElem? (by simpa using h)
    have h1 : (y.1 == x.1) = false := by
      have : y.1 ≠ x.1 := fun e => hn.1 (by rw [e]; exact List.mem_map_of_mem hx)
      simpa using this
    have := gGet_at hn.2 (j := j) (x := x) (by simpa using h)
    unfold gGet at this ⊢
    simpa [List.find?_cons, h1] using this
theorem gPut_new : ∀ {m : List (α × Value)} {k : α} (v : Value), (∀ x ∈ m, x.1 ≠ k) → gPut m k v = m ++ [(k, v)]
  | [], _, _, _ => rfl
  | x :: m, k, v, h => by
    unfold gPut
    have : (x.1 == k) = false := by simpa using h x (by simp)
    rw [if_neg (by simp [this]), gPut_new v fun y hy => h y (by simp [hy])]; rfl
theorem gPut_at : ∀ {m : List (α × Value)}, (m.map (·.1)).Nodup → ∀ {j : Nat} {x : α × Value} (v : Value), m[j]? = some x → gPut m x.1 v = m.set j (x.1, v)
  | [], _, j, x, v, h => by simp at h
  | y :: m, hn, 0, x, v, h => by
    simp at h; subst h; simp [gPut]
  | y :: m, hn, j + 1, x, v, h => by
    rw [List.map_cons, List.nodup_cons] at hn
    have hx : x ∈ m := List.mem_of_getElem? (by simpa using h)
    have h1 : (y.1 == x.1) = false := by
      have : y.1 ≠ x.1 := fun e => hn.1 (by rw [e]; exact List.mem_map_of_mem hx)
      simpa using this
    unfold gPut
    rw [if_neg (by simp [h1]), gPut_at hn.2 v (by simpa using h)]; rfl
theorem nodup_put {m : List (α × Value)} (hn : (m.map (·.1)).Nodup) (k : α) (v : Value) : ((gPut m k v).map (·.1)).Nodup := by
  by_cases h : ∃ x ∈ m, x.1 = k
  · obtain ⟨x, hx, rfl⟩ := h
    obtain ⟨j, hj, e⟩ := List.getElem_of_mem hx
    rw [gPut_at hn (j := j) v (by rw [List.getElem?_eq_getElem hj, e]), List.map_set]
    have : (m.map (·.1)).set j x.1 = m.map (·.1) := by
      apply List.ext_getElem?
      intro i
      rw [List.getElem?_set]
      by_cases hij : j = i
      · subst hij; simp [hj, e]
      · simp [hij]
    rw [this]; exact hn
  · have h2 : ∀ x ∈ m, x.1 ≠ k := fun x hx e => h ⟨x, hx, e⟩
    rw [gPut_new v h2, List.map_append, List.nodup_append]
    refine ⟨hn, by simp, fun a ha b hb => ?_⟩
    simp at hb; subst hb
    obtain ⟨x, hx, rfl⟩ := List.mem_map.1 ha
    exact h2 x hx
end

section
variable {P : Program} {w w' : World} {r : Nat} {α : Type} [DecidableEq α] {enc : α → Value} {m : List (α × Value)}
theorem GMap.lt (h : GMap enc w r m) : r < w.heap.size := by
  obtain ⟨es, clock, h, _⟩ := h
  exact (Array.getElem?_eq_some_iff.1 h).1
theorem GMap.of_block (h : GMap enc w r m) (e : w'.heap[r]? = w.heap[r]?) : GMap enc w' r m := by
  obtain ⟨es, clock, h, hm⟩ := h
  exact ⟨es, clock, e.trans h, hm⟩
theorem GMap.below {B : Nat} (h : GMap enc w r m) (hb : Below B w w') (hr : r < B) : GMap enc w' r m := h.of_block (hb.block r hr)
theorem GMap.grown {row : Option Nat} (h : GMap enc w r m) (hg : w.grownBy w' row) (hr : row ≠ some r) : GMap enc w' r m := h.of_block (hg.block r h.lt (fun e => hr e.symm))
theorem GMap.alloc (h : GMap enc w r m) (o : Obj) : GMap enc (w.alloc o) r m := h.of_block (Below.heap_alloc w o r h.lt)
theorem GMap.drewN (h : GMap enc w r m) (n : Nat) : GMap enc (w.drewN n) r m := h.of_block rfl
theorem GMap.setCell (h : GMap enc w r m) {a : Addr} (v : Value) : GMap enc (w.setCell a v) r m := by
  obtain ⟨es, clock, h, hm⟩ := h
  refine ⟨es, clock, ?_, hm⟩
  simp only [World.setCell, Array.getElem?_modify]
  split
  · rw [h]; rfl
  · exact h
theorem GMap.new (enc : α → Value) (w : World) : GMap enc (w.alloc (.map #[] 0)) w.heap.size [] := ⟨#[], 0, heap_alloc_new w _, rfl, MapKept.stamped_empty 0, by simp⟩

/-- what the finding of a key answers -/
theorem run_findKey_g {K : TypeId} (hK : KEnc P K enc) (k : α) {es : List MapEntry} (hm : es.map (fun e => (e.key, e.val)) = m.map (fun x => (enc x.1, x.2))) :
    ((Instr.findKey K (enc k) es).run P w = .ok none w ∧ ∀ x ∈ m, x.1 ≠ k) ∨
    ∃ (j : Nat) (x : α × Value) (e : MapEntry), (Instr.findKey K (enc k) es).run P w = .ok (some (j, x.2)) w ∧ m[j]? = some x ∧ x.1 = k ∧ es[j]? = some e ∧ e.key = enc k := by
  have hall : ∀ e ∈ es, ∃ x ∈ m, e.key = enc x.1 ∧ e.val = x.2 := fun e he => by
    have h1 : (e.key, e.val) ∈ es.map (fun e => (e.key, e.val)) := List.mem_map_of_mem he
    rw [hm] at h1
    obtain ⟨x, hx, h2⟩ := List.mem_map.1 h1
    simp only [Prod.mk.injEq] at h2
    exact ⟨x, hx, h2.1.symm, h2.2.symm⟩
  have hback : ∀ x ∈ m, ∃ e ∈ es, e.key = enc x.1 := fun x hx => by
    have h1 : (enc x.1, x.2) ∈ m.map (fun x => (enc x.1, x.2)) := List.mem_map_of_mem hx
    rw [← hm] at h1
    obtain ⟨e, he, h2⟩ := List.mem_map.1 h1
    simp only [Prod.mk.injEq] at h2
    exact ⟨e, he, h2.1⟩
  obtain ⟨lk, hlk⟩ := hK.key k
  rcases hK.law.find w hlk es (fun e he => by
    obtain ⟨x, _, h1, _⟩ := hall e he
    rw [h1]; exact hK.key x.1) with ⟨h1, h2⟩ | ⟨j, e, h1, h2, h3⟩
  · refine .inl ⟨h1, fun x hx e => ?_⟩
    obtain ⟨y, hy, hy2⟩ := hback x hx
    exact h2 y hy (by rw [hy2, e])
  · have hj := congrArg (fun l => l[j]?) hm
    simp only [List.getElem?_map, h2, Option.map_some] at hj
    cases hmj : m[j]? with
    | none => rw [hmj] at hj; cases hj
    | some x =>
      rw [hmj] at hj
      simp only [Option.map_some, Option.some.injEq, Prod.mk.injEq] at hj
      refine .inr ⟨j, x, e, by rw [← hj.2]; exact h1, hmj, hK.inj _ _ (by rw [← hj.1, h3]), h2, h3⟩

theorem run_lookup_g {T K E : TypeId} (hT : P.underlying T = some (.map K E)) (hK : KEnc P K enc) {z : Value} (hz : (zeroValue E).run P w = .ok z w) (h : GMap enc w r m) (k : α) (ok : Bool) :
    (Instr.lookup T (.map (some r)) (enc k) ok).run P w = .ok (if ok then .tuple #[(gGet m k).getD z, .bool (gGet m k).isSome] else (gGet m k).getD z) w := by
  obtain ⟨es, clock, h, hm, _, hn⟩ := h
  obtain ⟨lk, hlk⟩ := hK.key k
  have hck := fun em => hK.law.check w em hlk
  rcases run_findKey_g (w := w) hK k hm with ⟨h1, h2⟩ | ⟨j, x, e, h1, h2, h3, h4, h5⟩
  · rw [gGet_none h2]
    simp [Instr.lookup, run_underlying hT, MapKept.run_getObj_map h, hck, h1, hz, Result.andThen]
  · subst h3
    rw [gGet_at hn h2]
    simp [Instr.lookup, run_underlying hT, MapKept.run_getObj_map h, hck, h1, Result.andThen]

theorem run_mapUpdate_g {T K E : TypeId} (hT : P.underlying T = some (.map K E)) (hK : KEnc P K enc) (h : GMap enc w r m) (k : α) (v : Value) :
    ∃ w', (Instr.mapUpdate T (.map (some r)) (enc k) v).run P w = .ok () w' ∧ GMap enc w' r (gPut m k v) ∧ w.grownBy w' (some r) ∧ w'.heap.size = w.heap.size := by
  have hlt := h.lt
  obtain ⟨es, clock, h, hm, hst, hn⟩ := h
  obtain ⟨lk, hlk⟩ := hK.key k
  have hck := fun em => hK.law.check w em hlk
  have hstays := hK.law.stays w hlk
  have hset : ∀ o, (setObj r o).run P w = .ok () { w with heap := w.heap.setIfInBounds r o } := by
    intro o; simp [setObj, Sem.run, h]
  have hgrown : ∀ o, w.grownBy ({ w with heap := w.heap.setIfInBounds r o } : World) (some r) := fun o =>
    ⟨rfl, rfl, rfl, by simp, fun j hj hne => by
      show (w.heap.setIfInBounds r o)[j]? = _
      rw [setIfInBounds_getElem? _ _ _ _ hlt, if_neg (fun e => hne (by rw [e]))]⟩
  rcases run_findKey_g (w := w) hK k hm with ⟨h1, h2⟩ | ⟨j, x, e, h1, h2, h3, h4, h5⟩
  · refine ⟨{ w with heap := w.heap.setIfInBounds r (.map (es.push { key := enc k, val := v, born := clock }) (clock + 1)) }, ?_, ?_, hgrown _, by simp⟩
    · simp [Instr.mapUpdate, run_underlying hT, MapKept.run_getObj_map h, hck, h1, Result.andThen, hset]
    · refine ⟨_, _, by rw [setIfInBounds_getElem? _ _ _ _ hlt, if_pos rfl], ?_, MapKept.stamped_push hst fun x hx e => ?_, nodup_put hn k v⟩
      · rw [gPut_new v h2]
        simp [hm]
      · have h3 : (x.key, x.val) ∈ es.toList.map (fun e => (e.key, e.val)) := List.mem_map_of_mem hx
        rw [hm] at h3
        obtain ⟨y, hy, h4⟩ := List.mem_map.1 h3
        have h5 := congrArg Prod.fst h4
        exact h2 y hy (hK.inj _ _ (by rw [show enc y.1 = x.key from h5, e]))
  · subst h3
    have hj : j < es.size := by have := (List.getElem?_eq_some_iff.1 h4).1; simpa using this
    have hkey : es[j].key = enc x.1 := by
      have := (List.getElem?_eq_some_iff.1 h4).2
      simp at this
      rw [this]; exact h5
    have hstay : (Instr.keyThatStays (((es[j]?).map (·.key)).getD (enc x.1)) (enc x.1)).run P w = .ok (enc x.1) w := by
      rw [Array.getElem?_eq_getElem hj]
      simp only [Option.map_some, Option.getD_some, hkey]
      exact hstays
    refine ⟨{ w with heap := w.heap.setIfInBounds r (.map (es.modify j fun e => { e with key := enc x.1, val := v }) clock) }, ?_, ?_, hgrown _, by simp⟩
    · simp only [Instr.mapUpdate, Sem.run_bind, run_underlying hT, Result.andThen_ok, MapKept.run_getObj_map h, hck, h1, hstay, hset]
    · refine ⟨_, _, by rw [setIfInBounds_getElem? _ _ _ _ hlt, if_pos rfl], ?_, MapKept.stamped_modify hst j (fun e => { e with key := enc x.1, val := v }) (fun _ _ => rfl) (fun e _ he => by
        rw [Array.getElem?_eq_getElem hj] at he
        cases he
        exact hkey.symm), nodup_put hn _ v⟩
      rw [gPut_at hn v h2, List.map_set, ← hm]
      apply List.ext_getElem?
      intro i
      simp only [List.getElem?_map, Array.toList_modify, List.getElem?_modify, List.getElem?_set, List.length_map]
      by_cases hij : j = i
      · subst hij
        simp [hj]
      · simp [hij]
end

section
variable {P : Program} {w : World} {ops : Array Oper} {rest : List Oper} {o : Oper} {a : Act} {Q : Exit → Act → World → Prop} {α : Type} [DecidableEq α] {enc : α → Value}
theorem wpList_gmap_lookup (hgd : o.guard = none) (mo ko : Operand) (T K E : TypeId) (ok : Bool) (ho : o.op = .lookup T mo ko ok) (hT : P.underlying T = some (.map K E)) (hK : KEnc P K enc)
    (z : Value) (hz : (zeroValue E).run P w = .ok z w) (r : Nat) (m : List (α × Value)) (h : GMap enc w r m) (k : α) (hm : a.eval mo = .map (some r)) (hk : a.eval ko = enc k)
    (hn : wpList P ops Q rest (a.put o.dst (if ok then .tuple #[(gGet m k).getD z, .bool (gGet m k).isSome] else (gGet m k).getD z)) w) : wpList P ops Q (o :: rest) a w := by
  refine wpList_plain hgd fun K' hK' => ?_
  have hrun := run_lookup_g hT hK hz h k ok
  unfold Oper.wp
  simp only [execOp, ho, hm, hk, Sem.run_bind, hrun, Result.andThen_ok, Sem.run_pure]
  exact hK' _ _ hn
theorem wpList_gmap_put (hgd : o.guard = none) (mo ko vo : Operand) (T K E : TypeId) (ho : o.op = .mapUpdate T mo ko vo ∨ o.op = .insert T mo ko vo) (hT : P.underlying T = some (.map K E)) (hK : KEnc P K enc)
    (r : Nat) (m : List (α × Value)) (h : GMap enc w r m) (k : α) (v : Value) (hm : a.eval mo = .map (some r)) (hk : a.eval ko = enc k) (hv : a.eval vo = v)
    (hn : ∀ w', GMap enc w' r (gPut m k v) → w.grownBy w' (some r) → w'.heap.size = w.heap.size → wpList P ops Q rest (a.put o.dst undef) w') : wpList P ops Q (o :: rest) a w := by
  refine wpList_plain hgd fun K' hK' => ?_
  obtain ⟨w', hrun, h1, h2, h3⟩ := run_mapUpdate_g hT hK h k v
  unfold Oper.wp
  rcases ho with ho | ho <;>
  · simp only [execOp, ho, hm, hk, hv, Sem.run_bind, hrun, Result.andThen_ok, Sem.run_pure]
    exact hK' _ _ (hn w' h1 h2 h3)
end
end Go.Proofs.YtohinfefidahlaaGreatDoor
