/- Ranging over a map with texts as keys, whatever its elements are: what is still to come, as a list. No program is named here. Entries of an index in memory, with those under them. index.grow: the node of a term. One element more in a slice of the call's own, at a step of a region that draws its order: where it lies then. No program is named here. -/
import Derived.Test.YtohinfefidahlaaGreatDoorJoD
import Derived.Test.YtohinfefidahlaaGreatDoorHeld
import Derived.Maps.RangeWalk
import Derived.Test.YtohinfefidahlaaGreatDoorSortN
import Derived.Test.YtohinfefidahlaaGreatDoorShelf
import Derived.Sort.OwnSorted
import Derived.Test.YtohinfefidahlaaGreatDoorIxN
import Derived.Test.YtohinfefidahlaaGreatDoorJoC
import Derived.Deep.AppendLies
namespace Go.Proofs.YtohinfefidahlaaGreatDoor
open Go.RowKit Go.ChangeMaps Go.MapKept
set_option linter.unusedVariables false
set_option linter.unusedSimpArgs false

def kvOf (es : List MapEntry) (m : KV) : Prop := es.map (fun e => (e.key, e.val)) = m.map (fun x => (Value.string ⟨x.1.toArray⟩, x.2))
/-- block r goes through the map bm, which holds m; left: what is still to come -/
def SRange (w : World) (bm r : Nat) (m left : KV) : Prop :=
  ∃ es clock since seen c0, w.heap[bm]? = some (.map es clock) ∧ kvOf es.toList m ∧ MapKept.Stamped es clock ∧ w.heap[r]? = some (.mapIter (some bm) since seen c0) ∧ (∀ x ∈ es.toList, x.born < since) ∧ since ≤ c0 ∧ since ≤ clock ∧
    kvOf (es.toList.filter fun e => !seen.contains e.born) left
section
variable {P : Program} {w w' : World} {bm r : Nat} {m left : KV}
theorem leftOf_list (es : Array MapEntry) (seen : Array Nat) : (leftOf es seen).toList = es.toList.filter fun e => !seen.contains e.born := by
  unfold leftOf
  rw [← Array.toList_filter]
theorem kvOf_len {es : List MapEntry} {m : KV} (h : kvOf es m) : es.length = m.length := by
  have := congrArg List.length h
  simpa using this
theorem SRange.left_eq (h : SRange w bm r m left) : w.rangeLeft bm r = left.length := by
  obtain ⟨es, clock, since, seen, c0, hb, _, _, hr, _, _, _, hl⟩ := h
  simp only [World.rangeLeft, hb, hr]
  rw [← kvOf_len hl, ← leftOf_list, Array.length_toList]
theorem SRange.map (h : SRange w bm r m left) : SMap w bm m := by
  obtain ⟨es, clock, since, seen, c0, hb, hm, hs, _⟩ := h
  exact ⟨es, clock, hb, hm, hs⟩
theorem SRange.lt (h : SRange w bm r m left) : r < w.heap.size := by
  obtain ⟨es, clock, since, seen, c0, _, _, _, hr, _⟩ := h
  exact (Array.getElem?_eq_some_iff.1 hr).1
theorem SRange.of_blocks (h : SRange w bm r m left) (e1 : w'.heap[bm]? = w.heap[bm]?) (e2 : w'.heap[r]? = w.heap[r]?) : SRange w' bm r m left := by
  obtain ⟨es, clock, since, seen, c0, hb, hm, hs, hr, rest⟩ := h
  exact ⟨es, clock, since, seen, c0, e1.trans hb, hm, hs, e2.trans hr, rest⟩
theorem SRange.next (h : SRange w bm r m left) (hb : Below w.heap.size w w') : SRange w' bm r m left := h.of_blocks (hb.block _ h.map.lt) (hb.block _ h.lt)
theorem SRange.kept {S : Nat → Prop} (h : SRange w bm r m left) (hk : Kept S w w') (h1 : ¬ S bm) (h2 : ¬ S r) : SRange w' bm r m left := h.of_blocks (hk.block _ h.map.lt h1) (hk.block _ h.lt h2)
theorem SRange.ne_bk (h : SRange w bm r m left) {g : Nat} {C : List Value} {T : TypeId} (hb : Bk w g C T) : g ≠ r := by
  rintro rfl
  obtain ⟨es, clock, since, seen, c0, _, _, _, hr, _⟩ := h
  unfold Bk at hb
  rw [hr] at hb; cases hb
theorem SRange.ne_own {α : Type} {B : Nat} {e : TypeId} {sz : Nat} {enc : α → List Value} {v : Value} {l : List α} (h : SRange w bm r m left) (ho : Own w B e sz enc v l) : v.ownBlock ≠ some r := by
  intro hv
  obtain ⟨cur, hh⟩ := ho.kind r hv
  obtain ⟨es, clock, since, seen, c0, _, _, _, hr, _⟩ := h
  rw [hr] at hh; cases hh
theorem own_ne_map {α : Type} {B : Nat} {e : TypeId} {sz : Nat} {enc : α → List Value} {v : Value} {l : List α} (h : SRange w bm r m left) (ho : Own w B e sz enc v l) : v.ownBlock ≠ some bm := by
  intro hv
  obtain ⟨cur, hh⟩ := ho.kind bm hv
  obtain ⟨es, clock, since, seen, c0, hr, _⟩ := h
  rw [hr] at hh; cases hh

theorem SMap.range {t k e : TypeId} (h : SMap w bm m) (ht : P.underlying t = some (.map k e)) :
    ∃ w', (Instr.range t (.map (some bm))).run P w = .ok (.pointer (some ⟨w.heap.size, 0, none⟩)) w' ∧ SRange w' bm w.heap.size m m ∧ Below w.heap.size w w' ∧ w'.heap.size = w.heap.size + 1 := by
  have hlt := h.lt
  obtain ⟨es, clock, hb, hm, hs⟩ := h
  refine ⟨_, run_range_map w t k e bm es clock ht hb, ⟨es, clock, clock, #[], clock, ((MapKept.heap_alloc w _).2 bm hlt).trans hb, hm, hs, (MapKept.heap_alloc w _).1, hs.1, Nat.le_refl _, Nat.le_refl _, ?_⟩, (Below.refl _ _).alloc (Nat.le_refl _) _, by simp⟩
  have : (es.toList.filter fun e => !(#[] : Array Nat).contains e.born) = es.toList := by rw [List.filter_eq_self]; simp
  rw [this]; exact hm
theorem kvOf_split : ∀ {es : List MapEntry} {m : KV} {e : MapEntry}, kvOf es m → e ∈ es → ∃ l1 l2 m1 x m2, es = l1 ++ e :: l2 ∧ m = m1 ++ x :: m2 ∧ kvOf l1 m1 ∧ kvOf l2 m2 ∧ e.key = .string ⟨x.1.toArray⟩ ∧ e.val = x.2
  | [], _, _, _, h => absurd h List.not_mem_nil
  | a :: es, [], _, h, _ => by simp [kvOf] at h
  | a :: es, y :: m, e, h, hm => by
    unfold kvOf at h
    simp only [List.map_cons, List.cons.injEq, Prod.mk.injEq] at h
    obtain ⟨⟨h1, h2⟩, h3⟩ := h
    rcases List.mem_cons.1 hm with rfl | hm
    · exact ⟨[], es, [], y, m, rfl, rfl, rfl, h3, h1, h2⟩
    · obtain ⟨l1, l2, m1, x, m2, e1, e2, k1, k2, k3, k4⟩ := kvOf_split h3 hm
      refine ⟨a :: l1, l2, y :: m1, x, m2, by rw [e1]; rfl, by rw [e2]; rfl, ?_, k2, k3, k4⟩
      unfold kvOf at k1 ⊢
      simp only [List.map_cons, h1, h2, k1]
theorem filter_drop : ∀ {l1 l2 : List MapEntry} {e : MapEntry}, ((l1 ++ e :: l2).map (·.born)).Nodup → (l1 ++ e :: l2).filter (fun x => !(x.born == e.born)) = l1 ++ l2 := by
  intro l1 l2 e h
  rw [List.map_append, List.map_cons, List.nodup_append] at h
  obtain ⟨h1, h2, h3⟩ := h
  rw [List.nodup_cons] at h2
  rw [List.filter_append, List.filter_cons]
  have e1 : (!(e.born == e.born)) = false := by simp
  rw [e1]
  simp only [Bool.false_eq_true, if_false]
  congr 1
  · rw [List.filter_eq_self]
    intro a ha
    have : a.born ≠ e.born := h3 _ (List.mem_map_of_mem ha) _ (by simp)
    simpa using this
  · rw [List.filter_eq_self]
    intro a ha
    have : a.born ≠ e.born := fun e2 => h2.1 (by rw [← e2]; exact List.mem_map_of_mem ha)
    simpa using this
theorem SRange.step (h : SRange w bm r m left) (ty : TypeId) :
    (left = [] ∧ (Instr.next (.pointer (some ⟨r, 0, none⟩)) false ty).run P w = .ok (.tuple #[.bool false]) w) ∨
    ∃ l1 x l2 w', left = l1 ++ x :: l2 ∧ (Instr.next (.pointer (some ⟨r, 0, none⟩)) false ty).run P w = .ok (.tuple #[.bool true, .string ⟨x.1.toArray⟩, x.2]) w' ∧ SRange w' bm r m (l1 ++ l2) ∧ w.grownBy w' (some r) ∧ w'.heap.size = w.heap.size ∧
      (Instr.entry (.pointer (some ⟨r, 0, none⟩))).run P w' = .ok (.tuple #[.string ⟨x.1.toArray⟩, x.2]) w' := by
  obtain ⟨es, clock, since, seen, c0, hb, hm, hs, hr, hold, hsc, hsk, hl⟩ := h
  have hst := (stamped_iff es clock).1 hs
  have hne : r ≠ bm := fun e => by rw [e, hb] at hr; cases hr
  rcases run_next_at (P := P) w ty r bm since c0 seen es clock hr hb hold hsc with ⟨h0, hrun⟩ | ⟨e, he, w1, hal, hrun⟩
  · left
    refine ⟨?_, hrun⟩
    have h1 := kvOf_len hl
    rw [← leftOf_list, Array.length_toList, h0] at h1
    exact List.eq_nil_of_length_eq_zero h1.symm
  · right
    rw [leftOf_list] at he
    obtain ⟨l1, l2, m1, x, m2, e1, e2, k1, k2, k3, k4⟩ := kvOf_split hl he
    have hem : e ∈ es.toList := (List.mem_filter.1 he).1
    have hr1 : w1.heap[r]? = some (.mapIter (some bm) since seen c0) := by rcases hal with rfl | rfl <;> exact hr
    have hb1 : w1.heap[bm]? = some (.map es clock) := by rcases hal with rfl | rfl <;> exact hb
    have hset := heap_set (o' := .mapIter (some bm) since (seen.push e.born) clock) hr1
    have hb' : (setBlock w1 r (.mapIter (some bm) since (seen.push e.born) clock)).heap[bm]? = some (.map es clock) := (hset.2 bm (fun e1 => hne e1.symm)).trans hb1
    refine ⟨m1, x, m2, _, e2, by rw [← k3, ← k4]; exact hrun, ⟨es, clock, since, seen.push e.born, clock, hb', hm, hs, hset.1, hold, hsk, hsk, ?_⟩, ?_, ?_, ?_⟩
    · have e3 : (es.toList.filter fun x => !(seen.push e.born).contains x.born) = (es.toList.filter fun x => !seen.contains x.born).filter fun x => !(x.born == e.born) := by
        rw [List.filter_filter]
        refine List.filter_congr fun x _ => ?_
        rw [contains_push]
        cases seen.contains x.born <;> cases (x.born == e.born) <;> rfl
      rw [e3, e1, filter_drop]
      · unfold kvOf at k1 k2 ⊢
        rw [List.map_append, List.map_append, k1, k2]
      · rw [← e1]
        exact (List.filter_sublist.map _).nodup hst.2.1
    · rcases hal with rfl | rfl <;> exact ⟨rfl, rfl, rfl, by simp [setBlock], fun i _ hi => hset.2 i (fun e1 => hi (by rw [e1]))⟩
    · rcases hal with rfl | rfl <;> simp [setBlock]
    · have h2 := run_entry_at (P := P) _ r bm since seen es clock e hset.1 hb' hem hst.2.1
      rw [k3, k4] at h2; exact h2
variable {ops : Array Oper} {rest : List Oper} {o : Oper} {a : Act} {Q : Exit → Act → World → Prop}
theorem wpList_srange (hg : o.guard = none) (mo : Operand) (t : TypeId) (hop : o.op = Op.range t mo) {k e : TypeId} (ht : P.underlying t = some (.map k e)) (hm : a.eval mo = .map (some bm)) (h : SMap w bm m)
    (hK : ∀ w', SRange w' bm w.heap.size m m → Below w.heap.size w w' → w'.heap.size = w.heap.size + 1 → wpList P ops Q rest (a.put o.dst (.pointer (some ⟨w.heap.size, 0, none⟩))) w') : wpList P ops Q (o :: rest) a w := by
  refine wpList_plain hg fun K' hK' => ?_
  obtain ⟨w', hrun, r1, r2, r3⟩ := h.range (P := P) ht
  unfold Oper.wp
  simp [execOp, hop, hm, hrun, Result.andThen]
  exact hK' _ _ (hK w' r1 r2 r3)
theorem wpList_snext (hg : o.guard = none) (it : Operand) (hop : o.op = Op.next it false) (hit : a.eval it = .pointer (some ⟨r, 0, none⟩)) (h : SRange w bm r m left)
    (hDone : left = [] → wpList P ops Q rest (a.put o.dst (.tuple #[.bool false])) w)
    (hMore : ∀ l1 (x : Bytes × Value) l2 w', left = l1 ++ x :: l2 → SRange w' bm r m (l1 ++ l2) → w.grownBy w' (some r) → w'.heap.size = w.heap.size →
      (Instr.entry (.pointer (some ⟨r, 0, none⟩))).run P w' = .ok (.tuple #[.string ⟨x.1.toArray⟩, x.2]) w' → wpList P ops Q rest (a.put o.dst (.tuple #[.bool true, .string ⟨x.1.toArray⟩, x.2])) w') : wpList P ops Q (o :: rest) a w := by
  refine wpList_plain hg fun K' hK' => ?_
  unfold Oper.wp
  rcases h.step (P := P) o.type with ⟨h0, hrun⟩ | ⟨l1, x, l2, w', e, hrun, h1, h2, h3, h4⟩
  · simp [execOp, hop, hit, hrun, Result.andThen]
    exact hK' _ _ (hDone h0)
  · simp [execOp, hop, hit, hrun, Result.andThen]
    exact hK' _ _ (hMore l1 x l2 w' e h1 h2 h3 h4)
theorem run_len_smap {t ty : TypeId} (h : P.underlying t = some (.map (P.mapKeyOf t) (P.mapElemOf t))) (hm : SMap w bm m) : (Builtin.len_ #[t] ty #[.map (some bm)]).run P w = .ok (.int .i64 m.length) w := by
  obtain ⟨es, clock, hb, hk, _⟩ := hm
  rw [run_len_map w t ty bm es clock h hb]
  have : es.size = m.length := by rw [← Array.length_toList]; exact kvOf_len hk
  simp [goInt, this]
end
end Go.Proofs.YtohinfefidahlaaGreatDoor

namespace Go.Proofs.YtohinfefidahlaaGreatDoor
open Go.RowKit
set_option linter.unusedVariables false
set_option linter.unusedSimpArgs false

inductive En where
  | mk (term : Bytes) (aa : Option Addr) (ac : Nat) (al : List LoK) (sa : Option Addr) (sc : Nat) (sl : List Bytes) (ua : Option Addr) (uc : Nat) (ul : List En)
namespace En
def term : En → Bytes | mk t _ _ _ _ _ _ _ _ _ => t
def aa : En → Option Addr | mk _ a _ _ _ _ _ _ _ _ => a
def ac : En → Nat | mk _ _ c _ _ _ _ _ _ _ => c
def al : En → List LoK | mk _ _ _ l _ _ _ _ _ _ => l
def sa : En → Option Addr | mk _ _ _ _ a _ _ _ _ _ => a
def sc : En → Nat | mk _ _ _ _ _ c _ _ _ _ => c
def sl : En → List Bytes | mk _ _ _ _ _ _ l _ _ _ => l
def ua : En → Option Addr | mk _ _ _ _ _ _ _ a _ _ => a
def uc : En → Nat | mk _ _ _ _ _ _ _ _ c _ => c
def ul : En → List En | mk _ _ _ _ _ _ _ _ _ l => l
end En
def encEn (x : En) : List Value := [.string ⟨x.term.toArray⟩, .slice x.aa x.al.length x.ac, .slice x.sa x.sl.length x.sc, .slice x.ua x.ul.length x.uc]
theorem encEn_ok : Enc 4 encEn := ⟨fun _ => rfl, fun x u hu => by simp [encEn] at hu; rcases hu with rfl | rfl | rfl | rfl <;> rfl⟩
/-- the elements lie in one of the blocks N -/
def AtN {α : Type} (N : Nat → Prop) (w : World) (sz : Nat) (enc : α → List Value) (a : Option Addr) (l : List α) : Prop :=
  l = [] ∨ ∃ b off, a = some ⟨b, off, none⟩ ∧ b < w.heap.size ∧ N b ∧ Row w sz enc b off l
section
variable {α : Type} {N N' : Nat → Prop} {S : Nat → Prop} {w w' : World} {sz : Nat} {enc : α → List Value} {a : Option Addr} {l : List α}
theorem AtN.at_ (h : AtN N w sz enc a l) : At w sz enc a l := by
  rcases h with h | ⟨b, off, h1, h2, _, h3⟩
  · exact .inl h
  · exact .inr ⟨b, off, h1, h2, h3⟩
theorem AtN.nil (N : Nat → Prop) (w : World) (sz : Nat) (enc : α → List Value) (a : Option Addr) : AtN N w sz enc a [] := .inl rfl
theorem Row.kept {b off : Nat} (h : Row w sz enc b off l) (hk : w'.heap[b]? = w.heap[b]?) : Row w' sz enc b off l :=
  fun i x hi j v hj => by rw [World.cell?_of_block (a := ⟨b, off + i * sz + j, none⟩) hk]; exact h i x hi j v hj
theorem AtN.kept (h : AtN N w sz enc a l) (hk : Kept S w w') (hS : ∀ g, N g → g < w.heap.size → ¬ S g) : AtN N w' sz enc a l := by
  rcases h with h | ⟨b, off, h1, h2, hN, h3⟩
  · exact .inl h
  · exact .inr ⟨b, off, h1, Nat.lt_of_lt_of_le h2 hk.size, hN, h3.kept (hk.block b h2 (hS b hN h2))⟩
theorem AtN.mono (h : AtN N w sz enc a l) (hm : ∀ g, g < w.heap.size → N g → N' g) : AtN N' w sz enc a l := by
  rcases h with h | ⟨b, off, h1, h2, hN, h3⟩
  · exact .inl h
  · exact .inr ⟨b, off, h1, h2, hm b h2 hN, h3⟩
theorem Own.addrN {B n c : Nat} {e : TypeId} (he : Enc sz enc) (h : Own w B e sz enc (.slice a n c) l) (hN : ∀ g, (Value.slice a n c).ownBlock = some g → N g) : AtN N w sz enc a l := by
  rcases h.addr he with h1 | ⟨b, off, h1, h2, h3⟩
  · exact .inl h1
  · refine .inr ⟨b, off, h1, h2, ?_, h3⟩
    rcases h.2 with ⟨h4, h5⟩ | ⟨g, cap, cur, h4, _⟩
    · injection h4 with h4 _ _
      rw [h4] at h1; cases h1
    · injection h4 with h4 _ _
      rw [h4] at h1
      injection h1 with h1
      injection h1 with h1 _
      subst h1
      exact hN g (by rw [h4]; rfl)
end
inductive EnIn (N : Nat → Prop) (w : World) : En → Prop
  | mk {t aa ac al sa sc sl ua uc ul} : AtN N w 3 encLo aa al → AtN N w 1 encS sa sl → AtN N w 4 encEn ua ul → (∀ x ∈ ul, EnIn N w x) → EnIn N w (.mk t aa ac al sa sc sl ua uc ul)
section
variable {N N' : Nat → Prop} {S : Nat → Prop} {w w' : World} {x : En}
theorem EnIn.als (h : EnIn N w x) : AtN N w 3 encLo x.aa x.al := by cases h; assumption
theorem EnIn.sls (h : EnIn N w x) : AtN N w 1 encS x.sa x.sl := by cases h; assumption
theorem EnIn.uls (h : EnIn N w x) : AtN N w 4 encEn x.ua x.ul := by cases h; assumption
theorem EnIn.kids (h : EnIn N w x) : ∀ y ∈ x.ul, EnIn N w y := by cases h; assumption
theorem EnIn.kept (h : EnIn N w x) (hk : Kept S w w') (hS : ∀ g, N g → g < w.heap.size → ¬ S g) : EnIn N w' x := by
  induction h with
  | mk h1 h2 h3 _ ih => exact .mk (h1.kept hk hS) (h2.kept hk hS) (h3.kept hk hS) ih
theorem EnIn.mono (h : EnIn N w x) (hm : ∀ g, g < w.heap.size → N g → N' g) : EnIn N' w x := by
  induction h with
  | mk h1 h2 h3 _ ih => exact .mk (h1.mono hm) (h2.mono hm) (h3.mono hm) ih
theorem EnIn.next (h : EnIn N w x) (hb : Below w.heap.size w w') : EnIn N w' x := h.kept (Kept.of_below (S := fun _ => False) hb) (fun _ _ _ h => h)
end
def EnsAt (N : Nat → Prop) (w : World) (a : Option Addr) (l : List En) : Prop := AtN N w 4 encEn a l ∧ ∀ x ∈ l, EnIn N w x
section
variable {N N' : Nat → Prop} {S : Nat → Prop} {w w' : World} {a : Option Addr} {l : List En}
theorem EnsAt.kept (h : EnsAt N w a l) (hk : Kept S w w') (hS : ∀ g, N g → g < w.heap.size → ¬ S g) : EnsAt N w' a l := ⟨h.1.kept hk hS, fun x hx => (h.2 x hx).kept hk hS⟩
theorem EnsAt.mono (h : EnsAt N w a l) (hm : ∀ g, g < w.heap.size → N g → N' g) : EnsAt N' w a l := ⟨h.1.mono hm, fun x hx => (h.2 x hx).mono hm⟩
theorem EnsAt.next (h : EnsAt N w a l) (hb : Below w.heap.size w w') : EnsAt N w' a l := h.kept (Kept.of_below (S := fun _ => False) hb) (fun _ _ _ h => h)
theorem EnsAt.nil (N : Nat → Prop) (w : World) (a : Option Addr) : EnsAt N w a [] := ⟨AtN.nil _ _ _ _ _, fun x hx => absurd hx List.not_mem_nil⟩
end

/-! ### texts sorted -/
def sortB (l : List Bytes) : List Bytes := l.mergeSort fun x y => decide (x ≤ y)
theorem sortB_perm (l : List Bytes) : (sortB l).Perm l := List.mergeSort_perm _ _
theorem sortB_len (l : List Bytes) : (sortB l).length = l.length := (sortB_perm l).length_eq
theorem flatS (l : List Bytes) : l.flatMap encS = l.map Go.Proofs.encStr := by
  induction l with
  | nil => rfl
  | cons x l ih => rw [List.flatMap_cons, List.map_cons, ih]; rfl
theorem sortStr {w : World} {B : Nat} {v : Value} {l : List Bytes} (h : Own w B 9 1 encS v l) (hl : l.length ≤ 1000000) :
    Calls Tryz.prog 153 #[v] w fun e w' => e = .returned (.tuple #[]) ∧ Own w' B 9 1 encS v (sortB l) ∧ Kept (fun g => v.ownBlock = some g) w w' := by
  rcases h.2 with ⟨rfl, h0⟩ | ⟨g, cap, cur, rfl, hbase, hb, h1, h2, h3, h4⟩
  · have hl0 : l = [] := List.eq_nil_of_length_eq_zero h0
    subst hl0
    refine (Tryz.slices_Sort_string_none none 0 w).mono ?_
    rintro e w' ⟨rfl, rfl⟩
    exact ⟨rfl, by have : sortB [] = [] := List.eq_nil_of_length_eq_zero (sortB_len []); rw [this]; exact h, Kept.refl _ _⟩
  · have hflat := flatS l
    have hH : Go.Sort.Holds Go.Proofs.encStr w g 0 l.toArray := holds_of_block hb (by rw [← hflat]; simpa using h4)
    have hg : g < w.heap.size := (Array.getElem?_eq_some_iff.1 hb).1
    refine (Tryz.slices_Sort_string g 0 cap l w hH hg (by omega)).mono ?_
    rintro e w' ⟨rfl, n, os, rfl⟩
    refine ⟨rfl, ?_, ?_⟩
    · have := ownsRow_sorted (n := n) (os := os) (ts := sortB l) (sortB_len l) hbase hb h1 h2 h3
      unfold Own
      rw [flatS, sortB_len]
      exact this
    · exact (Kept.refl _ w).grown (grownBy_sorted _) (fun g' e => e)
end Go.Proofs.YtohinfefidahlaaGreatDoor

namespace Go.Proofs.YtohinfefidahlaaGreatDoor
open Go.RowKit
set_option linter.unusedVariables false
set_option linter.unusedSimpArgs false

theorem lookNode {r : Nat} {m : KV} {t : Bytes} {w : World} (hm : SMap w r m) : (Instr.lookup 105 (.map (some r)) (.string ⟨t.toArray⟩) false).run Tryz.prog w = .ok ((mapGet m t).getD (.pointer none)) w :=
  run_lookup_str (P := Tryz.prog) Tryz.underlying105 Tryz.underlying9 (z := .pointer none) (by kernel_rfl) hm t false
set_option maxHeartbeats 1000000 in
set_option maxRecDepth 100000 in
theorem growF {r : Nat} {m : KV} {t : Bytes} {b : Nat} {w : World} (hm : SMap w r m) (hg : mapGet m t = some (ptrV b)) :
    Calls Tryz.prog 149 #[.map (some r), .string ⟨t.toArray⟩] w fun e w' => e = .returned (.pointer (some ⟨b, 0, none⟩)) ∧ w' = w := by
  have hlk := lookNode (t := t) hm
  rw [hg] at hlk
  simp only [Option.getD_some, ptrV] at hlk
  clear hg hm
  go_enter Tryz.func149, Tryz.ntmps149
  go_wp2
  go_ret
  exact ⟨rfl, rfl⟩
def newNd (w : World) : Nd := ⟨w.heap.size + 1 + 1 + 1, w.heap.size, w.heap.size + 1, w.heap.size + 1 + 1, .slice none 0 0⟩
theorem newNd_in (w : World) (t : Bytes) : NdIn ((((w.alloc (.map #[] 0)).alloc (.map #[] 0)).alloc (.map #[] 0)).alloc (.cells #[.string ⟨t.toArray⟩, .slice none 0 0, .map (some w.heap.size), .map (some (w.heap.size + 1)), .map (some (w.heap.size + 1 + 1))] 220)) w.heap.size t [] [] [] (newNd w) := by
  have h1 := GMap.new encLoV w
  have h2 := SMap.new (w.alloc (.map #[] 0))
  have h3 := SMap.new ((w.alloc (.map #[] 0)).alloc (.map #[] 0))
  have h4 := Bk.new (((w.alloc (.map #[] 0)).alloc (.map #[] 0)).alloc (.map #[] 0)) #[.string ⟨t.toArray⟩, .slice none 0 0, .map (some w.heap.size), .map (some (w.heap.size + 1)), .map (some (w.heap.size + 1 + 1))] 220
  simp only [World.size_alloc] at h2 h3 h4
  exact ⟨h4, Own.nil _ _ _ _ _, ((h1.alloc _).alloc _).alloc _, (h2.alloc _).alloc _, h3.alloc _, by unfold newNd; simp; omega, by unfold newNd; simp; omega⟩
theorem newNd_foot {w : World} {g : Nat} (h : (newNd w).foot g) : w.heap.size ≤ g := by
  unfold newNd Nd.foot at h
  rcases h with h | h | h | h | h
  · simp at h; omega
  · simp at h; omega
  · simp at h; omega
  · simp at h; omega
  · cases h
def GrowNew (w : World) (r : Nat) (m : KV) (t : Bytes) (e : Ending) (w' : World) : Prop :=
  ∃ nd : Nd, e = .returned (.pointer (some ⟨nd.b, 0, none⟩)) ∧ NdIn w' w.heap.size t [] [] [] nd ∧ (∀ g, nd.foot g → w.heap.size ≤ g) ∧ SMap w' r (mapPut m t (ptrV nd.b)) ∧ Kept (fun g => g = r) w w'
set_option maxHeartbeats 4000000 in
set_option maxRecDepth 100000 in
theorem growN {r : Nat} {m : KV} {t : Bytes} {w : World} (hm : SMap w r m) (hg : mapGet m t = none) :
    Calls Tryz.prog 149 #[.map (some r), .string ⟨t.toArray⟩] w (GrowNew w r m t) := by
  have hlk := lookNode (t := t) hm
  rw [hg] at hlk
  simp only [Option.getD_none] at hlk
  have HM := Lib.hid hm
  have hrl := hm.lt
  have hmm := @run_makeMap Tryz.prog
  clear hg hm
  go_enter Tryz.func149, Tryz.ntmps149
  go_wp2_with (at_mapUpdate; refine hold_op _ rfl ?_)
  constructor
  refine wpList_smap_put rfl _ _ _ _ _ _ (.inl rfl) Tryz.underlying105 Tryz.underlying9 r m ((((HM.out.alloc _).alloc _).alloc _).alloc _) t (ptrV (newNd w).b) rfl rfl ?_ ?_
  · simp [newNd, ptrV, Act.eval]
  intro w1 hm1 hg1 hz1
  have HN : Hid (NdIn w1 w.heap.size t [] [] [] (newNd w)) := (newNd_in w t).of_blocks fun g hg => hg1.block g ((newNd_in w t).foot_lt hg).2 (fun e => by have := newNd_foot hg; cases e; omega)
  have HK : Hid (Kept (fun g => g = r) w w1) := (((((Kept.refl _ w).alloc _).alloc _).alloc _).alloc _).grown hg1 (fun g e => (Option.some.inj e).symm)
  have HM1 := Lib.hid hm1
  clear hm1 hg1 hz1
  go_wp2_with fail
  go_ret
  exact ⟨newNd w, rfl, HN.out, fun g hg => newNd_foot hg, HM1.out, HK.out⟩
end Go.Proofs.YtohinfefidahlaaGreatDoor

namespace Go.Proofs.YtohinfefidahlaaGreatDoor
open Go.RowKit
set_option linter.unusedVariables false
set_option linter.unusedSimpArgs false
section
variable {α : Type} {P : Program} {w : World} {ops : Array Oper} {o : Oper} {a : Act} {K : Act → World → Prop} {Q : Exit → Act → World → Prop} {E : Prop}
theorem step_push2 (hgd : o.guard = none) (s x : Operand) (t : TypeId) (ho : o.op = .call { callee := .builtin .append, args := #[s, x], argTypes := #[t, t] })
    (B : Nat) (e : TypeId) (sz bytes : Nat) (hT : SlTy P t e sz bytes) (enc : α → List Value) (he : Enc sz enc)
    (v : Value) (l : List α) (hs : a.eval s = v) (hown : Own w B e sz enc v l)
    (y : α) (G : Nat) (hx : a.eval x = .slice (some ⟨G, 0, none⟩) 1 1) (hG : ∀ j u, (enc y)[j]? = some u → w.cell? ⟨G, j, none⟩ = some u)
    (hroom : (l.length + 1) * bytes ≤ 140737488355328) (hmax : l.length + 1 ≤ maxLen) (hBs : B ≤ w.heap.size)
    (h : ∀ g cap w', Own w' B e sz enc (.slice (some ⟨g, 0, none⟩) (l.length + 1) cap) (l ++ [y]) → w.grownBy w' v.ownBlock → v.ownBlock = some g ∨ g = w.heap.size → K (a.put o.dst (.slice (some ⟨g, 0, none⟩) (l.length + 1) cap)) w') :
    if Region.wanted o (yielded ops a.tmps) = true then Oper.wp P o a w K Q else E := by
  obtain ⟨hu, z, hi, hz, hsz⟩ := hT
  obtain ⟨i, hi1, hi2, hi3, hi4⟩ := info_parts hi
  have hnews : ∀ j u, (enc y)[j]? = some u → w.cell? ((⟨G, 0, none⟩ : Addr).add j) = some u := by
    intro j u hj
    have hadd : (⟨G, 0, none⟩ : Addr).add j = ⟨G, j, none⟩ := by unfold Addr.add; split <;> simp_all
    rw [hadd]; exact hG j u hj
  refine step_append_lies w hgd s x t ho B e i z sz bytes hu hi1 hi2 hi3 hi4 hz hsz v l.length (l.flatMap enc) hs hown ⟨G, 0, none⟩ 1 1 (enc y) hx (by rw [he.len, Nat.one_mul]) hnews (he.one y) (by omega) hmax hroom hBs w.heap.size rfl ?_
  intro g cap w' h1 h2 h3 h4
  refine h _ _ w' ?_ h2 h3
  unfold Own
  rw [List.length_append, List.flatMap_append]
  simpa using h1
end
end Go.Proofs.YtohinfefidahlaaGreatDoor
