/- Small lemmas that no function's walk is needed for: copy from a string, blocks, the ends of walks. -/
import Derived.Test.YtohinfefidahlaaDoorRows
import Derived.WalkKit
import Derived.WalkSpells
import Derived.WalkLawsBesides
import Derived.Lib.Hide
namespace Go.Proofs.YtohinfefidahlaaDoor
open Go.RowKit

theorem ret_u64 {a b : Nat} (h : a = b) : Ending.returned (.int .u64 (a : Int)) = .returned (.int .u64 (b : Int)) := by rw [h]
theorem ret_bool {a b : Bool} (h : a = b) : Ending.returned (.bool a) = .returned (.bool b) := by rw [h]
theorem ret_str {a b : List UInt8} (h : a = b) : Ending.returned (.string ⟨a.toArray⟩) = .returned (.string ⟨b.toArray⟩) := by rw [h]
theorem take_snoc (s : ByteArray) (k : Nat) (h : k < s.size) : s.data.toList.take (k + 1) = s.data.toList.take k ++ [s[k]] := by
  rw [List.take_succ_eq_append_getElem (by simpa using h)]; rfl

theorem run_copy_str {P : Program} (w : World) (dT sT ty elem : TypeId) (g o dLen dCap : Nat) (s : ByteArray) (cur : Array Value) (t : TypeId) (cs : List Value)
    (hu : P.underlying dT = some (.slice elem)) (hs : ((P.info? elem).map (·.size)).isSome = true)
    (hg : w.heap[g]? = some (.cells cur t (0, 0))) (hn : s.size ≤ dLen) (hcs : (s.data.map fun b => Value.int .u8 b.toNat).toList = cs)
    (hfit : o + s.size ≤ cur.size) :
    (Builtin.copy_ #[dT, sT] ty #[.slice (some ⟨g, o, none⟩) dLen dCap, .string s]).run P w =
      .ok (goInt s.size) (w.setRow g (cur.toList.take o ++ cs ++ cur.toList.drop (o + s.size)).toArray) := by
  have hl : cs.length = s.size := by rw [← hcs]; simp
  have hst := run_storeCells_at P g o t cs 0 cur w hg (by simpa [hl] using hfit) (by rw [← hcs]; intro v hv; simp at hv; obtain ⟨b, _, rfl⟩ := hv; rfl)
  have hmin : Nat.min s.size dLen = s.size := Nat.min_eq_left hn
  cases hq : P.info? elem with
  | none => simp [hq] at hs
  | some i =>
    have e : List.take s.size (List.map (fun b : UInt8 => Value.int IntKind.u8 ↑b.toNat) s.data.toList) = cs := by
      rw [List.take_of_length_le (by simp), ← hcs]; simp
    simp [Builtin.copy_, run_underlying hu, Builtin.lenOf, Builtin.firstCells, sizeOf, typeInfo, hq, hmin, e, hst, hl]

theorem setRow_alloc (w : World) (old new : Array Value) (t : TypeId) : (w.alloc (.cells old t)).setRow w.heap.size new = w.alloc (.cells new t) := by
  unfold World.setRow World.alloc
  congr 1
  apply Array.ext
  · simp
  · intro i h1 h2
    simp [Array.getElem_modify, Array.getElem_push]
    split <;> split <;> simp_all <;> omega

/-- a slice of bytes as a string: the cells hold the bytes of l -/
theorem run_bytes_str {P : Program} (w : World) (src dst e : TypeId) (hs : P.underlying src = some (.slice e)) (he : P.underlying e = some (.int .u8)) (hd : P.underlying dst = some .string)
    (b off len cap : Nat) (l : List UInt8) (hlen : l.length = len) (hcell : ∀ i, i < len → w.cell? ⟨b, off + i, none⟩ = some (.int .u8 (l.getD i 0).toNat)) :
    (convert src dst (.slice (some ⟨b, off, none⟩) len cap)).run P w = .ok (.string ⟨l.toArray⟩) w := by
  have h := run_convert_bytes_arg (P := P) w src e hs he b off len cap (l.map fun c => (c.toNat : Int)) (by simp [hlen]) (fun i hi => by
    rw [hcell i hi]
    have : i < l.length := by omega
    simp [List.getD, List.getElem?_map, List.getElem?_eq_getElem this]) dst hd
  rw [h]
  have : strOfNums (l.map fun c => (c.toNat : Int)) = ⟨l.toArray⟩ := by
    have e : (strOfNums (l.map fun c => (c.toNat : Int))).data.toList = l := by
      rw [strOfNums_data, List.map_map]
      conv => rhs; rw [← List.map_id l]
      apply List.map_congr_left
      intro c _
      simp
    apply ByteArray.ext
    apply Array.toList_inj.1
    simpa using e
  rw [this]

/-! ### a block that is known whole: its cells; none of them is frozen -/
def Blk (w : World) (g : Nat) (C : List Value) : Prop := ∃ t lo hi, w.heap[g]? = some (.cells C.toArray t (lo, hi)) ∧ (hi ≤ lo ∨ C.length ≤ lo)

theorem Blk.lt {w : World} {g : Nat} {C : List Value} (h : Blk w g C) : g < w.heap.size := by
  obtain ⟨t, lo, hi, h, _⟩ := h
  exact (Array.getElem?_eq_some_iff.1 h).1
theorem Blk.cell {w : World} {g : Nat} {C : List Value} (h : Blk w g C) (i : Nat) : w.cell? ⟨g, i, none⟩ = C[i]? := by
  obtain ⟨t, lo, hi, h, _⟩ := h
  simp [World.cell?, h]
theorem Blk.free {w : World} {g : Nat} {C : List Value} (h : Blk w g C) {i : Nat} (hi : i < C.length) : w.frozen? ⟨g, i, none⟩ = false := by
  obtain ⟨t, lo, h', h, hl⟩ := h
  simp [World.frozen?, h]
  omega
theorem Blk.of_block {w w' : World} {g : Nat} {C : List Value} (h : Blk w g C) (e : w'.heap[g]? = w.heap[g]?) : Blk w' g C := by
  obtain ⟨t, lo, hi, h, hl⟩ := h
  exact ⟨t, lo, hi, e.trans h, hl⟩
theorem Blk.below {B : Nat} {w w' : World} {g : Nat} {C : List Value} (h : Blk w g C) (hb : Below B w w') (hg : g < B) : Blk w' g C := h.of_block (hb.block g hg)
theorem Blk.set {w : World} {g : Nat} {C : List Value} (h : Blk w g C) (i : Nat) (v : Value) : Blk (w.setCell ⟨g, i, none⟩ v) g (C.set i v) := by
  obtain ⟨t, lo, hi, h, hl⟩ := h
  refine ⟨t, lo, hi, ?_, by simpa using hl⟩
  have hlt := (Array.getElem?_eq_some_iff.1 h).1
  have hv := (Array.getElem?_eq_some_iff.1 h).2
  simp only [World.setCell]
  rw [Array.getElem?_eq_getElem (by simpa using hlt), Array.getElem_modify_self, hv]
  simp
theorem Blk.set_other {w : World} {g g' : Nat} {C : List Value} (h : Blk w g C) (hne : g' ≠ g) (i : Nat) (v : Value) : Blk (w.setCell ⟨g', i, none⟩ v) g C :=
  h.of_block (Below.heap_setCell _ _ _ _ (Ne.symm hne))
theorem Blk.new (w : World) (C : Array Value) (t : TypeId) : Blk (w.alloc (.cells C t)) w.heap.size C.toList :=
  ⟨t, 0, 0, by rw [heap_alloc_new], .inl (Nat.le_refl _)⟩

/-- '[]byte(s)': a new block: the string's bytes, then spare room -/
theorem wpList_bytes_of {P : Program} {w : World} {ops : Array Oper} {rest : List Oper} {o : Oper} {a : Act} {Q : Exit → Act → World → Prop} (hgd : o.guard = none) (x : Operand) (src dst e : TypeId)
    (ho : o.op = .convert src dst x) (s : ByteArray) (hx : a.eval x = .string s)
    (hs : P.underlying src = some .string) (hd : P.underlying dst = some (.slice e)) (he : P.underlying e = some (.int .u8))
    (h : ∀ w' cap rest', Below w.heap.size w w' → w'.heap.size = w.heap.size + 1 → Blk w' w.heap.size (s.data.toList.map (fun c => Value.int .u8 c.toNat) ++ rest') → s.size ≤ cap →
      wpList P ops Q rest (a.put o.dst (.slice (some ⟨w.heap.size, 0, none⟩) s.size cap)) w') :
    wpList P ops Q (o :: rest) a w := by
  refine wpList_plain hgd fun K hK => ?_
  have hrun := run_bytes_of_string (P := P) w src dst e s hs hd he
  unfold Oper.wp
  simp only [execOp, ho, hx, Sem.run_bind, hrun, Result.andThen_ok, Sem.run_pure]
  refine hK _ _ (h _ _ (List.replicate (grownCap w s.size 0 e - s.size) (.int .u8 0)) ?_ ?_ ?_ (grownCap_ge _ _ _ _))
  · exact (Below.refl _ w).drew.alloc (Nat.le_refl _) _
  · simp
  · refine ⟨e, (bytesRow s (grownCap w s.size 0 e)).size, (bytesRow s (grownCap w s.size 0 e)).size + 1, ?_, .inr ?_⟩
    · have := heap_alloc_new w.drew (.cells (bytesRow s (grownCap w s.size 0 e)) e ((bytesRow s (grownCap w s.size 0 e)).size, (bytesRow s (grownCap w s.size 0 e)).size + 1))
      refine this.trans ?_
      congr 2
      apply Array.toList_inj.1
      simp [bytesRow]
    · simp [bytesRow]

/-- 'string(b)' of bytes whose cells hold the bytes of l -/
theorem wpList_str_of {P : Program} {w : World} {ops : Array Oper} {rest : List Oper} {o : Oper} {a : Act} {Q : Exit → Act → World → Prop} (hgd : o.guard = none) (x : Operand) (src dst e : TypeId)
    (ho : o.op = .convert src dst x) (b off len cap : Nat) (hx : a.eval x = .slice (some ⟨b, off, none⟩) len cap)
    (hs : P.underlying src = some (.slice e)) (he : P.underlying e = some (.int .u8)) (hd : P.underlying dst = some .string)
    (l : List UInt8) (hlen : l.length = len) (hcell : ∀ i, i < len → w.cell? ⟨b, off + i, none⟩ = some (.int .u8 (l.getD i 0).toNat))
    (h : wpList P ops Q rest (a.put o.dst (.string ⟨l.toArray⟩)) w) : wpList P ops Q (o :: rest) a w := by
  refine wpList_plain hgd fun K hK => ?_
  have hrun := run_bytes_str (P := P) w src dst e hs he hd b off len cap l hlen hcell
  unfold Oper.wp
  simp only [execOp, ho, hx, Sem.run_bind, hrun, Result.andThen_ok, Sem.run_pure]
  exact hK _ _ h

end Go.Proofs.YtohinfefidahlaaDoor
