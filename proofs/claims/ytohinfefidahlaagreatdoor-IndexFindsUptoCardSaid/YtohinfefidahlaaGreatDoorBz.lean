/- strings.Builder whose buffer lies above some block: what is below stays as it is. -/
import Derived.Test.YtohinfefidahlaaGreatDoorBld
import Derived.Test.YtohinfefidahlaaGreatDoorHeld
namespace Go.Proofs.YtohinfefidahlaaGreatDoor
open Go.RowKit
set_option linter.unusedVariables false

/-- the text told so far by the builder at block b; its buffer lies at B or above -/
def Bz (B b : Nat) (s : Bytes) (w : World) : Prop :=
  ∃ p v, w.heap[b]? = some (.cells #[p, v] 204 (0, 0)) ∧ (p = .pointer none ∨ p = .pointer (some ⟨b, 0, none⟩)) ∧ w.ownsRowF B 5 1 v s.length (Lib.byteCells s) ∧ v.ownBlock ≠ some b
section
variable {B b : Nat} {s : Bytes} {w w' : World}
theorem Bz.lt (h : Bz B b s w) : b < w.heap.size := by
  obtain ⟨p, v, h, _⟩ := h
  exact (Array.getElem?_eq_some_iff.1 h).1
theorem ownsRowF_mono {B' : Nat} {e : TypeId} {size : Nat} {v : Value} {n : Nat} {xs : List Value} (h : w.ownsRowF B e size v n xs) (hB : B' ≤ B) : w.ownsRowF B' e size v n xs := by
  refine ⟨h.1, ?_⟩
  rcases h.2 with hn | ⟨g, cap, cur, fz, hv, hb, rest⟩
  · exact .inl hn
  · exact .inr ⟨g, cap, cur, fz, hv, Nat.le_trans hB hb, rest⟩
theorem Bz.bld {B' : Nat} (h : Bz B b s w) (h1 : B' ≤ b) (h2 : B' ≤ B) : Bld B' b s w := by
  obtain ⟨p, v, hb, hp, hown, hne⟩ := h
  have hown : w.ownsRowF B 5 1 v (Lib.byteCells s).length (Lib.byteCells s) := by rw [Lib.byteCells_length]; exact hown
  rcases hp with rfl | rfl
  · exact .inl ⟨h1, v, hb, ownsRowF_mono hown h2, hne⟩
  · exact .inr ⟨h1, v, hb, ownsRowF_mono hown h2, hne⟩
theorem Bz.of_block (h : Bz B b s w) (hk : ∀ k, k < w.heap.size → (k = b ∨ B ≤ k) → w'.heap[k]? = w.heap[k]?) : Bz B b s w' := by
  have hlt := h.lt
  obtain ⟨p, v, hb, hp, hown, hne⟩ := h
  refine ⟨p, v, by rw [hk b hlt (.inl rfl)]; exact hb, hp, ?_, hne⟩
  refine ⟨hown.1, ?_⟩
  rcases hown.2 with hn | ⟨g, cap, cur, fz, hv, hbg, hg, rest⟩
  · exact .inl hn
  · exact .inr ⟨g, cap, cur, fz, hv, hbg, by rw [hk g (Array.getElem?_eq_some_iff.1 hg).1 (.inr hbg)]; exact hg, rest⟩
theorem Bz.alloc (h : Bz B b s w) (o : Obj) : Bz B b s (w.alloc o) := h.of_block fun k hk _ => Below.heap_alloc w o k hk
theorem Bz.drewN (h : Bz B b s w) (n : Nat) : Bz B b s (w.drewN n) := h
theorem Bz.next (h : Bz B b s w) (hb : Below w.heap.size w w') : Bz B b s w' := h.of_block fun k hk _ => hb.block k hk
theorem Bz.set_other (h : Bz B b s w) {g : Nat} (hb : g ≠ b) (hB : g < B) (i : Nat) (v : Value) : Bz B b s (w.setCell ⟨g, i, none⟩ v) :=
  h.of_block fun k hk hkb => Below.heap_setCell _ _ _ _ (by
    rcases hkb with rfl | h
    · exact fun e => hb e.symm
    · show k ≠ g; omega)
theorem Bz.fresh (hb : w.heap[b]? = some (.cells #[.pointer none, .slice none 0 0] 204 (0, 0))) : Bz B b [] w :=
  ⟨_, _, hb, .inl rfl, ⟨by simp [Lib.byteCells], .inl ⟨rfl, rfl⟩⟩, by intro e; cases e⟩
end

set_option maxHeartbeats 2000000 in
set_option maxRecDepth 100000 in
theorem writeByte_z (B b : Nat) (s : Bytes) (c : UInt8) (w : World) (h : Bz B b s w) (hlen : s.length + 1 ≤ 1000000000) (hBw : B ≤ w.heap.size) :
    Calls Tryz.prog 164 #[.pointer (some ⟨b, 0, none⟩), .int .u8 c.toNat] w fun e w' => e = .returned .nilIface ∧ Bz B b (s ++ [c]) w' ∧ Kept (fun g => g = b ∨ B ≤ g) w w' := by
  obtain ⟨i0, hi, hz0, hz1, hz2⟩ := info_parts infoByte
  have hlt := h.lt
  obtain ⟨p, v, hbk, hp, hown, hne⟩ := h
  have hcc : Calls Tryz.prog 184 #[.pointer (some ⟨b, 0, none⟩)] w fun e w1 => e = .returned (.tuple #[]) ∧ w1.heap[b]? = some (.cells #[.pointer (some ⟨b, 0, none⟩), v] 204 (0, 0)) ∧ w1.ownsRowF B 5 1 v s.length (Lib.byteCells s) ∧ Kept (fun g => g = b ∨ B ≤ g) w w1 := by
    rcases hp with rfl | rfl
    · refine (copyCheck_fresh b w (by rw [Lib.cell_of_heap hbk]; rfl) (by simp [World.shape?, hbk]) (Lib.frozen_of_heap hbk 0)).mono ?_
      rintro e w1 ⟨rfl, rfl⟩
      refine ⟨rfl, ?_, ?_, (Kept.refl _ w).setCell (p := ⟨b, 0, none⟩) (.inl rfl) _⟩
      · have := Bk.set (w := w) (g := b) (C := [.pointer none, v]) (T := 204) hbk 0 (.pointer (some ⟨b, 0, none⟩))
        exact this
      · refine ⟨hown.1, ?_⟩
        rcases hown.2 with hn | ⟨g, cap, cur, fz, hv, hbg, hg, rest⟩
        · exact .inl hn
        · refine .inr ⟨g, cap, cur, fz, hv, hbg, ?_, rest⟩
          rw [Below.heap_setCell _ _ _ _ (show g ≠ b from fun e => hne (by rw [hv, e]; rfl))]; exact hg
    · refine (copyCheck_used b w (by rw [Lib.cell_of_heap hbk]; rfl)).mono ?_
      rintro e w1 ⟨rfl, rfl⟩
      exact ⟨rfl, hbk, hown, Kept.refl _ _⟩
  have HCC := Lib.hid hcc
  clear hcc hown hbk hp
  go_enter Tryz.func164, Tryz.ntmps164
  go_wp2_with (go_at_call 184; refine HCC.out.mono ?_)
  rintro e w1 ⟨rfl, hbk, hown, hk1⟩
  have hz1' := hk1.size
  have c0 : w1.cell? ⟨b, 0, none⟩ = some (.pointer (some ⟨b, 0, none⟩)) := by rw [Lib.cell_of_heap hbk]; rfl
  have c1 : w1.cell? ⟨b, 1, none⟩ = some v := by rw [Lib.cell_of_heap hbk]; rfl
  go_wp2_with (at_builtin; refine wpList_append_ownF _ rfl _ _ 65 rfl B 5 i0 (.int .u8 0) 1 1 Tryz.underlying65 hi hz0 hz1 hz2 rfl (by decide) _ _ _ rfl (hown.alloc _) ⟨w1.heap.size, 0, none⟩ 1 1 [.int .u8 c.toNat] rfl rfl ?c1 ?c2 ?c3 ?c4 ?c5 ?_)
  case c1 =>
    intro j u hj
    match j, hj with
    | 0, hj => simp at hj; subst hj; simp [Addr.add]
  case c2 => intro u hu; simp at hu; subst hu; rfl
  case c3 => unfold maxLen; omega
  case c4 => omega
  case c5 => simp; omega
  intro v' w2 hown' hgrow _
  have hlt1 : b < w1.heap.size := by omega
  have hb2 : w2.heap[b]? = some (.cells #[.pointer (some ⟨b, 0, none⟩), v] 204 (0, 0)) := by
    rw [hgrow.block b (by simp; omega) (fun e => hne e.symm), Lib.alloc_old w1 _ b hlt1]
    exact hbk
  have d0 : w2.cell? ⟨b, 0, none⟩ = some (.pointer (some ⟨b, 0, none⟩)) := by rw [Lib.cell_of_heap hb2]; rfl
  have d1 : w2.cell? ⟨b, 1, none⟩ = some v := by rw [Lib.cell_of_heap hb2]; rfl
  have f1 : w2.frozen? ⟨b, 1, none⟩ = false := Lib.frozen_of_heap hb2 1
  obtain ⟨g, cap, rfl⟩ : ∃ g cap, v' = .slice (some ⟨g, 0, none⟩) (s.length + 1) cap := by
    rcases hown'.2 with ⟨_, h0⟩ | ⟨g, cap, cur, fz, hv, _⟩
    · omega
    · exact ⟨g, cap, hv⟩
  go_wp2
  go_ret
  have hgb : g ≠ b := by
    intro e
    subst e
    rcases hown'.2 with ⟨hv, _⟩ | ⟨g', cap', cur, fz, hv, hbg, hg, _⟩
    · cases hv
    · injection hv with hv
      injection hv with hv
      injection hv with hv
      subst hv
      rw [hb2] at hg
      injection hg with hg
      injection hg with _ ht _
      exact absurd ht (by decide)
  refine ⟨rfl, ⟨.pointer (some ⟨b, 0, none⟩), .slice (some ⟨g, 0, none⟩) (s.length + 1) cap, ?_, .inr rfl, ?_, ?_⟩, ?_⟩
  · exact Bk.set (w := w2) (g := b) (C := [.pointer (some ⟨b, 0, none⟩), v]) (T := 204) hb2 1 _
  · have e1 : Lib.byteCells (s ++ [c]) = Lib.byteCells s ++ [.int .u8 c.toNat] := by rw [Lib.byteCells_append]; rfl
    rw [e1]
    rw [List.length_append, List.length_singleton]
    refine ⟨hown'.1, ?_⟩
    rcases hown'.2 with hn | ⟨g', cap', cur, fz, hv, hbg, hg, rest⟩
    · exact .inl hn
    · refine .inr ⟨g', cap', cur, fz, hv, hbg, ?_, rest⟩
      have e2 : g' = g := by injection hv with hv; injection hv with hv; injection hv with hv; exact hv.symm
      rw [Below.heap_setCell _ _ _ _ (show g' ≠ b by rw [e2]; exact hgb)]; exact hg
  · intro e
    exact hgb (Option.some.inj e)
  · refine ((hk1.alloc _).grown hgrow ?_).setCell (p := ⟨b, 1, none⟩) (.inl rfl) _
    intro g' hg'
    right
    rcases hown.2 with ⟨hv, _⟩ | ⟨g2, cap2, cur, fz, hv, hbg, _⟩
    · rw [hv] at hg'; cases hg'
    · rw [hv] at hg'
      have : g2 = g' := Option.some.inj hg'
      omega
end Go.Proofs.YtohinfefidahlaaGreatDoor
