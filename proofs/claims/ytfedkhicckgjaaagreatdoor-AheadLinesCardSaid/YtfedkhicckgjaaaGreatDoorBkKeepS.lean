/- binderylaw01.Book.Sources and .Texts: one more list in the book. -/
import Derived.Test.YtfedkhicckgjaaaGreatDoorBkApartS
namespace Go.Proofs.YtfedkhicckgjaaaGreatDoor
open Go.RowKit
set_option linter.unusedVariables false

def snocL {α : Type} (n : Nat) (L : Nat → List α) (l : List α) (j : Nat) : List α := if j < n then L j else l

theorem Part.snoc {α : Type} {B : Nat} {E HT : TypeId} {sz : Nat} {enc : α → List Value} {mk : Nat → α} {v v' : Value} {held : List HeldV} {L : Nat → List α} {w w' : World} {S : Nat → Prop} (h : Part B E HT sz enc mk v held L False False w) {a : Option Addr} {n c N : Nat} {l : List α}
    (hO : Own w' B HT 3 encH v' (held ++ [⟨a, n, c, none, 0, 0, N + 1⟩])) (hk : Kept S w w') (hS : ∀ g, (∃ cur, w.heap[g]? = some (.cells cur E (0, 0))) → ¬ S g) (hl : Own w B E sz enc (.slice a n c) l) (hll : l.length ≤ 1048577)
    (hne : ∀ g, (Value.slice a n c).ownBlock = some g → ¬ HS held g) (hN : N < 9) (hlen : held.length < 99) :
    Part B E HT sz enc mk v' (held ++ [⟨a, n, c, none, 0, 0, N + 1⟩]) (snocL held.length L l) False False w' := by
  refine ⟨hO, fun j hj => ?_, fun i j hi hj hij g hg hg2 => ?_, fun j hj => ?_, by simp; omega, fun j => ?_, fun hf => hf.elim, fun hf => hf.elim⟩
  · unfold snocL
    by_cases hjl : j < held.length
    · rw [if_pos hjl, List.getElem_append_left hjl]
      exact hk.own (h.el j hjl) fun g hg => hS g ((h.el j hjl).kind g hg)
    · rw [if_neg hjl, List.getElem_append_right (by omega)]
      simp only [List.getElem_singleton]
      exact hk.own hl fun g hg => hS g (hl.kind g hg)
  · simp only [List.length_append, List.length_singleton] at hi hj
    by_cases hil : i < held.length
    · rw [List.getElem_append_left hil] at hg
      by_cases hjl : j < held.length
      · rw [List.getElem_append_left hjl] at hg2
        exact h.apart i j hil hjl hij g hg hg2
      · rw [List.getElem_append_right (by omega)] at hg2
        simp only [List.getElem_singleton] at hg2
        exact hne g hg2 ⟨i, hil, hg⟩
    · rw [List.getElem_append_right (by omega)] at hg
      simp only [List.getElem_singleton] at hg
      have hjl : j < held.length := by omega
      rw [List.getElem_append_left hjl] at hg2
      exact hne g hg ⟨j, hjl, hg2⟩
  · simp only [List.length_append, List.length_singleton] at hj
    by_cases hjl : j < held.length
    · rw [List.getElem_append_left hjl]
      exact h.n j hjl
    · rw [List.getElem_append_right (by omega)]
      simp only [List.getElem_singleton]
      omega
  · unfold snocL
    split
    · exact h.hL j
    · exact hll

set_option maxHeartbeats 4000000 in
theorem Sources_any (B kb N : Nat) (C : List Value) (vt va : Value) (ht ha : List HeldV) (LT : Nat → List Bytes) (LA : Nat → List Two) (w0 w : World) (h : Bun B kb C vt va ht ha LT LA False False False False w0 w) (hC : C.length = 18) (h0 : C[0]? = some (.int .i64 N)) (hN : N < 9)
    (hlen : ha.length < 99) (a : Option Addr) (n c : Nat) (l : List Two) (hl : Own w B 63 2 encT (.slice a n c) l) (hll : l.length ≤ 1048577) (hne : ∀ g, (Value.slice a n c).ownBlock = some g → ¬ HS ha g) :
    Calls Tryz.prog 19 #[.pointer (some ⟨kb, 0, none⟩), .slice a n c] w fun e w' => (e = .returned (.tuple #[]) ∧ ∃ C' va', C'.length = 18 ∧ C'[0]? = some (.int .i64 ((N + 1 : Nat) : Int)) ∧ Bun B kb C' vt va' ht (ha ++ [⟨a, n, c, none, 0, 0, N + 1⟩]) LT (snocL ha.length LA l) False False False False w0 w') ∧ Kept (fun g => g = kb ∨ va.ownBlock = some g) w w' := by
  go_enter Tryz.func19, Tryz.ntmps19
  go_wp2_with (go_at_call 33; refine (keepSource_any B kb N C va ha a n c w h.bk h.kbB hC h0 (by omega) h.ca h.pa.own (by omega)).mono ?_; rintro e w2 ⟨⟨hv', rfl, bk2, hO2⟩, hk⟩)
  go_end0
  have hnotS : ∀ g, KindIn w 63 63 g → ¬ (g = kb ∨ va.ownBlock = some g) := by
    rintro g hg (rfl | e)
    · exact KindIn.not_bk (by decide) (by decide) h.bk hg
    · obtain ⟨cur, hc⟩ := h.pa.own.kind g e
      obtain ⟨c2, k | k⟩ := hg <;> rw [hc] at k <;> injection k with k <;> injection k with _ k _ <;> exact absurd k (by decide)
  have hbel := h.bel.trans (hk.below (B := B) (by rintro g (rfl | e); exact h.kbB; exact h.pa.base g (.inr e)) h.sz)
  have sz2 := Nat.le_trans h.sz hk.size
  have hcn : ∀ i, 0 < i → i < 18 → i ≠ 3 → i ≠ 6 → ((C.set 0 (.int .i64 ((N : Int) + 1))).set 6 hv')[i]? = some (.slice none 0 0) := fun i h1 h2 h3 h4 => by
    rw [List.getElem?_set_ne (by omega), List.getElem?_set_ne (by omega)]
    exact h.cn i h1 h2 h3 h4
  have hot := h.pt.kept hk (by
    rintro g hg (rfl | e)
    · exact KindIn.not_bk (by decide) (by decide) h.bk hg
    · exact KindIn.other (by decide) (by decide) (by decide) (by decide) hg (h.pa.kinds g (.inr e)))
  have hme := h.pa.snoc hO2 hk (fun g ⟨cur, hc⟩ => hnotS g ⟨cur, .inl hc⟩) hl hll hne hN hlen
  exact ⟨⟨rfl, _, hv', by simp [hC], by rw [List.getElem?_set_ne (by decide), List.getElem?_set_self (by omega)]; rfl, hbel, h.kbB, bk2, sz2, by rw [List.getElem?_set_ne (by decide), List.getElem?_set_ne (by decide)]; exact h.ct, List.getElem?_set_self (by simp [hC]), hcn, hot, hme⟩, hk⟩

set_option maxHeartbeats 4000000 in
theorem Texts_any (B kb N : Nat) (C : List Value) (vt va : Value) (ht ha : List HeldV) (LT : Nat → List Bytes) (LA : Nat → List Two) (w0 w : World) (h : Bun B kb C vt va ht ha LT LA False False False False w0 w) (hC : C.length = 18) (h0 : C[0]? = some (.int .i64 N)) (hN : N < 9)
    (hlen : ht.length < 99) (a : Option Addr) (n c : Nat) (l : List Bytes) (hl : Own w B 9 1 encS (.slice a n c) l) (hll : l.length ≤ 1048577) (hne : ∀ g, (Value.slice a n c).ownBlock = some g → ¬ HS ht g) :
    Calls Tryz.prog 20 #[.pointer (some ⟨kb, 0, none⟩), .slice a n c] w fun e w' => (e = .returned (.tuple #[]) ∧ ∃ C' va', C'.length = 18 ∧ C'[0]? = some (.int .i64 ((N + 1 : Nat) : Int)) ∧ Bun B kb C' va' va (ht ++ [⟨a, n, c, none, 0, 0, N + 1⟩]) ha (snocL ht.length LT l) LA False False False False w0 w') ∧ Kept (fun g => g = kb ∨ vt.ownBlock = some g) w w' := by
  go_enter Tryz.func20, Tryz.ntmps20
  go_wp2_with (go_at_call 34; refine (keepText_any B kb N C vt ht a n c w h.bk h.kbB hC h0 (by omega) h.ct h.pt.own (by omega)).mono ?_; rintro e w2 ⟨⟨hv', rfl, bk2, hO2⟩, hk⟩)
  go_end0
  have hnotS : ∀ g, KindIn w 9 9 g → ¬ (g = kb ∨ vt.ownBlock = some g) := by
    rintro g hg (rfl | e)
    · exact KindIn.not_bk (by decide) (by decide) h.bk hg
    · obtain ⟨cur, hc⟩ := h.pt.own.kind g e
      obtain ⟨c2, k | k⟩ := hg <;> rw [hc] at k <;> injection k with k <;> injection k with _ k _ <;> exact absurd k (by decide)
  have hbel := h.bel.trans (hk.below (B := B) (by rintro g (rfl | e); exact h.kbB; exact h.pt.base g (.inr e)) h.sz)
  have sz2 := Nat.le_trans h.sz hk.size
  have hcn : ∀ i, 0 < i → i < 18 → i ≠ 3 → i ≠ 6 → ((C.set 0 (.int .i64 ((N : Int) + 1))).set 3 hv')[i]? = some (.slice none 0 0) := fun i h1 h2 h3 h4 => by
    rw [List.getElem?_set_ne (by omega), List.getElem?_set_ne (by omega)]
    exact h.cn i h1 h2 h3 h4
  have hot := h.pa.kept hk (by
    rintro g hg (rfl | e)
    · exact KindIn.not_bk (by decide) (by decide) h.bk hg
    · exact KindIn.other (by decide) (by decide) (by decide) (by decide) hg (h.pt.kinds g (.inr e)))
  have hme := h.pt.snoc hO2 hk (fun g ⟨cur, hc⟩ => hnotS g ⟨cur, .inl hc⟩) hl hll hne hN hlen
  exact ⟨⟨rfl, _, hv', by simp [hC], by rw [List.getElem?_set_ne (by decide), List.getElem?_set_self (by omega)]; rfl, hbel, h.kbB, bk2, sz2, List.getElem?_set_self (by simp [hC]), by rw [List.getElem?_set_ne (by decide), List.getElem?_set_ne (by decide)]; exact h.ca, hcn, hme, hot⟩, hk⟩
end Go.Proofs.YtfedkhicckgjaaaGreatDoor
