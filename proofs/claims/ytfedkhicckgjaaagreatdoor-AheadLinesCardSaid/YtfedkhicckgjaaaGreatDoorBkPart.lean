/- binderylaw01.Book: one kind of lists within the book. -/
import Derived.Test.YtfedkhicckgjaaaGreatDoorBook
namespace Go.Proofs.YtfedkhicckgjaaaGreatDoor
open Go.RowKit
set_option linter.unusedVariables false

structure Part {α : Type} (B : Nat) (E HT : TypeId) (sz : Nat) (enc : α → List Value) (mk : Nat → α) (v : Value) (held : List HeldV) (L : Nat → List α) (marked long : Prop) (w : World) : Prop where
  own : Own w B HT 3 encH v held
  el : Held w B E sz enc held L
  apart : HApart held
  n : ∀ j (hj : j < held.length), held[j].n < 10
  hl : held.length < 100
  hL : ∀ j, (L j).length ≤ 1048577
  mark : marked → ∀ j (hj : j < held.length), L j = List.replicate (L j).length (mk held[j].n)
  lng : long → ∀ j (hj : j < held.length), Own w B E sz enc held[j].long (L j ++ List.replicate 40 (mk held[j].n))

def KindIn (w : World) (E HT : TypeId) (g : Nat) : Prop := ∃ cur, w.heap[g]? = some (.cells cur E (0, 0)) ∨ w.heap[g]? = some (.cells cur HT (0, 0))

section
variable {α : Type} {B : Nat} {E HT : TypeId} {sz : Nat} {enc : α → List Value} {mk : Nat → α} {v : Value} {held : List HeldV} {L : Nat → List α} {marked long : Prop} {w w' : World}
theorem Part.kinds (h : Part B E HT sz enc mk v held L marked long w) : ∀ g, HS held g ∨ v.ownBlock = some g → KindIn w E HT g := by
  rintro g (⟨j, hj, e⟩ | e)
  · obtain ⟨cur, hc⟩ := (h.el j hj).kind g e
    exact ⟨cur, .inl hc⟩
  · obtain ⟨cur, hc⟩ := h.own.kind g e
    exact ⟨cur, .inr hc⟩
theorem Part.base (h : Part B E HT sz enc mk v held L marked long w) : ∀ g, HS held g ∨ v.ownBlock = some g → B ≤ g := by
  rintro g (⟨j, hj, e⟩ | e)
  · exact ((h.el j hj).block g e).1
  · exact (h.own.block g e).1
theorem Part.kept {S : Nat → Prop} (h : Part B E HT sz enc mk v held L marked long w) (hk : Kept S w w') (hS : ∀ g, KindIn w E HT g → ¬ S g) : Part B E HT sz enc mk v held L marked long w' := by
  refine ⟨hk.own h.own fun g hg => hS g ?_, fun j hj => hk.own (h.el j hj) fun g hg => hS g ?_, h.apart, h.n, h.hl, h.hL, h.mark, fun hl j hj => hk.own (h.lng hl j hj) fun g hg => hS g ?_⟩
  · obtain ⟨cur, hc⟩ := h.own.kind g hg
    exact ⟨cur, .inr hc⟩
  · obtain ⟨cur, hc⟩ := (h.el j hj).kind g hg
    exact ⟨cur, .inl hc⟩
  · obtain ⟨cur, hc⟩ := (h.lng hl j hj).kind g hg
    exact ⟨cur, .inl hc⟩
/-- blocks of other kinds are other blocks -/
theorem KindIn.other {E1 HT1 E2 HT2 : TypeId} (h1 : E1 ≠ E2) (h2 : E1 ≠ HT2) (h3 : HT1 ≠ E2) (h4 : HT1 ≠ HT2) {g : Nat} (a : KindIn w E1 HT1 g) (b : KindIn w E2 HT2 g) : False := by
  obtain ⟨c1, h | h⟩ := a <;> obtain ⟨c2, k | k⟩ := b <;> rw [h] at k <;> injection k with k <;> injection k with _ k _
  · exact h1 k
  · exact h2 k
  · exact h3 k
  · exact h4 k
theorem KindIn.not_bk {T : TypeId} {C : List Value} {g : Nat} (h1 : E ≠ T) (h2 : HT ≠ T) (hb : Bk w g C T) (b : KindIn w E HT g) : False := by
  unfold Bk at hb
  obtain ⟨c, k | k⟩ := b <;> rw [hb] at k <;> injection k with k <;> injection k with _ k _
  · exact h1 k.symm
  · exact h2 k.symm
theorem Part.fill {e : Ending} (hne : E ≠ HT) (h : Part B E HT sz enc mk v held L marked False w) (hf : Filled B E sz enc mk held L w e w') :
    e = .returned (.tuple #[]) ∧ Part B E HT sz enc mk v held (fun j => List.replicate (L j).length (mk ((held[j]?.map (·.n)).getD 0))) True False w' ∧ Kept (fun g => HS held g ∨ v.ownBlock = some g) w w' := by
  obtain ⟨he, hH, hk⟩ := hf
  refine ⟨he, ⟨hk.own h.own fun g hg => h.el.not_own h.own hne g hg, hH, h.apart, h.n, h.hl, fun j => by simpa using h.hL j, fun _ j hj => ?_, fun hf => hf.elim⟩, hk.mono fun g hg => .inl hg⟩
  rw [List.getElem?_eq_getElem hj]
  simp
theorem Part.grow {e : Ending} (h : Part B E HT sz enc mk v held L marked False w) (hg : Grown B E HT sz enc mk v held L w e w') :
    e = .returned (.tuple #[]) ∧ (∃ held', held'.length = held.length ∧ Part B E HT sz enc mk v held' L marked True w') ∧ Kept (fun g => HS held g ∨ v.ownBlock = some g) w w' := by
  obtain ⟨he, held', G⟩ := hg
  have hsame : ∀ j (hj : j < held'.length), held'[j].v = (held[j]'(by rw [← G.len]; exact hj)).v ∧ held'[j].n = (held[j]'(by rw [← G.len]; exact hj)).n := fun j hj => G.same j (by rw [← G.len]; exact hj) hj
  refine ⟨he, ⟨held', G.len, G.own, fun j hj => ?_, fun i j hi hj hij g => ?_, fun j hj => ?_, by rw [G.len]; exact h.hl, h.hL, fun hm j hj => ?_, fun _ j hj => ?_⟩, G.kept⟩
  · rw [(hsame j hj).1]
    exact G.el j (by rw [← G.len]; exact hj)
  · rw [(hsame i hi).1, (hsame j hj).1]
    exact h.apart i j _ _ hij g
  · rw [(hsame j hj).2]
    exact h.n j _
  · rw [(hsame j hj).2]
    exact h.mark hm j _
  · rw [(hsame j hj).2]
    exact (G.long j (by rw [← G.len]; exact hj) hj (by rw [← G.len]; exact hj)).1
theorem Part.lookE (h : Part B E HT sz enc mk v held L True long w) : ∀ j (hj : j < held.length), Own w B E sz enc held[j].v (List.replicate (L j).length (mk held[j].n)) := fun j hj => by
  rw [← h.mark trivial j hj]; exact h.el j hj
theorem Part.lookG (h : Part B E HT sz enc mk v held L True True w) : ∀ j (hj : j < held.length), Own w B E sz enc held[j].long (List.replicate ((L j).length + 40) (mk held[j].n)) := fun j hj => by
  have := h.lng trivial j hj
  rw [h.mark trivial j hj] at this
  rw [List.replicate_append_replicate] at this
  exact this
end
end Go.Proofs.YtfedkhicckgjaaaGreatDoor
