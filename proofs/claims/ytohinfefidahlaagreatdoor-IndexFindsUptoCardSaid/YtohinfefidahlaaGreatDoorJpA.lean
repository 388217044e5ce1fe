/- binderylaw01.word: a mark as a text, of any number. binderylaw01.Book: the lists that it holds, each with its number. binderylaw01.Book: one kind of lists within the book. Regions by hand: one operation taken, the frame written out anew. -/
import Derived.Test.YtohinfefidahlaaGreatDoorHeld
import Derived.Test.YtohinfefidahlaaGreatDoorNumber
import Derived.Deep.RegionHeld3
import Derived.Deep.AppendLies
import Derived.Deep.DrawnRows
import Derived.StillTailTactics
namespace Go.Proofs.YtohinfefidahlaaGreatDoor
open Go.RowKit
set_option linter.unusedVariables false
set_option linter.unusedSimpArgs false

def wordB (n : Nat) : Bytes := 35 :: Lib.decDigits n
theorem HasTab.heap {w W : World} (h : HasTab w) (e : W.heap = w.heap) : HasTab W := h.of_block (by rw [e])
set_option maxHeartbeats 1000000 in
theorem word_any (n : Nat) (w : World) (hn : n < 1000000) (htab : HasTab w) : Calls Tryz.prog 157 #[.int .i64 n] w fun e w' => e = .returned (.string ⟨(wordB n).toArray⟩) ∧ Below w.heap.size w w' := by
  have hd : (Lib.decDigits n).length ≤ 100 := dec_100 (by omega)
  go_enter Tryz.func157, Tryz.ntmps157
  go_wp2_with (go_at_call 146; refine (itoa_any n _ (by omega) htab).mono ?_; rintro e w2 ⟨rfl, hb2⟩)
  go_ret
  exact ⟨rfl, hb2⟩
end Go.Proofs.YtohinfefidahlaaGreatDoor

namespace Go.Proofs.YtohinfefidahlaaGreatDoor
open Go.RowKit

structure HeldV where
  a : Option Addr
  len : Nat
  c : Nat
  la : Option Addr
  ll : Nat
  lc : Nat
  n : Nat
def encH (x : HeldV) : List Value := [.slice x.a x.len x.c, .slice x.la x.ll x.lc, .int .i64 x.n]
theorem encH_ok : Enc 3 encH := ⟨fun _ => rfl, fun x u hu => by simp [encH] at hu; rcases hu with rfl | rfl | rfl <;> rfl⟩
def HeldV.v (x : HeldV) : Value := .slice x.a x.len x.c
def HeldV.long (x : HeldV) : Value := .slice x.la x.ll x.lc

/-! ### lists that are written over -/
section
variable {α : Type}
def over (k : Nat) (m : α) (l : List α) : List α := List.replicate k m ++ l.drop k
theorem over_zero (m : α) (l : List α) : over 0 m l = l := rfl
theorem over_len (k : Nat) (m : α) (l : List α) (h : k ≤ l.length) : (over k m l).length = l.length := by unfold over; simp; omega
theorem over_all (m : α) (l : List α) : over l.length m l = List.replicate l.length m := by unfold over; simp
theorem over_set (k : Nat) (m : α) (l : List α) (h : k < l.length) : (over k m l).set k m = over (k + 1) m l := by
  unfold over
  rw [List.set_append_right _ _ (by simp)]
  simp only [List.length_replicate, Nat.sub_self]
  rw [List.drop_eq_getElem_cons h, List.set_cons_zero, List.replicate_succ', List.append_assoc]
  rfl
theorem over_at (k : Nat) (m : α) (l : List α) (_h : k < l.length) : (over k m l)[k]? = l[k]? := by
  unfold over
  rw [List.getElem?_append_right (by simp)]
  simp
theorem marks_snoc (l : List α) (k : Nat) (m : α) : (l ++ List.replicate k m) ++ [m] = l ++ List.replicate (k + 1) m := by
  rw [List.append_assoc, List.replicate_succ']
end

/-! ### several lists of one kind -/
/-- each held list owns its elements -/
def Held {α : Type} (w : World) (B : Nat) (E : TypeId) (sz : Nat) (enc : α → List Value) (held : List HeldV) (L : Nat → List α) : Prop :=
  ∀ j (hj : j < held.length), Own w B E sz enc held[j].v (L j)
/-- no two lie in one block -/
def HApart (held : List HeldV) : Prop :=
  ∀ i j (hi : i < held.length) (hj : j < held.length), i ≠ j → ∀ g, held[i].v.ownBlock = some g → held[j].v.ownBlock ≠ some g
/-- the blocks in which they lie -/
def HS (held : List HeldV) (g : Nat) : Prop := ∃ j, ∃ hj : j < held.length, held[j].v.ownBlock = some g
section
variable {α : Type} {w w' : World} {B : Nat} {E : TypeId} {sz : Nat} {enc : α → List Value} {held : List HeldV} {L : Nat → List α}
theorem Held.not_bk {g : Nat} {C : List Value} {T : TypeId} (h : Held w B E sz enc held L) (hb : Bk w g C T) (hT : E ≠ T) : ¬ HS held g := by
  rintro ⟨j, hj, e⟩
  exact (h j hj).ne_bk hb hT e
theorem Held.not_own {β : Type} {B' : Nat} {e' : TypeId} {sz' : Nat} {enc' : β → List Value} {v' : Value} {l' : List β} (h : Held w B E sz enc held L) (h' : Own w B' e' sz' enc' v' l') (he : E ≠ e') : ∀ g, v'.ownBlock = some g → ¬ HS held g := by
  rintro g hg ⟨j, hj, e⟩
  exact (h j hj).ne_own h' he g e hg
theorem Held.len (h : Held w B E sz enc held L) (j : Nat) (hj : j < held.length) : held[j].len = (L j).length := by
  obtain ⟨a, c, e⟩ := (h j hj).shape
  unfold HeldV.v at e
  injection e
theorem Held.lt (h : Held w B E sz enc held L) {g : Nat} (hs : HS held g) : B ≤ g ∧ g < w.heap.size := by
  obtain ⟨j, hj, e⟩ := hs
  exact (h j hj).block g e
end
/-- a loop stands at list i, at its element k -/
def fillL {α : Type} (i k : Nat) (mk : Nat → α) (held : List HeldV) (L : Nat → List α) (j : Nat) : List α :=
  if j < i then List.replicate (L j).length (mk ((held[j]?.map (·.n)).getD 0)) else if j = i then over k (mk ((held[j]?.map (·.n)).getD 0)) (L j) else L j
section
variable {α : Type} (mk : Nat → α) (held : List HeldV) (L : Nat → List α)
theorem fillL_start (j : Nat) : fillL 0 0 mk held L j = L j := by
  unfold fillL; split; omega; split <;> rfl
theorem fillL_at (i k : Nat) (hi : i < held.length) : fillL i k mk held L i = over k (mk held[i].n) (L i) := by
  unfold fillL; rw [if_neg (by omega), if_pos rfl, List.getElem?_eq_getElem hi]; rfl
theorem fillL_other {i k k' j : Nat} (h : j ≠ i) : fillL i k mk held L j = fillL i k' mk held L j := by
  unfold fillL
  by_cases h1 : j < i
  · rw [if_pos h1, if_pos h1]
  · rw [if_neg h1, if_neg h, if_neg h1, if_neg h]
theorem fillL_next (i j : Nat) : fillL i (L i).length mk held L j = fillL (i + 1) 0 mk held L j := by
  unfold fillL
  by_cases h1 : j < i
  · rw [if_pos h1, if_pos (by omega)]
  · rw [if_neg h1]
    by_cases h2 : j = i
    · subst h2; rw [if_pos rfl, if_pos (by omega), over_all]
    · rw [if_neg h2, if_neg (by omega)]
      split <;> rfl
theorem fillL_end (i : Nat) (j : Nat) (hj : j < i) (hl : j < held.length) : fillL i 0 mk held L j = List.replicate (L j).length (mk held[j].n) := by
  unfold fillL; rw [if_pos hj, List.getElem?_eq_getElem hl]; rfl
end
def Filled {α : Type} (B : Nat) (E : TypeId) (sz : Nat) (enc : α → List Value) (mk : Nat → α) (held : List HeldV) (L : Nat → List α) (w : World) (e : Ending) (w' : World) : Prop :=
  e = .returned (.tuple #[]) ∧ Held w' B E sz enc held (fun j => List.replicate (L j).length (mk ((held[j]?.map (·.n)).getD 0))) ∧ Kept (HS held) w w'

/-! ### a list to which marks are put -/
structure GrowK {α : Type} (B : Nat) (E : TypeId) (sz : Nat) (enc : α → List Value) (xv u : Value) (l : List α) (m : α) (k S1 : Nat) (w0 wi : World) : Prop where
  own : Own wi B E sz enc u (l ++ List.replicate k m)
  base : Own wi B E sz enc xv l
  ext : (∃ a c, xv = .slice a l.length c ∧ u = .slice a (l.length + k) c) ∨ (∀ g, u.ownBlock = some g → S1 ≤ g)
  lt : ∀ g, xv.ownBlock = some g → g < S1
  kept : Kept (fun g => xv.ownBlock = some g ∨ S1 ≤ g) w0 wi
  sz : S1 ≤ wi.heap.size
section
variable {α : Type} {B : Nat} {E : TypeId} {sz : Nat} {enc : α → List Value} {xv u : Value} {l : List α} {m : α} {k S1 : Nat} {w0 wi w2 : World}
theorem GrowK.start (h : Own wi B E sz enc xv l) (hl : ∀ g, xv.ownBlock = some g → g < S1) (hs : S1 ≤ wi.heap.size) : GrowK B E sz enc xv xv l m 0 S1 wi wi := by
  refine ⟨by simpa using h, h, .inl ?_, hl, Kept.refl _ _, hs⟩
  obtain ⟨a, c, rfl⟩ := h.shape
  exact ⟨a, c, rfl, rfl⟩
theorem GrowK.next (h : GrowK B E sz enc xv u l m k S1 w0 wi) (hb : Below wi.heap.size wi w2) : GrowK B E sz enc xv u l m k S1 w0 w2 :=
  ⟨h.own.next rfl hb, h.base.next rfl hb, h.ext, h.lt, h.kept.trans (Kept.of_below hb), Nat.le_trans h.sz hb.size⟩
theorem GrowK.push {u' : Value} (he : Enc sz enc) (h : GrowK B E sz enc xv u l m k S1 w0 wi) (ho : Own w2 B E sz enc u' ((l ++ List.replicate k m) ++ [m])) (hg : wi.grownBy w2 u.ownBlock)
    (hc : (∃ g c, u = .slice (some ⟨g, 0, none⟩) (l ++ List.replicate k m).length c ∧ u' = .slice (some ⟨g, 0, none⟩) ((l ++ List.replicate k m).length + 1) c) ∨ (u'.ownBlock = some wi.heap.size ∧ wi.grownBy w2 none)) :
    GrowK B E sz enc xv u' l m (k + 1) S1 w0 w2 := by
  rw [marks_snoc] at ho
  have hkept : Kept (fun g => xv.ownBlock = some g ∨ S1 ≤ g) w0 w2 := by
    rcases h.ext with ⟨a, c, hx, hu⟩ | hfr
    · refine h.kept.grown hg fun g hgu => .inl ?_
      rw [hu] at hgu
      rw [hx]
      cases a with
      | none => cases hgu
      | some a => exact hgu
    · exact h.kept.grown hg fun g hgu => .inr (hfr g hgu)
  have hsz : S1 ≤ w2.heap.size := Nat.le_trans h.sz hg.size
  rcases hc with ⟨g, c, hu, hu'⟩ | ⟨hnew, hg0⟩
  · rcases h.ext with ⟨a, c', hx, hu2⟩ | hfr
    · rw [hu] at hu2
      injection hu2 with e1 e2 e3
      subst e1 e3
      have hlen : (l ++ List.replicate k m).length + 1 = l.length + (k + 1) := by simp; omega
      rw [hlen] at hu'
      refine ⟨ho, ?_, .inl ⟨_, _, hx, hu'⟩, h.lt, hkept, hsz⟩
      rw [hx]
      rw [hu'] at ho
      exact Own.cut he ho rfl (by simp)
    · have hne : xv.ownBlock ≠ u.ownBlock := by
        intro e
        cases hq : xv.ownBlock with
        | none => rw [hq] at e; rw [hu] at e; cases e
        | some g' =>
          have h1 := h.lt g' hq
          have h2 := hfr g' (by rw [← e, hq])
          omega
      refine ⟨ho, ?_, .inr ?_, h.lt, hkept, hsz⟩
      · refine h.base.kept fun k' hk' => hg.block k' (h.base.block k' hk').2 ?_
        intro e
        exact hne (by rw [hk', e])
      · intro g' hg'
        refine hfr g' ?_
        rw [hu'] at hg'
        rw [hu]
        exact hg'
  · refine ⟨ho, ?_, .inr ?_, h.lt, hkept, hsz⟩
    · exact h.base.kept fun k' hk' => hg0.block k' (h.base.block k' hk').2 (by intro e; cases e)
    · intro g' hg'
      rw [hnew] at hg'
      cases hg'
      exact h.sz
end
structure GrowI {α : Type} (B : Nat) (E HT : TypeId) (sz : Nat) (enc : α → List Value) (mk : Nat → α) (hv : Value) (held : List HeldV) (L : Nat → List α) (w0 : World) (i : Nat) (held' : List HeldV) (wr : World) : Prop where
  own : Own wr B HT 3 encH hv held'
  len : held'.length = held.length
  same : ∀ j (hj : j < held.length) (hj' : j < held'.length), held'[j].v = held[j].v ∧ held'[j].n = held[j].n
  el : Held wr B E sz enc held L
  long : ∀ j (hj : j < held.length) (hj' : j < held'.length), j < i → Own wr B E sz enc held'[j].long (L j ++ List.replicate 40 (mk held[j].n)) ∧ (∀ g, held'[j].long.ownBlock = some g → held[j].v.ownBlock = some g ∨ w0.heap.size ≤ g)
  kept : Kept (fun g => HS held g ∨ hv.ownBlock = some g) w0 wr
section
variable {α : Type} {B : Nat} {E HT : TypeId} {sz : Nat} {enc : α → List Value} {mk : Nat → α} {hv : Value} {held held' : List HeldV} {L : Nat → List α} {w0 wr wi : World} {i : Nat}
theorem GrowI.start (hO : Own w0 B HT 3 encH hv held) (hE : Held w0 B E sz enc held L) : GrowI B E HT sz enc mk hv held L w0 0 held w0 :=
  ⟨hO, rfl, fun j _ _ => ⟨rfl, rfl⟩, hE, fun j _ _ h => absurd h (by omega), Kept.refl _ _⟩
theorem GrowI.step (hE0 : Held w0 B E sz enc held L) (hA : HApart held) (hne : E ≠ HT) (h : GrowI B E HT sz enc mk hv held L w0 i held' wr) (hi : i < held.length) {gl n c : Nat} (hhv : hv = .slice (some ⟨gl, 0, none⟩) n c) (o : Obj)
    {ua : Option Addr} {ul uc : Nat} (hK : GrowK B E sz enc held[i].v (.slice ua ul uc) (L i) (mk held[i].n) 40 (wr.heap.size + 1) (wr.alloc o) wi) (y : HeldV) (hy : y = { held'[i]'(by rw [h.len]; exact hi) with la := ua, ll := ul, lc := uc }) :
    GrowI B E HT sz enc mk hv held L w0 (i + 1) (held'.set i y) (wi.setCell ⟨gl, i * 3 + 1, none⟩ (.slice ua ul uc)) := by
  have hi' : i < held'.length := by rw [h.len]; exact hi
  have hsz0 : w0.heap.size ≤ wr.heap.size := h.kept.size
  -- blocks
  have hglo : hv.ownBlock = some gl := by rw [hhv]; rfl
  have hglw := h.own.block gl hglo
  have hgl_ne : ∀ j (hj : j < held.length), held[j].v.ownBlock ≠ some gl := fun j hj e => (h.el j hj).ne_own h.own hne gl e hglo
  have hkr : Kept (fun g => held[i].v.ownBlock = some g ∨ wr.heap.size + 1 ≤ g) wr wi := ((Kept.refl _ wr).alloc o).trans hK.kept
  have keepO : Own wi B HT 3 encH hv held' := hkr.own h.own fun g hg => by
    rw [hglo] at hg
    cases hg
    rintro (e | e)
    · exact hgl_ne i hi e
    · omega
  have keepE : ∀ j (hj : j < held.length), j ≠ i → Own wi B E sz enc held[j].v (L j) := fun j hj hji => hkr.own (h.el j hj) fun g hg => by
    rintro (e | e)
    · exact hA j i hj hi hji g hg e
    · have := (h.el j hj).block g hg; omega
  have hEl : Held wi B E sz enc held L := fun j hj => by
    by_cases hji : j = i
    · subst hji; exact hK.base
    · exact keepE j hj hji
  have hsame := h.same i hi hi'
  refine ⟨?_, by rw [List.length_set, h.len], ?_, ?_, ?_, ?_⟩
  · have he : encH y = (encH held'[i]).set 1 (.slice ua ul uc) := by rw [hy]; rfl
    rw [hhv] at keepO ⊢
    exact keepO.setAt encH_ok (k := i) hi' (p := 1) (by decide) _ y he
  · intro j hj hj'
    rw [List.length_set] at hj'
    by_cases hji : i = j
    · subst hji
      rw [List.getElem_set_self, hy]
      exact hsame
    · rw [List.getElem_set_ne hji]
      exact h.same j hj hj'
  · intro j hj
    exact (hEl j hj).set_other (hgl_ne j hj) _ _
  · intro j hj hj' hji1
    rw [List.length_set] at hj'
    by_cases hji : i = j
    · subst hji
      rw [List.getElem_set_self]
      have hlong : y.long = .slice ua ul uc := by rw [hy]; rfl
      rw [hlong]
      refine ⟨hK.own.set_other ?_ _ _, ?_⟩
      · intro e
        exact hK.own.ne_own keepO hne gl e hglo
      · intro g hg
        rcases hK.ext with ⟨a, c', hx, hu⟩ | hfr
        · left
          injection hu with e1 _ _
          subst e1
          rw [hx]
          cases ua with
          | none => cases hg
          | some a => exact hg
        · right
          have := hfr g hg
          omega
    · have hji2 : j < i := by omega
      rw [List.getElem_set_ne hji]
      obtain ⟨ho, hloc⟩ := h.long j hj hj' hji2
      have hnotS : ∀ g, held'[j].long.ownBlock = some g → ¬ (held[i].v.ownBlock = some g ∨ wr.heap.size + 1 ≤ g) := by
        intro g hg
        rintro (e | e)
        · rcases hloc g hg with h1 | h1
          · exact hA j i hj hi (by omega) g h1 e
          · have := (hE0 i hi).block g e
            omega
        · have := ho.block g hg
          omega
      have ho2 := hkr.own ho hnotS
      refine ⟨ho2.set_other ?_ _ _, hloc⟩
      intro e
      exact ho2.ne_own keepO hne gl e hglo
  · refine Kept.setCell ?_ (.inr hglo) _
    refine Kept.transN h.kept (n := wr.heap.size + 1) ?_ (by omega)
    refine hkr.mono ?_
    rintro g (e | e)
    · exact .inl (.inl ⟨i, hi, e⟩)
    · exact .inr e
end
def Grown {α : Type} (B : Nat) (E HT : TypeId) (sz : Nat) (enc : α → List Value) (mk : Nat → α) (hv : Value) (held : List HeldV) (L : Nat → List α) (w : World) (e : Ending) (w' : World) : Prop :=
  e = .returned (.tuple #[]) ∧ ∃ held', GrowI B E HT sz enc mk hv held L w held.length held' w'
end Go.Proofs.YtohinfefidahlaaGreatDoor

namespace Go.Proofs.YtohinfefidahlaaGreatDoor
open Go.RowKit
set_option linter.unusedVariables false

structure Part {α : Type} (B : Nat) (E HT : TypeId) (sz : Nat) (enc : α → List Value) (mk : Nat → α) (v : Value) (held : List HeldV) (L : Nat → List α) (marked long : Prop) (w : World) : Prop where
  own : Own w B HT 3 encH v held
  el : Held w B E sz enc held L
  apart : HApart held
  n : ∀ j (hj : j < held.length), held[j].n < 1000000
  hl : held.length < 1000000
  hL : ∀ j, (L j).length ≤ 1048577
  mark : marked → ∀ j (hj : j < held.length), L j = List.replicate (L j).length (mk held[j].n)
  lng : long → ∀ j (hj : j < held.length), Own w B E sz enc held[j].long (L j ++ List.replicate 40 (mk held[j].n))

def KindIn (w : World) (E HT : TypeId) (g : Nat) : Prop := ∃ cur, w.heap[g]? = some (.cells cur E (0, 0)) ∨ w.heap[g]? = some (.cells cur HT (0, 0))

section
variable {α : Type} {B : Nat} {E HT : TypeId} {sz : Nat} {enc : α → List Value} {mk : Nat → α} {v : Value} {held : List HeldV} {L : Nat → List α} {marked long : Prop} {w w' : World}
theorem Part.kinds (h : Part B E HT sz enc mk v held L marked long w) : ∀ g, HS held g ∨ v.ownBlock = some g → KindIn w E HT g := by
  rintro g (⟨j, hj, e⟩ | e)
  · obtain ⟨cur, hc⟩ := (h.el j hj).kind g e
    exact ⟨cur, .inl hc⟩
  · obtain ⟨cur, hc⟩ := h.own.kind g e
    exact ⟨cur, .inr hc⟩
theorem Part.base (h : Part B E HT sz enc mk v held L marked long w) : ∀ g, HS held g ∨ v.ownBlock = some g → B ≤ g := by
  rintro g (⟨j, hj, e⟩ | e)
  · exact ((h.el j hj).block g e).1
  · exact (h.own.block g e).1
theorem Part.kept {S : Nat → Prop} (h : Part B E HT sz enc mk v held L marked long w) (hk : Kept S w w') (hS : ∀ g, KindIn w E HT g → ¬ S g) : Part B E HT sz enc mk v held L marked long w' := by
  refine ⟨hk.own h.own fun g hg => hS g ?_, fun j hj => hk.own (h.el j hj) fun g hg => hS g ?_, h.apart, h.n, h.hl, h.hL, h.mark, fun hl j hj => hk.own (h.lng hl j hj) fun g hg => hS g ?_⟩
  · obtain ⟨cur, hc⟩ := h.own.kind g hg
    exact ⟨cur, .inr hc⟩
  · obtain ⟨cur, hc⟩ := (h.el j hj).kind g hg
    exact ⟨cur, .inl hc⟩
  · obtain ⟨cur, hc⟩ := (h.lng hl j hj).kind g hg
    exact ⟨cur, .inl hc⟩
/-- blocks of other kinds are other blocks -/
theorem KindIn.other {E1 HT1 E2 HT2 : TypeId} (h1 : E1 ≠ E2) (h2 : E1 ≠ HT2) (h3 : HT1 ≠ E2) (h4 : HT1 ≠ HT2) {g : Nat} (a : KindIn w E1 HT1 g) (b : KindIn w E2 HT2 g) : False := by
  obtain ⟨c1, h | h⟩ := a <;> obtain ⟨c2, k | k⟩ := b <;> rw [h] at k <;> injection k with k <;> injection k with _ k _
  · exact h1 k
  · exact h2 k
  · exact h3 k
  · exact h4 k
theorem KindIn.not_bk {T : TypeId} {C : List Value} {g : Nat} (h1 : E ≠ T) (h2 : HT ≠ T) (hb : Bk w g C T) (b : KindIn w E HT g) : False := by
  unfold Bk at hb
  obtain ⟨c, k | k⟩ := b <;> rw [hb] at k <;> injection k with k <;> injection k with _ k _
  · exact h1 k.symm
  · exact h2 k.symm
theorem Part.fill {e : Ending} (hne : E ≠ HT) (h : Part B E HT sz enc mk v held L marked False w) (hf : Filled B E sz enc mk held L w e w') :
    e = .returned (.tuple #[]) ∧ Part B E HT sz enc mk v held (fun j => List.replicate (L j).length (mk ((held[j]?.map (·.n)).getD 0))) True False w' ∧ Kept (fun g => HS held g ∨ v.ownBlock = some g) w w' := by
  obtain ⟨he, hH, hk⟩ := hf
  refine ⟨he, ⟨hk.own h.own fun g hg => h.el.not_own h.own hne g hg, hH, h.apart, h.n, h.hl, fun j => by simpa using h.hL j, fun _ j hj => ?_, fun hf => hf.elim⟩, hk.mono fun g hg => .inl hg⟩
  rw [List.getElem?_eq_getElem hj]
  simp
theorem Part.grow {e : Ending} (h : Part B E HT sz enc mk v held L marked False w) (hg : Grown B E HT sz enc mk v held L w e w') :
    e = .returned (.tuple #[]) ∧ (∃ held', held'.length = held.length ∧ Part B E HT sz enc mk v held' L marked True w') ∧ Kept (fun g => HS held g ∨ v.ownBlock = some g) w w' := by
  obtain ⟨he, held', G⟩ := hg
  have hsame : ∀ j (hj : j < held'.length), held'[j].v = (held[j]'(by rw [← G.len]; exact hj)).v ∧ held'[j].n = (held[j]'(by rw [← G.len]; exact hj)).n := fun j hj => G.same j (by rw [← G.len]; exact hj) hj
  refine ⟨he, ⟨held', G.len, G.own, fun j hj => ?_, fun i j hi hj hij g => ?_, fun j hj => ?_, by rw [G.len]; exact h.hl, h.hL, fun hm j hj => ?_, fun _ j hj => ?_⟩, G.kept⟩
  · rw [(hsame j hj).1]
    exact G.el j (by rw [← G.len]; exact hj)
  · rw [(hsame i hi).1, (hsame j hj).1]
    exact h.apart i j _ _ hij g
  · rw [(hsame j hj).2]
    exact h.n j _
  · rw [(hsame j hj).2]
    exact h.mark hm j _
  · rw [(hsame j hj).2]
    exact (G.long j (by rw [← G.len]; exact hj) hj (by rw [← G.len]; exact hj)).1
theorem Part.lookE (h : Part B E HT sz enc mk v held L True long w) : ∀ j (hj : j < held.length), Own w B E sz enc held[j].v (List.replicate (L j).length (mk held[j].n)) := fun j hj => by
  rw [← h.mark trivial j hj]; exact h.el j hj
theorem Part.lookG (h : Part B E HT sz enc mk v held L True True w) : ∀ j (hj : j < held.length), Own w B E sz enc held[j].long (List.replicate ((L j).length + 40) (mk held[j].n)) := fun j hj => by
  have := h.lng trivial j hj
  rw [h.mark trivial j hj] at this
  rw [List.replicate_append_replicate] at this
  exact this
end
end Go.Proofs.YtohinfefidahlaaGreatDoor

namespace Go.Proofs.YtohinfefidahlaaGreatDoor
open Go.RowKit

theorem takeAt {P : Program} {md : Region.Mode} {ops : Array Oper} {Q : Exit → Act → World → Prop} {S : World → Prop} {i : Nat} {oi : Oper} {d : Tmp} {v : Value} {fuel : Nat} {listed : Array Bool} {ts : Array Value} {ds} {w : World} (hi : ops[i]? = some oi) (hd : oi.dst = some d)
    (hs : Region.noSelect ops = true) (hf : Region.free md ops listed i = true) (hr : (Region.ready md ops listed).contains i = true)
    (hQ : ∀ c a w, Q (.panic c) (a.put oi.dst v) w → Q (.panic c) a w) (hy : YieldsIf P ops S oi v (⟨ts, ds⟩ : Act)) (hS : S w)
    (h : wpAnyH P md ops Q S fuel (listed.setIfInBounds i true) (⟨ts.setIfInBounds d v, ds⟩ : Act) w) : wpAnyH P md ops Q S (fuel + 1) listed (⟨ts, ds⟩ : Act) w :=
  wpAnyH_take hi hs hf hr hQ hy hS (by rw [hd]; exact h)
end Go.Proofs.YtohinfefidahlaaGreatDoor
