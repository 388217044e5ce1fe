/- binderylaw17.IndexWhole: the plain law. -/
import Derived.Test.YtohinfefidahlaaGreatDoorJoM
import Derived.Test.YtohinfefidahlaaGreatDoorJoL
namespace Go.Proofs.YtohinfefidahlaaGreatDoor
open Go.RowKit
set_option linter.unusedVariables false
set_option linter.unusedSimpArgs false

/-- a term's title and text: where their spans lie, the term, what it sees -/
structure Wb where
  ga : Nat
  gb : Nat
  t : Bytes
  se : Bytes
def spH : Sp := .mk 0 [116] [] [] none 0 []
def spW (x : Wb) : Sp := .mk 5 x.t [] x.se none 0 []
def hdW (x : Wb) : Bl := ⟨1, 2, false, [], [], some ⟨x.ga, 0, none⟩, 1, [spH], none, 0, [], [], 0⟩
def paW (x : Wb) : Bl := ⟨2, 0, false, [], [], some ⟨x.gb, 0, none⟩, 1, [spW x], none, 0, [], [], 0⟩
def blW (W : List Wb) : List Bl := W.flatMap fun x => [hdW x, paW x]
def chW (ba : Option Addr) (bc : Nat) (W : List Wb) : Ch := ⟨[97], ba, bc, blW W, none, 0, [], none, 0, [], none, 0, [], none, 0, []⟩
theorem blW_cons (x : Wb) (W : List Wb) : blW (x :: W) = hdW x :: paW x :: blW W := rfl
theorem blW_len (W : List Wb) : (blW W).length = 2 * W.length := by
  induction W with
  | nil => rfl
  | cons x W ih => rw [blW_cons, List.length_cons, List.length_cons, ih, List.length_cons]; omega
theorem blW_snoc (W : List Wb) (x : Wb) : blW (W ++ [x]) = blW W ++ [hdW x, paW x] := by unfold blW; rw [List.flatMap_append]; rfl
theorem mem_blW {W : List Wb} {b : Bl} (h : b ∈ blW W) : ∃ x ∈ W, b = hdW x ∨ b = paW x := by
  unfold blW at h
  obtain ⟨x, hx, hb⟩ := List.mem_flatMap.1 h
  simp at hb
  exact ⟨x, hx, hb⟩

/-! ### the places -/
theorem pls_W (p : Nat) (page : Bytes) : ∀ (W : List Wb) (s : St), ((blW W).foldl (stepB p page) s).pls.length = s.pls.length + W.length
  | [], s => rfl
  | x :: W, s => by
    rw [blW_cons, List.foldl_cons, List.foldl_cons, pls_W p page W]
    have h1 : ∀ X : St, stepB p page X (paW x) = X := fun X => by unfold stepB ledB paW; simp
    rw [h1]
    have h2 : (stepB p page s (hdW x)).pls.length = s.pls.length + 1 := by unfold stepB ledB hdW; simp
    rw [h2, List.length_cons]; omega
theorem tot_W (ba : Option Addr) (bc : Nat) (W : List Wb) : (totP [chW ba bc W]).pls.length = W.length := by
  have h1 : (totP [chW ba bc W]).pls = [] ++ fixA (chapS 1 [97] [] [] (blW W)).pls (unlike (chapS 1 [97] [] [] (blW W)).anc) := rfl
  have hc := chapS_full (p := 1) (by omega) [97] [] [] (blW W)
  rw [h1, List.nil_append, fixA_len (by rw [unlike_len]; exact hc.anc)]
  have h2 := pls_W 1 ([97] ++ htmlB) W ⟨cnt0 1, [], [], [], []⟩
  show (chapS 1 [97] [] [] (blW W)).pls.length = _
  unfold chapS
  rw [h2]
  show 0 + _ = _
  omega

/-! ### what is told of the terms -/
def loPl (p : Pl) : LoK := loOf p.page p.anchor p.number
def tlW (x : Wb) (p : Pl) : Tl := ⟨x.t, [], x.se, loPl p⟩
def wsW (W : List Wb) : List Dg := W.filterMap fun x => if x.se = [] then none else some ⟨[], 0, 14, x.se⟩
theorem fold_W : ∀ (W : List Wb) (s : BS), s.rest.length = W.length → ((blW W).foldl stepBS s).tl = s.tl ++ List.zipWith tlW W s.rest ∧ ((blW W).foldl stepBS s).ws = s.ws ++ wsW W
  | [], s, _ => by simp [blW, wsW]
  | x :: W, s, h => by
    obtain ⟨rest, here, tl, ws⟩ := s
    cases rest with
    | nil => simp at h
    | cons p P =>
      have e1 : stepBS ⟨p :: P, here, tl, ws⟩ (hdW x) = ⟨P, loPl p, tl ++ [], ws ++ []⟩ := rfl
      have e2 : stepBS ⟨P, loPl p, tl, ws⟩ (paW x) = ⟨P, loPl p, tl ++ [tlW x p], ws ++ wsOf (paW x) [⟨x.t, [], x.se⟩]⟩ := rfl
      rw [blW_cons, List.foldl_cons, List.foldl_cons, e1, List.append_nil, List.append_nil, e2]
      have ih := fold_W W ⟨P, loPl p, tl ++ [tlW x p], ws ++ wsOf (paW x) [⟨x.t, [], x.se⟩]⟩ (by simpa using h)
      rw [ih.1, ih.2]
      refine ⟨by simp, ?_⟩
      unfold wsOf wantB wsW
      by_cases hs : x.se = []
      · simp [hs]
      · simp [hs, paW]
theorem all_W {P : List Pl} {W : List Wb} (ba : Option Addr) (bc : Nat) (h : P.length = W.length) : (allBS P [chW ba bc W] 1).tl = List.zipWith tlW W P ∧ (allBS P [chW ba bc W] 1).ws = wsW W := by
  have h1 : allBS P [chW ba bc W] 1 = chBS ⟨P, loOf [] [] [], [], []⟩ 1 (chW ba bc W) (blW W).length := rfl
  have h2 : chBS ⟨P, loOf [] [] [], [], []⟩ 1 (chW ba bc W) (blW W).length = (blW W).foldl stepBS (chBS0 ⟨P, loOf [] [] [], [], []⟩ 1 (chW ba bc W)) := by
    unfold chBS
    rw [show (chW ba bc W).bl = blW W from rfl, List.take_length]
  have h3 := fold_W W (chBS0 ⟨P, loOf [] [] [], [], []⟩ 1 (chW ba bc W)) h
  rw [h1, h2, h3.1, h3.2]
  exact ⟨rfl, rfl⟩

/-! ### what is told is there -/
structure Known (s : IxS) (x : Tl) : Prop where
  ps : (x.text, none) ∈ s.ps
  at_ : x.see = [] → x.here ∈ s.at_ (x.text, none)
  see : x.see ≠ [] → x.see ∈ s.see (x.text, none)
theorem step_more (s : IxS) (y : Tl) : (∀ p ∈ s.ps, p ∈ (s.step y).ps) ∧ (∀ p, ∀ a ∈ s.at_ p, a ∈ (s.step y).at_ p) ∧ (∀ p, ∀ a ∈ s.see p, a ∈ (s.step y).see p) := by
  have hp : ∀ p ∈ s.ps, p ∈ (s.paths y).ps := fun p h => by
    unfold IxS.paths IxS.grow
    split
    · exact mem_ins.2 (.inl h)
    · exact mem_ins.2 (.inl (mem_ins.2 (.inl h)))
  have hq := s.paths_at y
  unfold IxS.step
  split
  · refine ⟨hp, fun p a h => ?_, fun p a h => ?_⟩
    · simp only [IxS.putAt, hq.1]
      split
      · exact mem_ins.2 (.inl h)
      · exact h
    · simp only [IxS.putAt, hq.2]; exact h
  · refine ⟨hp, fun p a h => ?_, fun p a h => ?_⟩
    · simp only [IxS.putSee, hq.1]; exact h
    · simp only [IxS.putSee, hq.2]
      split
      · exact mem_ins.2 (.inl h)
      · exact h
theorem Known.more {s : IxS} {x : Tl} (h : Known s x) (y : Tl) : Known (s.step y) x :=
  ⟨(step_more s y).1 _ h.ps, fun e => (step_more s y).2.1 _ _ (h.at_ e), fun e => (step_more s y).2.2 _ _ (h.see e)⟩
theorem Known.self (s : IxS) {x : Tl} (h0 : x.sub = []) : Known (s.step x) x := by
  have h1 : x.path = (x.text, none) := by unfold Tl.path; rw [if_pos h0]
  have h2 : (x.text, none) ∈ (s.paths x).ps := by unfold IxS.paths IxS.grow; rw [if_pos h0]; exact mem_ins.2 (.inr rfl)
  unfold IxS.step
  by_cases hs : x.see = []
  · rw [if_pos hs]
    refine ⟨h2, fun _ => ?_, fun e => absurd hs e⟩
    simp only [IxS.putAt, h1, if_true]
    exact mem_ins.2 (.inr rfl)
  · rw [if_neg hs]
    refine ⟨h2, fun e => absurd e hs, fun _ => ?_⟩
    simp only [IxS.putSee, h1, if_true]
    exact mem_ins.2 (.inr rfl)
theorem ix_known {l : List Tl} {x : Tl} (hx : x ∈ l) (h0 : x.sub = []) : Known (ixOf l) x := by
  suffices h : ∀ (l : List Tl) (s : IxS), (x ∈ l ∨ Known s x) → Known (l.foldl IxS.step s) x from h l ix0 (.inl hx)
  intro l
  induction l with
  | nil => intro s h; rcases h with h | h
           · cases h
           · exact h
  | cons y l ih =>
    intro s h
    rw [List.foldl_cons]
    apply ih
    rcases h with h | h
    · rcases List.mem_cons.1 h with rfl | h
      · exact .inr (.self s h0)
      · exact .inl h
    · exact .inr (h.more y)

/-! ### the law -/
structure WhFound (x : Wb) (p : Pl) (ul : List En) : Prop where
  term : x.t ∈ ul.map En.term
  none_ : x.se = [] → ∀ y ∈ ul, y.term = x.t → ∃ a ∈ y.al, a.1 = (p.page, p.anchor, p.number)
  some_ : x.se ≠ [] → ∀ y ∈ ul, y.term = x.t → x.se ∈ y.sl
theorem wh_law {P : List Pl} {W : List Wb} {ba : Option Addr} {bc : Nat} (hP : P.length = W.length) (hbd : ∀ p ∈ P, PlBd p) (hse : ∀ x ∈ W, x.se = [] ∨ ∃ y ∈ W, y.t = x.se) {ul : List En} (hU : EnsOf (ixOf (allBS P [chW ba bc W] 1).tl) ul) :
    diagsOf (allBS P [chW ba bc W] 1) = [] ∧ ∀ (i : Nat) x p, W[i]? = some x → P[i]? = some p → WhFound x p ul := by
  have hA := all_W ba bc hP
  have hz : ∀ (i : Nat) x p, W[i]? = some x → P[i]? = some p → tlW x p ∈ List.zipWith tlW W P := fun i x p h1 h2 => by
    refine List.mem_of_getElem? (i := i) ?_
    rw [List.getElem?_zipWith, h1, h2]
  have hk : ∀ (i : Nat) x p, W[i]? = some x → P[i]? = some p → Known (ixOf (List.zipWith tlW W P)) (tlW x p) := fun i x p h1 h2 => ix_known (hz i x p h1 h2) rfl
  have hps : ∀ x ∈ W, (x.t, none) ∈ (ixOf (List.zipWith tlW W P)).ps := fun x hx => by
    obtain ⟨i, hi, rfl⟩ := List.getElem_of_mem hx
    exact (hk i W[i] (P[i]'(by omega)) (List.getElem?_eq_getElem hi) (List.getElem?_eq_getElem (by omega))).ps
  rw [hA.1] at hU
  refine ⟨?_, fun i x p hx hp => ?_⟩
  · unfold diagsOf
    rw [hA.1, hA.2, List.filter_eq_nil_iff]
    intro d hd
    unfold wsW at hd
    obtain ⟨x, hx, e⟩ := List.mem_filterMap.1 hd
    split at e
    · cases e
    · rename_i hs
      cases e
      rcases hse x hx with h | ⟨y, hy, h⟩
      · exact absurd h hs
      · have := hps y hy
        rw [h] at this
        simpa using this
  · have h1 := hk i x p hx hp
    refine ⟨hU.perm.mem_iff.2 (mem_topT.2 h1.ps), fun e y hy ht => ⟨loPl p, ?_, ?_⟩, fun e y hy ht => ?_⟩
    · rw [hU.al y hy, ht]; exact h1.at_ e
    · have hb := hbd p (List.mem_of_getElem? hp)
      exact loOf_val hb.page hb.anchor hb.number
    · exact (hU.see y hy).mem_iff.2 (by rw [ht]; exact h1.see e)
end Go.Proofs.YtohinfefidahlaaGreatDoor
