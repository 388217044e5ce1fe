/- Where labels lead: what holds of the places of any chapters. No program is named here. -/
import Derived.Test.YtohinfefidahlaaDoorPl0
namespace Go.Proofs.YtohinfefidahlaaDoor
open Go.RowKit
set_option linter.unusedVariables false

section
variable {p : Nat} {name : Bytes} {labs : List Bytes} {dgs : List Dg} {bs : List Bl}
/-- what is known ahead of block k of a chapter -/
def chS (p : Nat) (name : Bytes) (labs : List Bytes) (dgs : List Dg) (bs : List Bl) (k : Nat) : St := chapS p name labs dgs (bs.take k)
theorem chS_led {k : Nat} (h : k < bs.length) (hl : ledB bs[k].kind = true) :
    chS p name labs dgs bs (k + 1) = ⟨cntP (chS p name labs dgs bs k).cnt bs[k].kind bs[k].level, (chS p name labs dgs bs k).pls ++ [plP p (name ++ htmlB) (chS p name labs dgs bs k).cnt bs[k]], (chS p name labs dgs bs k).anc ++ [ancP bs[k]], if bs[k].label = [] then (chS p name labs dgs bs k).labs else (chS p name labs dgs bs k).labs ++ [bs[k].label],
      if bs[k].label ≠ [] ∧ bs[k].label ∈ (chS p name labs dgs bs k).labs then (chS p name labs dgs bs k).dgs ++ [⟨bs[k].file, bs[k].line, 11, bs[k].label⟩] else (chS p name labs dgs bs k).dgs⟩ := by
  unfold chS
  rw [chapS_succ h]
  unfold stepB
  rw [if_pos hl]
theorem chS_not {k : Nat} (h : k < bs.length) (hl : ¬ ledB bs[k].kind = true) : chS p name labs dgs bs (k + 1) = chS p name labs dgs bs k := by
  unfold chS
  rw [chapS_succ h]
  unfold stepB
  rw [if_neg hl]
theorem chS_zero : chS p name labs dgs bs 0 = ⟨cnt0 p, [], [], labs, dgs⟩ := by unfold chS; rw [List.take_zero]; rfl
theorem chS_full : chS p name labs dgs bs bs.length = chapS p name labs dgs bs := by unfold chS; rw [List.take_length]
theorem chS_pre (k : Nat) : ∀ d, k + d ≤ bs.length → (chS p name labs dgs bs k).pls <+: (chS p name labs dgs bs (k + d)).pls
  | 0, _ => List.prefix_refl _
  | d + 1, h => by
    have ih := chS_pre k d (by omega)
    have hk : k + d < bs.length := by omega
    by_cases hl : ledB bs[k + d].kind = true
    · rw [← Nat.add_assoc, chS_led hk hl]
      exact ih.trans (List.prefix_append _ _)
    · rw [← Nat.add_assoc, chS_not hk hl]; exact ih
/-- the place of a block, ahead of the anchors -/
theorem chS_at {k : Nat} (h : k < bs.length) (hl : ledB bs[k].kind = true) : (chapS p name labs dgs bs).pls[(chS p name labs dgs bs k).pls.length]? = some (plP p (name ++ htmlB) (chS p name labs dgs bs k).cnt bs[k]) := by
  have h1 := chS_pre (p := p) (name := name) (labs := labs) (dgs := dgs) (bs := bs) (k + 1) (bs.length - (k + 1)) (by omega)
  rw [show k + 1 + (bs.length - (k + 1)) = bs.length by omega, chS_full, chS_led h hl] at h1
  obtain ⟨t, ht⟩ := h1
  rw [← ht]
  simp
end

section
variable {l : List Ch}
theorem tot_pre (k : Nat) : ∀ d, k + d ≤ l.length → (totK l k).pls <+: (totK l (k + d)).pls
  | 0, _ => List.prefix_refl _
  | d + 1, h => by
    have ih := tot_pre k d (by omega)
    rw [← Nat.add_assoc, totK_succ (show k + d < l.length by omega)]
    exact ih.trans (List.prefix_append _ _)
/-- what is known ahead of block k of chapter i -/
def stAt (l : List Ch) (i : Nat) (x : Ch) (k : Nat) : St := chS (i + 1) x.name (totK l i).labs (totK l i).dgs x.bl k
def endAt (l : List Ch) (i : Nat) (x : Ch) : St := chapS (i + 1) x.name (totK l i).labs (totK l i).dgs x.bl
def nAt (l : List Ch) (i : Nat) (x : Ch) (k : Nat) : Nat := (totK l i).pls.length + (stAt l i x k).pls.length
theorem endAt_anc (hl : l.length ≤ 29999) {i : Nat} (hi : i < l.length) : (endAt l i l[i]).anc.length = (endAt l i l[i]).pls.length := (chapS_full (p := i + 1) (by omega) _ _ _ _).anc
theorem tot_next (hl : l.length ≤ 29999) {i : Nat} (hi : i < l.length) : (totK l (i + 1)).pls.length = (totK l i).pls.length + (endAt l i l[i]).pls.length := by
  rw [totK_succ hi]
  show (_ ++ _ : List Pl).length = _
  rw [List.length_append, fixA_len (by rw [unlike_len]; exact endAt_anc hl hi)]
  rfl
theorem nAt_zero (i : Nat) (x : Ch) : nAt l i x 0 = (totK l i).pls.length := by unfold nAt stAt; rw [chS_zero]; rfl
theorem nAt_full (hl : l.length ≤ 29999) {i : Nat} (hi : i < l.length) : nAt l i l[i] l[i].bl.length = (totK l (i + 1)).pls.length := by
  rw [tot_next hl hi]; unfold nAt stAt; rw [chS_full]; rfl
theorem nAt_led {i k : Nat} {x : Ch} (hk : k < x.bl.length) (h : ledB x.bl[k].kind = true) : nAt l i x (k + 1) = nAt l i x k + 1 := by
  unfold nAt stAt; rw [chS_led hk h]; simp; omega
theorem nAt_not {i k : Nat} {x : Ch} (hk : k < x.bl.length) (h : ¬ ledB x.bl[k].kind = true) : nAt l i x (k + 1) = nAt l i x k := by
  unfold nAt stAt; rw [chS_not hk h]
theorem pre_get {α : Type} {a b : List α} (h : a <+: b) {i : Nat} {x : α} (hx : a[i]? = some x) : b[i]? = some x := by
  obtain ⟨t, rfl⟩ := h
  rw [List.getElem?_append_left (List.getElem?_eq_some_iff.1 hx).1]; exact hx
/-- the place of a block -/
theorem place_at (hl : l.length ≤ 29999) {i : Nat} (hi : i < l.length) {k : Nat} (hk : k < l[i].bl.length) (h : ledB l[i].bl[k].kind = true) :
    ∃ a, (totP l).pls[nAt l i l[i] k]? = some (setA (plP (i + 1) (l[i].name ++ htmlB) (stAt l i l[i] k).cnt l[i].bl[k]) a) ∧ (unlike (endAt l i l[i]).anc)[(stAt l i l[i] k).pls.length]? = some a := by
  have h1 := chS_at (p := i + 1) (name := l[i].name) (labs := (totK l i).labs) (dgs := (totK l i).dgs) hk h
  have h2 := tot_pre (l := l) (i + 1) (l.length - (i + 1)) (by omega)
  rw [show i + 1 + (l.length - (i + 1)) = l.length by omega] at h2
  have hn := (List.getElem?_eq_some_iff.1 h1).1
  have hu : (unlike (endAt l i l[i]).anc).length = (endAt l i l[i]).pls.length := by rw [unlike_len]; exact endAt_anc hl hi
  have hn2 : (stAt l i l[i] k).pls.length < (unlike (endAt l i l[i]).anc).length := by rw [hu]; exact hn
  refine ⟨_, ?_, List.getElem?_eq_getElem hn2⟩
  refine pre_get (h2 : _ <+: (totP l).pls) ?_
  rw [totK_succ hi]
  show (_ ++ _ : List Pl)[_]? = _
  unfold nAt
  rw [List.getElem?_append_right (by omega), show (totK l i).pls.length + (stAt l i l[i] k).pls.length - (totK l i).pls.length = (stAt l i l[i] k).pls.length by omega]
  unfold fixA
  rw [List.getElem?_zipWith, show (chapS (i + 1) l[i].name (totK l i).labs (totK l i).dgs l[i].bl).pls[(stAt l i l[i] k).pls.length]? = _ from h1, show (unlike (chapS (i + 1) l[i].name (totK l i).labs (totK l i).dgs l[i].bl).anc)[(stAt l i l[i] k).pls.length]? = _ from List.getElem?_eq_getElem hn2]
  rfl
end

/-! ### the numbers -/
def headsN (bs : List Bl) : Nat := (bs.filter fun b => b.kind == 1).length
theorem headsN_succ {bs : List Bl} {k : Nat} (h : k < bs.length) : headsN (bs.take (k + 1)) = headsN (bs.take k) + (if bs[k].kind = 1 then 1 else 0) := by
  unfold headsN
  rw [List.take_succ_eq_append_getElem h, List.filter_append, List.length_append]
  by_cases hk : bs[k].kind = 1
  · simp [hk]
  · have : (bs[k].kind == 1) = false := by simpa using hk
    simp [this, hk]
/-- no further title has level 1 -/
def NoMore (bs : List Bl) : Prop := ∀ k (h : k < bs.length), bs[k].kind = 1 → 1 < headsN (bs.take (k + 1)) → bs[k].level ≠ 1
theorem ks_heads {p : Nat} (hp : p ≤ 30000) (name : Bytes) (labs : List Bytes) (dgs : List Dg) (bs : List Bl) : ∀ k, k ≤ bs.length → (chS p name labs dgs bs k).cnt.ks.getD 1 0 = headsN (bs.take k)
  | 0, _ => by rw [chS_zero]; rfl
  | k + 1, h => by
    have ih := ks_heads hp name labs dgs bs k (by omega)
    have hk : k < bs.length := h
    have hc := (chapS_le hp name labs dgs bs k (by omega)).cnt
    rw [headsN_succ hk]
    by_cases hl : ledB bs[k].kind = true
    · rw [chS_led hk hl]
      show (bumpK (chS p name labs dgs bs k).cnt.ks bs[k].kind).getD 1 0 = _
      rw [bumpK_get _ _ _ (by rw [show (chS p name labs dgs bs k).cnt.ks.length = 8 from hc.ks]; unfold ledB at hl; simp at hl; omega)]
      by_cases h1 : bs[k].kind = 1
      · rw [if_pos h1.symm, if_pos h1, h1, ih]
      · rw [if_neg (fun e => h1 e.symm), if_neg h1, ih]; rfl
    · rw [chS_not hk hl, ih, if_neg (fun e => hl (by rw [e]; rfl))]; rfl
theorem bump_heads {p : Nat} (hp : p ≤ 30000) (name : Bytes) (labs : List Bytes) (dgs : List Dg) {bs : List Bl} {k : Nat} (hk : k < bs.length) (h1 : bs[k].kind = 1) :
    (bumpK (chS p name labs dgs bs k).cnt.ks bs[k].kind).getD bs[k].kind 0 = headsN (bs.take (k + 1)) := by
  have hc := (chapS_le hp name labs dgs bs k (by omega)).cnt
  have ih := ks_heads hp name labs dgs bs k (by omega)
  rw [headsN_succ hk, if_pos h1, h1, bumpK_get _ _ _ (by rw [show (chS p name labs dgs bs k).cnt.ks.length = 8 from hc.ks]; omega), if_pos rfl, ih]
theorem hdOk_next {p : Nat} (hp : p ≤ 30000) (name : Bytes) (labs : List Bytes) (dgs : List Dg) {bs : List Bl} (hN : NoMore bs) {k : Nat} (hk : k < bs.length) (hd : HdOk p (chS p name labs dgs bs k).cnt) :
    HdOk p (cntP (chS p name labs dgs bs k).cnt bs[k].kind bs[k].level) := by
  refine hd.next fun h1 h2 => ?_
  rw [bump_heads hp name labs dgs hk h1]
  refine Nat.le_of_not_lt fun h3 => hN k hk h1 h3 h2
theorem hdOk_at {p : Nat} (hp : p ≤ 30000) (name : Bytes) (labs : List Bytes) (dgs : List Dg) {bs : List Bl} (hN : NoMore bs) : ∀ k, k ≤ bs.length → HdOk p (chS p name labs dgs bs k).cnt
  | 0, _ => by rw [chS_zero]; exact ⟨[], rfl⟩
  | k + 1, h => by
    have ih := hdOk_at hp name labs dgs hN k (by omega)
    have hk : k < bs.length := h
    by_cases hl : ledB bs[k].kind = true
    · rw [chS_led hk hl]; exact hdOk_next hp name labs dgs hN hk ih
    · rw [chS_not hk hl]; exact ih
theorem dotP_head (p : Nat) (r : List Nat) : (r = [] ∧ dotP (p :: r) = Lib.decDigits p) ∨ ∃ t, dotP (p :: r) = Lib.decDigits p ++ 46 :: t := by
  cases r with
  | nil => exact .inl ⟨rfl, rfl⟩
  | cons x r => exact .inr ⟨dotP (x :: r), rfl⟩
/-- the number of a block begins with its chapter's -/
def Begins (d s : Bytes) (head : Prop) : Prop := (s = d ∧ head) ∨ ∃ t, s = d ++ 46 :: t
theorem num_begins {p : Nat} (hp : p ≤ 30000) (name : Bytes) (labs : List Bytes) (dgs : List Dg) {bs : List Bl} (hN : NoMore bs) {k : Nat} (hk : k < bs.length) :
    Begins (Lib.decDigits p) (numP p (chS p name labs dgs bs k).cnt bs[k].kind bs[k].level) (bs[k].kind = 1) := by
  obtain ⟨r, hr⟩ := hdOk_next hp name labs dgs hN hk (hdOk_at hp name labs dgs hN k (by omega))
  unfold numP
  by_cases h1 : bs[k].kind = 1
  · rw [if_pos h1, hr]
    rcases dotP_head p r with ⟨_, h⟩ | h
    · exact .inl ⟨h, h1⟩
    · exact .inr h
  · rw [if_neg h1]
    exact .inr ⟨_, rfl⟩

/-! ### pages and anchors -/
theorem unlike_nodup (l : List Bytes) : ∀ k, k ≤ l.length → (unlike (l.take k)).Nodup
  | 0, _ => by simp [unlike]
  | k + 1, h => by
    rw [unlike_take (show k < l.length from h), List.nodup_append]
    refine ⟨unlike_nodup l k (by omega), by simp, fun a ha b hb => ?_⟩
    simp at hb; subst hb
    intro e
    subst e
    exact (firstJ_free (unlike (l.take k)) (l[k]'h)).1 ha
/-- a place's page and anchor -/
def pgA (p : Pl) : Bytes × Bytes := (p.page, p.anchor)
theorem fixA_anchor : ∀ {pls : List Pl} {xs : List Bytes}, xs.length = pls.length → (fixA pls xs).map Pl.anchor = xs
  | [], [], _ => rfl
  | p :: pls, x :: xs, h => by
    have := fixA_anchor (pls := pls) (xs := xs) (by simpa using h)
    unfold fixA at *
    simp only [List.zipWith_cons_cons, List.map_cons, this]; rfl
  | [], _ :: _, h => by simp at h
  | _ :: _, [], h => by simp at h
theorem fixA_page {g : Bytes} : ∀ {pls : List Pl} {xs : List Bytes}, (∀ p ∈ pls, p.page = g) → ∀ p ∈ fixA pls xs, p.page = g
  | [], _, _, p, hp => by simp [fixA] at hp
  | q :: pls, [], _, p, hp => by simp [fixA] at hp
  | q :: pls, x :: xs, h, p, hp => by
    unfold fixA at hp
    rw [List.zipWith_cons_cons] at hp
    rcases List.mem_cons.1 hp with rfl | hp
    · exact h q (by simp)
    · exact fixA_page (pls := pls) (xs := xs) (fun p hp => h p (by simp [hp])) p hp
theorem chS_page {p : Nat} {name : Bytes} {labs : List Bytes} {dgs : List Dg} {bs : List Bl} : ∀ k, k ≤ bs.length → ∀ q ∈ (chS p name labs dgs bs k).pls, q.page = name ++ htmlB
  | 0, _ => by rw [chS_zero]; intro q hq; cases hq
  | k + 1, h => by
    have ih := chS_page (p := p) (name := name) (labs := labs) (dgs := dgs) (bs := bs) k (by omega)
    have hk : k < bs.length := h
    by_cases hl : ledB bs[k].kind = true
    · rw [chS_led hk hl]
      intro q hq
      rcases List.mem_append.1 hq with hq | hq
      · exact ih q hq
      · simp at hq; subst hq; rfl
    · rw [chS_not hk hl]; exact ih
theorem nodup_of_map {α β : Type} (f : α → β) : ∀ {l : List α}, (l.map f).Nodup → l.Nodup
  | [], _ => List.nodup_nil
  | x :: l, h => by
    rw [List.map_cons, List.nodup_cons] at h
    rw [List.nodup_cons]
    exact ⟨fun hx => h.1 (List.mem_map_of_mem hx), nodup_of_map f h.2⟩
/-- no two places have one page and one anchor -/
theorem tot_unlike {l : List Ch} (hl : l.length ≤ 29999) (hn : ∀ i k (hi : i < l.length) (hk : k < i), l[i].name ≠ l[k].name) : ∀ n, n ≤ l.length →
    ((totK l n).pls.map pgA).Nodup ∧ ∀ q ∈ (totK l n).pls, ∃ i, ∃ h : i < n, ∃ h2 : i < l.length, q.page = l[i].name ++ htmlB
  | 0, _ => ⟨by simp [totK], fun q hq => by simp [totK] at hq⟩
  | n + 1, h => by
    obtain ⟨h1, h2⟩ := tot_unlike hl hn n (by omega)
    have hi : n < l.length := h
    have hpg : ∀ q ∈ fixA (endAt l n l[n]).pls (unlike (endAt l n l[n]).anc), q.page = l[n].name ++ htmlB := by
      refine fixA_page fun q hq => ?_
      have := chS_page (p := n + 1) (name := l[n].name) (labs := (totK l n).labs) (dgs := (totK l n).dgs) (bs := l[n].bl) l[n].bl.length (Nat.le_refl _) q
      rw [chS_full] at this
      exact this hq
    have hnd : ((fixA (endAt l n l[n]).pls (unlike (endAt l n l[n]).anc)).map pgA).Nodup := by
      refine nodup_of_map Prod.snd ?_
      rw [List.map_map]
      show (List.map Pl.anchor _).Nodup
      rw [fixA_anchor (by rw [unlike_len]; exact endAt_anc hl hi)]
      have := unlike_nodup (endAt l n l[n]).anc _ (Nat.le_refl _)
      rwa [List.take_length] at this
    have ht : (totK l (n + 1)).pls = (totK l n).pls ++ fixA (endAt l n l[n]).pls (unlike (endAt l n l[n]).anc) := by rw [totK_succ hi]; rfl
    rw [ht]
    refine ⟨?_, fun q hq => ?_⟩
    · rw [List.map_append, List.nodup_append]
      refine ⟨h1, hnd, fun a ha b hb e => ?_⟩
      subst e
      obtain ⟨q, hq, rfl⟩ := List.mem_map.1 ha
      obtain ⟨q2, hq2, e2⟩ := List.mem_map.1 hb
      obtain ⟨i, hin, hil, hqi⟩ := h2 q hq
      have e3 : q2.page = q.page := congrArg Prod.fst e2
      rw [hpg q2 hq2, hqi] at e3
      exact hn n i hi hin (List.append_cancel_right e3)
    · rcases List.mem_append.1 hq with hq | hq
      · obtain ⟨i, hin, hil, hqi⟩ := h2 q hq
        exact ⟨i, by omega, hil, hqi⟩
      · exact ⟨n, by omega, hi, hpg q hq⟩
theorem totP_unlike {l : List Ch} (hl : l.length ≤ 29999) (hn : ∀ i k (hi : i < l.length) (hk : k < i), l[i].name ≠ l[k].name) {i j : Nat} {p q : Pl} (hij : i < j) (hp : (totP l).pls[i]? = some p) (hq : (totP l).pls[j]? = some q) : pgA p ≠ pgA q := fun e => by
  have h := (tot_unlike hl hn l.length (Nat.le_refl _)).1
  have h1 := List.getElem?_eq_some_iff.1 hp
  have h2 := List.getElem?_eq_some_iff.1 hq
  obtain ⟨h1, rfl⟩ := h1
  obtain ⟨h2, rfl⟩ := h2
  have h3 := (List.pairwise_iff_getElem.1 h) i j (by rw [List.length_map]; exact h1) (by rw [List.length_map]; exact h2) hij
  simp only [List.getElem_map] at h3
  exact h3 e
end Go.Proofs.YtohinfefidahlaaDoor
