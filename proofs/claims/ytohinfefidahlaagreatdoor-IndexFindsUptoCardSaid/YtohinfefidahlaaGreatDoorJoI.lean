/- refs.Places: what its walk leans on. Where labels lead: what holds of the places of any chapters. No program is named here. refs.Places: what holds between two blocks of a chapter. -/
import Derived.Test.YtohinfefidahlaaGreatDoorNumber
import Derived.Test.YtohinfefidahlaaGreatDoorOf
import Derived.Test.YtohinfefidahlaaGreatDoorJoD
namespace Go.Proofs.YtohinfefidahlaaGreatDoor
open Go.RowKit
set_option linter.unusedVariables false
set_option linter.unusedSimpArgs false

/-! ### how often each label was there -/
def LInv (labs : List Bytes) (m : KV) : Prop := ∀ x, (x ∉ labs ∧ mapGet m x = none) ∨ (x ∈ labs ∧ ∃ n : Nat, mapGet m x = some (.int .i64 n) ∧ 1 ≤ n ∧ n ≤ labs.length)
theorem LInv.nil : LInv [] [] := fun x => .inl ⟨by simp, rfl⟩
theorem LInv.val {labs : List Bytes} {m : KV} (h : LInv labs m) (x : Bytes) : ∃ n : Nat, (mapGet m x).getD (.int .i64 0) = .int .i64 n ∧ n ≤ labs.length ∧ (0 < n ↔ x ∈ labs) := by
  rcases h x with ⟨h1, h2⟩ | ⟨h1, n, h2, h3, h4⟩
  · exact ⟨0, by rw [h2]; rfl, by omega, ⟨fun h => absurd h (by omega), fun h => absurd h h1⟩⟩
  · exact ⟨n, by rw [h2]; rfl, h4, ⟨fun _ => h1, fun _ => by omega⟩⟩
theorem LInv.put {labs : List Bytes} {m : KV} (h : LInv labs m) (x : Bytes) {n : Nat} (hn : n ≤ labs.length) : LInv (labs ++ [x]) (mapPut m x (.int .i64 (n + 1 : Nat))) := by
  intro y
  rw [mapGet_put]
  by_cases hy : y = x
  · subst hy
    exact .inr ⟨by simp, n + 1, by rw [if_pos rfl], by omega, by simp; omega⟩
  · rw [if_neg hy]
    rcases h y with ⟨h1, h2⟩ | ⟨h1, k, h2, h3, h4⟩
    · exact .inl ⟨by simp [h1, hy], h2⟩
    · exact .inr ⟨by simp [h1], k, h2, h3, by simp; omega⟩

/-! ### how many there are -/
structure StLe (p : Nat) (labs : List Bytes) (dgs : List Dg) (k : Nat) (s : St) : Prop where
  pls : s.pls.length ≤ k
  anc : s.anc.length = s.pls.length
  labs : s.labs.length ≤ labs.length + k
  dgs : s.dgs.length ≤ dgs.length + k
  cnt : CntOk k s.cnt
theorem chapS_le {p : Nat} (hp : p ≤ 30000) (name : Bytes) (labs : List Bytes) (dgs : List Dg) (bs : List Bl) : ∀ k, k ≤ bs.length → StLe p labs dgs k (chapS p name labs dgs (bs.take k))
  | 0, _ => by rw [List.take_zero]; exact ⟨Nat.le_refl _, rfl, Nat.le_refl _, Nat.le_refl _, CntOk.start p hp⟩
  | k + 1, h => by
    have ih := chapS_le hp name labs dgs bs k (by omega)
    rw [chapS_succ (show k < bs.length from h)]
    unfold stepB
    by_cases hl : ledB (bs[k]'h).kind = true
    · rw [if_pos hl]
      have hk8 : (bs[k]'h).kind < 8 := by unfold ledB at hl; simp at hl; omega
      refine ⟨by have := ih.pls; simp; omega, by have := ih.anc; simp; omega, ?_, ?_, ih.cnt.next hk8 _⟩
      · have := ih.labs
        show (if _ then _ else _ : List Bytes).length ≤ _
        split
        · omega
        · simp; omega
      · have := ih.dgs
        show (if _ then _ else _ : List Dg).length ≤ _
        split
        · simp; omega
        · omega
    · rw [if_neg hl]
      exact ⟨by have := ih.pls; omega, ih.anc, by have := ih.labs; omega, by have := ih.dgs; omega, ih.cnt.mono (by omega)⟩
theorem chapS_full {p : Nat} (hp : p ≤ 30000) (name : Bytes) (labs : List Bytes) (dgs : List Dg) (bs : List Bl) : StLe p labs dgs bs.length (chapS p name labs dgs bs) := by
  have := chapS_le hp name labs dgs bs bs.length (Nat.le_refl _)
  rwa [List.take_length] at this
def nbl (c : Ch) : Nat := c.bl.length
theorem nbl_le (l : List Ch) : sumM nbl l ≤ szM szCh l := by
  unfold szM
  induction l with
  | nil => simp [sumM]
  | cons x l ih =>
    rw [sumM_cons, sumM_cons, List.length_cons]
    have : nbl x ≤ szCh x := by unfold nbl szCh szM; omega
    omega
structure TotLe (n : Nat) (t : Tot) : Prop where
  pls : t.pls.length ≤ n
  labs : t.labs.length ≤ n
  dgs : t.dgs.length ≤ n
theorem fixA_len {pls : List Pl} {xs : List Bytes} (h : xs.length = pls.length) : (fixA pls xs).length = pls.length := by unfold fixA; simp [h]
theorem totK_le (l : List Ch) (hl : l.length ≤ 29999) : ∀ k, k ≤ l.length → TotLe (sumM nbl (l.take k)) (totK l k)
  | 0, _ => ⟨Nat.zero_le _, Nat.zero_le _, Nat.zero_le _⟩
  | k + 1, h => by
    have ih := totK_le l hl k (by omega)
    have hk : k < l.length := h
    rw [totK_succ hk, sumM_take_succ _ hk]
    have hc := chapS_full (p := k + 1) (by omega) l[k].name (totK l k).labs (totK l k).dgs l[k].bl
    have hn : nbl l[k] = l[k].bl.length := rfl
    refine ⟨?_, ?_, ?_⟩
    · show List.length (_ ++ _) ≤ _
      rw [List.length_append, fixA_len (by rw [unlike_len, hc.anc])]
      have := ih.pls; have := hc.pls; omega
    · have := ih.labs; have := hc.labs
      show (chapS _ _ _ _ _).labs.length ≤ _
      omega
    · have := ih.dgs; have := hc.dgs
      show (chapS _ _ _ _ _).dgs.length ≤ _
      omega

/-! ### the anchors, one by one -/
def fixK (pls : List Pl) (xs : List Bytes) (k : Nat) : List Pl := fixA (pls.take k) (xs.take k) ++ pls.drop k
theorem fixK_zero (pls : List Pl) (xs : List Bytes) : fixK pls xs 0 = pls := by unfold fixK fixA; simp
theorem fixK_full {pls : List Pl} {xs : List Bytes} (h : xs.length = pls.length) : fixK pls xs xs.length = fixA pls xs := by
  unfold fixK
  rw [List.take_length, h, List.take_length, List.drop_length, List.append_nil]
theorem fixK_len {pls : List Pl} {xs : List Bytes} (h : xs.length = pls.length) (k : Nat) : (fixK pls xs k).length = pls.length := by
  unfold fixK
  rw [List.length_append, fixA_len (by simp [h]), ← List.length_append, List.take_append_drop]
theorem fixK_get {pls : List Pl} {xs : List Bytes} (h : xs.length = pls.length) {k : Nat} (hk : k < pls.length) : (fixK pls xs k)[k]? = some pls[k] := by
  unfold fixK
  have hl : (fixA (pls.take k) (xs.take k)).length = k := by rw [fixA_len (by simp [h])]; simp; omega
  rw [List.getElem?_append_right (by omega), hl, Nat.sub_self, List.getElem?_drop, Nat.add_zero, List.getElem?_eq_getElem hk]
theorem fixK_succ {pls : List Pl} {xs : List Bytes} (h : xs.length = pls.length) {k : Nat} (hk : k < pls.length) : fixK pls xs (k + 1) = (fixK pls xs k).set k (setA pls[k] (xs[k]'(by omega))) := by
  unfold fixK
  have hl : (fixA (pls.take k) (xs.take k)).length = k := by rw [fixA_len (by simp [h])]; simp; omega
  have hx : k < xs.length := by omega
  rw [List.set_append_right _ _ (by omega), hl, Nat.sub_self, List.take_succ_eq_append_getElem hk, List.take_succ_eq_append_getElem hx]
  have hd : pls.drop k = pls[k] :: pls.drop (k + 1) := (List.drop_eq_getElem_cons hk)
  rw [hd, List.set_cons_zero]
  unfold fixA
  rw [List.zipWith_append (by simp; omega)]
  simp

/-! ### small contracts -/
theorem page_any (s : Bytes) (w : World) (hs : s.length ≤ 1000000) : Calls Tryz.prog 86 #[.string ⟨s.toArray⟩] w fun e w' => e = .returned (.string ⟨(s ++ htmlB).toArray⟩) ∧ w = w' := by
  go_enter Tryz.func86, Tryz.ntmps86
  go_wp2
  go_ret
  exact ⟨rfl, rfl⟩
theorem led_any (k : Nat) (w : World) : Calls Tryz.prog 83 #[.int .u8 k] w fun e w' => e = .returned (.bool (ledB k)) ∧ w = w' := by
  have HL : Hid (ledB k = (decide (k = 1) || decide (k = 6) || decide (k = 7))) := by
    show _ = _; unfold ledB; rfl
  generalize ledB k = q at *
  by_cases h1 : k = 1
  · subst h1
    go_enter Tryz.func83, Tryz.ntmps83
    go_wp2
    go_ret
    exact ⟨by rw [HL.out]; rfl, rfl⟩
  by_cases h6 : k = 6
  · subst h6
    go_enter Tryz.func83, Tryz.ntmps83
    go_wp2
    go_ret
    exact ⟨by rw [HL.out]; rfl, rfl⟩
  by_cases h7 : k = 7
  · subst h7
    go_enter Tryz.func83, Tryz.ntmps83
    go_wp2
    go_ret
    exact ⟨by rw [HL.out]; rfl, rfl⟩
  have e : q = false := by rw [HL.out]; simp [h1, h6, h7]
  have e1 : ((k : Int) == 1) = false := beq_eq_false_iff_ne.2 (by omega)
  have e6 : ((k : Int) == 6) = false := beq_eq_false_iff_ne.2 (by omega)
  have e7 : ((k : Int) == 7) = false := beq_eq_false_iff_ne.2 (by omega)
  clear h1 h6 h7 HL
  subst e
  go_enter Tryz.func83, Tryz.ntmps83
  go_wp2
  go_ret
  exact ⟨rfl, rfl⟩
end Go.Proofs.YtohinfefidahlaaGreatDoor

namespace Go.Proofs.YtohinfefidahlaaGreatDoor
open Go.RowKit
set_option linter.unusedVariables false
set_option linter.unusedSimpArgs false

section
variable {p : Nat} {name : Bytes} {labs : List Bytes} {dgs : List Dg} {bs : List Bl}
/-- what is known ahead of block k of a chapter -/
def chS (p : Nat) (name : Bytes) (labs : List Bytes) (dgs : List Dg) (bs : List Bl) (k : Nat) : St := chapS p name labs dgs (bs.take k)
theorem chS_led {k : Nat} (h : k < bs.length) (hl : ledB bs[k].kind = true) :
    chS p name labs dgs bs (k + 1) = ⟨cntP (chS p name labs dgs bs k).cnt bs[k].kind bs[k].level, (chS p name labs dgs bs k).pls ++ [plP p (name ++ htmlB) (chS p name labs dgs bs k).cnt bs[k]], (chS p name labs dgs bs k).anc ++ [ancP bs[k]], if bs[k].label = [] then (chS p name labs dgs bs k).labs else (chS p name labs dgs bs k).labs ++ [bs[k].label],
      if bs[k].label ≠ [] ∧ bs[k].label ∈ (chS p name labs dgs bs k).labs then (chS p name labs dgs bs k).dgs ++ [⟨bs[k].file, bs[k].line, 11, bs[k].label⟩] else (chS p name labs dgs bs k).dgs⟩ := by
  unfold chS
  rw [chapS_succ h]
  unfold stepB
  rw [if_pos hl]
theorem chS_not {k : Nat} (h : k < bs.length) (hl : ¬ ledB bs[k].kind = true) : chS p name labs dgs bs (k + 1) = chS p name labs dgs bs k := by
  unfold chS
  rw [chapS_succ h]
  unfold stepB
  rw [if_neg hl]
theorem chS_zero : chS p name labs dgs bs 0 = ⟨cnt0 p, [], [], labs, dgs⟩ := by unfold chS; rw [List.take_zero]; rfl
theorem chS_full : chS p name labs dgs bs bs.length = chapS p name labs dgs bs := by unfold chS; rw [List.take_length]
theorem chS_pre (k : Nat) : ∀ d, k + d ≤ bs.length → (chS p name labs dgs bs k).pls <+: (chS p name labs dgs bs (k + d)).pls
  | 0, _ => List.prefix_refl _
  | d + 1, h => by
    have ih := chS_pre k d (by omega)
    have hk : k + d < bs.length := by omega
    by_cases hl : ledB bs[k + d].kind = true
    · rw [← Nat.add_assoc, chS_led hk hl]
      exact ih.trans (List.prefix_append _ _)
    · rw [← Nat.add_assoc, chS_not hk hl]; exact ih
/-- the place of a block, ahead of the anchors -/
theorem chS_at {k : Nat} (h : k < bs.length) (hl : ledB bs[k].kind = true) : (chapS p name labs dgs bs).pls[(chS p name labs dgs bs k).pls.length]? = some (plP p (name ++ htmlB) (chS p name labs dgs bs k).cnt bs[k]) := by
  have h1 := chS_pre (p := p) (name := name) (labs := labs) (dgs := dgs) (bs := bs) (k + 1) (bs.length - (k + 1)) (by omega)
  rw [show k + 1 + (bs.length - (k + 1)) = bs.length by omega, chS_full, chS_led h hl] at h1
  obtain ⟨t, ht⟩ := h1
  rw [← ht]
  simp
end

section
variable {l : List Ch}
theorem tot_pre (k : Nat) : ∀ d, k + d ≤ l.length → (totK l k).pls <+: (totK l (k + d)).pls
  | 0, _ => List.prefix_refl _
  | d + 1, h => by
    have ih := tot_pre k d (by omega)
    rw [← Nat.add_assoc, totK_succ (show k + d < l.length by omega)]
    exact ih.trans (List.prefix_append _ _)
/-- what is known ahead of block k of chapter i -/
def stAt (l : List Ch) (i : Nat) (x : Ch) (k : Nat) : St := chS (i + 1) x.name (totK l i).labs (totK l i).dgs x.bl k
def endAt (l : List Ch) (i : Nat) (x : Ch) : St := chapS (i + 1) x.name (totK l i).labs (totK l i).dgs x.bl
def nAt (l : List Ch) (i : Nat) (x : Ch) (k : Nat) : Nat := (totK l i).pls.length + (stAt l i x k).pls.length
theorem endAt_anc (hl : l.length ≤ 29999) {i : Nat} (hi : i < l.length) : (endAt l i l[i]).anc.length = (endAt l i l[i]).pls.length := (chapS_full (p := i + 1) (by omega) _ _ _ _).anc
theorem tot_next (hl : l.length ≤ 29999) {i : Nat} (hi : i < l.length) : (totK l (i + 1)).pls.length = (totK l i).pls.length + (endAt l i l[i]).pls.length := by
  rw [totK_succ hi]
  show (_ ++ _ : List Pl).length = _
  rw [List.length_append, fixA_len (by rw [unlike_len]; exact endAt_anc hl hi)]
  rfl
theorem nAt_zero (i : Nat) (x : Ch) : nAt l i x 0 = (totK l i).pls.length := by unfold nAt stAt; rw [chS_zero]; rfl
theorem nAt_full (hl : l.length ≤ 29999) {i : Nat} (hi : i < l.length) : nAt l i l[i] l[i].bl.length = (totK l (i + 1)).pls.length := by
  rw [tot_next hl hi]; unfold nAt stAt; rw [chS_full]; rfl
theorem nAt_led {i k : Nat} {x : Ch} (hk : k < x.bl.length) (h : ledB x.bl[k].kind = true) : nAt l i x (k + 1) = nAt l i x k + 1 := by
  unfold nAt stAt; rw [chS_led hk h]; simp; omega
theorem nAt_not {i k : Nat} {x : Ch} (hk : k < x.bl.length) (h : ¬ ledB x.bl[k].kind = true) : nAt l i x (k + 1) = nAt l i x k := by
  unfold nAt stAt; rw [chS_not hk h]
theorem pre_get {α : Type} {a b : List α} (h : a <+: b) {i : Nat} {x : α} (hx : a[i]? = some x) : b[i]? = some x := by
  obtain ⟨t, rfl⟩ := h
  rw [List.getElem?_append_left (List.getElem?_eq_some_iff.1 hx).1]; exact hx
/-- the place of a block -/
theorem place_at (hl : l.length ≤ 29999) {i : Nat} (hi : i < l.length) {k : Nat} (hk : k < l[i].bl.length) (h : ledB l[i].bl[k].kind = true) :
    ∃ a, (totP l).pls[nAt l i l[i] k]? = some (setA (plP (i + 1) (l[i].name ++ htmlB) (stAt l i l[i] k).cnt l[i].bl[k]) a) ∧ (unlike (endAt l i l[i]).anc)[(stAt l i l[i] k).pls.length]? = some a := by
  have h1 := chS_at (p := i + 1) (name := l[i].name) (labs := (totK l i).labs) (dgs := (totK l i).dgs) hk h
  have h2 := tot_pre (l := l) (i + 1) (l.length - (i + 1)) (by omega)
  rw [show i + 1 + (l.length - (i + 1)) = l.length by omega] at h2
  have hn := (List.getElem?_eq_some_iff.1 h1).1
  have hu : (unlike (endAt l i l[i]).anc).length = (endAt l i l[i]).pls.length := by rw [unlike_len]; exact endAt_anc hl hi
  have hn2 : (stAt l i l[i] k).pls.length < (unlike (endAt l i l[i]).anc).length := by rw [hu]; exact hn
  refine ⟨_, ?_, List.getElem?_eq_getElem hn2⟩
  refine pre_get (h2 : _ <+: (totP l).pls) ?_
  rw [totK_succ hi]
  show (_ ++ _ : List Pl)[_]? = _
  unfold nAt
  rw [List.getElem?_append_right (by omega), show (totK l i).pls.length + (stAt l i l[i] k).pls.length - (totK l i).pls.length = (stAt l i l[i] k).pls.length by omega]
  unfold fixA
  rw [List.getElem?_zipWith, show (chapS (i + 1) l[i].name (totK l i).labs (totK l i).dgs l[i].bl).pls[(stAt l i l[i] k).pls.length]? = _ from h1, show (unlike (chapS (i + 1) l[i].name (totK l i).labs (totK l i).dgs l[i].bl).anc)[(stAt l i l[i] k).pls.length]? = _ from List.getElem?_eq_getElem hn2]
  rfl
end

/-! ### the numbers -/
def headsN (bs : List Bl) : Nat := (bs.filter fun b => b.kind == 1).length
theorem headsN_succ {bs : List Bl} {k : Nat} (h : k < bs.length) : headsN (bs.take (k + 1)) = headsN (bs.take k) + (if bs[k].kind = 1 then 1 else 0) := by
  unfold headsN
  rw [List.take_succ_eq_append_getElem h, List.filter_append, List.length_append]
  by_cases hk : bs[k].kind = 1
  · simp [hk]
  · have : (bs[k].kind == 1) = false := by simpa using hk
    simp [this, hk]
/-- no further title has level 1 -/
def NoMore (bs : List Bl) : Prop := ∀ k (h : k < bs.length), bs[k].kind = 1 → 1 < headsN (bs.take (k + 1)) → bs[k].level ≠ 1
theorem ks_heads {p : Nat} (hp : p ≤ 30000) (name : Bytes) (labs : List Bytes) (dgs : List Dg) (bs : List Bl) : ∀ k, k ≤ bs.length → (chS p name labs dgs bs k).cnt.ks.getD 1 0 = headsN (bs.take k)
  | 0, _ => by rw [chS_zero]; rfl
  | k + 1, h => by
    have ih := ks_heads hp name labs dgs bs k (by omega)
    have hk : k < bs.length := h
    have hc := (chapS_le hp name labs dgs bs k (by omega)).cnt
    rw [headsN_succ hk]
    by_cases hl : ledB bs[k].kind = true
    · rw [chS_led hk hl]
      show (bumpK (chS p name labs dgs bs k).cnt.ks bs[k].kind).getD 1 0 = _
      rw [bumpK_get _ _ _ (by rw [show (chS p name labs dgs bs k).cnt.ks.length = 8 from hc.ks]; unfold ledB at hl; simp at hl; omega)]
      by_cases h1 : bs[k].kind = 1
      · rw [if_pos h1.symm, if_pos h1, h1, ih]
      · rw [if_neg (fun e => h1 e.symm), if_neg h1, ih]; rfl
    · rw [chS_not hk hl, ih, if_neg (fun e => hl (by rw [e]; rfl))]; rfl
theorem bump_heads {p : Nat} (hp : p ≤ 30000) (name : Bytes) (labs : List Bytes) (dgs : List Dg) {bs : List Bl} {k : Nat} (hk : k < bs.length) (h1 : bs[k].kind = 1) :
    (bumpK (chS p name labs dgs bs k).cnt.ks bs[k].kind).getD bs[k].kind 0 = headsN (bs.take (k + 1)) := by
  have hc := (chapS_le hp name labs dgs bs k (by omega)).cnt
  have ih := ks_heads hp name labs dgs bs k (by omega)
  rw [headsN_succ hk, if_pos h1, h1, bumpK_get _ _ _ (by rw [show (chS p name labs dgs bs k).cnt.ks.length = 8 from hc.ks]; omega), if_pos rfl, ih]
theorem hdOk_next {p : Nat} (hp : p ≤ 30000) (name : Bytes) (labs : List Bytes) (dgs : List Dg) {bs : List Bl} (hN : NoMore bs) {k : Nat} (hk : k < bs.length) (hd : HdOk p (chS p name labs dgs bs k).cnt) :
    HdOk p (cntP (chS p name labs dgs bs k).cnt bs[k].kind bs[k].level) := by
  refine hd.next fun h1 h2 => ?_
  rw [bump_heads hp name labs dgs hk h1]
  refine Nat.le_of_not_lt fun h3 => hN k hk h1 h3 h2
theorem hdOk_at {p : Nat} (hp : p ≤ 30000) (name : Bytes) (labs : List Bytes) (dgs : List Dg) {bs : List Bl} (hN : NoMore bs) : ∀ k, k ≤ bs.length → HdOk p (chS p name labs dgs bs k).cnt
  | 0, _ => by rw [chS_zero]; exact ⟨[], rfl⟩
  | k + 1, h => by
    have ih := hdOk_at hp name labs dgs hN k (by omega)
    have hk : k < bs.length := h
    by_cases hl : ledB bs[k].kind = true
    · rw [chS_led hk hl]; exact hdOk_next hp name labs dgs hN hk ih
    · rw [chS_not hk hl]; exact ih
theorem dotP_head (p : Nat) (r : List Nat) : (r = [] ∧ dotP (p :: r) = Lib.decDigits p) ∨ ∃ t, dotP (p :: r) = Lib.decDigits p ++ 46 :: t := by
  cases r with
  | nil => exact .inl ⟨rfl, rfl⟩
  | cons x r => exact .inr ⟨dotP (x :: r), rfl⟩
/-- the number of a block begins with its chapter's -/
def Begins (d s : Bytes) (head : Prop) : Prop := (s = d ∧ head) ∨ ∃ t, s = d ++ 46 :: t
theorem num_begins {p : Nat} (hp : p ≤ 30000) (name : Bytes) (labs : List Bytes) (dgs : List Dg) {bs : List Bl} (hN : NoMore bs) {k : Nat} (hk : k < bs.length) :
    Begins (Lib.decDigits p) (numP p (chS p name labs dgs bs k).cnt bs[k].kind bs[k].level) (bs[k].kind = 1) := by
  obtain ⟨r, hr⟩ := hdOk_next hp name labs dgs hN hk (hdOk_at hp name labs dgs hN k (by omega))
  unfold numP
  by_cases h1 : bs[k].kind = 1
  · rw [if_pos h1, hr]
    rcases dotP_head p r with ⟨_, h⟩ | h
    · exact .inl ⟨h, h1⟩
    · exact .inr h
  · rw [if_neg h1]
    exact .inr ⟨_, rfl⟩

/-! ### pages and anchors -/
theorem unlike_nodup (l : List Bytes) : ∀ k, k ≤ l.length → (unlike (l.take k)).Nodup
  | 0, _ => by simp [unlike]
  | k + 1, h => by
    rw [unlike_take (show k < l.length from h), List.nodup_append]
    refine ⟨unlike_nodup l k (by omega), by simp, fun a ha b hb => ?_⟩
    simp at hb; subst hb
    intro e
    subst e
    exact (firstJ_free (unlike (l.take k)) (l[k]'h)).1 ha
/-- a place's page and anchor -/
def pgA (p : Pl) : Bytes × Bytes := (p.page, p.anchor)
theorem fixA_anchor : ∀ {pls : List Pl} {xs : List Bytes}, xs.length = pls.length → (fixA pls xs).map Pl.anchor = xs
  | [], [], _ => rfl
  | p :: pls, x :: xs, h => by
    have := fixA_anchor (pls := pls) (xs := xs) (by simpa using h)
    unfold fixA at *
    simp only [List.zipWith_cons_cons, List.map_cons, this]; rfl
  | [], _ :: _, h => by simp at h
  | _ :: _, [], h => by simp at h
theorem fixA_page {g : Bytes} : ∀ {pls : List Pl} {xs : List Bytes}, (∀ p ∈ pls, p.page = g) → ∀ p ∈ fixA pls xs, p.page = g
  | [], _, _, p, hp => by simp [fixA] at hp
  | q :: pls, [], _, p, hp => by simp [fixA] at hp
  | q :: pls, x :: xs, h, p, hp => by
    unfold fixA at hp
    rw [List.zipWith_cons_cons] at hp
    rcases List.mem_cons.1 hp with rfl | hp
    · exact h q (by simp)
    · exact fixA_page (pls := pls) (xs := xs) (fun p hp => h p (by simp [hp])) p hp
theorem chS_page {p : Nat} {name : Bytes} {labs : List Bytes} {dgs : List Dg} {bs : List Bl} : ∀ k, k ≤ bs.length → ∀ q ∈ (chS p name labs dgs bs k).pls, q.page = name ++ htmlB
  | 0, _ => by rw [chS_zero]; intro q hq; cases hq
  | k + 1, h => by
    have ih := chS_page (p := p) (name := name) (labs := labs) (dgs := dgs) (bs := bs) k (by omega)
    have hk : k < bs.length := h
    by_cases hl : ledB bs[k].kind = true
    · rw [chS_led hk hl]
      intro q hq
      rcases List.mem_append.1 hq with hq | hq
      · exact ih q hq
      · simp at hq; subst hq; rfl
    · rw [chS_not hk hl]; exact ih
theorem nodup_of_map {α β : Type} (f : α → β) : ∀ {l : List α}, (l.map f).Nodup → l.Nodup
  | [], _ => List.nodup_nil
  | x :: l, h => by
    rw [List.map_cons, List.nodup_cons] at h
    rw [List.nodup_cons]
    exact ⟨fun hx => h.1 (List.mem_map_of_mem hx), nodup_of_map f h.2⟩
/-- no two places have one page and one anchor -/
theorem tot_unlike {l : List Ch} (hl : l.length ≤ 29999) (hn : ∀ i k (hi : i < l.length) (hk : k < i), l[i].name ≠ l[k].name) : ∀ n, n ≤ l.length →
    ((totK l n).pls.map pgA).Nodup ∧ ∀ q ∈ (totK l n).pls, ∃ i, ∃ h : i < n, ∃ h2 : i < l.length, q.page = l[i].name ++ htmlB
  | 0, _ => ⟨by simp [totK], fun q hq => by simp [totK] at hq⟩
  | n + 1, h => by
    obtain ⟨h1, h2⟩ := tot_unlike hl hn n (by omega)
    have hi : n < l.length := h
    have hpg : ∀ q ∈ fixA (endAt l n l[n]).pls (unlike (endAt l n l[n]).anc), q.page = l[n].name ++ htmlB := by
      refine fixA_page fun q hq => ?_
      have := chS_page (p := n + 1) (name := l[n].name) (labs := (totK l n).labs) (dgs := (totK l n).dgs) (bs := l[n].bl) l[n].bl.length (Nat.le_refl _) q
      rw [chS_full] at this
      exact this hq
    have hnd : ((fixA (endAt l n l[n]).pls (unlike (endAt l n l[n]).anc)).map pgA).Nodup := by
      refine nodup_of_map Prod.snd ?_
      rw [List.map_map]
      show (List.map Pl.anchor _).Nodup
      rw [fixA_anchor (by rw [unlike_len]; exact endAt_anc hl hi)]
      have := unlike_nodup (endAt l n l[n]).anc _ (Nat.le_refl _)
      rwa [List.take_length] at this
    have ht : (totK l (n + 1)).pls = (totK l n).pls ++ fixA (endAt l n l[n]).pls (unlike (endAt l n l[n]).anc) := by rw [totK_succ hi]; rfl
    rw [ht]
    refine ⟨?_, fun q hq => ?_⟩
    · rw [List.map_append, List.nodup_append]
      refine ⟨h1, hnd, fun a ha b hb e => ?_⟩
      subst e
      obtain ⟨q, hq, rfl⟩ := List.mem_map.1 ha
      obtain ⟨q2, hq2, e2⟩ := List.mem_map.1 hb
      obtain ⟨i, hin, hil, hqi⟩ := h2 q hq
      have e3 : q2.page = q.page := congrArg Prod.fst e2
      rw [hpg q2 hq2, hqi] at e3
      exact hn n i hi hin (List.append_cancel_right e3)
    · rcases List.mem_append.1 hq with hq | hq
      · obtain ⟨i, hin, hil, hqi⟩ := h2 q hq
        exact ⟨i, by omega, hil, hqi⟩
      · exact ⟨n, by omega, hi, hpg q hq⟩
theorem totP_unlike {l : List Ch} (hl : l.length ≤ 29999) (hn : ∀ i k (hi : i < l.length) (hk : k < i), l[i].name ≠ l[k].name) {i j : Nat} {p q : Pl} (hij : i < j) (hp : (totP l).pls[i]? = some p) (hq : (totP l).pls[j]? = some q) : pgA p ≠ pgA q := fun e => by
  have h := (tot_unlike hl hn l.length (Nat.le_refl _)).1
  have h1 := List.getElem?_eq_some_iff.1 hp
  have h2 := List.getElem?_eq_some_iff.1 hq
  obtain ⟨h1, rfl⟩ := h1
  obtain ⟨h2, rfl⟩ := h2
  have h3 := (List.pairwise_iff_getElem.1 h) i j (by rw [List.length_map]; exact h1) (by rw [List.length_map]; exact h2) hij
  simp only [List.getElem_map] at h3
  exact h3 e
end Go.Proofs.YtohinfefidahlaaGreatDoor

namespace Go.Proofs.YtohinfefidahlaaGreatDoor
open Go.RowKit
set_option linter.unusedVariables false
set_option linter.unusedSimpArgs false

theorem slpl : SlTy Tryz.prog 58 81 6 88 := ⟨Tryz.underlying58, .agg #[.string ⟨#[]⟩, .int .u8 0, .string ⟨#[]⟩, .string ⟨#[]⟩, .string ⟨#[]⟩, .string ⟨#[]⟩], by kernel_rfl, rfl, by decide⟩
theorem sldg : SlTy Tryz.prog 59 103 4 48 := ⟨Tryz.underlying59, .agg #[.string ⟨#[]⟩, .int .i64 0, .int .i64 0, .string ⟨#[]⟩], by kernel_rfl, rfl, by decide⟩

section
variable {α : Type} {w w' : World} {B : Nat} {e : TypeId} {sz : Nat} {enc : α → List Value} {v : Value} {l : List α}
theorem Own.grown {row : Option Nat} (h : Own w B e sz enc v l) (hg : w.grownBy w' row) (hne : ∀ k, v.ownBlock = some k → row ≠ some k) : Own w' B e sz enc v l :=
  h.kept fun k hk => hg.block k (h.block k hk).2 fun e => hne k hk e.symm
theorem Bk.grownBy {row : Option Nat} {g : Nat} {C : List Value} {T : TypeId} (h : Bk w g C T) (hg : w.grownBy w' row) (hne : row ≠ some g) : Bk w' g C T := h.of_block (hg.block g h.lt fun e => hne e.symm)
end
theorem CntAt.grown {w w' : World} {B g p : Nat} {c : Cnt} {row : Option Nat} (h : CntAt w B g p c) (hg : w.grownBy w' row) (h1 : row ≠ some g) (h2 : ∀ v : Value, Own w B 3 1 encI v c.ts → ∀ k, v.ownBlock = some k → row ≠ some k) : CntAt w' B g p c := by
  obtain ⟨v, hb, ho⟩ := h
  exact ⟨v, hb.grownBy hg h1, ho.grown hg (h2 v ho)⟩
theorem CntAt.bk {w : World} {B g p : Nat} {c : Cnt} (h : CntAt w B g p c) : ∃ C, Bk w g C 96 := by
  obtain ⟨v, hb, _⟩ := h
  exact ⟨_, hb⟩

/-- what holds between two blocks: places, faults, anchors, how often each label was there, the counts, the chapter itself -/
structure PIn (w : World) (B g8 g9 p : Nat) (C8 : List Value) (v4 v5 v11 : Value) (P : List Pl) (D : List Dg) (A : List Bytes) (L : List Bytes) (c : Cnt) : Prop where
  pl : Own w B 81 6 encPl v4 P
  dg : Own w B 103 4 encDg v5 D
  an : Own w B 9 1 encS v11 A
  mp : ∃ m, SMap w B m ∧ LInv L m
  ct : CntAt w B g9 p c
  ch : Bk w g8 C8 77
  l8 : B < g8
  l9 : g8 < g9
section
variable {w w' : World} {B g8 g9 p : Nat} {C8 : List Value} {v4 v5 v11 v : Value} {P : List Pl} {D : List Dg} {A : List Bytes} {L : List Bytes} {c : Cnt}
theorem PIn.next (h : PIn w B g8 g9 p C8 v4 v5 v11 P D A L c) (hb : Below w.heap.size w w') : PIn w' B g8 g9 p C8 v4 v5 v11 P D A L c := by
  obtain ⟨m, hm, hl⟩ := h.mp
  exact ⟨h.pl.next rfl hb, h.dg.next rfl hb, h.an.next rfl hb, ⟨m, hm.below hb hm.lt, hl⟩, h.ct.next hb, h.ch.next hb, h.l8, h.l9⟩
theorem PIn.drewN (h : PIn w B g8 g9 p C8 v4 v5 v11 P D A L c) (n : Nat) : PIn (w.drewN n) B g8 g9 p C8 v4 v5 v11 P D A L c := h.next ⟨rfl, rfl, rfl, Nat.le_refl _, fun _ _ => rfl⟩
theorem PIn.alloc (h : PIn w B g8 g9 p C8 v4 v5 v11 P D A L c) (o : Obj) : PIn (w.alloc o) B g8 g9 p C8 v4 v5 v11 P D A L c := h.next ((Below.refl _ _).alloc (Nat.le_refl _) o)
theorem PIn.sz (h : PIn w B g8 g9 p C8 v4 v5 v11 P D A L c) : B ≤ w.heap.size := by have := h.ch.lt; have := h.l8; omega
theorem PIn.numbered (h : PIn w B g8 g9 p C8 v4 v5 v11 P D A L c) {c' : Cnt} (hk : Kept (fun x => x = g9) w w') (hc : CntAt w' B g9 p c') : PIn w' B g8 g9 p C8 v4 v5 v11 P D A L c' := by
  obtain ⟨m, hm, hl⟩ := h.mp
  obtain ⟨C, hC⟩ := h.ct.bk
  have := h.l8; have := h.l9
  exact ⟨hk.own h.pl fun g hg e => h.pl.ne_bk hC (by decide) (by rw [hg, e]), hk.own h.dg fun g hg e => h.dg.ne_bk hC (by decide) (by rw [hg, e]), hk.own h.an fun g hg e => h.an.ne_bk hC (by decide) (by rw [hg, e]),
    ⟨m, hm.of_block (hk.block B hm.lt (by omega)), hl⟩, hc, hk.bk h.ch (by omega), h.l8, h.l9⟩
theorem PIn.pushPl (h : PIn w B g8 g9 p C8 v4 v5 v11 P D A L c) {P' : List Pl} (hg : w.grownBy w' v4.ownBlock) (ho : Own w' B 81 6 encPl v P') : PIn w' B g8 g9 p C8 v v5 v11 P' D A L c := by
  obtain ⟨m, hm, hl⟩ := h.mp
  obtain ⟨C, hC⟩ := h.ct.bk
  exact ⟨ho, h.dg.grown hg fun k hk e => h.dg.ne_own h.pl (by decide) k hk e, h.an.grown hg fun k hk e => h.an.ne_own h.pl (by decide) k hk e, ⟨m, hm.push h.pl hg, hl⟩,
    h.ct.grown hg (h.pl.ne_bk hC (by decide)) (fun v hv k hk e => hv.ne_own h.pl (by decide) k hk e), h.ch.grownBy hg (h.pl.ne_bk h.ch (by decide)), h.l8, h.l9⟩
theorem PIn.pushDg (h : PIn w B g8 g9 p C8 v4 v5 v11 P D A L c) {D' : List Dg} (hg : w.grownBy w' v5.ownBlock) (ho : Own w' B 103 4 encDg v D') : PIn w' B g8 g9 p C8 v4 v v11 P D' A L c := by
  obtain ⟨m, hm, hl⟩ := h.mp
  obtain ⟨C, hC⟩ := h.ct.bk
  exact ⟨h.pl.grown hg fun k hk e => h.pl.ne_own h.dg (by decide) k hk e, ho, h.an.grown hg fun k hk e => h.an.ne_own h.dg (by decide) k hk e, ⟨m, hm.push h.dg hg, hl⟩,
    h.ct.grown hg (h.dg.ne_bk hC (by decide)) (fun v hv k hk e => hv.ne_own h.dg (by decide) k hk e), h.ch.grownBy hg (h.dg.ne_bk h.ch (by decide)), h.l8, h.l9⟩
theorem PIn.pushAn (h : PIn w B g8 g9 p C8 v4 v5 v11 P D A L c) {A' : List Bytes} (hg : w.grownBy w' v11.ownBlock) (ho : Own w' B 9 1 encS v A') : PIn w' B g8 g9 p C8 v4 v5 v P D A' L c := by
  obtain ⟨m, hm, hl⟩ := h.mp
  obtain ⟨C, hC⟩ := h.ct.bk
  exact ⟨h.pl.grown hg fun k hk e => h.pl.ne_own h.an (by decide) k hk e, h.dg.grown hg fun k hk e => h.dg.ne_own h.an (by decide) k hk e, ho, ⟨m, hm.push h.an hg, hl⟩,
    h.ct.grown hg (h.an.ne_bk hC (by decide)) (fun v hv k hk e => hv.ne_own h.an (by decide) k hk e), h.ch.grownBy hg (h.an.ne_bk h.ch (by decide)), h.l8, h.l9⟩
theorem PIn.put (h : PIn w B g8 g9 p C8 v4 v5 v11 P D A L c) {m m' : KV} {L' : List Bytes} (hm : SMap w B m) (hm' : SMap w' B m') (hL : LInv L' m') (hg : w.grownBy w' (some B)) : PIn w' B g8 g9 p C8 v4 v5 v11 P D A L' c := by
  have := h.l8; have := h.l9
  exact ⟨h.pl.mapPut hm hg, h.dg.mapPut hm hg, h.an.mapPut hm hg, ⟨m', hm', hL⟩, by
    obtain ⟨v, hb, ho⟩ := h.ct
    exact ⟨v, hb.grownBy hg (by intro e; injection e with e; omega), ho.mapPut hm hg⟩, h.ch.grownBy hg (by intro e; injection e with e; omega), h.l8, h.l9⟩
end
theorem PIn.start {wr : World} {B p : Nat} {C8 : List Value} {v4 v5 : Value} {T0 : Tot} (hP : Own wr B 81 6 encPl v4 T0.pls) (hD : Own wr B 103 4 encDg v5 T0.dgs) (hM : ∃ m, SMap wr B m ∧ LInv T0.labs m) (hB : B < wr.heap.size) {C : Array Value} (hC : C.toList = C8) :
    PIn (((wr.alloc (.cells C 77)).alloc (.cells #[.int .i64 p] 3)).alloc (.cells #[.int .i64 p, .slice (some ⟨wr.heap.size + 1, 0, none⟩) 1 1, .int .i64 0, .int .i64 0, .int .i64 0, .int .i64 0, .int .i64 0, .int .i64 0, .int .i64 0, .int .i64 0] 96))
      B wr.heap.size (wr.heap.size + 1 + 1) p C8 v4 v5 (.slice none 0 0) T0.pls T0.dgs [] T0.labs (cnt0 p) := by
  subst hC
  obtain ⟨m, hm, hl⟩ := hM
  refine ⟨((hP.alloc _).alloc _).alloc _, ((hD.alloc _).alloc _).alloc _, Own.nil _ _ _ _ _, ⟨m, ((hm.alloc _).alloc _).alloc _, hl⟩, ⟨.slice (some ⟨wr.heap.size + 1, 0, none⟩) 1 1, ?_, ?_⟩, ?_, hB, by omega⟩
  · have h := Bk.new ((wr.alloc (.cells C 77)).alloc (.cells #[.int .i64 p] 3)) #[.int .i64 p, .slice (some ⟨wr.heap.size + 1, 0, none⟩) 1 1, .int .i64 0, .int .i64 0, .int .i64 0, .int .i64 0, .int .i64 0, .int .i64 0, .int .i64 0, .int .i64 0] 96
    rw [World.size_alloc, World.size_alloc] at h
    exact h
  · have h := (Bk.new (wr.alloc (.cells C 77)) #[.int .i64 p] 3).alloc (.cells #[.int .i64 p, .slice (some ⟨wr.heap.size + 1, 0, none⟩) 1 1, .int .i64 0, .int .i64 0, .int .i64 0, .int .i64 0, .int .i64 0, .int .i64 0, .int .i64 0, .int .i64 0] 96)
    rw [World.size_alloc] at h
    exact Own.of_bk encI_ok h (by omega) rfl (by decide)
  · exact ((Bk.new wr C 77).alloc _).alloc _
/-- the anchors are short -/
theorem chS_anc_len {p : Nat} {name : Bytes} {labs : List Bytes} {dgs : List Dg} {bs : List Bl} {n : Nat} (hn : 60 ≤ n) (hb : ∀ b ∈ bs, b.label.length ≤ n) : ∀ k, k ≤ bs.length → ∀ x ∈ (chS p name labs dgs bs k).anc, x.length ≤ n
  | 0, _ => by rw [chS_zero]; intro x hx; cases hx
  | k + 1, h => by
    have ih := chS_anc_len (p := p) (name := name) (labs := labs) (dgs := dgs) hn hb k (by omega)
    have hk : k < bs.length := h
    by_cases hl : ledB bs[k].kind = true
    · rw [chS_led hk hl]
      intro x hx
      rcases List.mem_append.1 hx with hx | hx
      · exact ih x hx
      · simp at hx; subst hx
        unfold ancP
        split
        · have := (slugOf_hy (sayL bs[k].sl)).2.2; omega
        · exact hb _ (List.getElem_mem hk)
    · rw [chS_not hk hl]; exact ih
end Go.Proofs.YtohinfefidahlaaGreatDoor
