/- refs.Places: what its walk leans on. -/
import Derived.Test.YtohinfefidahlaaDoorNumber
import Derived.Test.YtohinfefidahlaaDoorOf
namespace Go.Proofs.YtohinfefidahlaaDoor
open Go.RowKit
set_option linter.unusedVariables false

/-! ### how often each label was there -/
def LInv (labs : List Bytes) (m : KV) : Prop := ∀ x, (x ∉ labs ∧ mapGet m x = none) ∨ (x ∈ labs ∧ ∃ n : Nat, mapGet m x = some (.int .i64 n) ∧ 1 ≤ n ∧ n ≤ labs.length)
theorem LInv.nil : LInv [] [] := fun x => .inl ⟨by simp, rfl⟩
theorem LInv.val {labs : List Bytes} {m : KV} (h : LInv labs m) (x : Bytes) : ∃ n : Nat, (mapGet m x).getD (.int .i64 0) = .int .i64 n ∧ n ≤ labs.length ∧ (0 < n ↔ x ∈ labs) := by
  rcases h x with ⟨h1, h2⟩ | ⟨h1, n, h2, h3, h4⟩
  · exact ⟨0, by rw [h2]; rfl, by omega, ⟨fun h => absurd h (by omega), fun h => absurd h h1⟩⟩
  · exact ⟨n, by rw [h2]; rfl, h4, ⟨fun _ => h1, fun _ => by omega⟩⟩
theorem LInv.put {labs : List Bytes} {m : KV} (h : LInv labs m) (x : Bytes) {n : Nat} (hn : n ≤ labs.length) : LInv (labs ++ [x]) (mapPut m x (.int .i64 (n + 1 : Nat))) := by
  intro y
  rw [mapGet_put]
  by_cases hy : y = x
  · subst hy
    exact .inr ⟨by simp, n + 1, by rw [if_pos rfl], by omega, by simp; omega⟩
  · rw [if_neg hy]
    rcases h y with ⟨h1, h2⟩ | ⟨h1, k, h2, h3, h4⟩
    · exact .inl ⟨by simp [h1, hy], h2⟩
    · exact .inr ⟨by simp [h1], k, h2, h3, by simp; omega⟩

/-! ### how many there are -/
structure StLe (p : Nat) (labs : List Bytes) (dgs : List Dg) (k : Nat) (s : St) : Prop where
  pls : s.pls.length ≤ k
  anc : s.anc.length = s.pls.length
  labs : s.labs.length ≤ labs.length + k
  dgs : s.dgs.length ≤ dgs.length + k
  cnt : CntOk k s.cnt
theorem chapS_le {p : Nat} (hp : p ≤ 30000) (name : Bytes) (labs : List Bytes) (dgs : List Dg) (bs : List Bl) : ∀ k, k ≤ bs.length → StLe p labs dgs k (chapS p name labs dgs (bs.take k))
  | 0, _ => by rw [List.take_zero]; exact ⟨Nat.le_refl _, rfl, Nat.le_refl _, Nat.le_refl _, CntOk.start p hp⟩
  | k + 1, h => by
    have ih := chapS_le hp name labs dgs bs k (by omega)
    rw [chapS_succ (show k < bs.length from h)]
    unfold stepB
    by_cases hl : ledB (bs[k]'h).kind = true
    · rw [if_pos hl]
      have hk8 : (bs[k]'h).kind < 8 := by unfold ledB at hl; simp at hl; omega
      refine ⟨by have := ih.pls; simp; omega, by have := ih.anc; simp; omega, ?_, ?_, ih.cnt.next hk8 _⟩
      · have := ih.labs
        show (if _ then _ else _ : List Bytes).length ≤ _
        split
        · omega
        · simp; omega
      · have := ih.dgs
        show (if _ then _ else _ : List Dg).length ≤ _
        split
        · simp; omega
        · omega
    · rw [if_neg hl]
      exact ⟨by have := ih.pls; omega, ih.anc, by have := ih.labs; omega, by have := ih.dgs; omega, ih.cnt.mono (by omega)⟩
theorem chapS_full {p : Nat} (hp : p ≤ 30000) (name : Bytes) (labs : List Bytes) (dgs : List Dg) (bs : List Bl) : StLe p labs dgs bs.length (chapS p name labs dgs bs) := by
  have := chapS_le hp name labs dgs bs bs.length (Nat.le_refl _)
  rwa [List.take_length] at this
def nbl (c : Ch) : Nat := c.bl.length
theorem nbl_le (l : List Ch) : sumM nbl l ≤ szM szCh l := by
  unfold szM
  induction l with
  | nil => simp [sumM]
  | cons x l ih =>
    rw [sumM_cons, sumM_cons, List.length_cons]
    have : nbl x ≤ szCh x := by unfold nbl szCh szM; omega
    omega
structure TotLe (n : Nat) (t : Tot) : Prop where
  pls : t.pls.length ≤ n
  labs : t.labs.length ≤ n
  dgs : t.dgs.length ≤ n
theorem fixA_len {pls : List Pl} {xs : List Bytes} (h : xs.length = pls.length) : (fixA pls xs).length = pls.length := by unfold fixA; simp [h]
theorem totK_le (l : List Ch) (hl : l.length ≤ 29999) : ∀ k, k ≤ l.length → TotLe (sumM nbl (l.take k)) (totK l k)
  | 0, _ => ⟨Nat.zero_le _, Nat.zero_le _, Nat.zero_le _⟩
  | k + 1, h => by
    have ih := totK_le l hl k (by omega)
    have hk : k < l.length := h
    rw [totK_succ hk, sumM_take_succ _ hk]
    have hc := chapS_full (p := k + 1) (by omega) l[k].name (totK l k).labs (totK l k).dgs l[k].bl
    have hn : nbl l[k] = l[k].bl.length := rfl
    refine ⟨?_, ?_, ?_⟩
    · show List.length (_ ++ _) ≤ _
      rw [List.length_append, fixA_len (by rw [unlike_len, hc.anc])]
      have := ih.pls; have := hc.pls; omega
    · have := ih.labs; have := hc.labs
      show (chapS _ _ _ _ _).labs.length ≤ _
      omega
    · have := ih.dgs; have := hc.dgs
      show (chapS _ _ _ _ _).dgs.length ≤ _
      omega

/-! ### the anchors, one by one -/
def fixK (pls : List Pl) (xs : List Bytes) (k : Nat) : List Pl := fixA (pls.take k) (xs.take k) ++ pls.drop k
theorem fixK_zero (pls : List Pl) (xs : List Bytes) : fixK pls xs 0 = pls := by unfold fixK fixA; simp
theorem fixK_full {pls : List Pl} {xs : List Bytes} (h : xs.length = pls.length) : fixK pls xs xs.length = fixA pls xs := by
  unfold fixK
  rw [List.take_length, h, List.take_length, List.drop_length, List.append_nil]
theorem fixK_len {pls : List Pl} {xs : List Bytes} (h : xs.length = pls.length) (k : Nat) : (fixK pls xs k).length = pls.length := by
  unfold fixK
  rw [List.length_append, fixA_len (by simp [h]), ← List.length_append, List.take_append_drop]
theorem fixK_get {pls : List Pl} {xs : List Bytes} (h : xs.length = pls.length) {k : Nat} (hk : k < pls.length) : (fixK pls xs k)[k]? = some pls[k] := by
  unfold fixK
  have hl : (fixA (pls.take k) (xs.take k)).length = k := by rw [fixA_len (by simp [h])]; simp; omega
  rw [List.getElem?_append_right (by omega), hl, Nat.sub_self, List.getElem?_drop, Nat.add_zero, List.getElem?_eq_getElem hk]
theorem fixK_succ {pls : List Pl} {xs : List Bytes} (h : xs.length = pls.length) {k : Nat} (hk : k < pls.length) : fixK pls xs (k + 1) = (fixK pls xs k).set k (setA pls[k] (xs[k]'(by omega))) := by
  unfold fixK
  have hl : (fixA (pls.take k) (xs.take k)).length = k := by rw [fixA_len (by simp [h])]; simp; omega
  have hx : k < xs.length := by omega
  rw [List.set_append_right _ _ (by omega), hl, Nat.sub_self, List.take_succ_eq_append_getElem hk, List.take_succ_eq_append_getElem hx]
  have hd : pls.drop k = pls[k] :: pls.drop (k + 1) := (List.drop_eq_getElem_cons hk)
  rw [hd, List.set_cons_zero]
  unfold fixA
  rw [List.zipWith_append (by simp; omega)]
  simp

/-! ### small contracts -/
theorem page_any (s : Bytes) (w : World) (hs : s.length ≤ 1000000) : Calls Tryd.prog 19 #[.string ⟨s.toArray⟩] w fun e w' => e = .returned (.string ⟨(s ++ htmlB).toArray⟩) ∧ w = w' := by
  go_enter Tryd.func19, Tryd.ntmps19
  go_wp2
  go_ret
  exact ⟨rfl, rfl⟩
theorem led_any (k : Nat) (w : World) : Calls Tryd.prog 16 #[.int .u8 k] w fun e w' => e = .returned (.bool (ledB k)) ∧ w = w' := by
  have HL : Hid (ledB k = (decide (k = 1) || decide (k = 6) || decide (k = 7))) := by
    show _ = _; unfold ledB; rfl
  generalize ledB k = q at *
  by_cases h1 : k = 1
  · subst h1
    go_enter Tryd.func16, Tryd.ntmps16
    go_wp2
    go_ret
    exact ⟨by rw [HL.out]; rfl, rfl⟩
  by_cases h6 : k = 6
  · subst h6
    go_enter Tryd.func16, Tryd.ntmps16
    go_wp2
    go_ret
    exact ⟨by rw [HL.out]; rfl, rfl⟩
  by_cases h7 : k = 7
  · subst h7
    go_enter Tryd.func16, Tryd.ntmps16
    go_wp2
    go_ret
    exact ⟨by rw [HL.out]; rfl, rfl⟩
  have e : q = false := by rw [HL.out]; simp [h1, h6, h7]
  have e1 : ((k : Int) == 1) = false := beq_eq_false_iff_ne.2 (by omega)
  have e6 : ((k : Int) == 6) = false := beq_eq_false_iff_ne.2 (by omega)
  have e7 : ((k : Int) == 7) = false := beq_eq_false_iff_ne.2 (by omega)
  clear h1 h6 h7 HL
  subst e
  go_enter Tryd.func16, Tryd.ntmps16
  go_wp2
  go_ret
  exact ⟨rfl, rfl⟩
end Go.Proofs.YtohinfefidahlaaDoor
