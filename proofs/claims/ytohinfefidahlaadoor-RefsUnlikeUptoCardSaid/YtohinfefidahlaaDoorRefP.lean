/- Where labels lead: the plain laws of the places of chapters. No program is named here. -/
import Derived.Test.YtohinfefidahlaaDoorChap
import Derived.Test.YtohinfefidahlaaDoorSlug
import Derived.Test.YtohinfefidahlaaDoorNext
namespace Go.Proofs.YtohinfefidahlaaDoor
open Go.RowKit
set_option linter.unusedVariables false

structure Pl where
  label : Bytes
  kind : Nat
  number : Bytes
  title : Bytes
  page : Bytes
  anchor : Bytes
def encPl (x : Pl) : List Value := [.string ⟨x.label.toArray⟩, .int .u8 x.kind, .string ⟨x.number.toArray⟩, .string ⟨x.title.toArray⟩, .string ⟨x.page.toArray⟩, .string ⟨x.anchor.toArray⟩]
theorem encPl_ok : Enc 6 encPl := ⟨fun _ => rfl, fun x u hu => by simp [encPl] at hu; rcases hu with rfl | rfl | rfl | rfl | rfl | rfl <;> rfl⟩

/-! ### counts -/
structure Cnt where
  ts : List Nat
  ks : List Nat
def ledB (k : Nat) : Bool := k == 1 || k == 6 || k == 7
def bumpK (ks : List Nat) (k : Nat) : List Nat := ks.set k (ks.getD k 0 + 1)
def tsP (ts : List Nat) (lv : Int) : List Nat := if nextE ts lv = 0 then nextP ts lv.toNat else ts
def cntP (c : Cnt) (k : Nat) (lv : Int) : Cnt :=
  ⟨if k = 1 ∧ (1 < (bumpK c.ks k).getD k 0 ∨ lv ≠ 1) then tsP c.ts lv else c.ts, bumpK c.ks k⟩
def numP (p : Nat) (c : Cnt) (k : Nat) (lv : Int) : Bytes := if k = 1 then dotP (cntP c k lv).ts else dotP [p, (cntP c k lv).ks.getD k 0]
def cnt0 (p : Nat) : Cnt := ⟨[p], [0, 0, 0, 0, 0, 0, 0, 0]⟩

/-! ### the places of a chapter, and of all -/
structure St where
  cnt : Cnt
  pls : List Pl
  anc : List Bytes
  labs : List Bytes
  dgs : List Dg
def plP (p : Nat) (page : Bytes) (c : Cnt) (b : Bl) : Pl := ⟨b.label, b.kind, numP p c b.kind b.level, sayL b.sl, page, []⟩
def ancP (b : Bl) : Bytes := if b.label = [] then slugOf (sayL b.sl) else b.label
def stepB (p : Nat) (page : Bytes) (s : St) (b : Bl) : St :=
  if ledB b.kind = true then
    ⟨cntP s.cnt b.kind b.level, s.pls ++ [plP p page s.cnt b], s.anc ++ [ancP b], if b.label = [] then s.labs else s.labs ++ [b.label],
      if b.label ≠ [] ∧ b.label ∈ s.labs then s.dgs ++ [⟨b.file, b.line, 11, b.label⟩] else s.dgs⟩
  else s
def htmlB : Bytes := [46, 104, 116, 109, 108]
def chapS (p : Nat) (name : Bytes) (labs : List Bytes) (dgs : List Dg) (bs : List Bl) : St := bs.foldl (stepB p (name ++ htmlB)) ⟨cnt0 p, [], [], labs, dgs⟩
def setA (p : Pl) (a : Bytes) : Pl := { p with anchor := a }
def fixA (pls : List Pl) (xs : List Bytes) : List Pl := List.zipWith setA pls xs
structure Tot where
  pls : List Pl
  labs : List Bytes
  dgs : List Dg
def stepC (t : Tot) (p : Nat) (c : Ch) : Tot :=
  ⟨t.pls ++ fixA (chapS p c.name t.labs t.dgs c.bl).pls (unlike (chapS p c.name t.labs t.dgs c.bl).anc), (chapS p c.name t.labs t.dgs c.bl).labs, (chapS p c.name t.labs t.dgs c.bl).dgs⟩
def totK (l : List Ch) : Nat → Tot
  | 0 => ⟨[], [], []⟩
  | k + 1 => match l[k]? with
    | some c => stepC (totK l k) (k + 1) c
    | none => totK l k
def totP (l : List Ch) : Tot := totK l l.length
theorem totK_succ {l : List Ch} {k : Nat} (h : k < l.length) : totK l (k + 1) = stepC (totK l k) (k + 1) l[k] := by
  rw [totK, List.getElem?_eq_getElem h]
theorem chapS_succ {p : Nat} {name : Bytes} {labs : List Bytes} {dgs : List Dg} {bs : List Bl} {k : Nat} (h : k < bs.length) :
    chapS p name labs dgs (bs.take (k + 1)) = stepB p (name ++ htmlB) (chapS p name labs dgs (bs.take k)) bs[k] := by
  unfold chapS; rw [List.take_succ_eq_append_getElem h, List.foldl_append]; rfl

/-! ### the counts' lengths and bounds -/
theorem padP_len (l : List Nat) (lv : Nat) : (padP l lv).length = lv := by unfold padP; simp
theorem nextP_len (l : List Nat) (lv : Nat) : (nextP l lv).length = lv := by unfold nextP; rw [List.length_set, padP_len]
theorem bumpK_len (ks : List Nat) (k : Nat) : (bumpK ks k).length = ks.length := by unfold bumpK; simp
theorem bumpK_get (ks : List Nat) (k j : Nat) (hk : k < ks.length) : (bumpK ks k).getD j 0 = if j = k then ks.getD k 0 + 1 else ks.getD j 0 := by
  unfold bumpK
  rw [List.getD_eq_getElem?_getD, List.getElem?_set]
  by_cases h : k = j
  · subst h; simp [hk]
  · rw [if_neg h, if_neg (fun e => h e.symm), ← List.getD_eq_getElem?_getD]
theorem padP_mem {l : List Nat} {lv x : Nat} (h : x ∈ padP l lv) : x = 0 ∨ x ∈ l := by
  unfold padP at h
  have := List.mem_of_mem_take h
  rcases List.mem_append.1 this with h | h
  · exact .inr h
  · exact .inl (List.eq_of_mem_replicate h)
theorem nextE_zero {l : List Nat} {lv : Int} (h : nextE l lv = 0) : 1 ≤ lv ∧ lv ≤ 3 ∧ l.length ≤ 3 ∧ (∀ x ∈ l, x ≤ 3999) ∧ (padP l lv.toNat).getD (lv.toNat - 1) 0 < 3999 := by
  unfold nextE at h
  split at h
  · cases h
  · rename_i h1
    split at h
    · cases h
    · rename_i h2
      split at h
      · cases h
      · rename_i h3
        refine ⟨by omega, by omega, by omega, fun x hx => ?_, by omega⟩
        simp only [List.any_eq_true, decide_eq_true_eq, not_exists, not_and] at h2
        have := h2 x hx; omega
/-- what counts are like: one to three numbers, none too great; eight kinds, none counted more often than there were blocks -/
structure CntOk (n : Nat) (c : Cnt) : Prop where
  len : c.ts.length ≤ 3
  le : ∀ x ∈ c.ts, x ≤ 30000
  ks : c.ks.length = 8
  kle : ∀ k, c.ks.getD k 0 ≤ n
theorem CntOk.start (p : Nat) (hp : p ≤ 30000) : CntOk 0 (cnt0 p) :=
  ⟨by simp [cnt0], by simpa [cnt0] using hp, rfl, fun k => by
    match k with
    | 0 | 1 | 2 | 3 | 4 | 5 | 6 | 7 => simp [cnt0]
    | k + 8 => simp [cnt0]⟩
theorem CntOk.mono {n m : Nat} {c : Cnt} (h : CntOk n c) (hm : n ≤ m) : CntOk m c := ⟨h.len, h.le, h.ks, fun k => Nat.le_trans (h.kle k) hm⟩
theorem tsP_ok {ts : List Nat} (lv : Int) (h1 : ts.length ≤ 3) (h2 : ∀ x ∈ ts, x ≤ 30000) : (tsP ts lv).length ≤ 3 ∧ ∀ x ∈ tsP ts lv, x ≤ 30000 := by
  unfold tsP
  by_cases he : nextE ts lv = 0
  · rw [if_pos he]
    obtain ⟨g1, g2, g3, g4, g5⟩ := nextE_zero he
    refine ⟨by rw [nextP_len]; omega, fun x hx => ?_⟩
    unfold nextP at hx
    rcases List.mem_or_eq_of_mem_set hx with hx | hx
    · rcases padP_mem hx with hx | hx
      · omega
      · exact h2 x hx
    · omega
  · rw [if_neg he]; exact ⟨h1, h2⟩
theorem CntOk.next {n : Nat} {c : Cnt} (h : CntOk n c) {k : Nat} (hk : k < 8) (lv : Int) : CntOk (n + 1) (cntP c k lv) := by
  have hks : (bumpK c.ks k).length = 8 := by rw [bumpK_len]; exact h.ks
  have hkle : ∀ j, (bumpK c.ks k).getD j 0 ≤ n + 1 := fun j => by
    rw [bumpK_get _ _ _ (by rw [h.ks]; exact hk)]
    have h1 := h.kle k
    have h2 := h.kle j
    split <;> omega
  have ht := tsP_ok lv h.len h.le
  unfold cntP
  split
  · exact ⟨ht.1, ht.2, hks, hkle⟩
  · exact ⟨h.len, h.le, hks, hkle⟩
theorem nextP_head {p : Nat} {r : List Nat} {lv : Nat} (h : 2 ≤ lv) : ∃ r', nextP (p :: r) lv = p :: r' := by
  obtain ⟨m, rfl⟩ : ∃ m, lv = m + 2 := ⟨lv - 2, by omega⟩
  refine ⟨((r ++ List.replicate (m + 2) 0).take (m + 1)).set m ((padP (p :: r) (m + 2)).getD (m + 1) 0 + 1), ?_⟩
  unfold nextP
  rw [show m + 2 - 1 = m + 1 from rfl]
  unfold padP
  rw [List.cons_append, List.take_succ_cons, List.set_cons_succ]
/-- the first number is the chapter's, where no further title has level 1 -/
def HdOk (p : Nat) (c : Cnt) : Prop := ∃ r, c.ts = p :: r
theorem HdOk.next {p : Nat} {c : Cnt} (h : HdOk p c) {k : Nat} {lv : Int} (hlv : k = 1 → lv = 1 → (bumpK c.ks k).getD k 0 ≤ 1) : HdOk p (cntP c k lv) := by
  unfold cntP
  by_cases hc : k = 1 ∧ (1 < (bumpK c.ks k).getD k 0 ∨ lv ≠ 1)
  · rw [if_pos hc]
    unfold tsP
    by_cases he : nextE c.ts lv = 0
    · rw [if_pos he]
      obtain ⟨h1, h2, h3, h4, h5⟩ := nextE_zero he
      have hlv2 : lv ≠ 1 := fun e => by
        have := hlv hc.1 e
        rcases hc.2 with h | h
        · omega
        · exact h e
      obtain ⟨r, hr⟩ := h
      show ∃ r', nextP _ _ = p :: r'
      rw [hr]
      exact nextP_head (by omega)
    · rw [if_neg he]; exact h
  · rw [if_neg hc]; exact h
end Go.Proofs.YtohinfefidahlaaDoor
