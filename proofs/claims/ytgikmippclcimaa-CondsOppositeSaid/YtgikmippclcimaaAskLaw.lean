/- Conditions: the reference answers as the program does. -/
import Derived.Test.YtgikmippclcimaaRAsk
import Derived.Lib.Index
namespace Go.Proofs.Ytgikmippclcimaa
open Go.RowKit

/-! ### plain: the first '=' -/
theorem index_none (k : UInt8) : ∀ c : Bytes, k ∉ c → Lib.index c [k] = -1
  | [], _ => rfl
  | b :: c, h => by
    have h1 : b ≠ k := fun e => h (by simp [e])
    have h2 : k ∉ c := fun e => h (by simp [e])
    unfold Lib.index
    rw [index_none k c h2]
    have : List.isPrefixOf [k] (b :: c) = false := by simp [List.isPrefixOf, h1.symm]
    rw [this]; rfl
theorem index_some (k : UInt8) : ∀ (p q : Bytes), k ∉ p → Lib.index (p ++ k :: q) [k] = (p.length : Int)
  | [], q, _ => by simp [Lib.index, List.isPrefixOf]
  | b :: p, q, h => by
    have h1 : b ≠ k := fun e => h (by simp [e])
    have h2 : k ∉ p := fun e => h (by simp [e])
    rw [List.cons_append]
    unfold Lib.index
    rw [index_some k p q h2]
    have : List.isPrefixOf [k] (b :: (p ++ k :: q)) = false := by simp [List.isPrefixOf, h1.symm]
    rw [this]
    have h3 : ((p.length : Int) == -1) = false := beq_eq_false_iff_ne.2 (by omega)
    rw [if_neg (by simp), h3]
    simp
theorem cut_none (k : UInt8) (c : Bytes) (h : k ∉ c) : Lib.cut c [k] = (c, [], false) := by
  unfold Lib.cut; rw [index_none k c h]; rfl
theorem cut_some (k : UInt8) (p q : Bytes) (h : k ∉ p) : Lib.cut (p ++ k :: q) [k] = (p, q, true) := by
  unfold Lib.cut
  rw [index_some k p q h, if_pos (by omega)]
  simp
theorem split_first (k : UInt8) : ∀ c : Bytes, k ∈ c → ∃ p q, c = p ++ k :: q ∧ k ∉ p
  | [], h => by cases h
  | b :: c, h => by
    by_cases hb : b = k
    · exact ⟨[], c, by simp [hb], by simp⟩
    · have : k ∈ c := by rcases List.mem_cons.1 h with e | e; exact absurd e.symm hb; exact e
      obtain ⟨p, q, rfl, hp⟩ := split_first k c this
      exact ⟨b :: p, q, rfl, by simp [hp]; exact fun e => hb e.symm⟩

theorem isSign_61 : isSign 61 = false := rfl
theorem isSign_33 : isSign 33 = false := rfl
theorem nameB_all {l : Bytes} (h : nameB l = true) : l.all isSign = true := by
  unfold nameB at h; simp only [Bool.and_eq_true] at h; exact h.2
theorem nameB_mem {l : Bytes} {z : UInt8} (hz : z ∈ l) (h : isSign z = false) : nameB l = false := by
  cases hn : nameB l
  · rfl
  · have := List.all_eq_true.1 (nameB_all hn) z hz
    rw [h] at this; cases this
theorem run_parts (d : Bytes) : (d.take (runN d)).all isSign = true ∧ (d.drop (runN d) = [] ∨ ∃ z r, d.drop (runN d) = z :: r ∧ isSign z = false) := by
  have h := List.takeWhile_append_dropWhile (p := isSign) (l := d)
  have h1 : d.drop (runN d) = d.dropWhile isSign := by
    unfold runN
    conv => lhs; arg 2; rw [← h]
    rw [List.drop_left]
  rw [take_runN, h1]
  refine ⟨List.all_takeWhile, ?_⟩
  cases hd : d.dropWhile isSign with
  | nil => exact .inl rfl
  | cons z r =>
    refine .inr ⟨z, r, rfl, ?_⟩
    have := List.head_dropWhile_not (p := isSign) (l := d) (by rw [hd]; simp)
    simp only [hd, List.head_cons] at this
    simpa using this
theorem hasSuffix_snoc (p : Bytes) (k : UInt8) : Lib.hasSuffix (p ++ [k]) [k] = true := by
  unfold Lib.hasSuffix
  rw [List.isSuffixOf_iff_suffix]; exact ⟨p, rfl⟩
theorem hasSuffix_mem {p : Bytes} {k : UInt8} (h : Lib.hasSuffix p [k] = true) : ∃ p', p = p' ++ [k] := by
  unfold Lib.hasSuffix at h
  rw [List.isSuffixOf_iff_suffix] at h
  obtain ⟨p', hp⟩ := h
  exact ⟨p', hp.symm⟩
theorem trimSuffix_snoc (p : Bytes) (k : UInt8) : Lib.trimSuffix (p ++ [k]) [k] = p := by
  unfold Lib.trimSuffix; rw [if_pos (hasSuffix_snoc p k)]; simp
theorem not_mem_sign {nm : Bytes} (h : nm.all isSign = true) {k : UInt8} (hk : isSign k = false) : k ∉ nm := by
  intro hm
  have := List.all_eq_true.1 h k hm
  rw [hk] at this; cases this

/-! ### plain: a condition in its parts -/
theorem splitP_not (d : Bytes) : splitP (33 :: d) = ([33], d, [], nameB d) := by
  have h1 : Lib.hasPrefix (33 :: d) [33] = true := by simp [Lib.hasPrefix, List.isPrefixOf]
  have h2 : Lib.trimPrefix (33 :: d) [33] = d := by unfold Lib.trimPrefix; rw [if_pos h1]; rfl
  unfold splitP; rw [if_pos h1, h2]
theorem splitP_nil : splitP [] = ([], [], [], false) := rfl
theorem noPrefix {y : UInt8} {t : Bytes} (hy : y ≠ 33) : Lib.hasPrefix (y :: t) [33] = false := by
  simp [Lib.hasPrefix, List.isPrefixOf, hy.symm]
theorem splitP_plain {c : Bytes} (h : Lib.hasPrefix c [33] = false) (h2 : (61 : UInt8) ∉ c) : splitP c = ([], c, [], nameB c) := by
  unfold splitP; rw [if_neg (by simp [h]), cut_none 61 c h2]; rfl
theorem splitP_eq {p q : Bytes} (h : Lib.hasPrefix (p ++ 61 :: q) [33] = false) (h2 : (61 : UInt8) ∉ p) (h3 : Lib.hasSuffix p [33] = false) : splitP (p ++ 61 :: q) = ([61], p, q, nameB p) := by
  unfold splitP; rw [if_neg (by simp [h]), cut_some 61 p q h2]; simp [h3]
theorem splitP_ne {p q : Bytes} (h : Lib.hasPrefix ((p ++ [33]) ++ 61 :: q) [33] = false) (h2 : (61 : UInt8) ∉ p) : splitP ((p ++ [33]) ++ 61 :: q) = ([33, 61], p, q, nameB p) := by
  have h3 : (61 : UInt8) ∉ p ++ [33] := by simp [h2]
  unfold splitP; rw [if_neg (by rw [h]; exact Bool.false_ne_true), cut_some 61 _ q h3]; simp [hasSuffix_snoc, trimSuffix_snoc]

theorem splitP_other {c nm r : Bytes} {z : UInt8} (h : Lib.hasPrefix c [33] = false) (hc : c = nm ++ z :: r) (hn : nm.all isSign = true) (hz : isSign z = false) (h61 : z ≠ 61) (h2 : z ≠ 33 ∨ ∀ r', r ≠ 61 :: r') :
    (splitP c).2.2.2 = false := by
  by_cases hm : (61 : UInt8) ∈ c
  · obtain ⟨p, q, hpq, hp⟩ := split_first 61 c hm
    have hnm := not_mem_sign hn isSign_61
    obtain ⟨p', hp'⟩ : ∃ p', p = nm ++ z :: p' := by
      have e : nm ++ z :: r = p ++ 61 :: q := hc.symm.trans hpq
      rcases List.append_eq_append_iff.1 e with ⟨x, hx1, hx2⟩ | ⟨x, hx1, hx2⟩
      · cases x with
        | nil => simp at hx2; exact absurd hx2.1 h61
        | cons a x =>
          simp at hx2
          exact ⟨x, by rw [hx1, hx2.1]⟩
      · cases x with
        | nil => simp at hx2; exact absurd hx2.1.symm h61
        | cons a x =>
          simp at hx2
          exact absurd (by rw [hx1]; simp [hx2.1]) hnm
    have hzp : z ∈ p := by rw [hp']; simp
    cases hsf : Lib.hasSuffix p [33]
    · rw [hpq] at h ⊢
      rw [splitP_eq h hp hsf]
      exact nameB_mem hzp hz
    · obtain ⟨s, hs⟩ := hasSuffix_mem hsf
      rw [hpq] at h ⊢
      rw [hs] at h hp ⊢
      have hp2 : (61 : UInt8) ∉ s := fun e => hp (by simp [e])
      rw [splitP_ne h hp2]
      refine nameB_mem (z := z) ?_ hz
      have e2 : nm ++ z :: p' = s ++ [33] := hp'.symm.trans hs
      rcases List.eq_nil_or_concat p' with rfl | ⟨p'', x, rfl⟩
      · exfalso
        have e3 : nm ++ [z] = s ++ [33] := e2
        have e4 := List.append_inj' e3 rfl
        have hz33 : z = 33 := by simpa using e4.2
        rcases h2 with h2 | h2
        · exact h2 hz33
        · have e5 : nm ++ z :: r = (nm ++ [z]) ++ 61 :: q := by rw [← hc, hpq, hp']
          rw [List.append_assoc] at e5
          have e6 := List.append_cancel_left e5
          simp at e6
          exact h2 q e6
      · have e3 : (nm ++ z :: p'') ++ [x] = s ++ [33] := by rw [← e2]; simp
        have e4 := (List.append_inj' e3 rfl).1
        rw [← e4]; simp
  · rw [splitP_plain h hm]
    exact nameB_mem (z := z) (by rw [hc]; simp) hz

theorem askP_bad {l : List Two} {c : Bytes} (h : (splitP c).2.2.2 = false) : askP l c = .tuple #[.string ⟨#[]⟩, .bool false, .int .i64 4] := by
  unfold askP; rw [if_neg (by simp [h])]
theorem askP_ok {l : List Two} {c sg nm tx : Bytes} (h : splitP c = (sg, nm, tx, true)) : askP l c = .tuple #[.string ⟨nm.toArray⟩, .bool (holdsP l sg nm tx), .int .i64 0] := by
  unfold askP; rw [h]; simp

theorem rask_any (a : Option Addr) (ca : Nat) (l : List Two) (c : Bytes) (w : World) (hn : l.length ≤ 1048576) (hc : c.length ≤ 1048575) (hA : At w 2 encT a l) :
    Calls Try.prog 19 #[.slice a l.length ca, .string ⟨c.toArray⟩] w fun e w' => e = .returned (askP l c) ∧ Below w.heap.size w w' := by
  match c, hc with
  | [], hc =>
    rw [askP_bad (by rw [splitP_nil])]
    exact rask_B0 a ca l w
  | y :: t, hc =>
    by_cases hy : y = 33
    · subst hy
      have hc2 : t.length ≤ 1048575 := by have h : t.length + 1 ≤ 1048575 := hc; omega
      obtain ⟨h1, h2⟩ := run_parts t
      have h3 := List.take_append_drop (runN t) t
      cases hnm : nameB (t.take (runN t))
      · have hbad : nameB t = false := by
          cases h : nameB t
          · rfl
          · rcases h2 with h2 | ⟨z, r, h2, hz⟩
            · rw [h2, List.append_nil] at h3
              rw [h3, h] at hnm; cases hnm
            · have := nameB_mem (l := t) (z := z) (by rw [← h3, h2]; simp) hz
              rw [this] at h; cases h
        rw [askP_bad (by rw [splitP_not]; exact hbad)]
        exact rask_A1 a ca l t _ _ w hn hc2 hA rfl rfl hnm
      · rcases h2 with h2 | ⟨z, r, h2, hz⟩
        · rw [h2, List.append_nil] at h3
          rw [h3] at hnm
          rw [askP_ok (by rw [splitP_not, hnm])]
          have hh : holdsP l [33] t [] = !(getL l t).isSome := by simp [holdsP]
          rw [hh]
          exact rask_A2 a ca l t t w hn hc2 hA h3 h2 hnm
        · have hbad : nameB t = false := nameB_mem (z := z) (by rw [← h3, h2]; simp) hz
          rw [askP_bad (by rw [splitP_not]; exact hbad)]
          exact rask_A3 a ca l t _ r z w hn hc2 hA rfl h2 hnm
    · have hyn : y.toNat ≠ 33 := fun e => hy (UInt8.toNat_inj.1 e)
      have hpre := noPrefix (t := t) hy
      generalize hcc : y :: t = c at *
      obtain ⟨h1, h2⟩ := run_parts c
      have h3 := List.take_append_drop (runN c) c
      generalize hnmm : c.take (runN c) = nm at *
      have h61 := not_mem_sign h1 isSign_61
      have h33 := not_mem_sign h1 isSign_33
      have hns : Lib.hasSuffix nm [33] = false := by
        cases h : Lib.hasSuffix nm [33]
        · rfl
        · obtain ⟨p, hp⟩ := hasSuffix_mem h
          exact absurd (by rw [hp]; simp) h33
      rcases h2 with h2 | ⟨z, r, h2, hz⟩
      · rw [h2, List.append_nil] at h3
        have hsp : splitP c = ([], c, [], nameB c) := splitP_plain hpre (by rw [← h3]; exact h61)
        cases hnm : nameB nm
        · rw [askP_bad (by rw [hsp, ← h3]; exact hnm)]
          subst hcc
          exact rask_B1 a ca l y t nm _ w hn hc hA hnmm h2 hyn hnm
        · rw [h3] at hnm hnmm
          rw [askP_ok (by rw [hsp, hnm])]
          have hh : holdsP l [] c [] = (getL l c).isSome := by simp [holdsP]
          rw [hh]
          subst hcc
          exact rask_B2 a ca l y t _ w hn hc hA hnmm h2 hyn hnm
      · rw [h2] at h3
        by_cases hz61 : z = 61
        · subst hz61
          have hsp : splitP c = ([61], nm, r, nameB nm) := by rw [← h3] at hpre ⊢; exact splitP_eq hpre h61 hns
          cases hnm : nameB nm
          · rw [askP_bad (by rw [hsp]; exact hnm)]
            subst hcc
            exact rask_B1 a ca l y t nm _ w hn hc hA hnmm h2 hyn hnm
          · rw [askP_ok (by rw [hsp, hnm])]
            have hh : holdsP l [61] nm r = ((getL l nm).isSome && ((getL l nm).getD [] == r)) := by simp [holdsP]
            rw [hh]
            have hrl : r.length ≤ 1048576 := by have := congrArg List.length h3; simp at this; omega
            subst hcc
            exact rask_B3 a ca l y t nm r w hn hc hA hnmm h2 hyn hnm hrl
        · by_cases h3361 : z = 33 ∧ ∃ r', r = 61 :: r'
          · obtain ⟨rfl, r', rfl⟩ := h3361
            have e3 : (nm ++ [33]) ++ 61 :: r' = c := by rw [← h3]; simp
            have hsp : splitP c = ([33, 61], nm, r', nameB nm) := by rw [← e3] at hpre ⊢; exact splitP_ne hpre h61
            cases hnm : nameB nm
            · rw [askP_bad (by rw [hsp]; exact hnm)]
              subst hcc
              exact rask_B1 a ca l y t nm _ w hn hc hA hnmm h2 hyn hnm
            · rw [askP_ok (by rw [hsp, hnm])]
              have hh : holdsP l [33, 61] nm r' = !((getL l nm).isSome && ((getL l nm).getD [] == r')) := by simp [holdsP]
              rw [hh]
              have hrl : r'.length ≤ 1048576 := by have := congrArg List.length h3; simp at this; omega
              subst hcc
              exact rask_B4 a ca l y t nm r' w hn hc hA hnmm h2 hyn hnm hrl
          · have hor : z ≠ 33 ∨ ∀ r', r ≠ 61 :: r' := by
              by_cases hz33 : z = 33
              · exact .inr fun r' e => h3361 ⟨hz33, r', e⟩
              · exact .inl hz33
            rw [askP_bad (splitP_other hpre h3.symm h1 hz hz61 hor)]
            cases hnm : nameB nm
            · subst hcc
              exact rask_B1 a ca l y t nm _ w hn hc hA hnmm h2 hyn hnm
            · have hzn : z.toNat ≠ 61 := fun e => hz61 (UInt8.toNat_inj.1 e)
              subst hcc
              cases r with
              | nil => exact rask_B5a a ca l y z t nm w hn hc hA hnmm h2 hyn hzn hnm
              | cons q r =>
                by_cases hz33 : z = 33
                · subst hz33
                  have hq : q ≠ 61 := by
                    rcases hor with h | h
                    · exact absurd rfl h
                    · exact fun e => h r (by rw [e])
                  exact rask_B5c a ca l y q t nm r w hn hc hA hnmm h2 hyn (fun e => hq (UInt8.toNat_inj.1 e)) hnm
                · exact rask_B5b a ca l y z q t nm r w hn hc hA hnmm h2 hyn hzn (fun e => hz33 (UInt8.toNat_inj.1 e)) hnm
end Go.Proofs.Ytgikmippclcimaa
