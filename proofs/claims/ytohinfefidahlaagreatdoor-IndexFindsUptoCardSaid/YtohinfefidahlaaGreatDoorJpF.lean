/- Entries whose lists are memory of the call's own, each in a block of its own. Copies of texts and of places with a mark behind them, and whether they are left as they were; are two rows of them the same? binderylaw01.Twin.., Left.., Same.. -/
import Derived.Test.YtohinfefidahlaaGreatDoorClone
import Derived.Test.YtohinfefidahlaaGreatDoorJoF
import Derived.Test.YtohinfefidahlaaGreatDoorJoG
import Derived.Laws.CopyOwn
namespace Go.Proofs.YtohinfefidahlaaGreatDoor
open Go.RowKit
set_option linter.unusedVariables false
set_option linter.unusedSimpArgs false

/-! ### places, their three texts alone -/
abbrev L3 := Bytes × Bytes × Bytes
def encL3 (x : L3) : List Value := [.string ⟨x.1.toArray⟩, .string ⟨x.2.1.toArray⟩, .string ⟨x.2.2.toArray⟩]
theorem encL3_ok : Enc 3 encL3 := ⟨fun _ => rfl, fun x u hu => by simp [encL3] at hu; rcases hu with rfl | rfl | rfl <;> rfl⟩
theorem flat_L3 (l : List LoK) : (l.map (·.1)).flatMap encL3 = l.flatMap encLo := by
  induction l with
  | nil => rfl
  | cons x l ih => rw [List.map_cons, List.flatMap_cons, List.flatMap_cons, ih]; rfl
theorem own_L3 {w : World} {B : Nat} {v : Value} {l : List LoK} (h : Own w B 79 3 encLo v l) : Own w B 79 3 encL3 v (l.map (·.1)) := by
  unfold Own at *
  rw [List.length_map, flat_L3]; exact h

def aggE (x : En) : Value := .agg #[.string ⟨x.term.toArray⟩, .slice x.aa x.al.length x.ac, .slice x.sa x.sl.length x.sc, .slice x.ua x.ul.length x.uc]

/-! ### the blocks of an entry's lists -/
def obk (a : Option Addr) : List Nat := (a.map (·.block)).toList
theorem mem_obk {a : Option Addr} {n c g : Nat} : (Value.slice a n c).ownBlock = some g ↔ g ∈ obk a := by
  cases a with
  | none => simp [Value.ownBlock, obk]
  | some a => simp [Value.ownBlock, obk, eq_comm]
theorem obk_some (g o : Nat) (s) : obk (some ⟨g, o, s⟩) = [g] := rfl
theorem obk_none : obk none = [] := rfl
mutual
def bkE : En → List Nat
  | .mk _ aa _ _ sa _ _ ua _ ul => obk aa ++ (obk sa ++ (obk ua ++ bkL ul))
def bkL : List En → List Nat
  | [] => []
  | x :: l => bkE x ++ bkL l
end
theorem mem_bkL {g : Nat} : ∀ {l : List En}, g ∈ bkL l ↔ ∃ x ∈ l, g ∈ bkE x
  | [] => by simp [bkL]
  | x :: l => by rw [bkL, List.mem_append, mem_bkL]; simp
theorem bkL_snoc (y : En) : ∀ l : List En, bkL (l ++ [y]) = bkL l ++ bkE y
  | [] => by simp [bkL]
  | x :: l => by rw [List.cons_append, bkL, bkL_snoc y l, bkL, List.append_assoc]
theorem bkL_mem : ∀ {l : List En}, (bkL l).Nodup → ∀ {x : En}, x ∈ l → (bkE x).Nodup
  | y :: l, h, x, hx => by
    rw [bkL, List.nodup_append] at h
    rcases List.mem_cons.1 hx with rfl | hx
    · exact h.1
    · exact bkL_mem h.2.1 hx
theorem bkL_split {l : List En} (h : (bkL l).Nodup) {k : Nat} (hk : k < l.length) (g : Nat) (h1 : g ∈ bkL (l.take k)) (h2 : g ∈ bkE l[k]) : False := by
  have e : l = l.take k ++ (l[k] :: l.drop (k + 1)) := by rw [List.getElem_cons_drop, List.take_append_drop]
  have happ : ∀ a b : List En, bkL (a ++ b) = bkL a ++ bkL b := by
    intro a b
    induction a with
    | nil => simp [bkL]
    | cons x a ih => rw [List.cons_append, bkL, ih, bkL, List.append_assoc]
  rw [e, happ, List.nodup_append] at h
  exact h.2.2 g h1 g (by rw [bkL]; exact List.mem_append.2 (.inl h2)) rfl
theorem bkE_eq (x : En) : bkE x = obk x.aa ++ (obk x.sa ++ (obk x.ua ++ bkL x.ul)) := by cases x; rw [bkE]; rfl
theorem nodup_snoc {l : List En} {y : En} {n : Nat} (h : (bkL l).Nodup) (hy : (bkE y).Nodup) (h1 : ∀ g ∈ bkL l, g < n) (h2 : ∀ g ∈ bkE y, n ≤ g) : (bkL (l ++ [y])).Nodup := by
  rw [bkL_snoc, List.nodup_append]
  refine ⟨h, hy, fun a ha b hb e => ?_⟩
  have := h1 a ha
  have := h2 b hb
  omega

/-! ### how many lists -/
mutual
def cnE : En → Nat
  | .mk _ _ _ _ _ _ _ _ _ ul => 3 + cnL ul
def cnL : List En → Nat
  | [] => 0
  | x :: l => cnE x + cnL l
end
theorem cnL_snoc (y : En) : ∀ l : List En, cnL (l ++ [y]) = cnL l + cnE y
  | [] => by simp [cnL]
  | x :: l => by rw [List.cons_append, cnL, cnL_snoc y l, cnL]; omega
theorem cnE_eq (x : En) : cnE x = 3 + cnL x.ul := by cases x; rw [cnE]; rfl
theorem cnL_take_le : ∀ (l : List En) (k : Nat), cnL (l.take k) ≤ cnL l
  | [], k => by simp [cnL]
  | x :: l, 0 => by simp [cnL]
  | x :: l, k + 1 => by rw [List.take_succ_cons, cnL, cnL]; have := cnL_take_le l k; omega
theorem cnL_take_succ {l : List En} {k : Nat} (h : k < l.length) : cnL (l.take (k + 1)) = cnL (l.take k) + cnE l[k] := by
  rw [List.take_succ_eq_append_getElem h, cnL_snoc]

/-! ### entries of the call's own -/
inductive EnO (B : Nat) (w : World) : En → Prop
  | mk {t aa ac al sa sc sl ua uc ul} : Own w B 79 3 encLo (.slice aa (List.length al) ac) al → Own w B 9 1 encS (.slice sa (List.length sl) sc) sl → Own w B 29 4 encEn (.slice ua (List.length ul) uc) ul → (∀ x ∈ ul, EnO B w x) → EnO B w (.mk t aa ac al sa sc sl ua uc ul)
section
variable {B B' : Nat} {w w' : World} {S : Nat → Prop} {x : En}
theorem EnO.als (h : EnO B w x) : Own w B 79 3 encLo (.slice x.aa x.al.length x.ac) x.al := by cases h; assumption
theorem EnO.sls (h : EnO B w x) : Own w B 9 1 encS (.slice x.sa x.sl.length x.sc) x.sl := by cases h; assumption
theorem EnO.uls (h : EnO B w x) : Own w B 29 4 encEn (.slice x.ua x.ul.length x.uc) x.ul := by cases h; assumption
theorem EnO.kids (h : EnO B w x) : ∀ y ∈ x.ul, EnO B w y := by cases h; assumption
theorem EnO.kept (h : EnO B w x) (hk : Kept S w w') (hS : ∀ g ∈ bkE x, ¬ S g) : EnO B w' x := by
  induction h with
  | @mk t aa ac al sa sc sl ua uc ul h1 h2 h3 _ ih =>
    refine .mk (hk.own h1 fun g hg => hS g ?_) (hk.own h2 fun g hg => hS g ?_) (hk.own h3 fun g hg => hS g ?_) fun y hy => ih y hy fun g hg => hS g ?_ <;> rw [bkE]
    · exact List.mem_append.2 (.inl (mem_obk.1 hg))
    · exact List.mem_append.2 (.inr (List.mem_append.2 (.inl (mem_obk.1 hg))))
    · exact List.mem_append.2 (.inr (List.mem_append.2 (.inr (List.mem_append.2 (.inl (mem_obk.1 hg))))))
    · exact List.mem_append.2 (.inr (List.mem_append.2 (.inr (List.mem_append.2 (.inr (mem_bkL.2 ⟨y, hy, hg⟩))))))
theorem EnO.next (h : EnO B w x) (hb : Below w.heap.size w w') : EnO B w' x := h.kept (Kept.of_below (S := fun _ => False) hb) fun _ _ h => h
theorem EnO.mono (h : EnO B w x) (hB : B' ≤ B) : EnO B' w x := by
  induction h with
  | mk h1 h2 h3 _ ih => exact .mk (h1.mono hB) (h2.mono hB) (h3.mono hB) ih
theorem EnO.block (h : EnO B w x) : ∀ g ∈ bkE x, B ≤ g ∧ g < w.heap.size := by
  induction h with
  | @mk t aa ac al sa sc sl ua uc ul h1 h2 h3 _ ih =>
    intro g hg
    rw [bkE] at hg
    rcases List.mem_append.1 hg with hg | hg
    · exact h1.block g (mem_obk.2 hg)
    · rcases List.mem_append.1 hg with hg | hg
      · exact h2.block g (mem_obk.2 hg)
      · rcases List.mem_append.1 hg with hg | hg
        · exact h3.block g (mem_obk.2 hg)
        · obtain ⟨y, hy, hg⟩ := mem_bkL.1 hg
          exact ih y hy g hg
theorem EnO.in_ (h : EnO B w x) : EnIn (fun g => B ≤ g) w x := by
  induction h with
  | mk h1 h2 h3 _ ih => exact .mk (h1.addrN encLo_ok fun g hg => (h1.block g hg).1) (h2.addrN encS_ok fun g hg => (h2.block g hg).1) (h3.addrN encEn_ok fun g hg => (h3.block g hg).1) ih
end

/-! ### those that have a mark behind each list -/
def spareB : Bytes := [115, 112, 97, 114, 101]
def spLo : LoK := ⟨(spareB, [], []), by decide⟩
def spEn : En := .mk spareB none 0 [] none 0 [] none 0 []
inductive EnT (B : Nat) (w : World) : En → Prop
  | mk {t aa al sa sl ua ul} : Own w B 79 3 encLo (.slice aa (List.length al + 1) (List.length al + 1)) (al ++ [spLo]) → Own w B 9 1 encS (.slice sa (List.length sl + 1) (List.length sl + 1)) (sl ++ [spareB]) → Own w B 29 4 encEn (.slice ua (List.length ul + 1) (List.length ul + 1)) (ul ++ [spEn]) → (∀ x ∈ ul, EnT B w x) → EnT B w (.mk t aa (List.length al + 1) al sa (List.length sl + 1) sl ua (List.length ul + 1) ul)
section
variable {B B' : Nat} {w w' : World} {S : Nat → Prop} {x : En}
theorem EnT.als (h : EnT B w x) : Own w B 79 3 encLo (.slice x.aa (x.al.length + 1) x.ac) (x.al ++ [spLo]) := by cases h; assumption
theorem EnT.sls (h : EnT B w x) : Own w B 9 1 encS (.slice x.sa (x.sl.length + 1) x.sc) (x.sl ++ [spareB]) := by cases h; assumption
theorem EnT.uls (h : EnT B w x) : Own w B 29 4 encEn (.slice x.ua (x.ul.length + 1) x.uc) (x.ul ++ [spEn]) := by cases h; assumption
theorem EnT.ac (h : EnT B w x) : x.ac = x.al.length + 1 := by cases h; rfl
theorem EnT.sc (h : EnT B w x) : x.sc = x.sl.length + 1 := by cases h; rfl
theorem EnT.uc (h : EnT B w x) : x.uc = x.ul.length + 1 := by cases h; rfl
theorem EnT.kids (h : EnT B w x) : ∀ y ∈ x.ul, EnT B w y := by cases h; assumption
theorem EnT.own (h : EnT B w x) : EnO B w x := by
  induction h with
  | mk h1 h2 h3 _ ih => exact .mk (h1.cut encLo_ok rfl rfl) (h2.cut encS_ok rfl rfl) (h3.cut encEn_ok rfl rfl) ih
theorem EnT.kept (h : EnT B w x) (hk : Kept S w w') (hS : ∀ g ∈ bkE x, ¬ S g) : EnT B w' x := by
  induction h with
  | @mk t aa al sa sl ua ul h1 h2 h3 _ ih =>
    refine .mk (hk.own h1 fun g hg => hS g ?_) (hk.own h2 fun g hg => hS g ?_) (hk.own h3 fun g hg => hS g ?_) fun y hy => ih y hy fun g hg => hS g ?_ <;> rw [bkE]
    · exact List.mem_append.2 (.inl (mem_obk.1 hg))
    · exact List.mem_append.2 (.inr (List.mem_append.2 (.inl (mem_obk.1 hg))))
    · exact List.mem_append.2 (.inr (List.mem_append.2 (.inr (List.mem_append.2 (.inl (mem_obk.1 hg))))))
    · exact List.mem_append.2 (.inr (List.mem_append.2 (.inr (List.mem_append.2 (.inr (mem_bkL.2 ⟨y, hy, hg⟩))))))
theorem EnT.next (h : EnT B w x) (hb : Below w.heap.size w w') : EnT B w' x := h.kept (Kept.of_below (S := fun _ => False) hb) fun _ _ h => h
theorem EnT.mono (h : EnT B w x) (hB : B' ≤ B) : EnT B' w x := by
  induction h with
  | mk h1 h2 h3 _ ih => exact .mk (h1.mono hB) (h2.mono hB) (h3.mono hB) ih
end

/-! ### two that say the same -/
def SameL (l m : List En) : Prop := l.length = m.length ∧ ∀ (i : Nat) a b, l[i]? = some a → m[i]? = some b → SameE a b
section
variable {x y z : En} {l m k : List En}
theorem SameE.term (h : SameE x y) : x.term = y.term := by cases h; rfl
theorem SameE.al (h : SameE x y) : x.al = y.al := by cases h; rfl
theorem SameE.sl (h : SameE x y) : x.sl = y.sl := by cases h; rfl
theorem SameE.ul (h : SameE x y) : SameL x.ul y.ul := by
  cases h with
  | mk h1 h2 => exact ⟨h1, h2⟩
theorem SameE.symm (h : SameE x y) : SameE y x := by
  induction h with
  | mk h1 h2 ih => exact .mk h1.symm fun i a b ha hb => ih i b a hb ha
theorem SameE.refl_n (n : Nat) : ∀ x : En, nE x ≤ n → SameE x x := by
  induction n using Nat.strongRecOn with
  | _ n ih =>
    intro x hx
    obtain ⟨t, aa, ac, al, sa, sc, sl, ua, uc, ul⟩ := x
    rw [nE] at hx
    refine .mk rfl fun i a b ha hb => ?_
    rw [ha] at hb
    cases hb
    exact ih (nE a) (by have := nEs_mem (List.mem_of_getElem? ha); omega) a (Nat.le_refl _)
theorem SameE.refl (x : En) : SameE x x := SameE.refl_n _ x (Nat.le_refl _)
theorem SameE.trans (h : SameE x y) : ∀ {z}, SameE y z → SameE x z := by
  induction h with
  | @mk t aa ac al sa sc sl ua uc ul aa' ac' sa' sc' ua' uc' ul' h1 h2 ih =>
    intro z hz
    cases hz with
    | mk g1 g2 =>
      refine .mk (h1.trans g1) fun i a b ha hb => ?_
      have hi : i < ul'.length := by rw [← h1]; exact (List.getElem?_eq_some_iff.1 ha).1
      exact ih i a _ ha (List.getElem?_eq_getElem hi) (g2 i _ b (List.getElem?_eq_getElem hi) hb)
theorem SameL.symm (h : SameL l m) : SameL m l := ⟨h.1.symm, fun i a b ha hb => (h.2 i b a hb ha).symm⟩
end
end Go.Proofs.YtohinfefidahlaaGreatDoor

namespace Go.Proofs.YtohinfefidahlaaGreatDoor
open Go.RowKit
set_option linter.unusedVariables false
set_option linter.unusedSimpArgs false

theorem At.left {α : Type} {w : World} {sz : Nat} {enc : α → List Value} {a : Option Addr} {l m : List α} (h : At w sz enc a (l ++ m)) : At w sz enc a l := by
  rcases h with h | ⟨b, off, ha, hlt, hr⟩
  · exact .inl (List.append_eq_nil_iff.1 h).1
  · refine .inr ⟨b, off, ha, hlt, fun i x hi j v hj => hr i x ?_ j v hj⟩
    rw [List.getElem?_append_left (List.getElem?_eq_some_iff.1 hi).1]; exact hi

set_option maxHeartbeats 2000000 in
theorem twinTexts_any (a : Option Addr) (c : Nat) (l : List Bytes) (w : World) (hn : l.length ≤ 1048576) (hA : At w 1 encS a l) :
    Calls Tryz.prog 99 #[.slice a l.length c] w fun e w' => (∃ g, e = .returned (.slice (some ⟨g, 0, none⟩) l.length (l.length + 1)) ∧ w.heap.size ≤ g ∧ Own w' w.heap.size 9 1 encS (.slice (some ⟨g, 0, none⟩) (l.length + 1) (l.length + 1)) (l ++ [spareB])) ∧ Below w.heap.size w w' := by
  have HA := Lib.hid hA
  clear hA
  go_enter Tryz.func99, Tryz.ntmps99
  go_wp2_with (at_make; refine wpList_mk rfl _ _ 27 rfl w.heap.size 9 1 16 slstrs encS (l.length + 1) _ rfl rfl (by simp) (by omega) (by unfold maxLen; omega) w (Below.refl _ _) (Nat.le_refl _) ?_; intro w1 hown hb1 hz1)
  generalize hg : w.heap.size = g at *
  have HG : Hid (w.heap.size = g) := hg
  clear hg
  go_loopw [3, 4] (fun v3 v4 wr => ∃ k : Nat, k ≤ l.length ∧ v4 = .int .i64 k ∧ v3 = .slice (some ⟨g, 0, none⟩) k (l.length + 1) ∧ Hid (Own wr g 9 1 encS (.slice (some ⟨g, 0, none⟩) k (l.length + 1)) (l.take k)) ∧ Below g w wr ∧ g ≤ wr.heap.size) (fun _ v4 _ => l.length - (intOf v4).toNat)
  case atStart => exact ⟨0, by omega, rfl, rfl, hown, hb1, by omega⟩
  case round =>
    obtain ⟨k, hk, rfl, rfl, HO, hb, hz⟩ := hrel
    by_cases hlt : k < l.length
    · have hbw : Below w.heap.size w wr := by rw [HG.out]; exact hb
      obtain ⟨b, off, ha, hbl, hc0⟩ := (HA.out.below hbw).str hlt
      subst ha
      clear hbw
      have HT : Hid (l.take (k + 1) = l.take k ++ [l[k]]) := List.take_succ_eq_append_getElem hlt
      have HL : Hid ((l.take k).length = k) := List.length_take_of_le hk
      go_wp2_with (at_builtin; refine wpList_push_fits rfl _ _ 27 rfl g 9 1 16 slstrs encS encS_ok g k (l.length + 1) (l.take k) HL.out.symm rfl (HO.out.alloc _) l[k] wr.heap.size rfl (by intro j u hj; match j, hj with | 0, hj => (simp [encS] at hj; subst hj; simp) | j + 1, hj => simp [encS] at hj) (by omega) w (hb.alloc hz _) (by simp; omega) ?_; intro w2 hown2 hb2)
      go_roundw
      case rel => exact ⟨k + 1, by omega, by go_num, rfl, by show Own _ _ _ _ _ _ _; rw [HT.out]; exact hown2, hb2, by have := hb2.size; have := HG.out; omega⟩
      case measure => simp [intOf]; omega
    · obtain rfl : k = l.length := by omega
      have HO2 : Hid (Own wr g 9 1 encS (.slice (some ⟨g, 0, none⟩) l.length (l.length + 1)) l) := by have h := HO.out; rw [List.take_length] at h; exact h
      go_wp2_with (at_builtin; refine wpList_push_fits rfl _ _ 27 rfl g 9 1 16 slstrs encS encS_ok g l.length (l.length + 1) l rfl rfl (HO2.out.alloc _) spareB wr.heap.size rfl (by unfold spareB; intro j u hj; match j, hj with | 0, hj => (simp [encS] at hj; subst hj; simp) | j + 1, hj => simp [encS] at hj) (by omega) w (hb.alloc hz _) (by simp; omega) ?_; intro w2 hown2 hb2)
      go_ret
      exact ⟨⟨g, rfl, Nat.le_of_eq HG.out, by rw [HG.out]; exact hown2⟩, by rw [HG.out]; exact hb2⟩

set_option maxHeartbeats 2000000 in
theorem leftTexts_any (g : Nat) (a : Option Addr) (c : Nat) (l : List Bytes) (w : World) (hn : l.length ≤ 1048576) (hT : At w 1 encS (some ⟨g, 0, none⟩) (l ++ [spareB])) (hA : At w 1 encS a l) :
    Calls Tryz.prog 101 #[.slice (some ⟨g, 0, none⟩) l.length (l.length + 1), .slice a l.length c] w fun e w' => e = .returned (.bool true) ∧ Below w.heap.size w w' := by
  have HA := Lib.hid hA
  have HT := Lib.hid hT
  clear hA hT
  go_enter Tryz.func101, Tryz.ntmps101
  go_wp2_with fail
  go_loopw [5] (fun v5 wr => ∃ k : Nat, k ≤ l.length ∧ v5 = .int .i64 k ∧ Below w.heap.size w wr) (fun v5 _ => l.length - (intOf v5).toNat)
  case atStart => exact ⟨0, by omega, rfl, Below.refl _ _⟩
  case round =>
    obtain ⟨k, hk, rfl, hb⟩ := hrel
    by_cases hlt : k < l.length
    · obtain ⟨b, off, ha, hbl, hc0⟩ := (HA.out.below hb).str hlt
      obtain ⟨b', off', ha', hbl', hd0⟩ := ((HT.out.below hb).left).str hlt
      cases ha'
      rw [Nat.zero_add] at hd0
      subst ha
      go_wp2_with fail
      go_quiet (fail)
      go_wp2
      go_roundw
      case rel => exact ⟨k + 1, by omega, by go_num, below_drewN hb _⟩
      case measure => simp [intOf]; omega
    · obtain rfl : k = l.length := by omega
      obtain ⟨b', off', ha', hbl', hd0⟩ := (HT.out.below hb).str (i := l.length) (by simp)
      cases ha'
      rw [Nat.zero_add] at hd0
      simp at hd0
      go_wp2_with fail
      go_ret
      first | exact ⟨rfl, hb⟩ | exact ⟨rfl, hb.alloc hb.size _⟩

set_option maxHeartbeats 2000000 in
theorem twinLocators_any (a : Option Addr) (c : Nat) (l : List LoK) (w : World) (hn : l.length ≤ 1048576) (hA : At w 3 encLo a l) :
    Calls Tryz.prog 98 #[.slice a l.length c] w fun e w' => (∃ g, e = .returned (.slice (some ⟨g, 0, none⟩) l.length (l.length + 1)) ∧ w.heap.size ≤ g ∧ Own w' w.heap.size 79 3 encLo (.slice (some ⟨g, 0, none⟩) (l.length + 1) (l.length + 1)) (l ++ [spLo])) ∧ Below w.heap.size w w' := by
  have HA := Lib.hid hA
  clear hA
  go_enter Tryz.func98, Tryz.ntmps98
  go_wp2_with (at_make; refine wpList_mk rfl _ _ 26 rfl w.heap.size 79 3 48 slloc encLo (l.length + 1) _ rfl rfl (by simp) (by omega) (by unfold maxLen; omega) w (Below.refl _ _) (Nat.le_refl _) ?_; intro w1 hown hb1 hz1)
  generalize hg : w.heap.size = g at *
  have HG : Hid (w.heap.size = g) := hg
  clear hg
  go_loopw [3, 4] (fun v3 v4 wr => ∃ k : Nat, k ≤ l.length ∧ v4 = .int .i64 k ∧ v3 = .slice (some ⟨g, 0, none⟩) k (l.length + 1) ∧ Hid (Own wr g 79 3 encLo (.slice (some ⟨g, 0, none⟩) k (l.length + 1)) (l.take k)) ∧ Below g w wr ∧ g ≤ wr.heap.size) (fun _ v4 _ => l.length - (intOf v4).toNat)
  case atStart => exact ⟨0, by omega, rfl, rfl, hown, hb1, by omega⟩
  case round =>
    obtain ⟨k, hk, rfl, rfl, HO, hb, hz⟩ := hrel
    by_cases hlt : k < l.length
    · have hbw : Below w.heap.size w wr := by rw [HG.out]; exact hb
      obtain ⟨b, off, ha, hbl, hc⟩ := (HA.out.below hbw).elem hlt
      have hc0 := hc 0 _ rfl
      have hc1 := hc 1 _ rfl
      have hc2 := hc 2 _ rfl
      rw [Nat.add_zero] at hc0
      clear hc
      subst ha
      clear hbw
      have HT : Hid (l.take (k + 1) = l.take k ++ [l[k]]) := List.take_succ_eq_append_getElem hlt
      have HL : Hid ((l.take k).length = k) := List.length_take_of_le hk
      go_wp2_with (at_builtin; refine wpList_push_fits rfl _ _ 26 rfl g 79 3 48 slloc encLo encLo_ok g k (l.length + 1) (l.take k) HL.out.symm rfl (HO.out.alloc _) l[k] wr.heap.size rfl (by intro j u hj; match j, hj with | 0, hj => (simp [encLo] at hj; subst hj; simp) | 1, hj => (simp [encLo] at hj; subst hj; simp) | 2, hj => (simp [encLo] at hj; subst hj; simp) | j + 3, hj => simp [encLo] at hj) (by omega) w (hb.alloc hz _) (by simp; omega) ?_; intro w2 hown2 hb2)
      go_roundw
      case rel => exact ⟨k + 1, by omega, by go_num, rfl, by show Own _ _ _ _ _ _ _; rw [HT.out]; exact hown2, hb2, by have := hb2.size; have := HG.out; omega⟩
      case measure => simp [intOf]; omega
    · obtain rfl : k = l.length := by omega
      have HO2 : Hid (Own wr g 79 3 encLo (.slice (some ⟨g, 0, none⟩) l.length (l.length + 1)) l) := by have h := HO.out; rw [List.take_length] at h; exact h
      go_wp2_with (at_builtin; refine wpList_push_fits rfl _ _ 26 rfl g 79 3 48 slloc encLo encLo_ok g l.length (l.length + 1) l rfl rfl (HO2.out.alloc _) spLo wr.heap.size rfl (by intro j u hj; match j, hj with | 0, hj => (simp [encLo, spLo, spareB] at hj; subst hj; simp) | 1, hj => (simp [encLo, spLo] at hj; subst hj; simp) | 2, hj => (simp [encLo, spLo] at hj; subst hj; simp) | j + 3, hj => simp [encLo] at hj) (by omega) w (hb.alloc hz _) (by simp; omega) ?_; intro w2 hown2 hb2)
      go_ret
      exact ⟨⟨g, rfl, Nat.le_of_eq HG.out, by rw [HG.out]; exact hown2⟩, by rw [HG.out]; exact hb2⟩

set_option maxHeartbeats 2000000 in
theorem leftLocators_any (g : Nat) (a : Option Addr) (c : Nat) (l : List LoK) (w : World) (hn : l.length ≤ 1048576) (hT : At w 3 encLo (some ⟨g, 0, none⟩) (l ++ [spLo])) (hA : At w 3 encLo a l) :
    Calls Tryz.prog 100 #[.slice (some ⟨g, 0, none⟩) l.length (l.length + 1), .slice a l.length c] w fun e w' => e = .returned (.bool true) ∧ Below w.heap.size w w' := by
  have HA := Lib.hid hA
  have HT := Lib.hid hT
  clear hA hT
  go_enter Tryz.func100, Tryz.ntmps100
  go_wp2_with fail
  go_loopw [5] (fun v5 wr => ∃ k : Nat, k ≤ l.length ∧ v5 = .int .i64 k ∧ Below w.heap.size w wr) (fun v5 _ => l.length - (intOf v5).toNat)
  case atStart => exact ⟨0, by omega, rfl, Below.refl _ _⟩
  case round =>
    obtain ⟨k, hk, rfl, hb⟩ := hrel
    by_cases hlt : k < l.length
    · obtain ⟨b, off, ha, hbl, hc⟩ := (HA.out.below hb).elem hlt
      have hc0 := hc 0 _ rfl
      have hc1 := hc 1 _ rfl
      have hc2 := hc 2 _ rfl
      rw [Nat.add_zero] at hc0
      clear hc
      obtain ⟨b', off', ha', hbl', hd⟩ := ((HT.out.below hb).left).elem hlt
      cases ha'
      have hd0 := hd 0 _ rfl
      have hd1 := hd 1 _ rfl
      have hd2 := hd 2 _ rfl
      rw [Nat.zero_add] at hd0 hd1 hd2
      rw [Nat.add_zero] at hd0
      clear hd
      subst ha
      go_wp2_with fail
      go_quiet (fail)
      go_wp2
      go_roundw
      case rel => exact ⟨k + 1, by omega, by go_num, below_drewN hb _⟩
      case measure => simp [intOf]; omega
    · obtain rfl : k = l.length := by omega
      obtain ⟨b', off', ha', hbl', hd⟩ := (HT.out.below hb).elem (i := l.length) (by simp)
      cases ha'
      have hd0 := hd 0 (.string ⟨spareB.toArray⟩) (by simp [spLo, encLo])
      have hd1 := hd 1 (.string ⟨#[]⟩) (by simp [spLo, encLo])
      have hd2 := hd 2 (.string ⟨#[]⟩) (by simp [spLo, encLo])
      rw [Nat.zero_add] at hd0 hd1 hd2
      rw [Nat.add_zero] at hd0
      unfold spareB at hd0
      clear hd
      go_wp2_with fail
      go_ret
      exact ⟨rfl, hb.alloc hb.size _⟩

set_option maxHeartbeats 2000000 in
theorem sameLocators_any (a1 : Option Addr) (c1 : Nat) (a2 : Option Addr) (c2 : Nat) (l : List LoK) (w : World) (hn : l.length ≤ 1048576) (hT : At w 3 encLo a1 l) (hA : At w 3 encLo a2 l) :
    Calls Tryz.prog 23 #[.slice a1 l.length c1, .slice a2 l.length c2] w fun e w' => e = .returned (.bool true) ∧ Below w.heap.size w w' := by
  have HA := Lib.hid hA
  have HT := Lib.hid hT
  clear hA hT
  go_enter Tryz.func23, Tryz.ntmps23
  go_wp2_with fail
  go_loopw [5] (fun v5 wr => ∃ k : Nat, k ≤ l.length ∧ v5 = .int .i64 k ∧ Below w.heap.size w wr) (fun v5 _ => l.length - (intOf v5).toNat)
  case atStart => exact ⟨0, by omega, rfl, Below.refl _ _⟩
  case round =>
    obtain ⟨k, hk, rfl, hb⟩ := hrel
    by_cases hlt : k < l.length
    · obtain ⟨b, off, ha, hbl, hc⟩ := (HA.out.below hb).elem hlt
      have hc0 := hc 0 _ rfl
      have hc1 := hc 1 _ rfl
      have hc2 := hc 2 _ rfl
      rw [Nat.add_zero] at hc0
      clear hc
      obtain ⟨b', off', ha', hbl', hd⟩ := (HT.out.below hb).elem hlt
      have hd0 := hd 0 _ rfl
      have hd1 := hd 1 _ rfl
      have hd2 := hd 2 _ rfl
      rw [Nat.add_zero] at hd0
      clear hd
      subst ha'
      subst ha
      go_wp2_with fail
      go_quiet (fail)
      go_wp2
      go_roundw
      case rel => exact ⟨k + 1, by omega, by go_num, below_drewN hb _⟩
      case measure => simp [intOf]; omega
    · go_wp2_with fail
      go_ret
      exact ⟨rfl, hb⟩
end Go.Proofs.YtohinfefidahlaaGreatDoor
