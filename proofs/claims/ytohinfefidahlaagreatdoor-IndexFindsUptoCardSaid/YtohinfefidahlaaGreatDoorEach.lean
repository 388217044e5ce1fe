/- spans.Each: all spans of a kind, whatever they stand in. -/
import Derived.Test.YtohinfefidahlaaGreatDoorJoF
import Derived.Test.YtohinfefidahlaaGreatDoorJoC
import Derived.Test.YtohinfefidahlaaGreatDoorJoE
import Derived.Deep.RegionHeld3
import Derived.Deep.CutRange
import Derived.Laws.EntriesVeiled
namespace Go.Proofs.YtohinfefidahlaaGreatDoor
open Go.RowKit
set_option linter.unusedVariables false
set_option linter.unusedSimpArgs false

/-! ### how many spans -/
mutual
def nS : Sp → Nat
  | .mk _ _ _ _ _ _ kids => 1 + nL kids
def nL : List Sp → Nat
  | [] => 0
  | x :: l => 1 + nS x + nL l
end
theorem nL_eq : ∀ l : List Sp, nL l = szM nS l
  | [] => by rw [nL]; rfl
  | x :: l => by rw [nL, nL_eq l]; unfold szM; rw [sumM_cons, List.length_cons]; omega
theorem nS_eq (x : Sp) : nS x = 1 + szM nS x.kids := by cases x; rw [nS, nL_eq]; rfl
theorem nM_kids {x : Sp} {l : List Sp} (h : x ∈ l) : szM nS x.kids + 1 + l.length ≤ szM nS l := by
  have h1 := szM_mem nS h
  rw [nS_eq] at h1; omega
mutual
theorem nS_le : ∀ x : Sp, nS x ≤ szS x
  | .mk k t sb se _ _ kids => by rw [nS, szS]; have := nL_le kids; omega
theorem nL_le : ∀ l : List Sp, nL l ≤ szL l
  | [] => by rw [nL]; omega
  | x :: l => by rw [nL, szL]; have := nS_le x; have := nL_le l; omega
end
theorem nM_le (l : List Sp) : szM nS l ≤ szM szS l := by rw [← nL_eq, ← szL_eq]; exact nL_le l

/-! ### spans in memory of their own: that they are made, and that nothing else is written to -/
def FreshGives (n : Nat) (w : World) (e : Ending) (w' : World) : Prop := (∃ a c, e = .returned (.slice a n c)) ∧ Below w.heap.size w w'
theorem slspan : SlTy Tryz.prog 68 70 5 80 := ⟨Tryz.underlying68, .agg #[.int .u8 0, .string ⟨#[]⟩, .string ⟨#[]⟩, .string ⟨#[]⟩, .slice none 0 0], by kernel_rfl, rfl, by decide⟩
set_option maxHeartbeats 8000000 in
set_option maxRecDepth 100000 in
theorem fresh_any (n : Nat) : ∀ (l : List Sp), deepL l ≤ n → ∀ (a : Option Addr) (c : Nat) (w : World), SpsAt w a l → szM nS l ≤ 20000 →
    Calls Tryz.prog 173 #[.slice a l.length c] w (FreshGives l.length w) := by
  induction n using Nat.strongRecOn with
  | _ n ih =>
    intro l hd a c w hS hz
    have HS := Lib.hid hS
    have HIH := Lib.hid ih
    have HZ := Lib.hid hz
    have hll : l.length ≤ 20000 := by unfold szM at hz; omega
    clear hS ih hz
    by_cases h0 : l.length = 0
    · go_enter Tryz.func173, Tryz.ntmps173
      go_wp2
      go_ret
      exact ⟨⟨none, 0, by rw [h0]; rfl⟩, Below.refl _ _⟩
    · have h0i : ((l.length : Int) == 0) = false := beq_eq_false_iff_ne.2 (by omega)
      go_enter Tryz.func173, Tryz.ntmps173
      go_wp2_with (at_make; refine wpList_mkrow rfl _ _ rfl slspan l.length _ _ rfl rfl rfl rfl (by omega) (by unfold maxLen; omega) ?_; intro w1 D hD hDl hb1 hz1)
      have HD : Hid (∃ C, Bk w1 w.heap.size C 70 ∧ C.length = l.length * 5) := ⟨D, hD, hDl⟩
      have HB1 := Lib.hid hb1
      clear hD hDl hb1 D
      go_loopw [14] (fun v14 wr => ∃ k : Nat, k ≤ l.length ∧ v14 = .int .i64 k ∧ Hid (∃ C, Bk wr w.heap.size C 70 ∧ C.length = l.length * 5) ∧ Hid (Below w.heap.size w wr)) (fun v14 _ => l.length - (intOf v14).toNat)
      case atStart => exact ⟨0, by omega, rfl, HD.out, HB1.out⟩
      case round =>
        obtain ⟨k, hk, rfl, HC, HB⟩ := hrel
        by_cases hlt : k < l.length
        · obtain ⟨bb, off, ha, hbl, hc⟩ := (HS.out.1.below HB.out).elem hlt
          subst ha
          have HKA := Lib.hid (HS.out.2 _ (List.getElem_mem hlt)).kidsAt
          have HKZ := Lib.hid (nM_kids (List.getElem_mem hlt))
          have HDL := Lib.hid (deep_lt hlt)
          generalize l[k] = x at *
          obtain ⟨kd, tx, sb, se, ka, kc, kids⟩ := x
          have HKZ : Hid (szM nS kids + 1 + l.length ≤ szM nS l) := HKZ
          have d0 := hc 0 (.int .u8 kd) rfl
          have d1 := hc 1 (.string ⟨tx.toArray⟩) rfl
          have d2 := hc 2 (.string ⟨sb.toArray⟩) rfl
          have d3 := hc 3 (.string ⟨se.toArray⟩) rfl
          have d4 := hc 4 (.slice ka kids.length kc) rfl
          rw [Nat.add_zero] at d0
          have hz := HB.out.size
          obtain ⟨C, hC, hCl⟩ := HC.out
          have HBK := Lib.hid hC
          have HCl := Lib.hid hCl
          have HN := Lib.hid (Bk.new wr #[.int .u8 kd, .string ⟨tx.toArray⟩, .string ⟨sb.toArray⟩, .string ⟨se.toArray⟩, .slice ka kids.length kc] 70)
          have hlw := hC.lt
          have HKS : Hid (Below w.heap.size w (wr.alloc (.cells #[.int .u8 kd, .string ⟨tx.toArray⟩, .string ⟨sb.toArray⟩, .string ⟨se.toArray⟩, .slice ka kids.length kc] 70))) := HB.out.alloc hz _
          have HCA := Lib.hid (HBK.out.alloc (.cells #[.int .u8 kd, .string ⟨tx.toArray⟩, .string ⟨sb.toArray⟩, .string ⟨se.toArray⟩, .slice ka kids.length kc] 70))
          have HFR : Hid (∀ W, Below w.heap.size w W → Calls Tryz.prog 173 #[.slice ka kids.length kc] W (FreshGives kids.length W)) := fun W hb => HIH.out _ (Nat.lt_of_lt_of_le HDL.out hd) kids (Nat.le_refl _) ka kc W (HKA.out.keep hb) (by have := HKZ.out; have := HZ.out; omega)
          clear hc hC hCl HC HDL HKA HKZ HBK HB
          go_wp2_with (first | (refine hold_op (.store 70 (.tmp 26) (.tmp 25)) rfl ?_) | (go_at_call 173; refine (HFR.out _ HKS.out).mono ?_; rintro e w3 ⟨⟨a3, c3, rfl⟩, hb3⟩; have HN3 := Lib.hid (HN.out.next hb3); have HC3 := Lib.hid (HCA.out.next hb3); have HB3 : Hid (Below w.heap.size w w3) := HKS.out.trans (hb3.mono HKS.out.size); have e0 := HN3.out.cell 0; have e1 := HN3.out.cell 1; have e2 := HN3.out.cell 2; have e3 := HN3.out.cell 3; have e4 := HN3.out.cell 4; have ef := HN3.out.free 4; have hlt3 := HN3.out.lt; change w3.cell? ⟨wr.heap.size, 0, none⟩ = some (.int .u8 kd) at e0; change w3.cell? ⟨wr.heap.size, 1, none⟩ = some (.string ⟨tx.toArray⟩) at e1; change w3.cell? ⟨wr.heap.size, 2, none⟩ = some (.string ⟨sb.toArray⟩) at e2; change w3.cell? ⟨wr.heap.size, 3, none⟩ = some (.string ⟨se.toArray⟩) at e3; change w3.cell? ⟨wr.heap.size, 4, none⟩ = some (.slice ka kids.length kc) at e4; clear HN HCA HKS hb3))
          constructor
          have HCS := Lib.hid (HC3.out.set_other (g' := wr.heap.size) (by omega) 4 (.slice a3 kids.length c3))
          have hfit : k * 5 + 5 ≤ C.length := by rw [HCl.out]; omega
          refine wpList_store_bk rfl _ _ rfl rfl rfl (off := k * 5) (C' := [.int .u8 kd, .string ⟨tx.toArray⟩, .string ⟨sb.toArray⟩, .string ⟨se.toArray⟩, .slice a3 kids.length c3]) rfl HCS.out hfit (by kernel_rfl) (by simp [Value.oneCell']) ?_
          intro wf hbf hkf hzf
          have HBF := Lib.hid hbf
          have HBW : Hid (Below w.heap.size w wf) := (HB3.out.setCell (by simp; omega) _).trans (hkf.below (B := w.heap.size) (fun x hx => by omega) (by simp [World.setCell]; have := HB3.out.size; omega))
          have hpl := putCells_len (C := C) (off := k * 5) (C' := [.int .u8 kd, .string ⟨tx.toArray⟩, .string ⟨sb.toArray⟩, .string ⟨se.toArray⟩, .slice a3 kids.length c3]) hfit
          have HPL := Lib.hid (hpl.trans HCl.out)
          clear hbf hkf hzf hpl e0 e1 e2 e3 e4 ef
          go_wp2
          go_roundw
          case rel => exact ⟨k + 1, by omega, by go_num, ⟨_, HBF.out, HPL.out⟩, HBW.out⟩
          case measure => simp [intOf]; omega
        · go_wp2
          go_ret
          exact ⟨⟨_, _, rfl⟩, HB.out⟩
/-! ### all of a kind -/
structure Sk where
  kind : Nat
  text : Bytes
  sub : Bytes
  see : Bytes
  ka : Option Addr
  kn : Nat
  kc : Nat
def encSk (x : Sk) : List Value := [.int .u8 x.kind, .string ⟨x.text.toArray⟩, .string ⟨x.sub.toArray⟩, .string ⟨x.see.toArray⟩, .slice x.ka x.kn x.kc]
theorem encSk_ok : Enc 5 encSk := ⟨fun _ => rfl, fun x u hu => by simp [encSk] at hu; rcases hu with rfl | rfl | rfl | rfl | rfl <;> rfl⟩
structure Tm where
  text : Bytes
  sub : Bytes
  see : Bytes
def sk0 : Sk := ⟨0, [], [], [], none, 0, 0⟩
def Sk.tm (x : Sk) : Tm := ⟨x.text, x.sub, x.see⟩
def Sp.tm (x : Sp) : Tm := ⟨x.text, x.sub, x.see⟩
mutual
def eachS (k : Nat) : Sp → List Tm
  | .mk kd t sb se _ _ kids => (if kd = k then [⟨t, sb, se⟩] else []) ++ eachL k kids
def eachL (k : Nat) : List Sp → List Tm
  | [] => []
  | x :: l => eachS k x ++ eachL k l
end
theorem eachS_eq (k : Nat) (x : Sp) : eachS k x = (if x.kind = k then [x.tm] else []) ++ eachL k x.kids := by cases x; rw [eachS]; rfl
theorem eachL_append (k : Nat) : ∀ (a b : List Sp), eachL k (a ++ b) = eachL k a ++ eachL k b
  | [], b => by rw [List.nil_append, show eachL k [] = [] from by rw [eachL], List.nil_append]
  | x :: a, b => by rw [List.cons_append, eachL, eachL, eachL_append k a b, List.append_assoc]
theorem eachL_one (k : Nat) (x : Sp) : eachL k [x] = eachS k x := by rw [eachL, eachL, List.append_nil]
theorem eachL_nil (k : Nat) : eachL k [] = [] := by rw [eachL]
theorem eachL_take_succ (k : Nat) {l : List Sp} {j : Nat} (h : j < l.length) : eachL k (l.take (j + 1)) = eachL k (l.take j) ++ eachS k l[j] := by
  rw [List.take_succ_eq_append_getElem h, eachL_append, eachL_one]
theorem eachL_take_le (k : Nat) {l : List Sp} (j : Nat) : (eachL k (l.take j)).length ≤ (eachL k l).length := by
  have h : l = l.take j ++ l.drop j := (List.take_append_drop j l).symm
  have := congrArg (fun l => (eachL k l).length) h
  simp only [eachL_append, List.length_append] at this
  omega
mutual
theorem eachS_le (k : Nat) : ∀ x : Sp, (eachS k x).length ≤ nS x
  | .mk kd t sb se _ _ kids => by
    rw [eachS, nS, List.length_append]
    have := eachL_le k kids
    split
    · simp; omega
    · simp; omega
theorem eachL_le (k : Nat) : ∀ l : List Sp, (eachL k l).length ≤ nL l
  | [] => by rw [eachL]; simp
  | x :: l => by rw [eachL, nL, List.length_append]; have := eachS_le k x; have := eachL_le k l; omega
end

theorem setCell_swap (w : World) {a b : Nat} (h : a ≠ b) (i j : Nat) (u v : Value) : (w.setCell ⟨b, i, none⟩ u).setCell ⟨a, j, none⟩ v = (w.setCell ⟨a, j, none⟩ v).setCell ⟨b, i, none⟩ u := by
  simp only [World.setCell]
  congr 1
  apply Array.ext
  · simp
  · intro k h1 h2
    simp only [Array.getElem_modify]
    by_cases ha : a = k
    · by_cases hb : b = k
      · exact absurd (ha.trans hb.symm) h
      · simp [ha, hb]
    · by_cases hb : b = k
      · simp [ha, hb]
      · simp [ha, hb]
section
variable {w : World} {B T g n c : Nat} {L : List Sk} {x : Sk}
theorem own_set1 (h : Own w B T 5 encSk (.slice (some ⟨g, 0, none⟩) n c) (L ++ [x])) (p : Nat) (hp : p < 5) (u : Value) (y : Sk) (hy : encSk y = (encSk x).set p u) : Own (w.setCell ⟨g, L.length * 5 + p, none⟩ u) B T 5 encSk (.slice (some ⟨g, 0, none⟩) n c) (L ++ [y]) := by
  have h2 := h.setAt encSk_ok (k := L.length) (by simp) hp u y (by simpa using hy)
  rw [List.set_append_right _ _ (Nat.le_refl _), Nat.sub_self] at h2
  exact h2
theorem own_set5 (h : Own w B T 5 encSk (.slice (some ⟨g, 0, none⟩) n c) (L ++ [x])) (kd : Nat) (tx sb se : Bytes) (ka : Option Addr) (kn kc : Nat) :
    Own (((((w.setCell ⟨g, L.length * 5, none⟩ (.int .u8 kd)).setCell ⟨g, L.length * 5 + 1, none⟩ (.string ⟨tx.toArray⟩)).setCell ⟨g, L.length * 5 + 2, none⟩ (.string ⟨sb.toArray⟩)).setCell ⟨g, L.length * 5 + 3, none⟩ (.string ⟨se.toArray⟩)).setCell ⟨g, L.length * 5 + 4, none⟩ (.slice ka kn kc)) B T 5 encSk (.slice (some ⟨g, 0, none⟩) n c) (L ++ [⟨kd, tx, sb, se, ka, kn, kc⟩]) := by
  obtain ⟨k0, t0, s0, e0, a0, n0, c0⟩ := x
  have h0 := own_set1 h 0 (by decide) (.int .u8 kd) ⟨kd, t0, s0, e0, a0, n0, c0⟩ rfl
  have h1 := own_set1 h0 1 (by decide) (.string ⟨tx.toArray⟩) ⟨kd, tx, s0, e0, a0, n0, c0⟩ rfl
  have h2 := own_set1 h1 2 (by decide) (.string ⟨sb.toArray⟩) ⟨kd, tx, sb, e0, a0, n0, c0⟩ rfl
  have h3 := own_set1 h2 3 (by decide) (.string ⟨se.toArray⟩) ⟨kd, tx, sb, se, a0, n0, c0⟩ rfl
  exact own_set1 h3 4 (by decide) (.slice ka kn kc) ⟨kd, tx, sb, se, ka, kn, kc⟩ rfl
end
/-- what the closure of spans.Each works on: the kind, what was found, itself -/
structure WkI (w : World) (B kb ob wb k : Nat) (v : Value) (L : List Sk) : Prop where
  k1 : Bk w kb [.int .u8 k] 67
  o1 : Bk w ob [v] 68
  w1 : Bk w wb [.func (.func 172) #[] #[.pointer (some ⟨kb, 0, none⟩), .pointer (some ⟨ob, 0, none⟩), .pointer (some ⟨wb, 0, none⟩)]] 251
  own : Own w B 70 5 encSk v L
  Bo : B ≤ ob
section
variable {w w' : World} {B kb ob wb k : Nat} {v : Value} {L : List Sk}
theorem WkI.next (h : WkI w B kb ob wb k v L) (hb : Below w.heap.size w w') : WkI w' B kb ob wb k v L := ⟨h.k1.next hb, h.o1.next hb, h.w1.next hb, h.own.next rfl hb, h.Bo⟩
theorem WkI.alloc (h : WkI w B kb ob wb k v L) (o : Obj) : WkI (w.alloc o) B kb ob wb k v L := h.next ((Below.refl _ _).alloc (Nat.le_refl _) o)
theorem WkI.sz (h : WkI w B kb ob wb k v L) : B ≤ w.heap.size := Nat.le_trans h.Bo (Nat.le_of_lt h.o1.lt)
end
def WkPost (B kb ob wb k : Nat) (L : List Sk) (l : List Tm) (w : World) (e : Ending) (w' : World) : Prop :=
  e = .returned (.tuple #[]) ∧ (∃ v' L', WkI w' B kb ob wb k v' L' ∧ L'.map Sk.tm = L.map Sk.tm ++ l) ∧ Below B w w'

set_option maxHeartbeats 8000000 in
set_option maxRecDepth 100000 in
theorem walk_any (k B kb ob wb : Nat) (w0 : World) (hB : w0.heap.size = B) (n : Nat) : ∀ (l : List Sp), deepL l ≤ n → ∀ (a : Option Addr) (c : Nat) (v : Value) (L : List Sk) (w : World), Below B w0 w → SpsAt w0 a l → szM nS l ≤ 20000 →
    WkI w B kb ob wb k v L → L.length + (eachL k l).length ≤ 1000000 →
    Calls Tryz.prog 172 #[.slice a l.length c, .pointer (some ⟨kb, 0, none⟩), .pointer (some ⟨ob, 0, none⟩), .pointer (some ⟨wb, 0, none⟩)] w (WkPost B kb ob wb k L (eachL k l) w) := by
  induction n using Nat.strongRecOn with
  | _ n ih =>
    intro l hd a c v L w hb0 hS hz hI hle
    have HS := Lib.hid hS
    have HIH := Lib.hid ih
    have HZ := Lib.hid hz
    have HI := Lib.hid hI
    have HLE := Lib.hid hle
    have HB0 := Lib.hid hb0
    have hll : l.length ≤ 20000 := by unfold szM at hz; omega
    have hsw := hI.sz
    clear hS ih hz hI hle hb0
    go_enter Tryz.func172, Tryz.ntmps172
    go_wp2
    go_loopw [10] (fun v10 wr => ∃ j : Nat, j ≤ l.length ∧ v10 = .int .i64 j ∧ Hid (∃ v' L', WkI wr B kb ob wb k v' L' ∧ L'.map Sk.tm = L.map Sk.tm ++ eachL k (l.take j)) ∧ Hid (Below B w wr)) (fun v10 _ => l.length - (intOf v10).toNat)
    case atStart => exact ⟨0, by omega, rfl, ⟨v, L, HI.out, by rw [List.take_zero, eachL_nil, List.append_nil]⟩, Below.refl _ _⟩
    case round =>
      obtain ⟨j, hj, rfl, HJ, HB⟩ := hrel
      by_cases hlt : j < l.length
      · obtain ⟨bb, off, ha, hbl, hc⟩ := (HS.out.1.below (show Below w0.heap.size w0 wr by rw [hB]; exact HB0.out.trans HB.out)).elem hlt
        subst ha
        have HKA := Lib.hid (HS.out.2 _ (List.getElem_mem hlt)).kidsAt
        have HKZ := Lib.hid (nM_kids (List.getElem_mem hlt))
        have HDL := Lib.hid (deep_lt hlt)
        have HTS := Lib.hid (eachL_take_succ k hlt)
        have HTL := Lib.hid (eachL_take_le k (l := l) (j + 1))
        rw [HTS.out] at HTL
        generalize l[j] = x at *
        have HEQ := Lib.hid (eachS_eq k x)
        obtain ⟨kd, tx, sb, se, ka, kc, kids⟩ := x
        have HKZ : Hid (szM nS kids + 1 + l.length ≤ szM nS l) := HKZ
        have HEQ : Hid (eachS k (.mk kd tx sb se ka kc kids) = (if kd = k then [⟨tx, sb, se⟩] else []) ++ eachL k kids) := HEQ
        rw [HEQ.out] at HTS HTL
        clear HEQ
        have d0 := hc 0 (.int .u8 kd) rfl
        have d1 := hc 1 (.string ⟨tx.toArray⟩) rfl
        have d2 := hc 2 (.string ⟨sb.toArray⟩) rfl
        have d3 := hc 3 (.string ⟨se.toArray⟩) rfl
        have d4 := hc 4 (.slice ka kids.length kc) rfl
        rw [Nat.add_zero] at d0
        clear hc
        obtain ⟨v1, L1, hI1, hL1⟩ := HJ.out
        clear HJ
        have HI1 := Lib.hid hI1
        have HL1 := Lib.hid hL1
        have hln := congrArg List.length hL1
        rw [List.length_map, List.length_append, List.length_map] at hln
        have z0 := hI1.k1.cell 0
        change wr.cell? ⟨kb, 0, none⟩ = some (.int .u8 k) at z0
        have z1 := hI1.w1.cell 0
        change wr.cell? ⟨wb, 0, none⟩ = some (.func (.func 172) #[] #[.pointer (some ⟨kb, 0, none⟩), .pointer (some ⟨ob, 0, none⟩), .pointer (some ⟨wb, 0, none⟩)]) at z1
        have zk := hI1.k1.lt
        have zw := hI1.w1.lt
        have zo := hI1.o1.lt
        have HVB : Hid (∀ g, v1.ownBlock = some g → g < wr.heap.size) := fun g hg => (hI1.own.block g hg).2
        have hszr := hI1.sz
        clear hI1 hL1
        have HKS : Hid (Below B w (wr.alloc (.cells #[.int .u8 kd, .string ⟨tx.toArray⟩, .string ⟨sb.toArray⟩, .string ⟨se.toArray⟩, .slice ka kids.length kc] 70))) := HB.out.alloc hszr _
        have HIA := Lib.hid (HI1.out.alloc (.cells #[.int .u8 kd, .string ⟨tx.toArray⟩, .string ⟨sb.toArray⟩, .string ⟨se.toArray⟩, .slice ka kids.length kc] 70))
        have HLE2 := HLE.out
        have HCALL : Hid (∀ W v' L', Below B w W → WkI W B kb ob wb k v' L' → L'.length + (eachL k kids).length ≤ 1000000 → Calls Tryz.prog 172 #[.slice ka kids.length kc, .pointer (some ⟨kb, 0, none⟩), .pointer (some ⟨ob, 0, none⟩), .pointer (some ⟨wb, 0, none⟩)] W (WkPost B kb ob wb k L' (eachL k kids) W)) :=
          fun W v' L' hb hI hl => HIH.out _ (Nat.lt_of_lt_of_le HDL.out hd) kids (Nat.le_refl _) ka kc v' L' W (HB0.out.trans hb) HKA.out (by have := HKZ.out; have := HZ.out; omega) hI hl
        by_cases hk : kd = k
        · subst hk
          rw [if_pos rfl] at HTS HTL
          have hln2 : L1.length + 1 + (eachL kd kids).length ≤ 1000000 := by have := HTL.out; simp only [List.length_append, List.length_singleton] at this; omega
          have hl1 : L1.length ≤ 1000000 := by omega
          clear hln
          have HN6 := Lib.hid ((Bk.new wr #[.int .u8 kd, .string ⟨tx.toArray⟩, .string ⟨sb.toArray⟩, .string ⟨se.toArray⟩, .slice ka kids.length kc] 70).alloc (.cells #[.int .u8 kd, .string ⟨tx.toArray⟩, .string ⟨sb.toArray⟩, .string ⟨se.toArray⟩, .slice ka kids.length kc] 70))
          have HN7 : Hid (Bk ((wr.alloc (.cells #[.int .u8 kd, .string ⟨tx.toArray⟩, .string ⟨sb.toArray⟩, .string ⟨se.toArray⟩, .slice ka kids.length kc] 70)).alloc (.cells #[.int .u8 kd, .string ⟨tx.toArray⟩, .string ⟨sb.toArray⟩, .string ⟨se.toArray⟩, .slice ka kids.length kc] 70)) (wr.heap.size + 1) [.int .u8 kd, .string ⟨tx.toArray⟩, .string ⟨sb.toArray⟩, .string ⟨se.toArray⟩, .slice ka kids.length kc] 70) := by
            have h := Bk.new (wr.alloc (.cells #[.int .u8 kd, .string ⟨tx.toArray⟩, .string ⟨sb.toArray⟩, .string ⟨se.toArray⟩, .slice ka kids.length kc] 70)) #[.int .u8 kd, .string ⟨tx.toArray⟩, .string ⟨sb.toArray⟩, .string ⟨se.toArray⟩, .slice ka kids.length kc] 70
            rw [World.size_alloc] at h
            exact h
          have HIB := Lib.hid (HIA.out.alloc (.cells #[.int .u8 kd, .string ⟨tx.toArray⟩, .string ⟨sb.toArray⟩, .string ⟨se.toArray⟩, .slice ka kids.length kc] 70))
          have HKT : Hid (Below B w ((wr.alloc (.cells #[.int .u8 kd, .string ⟨tx.toArray⟩, .string ⟨sb.toArray⟩, .string ⟨se.toArray⟩, .slice ka kids.length kc] 70)).alloc (.cells #[.int .u8 kd, .string ⟨tx.toArray⟩, .string ⟨sb.toArray⟩, .string ⟨se.toArray⟩, .slice ka kids.length kc] 70))) := HKS.out.alloc HIA.out.sz _
          have HFR : Hid (∀ W, Below B w0 W → Calls Tryz.prog 173 #[.slice ka kids.length kc] W (FreshGives kids.length W)) := fun W hb => fresh_any _ kids (Nat.le_refl _) ka kc W (HKA.out.keep (by rw [hB]; exact hb)) (by have := HKZ.out; have := HZ.out; omega)
          clear HI1 HIA HKS HB
          go_wp2_with (go_at_call 173; refine (HFR.out _ (HB0.out.trans HKT.out)).mono ?_; rintro e w3 ⟨⟨a3, c3, rfl⟩, hb3⟩; have HM6 := Lib.hid (HN6.out.next hb3); have HM7 := Lib.hid (HN7.out.next hb3); have HIC := Lib.hid (HIB.out.next hb3); have HB3 : Hid (Below B w w3) := HKT.out.trans (hb3.mono HIB.out.sz); have f0 := HM7.out.cell 0; change w3.cell? ⟨wr.heap.size + 1, 0, none⟩ = some (.int .u8 kd) at f0; have f1 := HM7.out.cell 1; change w3.cell? ⟨wr.heap.size + 1, 1, none⟩ = some (.string ⟨tx.toArray⟩) at f1; have f2 := HM7.out.cell 2; change w3.cell? ⟨wr.heap.size + 1, 2, none⟩ = some (.string ⟨sb.toArray⟩) at f2; have f3 := HM7.out.cell 3; change w3.cell? ⟨wr.heap.size + 1, 3, none⟩ = some (.string ⟨se.toArray⟩) at f3; have f4 := HM7.out.cell 4; change w3.cell? ⟨wr.heap.size + 1, 4, none⟩ = some (.slice ka kids.length kc) at f4;  have ff := HM7.out.free 4; have hlt3 := HM7.out.lt; clear HN6 HN7 HIB HKT hb3)
          obtain ⟨a1, c1, hv1⟩ := HIC.out.own.shape
          subst hv1
          have hgo : ob ≠ wr.heap.size + 1 := by omega
          refine wp_gen fun w4 hw4 => ?_
          have HN7 : Hid (Bk w4 (wr.heap.size + 1) [.int .u8 kd, .string ⟨tx.toArray⟩, .string ⟨sb.toArray⟩, .string ⟨se.toArray⟩, .slice a3 kids.length c3] 70) := by subst hw4; exact HM7.out.set 4 _
          have HN6 : Hid (Bk w4 wr.heap.size [.int .u8 kd, .string ⟨tx.toArray⟩, .string ⟨sb.toArray⟩, .string ⟨se.toArray⟩, .slice ka kids.length kc] 70) := by subst hw4; exact HM6.out.set_other (by omega) 4 _
          have hkept : Kept (fun x => x = wr.heap.size + 1) w3 w4 := by subst hw4; exact (Kept.refl (fun x => x = wr.heap.size + 1) w3).setCell (p := ⟨wr.heap.size + 1, 4, none⟩) rfl _
          have HID : Hid (WkI w4 B kb ob wb kd (.slice a1 L1.length c1) L1) :=
            ⟨hkept.bk HIC.out.k1 (by omega), hkept.bk HIC.out.o1 hgo, hkept.bk HIC.out.w1 (by omega), hkept.own HIC.out.own (fun g hg e => by have := HVB.out g hg; omega), HIC.out.Bo⟩
          have hbz : B ≤ w4.heap.size := HID.out.sz
          have HB4 : Hid (Below B w w4) := by subst hw4; exact HB3.out.setCell (by have := HID.out.sz; simp [World.setCell] at *; omega) _
          have hz4 : w4.heap.size = w3.heap.size := by subst hw4; simp [World.setCell]
          have HZ4 := Lib.hid hz4
          clear hw4 hkept HM6 HM7 HIC HB3 f0 f1 f2 f3 f4 ff d0 d1 d2 d3 d4 z0 z1
          have hlt4 : wr.heap.size + 1 < w4.heap.size := HN7.out.lt
          have o0 := HID.out.o1.cell 0
          change w4.cell? ⟨ob, 0, none⟩ = some (.slice a1 L1.length c1) at o0
          have og := HID.out.o1.free 0
          have g0 := HN7.out.cell 0
          change w4.cell? ⟨wr.heap.size + 1, 0, none⟩ = some (.int .u8 kd) at g0
          have g1 := HN7.out.cell 1
          change w4.cell? ⟨wr.heap.size + 1, 1, none⟩ = some (.string ⟨tx.toArray⟩) at g1
          have g2 := HN7.out.cell 2
          change w4.cell? ⟨wr.heap.size + 1, 2, none⟩ = some (.string ⟨sb.toArray⟩) at g2
          have g3 := HN7.out.cell 3
          change w4.cell? ⟨wr.heap.size + 1, 3, none⟩ = some (.string ⟨se.toArray⟩) at g3
          have g4 := HN7.out.cell 4
          change w4.cell? ⟨wr.heap.size + 1, 4, none⟩ = some (.slice a3 kids.length c3) at g4
          have hob4 : ob < w4.heap.size := HID.out.o1.lt
          have hbd : (L1.length : Int) < (L1.length : Int) + 1 := by omega
          have HNO : Hid ((Value.slice a1 L1.length c1).ownBlock ≠ some ob) := HID.out.own.ne_bk HID.out.o1 (by decide)
          clear hz4
          go_cut [10] from 10 to 33 (fun v10 wx => v10 = .int .i64 (j : Nat) ∧ Hid (∃ v' L', WkI wx B kb ob wb kd v' L' ∧ L'.map Sk.tm = L1.map Sk.tm ++ [⟨tx, sb, se⟩] ∧ L'.length = L1.length + 1) ∧ Hid (Bk wx wr.heap.size [.int .u8 kd, .string ⟨tx.toArray⟩, .string ⟨sb.toArray⟩, .string ⟨se.toArray⟩, .slice ka kids.length kc] 70) ∧ Hid (Below B w wx))
          case first =>
            go_region_law ((refine step_push2 (by rfl) _ _ _ (by rfl) B 70 5 80 slspan encSk encSk_ok (.slice a1 L1.length c1) L1 (by rfl) (HID.out.own.alloc _) sk0 w4.heap.size (by rfl) (fun j u hj => ((Bk.new w4 #[.int .u8 0, .string ⟨#[]⟩, .string ⟨#[]⟩, .string ⟨#[]⟩, .slice none 0 0] 70).cell j).trans hj) (by omega) (by unfold maxLen; omega) (by simp; omega) ?_; intro gg cap w5 hown hgrow hat; have y0 : w5.cell? ⟨gg, L1.length * 5, none⟩ = some (.int .u8 0) := hown.cellAt encSk_ok (List.getElem?_concat_length) (j := 0) rfl; have y1 : w5.cell? ⟨gg, L1.length * 5 + 1, none⟩ = some (.string ⟨#[]⟩) := hown.cellAt encSk_ok (List.getElem?_concat_length) (j := 1) rfl; have y2 : w5.cell? ⟨gg, L1.length * 5 + 2, none⟩ = some (.string ⟨#[]⟩) := hown.cellAt encSk_ok (List.getElem?_concat_length) (j := 2) rfl; have y3 : w5.cell? ⟨gg, L1.length * 5 + 3, none⟩ = some (.string ⟨#[]⟩) := hown.cellAt encSk_ok (List.getElem?_concat_length) (j := 3) rfl; have y4 : w5.cell? ⟨gg, L1.length * 5 + 4, none⟩ = some (.slice none 0 0) := hown.cellAt encSk_ok (List.getElem?_concat_length) (j := 4) rfl; have yf := fun i => hown.freeAt i; have ho5 := Bk.grown (HID.out.o1.alloc _).drew hgrow HNO.out; have hoc := ho5.cell 0; change w5.cell? ⟨ob, 0, none⟩ = some (.slice a1 L1.length c1) at hoc; have hof := ho5.free 0; have hgne : gg ≠ ob := fun e => hown.ne_bk ho5 (by decide) (show some gg = some ob from congrArg some e); have hgne2 : ob ≠ gg := fun e => hgne e.symm))
            all_goals
              have hk5 := Bk.grown (HID.out.k1.alloc _).drew hgrow (HID.out.own.ne_bk HID.out.k1 (by decide))
              have hw5 := Bk.grown (HID.out.w1.alloc _).drew hgrow (HID.out.own.ne_bk HID.out.w1 (by decide))
              have hn5 := Bk.grown (HN6.out.alloc _).drew hgrow (fun e => by have := HVB.out _ e; omega)
              have hg6 : gg ≠ wr.heap.size := by
                rcases hat with h | h
                · have := HVB.out _ h; omega
                · simp at h; omega
              have hB5 : Below B w w5 := ((HB4.out.alloc hbz _).drew).grown hgrow (by simp; omega) (fun k hk => (HID.out.own.block k hk).1)
              have hgk : gg ≠ kb := fun e => hown.ne_bk hk5 (by decide) (show some gg = some kb from congrArg some e)
              have hgw : gg ≠ wb := fun e => hown.ne_bk hw5 (by decide) (show some gg = some wb from congrArg some e)
              have hBg : B ≤ gg := (hown.block gg rfl).1
              have hok : ob ≠ kb := fun e => by
                have h1 := HID.out.o1
                have h2 := HID.out.k1
                unfold Bk at h1 h2
                rw [e, h2] at h1
                injection h1 with h1
                injection h1 with _ h1 _
                exact absurd h1 (by decide)
              have how : ob ≠ wb := fun e => by
                have h1 := HID.out.o1
                have h2 := HID.out.w1
                unfold Bk at h1 h2
                rw [e, h2] at h1
                injection h1 with h1
                injection h1 with _ h1 _
                exact absurd h1 (by decide)
              refine exit_gen fun W hW => ?_
              have hall : Bk W ob [.slice (some ⟨gg, 0, none⟩) (L1.length + 1) cap] 68 ∧ Own W B 70 5 encSk (.slice (some ⟨gg, 0, none⟩) (L1.length + 1) cap) (L1 ++ [⟨kd, tx, sb, se, a3, kids.length, c3⟩]) ∧ Kept (fun x => x = gg ∨ x = ob) w5 W := by
                subst hW
                try simp only [setCell_swap _ hgne]
                exact ⟨(((((ho5.set_other hgne _ _).set_other hgne _ _).set_other hgne _ _).set_other hgne _ _).set_other hgne _ _).set 0 _, (own_set5 hown kd tx sb se a3 kids.length c3).set_other (fun e => hgne (Option.some.inj e)) 0 _, ((((((Kept.refl _ _).setCell (.inl rfl) _).setCell (.inl rfl) _).setCell (.inl rfl) _).setCell (.inl rfl) _).setCell (.inl rfl) _).setCell (.inr rfl) _⟩
              clear hW
              obtain ⟨hoW, hownW, hkW⟩ := hall
              have HIW : Hid (WkI W B kb ob wb kd (.slice (some ⟨gg, 0, none⟩) (L1.length + 1) cap) (L1 ++ [⟨kd, tx, sb, se, a3, kids.length, c3⟩])) := ⟨hkW.bk hk5 (by omega), hoW, hkW.bk hw5 (by omega), hownW, HID.out.Bo⟩
              have HNW := Lib.hid (hkW.bk hn5 (by omega))
              have HBW : Hid (Below B w W) := hB5.trans (hkW.below (B := B) (fun x hx => by have := HID.out.Bo; omega) (by have := hB5.size; omega))
              go_wp2_with fail
              go_meet
              exact ⟨rfl, ⟨_, _, HIW.out, by rw [List.map_append]; rfl, by simp⟩, HNW.out, HBW.out⟩
          case rest =>
            obtain ⟨rfl, HX, HNW, HBW⟩ := hcut
            obtain ⟨v6, L6, hI6, hM6, hl6⟩ := HX.out
            have HIW := Lib.hid hI6
            have HM6 := Lib.hid hM6
            have HL6 := Lib.hid hl6
            clear HX hI6 hM6 hl6
            have z1 := HIW.out.w1.cell 0
            change wc.cell? ⟨wb, 0, none⟩ = some (.func (.func 172) #[] #[.pointer (some ⟨kb, 0, none⟩), .pointer (some ⟨ob, 0, none⟩), .pointer (some ⟨wb, 0, none⟩)]) at z1
            have z2 := HNW.out.cell 4
            change wc.cell? ⟨wr.heap.size, 4, none⟩ = some (.slice ka kids.length kc) at z2
            go_wp2_with (go_at_call 172; refine (HCALL.out _ _ _ HBW.out HIW.out (by have := HL6.out; omega)).mono ?_; rintro e w7 ⟨rfl, ⟨v7, L7, hI7, hL7⟩, hb7⟩; have HI7 := Lib.hid hI7; have HL7 := Lib.hid hL7; have HB7 : Hid (Below B w w7) := HBW.out.trans hb7; clear hI7 hL7 hb7)
            go_roundw
            case rel =>
              exact ⟨j + 1, by omega, by go_num, ⟨v7, L7, HI7.out, by rw [HL7.out, HM6.out, HL1.out, HTS.out, List.append_assoc, List.append_assoc]⟩, HB7.out⟩
            case measure => simp [intOf]; omega
        · rw [if_neg hk, List.nil_append] at HTS HTL
          have hkb : ((kd : Int) == (k : Int)) = false := beq_eq_false_iff_ne.2 (by omega)
          have hln2 : L1.length + (eachL k kids).length ≤ 1000000 := by have := HTL.out; simp only [List.length_append] at this; omega
          clear hk
          go_wp2_with (go_at_call 172; refine (HCALL.out _ v1 L1 HKS.out HIA.out hln2).mono ?_; rintro e w3 ⟨rfl, ⟨v3, L3, hI3, hL3⟩, hb3⟩; have HI3 := Lib.hid hI3; have HL3 := Lib.hid hL3; have HB3 : Hid (Below B w w3) := HKS.out.trans hb3; clear hI3 hL3 hb3)
          go_roundw
          case rel => exact ⟨j + 1, by omega, by go_num, ⟨v3, L3, HI3.out, by rw [HL3.out, HL1.out, HTS.out, List.append_assoc]⟩, HB3.out⟩
          case measure => simp [intOf]; omega
      · rw [List.take_of_length_le (by omega)] at HJ
        go_wp2
        go_end0
        exact ⟨rfl, HJ.out, HB.out⟩

def EachGives (w : World) (l : List Tm) (e : Ending) (w' : World) : Prop := (∃ v L, e = .returned v ∧ Own w' w.heap.size 70 5 encSk v L ∧ L.map Sk.tm = l) ∧ Below w.heap.size w w'
set_option maxHeartbeats 4000000 in
set_option maxRecDepth 100000 in
theorem each_any (k : Nat) (l : List Sp) (a : Option Addr) (c : Nat) (w : World) (hS : SpsAt w a l) (hz : szM nS l ≤ 20000) :
    Calls Tryz.prog 148 #[.slice a l.length c, .int .u8 k] w (EachGives w (eachL k l)) := by
  have HS := Lib.hid hS
  have HZ := Lib.hid hz
  have hmf : ∀ (fn : Fn) (first cap : Array Value) (w : World), (Instr.makeFunc fn first cap).run Tryz.prog w = .ok (.func fn first cap) w := fun _ _ _ _ => rfl
  have hle : (eachL k l).length ≤ 20000 := by have := eachL_le k l; rw [nL_eq] at this; omega
  have HLE := Lib.hid hle
  clear hS hz hle
  go_enter Tryz.func148, Tryz.ntmps148
  go_wp2_with fail
  refine calls_gen fun W hW => ?_
  have hb : Below w.heap.size w W := by subst hW; exact (((Below.refl _ _).alloc (Nat.le_refl _) _).alloc (by simp) _).alloc (by simp; omega) _
  have hI : WkI W w.heap.size w.heap.size (w.heap.size + 1) (w.heap.size + 1 + 1) k (.slice none 0 0) [] := by
    subst hW
    refine ⟨((Bk.new w #[.int .u8 k] 67).alloc _).alloc _, ?_, ?_, Own.nil _ _ _ _ _, by omega⟩
    · have h := (Bk.new (w.alloc (.cells #[.int .u8 k] 67)) #[.slice none 0 0] 68).alloc (.cells #[.func (.func 172) #[] #[.pointer (some ⟨w.heap.size, 0, none⟩), .pointer (some ⟨w.heap.size + 1, 0, none⟩), .pointer (some ⟨w.heap.size + 1 + 1, 0, none⟩)]] 251)
      rw [World.size_alloc] at h
      exact h
    · have h := Bk.new ((w.alloc (.cells #[.int .u8 k] 67)).alloc (.cells #[.slice none 0 0] 68)) #[.func (.func 172) #[] #[.pointer (some ⟨w.heap.size, 0, none⟩), .pointer (some ⟨w.heap.size + 1, 0, none⟩), .pointer (some ⟨w.heap.size + 1 + 1, 0, none⟩)]] 251
      rw [World.size_alloc, World.size_alloc] at h
      exact h
  clear hW hmf
  refine (walk_any k w.heap.size w.heap.size (w.heap.size + 1) (w.heap.size + 1 + 1) w rfl _ l (Nat.le_refl _) a c _ [] W hb HS.out HZ.out hI (by have := HLE.out; simp; omega)).mono ?_
  rintro e w1 ⟨rfl, ⟨v1, L1, hI1, hL1⟩, hb1⟩
  have HI1 := Lib.hid hI1
  have HL1 := Lib.hid hL1
  have HB1 : Hid (Below w.heap.size w w1) := hb.trans hb1
  have o0 := hI1.o1.cell 0
  change w1.cell? ⟨w.heap.size + 1, 0, none⟩ = some v1 at o0
  obtain ⟨a1, c1, hv1⟩ := hI1.own.shape
  subst hv1
  clear hI hI1 hL1 hb hb1
  go_wp2_with fail
  go_ret
  exact ⟨⟨_, _, rfl, HI1.out.own, HL1.out⟩, HB1.out⟩
end Go.Proofs.YtohinfefidahlaaGreatDoor
