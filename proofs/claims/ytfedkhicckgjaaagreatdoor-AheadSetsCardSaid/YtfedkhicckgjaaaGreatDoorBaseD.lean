/- Copies with a mark behind them, and whether they are left as they were: binderylaw01.Twin.., Left.., Same.. slices.Grow and slices.Concat. conds.Set and conds.Unset. conds.Unset. -/
import Derived.Test.YtfedkhicckgjaaaGreatDoorBaseA
import Derived.Laws.CopyOwn
import Derived.Test.YtfedkhicckgjaaaGreatDoorBaseB
import Derived.Deep.RegionHeld3
namespace Go.Proofs.YtfedkhicckgjaaaGreatDoor
open Go.RowKit

theorem slattrs : SlTy Tryz.prog 55 78 2 32 := ⟨Tryz.underlying55, .agg #[.string ⟨#[]⟩, .string ⟨#[]⟩], by kernel_rfl, rfl, by decide⟩
def spareAttrs : Two := ⟨[115, 112, 97, 114, 101], []⟩

theorem At.left {α : Type} {w : World} {sz : Nat} {enc : α → List Value} {a : Option Addr} {l m : List α} (h : At w sz enc a (l ++ m)) : At w sz enc a l := by
  rcases h with h | ⟨b, off, ha, hlt, hr⟩
  · exact .inl (List.append_eq_nil_iff.1 h).1
  · refine .inr ⟨b, off, ha, hlt, fun i x hi j v hj => hr i x ?_ j v hj⟩
    rw [List.getElem?_append_left (List.getElem?_eq_some_iff.1 hi).1]; exact hi

end Go.Proofs.YtfedkhicckgjaaaGreatDoor

namespace Go.Proofs.YtfedkhicckgjaaaGreatDoor
open Go.RowKit
set_option maxRecDepth 100000

/-- a slice within a slice -/
structure Sl (α : Type) where
  a : Option Addr
  c : Nat
  l : List α
def encSl {α : Type} (x : Sl α) : List Value := [.slice x.a x.l.length x.c]
def sumL {α : Type} (Ls : List (Sl α)) : Nat := (Ls.map fun x => x.l.length).sum
theorem sumL_take_succ {α : Type} (l : List (Sl α)) (k : Nat) (h : k < l.length) : sumL (l.take (k + 1)) = sumL (l.take k) + l[k].l.length := by
  unfold sumL; rw [List.take_succ_eq_append_getElem h, List.map_append, List.sum_append]; simp
theorem sumL_take_le {α : Type} (l : List (Sl α)) (k : Nat) : sumL (l.take k) ≤ sumL l := by
  unfold sumL
  conv => rhs; rw [← List.take_append_drop k l]
  rw [List.map_append, List.sum_append]; omega
theorem flat_sum {α : Type} (l : List (Sl α)) : (l.flatMap (·.l)).length = sumL l := by
  unfold sumL; rw [List.length_flatMap]
theorem At.sl {α : Type} {w : World} {a : Option Addr} {l : List (Sl α)} (h : At w 1 encSl a l) {i : Nat} (hi : i < l.length) :
    ∃ b off, a = some ⟨b, off, none⟩ ∧ b < w.heap.size ∧ w.cell? ⟨b, off + i, none⟩ = some (.slice l[i].a l[i].l.length l[i].c) := by
  obtain ⟨b, off, ha, hlt, hc⟩ := h.elem hi
  refine ⟨b, off, ha, hlt, ?_⟩
  have := hc 0 _ rfl
  rwa [Nat.mul_one, Nat.add_zero] at this

set_option maxHeartbeats 2000000 in
theorem growAttrs_any (n : Nat) (w : World) (h1 : 1 ≤ n) (hn : n ≤ 16777216) :
    Calls Tryz.prog 230 #[.slice none 0 0, .int .i64 n] w fun e w' => (∃ v, e = .returned v ∧ Own w' w.heap.size 78 2 encT v []) ∧ Below w.heap.size w w' := by
  obtain ⟨hu, z, hi, hz, hsz⟩ := slattrs
  obtain ⟨i, hi1, hi2, hi3, hi4⟩ := info_parts hi
  have hr := Lib.run_append_nil_zeros w 55 3 55 78 i z .i64 .i64 hu Tryz.underlying3 hi1 hi2 n h1 (by rw [hi3]; exact hsz) (by omega) (by rw [hi4]; omega)
  have hw0 : wrap64 ((0 : Int) - 0) = 0 := by unfold wrap64; omega
  have hw : wrap64 ((n : Int) - 0) = n := by unfold wrap64; omega
  have HO : Hid (Own (w.drew.alloc (.cells (Builtin.zeroCells z.cells n ++ Builtin.zeroCells z.cells (grownCap w n 0 78 - n)) 78)) w.heap.size 78 2 encT (.slice (some ⟨w.heap.size, 0, none⟩) 0 (grownCap w n 0 78)) ([] : List Two)) :=
    Own.zeros w.drew 78 2 encT _ _ (grownCap_le_maxLen w n 0 _ (by unfold maxLen; omega)) (by
      have h := grownCap_ge w n 0 78
      rw [Array.size_append, size_zeroCells, size_zeroCells, hz, ← Nat.add_mul]; congr 1; omega) w.heap.size (Nat.le_refl _)
  have hg0 : 0 ≤ grownCap w n 0 78 := Nat.zero_le _
  generalize hC : grownCap w n 0 78 = C at *
  generalize hW : w.drew.alloc (.cells (Builtin.zeroCells z.cells n ++ Builtin.zeroCells z.cells (C - n)) 78) = W2 at *
  have HB : Hid (Below w.heap.size w W2) := by
    rw [← hW]
    have h0 : Below w.heap.size w w.drew := ⟨rfl, rfl, rfl, Nat.le_refl _, fun _ _ => rfl⟩
    exact Lib.hid (h0.alloc (Nat.le_refl _) _)
  have HR := Lib.hid hr
  clear hr hC hW hi hi1 hi2 hi3 hi4 hz hsz
  go_enter Tryz.func230, Tryz.ntmps230
  go_wp2_with (at_builtin; refine Lib.wpList_append_run _ rfl _ _ _ _ rfl _ _ rfl rfl _ _ HR.out ?_)
  go_ret
  exact ⟨⟨_, rfl, HO.out⟩, HB.out⟩

set_option maxHeartbeats 2000000 in
theorem concatAttrs_any (a0 : Option Addr) (c0 : Nat) (Ls : List (Sl Two)) (w : World) (hn : Ls.length ≤ 1048576) (hA : At w 1 encSl a0 Ls) (hL : ∀ x ∈ Ls, At w 2 encT x.a x.l) (h1 : 1 ≤ sumL Ls) (hs : sumL Ls ≤ 1048576) :
    Calls Tryz.prog 195 #[.slice a0 Ls.length c0] w fun e w' => (∃ v, e = .returned v ∧ Own w' w.heap.size 78 2 encT v (Ls.flatMap (·.l))) ∧ Below w.heap.size w w' := by
  have HA := Lib.hid hA
  have HL := Lib.hid hL
  clear hA hL
  go_enter Tryz.func195, Tryz.ntmps195
  go_wp2_with fail
  go_loop [3, 11] (fun v3 v11 => ∃ k : Nat, k ≤ Ls.length ∧ v11 = .int .i64 k ∧ v3 = .int .i64 (sumL (Ls.take k) : Nat)) (fun _ v11 => Ls.length - (intOf v11).toNat)
  case atStart => exact ⟨0, by omega, rfl, rfl⟩
  case round =>
    obtain ⟨k, hk, rfl, rfl⟩ := hrel
    by_cases hlt : k < Ls.length
    · obtain ⟨b, off, ha, hbl, hc0⟩ := HA.out.sl hlt
      subst ha
      have hT := sumL_take_succ Ls k hlt
      have hle := sumL_take_le Ls (k + 1)
      generalize hs1 : sumL (Ls.take (k + 1)) = s1 at *
      generalize hs0 : sumL (Ls.take k) = s0 at *
      generalize hll : Ls[k].l.length = ll at *
      have HS1 := Lib.hid hs1
      have hw : wrap64 ((s0 : Int) + (ll : Int)) = (s1 : Int) := by unfold wrap64; omega
      clear hs1 hs0 hll
      go_wp2_with fail
      go_round
      case rel => exact ⟨k + 1, by omega, by go_num, by rw [HS1.out, hT]; simp⟩
      case measure => simp [intOf]; omega
    · obtain rfl : k = Ls.length := by omega
      rw [List.take_length]
      go_wp2_with fail
      refine (growAttrs_any (sumL Ls) _ h1 (by omega)).mono ?_
      rintro e w1 ⟨⟨v, rfl, hO⟩, hb⟩
      have HO := Lib.hid hO
      clear hO
      go_wp2_with fail
      go_loopw [6, 27] (fun v6 v27 wr => ∃ k : Nat, k ≤ Ls.length ∧ v27 = .int .i64 k ∧ Hid (Own wr w.heap.size 78 2 encT v6 ((Ls.take k).flatMap (·.l))) ∧ Below w.heap.size w wr) (fun _ v27 _ => Ls.length - (intOf v27).toNat)
      case atStart => exact ⟨0, by omega, rfl, HO, hb⟩
      case round =>
        obtain ⟨k, hk, rfl, HO, hb⟩ := hrel
        by_cases hlt : k < Ls.length
        · obtain ⟨b, off, ha, hbl, hc0⟩ := (HA.out.below hb).sl hlt
          subst ha
          have hx : Hid (At wr 2 encT Ls[k].a Ls[k].l) := (HL.out _ (List.getElem_mem hlt)).below hb
          have hT := sumL_take_succ Ls k hlt
          have hle := sumL_take_le Ls (k + 1)
          have hfl := flat_sum (Ls.take k)
          have hF : Hid ((Ls.take (k + 1)).flatMap (·.l) = (Ls.take k).flatMap (·.l) ++ Ls[k].l) := by unfold Hid; rw [List.take_succ_eq_append_getElem hlt, List.flatMap_append]; simp
          go_wp2_with (at_builtin; refine wpList_cat rfl _ _ 55 rfl w.heap.size 78 2 32 slattrs encT encT_ok _ _ rfl HO.out _ _ _ Ls[k].l rfl rfl hx.out (by omega) (by unfold maxLen; omega) w hb hb.size ?_; intro v2 w2 hown2 hb2 _)
          go_roundw
          case rel => exact ⟨k + 1, by omega, by go_num, by rw [hF.out]; exact hown2, hb2⟩
          case measure => simp [intOf]; omega
        · obtain rfl : k = Ls.length := by omega
          have HO2 := HO.out
          rw [List.take_length] at HO2
          have HO3 := Lib.hid HO2
          clear HO2
          go_wp2_with fail
          go_ret
          exact ⟨⟨_, rfl, HO3.out⟩, hb⟩
end Go.Proofs.YtfedkhicckgjaaaGreatDoor

namespace Go.Proofs.YtfedkhicckgjaaaGreatDoor
open Go.RowKit
set_option linter.unusedVariables false

def geB (x s : Bytes) : Bool := !Op.bytesLess x s
def posL (l : List Two) (s : Bytes) : Nat := l.findIdx (fun x => geB x.name s)
def hasAt (l : List Two) (s : Bytes) (i : Nat) : Bool := match l[i]? with | some x => x.name == s | none => false
def setL (l : List Two) (s v : Bytes) : List Two := l.take (posL l s) ++ ⟨s, v⟩ :: l.drop (if hasAt l s (posL l s) = true then posL l s + 1 else posL l s)
def fullB (l : List Two) (s : Bytes) : Bool := !hasAt l s (posL l s) && decide (64 ≤ l.length)
def mayB (l : List Two) (s v : Bytes) : Bool := checkB l && nameB s && validB v
def setR (l : List Two) (s v : Bytes) : List Two := if mayB l s v = true then (if fullB l s = true then [] else setL l s v) else []
def setE (l : List Two) (s v : Bytes) : Int := if mayB l s v = true then (if fullB l s = true then 3 else 0) else 1

set_option maxHeartbeats 1000000 in
theorem set1_asks (s : Bytes) (nb : Nat) (w : World) (hc : w.cell? ⟨nb, 0, none⟩ = some (.string ⟨s.toArray⟩)) (hn : nb < w.heap.size) :
    Asks Tryz.prog 194 (.pointer (some ⟨nb, 0, none⟩)) w (fun x => geB x.name s) := by
  intro x w' hb
  have hc' : w'.cell? ⟨nb, 0, none⟩ = some (.string ⟨s.toArray⟩) := by rw [hb.cell (p := ⟨nb, 0, none⟩) hn]; exact hc
  have hn' : nb < w'.heap.size := Nat.lt_of_lt_of_le hn hb.size
  unfold encV
  clear hb hc
  cases h : (geB x.name s)
  all_goals
    have HH := Lib.hid h
    unfold geB at h
    go_enter Tryz.func194, Tryz.ntmps194
    go_wp2
    go_ret
    exact ⟨by simp [HH.out], (Below.refl _ _).alloc (Nat.le_refl _) _⟩


set_option maxHeartbeats 1000000 in
theorem find_set1 (cap : Value) (p : Two → Bool) (a : Option Addr) (c : Nat) (l : List Two) (w : World) (hn : l.length ≤ 1048576)
    (hA : At w 2 encT a l) (hg : Asks Tryz.prog 194 cap w p) :
    Calls Tryz.prog 193 #[.slice a l.length c, .func (.func 194) #[] #[cap]] w fun e w' => e = .returned (.int .i64 (findI p l)) ∧ Below w.heap.size w w' := by
  have HG := Lib.hid hg
  have HA := Lib.hid hA
  clear hg hA
  go_enter Tryz.func193, Tryz.ntmps193
  go_wp2
  go_loopw [9] (fun v wr => ∃ k : Nat, k ≤ l.length ∧ v = .int .i64 k ∧ Hid (∀ i (hi : i < k) (hl : i < l.length), p l[i] = false) ∧ Below w.heap.size w wr) (fun v _ => l.length - (intOf v).toNat)
  case atStart => exact ⟨0, by omega, rfl, (fun i hi => absurd hi (by omega)), Below.refl _ _⟩
  case round =>
    obtain ⟨k, hk, rfl, HP, hb⟩ := hrel
    by_cases hlt : k < l.length
    · obtain ⟨b, off, ha, hbl, hc0, hc1⟩ := (HA.out.below hb).two hlt
      subst ha
      cases hp : p l[k]
      · have HP2 := Lib.hid hp
        clear hp
        go_wp2_with (go_at_call 194; refine (HG.out l[k] _ (hb.alloc hb.size _)).mono ?_; rw [HP2.out]; rintro e w2 ⟨rfl, hb2⟩)
        go_roundw
        case rel =>
          refine ⟨k + 1, by omega, by go_num, ?_, (hb.alloc hb.size _).trans (hb2.mono (by have := hb.size; simp; omega))⟩
          intro i hi hl
          rcases Nat.lt_succ_iff_lt_or_eq.1 hi with h | h
          · exact HP.out i h hl
          · subst h; exact HP2.out
        case measure => simp [intOf]; omega
      · have hr : findI p l = (k : Int) := findI_some hlt hp (fun i hi => HP.out i hi (by omega))
        have HR := Lib.hid hr
        have HP2 := Lib.hid hp
        clear hp hr
        go_wp2_with (go_at_call 194; refine (HG.out l[k] _ (hb.alloc hb.size _)).mono ?_; rw [HP2.out]; rintro e w2 ⟨rfl, hb2⟩)
        go_ret
        exact ⟨by rw [HR.out]; rfl, (hb.alloc hb.size _).trans (hb2.mono (by have := hb.size; simp; omega))⟩
    · have hr : findI p l = -1 := findI_none fun i hi => HP.out i (by omega) hi
      have HR := Lib.hid hr
      clear hr
      go_wp2
      go_ret
      exact ⟨by rw [HR.out]; rfl, hb⟩

theorem At.take {α : Type} {w : World} {sz : Nat} {enc : α → List Value} {a : Option Addr} {l : List α} (h : At w sz enc a l) (k : Nat) : At w sz enc a (l.take k) := by
  rcases h with h | ⟨b, off, ha, hlt, hr⟩
  · subst h; simp [At]
  · refine .inr ⟨b, off, ha, hlt, fun i x hi j v hj => hr i x ?_ j v hj⟩
    rw [List.getElem?_take] at hi
    split at hi
    · exact hi
    · cases hi
theorem At.drop {α : Type} {w : World} {sz : Nat} {enc : α → List Value} {b off : Nat} {l : List α} (h : At w sz enc (some ⟨b, off, none⟩) l) (k : Nat) : At w sz enc (some ⟨b, off + k * sz, none⟩) (l.drop k) := by
  rcases h with h | ⟨b', off', ha, hlt, hr⟩
  · subst h; simp [At]
  · cases ha
    refine .inr ⟨b, off + k * sz, rfl, hlt, fun i x hi j v hj => ?_⟩
    rw [List.getElem?_drop] at hi
    have := hr (k + i) x hi j v hj
    rwa [Nat.add_mul, ← Nat.add_assoc] at this

theorem At.one {w : World} {G : Nat} {x : Two} (hlt : G < w.heap.size) (h0 : w.cell? ⟨G, 0, none⟩ = some (.string ⟨x.name.toArray⟩)) (h1 : w.cell? ⟨G, 1, none⟩ = some (.string ⟨x.value.toArray⟩)) : At w 2 encT (some ⟨G, 0, none⟩) [x] := by
  refine .inr ⟨G, 0, rfl, hlt, ?_⟩
  intro i y hi j v hj
  match i, hi with
  | 0, hi =>
    cases hi
    match j, hj with
    | 0, hj => cases hj; exact h0
    | 1, hj => cases hj; exact h1
    | j + 2, hj => simp [encT] at hj
  | i + 1, hi => simp at hi
theorem At.dropIf {w : World} {b off : Nat} {l : List Two} {a' : Option Addr} {ca j : Nat} (h : At w 2 encT (some ⟨b, off, none⟩) l) (hcap : l.length ≤ ca) (ha : a' = if ca = j then some ⟨b, off, none⟩ else some ⟨b, off + j * 2, none⟩) : At w 2 encT a' (l.drop j) := by
  subst ha
  split
  · rw [List.drop_of_length_le (by omega)]; exact At.nil _ _ _ _
  · exact h.drop j
theorem concat3_any (G : Nat) (x1 x2 x3 : Sl Two) (w : World) (hG : G < w.heap.size) (h0 : w.cell? ⟨G, 0, none⟩ = some (.slice x1.a x1.l.length x1.c)) (h1 : w.cell? ⟨G, 1, none⟩ = some (.slice x2.a x2.l.length x2.c)) (h2 : w.cell? ⟨G, 2, none⟩ = some (.slice x3.a x3.l.length x3.c))
    (hA1 : At w 2 encT x1.a x1.l) (hA2 : At w 2 encT x2.a x2.l) (hA3 : At w 2 encT x3.a x3.l) (hs1 : 1 ≤ x2.l.length) (hs : x1.l.length + x2.l.length + x3.l.length ≤ 1048576) :
    Calls Tryz.prog 195 #[.slice (some ⟨G, 0, none⟩) 3 3] w fun e w' => (∃ v, e = .returned v ∧ Own w' w.heap.size 78 2 encT v (x1.l ++ x2.l ++ x3.l)) ∧ Below w.heap.size w w' := by
  have hA : At w 1 encSl (some ⟨G, 0, none⟩) [x1, x2, x3] := by
    refine .inr ⟨G, 0, rfl, hG, ?_⟩
    intro i y hi j v hj
    have hj0 : j = 0 := by
      have := (List.getElem?_eq_some_iff.1 hj).1
      simp [encSl] at this; omega
    subst hj0
    match i, hi with
    | 0, hi => cases hi; cases hj; exact h0
    | 1, hi => cases hi; cases hj; exact h1
    | 2, hi => cases hi; cases hj; exact h2
    | i + 3, hi => simp at hi
  have hsum : sumL [x1, x2, x3] = x1.l.length + x2.l.length + x3.l.length := by simp [sumL]; omega
  refine (concatAttrs_any (some ⟨G, 0, none⟩) 3 [x1, x2, x3] w (by simp) hA (by intro x hx; simp at hx; rcases hx with rfl | rfl | rfl <;> assumption) (by omega) (by omega)).mono ?_
  rintro e w' ⟨⟨v, rfl, hO⟩, hb⟩
  exact ⟨⟨v, rfl, by simpa using hO⟩, hb⟩

theorem set_tail (w w3 : World) (n : Nat) (hb : Below w.heap.size w w3) (a a3 : Option Addr) (ca c3 : Nat) (l : List Two) (s v : Bytes) (i j n1 n3 : Nat) (hn1 : n1 = (l.take i).length) (hn3 : n3 = (l.drop j).length) (hA : At w 2 encT a l) (hA3 : At w 2 encT a3 (l.drop j)) (hl : l.length ≤ 100000) :
    Calls Tryz.prog 195 #[.slice (some ⟨w3.heap.size + 1, 0, none⟩) 3 3] (((w3.drewN n).alloc (.cells #[.string ⟨s.toArray⟩, .string ⟨v.toArray⟩] 78)).alloc (.cells #[.slice a n1 ca, .slice (some ⟨w3.heap.size, 0, none⟩) 1 1, .slice a3 n3 c3] 55)) fun e w' =>
      (∃ r, e = .returned r ∧ Own w' w.heap.size 78 2 encT r (l.take i ++ ⟨s, v⟩ :: l.drop j)) ∧ Below w.heap.size w w' ∧ Below w3.heap.size w3 w' := by
  have hbq := below_drewN hb n
  have hbq2 := (hbq.alloc hbq.size (.cells #[.string ⟨s.toArray⟩, .string ⟨v.toArray⟩] 78))
  have hbq3 := hbq2.alloc hbq2.size (.cells #[.slice a n1 ca, .slice (some ⟨w3.heap.size, 0, none⟩) 1 1, .slice a3 n3 c3] 55)
  subst hn1 hn3
  have h1 : (l.take i).length ≤ l.length := by rw [List.length_take]; omega
  have h2 : (l.drop j).length ≤ l.length := by rw [List.length_drop]; omega
  have e1 : ((w3.drewN n).alloc (.cells #[.string ⟨s.toArray⟩, .string ⟨v.toArray⟩] 78)).heap.size = w3.heap.size + 1 := by simp
  have B1 := Blk.new (w3.drewN n) #[.string ⟨s.toArray⟩, .string ⟨v.toArray⟩] 78
  have B1' := B1.below ((Below.refl _ _).alloc (Nat.le_refl _) (.cells #[.slice a (l.take i).length ca, .slice (some ⟨w3.heap.size, 0, none⟩) 1 1, .slice a3 (l.drop j).length c3] 55)) (by simp)
  have B2 := Blk.new ((w3.drewN n).alloc (.cells #[.string ⟨s.toArray⟩, .string ⟨v.toArray⟩] 78)) #[.slice a (l.take i).length ca, .slice (some ⟨w3.heap.size, 0, none⟩) 1 1, .slice a3 (l.drop j).length c3] 55
  rw [e1] at B2
  refine (concat3_any (w3.heap.size + 1) ⟨a, ca, l.take i⟩ ⟨some ⟨w3.heap.size, 0, none⟩, 1, [⟨s, v⟩]⟩ ⟨a3, c3, l.drop j⟩ _ B2.lt (by rw [B2.cell]; rfl) (by rw [B2.cell]; rfl) (by rw [B2.cell]; rfl) ((hA.below hbq3).take i) (At.one B1'.lt (by exact (B1'.cell 0).trans rfl) (by exact (B1'.cell 1).trans rfl)) (hA3.below hbq3) (by simp) (by simp only [List.length_cons, List.length_nil]; omega)).mono ?_
  rintro e w' ⟨⟨r, rfl, hO⟩, hb4⟩
  have hbz := below_drewN (Below.refl w3.heap.size w3) n
  refine ⟨⟨r, rfl, ?_⟩, hbq3.trans (hb4.mono hbq3.size), ((hbz.alloc hbz.size _).alloc (by simp) _).trans (hb4.mono (by simp; omega))⟩
  have h := hO.mono (B' := w.heap.size) hbq3.size
  simpa using h

/-! ### where a name is set -/
theorem posL_none {l : List Two} {s : Bytes} (hf : findI (fun x => geB x.name s) l = -1) : posL l s = l.length := by
  rcases findI_cases (fun x => geB x.name s) l with ⟨_, hall⟩ | ⟨k, hk, h, _⟩
  · unfold posL
    rw [List.findIdx_eq_length]
    intro x hx
    obtain ⟨i, hi, rfl⟩ := List.mem_iff_getElem.1 hx
    exact hall i hi
  · rw [h] at hf; omega
theorem posL_some {l : List Two} {s : Bytes} {k : Nat} (hk : k < l.length) (hf : findI (fun x => geB x.name s) l = (k : Int)) : posL l s = k := by
  rcases findI_cases (fun x => geB x.name s) l with ⟨h, _⟩ | ⟨k', hk', h, hp, hall⟩
  · rw [h] at hf; omega
  · have : k' = k := by rw [h] at hf; omega
    subst this
    unfold posL
    rw [List.findIdx_eq hk']
    exact ⟨hp, fun j hj => by simpa using hall j hj⟩
theorem hasAt_len (l : List Two) (s : Bytes) : hasAt l s l.length = false := by simp [hasAt]
theorem hasAt_lt {l : List Two} {s : Bytes} {k : Nat} (hk : k < l.length) : hasAt l s k = (l[k].name == s) := by simp [hasAt, List.getElem?_eq_getElem hk]
theorem setL_none {l : List Two} {s v : Bytes} (hf : findI (fun x => geB x.name s) l = -1) : setL l s v = l.take l.length ++ ⟨s, v⟩ :: l.drop l.length := by
  simp [setL, posL_none hf, hasAt_len]
theorem setL_eq {l : List Two} {s v : Bytes} {k : Nat} (hk : k < l.length) (hf : findI (fun x => geB x.name s) l = (k : Int)) (heq : (l[k].name == s) = true) : setL l s v = l.take k ++ ⟨s, v⟩ :: l.drop (k + 1) := by
  simp [setL, posL_some hk hf, hasAt_lt hk, heq]
theorem setL_ne {l : List Two} {s v : Bytes} {k : Nat} (hk : k < l.length) (hf : findI (fun x => geB x.name s) l = (k : Int)) (heq : (l[k].name == s) = false) : setL l s v = l.take k ++ ⟨s, v⟩ :: l.drop k := by
  simp [setL, posL_some hk hf, hasAt_lt hk, heq]

/-- a slice of the call's own, and an error's number -/
def SetGives (w : World) (R : List Two) (E : Int) (e : Ending) (w' : World) : Prop := (∃ r, e = .returned (.tuple #[r, .int .i64 E]) ∧ Own w' w.heap.size 78 2 encT r R) ∧ Below w.heap.size w w'

section
variable (a : Option Addr) (ca : Nat) (l : List Two) (s v : Bytes) (w : World)

set_option maxHeartbeats 2000000 in
theorem set_bad1 (hn : l.length ≤ 1048576) (hs : s.length ≤ 1048576) (hv : v.length ≤ 1048576) (hA : At w 2 encT a l) (hcap : l.length ≤ ca) (hsz : ∀ x ∈ l, x.name.length + x.value.length ≤ 9223372036854775807) (h1 : checkB l = false) :
    Calls Tryz.prog 159 #[.slice a l.length ca, .string ⟨s.toArray⟩, .string ⟨v.toArray⟩] w (SetGives w (setR l s v) (setE l s v)) := by
  have hE : setE l s v = 1 := by simp [setE, mayB, h1]
  have hR : setR l s v = [] := by simp [setR, mayB, h1]
  rw [hE, hR]
  have HA := Lib.hid hA
  have HS := Lib.hid hsz
  have H1 := Lib.hid h1
  clear hA hsz h1 hE hR
  go_enter Tryz.func159, Tryz.ntmps159
  go_wp2_with fail
  refine (check_any a ca l _ hn (HA.out.below ((Below.refl _ _).alloc (Nat.le_refl _) _)) HS.out).mono ?_
  rw [H1.out]
  rintro e w2 ⟨rfl, hb2⟩
  have hb := ((Below.refl w.heap.size w).alloc (Nat.le_refl _) (.cells #[.string ⟨s.toArray⟩] 9)).trans (hb2.mono (by simp))
  have hc : w2.cell? ⟨w.heap.size, 0, none⟩ = some (.string ⟨s.toArray⟩) := by rw [hb2.cell (p := ⟨w.heap.size, 0, none⟩) (by simp)]; simp
  have hlt2 : w.heap.size < w2.heap.size := by have := hb2.size; simp at this; omega
  go_wp2_with fail
  go_ret2
  exact ⟨⟨_, rfl, Own.nil _ _ _ _ _⟩, hb⟩

set_option maxHeartbeats 2000000 in
theorem set_bad2 (hn : l.length ≤ 1048576) (hs : s.length ≤ 1048576) (hv : v.length ≤ 1048576) (hA : At w 2 encT a l) (hcap : l.length ≤ ca) (hsz : ∀ x ∈ l, x.name.length + x.value.length ≤ 9223372036854775807) (h1 : checkB l = true) (h2 : nameB s = false) :
    Calls Tryz.prog 159 #[.slice a l.length ca, .string ⟨s.toArray⟩, .string ⟨v.toArray⟩] w (SetGives w (setR l s v) (setE l s v)) := by
  have hE : setE l s v = 1 := by simp [setE, mayB, h1, h2]
  have hR : setR l s v = [] := by simp [setR, mayB, h1, h2]
  rw [hE, hR]
  have HA := Lib.hid hA
  have HS := Lib.hid hsz
  have H1 := Lib.hid h1
  have H2 := Lib.hid h2
  clear hA hsz h1 h2 hE hR
  go_enter Tryz.func159, Tryz.ntmps159
  go_wp2_with fail
  refine (check_any a ca l _ hn (HA.out.below ((Below.refl _ _).alloc (Nat.le_refl _) _)) HS.out).mono ?_
  rw [H1.out]
  rintro e w2 ⟨rfl, hb2⟩
  have hb := ((Below.refl w.heap.size w).alloc (Nat.le_refl _) (.cells #[.string ⟨s.toArray⟩] 9)).trans (hb2.mono (by simp))
  have hc : w2.cell? ⟨w.heap.size, 0, none⟩ = some (.string ⟨s.toArray⟩) := by rw [hb2.cell (p := ⟨w.heap.size, 0, none⟩) (by simp)]; simp
  have hlt2 : w.heap.size < w2.heap.size := by have := hb2.size; simp at this; omega
  go_wp2_with fail
  refine (name_any s _ (by omega)).mono ?_
  rw [H2.out]
  rintro e w' ⟨rfl, rfl⟩
  go_wp2_with fail
  go_ret2
  exact ⟨⟨_, rfl, Own.nil _ _ _ _ _⟩, hb⟩

set_option maxHeartbeats 2000000 in
theorem set_bad3 (hn : l.length ≤ 1048576) (hs : s.length ≤ 1048576) (hv : v.length ≤ 1048576) (hA : At w 2 encT a l) (hcap : l.length ≤ ca) (hsz : ∀ x ∈ l, x.name.length + x.value.length ≤ 9223372036854775807) (h1 : checkB l = true) (h2 : nameB s = true) (h3 : validB v = false) :
    Calls Tryz.prog 159 #[.slice a l.length ca, .string ⟨s.toArray⟩, .string ⟨v.toArray⟩] w (SetGives w (setR l s v) (setE l s v)) := by
  have hE : setE l s v = 1 := by simp [setE, mayB, h1, h2, h3]
  have hR : setR l s v = [] := by simp [setR, mayB, h1, h2, h3]
  rw [hE, hR]
  have HA := Lib.hid hA
  have HS := Lib.hid hsz
  have H1 := Lib.hid h1
  have H2 := Lib.hid h2
  have H3 := Lib.hid h3
  clear hA hsz h1 h2 h3 hE hR
  go_enter Tryz.func159, Tryz.ntmps159
  go_wp2_with fail
  refine (check_any a ca l _ hn (HA.out.below ((Below.refl _ _).alloc (Nat.le_refl _) _)) HS.out).mono ?_
  rw [H1.out]
  rintro e w2 ⟨rfl, hb2⟩
  have hb := ((Below.refl w.heap.size w).alloc (Nat.le_refl _) (.cells #[.string ⟨s.toArray⟩] 9)).trans (hb2.mono (by simp))
  have hc : w2.cell? ⟨w.heap.size, 0, none⟩ = some (.string ⟨s.toArray⟩) := by rw [hb2.cell (p := ⟨w.heap.size, 0, none⟩) (by simp)]; simp
  have hlt2 : w.heap.size < w2.heap.size := by have := hb2.size; simp at this; omega
  go_wp2_with fail
  refine (name_any s _ (by omega)).mono ?_
  rw [H2.out]
  rintro e w' ⟨rfl, rfl⟩
  go_wp2_with fail
  refine (valid_any v _ (by omega)).mono ?_
  rw [H3.out]
  rintro e w' ⟨rfl, rfl⟩
  go_wp2_with fail
  go_ret2
  exact ⟨⟨_, rfl, Own.nil _ _ _ _ _⟩, hb⟩

set_option maxHeartbeats 2000000 in
theorem set_full1 (hn : l.length ≤ 1048576) (hs : s.length ≤ 1048576) (hv : v.length ≤ 1048576) (hA : At w 2 encT a l) (hcap : l.length ≤ ca) (hsz : ∀ x ∈ l, x.name.length + x.value.length ≤ 9223372036854775807) (h1 : checkB l = true) (h2 : nameB s = true) (h3 : validB v = true) (hf : findI (fun x => geB x.name s) l = -1) (hfull : fullB l s = true) (h64 : 64 ≤ l.length) :
    Calls Tryz.prog 159 #[.slice a l.length ca, .string ⟨s.toArray⟩, .string ⟨v.toArray⟩] w (SetGives w (setR l s v) (setE l s v)) := by
  have hE : setE l s v = 3 := by simp [setE, mayB, h1, h2, h3, hfull]
  have hR : setR l s v = [] := by simp [setR, mayB, h1, h2, h3, hfull]
  rw [hE, hR]
  have HA := Lib.hid hA
  have HS := Lib.hid hsz
  have H1 := Lib.hid h1
  have H2 := Lib.hid h2
  have H3 := Lib.hid h3
  have H4 := Lib.hid hfull
  clear hA hsz h1 h2 h3 hE hR
  have HF := Lib.hid hf
  clear hf
  go_enter Tryz.func159, Tryz.ntmps159
  go_wp2_with fail
  refine (check_any a ca l _ hn (HA.out.below ((Below.refl _ _).alloc (Nat.le_refl _) _)) HS.out).mono ?_
  rw [H1.out]
  rintro e w2 ⟨rfl, hb2⟩
  have hb := ((Below.refl w.heap.size w).alloc (Nat.le_refl _) (.cells #[.string ⟨s.toArray⟩] 9)).trans (hb2.mono (by simp))
  have hc : w2.cell? ⟨w.heap.size, 0, none⟩ = some (.string ⟨s.toArray⟩) := by rw [hb2.cell (p := ⟨w.heap.size, 0, none⟩) (by simp)]; simp
  have hlt2 : w.heap.size < w2.heap.size := by have := hb2.size; simp at this; omega
  go_wp2_with fail
  refine (name_any s _ (by omega)).mono ?_
  rw [H2.out]
  rintro e w' ⟨rfl, rfl⟩
  go_wp2_with fail
  refine (valid_any v _ (by omega)).mono ?_
  rw [H3.out]
  rintro e w' ⟨rfl, rfl⟩
  go_wp2_with fail
  refine (find_set1 _ (fun x => geB x.name s) a ca l _ hn (HA.out.below hb) (set1_asks s w.heap.size _ hc hlt2)).mono ?_
  rw [HF.out]
  rintro e w3 ⟨rfl, hb3⟩
  have hb' := hb.trans (hb3.mono hb.size)
  have hc3 : w3.cell? ⟨w.heap.size, 0, none⟩ = some (.string ⟨s.toArray⟩) := by rw [hb3.cell (p := ⟨w.heap.size, 0, none⟩) hlt2]; exact hc
  go_wp2_with fail
  go_quiet (fail)
  go_wp2_with fail
  go_ret2
  exact ⟨⟨_, rfl, Own.nil _ _ _ _ _⟩, below_drewN hb' _⟩

set_option maxHeartbeats 2000000 in
theorem set_full2 (hn : l.length ≤ 1048576) (hs : s.length ≤ 1048576) (hv : v.length ≤ 1048576) (hA : At w 2 encT a l) (hcap : l.length ≤ ca) (hsz : ∀ x ∈ l, x.name.length + x.value.length ≤ 9223372036854775807) (h1 : checkB l = true) (h2 : nameB s = true) (h3 : validB v = true) (k : Nat) (hk : k < l.length) (hf : findI (fun x => geB x.name s) l = (k : Int)) (heq : (l[k].name == s) = false) (hfull : fullB l s = true) (h64 : 64 ≤ l.length) :
    Calls Tryz.prog 159 #[.slice a l.length ca, .string ⟨s.toArray⟩, .string ⟨v.toArray⟩] w (SetGives w (setR l s v) (setE l s v)) := by
  have hE : setE l s v = 3 := by simp [setE, mayB, h1, h2, h3, hfull]
  have hR : setR l s v = [] := by simp [setR, mayB, h1, h2, h3, hfull]
  rw [hE, hR]
  have HA := Lib.hid hA
  have HS := Lib.hid hsz
  have H1 := Lib.hid h1
  have H2 := Lib.hid h2
  have H3 := Lib.hid h3
  have H4 := Lib.hid hfull
  clear hA hsz h1 h2 h3 hE hR
  have hi1 : (0 : Int) ≤ (k : Int) := by omega
  have hi2 : (k : Int) ≤ (ca : Int) := by omega
  have hi3 : (0 : Int) ≤ (k : Int) + 1 := by omega
  have hi4 : (k : Int) + 1 ≤ (l.length : Int) := by omega
  have hi5 : (k : Int) ≤ (l.length : Int) := by omega
  have hi6 : (k : Int) ≤ (k : Int) + 1 := by omega
  have HF := Lib.hid hf
  clear hf
  go_enter Tryz.func159, Tryz.ntmps159
  go_wp2_with fail
  refine (check_any a ca l _ hn (HA.out.below ((Below.refl _ _).alloc (Nat.le_refl _) _)) HS.out).mono ?_
  rw [H1.out]
  rintro e w2 ⟨rfl, hb2⟩
  have hb := ((Below.refl w.heap.size w).alloc (Nat.le_refl _) (.cells #[.string ⟨s.toArray⟩] 9)).trans (hb2.mono (by simp))
  have hc : w2.cell? ⟨w.heap.size, 0, none⟩ = some (.string ⟨s.toArray⟩) := by rw [hb2.cell (p := ⟨w.heap.size, 0, none⟩) (by simp)]; simp
  have hlt2 : w.heap.size < w2.heap.size := by have := hb2.size; simp at this; omega
  go_wp2_with fail
  refine (name_any s _ (by omega)).mono ?_
  rw [H2.out]
  rintro e w' ⟨rfl, rfl⟩
  go_wp2_with fail
  refine (valid_any v _ (by omega)).mono ?_
  rw [H3.out]
  rintro e w' ⟨rfl, rfl⟩
  go_wp2_with fail
  refine (find_set1 _ (fun x => geB x.name s) a ca l _ hn (HA.out.below hb) (set1_asks s w.heap.size _ hc hlt2)).mono ?_
  rw [HF.out]
  rintro e w3 ⟨rfl, hb3⟩
  have hb' := hb.trans (hb3.mono hb.size)
  have hc3 : w3.cell? ⟨w.heap.size, 0, none⟩ = some (.string ⟨s.toArray⟩) := by rw [hb3.cell (p := ⟨w.heap.size, 0, none⟩) hlt2]; exact hc
  obtain ⟨b, off, ha, hbl, hc0, hc1⟩ := (HA.out.below hb').two hk
  subst ha
  go_wp2_with fail
  go_quiet (fail)
  go_wp2_with fail
  go_ret2
  exact ⟨⟨_, rfl, Own.nil _ _ _ _ _⟩, below_drewN hb' _⟩
end
end Go.Proofs.YtfedkhicckgjaaaGreatDoor

namespace Go.Proofs.YtfedkhicckgjaaaGreatDoor
open Go.RowKit
set_option linter.unusedVariables false

def notB (s : Bytes) (x : Two) : Bool := !(x.name == s)
def unsetR (l : List Two) (s : Bytes) : List Two := if (checkB l && nameB s) = true then l.filter (notB s) else []
def unsetE (l : List Two) (s : Bytes) : Int := if (checkB l && nameB s) = true then 0 else 1
theorem filter_take_succ {l : List Two} (p : Two → Bool) {k : Nat} (h : k < l.length) : (l.take (k + 1)).filter p = (l.take k).filter p ++ (if p l[k] = true then [l[k]] else []) := by
  rw [List.take_succ_eq_append_getElem h, List.filter_append]
  cases hp : p l[k] <;> simp [hp]
theorem filter_take_len {l : List Two} (p : Two → Bool) {k : Nat} (h : k ≤ l.length) : ((l.take k).filter p).length ≤ k := by
  have := List.length_filter_le p (l.take k)
  rw [List.length_take] at this
  omega

section
variable (a : Option Addr) (ca : Nat) (l : List Two) (s : Bytes) (w : World)

set_option maxHeartbeats 2000000 in
theorem unset_any (hn : l.length ≤ 1048576) (hs : s.length ≤ 1048576) (hA : At w 2 encT a l) (hsz : ∀ x ∈ l, x.name.length + x.value.length ≤ 9223372036854775807) :
    Calls Tryz.prog 162 #[.slice a l.length ca, .string ⟨s.toArray⟩] w (SetGives w (unsetR l s) (unsetE l s)) := by
  have HA := Lib.hid hA
  have HS := Lib.hid hsz
  clear hA hsz
  cases h1 : checkB l
  · have hR : unsetR l s = [] := by simp [unsetR, h1]
    have hE : unsetE l s = 1 := by simp [unsetE, h1]
    rw [hR, hE]
    have H1 := Lib.hid h1
    clear h1 hR hE
    go_enter Tryz.func162, Tryz.ntmps162
    go_wp2_with fail
    refine (check_any a ca l _ hn HA.out HS.out).mono ?_
    rw [H1.out]
    rintro e w2 ⟨rfl, hb2⟩
    go_wp2_with fail
    go_ret2
    exact ⟨⟨_, rfl, Own.nil _ _ _ _ _⟩, hb2⟩
  cases h2 : nameB s
  · have hR : unsetR l s = [] := by simp [unsetR, h2]
    have hE : unsetE l s = 1 := by simp [unsetE, h2]
    rw [hR, hE]
    have H1 := Lib.hid h1
    have H2 := Lib.hid h2
    clear h1 h2 hR hE
    go_enter Tryz.func162, Tryz.ntmps162
    go_wp2_with fail
    refine (check_any a ca l _ hn HA.out HS.out).mono ?_
    rw [H1.out]
    rintro e w2 ⟨rfl, hb2⟩
    go_wp2_with fail
    refine (name_any s _ (by omega)).mono ?_
    rw [H2.out]
    rintro e w' ⟨rfl, rfl⟩
    go_wp2_with fail
    go_ret2
    exact ⟨⟨_, rfl, Own.nil _ _ _ _ _⟩, hb2⟩
  · have hR : unsetR l s = l.filter (notB s) := by simp [unsetR, h1, h2]
    have hE : unsetE l s = 0 := by simp [unsetE, h1, h2]
    rw [hR, hE]
    have H1 := Lib.hid h1
    have H2 := Lib.hid h2
    clear h1 h2 hR hE
    go_enter Tryz.func162, Tryz.ntmps162
    go_wp2_with fail
    refine (check_any a ca l _ hn HA.out HS.out).mono ?_
    rw [H1.out]
    rintro e w2 ⟨rfl, hb2⟩
    go_wp2_with fail
    refine (name_any s _ (by omega)).mono ?_
    rw [H2.out]
    rintro e w' ⟨rfl, rfl⟩
    go_wp2_with fail
    go_loopw [6, 19] (fun v6 v19 wr => ∃ k : Nat, k ≤ l.length ∧ v19 = .int .i64 k ∧ Hid (Own wr w.heap.size 78 2 encT v6 ((l.take k).filter (notB s))) ∧ Below w.heap.size w wr) (fun _ v19 _ => l.length - (intOf v19).toNat)
    case atStart => exact ⟨0, by omega, rfl, Own.nil _ _ _ _ _, hb2⟩
    case round =>
      obtain ⟨k, hk, rfl, HO, hb⟩ := hrel
      by_cases hlt : k < l.length
      · obtain ⟨b, off, ha, hbl, hc0, hc1⟩ := (HA.out.below hb).two hlt
        subst ha
        have hT := filter_take_succ (notB s) hlt
        have hL := filter_take_len (notB s) hk
        have hz := hb.size
        cases hp : (l[k].name == s)
        · rw [if_pos (by simp [notB, hp])] at hT
          have HT := Lib.hid hT
          clear hT
          go_wp2_with (at_builtin; refine wpList_push rfl _ _ 55 rfl w.heap.size 78 2 32 slattrs encT encT_ok _ ((l.take k).filter (notB s)) rfl ((HO.out.alloc _).alloc _) l[k] (wr.heap.size + 1) rfl (by intro j u hj; match j, hj with | 0, hj => (simp [encT] at hj; subst hj; simp) | 1, hj => (simp [encT] at hj; subst hj; simp) | j + 2, hj => simp [encT] at hj) (by omega) (by unfold maxLen; omega) w ((hb.alloc hz _).alloc (by simp; omega) _) (by simp; omega) ?_; intro v2 w3 hown2 hb3 _)
          go_roundw
          case rel => exact ⟨k + 1, by omega, by go_num, by show Own _ _ _ _ _ _ _; rw [HT.out]; exact hown2, hb3⟩
          case measure => simp [intOf]; omega
        · rw [if_neg (by simp [notB, hp]), List.append_nil] at hT
          have HT := Lib.hid hT
          clear hT
          go_wp2_with fail
          go_roundw
          case rel => exact ⟨k + 1, by omega, by go_num, by show Own _ _ _ _ _ _ _; rw [HT.out]; exact HO.out.alloc _, hb.alloc hz _⟩
          case measure => simp [intOf]; omega
      · obtain rfl : k = l.length := by omega
        have HO2 := HO.out
        rw [List.take_length] at HO2
        have HO3 := Lib.hid HO2
        clear HO2
        go_wp2_with fail
        go_ret2
        exact ⟨⟨_, rfl, HO3.out⟩, hb⟩
end
end Go.Proofs.YtfedkhicckgjaaaGreatDoor
