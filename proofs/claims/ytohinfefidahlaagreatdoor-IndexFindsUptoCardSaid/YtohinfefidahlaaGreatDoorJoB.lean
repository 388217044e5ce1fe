/- Slices of bytes that the call made itself. Nothing of a program is named here. letters.Lower, binderyref01.Lower; is a byte a letter or a digit? letters.key: the iterator of the letters and digits. -/
import Derived.Test.YtohinfefidahlaaGreatDoorHeld
import Derived.Lib.AppendStr
import Derived.Lib.BufferRead
import Derived.Test.YtohinfefidahlaaGreatDoorSlug
import Derived.OwnWalk
import Derived.RangeFuncNested
import Derived.RangeFuncBound
import Derived.RangeFuncCalls
import Derived.RangeFuncLeaves
import Derived.Shelf.Abstract
import Derived.Shelf.RegionOpen
import Derived.WalkKit
import Derived.OwnWalkIn
import Derived.TacticsInMore
import Derived.LoopNIn
import Derived.LoopIn
import Derived.Maps.AppendAt
import Derived.Stop.RegionWithIn
import Derived.BigQuiet
namespace Go.Proofs.YtohinfefidahlaaGreatDoor
open Go.RowKit
set_option linter.unusedVariables false

def encB (c : UInt8) : List Value := [.int .u8 c.toNat]
theorem encB_ok : Enc 1 encB := ⟨fun _ => rfl, fun x u hu => by simp [encB] at hu; subst hu; rfl⟩
theorem encB_flat (l : Bytes) : l.flatMap encB = Lib.strCells ⟨l.toArray⟩ := by
  unfold Lib.strCells
  simp only
  induction l with
  | nil => rfl
  | cons c l ih => rw [List.flatMap_cons, ih]; rfl

/-- what is put behind one of the call's own slices leaves those of other kinds -/
theorem Own.grownOther {α β : Type} {w w' : World} {B B' : Nat} {e e' : TypeId} {sz sz' : Nat} {enc : α → List Value} {enc' : β → List Value} {v v' : Value} {l : List α} {l' : List β}
    (h : Own w B e sz enc v l) (h' : Own w B' e' sz' enc' v' l') (he : e ≠ e') (hg : w.grownBy w' v'.ownBlock) : Own w' B e sz enc v l :=
  h.kept fun k hk => hg.block k (h.block k hk).2 fun ee => h.ne_own h' he k hk ee.symm

section
variable {P : Program} {w : World} {ops : Array Oper} {rest : List Oper} {o : Oper} {a : Act} {Q : Exit → Act → World → Prop}
/-- append(out, s...), s a string -/
theorem wpList_cats (hgd : o.guard = none) (sl x : Operand) (t u : TypeId) (ho : o.op = .call { callee := .builtin .append, args := #[sl, x], argTypes := #[t, u] })
    (B : Nat) (e : TypeId) (hT : SlTy P t e 1 1) (hz : (P.info? e).map (·.zero) = some (some (.int .u8 0))) (hu : P.underlying u = some .string)
    (v : Value) (l : Bytes) (hs : a.eval sl = v) (hown : Own w B e 1 encB v l) (s : Bytes) (hx : a.eval x = .string ⟨s.toArray⟩)
    (hroom : l.length + s.length ≤ 140737488355328) (hmax : l.length + s.length ≤ maxLen) (W : World) (hB : Below B W w) (hBs : B ≤ w.heap.size)
    (h : ∀ v' w', Own w' B e 1 encB v' (l ++ s) → Below B W w' → w.grownBy w' v.ownBlock → wpList P ops Q rest (a.put o.dst v') w') : wpList P ops Q (o :: rest) a w := by
  obtain ⟨hu1, z, hi, hzz, hsz⟩ := hT
  obtain ⟨i, hi1, hi2, hi3, hi4⟩ := info_parts hi
  rw [hi1] at hz
  simp only [Option.map_some, Option.some.injEq] at hz
  have hsize : (ByteArray.mk s.toArray).size = s.length := size_mk s
  refine Lib.wpList_append_own_string w hgd sl x t u ho B e i hu1 hu hi1 hz hi3 hi4 v l.length (l.flatMap encB) hs hown ⟨s.toArray⟩ hx (by rw [hsize]; exact hmax) (by rw [hsize]; exact hroom) hBs ?_
  intro v' w' h1 h2 _
  refine h v' w' ?_ (hB.grown h2 hBs (fun k hk => (hown.lt k hk).1)) h2
  unfold Own
  rw [List.length_append, List.flatMap_append, encB_flat s, ← hsize]
  exact h1

/-- string(out) of the call's own bytes -/
theorem run_str_own {B : Nat} (src dst e : TypeId) (hs : P.underlying src = some (.slice e)) (he : P.underlying e = some (.int .u8)) (hd : P.underlying dst = some .string)
    {v : Value} {l : Bytes} (hown : Own w B e 1 encB v l) : (convert src dst v).run P w = .ok (.string ⟨l.toArray⟩) w := by
  rcases hown.2 with ⟨rfl, h0⟩ | ⟨g, cap, cur, rfl, hb, hg, hnc, hcm, hcs, htake⟩
  · have : l = [] := List.eq_nil_of_length_eq_zero h0
    subst this
    exact Lib.run_convert_nil_bytes w src dst e 0 hs he hd
  · have h2 : Own w B e 1 encB (.slice (some ⟨g, 0, none⟩) l.length cap) l := hown
    refine run_bytes_str w src dst e hs he hd g 0 l.length cap l rfl fun i hi => ?_
    have := h2.cellAt encB_ok (k := i) (x := l.getD i 0) (by rw [List.getElem?_eq_getElem hi, List.getD_eq_getElem?_getD, List.getElem?_eq_getElem hi]; rfl) (j := 0) rfl
    rw [Nat.zero_add]
    simpa using this
theorem wpList_str_own (hgd : o.guard = none) (x : Operand) (src dst e : TypeId) (ho : o.op = .convert src dst x) {B : Nat} {v : Value} (hx : a.eval x = v)
    (hs : P.underlying src = some (.slice e)) (he : P.underlying e = some (.int .u8)) (hd : P.underlying dst = some .string) (l : Bytes) (hown : Own w B e 1 encB v l)
    (h : wpList P ops Q rest (a.put o.dst (.string ⟨l.toArray⟩)) w) : wpList P ops Q (o :: rest) a w := by
  refine wpList_plain hgd fun K hK => ?_
  have hrun := run_str_own (P := P) src dst e hs he hd hown
  unfold Oper.wp
  simp only [execOp, ho, hx, Sem.run_bind, hrun, Result.andThen_ok, Sem.run_pure]
  exact hK _ _ h
end
end Go.Proofs.YtohinfefidahlaaGreatDoor

namespace Go.Proofs.YtohinfefidahlaaGreatDoor
open Go.RowKit
set_option linter.unusedVariables false

theorem bytes_sl : SlTy Tryz.prog 65 5 1 1 := ⟨Tryz.underlying65, .int .u8 0, by kernel_rfl, rfl, by decide⟩
theorem made_zero (n : Nat) : (madeCells #[Value.int .u8 0] (n * 1)).toList = (List.replicate n (0 : UInt8)).flatMap encB := by
  have h2 : (List.replicate n (0 : UInt8)).flatMap encB = List.replicate n (.int .u8 0) := by
    induction n with
    | zero => rfl
    | succ n ih => rw [List.replicate_succ, List.flatMap_cons, ih]; rfl
  rw [h2, Nat.mul_one]
  apply List.ext_getElem?
  intro i
  unfold madeCells
  by_cases hi : i < n
  · simp [hi, Nat.mod_one]
  · rw [List.getElem?_eq_none (by simp; omega), List.getElem?_eq_none (by simp; omega)]
theorem infoB : (Tryz.prog.info? 5).map (fun i => (i.zero, i.size, i.bytes)) = some (some (.int .u8 0), 1, 1) := by kernel_rfl
set_option maxHeartbeats 1000000 in
theorem lowF_any (c : UInt8) (w : World) : Calls Tryz.prog 166 #[.int .u8 c.toNat] w fun e w' => e = .returned (.int .u8 (lowB c).toNat) ∧ w = w' := by
  have hc : c.toNat < 256 := c.toNat_lt
  by_cases h : 65 ≤ c.toNat ∧ c.toNat ≤ 90
  · obtain ⟨_, h2⟩ := lowB_up h
    have H2 := Lib.hid h2
    obtain ⟨h3, h4⟩ := h
    clear h2
    go_enter Tryz.func166, Tryz.ntmps166
    go_wp2
    go_ret
    exact ⟨by rw [H2.out]; rfl, rfl⟩
  · have H := Lib.hid (lowB_not h)
    have h5 : c.toNat < 65 ∨ 91 ≤ c.toNat := by omega
    clear h
    rcases h5 with h5 | h5
    all_goals
      go_enter Tryz.func166, Tryz.ntmps166
      go_wp2
      go_ret
      exact ⟨by rw [H.out]; rfl, rfl⟩

def vB (c : UInt8) : Value := .int .u8 c.toNat
theorem wpList_conv_of {P : Program} {w : World} {ops : Array Oper} {rest : List Oper} {o : Oper} {a : Act} {Q : Exit → Act → World → Prop} (hgd : o.guard = none) (x : Operand) (src dst : TypeId) {v r : Value}
    (ho : o.op = .convert src dst x) (hx : a.eval x = v) (hrun : (convert src dst v).run P w = .ok r w) (h : wpList P ops Q rest (a.put o.dst r) w) : wpList P ops Q (o :: rest) a w := by
  refine wpList_plain hgd fun K hK => ?_
  unfold Oper.wp
  simp only [execOp, ho, hx, Sem.run_bind, hrun, Result.andThen_ok, Sem.run_pure]
  exact hK _ _ h
/-- the first k bytes are small ones -/
def lowTo (s : Bytes) (t : Bytes) (k : Nat) : Bytes := (s.take k).map lowB ++ t.drop k
theorem lowTo_zero (s t : Bytes) : lowTo s t 0 = t := rfl
theorem lowTo_len (s t : Bytes) (k : Nat) (h : k ≤ s.length) (ht : t.length = s.length) : (lowTo s t k).length = s.length := by unfold lowTo; simp; omega
theorem lowTo_all (s t : Bytes) (ht : t.length = s.length) : lowTo s t s.length = lowS s := by
  unfold lowTo lowS; rw [List.take_length, List.drop_of_length_le (by omega), List.append_nil]
theorem lowTo_set (s t : Bytes) (k : Nat) (h : k < s.length) (ht : t.length = s.length) : (lowTo s t k).set k (lowB s[k]) = lowTo s t (k + 1) := by
  unfold lowTo
  rw [List.set_append_right _ _ (by simp; omega)]
  have : k - ((s.take k).map lowB).length = 0 := by simp; omega
  rw [this, List.drop_eq_getElem_cons (by omega), List.set_cons_zero, List.take_succ_eq_append_getElem h, List.map_append, List.append_assoc]
  rfl
theorem lowTo_at (s t : Bytes) (k : Nat) (h : k < s.length) (ht : t.length = s.length) : (lowTo s t k)[k]? = t[k]? := by
  unfold lowTo
  rw [List.getElem?_append_right (by simp; omega)]
  simp
  congr 1; omega

section
variable (s : Bytes) (w : World)
set_option maxHeartbeats 2000000 in
theorem change_any (hs : s.length ≤ 1000000000) :
    Calls Tryz.prog 165 #[.string ⟨s.toArray⟩, .func (.func 166) #[] #[]] w fun e w' => e = .returned (.string ⟨(lowS s).toArray⟩) ∧ Below w.heap.size w w' := by
  obtain ⟨i, hi1, hi2, hi3, hi4⟩ := info_parts infoB
  have hby : i.bytes * s.length ≤ 281474976710656 := by rw [hi4]; omega
  have HI2 := Lib.hid hi2
  have HI3 := Lib.hid hi3
  have HI4 := Lib.hid hi4
  have HI1 := Lib.hid hi1
  clear hi1 hi2 hi3 hi4
  go_enter Tryz.func165, Tryz.ntmps165
  go_wp2_with (at_make; refine wpList_make_full _ rfl _ _ 65 rfl w.heap.size 5 i (.int .u8 0) 1 Tryz.underlying65 HI1.out HI2.out HI3.out .i64 .i64 _ _ s.length rfl rfl (by simp) (by simp) hby (by unfold maxLen; omega) (Nat.le_refl _) ?_; intro w1 hown hg1)
  have hOw : Own w1 w.heap.size 5 1 encB (.slice (some ⟨w.heap.size, 0, none⟩) s.length s.length) (List.replicate s.length (0 : UInt8)) := by
    unfold Own
    rw [← made_zero, List.length_replicate]
    exact hown
  have HO0 := Lib.hid hOw
  have hb1 : Below w.heap.size w w1 := (Below.refl _ _).grown hg1 (Nat.le_refl _) (fun k hk => by cases hk)
  have hgl := (hOw.block w.heap.size rfl).2
  clear hown hOw hg1
  generalize hzz : List.replicate s.length (0 : UInt8) = zs at *
  have hzl : zs.length = s.length := by rw [← hzz]; simp
  have HZL := Lib.hid hzl
  clear hzz hzl
  go_loopw [12] (fun v12 wr => ∃ k : Nat, k ≤ s.length ∧ v12 = .int .i64 k ∧ Hid (Own wr w.heap.size 5 1 encB (.slice (some ⟨w.heap.size, 0, none⟩) s.length s.length) (lowTo s zs k)) ∧ Below w.heap.size w wr) (fun v12 _ => s.length - (intOf v12).toNat)
  case atStart => exact ⟨0, by omega, rfl, HO0, hb1⟩
  case round =>
    obtain ⟨k, hk, rfl, HO, hb⟩ := hrel
    by_cases hlt : k < s.length
    · have hzk : k < zs.length := by rw [HZL.out]; exact hlt
      have z0 := HO.out.cellAt encB_ok (k := k) (x := zs[k]) (by rw [lowTo_at s zs k hlt HZL.out, List.getElem?_eq_getElem hzk]) (j := 0) rfl
      rw [Nat.mul_one, Nat.add_zero] at z0
      have f0 := HO.out.freeAt k
      have hset := HO.out.setAt encB_ok (k := k) (by rw [lowTo_len s zs k hk HZL.out]; exact hlt) (p := 0) (by decide) (.int .u8 (lowB s[k]).toNat) (lowB s[k]) rfl
      rw [lowTo_set s zs k hlt HZL.out, Nat.mul_one, Nat.add_zero] at hset
      have HSET := Lib.hid hset
      have hbz := hb.setCell (p := ⟨w.heap.size, k, none⟩) (Nat.le_refl _) (.int .u8 (lowB s[k]).toNat)
      clear hset
      go_wp2_with (go_at_call 166; refine (lowF_any s[k] _).mono ?_; rintro e w' ⟨rfl, rfl⟩)
      go_roundw
      case rel => exact ⟨k + 1, by omega, by go_num, HSET, hbz⟩
      case measure => simp [intOf]; omega
    · obtain rfl : k = s.length := by omega
      have HO2 := HO.out
      rw [lowTo_all s zs HZL.out] at HO2
      have HO3 := Lib.hid HO2
      clear HO2
      go_wp2_with (refine wpList_str_own rfl _ _ _ 5 rfl rfl Tryz.underlying65 Tryz.underlying5 Tryz.underlying9 (lowS s) (B := w.heap.size) (by have h := HO3.out; exact h) ?_)
      go_ret
      exact ⟨rfl, hb⟩
theorem lower_any (hs : s.length ≤ 1000000000) :
    Calls Tryz.prog 144 #[.string ⟨s.toArray⟩] w fun e w' => e = .returned (.string ⟨(lowS s).toArray⟩) ∧ Below w.heap.size w w' := by
  go_enter Tryz.func144, Tryz.ntmps144
  go_wp2_with fail
  refine (change_any s _ hs).mono ?_
  rintro e w1 ⟨rfl, hb⟩
  go_wp2_with fail
  go_ret
  exact ⟨rfl, hb⟩

theorem anB_true {c : UInt8} (h : (48 ≤ c.toNat ∧ c.toNat ≤ 57) ∨ (97 ≤ c.toNat ∧ c.toNat ≤ 122) ∨ (65 ≤ c.toNat ∧ c.toNat ≤ 90)) : anB c = true := by unfold anB lnB; simp; omega
theorem anB_false {c : UInt8} (h : ¬ ((48 ≤ c.toNat ∧ c.toNat ≤ 57) ∨ (97 ≤ c.toNat ∧ c.toNat ≤ 122) ∨ (65 ≤ c.toNat ∧ c.toNat ≤ 90))) : anB c = false := by unfold anB lnB; simp; omega
end
end Go.Proofs.YtohinfefidahlaaGreatDoor

namespace Go.Proofs.YtohinfefidahlaaGreatDoor
open Go.RowKit
set_option linter.unusedVariables false
attribute [local go_sem] Oper.semAt_some

def letB (c : UInt8) : Bool := decide ((65 ≤ c.toNat ∧ c.toNat ≤ 90) ∨ (97 ≤ c.toNat ∧ c.toNat ≤ 122))
def digB (c : UInt8) : Bool := decide (48 ≤ c.toNat ∧ c.toNat ≤ 57)
def keyB (c : UInt8) : Bool := letB c || digB c
def keyF (s : Bytes) : Bytes := s.filter keyB
theorem keyF_take_succ (s : Bytes) {k : Nat} (h : k < s.length) : keyF (s.take (k + 1)) = keyF (s.take k) ++ (if keyB s[k] then [s[k]] else []) := by
  unfold keyF
  rw [List.take_succ_eq_append_getElem h, List.filter_append]
  congr 1
  by_cases hb : keyB s[k] = true
  · simp [hb]
  · simp [hb]
theorem keyF_take_le (s : Bytes) (k : Nat) : (keyF (s.take k)).length ≤ k := by
  unfold keyF
  have := List.length_filter_le keyB (s.take k)
  rw [List.length_take] at this; omega
theorem letB_true {c : UInt8} (h : (65 ≤ c.toNat ∧ c.toNat ≤ 90) ∨ (97 ≤ c.toNat ∧ c.toNat ≤ 122)) : letB c = true := decide_eq_true h
theorem letB_false {c : UInt8} (h : ¬ ((65 ≤ c.toNat ∧ c.toNat ≤ 90) ∨ (97 ≤ c.toNat ∧ c.toNat ≤ 122))) : letB c = false := decide_eq_false h
theorem digB_true {c : UInt8} (h : 48 ≤ c.toNat ∧ c.toNat ≤ 57) : digB c = true := decide_eq_true h
theorem digB_false {c : UInt8} (h : ¬ (48 ≤ c.toNat ∧ c.toNat ≤ 57)) : digB c = false := decide_eq_false h
set_option maxHeartbeats 1000000 in
theorem letF_any (c : UInt8) (w : World) : Calls Tryz.prog 180 #[.int .u8 c.toNat] w fun e w' => e = .returned (.bool (letB c)) ∧ w = w' := by
  have hc : c.toNat < 256 := c.toNat_lt
  have h5 : c.toNat < 65 ∨ (65 ≤ c.toNat ∧ c.toNat ≤ 90) ∨ (91 ≤ c.toNat ∧ c.toNat < 97) ∨ (97 ≤ c.toNat ∧ c.toNat ≤ 122) ∨ 123 ≤ c.toNat := by omega
  rcases h5 with h | h | h | h | h
  all_goals
    go_enter Tryz.func180, Tryz.ntmps180
    go_wp2
    go_ret
    refine ⟨?_, rfl⟩
    first
      | (have hh := letB_true (c := c) (by omega); rw [hh]; first | rfl | (simp; omega))
      | (have hh := letB_false (c := c) (by omega); rw [hh]; first | rfl | (simp; omega))
set_option maxHeartbeats 1000000 in
theorem digF_any (c : UInt8) (w : World) : Calls Tryz.prog 181 #[.int .u8 c.toNat] w fun e w' => e = .returned (.bool (digB c)) ∧ w = w' := by
  have hc : c.toNat < 256 := c.toNat_lt
  have h5 : c.toNat < 48 ∨ (48 ≤ c.toNat ∧ c.toNat ≤ 57) ∨ 58 ≤ c.toNat := by omega
  rcases h5 with h | h | h
  all_goals
    go_enter Tryz.func181, Tryz.ntmps181
    go_wp2
    go_ret
    refine ⟨?_, rfl⟩
    first
      | (have hh := digB_true (c := c) (by omega); rw [hh]; first | rfl | (simp; omega))
      | (have hh := digB_false (c := c) (by omega); rw [hh]; first | rfl | (simp; omega))
set_option maxHeartbeats 1000000 in
theorem keyp_any (c : UInt8) (w : World) : Calls Tryz.prog 179 #[.int .u8 c.toNat] w fun e w' => e = .returned (.bool (keyB c)) ∧ w = w' := by
  have h1 := Lib.hid (letF_any c)
  have h2 := Lib.hid (digF_any c)
  have h3 : keyB c = (letB c || digB c) := rfl
  rcases hl : letB c with _ | _
  · rw [hl] at h1 h3
    rcases hd : digB c with _ | _
    all_goals
      rw [hd] at h2 h3
      rw [h3]
      go_enter Tryz.func179, Tryz.ntmps179
      go_wp2_with (first | (go_at_call 180; refine (h1.out _).mono ?_; rintro e w' ⟨rfl, rfl⟩) | (go_at_call 181; refine (h2.out _).mono ?_; rintro e w' ⟨rfl, rfl⟩))
      go_ret
      exact ⟨rfl, rfl⟩
  · rw [hl] at h1 h3
    rw [h3]
    go_enter Tryz.func179, Tryz.ntmps179
    go_wp2_with (go_at_call 180; refine (h1.out _).mono ?_; rintro e w' ⟨rfl, rfl⟩)
    go_ret
    exact ⟨rfl, rfl⟩
set_option maxHeartbeats 2000000 in
theorem only_any (s : Bytes) (w : World) : Calls Tryz.prog 178 #[.string ⟨s.toArray⟩, .func (.func 179) #[] #[]] w fun e w' =>
    e = .returned (.func (.func 208) #[] #[.pointer (some ⟨w.heap.size, 0, none⟩), .pointer (some ⟨w.heap.size + 1, 0, none⟩)]) ∧
    w' = (w.alloc (.cells #[.string ⟨s.toArray⟩] 9)).alloc (.cells #[.func (.func 179) #[] #[]] 260) := by
  go_enter Tryz.func178, Tryz.ntmps178
  go_wp2
  go_ret
  exact ⟨by simp, rfl⟩

set_option maxRecDepth 100000 in
set_option maxHeartbeats 4000000 in
/-- the iterator hands the letters and digits on, in order, whatever the loop's body keeps -/
theorem only1_in (n : Nat) (hn : 1 ≤ n) (l Bs Bo : Nat) (s : Bytes) (hs : s.length ≤ 1000000) (J Jx : List UInt8 → World → Prop)
    (hJs : ∀ p W, J p W → W.cell? ⟨Bs, 0, none⟩ = some (.string ⟨s.toArray⟩)) (hJo : ∀ p W, J p W → W.cell? ⟨Bo, 0, none⟩ = some (.func (.func 179) #[] #[])) (hJd : ∀ p W m, J p W → J p (W.drewN m))
    (hY : ∀ p x W, J p W → p.length < s.length → YieldAt Fence.wide (n - 1) Tryz.prog l #[.int .u8 (x.toNat : Int)] W fun e W' => ∃ b, e = .returned (.bool b) ∧ (b = true → J (p ++ [x]) W') ∧ (b = false → Jx (p ++ [x]) W'))
    (W : World) (h0 : J [] W) :
    CallsIn Fence.wide n Tryz.prog 208 #[.func (.yield l) #[] #[], .pointer (some ⟨Bs, 0, none⟩), .pointer (some ⟨Bo, 0, none⟩)] W fun e W' => (∃ v, e = .returned v) ∧ (J (keyF s) W' ∨ ∃ pre, Jx pre W') := by
  have c1 := hJs _ _ h0
  have hx : ∀ f, Fence.wide.fn f := fun _ => trivial
  have hmix : Tryz.prog.follows .mixedOrders = true := by kernel_rfl
  refine callsIn_of_wp Tryz.func208 rfl trivial ?_ rfl
  simp only [Tryz.ntmps208, List.size_toArray, List.length_cons, List.length_nil, Nat.reduceAdd, Nat.reduceSub, Array.replicate_succ, Array.replicate_zero, List.push_toArray, List.append_toArray, List.nil_append, List.cons_append]
  gi_wp2
  gi_loopw [7] (fun v7 wr => ∃ k : Nat, k ≤ s.length ∧ v7 = .int .i64 k ∧ Hid (J (keyF (s.take k)) wr)) (fun v7 _ => s.length - (intOf v7).toNat)
  case atStart => exact ⟨0, by omega, rfl, h0⟩
  case round =>
    obtain ⟨k, hk, rfl, HJ⟩ := hrel
    by_cases hlt : k < s.length
    · have d1 := hJs _ _ HJ.out
      have d2 := hJo _ _ HJ.out
      have HT := Lib.hid (keyF_take_succ s hlt)
      rcases hb : keyB s[k] with _ | _
      · have hq := keyp_any s[k]
        rw [hb] at hq
        gi_wp2_with fail
        refine wpIn_wide.2 ?_
        go_quiet ((go_at_call 179; exact Calls.quiet_of_same ((hq _).mono fun _ _ h => ⟨h.1, h.2.symm⟩)))
        gi_wp2
        go_roundw
        case rel => exact ⟨k + 1, by omega, by go_num, by show J _ _; rw [HT.out, hb, if_neg (by decide), List.append_nil]; exact hJd _ _ _ HJ.out⟩
        case measure => simp [intOf]; omega
      · have hq := keyp_any s[k]
        rw [hb] at hq
        obtain ⟨fn, tmps, assign, body, hy, hR⟩ := hY _ s[k] wr.drew (hJd _ _ 1 HJ.out) (Nat.lt_of_le_of_lt (keyF_take_le s k) hlt)
        have HR := Lib.hid hR
        clear hR
        gi_wp2_with fail
        gi_region_with (first | (gi_at_call 179; refine (callsIn_wide.2 (hq _)).mono ?_; rintro e w' ⟨rfl, rfl⟩) | (refine HR.out.mono ?_; rintro e W2 ⟨b, rfl, hJ2, hX2⟩))
        all_goals
          rcases b with _ | _
          · gi_wp2
            refine bodyPost_ret (results_none rfl _ _ _) rfl ?_
            exact ⟨⟨_, rfl⟩, .inr ⟨_, hX2 (by simp)⟩⟩
          · gi_wp2
            go_roundw
            case rel => exact ⟨k + 1, by omega, by go_num, by show J _ _; rw [HT.out, hb, if_pos rfl]; exact hJ2 (by simp)⟩
            case measure => simp [intOf]; omega
    · obtain rfl : k = s.length := by omega
      have HJ2 := HJ.out
      rw [List.take_length] at HJ2
      gi_wp2
      go_end0
      exact ⟨⟨_, rfl⟩, .inl HJ2⟩

/-- what a round keeps: the two boxes that the iterator reads -/
def KeepB (Bs Bo : Nat) (A B : World) : Prop := B.heap[Bs]? = A.heap[Bs]? ∧ B.heap[Bo]? = A.heap[Bo]?
theorem keepB_t {Bs Bo : Nat} {A B C : World} (h : KeepB Bs Bo A B) (h2 : KeepB Bs Bo B C) : KeepB Bs Bo A C := ⟨h2.1.trans h.1, h2.2.trans h.2⟩
theorem keepB_b {Bs Bo m : Nat} (hs : Bs < m) (ho : Bo < m) (W : World) (l : Nat) (o o' : Obj) (hl : m ≤ l) (_ : W.heap[l]? = some o) (_ : o.isCells = false) (_ : o.isWalk = false) : KeepB Bs Bo W (W.putObj l o') :=
  ⟨World.putObj_heap_other (by omega), World.putObj_heap_other (by omega)⟩
theorem only1_stops (n : Nat) (hn : 1 ≤ n) (Bs Bo : Nat) (s : Bytes) (hs : s.length ≤ 1000000) (w : World) (hlt : Bs < w.heap.size ∧ Bo < w.heap.size)
    (c1 : w.cell? ⟨Bs, 0, none⟩ = some (.string ⟨s.toArray⟩)) (c2 : w.cell? ⟨Bo, 0, none⟩ = some (.func (.func 179) #[] #[])) :
    SeqStopsK Fence.wide n Tryz.prog 208 #[.pointer (some ⟨Bs, 0, none⟩), .pointer (some ⟨Bo, 0, none⟩)] (fun x : UInt8 => #[Value.int .u8 (x.toNat : Int)]) (KeepB Bs Bo) (fun ys => ys = keyF s) (fun _ => True) s.length w := by
  intro l J Jx W hW hJ hJx hY h0
  have g1 : W.cell? ⟨Bs, 0, none⟩ = some (.string ⟨s.toArray⟩) := (hW.cell (p := ⟨Bs, 0, none⟩) hlt.1).trans c1
  have g2 : W.cell? ⟨Bo, 0, none⟩ = some (.func (.func 179) #[] #[]) := (hW.cell (p := ⟨Bo, 0, none⟩) hlt.2).trans c2
  have h := only1_in n hn l Bs Bo s hs (fun p A => J p A ∧ A.cell? ⟨Bs, 0, none⟩ = some (.string ⟨s.toArray⟩) ∧ A.cell? ⟨Bo, 0, none⟩ = some (.func (.func 179) #[] #[])) Jx
    (fun p A hA => hA.2.1) (fun p A hA => hA.2.2)
    (fun p A m hA => ⟨hJ p A (A.drewN m) none hA.1 ⟨rfl, rfl, rfl, Nat.le_refl _, fun _ _ _ => rfl⟩ (fun r e => by cases e), hA.2⟩)
    (fun p x A hA hl => (hY p x A hA.1 hl).mono (fun e W' hr => by
      rcases hr with ⟨rfl, hj, hk⟩ | ⟨rfl, hx⟩
      · exact ⟨true, rfl, fun _ => ⟨hj, (World.cell?_of_block hk.1).trans hA.2.1, (World.cell?_of_block hk.2).trans hA.2.2⟩, fun e => by cases e⟩
      · exact ⟨false, rfl, fun e => (by cases e), fun _ => hx⟩))
    W ⟨h0, g1, g2⟩
  refine h.mono ?_
  rintro e W' ⟨hv, hj | ⟨pre, hx⟩⟩
  · exact ⟨hv, .inl ⟨_, rfl, hj.1⟩⟩
  · exact ⟨hv, .inr ⟨pre, trivial, hx⟩⟩
end Go.Proofs.YtohinfefidahlaaGreatDoor
