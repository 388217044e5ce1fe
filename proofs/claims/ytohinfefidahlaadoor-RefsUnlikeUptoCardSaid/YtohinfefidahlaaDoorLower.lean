/- letters.Lower, binderyref01.Lower; is a byte a letter or a digit? -/
import Derived.Test.YtohinfefidahlaaDoorSlug
import Derived.Test.YtohinfefidahlaaDoorBytesL
import Derived.OwnWalk
namespace Go.Proofs.YtohinfefidahlaaDoor
open Go.RowKit
set_option linter.unusedVariables false

theorem bytes_sl : SlTy Tryd.prog 78 5 1 1 := ⟨Tryd.underlying78, .int .u8 0, by kernel_rfl, rfl, by decide⟩
theorem made_zero (n : Nat) : (madeCells #[Value.int .u8 0] (n * 1)).toList = (List.replicate n (0 : UInt8)).flatMap encB := by
  have h2 : (List.replicate n (0 : UInt8)).flatMap encB = List.replicate n (.int .u8 0) := by
    induction n with
    | zero => rfl
    | succ n ih => rw [List.replicate_succ, List.flatMap_cons, ih]; rfl
  rw [h2, Nat.mul_one]
  apply List.ext_getElem?
  intro i
  unfold madeCells
  by_cases hi : i < n
  · simp [hi, Nat.mod_one]
  · rw [List.getElem?_eq_none (by simp; omega), List.getElem?_eq_none (by simp; omega)]
theorem infoB : (Tryd.prog.info? 5).map (fun i => (i.zero, i.size, i.bytes)) = some (some (.int .u8 0), 1, 1) := by kernel_rfl
set_option maxHeartbeats 1000000 in
theorem lowF_any (c : UInt8) (w : World) : Calls Tryd.prog 46 #[.int .u8 c.toNat] w fun e w' => e = .returned (.int .u8 (lowB c).toNat) ∧ w = w' := by
  have hc : c.toNat < 256 := c.toNat_lt
  by_cases h : 65 ≤ c.toNat ∧ c.toNat ≤ 90
  · obtain ⟨_, h2⟩ := lowB_up h
    have H2 := Lib.hid h2
    obtain ⟨h3, h4⟩ := h
    clear h2
    go_enter Tryd.func46, Tryd.ntmps46
    go_wp2
    go_ret
    exact ⟨by rw [H2.out]; rfl, rfl⟩
  · have H := Lib.hid (lowB_not h)
    have h5 : c.toNat < 65 ∨ 91 ≤ c.toNat := by omega
    clear h
    rcases h5 with h5 | h5
    all_goals
      go_enter Tryd.func46, Tryd.ntmps46
      go_wp2
      go_ret
      exact ⟨by rw [H.out]; rfl, rfl⟩

def vB (c : UInt8) : Value := .int .u8 c.toNat
theorem wpList_conv_of {P : Program} {w : World} {ops : Array Oper} {rest : List Oper} {o : Oper} {a : Act} {Q : Exit → Act → World → Prop} (hgd : o.guard = none) (x : Operand) (src dst : TypeId) {v r : Value}
    (ho : o.op = .convert src dst x) (hx : a.eval x = v) (hrun : (convert src dst v).run P w = .ok r w) (h : wpList P ops Q rest (a.put o.dst r) w) : wpList P ops Q (o :: rest) a w := by
  refine wpList_plain hgd fun K hK => ?_
  unfold Oper.wp
  simp only [execOp, ho, hx, Sem.run_bind, hrun, Result.andThen_ok, Sem.run_pure]
  exact hK _ _ h
/-- the first k bytes are small ones -/
def lowTo (s : Bytes) (t : Bytes) (k : Nat) : Bytes := (s.take k).map lowB ++ t.drop k
theorem lowTo_zero (s t : Bytes) : lowTo s t 0 = t := rfl
theorem lowTo_len (s t : Bytes) (k : Nat) (h : k ≤ s.length) (ht : t.length = s.length) : (lowTo s t k).length = s.length := by unfold lowTo; simp; omega
theorem lowTo_all (s t : Bytes) (ht : t.length = s.length) : lowTo s t s.length = lowS s := by
  unfold lowTo lowS; rw [List.take_length, List.drop_of_length_le (by omega), List.append_nil]
theorem lowTo_set (s t : Bytes) (k : Nat) (h : k < s.length) (ht : t.length = s.length) : (lowTo s t k).set k (lowB s[k]) = lowTo s t (k + 1) := by
  unfold lowTo
  rw [List.set_append_right _ _ (by simp; omega)]
  have : k - ((s.take k).map lowB).length = 0 := by simp; omega
  rw [this, List.drop_eq_getElem_cons (by omega), List.set_cons_zero, List.take_succ_eq_append_getElem h, List.map_append, List.append_assoc]
  rfl
theorem lowTo_at (s t : Bytes) (k : Nat) (h : k < s.length) (ht : t.length = s.length) : (lowTo s t k)[k]? = t[k]? := by
  unfold lowTo
  rw [List.getElem?_append_right (by simp; omega)]
  simp
  congr 1; omega

section
variable (s : Bytes) (w : World)
set_option maxHeartbeats 2000000 in
theorem change_any (hs : s.length ≤ 1000000000) :
    Calls Tryd.prog 45 #[.string ⟨s.toArray⟩, .func (.func 46) #[] #[]] w fun e w' => e = .returned (.string ⟨(lowS s).toArray⟩) ∧ Below w.heap.size w w' := by
  obtain ⟨i, hi1, hi2, hi3, hi4⟩ := info_parts infoB
  have hby : i.bytes * s.length ≤ 281474976710656 := by rw [hi4]; omega
  have HI2 := Lib.hid hi2
  have HI3 := Lib.hid hi3
  have HI4 := Lib.hid hi4
  have HI1 := Lib.hid hi1
  clear hi1 hi2 hi3 hi4
  go_enter Tryd.func45, Tryd.ntmps45
  go_wp2_with (at_make; refine wpList_make_full _ rfl _ _ 78 rfl w.heap.size 5 i (.int .u8 0) 1 Tryd.underlying78 HI1.out HI2.out HI3.out .i64 .i64 _ _ s.length rfl rfl (by simp) (by simp) hby (by unfold maxLen; omega) (Nat.le_refl _) ?_; intro w1 hown hg1)
  have hOw : Own w1 w.heap.size 5 1 encB (.slice (some ⟨w.heap.size, 0, none⟩) s.length s.length) (List.replicate s.length (0 : UInt8)) := by
    unfold Own
    rw [← made_zero, List.length_replicate]
    exact hown
  have HO0 := Lib.hid hOw
  have hb1 : Below w.heap.size w w1 := (Below.refl _ _).grown hg1 (Nat.le_refl _) (fun k hk => by cases hk)
  have hgl := (hOw.block w.heap.size rfl).2
  clear hown hOw hg1
  generalize hzz : List.replicate s.length (0 : UInt8) = zs at *
  have hzl : zs.length = s.length := by rw [← hzz]; simp
  have HZL := Lib.hid hzl
  clear hzz hzl
  go_loopw [12] (fun v12 wr => ∃ k : Nat, k ≤ s.length ∧ v12 = .int .i64 k ∧ Hid (Own wr w.heap.size 5 1 encB (.slice (some ⟨w.heap.size, 0, none⟩) s.length s.length) (lowTo s zs k)) ∧ Below w.heap.size w wr) (fun v12 _ => s.length - (intOf v12).toNat)
  case atStart => exact ⟨0, by omega, rfl, HO0, hb1⟩
  case round =>
    obtain ⟨k, hk, rfl, HO, hb⟩ := hrel
    by_cases hlt : k < s.length
    · have hzk : k < zs.length := by rw [HZL.out]; exact hlt
      have z0 := HO.out.cellAt encB_ok (k := k) (x := zs[k]) (by rw [lowTo_at s zs k hlt HZL.out, List.getElem?_eq_getElem hzk]) (j := 0) rfl
      rw [Nat.mul_one, Nat.add_zero] at z0
      have f0 := HO.out.freeAt k
      have hset := HO.out.setAt encB_ok (k := k) (by rw [lowTo_len s zs k hk HZL.out]; exact hlt) (p := 0) (by decide) (.int .u8 (lowB s[k]).toNat) (lowB s[k]) rfl
      rw [lowTo_set s zs k hlt HZL.out, Nat.mul_one, Nat.add_zero] at hset
      have HSET := Lib.hid hset
      have hbz := hb.setCell (p := ⟨w.heap.size, k, none⟩) (Nat.le_refl _) (.int .u8 (lowB s[k]).toNat)
      clear hset
      go_wp2_with (go_at_call 46; refine (lowF_any s[k] _).mono ?_; rintro e w' ⟨rfl, rfl⟩)
      go_roundw
      case rel => exact ⟨k + 1, by omega, by go_num, HSET, hbz⟩
      case measure => simp [intOf]; omega
    · obtain rfl : k = s.length := by omega
      have HO2 := HO.out
      rw [lowTo_all s zs HZL.out] at HO2
      have HO3 := Lib.hid HO2
      clear HO2
      go_wp2_with (refine wpList_str_own rfl _ _ _ 5 rfl rfl Tryd.underlying78 Tryd.underlying5 Tryd.underlying9 (lowS s) (B := w.heap.size) (by have h := HO3.out; exact h) ?_)
      go_ret
      exact ⟨rfl, hb⟩
theorem lower_any (hs : s.length ≤ 1000000000) :
    Calls Tryd.prog 31 #[.string ⟨s.toArray⟩] w fun e w' => e = .returned (.string ⟨(lowS s).toArray⟩) ∧ Below w.heap.size w w' := by
  go_enter Tryd.func31, Tryd.ntmps31
  go_wp2_with fail
  refine (change_any s _ hs).mono ?_
  rintro e w1 ⟨rfl, hb⟩
  go_wp2_with fail
  go_ret
  exact ⟨rfl, hb⟩

theorem anB_true {c : UInt8} (h : (48 ≤ c.toNat ∧ c.toNat ≤ 57) ∨ (97 ≤ c.toNat ∧ c.toNat ≤ 122) ∨ (65 ≤ c.toNat ∧ c.toNat ≤ 90)) : anB c = true := by unfold anB lnB; simp; omega
theorem anB_false {c : UInt8} (h : ¬ ((48 ≤ c.toNat ∧ c.toNat ≤ 57) ∨ (97 ≤ c.toNat ∧ c.toNat ≤ 122) ∨ (65 ≤ c.toNat ∧ c.toNat ≤ 90))) : anB c = false := by unfold anB lnB; simp; omega
end
end Go.Proofs.YtohinfefidahlaaDoor
