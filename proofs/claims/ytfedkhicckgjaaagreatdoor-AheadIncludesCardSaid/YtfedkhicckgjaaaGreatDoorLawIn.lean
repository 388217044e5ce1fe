/- The law AheadIncludes, walked. -/
import Derived.Test.YtfedkhicckgjaaaGreatDoorPlainW
import Derived.Test.YtfedkhicckgjaaaGreatDoorIncP
import Derived.Test.YtfedkhicckgjaaaGreatDoorLinesW
import Derived.Test.YtfedkhicckgjaaaGreatDoorFrameC
namespace Go.Proofs.YtfedkhicckgjaaaGreatDoor
open Go.RowKit
set_option linter.unusedVariables false

theorem rep_get {α : Type} (X : List α) : ∀ (n i j : Nat), i < n → j < X.length → (List.replicate n X).flatten[i * X.length + j]? = X[j]?
  | 0, i, j, hi, _ => absurd hi (by omega)
  | n + 1, 0, j, _, hj => by
    rw [List.replicate_succ, List.flatten_cons, Nat.zero_mul, Nat.zero_add, List.getElem?_append_left hj]
  | n + 1, i + 1, j, hi, hj => by
    rw [List.replicate_succ, List.flatten_cons, List.getElem?_append_right (by rw [Nat.add_mul]; omega), show (i + 1) * X.length + j - X.length = i * X.length + j from by rw [Nat.add_mul]; omega, rep_get X n i j (by omega) hj]
theorem rep_len {α : Type} (X : List α) (n : Nat) : (List.replicate n X).flatten.length = n * X.length := by simp
theorem incHead_le (i : Nat) (h : i ≤ 5) : (incHead i).length ≤ 1000 := by
  have : ∀ k, (incHead k).length = 14 * k + 6 := fun k => by
    induction k with
    | zero => rfl
    | succ k ih => show (incHead k ++ (incL ++ [10])).length = _; simp [ih, incL]; omega
  rw [this]; omega
def incLines (s : Bytes) (n : Nat) : List Pl := ⟨[109], 1, firstB⟩ :: ((List.replicate n (numbered partB 0 (linesP s))).flatten ++ [⟨[109], n + 2, lastB⟩])
theorem incLines_len (s : Bytes) (n : Nat) : (incLines s n).length = 2 + n * (linesP s).length := by
  unfold incLines
  simp only [List.length_cons, List.length_append, rep_len, numbered_len, List.length_nil]; omega
theorem incLines_mid (s : Bytes) (n i j : Nat) (hi : i < n) (hj : j < (linesP s).length) : (incLines s n)[1 + i * (linesP s).length + j]? = (numbered partB 0 (linesP s))[j]? := by
  unfold incLines
  have h1 := rep_get (numbered partB 0 (linesP s)) n i j hi (by rw [numbered_len]; exact hj)
  rw [numbered_len] at h1
  have hlt : i * (linesP s).length + j < ((List.replicate n (numbered partB 0 (linesP s))).flatten).length := by
    rw [rep_len, numbered_len]
    have : (i + 1) * (linesP s).length ≤ n * (linesP s).length := Nat.mul_le_mul_right _ hi
    rw [Nat.add_mul] at this; omega
  rw [show 1 + i * (linesP s).length + j = (i * (linesP s).length + j) + 1 from by omega, List.getElem?_cons_succ, List.getElem?_append_left hlt, h1]
theorem incLines_last (s : Bytes) (n : Nat) : (incLines s n)[1 + n * (linesP s).length]? = some ⟨[109], n + 2, lastB⟩ := by
  unfold incLines
  rw [show 1 + n * (linesP s).length = n * (linesP s).length + 1 from by omega, List.getElem?_cons_succ, List.getElem?_append_right (by rw [rep_len, numbered_len]; omega), rep_len, numbered_len, Nat.sub_self]
  rfl
theorem same_k (a1 : Option Addr) (c1 : Nat) (a2 : Option Addr) (c2 : Nat) (file : Bytes) (ts : List Bytes) (k : Nat) (hk : ts.length = k) (w : World) (hn : k ≤ 1048576) (hT : At w 3 encL a1 (numbered file 0 ts)) (hA : At w 1 encS a2 ts) :
    Calls Tryz.prog 27 #[.slice a1 k c1, .string ⟨file.toArray⟩, .slice a2 k c2] w fun e w' => e = .returned (.bool true) ∧ Below w.heap.size w w' := by
  subst hk; exact same_any a1 c1 a2 c2 file ts w hn hT hA
/-- a part of what is the call's own reads as its elements -/
theorem Own.part {α : Type} {w : World} {B : Nat} {e : TypeId} {sz : Nat} {enc : α → List Value} {g n c : Nat} {l m : List α} (he : Enc sz enc) (h : Own w B e sz enc (.slice (some ⟨g, 0, none⟩) n c) l) (hg : g < w.heap.size) (o : Nat)
    (hm : ∀ j, j < m.length → l[o + j]? = m[j]?) : At w sz enc (some ⟨g, o * sz, none⟩) m := by
  refine .inr ⟨g, o * sz, rfl, hg, fun i x hi j v hj => ?_⟩
  have hil := (List.getElem?_eq_some_iff.1 hi).1
  have h1 := hm i hil
  rw [hi] at h1
  have h2 := h.cellAt he h1 hj
  rw [← Nat.add_mul]; exact h2

set_option maxHeartbeats 1000000 in
set_option maxRecDepth 100000 in
theorem inc_long (w : World) (s : Bytes) (hs : s.length ≤ 140737488351232) (t : Nat) (ht : t < 256) (hM : MaxOk w) (h1 : 300 < s.length) :
    Calls Tryz.prog 8 #[.string ⟨s.toArray⟩, .int .u8 t] w fun e w' => e = .returned (.bool true) ∧ Below w.heap.size w w' := by
  have HM := Lib.hid hM
  clear hM
  go_enter Tryz.func8, Tryz.ntmps8
  go_wp2_with (first
    | (go_at_call 22; refine (alive_any _ HM.out).mono ?_; rintro e w1 ⟨rfl, hb1⟩)
    | (go_at_call 22; refine (alive_any _ (HM.out.next hb1)).mono ?_; rintro e w9 ⟨rfl, hc⟩; have hb9 := hb1.trans (hc.mono hb1.size)))
  go_ret
  exact ⟨rfl, hb9⟩

set_option maxHeartbeats 1000000 in
set_option maxRecDepth 100000 in
theorem inc_not (w : World) (s : Bytes) (hs : s.length ≤ 140737488351232) (t : Nat) (ht : t < 256) (hM : MaxOk w) (h1 : s.length ≤ 300) (hp : plainB s = false) :
    Calls Tryz.prog 8 #[.string ⟨s.toArray⟩, .int .u8 t] w fun e w' => e = .returned (.bool true) ∧ Below w.heap.size w w' := by
  have HM := Lib.hid hM
  have HPL := Lib.hid hp
  clear hp
  clear hM
  go_enter Tryz.func8, Tryz.ntmps8
  go_wp2_with (first
    | (go_at_call 22; refine (alive_any _ HM.out).mono ?_; rintro e w1 ⟨rfl, hb1⟩)
    | (go_at_call 24; refine (plain_any s _ (by omega)).mono ?_; rw [HPL.out]; rintro e w3 ⟨rfl, rfl⟩)
    | (go_at_call 22; refine (alive_any _ (HM.out.next hb1)).mono ?_; rintro e w9 ⟨rfl, hc⟩; have hb9 := hb1.trans (hc.mono hb1.size)))
  go_ret
  exact ⟨rfl, hb9⟩

set_option maxHeartbeats 1000000 in
set_option maxRecDepth 100000 in
theorem inc_main (w : World) (s : Bytes) (hs : s.length ≤ 140737488351232) (t : Nat) (ht : t < 256) (hM : MaxOk w) (h1 : s.length ≤ 300) (hp : plainB s = true) (n : Nat) (hn : n = t % 5 + 1) (k : Nat) (hk : (linesP s).length = k) (m : Nat) (hm : n * k = m) :
    Calls Tryz.prog 8 #[.string ⟨s.toArray⟩, .int .u8 t] w fun e w' => e = .returned (.bool true) ∧ Below w.heap.size w w' := by
  have HM := Lib.hid hM
  have HPL := Lib.hid hp
  have hn5 : 1 ≤ n ∧ n ≤ 5 := by omega
  have HRD := Lib.hid (readP_inc n hn5 s hp h1)
  have hll := linesP_le s
  rw [hk] at hll
  have hm2 : m ≤ 1500 := by rw [← hm]; exact Nat.le_trans (Nat.mul_le_mul hn5.2 (Nat.le_trans hll h1)) (by omega)
  have hmul : IntKind.i64.wrap ((n : Int) * (k : Int)) = (m : Int) := by
    rw [← hm, IntWalk.i64_in _ (by rw [← Int.natCast_mul, hm]; omega)]; exact (Int.natCast_mul n k).symm
  have HK := Lib.hid hk
  have HMM := Lib.hid hm
  clear hk hm
  have hnI : (t : Int) % 5 + 1 = (n : Int) := by omega
  clear hn
  clear hp
  clear hM
  go_enter Tryz.func8, Tryz.ntmps8
  go_wp2_with (first
    | (go_at_call 22; refine (alive_any _ HM.out).mono ?_; rintro e w1 ⟨rfl, hb1⟩)
    | (go_at_call 24; refine (plain_any s _ (by omega)).mono ?_; rw [HPL.out]; rintro e w3 ⟨rfl, rfl⟩))
  go_loopw [6, 7] (fun v6 v7 wr => ∃ i : Nat, i ≤ n ∧ v7 = .int .i64 i ∧ v6 = .string ⟨(incHead i).toArray⟩ ∧ wr = w1) (fun _ v7 _ => n - (intOf v7).toNat)
  case atStart => exact ⟨0, by omega, rfl, rfl, rfl⟩
  case round =>
    obtain ⟨i, hi, rfl, rfl, rfl⟩ := hrel
    by_cases hlt : i < n
    · have hil : (incHead i).length ≤ 1000 := incHead_le i (by omega)
      go_wp2
      go_roundw
      case rel => exact ⟨i + 1, by omega, by go_num, rfl, by trivial⟩
      case measure => simp [intOf]; omega
    · obtain rfl : n = i := by omega
      have hil : (incHead n).length ≤ 1000 := incHead_le n (by omega)
      have hil2 : ¬ 9223372036854775807 < (incHead n).length + 4 := by omega
      have HT : Hid (incHead n ++ [108, 97, 115, 116] = incText n) := incHead_text n
      clear hnI
      go_wp2_with ((go_at_call 26; refine Hold.out ?_))
      constructor
      rw [HT.out]
      refine (src_any _ _ _).mono ?_
      rintro e w2 ⟨rfl, hc⟩
      have hb2 := hb1.trans (hc.mono hb1.size)
      clear hc
      go_wp2_with ((go_at_call 26; refine Hold.out ?_))
      constructor
      refine (src_any _ _ _).mono ?_
      rintro e w3 ⟨rfl, hc⟩
      have hb3 := hb2.trans (hc.mono hb2.size)
      clear hc
      go_wp2_with ((go_at_call 25; refine Hold.out ?_))
      constructor
      refine gen_calls fun W4 hW => ?_
      have hBL4 : Bk W4 w3.heap.size ((([⟨[109], incText n⟩, ⟨partB, s⟩] : List Two)).flatMap encT) 63 := by rw [hW]; exact Bk.new w3 _ _
      have hb4 : Below w.heap.size w W4 := by rw [hW]; exact hb3.alloc hb3.size _
      clear hW
      refine (read_ans (some ⟨w3.heap.size, 0, none⟩) 2 [⟨[109], incText n⟩, ⟨partB, s⟩] none 0 [] [109] (incText n) _ (At.ofBk encT_ok hBL4) (fun b off e => by cases e; exact hBL4.lt) (by simp) (At.nil _ _ _ _) (by simp) (fun x hx => absurd hx (List.not_mem_nil)) (HM.out.next hb4) (by simp [srcL]) _ HRD.out ⟨by simp, fun x hx => absurd hx (List.not_mem_nil)⟩).mono ?_
      rintro e w5 ⟨⟨u0, u1, u2, u3, rfl, h0, h1', h2', h3'⟩, hc⟩
      have h0 : Own w5 _ 76 3 encL u0 (incLines s n) := h0
      obtain ⟨aa, ka, hv⟩ := h0.shape
      rw [incLines_len, HK.out, HMM.out] at hv
      subst hv
      obtain ⟨ga, hga, _, hgl, hka⟩ := h0.ptr (by omega)
      subst hga
      obtain ⟨ab, kb, rfl⟩ := h1'.shape
      obtain ⟨gc, kc, rfl, hgc⟩ := h2'.ptrN 1 rfl
      obtain ⟨ad, kd, rfl⟩ := h3'.shape
      have hb5 := hb4.trans (hc.mono hb4.size)
      have HL5 := Lib.hid h0
      have HC5 := Lib.hid h2'
      clear h0 h1' h2' h3' hc hBL4
      go_wp2_with (first
        | (go_at_call 13; refine (lines_any s _ (by omega) (HM.out.next hb5)).mono ?_; rintro e w6 ⟨⟨vl, rfl, hOl⟩, hc⟩; obtain ⟨al, cl, hv⟩ := hOl.shape; rw [HK.out] at hv; subst hv; have hb6 := hb5.trans (hc.mono hb5.size); have HL6 := Lib.hid (HL5.out.next rfl hc); have HC6 := Lib.hid (HC5.out.next rfl hc); clear hOl hc)
        | (go_at_call 16; refine Hold.out ?_))
      constructor
      refine gen_calls fun W7 hW => ?_
      have hbW : Below w6.heap.size w6 W7 := by rw [hW]; exact (Below.refl _ _).alloc (Nat.le_refl _) _
      have hbk : Bk W7 w6.heap.size (([[109], partB] : List Bytes).flatMap encS) 9 := by rw [hW]; exact Bk.new w6 _ _
      clear hW
      refine (sameTexts_any _ _ _ _ [[109], partB] W7 (by decide) ((HC6.out.next rfl hbW).addr encS_ok) (At.ofBk encS_ok hbk)).mono ?_
      rintro e w8 ⟨rfl, hc0⟩
      have hc := hbW.trans (hc0.mono hbW.size)
      have HL8 := Lib.hid (HL6.out.next rfl hc)
      have HB8 := Lib.hid (hb6.trans (hc.mono hb6.size))
      have hgl8 : ga < w8.heap.size := by have h1 := hc.size; have h2 := (HL6.out.block ga rfl).2; omega
      clear hc hc0 hbW hbk HC6 HC5 HL6 HL5 HRD h0
      go_wp2_with fail
      go_loopw [13] (fun v13 wr => ∃ i : Nat, i ≤ n ∧ v13 = .int .i64 i ∧ Hid (Below w8.heap.size w8 wr)) (fun v13 _ => n - (intOf v13).toNat)
      case atStart => exact ⟨0, by omega, rfl, Below.refl _ _⟩
      case round =>
        obtain ⟨i, hi2, rfl, HBr⟩ := hrel
        by_cases hlt2 : i < n
        · obtain ⟨p, hp⟩ : ∃ p, i * k = p := ⟨_, rfl⟩
          have hpk : p + k ≤ m := by
            rw [← HMM.out, ← hp]
            have : (i + 1) * k ≤ n * k := Nat.mul_le_mul_right _ hlt2
            rw [Nat.add_mul] at this; omega
          have HPART : Hid (At wr 3 encL (some ⟨ga, (1 + p) * 3, none⟩) (numbered partB 0 (linesP s))) := by
            refine (HL8.out.next rfl HBr.out).part encL_ok (by have := HBr.out.size; omega) (1 + p) fun j hj => ?_
            rw [numbered_len] at hj
            have h := incLines_mid s n i j hlt2 hj
            rw [HK.out, hp] at h
            exact h
          have hBr2 := HB8.out.trans (HBr.out.mono HB8.out.size)
          have e1 : IntKind.i64.wrap ((i : Int) * (k : Int)) = (p : Int) := by
            rw [← hp, IntWalk.i64_in _ (by rw [← Int.natCast_mul, hp]; omega)]; exact (Int.natCast_mul i k).symm
          have e2 : IntKind.i64.wrap (1 + (p : Int)) = 1 + (p : Int) := by rw [IntWalk.i64_in _ (by omega)]
          have e3 : IntKind.i64.wrap (1 + (p : Int) + (k : Int)) = 1 + (p : Int) + (k : Int) := by rw [IntWalk.i64_in _ (by omega)]
          have e4 : (1 + (p : Int)).toNat = 1 + p := by omega
          have e5 : (1 + (p : Int) + (k : Int)).toNat = 1 + p + k := by omega
          have e6 : (0 : Int) ≤ 1 + (p : Int) := by omega
          have e7 : 1 + (p : Int) ≤ 1 + (p : Int) + (k : Int) := by omega
          have e8 : 1 + (p : Int) + (k : Int) ≤ (ka : Int) := by omega
          have e9 : 1 + p + k - (1 + p) = k := by omega
          have e11 : ¬ ka = 1 + p := by omega
          clear hp
          go_wp2_with fail
          have hd : Below w.heap.size w wr.drew := hBr2.trans ((drew_below wr).mono hBr2.size)
          have HBd : Hid (Below w8.heap.size w8 wr.drew) := HBr.out.trans ((drew_below wr).mono HBr.out.size)
          have HPd := Lib.hid (HPART.out.below (drew_below wr))
          go_region_law (first
            | (go_simp; go_at_call 13; refine (lines_any s _ (by omega) (HM.out.next hd)).mono ?_; rintro e wa ⟨⟨vl, rfl, hOl⟩, hc⟩; obtain ⟨a3, c3, hv⟩ := hOl.shape; rw [HK.out] at hv; subst hv; have hba := hd.trans (hc.mono hd.size); have HPA := Lib.hid (HPd.out.below hc); have HBa := Lib.hid (HBd.out.trans (hc.mono HBd.out.size)); have HO3 := Lib.hid hOl; clear hOl hc; dsimp only)
            | (go_simp; go_at_call 27; refine (same_k _ _ _ _ partB (linesP s) k HK.out _ (by omega) HPA.out (HO3.out.addr encS_ok)).mono ?_; rintro e wb ⟨rfl, hc⟩; have hbb := hba.trans (hc.mono hba.size); have HBb := Lib.hid (HBa.out.trans (hc.mono HBa.out.size)); clear hc; dsimp only))
          go_wp2_with fail
          go_roundw
          case rel => exact ⟨i + 1, by omega, by go_num, HBb.out⟩
          case measure => simp [intOf]; omega
        · obtain rfl : n = i := by omega
          have hb9 := HB8.out.trans (HBr.out.mono HB8.out.size)
          have HL9 := Lib.hid (HL8.out.next rfl HBr.out)
          have d0 := HL9.out.cellAt encL_ok (k := 0) (j := 0) (u := .string ⟨#[109]⟩) rfl rfl
          have d1 := HL9.out.cellAt encL_ok (k := 0) (j := 1) (u := .int .i64 1) rfl rfl
          have d2 := HL9.out.cellAt encL_ok (k := 0) (j := 2) (u := .string ⟨firstB.toArray⟩) rfl rfl
          have hlast : (incLines s n)[1 + m]? = some ⟨[109], n + 2, lastB⟩ := by have h := incLines_last s n; rw [HK.out, HMM.out] at h; exact h
          have g0 := HL9.out.cellAt encL_ok (k := 1 + m) (j := 0) (u := .string ⟨#[109]⟩) hlast rfl
          have g1 := HL9.out.cellAt encL_ok (k := 1 + m) (j := 1) (u := .int .i64 ((n + 2 : Nat) : Int)) hlast rfl
          have g2 := HL9.out.cellAt encL_ok (k := 1 + m) (j := 2) (u := .string ⟨lastB.toArray⟩) hlast rfl
          simp only [Nat.zero_mul, Nat.zero_add, Nat.add_zero] at d0 d1 d2 g0
          have e2 : IntKind.i64.wrap (1 + (m : Int)) = 1 + (m : Int) := by rw [IntWalk.i64_in _ (by omega)]
          have e4 : (1 + (m : Int)).toNat = 1 + m := by omega
          have e6 : (0 : Int) ≤ 1 + (m : Int) := by omega
          have e8 : 1 + (m : Int) < 2 + (m : Int) := by omega
          have e9 : ((n + 2 : Nat) : Int) = (n : Int) + 2 := by omega
          rw [e9] at g1
          have e10 : IntKind.i64.wrap ((n : Int) + 2) = (n : Int) + 2 := by rw [IntWalk.i64_in _ (by omega)]
          clear hlast
          go_wp2_with fail
          go_ret
          exact ⟨rfl, hb9⟩

theorem walk_AheadIncludes (w : World) (s : Bytes) (hs : s.length ≤ reachBytes) (t : Nat) (ht : t < 256) (hM : MaxOk w) :
    Calls Tryz.prog 8 #[.string ⟨s.toArray⟩, .int .u8 t] w fun e w' => e = .returned (.bool true) ∧ Below w.heap.size w w' := by
  have hs' : s.length ≤ 140737488351232 := hs
  by_cases h1 : 300 < s.length
  · exact inc_long w s hs' t ht hM h1
  cases hp : plainB s
  · exact inc_not w s hs' t ht hM (by omega) hp
  · exact inc_main w s hs' t ht hM (by omega) hp _ rfl _ rfl _ rfl
end Go.Proofs.YtfedkhicckgjaaaGreatDoor
