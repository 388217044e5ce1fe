/- The laws SlugsAgain and SlugsSigns, walked. -/
import Derived.Test.YtofphojcfjkjhaaDoorAliveS
import Derived.Test.YtofphojcfjkjhaaDoorBeyond
namespace Go.Proofs.YtofphojcfjkjhaaDoor
open Go.RowKit
set_option linter.unusedVariables false

theorem reach_le {n : Nat} (h : n ≤ reachBytes) : n ≤ 140737488351232 := h
theorem beq45_false {c : UInt8} (h : c ≠ 45) : ((c.toNat : Int) == 45) = false := by
  rw [beq_eq_false_iff_ne]; intro e
  exact h (UInt8.toNat.inj (by have : c.toNat = 45 := by omega
                               simpa using this))
set_option maxHeartbeats 4000000 in
set_option maxRecDepth 100000 in
theorem walk_SlugsAgain (w : World) (s : Bytes) (hs : s.length ≤ reachBytes) (htab : HasTab w) :
    Calls Tryd.prog 4 #[.string ⟨s.toArray⟩] w fun e w' => e = .returned (.bool true) ∧ Below w.heap.size w w' := by
  have hs' := reach_le hs
  have HTB := Lib.hid htab
  clear htab
  go_enter Tryd.func4, Tryd.ntmps4
  go_wp2_with fail
  refine (alive_any _ HTB.out).mono ?_
  rintro e w1 ⟨rfl, hb1⟩
  go_wp2_with fail
  refine (beyond1 s.length w1.heap.size _ (by simp) (by omega)).mono ?_
  rintro e w2 ⟨rfl, rfl⟩
  have hb2 := hb1.alloc hb1.size (.cells #[.int .i64 s.length] 3)
  cases hB : beyondB s.length
  rotate_left
  · go_wp2_with fail
    refine (alive_any _ (HTB.out.below hb2)).mono ?_
    rintro e w3 ⟨rfl, hb3⟩
    go_wp2_with fail
    go_ret
    exact ⟨rfl, hb2.trans (hb3.mono (by have := hb1.size; simp; omega))⟩
  have hle := beyondB_le hB
  obtain ⟨hhy, h0, h60⟩ := slugOf_hy s
  have hag := slugOf_again s
  have hlo := slugOf_low s
  have hsides := hhy.sides
  have hch := hhy.chars
  have HOF := Lib.hid (fun w => of_any s w (by omega))
  have HLOW := Lib.hid (fun w => of_any (lowS s) w (by rw [lowS_len]; omega))
  rw [hlo] at HLOW
  have hll := lowS_len s
  have HAG := Lib.hid (fun w => of_any (slugOf s) w (by omega))
  rw [hag] at HAG
  clear hB hag hlo hhy hll
  generalize slugOf s = X at *
  have hf0 : X[0] ≠ 45 := fun e => by have := (hsides 0 h0 e).1; omega
  have hfl : X[X.length - 1]'(by omega) ≠ 45 := fun e => by have := (hsides (X.length - 1) (by omega) e).2.1; omega
  have hb0 := beq45_false hf0
  have hbl := beq45_false hfl
  have hi0 : (1 : Int) ≤ (X.length : Int) := by omega
  have hi6 : (X.length : Int) ≤ 60 := by omega
  have HSD := Lib.hid hsides
  have HCH := Lib.hid hch
  clear hsides hch hf0 hfl
  go_wp2_with fail
  refine (HOF.out _).mono ?_
  rintro e w3 ⟨rfl, hb3⟩
  have hb3' := hb2.trans (hb3.mono (by have := hb1.size; simp; omega))
  clear hb3
  go_wp2_with fail
  go_loop [5] (fun v5 => ∃ k : Nat, k ≤ X.length ∧ v5 = .int .i64 k) (fun v5 => X.length - (intOf v5).toNat)
  case atStart => exact ⟨0, by omega, rfl⟩
  case round =>
    obtain ⟨k, hk, rfl⟩ := hrel
    by_cases hlt : k < X.length
    · have hc := HCH.out X[k] (List.getElem_mem hlt)
      have hcl : X[k].toNat < 256 := X[k].toNat_lt
      rcases hc with hc | hc
      · have hne := beq45_false (ln_ne45 hc)
        unfold lnB at hc
        simp only [Bool.or_eq_true, decide_eq_true_eq] at hc
        rcases hc with ⟨h4, h5⟩ | ⟨h4, h5⟩
        all_goals
          go_wp2_with fail
          all_goals
            go_round
            case rel => exact ⟨k + 1, by omega, by go_num⟩
            case measure => simp [intOf]; omega
      · obtain ⟨hk0, hk1, hk2⟩ := HSD.out k hlt hc
        have hbp := beq45_false (hk2 (by omega))
        have hc2 : X[k].toNat = 45 := by rw [hc]; rfl
        have hkI : (0 : Int) < (k : Int) := by omega
        clear hc hk2
        go_wp2_with fail
        go_round
        case rel => exact ⟨k + 1, by omega, by go_num⟩
        case measure => simp [intOf]; omega
    · go_wp2_with fail
      refine (HAG.out _).mono ?_
      rintro e w4 ⟨rfl, hb4⟩
      have hb4' := hb3'.trans (hb4.mono hb3'.size)
      go_wp2_with fail
      refine (lower_any s _ (by omega)).mono ?_
      rintro e w5 ⟨rfl, hb5⟩
      have hb5' := hb4'.trans (hb5.mono hb4'.size)
      go_wp2_with fail
      refine (HLOW.out _).mono ?_
      rintro e w6 ⟨rfl, hb6⟩
      go_wp2_with fail
      go_ret
      exact ⟨rfl, hb5'.trans (hb6.mono hb5'.size)⟩

set_option maxHeartbeats 4000000 in
set_option maxRecDepth 100000 in
theorem walk_SlugsSigns (w : World) (a : Bytes) (ha : a.length ≤ reachBytes) (b : Bytes) (hb : b.length ≤ reachBytes) (p q : UInt8) (htab : HasTab w) :
    Calls Tryd.prog 5 #[.string ⟨a.toArray⟩, .string ⟨b.toArray⟩, .agg #[.int .u8 p.toNat, .int .u8 q.toNat]] w fun e w' => e = .returned (.bool true) ∧ Below w.heap.size w w' := by
  have ha' := reach_le ha
  have hb' := reach_le hb
  have HTB := Lib.hid htab
  clear htab
  go_enter Tryd.func5, Tryd.ntmps5
  go_wp2_with fail
  have hb0 := (Below.refl w.heap.size w).alloc (Nat.le_refl _) (.cells #[.int .u8 p.toNat, .int .u8 q.toNat] 26)
  refine (alive_any _ (HTB.out.below hb0)).mono ?_
  rintro e w1 ⟨rfl, hb1⟩
  have hbx : Below w.heap.size w w1 := hb0.trans (hb1.mono (by simp))
  have hc0 : w1.cell? ⟨w.heap.size, 0, none⟩ = some (.int .u8 p.toNat) := by rw [hb1.cell (p := ⟨w.heap.size, 0, none⟩) (by simp)]; simp
  have hc1 : w1.cell? ⟨w.heap.size, 1, none⟩ = some (.int .u8 q.toNat) := by rw [hb1.cell (p := ⟨w.heap.size, 1, none⟩) (by simp)]; simp
  have hg1 : w.heap.size < w1.heap.size := by have := hb1.size; simp at this; omega
  clear hb0 hb1
  go_wp2_with fail
  refine (beyond2 a.length b.length w1.heap.size _ (by simp) (by simp) (by omega) (by omega)).mono ?_
  rintro e w2 ⟨rfl, rfl⟩
  have hb2 := hbx.alloc hbx.size (.cells #[.int .i64 a.length, .int .i64 b.length] 3)
  cases hB : beyondB (a.length + b.length)
  rotate_left
  · go_wp2_with fail
    refine (alive_any _ (HTB.out.below hb2)).mono ?_
    rintro e w3 ⟨rfl, hb3⟩
    go_wp2_with fail
    go_ret
    exact ⟨rfl, hb2.trans (hb3.mono (by have := hbx.size; simp; omega))⟩
  have hle := beyondB_le hB
  clear hB
  cases hp : anB p
  rotate_left
  · have HP := Lib.hid hp
    clear hp
    go_wp2_with fail
    refine (letterL_any p _).mono ?_
    rw [HP.out]
    rintro e w' ⟨rfl, rfl⟩
    go_wp2_with fail
    refine (alive_any _ (HTB.out.below hb2)).mono ?_
    rintro e w3 ⟨rfl, hb3⟩
    go_wp2_with fail
    go_ret
    exact ⟨rfl, hb2.trans (hb3.mono (by have := hbx.size; simp; omega))⟩
  have HP := Lib.hid hp
  cases hq : anB q
  rotate_left
  · have HQ := Lib.hid hq
    clear hp hq
    go_wp2_with fail
    refine (letterL_any p _).mono ?_
    rw [HP.out]
    rintro e w' ⟨rfl, rfl⟩
    go_wp2_with fail
    refine (letterL_any q _).mono ?_
    rw [HQ.out]
    rintro e w' ⟨rfl, rfl⟩
    go_wp2_with fail
    refine (alive_any _ (HTB.out.below hb2)).mono ?_
    rintro e w3 ⟨rfl, hb3⟩
    go_wp2_with fail
    go_ret
    exact ⟨rfl, hb2.trans (hb3.mono (by have := hbx.size; simp; omega))⟩
  have HQ := Lib.hid hq
  have HE1 : Hid (slugOf (a ++ q :: b) = slugOf (a ++ p :: b)) := by
    have h := signs_one a b hq hp
    simp only [List.append_assoc, List.singleton_append] at h
    exact h
  have HE2 : Hid (slugOf (a ++ p :: q :: p :: b) = slugOf (a ++ p :: b)) := by
    have h := signs_more a b hp hq
    simp only [List.append_assoc, List.singleton_append] at h
    exact h
  have HE3 : Hid (slugOf (p :: q :: (a ++ [p])) = slugOf a) := by
    have h := signs_ends a hp hq
    simp only [List.cons_append, List.nil_append] at h
    exact h
  clear hp hq
  go_wp2_with fail
  refine (letterL_any p _).mono ?_
  rw [HP.out]
  rintro e w' ⟨rfl, rfl⟩
  go_wp2_with fail
  refine (letterL_any q _).mono ?_
  rw [HQ.out]
  rintro e w' ⟨rfl, rfl⟩
  have hq0 := cell_new1 ((w1.alloc (.cells #[.int .i64 a.length, .int .i64 b.length] 3)).alloc (.cells #[.int .u8 p.toNat] 5)) (.int .u8 q.toNat) 5
  rw [World.size_alloc, World.size_alloc] at hq0
  have HQ0 := Lib.hid hq0
  clear hq0
  go_wp2_with (first
    | (refine wpList_str_of rfl (.tmp 32) 28 9 5 rfl (w1.heap.size + 1) 0 1 1 rfl Tryd.underlying28 Tryd.underlying5 Tryd.underlying9 [p] rfl (by intro i hi; obtain rfl : i = 0 := (by omega); simp) ?_)
    | (refine wpList_str_of rfl (.tmp 36) 28 9 5 rfl (w1.heap.size + 1 + 1) 0 1 1 rfl Tryd.underlying28 Tryd.underlying5 Tryd.underlying9 [q] rfl (by intro i hi; obtain rfl : i = 0 := (by omega); exact HQ0.out) ?_))
  have hb3 := (hb2.alloc hb2.size (.cells #[.int .u8 p.toNat] 5)).alloc (by have := hb2.size; simp; omega) (.cells #[.int .u8 q.toNat] 5)
  have hz3 := hb3.size
  generalize ((w1.alloc (.cells #[.int .i64 a.length, .int .i64 b.length] 3)).alloc (.cells #[.int .u8 p.toNat] 5)).alloc (.cells #[.int .u8 q.toNat] 5) = w2 at *
  clear hb2
  refine (of_any (a ++ p :: b) _ (by simp; omega)).mono ?_
  rintro e w3 ⟨rfl, hb4⟩
  have hb4' := hb3.trans (hb4.mono hz3)
  go_wp2_with fail
  refine (of_any (a ++ q :: b) _ (by simp; omega)).mono ?_
  rw [HE1.out]
  rintro e w4 ⟨rfl, hb5⟩
  have hb5' := hb4'.trans (hb5.mono hb4'.size)
  clear hb4 hb5 hb4'
  go_wp2_with fail
  refine (of_any (a ++ p :: q :: p :: b) _ (by simp; omega)).mono ?_
  rw [HE2.out]
  rintro e w5 ⟨rfl, hb6⟩
  have hb6' := hb5'.trans (hb6.mono hb5'.size)
  go_wp2_with fail
  refine (of_any (a ++ p :: b) _ (by simp; omega)).mono ?_
  rintro e w6 ⟨rfl, hb7⟩
  have hb7' := hb6'.trans (hb7.mono hb6'.size)
  clear hb6 hb7 hb6'
  go_wp2_with fail
  refine (of_any (p :: q :: (a ++ [p])) _ (by simp; omega)).mono ?_
  rw [HE3.out]
  rintro e w7 ⟨rfl, hb8⟩
  have hb8' := hb7'.trans (hb8.mono hb7'.size)
  go_wp2_with fail
  refine (of_any a _ (by omega)).mono ?_
  rintro e w8 ⟨rfl, hb9⟩
  go_wp2_with fail
  go_ret
  exact ⟨rfl, hb8'.trans (hb9.mono hb8'.size)⟩
end Go.Proofs.YtofphojcfjkjhaaDoor
