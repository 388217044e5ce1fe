/- conds.Set where it sets. -/
import Derived.Test.YtfedkhicckgjaaaGreatDoorBaseD
namespace Go.Proofs.YtfedkhicckgjaaaGreatDoor
open Go.RowKit
set_option linter.unusedVariables false
section
variable (a : Option Addr) (ca : Nat) (l : List Two) (s v : Bytes) (w : World)

set_option maxHeartbeats 2000000 in
theorem set_ok1 (hn : l.length ≤ 1048576) (hs : s.length ≤ 1048576) (hv : v.length ≤ 1048576) (hA : At w 2 encT a l) (hcap : l.length ≤ ca) (hsz : ∀ x ∈ l, x.name.length + x.value.length ≤ 9223372036854775807) (h1 : checkB l = true) (h2 : nameB s = true) (h3 : validB v = true) (hf : findI (fun x => geB x.name s) l = -1) (hfull : fullB l s = false) (h64 : l.length < 64) :
    Calls Tryz.prog 159 #[.slice a l.length ca, .string ⟨s.toArray⟩, .string ⟨v.toArray⟩] w (SetGives w (setR l s v) (setE l s v)) := by
  have hE : setE l s v = 0 := by simp [setE, mayB, h1, h2, h3, hfull]
  have hR : setR l s v = (l.take l.length ++ ⟨s, v⟩ :: l.drop l.length) := by rw [← setL_none hf]; simp [setR, mayB, h1, h2, h3, hfull]
  rw [hE, hR]
  have HA := Lib.hid hA
  have HS := Lib.hid hsz
  have H1 := Lib.hid h1
  have H2 := Lib.hid h2
  have H3 := Lib.hid h3
  have H4 := Lib.hid hfull
  clear hA hsz h1 h2 h3 hE hR
  have HF := Lib.hid hf
  clear hf
  go_enter Tryz.func159, Tryz.ntmps159
  go_wp2_with fail
  refine (check_any a ca l _ hn (HA.out.below ((Below.refl _ _).alloc (Nat.le_refl _) _)) HS.out).mono ?_
  rw [H1.out]
  rintro e w2 ⟨rfl, hb2⟩
  have hb := ((Below.refl w.heap.size w).alloc (Nat.le_refl _) (.cells #[.string ⟨s.toArray⟩] 9)).trans (hb2.mono (by simp))
  have hc : w2.cell? ⟨w.heap.size, 0, none⟩ = some (.string ⟨s.toArray⟩) := by rw [hb2.cell (p := ⟨w.heap.size, 0, none⟩) (by simp)]; simp
  have hlt2 : w.heap.size < w2.heap.size := by have := hb2.size; simp at this; omega
  go_wp2_with fail
  refine (name_any s _ (by omega)).mono ?_
  rw [H2.out]
  rintro e w' ⟨rfl, rfl⟩
  go_wp2_with fail
  refine (valid_any v _ (by omega)).mono ?_
  rw [H3.out]
  rintro e w' ⟨rfl, rfl⟩
  go_wp2_with fail
  refine (find_set1 _ (fun x => geB x.name s) a ca l _ hn (HA.out.below hb) (set1_asks s w.heap.size _ hc hlt2)).mono ?_
  rw [HF.out]
  rintro e w3 ⟨rfl, hb3⟩
  have hb' := hb.trans (hb3.mono hb.size)
  have hc3 : w3.cell? ⟨w.heap.size, 0, none⟩ = some (.string ⟨s.toArray⟩) := by rw [hb3.cell (p := ⟨w.heap.size, 0, none⟩) hlt2]; exact hc
  go_wp2_with fail
  go_quiet (fail)
  go_wp2_with fail
  by_cases hcl : ca = l.length
  all_goals
    go_region_held3 (fun w' => w'.cell? ⟨w.heap.size, 0, none⟩ = some (.string ⟨s.toArray⟩)) (first | go_keep | (rw [hb5.cell (p := ⟨w.heap.size, 0, none⟩) (by have := hb3.size; simp; omega)]; exact hc3)) ((go_at_call 195; refine (set_tail w w3 _ hb' a _ _ _ l s v l.length l.length _ _ (by simp; try omega) (by simp; try omega) HA.out (by rw [List.drop_of_length_le (Nat.le_refl _)]; exact At.nil _ _ _ _) (by omega)).mono ?_; rintro e w4 ⟨⟨r, rfl, hO⟩, hb4, hb5⟩))
    all_goals
      go_wp2_with fail
      go_ret2
      exact ⟨⟨_, rfl, hO⟩, hb4⟩

set_option maxHeartbeats 2000000 in
theorem set_ok2 (hn : l.length ≤ 1048576) (hs : s.length ≤ 1048576) (hv : v.length ≤ 1048576) (hA : At w 2 encT a l) (hcap : l.length ≤ ca) (hsz : ∀ x ∈ l, x.name.length + x.value.length ≤ 9223372036854775807) (h1 : checkB l = true) (h2 : nameB s = true) (h3 : validB v = true) (k : Nat) (hk : k < l.length) (hf : findI (fun x => geB x.name s) l = (k : Int)) (heq : (l[k].name == s) = true) (hfull : fullB l s = false) (h64 : l.length ≤ 64) :
    Calls Tryz.prog 159 #[.slice a l.length ca, .string ⟨s.toArray⟩, .string ⟨v.toArray⟩] w (SetGives w (setR l s v) (setE l s v)) := by
  have hE : setE l s v = 0 := by simp [setE, mayB, h1, h2, h3, hfull]
  have hR : setR l s v = (l.take k ++ ⟨s, v⟩ :: l.drop (k + 1)) := by rw [← setL_eq hk hf heq]; simp [setR, mayB, h1, h2, h3, hfull]
  rw [hE, hR]
  have HA := Lib.hid hA
  have HS := Lib.hid hsz
  have H1 := Lib.hid h1
  have H2 := Lib.hid h2
  have H3 := Lib.hid h3
  have H4 := Lib.hid hfull
  clear hA hsz h1 h2 h3 hE hR
  have hi1 : (0 : Int) ≤ (k : Int) := by omega
  have hi2 : (k : Int) ≤ (ca : Int) := by omega
  have hi3 : (0 : Int) ≤ (k : Int) + 1 := by omega
  have hi4 : (k : Int) + 1 ≤ (l.length : Int) := by omega
  have hi5 : (k : Int) ≤ (l.length : Int) := by omega
  have hi6 : (k : Int) ≤ (k : Int) + 1 := by omega
  have HF := Lib.hid hf
  clear hf
  go_enter Tryz.func159, Tryz.ntmps159
  go_wp2_with fail
  refine (check_any a ca l _ hn (HA.out.below ((Below.refl _ _).alloc (Nat.le_refl _) _)) HS.out).mono ?_
  rw [H1.out]
  rintro e w2 ⟨rfl, hb2⟩
  have hb := ((Below.refl w.heap.size w).alloc (Nat.le_refl _) (.cells #[.string ⟨s.toArray⟩] 9)).trans (hb2.mono (by simp))
  have hc : w2.cell? ⟨w.heap.size, 0, none⟩ = some (.string ⟨s.toArray⟩) := by rw [hb2.cell (p := ⟨w.heap.size, 0, none⟩) (by simp)]; simp
  have hlt2 : w.heap.size < w2.heap.size := by have := hb2.size; simp at this; omega
  go_wp2_with fail
  refine (name_any s _ (by omega)).mono ?_
  rw [H2.out]
  rintro e w' ⟨rfl, rfl⟩
  go_wp2_with fail
  refine (valid_any v _ (by omega)).mono ?_
  rw [H3.out]
  rintro e w' ⟨rfl, rfl⟩
  go_wp2_with fail
  refine (find_set1 _ (fun x => geB x.name s) a ca l _ hn (HA.out.below hb) (set1_asks s w.heap.size _ hc hlt2)).mono ?_
  rw [HF.out]
  rintro e w3 ⟨rfl, hb3⟩
  have hb' := hb.trans (hb3.mono hb.size)
  have hc3 : w3.cell? ⟨w.heap.size, 0, none⟩ = some (.string ⟨s.toArray⟩) := by rw [hb3.cell (p := ⟨w.heap.size, 0, none⟩) hlt2]; exact hc
  obtain ⟨b, off, ha, hbl, hc0, hc1⟩ := (HA.out.below hb').two hk
  subst ha
  go_wp2_with fail
  go_quiet (fail)
  go_wp2_with fail
  by_cases hcl : ca = (k + 1)
  all_goals
    go_region_held3 (fun w' => w'.cell? ⟨w.heap.size, 0, none⟩ = some (.string ⟨s.toArray⟩)) (first | go_keep | (rw [hb5.cell (p := ⟨w.heap.size, 0, none⟩) (by have := hb3.size; simp; omega)]; exact hc3)) ((go_at_call 195; refine (set_tail w w3 _ hb' (some ⟨b, off, none⟩) _ _ _ l s v k (k + 1) _ _ (by simp; try omega) (by simp; try omega) HA.out (HA.out.dropIf hcap (by simp [hcl])) (by omega)).mono ?_; rintro e w4 ⟨⟨r, rfl, hO⟩, hb4, hb5⟩))
    all_goals
      go_wp2_with fail
      go_ret2
      exact ⟨⟨_, rfl, hO⟩, hb4⟩

set_option maxHeartbeats 2000000 in
theorem set_ok3 (hn : l.length ≤ 1048576) (hs : s.length ≤ 1048576) (hv : v.length ≤ 1048576) (hA : At w 2 encT a l) (hcap : l.length ≤ ca) (hsz : ∀ x ∈ l, x.name.length + x.value.length ≤ 9223372036854775807) (h1 : checkB l = true) (h2 : nameB s = true) (h3 : validB v = true) (k : Nat) (hk : k < l.length) (hf : findI (fun x => geB x.name s) l = (k : Int)) (heq : (l[k].name == s) = false) (hfull : fullB l s = false) (h64 : l.length < 64) :
    Calls Tryz.prog 159 #[.slice a l.length ca, .string ⟨s.toArray⟩, .string ⟨v.toArray⟩] w (SetGives w (setR l s v) (setE l s v)) := by
  have hE : setE l s v = 0 := by simp [setE, mayB, h1, h2, h3, hfull]
  have hR : setR l s v = (l.take k ++ ⟨s, v⟩ :: l.drop k) := by rw [← setL_ne hk hf heq]; simp [setR, mayB, h1, h2, h3, hfull]
  rw [hE, hR]
  have HA := Lib.hid hA
  have HS := Lib.hid hsz
  have H1 := Lib.hid h1
  have H2 := Lib.hid h2
  have H3 := Lib.hid h3
  have H4 := Lib.hid hfull
  clear hA hsz h1 h2 h3 hE hR
  have hi1 : (0 : Int) ≤ (k : Int) := by omega
  have hi2 : (k : Int) ≤ (ca : Int) := by omega
  have hi3 : (0 : Int) ≤ (k : Int) + 1 := by omega
  have hi4 : (k : Int) + 1 ≤ (l.length : Int) := by omega
  have hi5 : (k : Int) ≤ (l.length : Int) := by omega
  have hi6 : (k : Int) ≤ (k : Int) + 1 := by omega
  have HF := Lib.hid hf
  clear hf
  go_enter Tryz.func159, Tryz.ntmps159
  go_wp2_with fail
  refine (check_any a ca l _ hn (HA.out.below ((Below.refl _ _).alloc (Nat.le_refl _) _)) HS.out).mono ?_
  rw [H1.out]
  rintro e w2 ⟨rfl, hb2⟩
  have hb := ((Below.refl w.heap.size w).alloc (Nat.le_refl _) (.cells #[.string ⟨s.toArray⟩] 9)).trans (hb2.mono (by simp))
  have hc : w2.cell? ⟨w.heap.size, 0, none⟩ = some (.string ⟨s.toArray⟩) := by rw [hb2.cell (p := ⟨w.heap.size, 0, none⟩) (by simp)]; simp
  have hlt2 : w.heap.size < w2.heap.size := by have := hb2.size; simp at this; omega
  go_wp2_with fail
  refine (name_any s _ (by omega)).mono ?_
  rw [H2.out]
  rintro e w' ⟨rfl, rfl⟩
  go_wp2_with fail
  refine (valid_any v _ (by omega)).mono ?_
  rw [H3.out]
  rintro e w' ⟨rfl, rfl⟩
  go_wp2_with fail
  refine (find_set1 _ (fun x => geB x.name s) a ca l _ hn (HA.out.below hb) (set1_asks s w.heap.size _ hc hlt2)).mono ?_
  rw [HF.out]
  rintro e w3 ⟨rfl, hb3⟩
  have hb' := hb.trans (hb3.mono hb.size)
  have hc3 : w3.cell? ⟨w.heap.size, 0, none⟩ = some (.string ⟨s.toArray⟩) := by rw [hb3.cell (p := ⟨w.heap.size, 0, none⟩) hlt2]; exact hc
  obtain ⟨b, off, ha, hbl, hc0, hc1⟩ := (HA.out.below hb').two hk
  subst ha
  go_wp2_with fail
  go_quiet (fail)
  go_wp2_with fail
  by_cases hcl : ca = k
  all_goals
    go_region_held3 (fun w' => w'.cell? ⟨w.heap.size, 0, none⟩ = some (.string ⟨s.toArray⟩)) (first | go_keep | (rw [hb5.cell (p := ⟨w.heap.size, 0, none⟩) (by have := hb3.size; simp; omega)]; exact hc3)) ((go_at_call 195; refine (set_tail w w3 _ hb' (some ⟨b, off, none⟩) _ _ _ l s v k k _ _ (by simp; try omega) (by simp; try omega) HA.out (HA.out.dropIf hcap (by simp [hcl])) (by omega)).mono ?_; rintro e w4 ⟨⟨r, rfl, hO⟩, hb4, hb5⟩))
    all_goals
      go_wp2_with fail
      go_ret2
      exact ⟨⟨_, rfl, hO⟩, hb4⟩

theorem checkB_len {l : List Two} (h : checkB l = true) : l.length ≤ 64 := by
  unfold checkB at h
  simp only [Bool.and_eq_true, decide_eq_true_eq] at h
  exact h.1
theorem set_any (hn : l.length ≤ 1048576) (hs : s.length ≤ 1048576) (hv : v.length ≤ 1048576) (hA : At w 2 encT a l) (hcap : l.length ≤ ca) (hsz : ∀ x ∈ l, x.name.length + x.value.length ≤ 9223372036854775807) :
    Calls Tryz.prog 159 #[.slice a l.length ca, .string ⟨s.toArray⟩, .string ⟨v.toArray⟩] w (SetGives w (setR l s v) (setE l s v)) := by
  cases h1 : checkB l
  · exact set_bad1 a ca l s v w hn hs hv hA hcap hsz h1
  cases h2 : nameB s
  · exact set_bad2 a ca l s v w hn hs hv hA hcap hsz h1 h2
  cases h3 : validB v
  · exact set_bad3 a ca l s v w hn hs hv hA hcap hsz h1 h2 h3
  have h64 := checkB_len h1
  rcases findI_cases (fun x => geB x.name s) l with ⟨hf, _⟩ | ⟨k, hk, hf, _, _⟩
  · have e : fullB l s = decide (64 ≤ l.length) := by simp [fullB, posL_none hf, hasAt_len]
    by_cases hl : 64 ≤ l.length
    · exact set_full1 a ca l s v w hn hs hv hA hcap hsz h1 h2 h3 hf (by rw [e]; simpa using hl) hl
    · exact set_ok1 a ca l s v w hn hs hv hA hcap hsz h1 h2 h3 hf (by rw [e]; simpa using hl) (by omega)
  · cases heq : (l[k].name == s)
    · have e : fullB l s = decide (64 ≤ l.length) := by simp [fullB, posL_some hk hf, hasAt_lt hk, heq]
      by_cases hl : 64 ≤ l.length
      · exact set_full2 a ca l s v w hn hs hv hA hcap hsz h1 h2 h3 k hk hf heq (by rw [e]; simpa using hl) hl
      · exact set_ok3 a ca l s v w hn hs hv hA hcap hsz h1 h2 h3 k hk hf heq (by rw [e]; simpa using hl) (by omega)
    · exact set_ok2 a ca l s v w hn hs hv hA hcap hsz h1 h2 h3 k hk hf heq (by simp [fullB, posL_some hk hf, hasAt_lt hk, heq]) h64
end
end Go.Proofs.YtfedkhicckgjaaaGreatDoor
