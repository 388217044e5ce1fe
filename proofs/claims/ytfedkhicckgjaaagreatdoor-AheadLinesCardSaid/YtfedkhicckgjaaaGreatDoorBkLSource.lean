/- binderylaw01.Book and lists of Source: look. -/
import Derived.Test.YtfedkhicckgjaaaGreatDoorBkSource
import Derived.Test.YtfedkhicckgjaaaGreatDoorTakes
namespace Go.Proofs.YtfedkhicckgjaaaGreatDoor
open Go.RowKit
set_option linter.unusedVariables false

set_option maxHeartbeats 8000000 in
set_option maxRecDepth 100000 in
theorem lookSource_any (B kb : Nat) (C : List Value) (hv : Value) (held : List HeldV) (N : Nat → Nat) (w : World) (hk : Bk w kb C 50) (h1 : C[6]? = some hv)
    (hO : Own w B 101 3 encH hv held) (hl : held.length < 100) (hE : ∀ j (hj : j < held.length), Own w B 63 2 encT held[j].v (List.replicate (N j) (mkSource held[j].n)))
    (hG : ∀ j (hj : j < held.length), Own w B 63 2 encT held[j].long (List.replicate (N j + 40) (mkSource held[j].n))) (hn : ∀ j (hj : j < held.length), held[j].n < 10) (hL : ∀ j, N j ≤ 1048577) :
    Calls Tryz.prog 74 #[.pointer (some ⟨kb, 0, none⟩)] w fun e w' => e = .returned (.bool true) ∧ Below w.heap.size w w' := by
  obtain ⟨a0, d0, rfl⟩ := hO.shape
  have HK := Lib.hid hk
  have HO := Lib.hid hO
  have HE := Lib.hid hE
  have HG := Lib.hid hG
  have HNN := Lib.hid hn
  have HLL := Lib.hid hL
  have HC1 := Lib.hid h1
  clear hk hO hE hG hn hL h1
  go_enter Tryz.func74, Tryz.ntmps74
  go_wp2_with fail
  go_loopw [3] (fun v3 wr => ∃ i : Nat, i ≤ held.length ∧ v3 = .int .i64 i ∧ Below w.heap.size w wr) (fun v3 _ => held.length - (intOf v3).toNat)
  case atStart => exact ⟨0, by omega, rfl, Below.refl _ _⟩
  case round =>
    obtain ⟨i, hi, rfl, hb⟩ := hrel
    have hc1 : wr.cell? ⟨kb, 6, none⟩ = some (.slice a0 held.length d0) := by rw [(HK.out.next hb).cell]; exact HC1.out
    by_cases hlt : i < held.length
    · have hOr := HO.out.next (by rfl) hb
      obtain ⟨gl, hgl, hBg, hgll, hlc⟩ := hOr.ptr (by omega)
      subst hgl
      have hc2 := hOr.cellAt encH_ok (List.getElem?_eq_getElem hlt) (j := 0) rfl
      have hc3 := hOr.cellAt encH_ok (List.getElem?_eq_getElem hlt) (j := 1) rfl
      have hc4 := hOr.cellAt encH_ok (List.getElem?_eq_getElem hlt) (j := 2) rfl
      rw [Nat.add_zero] at hc2
      have hn10 := HNN.out i hlt
      have hLi := HLL.out i
      have hE1 := (HE.out i hlt).next (by rfl) hb
      have hG1 := (HG.out i hlt).next (by rfl) hb
      obtain ⟨xa, xl, xc, ya, yl, yc, nn, hx⟩ : ∃ xa xl xc ya yl yc nn, held[i] = ⟨xa, xl, xc, ya, yl, yc, nn⟩ := ⟨_, _, _, _, _, _, _, rfl⟩
      rw [hx] at hc2 hc3 hc4 hn10 hE1 hG1
      simp only [HeldV.v, HeldV.long] at hc2 hc3 hc4 hn10 hE1 hG1
      generalize N i = n at *
      have hxl : xl = n := by
        obtain ⟨_, _, e⟩ := hE1.shape
        injection e with _ e _
        rw [e]; simp
      have hyl : yl = n + 40 := by
        obtain ⟨_, _, e⟩ := hG1.shape
        injection e with _ e _
        rw [e]; simp
      subst hxl hyl
      have HE1 := Lib.hid hE1
      have HG1 := Lib.hid hG1
      clear hOr hx hE1 hG1
      have hlt3 : (i : Int) < (held.length : Int) := by omega
      obtain ⟨g2, hg2, _, hg2l, hg2c⟩ := HG1.out.ptr (by omega)
      subst hg2
      go_wp2_with fail
      obtain ⟨wo, hwo⟩ : ∃ wo : World, wo = wr := ⟨_, rfl⟩
      subst hwo
      have HST := Lib.hid (Below.refl (wo.alloc (.cells #[.slice xa xl xc, .slice (some ⟨g2, 0, none⟩) (xl + 40) yc, .int .i64 nn] 101)).heap.size (wo.alloc (.cells #[.slice xa xl xc, .slice (some ⟨g2, 0, none⟩) (xl + 40) yc, .int .i64 nn] 101)))
      go_loopw [5] (fun v5 wi => ∃ k : Nat, k ≤ xl + 40 ∧ v5 = .int .i64 k ∧ Hid (Below (wo.alloc (.cells #[.slice xa xl xc, .slice (some ⟨g2, 0, none⟩) (xl + 40) yc, .int .i64 nn] 101)).heap.size (wo.alloc (.cells #[.slice xa xl xc, .slice (some ⟨g2, 0, none⟩) (xl + 40) yc, .int .i64 nn] 101)) wi)) (fun v5 _ => xl + 40 - (intOf v5).toNat)
      case atStart => exact ⟨0, by omega, rfl, HST⟩
      case round =>
        obtain ⟨k, hk, rfl, HB⟩ := hrel
        have hbh := (Bk.new wo #[.slice xa xl xc, .slice (some ⟨g2, 0, none⟩) (xl + 40) yc, .int .i64 nn] 101).next HB.out
        have hh0 : wr.cell? ⟨wo.heap.size, 0, none⟩ = some (.slice xa xl xc) := hbh.cell 0
        have hh1 : wr.cell? ⟨wo.heap.size, 1, none⟩ = some (.slice (some ⟨g2, 0, none⟩) (xl + 40) yc) := hbh.cell 1
        have hh2 : wr.cell? ⟨wo.heap.size, 2, none⟩ = some (.int .i64 nn) := hbh.cell 2
        have hhl := hbh.lt
        have hG2 := (HG1.out.alloc (.cells #[.slice xa xl xc, .slice (some ⟨g2, 0, none⟩) (xl + 40) yc, .int .i64 nn] 101)).next (by rfl) HB.out
        have hE2 := (HE1.out.alloc (.cells #[.slice xa xl xc, .slice (some ⟨g2, 0, none⟩) (xl + 40) yc, .int .i64 nn] 101)).next (by rfl) HB.out
        have HG2 := Lib.hid hG2
        have HE2 := Lib.hid hE2
        clear hbh hG2 hE2
        by_cases hlt2 : k < xl + 40
        · have hkg : (List.replicate (xl + 40) (mkSource nn))[k]? = some (mkSource nn) := by rw [List.getElem?_replicate, if_pos hlt2]
          have HKG := Lib.hid hkg
          clear hkg
          have zg0 : wr.cell? ⟨g2, k * 2, none⟩ = some (.string ⟨(wordB nn).toArray⟩) := (HG2.out).cellAt encT_ok HKG.out (j := 0) rfl
          have zg1 : wr.cell? ⟨g2, k * 2 + 1, none⟩ = some (.string ⟨#[]⟩) := (HG2.out).cellAt encT_ok HKG.out (j := 1) rfl
          have hki : (0 : Int) ≤ (k : Int) := by omega
          have hki2 : (k : Int) < (xl : Int) + 40 := by omega
          by_cases hlt4 : k < xl
          · obtain ⟨g1, hg1, _, hg1l, hg1c⟩ := HE2.out.ptr (by omega)
            subst hg1
            have hke : (List.replicate xl (mkSource nn))[k]? = some (mkSource nn) := by rw [List.getElem?_replicate, if_pos hlt4]
            have HKE := Lib.hid hke
            clear hke
            have ze0 : wr.cell? ⟨g1, k * 2, none⟩ = some (.string ⟨(wordB nn).toArray⟩) := (HE2.out).cellAt encT_ok HKE.out (j := 0) rfl
            have ze1 : wr.cell? ⟨g1, k * 2 + 1, none⟩ = some (.string ⟨#[]⟩) := (HE2.out).cellAt encT_ok HKE.out (j := 1) rfl
            have hki3 : (k : Int) < (xl : Int) := by omega
            go_wp2_with fail
            refine wp_region_noPanic ?_
            refine wp_region_held_drew (S := (fun w' => w'.cell? ⟨wo.heap.size, 0, none⟩ = some (.slice (some ⟨g1, 0, none⟩) xl xc) ∧ w'.cell? ⟨wo.heap.size, 1, none⟩ = some (.slice (some ⟨g2, 0, none⟩) (xl + 40) yc) ∧ w'.cell? ⟨wo.heap.size, 2, none⟩ = some (.int .i64 nn) ∧ w'.cell? ⟨g2, k * 2, none⟩ = some (.string ⟨(wordB nn).toArray⟩) ∧ w'.cell? ⟨g2, k * 2 + 1, none⟩ = some (.string ⟨#[]⟩) ∧ w'.cell? ⟨g1, k * 2, none⟩ = some (.string ⟨(wordB nn).toArray⟩) ∧ w'.cell? ⟨g1, k * 2 + 1, none⟩ = some (.string ⟨#[]⟩))) (by kernel_rfl) ⟨hh0, hh1, hh2, zg0, zg1, ze0, ze1⟩ (fun hHeld => ?_)
            refine takeAt (i := 0) (v := ?_) rfl rfl (by kernel_rfl) (by kernel_rfl) (by kernel_rfl) (fun _ _ _ h => h) (Or.inl ⟨by rfl, ?_⟩) hHeld ?_
            rotate_left
            · intro w hSw
              obtain ⟨hs0, hs1, hs2, hs3, hs4, hs5, hs6⟩ := hSw
              go_simp
              first | done | (with_reducible rfl)
            try simp only [List.setIfInBounds_toArray, List.set_cons_zero, List.set_cons_succ]
            refine takeAt (i := 1) (v := ?_) rfl rfl (by kernel_rfl) (by kernel_rfl) (by kernel_rfl) (fun _ _ _ h => h) (Or.inl ⟨by rfl, ?_⟩) hHeld ?_
            rotate_left
            · intro w hSw
              obtain ⟨hs0, hs1, hs2, hs3, hs4, hs5, hs6⟩ := hSw
              go_simp
              first | done | (with_reducible rfl)
            try simp only [List.setIfInBounds_toArray, List.set_cons_zero, List.set_cons_succ]
            refine takeAt (i := 2) (v := ?_) rfl rfl (by kernel_rfl) (by kernel_rfl) (by kernel_rfl) (fun _ _ _ h => h) (Or.inl ⟨by rfl, ?_⟩) hHeld ?_
            rotate_left
            · intro w hSw
              obtain ⟨hs0, hs1, hs2, hs3, hs4, hs5, hs6⟩ := hSw
              go_simp
              first | done | (with_reducible rfl)
            try simp only [List.setIfInBounds_toArray, List.set_cons_zero, List.set_cons_succ]
            refine takeAt (i := 3) (v := ?_) rfl rfl (by kernel_rfl) (by kernel_rfl) (by kernel_rfl) (fun _ _ _ h => h) (Or.inl ⟨by rfl, ?_⟩) hHeld ?_
            rotate_left
            · intro w hSw
              obtain ⟨hs0, hs1, hs2, hs3, hs4, hs5, hs6⟩ := hSw
              go_simp
              first | done | (with_reducible rfl)
            try simp only [List.setIfInBounds_toArray, List.set_cons_zero, List.set_cons_succ]
            refine takeAt (i := 4) (v := ?_) rfl rfl (by kernel_rfl) (by kernel_rfl) (by kernel_rfl) (fun _ _ _ h => h) (Or.inl ⟨by rfl, ?_⟩) hHeld ?_
            rotate_left
            · intro w hSw
              obtain ⟨hs0, hs1, hs2, hs3, hs4, hs5, hs6⟩ := hSw
              go_simp
              first | done | (with_reducible rfl)
            try simp only [List.setIfInBounds_toArray, List.set_cons_zero, List.set_cons_succ]
            refine takeAt (i := 5) (v := ?_) rfl rfl (by kernel_rfl) (by kernel_rfl) (by kernel_rfl) (fun _ _ _ h => h) (Or.inl ⟨by rfl, ?_⟩) hHeld ?_
            rotate_left
            · intro w hSw
              obtain ⟨hs0, hs1, hs2, hs3, hs4, hs5, hs6⟩ := hSw
              go_simp
              first | done | (with_reducible rfl)
            try simp only [List.setIfInBounds_toArray, List.set_cons_zero, List.set_cons_succ]
            refine takeAt (i := 6) (v := ?_) rfl rfl (by kernel_rfl) (by kernel_rfl) (by kernel_rfl) (fun _ _ _ h => h) (Or.inl ⟨by rfl, ?_⟩) hHeld ?_
            rotate_left
            · intro w hSw
              obtain ⟨hs0, hs1, hs2, hs3, hs4, hs5, hs6⟩ := hSw
              go_simp
              first | done | (with_reducible rfl)
            try simp only [List.setIfInBounds_toArray, List.set_cons_zero, List.set_cons_succ]
            refine wpAnyH_ready (rs := [7]) (by kernel_rfl) (by simp) ?_
            refine AllReadyH.cons rfl (fun K hK => ?_) AllReadyH.nil
            go_simp
            go_at_call 118
            refine (isSource_any nn _ hn10).mono ?_
            rintro e w2 ⟨rfl, hb2⟩
            have HB0 : Hid (Below wr.heap.size wr w2) := (⟨hb2.os, hb2.tape, hb2.output, hb2.size, hb2.block⟩ : Below wr.heap.size wr w2)
            clear hb2
            go_wp2_with fail
            refine hK.out _ _ ⟨(HB0.out.cell (p := ⟨wo.heap.size, 0, none⟩) hhl).trans hh0, (HB0.out.cell (p := ⟨wo.heap.size, 1, none⟩) hhl).trans hh1, (HB0.out.cell (p := ⟨wo.heap.size, 2, none⟩) hhl).trans hh2, (HB0.out.cell (p := ⟨g2, k * 2, none⟩) (show g2 < wr.heap.size by omega)).trans zg0, (HB0.out.cell (p := ⟨g2, k * 2 + 1, none⟩) (show g2 < wr.heap.size by omega)).trans zg1, (HB0.out.cell (p := ⟨g1, k * 2, none⟩) (show g1 < wr.heap.size by omega)).trans ze0, (HB0.out.cell (p := ⟨g1, k * 2 + 1, none⟩) (show g1 < wr.heap.size by omega)).trans ze1⟩ (fun hHeld => ?_)
            clear hK K
            try simp only [List.setIfInBounds_toArray, List.set_cons_zero, List.set_cons_succ]
            refine takeAt (i := 8) (v := ?_) rfl rfl (by kernel_rfl) (by kernel_rfl) (by kernel_rfl) (fun _ _ _ h => h) (Or.inl ⟨by rfl, ?_⟩) hHeld ?_
            rotate_left
            · intro w hSw
              obtain ⟨hs0, hs1, hs2, hs3, hs4, hs5, hs6⟩ := hSw
              go_simp
              first | done | (with_reducible rfl)
            try simp only [List.setIfInBounds_toArray, List.set_cons_zero, List.set_cons_succ]
            refine takeAt (i := 9) (v := ?_) rfl rfl (by kernel_rfl) (by kernel_rfl) (by kernel_rfl) (fun _ _ _ h => h) (Or.inl ⟨by rfl, ?_⟩) hHeld ?_
            rotate_left
            · intro w hSw
              obtain ⟨hs0, hs1, hs2, hs3, hs4, hs5, hs6⟩ := hSw
              go_simp
              first | done | (with_reducible rfl)
            try simp only [List.setIfInBounds_toArray, List.set_cons_zero, List.set_cons_succ]
            refine takeAt (i := 10) (v := ?_) rfl rfl (by kernel_rfl) (by kernel_rfl) (by kernel_rfl) (fun _ _ _ h => h) (Or.inl ⟨by rfl, ?_⟩) hHeld ?_
            rotate_left
            · intro w hSw
              obtain ⟨hs0, hs1, hs2, hs3, hs4, hs5, hs6⟩ := hSw
              go_simp
              first | done | (with_reducible rfl)
            try simp only [List.setIfInBounds_toArray, List.set_cons_zero, List.set_cons_succ]
            refine takeAt (i := 11) (v := ?_) rfl rfl (by kernel_rfl) (by kernel_rfl) (by kernel_rfl) (fun _ _ _ h => h) (Or.inl ⟨by rfl, ?_⟩) hHeld ?_
            rotate_left
            · intro w hSw
              obtain ⟨hs0, hs1, hs2, hs3, hs4, hs5, hs6⟩ := hSw
              go_simp
              first | done | (with_reducible rfl)
            try simp only [List.setIfInBounds_toArray, List.set_cons_zero, List.set_cons_succ]
            refine takeAt (i := 12) (v := ?_) rfl rfl (by kernel_rfl) (by kernel_rfl) (by kernel_rfl) (fun _ _ _ h => h) (Or.inl ⟨by rfl, ?_⟩) hHeld ?_
            rotate_left
            · intro w hSw
              obtain ⟨hs0, hs1, hs2, hs3, hs4, hs5, hs6⟩ := hSw
              go_simp
              first | done | (with_reducible rfl)
            try simp only [List.setIfInBounds_toArray, List.set_cons_zero, List.set_cons_succ]
            refine takeAt (i := 13) (v := ?_) rfl rfl (by kernel_rfl) (by kernel_rfl) (by kernel_rfl) (fun _ _ _ h => h) (Or.inl ⟨by rfl, ?_⟩) hHeld ?_
            rotate_left
            · intro w hSw
              obtain ⟨hs0, hs1, hs2, hs3, hs4, hs5, hs6⟩ := hSw
              go_simp
              first | done | (with_reducible rfl)
            try simp only [List.setIfInBounds_toArray, List.set_cons_zero, List.set_cons_succ]
            refine takeAt (i := 14) (v := ?_) rfl rfl (by kernel_rfl) (by kernel_rfl) (by kernel_rfl) (fun _ _ _ h => h) (Or.inl ⟨by rfl, ?_⟩) hHeld ?_
            rotate_left
            · intro w hSw
              obtain ⟨hs0, hs1, hs2, hs3, hs4, hs5, hs6⟩ := hSw
              go_simp
              first | done | (with_reducible rfl)
            try simp only [List.setIfInBounds_toArray, List.set_cons_zero, List.set_cons_succ]
            refine takeAt (i := 15) (v := ?_) rfl rfl (by kernel_rfl) (by kernel_rfl) (by kernel_rfl) (fun _ _ _ h => h) (Or.inl ⟨by rfl, ?_⟩) hHeld ?_
            rotate_left
            · intro w hSw
              obtain ⟨hs0, hs1, hs2, hs3, hs4, hs5, hs6⟩ := hSw
              go_simp
              first | done | (with_reducible rfl)
            try simp only [List.setIfInBounds_toArray, List.set_cons_zero, List.set_cons_succ]
            refine takeAt (i := 16) (v := ?_) rfl rfl (by kernel_rfl) (by kernel_rfl) (by kernel_rfl) (fun _ _ _ h => h) (Or.inl ⟨by rfl, ?_⟩) hHeld ?_
            rotate_left
            · intro w hSw
              obtain ⟨hs0, hs1, hs2, hs3, hs4, hs5, hs6⟩ := hSw
              go_simp
              first | done | (with_reducible rfl)
            try simp only [List.setIfInBounds_toArray, List.set_cons_zero, List.set_cons_succ]
            refine takeAt (i := 17) (v := ?_) rfl rfl (by kernel_rfl) (by kernel_rfl) (by kernel_rfl) (fun _ _ _ h => h) (Or.inl ⟨by rfl, ?_⟩) hHeld ?_
            rotate_left
            · intro w hSw
              obtain ⟨hs0, hs1, hs2, hs3, hs4, hs5, hs6⟩ := hSw
              go_simp
              first | done | (with_reducible rfl)
            try simp only [List.setIfInBounds_toArray, List.set_cons_zero, List.set_cons_succ]
            refine takeAt (i := 18) (v := ?_) rfl rfl (by kernel_rfl) (by kernel_rfl) (by kernel_rfl) (fun _ _ _ h => h) (Or.inl ⟨by rfl, ?_⟩) hHeld ?_
            rotate_left
            · intro w hSw
              obtain ⟨hs0, hs1, hs2, hs3, hs4, hs5, hs6⟩ := hSw
              go_simp
              first | done | (with_reducible rfl)
            try simp only [List.setIfInBounds_toArray, List.set_cons_zero, List.set_cons_succ]
            refine takeAt (i := 19) (v := ?_) rfl rfl (by kernel_rfl) (by kernel_rfl) (by kernel_rfl) (fun _ _ _ h => h) (Or.inl ⟨by rfl, ?_⟩) hHeld ?_
            rotate_left
            · intro w hSw
              obtain ⟨hs0, hs1, hs2, hs3, hs4, hs5, hs6⟩ := hSw
              go_simp
              first | done | (with_reducible rfl)
            try simp only [List.setIfInBounds_toArray, List.set_cons_zero, List.set_cons_succ]
            refine takeAt (i := 20) (v := ?_) rfl rfl (by kernel_rfl) (by kernel_rfl) (by kernel_rfl) (fun _ _ _ h => h) (Or.inl ⟨by rfl, ?_⟩) hHeld ?_
            rotate_left
            · intro w hSw
              obtain ⟨hs0, hs1, hs2, hs3, hs4, hs5, hs6⟩ := hSw
              go_simp
              first | done | (with_reducible rfl)
            try simp only [List.setIfInBounds_toArray, List.set_cons_zero, List.set_cons_succ]
            refine takeAt (i := 21) (v := ?_) rfl rfl (by kernel_rfl) (by kernel_rfl) (by kernel_rfl) (fun _ _ _ h => h) (Or.inl ⟨by rfl, ?_⟩) hHeld ?_
            rotate_left
            · intro w hSw
              obtain ⟨hs0, hs1, hs2, hs3, hs4, hs5, hs6⟩ := hSw
              go_simp
              first | done | (with_reducible rfl)
            try simp only [List.setIfInBounds_toArray, List.set_cons_zero, List.set_cons_succ]
            refine takeAt (i := 22) (v := ?_) rfl rfl (by kernel_rfl) (by kernel_rfl) (by kernel_rfl) (fun _ _ _ h => h) (Or.inl ⟨by rfl, ?_⟩) hHeld ?_
            rotate_left
            · intro w hSw
              obtain ⟨hs0, hs1, hs2, hs3, hs4, hs5, hs6⟩ := hSw
              go_simp
              first | done | (with_reducible rfl)
            try simp only [List.setIfInBounds_toArray, List.set_cons_zero, List.set_cons_succ]
            refine wpAnyH_ready (rs := [23]) (by kernel_rfl) (by simp) ?_
            refine AllReadyH.cons rfl (fun K hK => ?_) AllReadyH.nil
            go_simp
            go_at_call 118
            refine (isSource_any nn _ hn10).mono ?_
            rintro e w3 ⟨rfl, hb2⟩
            have HB1 : Hid (Below wr.heap.size wr w3) := (HB0.out.trans ((⟨hb2.os, hb2.tape, hb2.output, hb2.size, hb2.block⟩ : Below w2.heap.size w2 w3).mono HB0.out.size))
            clear hb2
            go_wp2_with fail
            refine hK.out _ _ ⟨(HB1.out.cell (p := ⟨wo.heap.size, 0, none⟩) hhl).trans hh0, (HB1.out.cell (p := ⟨wo.heap.size, 1, none⟩) hhl).trans hh1, (HB1.out.cell (p := ⟨wo.heap.size, 2, none⟩) hhl).trans hh2, (HB1.out.cell (p := ⟨g2, k * 2, none⟩) (show g2 < wr.heap.size by omega)).trans zg0, (HB1.out.cell (p := ⟨g2, k * 2 + 1, none⟩) (show g2 < wr.heap.size by omega)).trans zg1, (HB1.out.cell (p := ⟨g1, k * 2, none⟩) (show g1 < wr.heap.size by omega)).trans ze0, (HB1.out.cell (p := ⟨g1, k * 2 + 1, none⟩) (show g1 < wr.heap.size by omega)).trans ze1⟩ (fun hHeld => ?_)
            clear hK K
            try simp only [List.setIfInBounds_toArray, List.set_cons_zero, List.set_cons_succ]
            refine takeAt (i := 24) (v := ?_) rfl rfl (by kernel_rfl) (by kernel_rfl) (by kernel_rfl) (fun _ _ _ h => h) (Or.inl ⟨by rfl, ?_⟩) hHeld ?_
            rotate_left
            · intro w hSw
              obtain ⟨hs0, hs1, hs2, hs3, hs4, hs5, hs6⟩ := hSw
              go_simp
              first | done | (with_reducible rfl)
            try simp only [List.setIfInBounds_toArray, List.set_cons_zero, List.set_cons_succ]
            refine takeAt (i := 25) (v := ?_) rfl rfl (by kernel_rfl) (by kernel_rfl) (by kernel_rfl) (fun _ _ _ h => h) (Or.inl ⟨by rfl, ?_⟩) hHeld ?_
            rotate_left
            · intro w hSw
              obtain ⟨hs0, hs1, hs2, hs3, hs4, hs5, hs6⟩ := hSw
              go_simp
              first | done | (with_reducible rfl)
            try simp only [List.setIfInBounds_toArray, List.set_cons_zero, List.set_cons_succ]
            refine takeAt (i := 26) (v := ?_) rfl rfl (by kernel_rfl) (by kernel_rfl) (by kernel_rfl) (fun _ _ _ h => h) (Or.inl ⟨by rfl, ?_⟩) hHeld ?_
            rotate_left
            · intro w hSw
              obtain ⟨hs0, hs1, hs2, hs3, hs4, hs5, hs6⟩ := hSw
              go_simp
              first | done | (with_reducible rfl)
            try simp only [List.setIfInBounds_toArray, List.set_cons_zero, List.set_cons_succ]
            refine wpAnyH_done (by kernel_rfl) ?_ _
            refine NoPanic.normal ?_
            have HBF := Lib.hid (HB.out.trans (HB1.out.mono HB.out.size))
            go_wp2_with fail
            go_roundw
            case rel => exact ⟨k + 1, by omega, by go_num, HBF⟩
            case measure => simp [intOf]; omega
          · have hki3 : (xl : Int) ≤ (k : Int) := by omega
            have hki5 : decide ((k : Int) < (xl : Int)) = false := by simp; omega
            have hki6 : decide (k < xl) = false := by simp; omega
            go_wp2_with fail
            refine wp_region_noPanic ?_
            refine wp_region_held_drew (S := (fun w' => w'.cell? ⟨wo.heap.size, 0, none⟩ = some (.slice xa xl xc) ∧ w'.cell? ⟨wo.heap.size, 1, none⟩ = some (.slice (some ⟨g2, 0, none⟩) (xl + 40) yc) ∧ w'.cell? ⟨wo.heap.size, 2, none⟩ = some (.int .i64 nn) ∧ w'.cell? ⟨g2, k * 2, none⟩ = some (.string ⟨(wordB nn).toArray⟩) ∧ w'.cell? ⟨g2, k * 2 + 1, none⟩ = some (.string ⟨#[]⟩))) (by kernel_rfl) ⟨hh0, hh1, hh2, zg0, zg1⟩ (fun hHeld => ?_)
            refine takeAt (i := 0) (v := ?_) rfl rfl (by kernel_rfl) (by kernel_rfl) (by kernel_rfl) (fun _ _ _ h => h) (Or.inl ⟨by rfl, ?_⟩) hHeld ?_
            rotate_left
            · intro w hSw
              obtain ⟨hs0, hs1, hs2, hs3, hs4⟩ := hSw
              go_simp
              first | done | (with_reducible rfl)
            try simp only [List.setIfInBounds_toArray, List.set_cons_zero, List.set_cons_succ]
            refine takeAt (i := 1) (v := ?_) rfl rfl (by kernel_rfl) (by kernel_rfl) (by kernel_rfl) (fun _ _ _ h => h) (Or.inl ⟨by rfl, ?_⟩) hHeld ?_
            rotate_left
            · intro w hSw
              obtain ⟨hs0, hs1, hs2, hs3, hs4⟩ := hSw
              go_simp
              first | done | (with_reducible rfl)
            try simp only [List.setIfInBounds_toArray, List.set_cons_zero, List.set_cons_succ]
            refine takeAt (i := 2) (v := ?_) rfl rfl (by kernel_rfl) (by kernel_rfl) (by kernel_rfl) (fun _ _ _ h => h) (Or.inl ⟨by rfl, ?_⟩) hHeld ?_
            rotate_left
            · intro w hSw
              obtain ⟨hs0, hs1, hs2, hs3, hs4⟩ := hSw
              go_simp
              first | done | (with_reducible rfl)
            try simp only [List.setIfInBounds_toArray, List.set_cons_zero, List.set_cons_succ]
            refine takeAt (i := 3) (v := ?_) rfl rfl (by kernel_rfl) (by kernel_rfl) (by kernel_rfl) (fun _ _ _ h => h) (Or.inl ⟨by rfl, ?_⟩) hHeld ?_
            rotate_left
            · intro w hSw
              obtain ⟨hs0, hs1, hs2, hs3, hs4⟩ := hSw
              go_simp
              first | done | (with_reducible rfl)
            try simp only [List.setIfInBounds_toArray, List.set_cons_zero, List.set_cons_succ]
            refine takeAt (i := 4) (v := ?_) rfl rfl (by kernel_rfl) (by kernel_rfl) (by kernel_rfl) (fun _ _ _ h => h) (Or.inl ⟨by rfl, ?_⟩) hHeld ?_
            rotate_left
            · intro w hSw
              obtain ⟨hs0, hs1, hs2, hs3, hs4⟩ := hSw
              go_simp
              first | done | (with_reducible rfl)
            try simp only [List.setIfInBounds_toArray, List.set_cons_zero, List.set_cons_succ]
            refine takeAt (i := 5) (v := ?_) rfl rfl (by kernel_rfl) (by kernel_rfl) (by kernel_rfl) (fun _ _ _ h => h) (Or.inl ⟨by rfl, ?_⟩) hHeld ?_
            rotate_left
            · intro w hSw
              obtain ⟨hs0, hs1, hs2, hs3, hs4⟩ := hSw
              go_simp
              first | done | (with_reducible rfl)
            try simp only [List.setIfInBounds_toArray, List.set_cons_zero, List.set_cons_succ]
            refine takeAt (i := 6) (v := ?_) rfl rfl (by kernel_rfl) (by kernel_rfl) (by kernel_rfl) (fun _ _ _ h => h) (Or.inl ⟨by rfl, ?_⟩) hHeld ?_
            rotate_left
            · intro w hSw
              obtain ⟨hs0, hs1, hs2, hs3, hs4⟩ := hSw
              go_simp
              first | done | (with_reducible rfl)
            try simp only [List.setIfInBounds_toArray, List.set_cons_zero, List.set_cons_succ]
            refine wpAnyH_ready (rs := [7]) (by kernel_rfl) (by simp) ?_
            refine AllReadyH.cons rfl (fun K hK => ?_) AllReadyH.nil
            go_simp
            go_at_call 118
            refine (isSource_any nn _ hn10).mono ?_
            rintro e w2 ⟨rfl, hb2⟩
            have HB0 : Hid (Below wr.heap.size wr w2) := (⟨hb2.os, hb2.tape, hb2.output, hb2.size, hb2.block⟩ : Below wr.heap.size wr w2)
            clear hb2
            go_wp2_with fail
            refine hK.out _ _ ⟨(HB0.out.cell (p := ⟨wo.heap.size, 0, none⟩) hhl).trans hh0, (HB0.out.cell (p := ⟨wo.heap.size, 1, none⟩) hhl).trans hh1, (HB0.out.cell (p := ⟨wo.heap.size, 2, none⟩) hhl).trans hh2, (HB0.out.cell (p := ⟨g2, k * 2, none⟩) (show g2 < wr.heap.size by omega)).trans zg0, (HB0.out.cell (p := ⟨g2, k * 2 + 1, none⟩) (show g2 < wr.heap.size by omega)).trans zg1⟩ (fun hHeld => ?_)
            clear hK K
            try simp only [List.setIfInBounds_toArray, List.set_cons_zero, List.set_cons_succ]
            refine takeAt (i := 8) (v := ?_) rfl rfl (by kernel_rfl) (by kernel_rfl) (by kernel_rfl) (fun _ _ _ h => h) (Or.inl ⟨by rfl, ?_⟩) hHeld ?_
            rotate_left
            · intro w hSw
              obtain ⟨hs0, hs1, hs2, hs3, hs4⟩ := hSw
              go_simp
              first | done | (with_reducible rfl)
            try simp only [List.setIfInBounds_toArray, List.set_cons_zero, List.set_cons_succ]
            refine takeAt (i := 9) (v := ?_) rfl rfl (by kernel_rfl) (by kernel_rfl) (by kernel_rfl) (fun _ _ _ h => h) (Or.inl ⟨by rfl, ?_⟩) hHeld ?_
            rotate_left
            · intro w hSw
              obtain ⟨hs0, hs1, hs2, hs3, hs4⟩ := hSw
              go_simp
              first | done | (with_reducible rfl)
            try simp only [List.setIfInBounds_toArray, List.set_cons_zero, List.set_cons_succ]
            refine takeAt (i := 10) (v := ?_) rfl rfl (by kernel_rfl) (by kernel_rfl) (by kernel_rfl) (fun _ _ _ h => h) (Or.inl ⟨by rfl, ?_⟩) hHeld ?_
            rotate_left
            · intro w hSw
              obtain ⟨hs0, hs1, hs2, hs3, hs4⟩ := hSw
              go_simp
              first | done | (with_reducible rfl)
            try simp only [List.setIfInBounds_toArray, List.set_cons_zero, List.set_cons_succ]
            refine takeAt (i := 11) (v := ?_) rfl rfl (by kernel_rfl) (by kernel_rfl) (by kernel_rfl) (fun _ _ _ h => h) (Or.inl ⟨by rfl, ?_⟩) hHeld ?_
            rotate_left
            · intro w hSw
              obtain ⟨hs0, hs1, hs2, hs3, hs4⟩ := hSw
              go_simp
              first | done | (with_reducible rfl)
            try simp only [List.setIfInBounds_toArray, List.set_cons_zero, List.set_cons_succ]
            refine takeAt (i := 12) (v := ?_) rfl rfl (by kernel_rfl) (by kernel_rfl) (by kernel_rfl) (fun _ _ _ h => h) (Or.inl ⟨by rfl, ?_⟩) hHeld ?_
            rotate_left
            · intro w hSw
              obtain ⟨hs0, hs1, hs2, hs3, hs4⟩ := hSw
              go_simp
              first | done | (with_reducible rfl)
            try simp only [List.setIfInBounds_toArray, List.set_cons_zero, List.set_cons_succ]
            refine takeAt (i := 13) (v := ?_) rfl rfl (by kernel_rfl) (by kernel_rfl) (by kernel_rfl) (fun _ _ _ h => h) (Or.inl ⟨by rfl, ?_⟩) hHeld ?_
            rotate_left
            · intro w hSw
              obtain ⟨hs0, hs1, hs2, hs3, hs4⟩ := hSw
              go_simp
              first | done | (with_reducible rfl)
            try simp only [List.setIfInBounds_toArray, List.set_cons_zero, List.set_cons_succ]
            refine takeAt (i := 14) (v := ?_) rfl rfl (by kernel_rfl) (by kernel_rfl) (by kernel_rfl) (fun _ _ _ h => h) (Or.inl ⟨by rfl, ?_⟩) hHeld ?_
            rotate_left
            · intro w hSw
              obtain ⟨hs0, hs1, hs2, hs3, hs4⟩ := hSw
              go_simp
              first | done | (with_reducible rfl)
            try simp only [List.setIfInBounds_toArray, List.set_cons_zero, List.set_cons_succ]
            refine takeAt (i := 15) (v := ?_) rfl rfl (by kernel_rfl) (by kernel_rfl) (by kernel_rfl) (fun _ _ _ h => h) (Or.inl ⟨by rfl, ?_⟩) hHeld ?_
            rotate_left
            · intro w hSw
              obtain ⟨hs0, hs1, hs2, hs3, hs4⟩ := hSw
              go_simp
              first | done | (with_reducible rfl)
            try simp only [List.setIfInBounds_toArray, List.set_cons_zero, List.set_cons_succ]
            refine takeAt (i := 16) (v := undef) rfl rfl (by kernel_rfl) (by kernel_rfl) (by kernel_rfl) (fun _ _ _ h => h) (Or.inr ⟨by rfl, rfl⟩) hHeld ?_
            try simp only [List.setIfInBounds_toArray, List.set_cons_zero, List.set_cons_succ]
            refine takeAt (i := 17) (v := undef) rfl rfl (by kernel_rfl) (by kernel_rfl) (by kernel_rfl) (fun _ _ _ h => h) (Or.inr ⟨by rfl, rfl⟩) hHeld ?_
            try simp only [List.setIfInBounds_toArray, List.set_cons_zero, List.set_cons_succ]
            refine takeAt (i := 18) (v := undef) rfl rfl (by kernel_rfl) (by kernel_rfl) (by kernel_rfl) (fun _ _ _ h => h) (Or.inr ⟨by rfl, rfl⟩) hHeld ?_
            try simp only [List.setIfInBounds_toArray, List.set_cons_zero, List.set_cons_succ]
            refine takeAt (i := 19) (v := undef) rfl rfl (by kernel_rfl) (by kernel_rfl) (by kernel_rfl) (fun _ _ _ h => h) (Or.inr ⟨by rfl, rfl⟩) hHeld ?_
            try simp only [List.setIfInBounds_toArray, List.set_cons_zero, List.set_cons_succ]
            refine takeAt (i := 20) (v := undef) rfl rfl (by kernel_rfl) (by kernel_rfl) (by kernel_rfl) (fun _ _ _ h => h) (Or.inr ⟨by rfl, rfl⟩) hHeld ?_
            try simp only [List.setIfInBounds_toArray, List.set_cons_zero, List.set_cons_succ]
            refine takeAt (i := 21) (v := undef) rfl rfl (by kernel_rfl) (by kernel_rfl) (by kernel_rfl) (fun _ _ _ h => h) (Or.inr ⟨by rfl, rfl⟩) hHeld ?_
            try simp only [List.setIfInBounds_toArray, List.set_cons_zero, List.set_cons_succ]
            refine takeAt (i := 22) (v := undef) rfl rfl (by kernel_rfl) (by kernel_rfl) (by kernel_rfl) (fun _ _ _ h => h) (Or.inr ⟨by rfl, rfl⟩) hHeld ?_
            try simp only [List.setIfInBounds_toArray, List.set_cons_zero, List.set_cons_succ]
            refine takeAt (i := 23) (v := undef) rfl rfl (by kernel_rfl) (by kernel_rfl) (by kernel_rfl) (fun _ _ _ h => h) (Or.inr ⟨by rfl, rfl⟩) hHeld ?_
            try simp only [List.setIfInBounds_toArray, List.set_cons_zero, List.set_cons_succ]
            refine takeAt (i := 24) (v := undef) rfl rfl (by kernel_rfl) (by kernel_rfl) (by kernel_rfl) (fun _ _ _ h => h) (Or.inr ⟨by rfl, rfl⟩) hHeld ?_
            try simp only [List.setIfInBounds_toArray, List.set_cons_zero, List.set_cons_succ]
            refine takeAt (i := 25) (v := ?_) rfl rfl (by kernel_rfl) (by kernel_rfl) (by kernel_rfl) (fun _ _ _ h => h) (Or.inl ⟨by rfl, ?_⟩) hHeld ?_
            rotate_left
            · intro w hSw
              obtain ⟨hs0, hs1, hs2, hs3, hs4⟩ := hSw
              go_simp
              first | done | (with_reducible rfl)
            try simp only [List.setIfInBounds_toArray, List.set_cons_zero, List.set_cons_succ]
            refine takeAt (i := 26) (v := ?_) rfl rfl (by kernel_rfl) (by kernel_rfl) (by kernel_rfl) (fun _ _ _ h => h) (Or.inl ⟨by rfl, ?_⟩) hHeld ?_
            rotate_left
            · intro w hSw
              obtain ⟨hs0, hs1, hs2, hs3, hs4⟩ := hSw
              go_simp
              first | done | (with_reducible rfl)
            try simp only [List.setIfInBounds_toArray, List.set_cons_zero, List.set_cons_succ]
            refine wpAnyH_done (by kernel_rfl) ?_ _
            refine NoPanic.normal ?_
            have HBF := Lib.hid (HB.out.trans (HB0.out.mono HB.out.size))
            go_wp2_with fail
            go_roundw
            case rel => exact ⟨k + 1, by omega, by go_num, HBF⟩
            case measure => simp [intOf]; omega
        · obtain rfl : k = xl + 40 := by omega
          have HBF := Lib.hid (hb.trans (((Below.refl wo.heap.size wo).alloc (Nat.le_refl _) _).trans (HB.out.mono (by simp)) |>.mono hb.size))
          go_wp2_with fail
          go_roundw
          case rel => exact ⟨i + 1, by omega, by go_num, HBF.out⟩
          case measure => simp [intOf]; omega
    · obtain rfl : i = held.length := by omega
      go_wp2_with fail
      go_ret
      exact ⟨rfl, hb⟩
end Go.Proofs.YtfedkhicckgjaaaGreatDoor
