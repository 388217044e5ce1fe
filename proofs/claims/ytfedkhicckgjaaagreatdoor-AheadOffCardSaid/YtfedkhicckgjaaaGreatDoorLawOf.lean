/- The law AheadOff, walked. -/
import Derived.Test.YtfedkhicckgjaaaGreatDoorRdSeven
import Derived.Test.YtfedkhicckgjaaaGreatDoorOffP
import Derived.Test.YtfedkhicckgjaaaGreatDoorLinesW
import Derived.Test.YtfedkhicckgjaaaGreatDoorFrameC
namespace Go.Proofs.YtfedkhicckgjaaaGreatDoor
open Go.RowKit
set_option linter.unusedVariables false

theorem off_text (name s : Bytes) : (64 :: 105 :: 102 :: 32 :: (name ++ 10 :: (s ++ [10, 64, 101, 110, 100, 10, 120])) : Bytes) = offText name s := by
  unfold offText; simp

set_option maxHeartbeats 4000000 in
set_option maxRecDepth 100000 in
theorem off_long (w : World) (s : Bytes) (hs : s.length ≤ 140737488351232) (nm : Bytes) (hnm : nm.length ≤ 140737488351232) (hM : MaxOk w) (h1 : 3000 < s.length) :
    Calls Tryz.prog 7 #[.string ⟨s.toArray⟩, .string ⟨nm.toArray⟩] w fun e w' => e = .returned (.bool true) ∧ Below w.heap.size w w' := by
  have HM := Lib.hid hM
  clear hM
  go_enter Tryz.func7, Tryz.ntmps7
  go_wp2_with (first
    | (go_at_call 22; refine (alive_any _ HM.out).mono ?_; rintro e w1 ⟨rfl, hb1⟩)
    | (go_at_call 22; refine (alive_any _ (HM.out.next hb1)).mono ?_; rintro e w9 ⟨rfl, hc⟩; have hb9 := hb1.trans (hc.mono hb1.size)))
  go_ret
  exact ⟨rfl, hb9⟩

set_option maxHeartbeats 4000000 in
set_option maxRecDepth 100000 in
theorem off_not (w : World) (s : Bytes) (hs : s.length ≤ 140737488351232) (nm : Bytes) (hnm : nm.length ≤ 140737488351232) (hM : MaxOk w) (h1 : s.length ≤ 3000) (hp : nameB nm = false) :
    Calls Tryz.prog 7 #[.string ⟨s.toArray⟩, .string ⟨nm.toArray⟩] w fun e w' => e = .returned (.bool true) ∧ Below w.heap.size w w' := by
  have HM := Lib.hid hM
  have HNM := Lib.hid hp
  clear hp
  clear hM
  go_enter Tryz.func7, Tryz.ntmps7
  go_wp2_with (first
    | (go_at_call 22; refine (alive_any _ HM.out).mono ?_; rintro e w1 ⟨rfl, hb1⟩)
    | (go_at_call 30; refine (name_any nm _ (by omega)).mono ?_; rw [HNM.out]; rintro e w3 ⟨rfl, rfl⟩)
    | (go_at_call 22; refine (alive_any _ (HM.out.next hb1)).mono ?_; rintro e w9 ⟨rfl, hc⟩; have hb9 := hb1.trans (hc.mono hb1.size)))
  go_ret
  exact ⟨rfl, hb9⟩

set_option maxHeartbeats 4000000 in
set_option maxRecDepth 100000 in
theorem off_main (w : World) (s : Bytes) (hs : s.length ≤ 140737488351232) (nm : Bytes) (hnm : nm.length ≤ 140737488351232) (hM : MaxOk w) (h1 : s.length ≤ 3000) (hp : nameB nm = true) :
    Calls Tryz.prog 7 #[.string ⟨s.toArray⟩, .string ⟨nm.toArray⟩] w fun e w' => e = .returned (.bool true) ∧ Below w.heap.size w w' := by
  have HM := Lib.hid hM
  have HNM := Lib.hid hp
  have hnl := nameB_len hp
  clear hp
  clear hM
  go_enter Tryz.func7, Tryz.ntmps7
  go_wp2_with (first
    | (go_at_call 22; refine (alive_any _ HM.out).mono ?_; rintro e w1 ⟨rfl, hb1⟩)
    | (go_at_call 30; refine (name_any nm _ (by omega)).mono ?_; rw [HNM.out]; rintro e w3 ⟨rfl, rfl⟩)
    | (go_at_call 13; refine (lines_any s _ (by omega) (HM.out.next hb1)).mono ?_; rintro e w2 ⟨⟨vl, rfl, hOl⟩, hc⟩; obtain ⟨al, cl, rfl⟩ := hOl.shape; have hb2 := hb1.trans (hc.mono hb1.size); have HL := Lib.hid (hOl.mono hb1.size); clear hOl hc))
  have hlen := linesP_le s
  go_loopw [6] (fun v6 wr => ∃ i : Nat, i ≤ (linesP s).length ∧ v6 = .int .i64 i ∧ wr = w2 ∧ Hid (∀ j (hj : j < (linesP s).length), j < i → offLine (linesP s)[j] = false)) (fun v6 _ => (linesP s).length - (intOf v6).toNat)
  case atStart => exact ⟨0, by omega, rfl, rfl, fun j hj h => absurd h (by omega)⟩
  case round =>
    obtain ⟨i, hi, rfl, rfl, HN⟩ := hrel
    by_cases hlt : i < (linesP s).length
    · obtain ⟨b, off, ha, hbl2, hc0⟩ := (HL.out.addr encS_ok).str hlt
      subst ha
      have HS : Hid (offLine (linesP s)[i] = false → ∀ j (hj : j < (linesP s).length), j < i + 1 → offLine (linesP s)[j] = false) := fun h j hj hji => by
        by_cases e : j = i
        · subst e; exact h
        · exact HN.out j hj (by omega)
      generalize (linesP s)[i] = tx at *
      by_cases h3 : 3 ≤ tx.length
      · have HOF : Hid (offLine tx = (tx.take 3 == [64, 105, 102] || tx.take 3 == [64, 101, 108] || tx.take 3 == [64, 101, 110])) := by
          show _ = _
          unfold offLine
          rw [decide_eq_true h3, Bool.true_and]
        have h3i : (3 : Int) ≤ (tx.length : Int) := by omega
        cases b1 : (tx.take 3 == [64, 105, 102]) <;> cases b2 : (tx.take 3 == [64, 101, 108]) <;> cases b3 : (tx.take 3 == [64, 101, 110])
        all_goals
          rw [b1, b2, b3] at HOF
          go_wp2
        · go_roundw
          case rel => exact ⟨i + 1, by omega, by go_num, by trivial, HS.out (by rw [HOF.out]; rfl)⟩
          case measure => simp [intOf]; omega
        all_goals
          go_ret
          exact ⟨rfl, hb2⟩
      · have h3i : ¬ (3 : Int) ≤ (tx.length : Int) := by omega
        have HOF : Hid (offLine tx = false) := by
          show _ = _
          unfold offLine
          rw [decide_eq_false h3]; rfl
        have hd3 : decide ((3 : Int) ≤ (tx.length : Int)) = false := decide_eq_false h3i
        go_wp2
        go_roundw
        case rel => exact ⟨i + 1, by omega, by go_num, by trivial, HS.out HOF.out⟩
        case measure => simp [intOf]; omega
    · have HOFF : Hid (∀ t ∈ linesP s, offLine t = false) := fun t ht => by
        obtain ⟨j, hj, rfl⟩ := List.getElem_of_mem ht
        exact HN.out j hj (by omega)
      have HRD := Lib.hid (readP_off nm s HNM.out h1 HOFF.out)
      have c1 : ¬ 9223372036854775807 < 4 + nm.length := by omega
      have c2 : ¬ 9223372036854775807 < 4 + nm.length + 1 := by omega
      have c3 : ¬ 9223372036854775807 < 4 + nm.length + 1 + s.length := by omega
      have c4 : ¬ 9223372036854775807 < 4 + nm.length + 1 + s.length + 7 := by omega
      go_wp2_with (first | (go_at_call 26; refine Hold.out ?_) | (at_builtin; refine Hold.out ?_))
      constructor
      rw [off_text]
      refine (src_any _ _ _).mono ?_
      rintro e w3 ⟨rfl, hc⟩
      have hb3 := hb2.trans (hc.mono hb2.size)
      clear hc
      go_wp2_with (go_at_call 25; refine Hold.out ?_)
      constructor
      refine gen_calls fun W4 hW => ?_
      have hBL4 : Bk W4 (w3.heap.size + 1) ((([⟨[109], offText nm s⟩] : List Two)).flatMap encT) 63 := by rw [hW]; exact Bk.new1 w3 _ _ _
      have hb4 : Below w.heap.size w W4 := by rw [hW]; exact (hb3.alloc hb3.size _).alloc (by have := hb3.size; simp; omega) _
      clear hW
      refine (read_ans (some ⟨w3.heap.size + 1, 0, none⟩) 1 [⟨[109], offText nm s⟩] none 0 [] [109] (offText nm s) _ (At.ofBk encT_ok hBL4) (fun b off e => by cases e; exact hBL4.lt) (by simp) (At.nil _ _ _ _) (by simp) (fun x hx => absurd hx (List.not_mem_nil)) (HM.out.next hb4) (by simp [srcL]) _ HRD.out ⟨by simp, fun x hx => by simp at hx; subst hx; omega⟩).mono ?_
      rintro e w5 ⟨⟨u0, u1, u2, u3, rfl, h0, h1', h2', h3'⟩, hc⟩
      rw [sortB_one] at h3'
      obtain ⟨g0, c0, rfl, hg0⟩ := h0.ptrN 0 rfl
      obtain ⟨a1, k1, rfl⟩ := h1'.shape
      obtain ⟨g2, k2, rfl, hg2⟩ := h2'.ptrN 0 rfl
      obtain ⟨g3, k3, rfl, hg3⟩ := h3'.ptrN 0 rfl
      have hb9 := hb4.trans (hc.mono hb4.size)
      have f0 := h0.cellAt encL_ok (k := 0) (j := 2) (u := .string ⟨#[120]⟩) rfl rfl
      have f3 := h3'.cellAt encS_ok (k := 0) (j := 0) (u := .string ⟨nm.toArray⟩) rfl rfl
      simp only [Nat.zero_mul, Nat.zero_add] at f0 f3
      clear h0 h1' h2' h3' hc hBL4
      go_wp2_with fail
      go_ret
      exact ⟨rfl, hb9⟩

theorem walk_AheadOff (w : World) (s : Bytes) (hs : s.length ≤ reachBytes) (nm : Bytes) (hnm : nm.length ≤ reachBytes) (hM : MaxOk w) :
    Calls Tryz.prog 7 #[.string ⟨s.toArray⟩, .string ⟨nm.toArray⟩] w fun e w' => e = .returned (.bool true) ∧ Below w.heap.size w w' := by
  have hs' : s.length ≤ 140737488351232 := hs
  have hnm' : nm.length ≤ 140737488351232 := hnm
  by_cases h1 : 3000 < s.length
  · exact off_long w s hs' nm hnm' hM h1
  cases hp : nameB nm
  · exact off_not w s hs' nm hnm' hM (by omega) hp
  · exact off_main w s hs' nm hnm' hM (by omega) hp
end Go.Proofs.YtfedkhicckgjaaaGreatDoor
