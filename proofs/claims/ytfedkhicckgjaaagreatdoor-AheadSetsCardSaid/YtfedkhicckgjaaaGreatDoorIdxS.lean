/- strings.IndexAny of the two blanks in a text of at most 8 bytes, whatever these are. -/
import Derived.Test.YtfedkhicckgjaaaGreatDoorIdxR
import Derived.Laws.RangeAny
namespace Go.Proofs.YtfedkhicckgjaaaGreatDoor
open Go.RowKit
set_option linter.unusedVariables false

theorem idx_skip (s : Bytes) (p : Nat) (hp : p < s.length) (h0 : isBl s[p] = false) :
    1 ≤ (Utf8.decode ⟨s.toArray⟩ p).2 ∧ p + (Utf8.decode ⟨s.toArray⟩ p).2 ≤ s.length ∧ ∀ j (hj : j < s.length), p ≤ j → j < p + (Utf8.decode ⟨s.toArray⟩ p).2 → isBl s[j] = false := by
  have hz : (ByteArray.mk s.toArray).size = s.length := size_mk s
  obtain ⟨h1, h2⟩ := decode_skip ⟨s.toArray⟩ p (by rw [hz]; exact hp)
  refine ⟨h1, ?_, fun j hj hpj hjw => ?_⟩
  · by_cases hw : (Utf8.decode ⟨s.toArray⟩ p).2 = 1
    · omega
    · have := (h2 ((Utf8.decode ⟨s.toArray⟩ p).2 - 1) (by omega) (by omega)).1
      rw [hz] at this; omega
  · by_cases e : j = p
    · subst e; exact h0
    · have h3 := (h2 (j - p) (by omega) (by omega)).2
      rw [show p + (j - p) = j from by omega, get_mk s j hj] at h3
      exact isBl_high h3
theorem rune_low (s : Bytes) (p : Nat) (hp : p < s.length) (h : s[p].toNat < 128) : (Utf8.decode ⟨s.toArray⟩ p).1 = s[p].toNat := by
  have := decode_ascii ⟨s.toArray⟩ p (by rw [size_mk]; exact hp) h
  rw [this]; rfl
theorem rune_high (s : Bytes) (p : Nat) (hp : p < s.length) (h : 128 ≤ s[p].toNat) : 128 ≤ (Utf8.decode ⟨s.toArray⟩ p).1 :=
  (decode_high ⟨s.toArray⟩ p (by rw [size_mk]; exact hp) h).1

set_option maxHeartbeats 4000000 in
set_option maxRecDepth 100000 in
theorem indexAny_short (s : Bytes) (w : World) (h8 : s.length ≤ 8) :
    Calls Tryz.prog 156 #[.string ⟨s.toArray⟩, .string ⟨#[32, 9]⟩] w fun e w' => e = .returned (.int .i64 (idxI (blankI s))) ∧ Below w.heap.size w w' := by
  have h8z : decide ((8 : Int) < (s.length : Int)) = false := decide_eq_false (by omega)
  go_enter Tryz.func156, Tryz.ntmps156
  go_wp2_with (go_at_call 183; refine (Tryz.strings_shouldUseASCIISet _ _).mono ?_; rintro e w' ⟨rfl, hw⟩; rw [hw, h8z])
  go_loopw [9, 10] (fun _ _ wr => ∃ p : Nat, p ≤ s.length ∧ Hid (wr.heap[w.heap.size]? = some (.stringIter ⟨s.toArray⟩ p)) ∧ Hid (Below w.heap.size w wr) ∧ Hid (∀ j (hj : j < s.length), j < p → isBl s[j] = false)) (fun _ _ wr => s.length - wr.iterPos w.heap.size)
  case atStart => exact ⟨0, by omega, World.iter_heap w _ _, (Below.refl _ _).alloc (Nat.le_refl _) _, fun j hj h => absurd h (by omega)⟩
  case round =>
    obtain ⟨p, hp, HI, HB, HN⟩ := hrel
    have hpos : wr.iterPos w.heap.size = p := by unfold World.iterPos; rw [HI.out]
    by_cases hlt : p < s.length
    · have hnx := fun ty => next_gen (P := Tryz.prog) wr w.heap.size ⟨s.toArray⟩ p ty HI.out (by rw [size_mk]; exact hlt)
      have hgl : w.heap.size < wr.heap.size := (Array.getElem?_eq_some_iff.1 HI.out).1
      have hib := index_bl s[p]
      have HSK := Lib.hid (idx_skip s p hlt)
      have HHIT := Lib.hid (fun h1 : isBl s[p] = true => blankI_hit hlt h1 (fun j hj => HN.out j (by omega) hj))
      by_cases hb : isBl s[p] = true
      · -- a blank
        have hlow : s[p].toNat < 128 := by
          rcases Nat.lt_or_ge s[p].toNat 128 with h | h
          · exact h
          · rw [isBl_high h] at hb; cases hb
        have hr := rune_low s p hlt hlow
        have HE := Lib.hid (HHIT.out hb)
        rw [hb, if_pos rfl] at hib
        have hge : (0 : Int) ≤ Lib.indexByte [32, 9] s[p] := by rw [hib]; split <;> omega
        have HBn : Hid (Below w.heap.size w (wr.itTo w.heap.size ⟨s.toArray⟩ (p + (Utf8.decode ⟨s.toArray⟩ p).2))) := itTo_below HB.out (Nat.le_refl _)
        rw [hr] at hnx
        have hback : ((s[p].toNat : Int)).toNat.toUInt8 = s[p] := by simp
        clear hib hr HSK HHIT
        generalize s[p] = x at *
        generalize (Utf8.decode ⟨s.toArray⟩ p).2 = wd at *
        go_wp2_with (go_at_call 182; refine (Tryz.strings_IndexRune_ascii _ _ _ (by omega) (by omega)).mono ?_; rintro e w' ⟨rfl, rfl⟩; rw [hback])
        go_ret
        exact ⟨by rw [HE.out]; rfl, HBn.out⟩
      · have hbf : isBl s[p] = false := by simpa using hb
        obtain ⟨k1, k2, k3⟩ := HSK.out hbf
        have HN2 : Hid (∀ j (hj : j < s.length), j < p + (Utf8.decode ⟨s.toArray⟩ p).2 → isBl s[j] = false) := fun j hj h => by
          rcases Nat.lt_or_ge j p with h3 | h3
          · exact HN.out j hj h3
          · exact k3 j hj h3 h
        have HBn : Hid (Below w.heap.size w (wr.itTo w.heap.size ⟨s.toArray⟩ (p + (Utf8.decode ⟨s.toArray⟩ p).2))) := itTo_below HB.out (Nat.le_refl _)
        have HIn : Hid ((wr.itTo w.heap.size ⟨s.toArray⟩ (p + (Utf8.decode ⟨s.toArray⟩ p).2)).heap[w.heap.size]? = some (.stringIter ⟨s.toArray⟩ (p + (Utf8.decode ⟨s.toArray⟩ p).2))) := itTo_at hgl
        rw [hbf, if_neg (by decide)] at hib
        by_cases hlow : s[p].toNat < 128
        · have hr := rune_low s p hlt hlow
          rw [hr] at hnx
          have hlt2 : ¬ (0 : Int) ≤ Lib.indexByte [32, 9] s[p] := by rw [hib]; omega
          have hback : ((s[p].toNat : Int)).toNat.toUInt8 = s[p] := by simp
          clear hib hr HSK HHIT k3 hbf hb
          generalize s[p] = x at *
          generalize (Utf8.decode ⟨s.toArray⟩ p).2 = wd at *
          go_wp2_with (go_at_call 182; refine (Tryz.strings_IndexRune_ascii _ _ _ (by omega) (by omega)).mono ?_; rintro e w' ⟨rfl, rfl⟩; rw [hback])
          go_roundw
          case rel => exact ⟨p + wd, k2, HIn.out, HBn.out, HN2.out⟩
          case measure =>
            have e : World.iterPos (wr.itTo w.heap.size ⟨s.toArray⟩ (p + wd)) w.heap.size = p + wd := by unfold World.iterPos; rw [HIn.out]
            rw [e, hpos]; omega
        · have hr := rune_high s p hlt (by omega)
          clear hib HSK HHIT k3 hbf hb
          generalize (Utf8.decode ⟨s.toArray⟩ p).2 = wd at *
          generalize (Utf8.decode ⟨s.toArray⟩ p).1 = c at *
          have HZ : Hid (w.heap.size < (wr.itTo w.heap.size ⟨s.toArray⟩ (p + wd)).heap.size) := (Array.getElem?_eq_some_iff.1 HIn.out).1
          go_wp2_with (go_at_call 182; refine (idxRune_high c _ hr).mono ?_; rintro e w9 ⟨rfl, hc⟩; have HI9 : Hid (w9.heap[w.heap.size]? = some (.stringIter ⟨s.toArray⟩ (p + wd))) := (hc.block _ HZ.out).trans HIn.out; have HB9 : Hid (Below w.heap.size w w9) := HBn.out.trans (hc.mono HBn.out.size); clear hc)
          go_roundw
          case rel => exact ⟨p + wd, k2, HI9.out, HB9.out, HN2.out⟩
          case measure =>
            have e : World.iterPos w9 w.heap.size = p + wd := by unfold World.iterPos; rw [HI9.out]
            rw [e, hpos]; omega
    · have hnx := fun ty => next_stop (P := Tryz.prog) wr w.heap.size ⟨s.toArray⟩ p ty HI.out (by rw [size_mk]; exact hlt)
      have HE : Hid (blankI s = none) := blankI_none fun j hj => HN.out j hj (by omega)
      go_wp2
      go_ret
      exact ⟨by rw [HE.out]; rfl, HB.out⟩
end Go.Proofs.YtfedkhicckgjaaaGreatDoor
