/- The law AheadSets, walked. -/
import Derived.Test.YtfedkhicckgjaaaGreatDoorPlainW
import Derived.Test.YtfedkhicckgjaaaGreatDoorSetsP
import Derived.Test.YtfedkhicckgjaaaGreatDoorLinesW
import Derived.Test.YtfedkhicckgjaaaGreatDoorFrameC
namespace Go.Proofs.YtfedkhicckgjaaaGreatDoor
open Go.RowKit
set_option linter.unusedVariables false

theorem sets_text (nm v : Bytes) : (123 :: (nm ++ 125 :: 10 :: 64 :: 115 :: 101 :: 116 :: 32 :: (nm ++ 32 :: (v ++ 10 :: 123 :: (nm ++ 125 :: 10 :: 64 :: 117 :: 110 :: 115 :: 101 :: 116 :: 32 :: (nm ++ 10 :: 123 :: (nm ++ [125])))))) : Bytes) = setsText nm v := by
  unfold setsText setLn unsetLn brace setB unsetB; simp
theorem own_text (nm v : Bytes) : (64 :: 115 :: 101 :: 116 :: 32 :: (nm ++ 32 :: (v ++ 10 :: 123 :: (nm ++ [125]))) : Bytes) = ownText nm v := by
  unfold ownText setLn brace setB; simp
structure GoodAt (v : Bytes) (i : Nat) (c : UInt8) : Prop where
  ok : 32 ≤ c.toNat ∧ c.toNat ≠ 127 ∧ c ≠ 123
  first : i = 0 → c ≠ 32
  last : i + 1 = v.length → c ≠ 32
theorem SetVal.of {v : Bytes} (h : v.length ≤ 1024) (hne : v ≠ []) (hg : ∀ j (hj : j < v.length), GoodAt v j v[j]) : SetVal v where
  len := h
  ne := hne
  ok := fun c hc => by obtain ⟨j, hj, rfl⟩ := List.getElem_of_mem hc; exact (hg j hj).ok
  first := fun c hc => by
    cases v with
    | nil => cases hc
    | cons x y => cases hc; exact (hg 0 (by simp)).first rfl
  last := fun c hc => by
    rw [List.getLast?_eq_getElem?] at hc
    have hp : 0 < v.length := List.length_pos_iff.2 hne
    rw [List.getElem?_eq_getElem (by omega)] at hc
    cases hc
    exact (hg (v.length - 1) (by omega)).last (by omega)

set_option maxHeartbeats 8000000 in
set_option maxRecDepth 100000 in
theorem sets_not (w : World) (nm : Bytes) (hnm : nm.length ≤ 140737488351232) (v : Bytes) (hv : v.length ≤ 140737488351232) (hM : MaxOk w) (hp : nameB nm = false) :
    Calls Tryz.prog 9 #[.string ⟨nm.toArray⟩, .string ⟨v.toArray⟩] w fun e w' => e = .returned (.bool true) ∧ Below w.heap.size w w' := by
  have HM := Lib.hid hM
  have HNM := Lib.hid hp
  clear hp
  clear hM
  go_enter Tryz.func9, Tryz.ntmps9
  go_wp2_with (first
    | (go_at_call 22; refine (alive_any _ HM.out).mono ?_; rintro e w1 ⟨rfl, hb1⟩)
    | (go_at_call 30; refine (name_any nm _ (by omega)).mono ?_; rw [HNM.out]; rintro e w3 ⟨rfl, rfl⟩)
    | (go_at_call 22; refine (alive_any _ (HM.out.next hb1)).mono ?_; rintro e w9 ⟨rfl, hc⟩; have hb9 := hb1.trans (hc.mono hb1.size)))
  go_ret
  exact ⟨rfl, hb9⟩

set_option maxHeartbeats 8000000 in
set_option maxRecDepth 100000 in
theorem sets_long (w : World) (nm : Bytes) (hnm : nm.length ≤ 140737488351232) (v : Bytes) (hv : v.length ≤ 140737488351232) (hM : MaxOk w) (hp : nameB nm = true) (h1 : 1024 < v.length) :
    Calls Tryz.prog 9 #[.string ⟨nm.toArray⟩, .string ⟨v.toArray⟩] w fun e w' => e = .returned (.bool true) ∧ Below w.heap.size w w' := by
  have HM := Lib.hid hM
  have HNM := Lib.hid hp
  clear hp
  clear hM
  go_enter Tryz.func9, Tryz.ntmps9
  go_wp2_with (first
    | (go_at_call 22; refine (alive_any _ HM.out).mono ?_; rintro e w1 ⟨rfl, hb1⟩)
    | (go_at_call 30; refine (name_any nm _ (by omega)).mono ?_; rw [HNM.out]; rintro e w3 ⟨rfl, rfl⟩)
    | (go_at_call 22; refine (alive_any _ (HM.out.next hb1)).mono ?_; rintro e w9 ⟨rfl, hc⟩; have hb9 := hb1.trans (hc.mono hb1.size)))
  go_ret
  exact ⟨rfl, hb9⟩

set_option maxHeartbeats 8000000 in
set_option maxRecDepth 100000 in
theorem sets_empty (w : World) (nm : Bytes) (hnm : nm.length ≤ 140737488351232) (v : Bytes) (hv : v.length ≤ 140737488351232) (hM : MaxOk w) (hp : nameB nm = true) (h1 : v.length ≤ 1024) (h0 : v = []) :
    Calls Tryz.prog 9 #[.string ⟨nm.toArray⟩, .string ⟨v.toArray⟩] w fun e w' => e = .returned (.bool true) ∧ Below w.heap.size w w' := by
  have HM := Lib.hid hM
  have HNM := Lib.hid hp
  have h00 : (v == []) = true := by rw [h0]; rfl
  clear hp h0
  clear hM
  go_enter Tryz.func9, Tryz.ntmps9
  go_wp2_with (first
    | (go_at_call 22; refine (alive_any _ HM.out).mono ?_; rintro e w1 ⟨rfl, hb1⟩)
    | (go_at_call 30; refine (name_any nm _ (by omega)).mono ?_; rw [HNM.out]; rintro e w3 ⟨rfl, rfl⟩)
    | (go_at_call 22; refine (alive_any _ (HM.out.next hb1)).mono ?_; rintro e w9 ⟨rfl, hc⟩; have hb9 := hb1.trans (hc.mono hb1.size)))
  go_ret
  exact ⟨rfl, hb9⟩

set_option maxHeartbeats 8000000 in
set_option maxRecDepth 100000 in
theorem sets_main (w : World) (nm : Bytes) (hnm : nm.length ≤ 140737488351232) (v : Bytes) (hv : v.length ≤ 140737488351232) (hM : MaxOk w) (hp : nameB nm = true) (h1 : v.length ≤ 1024) (h0 : v ≠ []) :
    Calls Tryz.prog 9 #[.string ⟨nm.toArray⟩, .string ⟨v.toArray⟩] w fun e w' => e = .returned (.bool true) ∧ Below w.heap.size w w' := by
  have HM := Lib.hid hM
  have HNM := Lib.hid hp
  have HNE := Lib.hid h0
  have hnl := nameB_len hp
  have h00 : (v == []) = false := by simpa using h0
  have hpos : 0 < v.length := List.length_pos_iff.2 h0
  clear hp h0
  clear hM
  go_enter Tryz.func9, Tryz.ntmps9
  go_wp2_with (first
    | (go_at_call 22; refine (alive_any _ HM.out).mono ?_; rintro e w1 ⟨rfl, hb1⟩)
    | (go_at_call 30; refine (name_any nm _ (by omega)).mono ?_; rw [HNM.out]; rintro e w3 ⟨rfl, rfl⟩))
  go_loopw [5] (fun v5 wr => ∃ i : Nat, i ≤ v.length ∧ v5 = .int .i64 i ∧ wr = w1 ∧ Hid (∀ j (hj : j < v.length), j < i → GoodAt v j v[j])) (fun v5 _ => v.length - (intOf v5).toNat)
  case atStart => exact ⟨0, by omega, rfl, rfl, fun j hj h => absurd h (by omega)⟩
  case round =>
    obtain ⟨i, hi, rfl, rfl, HN⟩ := hrel
    by_cases hlt : i < v.length
    · have hk0 : (0 : Int) ≤ (i : Int) := by omega
      have hk1 : (i : Int) < (v.length : Int) := by omega
      have HS : Hid (GoodAt v i v[i] → ∀ j (hj : j < v.length), j < i + 1 → GoodAt v j v[j]) := fun h j hj hji => by
        by_cases e : j = i
        · subst e; exact h
        · exact HN.out j hj (by omega)
      generalize hx : v[i] = x at *
      have HI : Hid (¬ (x.toNat : Int) < 32 → ((x.toNat : Int) == 127) = false → ((x.toNat : Int) == 123) = false → (((i : Int) == 0) = false ∨ ((x.toNat : Int) == 32) = false) → (((i : Int) == (v.length : Int) - 1) = false ∨ ((x.toNat : Int) == 32) = false) → GoodAt v i x) := fun g1 g2 g3 g4 g5 => by
        have k2 := beq_eq_false_iff_ne.1 g2
        have k3 := beq_eq_false_iff_ne.1 g3
        refine ⟨⟨by omega, by omega, fun e => by subst e; exact k3 rfl⟩, fun e => ?_, fun e => ?_⟩
        · rcases g4 with g | g
          · exact absurd (by omega) (beq_eq_false_iff_ne.1 g)
          · intro e2; subst e2; exact beq_eq_false_iff_ne.1 g rfl
        · rcases g5 with g | g
          · exact absurd (by omega) (beq_eq_false_iff_ne.1 g)
          · intro e2; subst e2; exact beq_eq_false_iff_ne.1 g rfl
      have ew : IntKind.i64.wrap ((v.length : Int) - 1) = (v.length : Int) - 1 := by rw [IntWalk.i64_in _ (by omega)]
      by_cases g1 : (x.toNat : Int) < 32
      · go_wp2
        go_ret
        exact ⟨rfl, hb1⟩
      cases g2 : ((x.toNat : Int) == 127)
      rotate_left
      · go_wp2
        go_ret
        exact ⟨rfl, hb1⟩
      cases g3 : ((x.toNat : Int) == 123)
      rotate_left
      · go_wp2
        go_ret
        exact ⟨rfl, hb1⟩
      cases g4 : ((i : Int) == 0)
      · cases g6 : ((i : Int) == (v.length : Int) - 1)
        · go_wp2
          go_roundw
          case rel => exact ⟨i + 1, by omega, by go_num, by trivial, HS.out (HI.out g1 g2 g3 (.inl g4) (.inl g6))⟩
          case measure => simp [intOf]; omega
        · cases g5 : ((x.toNat : Int) == 32)
          · go_wp2
            go_roundw
            case rel => exact ⟨i + 1, by omega, by go_num, by trivial, HS.out (HI.out g1 g2 g3 (.inl g4) (.inr g5))⟩
            case measure => simp [intOf]; omega
          · go_wp2
            go_ret
            exact ⟨rfl, hb1⟩
      · cases g5 : ((x.toNat : Int) == 32)
        · cases g6 : ((i : Int) == (v.length : Int) - 1)
          · go_wp2
            go_roundw
            case rel => exact ⟨i + 1, by omega, by go_num, by trivial, HS.out (HI.out g1 g2 g3 (.inr g5) (.inl g6))⟩
            case measure => simp [intOf]; omega
          · go_wp2
            go_roundw
            case rel => exact ⟨i + 1, by omega, by go_num, by trivial, HS.out (HI.out g1 g2 g3 (.inr g5) (.inr g5))⟩
            case measure => simp [intOf]; omega
        · go_wp2
          go_ret
          exact ⟨rfl, hb1⟩
    · have HSV : Hid (SetVal v) := SetVal.of h1 HNE.out fun j hj => HN.out j hj (by omega)
      have HRD := Lib.hid (readP_sets HNM.out HSV.out)
      have HRO := Lib.hid (readP_own HNM.out HSV.out)
      go_wp2_with (first | (go_at_call 26; refine Hold.out ?_) | (at_builtin; refine Hold.out ?_))
      constructor
      rw [sets_text]
      refine (src_any _ _ _).mono ?_
      rintro e w2 ⟨rfl, hc⟩
      have hb2 := hb1.trans (hc.mono hb1.size)
      clear hc
      go_wp2_with (go_at_call 25; refine Hold.out ?_)
      constructor
      refine gen_calls fun W4 hW => ?_
      have hBL4 : Bk W4 w2.heap.size ((([⟨[109], setsText nm v⟩] : List Two)).flatMap encT) 63 := by rw [hW]; exact (Bk.new w2 _ _).alloc _
      have hBA4 : Bk W4 (w2.heap.size + 1) ((([⟨nm, wasB⟩] : List Two)).flatMap encT) 78 := by rw [hW]; exact Bk.new1 w2 _ _ _
      have hb4 : Below w.heap.size w W4 := by rw [hW]; exact (hb2.alloc hb2.size _).alloc (by have := hb2.size; simp; omega) _
      clear hW
      refine (read_ans (some ⟨w2.heap.size, 0, none⟩) 1 [⟨[109], setsText nm v⟩] (some ⟨w2.heap.size + 1, 0, none⟩) 1 [⟨nm, wasB⟩] [109] (setsText nm v) _ (At.ofBk encT_ok hBL4) (fun b off e => by cases e; exact hBL4.lt) (by simp) (At.ofBk encT_ok hBA4) (by simp) (fun x hx => by simp at hx; subst hx; show nm.length + wasB.length ≤ _; simp [wasB]; omega) (HM.out.next hb4) (by simp [srcL]) _ HRD.out ⟨by simp, fun x hx => by simp at hx; subst hx; omega⟩).mono ?_
      rintro e w5 ⟨⟨u0, u1, u2, u3, rfl, h0, h1', h2', h3'⟩, hc⟩
      rw [sortB_one] at h3'
      obtain ⟨g0, c0, rfl, hg0⟩ := h0.ptrN 2 rfl
      obtain ⟨a1, k1, rfl⟩ := h1'.shape
      obtain ⟨a2, k2, rfl⟩ := h2'.shape
      obtain ⟨g3, k3, rfl, hg3⟩ := h3'.ptrN 0 rfl
      have hb5 := hb4.trans (hc.mono hb4.size)
      have HA5 := Lib.hid h0
      have HD5 := Lib.hid h3'
      clear h0 h1' h2' h3' hc hBL4 hBA4
      have k1 : ¬ 9223372036854775807 < 5 + nm.length := by omega
      go_wp2_with (first | (go_at_call 26; refine Hold.out ?_) | (at_builtin; refine Hold.out ?_))
      constructor
      rw [own_text]
      refine (src_any _ _ _).mono ?_
      rintro e w6 ⟨rfl, hc⟩
      have hb6 := hb5.trans (hc.mono hb5.size)
      have HA6 := Lib.hid (HA5.out.next rfl hc)
      have HD6 := Lib.hid (HD5.out.next rfl hc)
      clear hc
      go_wp2_with (go_at_call 25; refine Hold.out ?_)
      constructor
      refine gen_calls fun W7 hW => ?_
      have hBL7 : Bk W7 w6.heap.size ((([⟨[109], ownText nm v⟩] : List Two)).flatMap encT) 63 := by rw [hW]; exact Bk.new w6 _ _
      have hbl7 : Below w6.heap.size w6 W7 := by rw [hW]; exact (Below.refl _ _).alloc (Nat.le_refl _) _
      clear hW
      have hb7 := hb6.trans (hbl7.mono hb6.size)
      refine (read_ans (some ⟨w6.heap.size, 0, none⟩) 1 [⟨[109], ownText nm v⟩] none 0 [] [109] (ownText nm v) _ (At.ofBk encT_ok hBL7) (fun b off e => by cases e; exact hBL7.lt) (by simp) (At.nil _ _ _ _) (by simp) (fun x hx => absurd hx (List.not_mem_nil)) (HM.out.next hb7) (by simp [srcL]) _ HRO.out ⟨by simp, fun x hx => absurd hx (List.not_mem_nil)⟩).mono ?_
      rintro e w8 ⟨⟨u0, u1, u2, u3, rfl, h0, h1', h2', h3'⟩, hc0⟩
      rw [sortB_nil] at h3'
      obtain ⟨g10, c10, rfl, hg10⟩ := h0.ptrN 0 rfl
      obtain ⟨a11, k11, rfl⟩ := h1'.shape
      obtain ⟨a12, k12, rfl⟩ := h2'.shape
      obtain ⟨a13, k13, rfl⟩ := h3'.shape
      have hb9 := hb7.trans (hc0.mono hb7.size)
      have hc := hbl7.trans (hc0.mono hbl7.size)
      have HA8 := Lib.hid (HA6.out.next rfl hc)
      have HD8 := Lib.hid (HD6.out.next rfl hc)
      have f0 := HA8.out.cellAt encL_ok (k := 0) (j := 2) (u := .string ⟨wasB.toArray⟩) rfl rfl
      have f1 := HA8.out.cellAt encL_ok (k := 1) (j := 2) (u := .string ⟨v.toArray⟩) rfl rfl
      have f2 := HA8.out.cellAt encL_ok (k := 2) (j := 2) (u := .string ⟨(brace nm).toArray⟩) rfl rfl
      have f3 := HD8.out.cellAt encS_ok (k := 0) (j := 0) (u := .string ⟨nm.toArray⟩) rfl rfl
      have f4 := h0.cellAt encL_ok (k := 0) (j := 2) (u := .string ⟨v.toArray⟩) rfl rfl
      simp only [Nat.zero_mul, Nat.zero_add, Nat.one_mul, Nat.reduceMul, Nat.reduceAdd, wasB, brace] at f0 f1 f2 f3 f4
      clear h0 h1' h2' h3' hc hc0 hBL7 hbl7 HA8 HD8 HA6 HD6 HA5 HD5
      go_wp2_with fail
      go_ret
      exact ⟨rfl, hb9⟩

theorem walk_AheadSets (w : World) (nm : Bytes) (hnm : nm.length ≤ reachBytes) (v : Bytes) (hv : v.length ≤ reachBytes) (hM : MaxOk w) :
    Calls Tryz.prog 9 #[.string ⟨nm.toArray⟩, .string ⟨v.toArray⟩] w fun e w' => e = .returned (.bool true) ∧ Below w.heap.size w w' := by
  have hv' : v.length ≤ 140737488351232 := hv
  have hnm' : nm.length ≤ 140737488351232 := hnm
  cases hp : nameB nm
  · exact sets_not w nm hnm' v hv' hM hp
  by_cases h1 : 1024 < v.length
  · exact sets_long w nm hnm' v hv' hM hp h1
  by_cases h0 : v = []
  · exact sets_empty w nm hnm' v hv' hM hp (by omega) h0
  · exact sets_main w nm hnm' v hv' hM hp (by omega) h0
end Go.Proofs.YtfedkhicckgjaaaGreatDoor
