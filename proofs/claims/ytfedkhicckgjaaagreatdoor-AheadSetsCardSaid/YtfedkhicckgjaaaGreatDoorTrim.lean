/- strings.Trim of blanks. -/
import Derived.Test.YtfedkhicckgjaaaGreatDoorRdOne
import Derived.Test.YtfedkhicckgjaaaGreatDoorShelf
import Derived.Test.YtfedkhicckgjaaaGreatDoorBaseA
import Derived.Lib.AsciiSet
import Derived.Shelf.Strings.AsciiSet
namespace Go.Proofs.YtfedkhicckgjaaaGreatDoor
open Go.RowKit
set_option linter.unusedVariables false

/-- a set of the two blanks lies at block g -/
def BlSet (w : World) (g : Nat) : Prop := ∀ x : UInt8, w.cell? ⟨g, x.toNat, none⟩ = some (.bool (isBl x))
theorem bl_contains (x : UInt8) : ([32, 9] : Bytes).contains x = isBl x := by
  unfold isBl
  simp
  rfl
theorem blSet_of {w : World} {g : Nat} (h : w.heap[g]? = some (.cells (Lib.setCells [32, 9]) 249 (0, 0))) : BlSet w g := fun x => by
  rw [cell_of_row w g x.toNat (Lib.setCells [32, 9]) 249 (0, 0) h, Lib.setCells_at, bl_contains]

theorem drop_cons_get {s : Bytes} {k : Nat} (h : k < s.length) : s.drop k = s[k] :: s.drop (k + 1) := List.drop_eq_getElem_cons h

set_option maxHeartbeats 1000000 in
theorem trimLeft_any (s : Bytes) (g : Nat) (w : World) (hs : s.length ≤ 1048576) (hg : BlSet w g) :
    Calls Tryz.prog 188 #[.string ⟨s.toArray⟩, .pointer (some ⟨g, 0, none⟩)] w fun e w' => e = .returned (.string ⟨(s.dropWhile isBl).toArray⟩) ∧ w = w' := by
  have HG := Lib.hid hg
  clear hg
  go_enter Tryz.func188, Tryz.ntmps188
  go_wp2
  go_loop [0] (fun v => ∃ t : Bytes, v = .string ⟨t.toArray⟩ ∧ t.length ≤ s.length ∧ Hid (t.dropWhile isBl = s.dropWhile isBl)) (fun v => match v with | .string b => b.size | _ => 0)
  case atStart => exact ⟨s, rfl, by omega, rfl⟩
  case round =>
    obtain ⟨t, rfl, ht, HT⟩ := hrel
    cases t with
    | nil =>
      go_wp2
      go_ret
      exact ⟨by rw [← HT.out]; rfl, rfl⟩
    | cons c u =>
      have hl0 : 0 < (c :: u).length := by simp
      have HC := Lib.hid (Tryz.asciiSet_contains g c (isBl c) w (HG.out c))
      cases hb : isBl c
      · have HB := Lib.hid hb
        rw [hb] at HC
        clear hb
        go_wp2_with (go_at_call 185; refine HC.out.mono ?_; rintro e w2 ⟨rfl, rfl⟩)
        go_ret
        exact ⟨by rw [← HT.out, List.dropWhile_cons, HB.out]; rfl, rfl⟩
      · have HB := Lib.hid hb
        rw [hb] at HC
        clear hb
        go_wp2_with (go_at_call 185; refine HC.out.mono ?_; rintro e w2 ⟨rfl, rfl⟩)
        go_round
        case rel => exact ⟨u, by simp, by simp at ht; omega, by show _ = _; rw [← HT.out, List.dropWhile_cons, HB.out]; rfl⟩
        case measure => simp [ByteArray.size]

def trimR (s : Bytes) : Bytes := (s.reverse.dropWhile isBl).reverse
theorem trimR_nil : trimR [] = [] := rfl
theorem trimR_snoc (u : Bytes) (c : UInt8) : trimR (u ++ [c]) = if isBl c = true then trimR u else u ++ [c] := by
  unfold trimR
  rw [List.reverse_append, List.reverse_singleton, List.singleton_append, List.dropWhile_cons]
  split
  · rfl
  · simp
theorem trimR_len (s : Bytes) : (trimR s).length ≤ s.length := by
  unfold trimR
  rw [List.length_reverse]
  have := (List.dropWhile_sublist isBl (l := s.reverse)).length_le
  rwa [List.length_reverse] at this

set_option maxHeartbeats 1000000 in
theorem trimRight_any (s : Bytes) (g : Nat) (w : World) (hs : s.length ≤ 1048576) (hg : BlSet w g) :
    Calls Tryz.prog 189 #[.string ⟨s.toArray⟩, .pointer (some ⟨g, 0, none⟩)] w fun e w' => e = .returned (.string ⟨(trimR s).toArray⟩) ∧ w = w' := by
  have HG := Lib.hid hg
  clear hg
  go_enter Tryz.func189, Tryz.ntmps189
  go_wp2
  go_loop [0] (fun v => ∃ t : Bytes, v = .string ⟨t.toArray⟩ ∧ t.length ≤ s.length ∧ Hid (trimR t = trimR s)) (fun v => match v with | .string b => b.size | _ => 0)
  case atStart => exact ⟨s, rfl, by omega, rfl⟩
  case round =>
    obtain ⟨t, rfl, ht, HT⟩ := hrel
    rcases List.eq_nil_or_concat t with rfl | ⟨u, c, hu⟩
    · go_wp2
      go_ret
      exact ⟨by rw [← HT.out]; rfl, rfl⟩
    · have hu2 : t = u ++ [c] := by rw [hu]; simp
      have HU := Lib.hid hu2
      clear hu
      have hl : t.length = u.length + 1 := by rw [hu2]; simp
      have hx : Hid (∀ h : u.length < t.length, t[u.length]'h = c) := fun h => by subst hu2; simp
      have hk : Hid (t.take u.length = u) := by show _ = _; subst hu2; simp
      clear hu2
      have a1 : IntKind.i64.wrap ((t.length : Int) - 1) = ((u.length : Nat) : Int) := by rw [IntWalk.i64_in _ (by omega)]; omega
      have hlt : u.length < t.length := by omega
      have hpos : 0 < t.length := by omega
      have hlo : (0 : Int) ≤ (u.length : Int) := by omega
      have hle : (u.length : Int) ≤ (t.length : Int) := by omega
      have hx2 := hx.out hlt
      have HC := Lib.hid (Tryz.asciiSet_contains g (t[u.length]'hlt) (isBl c) w (by rw [hx2]; exact HG.out c))
      have HL := Lib.hid hl
      clear hl hx2 hx
      cases hb : isBl c
      · have HB := Lib.hid hb
        rw [hb] at HC
        clear hb
        go_wp2_with (go_at_call 185; refine HC.out.mono ?_; rintro e w2 ⟨rfl, rfl⟩)
        go_ret
        have he : trimR t = t := by rw [HU.out, trimR_snoc, HB.out]; rfl
        exact ⟨by rw [← HT.out, he]; rfl, rfl⟩
      · have HB := Lib.hid hb
        rw [hb] at HC
        clear hb
        go_wp2_with (go_at_call 185; refine HC.out.mono ?_; rintro e w2 ⟨rfl, rfl⟩)
        go_round
        case rel => exact ⟨u, by show Value.string _ = _; first | rfl | (rw [hk.out]) | (simp [hk.out]), by omega, by show _ = _; rw [← HT.out, HU.out, trimR_snoc, HB.out]; rfl⟩
        case measure => simp [ByteArray.size]; omega

set_option maxHeartbeats 8000000 in
set_option maxRecDepth 1000000 in
theorem trim_any (s : Bytes) (w : World) (hs : s.length ≤ 1048576) :
    Calls Tryz.prog 157 #[.string ⟨s.toArray⟩, .string ⟨#[32, 9]⟩] w fun e w' => e = .returned (.string ⟨(trimB s).toArray⟩) ∧ Below w.heap.size w w' := by
  by_cases h0 : s = []
  · subst h0
    go_enter Tryz.func157, Tryz.ntmps157
    go_wp2
    go_ret
    exact ⟨rfl, Below.refl _ _⟩
  · have h1 : (s == []) = false := by cases s with | nil => exact absurd rfl h0 | cons c r => rfl
    obtain ⟨sc, hsc0⟩ : ∃ sc, Lib.setCells [32, 9] = sc := ⟨_, rfl⟩
    have hM := Tryz.strings_makeASCIISet (fun w => by kernel_rfl) ⟨#[32, 9]⟩ w (by decide) (by
      intro j b hj
      match j, hj with
      | 0, hj => simp at hj; subst hj; decide
      | 1, hj => simp at hj; subst hj; decide
      | j + 2, hj => simp at hj)
    have e0 : Lib.setCells (ByteArray.mk #[32, 9]).data.toList = sc := hsc0
    rw [e0] at hM
    have HM := Lib.hid hM
    have hsz : sc.size = 256 := by rw [← hsc0]; exact Lib.setCells_size _
    have hst : (storeCells ⟨w.heap.size + 1, 0, none⟩ sc.toList 0).run Tryz.prog ((w.alloc (.cells sc 249)).alloc (.cells (Array.replicate 256 (.bool false)) 249)) = .ok () ((w.alloc (.cells sc 249)).alloc (.cells sc 249)) := by
      have := run_storeCells_new (P := Tryz.prog) (w.alloc (.cells sc 249)) 249 (Array.replicate 256 (.bool false)) sc (by rw [hsz]; kernel_rfl) (by rw [hsz, Array.size_replicate]) (by rw [← hsc0]; exact Lib.setCells_one _)
      simpa using this
    have HBS : Hid (BlSet ((w.alloc (.cells sc 249)).alloc (.cells sc 249)) (w.heap.size + 1)) := by
      apply blSet_of
      rw [hsc0]
      have := heap_alloc_new (w.alloc (.cells sc 249)) (.cells sc 249)
      simpa using this
    clear hM e0 hsc0
    have HTR := trimR_len s
    clear h0
    go_enter Tryz.func157, Tryz.ntmps157
    go_wp2_with (go_at_call 184; refine HM.out.mono ?_; rintro e w1 ⟨rfl, rfl⟩)
    have hz : Tryz.zeroCells249 = Array.replicate 256 (.bool false) := by kernel_rfl
    rw [hz]
    simp only [hst, Result.andThen]
    rw [Oper.upon_skip]
    have hlx : ((w.alloc (.cells sc 249)).alloc (.cells sc 249)).heap.size = w.heap.size + 2 := by simp
    have hbx : Below w.heap.size w ((w.alloc (.cells sc 249)).alloc (.cells sc 249)) := ((Below.refl _ _).alloc (Nat.le_refl _) _).alloc (by simp) _
    clear hst hz hlx
    generalize (w.alloc (.cells sc 249)).alloc (.cells sc 249) = w1 at *
    go_wp2_with (first
      | (go_at_call 189; refine (trimRight_any s _ _ hs HBS.out).mono ?_; rintro e w2 ⟨rfl, rfl⟩)
      | (go_at_call 188; refine (trimLeft_any (trimR s) _ _ (by omega) HBS.out).mono ?_; rintro e w2 ⟨rfl, rfl⟩))
    go_ret
    exact ⟨rfl, hbx⟩
end Go.Proofs.YtfedkhicckgjaaaGreatDoor
