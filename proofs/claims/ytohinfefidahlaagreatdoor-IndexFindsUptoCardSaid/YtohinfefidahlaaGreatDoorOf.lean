/- slugs.Of. -/
import Derived.Test.YtohinfefidahlaaGreatDoorJoB
import Derived.Test.YtohinfefidahlaaGreatDoorBz
import Derived.Test.YtohinfefidahlaaGreatDoorShelf
namespace Go.Proofs.YtohinfefidahlaaGreatDoor
open Go.RowKit
set_option linter.unusedVariables false

/-- what the writer of letters and hyphens holds -/
structure PutI (B b gb xb : Nat) (out : Bytes) (g : Bool) (w : World) : Prop where
  z : Bz B b out w
  g : Bk w gb [.bool g] 4
  x : Bk w xb [.pointer (some ⟨b, 0, none⟩)] 202
  gB : gb < B
  xB : xb < B
  ng : gb ≠ b
  nx : xb ≠ b
  gx : gb ≠ xb
  sz : B ≤ w.heap.size
def PutS (B b gb : Nat) (k : Nat) : Prop := k = b ∨ k = gb ∨ B ≤ k
section
variable {B b gb xb : Nat} {out : Bytes} {g : Bool} {w w' : World}
theorem PutI.next (h : PutI B b gb xb out g w) (hb : Below w.heap.size w w') : PutI B b gb xb out g w' :=
  ⟨h.z.next hb, h.g.next hb, h.x.next hb, h.gB, h.xB, h.ng, h.nx, h.gx, Nat.le_trans h.sz hb.size⟩
theorem PutI.drewN (h : PutI B b gb xb out g w) (n : Nat) : PutI B b gb xb out g (w.drewN n) := ⟨h.z, h.g, h.x, h.gB, h.xB, h.ng, h.nx, h.gx, h.sz⟩
theorem PutI.setG (h : PutI B b gb xb out g w) (v : Bool) : PutI B b gb xb out v (w.setCell ⟨gb, 0, none⟩ (.bool v)) :=
  ⟨h.z.set_other h.ng h.gB 0 _, h.g.set 0 _, h.x.set_other h.gx 0 _, h.gB, h.xB, h.ng, h.nx, h.gx, by simpa [World.setCell] using h.sz⟩
theorem PutI.wrote {out' : Bytes} (h : PutI B b gb xb out g w) (hz : Bz B b out' w') (hk : Kept (fun k => k = b ∨ B ≤ k) w w') : PutI B b gb xb out' g w' :=
  ⟨hz, hk.bk h.g (by have := h.ng; have := h.gB; omega), hk.bk h.x (by have := h.nx; have := h.xB; omega), h.gB, h.xB, h.ng, h.nx, h.gx, Nat.le_trans h.sz hk.size⟩
theorem PutI.gcell (h : PutI B b gb xb out g w) : w.cell? ⟨gb, 0, none⟩ = some (.bool g) := h.g.cell 0
theorem PutI.xcell (h : PutI B b gb xb out g w) : w.cell? ⟨xb, 0, none⟩ = some (.pointer (some ⟨b, 0, none⟩)) := h.x.cell 0
theorem PutI.gfree (h : PutI B b gb xb out g w) : w.frozen? ⟨gb, 0, none⟩ = false := h.g.free 0
theorem len_any (h : PutI B b gb xb out g w) : Calls Tryz.prog 163 #[.pointer (some ⟨b, 0, none⟩)] w fun e w' => e = .returned (.int .i64 out.length) ∧ w = w' :=
  (Tryz.Builder_Len_f 0 b _ w (h.z.bld (Nat.zero_le _) (Nat.zero_le _))).mono fun e w' ⟨he, hw⟩ => ⟨by rw [he, byteCells_len], hw.symm⟩
theorem kept_wide (h : Kept (fun k => k = b ∨ B ≤ k) w w') : Kept (PutS B b gb) w w' := h.mono fun k hk => by unfold PutS; rcases hk with h | h <;> simp [h]
end

def PutPost (B b gb xb : Nat) (out : Bytes) (g : Bool) (w : World) (e : Ending) (w' : World) : Prop :=
  e = .returned (.tuple #[]) ∧ PutI B b gb xb out g w' ∧ Kept (PutS B b gb) w w'
section
variable (B b gb xb : Nat) (out : Bytes) (g : Bool) (c : UInt8) (w : World)
theorem put_no (h : PutI B b gb xb out g w) (hc : lnB c = false) :
    Calls Tryz.prog 162 #[.int .u8 c.toNat, .pointer (some ⟨gb, 0, none⟩), .pointer (some ⟨xb, 0, none⟩)] w (PutPost B b gb xb out true w) := by
  have hcl : c.toNat < 256 := c.toNat_lt
  have h4 : c.toNat < 48 ∨ (58 ≤ c.toNat ∧ c.toNat < 97) ∨ 123 ≤ c.toNat := by
    unfold lnB at hc; simp at hc; omega
  have hg := h.gcell
  have hf := h.gfree
  have H := Lib.hid h
  clear hc h
  rcases h4 with h4 | ⟨h4, h5⟩ | h4
  all_goals
    go_enter Tryz.func162, Tryz.ntmps162
    go_wp2_with fail
    go_end0
    exact ⟨rfl, H.out.setG true, (Kept.refl _ _).setCell (p := ⟨gb, 0, none⟩) (.inr (.inl rfl)) _⟩
set_option maxHeartbeats 2000000 in
theorem put_one (h : PutI B b gb xb out g w) (hl : out.length ≤ 900000000) (hc : lnB c = true) (h0 : g = false ∨ out.length = 0) :
    Calls Tryz.prog 162 #[.int .u8 c.toNat, .pointer (some ⟨gb, 0, none⟩), .pointer (some ⟨xb, 0, none⟩)] w (PutPost B b gb xb (out ++ [c]) false w) := by
  have hcl : c.toNat < 256 := c.toNat_lt
  have h4 : (48 ≤ c.toNat ∧ c.toNat ≤ 57) ∨ (97 ≤ c.toNat ∧ c.toNat ≤ 122) := by
    unfold lnB at hc; simp at hc; omega
  have hg := h.gcell
  have hf := h.gfree
  have hx := h.xcell
  have H := Lib.hid h
  have HL : Hid (Calls Tryz.prog 163 #[.pointer (some ⟨b, 0, none⟩)] w fun e w' => e = .returned (.int .i64 out.length) ∧ w = w') := len_any h
  have h2 := h.setG false
  have hx2 := h2.xcell
  have H2 := Lib.hid h2
  have HW : Hid (∀ hw, _) := fun hw => writeByte_z B b out c (w.setCell ⟨gb, 0, none⟩ (.bool false)) h2.z (by omega) hw
  have HSZ := Lib.hid h2.sz
  clear hc h h2
  rcases h0 with rfl | h0
  · rcases h4 with ⟨h4, h5⟩ | ⟨h4, h5⟩
    all_goals
      go_enter Tryz.func162, Tryz.ntmps162
      go_wp2_with fail
      refine (HW.out HSZ.out).mono ?_
      rintro e w1 ⟨rfl, hz, hk⟩
      have HZ := Lib.hid hz
      have HK := Lib.hid hk
      clear hz hk
      go_wp2_with fail
      go_end0
      exact ⟨rfl, H2.out.wrote HZ.out HK.out, ((Kept.refl _ _).setCell (p := ⟨gb, 0, none⟩) (.inr (.inl rfl)) _).trans (kept_wide HK.out)⟩
  · have h0' : (out.length : Int) = 0 := by omega
    have HL0 := Lib.hid h0'
    clear h0 h0'
    cases g
    all_goals
      rcases h4 with ⟨h4, h5⟩ | ⟨h4, h5⟩
      all_goals
        go_enter Tryz.func162, Tryz.ntmps162
        go_wp2_with (go_at_call 163; refine HL.out.mono ?_; rintro e w' ⟨rfl, rfl⟩; rw [HL0.out])
        refine (HW.out HSZ.out).mono ?_
        rintro e w1 ⟨rfl, hz, hk⟩
        have HZ := Lib.hid hz
        have HK := Lib.hid hk
        clear hz hk
        go_wp2_with fail
        go_end0
        exact ⟨rfl, H2.out.wrote HZ.out HK.out, ((Kept.refl _ _).setCell (p := ⟨gb, 0, none⟩) (.inr (.inl rfl)) _).trans (kept_wide HK.out)⟩
set_option maxHeartbeats 2000000 in
theorem put_gap (h : PutI B b gb xb out true w) (hl : out.length ≤ 900000000) (hc : lnB c = true) (h0 : 0 < out.length) :
    Calls Tryz.prog 162 #[.int .u8 c.toNat, .pointer (some ⟨gb, 0, none⟩), .pointer (some ⟨xb, 0, none⟩)] w (PutPost B b gb xb (out ++ [45] ++ [c]) false w) := by
  have hcl : c.toNat < 256 := c.toNat_lt
  have h4 : (48 ≤ c.toNat ∧ c.toNat ≤ 57) ∨ (97 ≤ c.toNat ∧ c.toNat ≤ 122) := by
    unfold lnB at hc; simp at hc; omega
  have hg := h.gcell
  have hx := h.xcell
  have H := Lib.hid h
  have HL : Hid (Calls Tryz.prog 163 #[.pointer (some ⟨b, 0, none⟩)] w fun e w' => e = .returned (.int .i64 out.length) ∧ w = w') := len_any h
  have HSZ := Lib.hid h.sz
  have HW : Hid (∀ hw, Calls Tryz.prog 164 #[.pointer (some ⟨b, 0, none⟩), .int .u8 45] w fun e w' => e = .returned .nilIface ∧ Bz B b (out ++ [45]) w' ∧ Kept (fun g => g = b ∨ B ≤ g) w w') := fun hw => writeByte_z B b out 45 w h.z (by omega) hw
  have hl0 : (0 : Int) < (out.length : Int) := by omega
  clear hc h
  rcases h4 with ⟨h4, h5⟩ | ⟨h4, h5⟩
  all_goals
    go_enter Tryz.func162, Tryz.ntmps162
    go_wp2_with (go_at_call 163; refine HL.out.mono ?_; rintro e w' ⟨rfl, rfl⟩)
    refine (HW.out HSZ.out).mono ?_
    rintro e w1 ⟨rfl, hz, hk⟩
    have h1 := H.out.wrote hz hk
    have hg1 := h1.gcell
    have hf1 := h1.gfree
    have h2 := h1.setG false
    have hx2 := h2.xcell
    have H2 := Lib.hid h2
    have HW2 : Hid (∀ hw, Calls Tryz.prog 164 #[.pointer (some ⟨b, 0, none⟩), .int .u8 c.toNat] (w1.setCell ⟨gb, 0, none⟩ (.bool false)) fun e w' => e = .returned .nilIface ∧ Bz B b ((out ++ [45]) ++ [c]) w' ∧ Kept (fun g => g = b ∨ B ≤ g) (w1.setCell ⟨gb, 0, none⟩ (.bool false)) w') := fun hw => writeByte_z B b (out ++ [45]) c _ h2.z (by simp; omega) hw
    have HSZ2 := Lib.hid h2.sz
    have HK := Lib.hid hk
    clear hz hk h1 h2
    go_wp2_with fail
    refine (HW2.out HSZ2.out).mono ?_
    rintro e w2 ⟨rfl, hz, hk⟩
    have HZ := Lib.hid hz
    have HK2 := Lib.hid hk
    clear hz hk
    go_wp2_with fail
    go_end0
    exact ⟨rfl, H2.out.wrote HZ.out HK2.out, ((kept_wide HK.out).setCell (p := ⟨gb, 0, none⟩) (.inr (.inl rfl)) _).trans (kept_wide HK2.out)⟩
theorem put_any (p : Bytes × Bool) (h : PutI B b gb xb p.1 p.2 w) (hl : p.1.length ≤ 900000000) :
    Calls Tryz.prog 162 #[.int .u8 c.toNat, .pointer (some ⟨gb, 0, none⟩), .pointer (some ⟨xb, 0, none⟩)] w (PutPost B b gb xb (stepH p c).1 (stepH p c).2 w) := by
  obtain ⟨out, g⟩ := p
  simp only at h hl
  cases hc : lnB c
  · rw [stepH_no hc]; exact put_no B b gb xb out g c w h hc
  · by_cases h0 : (g && decide (0 < out.length)) = true
    · simp only [Bool.and_eq_true, decide_eq_true_eq] at h0
      obtain ⟨rfl, h0⟩ := h0
      rw [stepH_gap hc h0]; exact put_gap B b gb xb out c w h hl hc h0
    · have h1 : (g && decide (0 < out.length)) = false := by simpa using h0
      rw [stepH_one hc h1]
      refine put_one B b gb xb out g c w h hl hc ?_
      cases g
      · exact .inl rfl
      · simp at h1; exact .inr (by simp [h1])
end

section
variable (s : Bytes) (w : World)
set_option maxHeartbeats 4000000 in
set_option maxRecDepth 100000 in
theorem of_any (hs : s.length ≤ 100000000) :
    Calls Tryz.prog 87 #[.string ⟨s.toArray⟩] w fun e w' => e = .returned (.string ⟨(slugOf s).toArray⟩) ∧ Below w.heap.size w w' := by
  go_enter Tryz.func87, Tryz.ntmps87
  go_wp2_with (go_at_call 143; go_in)
  refine (lower_any s _ (by omega)).mono ?_
  rintro e w1 ⟨rfl, hb1⟩
  go_wp2_with (refine wpList_bytes_of rfl _ 9 65 5 rfl ⟨(lowS s).toArray⟩ rfl Tryz.underlying9 Tryz.underlying65 Tryz.underlying5 ?_; intro w2 cap rest' hb2 hz2 hblk hcap)
  have hcap2 : (lowS s).length ≤ cap := by rw [← size_mk]; exact hcap
  have hll : (lowS s).length = s.length := lowS_len s
  have hz1 := hb1.size
  simp only [World.size_alloc] at hz1
  have hB0 : Bk w2 w.heap.size [.pointer none, .slice none 0 0] 204 :=
    (((((Bk.new w #[.pointer none, .slice none 0 0] 204).alloc (.cells #[.pointer (some ⟨w.heap.size, 0, none⟩)] 202)).alloc (.cells #[.bool false] 4)).next hb1).next hb2)
  have hX0 : Bk w2 (w.heap.size + 1) [.pointer (some ⟨w.heap.size, 0, none⟩)] 202 := by
    have h := Bk.new (w.alloc (.cells #[.pointer none, .slice none 0 0] 204)) #[.pointer (some ⟨w.heap.size, 0, none⟩)] 202
    rw [World.size_alloc] at h
    exact ((h.alloc (.cells #[.bool false] 4)).next hb1).next hb2
  have hG0 : Bk w2 (w.heap.size + 1 + 1) [.bool false] 4 := by
    have h := Bk.new ((w.alloc (.cells #[.pointer none, .slice none 0 0] 204)).alloc (.cells #[.pointer (some ⟨w.heap.size, 0, none⟩)] 202)) #[.bool false] 4
    rw [World.size_alloc, World.size_alloc] at h
    exact (h.next hb1).next hb2
  have hP0 : PutI w2.heap.size w.heap.size (w.heap.size + 1 + 1) (w.heap.size + 1) [] false w2 := ⟨Bz.fresh hB0, hG0, hX0, by omega, by omega, by omega, by omega, by omega, Nat.le_refl _⟩
  have HP0 := Lib.hid hP0
  have HB0 := Lib.hid hblk
  have hbb : Below w.heap.size w w2 := (((((Below.refl _ w).alloc (Nat.le_refl _) _).alloc (by simp) _).alloc (by simp; omega) _).trans (hb1.mono (by simp; omega))).trans (hb2.mono (by omega))
  have hz3 : w.heap.size + 3 ≤ w1.heap.size := by omega
  have hz4 : w1.heap.size < w2.heap.size := by omega
  have HLL := Lib.hid hll
  have HSO : Hid (slugOf s = slugC (foldH (lowS s)).1) := rfl
  clear hB0 hX0 hG0 hP0 hblk hcap hz1 hz2 hb1 hb2
  generalize hL : lowS s = L at *
  have hLs : L.length ≤ 100000000 := by have := HLL.out; omega
  clear hll hL
  go_loopw [13] (fun v13 wr => ∃ k : Nat, k ≤ L.length ∧ v13 = .int .i64 k ∧ Hid (PutI w2.heap.size w.heap.size (w.heap.size + 1 + 1) (w.heap.size + 1) (foldH (L.take k)).1 (foldH (L.take k)).2 wr) ∧ Hid (Blk wr w1.heap.size (L.map vB ++ rest')) ∧ Below w.heap.size w wr) (fun v13 _ => L.length - (intOf v13).toNat)
  case atStart => exact ⟨0, by omega, rfl, HP0, HB0, hbb⟩
  case round =>
    obtain ⟨k, hk, rfl, HP, HB, hb⟩ := hrel
    by_cases hlt : k < L.length
    · have z0 : wr.cell? ⟨w1.heap.size, k, none⟩ = some (.int .u8 L[k].toNat) := by
        rw [HB.out.cell, List.getElem?_append_left (by rw [List.length_map]; exact hlt), List.getElem?_map, List.getElem?_eq_getElem hlt]; rfl
      have hfl := foldH_len L k hk
      have HF := Lib.hid (foldH_succ hlt)
      go_wp2_with fail
      refine (put_any w2.heap.size w.heap.size (w.heap.size + 1 + 1) (w.heap.size + 1) L[k] _ _ HP.out (by omega)).mono ?_
      rintro e w3 ⟨rfl, hP, hK⟩
      have HB3 := Lib.hid (HB.out.of_block (hK.block w1.heap.size HB.out.lt (by unfold PutS; omega)))
      have hb3 := hb.trans (hK.below (B := w.heap.size) (fun k hk => by unfold PutS at hk; omega) hb.size)
      have HP3 := Lib.hid hP
      clear hP hK
      go_wp2_with fail
      go_roundw
      case rel => exact ⟨k + 1, by omega, by go_num, by rw [HF.out]; exact HP3, HB3, hb3⟩
      case measure => simp [intOf]; omega
    · obtain rfl : k = L.length := by omega
      have hP := HP.out
      rw [List.take_length] at hP
      have hhy := foldH_hy L
      have hfl := foldH_len L L.length (Nat.le_refl _)
      rw [List.take_length] at hfl
      have HSC := HSO
      generalize (foldH L).1 = out at *
      generalize (foldH L).2 = gp at *
      have hS := string_b w.heap.size w.heap.size out wr (hP.z.bld (Nat.le_refl _) (by omega)) hb.size
      have HS := Lib.hid hS
      have htr : Lib.trimRightB (out.take 60) 45 = trim1 (out.take 60) := trimRight_hy1 (hhy.take 60)
      have HTR := Lib.hid htr
      have HSG : Hid (slugOf s = slugC out) := HSO.out
      clear hP hS htr hhy HSC HSO
      go_wp2_with fail
      refine HS.out.mono ?_
      rintro e w3 ⟨rfl, _, hb3, _⟩
      have hb3' := hb.trans hb3
      have hTR : ∀ w, Calls Tryz.prog 145 #[.string ⟨(out.take 60).toArray⟩, .string ⟨#[45]⟩] w fun e w' => e = .returned (.string ⟨(trim1 (out.take 60)).toArray⟩) ∧ w = w' := fun w =>
        (Tryz.strings_TrimRight_one ⟨(out.take 60).toArray⟩ 45 (by decide) w (by rw [size_mk, List.length_take]; omega)).mono fun e w' ⟨he, hw⟩ => ⟨by rw [he]; show Ending.returned (.string ⟨(Lib.trimRightB (out.take 60) 45).toArray⟩) = _; rw [HTR.out], hw.symm⟩
      have hfin : slugOf s = slugC out := HSG.out
      unfold slugC at hfin
      clear HTR HSG HS hb3
      by_cases h60 : out.length ≤ 60
      · rw [List.take_of_length_le h60] at hTR hfin
        have HT := Lib.hid hTR
        clear hTR
        generalize trim1 out = u at *
        cases u with
        | nil =>
          have HF := Lib.hid hfin
          clear hfin
          go_wp2_with fail
          refine (HT.out _).mono ?_
          rintro e w' ⟨rfl, rfl⟩
          go_wp2_with fail
          go_ret
          exact ⟨by rw [HF.out]; rfl, hb3'⟩
        | cons x u =>
          have HF := Lib.hid hfin
          have hn1 : (x :: u).isEmpty = false := rfl
          have hn2 : ((x :: u) == []) = false := rfl
          clear hfin
          go_wp2_with fail
          refine (HT.out _).mono ?_
          rintro e w' ⟨rfl, rfl⟩
          go_wp2_with fail
          go_ret
          exact ⟨by rw [HF.out]; rfl, hb3'⟩
      · have HT := Lib.hid hTR
        clear hTR
        have h60' : 60 < (out.length : Int) := by omega
        generalize trim1 (out.take 60) = u at *
        cases u with
        | nil =>
          have HF := Lib.hid hfin
          clear hfin
          go_wp2_with fail
          refine (HT.out _).mono ?_
          rintro e w' ⟨rfl, rfl⟩
          go_wp2_with fail
          go_ret
          exact ⟨by rw [HF.out]; rfl, hb3'⟩
        | cons x u =>
          have HF := Lib.hid hfin
          have hn1 : (x :: u).isEmpty = false := rfl
          have hn2 : ((x :: u) == []) = false := rfl
          clear hfin
          go_wp2_with fail
          refine (HT.out _).mono ?_
          rintro e w' ⟨rfl, rfl⟩
          go_wp2_with fail
          go_ret
          exact ⟨by rw [HF.out]; rfl, hb3'⟩
end
end Go.Proofs.YtohinfefidahlaaGreatDoor
