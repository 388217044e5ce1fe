/- binderylaw01.Book and lists of Source: keep, fill, grow, look. -/
import Derived.Test.YtfedkhicckgjaaaGreatDoorBook
import Derived.Test.YtfedkhicckgjaaaGreatDoorTwinS
namespace Go.Proofs.YtfedkhicckgjaaaGreatDoor
open Go.RowKit
set_option linter.unusedVariables false

def mkSource (n : Nat) : Two := (⟨wordB n, []⟩ : Two)
theorem slheldSource : SlTy Tryz.prog 37 101 3 56 := ⟨Tryz.underlying37, .agg #[.slice none 0 0, .slice none 0 0, .int .i64 0], by kernel_rfl, rfl, by decide⟩

theorem markSource_any (n : Nat) (w : World) (hn : n < 10) : Calls Tryz.prog 101 #[.int .i64 n] w fun e w' => e = .returned (.agg #[.string ⟨(wordB n).toArray⟩, .string ⟨#[]⟩]) ∧ Below w.heap.size w w' := by
  go_enter Tryz.func101, Tryz.ntmps101
  go_wp2_with (go_at_call 146; refine (word_any n _ hn).mono ?_; rintro e w' ⟨rfl, rfl⟩)
  exact bodyPost_ret (v := .agg #[.string ⟨(wordB n).toArray⟩, .string ⟨#[]⟩]) (by simp [results, Tryz.results101, go_sem]) rfl ⟨rfl, (Below.refl _ _).alloc (Nat.le_refl _) _⟩
theorem isSource_any (n : Nat) (w : World) (hn : n < 10) : Calls Tryz.prog 118 #[.agg #[.string ⟨(wordB n).toArray⟩, .string ⟨#[]⟩], .int .i64 n] w fun e w' => e = .returned (.bool true) ∧ Below w.heap.size w w' := by
  go_enter Tryz.func118, Tryz.ntmps118
  go_wp2_with fail
  go_quiet ((go_at_call 146; exact Calls.quiet_of_same ((word_any n _ hn).mono fun _ _ h => ⟨h.1, h.2.symm⟩)))
  go_wp2
  go_ret
  exact ⟨rfl, below_drewN ((Below.refl _ _).alloc (Nat.le_refl _) _) _⟩

set_option maxHeartbeats 4000000 in
set_option maxRecDepth 100000 in
theorem keepSource_any (B kb N : Nat) (C : List Value) (hv : Value) (held : List HeldV) (a : Option Addr) (n c : Nat) (w : World) (hk : Bk w kb C 50) (hB : B ≤ kb) (hC : C.length = 18) (h0 : C[0]? = some (.int .i64 N)) (hN : N < 100) (h1 : C[6]? = some hv)
    (hO : Own w B 101 3 encH hv held) (hl : held.length < 100) :
    Calls Tryz.prog 33 #[.pointer (some ⟨kb, 0, none⟩), .slice a n c] w fun e w' => (∃ hv', e = .returned (.tuple #[]) ∧ Bk w' kb ((C.set 0 (.int .i64 ((N : Int) + 1))).set 6 hv') 50 ∧ Own w' B 101 3 encH hv' (held ++ [⟨a, n, c, none, 0, 0, N + 1⟩])) ∧ Kept (fun g => g = kb ∨ hv.ownBlock = some g) w w' := by
  have hBs : B ≤ w.heap.size := Nat.le_trans hB (Nat.le_of_lt hk.lt)
  have hne := hO.ne_bk hk (by decide)
  have c0 : w.cell? ⟨kb, 0, none⟩ = some (.int .i64 N) := by rw [hk.cell]; exact h0
  have c1 : w.cell? ⟨kb, 6, none⟩ = some hv := by rw [hk.cell]; exact h1
  have f0 := hk.free 0
  have f1 := hk.free 6
  obtain ⟨a0, d0, rfl⟩ := hO.shape
  have hklt := hk.lt
  have hk1 : Bk (w.setCell ⟨kb, 0, none⟩ (.int .i64 ((N : Int) + 1))) kb (C.set 0 (.int .i64 ((N : Int) + 1))) 50 := hk.set 0 _
  have hx0 : (C.set 0 (.int .i64 ((N : Int) + 1)))[0]? = some (.int .i64 ((N : Int) + 1)) := List.getElem?_set_self (by omega)
  have hx1 : (C.set 0 (.int .i64 ((N : Int) + 1)))[6]? = some (.slice a0 held.length d0) := by rw [List.getElem?_set_ne (by omega)]; exact h1
  have hkp : Kept (fun g => g = kb ∨ (Value.slice a0 held.length d0).ownBlock = some g) w (w.setCell ⟨kb, 0, none⟩ (.int .i64 ((N : Int) + 1))) := (Kept.refl _ w).setCell (.inl rfl) _
  have hO1 : Own (w.setCell ⟨kb, 0, none⟩ (.int .i64 ((N : Int) + 1))) B 101 3 encH (.slice a0 held.length d0) held := hO.kept fun k hk' => Below.heap_setCell _ _ _ _ (fun e => hne (by rw [hk', e]))
  have hs1 : (w.setCell ⟨kb, 0, none⟩ (.int .i64 ((N : Int) + 1))).heap.size = w.heap.size := by simp [World.setCell]
  have HK := Lib.hid hk
  have HO := Lib.hid hO
  have HO1 := Lib.hid hO1
  have HK1 := Lib.hid hk1
  have HKP := Lib.hid hkp
  have HN := Lib.hid hne
  have HX0 := Lib.hid hx0
  have HX1 := Lib.hid hx1
  have HS1 := Lib.hid hs1
  clear hk hO h0 h1 hne hO1 hk1 hkp hx0 hx1 hs1
  obtain ⟨i0, hi, hz0, hz1, hz2⟩ := info_parts (show (Tryz.prog.info? 101).map (fun i => (i.zero, i.size, i.bytes)) = some (some (.agg #[.slice none 0 0, .slice none 0 0, .int .i64 0]), 3, 56) by kernel_rfl)
  go_enter Tryz.func33, Tryz.ntmps33
  go_wp2_with fail
  generalize hw1 : w.setCell ⟨kb, 0, none⟩ (.int .i64 ((N : Int) + 1)) = w1 at *
  have HW1 := Lib.hid hw1
  clear hw1 c0 c1 f0 f1
  have d0' : w1.cell? ⟨kb, 0, none⟩ = some (.int .i64 ((N : Int) + 1)) := by rw [HK1.out.cell]; exact HX0.out
  have d1' : w1.cell? ⟨kb, 6, none⟩ = some (.slice a0 held.length d0) := by rw [HK1.out.cell]; exact HX1.out
  have g1 : w1.frozen? ⟨kb, 6, none⟩ = false := HK1.out.free _
  have hlt1 : kb < w1.heap.size := HK1.out.lt
  have hsz1 : w.heap.size ≤ w1.heap.size := Nat.le_of_eq HS1.out.symm
  go_region_law ((refine step_append_lies _ (by rfl) _ _ _ (by rfl) B 101 i0 _ 3 56 Tryz.underlying37 hi hz0 hz1 hz2 rfl (by omega) (.slice a0 held.length d0) held.length (held.flatMap encH) (by rfl) ((HO1.out.alloc _)) ⟨w1.heap.size, 0, none⟩ 1 1 [.slice a n c, .slice none 0 0, .int .i64 ((N : Int) + 1)] (by rfl) (by rfl) (World.news_of_block (cs := #[.slice a n c, .slice none 0 0, .int .i64 ((N : Int) + 1)]) (t := 101) (fr := (0, 0)) (heap_alloc_new w1 _)) (by simp [Value.oneCell']) (by omega) (by unfold maxLen; omega) (by omega) (by simp; omega) (w1.heap.size + 1) (by simp) ?_; intro gg cap w3 hown1 hgrow hat hlt; have hk3 := Bk.grown (HK1.out.alloc _).drew hgrow HN.out; have z1 := (hk3.cell 6).trans HX1.out; have z2 := hk3.free 6))
  all_goals
    go_wp2
    go_end0
    have hggk : gg ≠ kb := by
      rcases hat with h | h
      · intro e; rw [e] at h; exact HN.out h
      · omega
    have hKp3 := Kept.grown (w1 := (w1.alloc _).drew) ((HKP.out.alloc _).drewN 1) hgrow (fun g h => .inr h)
    refine ⟨⟨_, rfl, hk3.set 6 _, ?_⟩, hKp3.setCell (.inl rfl) _⟩
    have e1 : (held ++ [(⟨a, n, c, none, 0, 0, N + 1⟩ : HeldV)]).length = held.length + 1 := by simp
    refine Own.kept (w := w3) ?_ (fun k hk' => Below.heap_setCell _ _ _ _ (fun e => by cases hk'; exact hggk e))
    unfold Own
    rw [e1, List.flatMap_append]
    simpa [encH] using hown1

set_option maxHeartbeats 8000000 in
set_option maxRecDepth 100000 in
theorem fillSource_any (B kb : Nat) (C : List Value) (hv : Value) (held : List HeldV) (L : Nat → List Two) (w : World) (hk : Bk w kb C 50) (h1 : C[6]? = some hv)
    (hO : Own w B 101 3 encH hv held) (hl : held.length < 100) (hE : Held w B 63 2 encT held L) (hA : HApart held) (hn : ∀ j (hj : j < held.length), held[j].n < 10) (hL : ∀ j, (L j).length ≤ 1048577) :
    Calls Tryz.prog 40 #[.pointer (some ⟨kb, 0, none⟩)] w (Filled B 63 2 encT mkSource held L w) := by
  obtain ⟨a0, d0, rfl⟩ := hO.shape
  have hS1 := hE.not_bk hk (by decide)
  have hS2 := hE.not_own hO (by decide)
  have HK := Lib.hid hk
  have HO := Lib.hid hO
  have HE := Lib.hid hE
  have HA := Lib.hid hA
  have HNN := Lib.hid hn
  have HLL := Lib.hid hL
  have HC1 := Lib.hid h1
  have HS1 := Lib.hid hS1
  have HS2 := Lib.hid hS2
  clear hk hO hE hA hn hL h1 hS1 hS2
  go_enter Tryz.func40, Tryz.ntmps40
  go_wp2_with fail
  go_loopw [2] (fun v2 wr => ∃ i : Nat, i ≤ held.length ∧ v2 = .int .i64 i ∧ Hid (Held wr B 63 2 encT held (fillL i 0 mkSource held L)) ∧ Hid (Kept (HS held) w wr)) (fun v2 _ => held.length - (intOf v2).toNat)
  case atStart => exact ⟨0, by omega, rfl, by unfold Hid; rw [show fillL 0 0 mkSource held L = L from funext (fillL_start mkSource held L)]; exact HE.out, Kept.refl _ _⟩
  case round =>
    obtain ⟨i, hi, rfl, HH, HKP⟩ := hrel
    have hbk := HKP.out.bk HK.out HS1.out
    have hc1 : wr.cell? ⟨kb, 6, none⟩ = some (.slice a0 held.length d0) := by rw [hbk.cell]; exact HC1.out
    clear hbk
    by_cases hlt : i < held.length
    · have hOr := HKP.out.own HO.out HS2.out
      obtain ⟨b, off, ha, hbl, hel⟩ := (hOr.addr encH_ok).elem hlt
      subst ha
      have hc2 := hel 0 _ rfl
      have hc3 := hel 1 _ rfl
      have hc4 := hel 2 _ rfl
      rw [Nat.add_zero] at hc2
      have hlen := HE.out.len i hlt
      have hn10 := HNN.out i hlt
      have hLi := HLL.out i
      have hfk := fun k => fillL_at mkSource held L i k hlt
      obtain ⟨xa, xl, xc, ya, yl, yc, nn, hx⟩ : ∃ xa xl xc ya yl yc nn, held[i] = ⟨xa, xl, xc, ya, yl, yc, nn⟩ := ⟨_, _, _, _, _, _, _, rfl⟩
      rw [hx] at hc2 hc3 hc4 hlen hn10
      simp only at hc2 hc3 hc4 hlen hn10
      subst hlen
      have hval : held[i].v = .slice xa (L i).length xc := by rw [hx]; rfl
      have hnn : held[i].n = nn := by rw [hx]
      rw [hnn] at hfk
      have HV := Lib.hid hval
      have HFK := Lib.hid hfk
      clear hOr hel hx hfk hval hnn
      have hlt3 : (i : Int) < (held.length : Int) := by omega
      go_wp2_with fail
      obtain ⟨wo, hwo⟩ : ∃ wo : World, wo = wr := ⟨_, rfl⟩
      subst hwo
      have HBH := Lib.hid (Bk.new wo #[.slice xa (L i).length xc, .slice ya yl yc, .int .i64 nn] 101)
      have HK1 : Hid (Kept (HS held) wo (wo.alloc (.cells #[.slice xa (L i).length xc, .slice ya yl yc, .int .i64 nn] 101))) := (Kept.refl _ _).alloc _
      have HH1 : Hid (Held (wo.alloc (.cells #[.slice xa (L i).length xc, .slice ya yl yc, .int .i64 nn] 101)) B 63 2 encT held (fillL i 0 mkSource held L)) := fun j hj => (HH.out j hj).alloc _
      go_loopw [4] (fun v4 wi => ∃ k : Nat, k ≤ (L i).length ∧ v4 = .int .i64 k ∧ Hid (Held wi B 63 2 encT held (fillL i k mkSource held L)) ∧ Hid (Kept (HS held) wo wi) ∧ Hid (Bk wi wo.heap.size [.slice xa (L i).length xc, .slice ya yl yc, .int .i64 nn] 101)) (fun v4 _ => (L i).length - (intOf v4).toNat)
      case atStart => exact ⟨0, by omega, rfl, HH1, HK1, HBH⟩
      case round =>
        obtain ⟨k, hk, rfl, HH2, HK2, HB2⟩ := hrel
        have hh0 : wr.cell? ⟨wo.heap.size, 0, none⟩ = some (.slice xa (L i).length xc) := HB2.out.cell 0
        have hh2 : wr.cell? ⟨wo.heap.size, 2, none⟩ = some (.int .i64 nn) := HB2.out.cell 2
        have hhl := HB2.out.lt
        by_cases hlt2 : k < (L i).length
        · have hOi := HH2.out i hlt
          rw [HV.out, HFK.out] at hOi
          obtain ⟨g, rfl, hBg, hgl, hlc⟩ := hOi.ptr (by omega)
          have hgo : g < wo.heap.size := by
            have := (HH.out.lt (g := g) ⟨i, hlt, by rw [HV.out]; rfl⟩).2
            exact this
          obtain ⟨x, hxk⟩ : ∃ x, (over k (mkSource nn) (L i))[k]? = some x := ⟨_, by rw [over_at _ _ _ hlt2, List.getElem?_eq_getElem hlt2]⟩
          have hgx : (over k (mkSource nn) (L i))[k]'(by rw [over_len _ _ _ hk]; exact hlt2) = x := (List.getElem?_eq_some_iff.1 hxk).2
          have HOI := Lib.hid hOi
          have HXK := Lib.hid hxk
          clear hOi
          have hki : (0 : Int) ≤ (k : Int) := by omega
          have hki2 : (k : Int) < ((L i).length : Int) := by omega
          go_wp2_with fail
          go_region_held3 (fun w' => w'.cell? ⟨wo.heap.size, 0, none⟩ = some (.slice (some ⟨g, 0, none⟩) (L i).length xc) ∧ w'.cell? ⟨wo.heap.size, 2, none⟩ = some (.int .i64 nn))
            (first | (go_split_ands; exact ⟨HB3.out.cell 0, HB3.out.cell 2⟩) | (go_split_ands; exact ⟨((HB3.out.set_other (Nat.ne_of_lt hgo) _ _).set_other (Nat.ne_of_lt hgo) _ _).cell 0, ((HB3.out.set_other (Nat.ne_of_lt hgo) _ _).set_other (Nat.ne_of_lt hgo) _ _).cell 2⟩) | go_keep)
            ((go_at_call 101; refine (markSource_any nn _ hn10).mono ?_; rintro e w2 ⟨rfl, hb2⟩; have HB3 := Lib.hid (HB2.out.next0 (by rfl) hb2); have HO2 := Lib.hid (HOI.out.next (by rfl) hb2); have z0 := HO2.out.cellAt encT_ok HXK.out (j := 0) rfl; rw [Nat.add_zero] at z0; have z1 := HO2.out.cellAt encT_ok HXK.out (j := 1) rfl; have y0 := HO2.out.freeAt (k * 2); have y1 := HO2.out.freeAt (k * 2 + 1)))
          have HO3 := (HO2.out.setAt encT_ok (k := k) (by rw [over_len _ _ _ hk]; exact hlt2) (p := 0) (by decide) (.string ⟨(wordB nn).toArray⟩) (⟨wordB nn, x.value⟩ : Two) (by rw [hgx]; rfl))
          have HO4 := HO3.setAt encT_ok (k := k) (by rw [List.length_set, over_len _ _ _ hk]; exact hlt2) (p := 1) (by decide) (.string ⟨#[]⟩) (mkSource nn) (by rw [List.getElem_set_self]; rfl)
          rw [List.set_set, over_set _ _ _ hlt2] at HO4
          have hSg : HS held g := ⟨i, hlt, by rw [HV.out]; rfl⟩
          have HKF : Hid (Kept (HS held) wo ((w2.setCell ⟨g, k * 2, none⟩ (.string ⟨(wordB nn).toArray⟩)).setCell ⟨g, k * 2 + 1, none⟩ (.string ⟨#[]⟩))) := (((HK2.out.drewN 1).trans (Kept.of_below hb2)).setCell hSg _).setCell hSg _
          have HHF : Hid (Held ((w2.setCell ⟨g, k * 2, none⟩ (.string ⟨(wordB nn).toArray⟩)).setCell ⟨g, k * 2 + 1, none⟩ (.string ⟨#[]⟩)) B 63 2 encT held (fillL i (k + 1) mkSource held L)) := by
            intro j hj
            by_cases hji : j = i
            · subst hji
              rw [HV.out, HFK.out]
              exact HO4
            · have hne : held[j].v.ownBlock ≠ some g := fun e => HA.out j i hj hlt hji g e (by rw [HV.out]; rfl)
              rw [fillL_other mkSource held L (k := k + 1) (k' := k) hji]
              exact (((HH2.out j hj).next (by rfl) hb2).set_other hne _ _).set_other hne _ _
          have HBF : Hid (Bk ((w2.setCell ⟨g, k * 2, none⟩ (.string ⟨(wordB nn).toArray⟩)).setCell ⟨g, k * 2 + 1, none⟩ (.string ⟨#[]⟩)) wo.heap.size [.slice (some ⟨g, 0, none⟩) (L i).length xc, .slice ya yl yc, .int .i64 nn] 101) := ((HB3.out.set_other (Nat.ne_of_lt hgo) _ _).set_other (Nat.ne_of_lt hgo) _ _)
          clear HO4 HO3
          go_wp2_with fail
          go_roundw
          case rel => exact ⟨k + 1, by omega, by go_num, HHF, HKF, HBF⟩
          case measure => simp [intOf]; omega
        · obtain rfl : k = (L i).length := by omega
          have HHF : Hid (Held wr B 63 2 encT held (fillL (i + 1) 0 mkSource held L)) := fun j hj => by rw [← fillL_next mkSource held L i j]; exact HH2.out j hj
          have HKF := Lib.hid (HKP.out.trans HK2.out)
          go_wp2_with fail
          go_roundw
          case rel => exact ⟨i + 1, by omega, by go_num, HHF, HKF⟩
          case measure => simp [intOf]; omega
    · obtain rfl : i = held.length := by omega
      go_wp2_with fail
      go_end0
      refine ⟨rfl, fun j hj => ?_, HKP.out⟩
      have h := HH.out j hj
      rw [fillL_end mkSource held L held.length j hj hj] at h
      have e : (held[j]?.map (·.n)).getD 0 = held[j].n := by rw [List.getElem?_eq_getElem hj]; rfl
      rw [← e] at h
      exact h

set_option maxHeartbeats 8000000 in
set_option maxRecDepth 100000 in
theorem growSource_any (B kb : Nat) (C : List Value) (hv : Value) (held : List HeldV) (L : Nat → List Two) (w : World) (hk : Bk w kb C 50) (hBw : B ≤ w.heap.size) (h1 : C[6]? = some hv)
    (hO : Own w B 101 3 encH hv held) (hl : held.length < 100) (hE : Held w B 63 2 encT held L) (hA : HApart held) (hn : ∀ j (hj : j < held.length), held[j].n < 10) (hL : ∀ j, (L j).length ≤ 1048577) :
    Calls Tryz.prog 57 #[.pointer (some ⟨kb, 0, none⟩)] w (Grown B 63 101 2 encT mkSource hv held L w) := by
  obtain ⟨a0, d0, rfl⟩ := hO.shape
  have hS1 := hE.not_bk hk (by decide)
  have hS2 := hE.not_own hO (by decide)
  have hS3 := hO.ne_bk hk (by decide)
  have HK := Lib.hid hk
  have HO := Lib.hid hO
  have HE := Lib.hid hE
  have HA := Lib.hid hA
  have HNN := Lib.hid hn
  have HLL := Lib.hid hL
  have HC1 := Lib.hid h1
  have HS1 := Lib.hid hS1
  have HS2 := Lib.hid hS2
  have HS3 := Lib.hid hS3
  clear hk hO hE hA hn hL h1 hS1 hS2 hS3
  go_enter Tryz.func57, Tryz.ntmps57
  go_wp2_with fail
  go_loopw [2] (fun v2 wr => ∃ (i : Nat) (held' : List HeldV), i ≤ held.length ∧ v2 = .int .i64 i ∧ Hid (GrowI B 63 101 2 encT mkSource (.slice a0 held.length d0) held L w i held' wr)) (fun v2 _ => held.length - (intOf v2).toNat)
  case atStart => exact ⟨0, held, by omega, rfl, GrowI.start HO.out HE.out⟩
  case round =>
    obtain ⟨i, held', hi, rfl, HG⟩ := hrel
    have hnkb : ¬ (HS held kb ∨ (Value.slice a0 held.length d0).ownBlock = some kb) := fun h => h.elim HS1.out HS3.out
    have hbk := HG.out.kept.bk HK.out hnkb
    have hc1 : wr.cell? ⟨kb, 6, none⟩ = some (.slice a0 held.length d0) := by rw [hbk.cell]; exact HC1.out
    have HBK := Lib.hid hbk
    clear hbk hnkb
    by_cases hlt : i < held.length
    · have hlt' : i < held'.length := by rw [HG.out.len]; exact hlt
      have hOr := HG.out.own
      have hBr : B ≤ wr.heap.size := Nat.le_trans hBw HG.out.kept.size
      obtain ⟨gl, hgl, hBg, hgll, hlc⟩ := hOr.ptr (by omega)
      subst hgl
      have hc2 := hOr.cellAt encH_ok (List.getElem?_eq_getElem hlt') (j := 0) rfl
      have hc3 := hOr.cellAt encH_ok (List.getElem?_eq_getElem hlt') (j := 1) rfl
      have hc4 := hOr.cellAt encH_ok (List.getElem?_eq_getElem hlt') (j := 2) rfl
      rw [Nat.add_zero] at hc2
      have hsame := HG.out.same i hlt hlt'
      have hel := HG.out.el i hlt
      have hn10 := HNN.out i hlt
      have hLi := HLL.out i
      obtain ⟨xa, xl, xc, ya, yl, yc, nn, hx⟩ : ∃ xa xl xc ya yl yc nn, held'[i] = ⟨xa, xl, xc, ya, yl, yc, nn⟩ := ⟨_, _, _, _, _, _, _, rfl⟩
      rw [hx] at hc2 hc3 hc4 hsame
      simp only [HeldV.v] at hc2 hc3 hc4 hsame
      obtain ⟨hsv, hsn⟩ := hsame
      have hsv' : held[i].v = .slice xa xl xc := hsv.symm
      rw [← hsn] at hn10
      rw [hsv'] at hel
      have hxl : xl = (L i).length := by
        obtain ⟨_, _, e⟩ := hel.shape
        injection e
      subst hxl
      have HEL := Lib.hid hel
      have HV := Lib.hid hsv'
      have HN := Lib.hid hsn
      have HX := Lib.hid hx
      have HOR := Lib.hid hOr
      clear hOr hel hx hsv hsv' hsn
      have hlt3 : (i : Int) < (held.length : Int) := by omega
      go_wp2_with fail
      obtain ⟨wo, hwo⟩ : ∃ wo : World, wo = wr := ⟨_, rfl⟩
      subst hwo
      have HST : Hid (GrowK B 63 2 encT held[i].v (.slice xa (L i).length xc) (L i) (mkSource nn) 0 (wo.heap.size + 1) (wo.alloc (.cells #[.slice xa (L i).length xc, .slice ya yl yc, .int .i64 nn] 101)) (wo.alloc (.cells #[.slice xa (L i).length xc, .slice ya yl yc, .int .i64 nn] 101))) := by
        have h := GrowK.start (m := mkSource nn) (S1 := wo.heap.size + 1) (HEL.out.alloc (.cells #[.slice xa (L i).length xc, .slice ya yl yc, .int .i64 nn] 101)) (fun g hg => Nat.lt_succ_of_lt (HEL.out.block g hg).2) (by simp)
        unfold Hid
        rw [HV.out]
        exact h
      go_loopw [4, 5] (fun v4 v5 wi => ∃ (k : Nat) (ua : Option Addr) (ul uc : Nat), k ≤ 40 ∧ v5 = .int .i64 k ∧ v4 = .slice ua ul uc ∧ Hid (GrowK B 63 2 encT held[i].v (.slice ua ul uc) (L i) (mkSource nn) k (wo.heap.size + 1) (wo.alloc (.cells #[.slice xa (L i).length xc, .slice ya yl yc, .int .i64 nn] 101)) wi)) (fun _ v5 _ => 40 - (intOf v5).toNat)
      case atStart => exact ⟨0, _, _, _, by omega, rfl, rfl, HST⟩
      case round =>
        obtain ⟨k, ua, ul, uc, hk, rfl, rfl, HG2⟩ := hrel
        have hbh := HG2.out.kept.bk (Bk.new wo #[.slice xa (L i).length xc, .slice ya yl yc, .int .i64 nn] 101) (by rintro (e | e); exact absurd (HG2.out.lt _ e) (by rw [HV.out] at e; have := (HEL.out.block _ e).2; omega); omega)
        have hh2 : wr.cell? ⟨wo.heap.size, 2, none⟩ = some (.int .i64 nn) := hbh.cell 2
        clear hbh
        have hszr : B ≤ wr.heap.size := Nat.le_trans hBr (Nat.le_trans (Nat.le_succ _) HG2.out.sz)
        by_cases hlt2 : k < 40
        · have hlen2 : (L i ++ List.replicate k (mkSource nn)).length = (L i).length + k := by simp
          go_wp2_with (first
            | (go_at_call 101; refine (markSource_any nn _ hn10).mono ?_; rintro e w2 ⟨rfl, hb2⟩; have HG3 := Lib.hid (HG2.out.next hb2); have hb2s := hb2.size)
            | (at_builtin; refine wpList_push2 rfl _ _ 22 rfl B 63 2 32 slsources encT encT_ok _ (L i ++ List.replicate k (mkSource nn)) rfl (HG3.out.own.alloc _) (mkSource nn) w2.heap.size rfl (by intro j u hj; match j, hj with | 0, hj => (simp [encT, mkSource] at hj; subst hj; simp) | 1, hj => (simp [encT, mkSource] at hj; subst hj; simp) | j + 2, hj => simp [encT, mkSource] at hj) (by omega) (by unfold maxLen; omega) (by simp; omega) ?_; intro v' w3 hown3 hg3 hcase))
          obtain ⟨va, vc, hv'⟩ := hown3.shape
          subst hv'
          have HG4 := Lib.hid ((HG3.out.next ((Below.refl _ _).alloc (Nat.le_refl _) _)).push encT_ok hown3 hg3 hcase)
          clear hcase hg3 hown3
          go_roundw
          case rel => exact ⟨k + 1, _, _, _, by omega, by go_num, rfl, HG4⟩
          case measure => simp [intOf]; omega
        · obtain rfl : k = 40 := by omega
          have hx' : (wo.heap.size + 1) ≤ wr.heap.size := HG2.out.sz
          have hkr : Kept (fun g => held[i].v.ownBlock = some g ∨ wo.heap.size + 1 ≤ g) wo wr := ((Kept.refl _ wo).alloc _).trans HG2.out.kept
          have hkbl := HBK.out.lt
          have hbk2 := hkr.bk HBK.out (by rintro (e | e); exact HS1.out ⟨i, hlt, e⟩; omega)
          have hc5 : wr.cell? ⟨kb, 6, none⟩ = some (.slice (some ⟨gl, 0, none⟩) held.length d0) := by rw [hbk2.cell]; exact HC1.out
          have hO2 := hkr.own HOR.out (by intro g hg; have e0 : gl = g := Option.some.inj hg; subst e0; rintro (e | e); exact HS2.out gl rfl ⟨i, hlt, e⟩; omega)
          have hc6 := hO2.cellAt encH_ok (List.getElem?_eq_getElem hlt') (j := 1) rfl
          have hf6 := hO2.freeAt (i * 3 + 1)
          rw [HX.out] at hc6
          simp only at hc6
          have HSTEP := Lib.hid (fun y hy => HG.out.step HE.out HA.out (by decide) hlt rfl (.cells #[.slice xa (L i).length xc, .slice ya yl yc, .int .i64 nn] 101) (ua := ua) (ul := ul) (uc := uc) (by rw [← HN.out]; exact HG2.out) y hy)
          clear hbk2 hO2 hkr
          go_wp2_with fail
          go_roundw
          case rel => exact ⟨i + 1, _, by omega, by go_num, HSTEP.out _ rfl⟩
          case measure => simp [intOf]; omega
    · obtain rfl : i = held.length := by omega
      go_wp2_with fail
      go_end0
      exact ⟨rfl, held', HG.out⟩
end Go.Proofs.YtfedkhicckgjaaaGreatDoor
