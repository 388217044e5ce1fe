/- binderylaw01.Book and lists of Locator: keep, fill, grow, look. binderylaw01.Book and lists of Locator: look. -/
import Derived.Test.YtohinfefidahlaaGreatDoorJpA
import Derived.Test.YtohinfefidahlaaGreatDoorJpF
import Derived.Test.YtohinfefidahlaaGreatDoorJoC
namespace Go.Proofs.YtohinfefidahlaaGreatDoor
open Go.RowKit
set_option linter.unusedVariables false
set_option linter.unusedSimpArgs false

def mkLocator (n : Nat) : L3 := ((wordB n, [], []) : L3)
theorem slheldLocator : SlTy Tryz.prog 48 175 3 56 := ⟨Tryz.underlying48, .agg #[.slice none 0 0, .slice none 0 0, .int .i64 0], by kernel_rfl, rfl, by decide⟩

theorem markLocator_any (n : Nat) (w : World) (hn : n < 1000000) (htab : HasTab w) : Calls Tryz.prog 118 #[.int .i64 n] w fun e w' => e = .returned (.agg #[.string ⟨(wordB n).toArray⟩, .string ⟨#[]⟩, .string ⟨#[]⟩]) ∧ Below w.heap.size w w' := by
  have HTB : Hid (∀ W, Below w.heap.size w W → HasTab W) := fun W hb => htab.below hb
  clear htab
  go_enter Tryz.func118, Tryz.ntmps118
  go_wp2_with fail
  refine calls_gen fun W hW => ?_
  have hw0 : Below w.heap.size w W := by subst hW; exact (Below.refl _ _).alloc (Nat.le_refl _) _
  have hz0 : Bk W w.heap.size [.string ⟨#[]⟩, .string ⟨#[]⟩, .string ⟨#[]⟩] 79 := by subst hW; exact Bk.new w #[.string ⟨#[]⟩, .string ⟨#[]⟩, .string ⟨#[]⟩] 79
  clear hW
  refine (word_any n W hn (HTB.out _ hw0)).mono ?_
  rintro e w2 ⟨rfl, hb2⟩
  have HZ := Lib.hid (hz0.next hb2)
  have z0 : w2.cell? ⟨w.heap.size, 0, none⟩ = some (.string ⟨#[]⟩) := HZ.out.cell 0
  have z1 : w2.cell? ⟨w.heap.size, 1, none⟩ = some (.string ⟨#[]⟩) := HZ.out.cell 1
  have z2 : w2.cell? ⟨w.heap.size, 2, none⟩ = some (.string ⟨#[]⟩) := HZ.out.cell 2
  have zf := fun i => HZ.out.free i
  have HB2 : Hid (Below w.heap.size w w2) := hw0.trans (hb2.mono hw0.size)
  clear hz0 hb2 hw0
  go_wp2_with fail
  refine bodyPost_ret (v := .agg #[.string ⟨(wordB n).toArray⟩, .string ⟨#[]⟩, .string ⟨#[]⟩]) ?_ rfl ?_
  · simp only [results, Tryz.results118]
    go_simp
  · exact ⟨rfl, (((HB2.out.setCell (by simp) _).setCell (by simp) _).setCell (by simp) _)⟩
theorem isLocator_any (n : Nat) (w : World) (hn : n < 1000000) (htab : HasTab w) : Calls Tryz.prog 135 #[.agg #[.string ⟨(wordB n).toArray⟩, .string ⟨#[]⟩, .string ⟨#[]⟩], .int .i64 n] w fun e w' => e = .returned (.bool true) ∧ Below w.heap.size w w' := by
  have HTB : Hid (∀ W, Below w.heap.size w W → HasTab W) := fun W hb => htab.below hb
  clear htab
  go_enter Tryz.func135, Tryz.ntmps135
  go_wp2_with fail
  refine wp_gen fun W0 hW0 => ?_
  have hw0 : Below w.heap.size w W0 := by subst hW0; exact (Below.refl _ _).alloc (Nat.le_refl _) _
  have x0 : W0.cell? ⟨w.heap.size, 0, none⟩ = some (.string ⟨(wordB n).toArray⟩) := by subst hW0; exact (Bk.new w #[.string ⟨(wordB n).toArray⟩, .string ⟨#[]⟩, .string ⟨#[]⟩] 79).cell 0
  have HW0 := Lib.hid hw0
  clear hW0 hw0
  go_region_held3 (fun w' => w'.cell? ⟨w.heap.size, 0, none⟩ = some (.string ⟨(wordB n).toArray⟩)) (first | exact x0 | go_keep) ((go_at_call 157; refine (word_any n _ hn (HTB.out _ (below_drewN HW0.out 1))).mono ?_; rintro e w2 ⟨rfl, hb2⟩; have HBX : Hid (Below W0.heap.size W0 w2) := (below_drewN (Below.refl _ _) 1).trans hb2; have x0 := bcellN HBX.out x0; clear hb2))
  all_goals
    go_wp2
    go_ret
    exact ⟨rfl, HW0.out.trans (HBX.out.mono HW0.out.size)⟩

set_option maxHeartbeats 4000000 in
set_option maxRecDepth 100000 in
theorem keepLocator_any (B kb N : Nat) (C : List Value) (hv : Value) (held : List HeldV) (a : Option Addr) (n c : Nat) (w : World) (hk : Bk w kb C 52) (hB : B ≤ kb) (hC : C.length = 18) (h0 : C[0]? = some (.int .i64 N)) (hN : N < 1000000) (h1 : C[15]? = some hv)
    (hO : Own w B 175 3 encH hv held) (hl : held.length < 1000000) :
    Calls Tryz.prog 102 #[.pointer (some ⟨kb, 0, none⟩), .slice a n c] w fun e w' => (∃ hv', e = .returned (.tuple #[]) ∧ Bk w' kb ((C.set 0 (.int .i64 ((N : Int) + 1))).set 15 hv') 52 ∧ Own w' B 175 3 encH hv' (held ++ [⟨a, n, c, none, 0, 0, N + 1⟩])) ∧ Kept (fun g => g = kb ∨ hv.ownBlock = some g) w w' := by
  have hBs : B ≤ w.heap.size := Nat.le_trans hB (Nat.le_of_lt hk.lt)
  have hne := hO.ne_bk hk (by decide)
  have c0 : w.cell? ⟨kb, 0, none⟩ = some (.int .i64 N) := by rw [hk.cell]; exact h0
  have c1 : w.cell? ⟨kb, 15, none⟩ = some hv := by rw [hk.cell]; exact h1
  have f0 := hk.free 0
  have f1 := hk.free 15
  obtain ⟨a0, d0, rfl⟩ := hO.shape
  have hklt := hk.lt
  have hk1 : Bk (w.setCell ⟨kb, 0, none⟩ (.int .i64 ((N : Int) + 1))) kb (C.set 0 (.int .i64 ((N : Int) + 1))) 52 := hk.set 0 _
  have hx0 : (C.set 0 (.int .i64 ((N : Int) + 1)))[0]? = some (.int .i64 ((N : Int) + 1)) := List.getElem?_set_self (by omega)
  have hx1 : (C.set 0 (.int .i64 ((N : Int) + 1)))[15]? = some (.slice a0 held.length d0) := by rw [List.getElem?_set_ne (by omega)]; exact h1
  have hkp : Kept (fun g => g = kb ∨ (Value.slice a0 held.length d0).ownBlock = some g) w (w.setCell ⟨kb, 0, none⟩ (.int .i64 ((N : Int) + 1))) := (Kept.refl _ w).setCell (.inl rfl) _
  have hO1 : Own (w.setCell ⟨kb, 0, none⟩ (.int .i64 ((N : Int) + 1))) B 175 3 encH (.slice a0 held.length d0) held := hO.kept fun k hk' => Below.heap_setCell _ _ _ _ (fun e => hne (by rw [hk', e]))
  have hs1 : (w.setCell ⟨kb, 0, none⟩ (.int .i64 ((N : Int) + 1))).heap.size = w.heap.size := by simp [World.setCell]
  have HK := Lib.hid hk
  have HO := Lib.hid hO
  have HO1 := Lib.hid hO1
  have HK1 := Lib.hid hk1
  have HKP := Lib.hid hkp
  have HN := Lib.hid hne
  have HX0 := Lib.hid hx0
  have HX1 := Lib.hid hx1
  have HS1 := Lib.hid hs1
  clear hk hO h0 h1 hne hO1 hk1 hkp hx0 hx1 hs1
  obtain ⟨i0, hi, hz0, hz1, hz2⟩ := info_parts (show (Tryz.prog.info? 175).map (fun i => (i.zero, i.size, i.bytes)) = some (some (.agg #[.slice none 0 0, .slice none 0 0, .int .i64 0]), 3, 56) by kernel_rfl)
  go_enter Tryz.func102, Tryz.ntmps102
  go_wp2_with fail
  generalize hw1 : w.setCell ⟨kb, 0, none⟩ (.int .i64 ((N : Int) + 1)) = w1 at *
  have HW1 := Lib.hid hw1
  clear hw1 c0 c1 f0 f1
  have d0' : w1.cell? ⟨kb, 0, none⟩ = some (.int .i64 ((N : Int) + 1)) := by rw [HK1.out.cell]; exact HX0.out
  have d1' : w1.cell? ⟨kb, 15, none⟩ = some (.slice a0 held.length d0) := by rw [HK1.out.cell]; exact HX1.out
  have g1 : w1.frozen? ⟨kb, 15, none⟩ = false := HK1.out.free _
  have hlt1 : kb < w1.heap.size := HK1.out.lt
  have hsz1 : w.heap.size ≤ w1.heap.size := Nat.le_of_eq HS1.out.symm
  go_region_law ((refine step_append_lies _ (by rfl) _ _ _ (by rfl) B 175 i0 _ 3 56 Tryz.underlying48 hi hz0 hz1 hz2 rfl (by omega) (.slice a0 held.length d0) held.length (held.flatMap encH) (by rfl) ((HO1.out.alloc _)) ⟨w1.heap.size, 0, none⟩ 1 1 [.slice a n c, .slice none 0 0, .int .i64 ((N : Int) + 1)] (by rfl) (by rfl) (World.news_of_block (cs := #[.slice a n c, .slice none 0 0, .int .i64 ((N : Int) + 1)]) (t := 175) (fr := (0, 0)) (heap_alloc_new w1 _)) (by simp [Value.oneCell']) (by omega) (by unfold maxLen; omega) (by omega) (by simp; omega) (w1.heap.size + 1) (by simp) ?_; intro gg cap w3 hown1 hgrow hat hlt; have hk3 := Bk.grown (HK1.out.alloc _).drew hgrow HN.out; have z1 := (hk3.cell 15).trans HX1.out; have z2 := hk3.free 15))
  all_goals
    go_wp2
    go_end0
    have hggk : gg ≠ kb := by
      rcases hat with h | h
      · intro e; rw [e] at h; exact HN.out h
      · omega
    have hKp3 := Kept.grown (w1 := (w1.alloc _).drew) ((HKP.out.alloc _).drewN 1) hgrow (fun g h => .inr h)
    refine ⟨⟨_, rfl, hk3.set 15 _, ?_⟩, hKp3.setCell (.inl rfl) _⟩
    have e1 : (held ++ [(⟨a, n, c, none, 0, 0, N + 1⟩ : HeldV)]).length = held.length + 1 := by simp
    refine Own.kept (w := w3) ?_ (fun k hk' => Below.heap_setCell _ _ _ _ (fun e => by cases hk'; exact hggk e))
    unfold Own
    rw [e1, List.flatMap_append]
    simpa [encH] using hown1

set_option maxHeartbeats 8000000 in
set_option maxRecDepth 100000 in
theorem fillLocator_any (B kb : Nat) (C : List Value) (hv : Value) (held : List HeldV) (L : Nat → List L3) (w : World) (hk : Bk w kb C 52) (h1 : C[15]? = some hv)
    (hO : Own w B 175 3 encH hv held) (hl : held.length < 1000000) (hE : Held w B 79 3 encL3 held L) (hA : HApart held) (hn : ∀ j (hj : j < held.length), held[j].n < 1000000) (hL : ∀ j, (L j).length ≤ 1048577) (htab : HasTab w) (hBt : 1 < B) :
    Calls Tryz.prog 44 #[.pointer (some ⟨kb, 0, none⟩)] w (Filled B 79 3 encL3 mkLocator held L w) := by
  obtain ⟨a0, d0, rfl⟩ := hO.shape
  have hS1 := hE.not_bk hk (by decide)
  have hS2 := hE.not_own hO (by decide)
  have HK := Lib.hid hk
  have HO := Lib.hid hO
  have HE := Lib.hid hE
  have HA := Lib.hid hA
  have HNN := Lib.hid hn
  have HLL := Lib.hid hL
  have HC1 := Lib.hid h1
  have HS1 := Lib.hid hS1
  have HS2 := Lib.hid hS2
  have HTW : Hid (∀ W, Kept (HS held) w W → HasTab W) := fun W hk => htab.keptB hk fun g hg => Nat.lt_of_lt_of_le hBt (hE.lt hg).1
  clear hk hO hE hA hn hL h1 hS1 hS2 htab
  go_enter Tryz.func44, Tryz.ntmps44
  go_wp2_with fail
  go_loopw [2] (fun v2 wr => ∃ i : Nat, i ≤ held.length ∧ v2 = .int .i64 i ∧ Hid (Held wr B 79 3 encL3 held (fillL i 0 mkLocator held L)) ∧ Hid (Kept (HS held) w wr)) (fun v2 _ => held.length - (intOf v2).toNat)
  case atStart => exact ⟨0, by omega, rfl, by unfold Hid; rw [show fillL 0 0 mkLocator held L = L from funext (fillL_start mkLocator held L)]; exact HE.out, Kept.refl _ _⟩
  case round =>
    obtain ⟨i, hi, rfl, HH, HKP⟩ := hrel
    have hbk := HKP.out.bk HK.out HS1.out
    have hc1 : wr.cell? ⟨kb, 15, none⟩ = some (.slice a0 held.length d0) := by rw [hbk.cell]; exact HC1.out
    clear hbk
    by_cases hlt : i < held.length
    · have hOr := HKP.out.own HO.out HS2.out
      obtain ⟨b, off, ha, hbl, hel⟩ := (hOr.addr encH_ok).elem hlt
      subst ha
      have hc2 := hel 0 _ rfl
      have hc3 := hel 1 _ rfl
      have hc4 := hel 2 _ rfl
      rw [Nat.add_zero] at hc2
      have hlen := HE.out.len i hlt
      have hn10 := HNN.out i hlt
      have hLi := HLL.out i
      have hfk := fun k => fillL_at mkLocator held L i k hlt
      obtain ⟨xa, xl, xc, ya, yl, yc, nn, hx⟩ : ∃ xa xl xc ya yl yc nn, held[i] = ⟨xa, xl, xc, ya, yl, yc, nn⟩ := ⟨_, _, _, _, _, _, _, rfl⟩
      rw [hx] at hc2 hc3 hc4 hlen hn10
      simp only at hc2 hc3 hc4 hlen hn10
      subst hlen
      have hval : held[i].v = .slice xa (L i).length xc := by rw [hx]; rfl
      have hnn : held[i].n = nn := by rw [hx]
      rw [hnn] at hfk
      have HV := Lib.hid hval
      have HFK := Lib.hid hfk
      clear hOr hel hx hfk hval hnn
      have hlt3 : (i : Int) < (held.length : Int) := by omega
      go_wp2_with fail
      obtain ⟨wo, hwo⟩ : ∃ wo : World, wo = wr := ⟨_, rfl⟩
      subst hwo
      have HBH := Lib.hid (Bk.new wo #[.slice xa (L i).length xc, .slice ya yl yc, .int .i64 nn] 175)
      have HK1 : Hid (Kept (HS held) wo (wo.alloc (.cells #[.slice xa (L i).length xc, .slice ya yl yc, .int .i64 nn] 175))) := (Kept.refl _ _).alloc _
      have HH1 : Hid (Held (wo.alloc (.cells #[.slice xa (L i).length xc, .slice ya yl yc, .int .i64 nn] 175)) B 79 3 encL3 held (fillL i 0 mkLocator held L)) := fun j hj => (HH.out j hj).alloc _
      go_loopw [4] (fun v4 wi => ∃ k : Nat, k ≤ (L i).length ∧ v4 = .int .i64 k ∧ Hid (Held wi B 79 3 encL3 held (fillL i k mkLocator held L)) ∧ Hid (Kept (HS held) wo wi) ∧ Hid (Bk wi wo.heap.size [.slice xa (L i).length xc, .slice ya yl yc, .int .i64 nn] 175)) (fun v4 _ => (L i).length - (intOf v4).toNat)
      case atStart => exact ⟨0, by omega, rfl, HH1, HK1, HBH⟩
      case round =>
        obtain ⟨k, hk, rfl, HH2, HK2, HB2⟩ := hrel
        have hh0 : wr.cell? ⟨wo.heap.size, 0, none⟩ = some (.slice xa (L i).length xc) := HB2.out.cell 0
        have hh2 : wr.cell? ⟨wo.heap.size, 2, none⟩ = some (.int .i64 nn) := HB2.out.cell 2
        have hhl := HB2.out.lt
        have HTH : Hid (∀ W : World, W.heap = wr.heap → HasTab W) := fun W e => (HTW.out wr (HKP.out.trans HK2.out)).heap e
        by_cases hlt2 : k < (L i).length
        · have hOi := HH2.out i hlt
          rw [HV.out, HFK.out] at hOi
          obtain ⟨g, rfl, hBg, hgl, hlc⟩ := hOi.ptr (by omega)
          have hgo : g < wo.heap.size := by
            have := (HH.out.lt (g := g) ⟨i, hlt, by rw [HV.out]; rfl⟩).2
            exact this
          obtain ⟨x, hxk⟩ : ∃ x, (over k (mkLocator nn) (L i))[k]? = some x := ⟨_, by rw [over_at _ _ _ hlt2, List.getElem?_eq_getElem hlt2]⟩
          have hgx : (over k (mkLocator nn) (L i))[k]'(by rw [over_len _ _ _ hk]; exact hlt2) = x := (List.getElem?_eq_some_iff.1 hxk).2
          have HOI := Lib.hid hOi
          have HXK := Lib.hid hxk
          clear hOi
          have hki : (0 : Int) ≤ (k : Int) := by omega
          have hki2 : (k : Int) < ((L i).length : Int) := by omega
          go_wp2_with fail
          go_region_held3 (fun w' => w'.cell? ⟨wo.heap.size, 0, none⟩ = some (.slice (some ⟨g, 0, none⟩) (L i).length xc) ∧ w'.cell? ⟨wo.heap.size, 2, none⟩ = some (.int .i64 nn))
            (first | (go_split_ands; exact ⟨HB3.out.cell 0, HB3.out.cell 2⟩) | (go_split_ands; exact ⟨(((HB3.out.set_other (Nat.ne_of_lt hgo) _ _).set_other (Nat.ne_of_lt hgo) _ _).set_other (Nat.ne_of_lt hgo) _ _).cell 0, (((HB3.out.set_other (Nat.ne_of_lt hgo) _ _).set_other (Nat.ne_of_lt hgo) _ _).set_other (Nat.ne_of_lt hgo) _ _).cell 2⟩) | go_keep)
            ((go_at_call 118; refine (markLocator_any nn _ hn10 (HTH.out _ (by rfl))).mono ?_; rintro e w2 ⟨rfl, hb2⟩; have HB3 := Lib.hid (HB2.out.next0 (by rfl) hb2); have HO2 := Lib.hid (HOI.out.next (by rfl) hb2); have z0 := HO2.out.cellAt encL3_ok HXK.out (j := 0) rfl; rw [Nat.add_zero] at z0; have z1 := HO2.out.cellAt encL3_ok HXK.out (j := 1) rfl; have z2 := HO2.out.cellAt encL3_ok HXK.out (j := 2) rfl; have y0 := HO2.out.freeAt (k * 3); have y1 := HO2.out.freeAt (k * 3 + 1); have y2 := HO2.out.freeAt (k * 3 + 2)))
          have HW0 := HO2.out.setAt encL3_ok (k := k) (by rw [over_len _ _ _ hk]; exact hlt2) (p := 0) (by decide) (.string ⟨(wordB nn).toArray⟩) (((wordB nn, x.2.1, x.2.2)) : L3) (by rw [hgx]; rfl)
          have HW1 := HW0.setAt encL3_ok (k := k) (by rw [List.length_set, over_len _ _ _ hk]; exact hlt2) (p := 1) (by decide) (.string ⟨#[]⟩) (((wordB nn, [], x.2.2)) : L3) (by rw [List.getElem_set_self]; rfl)
          have HW2 := HW1.setAt encL3_ok (k := k) (by rw [List.length_set, List.length_set, over_len _ _ _ hk]; exact hlt2) (p := 2) (by decide) (.string ⟨#[]⟩) (mkLocator nn) (by rw [List.getElem_set_self]; rfl)
          have HO4 := HW2
          rw [List.set_set, List.set_set, over_set _ _ _ hlt2] at HO4
          have hSg : HS held g := ⟨i, hlt, by rw [HV.out]; rfl⟩
          have HKF : Hid (Kept (HS held) wo ((((w2).setCell ⟨g, k * 3, none⟩ (.string ⟨(wordB nn).toArray⟩)).setCell ⟨g, k * 3 + 1, none⟩ (.string ⟨#[]⟩)).setCell ⟨g, k * 3 + 2, none⟩ (.string ⟨#[]⟩))) := (((((HK2.out.drewN 1).trans (Kept.of_below hb2)).setCell hSg _).setCell hSg _).setCell hSg _)
          have HHF : Hid (Held ((((w2).setCell ⟨g, k * 3, none⟩ (.string ⟨(wordB nn).toArray⟩)).setCell ⟨g, k * 3 + 1, none⟩ (.string ⟨#[]⟩)).setCell ⟨g, k * 3 + 2, none⟩ (.string ⟨#[]⟩)) B 79 3 encL3 held (fillL i (k + 1) mkLocator held L)) := by
            intro j hj
            by_cases hji : j = i
            · subst hji
              rw [HV.out, HFK.out]
              exact HO4
            · have hne : held[j].v.ownBlock ≠ some g := fun e => HA.out j i hj hlt hji g e (by rw [HV.out]; rfl)
              rw [fillL_other mkLocator held L (k := k + 1) (k' := k) hji]
              exact (((((HH2.out j hj).next (by rfl) hb2).set_other hne _ _).set_other hne _ _).set_other hne _ _)
          have HBF : Hid (Bk ((((w2).setCell ⟨g, k * 3, none⟩ (.string ⟨(wordB nn).toArray⟩)).setCell ⟨g, k * 3 + 1, none⟩ (.string ⟨#[]⟩)).setCell ⟨g, k * 3 + 2, none⟩ (.string ⟨#[]⟩)) wo.heap.size [.slice (some ⟨g, 0, none⟩) (L i).length xc, .slice ya yl yc, .int .i64 nn] 175) := (((HB3.out.set_other (Nat.ne_of_lt hgo) _ _).set_other (Nat.ne_of_lt hgo) _ _).set_other (Nat.ne_of_lt hgo) _ _)
          clear HO4 HW0 HW1 HW2
          go_wp2_with fail
          go_roundw
          case rel => exact ⟨k + 1, by omega, by go_num, HHF, HKF, HBF⟩
          case measure => simp [intOf]; omega
        · obtain rfl : k = (L i).length := by omega
          have HHF : Hid (Held wr B 79 3 encL3 held (fillL (i + 1) 0 mkLocator held L)) := fun j hj => by rw [← fillL_next mkLocator held L i j]; exact HH2.out j hj
          have HKF := Lib.hid (HKP.out.trans HK2.out)
          go_wp2_with fail
          go_roundw
          case rel => exact ⟨i + 1, by omega, by go_num, HHF, HKF⟩
          case measure => simp [intOf]; omega
    · obtain rfl : i = held.length := by omega
      go_wp2_with fail
      go_end0
      refine ⟨rfl, fun j hj => ?_, HKP.out⟩
      have h := HH.out j hj
      rw [fillL_end mkLocator held L held.length j hj hj] at h
      have e : (held[j]?.map (·.n)).getD 0 = held[j].n := by rw [List.getElem?_eq_getElem hj]; rfl
      rw [← e] at h
      exact h

set_option maxHeartbeats 8000000 in
set_option maxRecDepth 100000 in
theorem growLocator_any (B kb : Nat) (C : List Value) (hv : Value) (held : List HeldV) (L : Nat → List L3) (w : World) (hk : Bk w kb C 52) (hBw : B ≤ w.heap.size) (h1 : C[15]? = some hv)
    (hO : Own w B 175 3 encH hv held) (hl : held.length < 1000000) (hE : Held w B 79 3 encL3 held L) (hA : HApart held) (hn : ∀ j (hj : j < held.length), held[j].n < 1000000) (hL : ∀ j, (L j).length ≤ 1048577) (htab : HasTab w) (hBt : 1 < B) :
    Calls Tryz.prog 61 #[.pointer (some ⟨kb, 0, none⟩)] w (Grown B 79 175 3 encL3 mkLocator hv held L w) := by
  obtain ⟨a0, d0, rfl⟩ := hO.shape
  have hS1 := hE.not_bk hk (by decide)
  have hS2 := hE.not_own hO (by decide)
  have hS3 := hO.ne_bk hk (by decide)
  have HK := Lib.hid hk
  have HO := Lib.hid hO
  have HE := Lib.hid hE
  have HA := Lib.hid hA
  have HNN := Lib.hid hn
  have HLL := Lib.hid hL
  have HC1 := Lib.hid h1
  have HS1 := Lib.hid hS1
  have HS2 := Lib.hid hS2
  have HS3 := Lib.hid hS3
  have HTW : Hid (∀ W, Kept (fun g => B ≤ g) w W → HasTab W) := fun W hk => htab.keptB hk fun g hg => Nat.lt_of_lt_of_le hBt hg
  have HBL : Hid (∀ g, HS held g ∨ (Value.slice a0 held.length d0).ownBlock = some g → B ≤ g) := fun g hg => hg.elim (fun h => (hE.lt h).1) (fun h => (hO.block g h).1)
  clear hk hO hE hA hn hL h1 hS1 hS2 hS3 htab
  go_enter Tryz.func61, Tryz.ntmps61
  go_wp2_with fail
  go_loopw [2] (fun v2 wr => ∃ (i : Nat) (held' : List HeldV), i ≤ held.length ∧ v2 = .int .i64 i ∧ Hid (GrowI B 79 175 3 encL3 mkLocator (.slice a0 held.length d0) held L w i held' wr)) (fun v2 _ => held.length - (intOf v2).toNat)
  case atStart => exact ⟨0, held, by omega, rfl, GrowI.start HO.out HE.out⟩
  case round =>
    obtain ⟨i, held', hi, rfl, HG⟩ := hrel
    have hnkb : ¬ (HS held kb ∨ (Value.slice a0 held.length d0).ownBlock = some kb) := fun h => h.elim HS1.out HS3.out
    have hbk := HG.out.kept.bk HK.out hnkb
    have hc1 : wr.cell? ⟨kb, 15, none⟩ = some (.slice a0 held.length d0) := by rw [hbk.cell]; exact HC1.out
    have HBK := Lib.hid hbk
    clear hbk hnkb
    by_cases hlt : i < held.length
    · have hlt' : i < held'.length := by rw [HG.out.len]; exact hlt
      have hOr := HG.out.own
      have hBr : B ≤ wr.heap.size := Nat.le_trans hBw HG.out.kept.size
      obtain ⟨gl, hgl, hBg, hgll, hlc⟩ := hOr.ptr (by omega)
      subst hgl
      have hc2 := hOr.cellAt encH_ok (List.getElem?_eq_getElem hlt') (j := 0) rfl
      have hc3 := hOr.cellAt encH_ok (List.getElem?_eq_getElem hlt') (j := 1) rfl
      have hc4 := hOr.cellAt encH_ok (List.getElem?_eq_getElem hlt') (j := 2) rfl
      rw [Nat.add_zero] at hc2
      have hsame := HG.out.same i hlt hlt'
      have hel := HG.out.el i hlt
      have hn10 := HNN.out i hlt
      have hLi := HLL.out i
      obtain ⟨xa, xl, xc, ya, yl, yc, nn, hx⟩ : ∃ xa xl xc ya yl yc nn, held'[i] = ⟨xa, xl, xc, ya, yl, yc, nn⟩ := ⟨_, _, _, _, _, _, _, rfl⟩
      rw [hx] at hc2 hc3 hc4 hsame
      simp only [HeldV.v] at hc2 hc3 hc4 hsame
      obtain ⟨hsv, hsn⟩ := hsame
      have hsv' : held[i].v = .slice xa xl xc := hsv.symm
      rw [← hsn] at hn10
      rw [hsv'] at hel
      have hxl : xl = (L i).length := by
        obtain ⟨_, _, e⟩ := hel.shape
        injection e
      subst hxl
      have HEL := Lib.hid hel
      have HV := Lib.hid hsv'
      have HN := Lib.hid hsn
      have HX := Lib.hid hx
      have HOR := Lib.hid hOr
      clear hOr hel hx hsv hsv' hsn
      have hlt3 : (i : Int) < (held.length : Int) := by omega
      go_wp2_with fail
      obtain ⟨wo, hwo⟩ : ∃ wo : World, wo = wr := ⟨_, rfl⟩
      subst hwo
      have HST : Hid (GrowK B 79 3 encL3 held[i].v (.slice xa (L i).length xc) (L i) (mkLocator nn) 0 (wo.heap.size + 1) (wo.alloc (.cells #[.slice xa (L i).length xc, .slice ya yl yc, .int .i64 nn] 175)) (wo.alloc (.cells #[.slice xa (L i).length xc, .slice ya yl yc, .int .i64 nn] 175))) := by
        have h := GrowK.start (m := mkLocator nn) (S1 := wo.heap.size + 1) (HEL.out.alloc (.cells #[.slice xa (L i).length xc, .slice ya yl yc, .int .i64 nn] 175)) (fun g hg => Nat.lt_succ_of_lt (HEL.out.block g hg).2) (by simp)
        unfold Hid
        rw [HV.out]
        exact h
      go_loopw [4, 5] (fun v4 v5 wi => ∃ (k : Nat) (ua : Option Addr) (ul uc : Nat), k ≤ 40 ∧ v5 = .int .i64 k ∧ v4 = .slice ua ul uc ∧ Hid (GrowK B 79 3 encL3 held[i].v (.slice ua ul uc) (L i) (mkLocator nn) k (wo.heap.size + 1) (wo.alloc (.cells #[.slice xa (L i).length xc, .slice ya yl yc, .int .i64 nn] 175)) wi)) (fun _ v5 _ => 40 - (intOf v5).toNat)
      case atStart => exact ⟨0, _, _, _, by omega, rfl, rfl, HST⟩
      case round =>
        obtain ⟨k, ua, ul, uc, hk, rfl, rfl, HG2⟩ := hrel
        have hbh := HG2.out.kept.bk (Bk.new wo #[.slice xa (L i).length xc, .slice ya yl yc, .int .i64 nn] 175) (by rintro (e | e); exact absurd (HG2.out.lt _ e) (by rw [HV.out] at e; have := (HEL.out.block _ e).2; omega); omega)
        have hh2 : wr.cell? ⟨wo.heap.size, 2, none⟩ = some (.int .i64 nn) := hbh.cell 2
        clear hbh
        have hszr : B ≤ wr.heap.size := Nat.le_trans hBr (Nat.le_trans (Nat.le_succ _) HG2.out.sz)
        have HTH : Hid (HasTab wr) := HTW.out wr (((HG.out.kept.mono fun g hg => HBL.out g hg).alloc _).trans (HG2.out.kept.mono fun g hg => hg.elim (fun h => HBL.out g (.inl ⟨i, hlt, h⟩)) (fun h => by omega)))
        by_cases hlt2 : k < 40
        · have hlen2 : (L i ++ List.replicate k (mkLocator nn)).length = (L i).length + k := by simp
          go_wp2_with (first
            | (go_at_call 118; refine (markLocator_any nn _ hn10 HTH.out).mono ?_; rintro e w2 ⟨rfl, hb2⟩; have HG3 := Lib.hid (HG2.out.next hb2); have hb2s := hb2.size)
            | (at_builtin; refine wpList_push2 rfl _ _ 26 rfl B 79 3 48 slloc encL3 encL3_ok _ (L i ++ List.replicate k (mkLocator nn)) rfl (HG3.out.own.alloc _) (mkLocator nn) w2.heap.size rfl (by intro j u hj; match j, hj with | 0, hj => (simp [encL3, mkLocator] at hj; subst hj; simp) | 1, hj => (simp [encL3, mkLocator] at hj; subst hj; simp) | 2, hj => (simp [encL3, mkLocator] at hj; subst hj; simp) | j + 3, hj => simp [encL3, mkLocator] at hj) (by omega) (by unfold maxLen; omega) (by simp; omega) ?_; intro v' w3 hown3 hg3 hcase))
          obtain ⟨va, vc, hv'⟩ := hown3.shape
          subst hv'
          have HG4 := Lib.hid ((HG3.out.next ((Below.refl _ _).alloc (Nat.le_refl _) _)).push encL3_ok hown3 hg3 hcase)
          clear hcase hg3 hown3
          go_roundw
          case rel => exact ⟨k + 1, _, _, _, by omega, by go_num, rfl, HG4⟩
          case measure => simp [intOf]; omega
        · obtain rfl : k = 40 := by omega
          have hx' : (wo.heap.size + 1) ≤ wr.heap.size := HG2.out.sz
          have hkr : Kept (fun g => held[i].v.ownBlock = some g ∨ wo.heap.size + 1 ≤ g) wo wr := ((Kept.refl _ wo).alloc _).trans HG2.out.kept
          have hkbl := HBK.out.lt
          have hbk2 := hkr.bk HBK.out (by rintro (e | e); exact HS1.out ⟨i, hlt, e⟩; omega)
          have hc5 : wr.cell? ⟨kb, 15, none⟩ = some (.slice (some ⟨gl, 0, none⟩) held.length d0) := by rw [hbk2.cell]; exact HC1.out
          have hO2 := hkr.own HOR.out (by intro g hg; have e0 : gl = g := Option.some.inj hg; subst e0; rintro (e | e); exact HS2.out gl rfl ⟨i, hlt, e⟩; omega)
          have hc6 := hO2.cellAt encH_ok (List.getElem?_eq_getElem hlt') (j := 1) rfl
          have hf6 := hO2.freeAt (i * 3 + 1)
          rw [HX.out] at hc6
          simp only at hc6
          have HSTEP := Lib.hid (fun y hy => HG.out.step HE.out HA.out (by decide) hlt rfl (.cells #[.slice xa (L i).length xc, .slice ya yl yc, .int .i64 nn] 175) (ua := ua) (ul := ul) (uc := uc) (by rw [← HN.out]; exact HG2.out) y hy)
          clear hbk2 hO2 hkr
          go_wp2_with fail
          go_roundw
          case rel => exact ⟨i + 1, _, by omega, by go_num, HSTEP.out _ rfl⟩
          case measure => simp [intOf]; omega
    · obtain rfl : i = held.length := by omega
      go_wp2_with fail
      go_end0
      exact ⟨rfl, held', HG.out⟩
end Go.Proofs.YtohinfefidahlaaGreatDoor

namespace Go.Proofs.YtohinfefidahlaaGreatDoor
open Go.RowKit
set_option linter.unusedVariables false
set_option linter.unusedSimpArgs false

set_option maxHeartbeats 8000000 in
set_option maxRecDepth 100000 in
theorem lookLocator_any (B kb : Nat) (C : List Value) (hv : Value) (held : List HeldV) (N : Nat → Nat) (w : World) (hk : Bk w kb C 52) (h1 : C[15]? = some hv)
    (hO : Own w B 175 3 encH hv held) (hl : held.length < 1000000) (hE : ∀ j (hj : j < held.length), Own w B 79 3 encL3 held[j].v (List.replicate (N j) (mkLocator held[j].n)))
    (hG : ∀ j (hj : j < held.length), Own w B 79 3 encL3 held[j].long (List.replicate (N j + 40) (mkLocator held[j].n))) (hn : ∀ j (hj : j < held.length), held[j].n < 1000000) (hL : ∀ j, N j ≤ 1048577) (htab : HasTab w) :
    Calls Tryz.prog 78 #[.pointer (some ⟨kb, 0, none⟩)] w fun e w' => e = .returned (.bool true) ∧ Below w.heap.size w w' := by
  obtain ⟨a0, d0, rfl⟩ := hO.shape
  have HK := Lib.hid hk
  have HO := Lib.hid hO
  have HE := Lib.hid hE
  have HG := Lib.hid hG
  have HNN := Lib.hid hn
  have HLL := Lib.hid hL
  have HC1 := Lib.hid h1
  have HTB : Hid (∀ W, Below w.heap.size w W → HasTab W) := fun W hb => htab.below hb
  clear hk hO hE hG hn hL h1 htab
  go_enter Tryz.func78, Tryz.ntmps78
  go_wp2_with fail
  go_loopw [3] (fun v3 wr => ∃ i : Nat, i ≤ held.length ∧ v3 = .int .i64 i ∧ Below w.heap.size w wr) (fun v3 _ => held.length - (intOf v3).toNat)
  case atStart => exact ⟨0, by omega, rfl, Below.refl _ _⟩
  case round =>
    obtain ⟨i, hi, rfl, hb⟩ := hrel
    have hc1 : wr.cell? ⟨kb, 15, none⟩ = some (.slice a0 held.length d0) := by rw [(HK.out.next hb).cell]; exact HC1.out
    by_cases hlt : i < held.length
    · have hOr := HO.out.next (by rfl) hb
      obtain ⟨gl, hgl, hBg, hgll, hlc⟩ := hOr.ptr (by omega)
      subst hgl
      have hc2 := hOr.cellAt encH_ok (List.getElem?_eq_getElem hlt) (j := 0) rfl
      have hc3 := hOr.cellAt encH_ok (List.getElem?_eq_getElem hlt) (j := 1) rfl
      have hc4 := hOr.cellAt encH_ok (List.getElem?_eq_getElem hlt) (j := 2) rfl
      rw [Nat.add_zero] at hc2
      have hn10 := HNN.out i hlt
      have hLi := HLL.out i
      have hE1 := (HE.out i hlt).next (by rfl) hb
      have hG1 := (HG.out i hlt).next (by rfl) hb
      obtain ⟨xa, xl, xc, ya, yl, yc, nn, hx⟩ : ∃ xa xl xc ya yl yc nn, held[i] = ⟨xa, xl, xc, ya, yl, yc, nn⟩ := ⟨_, _, _, _, _, _, _, rfl⟩
      rw [hx] at hc2 hc3 hc4 hn10 hE1 hG1
      simp only [HeldV.v, HeldV.long] at hc2 hc3 hc4 hn10 hE1 hG1
      generalize N i = n at *
      have hxl : xl = n := by
        obtain ⟨_, _, e⟩ := hE1.shape
        injection e with _ e _
        rw [e]; simp
      have hyl : yl = n + 40 := by
        obtain ⟨_, _, e⟩ := hG1.shape
        injection e with _ e _
        rw [e]; simp
      subst hxl hyl
      have HE1 := Lib.hid hE1
      have HG1 := Lib.hid hG1
      clear hOr hx hE1 hG1
      have hlt3 : (i : Int) < (held.length : Int) := by omega
      obtain ⟨g2, hg2, _, hg2l, hg2c⟩ := HG1.out.ptr (by omega)
      subst hg2
      go_wp2_with fail
      obtain ⟨wo, hwo⟩ : ∃ wo : World, wo = wr := ⟨_, rfl⟩
      subst hwo
      have HST := Lib.hid (Below.refl (wo.alloc (.cells #[.slice xa xl xc, .slice (some ⟨g2, 0, none⟩) (xl + 40) yc, .int .i64 nn] 175)).heap.size (wo.alloc (.cells #[.slice xa xl xc, .slice (some ⟨g2, 0, none⟩) (xl + 40) yc, .int .i64 nn] 175)))
      go_loopw [5] (fun v5 wi => ∃ k : Nat, k ≤ xl + 40 ∧ v5 = .int .i64 k ∧ Hid (Below (wo.alloc (.cells #[.slice xa xl xc, .slice (some ⟨g2, 0, none⟩) (xl + 40) yc, .int .i64 nn] 175)).heap.size (wo.alloc (.cells #[.slice xa xl xc, .slice (some ⟨g2, 0, none⟩) (xl + 40) yc, .int .i64 nn] 175)) wi)) (fun v5 _ => xl + 40 - (intOf v5).toNat)
      case atStart => exact ⟨0, by omega, rfl, HST⟩
      case round =>
        obtain ⟨k, hk, rfl, HB⟩ := hrel
        have hbh := (Bk.new wo #[.slice xa xl xc, .slice (some ⟨g2, 0, none⟩) (xl + 40) yc, .int .i64 nn] 175).next HB.out
        have hh0 : wr.cell? ⟨wo.heap.size, 0, none⟩ = some (.slice xa xl xc) := hbh.cell 0
        have hh1 : wr.cell? ⟨wo.heap.size, 1, none⟩ = some (.slice (some ⟨g2, 0, none⟩) (xl + 40) yc) := hbh.cell 1
        have hh2 : wr.cell? ⟨wo.heap.size, 2, none⟩ = some (.int .i64 nn) := hbh.cell 2
        have hhl := hbh.lt
        have HTH : Hid (∀ W : World, W.heap = wr.heap → HasTab W) := fun W e => (HTB.out wr (hb.trans (((Below.refl _ _).alloc (Nat.le_refl _) _ |>.trans (HB.out.mono (by simp))).mono hb.size))).heap e
        have hG2 := (HG1.out.alloc (.cells #[.slice xa xl xc, .slice (some ⟨g2, 0, none⟩) (xl + 40) yc, .int .i64 nn] 175)).next (by rfl) HB.out
        have hE2 := (HE1.out.alloc (.cells #[.slice xa xl xc, .slice (some ⟨g2, 0, none⟩) (xl + 40) yc, .int .i64 nn] 175)).next (by rfl) HB.out
        have HG2 := Lib.hid hG2
        have HE2 := Lib.hid hE2
        clear hbh hG2 hE2
        by_cases hlt2 : k < xl + 40
        · have hkg : (List.replicate (xl + 40) (mkLocator nn))[k]? = some (mkLocator nn) := by rw [List.getElem?_replicate, if_pos hlt2]
          have HKG := Lib.hid hkg
          clear hkg
          have zg0 : wr.cell? ⟨g2, k * 3, none⟩ = some (.string ⟨(wordB nn).toArray⟩) := (HG2.out).cellAt encL3_ok HKG.out (j := 0) rfl
          have zg1 : wr.cell? ⟨g2, k * 3 + 1, none⟩ = some (.string ⟨#[]⟩) := (HG2.out).cellAt encL3_ok HKG.out (j := 1) rfl
          have zg2 : wr.cell? ⟨g2, k * 3 + 2, none⟩ = some (.string ⟨#[]⟩) := (HG2.out).cellAt encL3_ok HKG.out (j := 2) rfl
          have hki : (0 : Int) ≤ (k : Int) := by omega
          have hki2 : (k : Int) < (xl : Int) + 40 := by omega
          by_cases hlt4 : k < xl
          · obtain ⟨g1, hg1, _, hg1l, hg1c⟩ := HE2.out.ptr (by omega)
            subst hg1
            have hke : (List.replicate xl (mkLocator nn))[k]? = some (mkLocator nn) := by rw [List.getElem?_replicate, if_pos hlt4]
            have HKE := Lib.hid hke
            clear hke
            have ze0 : wr.cell? ⟨g1, k * 3, none⟩ = some (.string ⟨(wordB nn).toArray⟩) := (HE2.out).cellAt encL3_ok HKE.out (j := 0) rfl
            have ze1 : wr.cell? ⟨g1, k * 3 + 1, none⟩ = some (.string ⟨#[]⟩) := (HE2.out).cellAt encL3_ok HKE.out (j := 1) rfl
            have ze2 : wr.cell? ⟨g1, k * 3 + 2, none⟩ = some (.string ⟨#[]⟩) := (HE2.out).cellAt encL3_ok HKE.out (j := 2) rfl
            have hki3 : (k : Int) < (xl : Int) := by omega
            go_wp2_with fail
            refine wp_region_noPanic ?_
            refine wp_region_held_drew (S := (fun w' => w'.cell? ⟨wo.heap.size, 0, none⟩ = some (.slice (some ⟨g1, 0, none⟩) xl xc) ∧ w'.cell? ⟨wo.heap.size, 1, none⟩ = some (.slice (some ⟨g2, 0, none⟩) (xl + 40) yc) ∧ w'.cell? ⟨wo.heap.size, 2, none⟩ = some (.int .i64 nn) ∧ w'.cell? ⟨g2, k * 3, none⟩ = some (.string ⟨(wordB nn).toArray⟩) ∧ w'.cell? ⟨g2, k * 3 + 1, none⟩ = some (.string ⟨#[]⟩) ∧ w'.cell? ⟨g2, k * 3 + 2, none⟩ = some (.string ⟨#[]⟩) ∧ w'.cell? ⟨g1, k * 3, none⟩ = some (.string ⟨(wordB nn).toArray⟩) ∧ w'.cell? ⟨g1, k * 3 + 1, none⟩ = some (.string ⟨#[]⟩) ∧ w'.cell? ⟨g1, k * 3 + 2, none⟩ = some (.string ⟨#[]⟩))) (by kernel_rfl) ⟨hh0, hh1, hh2, zg0, zg1, zg2, ze0, ze1, ze2⟩ (fun hHeld => ?_)
            refine takeAt (i := 0) (v := ?_) rfl rfl (by kernel_rfl) (by kernel_rfl) (by kernel_rfl) (fun _ _ _ h => h) (Or.inl ⟨by rfl, ?_⟩) hHeld ?_
            rotate_left
            · intro w hSw
              obtain ⟨hs0, hs1, hs2, hs3, hs4, hs5, hs6, hs7, hs8⟩ := hSw
              go_simp
              first | done | (with_reducible rfl)
            try simp only [List.setIfInBounds_toArray, List.set_cons_zero, List.set_cons_succ]
            refine takeAt (i := 1) (v := ?_) rfl rfl (by kernel_rfl) (by kernel_rfl) (by kernel_rfl) (fun _ _ _ h => h) (Or.inl ⟨by rfl, ?_⟩) hHeld ?_
            rotate_left
            · intro w hSw
              obtain ⟨hs0, hs1, hs2, hs3, hs4, hs5, hs6, hs7, hs8⟩ := hSw
              go_simp
              first | done | (with_reducible rfl)
            try simp only [List.setIfInBounds_toArray, List.set_cons_zero, List.set_cons_succ]
            refine takeAt (i := 2) (v := ?_) rfl rfl (by kernel_rfl) (by kernel_rfl) (by kernel_rfl) (fun _ _ _ h => h) (Or.inl ⟨by rfl, ?_⟩) hHeld ?_
            rotate_left
            · intro w hSw
              obtain ⟨hs0, hs1, hs2, hs3, hs4, hs5, hs6, hs7, hs8⟩ := hSw
              go_simp
              first | done | (with_reducible rfl)
            try simp only [List.setIfInBounds_toArray, List.set_cons_zero, List.set_cons_succ]
            refine takeAt (i := 3) (v := ?_) rfl rfl (by kernel_rfl) (by kernel_rfl) (by kernel_rfl) (fun _ _ _ h => h) (Or.inl ⟨by rfl, ?_⟩) hHeld ?_
            rotate_left
            · intro w hSw
              obtain ⟨hs0, hs1, hs2, hs3, hs4, hs5, hs6, hs7, hs8⟩ := hSw
              go_simp
              first | done | (with_reducible rfl)
            try simp only [List.setIfInBounds_toArray, List.set_cons_zero, List.set_cons_succ]
            refine takeAt (i := 4) (v := ?_) rfl rfl (by kernel_rfl) (by kernel_rfl) (by kernel_rfl) (fun _ _ _ h => h) (Or.inl ⟨by rfl, ?_⟩) hHeld ?_
            rotate_left
            · intro w hSw
              obtain ⟨hs0, hs1, hs2, hs3, hs4, hs5, hs6, hs7, hs8⟩ := hSw
              go_simp
              first | done | (with_reducible rfl)
            try simp only [List.setIfInBounds_toArray, List.set_cons_zero, List.set_cons_succ]
            refine takeAt (i := 5) (v := ?_) rfl rfl (by kernel_rfl) (by kernel_rfl) (by kernel_rfl) (fun _ _ _ h => h) (Or.inl ⟨by rfl, ?_⟩) hHeld ?_
            rotate_left
            · intro w hSw
              obtain ⟨hs0, hs1, hs2, hs3, hs4, hs5, hs6, hs7, hs8⟩ := hSw
              go_simp
              first | done | (with_reducible rfl)
            try simp only [List.setIfInBounds_toArray, List.set_cons_zero, List.set_cons_succ]
            refine takeAt (i := 6) (v := ?_) rfl rfl (by kernel_rfl) (by kernel_rfl) (by kernel_rfl) (fun _ _ _ h => h) (Or.inl ⟨by rfl, ?_⟩) hHeld ?_
            rotate_left
            · intro w hSw
              obtain ⟨hs0, hs1, hs2, hs3, hs4, hs5, hs6, hs7, hs8⟩ := hSw
              go_simp
              first | done | (with_reducible rfl)
            try simp only [List.setIfInBounds_toArray, List.set_cons_zero, List.set_cons_succ]
            refine wpAnyH_ready (rs := [7]) (by kernel_rfl) (by simp) ?_
            refine AllReadyH.cons rfl (fun K hK => ?_) AllReadyH.nil
            go_simp
            go_at_call 135
            refine (isLocator_any nn _ hn10 (HTH.out _ (by rfl))).mono ?_
            rintro e w2 ⟨rfl, hb2⟩
            have HB0 : Hid (Below wr.heap.size wr w2) := (⟨hb2.os, hb2.tape, hb2.output, hb2.size, hb2.block⟩ : Below wr.heap.size wr w2)
            have HTH2 : Hid (∀ W : World, W.heap = w2.heap → HasTab W) := fun W e => ((HTH.out wr rfl).below HB0.out).heap e
            clear hb2
            go_wp2_with fail
            refine hK.out _ _ ⟨(HB0.out.cell (p := ⟨wo.heap.size, 0, none⟩) hhl).trans hh0, (HB0.out.cell (p := ⟨wo.heap.size, 1, none⟩) hhl).trans hh1, (HB0.out.cell (p := ⟨wo.heap.size, 2, none⟩) hhl).trans hh2, (HB0.out.cell (p := ⟨g2, k * 3, none⟩) (show g2 < wr.heap.size by omega)).trans zg0, (HB0.out.cell (p := ⟨g2, k * 3 + 1, none⟩) (show g2 < wr.heap.size by omega)).trans zg1, (HB0.out.cell (p := ⟨g2, k * 3 + 2, none⟩) (show g2 < wr.heap.size by omega)).trans zg2, (HB0.out.cell (p := ⟨g1, k * 3, none⟩) (show g1 < wr.heap.size by omega)).trans ze0, (HB0.out.cell (p := ⟨g1, k * 3 + 1, none⟩) (show g1 < wr.heap.size by omega)).trans ze1, (HB0.out.cell (p := ⟨g1, k * 3 + 2, none⟩) (show g1 < wr.heap.size by omega)).trans ze2⟩ (fun hHeld => ?_)
            clear hK K
            try simp only [List.setIfInBounds_toArray, List.set_cons_zero, List.set_cons_succ]
            refine takeAt (i := 8) (v := ?_) rfl rfl (by kernel_rfl) (by kernel_rfl) (by kernel_rfl) (fun _ _ _ h => h) (Or.inl ⟨by rfl, ?_⟩) hHeld ?_
            rotate_left
            · intro w hSw
              obtain ⟨hs0, hs1, hs2, hs3, hs4, hs5, hs6, hs7, hs8⟩ := hSw
              go_simp
              first | done | (with_reducible rfl)
            try simp only [List.setIfInBounds_toArray, List.set_cons_zero, List.set_cons_succ]
            refine takeAt (i := 9) (v := ?_) rfl rfl (by kernel_rfl) (by kernel_rfl) (by kernel_rfl) (fun _ _ _ h => h) (Or.inl ⟨by rfl, ?_⟩) hHeld ?_
            rotate_left
            · intro w hSw
              obtain ⟨hs0, hs1, hs2, hs3, hs4, hs5, hs6, hs7, hs8⟩ := hSw
              go_simp
              first | done | (with_reducible rfl)
            try simp only [List.setIfInBounds_toArray, List.set_cons_zero, List.set_cons_succ]
            refine takeAt (i := 10) (v := ?_) rfl rfl (by kernel_rfl) (by kernel_rfl) (by kernel_rfl) (fun _ _ _ h => h) (Or.inl ⟨by rfl, ?_⟩) hHeld ?_
            rotate_left
            · intro w hSw
              obtain ⟨hs0, hs1, hs2, hs3, hs4, hs5, hs6, hs7, hs8⟩ := hSw
              go_simp
              first | done | (with_reducible rfl)
            try simp only [List.setIfInBounds_toArray, List.set_cons_zero, List.set_cons_succ]
            refine takeAt (i := 11) (v := ?_) rfl rfl (by kernel_rfl) (by kernel_rfl) (by kernel_rfl) (fun _ _ _ h => h) (Or.inl ⟨by rfl, ?_⟩) hHeld ?_
            rotate_left
            · intro w hSw
              obtain ⟨hs0, hs1, hs2, hs3, hs4, hs5, hs6, hs7, hs8⟩ := hSw
              go_simp
              first | done | (with_reducible rfl)
            try simp only [List.setIfInBounds_toArray, List.set_cons_zero, List.set_cons_succ]
            refine takeAt (i := 12) (v := ?_) rfl rfl (by kernel_rfl) (by kernel_rfl) (by kernel_rfl) (fun _ _ _ h => h) (Or.inl ⟨by rfl, ?_⟩) hHeld ?_
            rotate_left
            · intro w hSw
              obtain ⟨hs0, hs1, hs2, hs3, hs4, hs5, hs6, hs7, hs8⟩ := hSw
              go_simp
              first | done | (with_reducible rfl)
            try simp only [List.setIfInBounds_toArray, List.set_cons_zero, List.set_cons_succ]
            refine takeAt (i := 13) (v := ?_) rfl rfl (by kernel_rfl) (by kernel_rfl) (by kernel_rfl) (fun _ _ _ h => h) (Or.inl ⟨by rfl, ?_⟩) hHeld ?_
            rotate_left
            · intro w hSw
              obtain ⟨hs0, hs1, hs2, hs3, hs4, hs5, hs6, hs7, hs8⟩ := hSw
              go_simp
              first | done | (with_reducible rfl)
            try simp only [List.setIfInBounds_toArray, List.set_cons_zero, List.set_cons_succ]
            refine takeAt (i := 14) (v := ?_) rfl rfl (by kernel_rfl) (by kernel_rfl) (by kernel_rfl) (fun _ _ _ h => h) (Or.inl ⟨by rfl, ?_⟩) hHeld ?_
            rotate_left
            · intro w hSw
              obtain ⟨hs0, hs1, hs2, hs3, hs4, hs5, hs6, hs7, hs8⟩ := hSw
              go_simp
              first | done | (with_reducible rfl)
            try simp only [List.setIfInBounds_toArray, List.set_cons_zero, List.set_cons_succ]
            refine takeAt (i := 15) (v := ?_) rfl rfl (by kernel_rfl) (by kernel_rfl) (by kernel_rfl) (fun _ _ _ h => h) (Or.inl ⟨by rfl, ?_⟩) hHeld ?_
            rotate_left
            · intro w hSw
              obtain ⟨hs0, hs1, hs2, hs3, hs4, hs5, hs6, hs7, hs8⟩ := hSw
              go_simp
              first | done | (with_reducible rfl)
            try simp only [List.setIfInBounds_toArray, List.set_cons_zero, List.set_cons_succ]
            refine takeAt (i := 16) (v := ?_) rfl rfl (by kernel_rfl) (by kernel_rfl) (by kernel_rfl) (fun _ _ _ h => h) (Or.inl ⟨by rfl, ?_⟩) hHeld ?_
            rotate_left
            · intro w hSw
              obtain ⟨hs0, hs1, hs2, hs3, hs4, hs5, hs6, hs7, hs8⟩ := hSw
              go_simp
              first | done | (with_reducible rfl)
            try simp only [List.setIfInBounds_toArray, List.set_cons_zero, List.set_cons_succ]
            refine takeAt (i := 17) (v := ?_) rfl rfl (by kernel_rfl) (by kernel_rfl) (by kernel_rfl) (fun _ _ _ h => h) (Or.inl ⟨by rfl, ?_⟩) hHeld ?_
            rotate_left
            · intro w hSw
              obtain ⟨hs0, hs1, hs2, hs3, hs4, hs5, hs6, hs7, hs8⟩ := hSw
              go_simp
              first | done | (with_reducible rfl)
            try simp only [List.setIfInBounds_toArray, List.set_cons_zero, List.set_cons_succ]
            refine takeAt (i := 18) (v := ?_) rfl rfl (by kernel_rfl) (by kernel_rfl) (by kernel_rfl) (fun _ _ _ h => h) (Or.inl ⟨by rfl, ?_⟩) hHeld ?_
            rotate_left
            · intro w hSw
              obtain ⟨hs0, hs1, hs2, hs3, hs4, hs5, hs6, hs7, hs8⟩ := hSw
              go_simp
              first | done | (with_reducible rfl)
            try simp only [List.setIfInBounds_toArray, List.set_cons_zero, List.set_cons_succ]
            refine takeAt (i := 19) (v := ?_) rfl rfl (by kernel_rfl) (by kernel_rfl) (by kernel_rfl) (fun _ _ _ h => h) (Or.inl ⟨by rfl, ?_⟩) hHeld ?_
            rotate_left
            · intro w hSw
              obtain ⟨hs0, hs1, hs2, hs3, hs4, hs5, hs6, hs7, hs8⟩ := hSw
              go_simp
              first | done | (with_reducible rfl)
            try simp only [List.setIfInBounds_toArray, List.set_cons_zero, List.set_cons_succ]
            refine takeAt (i := 20) (v := ?_) rfl rfl (by kernel_rfl) (by kernel_rfl) (by kernel_rfl) (fun _ _ _ h => h) (Or.inl ⟨by rfl, ?_⟩) hHeld ?_
            rotate_left
            · intro w hSw
              obtain ⟨hs0, hs1, hs2, hs3, hs4, hs5, hs6, hs7, hs8⟩ := hSw
              go_simp
              first | done | (with_reducible rfl)
            try simp only [List.setIfInBounds_toArray, List.set_cons_zero, List.set_cons_succ]
            refine takeAt (i := 21) (v := ?_) rfl rfl (by kernel_rfl) (by kernel_rfl) (by kernel_rfl) (fun _ _ _ h => h) (Or.inl ⟨by rfl, ?_⟩) hHeld ?_
            rotate_left
            · intro w hSw
              obtain ⟨hs0, hs1, hs2, hs3, hs4, hs5, hs6, hs7, hs8⟩ := hSw
              go_simp
              first | done | (with_reducible rfl)
            try simp only [List.setIfInBounds_toArray, List.set_cons_zero, List.set_cons_succ]
            refine takeAt (i := 22) (v := ?_) rfl rfl (by kernel_rfl) (by kernel_rfl) (by kernel_rfl) (fun _ _ _ h => h) (Or.inl ⟨by rfl, ?_⟩) hHeld ?_
            rotate_left
            · intro w hSw
              obtain ⟨hs0, hs1, hs2, hs3, hs4, hs5, hs6, hs7, hs8⟩ := hSw
              go_simp
              first | done | (with_reducible rfl)
            try simp only [List.setIfInBounds_toArray, List.set_cons_zero, List.set_cons_succ]
            refine wpAnyH_ready (rs := [23]) (by kernel_rfl) (by simp) ?_
            refine AllReadyH.cons rfl (fun K hK => ?_) AllReadyH.nil
            go_simp
            go_at_call 135
            refine (isLocator_any nn _ hn10 (HTH2.out _ (by rfl))).mono ?_
            rintro e w3 ⟨rfl, hb2⟩
            have HB1 : Hid (Below wr.heap.size wr w3) := (HB0.out.trans ((⟨hb2.os, hb2.tape, hb2.output, hb2.size, hb2.block⟩ : Below w2.heap.size w2 w3).mono HB0.out.size))
            clear hb2
            go_wp2_with fail
            refine hK.out _ _ ⟨(HB1.out.cell (p := ⟨wo.heap.size, 0, none⟩) hhl).trans hh0, (HB1.out.cell (p := ⟨wo.heap.size, 1, none⟩) hhl).trans hh1, (HB1.out.cell (p := ⟨wo.heap.size, 2, none⟩) hhl).trans hh2, (HB1.out.cell (p := ⟨g2, k * 3, none⟩) (show g2 < wr.heap.size by omega)).trans zg0, (HB1.out.cell (p := ⟨g2, k * 3 + 1, none⟩) (show g2 < wr.heap.size by omega)).trans zg1, (HB1.out.cell (p := ⟨g2, k * 3 + 2, none⟩) (show g2 < wr.heap.size by omega)).trans zg2, (HB1.out.cell (p := ⟨g1, k * 3, none⟩) (show g1 < wr.heap.size by omega)).trans ze0, (HB1.out.cell (p := ⟨g1, k * 3 + 1, none⟩) (show g1 < wr.heap.size by omega)).trans ze1, (HB1.out.cell (p := ⟨g1, k * 3 + 2, none⟩) (show g1 < wr.heap.size by omega)).trans ze2⟩ (fun hHeld => ?_)
            clear hK K
            try simp only [List.setIfInBounds_toArray, List.set_cons_zero, List.set_cons_succ]
            refine takeAt (i := 24) (v := ?_) rfl rfl (by kernel_rfl) (by kernel_rfl) (by kernel_rfl) (fun _ _ _ h => h) (Or.inl ⟨by rfl, ?_⟩) hHeld ?_
            rotate_left
            · intro w hSw
              obtain ⟨hs0, hs1, hs2, hs3, hs4, hs5, hs6, hs7, hs8⟩ := hSw
              go_simp
              first | done | (with_reducible rfl)
            try simp only [List.setIfInBounds_toArray, List.set_cons_zero, List.set_cons_succ]
            refine takeAt (i := 25) (v := ?_) rfl rfl (by kernel_rfl) (by kernel_rfl) (by kernel_rfl) (fun _ _ _ h => h) (Or.inl ⟨by rfl, ?_⟩) hHeld ?_
            rotate_left
            · intro w hSw
              obtain ⟨hs0, hs1, hs2, hs3, hs4, hs5, hs6, hs7, hs8⟩ := hSw
              go_simp
              first | done | (with_reducible rfl)
            try simp only [List.setIfInBounds_toArray, List.set_cons_zero, List.set_cons_succ]
            refine takeAt (i := 26) (v := ?_) rfl rfl (by kernel_rfl) (by kernel_rfl) (by kernel_rfl) (fun _ _ _ h => h) (Or.inl ⟨by rfl, ?_⟩) hHeld ?_
            rotate_left
            · intro w hSw
              obtain ⟨hs0, hs1, hs2, hs3, hs4, hs5, hs6, hs7, hs8⟩ := hSw
              go_simp
              first | done | (with_reducible rfl)
            try simp only [List.setIfInBounds_toArray, List.set_cons_zero, List.set_cons_succ]
            refine wpAnyH_done (by kernel_rfl) ?_ _
            refine NoPanic.normal ?_
            have HBF := Lib.hid (HB.out.trans (HB1.out.mono HB.out.size))
            go_wp2_with fail
            go_roundw
            case rel => exact ⟨k + 1, by omega, by go_num, HBF⟩
            case measure => simp [intOf]; omega
          · have hki3 : (xl : Int) ≤ (k : Int) := by omega
            have hki5 : decide ((k : Int) < (xl : Int)) = false := by simp; omega
            have hki6 : decide (k < xl) = false := by simp; omega
            go_wp2_with fail
            refine wp_region_noPanic ?_
            refine wp_region_held_drew (S := (fun w' => w'.cell? ⟨wo.heap.size, 0, none⟩ = some (.slice xa xl xc) ∧ w'.cell? ⟨wo.heap.size, 1, none⟩ = some (.slice (some ⟨g2, 0, none⟩) (xl + 40) yc) ∧ w'.cell? ⟨wo.heap.size, 2, none⟩ = some (.int .i64 nn) ∧ w'.cell? ⟨g2, k * 3, none⟩ = some (.string ⟨(wordB nn).toArray⟩) ∧ w'.cell? ⟨g2, k * 3 + 1, none⟩ = some (.string ⟨#[]⟩) ∧ w'.cell? ⟨g2, k * 3 + 2, none⟩ = some (.string ⟨#[]⟩))) (by kernel_rfl) ⟨hh0, hh1, hh2, zg0, zg1, zg2⟩ (fun hHeld => ?_)
            refine takeAt (i := 0) (v := ?_) rfl rfl (by kernel_rfl) (by kernel_rfl) (by kernel_rfl) (fun _ _ _ h => h) (Or.inl ⟨by rfl, ?_⟩) hHeld ?_
            rotate_left
            · intro w hSw
              obtain ⟨hs0, hs1, hs2, hs3, hs4, hs5⟩ := hSw
              go_simp
              first | done | (with_reducible rfl)
            try simp only [List.setIfInBounds_toArray, List.set_cons_zero, List.set_cons_succ]
            refine takeAt (i := 1) (v := ?_) rfl rfl (by kernel_rfl) (by kernel_rfl) (by kernel_rfl) (fun _ _ _ h => h) (Or.inl ⟨by rfl, ?_⟩) hHeld ?_
            rotate_left
            · intro w hSw
              obtain ⟨hs0, hs1, hs2, hs3, hs4, hs5⟩ := hSw
              go_simp
              first | done | (with_reducible rfl)
            try simp only [List.setIfInBounds_toArray, List.set_cons_zero, List.set_cons_succ]
            refine takeAt (i := 2) (v := ?_) rfl rfl (by kernel_rfl) (by kernel_rfl) (by kernel_rfl) (fun _ _ _ h => h) (Or.inl ⟨by rfl, ?_⟩) hHeld ?_
            rotate_left
            · intro w hSw
              obtain ⟨hs0, hs1, hs2, hs3, hs4, hs5⟩ := hSw
              go_simp
              first | done | (with_reducible rfl)
            try simp only [List.setIfInBounds_toArray, List.set_cons_zero, List.set_cons_succ]
            refine takeAt (i := 3) (v := ?_) rfl rfl (by kernel_rfl) (by kernel_rfl) (by kernel_rfl) (fun _ _ _ h => h) (Or.inl ⟨by rfl, ?_⟩) hHeld ?_
            rotate_left
            · intro w hSw
              obtain ⟨hs0, hs1, hs2, hs3, hs4, hs5⟩ := hSw
              go_simp
              first | done | (with_reducible rfl)
            try simp only [List.setIfInBounds_toArray, List.set_cons_zero, List.set_cons_succ]
            refine takeAt (i := 4) (v := ?_) rfl rfl (by kernel_rfl) (by kernel_rfl) (by kernel_rfl) (fun _ _ _ h => h) (Or.inl ⟨by rfl, ?_⟩) hHeld ?_
            rotate_left
            · intro w hSw
              obtain ⟨hs0, hs1, hs2, hs3, hs4, hs5⟩ := hSw
              go_simp
              first | done | (with_reducible rfl)
            try simp only [List.setIfInBounds_toArray, List.set_cons_zero, List.set_cons_succ]
            refine takeAt (i := 5) (v := ?_) rfl rfl (by kernel_rfl) (by kernel_rfl) (by kernel_rfl) (fun _ _ _ h => h) (Or.inl ⟨by rfl, ?_⟩) hHeld ?_
            rotate_left
            · intro w hSw
              obtain ⟨hs0, hs1, hs2, hs3, hs4, hs5⟩ := hSw
              go_simp
              first | done | (with_reducible rfl)
            try simp only [List.setIfInBounds_toArray, List.set_cons_zero, List.set_cons_succ]
            refine takeAt (i := 6) (v := ?_) rfl rfl (by kernel_rfl) (by kernel_rfl) (by kernel_rfl) (fun _ _ _ h => h) (Or.inl ⟨by rfl, ?_⟩) hHeld ?_
            rotate_left
            · intro w hSw
              obtain ⟨hs0, hs1, hs2, hs3, hs4, hs5⟩ := hSw
              go_simp
              first | done | (with_reducible rfl)
            try simp only [List.setIfInBounds_toArray, List.set_cons_zero, List.set_cons_succ]
            refine wpAnyH_ready (rs := [7]) (by kernel_rfl) (by simp) ?_
            refine AllReadyH.cons rfl (fun K hK => ?_) AllReadyH.nil
            go_simp
            go_at_call 135
            refine (isLocator_any nn _ hn10 (HTH.out _ (by rfl))).mono ?_
            rintro e w2 ⟨rfl, hb2⟩
            have HB0 : Hid (Below wr.heap.size wr w2) := (⟨hb2.os, hb2.tape, hb2.output, hb2.size, hb2.block⟩ : Below wr.heap.size wr w2)
            have HTH2 : Hid (∀ W : World, W.heap = w2.heap → HasTab W) := fun W e => ((HTH.out wr rfl).below HB0.out).heap e
            clear hb2
            go_wp2_with fail
            refine hK.out _ _ ⟨(HB0.out.cell (p := ⟨wo.heap.size, 0, none⟩) hhl).trans hh0, (HB0.out.cell (p := ⟨wo.heap.size, 1, none⟩) hhl).trans hh1, (HB0.out.cell (p := ⟨wo.heap.size, 2, none⟩) hhl).trans hh2, (HB0.out.cell (p := ⟨g2, k * 3, none⟩) (show g2 < wr.heap.size by omega)).trans zg0, (HB0.out.cell (p := ⟨g2, k * 3 + 1, none⟩) (show g2 < wr.heap.size by omega)).trans zg1, (HB0.out.cell (p := ⟨g2, k * 3 + 2, none⟩) (show g2 < wr.heap.size by omega)).trans zg2⟩ (fun hHeld => ?_)
            clear hK K
            try simp only [List.setIfInBounds_toArray, List.set_cons_zero, List.set_cons_succ]
            refine takeAt (i := 8) (v := ?_) rfl rfl (by kernel_rfl) (by kernel_rfl) (by kernel_rfl) (fun _ _ _ h => h) (Or.inl ⟨by rfl, ?_⟩) hHeld ?_
            rotate_left
            · intro w hSw
              obtain ⟨hs0, hs1, hs2, hs3, hs4, hs5⟩ := hSw
              go_simp
              first | done | (with_reducible rfl)
            try simp only [List.setIfInBounds_toArray, List.set_cons_zero, List.set_cons_succ]
            refine takeAt (i := 9) (v := ?_) rfl rfl (by kernel_rfl) (by kernel_rfl) (by kernel_rfl) (fun _ _ _ h => h) (Or.inl ⟨by rfl, ?_⟩) hHeld ?_
            rotate_left
            · intro w hSw
              obtain ⟨hs0, hs1, hs2, hs3, hs4, hs5⟩ := hSw
              go_simp
              first | done | (with_reducible rfl)
            try simp only [List.setIfInBounds_toArray, List.set_cons_zero, List.set_cons_succ]
            refine takeAt (i := 10) (v := ?_) rfl rfl (by kernel_rfl) (by kernel_rfl) (by kernel_rfl) (fun _ _ _ h => h) (Or.inl ⟨by rfl, ?_⟩) hHeld ?_
            rotate_left
            · intro w hSw
              obtain ⟨hs0, hs1, hs2, hs3, hs4, hs5⟩ := hSw
              go_simp
              first | done | (with_reducible rfl)
            try simp only [List.setIfInBounds_toArray, List.set_cons_zero, List.set_cons_succ]
            refine takeAt (i := 11) (v := ?_) rfl rfl (by kernel_rfl) (by kernel_rfl) (by kernel_rfl) (fun _ _ _ h => h) (Or.inl ⟨by rfl, ?_⟩) hHeld ?_
            rotate_left
            · intro w hSw
              obtain ⟨hs0, hs1, hs2, hs3, hs4, hs5⟩ := hSw
              go_simp
              first | done | (with_reducible rfl)
            try simp only [List.setIfInBounds_toArray, List.set_cons_zero, List.set_cons_succ]
            refine takeAt (i := 12) (v := ?_) rfl rfl (by kernel_rfl) (by kernel_rfl) (by kernel_rfl) (fun _ _ _ h => h) (Or.inl ⟨by rfl, ?_⟩) hHeld ?_
            rotate_left
            · intro w hSw
              obtain ⟨hs0, hs1, hs2, hs3, hs4, hs5⟩ := hSw
              go_simp
              first | done | (with_reducible rfl)
            try simp only [List.setIfInBounds_toArray, List.set_cons_zero, List.set_cons_succ]
            refine takeAt (i := 13) (v := ?_) rfl rfl (by kernel_rfl) (by kernel_rfl) (by kernel_rfl) (fun _ _ _ h => h) (Or.inl ⟨by rfl, ?_⟩) hHeld ?_
            rotate_left
            · intro w hSw
              obtain ⟨hs0, hs1, hs2, hs3, hs4, hs5⟩ := hSw
              go_simp
              first | done | (with_reducible rfl)
            try simp only [List.setIfInBounds_toArray, List.set_cons_zero, List.set_cons_succ]
            refine takeAt (i := 14) (v := ?_) rfl rfl (by kernel_rfl) (by kernel_rfl) (by kernel_rfl) (fun _ _ _ h => h) (Or.inl ⟨by rfl, ?_⟩) hHeld ?_
            rotate_left
            · intro w hSw
              obtain ⟨hs0, hs1, hs2, hs3, hs4, hs5⟩ := hSw
              go_simp
              first | done | (with_reducible rfl)
            try simp only [List.setIfInBounds_toArray, List.set_cons_zero, List.set_cons_succ]
            refine takeAt (i := 15) (v := ?_) rfl rfl (by kernel_rfl) (by kernel_rfl) (by kernel_rfl) (fun _ _ _ h => h) (Or.inl ⟨by rfl, ?_⟩) hHeld ?_
            rotate_left
            · intro w hSw
              obtain ⟨hs0, hs1, hs2, hs3, hs4, hs5⟩ := hSw
              go_simp
              first | done | (with_reducible rfl)
            try simp only [List.setIfInBounds_toArray, List.set_cons_zero, List.set_cons_succ]
            refine takeAt (i := 16) (v := undef) rfl rfl (by kernel_rfl) (by kernel_rfl) (by kernel_rfl) (fun _ _ _ h => h) (Or.inr ⟨by rfl, rfl⟩) hHeld ?_
            try simp only [List.setIfInBounds_toArray, List.set_cons_zero, List.set_cons_succ]
            refine takeAt (i := 17) (v := undef) rfl rfl (by kernel_rfl) (by kernel_rfl) (by kernel_rfl) (fun _ _ _ h => h) (Or.inr ⟨by rfl, rfl⟩) hHeld ?_
            try simp only [List.setIfInBounds_toArray, List.set_cons_zero, List.set_cons_succ]
            refine takeAt (i := 18) (v := undef) rfl rfl (by kernel_rfl) (by kernel_rfl) (by kernel_rfl) (fun _ _ _ h => h) (Or.inr ⟨by rfl, rfl⟩) hHeld ?_
            try simp only [List.setIfInBounds_toArray, List.set_cons_zero, List.set_cons_succ]
            refine takeAt (i := 19) (v := undef) rfl rfl (by kernel_rfl) (by kernel_rfl) (by kernel_rfl) (fun _ _ _ h => h) (Or.inr ⟨by rfl, rfl⟩) hHeld ?_
            try simp only [List.setIfInBounds_toArray, List.set_cons_zero, List.set_cons_succ]
            refine takeAt (i := 20) (v := undef) rfl rfl (by kernel_rfl) (by kernel_rfl) (by kernel_rfl) (fun _ _ _ h => h) (Or.inr ⟨by rfl, rfl⟩) hHeld ?_
            try simp only [List.setIfInBounds_toArray, List.set_cons_zero, List.set_cons_succ]
            refine takeAt (i := 21) (v := undef) rfl rfl (by kernel_rfl) (by kernel_rfl) (by kernel_rfl) (fun _ _ _ h => h) (Or.inr ⟨by rfl, rfl⟩) hHeld ?_
            try simp only [List.setIfInBounds_toArray, List.set_cons_zero, List.set_cons_succ]
            refine takeAt (i := 22) (v := undef) rfl rfl (by kernel_rfl) (by kernel_rfl) (by kernel_rfl) (fun _ _ _ h => h) (Or.inr ⟨by rfl, rfl⟩) hHeld ?_
            try simp only [List.setIfInBounds_toArray, List.set_cons_zero, List.set_cons_succ]
            refine takeAt (i := 23) (v := undef) rfl rfl (by kernel_rfl) (by kernel_rfl) (by kernel_rfl) (fun _ _ _ h => h) (Or.inr ⟨by rfl, rfl⟩) hHeld ?_
            try simp only [List.setIfInBounds_toArray, List.set_cons_zero, List.set_cons_succ]
            refine takeAt (i := 24) (v := undef) rfl rfl (by kernel_rfl) (by kernel_rfl) (by kernel_rfl) (fun _ _ _ h => h) (Or.inr ⟨by rfl, rfl⟩) hHeld ?_
            try simp only [List.setIfInBounds_toArray, List.set_cons_zero, List.set_cons_succ]
            refine takeAt (i := 25) (v := ?_) rfl rfl (by kernel_rfl) (by kernel_rfl) (by kernel_rfl) (fun _ _ _ h => h) (Or.inl ⟨by rfl, ?_⟩) hHeld ?_
            rotate_left
            · intro w hSw
              obtain ⟨hs0, hs1, hs2, hs3, hs4, hs5⟩ := hSw
              go_simp
              first | done | (with_reducible rfl)
            try simp only [List.setIfInBounds_toArray, List.set_cons_zero, List.set_cons_succ]
            refine takeAt (i := 26) (v := ?_) rfl rfl (by kernel_rfl) (by kernel_rfl) (by kernel_rfl) (fun _ _ _ h => h) (Or.inl ⟨by rfl, ?_⟩) hHeld ?_
            rotate_left
            · intro w hSw
              obtain ⟨hs0, hs1, hs2, hs3, hs4, hs5⟩ := hSw
              go_simp
              first | done | (with_reducible rfl)
            try simp only [List.setIfInBounds_toArray, List.set_cons_zero, List.set_cons_succ]
            refine wpAnyH_done (by kernel_rfl) ?_ _
            refine NoPanic.normal ?_
            have HBF := Lib.hid (HB.out.trans (HB0.out.mono HB.out.size))
            go_wp2_with fail
            go_roundw
            case rel => exact ⟨k + 1, by omega, by go_num, HBF⟩
            case measure => simp [intOf]; omega
        · obtain rfl : k = xl + 40 := by omega
          have HBF := Lib.hid (hb.trans (((Below.refl wo.heap.size wo).alloc (Nat.le_refl _) _).trans (HB.out.mono (by simp)) |>.mono hb.size))
          go_wp2_with fail
          go_roundw
          case rel => exact ⟨i + 1, by omega, by go_num, HBF.out⟩
          case measure => simp [intOf]; omega
    · obtain rfl : i = held.length := by omega
      go_wp2_with fail
      go_ret
      exact ⟨rfl, hb⟩
end Go.Proofs.YtohinfefidahlaaGreatDoor
