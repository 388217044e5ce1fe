/- binderylaw17.IndexSorted: entries are sorted, each term once; so are those under one; what an entry is told to see is sorted, each once. -/
import Derived.Test.YtohinfefidahlaaGreatDoorJoL
import Derived.Test.YtohinfefidahlaaGreatDoorJoM
import Derived.Test.YtohinfefidahlaaGreatDoorJoN
namespace Go.Proofs.YtohinfefidahlaaGreatDoor
set_option linter.unusedSimpArgs false
open Go.RowKit
set_option linter.unusedVariables false

theorem Own.cap_le {α : Type} {w : World} {B : Nat} {e : TypeId} {sz : Nat} {enc : α → List Value} {l : List α} {a : Option Addr} {n c : Nat} (h : Own w B e sz enc (.slice a n c) l) : n ≤ c := by
  rcases Nat.eq_zero_or_pos n with h0 | h0
  · omega
  · obtain ⟨g, _, _, _, h1⟩ := h.ptr h0; exact h1
theorem see_lt {l : List Bytes} (h1 : l.Pairwise (fun a b => a ≤ b)) (h2 : l.Nodup) {k : Nat} {s t : Bytes} (hs : l[k]? = some s) (ht : l[k + 1]? = some t) : s < t := by
  obtain ⟨g1, rfl⟩ := List.getElem?_eq_some_iff.1 hs
  obtain ⟨g2, rfl⟩ := List.getElem?_eq_some_iff.1 ht
  have h3 := (List.pairwise_iff_getElem.1 h1) k (k + 1) g1 g2 (by omega)
  have h4 := (List.pairwise_iff_getElem.1 h2) k (k + 1) g1 g2 (by omega)
  exact Std.lt_of_le_of_ne h3 h4
theorem ord_at {l : List En} (h : (l.map En.term).Pairwise (fun a b => nodeO a b < 0)) {i : Nat} {x y : En} (hx : l[i]? = some x) (hy : l[i + 1]? = some y) : nodeO x.term y.term < 0 := by
  obtain ⟨g1, rfl⟩ := List.getElem?_eq_some_iff.1 hx
  obtain ⟨g2, rfl⟩ := List.getElem?_eq_some_iff.1 hy
  have h3 := (List.pairwise_iff_getElem.1 h) i (i + 1) (by rw [List.length_map]; exact g1) (by rw [List.length_map]; exact g2) (by omega)
  simp only [List.getElem_map] at h3
  exact h3
theorem EnsOf.srt {s : IxS} {n : Nat} {l : List En} (h : EnsOf s l) (ok : IxOk s) (bd : IxBd s) (le : IxLe n s) (hn : n ≤ 400000) : SrtOk l := by
  have hterm : ∀ x ∈ l, (x.term, none) ∈ s.ps := fun x hx => mem_topT.1 (h.perm.mem_iff.1 (List.mem_map_of_mem hx))
  refine ⟨by have := h.len le; omega, fun x hx => bd.top _ (hterm x hx), fun x hx => ?_, fun i x y hx hy => ord_at (h.lt ok) hx hy, fun x hx k a b ha hb => see_lt (h.sorted x hx) ((h.see x hx).nodup_iff.2 (ok.seeN _)) ha hb⟩
  rw [(h.see x hx).length_eq]; have := le.see (x.term, none); omega
theorem SubOf.srt {s : IxS} {n : Nat} {t : Bytes} {l : List En} (h : SubOf s t l) (ok : IxOk s) (bd : IxBd s) (le : IxLe n s) (hn : n ≤ 400000) : SrtOk l := by
  have hterm : ∀ x ∈ l, (t, some x.term) ∈ s.ps := fun x hx => mem_subT.1 (h.perm.mem_iff.1 (List.mem_map_of_mem hx))
  refine ⟨?_, fun x hx => bd.sub _ (hterm x hx) _ rfl, fun x hx => ?_, fun i x y hx hy => ord_at (h.lt ok) hx hy, fun x hx k a b ha hb => see_lt (h.sorted x hx) ((h.see x hx).nodup_iff.2 (ok.seeN _)) ha hb⟩
  · have h4 := h.perm.length_eq
    rw [List.length_map] at h4
    have h5 : (subT s.ps t).length ≤ s.ps.length := List.length_filterMap_le _ _
    have := le.ps
    omega
  · rw [(h.see x hx).length_eq]; have := le.see (t, some x.term); omega
/-- what is known of the entries of chapters -/
structure LawSoOk (ul : List En) : Prop where
  srt : SrtOk ul
  sub : ∀ x ∈ ul, SrtOk x.ul
  leaf : ∀ x ∈ ul, ∀ y ∈ x.ul, y.ul = []
theorem lawSo_ok {l : List Ch} (hz : szM szCh l ≤ 20000) {pls : List Pl} {ul : List En} (h : EnsOf (ixOf (allBS pls l l.length).tl) ul) : LawSoOk ul := by
  have h1 := (allBS_len pls l l.length (Nat.le_refl _)).1
  have h2 := sumM_take_le szCh l l.length
  have h3 : sumM szCh l ≤ szM szCh l := by unfold szM; omega
  have hbd := ixOf_bd (allBS_bd pls hz l.length (Nat.le_refl _))
  have hle := ixOf_le (allBS pls l l.length).tl
  have hok := ixOf_ok (allBS pls l l.length).tl
  exact ⟨h.srt hok hbd hle (by omega), fun x hx => (h.under x hx).srt hok hbd hle (by omega), fun x hx y hy => (h.under x hx).under y hy⟩
set_option maxHeartbeats 16000000 in
set_option maxRecDepth 100000 in
theorem walk_so (l : List Ch) (a : Option Addr) (c : Nat) (w : World) (hA : ChsAt w a l) (hz : szM szCh l ≤ 1048576) (htab : HasTab w) :
    Calls Tryz.prog 4 #[.slice a l.length c] w fun e w' => e = .returned (.bool true) ∧ Below w.heap.size w w' := by
  have HT := Lib.hid htab
  have HG := Lib.hid (great17_any l a c w hA hz)
  have HA := Lib.hid hA
  have HPL : Hid (szM szCh l ≤ 20000 → ∀ W, Below w.heap.size w W → Calls Tryz.prog 17 #[.slice a l.length c] W (PlacesGives W l)) := fun h W hb => places_any l a c W (hA.keep hb) h (htab.below hb)
  have HBU : Hid (szM szCh l ≤ 20000 → ∀ W pa pc, Below w.heap.size w W → At W 6 encPl pa (totP l).pls → (totP l).pls.length ≤ pc → Calls Tryz.prog 18 #[.slice a l.length c, .slice pa (totP l).pls.length pc] W (BuildG W (totP l).pls l)) := fun h W pa pc hb hp hc => build_any l a c _ pa pc W (hA.keep hb) h hp hc (by have := totP_len h; omega) (totP_bd h) (htab.below hb)
  have HSO : Hid (szM szCh l ≤ 20000 → ∀ ul, EnsOf (ixOf (allBS (totP l).pls l l.length).tl) ul → LawSoOk ul) := fun h ul hu => lawSo_ok h hu
  clear hA hz htab
  go_enter Tryz.func4, Tryz.ntmps4
  go_wp2_with fail
  refine HG.out.mono ?_
  rintro e w1 ⟨⟨g, rfl, hg⟩, hb1⟩
  have HB1 := Lib.hid hb1
  clear HG hb1
  cases g
  · have HSZ := Lib.hid (hg rfl)
    clear hg
    go_wp2_with fail
    refine (HPL.out HSZ.out _ HB1.out).mono ?_
    rintro e w2 ⟨⟨v, dd, rfl, hp, hd⟩, hb2⟩
    have HB2 : Hid (Below w.heap.size w w2) := HB1.out.trans (hb2.mono HB1.out.size)
    obtain ⟨ap, cp, hv⟩ := hp.shape
    subst hv
    obtain ⟨ad, cd, hv2⟩ := hd.shape
    subst hv2
    have HPA := Lib.hid (hp.addr encPl_ok)
    have HPC := Lib.hid hp.cap_le
    clear hp hd hb2
    go_wp2_with fail
    refine (HBU.out HSZ.out _ _ _ HB2.out HPA.out HPC.out).mono ?_
    rintro e w3 ⟨⟨ea, ec, ul, ds, rfl, hE, hU, hD⟩, hb3⟩
    have HB3 : Hid (Below w.heap.size w w3) := HB2.out.trans (hb3.mono HB2.out.size)
    obtain ⟨ed, edc, hv3⟩ := hD.shape
    subst hv3
    have HSK := Lib.hid (HSO.out HSZ.out ul hU)
    have HE := Lib.hid hE
    generalize (diagsOf (allBS (totP l).pls l l.length)).length = nd at *
    generalize (totP l).pls.length = np at *
    generalize (totP l).dgs.length = ng at *
    clear hE hU hD hb3 HPA HPC HPL HBU HSO
    have HSE : Hid (∀ W, Below w3.heap.size w3 W → Calls Tryz.prog 19 #[.slice ea ul.length ec] W fun e w' => e = .returned (.bool true) ∧ Below W.heap.size W w') := fun W hb => sortedE_any ul ea ec _ W (HE.out.next hb) HSK.out.srt
    have HSU : Hid (∀ x ∈ ul, ∀ W, Below w3.heap.size w3 W → Calls Tryz.prog 19 #[.slice x.ua x.ul.length x.uc] W fun e w' => e = .returned (.bool true) ∧ Below W.heap.size W w') := fun x hx W hb => sortedE_any x.ul x.ua x.uc _ W (⟨((HE.out.2 x hx).next hb).uls, ((HE.out.2 x hx).next hb).kids⟩) (HSK.out.sub x hx)
    have hul : ul.length ≤ 1000000 := HSK.out.srt.len
    go_wp2_with fail
    refine (HSE.out _ (Below.refl _ _)).mono ?_
    rintro e w4 ⟨rfl, hb4⟩
    have HB4 := Lib.hid hb4
    clear hb4 HSE
    go_wp2_with fail
    go_loopw [7] (fun v7 wr => ∃ i : Nat, i ≤ ul.length ∧ v7 = .int .i64 i ∧ Hid (Below w3.heap.size w3 wr)) (fun v7 _ => ul.length - (intOf v7).toNat)
    case atStart => exact ⟨0, by omega, rfl, HB4.out⟩
    case round =>
      obtain ⟨i, hi, rfl, HB⟩ := hrel
      by_cases hlt : i < ul.length
      · obtain ⟨gb, goff, hga, hgl, hgc⟩ := ((HE.out.1.at_).below HB.out).elem hlt
        subst hga
        have hmem : ul[i] ∈ ul := List.getElem_mem hlt
        have HSX := Lib.hid (HSU.out _ hmem)
        have HLF := Lib.hid (HSK.out.leaf _ hmem)
        have HLL : Hid (ul[i].ul.length ≤ 1000000) := (HSK.out.sub _ hmem).len
        have HIN := Lib.hid (HE.out.2 _ hmem)
        have HCC : Hid (∀ W, Below w3.heap.size w3 W → W.cell? ⟨gb, goff + i * 4 + 3, none⟩ = some (.slice ul[i].ua ul[i].ul.length ul[i].uc)) := fun W hb => by
          obtain ⟨b', o', e', _, h'⟩ := ((HE.out.1.at_).below hb).elem hlt
          cases e'
          exact h' 3 _ rfl
        generalize ul[i] = x at *
        clear hgc hmem
        have hxl : x.ul.length ≤ 1000000 := HLL.out
        have c3 := HCC.out _ HB.out
        go_wp2_with fail
        refine (HSX.out _ HB.out).mono ?_
        rintro e w5 ⟨rfl, hb5⟩
        have HB5 : Hid (Below w3.heap.size w3 w5) := HB.out.trans (hb5.mono HB.out.size)
        clear hb5 c3
        go_wp2_with fail
        go_loopw [8] (fun v8 wr => ∃ k : Nat, k ≤ x.ul.length ∧ v8 = .int .i64 k ∧ Hid (Below w3.heap.size w3 wr)) (fun v8 _ => x.ul.length - (intOf v8).toNat)
        case atStart => exact ⟨0, by omega, rfl, HB5.out⟩
        case round =>
          obtain ⟨k, hk, rfl, HBX⟩ := hrel
          have c3 := HCC.out _ HBX.out
          by_cases hlk : k < x.ul.length
          · obtain ⟨sb, soff, hsa, hsl2, hsc⟩ := ((HIN.out.uls.at_).below HBX.out).elem hlk
            have d3 := hsc 3 _ rfl
            rw [HLF.out _ (List.getElem_mem hlk)] at d3
            generalize x.ul[k] = y at *
            rw [hsa] at c3
            clear hsc
            go_wp2_with fail
            go_roundw
            case rel => exact ⟨k + 1, by omega, by go_num, HBX.out⟩
            case measure => simp [intOf]; omega
          · obtain rfl : k = x.ul.length := by omega
            go_wp2_with fail
            go_roundw
            case rel => exact ⟨i + 1, by omega, by go_num, HBX.out⟩
            case measure => simp [intOf]; omega
      · obtain rfl : i = ul.length := by omega
        have HBF : Hid (Below w.heap.size w wr) := HB3.out.trans (HB.out.mono HB3.out.size)
        go_wp2_with (go_at_call 7; refine (lives17_any _ (HT.out.below HBF.out)).mono ?_; rintro e w9 ⟨rfl, hb9⟩; have HB9 : Hid (Below w.heap.size w w9) := HBF.out.trans (hb9.mono HBF.out.size))
        go_ret
        exact ⟨rfl, HB9.out⟩
  · go_wp2_with (go_at_call 7; refine (lives17_any _ (HT.out.below HB1.out)).mono ?_; rintro e w9 ⟨rfl, hb9⟩; have HB9 : Hid (Below w.heap.size w w9) := HB1.out.trans (hb9.mono HB1.out.size))
    go_ret
    exact ⟨rfl, HB9.out⟩
end Go.Proofs.YtohinfefidahlaaGreatDoor
