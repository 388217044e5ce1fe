/- Slices of texts: are two of them alike? binderylaw01.SameTexts Are two entries the same? Is a copy as it was? binderylaw01.SameEntries, LeftEntries. Is a copy of entries as it was? binderylaw01.LeftEntries. -/
import Derived.Test.YtohinfefidahlaaGreatDoorJoA
import Derived.Test.YtohinfefidahlaaGreatDoorJpF
import Derived.Test.YtohinfefidahlaaGreatDoorJpG
namespace Go.Proofs.YtohinfefidahlaaGreatDoor
open Go.RowKit

/-- a slice of the call's own, laid open -/
theorem Own.open {α : Type} {w : World} {B : Nat} {e : TypeId} {sz : Nat} {enc : α → List Value} {v : Value} {l : List α} (h : Own w B e sz enc v l) (he : Enc sz enc) :
    ∃ a cap, v = .slice a l.length cap ∧ At w sz enc a l ∧ l.length ≤ cap := by
  obtain ⟨a, cap, hv, hA⟩ := h.reads he
  refine ⟨a, cap, hv, hA, ?_⟩
  rcases h.2 with ⟨h1, h2⟩ | ⟨g, cap', cur, h1, _, _, h2, _⟩
  · rw [hv] at h1
    injection h1 with _ h3 _
    omega
  · rw [hv] at h1
    injection h1 with _ h3 h4
    omega

set_option maxHeartbeats 2000000 in
theorem sameTexts_any (a1 : Option Addr) (c1 : Nat) (a2 : Option Addr) (c2 : Nat) (l : List Bytes) (w : World) (hn : l.length ≤ 1048576) (hT : At w 1 encS a1 l) (hA : At w 1 encS a2 l) :
    Calls Tryz.prog 24 #[.slice a1 l.length c1, .slice a2 l.length c2] w fun e w' => e = .returned (.bool true) ∧ Below w.heap.size w w' := by
  have HA := Lib.hid hA
  have HT := Lib.hid hT
  clear hA hT
  go_enter Tryz.func24, Tryz.ntmps24
  go_wp2_with fail
  go_loopw [5] (fun v5 wr => ∃ k : Nat, k ≤ l.length ∧ v5 = .int .i64 k ∧ Below w.heap.size w wr) (fun v5 _ => l.length - (intOf v5).toNat)
  case atStart => exact ⟨0, by omega, rfl, Below.refl _ _⟩
  case round =>
    obtain ⟨k, hk, rfl, hb⟩ := hrel
    by_cases hlt : k < l.length
    · obtain ⟨b, off, ha, hbl, hc0⟩ := (HA.out.below hb).str hlt
      obtain ⟨b', off', ha', hbl', hd0⟩ := (HT.out.below hb).str hlt
      subst ha'
      subst ha
      go_wp2_with fail
      go_quiet (fail)
      go_wp2
      go_roundw
      case rel => exact ⟨k + 1, by omega, by go_num, below_drewN hb _⟩
      case measure => simp [intOf]; omega
    · go_wp2_with fail
      go_ret
      exact ⟨rfl, hb⟩
end Go.Proofs.YtohinfefidahlaaGreatDoor

namespace Go.Proofs.YtohinfefidahlaaGreatDoor
open Go.RowKit
set_option linter.unusedVariables false
set_option linter.unusedSimpArgs false

def TrueG (w : World) (e : Ending) (w' : World) : Prop := e = .returned (.bool true) ∧ Below w.heap.size w w'
set_option maxHeartbeats 4000000 in
set_option maxRecDepth 100000 in
/-- two entries, where those under them are the same -/
theorem sameE_of (t : Bytes) (al : List LoK) (sl : List Bytes) (aa : Option Addr) (ac : Nat) (sa : Option Addr) (sc : Nat) (ua : Option Addr) (uc : Nat) (un : Nat) (aa' : Option Addr) (ac' : Nat) (sa' : Option Addr) (sc' : Nat) (ua' : Option Addr) (uc' : Nat) (un' : Nat) (w : World) (hal : al.length ≤ 1000000) (hsl : sl.length ≤ 1000000)
    (h1 : At w 3 encLo aa al) (h2 : At w 1 encS sa sl) (h3 : At w 3 encLo aa' al) (h4 : At w 1 encS sa' sl) (hrec : ∀ W, Below w.heap.size w W → Calls Tryz.prog 25 #[.slice ua un uc, .slice ua' un' uc'] W (TrueG W)) :
    Calls Tryz.prog 11 #[.agg #[.string ⟨t.toArray⟩, .slice aa al.length ac, .slice sa sl.length sc, .slice ua un uc], .agg #[.string ⟨t.toArray⟩, .slice aa' al.length ac', .slice sa' sl.length sc', .slice ua' un' uc']] w (TrueG w) := by
  have H1 := Lib.hid h1
  have H2 := Lib.hid h2
  have H3 := Lib.hid h3
  have H4 := Lib.hid h4
  have HR := Lib.hid hrec
  clear h1 h2 h3 h4 hrec
  have HW : Hid (Below w.heap.size w ((w.alloc (.cells #[.string ⟨t.toArray⟩, .slice aa al.length ac, .slice sa sl.length sc, .slice ua un uc] 29)).alloc (.cells #[.string ⟨t.toArray⟩, .slice aa' al.length ac', .slice sa' sl.length sc', .slice ua' un' uc'] 29))) := ((Below.refl _ _).alloc (Nat.le_refl _) _).alloc (by simp) _
  have HX := Lib.hid ((Bk.new w #[.string ⟨t.toArray⟩, .slice aa al.length ac, .slice sa sl.length sc, .slice ua un uc] 29).alloc (.cells #[.string ⟨t.toArray⟩, .slice aa' al.length ac', .slice sa' sl.length sc', .slice ua' un' uc'] 29))
  have hy := Bk.new (w.alloc (.cells #[.string ⟨t.toArray⟩, .slice aa al.length ac, .slice sa sl.length sc, .slice ua un uc] 29)) #[.string ⟨t.toArray⟩, .slice aa' al.length ac', .slice sa' sl.length sc', .slice ua' un' uc'] 29
  simp only [World.size_alloc] at hy
  have HY := Lib.hid hy
  clear hy
  go_enter Tryz.func11, Tryz.ntmps11
  go_wp2_with fail
  refine (sameLocators_any aa ac aa' ac' al _ (by omega) (H1.out.below HW.out) (H3.out.below HW.out)).mono ?_
  rintro e w2 ⟨rfl, hb2⟩
  have HB2 : Hid (Below w.heap.size w w2) := HW.out.trans (hb2.mono HW.out.size)
  have HX2 := Lib.hid (HX.out.next hb2)
  have HY2 := Lib.hid (HY.out.next hb2)
  have x2 := HX2.out.cell 2
  have y2 := HY2.out.cell 2
  change w2.cell? ⟨w.heap.size, 2, none⟩ = some (.slice sa sl.length sc) at x2
  change w2.cell? ⟨w.heap.size + 1, 2, none⟩ = some (.slice sa' sl.length sc') at y2
  clear hb2
  go_wp2_with fail
  refine (sameTexts_any sa sc sa' sc' sl _ (by omega) (H2.out.below HB2.out) (H4.out.below HB2.out)).mono ?_
  rintro e w3 ⟨rfl, hb3⟩
  have HB3 : Hid (Below w.heap.size w w3) := HB2.out.trans (hb3.mono HB2.out.size)
  have x3 := (HX2.out.next hb3).cell 3
  have y3 := (HY2.out.next hb3).cell 3
  change w3.cell? ⟨w.heap.size, 3, none⟩ = some (.slice ua un uc) at x3
  change w3.cell? ⟨w.heap.size + 1, 3, none⟩ = some (.slice ua' un' uc') at y3
  clear hb3 x2 y2
  go_wp2_with fail
  refine (HR.out _ HB3.out).mono ?_
  rintro e w4 ⟨rfl, hb4⟩
  have HB4 : Hid (Below w.heap.size w w4) := HB3.out.trans (hb4.mono HB3.out.size)
  clear hb4
  go_wp2_with fail
  go_ret
  exact ⟨rfl, HB4.out⟩
set_option maxHeartbeats 4000000 in
set_option maxRecDepth 100000 in
theorem sameEns_n (n : Nat) : ∀ (l m : List En), nEs l ≤ n → ∀ (N N' : Nat → Prop) (a : Option Addr) (c : Nat) (a' : Option Addr) (c' : Nat) (w : World), EnsAt N w a l → EnsAt N' w a' m → SameL l m → (∀ x ∈ l, EnSm x) → l.length ≤ 1000000 →
    Calls Tryz.prog 25 #[.slice a l.length c, .slice a' m.length c'] w (TrueG w) := by
  induction n using Nat.strongRecOn with
  | _ n ih =>
  intro l m hd N N' a c a' c' w hA hA' hS hsm hll
  have HA := Lib.hid hA
  have HA' := Lib.hid hA'
  have hlm := hS.1
  rw [← hlm]
  have HLM := Lib.hid hlm
  clear hlm
  have HREC : Hid (∀ (k : Nat) (x y : En), l[k]? = some x → m[k]? = some y → ∀ W, Below w.heap.size w W → Calls Tryz.prog 11 #[aggE x, aggE y] W (TrueG W)) := fun k x y hx hy W hb => by
    have hxm := List.mem_of_getElem? hx
    have hym := List.mem_of_getElem? hy
    have hsxy := hS.2 k x y hx hy
    have hix := (hA.2 x hxm).next hb
    have hiy := (hA'.2 y hym).next hb
    have hsx := hsm x hxm
    have hlt := nEs_mem hxm
    have hs := hsxy.ul
    clear hA hA' hS hsm hx hy hxm hym
    obtain ⟨t, aa, ac, al, sa, sc, sl, ua, uc, ul⟩ := x
    cases hsxy with
    | @mk _ _ _ _ _ _ _ _ _ _ aa' ac' sa' sc' ua' uc' ul' g1 g2 =>
      rw [nE] at hlt
      refine sameE_of t al sl aa ac sa sc ua uc ul.length aa' ac' sa' sc' ua' uc' ul'.length W (by cases hsx; assumption) (by cases hsx; assumption) hix.als.at_ hix.sls.at_ hiy.als.at_ hiy.sls.at_ fun W2 hb2 => ?_
      have h1 := hix.next hb2
      have h2 := hiy.next hb2
      exact ih (nEs ul) (by omega) ul ul' (Nat.le_refl _) N N' ua uc ua' uc' W2 ⟨h1.uls, h1.kids⟩ ⟨h2.uls, h2.kids⟩ hs hsx.kids (by cases hsx; assumption)
  clear hA hA' hS hsm ih
  go_enter Tryz.func25, Tryz.ntmps25
  go_wp2_with fail
  go_loopw [5] (fun v5 wr => ∃ k : Nat, k ≤ l.length ∧ v5 = .int .i64 k ∧ Hid (Below w.heap.size w wr)) (fun v5 _ => l.length - (intOf v5).toNat)
  case atStart => exact ⟨0, by omega, rfl, Below.refl _ _⟩
  case round =>
    obtain ⟨k, hk, rfl, HB⟩ := hrel
    by_cases hlt : k < l.length
    · have hlt' : k < m.length := HLM.out ▸ hlt
      obtain ⟨b, off, ha, hbl, hc⟩ := (HA.out.1.at_.below HB.out).elem hlt
      obtain ⟨b', off', ha', hbl', hd'⟩ := (HA'.out.1.at_.below HB.out).elem hlt'
      subst ha
      subst ha'
      have d0 := hc 0 _ rfl
      have d1 := hc 1 _ rfl
      have d2 := hc 2 _ rfl
      have d3 := hc 3 _ rfl
      have e0 := hd' 0 _ rfl
      have e1 := hd' 1 _ rfl
      have e2 := hd' 2 _ rfl
      have e3 := hd' 3 _ rfl
      rw [Nat.add_zero] at d0 e0
      have HC := Lib.hid (HREC.out k l[k] m[k] (List.getElem?_eq_getElem hlt) (List.getElem?_eq_getElem hlt'))
      generalize l[k] = x at *
      generalize m[k] = y at *
      unfold aggE at HC
      clear hc hd'
      go_wp2_with fail
      go_region_held3 (fun w' => w'.cell? ⟨b, off + k * 4, none⟩ = some (.string ⟨x.term.toArray⟩) ∧ w'.cell? ⟨b, off + k * 4 + 1, none⟩ = some (.slice x.aa x.al.length x.ac) ∧ w'.cell? ⟨b, off + k * 4 + 2, none⟩ = some (.slice x.sa x.sl.length x.sc) ∧ w'.cell? ⟨b, off + k * 4 + 3, none⟩ = some (.slice x.ua x.ul.length x.uc) ∧ w'.cell? ⟨b', off' + k * 4, none⟩ = some (.string ⟨y.term.toArray⟩) ∧ w'.cell? ⟨b', off' + k * 4 + 1, none⟩ = some (.slice y.aa y.al.length y.ac) ∧ w'.cell? ⟨b', off' + k * 4 + 2, none⟩ = some (.slice y.sa y.sl.length y.sc) ∧ w'.cell? ⟨b', off' + k * 4 + 3, none⟩ = some (.slice y.ua y.ul.length y.uc)) (first | exact ⟨d0, d1, d2, d3, e0, e1, e2, e3⟩ | go_keep) ((go_at_call 11; refine (HC.out _ (below_drewN HB.out 1)).mono ?_; rintro e w2 ⟨rfl, hb2⟩; have HB2 : Hid (Below w.heap.size w w2) := (below_drewN HB.out 1).trans (hb2.mono HB.out.size); have HBX : Hid (Below wr.heap.size wr w2) := (below_drewN (Below.refl _ _) 1).trans hb2; have d0 := bcellN HBX.out d0; have d1 := bcellN HBX.out d1; have d2 := bcellN HBX.out d2; have d3 := bcellN HBX.out d3; have e0 := bcellN HBX.out e0; have e1 := bcellN HBX.out e1; have e2 := bcellN HBX.out e2; have e3 := bcellN HBX.out e3; clear hb2))
      go_wp2_with fail
      go_roundw
      case rel => exact ⟨k + 1, by omega, by go_num, HB2.out⟩
      case measure => simp [intOf]; omega
    · obtain rfl : k = l.length := by omega
      go_wp2_with fail
      go_ret
      exact ⟨rfl, HB.out⟩
theorem sameEns_any (l m : List En) (N N' : Nat → Prop) (a : Option Addr) (c : Nat) (a' : Option Addr) (c' : Nat) (w : World) (hA : EnsAt N w a l) (hA' : EnsAt N' w a' m) (hS : SameL l m) (hsm : ∀ x ∈ l, EnSm x) (hll : l.length ≤ 1000000) :
    Calls Tryz.prog 25 #[.slice a l.length c, .slice a' m.length c'] w (TrueG w) := sameEns_n _ l m (Nat.le_refl _) N N' a c a' c' w hA hA' hS hsm hll
theorem sameEn_any (x y : En) (N N' : Nat → Prop) (w : World) (hx : EnIn N w x) (hy : EnIn N' w y) (hS : SameE x y) (hsm : EnSm x) : Calls Tryz.prog 11 #[aggE x, aggE y] w (TrueG w) := by
  have hs := hS.ul
  obtain ⟨t, aa, ac, al, sa, sc, sl, ua, uc, ul⟩ := x
  cases hS with
  | @mk _ _ _ _ _ _ _ _ _ _ aa' ac' sa' sc' ua' uc' ul' g1 g2 =>
    refine sameE_of t al sl aa ac sa sc ua uc ul.length aa' ac' sa' sc' ua' uc' ul'.length w (by cases hsm; assumption) (by cases hsm; assumption) hx.als.at_ hx.sls.at_ hy.als.at_ hy.sls.at_ fun W2 hb2 => ?_
    have h1 := hx.next hb2
    have h2 := hy.next hb2
    exact sameEns_any ul ul' N N' ua uc ua' uc' W2 ⟨h1.uls, h1.kids⟩ ⟨h2.uls, h2.kids⟩ hs hsm.kids (by cases hsm; assumption)
end Go.Proofs.YtohinfefidahlaaGreatDoor

namespace Go.Proofs.YtohinfefidahlaaGreatDoor
open Go.RowKit
set_option linter.unusedVariables false
set_option linter.unusedSimpArgs false

set_option maxHeartbeats 4000000 in
set_option maxRecDepth 100000 in
/-- a copy, where those under it are as they were -/
theorem leftE_of (t : Bytes) (al : List LoK) (sl : List Bytes) (ga gs : Nat) (ua : Option Addr) (uc : Nat) (un : Nat) (aa' : Option Addr) (ac' : Nat) (sa' : Option Addr) (sc' : Nat) (ua' : Option Addr) (uc' : Nat) (un' : Nat) (w : World) (hal : al.length ≤ 1000000) (hsl : sl.length ≤ 1000000)
    (h1 : At w 3 encLo (some ⟨ga, 0, none⟩) (al ++ [spLo])) (h2 : At w 1 encS (some ⟨gs, 0, none⟩) (sl ++ [spareB])) (h3 : At w 3 encLo aa' al) (h4 : At w 1 encS sa' sl) (hrec : ∀ W, Below w.heap.size w W → Calls Tryz.prog 12 #[.slice ua un uc, .slice ua' un' uc'] W (TrueG W)) :
    Calls Tryz.prog 26 #[.agg #[.string ⟨t.toArray⟩, .slice (some ⟨ga, 0, none⟩) al.length (al.length + 1), .slice (some ⟨gs, 0, none⟩) sl.length (sl.length + 1), .slice ua un uc], .agg #[.string ⟨t.toArray⟩, .slice aa' al.length ac', .slice sa' sl.length sc', .slice ua' un' uc']] w (TrueG w) := by
  have H1 := Lib.hid h1
  have H2 := Lib.hid h2
  have H3 := Lib.hid h3
  have H4 := Lib.hid h4
  have HR := Lib.hid hrec
  clear h1 h2 h3 h4 hrec
  have HW : Hid (Below w.heap.size w ((w.alloc (.cells #[.string ⟨t.toArray⟩, .slice (some ⟨ga, 0, none⟩) al.length (al.length + 1), .slice (some ⟨gs, 0, none⟩) sl.length (sl.length + 1), .slice ua un uc] 29)).alloc (.cells #[.string ⟨t.toArray⟩, .slice aa' al.length ac', .slice sa' sl.length sc', .slice ua' un' uc'] 29))) := ((Below.refl _ _).alloc (Nat.le_refl _) _).alloc (by simp) _
  have HX := Lib.hid ((Bk.new w #[.string ⟨t.toArray⟩, .slice (some ⟨ga, 0, none⟩) al.length (al.length + 1), .slice (some ⟨gs, 0, none⟩) sl.length (sl.length + 1), .slice ua un uc] 29).alloc (.cells #[.string ⟨t.toArray⟩, .slice aa' al.length ac', .slice sa' sl.length sc', .slice ua' un' uc'] 29))
  have hy := Bk.new (w.alloc (.cells #[.string ⟨t.toArray⟩, .slice (some ⟨ga, 0, none⟩) al.length (al.length + 1), .slice (some ⟨gs, 0, none⟩) sl.length (sl.length + 1), .slice ua un uc] 29)) #[.string ⟨t.toArray⟩, .slice aa' al.length ac', .slice sa' sl.length sc', .slice ua' un' uc'] 29
  simp only [World.size_alloc] at hy
  have HY := Lib.hid hy
  clear hy
  go_enter Tryz.func26, Tryz.ntmps26
  go_wp2_with fail
  refine (leftLocators_any ga aa' ac' al _ (by omega) (H1.out.below HW.out) (H3.out.below HW.out)).mono ?_
  rintro e w2 ⟨rfl, hb2⟩
  have HB2 : Hid (Below w.heap.size w w2) := HW.out.trans (hb2.mono HW.out.size)
  have HX2 := Lib.hid (HX.out.next hb2)
  have HY2 := Lib.hid (HY.out.next hb2)
  have x2 := HX2.out.cell 2
  have y2 := HY2.out.cell 2
  change w2.cell? ⟨w.heap.size, 2, none⟩ = some (.slice (some ⟨gs, 0, none⟩) sl.length (sl.length + 1)) at x2
  change w2.cell? ⟨w.heap.size + 1, 2, none⟩ = some (.slice sa' sl.length sc') at y2
  clear hb2
  go_wp2_with fail
  refine (leftTexts_any gs sa' sc' sl _ (by omega) (H2.out.below HB2.out) (H4.out.below HB2.out)).mono ?_
  rintro e w3 ⟨rfl, hb3⟩
  have HB3 : Hid (Below w.heap.size w w3) := HB2.out.trans (hb3.mono HB2.out.size)
  have x3 := (HX2.out.next hb3).cell 3
  have y3 := (HY2.out.next hb3).cell 3
  change w3.cell? ⟨w.heap.size, 3, none⟩ = some (.slice ua un uc) at x3
  change w3.cell? ⟨w.heap.size + 1, 3, none⟩ = some (.slice ua' un' uc') at y3
  clear hb3 x2 y2
  go_wp2_with fail
  refine (HR.out _ HB3.out).mono ?_
  rintro e w4 ⟨rfl, hb4⟩
  have HB4 : Hid (Below w.heap.size w w4) := HB3.out.trans (hb4.mono HB3.out.size)
  clear hb4
  go_wp2_with fail
  go_ret
  exact ⟨rfl, HB4.out⟩
set_option maxHeartbeats 4000000 in
set_option maxRecDepth 100000 in
theorem leftEns_n (n : Nat) : ∀ (l m : List En), nEs l ≤ n → ∀ (B g : Nat) (N' : Nat → Prop) (a' : Option Addr) (c' : Nat) (w : World), Own w B 29 4 encEn (.slice (some ⟨g, 0, none⟩) (l.length + 1) (l.length + 1)) (l ++ [spEn]) → (∀ x ∈ l, EnT B w x) → EnsAt N' w a' m → SameL l m → (∀ x ∈ l, EnSm x) → l.length ≤ 1000000 →
    Calls Tryz.prog 12 #[.slice (some ⟨g, 0, none⟩) l.length (l.length + 1), .slice a' m.length c'] w (TrueG w) := by
  induction n using Nat.strongRecOn with
  | _ n ih =>
  intro l m hd B g N' a' c' w hO hA hA' hS hsm hll
  have HA := Lib.hid (hO.addr encEn_ok)
  have HA' := Lib.hid hA'
  have hlm := hS.1
  rw [← hlm]
  have HLM := Lib.hid hlm
  clear hlm
  have HREC : Hid (∀ (k : Nat) (x y : En), l[k]? = some x → m[k]? = some y → ∀ W, Below w.heap.size w W → Calls Tryz.prog 26 #[aggE x, aggE y] W (TrueG W)) := fun k x y hx hy W hb => by
    have hxm := List.mem_of_getElem? hx
    have hym := List.mem_of_getElem? hy
    have hsxy := hS.2 k x y hx hy
    have hix := (hA x hxm).next hb
    have hiy := (hA'.2 y hym).next hb
    have hsx := hsm x hxm
    have hlt := nEs_mem hxm
    have hs := hsxy.ul
    clear hO hA hA' hS hsm hx hy hxm hym
    cases hix with
    | @mk t aa al sa sl ua ul k1 k2 k3 k4 =>
      obtain ⟨ga, rfl, _⟩ := k1.ptr (by omega)
      obtain ⟨gs, rfl, _⟩ := k2.ptr (by omega)
      obtain ⟨gu, rfl, _⟩ := k3.ptr (by omega)
      have hix : EnT B W (.mk t (some ⟨ga, 0, none⟩) (al.length + 1) al (some ⟨gs, 0, none⟩) (sl.length + 1) sl (some ⟨gu, 0, none⟩) (ul.length + 1) ul) := .mk k1 k2 k3 k4
      cases hsxy with
      | @mk _ _ _ _ _ _ _ _ _ _ aa' ac' sa' sc' ua' uc' ul' g1 g2 =>
        rw [nE] at hlt
        refine leftE_of t al sl ga gs (some ⟨gu, 0, none⟩) (ul.length + 1) ul.length aa' ac' sa' sc' ua' uc' ul'.length W (by cases hsx; assumption) (by cases hsx; assumption) (k1.addr encLo_ok) (k2.addr encS_ok) hiy.als.at_ hiy.sls.at_ fun W2 hb2 => ?_
        have h1 := hix.next hb2
        have h2 := hiy.next hb2
        exact ih (nEs ul) (by omega) ul ul' (Nat.le_refl _) B gu N' ua' uc' W2 h1.uls h1.kids ⟨h2.uls, h2.kids⟩ hs hsx.kids (by cases hsx; assumption)
  clear hO hA hA' hS hsm ih
  go_enter Tryz.func12, Tryz.ntmps12
  go_wp2_with fail
  go_loopw [5] (fun v5 wr => ∃ k : Nat, k ≤ l.length ∧ v5 = .int .i64 k ∧ Hid (Below w.heap.size w wr)) (fun v5 _ => l.length - (intOf v5).toNat)
  case atStart => exact ⟨0, by omega, rfl, Below.refl _ _⟩
  case round =>
    obtain ⟨k, hk, rfl, HB⟩ := hrel
    by_cases hlt : k < l.length
    · have hlt' : k < m.length := HLM.out ▸ hlt
      obtain ⟨b, off, ha, hbl, hc⟩ := ((HA.out.below HB.out).left).elem hlt
      obtain ⟨b', off', ha', hbl', hd'⟩ := (HA'.out.1.at_.below HB.out).elem hlt'
      cases ha
      subst ha'
      have d0 := hc 0 _ rfl
      have d1 := hc 1 _ rfl
      have d2 := hc 2 _ rfl
      have d3 := hc 3 _ rfl
      rw [Nat.zero_add] at d0 d1 d2 d3
      have e0 := hd' 0 _ rfl
      have e1 := hd' 1 _ rfl
      have e2 := hd' 2 _ rfl
      have e3 := hd' 3 _ rfl
      rw [Nat.add_zero] at d0 e0
      have HC := Lib.hid (HREC.out k l[k] m[k] (List.getElem?_eq_getElem hlt) (List.getElem?_eq_getElem hlt'))
      generalize l[k] = x at *
      generalize m[k] = y at *
      unfold aggE at HC
      clear hc hd'
      go_wp2_with fail
      go_region_held3 (fun w' => w'.cell? ⟨g, k * 4, none⟩ = some (.string ⟨x.term.toArray⟩) ∧ w'.cell? ⟨g, k * 4 + 1, none⟩ = some (.slice x.aa x.al.length x.ac) ∧ w'.cell? ⟨g, k * 4 + 2, none⟩ = some (.slice x.sa x.sl.length x.sc) ∧ w'.cell? ⟨g, k * 4 + 3, none⟩ = some (.slice x.ua x.ul.length x.uc) ∧ w'.cell? ⟨b', off' + k * 4, none⟩ = some (.string ⟨y.term.toArray⟩) ∧ w'.cell? ⟨b', off' + k * 4 + 1, none⟩ = some (.slice y.aa y.al.length y.ac) ∧ w'.cell? ⟨b', off' + k * 4 + 2, none⟩ = some (.slice y.sa y.sl.length y.sc) ∧ w'.cell? ⟨b', off' + k * 4 + 3, none⟩ = some (.slice y.ua y.ul.length y.uc)) (first | exact ⟨d0, d1, d2, d3, e0, e1, e2, e3⟩ | go_keep) ((go_at_call 26; refine (HC.out _ (below_drewN HB.out 1)).mono ?_; rintro e w2 ⟨rfl, hb2⟩; have HB2 : Hid (Below w.heap.size w w2) := (below_drewN HB.out 1).trans (hb2.mono HB.out.size); have HBX : Hid (Below wr.heap.size wr w2) := (below_drewN (Below.refl _ _) 1).trans hb2; have d0 := bcellN HBX.out d0; have d1 := bcellN HBX.out d1; have d2 := bcellN HBX.out d2; have d3 := bcellN HBX.out d3; have e0 := bcellN HBX.out e0; have e1 := bcellN HBX.out e1; have e2 := bcellN HBX.out e2; have e3 := bcellN HBX.out e3; clear hb2))
      go_wp2_with fail
      go_roundw
      case rel => exact ⟨k + 1, by omega, by go_num, HB2.out⟩
      case measure => simp [intOf]; omega
    · obtain rfl : k = l.length := by omega
      obtain ⟨b, off, ha, hbl, hc⟩ := (HA.out.below HB.out).elem (i := l.length) (by simp)
      cases ha
      have d0 := hc 0 (.string ⟨spareB.toArray⟩) (by simp [spEn, encEn, En.term])
      have d1 := hc 1 (.slice none 0 0) (by simp [spEn, encEn, En.aa, En.al, En.ac])
      have d2 := hc 2 (.slice none 0 0) (by simp [spEn, encEn, En.sa, En.sl, En.sc])
      have d3 := hc 3 (.slice none 0 0) (by simp [spEn, encEn, En.ua, En.ul, En.uc])
      rw [Nat.zero_add] at d0 d1 d2 d3
      rw [Nat.add_zero] at d0
      unfold spareB at d0
      clear hc
      go_wp2_with fail
      go_ret
      first | exact ⟨rfl, HB.out⟩ | exact ⟨rfl, HB.out.alloc HB.out.size _⟩
theorem leftEns_any (l m : List En) (B g : Nat) (N' : Nat → Prop) (a' : Option Addr) (c' : Nat) (w : World) (hO : Own w B 29 4 encEn (.slice (some ⟨g, 0, none⟩) (l.length + 1) (l.length + 1)) (l ++ [spEn])) (hE : ∀ x ∈ l, EnT B w x) (hA' : EnsAt N' w a' m) (hS : SameL l m) (hsm : ∀ x ∈ l, EnSm x) (hll : l.length ≤ 1000000) :
    Calls Tryz.prog 12 #[.slice (some ⟨g, 0, none⟩) l.length (l.length + 1), .slice a' m.length c'] w (TrueG w) := leftEns_n _ l m (Nat.le_refl _) B g N' a' c' w hO hE hA' hS hsm hll
end Go.Proofs.YtohinfefidahlaaGreatDoor
