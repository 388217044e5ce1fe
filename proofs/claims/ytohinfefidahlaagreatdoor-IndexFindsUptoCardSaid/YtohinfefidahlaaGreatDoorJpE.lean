/- binderylaw01.Book.Apart, for a book that holds lists of texts, of places and of entries. binderylaw01.Book: one more list in the book; an entry with all lists in it. -/
import Derived.Test.YtohinfefidahlaaGreatDoorJpA
import Derived.Test.YtohinfefidahlaaGreatDoorBkNilX
import Derived.Test.YtohinfefidahlaaGreatDoorJpB
import Derived.Test.YtohinfefidahlaaGreatDoorJpC
import Derived.Test.YtohinfefidahlaaGreatDoorJpD
import Derived.Test.YtohinfefidahlaaGreatDoorJpI
namespace Go.Proofs.YtohinfefidahlaaGreatDoor
open Go.RowKit
set_option linter.unusedVariables false
set_option linter.unusedSimpArgs false

structure Bun (B kb : Nat) (C : List Value) (vT vL vE : Value) (hT hL hE : List HeldV) (LT : Nat → List Bytes) (LL : Nat → List L3) (LE : Nat → List En) (mT lT mL lL mE lE : Prop) (w0 w : World) : Prop where
  bel : Below B w0 w
  kbB : B ≤ kb
  bk : Bk w kb C 52
  sz : B ≤ w.heap.size
  cT : C[3]? = some vT
  cL : C[15]? = some vL
  cE : C[16]? = some vE
  cn : ∀ i, 0 < i → i < 18 → i ≠ 3 → i ≠ 15 → i ≠ 16 → C[i]? = some (.slice none 0 0)
  pT : Part B 9 125 1 encS mkText vT hT LT mT lT w
  pL : Part B 79 175 3 encL3 mkLocator vL hL LL mL lL w
  pE : Part B 29 117 4 encEn mkEntry vE hE LE mE lE w
  tab : HasTab w
  tB : 1 < B

section
variable {B kb : Nat} {C : List Value} {vT vL vE : Value} {hT hL hE : List HeldV} {LT : Nat → List Bytes} {LL : Nat → List L3} {LE : Nat → List En} {mT lT mL lL mE lE : Prop} {w0 w w' : World} {e : Ending}
theorem Bun.fillT (h : Bun B kb C vT vL vE hT hL hE LT LL LE mT False mL lL mE lE w0 w) (hf : Filled B 9 1 encS mkText hT LT w e w') :
    e = .returned (.tuple #[]) ∧ Bun B kb C vT vL vE hT hL hE (fun j => List.replicate (LT j).length (mkText ((hT[j]?.map (·.n)).getD 0))) LL LE True False mL lL mE lE w0 w' := by
  obtain ⟨h1, h2, h3⟩ := h.pT.fill (by decide) hf
  exact ⟨h1, h.bel.trans (h3.below (fun g hg => h.pT.base g hg) h.sz), h.kbB, h3.bk h.bk (fun hg => KindIn.not_bk (by decide) (by decide) h.bk (h.pT.kinds _ hg)), Nat.le_trans h.sz h3.size, h.cT, h.cL, h.cE, h.cn, h2, h.pL.kept h3 fun g hg hs => KindIn.other (by decide) (by decide) (by decide) (by decide) hg (h.pT.kinds _ hs), h.pE.kept h3 fun g hg hs => KindIn.other (by decide) (by decide) (by decide) (by decide) hg (h.pT.kinds _ hs), h.tab.keptB h3 (fun g hg => Nat.lt_of_lt_of_le h.tB (h.pT.base g hg)), h.tB⟩
theorem Bun.growT (h : Bun B kb C vT vL vE hT hL hE LT LL LE mT False mL lL mE lE w0 w) (hf : Grown B 9 125 1 encS mkText vT hT LT w e w') :
    e = .returned (.tuple #[]) ∧ ∃ hT', Bun B kb C vT vL vE hT' hL hE LT LL LE mT True mL lL mE lE w0 w' := by
  obtain ⟨h1, ⟨hT', _, h2⟩, h3⟩ := h.pT.grow hf
  exact ⟨h1, hT', h.bel.trans (h3.below (fun g hg => h.pT.base g hg) h.sz), h.kbB, h3.bk h.bk (fun hg => KindIn.not_bk (by decide) (by decide) h.bk (h.pT.kinds _ hg)), Nat.le_trans h.sz h3.size, h.cT, h.cL, h.cE, h.cn, h2, h.pL.kept h3 fun g hg hs => KindIn.other (by decide) (by decide) (by decide) (by decide) hg (h.pT.kinds _ hs), h.pE.kept h3 fun g hg hs => KindIn.other (by decide) (by decide) (by decide) (by decide) hg (h.pT.kinds _ hs), h.tab.keptB h3 (fun g hg => Nat.lt_of_lt_of_le h.tB (h.pT.base g hg)), h.tB⟩
theorem Bun.fillL (h : Bun B kb C vT vL vE hT hL hE LT LL LE mT lT mL False mE lE w0 w) (hf : Filled B 79 3 encL3 mkLocator hL LL w e w') :
    e = .returned (.tuple #[]) ∧ Bun B kb C vT vL vE hT hL hE LT (fun j => List.replicate (LL j).length (mkLocator ((hL[j]?.map (·.n)).getD 0))) LE mT lT True False mE lE w0 w' := by
  obtain ⟨h1, h2, h3⟩ := h.pL.fill (by decide) hf
  exact ⟨h1, h.bel.trans (h3.below (fun g hg => h.pL.base g hg) h.sz), h.kbB, h3.bk h.bk (fun hg => KindIn.not_bk (by decide) (by decide) h.bk (h.pL.kinds _ hg)), Nat.le_trans h.sz h3.size, h.cT, h.cL, h.cE, h.cn, h.pT.kept h3 fun g hg hs => KindIn.other (by decide) (by decide) (by decide) (by decide) hg (h.pL.kinds _ hs), h2, h.pE.kept h3 fun g hg hs => KindIn.other (by decide) (by decide) (by decide) (by decide) hg (h.pL.kinds _ hs), h.tab.keptB h3 (fun g hg => Nat.lt_of_lt_of_le h.tB (h.pL.base g hg)), h.tB⟩
theorem Bun.growL (h : Bun B kb C vT vL vE hT hL hE LT LL LE mT lT mL False mE lE w0 w) (hf : Grown B 79 175 3 encL3 mkLocator vL hL LL w e w') :
    e = .returned (.tuple #[]) ∧ ∃ hL', Bun B kb C vT vL vE hT hL' hE LT LL LE mT lT mL True mE lE w0 w' := by
  obtain ⟨h1, ⟨hL', _, h2⟩, h3⟩ := h.pL.grow hf
  exact ⟨h1, hL', h.bel.trans (h3.below (fun g hg => h.pL.base g hg) h.sz), h.kbB, h3.bk h.bk (fun hg => KindIn.not_bk (by decide) (by decide) h.bk (h.pL.kinds _ hg)), Nat.le_trans h.sz h3.size, h.cT, h.cL, h.cE, h.cn, h.pT.kept h3 fun g hg hs => KindIn.other (by decide) (by decide) (by decide) (by decide) hg (h.pL.kinds _ hs), h2, h.pE.kept h3 fun g hg hs => KindIn.other (by decide) (by decide) (by decide) (by decide) hg (h.pL.kinds _ hs), h.tab.keptB h3 (fun g hg => Nat.lt_of_lt_of_le h.tB (h.pL.base g hg)), h.tB⟩
theorem Bun.fillE (h : Bun B kb C vT vL vE hT hL hE LT LL LE mT lT mL lL mE False w0 w) (hf : Filled B 29 4 encEn mkEntry hE LE w e w') :
    e = .returned (.tuple #[]) ∧ Bun B kb C vT vL vE hT hL hE LT LL (fun j => List.replicate (LE j).length (mkEntry ((hE[j]?.map (·.n)).getD 0))) mT lT mL lL True False w0 w' := by
  obtain ⟨h1, h2, h3⟩ := h.pE.fill (by decide) hf
  exact ⟨h1, h.bel.trans (h3.below (fun g hg => h.pE.base g hg) h.sz), h.kbB, h3.bk h.bk (fun hg => KindIn.not_bk (by decide) (by decide) h.bk (h.pE.kinds _ hg)), Nat.le_trans h.sz h3.size, h.cT, h.cL, h.cE, h.cn, h.pT.kept h3 fun g hg hs => KindIn.other (by decide) (by decide) (by decide) (by decide) hg (h.pE.kinds _ hs), h.pL.kept h3 fun g hg hs => KindIn.other (by decide) (by decide) (by decide) (by decide) hg (h.pE.kinds _ hs), h2, h.tab.keptB h3 (fun g hg => Nat.lt_of_lt_of_le h.tB (h.pE.base g hg)), h.tB⟩
theorem Bun.growE (h : Bun B kb C vT vL vE hT hL hE LT LL LE mT lT mL lL mE False w0 w) (hf : Grown B 29 117 4 encEn mkEntry vE hE LE w e w') :
    e = .returned (.tuple #[]) ∧ ∃ hE', Bun B kb C vT vL vE hT hL hE' LT LL LE mT lT mL lL mE True w0 w' := by
  obtain ⟨h1, ⟨hE', _, h2⟩, h3⟩ := h.pE.grow hf
  exact ⟨h1, hE', h.bel.trans (h3.below (fun g hg => h.pE.base g hg) h.sz), h.kbB, h3.bk h.bk (fun hg => KindIn.not_bk (by decide) (by decide) h.bk (h.pE.kinds _ hg)), Nat.le_trans h.sz h3.size, h.cT, h.cL, h.cE, h.cn, h.pT.kept h3 fun g hg hs => KindIn.other (by decide) (by decide) (by decide) (by decide) hg (h.pE.kinds _ hs), h.pL.kept h3 fun g hg hs => KindIn.other (by decide) (by decide) (by decide) (by decide) hg (h.pE.kinds _ hs), h2, h.tab.keptB h3 (fun g hg => Nat.lt_of_lt_of_le h.tB (h.pE.base g hg)), h.tB⟩
theorem Bun.below (h : Bun B kb C vT vL vE hT hL hE LT LL LE mT lT mL lL mE lE w0 w) (hb : Below w.heap.size w w') : Bun B kb C vT vL vE hT hL hE LT LL LE mT lT mL lL mE lE w0 w' := by
  have hk : Kept (fun _ => False) w w' := Kept.of_below hb
  exact ⟨h.bel.trans (hb.mono h.sz), h.kbB, hk.bk h.bk id, Nat.le_trans h.sz hb.size, h.cT, h.cL, h.cE, h.cn, h.pT.kept hk fun _ _ => id, h.pL.kept hk fun _ _ => id, h.pE.kept hk fun _ _ => id, h.tab.below hb, h.tB⟩
end

set_option maxHeartbeats 8000000 in
set_option maxRecDepth 100000 in
theorem Apart_any (B kb : Nat) (C : List Value) (vT vL vE : Value) (hT hL hE : List HeldV) (LT : Nat → List Bytes) (LL : Nat → List L3) (LE : Nat → List En) (w0 w : World) (h : Bun B kb C vT vL vE hT hL hE LT LL LE False False False False False False w0 w) :
    Calls Tryz.prog 15 #[.pointer (some ⟨kb, 0, none⟩)] w fun e w' => e = .returned (.bool true) ∧ Below B w0 w' := by
  have HB := Lib.hid h
  clear h
  go_enter Tryz.func15, Tryz.ntmps15
  go_wp2_with (first
    | (go_at_call 30; refine (fillByte_nil _ _ _ HB.out.bk (HB.out.cn 1 (by decide) (by decide) (by decide) (by decide) (by decide))).mono ?_; rintro e w2 ⟨rfl, rfl⟩)
    | (go_at_call 31; refine (fillInt_nil _ _ _ HB.out.bk (HB.out.cn 2 (by decide) (by decide) (by decide) (by decide) (by decide))).mono ?_; rintro e w2 ⟨rfl, rfl⟩)
    | (go_at_call 32; refine (fillText_any _ _ _ _ _ _ _ HB.out.bk HB.out.cT HB.out.pT.own HB.out.pT.hl HB.out.pT.el HB.out.pT.apart HB.out.pT.n HB.out.pT.hL HB.out.tab HB.out.tB).mono ?_; intro e w2 hf; obtain ⟨rfl, hq⟩ := HB.out.fillT hf; replace HB := Lib.hid hq; clear hf hq)
    | (go_at_call 33; refine (fillFault_nil _ _ _ HB.out.bk (HB.out.cn 4 (by decide) (by decide) (by decide) (by decide) (by decide))).mono ?_; rintro e w2 ⟨rfl, rfl⟩)
    | (go_at_call 34; refine (fillLine_nil _ _ _ HB.out.bk (HB.out.cn 5 (by decide) (by decide) (by decide) (by decide) (by decide))).mono ?_; rintro e w2 ⟨rfl, rfl⟩)
    | (go_at_call 35; refine (fillSource_nil _ _ _ HB.out.bk (HB.out.cn 6 (by decide) (by decide) (by decide) (by decide) (by decide))).mono ?_; rintro e w2 ⟨rfl, rfl⟩)
    | (go_at_call 36; refine (fillAttr_nil _ _ _ HB.out.bk (HB.out.cn 7 (by decide) (by decide) (by decide) (by decide) (by decide))).mono ?_; rintro e w2 ⟨rfl, rfl⟩)
    | (go_at_call 37; refine (fillDiag_nil _ _ _ HB.out.bk (HB.out.cn 8 (by decide) (by decide) (by decide) (by decide) (by decide))).mono ?_; rintro e w2 ⟨rfl, rfl⟩)
    | (go_at_call 38; refine (fillSpan_nil _ _ _ HB.out.bk (HB.out.cn 9 (by decide) (by decide) (by decide) (by decide) (by decide))).mono ?_; rintro e w2 ⟨rfl, rfl⟩)
    | (go_at_call 39; refine (fillCell_nil _ _ _ HB.out.bk (HB.out.cn 10 (by decide) (by decide) (by decide) (by decide) (by decide))).mono ?_; rintro e w2 ⟨rfl, rfl⟩)
    | (go_at_call 40; refine (fillRow_nil _ _ _ HB.out.bk (HB.out.cn 11 (by decide) (by decide) (by decide) (by decide) (by decide))).mono ?_; rintro e w2 ⟨rfl, rfl⟩)
    | (go_at_call 41; refine (fillBlock_nil _ _ _ HB.out.bk (HB.out.cn 12 (by decide) (by decide) (by decide) (by decide) (by decide))).mono ?_; rintro e w2 ⟨rfl, rfl⟩)
    | (go_at_call 42; refine (fillChapter_nil _ _ _ HB.out.bk (HB.out.cn 13 (by decide) (by decide) (by decide) (by decide) (by decide))).mono ?_; rintro e w2 ⟨rfl, rfl⟩)
    | (go_at_call 43; refine (fillPlace_nil _ _ _ HB.out.bk (HB.out.cn 14 (by decide) (by decide) (by decide) (by decide) (by decide))).mono ?_; rintro e w2 ⟨rfl, rfl⟩)
    | (go_at_call 44; refine (fillLocator_any _ _ _ _ _ _ _ HB.out.bk HB.out.cL HB.out.pL.own HB.out.pL.hl HB.out.pL.el HB.out.pL.apart HB.out.pL.n HB.out.pL.hL HB.out.tab HB.out.tB).mono ?_; intro e w2 hf; obtain ⟨rfl, hq⟩ := HB.out.fillL hf; replace HB := Lib.hid hq; clear hf hq)
    | (go_at_call 45; refine (fillEntry_any _ _ _ _ _ _ _ HB.out.bk HB.out.cE HB.out.pE.own HB.out.pE.hl HB.out.pE.el HB.out.pE.apart HB.out.pE.n HB.out.pE.hL HB.out.tab HB.out.tB).mono ?_; intro e w2 hf; obtain ⟨rfl, hq⟩ := HB.out.fillE hf; replace HB := Lib.hid hq; clear hf hq)
    | (go_at_call 46; refine (fillFile_nil _ _ _ HB.out.bk (HB.out.cn 17 (by decide) (by decide) (by decide) (by decide) (by decide))).mono ?_; rintro e w2 ⟨rfl, rfl⟩)
    | (go_at_call 47; refine (growByte_nil _ _ _ HB.out.bk (HB.out.cn 1 (by decide) (by decide) (by decide) (by decide) (by decide))).mono ?_; rintro e w2 ⟨rfl, rfl⟩)
    | (go_at_call 48; refine (growInt_nil _ _ _ HB.out.bk (HB.out.cn 2 (by decide) (by decide) (by decide) (by decide) (by decide))).mono ?_; rintro e w2 ⟨rfl, rfl⟩)
    | (go_at_call 49; refine (growText_any _ _ _ _ _ _ _ HB.out.bk HB.out.sz HB.out.cT HB.out.pT.own HB.out.pT.hl HB.out.pT.el HB.out.pT.apart HB.out.pT.n HB.out.pT.hL HB.out.tab HB.out.tB).mono ?_; intro e w2 hf; obtain ⟨rfl, hx, hq⟩ := HB.out.growT hf; replace HB := Lib.hid hq; clear hf hq)
    | (go_at_call 50; refine (growFault_nil _ _ _ HB.out.bk (HB.out.cn 4 (by decide) (by decide) (by decide) (by decide) (by decide))).mono ?_; rintro e w2 ⟨rfl, rfl⟩)
    | (go_at_call 51; refine (growLine_nil _ _ _ HB.out.bk (HB.out.cn 5 (by decide) (by decide) (by decide) (by decide) (by decide))).mono ?_; rintro e w2 ⟨rfl, rfl⟩)
    | (go_at_call 52; refine (growSource_nil _ _ _ HB.out.bk (HB.out.cn 6 (by decide) (by decide) (by decide) (by decide) (by decide))).mono ?_; rintro e w2 ⟨rfl, rfl⟩)
    | (go_at_call 53; refine (growAttr_nil _ _ _ HB.out.bk (HB.out.cn 7 (by decide) (by decide) (by decide) (by decide) (by decide))).mono ?_; rintro e w2 ⟨rfl, rfl⟩)
    | (go_at_call 54; refine (growDiag_nil _ _ _ HB.out.bk (HB.out.cn 8 (by decide) (by decide) (by decide) (by decide) (by decide))).mono ?_; rintro e w2 ⟨rfl, rfl⟩)
    | (go_at_call 55; refine (growSpan_nil _ _ _ HB.out.bk (HB.out.cn 9 (by decide) (by decide) (by decide) (by decide) (by decide))).mono ?_; rintro e w2 ⟨rfl, rfl⟩)
    | (go_at_call 56; refine (growCell_nil _ _ _ HB.out.bk (HB.out.cn 10 (by decide) (by decide) (by decide) (by decide) (by decide))).mono ?_; rintro e w2 ⟨rfl, rfl⟩)
    | (go_at_call 57; refine (growRow_nil _ _ _ HB.out.bk (HB.out.cn 11 (by decide) (by decide) (by decide) (by decide) (by decide))).mono ?_; rintro e w2 ⟨rfl, rfl⟩)
    | (go_at_call 58; refine (growBlock_nil _ _ _ HB.out.bk (HB.out.cn 12 (by decide) (by decide) (by decide) (by decide) (by decide))).mono ?_; rintro e w2 ⟨rfl, rfl⟩)
    | (go_at_call 59; refine (growChapter_nil _ _ _ HB.out.bk (HB.out.cn 13 (by decide) (by decide) (by decide) (by decide) (by decide))).mono ?_; rintro e w2 ⟨rfl, rfl⟩)
    | (go_at_call 60; refine (growPlace_nil _ _ _ HB.out.bk (HB.out.cn 14 (by decide) (by decide) (by decide) (by decide) (by decide))).mono ?_; rintro e w2 ⟨rfl, rfl⟩)
    | (go_at_call 61; refine (growLocator_any _ _ _ _ _ _ _ HB.out.bk HB.out.sz HB.out.cL HB.out.pL.own HB.out.pL.hl HB.out.pL.el HB.out.pL.apart HB.out.pL.n HB.out.pL.hL HB.out.tab HB.out.tB).mono ?_; intro e w2 hf; obtain ⟨rfl, hx, hq⟩ := HB.out.growL hf; replace HB := Lib.hid hq; clear hf hq)
    | (go_at_call 62; refine (growEntry_any _ _ _ _ _ _ _ HB.out.bk HB.out.sz HB.out.cE HB.out.pE.own HB.out.pE.hl HB.out.pE.el HB.out.pE.apart HB.out.pE.n HB.out.pE.hL HB.out.tab HB.out.tB).mono ?_; intro e w2 hf; obtain ⟨rfl, hx, hq⟩ := HB.out.growE hf; replace HB := Lib.hid hq; clear hf hq)
    | (go_at_call 63; refine (growFile_nil _ _ _ HB.out.bk (HB.out.cn 17 (by decide) (by decide) (by decide) (by decide) (by decide))).mono ?_; rintro e w2 ⟨rfl, rfl⟩)
    | (go_at_call 64; refine (lookByte_nil _ _ _ HB.out.bk (HB.out.cn 1 (by decide) (by decide) (by decide) (by decide) (by decide))).mono ?_; rintro e w2 ⟨rfl, rfl⟩)
    | (go_at_call 65; refine (lookInt_nil _ _ _ HB.out.bk (HB.out.cn 2 (by decide) (by decide) (by decide) (by decide) (by decide))).mono ?_; rintro e w2 ⟨rfl, rfl⟩)
    | (go_at_call 66; refine (lookText_any _ _ _ _ _ _ _ HB.out.bk HB.out.cT HB.out.pT.own HB.out.pT.hl HB.out.pT.lookE HB.out.pT.lookG HB.out.pT.n HB.out.pT.hL HB.out.tab).mono ?_; rintro e w2 ⟨rfl, hb⟩; replace HB := Lib.hid (HB.out.below hb); clear hb)
    | (go_at_call 67; refine (lookFault_nil _ _ _ HB.out.bk (HB.out.cn 4 (by decide) (by decide) (by decide) (by decide) (by decide))).mono ?_; rintro e w2 ⟨rfl, rfl⟩)
    | (go_at_call 68; refine (lookLine_nil _ _ _ HB.out.bk (HB.out.cn 5 (by decide) (by decide) (by decide) (by decide) (by decide))).mono ?_; rintro e w2 ⟨rfl, rfl⟩)
    | (go_at_call 69; refine (lookSource_nil _ _ _ HB.out.bk (HB.out.cn 6 (by decide) (by decide) (by decide) (by decide) (by decide))).mono ?_; rintro e w2 ⟨rfl, rfl⟩)
    | (go_at_call 70; refine (lookAttr_nil _ _ _ HB.out.bk (HB.out.cn 7 (by decide) (by decide) (by decide) (by decide) (by decide))).mono ?_; rintro e w2 ⟨rfl, rfl⟩)
    | (go_at_call 71; refine (lookDiag_nil _ _ _ HB.out.bk (HB.out.cn 8 (by decide) (by decide) (by decide) (by decide) (by decide))).mono ?_; rintro e w2 ⟨rfl, rfl⟩)
    | (go_at_call 72; refine (lookSpan_nil _ _ _ HB.out.bk (HB.out.cn 9 (by decide) (by decide) (by decide) (by decide) (by decide))).mono ?_; rintro e w2 ⟨rfl, rfl⟩)
    | (go_at_call 73; refine (lookCell_nil _ _ _ HB.out.bk (HB.out.cn 10 (by decide) (by decide) (by decide) (by decide) (by decide))).mono ?_; rintro e w2 ⟨rfl, rfl⟩)
    | (go_at_call 74; refine (lookRow_nil _ _ _ HB.out.bk (HB.out.cn 11 (by decide) (by decide) (by decide) (by decide) (by decide))).mono ?_; rintro e w2 ⟨rfl, rfl⟩)
    | (go_at_call 75; refine (lookBlock_nil _ _ _ HB.out.bk (HB.out.cn 12 (by decide) (by decide) (by decide) (by decide) (by decide))).mono ?_; rintro e w2 ⟨rfl, rfl⟩)
    | (go_at_call 76; refine (lookChapter_nil _ _ _ HB.out.bk (HB.out.cn 13 (by decide) (by decide) (by decide) (by decide) (by decide))).mono ?_; rintro e w2 ⟨rfl, rfl⟩)
    | (go_at_call 77; refine (lookPlace_nil _ _ _ HB.out.bk (HB.out.cn 14 (by decide) (by decide) (by decide) (by decide) (by decide))).mono ?_; rintro e w2 ⟨rfl, rfl⟩)
    | (go_at_call 78; refine (lookLocator_any _ _ _ _ _ _ _ HB.out.bk HB.out.cL HB.out.pL.own HB.out.pL.hl HB.out.pL.lookE HB.out.pL.lookG HB.out.pL.n HB.out.pL.hL HB.out.tab).mono ?_; rintro e w2 ⟨rfl, hb⟩; replace HB := Lib.hid (HB.out.below hb); clear hb)
    | (go_at_call 79; refine (lookEntry_any _ _ _ _ _ _ _ HB.out.bk HB.out.cE HB.out.pE.own HB.out.pE.hl HB.out.pE.lookE HB.out.pE.lookG HB.out.pE.n HB.out.pE.hL HB.out.tab).mono ?_; rintro e w2 ⟨rfl, hb⟩; replace HB := Lib.hid (HB.out.below hb); clear hb)
    | (go_at_call 80; refine (lookFile_nil _ _ _ HB.out.bk (HB.out.cn 17 (by decide) (by decide) (by decide) (by decide) (by decide))).mono ?_; rintro e w2 ⟨rfl, rfl⟩))
  go_ret
  exact ⟨rfl, HB.out.bel⟩
end Go.Proofs.YtohinfefidahlaaGreatDoor

namespace Go.Proofs.YtohinfefidahlaaGreatDoor
open Go.RowKit
set_option linter.unusedVariables false
set_option linter.unusedSimpArgs false

def snocL {α : Type} (n : Nat) (L : Nat → List α) (l : List α) (j : Nat) : List α := if j < n then L j else l

theorem Part.snoc {α : Type} {B : Nat} {E HT : TypeId} {sz : Nat} {enc : α → List Value} {mk : Nat → α} {v v' : Value} {held : List HeldV} {L : Nat → List α} {w w' : World} {S : Nat → Prop} (h : Part B E HT sz enc mk v held L False False w) {a : Option Addr} {n c N : Nat} {l : List α}
    (hO : Own w' B HT 3 encH v' (held ++ [⟨a, n, c, none, 0, 0, N + 1⟩])) (hk : Kept S w w') (hS : ∀ g, (∃ cur, w.heap[g]? = some (.cells cur E (0, 0))) → ¬ S g) (hl : Own w B E sz enc (.slice a n c) l) (hll : l.length ≤ 1048577)
    (hne : ∀ g, (Value.slice a n c).ownBlock = some g → ¬ HS held g) (hN : N < 999999) (hlen : held.length < 999999) :
    Part B E HT sz enc mk v' (held ++ [⟨a, n, c, none, 0, 0, N + 1⟩]) (snocL held.length L l) False False w' := by
  refine ⟨hO, fun j hj => ?_, fun i j hi hj hij g hg hg2 => ?_, fun j hj => ?_, by simp; omega, fun j => ?_, fun hf => hf.elim, fun hf => hf.elim⟩
  · unfold snocL
    by_cases hjl : j < held.length
    · rw [if_pos hjl, List.getElem_append_left hjl]
      exact hk.own (h.el j hjl) fun g hg => hS g ((h.el j hjl).kind g hg)
    · rw [if_neg hjl, List.getElem_append_right (by omega)]
      simp only [List.getElem_singleton]
      exact hk.own hl fun g hg => hS g (hl.kind g hg)
  · simp only [List.length_append, List.length_singleton] at hi hj
    by_cases hil : i < held.length
    · rw [List.getElem_append_left hil] at hg
      by_cases hjl : j < held.length
      · rw [List.getElem_append_left hjl] at hg2
        exact h.apart i j hil hjl hij g hg hg2
      · rw [List.getElem_append_right (by omega)] at hg2
        simp only [List.getElem_singleton] at hg2
        exact hne g hg2 ⟨i, hil, hg⟩
    · rw [List.getElem_append_right (by omega)] at hg
      simp only [List.getElem_singleton] at hg
      have hjl : j < held.length := by omega
      rw [List.getElem_append_left hjl] at hg2
      exact hne g hg ⟨j, hjl, hg2⟩
  · simp only [List.length_append, List.length_singleton] at hj
    by_cases hjl : j < held.length
    · rw [List.getElem_append_left hjl]
      exact h.n j hjl
    · rw [List.getElem_append_right (by omega)]
      simp only [List.getElem_singleton]
      omega
  · unfold snocL
    split
    · exact h.hL j
    · exact hll

/-- a book that holds N lists, in the blocks D -/
def BkH (B kb : Nat) (D : Nat → Prop) (N : Nat) (w0 w : World) : Prop :=
  ∃ C vT vL vE hT hL hE LT LL LE, Bun B kb C vT vL vE hT hL hE LT LL LE False False False False False False w0 w ∧ C.length = 18 ∧ C[0]? = some (.int .i64 (N : Int)) ∧ hT.length ≤ N ∧ hL.length ≤ N ∧ hE.length ≤ N ∧ ∀ g, HS hT g ∨ HS hL g ∨ HS hE g → D g
/-- what stays: all lists that the book's own are not -/
structure KeepL (w w' : World) : Prop where
  size : w.heap.size ≤ w'.heap.size
  block : ∀ (g : Nat) (cur : Array Value) (T : TypeId), (T = 9 ∨ T = 79 ∨ T = 29) → w.heap[g]? = some (.cells cur T (0, 0)) → w'.heap[g]? = w.heap[g]?
section
variable {B kb N N' : Nat} {D D' : Nat → Prop} {w0 w w1 w2 : World}
theorem KeepL.refl (w : World) : KeepL w w := ⟨Nat.le_refl _, fun _ _ _ _ _ => rfl⟩
theorem KeepL.trans (h : KeepL w w1) (k : KeepL w1 w2) : KeepL w w2 := ⟨Nat.le_trans h.size k.size, fun g cur T hT hg => (k.block g cur T hT ((h.block g cur T hT hg).trans hg)).trans (h.block g cur T hT hg)⟩
theorem KeepL.of_below (h : Below w.heap.size w w1) : KeepL w w1 := ⟨h.size, fun g cur T _ hg => h.block g (Array.getElem?_eq_some_iff.1 hg).1⟩
theorem KeepL.own {α : Type} {e : TypeId} {sz : Nat} {enc : α → List Value} {v : Value} {l : List α} (h : KeepL w w1) (he : e = 9 ∨ e = 79 ∨ e = 29) (ho : Own w B e sz enc v l) : Own w1 B e sz enc v l :=
  ho.kept fun k hk => by
    obtain ⟨cur, hc⟩ := ho.kind k hk
    exact h.block k cur e he hc
theorem KeepL.bk {g : Nat} {C : List Value} (h : KeepL w w1) (hb : Bk w g C 29) : Bk w1 g C 29 := hb.of_block (h.block g _ _ (.inr (.inr rfl)) hb)
theorem KeepL.en {x : En} (h : KeepL w w1) (hx : EnO B w x) : EnO B w1 x := by
  induction hx with
  | mk h1 h2 h3 _ ih => exact .mk (h.own (.inr (.inl rfl)) h1) (h.own (.inl rfl) h2) (h.own (.inr (.inr rfl)) h3) ih
theorem BkH.mono (h : BkH B kb D N w0 w) (hD : ∀ g, D g → D' g) (hN : N = N') : BkH B kb D' N' w0 w := by
  subst hN
  obtain ⟨C, vT, vL, vE, hT, hL, hE, LT, LL, LE, h1, h2, h3, h4, h5, h6, h7⟩ := h
  exact ⟨C, vT, vL, vE, hT, hL, hE, LT, LL, LE, h1, h2, h3, h4, h5, h6, fun g hg => hD g (h7 g hg)⟩
theorem BkH.below (h : BkH B kb D N w0 w) (hb : Below w.heap.size w w1) : BkH B kb D N w0 w1 := by
  obtain ⟨C, vT, vL, vE, hT, hL, hE, LT, LL, LE, h1, h2, h3, h4, h5, h6, h7⟩ := h
  exact ⟨C, vT, vL, vE, hT, hL, hE, LT, LL, LE, h1.below hb, h2, h3, h4, h5, h6, h7⟩
theorem BkH.sz (h : BkH B kb D N w0 w) : B ≤ w.heap.size := by
  obtain ⟨C, vT, vL, vE, hT, hL, hE, LT, LL, LE, h1, _⟩ := h
  exact h1.sz
theorem BkH.bel (h : BkH B kb D N w0 w) : Below B w0 w := by
  obtain ⟨C, vT, vL, vE, hT, hL, hE, LT, LL, LE, h1, _⟩ := h
  exact h1.bel
end
def KeptG (B kb : Nat) (D : Nat → Prop) (N : Nat) (w0 w : World) (e : Ending) (w' : World) : Prop := e = .returned (.tuple #[]) ∧ BkH B kb D N w0 w' ∧ KeepL w w'
theorem KeptG.mono {B kb N N' : Nat} {D D' : Nat → Prop} {w0 w w' : World} {e : Ending} (h : KeptG B kb D N w0 w e w') (hD : ∀ g, D g → D' g) (hN : N = N') : KeptG B kb D' N' w0 w e w' := ⟨h.1, h.2.1.mono hD hN, h.2.2⟩
/-- a new book -/
def newBook : List Value := [.int .i64 0, .slice none 0 0, .slice none 0 0, .slice none 0 0, .slice none 0 0, .slice none 0 0, .slice none 0 0, .slice none 0 0, .slice none 0 0, .slice none 0 0, .slice none 0 0, .slice none 0 0, .slice none 0 0, .slice none 0 0, .slice none 0 0, .slice none 0 0, .slice none 0 0, .slice none 0 0]
theorem Part.none {α : Type} (B : Nat) (E HT : TypeId) (sz : Nat) (enc : α → List Value) (mk : Nat → α) (w : World) : Part B E HT sz enc mk (.slice none 0 0) [] (fun _ => []) False False w :=
  ⟨Own.nil w B HT 3 encH, fun j hj => absurd hj (by simp), fun i j hi => absurd hi (by simp), fun j hj => absurd hj (by simp), by simp, fun _ => by simp, fun h => h.elim, fun h => h.elim⟩
theorem BkH.start (B : Nat) (w0 w : World) (hb : Below B w0 w) (hB : B ≤ w.heap.size) (htab : HasTab w) (hBt : 1 < B) (C : Array Value) (hC : C.toList = newBook) :
    BkH B w.heap.size (fun _ => False) 0 w0 (w.alloc (.cells C 52)) := by
  have hb1 : Below w.heap.size w (w.alloc (.cells C 52)) := (Below.refl _ _).alloc (Nat.le_refl _) _
  refine ⟨newBook, .slice none 0 0, .slice none 0 0, .slice none 0 0, [], [], [], fun _ => [], fun _ => [], fun _ => [], ⟨hb.alloc hB _, hB, by have h := Bk.new w C 52; rw [hC] at h; exact h, by simp; omega, rfl, rfl, rfl, fun i h0 h1 _ _ _ => ?_, Part.none .., Part.none .., Part.none .., htab.below hb1, hBt⟩, rfl, rfl, by simp, by simp, by simp, fun g hg => ?_⟩
  · match i, h0, h1 with
    | 1, _, _ | 2, _, _ | 3, _, _ | 4, _, _ | 5, _, _ | 6, _, _ | 7, _, _ | 8, _, _ | 9, _, _ | 10, _, _ | 11, _, _ | 12, _, _ | 13, _, _ | 14, _, _ | 15, _, _ | 16, _, _ | 17, _, _ => rfl
    | k + 18, _, h => exact absurd h (by omega)
  · rcases hg with ⟨j, hj, _⟩ | ⟨j, hj, _⟩ | ⟨j, hj, _⟩ <;> exact absurd hj (by simp)
theorem hs_snoc {held : List HeldV} {a : Option Addr} {n c N g : Nat} (h : HS (held ++ [⟨a, n, c, none, 0, 0, N⟩]) g) : HS held g ∨ g ∈ obk a := by
  obtain ⟨j, hj, e⟩ := h
  by_cases hjl : j < held.length
  · rw [List.getElem_append_left hjl] at e
    exact .inl ⟨j, hjl, e⟩
  · rw [List.getElem_append_right (by omega)] at e
    simp only [List.getElem_singleton] at e
    exact .inr (mem_obk.1 e)

set_option maxHeartbeats 4000000 in
theorem keepText_k {B kb N : Nat} {D : Nat → Prop} {w0 w : World} (hB : BkH B kb D N w0 w) (hN : N < 900000) (a : Option Addr) (n c : Nat) (l : List Bytes) (hl : Own w B 9 1 encS (.slice a n c) l) (hll : l.length ≤ 1048577) (hne : ∀ g ∈ obk a, ¬ D g) :
    Calls Tryz.prog 103 #[.pointer (some ⟨kb, 0, none⟩), .slice a n c] w (KeptG B kb (fun g => D g ∨ g ∈ obk a) (N + 1) w0 w) := by
  obtain ⟨C, vT, vL, vE, hT, hL, hE, LT, LL, LE, h, hC, h0, lT, lL, lE, hD⟩ := hB
  refine (keepText_any B kb N C vT hT a n c w h.bk h.kbB hC h0 (by omega) h.cT h.pT.own (by omega)).mono ?_
  rintro e w2 ⟨⟨hv', rfl, bk2, hO2⟩, hk⟩
  have hnotS : ∀ g, KindIn w 9 9 g → ¬ (g = kb ∨ vT.ownBlock = some g) := by
    rintro g hg (rfl | e)
    · exact KindIn.not_bk (by decide) (by decide) h.bk hg
    · obtain ⟨cur, hc⟩ := h.pT.own.kind g e
      obtain ⟨c2, k | k⟩ := hg <;> rw [hc] at k <;> injection k with k <;> injection k with _ k _ <;> exact absurd k (by decide)
  have hbB : ∀ g, g = kb ∨ vT.ownBlock = some g → B ≤ g := by
    rintro g (rfl | e)
    · exact h.kbB
    · exact h.pT.base g (.inr e)
  have hbel := h.bel.trans (hk.below (B := B) hbB h.sz)
  have sz2 := Nat.le_trans h.sz hk.size
  have hcn : ∀ i, 0 < i → i < 18 → i ≠ 3 → i ≠ 15 → i ≠ 16 → ((C.set 0 (.int .i64 ((N : Int) + 1))).set 3 hv')[i]? = some (.slice none 0 0) := fun i h1 h2 h3 h4 h5 => by
    rw [List.getElem?_set_ne (by omega), List.getElem?_set_ne (by omega)]
    exact h.cn i h1 h2 h3 h4 h5
  have hpL := h.pL.kept hk (by
    rintro g hg (rfl | e)
    · exact KindIn.not_bk (by decide) (by decide) h.bk hg
    · exact KindIn.other (by decide) (by decide) (by decide) (by decide) hg (h.pT.kinds g (.inr e)))
  have hpE := h.pE.kept hk (by
    rintro g hg (rfl | e)
    · exact KindIn.not_bk (by decide) (by decide) h.bk hg
    · exact KindIn.other (by decide) (by decide) (by decide) (by decide) hg (h.pT.kinds g (.inr e)))
  have hme := h.pT.snoc hO2 hk (fun g ⟨cur, hc⟩ => hnotS g ⟨cur, .inl hc⟩) hl hll (fun g hg hs => hne g (mem_obk.1 hg) (hD g (.inl hs))) (by omega) (by omega)
  refine ⟨rfl, ⟨_, hv', vL, vE, hT ++ [⟨a, n, c, none, 0, 0, N + 1⟩], hL, hE, snocL hT.length LT l, LL, LE, ⟨hbel, h.kbB, bk2, sz2, List.getElem?_set_self (by simp [hC]), by rw [List.getElem?_set_ne (by decide), List.getElem?_set_ne (by decide)]; exact h.cL, by rw [List.getElem?_set_ne (by decide), List.getElem?_set_ne (by decide)]; exact h.cE, hcn, hme, hpL, hpE, h.tab.keptB hk (fun g hg => Nat.lt_of_lt_of_le h.tB (hbB g hg)), h.tB⟩, by simp [hC], by rw [List.getElem?_set_ne (by decide), List.getElem?_set_self (by omega)]; rfl, by simp; omega, by omega, by omega, fun g hg => ?_⟩, ⟨hk.size, fun g cur T hT hg => hk.block g (Array.getElem?_eq_some_iff.1 hg).1 ?_⟩⟩
  · rcases hg with hg | hg | hg
    · exact (hs_snoc hg).elim (fun hg => .inl (hD g (.inl hg))) .inr
    · exact .inl (hD g (.inr (.inl hg)))
    · exact .inl (hD g (.inr (.inr hg)))
  · rintro (rfl | e)
    · have hbk := h.bk
      unfold Bk at hbk
      rw [hbk] at hg
      injection hg with hg
      injection hg with _ hg _
      rcases hT with rfl | rfl | rfl <;> exact absurd hg (by decide)
    · obtain ⟨c2, hc⟩ := h.pT.own.kind g e
      rw [hc] at hg
      injection hg with hg
      injection hg with _ hg _
      rcases hT with rfl | rfl | rfl <;> exact absurd hg (by decide)

set_option maxHeartbeats 4000000 in
theorem keepLocator_k {B kb N : Nat} {D : Nat → Prop} {w0 w : World} (hB : BkH B kb D N w0 w) (hN : N < 900000) (a : Option Addr) (n c : Nat) (l : List L3) (hl : Own w B 79 3 encL3 (.slice a n c) l) (hll : l.length ≤ 1048577) (hne : ∀ g ∈ obk a, ¬ D g) :
    Calls Tryz.prog 102 #[.pointer (some ⟨kb, 0, none⟩), .slice a n c] w (KeptG B kb (fun g => D g ∨ g ∈ obk a) (N + 1) w0 w) := by
  obtain ⟨C, vT, vL, vE, hT, hL, hE, LT, LL, LE, h, hC, h0, lT, lL, lE, hD⟩ := hB
  refine (keepLocator_any B kb N C vL hL a n c w h.bk h.kbB hC h0 (by omega) h.cL h.pL.own (by omega)).mono ?_
  rintro e w2 ⟨⟨hv', rfl, bk2, hO2⟩, hk⟩
  have hnotS : ∀ g, KindIn w 79 79 g → ¬ (g = kb ∨ vL.ownBlock = some g) := by
    rintro g hg (rfl | e)
    · exact KindIn.not_bk (by decide) (by decide) h.bk hg
    · obtain ⟨cur, hc⟩ := h.pL.own.kind g e
      obtain ⟨c2, k | k⟩ := hg <;> rw [hc] at k <;> injection k with k <;> injection k with _ k _ <;> exact absurd k (by decide)
  have hbB : ∀ g, g = kb ∨ vL.ownBlock = some g → B ≤ g := by
    rintro g (rfl | e)
    · exact h.kbB
    · exact h.pL.base g (.inr e)
  have hbel := h.bel.trans (hk.below (B := B) hbB h.sz)
  have sz2 := Nat.le_trans h.sz hk.size
  have hcn : ∀ i, 0 < i → i < 18 → i ≠ 3 → i ≠ 15 → i ≠ 16 → ((C.set 0 (.int .i64 ((N : Int) + 1))).set 15 hv')[i]? = some (.slice none 0 0) := fun i h1 h2 h3 h4 h5 => by
    rw [List.getElem?_set_ne (by omega), List.getElem?_set_ne (by omega)]
    exact h.cn i h1 h2 h3 h4 h5
  have hpT := h.pT.kept hk (by
    rintro g hg (rfl | e)
    · exact KindIn.not_bk (by decide) (by decide) h.bk hg
    · exact KindIn.other (by decide) (by decide) (by decide) (by decide) hg (h.pL.kinds g (.inr e)))
  have hpE := h.pE.kept hk (by
    rintro g hg (rfl | e)
    · exact KindIn.not_bk (by decide) (by decide) h.bk hg
    · exact KindIn.other (by decide) (by decide) (by decide) (by decide) hg (h.pL.kinds g (.inr e)))
  have hme := h.pL.snoc hO2 hk (fun g ⟨cur, hc⟩ => hnotS g ⟨cur, .inl hc⟩) hl hll (fun g hg hs => hne g (mem_obk.1 hg) (hD g (.inr (.inl hs)))) (by omega) (by omega)
  refine ⟨rfl, ⟨_, vT, hv', vE, hT, hL ++ [⟨a, n, c, none, 0, 0, N + 1⟩], hE, LT, snocL hL.length LL l, LE, ⟨hbel, h.kbB, bk2, sz2, by rw [List.getElem?_set_ne (by decide), List.getElem?_set_ne (by decide)]; exact h.cT, List.getElem?_set_self (by simp [hC]), by rw [List.getElem?_set_ne (by decide), List.getElem?_set_ne (by decide)]; exact h.cE, hcn, hpT, hme, hpE, h.tab.keptB hk (fun g hg => Nat.lt_of_lt_of_le h.tB (hbB g hg)), h.tB⟩, by simp [hC], by rw [List.getElem?_set_ne (by decide), List.getElem?_set_self (by omega)]; rfl, by omega, by simp; omega, by omega, fun g hg => ?_⟩, ⟨hk.size, fun g cur T hT hg => hk.block g (Array.getElem?_eq_some_iff.1 hg).1 ?_⟩⟩
  · rcases hg with hg | hg | hg
    · exact .inl (hD g (.inl hg))
    · exact (hs_snoc hg).elim (fun hg => .inl (hD g (.inr (.inl hg)))) .inr
    · exact .inl (hD g (.inr (.inr hg)))
  · rintro (rfl | e)
    · have hbk := h.bk
      unfold Bk at hbk
      rw [hbk] at hg
      injection hg with hg
      injection hg with _ hg _
      rcases hT with rfl | rfl | rfl <;> exact absurd hg (by decide)
    · obtain ⟨c2, hc⟩ := h.pL.own.kind g e
      rw [hc] at hg
      injection hg with hg
      injection hg with _ hg _
      rcases hT with rfl | rfl | rfl <;> exact absurd hg (by decide)

set_option maxHeartbeats 4000000 in
theorem keepEntry_k {B kb N : Nat} {D : Nat → Prop} {w0 w : World} (hB : BkH B kb D N w0 w) (hN : N < 900000) (a : Option Addr) (n c : Nat) (l : List En) (hl : Own w B 29 4 encEn (.slice a n c) l) (hll : l.length ≤ 1048577) (hne : ∀ g ∈ obk a, ¬ D g) :
    Calls Tryz.prog 27 #[.pointer (some ⟨kb, 0, none⟩), .slice a n c] w (KeptG B kb (fun g => D g ∨ g ∈ obk a) (N + 1) w0 w) := by
  obtain ⟨C, vT, vL, vE, hT, hL, hE, LT, LL, LE, h, hC, h0, lT, lL, lE, hD⟩ := hB
  refine (keepEntry_any B kb N C vE hE a n c w h.bk h.kbB hC h0 (by omega) h.cE h.pE.own (by omega)).mono ?_
  rintro e w2 ⟨⟨hv', rfl, bk2, hO2⟩, hk⟩
  have hnotS : ∀ g, KindIn w 29 29 g → ¬ (g = kb ∨ vE.ownBlock = some g) := by
    rintro g hg (rfl | e)
    · exact KindIn.not_bk (by decide) (by decide) h.bk hg
    · obtain ⟨cur, hc⟩ := h.pE.own.kind g e
      obtain ⟨c2, k | k⟩ := hg <;> rw [hc] at k <;> injection k with k <;> injection k with _ k _ <;> exact absurd k (by decide)
  have hbB : ∀ g, g = kb ∨ vE.ownBlock = some g → B ≤ g := by
    rintro g (rfl | e)
    · exact h.kbB
    · exact h.pE.base g (.inr e)
  have hbel := h.bel.trans (hk.below (B := B) hbB h.sz)
  have sz2 := Nat.le_trans h.sz hk.size
  have hcn : ∀ i, 0 < i → i < 18 → i ≠ 3 → i ≠ 15 → i ≠ 16 → ((C.set 0 (.int .i64 ((N : Int) + 1))).set 16 hv')[i]? = some (.slice none 0 0) := fun i h1 h2 h3 h4 h5 => by
    rw [List.getElem?_set_ne (by omega), List.getElem?_set_ne (by omega)]
    exact h.cn i h1 h2 h3 h4 h5
  have hpT := h.pT.kept hk (by
    rintro g hg (rfl | e)
    · exact KindIn.not_bk (by decide) (by decide) h.bk hg
    · exact KindIn.other (by decide) (by decide) (by decide) (by decide) hg (h.pE.kinds g (.inr e)))
  have hpL := h.pL.kept hk (by
    rintro g hg (rfl | e)
    · exact KindIn.not_bk (by decide) (by decide) h.bk hg
    · exact KindIn.other (by decide) (by decide) (by decide) (by decide) hg (h.pE.kinds g (.inr e)))
  have hme := h.pE.snoc hO2 hk (fun g ⟨cur, hc⟩ => hnotS g ⟨cur, .inl hc⟩) hl hll (fun g hg hs => hne g (mem_obk.1 hg) (hD g (.inr (.inr hs)))) (by omega) (by omega)
  refine ⟨rfl, ⟨_, vT, vL, hv', hT, hL, hE ++ [⟨a, n, c, none, 0, 0, N + 1⟩], LT, LL, snocL hE.length LE l, ⟨hbel, h.kbB, bk2, sz2, by rw [List.getElem?_set_ne (by decide), List.getElem?_set_ne (by decide)]; exact h.cT, by rw [List.getElem?_set_ne (by decide), List.getElem?_set_ne (by decide)]; exact h.cL, List.getElem?_set_self (by simp [hC]), hcn, hpT, hpL, hme, h.tab.keptB hk (fun g hg => Nat.lt_of_lt_of_le h.tB (hbB g hg)), h.tB⟩, by simp [hC], by rw [List.getElem?_set_ne (by decide), List.getElem?_set_self (by omega)]; rfl, by omega, by omega, by simp; omega, fun g hg => ?_⟩, ⟨hk.size, fun g cur T hT hg => hk.block g (Array.getElem?_eq_some_iff.1 hg).1 ?_⟩⟩
  · rcases hg with hg | hg | hg
    · exact .inl (hD g (.inl hg))
    · exact .inl (hD g (.inr (.inl hg)))
    · exact (hs_snoc hg).elim (fun hg => .inl (hD g (.inr (.inr hg)))) .inr
  · rintro (rfl | e)
    · have hbk := h.bk
      unfold Bk at hbk
      rw [hbk] at hg
      injection hg with hg
      injection hg with _ hg _
      rcases hT with rfl | rfl | rfl <;> exact absurd hg (by decide)
    · obtain ⟨c2, hc⟩ := h.pE.own.kind g e
      rw [hc] at hg
      injection hg with hg
      injection hg with _ hg _
      rcases hT with rfl | rfl | rfl <;> exact absurd hg (by decide)

set_option maxHeartbeats 4000000 in
theorem Texts_k {B kb N : Nat} {D : Nat → Prop} {w0 w : World} (hB : BkH B kb D N w0 w) (hN : N < 900000) (a : Option Addr) (n c : Nat) (l : List Bytes) (hl : Own w B 9 1 encS (.slice a n c) l) (hll : l.length ≤ 1048577) (hne : ∀ g ∈ obk a, ¬ D g) :
    Calls Tryz.prog 29 #[.pointer (some ⟨kb, 0, none⟩), .slice a n c] w (KeptG B kb (fun g => D g ∨ g ∈ obk a) (N + 1) w0 w) := by
  have HK := Lib.hid (keepText_k hB hN a n c l hl hll hne)
  go_enter Tryz.func29, Tryz.ntmps29
  go_wp2_with (go_at_call 103; refine HK.out.mono ?_; rintro e w2 ⟨rfl, h2, hk⟩)
  go_end0
  exact ⟨rfl, h2, hk⟩

set_option maxHeartbeats 4000000 in
theorem Locators_k {B kb N : Nat} {D : Nat → Prop} {w0 w : World} (hB : BkH B kb D N w0 w) (hN : N < 900000) (a : Option Addr) (n c : Nat) (l : List LoK) (hl : Own w B 79 3 encLo (.slice a n c) l) (hll : l.length ≤ 1048577) (hne : ∀ g ∈ obk a, ¬ D g) :
    Calls Tryz.prog 28 #[.pointer (some ⟨kb, 0, none⟩), .slice a n c] w (KeptG B kb (fun g => D g ∨ g ∈ obk a) (N + 1) w0 w) := by
  have HK := Lib.hid (keepLocator_k hB hN a n c (l.map (·.1)) (own_L3 hl) (by rw [List.length_map]; exact hll) hne)
  go_enter Tryz.func28, Tryz.ntmps28
  go_wp2_with (go_at_call 102; refine HK.out.mono ?_; rintro e w2 ⟨rfl, h2, hk⟩)
  go_end0
  exact ⟨rfl, h2, hk⟩

set_option maxHeartbeats 4000000 in
/-- an entry, where those under it are kept as they are said to be -/
theorem Entry_of {B kb N : Nat} {D : Nat → Prop} {w0 w : World} (t : Bytes) (aa : Option Addr) (ac : Nat) (al : List LoK) (sa : Option Addr) (sc : Nat) (sl : List Bytes) (ua : Option Addr) (uc : Nat) (ul : List En) (hB : BkH B kb D N w0 w) (hN : N + cnE (.mk t aa ac al sa sc sl ua uc ul) < 900000) (hE : EnO B w (.mk t aa ac al sa sc sl ua uc ul)) (hsm : EnSm (.mk t aa ac al sa sc sl ua uc ul))
    (hnd : (bkE (.mk t aa ac al sa sc sl ua uc ul)).Nodup) (hne : ∀ g ∈ bkE (.mk t aa ac al sa sc sl ua uc ul), ¬ D g)
    (hrec : ∀ (D' : Nat → Prop) W, BkH B kb D' (N + 2) w0 W → KeepL w W → (∀ g ∈ obk ua ++ bkL ul, ¬ D' g) → Calls Tryz.prog 13 #[.pointer (some ⟨kb, 0, none⟩), .slice ua ul.length uc] W (KeptG B kb (fun g => D' g ∨ g ∈ obk ua ++ bkL ul) (N + 2 + cnL ul + 1) w0 W)) :
    Calls Tryz.prog 14 #[.pointer (some ⟨kb, 0, none⟩), .agg #[.string ⟨t.toArray⟩, .slice aa al.length ac, .slice sa sl.length sc, .slice ua ul.length uc]] w (KeptG B kb (fun g => D g ∨ g ∈ bkE (.mk t aa ac al sa sc sl ua uc ul)) (N + cnE (.mk t aa ac al sa sc sl ua uc ul)) w0 w) := by
  rw [cnE] at hN ⊢
  rw [bkE] at hnd hne
  have hnd' := hnd
  rw [List.nodup_append] at hnd'
  obtain ⟨_, hn2, hn3⟩ := hnd'
  have hn2' := hn2
  rw [List.nodup_append] at hn2'
  obtain ⟨_, hn4, hn5⟩ := hn2'
  have HB := Lib.hid hB
  have HE := Lib.hid hE
  have HR := Lib.hid hrec
  have hal : al.length ≤ 1000000 := by cases hsm; assumption
  have hsl : sl.length ≤ 1000000 := by cases hsm; assumption
  have H1 : Hid (∀ g ∈ obk aa, ¬ D g) := fun g hg => hne g (List.mem_append.2 (.inl hg))
  have H2 : Hid (∀ g ∈ obk sa, ¬ (D g ∨ g ∈ obk aa)) := fun g hg h => h.elim (hne g (List.mem_append.2 (.inr (List.mem_append.2 (.inl hg))))) (fun h => hn3 g h g (List.mem_append.2 (.inl hg)) rfl)
  have H3 : Hid (∀ g ∈ obk ua ++ bkL ul, ¬ ((D g ∨ g ∈ obk aa) ∨ g ∈ obk sa)) := fun g hg h => by
    rcases h with (h | h) | h
    · exact hne g (List.mem_append.2 (.inr (List.mem_append.2 (.inr hg)))) h
    · exact hn3 g h g (List.mem_append.2 (.inr hg)) rfl
    · exact hn5 g h g hg rfl
  clear hB hE hrec hne hnd hn2 hn3 hn4 hn5 hsm
  have HW : Hid (Below w.heap.size w (w.alloc (.cells #[.string ⟨t.toArray⟩, .slice aa al.length ac, .slice sa sl.length sc, .slice ua ul.length uc] 29))) := (Below.refl _ _).alloc (Nat.le_refl _) _
  have HX := Lib.hid (Bk.new w #[.string ⟨t.toArray⟩, .slice aa al.length ac, .slice sa sl.length sc, .slice ua ul.length uc] 29)
  go_enter Tryz.func14, Tryz.ntmps14
  go_wp2_with fail
  refine (Locators_k (HB.out.below HW.out) (by omega) aa al.length ac al (HE.out.als.below HW.out (Nat.le_refl _)) (by omega) H1.out).mono ?_
  rintro e w2 ⟨rfl, hb2, hk2⟩
  have HB2 := Lib.hid hb2
  have HK2 : Hid (KeepL w w2) := (KeepL.of_below HW.out).trans hk2
  have hx2 := hk2.bk HX.out
  have HX2 := Lib.hid hx2
  have c2 := hx2.cell 2
  change w2.cell? ⟨w.heap.size, 2, none⟩ = some (.slice sa sl.length sc) at c2
  clear hb2 hk2 hx2
  go_wp2_with fail
  refine (Texts_k HB2.out (by omega) sa sl.length sc sl (HK2.out.own (.inl rfl) HE.out.sls) (by omega) H2.out).mono ?_
  rintro e w3 ⟨rfl, hb3, hk3⟩
  have HB3 := Lib.hid hb3
  have HK3 : Hid (KeepL w w3) := HK2.out.trans hk3
  have hx3 := hk3.bk HX2.out
  have c3 := hx3.cell 3
  change w3.cell? ⟨w.heap.size, 3, none⟩ = some (.slice ua ul.length uc) at c3
  clear hb3 hk3 hx3 c2
  go_wp2_with fail
  refine (HR.out _ _ HB3.out HK3.out H3.out).mono ?_
  rintro e w4 ⟨rfl, hb4, hk4⟩
  have HB4 := Lib.hid hb4
  have HK4 : Hid (KeepL w w4) := HK3.out.trans hk4
  clear hb4 hk4
  go_wp2_with fail
  go_end0
  refine ⟨rfl, HB4.out.mono (fun g hg => ?_) (by omega), HK4.out⟩
  rw [bkE]
  rcases hg with ((hg | hg) | hg) | hg
  · exact .inl hg
  · exact .inr (List.mem_append.2 (.inl hg))
  · exact .inr (List.mem_append.2 (.inr (List.mem_append.2 (.inl hg))))
  · exact .inr (List.mem_append.2 (.inr (List.mem_append.2 (.inr hg))))
set_option maxHeartbeats 8000000 in
set_option maxRecDepth 100000 in
theorem Entries_n (n : Nat) : ∀ (l : List En), nEs l ≤ n → ∀ (B kb N : Nat) (D : Nat → Prop) (w0 w : World) (a : Option Addr) (c : Nat), BkH B kb D N w0 w → N + cnL l + 1 < 900000 → Own w B 29 4 encEn (.slice a l.length c) l → (∀ x ∈ l, EnO B w x) → (∀ x ∈ l, EnSm x) → l.length ≤ 1000000 →
    (obk a ++ bkL l).Nodup → (∀ g ∈ obk a ++ bkL l, ¬ D g) → Calls Tryz.prog 13 #[.pointer (some ⟨kb, 0, none⟩), .slice a l.length c] w (KeptG B kb (fun g => D g ∨ g ∈ obk a ++ bkL l) (N + cnL l + 1) w0 w) := by
  induction n using Nat.strongRecOn with
  | _ n ih =>
  intro l hd B kb N D w0 w a c hB hN hO hE hsm hll hnd hne
  rw [List.nodup_append] at hnd
  obtain ⟨_, hnl, hna⟩ := hnd
  have HB := Lib.hid hB
  have HO := Lib.hid hO
  have HNA : Hid (∀ g ∈ obk a, ¬ (D g ∨ g ∈ bkL l)) := fun g hg h => h.elim (hne g (List.mem_append.2 (.inl hg))) (fun h => hna g hg g h rfl)
  have HNE : Hid (∀ g ∈ bkL l, ¬ D g) := fun g hg => hne g (List.mem_append.2 (.inr hg))
  have HNL := Lib.hid hnl
  have HCN : Hid (∀ k (hk : k < l.length), N + cnL (l.take k) + cnE l[k] ≤ N + cnL l) := fun k hk => by
    have := cnL_take_succ hk
    have := cnL_take_le l (k + 1)
    omega
  have HREC : Hid (∀ (k : Nat) (x : En), l[k]? = some x → ∀ (D' : Nat → Prop) N' W, N' + cnE x < 900000 → BkH B kb D' N' w0 W → KeepL w W → (∀ g ∈ bkE x, ¬ D' g) → Calls Tryz.prog 14 #[.pointer (some ⟨kb, 0, none⟩), aggE x] W (KeptG B kb (fun g => D' g ∨ g ∈ bkE x) (N' + cnE x) w0 W)) := fun k x hx D' N' W hN' hB' hK' hne' => by
    have hxm := List.mem_of_getElem? hx
    have hex := hK'.en (hE x hxm)
    have hsx := hsm x hxm
    have hnx : (bkE x).Nodup := bkL_mem hnl hxm
    have hlt := nEs_mem hxm
    clear hE hsm hxm hx HNE HNL HCN HNA
    obtain ⟨t, aa, ac, al, sa, sc, sl, ua, uc, ul⟩ := x
    have hn2 : (obk ua ++ bkL ul).Nodup := by
      rw [bkE, List.nodup_append] at hnx
      have h := hnx.2.1
      rw [List.nodup_append] at h
      exact h.2.1
    refine Entry_of t aa ac al sa sc sl ua uc ul hB' hN' hex hsx hnx hne' fun D2 W2 hB2 hK2 hne2 => ?_
    have h1 := hex.kids
    have h2 := hsx.kids
    refine ih (nEs ul) ?_ ul (Nat.le_refl _) B kb (N' + 2) D2 w0 W2 ua uc hB2 (by rw [cnE] at hN'; omega) (hK2.own (.inr (.inr rfl)) hex.uls) (fun y hy => hK2.en (h1 y hy)) h2 (by cases hsx; assumption) hn2 hne2
    rw [nE] at hlt
    omega
  clear hB hO hE hsm hnl hna hne ih
  go_enter Tryz.func13, Tryz.ntmps13
  go_wp2_with fail
  go_loopw [4] (fun v4 wr => ∃ k : Nat, k ≤ l.length ∧ v4 = .int .i64 k ∧ Hid (BkH B kb (fun g => D g ∨ g ∈ bkL (l.take k)) (N + cnL (l.take k)) w0 wr) ∧ Hid (KeepL w wr)) (fun v4 _ => l.length - (intOf v4).toNat)
  case atStart => exact ⟨0, by omega, rfl, HB.out.mono (fun g h => .inl h) (by rw [List.take_zero, cnL]; rfl), KeepL.refl _⟩
  case round =>
    obtain ⟨k, hk, rfl, HBR, HKR⟩ := hrel
    by_cases hlt : k < l.length
    · obtain ⟨b, off, ha, hbl, hc⟩ := ((HKR.out.own (.inr (.inr rfl)) HO.out).addr encEn_ok).elem hlt
      subst ha
      have d0 := hc 0 _ rfl
      have d1 := hc 1 _ rfl
      have d2 := hc 2 _ rfl
      have d3 := hc 3 _ rfl
      rw [Nat.add_zero] at d0
      have HC := Lib.hid (HCN.out k hlt)
      have HG : Hid (l[k]? = some l[k]) := List.getElem?_eq_getElem hlt
      have HNX : Hid (∀ g ∈ bkE l[k], ¬ (D g ∨ g ∈ bkL (l.take k))) := fun g hg h => by
        rcases h with h | h
        · exact HNE.out g (mem_bkL.2 ⟨_, List.getElem_mem hlt, hg⟩) h
        · exact bkL_split HNL.out hlt g h hg
      have HT : Hid (l.take (k + 1) = l.take k ++ [l[k]]) := List.take_succ_eq_append_getElem hlt
      generalize l[k] = x at *
      have HCALL := Lib.hid (HREC.out k x HG.out _ _ wr (by have := HC.out; omega) HBR.out HKR.out HNX.out)
      clear hc
      go_wp2_with (go_at_call 14; refine HCALL.out.mono ?_; rintro e w2 ⟨rfl, hb2, hk2⟩)
      have HB2 : Hid (BkH B kb (fun g => D g ∨ g ∈ bkL (l.take (k + 1))) (N + cnL (l.take (k + 1))) w0 w2) := hb2.mono (fun g h => by
        rw [HT.out, bkL_snoc]
        rcases h with (h | h) | h
        · exact .inl h
        · exact .inr (List.mem_append.2 (.inl h))
        · exact .inr (List.mem_append.2 (.inr h))) (by rw [HT.out, cnL_snoc]; omega)
      have HK2 : Hid (KeepL w w2) := HKR.out.trans hk2
      clear hb2 hk2
      go_roundw
      case rel => exact ⟨k + 1, by omega, by go_num, HB2.out, HK2.out⟩
      case measure => simp [intOf]; omega
    · obtain rfl : k = l.length := by omega
      rw [List.take_length] at HBR
      have HKE := Lib.hid (keepEntry_k HBR.out (by omega) a l.length c l (HKR.out.own (.inr (.inr rfl)) HO.out) (by omega) HNA.out)
      go_wp2_with (go_at_call 27; refine HKE.out.mono ?_; rintro e w2 ⟨rfl, hb2, hk2⟩)
      go_end0
      refine ⟨rfl, hb2.mono (fun g h => ?_) rfl, HKR.out.trans hk2⟩
      rcases h with (h | h) | h
      · exact .inl h
      · exact .inr (List.mem_append.2 (.inr h))
      · exact .inr (List.mem_append.2 (.inl h))
theorem Entries_k {B kb N : Nat} {D : Nat → Prop} {w0 w : World} (l : List En) (a : Option Addr) (c : Nat) (hB : BkH B kb D N w0 w) (hN : N + cnL l + 1 < 900000) (hO : Own w B 29 4 encEn (.slice a l.length c) l) (hE : ∀ x ∈ l, EnO B w x) (hsm : ∀ x ∈ l, EnSm x) (hll : l.length ≤ 1000000) (hnd : (obk a ++ bkL l).Nodup) (hne : ∀ g ∈ obk a ++ bkL l, ¬ D g) :
    Calls Tryz.prog 13 #[.pointer (some ⟨kb, 0, none⟩), .slice a l.length c] w (KeptG B kb (fun g => D g ∨ g ∈ obk a ++ bkL l) (N + cnL l + 1) w0 w) :=
  Entries_n _ l (Nat.le_refl _) B kb N D w0 w a c hB hN hO hE hsm hll hnd hne
theorem Entry_k {B kb N : Nat} {D : Nat → Prop} {w0 w : World} (x : En) (hB : BkH B kb D N w0 w) (hN : N + cnE x < 900000) (hE : EnO B w x) (hsm : EnSm x) (hnd : (bkE x).Nodup) (hne : ∀ g ∈ bkE x, ¬ D g) :
    Calls Tryz.prog 14 #[.pointer (some ⟨kb, 0, none⟩), aggE x] w (KeptG B kb (fun g => D g ∨ g ∈ bkE x) (N + cnE x) w0 w) := by
  obtain ⟨t, aa, ac, al, sa, sc, sl, ua, uc, ul⟩ := x
  have hn2 : (obk ua ++ bkL ul).Nodup := by
    have h := hnd
    rw [bkE, List.nodup_append] at h
    have h := h.2.1
    rw [List.nodup_append] at h
    exact h.2.1
  refine Entry_of t aa ac al sa sc sl ua uc ul hB hN hE hsm hnd hne fun D2 W2 hB2 hK2 hne2 => ?_
  have h1 := hE.kids
  exact Entries_k ul ua uc hB2 (by rw [cnE] at hN; omega) (hK2.own (.inr (.inr rfl)) hE.uls) (fun y hy => hK2.en (h1 y hy)) hsm.kids (by cases hsm; assumption) hn2 hne2
end Go.Proofs.YtohinfefidahlaaGreatDoor
