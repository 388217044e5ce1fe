/- binderylaw01.Book.Apart, for a book that holds lists of texts and of sources. -/
import Derived.Test.YtfedkhicckgjaaaGreatDoorBkPart
import Derived.Test.YtfedkhicckgjaaaGreatDoorBkNil
import Derived.Test.YtfedkhicckgjaaaGreatDoorBkLText
import Derived.Test.YtfedkhicckgjaaaGreatDoorBkLSource
namespace Go.Proofs.YtfedkhicckgjaaaGreatDoor
open Go.RowKit
set_option linter.unusedVariables false

structure Bun (B kb : Nat) (C : List Value) (vt va : Value) (ht ha : List HeldV) (LT : Nat → List Bytes) (LA : Nat → List Two) (mt lt ma la : Prop) (w0 w : World) : Prop where
  bel : Below B w0 w
  kbB : B ≤ kb
  bk : Bk w kb C 50
  sz : B ≤ w.heap.size
  ct : C[3]? = some vt
  ca : C[6]? = some va
  cn : ∀ i, 0 < i → i < 18 → i ≠ 3 → i ≠ 6 → C[i]? = some (.slice none 0 0)
  pt : Part B 9 103 1 encS mkText vt ht LT mt lt w
  pa : Part B 63 101 2 encT mkSource va ha LA ma la w

section
variable {B kb : Nat} {C : List Value} {vt va : Value} {ht ha : List HeldV} {LT : Nat → List Bytes} {LA : Nat → List Two} {mt lt ma la : Prop} {w0 w w' : World} {e : Ending}
theorem Bun.fillT (h : Bun B kb C vt va ht ha LT LA mt False ma la w0 w) (hf : Filled B 9 1 encS mkText ht LT w e w') :
    e = .returned (.tuple #[]) ∧ Bun B kb C vt va ht ha (fun j => List.replicate (LT j).length (mkText ((ht[j]?.map (·.n)).getD 0))) LA True False ma la w0 w' := by
  obtain ⟨h1, h2, h3⟩ := h.pt.fill (by decide) hf
  exact ⟨h1, h.bel.trans (h3.below (fun g hg => h.pt.base g hg) h.sz), h.kbB, h3.bk h.bk (fun hg => KindIn.not_bk (by decide) (by decide) h.bk (h.pt.kinds _ hg)), Nat.le_trans h.sz h3.size, h.ct, h.ca, h.cn, h2, h.pa.kept h3 fun g hg hs => KindIn.other (by decide) (by decide) (by decide) (by decide) hg (h.pt.kinds _ hs)⟩
theorem Bun.fillA (h : Bun B kb C vt va ht ha LT LA mt lt ma False w0 w) (hf : Filled B 63 2 encT mkSource ha LA w e w') :
    e = .returned (.tuple #[]) ∧ Bun B kb C vt va ht ha LT (fun j => List.replicate (LA j).length (mkSource ((ha[j]?.map (·.n)).getD 0))) mt lt True False w0 w' := by
  obtain ⟨h1, h2, h3⟩ := h.pa.fill (by decide) hf
  exact ⟨h1, h.bel.trans (h3.below (fun g hg => h.pa.base g hg) h.sz), h.kbB, h3.bk h.bk (fun hg => KindIn.not_bk (by decide) (by decide) h.bk (h.pa.kinds _ hg)), Nat.le_trans h.sz h3.size, h.ct, h.ca, h.cn, h.pt.kept h3 fun g hg hs => KindIn.other (by decide) (by decide) (by decide) (by decide) hg (h.pa.kinds _ hs), h2⟩
theorem Bun.growT (h : Bun B kb C vt va ht ha LT LA mt False ma la w0 w) (hf : Grown B 9 103 1 encS mkText vt ht LT w e w') :
    e = .returned (.tuple #[]) ∧ ∃ ht', Bun B kb C vt va ht' ha LT LA mt True ma la w0 w' := by
  obtain ⟨h1, ⟨ht', _, h2⟩, h3⟩ := h.pt.grow hf
  exact ⟨h1, ht', h.bel.trans (h3.below (fun g hg => h.pt.base g hg) h.sz), h.kbB, h3.bk h.bk (fun hg => KindIn.not_bk (by decide) (by decide) h.bk (h.pt.kinds _ hg)), Nat.le_trans h.sz h3.size, h.ct, h.ca, h.cn, h2, h.pa.kept h3 fun g hg hs => KindIn.other (by decide) (by decide) (by decide) (by decide) hg (h.pt.kinds _ hs)⟩
theorem Bun.growA (h : Bun B kb C vt va ht ha LT LA mt lt ma False w0 w) (hf : Grown B 63 101 2 encT mkSource va ha LA w e w') :
    e = .returned (.tuple #[]) ∧ ∃ ha', Bun B kb C vt va ht ha' LT LA mt lt ma True w0 w' := by
  obtain ⟨h1, ⟨ha', _, h2⟩, h3⟩ := h.pa.grow hf
  exact ⟨h1, ha', h.bel.trans (h3.below (fun g hg => h.pa.base g hg) h.sz), h.kbB, h3.bk h.bk (fun hg => KindIn.not_bk (by decide) (by decide) h.bk (h.pa.kinds _ hg)), Nat.le_trans h.sz h3.size, h.ct, h.ca, h.cn, h.pt.kept h3 fun g hg hs => KindIn.other (by decide) (by decide) (by decide) (by decide) hg (h.pa.kinds _ hs), h2⟩
theorem Bun.below (h : Bun B kb C vt va ht ha LT LA mt lt ma la w0 w) (hb : Below w.heap.size w w') : Bun B kb C vt va ht ha LT LA mt lt ma la w0 w' := by
  have hk : Kept (fun _ => False) w w' := Kept.of_below hb
  exact ⟨h.bel.trans (hb.mono h.sz), h.kbB, hk.bk h.bk id, Nat.le_trans h.sz hb.size, h.ct, h.ca, h.cn, h.pt.kept hk fun _ _ => id, h.pa.kept hk fun _ _ => id⟩
end

set_option maxHeartbeats 8000000 in
set_option maxRecDepth 100000 in
theorem Apart_any (B kb : Nat) (C : List Value) (vt va : Value) (ht ha : List HeldV) (LT : Nat → List Bytes) (LA : Nat → List Two) (w0 w : World) (h : Bun B kb C vt va ht ha LT LA False False False False w0 w) :
    Calls Tryz.prog 21 #[.pointer (some ⟨kb, 0, none⟩)] w fun e w' => e = .returned (.bool true) ∧ Below B w0 w' := by
  have HB := Lib.hid h
  clear h
  go_enter Tryz.func21, Tryz.ntmps21
  go_wp2_with (first
    | (go_at_call 35; refine (fillByte_nil _ _ _ HB.out.bk (HB.out.cn 1 (by decide) (by decide) (by decide) (by decide))).mono ?_; rintro e w2 ⟨rfl, rfl⟩)
    | (go_at_call 36; refine (fillInt_nil _ _ _ HB.out.bk (HB.out.cn 2 (by decide) (by decide) (by decide) (by decide))).mono ?_; rintro e w2 ⟨rfl, rfl⟩)
    | (go_at_call 37; refine (fillText_any _ _ _ _ _ _ _ HB.out.bk HB.out.ct HB.out.pt.own HB.out.pt.hl HB.out.pt.el HB.out.pt.apart HB.out.pt.n HB.out.pt.hL).mono ?_; intro e w2 hf; obtain ⟨rfl, hq⟩ := HB.out.fillT hf; replace HB := Lib.hid hq; clear hf hq)
    | (go_at_call 38; refine (fillFault_nil _ _ _ HB.out.bk (HB.out.cn 4 (by decide) (by decide) (by decide) (by decide))).mono ?_; rintro e w2 ⟨rfl, rfl⟩)
    | (go_at_call 39; refine (fillLine_nil _ _ _ HB.out.bk (HB.out.cn 5 (by decide) (by decide) (by decide) (by decide))).mono ?_; rintro e w2 ⟨rfl, rfl⟩)
    | (go_at_call 41; refine (fillAttr_nil _ _ _ HB.out.bk (HB.out.cn 7 (by decide) (by decide) (by decide) (by decide))).mono ?_; rintro e w2 ⟨rfl, rfl⟩)
    | (go_at_call 40; refine (fillSource_any _ _ _ _ _ _ _ HB.out.bk HB.out.ca HB.out.pa.own HB.out.pa.hl HB.out.pa.el HB.out.pa.apart HB.out.pa.n HB.out.pa.hL).mono ?_; intro e w2 hf; obtain ⟨rfl, hq⟩ := HB.out.fillA hf; replace HB := Lib.hid hq; clear hf hq)
    | (go_at_call 42; refine (fillDiag_nil _ _ _ HB.out.bk (HB.out.cn 8 (by decide) (by decide) (by decide) (by decide))).mono ?_; rintro e w2 ⟨rfl, rfl⟩)
    | (go_at_call 43; refine (fillSpan_nil _ _ _ HB.out.bk (HB.out.cn 9 (by decide) (by decide) (by decide) (by decide))).mono ?_; rintro e w2 ⟨rfl, rfl⟩)
    | (go_at_call 44; refine (fillCell_nil _ _ _ HB.out.bk (HB.out.cn 10 (by decide) (by decide) (by decide) (by decide))).mono ?_; rintro e w2 ⟨rfl, rfl⟩)
    | (go_at_call 45; refine (fillRow_nil _ _ _ HB.out.bk (HB.out.cn 11 (by decide) (by decide) (by decide) (by decide))).mono ?_; rintro e w2 ⟨rfl, rfl⟩)
    | (go_at_call 46; refine (fillBlock_nil _ _ _ HB.out.bk (HB.out.cn 12 (by decide) (by decide) (by decide) (by decide))).mono ?_; rintro e w2 ⟨rfl, rfl⟩)
    | (go_at_call 47; refine (fillChapter_nil _ _ _ HB.out.bk (HB.out.cn 13 (by decide) (by decide) (by decide) (by decide))).mono ?_; rintro e w2 ⟨rfl, rfl⟩)
    | (go_at_call 48; refine (fillPlace_nil _ _ _ HB.out.bk (HB.out.cn 14 (by decide) (by decide) (by decide) (by decide))).mono ?_; rintro e w2 ⟨rfl, rfl⟩)
    | (go_at_call 49; refine (fillLocator_nil _ _ _ HB.out.bk (HB.out.cn 15 (by decide) (by decide) (by decide) (by decide))).mono ?_; rintro e w2 ⟨rfl, rfl⟩)
    | (go_at_call 50; refine (fillEntry_nil _ _ _ HB.out.bk (HB.out.cn 16 (by decide) (by decide) (by decide) (by decide))).mono ?_; rintro e w2 ⟨rfl, rfl⟩)
    | (go_at_call 51; refine (fillFile_nil _ _ _ HB.out.bk (HB.out.cn 17 (by decide) (by decide) (by decide) (by decide))).mono ?_; rintro e w2 ⟨rfl, rfl⟩)
    | (go_at_call 52; refine (growByte_nil _ _ _ HB.out.bk (HB.out.cn 1 (by decide) (by decide) (by decide) (by decide))).mono ?_; rintro e w2 ⟨rfl, rfl⟩)
    | (go_at_call 53; refine (growInt_nil _ _ _ HB.out.bk (HB.out.cn 2 (by decide) (by decide) (by decide) (by decide))).mono ?_; rintro e w2 ⟨rfl, rfl⟩)
    | (go_at_call 54; refine (growText_any _ _ _ _ _ _ _ HB.out.bk HB.out.sz HB.out.ct HB.out.pt.own HB.out.pt.hl HB.out.pt.el HB.out.pt.apart HB.out.pt.n HB.out.pt.hL).mono ?_; intro e w2 hf; obtain ⟨rfl, hx, hq⟩ := HB.out.growT hf; replace HB := Lib.hid hq; clear hf hq)
    | (go_at_call 55; refine (growFault_nil _ _ _ HB.out.bk (HB.out.cn 4 (by decide) (by decide) (by decide) (by decide))).mono ?_; rintro e w2 ⟨rfl, rfl⟩)
    | (go_at_call 56; refine (growLine_nil _ _ _ HB.out.bk (HB.out.cn 5 (by decide) (by decide) (by decide) (by decide))).mono ?_; rintro e w2 ⟨rfl, rfl⟩)
    | (go_at_call 58; refine (growAttr_nil _ _ _ HB.out.bk (HB.out.cn 7 (by decide) (by decide) (by decide) (by decide))).mono ?_; rintro e w2 ⟨rfl, rfl⟩)
    | (go_at_call 57; refine (growSource_any _ _ _ _ _ _ _ HB.out.bk HB.out.sz HB.out.ca HB.out.pa.own HB.out.pa.hl HB.out.pa.el HB.out.pa.apart HB.out.pa.n HB.out.pa.hL).mono ?_; intro e w2 hf; obtain ⟨rfl, hx, hq⟩ := HB.out.growA hf; replace HB := Lib.hid hq; clear hf hq)
    | (go_at_call 59; refine (growDiag_nil _ _ _ HB.out.bk (HB.out.cn 8 (by decide) (by decide) (by decide) (by decide))).mono ?_; rintro e w2 ⟨rfl, rfl⟩)
    | (go_at_call 60; refine (growSpan_nil _ _ _ HB.out.bk (HB.out.cn 9 (by decide) (by decide) (by decide) (by decide))).mono ?_; rintro e w2 ⟨rfl, rfl⟩)
    | (go_at_call 61; refine (growCell_nil _ _ _ HB.out.bk (HB.out.cn 10 (by decide) (by decide) (by decide) (by decide))).mono ?_; rintro e w2 ⟨rfl, rfl⟩)
    | (go_at_call 62; refine (growRow_nil _ _ _ HB.out.bk (HB.out.cn 11 (by decide) (by decide) (by decide) (by decide))).mono ?_; rintro e w2 ⟨rfl, rfl⟩)
    | (go_at_call 63; refine (growBlock_nil _ _ _ HB.out.bk (HB.out.cn 12 (by decide) (by decide) (by decide) (by decide))).mono ?_; rintro e w2 ⟨rfl, rfl⟩)
    | (go_at_call 64; refine (growChapter_nil _ _ _ HB.out.bk (HB.out.cn 13 (by decide) (by decide) (by decide) (by decide))).mono ?_; rintro e w2 ⟨rfl, rfl⟩)
    | (go_at_call 65; refine (growPlace_nil _ _ _ HB.out.bk (HB.out.cn 14 (by decide) (by decide) (by decide) (by decide))).mono ?_; rintro e w2 ⟨rfl, rfl⟩)
    | (go_at_call 66; refine (growLocator_nil _ _ _ HB.out.bk (HB.out.cn 15 (by decide) (by decide) (by decide) (by decide))).mono ?_; rintro e w2 ⟨rfl, rfl⟩)
    | (go_at_call 67; refine (growEntry_nil _ _ _ HB.out.bk (HB.out.cn 16 (by decide) (by decide) (by decide) (by decide))).mono ?_; rintro e w2 ⟨rfl, rfl⟩)
    | (go_at_call 68; refine (growFile_nil _ _ _ HB.out.bk (HB.out.cn 17 (by decide) (by decide) (by decide) (by decide))).mono ?_; rintro e w2 ⟨rfl, rfl⟩)
    | (go_at_call 69; refine (lookByte_nil _ _ _ HB.out.bk (HB.out.cn 1 (by decide) (by decide) (by decide) (by decide))).mono ?_; rintro e w2 ⟨rfl, rfl⟩)
    | (go_at_call 70; refine (lookInt_nil _ _ _ HB.out.bk (HB.out.cn 2 (by decide) (by decide) (by decide) (by decide))).mono ?_; rintro e w2 ⟨rfl, rfl⟩)
    | (go_at_call 71; refine (lookText_any _ _ _ _ _ _ _ HB.out.bk HB.out.ct HB.out.pt.own HB.out.pt.hl HB.out.pt.lookE HB.out.pt.lookG HB.out.pt.n HB.out.pt.hL).mono ?_; rintro e w2 ⟨rfl, hb⟩; replace HB := Lib.hid (HB.out.below hb); clear hb)
    | (go_at_call 72; refine (lookFault_nil _ _ _ HB.out.bk (HB.out.cn 4 (by decide) (by decide) (by decide) (by decide))).mono ?_; rintro e w2 ⟨rfl, rfl⟩)
    | (go_at_call 73; refine (lookLine_nil _ _ _ HB.out.bk (HB.out.cn 5 (by decide) (by decide) (by decide) (by decide))).mono ?_; rintro e w2 ⟨rfl, rfl⟩)
    | (go_at_call 75; refine (lookAttr_nil _ _ _ HB.out.bk (HB.out.cn 7 (by decide) (by decide) (by decide) (by decide))).mono ?_; rintro e w2 ⟨rfl, rfl⟩)
    | (go_at_call 74; refine (lookSource_any _ _ _ _ _ _ _ HB.out.bk HB.out.ca HB.out.pa.own HB.out.pa.hl HB.out.pa.lookE HB.out.pa.lookG HB.out.pa.n HB.out.pa.hL).mono ?_; rintro e w2 ⟨rfl, hb⟩; replace HB := Lib.hid (HB.out.below hb); clear hb)
    | (go_at_call 76; refine (lookDiag_nil _ _ _ HB.out.bk (HB.out.cn 8 (by decide) (by decide) (by decide) (by decide))).mono ?_; rintro e w2 ⟨rfl, rfl⟩)
    | (go_at_call 77; refine (lookSpan_nil _ _ _ HB.out.bk (HB.out.cn 9 (by decide) (by decide) (by decide) (by decide))).mono ?_; rintro e w2 ⟨rfl, rfl⟩)
    | (go_at_call 78; refine (lookCell_nil _ _ _ HB.out.bk (HB.out.cn 10 (by decide) (by decide) (by decide) (by decide))).mono ?_; rintro e w2 ⟨rfl, rfl⟩)
    | (go_at_call 79; refine (lookRow_nil _ _ _ HB.out.bk (HB.out.cn 11 (by decide) (by decide) (by decide) (by decide))).mono ?_; rintro e w2 ⟨rfl, rfl⟩)
    | (go_at_call 80; refine (lookBlock_nil _ _ _ HB.out.bk (HB.out.cn 12 (by decide) (by decide) (by decide) (by decide))).mono ?_; rintro e w2 ⟨rfl, rfl⟩)
    | (go_at_call 81; refine (lookChapter_nil _ _ _ HB.out.bk (HB.out.cn 13 (by decide) (by decide) (by decide) (by decide))).mono ?_; rintro e w2 ⟨rfl, rfl⟩)
    | (go_at_call 82; refine (lookPlace_nil _ _ _ HB.out.bk (HB.out.cn 14 (by decide) (by decide) (by decide) (by decide))).mono ?_; rintro e w2 ⟨rfl, rfl⟩)
    | (go_at_call 83; refine (lookLocator_nil _ _ _ HB.out.bk (HB.out.cn 15 (by decide) (by decide) (by decide) (by decide))).mono ?_; rintro e w2 ⟨rfl, rfl⟩)
    | (go_at_call 84; refine (lookEntry_nil _ _ _ HB.out.bk (HB.out.cn 16 (by decide) (by decide) (by decide) (by decide))).mono ?_; rintro e w2 ⟨rfl, rfl⟩)
    | (go_at_call 85; refine (lookFile_nil _ _ _ HB.out.bk (HB.out.cn 17 (by decide) (by decide) (by decide) (by decide))).mono ?_; rintro e w2 ⟨rfl, rfl⟩))
  go_ret
  exact ⟨rfl, HB.out.bel⟩
end Go.Proofs.YtfedkhicckgjaaaGreatDoor
