/- One line of the source that is read now: its roads. -/
import Derived.Test.YtfedkhicckgjaaaGreatDoorRdFour
namespace Go.Proofs.YtfedkhicckgjaaaGreatDoor
open Go.RowKit
set_option linter.unusedVariables false

set_option maxHeartbeats 4000000 in
set_option maxRecDepth 100000 in
theorem line_set_n (A : Adr) (L : List Two) (r : RS) (V : Vals) (ss : List Op1) (x : Op1) (w : World) (h : Core A L r V (ss ++ [x]) w) (ht : Top A r.top x w) (hss : ss.length ≤ 900) (l : Pl) (hfit : r.fits = true) (hlen : l.text.length ≤ 100000) (hh : Lib.hasPrefix l.text [64] = true) (hix : idxOk l.text = true) (hbl : blankI l.text = none) (hw : mapGet wordsKV l.text = some (.agg #[.func (.func 134) #[] #[], .bool false])) (hf : r.top.force = true) (r2 : RS) (hd : ∀ w', Core A L r V (ss ++ [x]) w' → Top A r.top x w' → Calls Tryz.prog 134 #[.pointer (some ⟨A.rb, 0, none⟩), .agg #[.string ⟨l.file.toArray⟩, .int .i64 l.no, .string ⟨l.text.toArray⟩], .string ⟨#[]⟩] w' (LineGives A L V ss x w' r2)) :
    Calls Tryz.prog 164 #[.pointer (some ⟨A.rb, 0, none⟩), .agg #[.string ⟨l.file.toArray⟩, .int .i64 l.no, .string ⟨l.text.toArray⟩]] w (LineGives A L V ss x w r2) := by
  obtain ⟨f1, f2, f3, f4, f5, f6, f7⟩ := fit_parts hfit
  have HC := Lib.hid h
  have HT := Lib.hid ht
  have HH := Lib.hid hh
  have HBL := Lib.hid hbl
  have HW := Lib.hid hw
  have HF := Lib.hid hf
  have HD := Lib.hid hd
  have hrb : A.rb < w.heap.size := h.rb.lt
  clear hh hbl hw hf hd
  clear h ht
  go_enter Tryz.func164, Tryz.ntmps164
  have hb0 : Below w.heap.size w (w.alloc (.cells #[.string ⟨l.file.toArray⟩, .int .i64 l.no, .string ⟨l.text.toArray⟩] 205)) := (Below.refl _ _).alloc (Nat.le_refl _) _
  have HP0 : Hid (Bk (w.alloc (.cells #[.string ⟨l.file.toArray⟩, .int .i64 l.no, .string ⟨l.text.toArray⟩] 205)) w.heap.size [.string ⟨l.file.toArray⟩, .int .i64 l.no, .string ⟨l.text.toArray⟩] 205) := Bk.new w #[.string ⟨l.file.toArray⟩, .int .i64 l.no, .string ⟨l.text.toArray⟩] 205
  go_wp2_with (first
    | (go_at_call 201; refine (hasPrefix_any l.text [64] _).mono ?_; rw [HH.out]; rintro e w1 ⟨rfl, rfl⟩)
    | (go_at_call 156; refine (indexAny_any l.text _ (by omega) hix).mono ?_; rw [HBL.out, idxI_none]; rintro e w3 ⟨rfl, hc⟩; have hb3 := hb0.trans (hc.mono hb0.size); have HP3 := Lib.hid (HP0.out.next hc); have HC3 := Lib.hid (HC.out.next hb3); have HT3 := Lib.hid (HT.out.next hb3); clear hc; have p0 := HP3.out.cell 0; have p1 := HP3.out.cell 1; have p2 := HP3.out.cell 2; simp only [List.getElem?_cons_zero, List.getElem?_cons_succ] at p0 p1 p2; have c2 : w3.cell? ⟨A.rb, 2, none⟩ = some (.map (some A.wm)) := (by rw [HC3.out.rb.cell]; rfl))
    | (refine wpList_smap_lookup rfl (.tmp 60) (.tmp 61) 84 9 200 true rfl Tryz.underlying84 Tryz.underlying9 (.agg #[.nilFunc, .bool false]) (zeroWord _) A.wm wordsKV HC3.out.wm l.text rfl rfl ?_; rw [HW.out]; have hb5 := hb3.alloc hb3.size (.cells #[.func (.func 134) #[] #[], .bool false] 200); have hlt5 := HP3.out.lt; have HC5 := Lib.hid (HC.out.next hb5); have HT5 := Lib.hid (HT.out.next hb5); have HP5 := Lib.hid (HP3.out.alloc (.cells #[.func (.func 134) #[] #[], .bool false] 200)); have HWB5 := Lib.hid (Bk.new w3 #[.func (.func 134) #[] #[], .bool false] 200))
    | (go_at_call 147; refine (top_any A L r V ss x _ HC5.out (by omega)).mono ?_; rintro e w6 ⟨rfl, hc⟩; have hb6 := hb5.trans (hc.mono hb5.size); have HP6 := Lib.hid (HP5.out.next hc); have HWB6 := Lib.hid (HWB5.out.next hc); clear hc)
    | (go_at_call 148; refine (force_any A r.top x _ (HT.out.next hb6) (by omega)).mono ?_; rw [HF.out]; rintro e w7 ⟨rfl, hc⟩; have hb7 := hb6.trans (hc.mono hb6.size); have HP7 := Lib.hid (HP6.out.next hc); have HWB7 := Lib.hid (HWB6.out.next hc); have HC7 := Lib.hid (HC.out.next hb7); have HT7 := Lib.hid (HT.out.next hb7); clear hc; have d0 := HP7.out.cell 0; have d1 := HP7.out.cell 1; have d2 := HP7.out.cell 2; have d3 := HWB7.out.cell 0; simp only [List.getElem?_cons_zero, List.getElem?_cons_succ] at d0 d1 d2 d3)
    | (go_at_call 134; refine (HD.out _ HC7.out HT7.out).mono ?_; rintro e w8 ⟨rfl, V', x', h1, h2, h3⟩; have HRS : Hid (∃ V' x', Core A L r2 V' (ss ++ [x']) w8 ∧ Top A r2.top x' w8 ∧ StepT A V x w V' x' w8) := ⟨V', x', h1, h2, ((StepT.refl A V x w).below hb7).trans h3⟩; clear h1 h2 h3))
  go_end0
  exact ⟨rfl, HRS.out⟩

set_option maxHeartbeats 4000000 in
set_option maxRecDepth 100000 in
theorem line_set_off_n (A : Adr) (L : List Two) (r : RS) (V : Vals) (ss : List Op1) (x : Op1) (w : World) (h : Core A L r V (ss ++ [x]) w) (ht : Top A r.top x w) (hss : ss.length ≤ 900) (l : Pl) (hfit : r.fits = true) (hlen : l.text.length ≤ 100000) (hh : Lib.hasPrefix l.text [64] = true) (hix : idxOk l.text = true) (hbl : blankI l.text = none) (hw : mapGet wordsKV l.text = some (.agg #[.func (.func 134) #[] #[], .bool false])) (hf : r.top.force = false) :
    Calls Tryz.prog 164 #[.pointer (some ⟨A.rb, 0, none⟩), .agg #[.string ⟨l.file.toArray⟩, .int .i64 l.no, .string ⟨l.text.toArray⟩]] w (LineGives A L V ss x w r) := by
  obtain ⟨f1, f2, f3, f4, f5, f6, f7⟩ := fit_parts hfit
  have HC := Lib.hid h
  have HT := Lib.hid ht
  have HH := Lib.hid hh
  have HBL := Lib.hid hbl
  have HW := Lib.hid hw
  have HF := Lib.hid hf
  have hrb : A.rb < w.heap.size := h.rb.lt
  clear hh hbl hw hf
  clear h ht
  go_enter Tryz.func164, Tryz.ntmps164
  have hb0 : Below w.heap.size w (w.alloc (.cells #[.string ⟨l.file.toArray⟩, .int .i64 l.no, .string ⟨l.text.toArray⟩] 205)) := (Below.refl _ _).alloc (Nat.le_refl _) _
  have HP0 : Hid (Bk (w.alloc (.cells #[.string ⟨l.file.toArray⟩, .int .i64 l.no, .string ⟨l.text.toArray⟩] 205)) w.heap.size [.string ⟨l.file.toArray⟩, .int .i64 l.no, .string ⟨l.text.toArray⟩] 205) := Bk.new w #[.string ⟨l.file.toArray⟩, .int .i64 l.no, .string ⟨l.text.toArray⟩] 205
  go_wp2_with (first
    | (go_at_call 201; refine (hasPrefix_any l.text [64] _).mono ?_; rw [HH.out]; rintro e w1 ⟨rfl, rfl⟩)
    | (go_at_call 156; refine (indexAny_any l.text _ (by omega) hix).mono ?_; rw [HBL.out, idxI_none]; rintro e w3 ⟨rfl, hc⟩; have hb3 := hb0.trans (hc.mono hb0.size); have HP3 := Lib.hid (HP0.out.next hc); have HC3 := Lib.hid (HC.out.next hb3); have HT3 := Lib.hid (HT.out.next hb3); clear hc; have p0 := HP3.out.cell 0; have p1 := HP3.out.cell 1; have p2 := HP3.out.cell 2; simp only [List.getElem?_cons_zero, List.getElem?_cons_succ] at p0 p1 p2; have c2 : w3.cell? ⟨A.rb, 2, none⟩ = some (.map (some A.wm)) := (by rw [HC3.out.rb.cell]; rfl))
    | (refine wpList_smap_lookup rfl (.tmp 60) (.tmp 61) 84 9 200 true rfl Tryz.underlying84 Tryz.underlying9 (.agg #[.nilFunc, .bool false]) (zeroWord _) A.wm wordsKV HC3.out.wm l.text rfl rfl ?_; rw [HW.out]; have hb5 := hb3.alloc hb3.size (.cells #[.func (.func 134) #[] #[], .bool false] 200); have hlt5 := HP3.out.lt; have HC5 := Lib.hid (HC.out.next hb5); have HT5 := Lib.hid (HT.out.next hb5); have HP5 := Lib.hid (HP3.out.alloc (.cells #[.func (.func 134) #[] #[], .bool false] 200)); have HWB5 := Lib.hid (Bk.new w3 #[.func (.func 134) #[] #[], .bool false] 200))
    | (go_at_call 147; refine (top_any A L r V ss x _ HC5.out (by omega)).mono ?_; rintro e w6 ⟨rfl, hc⟩; have hb6 := hb5.trans (hc.mono hb5.size); have HP6 := Lib.hid (HP5.out.next hc); have HWB6 := Lib.hid (HWB5.out.next hc); clear hc)
    | (go_at_call 148; refine (force_any A r.top x _ (HT.out.next hb6) (by omega)).mono ?_; rw [HF.out]; rintro e w7 ⟨rfl, hc⟩; have hb7 := hb6.trans (hc.mono hb6.size); have HP7 := Lib.hid (HP6.out.next hc); have HWB7 := Lib.hid (HWB6.out.next hc); have HC7 := Lib.hid (HC.out.next hb7); have HT7 := Lib.hid (HT.out.next hb7); clear hc; have d0 := HP7.out.cell 0; have d1 := HP7.out.cell 1; have d2 := HP7.out.cell 2; have d3 := HWB7.out.cell 0; simp only [List.getElem?_cons_zero, List.getElem?_cons_succ] at d0 d1 d2 d3))
  go_end0
  exact ⟨rfl, V, x, HC7.out, HT7.out, (StepT.refl A V x w).below hb7⟩

set_option maxHeartbeats 4000000 in
set_option maxRecDepth 100000 in
theorem line_unset_n (A : Adr) (L : List Two) (r : RS) (V : Vals) (ss : List Op1) (x : Op1) (w : World) (h : Core A L r V (ss ++ [x]) w) (ht : Top A r.top x w) (hss : ss.length ≤ 900) (l : Pl) (hfit : r.fits = true) (hlen : l.text.length ≤ 100000) (hh : Lib.hasPrefix l.text [64] = true) (hix : idxOk l.text = true) (hbl : blankI l.text = none) (hw : mapGet wordsKV l.text = some (.agg #[.func (.func 135) #[] #[], .bool false])) (hf : r.top.force = true) (r2 : RS) (hd : ∀ w', Core A L r V (ss ++ [x]) w' → Top A r.top x w' → Calls Tryz.prog 135 #[.pointer (some ⟨A.rb, 0, none⟩), .agg #[.string ⟨l.file.toArray⟩, .int .i64 l.no, .string ⟨l.text.toArray⟩], .string ⟨#[]⟩] w' (LineGives A L V ss x w' r2)) :
    Calls Tryz.prog 164 #[.pointer (some ⟨A.rb, 0, none⟩), .agg #[.string ⟨l.file.toArray⟩, .int .i64 l.no, .string ⟨l.text.toArray⟩]] w (LineGives A L V ss x w r2) := by
  obtain ⟨f1, f2, f3, f4, f5, f6, f7⟩ := fit_parts hfit
  have HC := Lib.hid h
  have HT := Lib.hid ht
  have HH := Lib.hid hh
  have HBL := Lib.hid hbl
  have HW := Lib.hid hw
  have HF := Lib.hid hf
  have HD := Lib.hid hd
  have hrb : A.rb < w.heap.size := h.rb.lt
  clear hh hbl hw hf hd
  clear h ht
  go_enter Tryz.func164, Tryz.ntmps164
  have hb0 : Below w.heap.size w (w.alloc (.cells #[.string ⟨l.file.toArray⟩, .int .i64 l.no, .string ⟨l.text.toArray⟩] 205)) := (Below.refl _ _).alloc (Nat.le_refl _) _
  have HP0 : Hid (Bk (w.alloc (.cells #[.string ⟨l.file.toArray⟩, .int .i64 l.no, .string ⟨l.text.toArray⟩] 205)) w.heap.size [.string ⟨l.file.toArray⟩, .int .i64 l.no, .string ⟨l.text.toArray⟩] 205) := Bk.new w #[.string ⟨l.file.toArray⟩, .int .i64 l.no, .string ⟨l.text.toArray⟩] 205
  go_wp2_with (first
    | (go_at_call 201; refine (hasPrefix_any l.text [64] _).mono ?_; rw [HH.out]; rintro e w1 ⟨rfl, rfl⟩)
    | (go_at_call 156; refine (indexAny_any l.text _ (by omega) hix).mono ?_; rw [HBL.out, idxI_none]; rintro e w3 ⟨rfl, hc⟩; have hb3 := hb0.trans (hc.mono hb0.size); have HP3 := Lib.hid (HP0.out.next hc); have HC3 := Lib.hid (HC.out.next hb3); have HT3 := Lib.hid (HT.out.next hb3); clear hc; have p0 := HP3.out.cell 0; have p1 := HP3.out.cell 1; have p2 := HP3.out.cell 2; simp only [List.getElem?_cons_zero, List.getElem?_cons_succ] at p0 p1 p2; have c2 : w3.cell? ⟨A.rb, 2, none⟩ = some (.map (some A.wm)) := (by rw [HC3.out.rb.cell]; rfl))
    | (refine wpList_smap_lookup rfl (.tmp 60) (.tmp 61) 84 9 200 true rfl Tryz.underlying84 Tryz.underlying9 (.agg #[.nilFunc, .bool false]) (zeroWord _) A.wm wordsKV HC3.out.wm l.text rfl rfl ?_; rw [HW.out]; have hb5 := hb3.alloc hb3.size (.cells #[.func (.func 135) #[] #[], .bool false] 200); have hlt5 := HP3.out.lt; have HC5 := Lib.hid (HC.out.next hb5); have HT5 := Lib.hid (HT.out.next hb5); have HP5 := Lib.hid (HP3.out.alloc (.cells #[.func (.func 135) #[] #[], .bool false] 200)); have HWB5 := Lib.hid (Bk.new w3 #[.func (.func 135) #[] #[], .bool false] 200))
    | (go_at_call 147; refine (top_any A L r V ss x _ HC5.out (by omega)).mono ?_; rintro e w6 ⟨rfl, hc⟩; have hb6 := hb5.trans (hc.mono hb5.size); have HP6 := Lib.hid (HP5.out.next hc); have HWB6 := Lib.hid (HWB5.out.next hc); clear hc)
    | (go_at_call 148; refine (force_any A r.top x _ (HT.out.next hb6) (by omega)).mono ?_; rw [HF.out]; rintro e w7 ⟨rfl, hc⟩; have hb7 := hb6.trans (hc.mono hb6.size); have HP7 := Lib.hid (HP6.out.next hc); have HWB7 := Lib.hid (HWB6.out.next hc); have HC7 := Lib.hid (HC.out.next hb7); have HT7 := Lib.hid (HT.out.next hb7); clear hc; have d0 := HP7.out.cell 0; have d1 := HP7.out.cell 1; have d2 := HP7.out.cell 2; have d3 := HWB7.out.cell 0; simp only [List.getElem?_cons_zero, List.getElem?_cons_succ] at d0 d1 d2 d3)
    | (go_at_call 135; refine (HD.out _ HC7.out HT7.out).mono ?_; rintro e w8 ⟨rfl, V', x', h1, h2, h3⟩; have HRS : Hid (∃ V' x', Core A L r2 V' (ss ++ [x']) w8 ∧ Top A r2.top x' w8 ∧ StepT A V x w V' x' w8) := ⟨V', x', h1, h2, ((StepT.refl A V x w).below hb7).trans h3⟩; clear h1 h2 h3))
  go_end0
  exact ⟨rfl, HRS.out⟩

set_option maxHeartbeats 4000000 in
set_option maxRecDepth 100000 in
theorem line_unset_off_n (A : Adr) (L : List Two) (r : RS) (V : Vals) (ss : List Op1) (x : Op1) (w : World) (h : Core A L r V (ss ++ [x]) w) (ht : Top A r.top x w) (hss : ss.length ≤ 900) (l : Pl) (hfit : r.fits = true) (hlen : l.text.length ≤ 100000) (hh : Lib.hasPrefix l.text [64] = true) (hix : idxOk l.text = true) (hbl : blankI l.text = none) (hw : mapGet wordsKV l.text = some (.agg #[.func (.func 135) #[] #[], .bool false])) (hf : r.top.force = false) :
    Calls Tryz.prog 164 #[.pointer (some ⟨A.rb, 0, none⟩), .agg #[.string ⟨l.file.toArray⟩, .int .i64 l.no, .string ⟨l.text.toArray⟩]] w (LineGives A L V ss x w r) := by
  obtain ⟨f1, f2, f3, f4, f5, f6, f7⟩ := fit_parts hfit
  have HC := Lib.hid h
  have HT := Lib.hid ht
  have HH := Lib.hid hh
  have HBL := Lib.hid hbl
  have HW := Lib.hid hw
  have HF := Lib.hid hf
  have hrb : A.rb < w.heap.size := h.rb.lt
  clear hh hbl hw hf
  clear h ht
  go_enter Tryz.func164, Tryz.ntmps164
  have hb0 : Below w.heap.size w (w.alloc (.cells #[.string ⟨l.file.toArray⟩, .int .i64 l.no, .string ⟨l.text.toArray⟩] 205)) := (Below.refl _ _).alloc (Nat.le_refl _) _
  have HP0 : Hid (Bk (w.alloc (.cells #[.string ⟨l.file.toArray⟩, .int .i64 l.no, .string ⟨l.text.toArray⟩] 205)) w.heap.size [.string ⟨l.file.toArray⟩, .int .i64 l.no, .string ⟨l.text.toArray⟩] 205) := Bk.new w #[.string ⟨l.file.toArray⟩, .int .i64 l.no, .string ⟨l.text.toArray⟩] 205
  go_wp2_with (first
    | (go_at_call 201; refine (hasPrefix_any l.text [64] _).mono ?_; rw [HH.out]; rintro e w1 ⟨rfl, rfl⟩)
    | (go_at_call 156; refine (indexAny_any l.text _ (by omega) hix).mono ?_; rw [HBL.out, idxI_none]; rintro e w3 ⟨rfl, hc⟩; have hb3 := hb0.trans (hc.mono hb0.size); have HP3 := Lib.hid (HP0.out.next hc); have HC3 := Lib.hid (HC.out.next hb3); have HT3 := Lib.hid (HT.out.next hb3); clear hc; have p0 := HP3.out.cell 0; have p1 := HP3.out.cell 1; have p2 := HP3.out.cell 2; simp only [List.getElem?_cons_zero, List.getElem?_cons_succ] at p0 p1 p2; have c2 : w3.cell? ⟨A.rb, 2, none⟩ = some (.map (some A.wm)) := (by rw [HC3.out.rb.cell]; rfl))
    | (refine wpList_smap_lookup rfl (.tmp 60) (.tmp 61) 84 9 200 true rfl Tryz.underlying84 Tryz.underlying9 (.agg #[.nilFunc, .bool false]) (zeroWord _) A.wm wordsKV HC3.out.wm l.text rfl rfl ?_; rw [HW.out]; have hb5 := hb3.alloc hb3.size (.cells #[.func (.func 135) #[] #[], .bool false] 200); have hlt5 := HP3.out.lt; have HC5 := Lib.hid (HC.out.next hb5); have HT5 := Lib.hid (HT.out.next hb5); have HP5 := Lib.hid (HP3.out.alloc (.cells #[.func (.func 135) #[] #[], .bool false] 200)); have HWB5 := Lib.hid (Bk.new w3 #[.func (.func 135) #[] #[], .bool false] 200))
    | (go_at_call 147; refine (top_any A L r V ss x _ HC5.out (by omega)).mono ?_; rintro e w6 ⟨rfl, hc⟩; have hb6 := hb5.trans (hc.mono hb5.size); have HP6 := Lib.hid (HP5.out.next hc); have HWB6 := Lib.hid (HWB5.out.next hc); clear hc)
    | (go_at_call 148; refine (force_any A r.top x _ (HT.out.next hb6) (by omega)).mono ?_; rw [HF.out]; rintro e w7 ⟨rfl, hc⟩; have hb7 := hb6.trans (hc.mono hb6.size); have HP7 := Lib.hid (HP6.out.next hc); have HWB7 := Lib.hid (HWB6.out.next hc); have HC7 := Lib.hid (HC.out.next hb7); have HT7 := Lib.hid (HT.out.next hb7); clear hc; have d0 := HP7.out.cell 0; have d1 := HP7.out.cell 1; have d2 := HP7.out.cell 2; have d3 := HWB7.out.cell 0; simp only [List.getElem?_cons_zero, List.getElem?_cons_succ] at d0 d1 d2 d3))
  go_end0
  exact ⟨rfl, V, x, HC7.out, HT7.out, (StepT.refl A V x w).below hb7⟩

set_option maxHeartbeats 4000000 in
set_option maxRecDepth 100000 in
theorem line_odd_n (A : Adr) (L : List Two) (r : RS) (V : Vals) (ss : List Op1) (x : Op1) (w : World) (h : Core A L r V (ss ++ [x]) w) (ht : Top A r.top x w) (hss : ss.length ≤ 900) (l : Pl) (hfit : r.fits = true) (hlen : l.text.length ≤ 100000) (hh : Lib.hasPrefix l.text [64] = true) (hix : idxOk l.text = true) (hbl : blankI l.text = none) (hw : mapGet wordsKV l.text = none) (hf : r.top.force = true) :
    Calls Tryz.prog 164 #[.pointer (some ⟨A.rb, 0, none⟩), .agg #[.string ⟨l.file.toArray⟩, .int .i64 l.no, .string ⟨l.text.toArray⟩]] w (LineGives A L V ss x w (r.tell l 3 l.text)) := by
  obtain ⟨f1, f2, f3, f4, f5, f6, f7⟩ := fit_parts hfit
  have HC := Lib.hid h
  have HT := Lib.hid ht
  have HH := Lib.hid hh
  have HBL := Lib.hid hbl
  have HW := Lib.hid hw
  have HF := Lib.hid hf
  have hrb : A.rb < w.heap.size := h.rb.lt
  clear hh hbl hw hf
  clear h ht
  go_enter Tryz.func164, Tryz.ntmps164
  have hb0 : Below w.heap.size w (w.alloc (.cells #[.string ⟨l.file.toArray⟩, .int .i64 l.no, .string ⟨l.text.toArray⟩] 205)) := (Below.refl _ _).alloc (Nat.le_refl _) _
  have HP0 : Hid (Bk (w.alloc (.cells #[.string ⟨l.file.toArray⟩, .int .i64 l.no, .string ⟨l.text.toArray⟩] 205)) w.heap.size [.string ⟨l.file.toArray⟩, .int .i64 l.no, .string ⟨l.text.toArray⟩] 205) := Bk.new w #[.string ⟨l.file.toArray⟩, .int .i64 l.no, .string ⟨l.text.toArray⟩] 205
  go_wp2_with (first
    | (go_at_call 201; refine (hasPrefix_any l.text [64] _).mono ?_; rw [HH.out]; rintro e w1 ⟨rfl, rfl⟩)
    | (go_at_call 156; refine (indexAny_any l.text _ (by omega) hix).mono ?_; rw [HBL.out, idxI_none]; rintro e w3 ⟨rfl, hc⟩; have hb3 := hb0.trans (hc.mono hb0.size); have HP3 := Lib.hid (HP0.out.next hc); have HC3 := Lib.hid (HC.out.next hb3); have HT3 := Lib.hid (HT.out.next hb3); clear hc; have p0 := HP3.out.cell 0; have p1 := HP3.out.cell 1; have p2 := HP3.out.cell 2; simp only [List.getElem?_cons_zero, List.getElem?_cons_succ] at p0 p1 p2; have c2 : w3.cell? ⟨A.rb, 2, none⟩ = some (.map (some A.wm)) := (by rw [HC3.out.rb.cell]; rfl))
    | (refine wpList_smap_lookup rfl (.tmp 60) (.tmp 61) 84 9 200 true rfl Tryz.underlying84 Tryz.underlying9 (.agg #[.nilFunc, .bool false]) (zeroWord _) A.wm wordsKV HC3.out.wm l.text rfl rfl ?_; rw [HW.out]; have hb5 := hb3.alloc hb3.size (.cells #[.nilFunc, .bool false] 200); have hlt5 := HP3.out.lt; have HC5 := Lib.hid (HC.out.next hb5); have HT5 := Lib.hid (HT.out.next hb5); have HP5 := Lib.hid (HP3.out.alloc (.cells #[.nilFunc, .bool false] 200)); have HWB5 := Lib.hid (Bk.new w3 #[.nilFunc, .bool false] 200))
    | (go_at_call 147; refine (top_any A L r V ss x _ HC5.out (by omega)).mono ?_; rintro e w6 ⟨rfl, hc⟩; have hb6 := hb5.trans (hc.mono hb5.size); have HP6 := Lib.hid (HP5.out.next hc); have HWB6 := Lib.hid (HWB5.out.next hc); clear hc)
    | (go_at_call 148; refine (force_any A r.top x _ (HT.out.next hb6) (by omega)).mono ?_; rw [HF.out]; rintro e w7 ⟨rfl, hc⟩; have hb7 := hb6.trans (hc.mono hb6.size); have HP7 := Lib.hid (HP6.out.next hc); have HWB7 := Lib.hid (HWB6.out.next hc); have HC7 := Lib.hid (HC.out.next hb7); have HT7 := Lib.hid (HT.out.next hb7); clear hc; have d0 := HP7.out.cell 0; have d1 := HP7.out.cell 1; have d2 := HP7.out.cell 2; have d3 := HWB7.out.cell 0; simp only [List.getElem?_cons_zero, List.getElem?_cons_succ] at d0 d1 d2 d3)
    | (go_at_call 150; refine (tell_any A L r V (ss ++ [x]) _ HC7.out l 3 l.text (by omega)).mono ?_; rintro e w8 ⟨rfl, V', h1, h3⟩; have HRS : Hid (∃ V' x', Core A L (r.tell l 3 l.text) V' (ss ++ [x']) w8 ∧ Top A (r.tell l 3 l.text).top x' w8 ∧ StepT A V x w V' x' w8) := ⟨V', x, h1, HT7.out.step HC7.out h3, ((StepT.refl A V x w).below hb7).trans (h3.toT x)⟩; clear h1 h3))
  go_end0
  exact ⟨rfl, HRS.out⟩

set_option maxHeartbeats 4000000 in
set_option maxRecDepth 100000 in
theorem line_odd_off_n (A : Adr) (L : List Two) (r : RS) (V : Vals) (ss : List Op1) (x : Op1) (w : World) (h : Core A L r V (ss ++ [x]) w) (ht : Top A r.top x w) (hss : ss.length ≤ 900) (l : Pl) (hfit : r.fits = true) (hlen : l.text.length ≤ 100000) (hh : Lib.hasPrefix l.text [64] = true) (hix : idxOk l.text = true) (hbl : blankI l.text = none) (hw : mapGet wordsKV l.text = none) (hf : r.top.force = false) :
    Calls Tryz.prog 164 #[.pointer (some ⟨A.rb, 0, none⟩), .agg #[.string ⟨l.file.toArray⟩, .int .i64 l.no, .string ⟨l.text.toArray⟩]] w (LineGives A L V ss x w r) := by
  obtain ⟨f1, f2, f3, f4, f5, f6, f7⟩ := fit_parts hfit
  have HC := Lib.hid h
  have HT := Lib.hid ht
  have HH := Lib.hid hh
  have HBL := Lib.hid hbl
  have HW := Lib.hid hw
  have HF := Lib.hid hf
  have hrb : A.rb < w.heap.size := h.rb.lt
  clear hh hbl hw hf
  clear h ht
  go_enter Tryz.func164, Tryz.ntmps164
  have hb0 : Below w.heap.size w (w.alloc (.cells #[.string ⟨l.file.toArray⟩, .int .i64 l.no, .string ⟨l.text.toArray⟩] 205)) := (Below.refl _ _).alloc (Nat.le_refl _) _
  have HP0 : Hid (Bk (w.alloc (.cells #[.string ⟨l.file.toArray⟩, .int .i64 l.no, .string ⟨l.text.toArray⟩] 205)) w.heap.size [.string ⟨l.file.toArray⟩, .int .i64 l.no, .string ⟨l.text.toArray⟩] 205) := Bk.new w #[.string ⟨l.file.toArray⟩, .int .i64 l.no, .string ⟨l.text.toArray⟩] 205
  go_wp2_with (first
    | (go_at_call 201; refine (hasPrefix_any l.text [64] _).mono ?_; rw [HH.out]; rintro e w1 ⟨rfl, rfl⟩)
    | (go_at_call 156; refine (indexAny_any l.text _ (by omega) hix).mono ?_; rw [HBL.out, idxI_none]; rintro e w3 ⟨rfl, hc⟩; have hb3 := hb0.trans (hc.mono hb0.size); have HP3 := Lib.hid (HP0.out.next hc); have HC3 := Lib.hid (HC.out.next hb3); have HT3 := Lib.hid (HT.out.next hb3); clear hc; have p0 := HP3.out.cell 0; have p1 := HP3.out.cell 1; have p2 := HP3.out.cell 2; simp only [List.getElem?_cons_zero, List.getElem?_cons_succ] at p0 p1 p2; have c2 : w3.cell? ⟨A.rb, 2, none⟩ = some (.map (some A.wm)) := (by rw [HC3.out.rb.cell]; rfl))
    | (refine wpList_smap_lookup rfl (.tmp 60) (.tmp 61) 84 9 200 true rfl Tryz.underlying84 Tryz.underlying9 (.agg #[.nilFunc, .bool false]) (zeroWord _) A.wm wordsKV HC3.out.wm l.text rfl rfl ?_; rw [HW.out]; have hb5 := hb3.alloc hb3.size (.cells #[.nilFunc, .bool false] 200); have hlt5 := HP3.out.lt; have HC5 := Lib.hid (HC.out.next hb5); have HT5 := Lib.hid (HT.out.next hb5); have HP5 := Lib.hid (HP3.out.alloc (.cells #[.nilFunc, .bool false] 200)); have HWB5 := Lib.hid (Bk.new w3 #[.nilFunc, .bool false] 200))
    | (go_at_call 147; refine (top_any A L r V ss x _ HC5.out (by omega)).mono ?_; rintro e w6 ⟨rfl, hc⟩; have hb6 := hb5.trans (hc.mono hb5.size); have HP6 := Lib.hid (HP5.out.next hc); have HWB6 := Lib.hid (HWB5.out.next hc); clear hc)
    | (go_at_call 148; refine (force_any A r.top x _ (HT.out.next hb6) (by omega)).mono ?_; rw [HF.out]; rintro e w7 ⟨rfl, hc⟩; have hb7 := hb6.trans (hc.mono hb6.size); have HP7 := Lib.hid (HP6.out.next hc); have HWB7 := Lib.hid (HWB6.out.next hc); have HC7 := Lib.hid (HC.out.next hb7); have HT7 := Lib.hid (HT.out.next hb7); clear hc; have d0 := HP7.out.cell 0; have d1 := HP7.out.cell 1; have d2 := HP7.out.cell 2; have d3 := HWB7.out.cell 0; simp only [List.getElem?_cons_zero, List.getElem?_cons_succ] at d0 d1 d2 d3))
  go_end0
  exact ⟨rfl, V, x, HC7.out, HT7.out, (StepT.refl A V x w).below hb7⟩
end Go.Proofs.YtfedkhicckgjaaaGreatDoor
