/- One line of the source that is read now: its roads. -/
import Derived.Test.YtfedkhicckgjaaaGreatDoorRdFour
namespace Go.Proofs.YtfedkhicckgjaaaGreatDoor
open Go.RowKit
set_option linter.unusedVariables false

set_option maxHeartbeats 4000000 in
set_option maxRecDepth 100000 in
theorem line_set_b (A : Adr) (L : List Two) (r : RS) (V : Vals) (ss : List Op1) (x : Op1) (w : World) (h : Core A L r V (ss ++ [x]) w) (ht : Top A r.top x w) (hss : ss.length ≤ 900) (l : Pl) (hfit : r.fits = true) (hlen : l.text.length ≤ 100000) (hh : Lib.hasPrefix l.text [64] = true) (hix : idxOk l.text = true) (n : Nat) (hn : n < l.text.length) (hbl : blankI l.text = some n) (hw : mapGet wordsKV (l.text.take n) = some (.agg #[.func (.func 134) #[] #[], .bool false])) (hf : r.top.force = true) (r2 : RS) (hd : ∀ w', Core A L r V (ss ++ [x]) w' → Top A r.top x w' → Calls Tryz.prog 134 #[.pointer (some ⟨A.rb, 0, none⟩), .agg #[.string ⟨l.file.toArray⟩, .int .i64 l.no, .string ⟨l.text.toArray⟩], .string ⟨(trimB (l.text.drop n)).toArray⟩] w' (LineGives A L V ss x w' r2)) :
    Calls Tryz.prog 164 #[.pointer (some ⟨A.rb, 0, none⟩), .agg #[.string ⟨l.file.toArray⟩, .int .i64 l.no, .string ⟨l.text.toArray⟩]] w (LineGives A L V ss x w r2) := by
  obtain ⟨f1, f2, f3, f4, f5, f6, f7⟩ := fit_parts hfit
  have HC := Lib.hid h
  have HT := Lib.hid ht
  have HH := Lib.hid hh
  have HBL := Lib.hid hbl
  have HW := Lib.hid hw
  have HF := Lib.hid hf
  have HD := Lib.hid hd
  have hrb : A.rb < w.heap.size := h.rb.lt
  clear hh hbl hw hf hd
  clear h ht
  go_enter Tryz.func164, Tryz.ntmps164
  have hb0 : Below w.heap.size w (w.alloc (.cells #[.string ⟨l.file.toArray⟩, .int .i64 l.no, .string ⟨l.text.toArray⟩] 205)) := (Below.refl _ _).alloc (Nat.le_refl _) _
  have HP0 : Hid (Bk (w.alloc (.cells #[.string ⟨l.file.toArray⟩, .int .i64 l.no, .string ⟨l.text.toArray⟩] 205)) w.heap.size [.string ⟨l.file.toArray⟩, .int .i64 l.no, .string ⟨l.text.toArray⟩] 205) := Bk.new w #[.string ⟨l.file.toArray⟩, .int .i64 l.no, .string ⟨l.text.toArray⟩] 205
  have hk0 : (0 : Int) ≤ (n : Int) := by omega
  have hk1 : (n : Int) ≤ (l.text.length : Int) := by omega
  go_wp2_with (first
    | (go_at_call 201; refine (hasPrefix_any l.text [64] _).mono ?_; rw [HH.out]; rintro e w1 ⟨rfl, rfl⟩)
    | (go_at_call 156; refine (indexAny_any l.text _ (by omega) hix).mono ?_; rw [HBL.out, idxI_some]; rintro e w3 ⟨rfl, hc⟩; have hb3 := hb0.trans (hc.mono hb0.size); have HP3 := Lib.hid (HP0.out.next hc); have HC3 := Lib.hid (HC.out.next hb3); have HT3 := Lib.hid (HT.out.next hb3); clear hc; have p0 := HP3.out.cell 0; have p1 := HP3.out.cell 1; have p2 := HP3.out.cell 2; simp only [List.getElem?_cons_zero, List.getElem?_cons_succ] at p0 p1 p2))
  go_region_held3 (fun w' => w'.cell? ⟨w.heap.size, 2, none⟩ = some (.string ⟨l.text.toArray⟩)) (first | exact p2 | exact s2 | go_keep) (first | (go_at_call 157; refine (trim_any (l.text.drop n) _ (by simp; omega)).mono ?_; rintro e w4 ⟨rfl, hc0⟩; have hc := (drew_below w3).trans hc0; clear hc0; have hb4 := hb3.trans (hc.mono hb3.size); have HP4 := Lib.hid (HP3.out.next hc); have HC4 := Lib.hid (HC.out.next hb4); have HT4 := Lib.hid (HT.out.next hb4); clear hc; have s0 := HP4.out.cell 0; have s1 := HP4.out.cell 1; have s2 := HP4.out.cell 2; simp only [List.getElem?_cons_zero, List.getElem?_cons_succ] at s0 s1 s2))
  have c2 : w4.cell? ⟨A.rb, 2, none⟩ = some (.map (some A.wm)) := by rw [HC4.out.rb.cell]; rfl
  all_goals
    go_wp2_with (first
      | (refine wpList_smap_lookup rfl (.tmp 60) (.tmp 61) 84 9 200 true rfl Tryz.underlying84 Tryz.underlying9 (.agg #[.nilFunc, .bool false]) (zeroWord _) A.wm wordsKV HC4.out.wm (l.text.take n) rfl rfl ?_; rw [HW.out]; have hb5 := hb4.alloc hb4.size (.cells #[.func (.func 134) #[] #[], .bool false] 200); have hlt5 := HP4.out.lt; have HC5 := Lib.hid (HC.out.next hb5); have HT5 := Lib.hid (HT.out.next hb5); have HP5 := Lib.hid (HP4.out.alloc (.cells #[.func (.func 134) #[] #[], .bool false] 200)); have HWB5 := Lib.hid (Bk.new w4 #[.func (.func 134) #[] #[], .bool false] 200))
      | (go_at_call 147; refine (top_any A L r V ss x _ HC5.out (by omega)).mono ?_; rintro e w6 ⟨rfl, hc⟩; have hb6 := hb5.trans (hc.mono hb5.size); have HP6 := Lib.hid (HP5.out.next hc); have HWB6 := Lib.hid (HWB5.out.next hc); clear hc)
      | (go_at_call 148; refine (force_any A r.top x _ (HT.out.next hb6) (by omega)).mono ?_; rw [HF.out]; rintro e w7 ⟨rfl, hc⟩; have hb7 := hb6.trans (hc.mono hb6.size); have HP7 := Lib.hid (HP6.out.next hc); have HWB7 := Lib.hid (HWB6.out.next hc); have HC7 := Lib.hid (HC.out.next hb7); have HT7 := Lib.hid (HT.out.next hb7); clear hc; have d0 := HP7.out.cell 0; have d1 := HP7.out.cell 1; have d2 := HP7.out.cell 2; have d3 := HWB7.out.cell 0; simp only [List.getElem?_cons_zero, List.getElem?_cons_succ] at d0 d1 d2 d3)
      | (go_at_call 134; refine (HD.out _ HC7.out HT7.out).mono ?_; rintro e w8 ⟨rfl, V', x', h1, h2, h3⟩; have HRS : Hid (∃ V' x', Core A L r2 V' (ss ++ [x']) w8 ∧ Top A r2.top x' w8 ∧ StepT A V x w V' x' w8) := ⟨V', x', h1, h2, ((StepT.refl A V x w).below hb7).trans h3⟩; clear h1 h2 h3))
    go_end0
    exact ⟨rfl, HRS.out⟩

set_option maxHeartbeats 4000000 in
set_option maxRecDepth 100000 in
theorem line_set_off_b (A : Adr) (L : List Two) (r : RS) (V : Vals) (ss : List Op1) (x : Op1) (w : World) (h : Core A L r V (ss ++ [x]) w) (ht : Top A r.top x w) (hss : ss.length ≤ 900) (l : Pl) (hfit : r.fits = true) (hlen : l.text.length ≤ 100000) (hh : Lib.hasPrefix l.text [64] = true) (hix : idxOk l.text = true) (n : Nat) (hn : n < l.text.length) (hbl : blankI l.text = some n) (hw : mapGet wordsKV (l.text.take n) = some (.agg #[.func (.func 134) #[] #[], .bool false])) (hf : r.top.force = false) :
    Calls Tryz.prog 164 #[.pointer (some ⟨A.rb, 0, none⟩), .agg #[.string ⟨l.file.toArray⟩, .int .i64 l.no, .string ⟨l.text.toArray⟩]] w (LineGives A L V ss x w r) := by
  obtain ⟨f1, f2, f3, f4, f5, f6, f7⟩ := fit_parts hfit
  have HC := Lib.hid h
  have HT := Lib.hid ht
  have HH := Lib.hid hh
  have HBL := Lib.hid hbl
  have HW := Lib.hid hw
  have HF := Lib.hid hf
  have hrb : A.rb < w.heap.size := h.rb.lt
  clear hh hbl hw hf
  clear h ht
  go_enter Tryz.func164, Tryz.ntmps164
  have hb0 : Below w.heap.size w (w.alloc (.cells #[.string ⟨l.file.toArray⟩, .int .i64 l.no, .string ⟨l.text.toArray⟩] 205)) := (Below.refl _ _).alloc (Nat.le_refl _) _
  have HP0 : Hid (Bk (w.alloc (.cells #[.string ⟨l.file.toArray⟩, .int .i64 l.no, .string ⟨l.text.toArray⟩] 205)) w.heap.size [.string ⟨l.file.toArray⟩, .int .i64 l.no, .string ⟨l.text.toArray⟩] 205) := Bk.new w #[.string ⟨l.file.toArray⟩, .int .i64 l.no, .string ⟨l.text.toArray⟩] 205
  have hk0 : (0 : Int) ≤ (n : Int) := by omega
  have hk1 : (n : Int) ≤ (l.text.length : Int) := by omega
  go_wp2_with (first
    | (go_at_call 201; refine (hasPrefix_any l.text [64] _).mono ?_; rw [HH.out]; rintro e w1 ⟨rfl, rfl⟩)
    | (go_at_call 156; refine (indexAny_any l.text _ (by omega) hix).mono ?_; rw [HBL.out, idxI_some]; rintro e w3 ⟨rfl, hc⟩; have hb3 := hb0.trans (hc.mono hb0.size); have HP3 := Lib.hid (HP0.out.next hc); have HC3 := Lib.hid (HC.out.next hb3); have HT3 := Lib.hid (HT.out.next hb3); clear hc; have p0 := HP3.out.cell 0; have p1 := HP3.out.cell 1; have p2 := HP3.out.cell 2; simp only [List.getElem?_cons_zero, List.getElem?_cons_succ] at p0 p1 p2))
  go_region_held3 (fun w' => w'.cell? ⟨w.heap.size, 2, none⟩ = some (.string ⟨l.text.toArray⟩)) (first | exact p2 | exact s2 | go_keep) (first | (go_at_call 157; refine (trim_any (l.text.drop n) _ (by simp; omega)).mono ?_; rintro e w4 ⟨rfl, hc0⟩; have hc := (drew_below w3).trans hc0; clear hc0; have hb4 := hb3.trans (hc.mono hb3.size); have HP4 := Lib.hid (HP3.out.next hc); have HC4 := Lib.hid (HC.out.next hb4); have HT4 := Lib.hid (HT.out.next hb4); clear hc; have s0 := HP4.out.cell 0; have s1 := HP4.out.cell 1; have s2 := HP4.out.cell 2; simp only [List.getElem?_cons_zero, List.getElem?_cons_succ] at s0 s1 s2))
  have c2 : w4.cell? ⟨A.rb, 2, none⟩ = some (.map (some A.wm)) := by rw [HC4.out.rb.cell]; rfl
  all_goals
    go_wp2_with (first
      | (refine wpList_smap_lookup rfl (.tmp 60) (.tmp 61) 84 9 200 true rfl Tryz.underlying84 Tryz.underlying9 (.agg #[.nilFunc, .bool false]) (zeroWord _) A.wm wordsKV HC4.out.wm (l.text.take n) rfl rfl ?_; rw [HW.out]; have hb5 := hb4.alloc hb4.size (.cells #[.func (.func 134) #[] #[], .bool false] 200); have hlt5 := HP4.out.lt; have HC5 := Lib.hid (HC.out.next hb5); have HT5 := Lib.hid (HT.out.next hb5); have HP5 := Lib.hid (HP4.out.alloc (.cells #[.func (.func 134) #[] #[], .bool false] 200)); have HWB5 := Lib.hid (Bk.new w4 #[.func (.func 134) #[] #[], .bool false] 200))
      | (go_at_call 147; refine (top_any A L r V ss x _ HC5.out (by omega)).mono ?_; rintro e w6 ⟨rfl, hc⟩; have hb6 := hb5.trans (hc.mono hb5.size); have HP6 := Lib.hid (HP5.out.next hc); have HWB6 := Lib.hid (HWB5.out.next hc); clear hc)
      | (go_at_call 148; refine (force_any A r.top x _ (HT.out.next hb6) (by omega)).mono ?_; rw [HF.out]; rintro e w7 ⟨rfl, hc⟩; have hb7 := hb6.trans (hc.mono hb6.size); have HP7 := Lib.hid (HP6.out.next hc); have HWB7 := Lib.hid (HWB6.out.next hc); have HC7 := Lib.hid (HC.out.next hb7); have HT7 := Lib.hid (HT.out.next hb7); clear hc; have d0 := HP7.out.cell 0; have d1 := HP7.out.cell 1; have d2 := HP7.out.cell 2; have d3 := HWB7.out.cell 0; simp only [List.getElem?_cons_zero, List.getElem?_cons_succ] at d0 d1 d2 d3))
    go_end0
    exact ⟨rfl, V, x, HC7.out, HT7.out, (StepT.refl A V x w).below hb7⟩

set_option maxHeartbeats 4000000 in
set_option maxRecDepth 100000 in
theorem line_unset_b (A : Adr) (L : List Two) (r : RS) (V : Vals) (ss : List Op1) (x : Op1) (w : World) (h : Core A L r V (ss ++ [x]) w) (ht : Top A r.top x w) (hss : ss.length ≤ 900) (l : Pl) (hfit : r.fits = true) (hlen : l.text.length ≤ 100000) (hh : Lib.hasPrefix l.text [64] = true) (hix : idxOk l.text = true) (n : Nat) (hn : n < l.text.length) (hbl : blankI l.text = some n) (hw : mapGet wordsKV (l.text.take n) = some (.agg #[.func (.func 135) #[] #[], .bool false])) (hf : r.top.force = true) (r2 : RS) (hd : ∀ w', Core A L r V (ss ++ [x]) w' → Top A r.top x w' → Calls Tryz.prog 135 #[.pointer (some ⟨A.rb, 0, none⟩), .agg #[.string ⟨l.file.toArray⟩, .int .i64 l.no, .string ⟨l.text.toArray⟩], .string ⟨(trimB (l.text.drop n)).toArray⟩] w' (LineGives A L V ss x w' r2)) :
    Calls Tryz.prog 164 #[.pointer (some ⟨A.rb, 0, none⟩), .agg #[.string ⟨l.file.toArray⟩, .int .i64 l.no, .string ⟨l.text.toArray⟩]] w (LineGives A L V ss x w r2) := by
  obtain ⟨f1, f2, f3, f4, f5, f6, f7⟩ := fit_parts hfit
  have HC := Lib.hid h
  have HT := Lib.hid ht
  have HH := Lib.hid hh
  have HBL := Lib.hid hbl
  have HW := Lib.hid hw
  have HF := Lib.hid hf
  have HD := Lib.hid hd
  have hrb : A.rb < w.heap.size := h.rb.lt
  clear hh hbl hw hf hd
  clear h ht
  go_enter Tryz.func164, Tryz.ntmps164
  have hb0 : Below w.heap.size w (w.alloc (.cells #[.string ⟨l.file.toArray⟩, .int .i64 l.no, .string ⟨l.text.toArray⟩] 205)) := (Below.refl _ _).alloc (Nat.le_refl _) _
  have HP0 : Hid (Bk (w.alloc (.cells #[.string ⟨l.file.toArray⟩, .int .i64 l.no, .string ⟨l.text.toArray⟩] 205)) w.heap.size [.string ⟨l.file.toArray⟩, .int .i64 l.no, .string ⟨l.text.toArray⟩] 205) := Bk.new w #[.string ⟨l.file.toArray⟩, .int .i64 l.no, .string ⟨l.text.toArray⟩] 205
  have hk0 : (0 : Int) ≤ (n : Int) := by omega
  have hk1 : (n : Int) ≤ (l.text.length : Int) := by omega
  go_wp2_with (first
    | (go_at_call 201; refine (hasPrefix_any l.text [64] _).mono ?_; rw [HH.out]; rintro e w1 ⟨rfl, rfl⟩)
    | (go_at_call 156; refine (indexAny_any l.text _ (by omega) hix).mono ?_; rw [HBL.out, idxI_some]; rintro e w3 ⟨rfl, hc⟩; have hb3 := hb0.trans (hc.mono hb0.size); have HP3 := Lib.hid (HP0.out.next hc); have HC3 := Lib.hid (HC.out.next hb3); have HT3 := Lib.hid (HT.out.next hb3); clear hc; have p0 := HP3.out.cell 0; have p1 := HP3.out.cell 1; have p2 := HP3.out.cell 2; simp only [List.getElem?_cons_zero, List.getElem?_cons_succ] at p0 p1 p2))
  go_region_held3 (fun w' => w'.cell? ⟨w.heap.size, 2, none⟩ = some (.string ⟨l.text.toArray⟩)) (first | exact p2 | exact s2 | go_keep) (first | (go_at_call 157; refine (trim_any (l.text.drop n) _ (by simp; omega)).mono ?_; rintro e w4 ⟨rfl, hc0⟩; have hc := (drew_below w3).trans hc0; clear hc0; have hb4 := hb3.trans (hc.mono hb3.size); have HP4 := Lib.hid (HP3.out.next hc); have HC4 := Lib.hid (HC.out.next hb4); have HT4 := Lib.hid (HT.out.next hb4); clear hc; have s0 := HP4.out.cell 0; have s1 := HP4.out.cell 1; have s2 := HP4.out.cell 2; simp only [List.getElem?_cons_zero, List.getElem?_cons_succ] at s0 s1 s2))
  have c2 : w4.cell? ⟨A.rb, 2, none⟩ = some (.map (some A.wm)) := by rw [HC4.out.rb.cell]; rfl
  all_goals
    go_wp2_with (first
      | (refine wpList_smap_lookup rfl (.tmp 60) (.tmp 61) 84 9 200 true rfl Tryz.underlying84 Tryz.underlying9 (.agg #[.nilFunc, .bool false]) (zeroWord _) A.wm wordsKV HC4.out.wm (l.text.take n) rfl rfl ?_; rw [HW.out]; have hb5 := hb4.alloc hb4.size (.cells #[.func (.func 135) #[] #[], .bool false] 200); have hlt5 := HP4.out.lt; have HC5 := Lib.hid (HC.out.next hb5); have HT5 := Lib.hid (HT.out.next hb5); have HP5 := Lib.hid (HP4.out.alloc (.cells #[.func (.func 135) #[] #[], .bool false] 200)); have HWB5 := Lib.hid (Bk.new w4 #[.func (.func 135) #[] #[], .bool false] 200))
      | (go_at_call 147; refine (top_any A L r V ss x _ HC5.out (by omega)).mono ?_; rintro e w6 ⟨rfl, hc⟩; have hb6 := hb5.trans (hc.mono hb5.size); have HP6 := Lib.hid (HP5.out.next hc); have HWB6 := Lib.hid (HWB5.out.next hc); clear hc)
      | (go_at_call 148; refine (force_any A r.top x _ (HT.out.next hb6) (by omega)).mono ?_; rw [HF.out]; rintro e w7 ⟨rfl, hc⟩; have hb7 := hb6.trans (hc.mono hb6.size); have HP7 := Lib.hid (HP6.out.next hc); have HWB7 := Lib.hid (HWB6.out.next hc); have HC7 := Lib.hid (HC.out.next hb7); have HT7 := Lib.hid (HT.out.next hb7); clear hc; have d0 := HP7.out.cell 0; have d1 := HP7.out.cell 1; have d2 := HP7.out.cell 2; have d3 := HWB7.out.cell 0; simp only [List.getElem?_cons_zero, List.getElem?_cons_succ] at d0 d1 d2 d3)
      | (go_at_call 135; refine (HD.out _ HC7.out HT7.out).mono ?_; rintro e w8 ⟨rfl, V', x', h1, h2, h3⟩; have HRS : Hid (∃ V' x', Core A L r2 V' (ss ++ [x']) w8 ∧ Top A r2.top x' w8 ∧ StepT A V x w V' x' w8) := ⟨V', x', h1, h2, ((StepT.refl A V x w).below hb7).trans h3⟩; clear h1 h2 h3))
    go_end0
    exact ⟨rfl, HRS.out⟩

set_option maxHeartbeats 4000000 in
set_option maxRecDepth 100000 in
theorem line_unset_off_b (A : Adr) (L : List Two) (r : RS) (V : Vals) (ss : List Op1) (x : Op1) (w : World) (h : Core A L r V (ss ++ [x]) w) (ht : Top A r.top x w) (hss : ss.length ≤ 900) (l : Pl) (hfit : r.fits = true) (hlen : l.text.length ≤ 100000) (hh : Lib.hasPrefix l.text [64] = true) (hix : idxOk l.text = true) (n : Nat) (hn : n < l.text.length) (hbl : blankI l.text = some n) (hw : mapGet wordsKV (l.text.take n) = some (.agg #[.func (.func 135) #[] #[], .bool false])) (hf : r.top.force = false) :
    Calls Tryz.prog 164 #[.pointer (some ⟨A.rb, 0, none⟩), .agg #[.string ⟨l.file.toArray⟩, .int .i64 l.no, .string ⟨l.text.toArray⟩]] w (LineGives A L V ss x w r) := by
  obtain ⟨f1, f2, f3, f4, f5, f6, f7⟩ := fit_parts hfit
  have HC := Lib.hid h
  have HT := Lib.hid ht
  have HH := Lib.hid hh
  have HBL := Lib.hid hbl
  have HW := Lib.hid hw
  have HF := Lib.hid hf
  have hrb : A.rb < w.heap.size := h.rb.lt
  clear hh hbl hw hf
  clear h ht
  go_enter Tryz.func164, Tryz.ntmps164
  have hb0 : Below w.heap.size w (w.alloc (.cells #[.string ⟨l.file.toArray⟩, .int .i64 l.no, .string ⟨l.text.toArray⟩] 205)) := (Below.refl _ _).alloc (Nat.le_refl _) _
  have HP0 : Hid (Bk (w.alloc (.cells #[.string ⟨l.file.toArray⟩, .int .i64 l.no, .string ⟨l.text.toArray⟩] 205)) w.heap.size [.string ⟨l.file.toArray⟩, .int .i64 l.no, .string ⟨l.text.toArray⟩] 205) := Bk.new w #[.string ⟨l.file.toArray⟩, .int .i64 l.no, .string ⟨l.text.toArray⟩] 205
  have hk0 : (0 : Int) ≤ (n : Int) := by omega
  have hk1 : (n : Int) ≤ (l.text.length : Int) := by omega
  go_wp2_with (first
    | (go_at_call 201; refine (hasPrefix_any l.text [64] _).mono ?_; rw [HH.out]; rintro e w1 ⟨rfl, rfl⟩)
    | (go_at_call 156; refine (indexAny_any l.text _ (by omega) hix).mono ?_; rw [HBL.out, idxI_some]; rintro e w3 ⟨rfl, hc⟩; have hb3 := hb0.trans (hc.mono hb0.size); have HP3 := Lib.hid (HP0.out.next hc); have HC3 := Lib.hid (HC.out.next hb3); have HT3 := Lib.hid (HT.out.next hb3); clear hc; have p0 := HP3.out.cell 0; have p1 := HP3.out.cell 1; have p2 := HP3.out.cell 2; simp only [List.getElem?_cons_zero, List.getElem?_cons_succ] at p0 p1 p2))
  go_region_held3 (fun w' => w'.cell? ⟨w.heap.size, 2, none⟩ = some (.string ⟨l.text.toArray⟩)) (first | exact p2 | exact s2 | go_keep) (first | (go_at_call 157; refine (trim_any (l.text.drop n) _ (by simp; omega)).mono ?_; rintro e w4 ⟨rfl, hc0⟩; have hc := (drew_below w3).trans hc0; clear hc0; have hb4 := hb3.trans (hc.mono hb3.size); have HP4 := Lib.hid (HP3.out.next hc); have HC4 := Lib.hid (HC.out.next hb4); have HT4 := Lib.hid (HT.out.next hb4); clear hc; have s0 := HP4.out.cell 0; have s1 := HP4.out.cell 1; have s2 := HP4.out.cell 2; simp only [List.getElem?_cons_zero, List.getElem?_cons_succ] at s0 s1 s2))
  have c2 : w4.cell? ⟨A.rb, 2, none⟩ = some (.map (some A.wm)) := by rw [HC4.out.rb.cell]; rfl
  all_goals
    go_wp2_with (first
      | (refine wpList_smap_lookup rfl (.tmp 60) (.tmp 61) 84 9 200 true rfl Tryz.underlying84 Tryz.underlying9 (.agg #[.nilFunc, .bool false]) (zeroWord _) A.wm wordsKV HC4.out.wm (l.text.take n) rfl rfl ?_; rw [HW.out]; have hb5 := hb4.alloc hb4.size (.cells #[.func (.func 135) #[] #[], .bool false] 200); have hlt5 := HP4.out.lt; have HC5 := Lib.hid (HC.out.next hb5); have HT5 := Lib.hid (HT.out.next hb5); have HP5 := Lib.hid (HP4.out.alloc (.cells #[.func (.func 135) #[] #[], .bool false] 200)); have HWB5 := Lib.hid (Bk.new w4 #[.func (.func 135) #[] #[], .bool false] 200))
      | (go_at_call 147; refine (top_any A L r V ss x _ HC5.out (by omega)).mono ?_; rintro e w6 ⟨rfl, hc⟩; have hb6 := hb5.trans (hc.mono hb5.size); have HP6 := Lib.hid (HP5.out.next hc); have HWB6 := Lib.hid (HWB5.out.next hc); clear hc)
      | (go_at_call 148; refine (force_any A r.top x _ (HT.out.next hb6) (by omega)).mono ?_; rw [HF.out]; rintro e w7 ⟨rfl, hc⟩; have hb7 := hb6.trans (hc.mono hb6.size); have HP7 := Lib.hid (HP6.out.next hc); have HWB7 := Lib.hid (HWB6.out.next hc); have HC7 := Lib.hid (HC.out.next hb7); have HT7 := Lib.hid (HT.out.next hb7); clear hc; have d0 := HP7.out.cell 0; have d1 := HP7.out.cell 1; have d2 := HP7.out.cell 2; have d3 := HWB7.out.cell 0; simp only [List.getElem?_cons_zero, List.getElem?_cons_succ] at d0 d1 d2 d3))
    go_end0
    exact ⟨rfl, V, x, HC7.out, HT7.out, (StepT.refl A V x w).below hb7⟩

set_option maxHeartbeats 4000000 in
set_option maxRecDepth 100000 in
theorem line_odd_b (A : Adr) (L : List Two) (r : RS) (V : Vals) (ss : List Op1) (x : Op1) (w : World) (h : Core A L r V (ss ++ [x]) w) (ht : Top A r.top x w) (hss : ss.length ≤ 900) (l : Pl) (hfit : r.fits = true) (hlen : l.text.length ≤ 100000) (hh : Lib.hasPrefix l.text [64] = true) (hix : idxOk l.text = true) (n : Nat) (hn : n < l.text.length) (hbl : blankI l.text = some n) (hw : mapGet wordsKV (l.text.take n) = none) (hf : r.top.force = true) :
    Calls Tryz.prog 164 #[.pointer (some ⟨A.rb, 0, none⟩), .agg #[.string ⟨l.file.toArray⟩, .int .i64 l.no, .string ⟨l.text.toArray⟩]] w (LineGives A L V ss x w (r.tell l 3 l.text)) := by
  obtain ⟨f1, f2, f3, f4, f5, f6, f7⟩ := fit_parts hfit
  have HC := Lib.hid h
  have HT := Lib.hid ht
  have HH := Lib.hid hh
  have HBL := Lib.hid hbl
  have HW := Lib.hid hw
  have HF := Lib.hid hf
  have hrb : A.rb < w.heap.size := h.rb.lt
  clear hh hbl hw hf
  clear h ht
  go_enter Tryz.func164, Tryz.ntmps164
  have hb0 : Below w.heap.size w (w.alloc (.cells #[.string ⟨l.file.toArray⟩, .int .i64 l.no, .string ⟨l.text.toArray⟩] 205)) := (Below.refl _ _).alloc (Nat.le_refl _) _
  have HP0 : Hid (Bk (w.alloc (.cells #[.string ⟨l.file.toArray⟩, .int .i64 l.no, .string ⟨l.text.toArray⟩] 205)) w.heap.size [.string ⟨l.file.toArray⟩, .int .i64 l.no, .string ⟨l.text.toArray⟩] 205) := Bk.new w #[.string ⟨l.file.toArray⟩, .int .i64 l.no, .string ⟨l.text.toArray⟩] 205
  have hk0 : (0 : Int) ≤ (n : Int) := by omega
  have hk1 : (n : Int) ≤ (l.text.length : Int) := by omega
  go_wp2_with (first
    | (go_at_call 201; refine (hasPrefix_any l.text [64] _).mono ?_; rw [HH.out]; rintro e w1 ⟨rfl, rfl⟩)
    | (go_at_call 156; refine (indexAny_any l.text _ (by omega) hix).mono ?_; rw [HBL.out, idxI_some]; rintro e w3 ⟨rfl, hc⟩; have hb3 := hb0.trans (hc.mono hb0.size); have HP3 := Lib.hid (HP0.out.next hc); have HC3 := Lib.hid (HC.out.next hb3); have HT3 := Lib.hid (HT.out.next hb3); clear hc; have p0 := HP3.out.cell 0; have p1 := HP3.out.cell 1; have p2 := HP3.out.cell 2; simp only [List.getElem?_cons_zero, List.getElem?_cons_succ] at p0 p1 p2))
  go_region_held3 (fun w' => w'.cell? ⟨w.heap.size, 2, none⟩ = some (.string ⟨l.text.toArray⟩)) (first | exact p2 | exact s2 | go_keep) (first | (go_at_call 157; refine (trim_any (l.text.drop n) _ (by simp; omega)).mono ?_; rintro e w4 ⟨rfl, hc0⟩; have hc := (drew_below w3).trans hc0; clear hc0; have hb4 := hb3.trans (hc.mono hb3.size); have HP4 := Lib.hid (HP3.out.next hc); have HC4 := Lib.hid (HC.out.next hb4); have HT4 := Lib.hid (HT.out.next hb4); clear hc; have s0 := HP4.out.cell 0; have s1 := HP4.out.cell 1; have s2 := HP4.out.cell 2; simp only [List.getElem?_cons_zero, List.getElem?_cons_succ] at s0 s1 s2))
  have c2 : w4.cell? ⟨A.rb, 2, none⟩ = some (.map (some A.wm)) := by rw [HC4.out.rb.cell]; rfl
  all_goals
    go_wp2_with (first
      | (refine wpList_smap_lookup rfl (.tmp 60) (.tmp 61) 84 9 200 true rfl Tryz.underlying84 Tryz.underlying9 (.agg #[.nilFunc, .bool false]) (zeroWord _) A.wm wordsKV HC4.out.wm (l.text.take n) rfl rfl ?_; rw [HW.out]; have hb5 := hb4.alloc hb4.size (.cells #[.nilFunc, .bool false] 200); have hlt5 := HP4.out.lt; have HC5 := Lib.hid (HC.out.next hb5); have HT5 := Lib.hid (HT.out.next hb5); have HP5 := Lib.hid (HP4.out.alloc (.cells #[.nilFunc, .bool false] 200)); have HWB5 := Lib.hid (Bk.new w4 #[.nilFunc, .bool false] 200))
      | (go_at_call 147; refine (top_any A L r V ss x _ HC5.out (by omega)).mono ?_; rintro e w6 ⟨rfl, hc⟩; have hb6 := hb5.trans (hc.mono hb5.size); have HP6 := Lib.hid (HP5.out.next hc); have HWB6 := Lib.hid (HWB5.out.next hc); clear hc)
      | (go_at_call 148; refine (force_any A r.top x _ (HT.out.next hb6) (by omega)).mono ?_; rw [HF.out]; rintro e w7 ⟨rfl, hc⟩; have hb7 := hb6.trans (hc.mono hb6.size); have HP7 := Lib.hid (HP6.out.next hc); have HWB7 := Lib.hid (HWB6.out.next hc); have HC7 := Lib.hid (HC.out.next hb7); have HT7 := Lib.hid (HT.out.next hb7); clear hc; have d0 := HP7.out.cell 0; have d1 := HP7.out.cell 1; have d2 := HP7.out.cell 2; have d3 := HWB7.out.cell 0; simp only [List.getElem?_cons_zero, List.getElem?_cons_succ] at d0 d1 d2 d3)
      | (go_at_call 150; refine (tell_any A L r V (ss ++ [x]) _ HC7.out l 3 l.text (by omega)).mono ?_; rintro e w8 ⟨rfl, V', h1, h3⟩; have HRS : Hid (∃ V' x', Core A L (r.tell l 3 l.text) V' (ss ++ [x']) w8 ∧ Top A (r.tell l 3 l.text).top x' w8 ∧ StepT A V x w V' x' w8) := ⟨V', x, h1, HT7.out.step HC7.out h3, ((StepT.refl A V x w).below hb7).trans (h3.toT x)⟩; clear h1 h3))
    go_end0
    exact ⟨rfl, HRS.out⟩

set_option maxHeartbeats 4000000 in
set_option maxRecDepth 100000 in
theorem line_odd_off_b (A : Adr) (L : List Two) (r : RS) (V : Vals) (ss : List Op1) (x : Op1) (w : World) (h : Core A L r V (ss ++ [x]) w) (ht : Top A r.top x w) (hss : ss.length ≤ 900) (l : Pl) (hfit : r.fits = true) (hlen : l.text.length ≤ 100000) (hh : Lib.hasPrefix l.text [64] = true) (hix : idxOk l.text = true) (n : Nat) (hn : n < l.text.length) (hbl : blankI l.text = some n) (hw : mapGet wordsKV (l.text.take n) = none) (hf : r.top.force = false) :
    Calls Tryz.prog 164 #[.pointer (some ⟨A.rb, 0, none⟩), .agg #[.string ⟨l.file.toArray⟩, .int .i64 l.no, .string ⟨l.text.toArray⟩]] w (LineGives A L V ss x w r) := by
  obtain ⟨f1, f2, f3, f4, f5, f6, f7⟩ := fit_parts hfit
  have HC := Lib.hid h
  have HT := Lib.hid ht
  have HH := Lib.hid hh
  have HBL := Lib.hid hbl
  have HW := Lib.hid hw
  have HF := Lib.hid hf
  have hrb : A.rb < w.heap.size := h.rb.lt
  clear hh hbl hw hf
  clear h ht
  go_enter Tryz.func164, Tryz.ntmps164
  have hb0 : Below w.heap.size w (w.alloc (.cells #[.string ⟨l.file.toArray⟩, .int .i64 l.no, .string ⟨l.text.toArray⟩] 205)) := (Below.refl _ _).alloc (Nat.le_refl _) _
  have HP0 : Hid (Bk (w.alloc (.cells #[.string ⟨l.file.toArray⟩, .int .i64 l.no, .string ⟨l.text.toArray⟩] 205)) w.heap.size [.string ⟨l.file.toArray⟩, .int .i64 l.no, .string ⟨l.text.toArray⟩] 205) := Bk.new w #[.string ⟨l.file.toArray⟩, .int .i64 l.no, .string ⟨l.text.toArray⟩] 205
  have hk0 : (0 : Int) ≤ (n : Int) := by omega
  have hk1 : (n : Int) ≤ (l.text.length : Int) := by omega
  go_wp2_with (first
    | (go_at_call 201; refine (hasPrefix_any l.text [64] _).mono ?_; rw [HH.out]; rintro e w1 ⟨rfl, rfl⟩)
    | (go_at_call 156; refine (indexAny_any l.text _ (by omega) hix).mono ?_; rw [HBL.out, idxI_some]; rintro e w3 ⟨rfl, hc⟩; have hb3 := hb0.trans (hc.mono hb0.size); have HP3 := Lib.hid (HP0.out.next hc); have HC3 := Lib.hid (HC.out.next hb3); have HT3 := Lib.hid (HT.out.next hb3); clear hc; have p0 := HP3.out.cell 0; have p1 := HP3.out.cell 1; have p2 := HP3.out.cell 2; simp only [List.getElem?_cons_zero, List.getElem?_cons_succ] at p0 p1 p2))
  go_region_held3 (fun w' => w'.cell? ⟨w.heap.size, 2, none⟩ = some (.string ⟨l.text.toArray⟩)) (first | exact p2 | exact s2 | go_keep) (first | (go_at_call 157; refine (trim_any (l.text.drop n) _ (by simp; omega)).mono ?_; rintro e w4 ⟨rfl, hc0⟩; have hc := (drew_below w3).trans hc0; clear hc0; have hb4 := hb3.trans (hc.mono hb3.size); have HP4 := Lib.hid (HP3.out.next hc); have HC4 := Lib.hid (HC.out.next hb4); have HT4 := Lib.hid (HT.out.next hb4); clear hc; have s0 := HP4.out.cell 0; have s1 := HP4.out.cell 1; have s2 := HP4.out.cell 2; simp only [List.getElem?_cons_zero, List.getElem?_cons_succ] at s0 s1 s2))
  have c2 : w4.cell? ⟨A.rb, 2, none⟩ = some (.map (some A.wm)) := by rw [HC4.out.rb.cell]; rfl
  all_goals
    go_wp2_with (first
      | (refine wpList_smap_lookup rfl (.tmp 60) (.tmp 61) 84 9 200 true rfl Tryz.underlying84 Tryz.underlying9 (.agg #[.nilFunc, .bool false]) (zeroWord _) A.wm wordsKV HC4.out.wm (l.text.take n) rfl rfl ?_; rw [HW.out]; have hb5 := hb4.alloc hb4.size (.cells #[.nilFunc, .bool false] 200); have hlt5 := HP4.out.lt; have HC5 := Lib.hid (HC.out.next hb5); have HT5 := Lib.hid (HT.out.next hb5); have HP5 := Lib.hid (HP4.out.alloc (.cells #[.nilFunc, .bool false] 200)); have HWB5 := Lib.hid (Bk.new w4 #[.nilFunc, .bool false] 200))
      | (go_at_call 147; refine (top_any A L r V ss x _ HC5.out (by omega)).mono ?_; rintro e w6 ⟨rfl, hc⟩; have hb6 := hb5.trans (hc.mono hb5.size); have HP6 := Lib.hid (HP5.out.next hc); have HWB6 := Lib.hid (HWB5.out.next hc); clear hc)
      | (go_at_call 148; refine (force_any A r.top x _ (HT.out.next hb6) (by omega)).mono ?_; rw [HF.out]; rintro e w7 ⟨rfl, hc⟩; have hb7 := hb6.trans (hc.mono hb6.size); have HP7 := Lib.hid (HP6.out.next hc); have HWB7 := Lib.hid (HWB6.out.next hc); have HC7 := Lib.hid (HC.out.next hb7); have HT7 := Lib.hid (HT.out.next hb7); clear hc; have d0 := HP7.out.cell 0; have d1 := HP7.out.cell 1; have d2 := HP7.out.cell 2; have d3 := HWB7.out.cell 0; simp only [List.getElem?_cons_zero, List.getElem?_cons_succ] at d0 d1 d2 d3))
    go_end0
    exact ⟨rfl, V, x, HC7.out, HT7.out, (StepT.refl A V x w).below hb7⟩
end Go.Proofs.YtfedkhicckgjaaaGreatDoor
