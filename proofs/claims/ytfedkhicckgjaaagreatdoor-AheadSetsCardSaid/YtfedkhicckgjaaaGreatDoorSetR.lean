/- ahead's reader: a line that sets; a line that unsets (of readers with one attribute at most). -/
import Derived.Test.YtfedkhicckgjaaaGreatDoorRdThree
import Derived.Test.YtfedkhicckgjaaaGreatDoorRdFour
import Derived.Test.YtfedkhicckgjaaaGreatDoorIdxA
import Derived.Test.YtfedkhicckgjaaaGreatDoorTrim
import Derived.Test.YtfedkhicckgjaaaGreatDoorSetOk
import Derived.Test.YtfedkhicckgjaaaGreatDoorBaseD
import Derived.Test.YtfedkhicckgjaaaGreatDoorBsf
namespace Go.Proofs.YtfedkhicckgjaaaGreatDoor
open Go.RowKit
set_option linter.unusedVariables false
set_option linter.unusedSimpArgs false

section
variable {A : Adr} {L : List Two} {r : RS} {V : Vals} {ss : List Op1} {w w3 : World}
/-- the attributes may be others, in another place -/
theorem Core.attr1 {v : Value} {at' : List Two} (h : Core A L r V ss w) (hSt : Kept (fun g => g = A.rb ∨ V.va.ownBlock = some g) w w3)
    (hk3 : Bk w3 A.rb (rcells A L.length V r.count) 89) (hO : Own w3 A.B 78 2 encT v at') (hgn : ∀ g, v.ownBlock = some g → V.va.ownBlock = some g ∨ w.heap.size ≤ g) :
    Core A L { r with attrs := at' } { V with va := v } ss (w3.setCell ⟨A.rb, 1, none⟩ v) ∧ Step A V w { V with va := v } (w3.setCell ⟨A.rb, 1, none⟩ v) := by
  have hSt2 := hSt.setCell (p := ⟨A.rb, 1, none⟩) (.inl rfl) v
  have hne := hO.ne_bk hk3 (by decide)
  refine ⟨h.upd (T := 78) hSt2 (fun g hg => by
    rcases hg with e | e
    · exact .inl e
    · exact .inr (h.va.isK e)) (by decide) (hk3.set 1 _) (fun _ => hO.set_other hne 1 v) (fun e => absurd rfl e) (fun e => absurd e (by decide)) (fun _ => ⟨rfl, rfl⟩) (fun e => absurd e (by decide)) (fun _ => ⟨rfl, rfl⟩) (fun e => absurd e (by decide)) (fun _ => ⟨rfl, rfl⟩) (by decide) rfl rfl rfl rfl rfl (fun g hg => by
    rcases hg with rfl | e
    · exact h.hrb
    · exact (h.va.block g e).1), ⟨fun g hg => ?_, hSt2.mono fun g hg => ?_⟩⟩
  · rcases hg with rfl | rfl | rfl | rfl | e | e | e | e | e
    · exact .inl (.inl rfl)
    · exact .inl (.inr (.inl rfl))
    · exact .inl (.inr (.inr (.inl rfl)))
    · exact .inl (.inr (.inr (.inr (.inl rfl))))
    · rcases hgn g e with h1 | h1
      · exact .inl (.inr (.inr (.inr (.inr (.inl h1)))))
      · exact .inr h1
    · exact .inl (.inr (.inr (.inr (.inr (.inr (.inl e))))))
    · exact .inl (.inr (.inr (.inr (.inr (.inr (.inr (.inl e)))))))
    · exact .inl (.inr (.inr (.inr (.inr (.inr (.inr (.inr (.inl e))))))))
    · exact .inl (.inr (.inr (.inr (.inr (.inr (.inr (.inr (.inr e))))))))
  · rcases hg with rfl | e
    · exact .inl rfl
    · exact .inr (.inr (.inr (.inr (.inl e))))
/-- the attributes may be others, in their place -/
theorem Core.attr0 {at' : List Two} (h : Core A L r V ss w) (hSt : Kept (fun g => V.va.ownBlock = some g) w w3) (hO : Own w3 A.B 78 2 encT V.va at') :
    Core A L { r with attrs := at' } V ss w3 ∧ Step A V w V w3 := by
  refine ⟨h.upd (T := 78) hSt (fun g hg => .inr (h.va.isK hg)) (by decide) (hSt.bk h.rb (fun e => h.va.ne_bk h.rb (by decide) e)) (fun _ => hO) (fun e => absurd rfl e) (fun e => absurd e (by decide)) (fun _ => ⟨rfl, rfl⟩) (fun e => absurd e (by decide)) (fun _ => ⟨rfl, rfl⟩) (fun e => absurd e (by decide)) (fun _ => ⟨rfl, rfl⟩) (by decide) rfl rfl rfl rfl rfl (fun g hg => (h.va.block g hg).1), ⟨fun _ h => .inl h, hSt.mono fun g hg => .inr (.inr (.inr (.inr (.inl hg))))⟩⟩
end

set_option maxHeartbeats 1000000 in
theorem where_none (A : Adr) (L : List Two) (r : RS) (V : Vals) (ss : List Op1) (w : World) (h : Core A L r V ss w) (n : Bytes) (ha : r.attrs = []) :
    Calls Tryz.prog 160 #[.pointer (some ⟨A.rb, 0, none⟩), .string ⟨n.toArray⟩] w fun e w' => e = .returned (.tuple #[.int .i64 0, .bool false]) ∧ Below w.heap.size w w' := by
  obtain ⟨a, c, hv⟩ := h.va.shape
  rw [ha] at hv
  have c1 : w.cell? ⟨A.rb, 1, none⟩ = some (.slice a 0 c) := by rw [h.rb.cell]; show some V.va = _; rw [hv]; rfl
  clear h hv ha
  go_enter Tryz.func160, Tryz.ntmps160
  go_wp2_with (go_at_call 196; refine (bsearch_nil a c n _ _).mono ?_; rintro e w1 ⟨rfl, hb⟩)
  refine bodyPost_ret (results_tmp2 rfl _ _ _) rfl ?_
  exact ⟨rfl, hb⟩
set_option maxHeartbeats 1000000 in
theorem where_one (A : Adr) (L : List Two) (r : RS) (V : Vals) (ss : List Op1) (w : World) (h : Core A L r V ss w) (n : Bytes) (x : Two) (hx : x.name = n) (ha : r.attrs = [x]) :
    Calls Tryz.prog 160 #[.pointer (some ⟨A.rb, 0, none⟩), .string ⟨n.toArray⟩] w fun e w' => e = .returned (.tuple #[.int .i64 0, .bool true]) ∧ Below w.heap.size w w' := by
  obtain ⟨a, c, hv⟩ := h.va.shape
  have hO := h.va
  rw [hv, ha] at hO
  rw [ha] at hv
  have HA := Lib.hid (hO.addr encT_ok)
  have c1 : w.cell? ⟨A.rb, 1, none⟩ = some (.slice a 1 c) := by rw [h.rb.cell]; show some V.va = _; rw [hv]; rfl
  clear h hv ha hO
  go_enter Tryz.func160, Tryz.ntmps160
  go_wp2_with (go_at_call 196; refine (bsearch_one a c x n hx _ HA.out).mono ?_; rintro e w1 ⟨rfl, hb⟩)
  refine bodyPost_ret (results_tmp2 rfl _ _ _) rfl ?_
  exact ⟨rfl, hb⟩

theorem ask_rest (r : RS) (n : Bytes) : (r.ask n).diags = r.diags ∧ (r.ask n).attrs = r.attrs := by unfold RS.ask; split <;> exact ⟨rfl, rfl⟩
theorem foldAsk_rest : ∀ (l : List Bytes) (r : RS), (l.foldl RS.ask r).diags = r.diags ∧ (l.foldl RS.ask r).attrs = r.attrs
  | [], _ => ⟨rfl, rfl⟩
  | n :: l, r => by rw [List.foldl_cons]; exact ⟨(foldAsk_rest l _).1.trans (ask_rest r n).1, (foldAsk_rest l _).2.trans (ask_rest r n).2⟩
theorem fill_diags (r : RS) (s : Bytes) : (r.fill s).diags = r.diags := (foldAsk_rest _ _).1
theorem fill_attrs (r : RS) (s : Bytes) : (r.fill s).attrs = r.attrs := (foldAsk_rest _ _).2
theorem fill_top (r : RS) (s : Bytes) : (r.fill s).top = r.top := by unfold RS.top; rw [fill_opens]
theorem trimB_len (t : Bytes) : (trimB t).length ≤ t.length := by
  unfold trimB
  have h1 := (List.dropWhile_sublist (l := t.reverse) isBl).length_le
  have h2 := (List.dropWhile_sublist (l := (t.reverse.dropWhile isBl).reverse) isBl).length_le
  simp at h1 h2
  omega
theorem parseF_len : ∀ (f : Nat) (s : Bytes), (parseF f s).length ≤ f
  | 0, _ => Nat.le_refl _
  | f + 1, [] => Nat.zero_le _
  | f + 1, c :: r => by
    unfold parseF
    split
    · have := parseF_len f (r.drop (List.length ‹Bytes› + 1)); simp; omega
    · have := parseF_len f r; simp; omega
theorem addN_len2 : ∀ (ys acc : List Bytes), (ys.foldl addN acc).length ≤ acc.length + ys.length
  | [], acc => by simp
  | y :: ys, acc => by
    have h1 := addN_len2 ys (addN acc y)
    have h2 := addN_len1 acc y
    rw [List.foldl_cons, List.length_cons]
    omega
theorem fillN_len (s : Bytes) : (fillN s).length ≤ s.length := by
  have h1 := addN_len2 (asksOf s) []
  have h2 : (asksOf s).length ≤ (parse s).length := List.length_filterMap_le _ _
  have h3 := parseF_len s.length s
  unfold fillN
  unfold parse at h2
  simp only [List.length_nil] at h1
  omega

set_option maxHeartbeats 4000000 in
set_option maxRecDepth 100000 in
theorem unset_bad (A : Adr) (L : List Two) (r : RS) (V : Vals) (ss : List Op1) (x : Op1) (w : World) (h : Core A L r V (ss ++ [x]) w) (ht : Top A r.top x w) (l : Pl) (rest : Bytes) (hrest : rest.length ≤ 100000) (hdg : r.diags.length ≤ 200000) (hE : unsetE [] rest = 1) :
    Calls Tryz.prog 135 #[.pointer (some ⟨A.rb, 0, none⟩), .agg #[.string ⟨l.file.toArray⟩, .int .i64 l.no, .string ⟨l.text.toArray⟩], .string ⟨rest.toArray⟩] w (LineGives A L V ss x w (r.tell l 3 l.text)) := by
  have HC := Lib.hid h
  have HT := Lib.hid ht
  have HE := Lib.hid hE
  clear hE
  clear h ht
  go_enter Tryz.func135, Tryz.ntmps135
  have hb0 : Below w.heap.size w (w.alloc (.cells #[.string ⟨l.file.toArray⟩, .int .i64 l.no, .string ⟨l.text.toArray⟩] 205)) := (Below.refl _ _).alloc (Nat.le_refl _) _
  have HP0 : Hid (Bk (w.alloc (.cells #[.string ⟨l.file.toArray⟩, .int .i64 l.no, .string ⟨l.text.toArray⟩] 205)) w.heap.size [.string ⟨l.file.toArray⟩, .int .i64 l.no, .string ⟨l.text.toArray⟩] 205) := Bk.new w #[.string ⟨l.file.toArray⟩, .int .i64 l.no, .string ⟨l.text.toArray⟩] 205
  go_wp2_with (first
    | (go_at_call 162; refine (unset_any none 0 [] rest _ (by simp) (by omega) (At.nil _ _ _ _) (fun x hx => absurd hx (List.not_mem_nil))).mono ?_; rw [HE.out]; rintro e w1 ⟨⟨r1, rfl, hO⟩, hc⟩; have hb1 := hb0.trans (hc.mono hb0.size); have HP1 := Lib.hid (HP0.out.next hc); have HC1 := Lib.hid (HC.out.next hb1); have HT1 := Lib.hid (HT.out.next hb1); have p0 := HP1.out.cell 0; have p1 := HP1.out.cell 1; have p2 := HP1.out.cell 2; simp only [List.getElem?_cons_zero, List.getElem?_cons_succ] at p0 p1 p2; have c5 : w1.cell? ⟨A.rb, 5, none⟩ = some (.map (some A.dn)) := (by rw [HC1.out.rb.cell]; rfl); clear hO hc)
    | (go_at_call 150; refine (tell_any A L r V (ss ++ [x]) _ HC1.out l 3 l.text hdg).mono ?_; rintro e w4 ⟨rfl, V', hc4, hs4⟩; have HCt := Lib.hid hc4; have HTt := Lib.hid (HT1.out.step HC1.out hs4); have HSt := Lib.hid (((StepT.refl A V x w).below hb1).trans (hs4.toT x)); clear hc4 hs4))
  go_end0
  exact ⟨rfl, V', x, HCt.out, HTt.out, HSt.out⟩

set_option maxHeartbeats 4000000 in
set_option maxRecDepth 100000 in
theorem unset_nil (A : Adr) (L : List Two) (r : RS) (V : Vals) (ss : List Op1) (x : Op1) (w : World) (h : Core A L r V (ss ++ [x]) w) (ht : Top A r.top x w) (l : Pl) (rest : Bytes) (hrest : rest.length ≤ 100000) (hdg : r.diags.length ≤ 200000) (hE : unsetE [] rest = 0) (ha : r.attrs = []) :
    Calls Tryz.prog 135 #[.pointer (some ⟨A.rb, 0, none⟩), .agg #[.string ⟨l.file.toArray⟩, .int .i64 l.no, .string ⟨l.text.toArray⟩], .string ⟨rest.toArray⟩] w (LineGives A L V ss x w { r with done := addN r.done rest }) := by
  have HC := Lib.hid h
  have HT := Lib.hid ht
  have HE := Lib.hid hE
  have HA := Lib.hid ha
  clear hE ha
  clear h ht
  go_enter Tryz.func135, Tryz.ntmps135
  have hb0 : Below w.heap.size w (w.alloc (.cells #[.string ⟨l.file.toArray⟩, .int .i64 l.no, .string ⟨l.text.toArray⟩] 205)) := (Below.refl _ _).alloc (Nat.le_refl _) _
  have HP0 : Hid (Bk (w.alloc (.cells #[.string ⟨l.file.toArray⟩, .int .i64 l.no, .string ⟨l.text.toArray⟩] 205)) w.heap.size [.string ⟨l.file.toArray⟩, .int .i64 l.no, .string ⟨l.text.toArray⟩] 205) := Bk.new w #[.string ⟨l.file.toArray⟩, .int .i64 l.no, .string ⟨l.text.toArray⟩] 205
  go_wp2_with (first
    | (go_at_call 162; refine (unset_any none 0 [] rest _ (by simp) (by omega) (At.nil _ _ _ _) (fun x hx => absurd hx (List.not_mem_nil))).mono ?_; rw [HE.out]; rintro e w1 ⟨⟨r1, rfl, hO⟩, hc⟩; have hb1 := hb0.trans (hc.mono hb0.size); have HP1 := Lib.hid (HP0.out.next hc); have HC1 := Lib.hid (HC.out.next hb1); have HT1 := Lib.hid (HT.out.next hb1); have p0 := HP1.out.cell 0; have p1 := HP1.out.cell 1; have p2 := HP1.out.cell 2; simp only [List.getElem?_cons_zero, List.getElem?_cons_succ] at p0 p1 p2; have c5 : w1.cell? ⟨A.rb, 5, none⟩ = some (.map (some A.dn)) := (by rw [HC1.out.rb.cell]; rfl); clear hO hc)
    | (refine wpList_smap_put rfl (.tmp 25) (.tmp 26) (.tmp 27) 86 9 97 (.inl rfl) Tryz.underlying86 Tryz.underlying9 A.dn _ HC1.out.dn rest (.agg #[]) rfl rfl rfl ?_; intro w4 hm4 hg4 hz4; rw [kv_put] at hm4; have HX := Lib.hid (HC1.out.updDn hg4 hm4); have HTX := Lib.hid (HT1.out.step HC1.out HX.out.2); have HSX := Lib.hid (((StepT.refl A V x w).below hb1).trans (HX.out.2.toT x)); clear hm4 hg4)
    | (go_at_call 160; refine (where_none A L _ V (ss ++ [x]) _ HX.out.1 rest HA.out).mono ?_; rintro e w5 ⟨rfl, hc⟩; have HC5 := Lib.hid (HX.out.1.next hc); have HT5 := Lib.hid (HTX.out.next hc); have HS5 := Lib.hid (HSX.out.below hc); clear hc))
  go_end0
  exact ⟨rfl, V, x, HC5.out, HT5.out, HS5.out⟩

set_option maxHeartbeats 4000000 in
set_option maxRecDepth 100000 in
theorem unset_one (A : Adr) (L : List Two) (r : RS) (V : Vals) (ss : List Op1) (x : Op1) (w : World) (h : Core A L r V (ss ++ [x]) w) (ht : Top A r.top x w) (l : Pl) (rest : Bytes) (hrest : rest.length ≤ 100000) (hdg : r.diags.length ≤ 200000) (hE : unsetE [] rest = 0) (y : Two) (ha : r.attrs = [y]) (hy : y.name = rest) :
    Calls Tryz.prog 135 #[.pointer (some ⟨A.rb, 0, none⟩), .agg #[.string ⟨l.file.toArray⟩, .int .i64 l.no, .string ⟨l.text.toArray⟩], .string ⟨rest.toArray⟩] w (LineGives A L V ss x w { r with done := addN r.done rest, attrs := [] }) := by
  have HC := Lib.hid h
  have HT := Lib.hid ht
  have HE := Lib.hid hE
  have HA := Lib.hid ha
  clear hE ha
  clear h ht
  go_enter Tryz.func135, Tryz.ntmps135
  have hb0 : Below w.heap.size w (w.alloc (.cells #[.string ⟨l.file.toArray⟩, .int .i64 l.no, .string ⟨l.text.toArray⟩] 205)) := (Below.refl _ _).alloc (Nat.le_refl _) _
  have HP0 : Hid (Bk (w.alloc (.cells #[.string ⟨l.file.toArray⟩, .int .i64 l.no, .string ⟨l.text.toArray⟩] 205)) w.heap.size [.string ⟨l.file.toArray⟩, .int .i64 l.no, .string ⟨l.text.toArray⟩] 205) := Bk.new w #[.string ⟨l.file.toArray⟩, .int .i64 l.no, .string ⟨l.text.toArray⟩] 205
  go_wp2_with (first
    | (go_at_call 162; refine (unset_any none 0 [] rest _ (by simp) (by omega) (At.nil _ _ _ _) (fun x hx => absurd hx (List.not_mem_nil))).mono ?_; rw [HE.out]; rintro e w1 ⟨⟨r1, rfl, hO⟩, hc⟩; have hb1 := hb0.trans (hc.mono hb0.size); have HP1 := Lib.hid (HP0.out.next hc); have HC1 := Lib.hid (HC.out.next hb1); have HT1 := Lib.hid (HT.out.next hb1); have p0 := HP1.out.cell 0; have p1 := HP1.out.cell 1; have p2 := HP1.out.cell 2; simp only [List.getElem?_cons_zero, List.getElem?_cons_succ] at p0 p1 p2; have c5 : w1.cell? ⟨A.rb, 5, none⟩ = some (.map (some A.dn)) := (by rw [HC1.out.rb.cell]; rfl); clear hO hc)
    | (refine wpList_smap_put rfl (.tmp 25) (.tmp 26) (.tmp 27) 86 9 97 (.inl rfl) Tryz.underlying86 Tryz.underlying9 A.dn _ HC1.out.dn rest (.agg #[]) rfl rfl rfl ?_; intro w4 hm4 hg4 hz4; rw [kv_put] at hm4; have HX := Lib.hid (HC1.out.updDn hg4 hm4); have HTX := Lib.hid (HT1.out.step HC1.out HX.out.2); have HSX := Lib.hid (((StepT.refl A V x w).below hb1).trans (HX.out.2.toT x)); clear hm4 hg4)
    | (go_at_call 160; refine (where_one A L _ V (ss ++ [x]) _ HX.out.1 rest y hy HA.out).mono ?_; rintro e w5 ⟨rfl, hc⟩; have HC5 := Lib.hid (HX.out.1.next hc); have HT5 := Lib.hid (HTX.out.next hc); have HS5 := Lib.hid (HSX.out.below hc); obtain ⟨gv, cv, hv, _⟩ := HC5.out.va.ptr' (n := 0) (by (show r.attrs.length = 1); rw [HA.out]; rfl); have HV5 := Lib.hid hv; have c1 : w5.cell? ⟨A.rb, 1, none⟩ = some (.slice (some ⟨gv, 0, none⟩) 1 cv) := (by rw [HC5.out.rb.cell]; (show some V.va = _); rw [hv]); have HO5 : Hid (Own w5 A.B 78 2 encT (.slice (some ⟨gv, 0, none⟩) 1 cv) [y]) := (by have h1 := HC5.out.va; rw [hv] at h1; (show Own _ _ _ _ _ _ _); rw [← HA.out]; exact h1); clear hc hv)
    | (go_at_call 163; refine (delete_one gv cv A.B y _ HO5.out HC5.out.base).mono ?_; rintro e w6 ⟨rfl, hO6, hg6⟩; have HO6 := Lib.hid hO6; have HB6 := Lib.hid (Bk.grown HC5.out.rb hg6 (by have h1 := HC5.out.va.ne_bk HC5.out.rb (by decide); rw [HV5.out] at h1; exact h1)); have HK6 : Hid (Kept (fun g => g = A.rb ∨ V.va.ownBlock = some g) w5 w6) := (Kept.refl _ _).grown hg6 (fun g e => .inr (by rw [HV5.out]; exact e)); have z0 : w6.cell? ⟨A.rb, 1, none⟩ = some (.slice (some ⟨gv, 0, none⟩) 1 cv) := (by rw [HB6.out.cell]; (show some V.va = _); rw [HV5.out]); have z1 := HB6.out.free 1; clear hO6 hg6))
  have HF := Lib.hid (HC5.out.attr1 HK6.out HB6.out HO6.out (fun g e => .inl (by rw [HV5.out]; exact e)))
  go_end0
  exact ⟨rfl, _, x, HF.out.1, HT5.out.step HC5.out HF.out.2, HS5.out.trans (HF.out.2.toT x)⟩

/-- @unset -/
theorem runset_any (A : Adr) (L : List Two) (r : RS) (V : Vals) (ss : List Op1) (x : Op1) (w : World) (h : Core A L r V (ss ++ [x]) w) (ht : Top A r.top x w) (l : Pl) (rest : Bytes) (hrest : rest.length ≤ 100000) (hdg : r.diags.length ≤ 200000) (r2 : RS) (hr2 : r.unset l rest = some r2) :
    Calls Tryz.prog 135 #[.pointer (some ⟨A.rb, 0, none⟩), .agg #[.string ⟨l.file.toArray⟩, .int .i64 l.no, .string ⟨l.text.toArray⟩], .string ⟨rest.toArray⟩] w (LineGives A L V ss x w r2) := by
  unfold RS.unset at hr2
  by_cases hE : unsetE [] rest = 0
  · rw [if_pos hE] at hr2
    rcases ha : r.attrs with _ | ⟨y, _ | ⟨z, t⟩⟩
    · simp only [ha] at hr2
      cases hr2
      have h2 := unset_nil A L r V ss x w h ht l rest hrest hdg hE ha
      simp only [ha] at h2
      exact h2
    · simp only [ha] at hr2
      by_cases hy : (y.name == rest) = true
      · rw [if_pos hy] at hr2
        cases hr2
        exact unset_one A L r V ss x w h ht l rest hrest hdg hE y ha (by simpa using hy)
      · rw [if_neg hy] at hr2; cases hr2
    · simp only [ha] at hr2
      cases hr2
  · rw [if_neg hE] at hr2
    cases hr2
    exact unset_bad A L r V ss x w h ht l rest hrest hdg (by unfold unsetE at *; split at hE; exact absurd rfl hE; rename_i h1; rw [if_neg h1])

set_option maxHeartbeats 4000000 in
set_option maxRecDepth 100000 in
theorem set_bad_b (A : Adr) (L : List Two) (r : RS) (V : Vals) (ss : List Op1) (x : Op1) (w : World) (h : Core A L r V (ss ++ [x]) w) (ht : Top A r.top x w) (l : Pl) (rest : Bytes) (hrest : rest.length ≤ 100000) (hdg : r.diags.length ≤ 200000) (n : Nat) (hn : n < rest.length) (hbl : blankI rest = some n) (nm rv : Bytes) (hnm : rest.take n = nm) (hrv : trimB (rest.drop n) = rv) (hat : r.attrs.length ≤ 1048576) (hvs : ∀ x ∈ r.attrs, x.value.length ≤ 100000) (hvl : (fillT r.attrs rv).length ≤ 1000000) (hE : setE [] nm (fillT r.attrs rv) = 1) :
    Calls Tryz.prog 134 #[.pointer (some ⟨A.rb, 0, none⟩), .agg #[.string ⟨l.file.toArray⟩, .int .i64 l.no, .string ⟨l.text.toArray⟩], .string ⟨rest.toArray⟩] w (LineGives A L V ss x w ((r.fill rv).tell l 3 l.text)) := by
  have HC := Lib.hid h
  have HT := Lib.hid ht
  have HBL := Lib.hid hbl
  have HRV := Lib.hid hrv
  have HNM := Lib.hid hnm
  have hnl : nm.length ≤ 100000 := by rw [← hnm]; simp; omega
  have hrl : rv.length ≤ 100000 := by have := trimB_len (rest.drop n); rw [hrv] at this; simp at this; omega
  have hk0 : (0 : Int) ≤ (n : Int) := by omega
  have hk1 : (n : Int) ≤ (rest.length : Int) := by omega
  clear hbl hrv
  have hfn : (fillN rv).length ≤ 1000000 := by have := fillN_len rv; omega
  have HFT : Hid (∀ g, Foot A V g → g < w.heap.size) := fun g hg => h.foot_lt hg
  have HDG : Hid ((r.fill rv).diags.length ≤ 200000) := by show _ ≤ _; rw [fill_diags]; exact hdg
  have HE := Lib.hid hE
  clear hE
  clear h ht
  go_enter Tryz.func134, Tryz.ntmps134
  have hb0 : Below w.heap.size w (w.alloc (.cells #[.string ⟨l.file.toArray⟩, .int .i64 l.no, .string ⟨l.text.toArray⟩] 205)) := (Below.refl _ _).alloc (Nat.le_refl _) _
  have HP0 : Hid (Bk (w.alloc (.cells #[.string ⟨l.file.toArray⟩, .int .i64 l.no, .string ⟨l.text.toArray⟩] 205)) w.heap.size [.string ⟨l.file.toArray⟩, .int .i64 l.no, .string ⟨l.text.toArray⟩] 205) := Bk.new w #[.string ⟨l.file.toArray⟩, .int .i64 l.no, .string ⟨l.text.toArray⟩] 205
  go_wp2_with ((go_at_call 156; refine (indexAny_any rest _ (by omega) rfl).mono ?_; rw [HBL.out, idxI_some]; rintro e w1 ⟨rfl, hc⟩; have hb1 := hb0.trans (hc.mono hb0.size); have HP1 := Lib.hid (HP0.out.next hc); clear hc))
  go_region_law ((go_simp; go_at_call 157; refine (trim_any (rest.drop n) _ (by simp; omega)).mono ?_; rw [HRV.out]; rintro e w2 ⟨rfl, hc0⟩; have hc := (drew_below w1).trans hc0; clear hc0; have hb2 := hb1.trans (hc.mono hb1.size); have HP2 := Lib.hid (HP1.out.next hc); have HC2 := Lib.hid (HC.out.next hb2); have HT2 := Lib.hid (HT.out.next hb2); clear hc; dsimp only))
  go_wp2_with (first
    | (go_at_call 158; refine (rdfill_any A L r V (ss ++ [x]) _ HC2.out rv (by omega) (by omega) hvs hfn).mono ?_; rintro e w3 ⟨rfl, hc3, hs3⟩; have HC3 := Lib.hid hc3; have HT3 : Hid (Top A (r.fill rv).top x w3) := (by (show Top A _ x w3); rw [fill_top]; exact HT2.out.step HC2.out hs3); have HS3 := Lib.hid (((StepT.refl A V x w).below hb2).trans (hs3.toT x)); have HP3 := Lib.hid (hs3.kept.bk HP2.out (fun hf => by have h1 := HFT.out _ hf; omega)); clear hc3 hs3)
    | (go_at_call 159; refine (set_any none 0 [] nm (fillT r.attrs rv) _ (by simp) (by omega) (by omega) (At.nil _ _ _ _) (by simp) (fun x hx => absurd hx (List.not_mem_nil))).mono ?_; rw [HE.out]; rintro e w4 ⟨⟨r1, rfl, hO⟩, hc⟩; have HP4 := Lib.hid (HP3.out.next hc); have HC4 := Lib.hid (HC3.out.next hc); have HT4 := Lib.hid (HT3.out.next hc); have HS4 := Lib.hid (HS3.out.below hc); have p0 := HP4.out.cell 0; have p1 := HP4.out.cell 1; have p2 := HP4.out.cell 2; simp only [List.getElem?_cons_zero, List.getElem?_cons_succ] at p0 p1 p2; have c5 : w4.cell? ⟨A.rb, 5, none⟩ = some (.map (some A.dn)) := (by rw [HC4.out.rb.cell]; rfl); clear hO hc)
    | (go_at_call 150; refine (tell_any A L (r.fill rv) V (ss ++ [x]) _ HC4.out l 3 l.text HDG.out).mono ?_; rintro e w6 ⟨rfl, V', hc4, hs4⟩; have HCt := Lib.hid hc4; have HTt := Lib.hid (HT4.out.step HC4.out hs4); have HSt := Lib.hid (HS4.out.trans (hs4.toT x)); clear hc4 hs4))
  go_end0
  exact ⟨rfl, V', x, HCt.out, HTt.out, HSt.out⟩

set_option maxHeartbeats 4000000 in
set_option maxRecDepth 100000 in
theorem set_nil_b (A : Adr) (L : List Two) (r : RS) (V : Vals) (ss : List Op1) (x : Op1) (w : World) (h : Core A L r V (ss ++ [x]) w) (ht : Top A r.top x w) (l : Pl) (rest : Bytes) (hrest : rest.length ≤ 100000) (hdg : r.diags.length ≤ 200000) (n : Nat) (hn : n < rest.length) (hbl : blankI rest = some n) (nm rv : Bytes) (hnm : rest.take n = nm) (hrv : trimB (rest.drop n) = rv) (hat : r.attrs.length ≤ 1048576) (hvs : ∀ x ∈ r.attrs, x.value.length ≤ 100000) (hvl : (fillT r.attrs rv).length ≤ 1000000) (hE : setE [] nm (fillT r.attrs rv) = 0) (ha : r.attrs = []) :
    Calls Tryz.prog 134 #[.pointer (some ⟨A.rb, 0, none⟩), .agg #[.string ⟨l.file.toArray⟩, .int .i64 l.no, .string ⟨l.text.toArray⟩], .string ⟨rest.toArray⟩] w (LineGives A L V ss x w { r.fill rv with done := addN (r.fill rv).done nm, attrs := [⟨nm, fillT r.attrs rv⟩] }) := by
  have HC := Lib.hid h
  have HT := Lib.hid ht
  have HBL := Lib.hid hbl
  have HRV := Lib.hid hrv
  have HNM := Lib.hid hnm
  have hnl : nm.length ≤ 100000 := by rw [← hnm]; simp; omega
  have hrl : rv.length ≤ 100000 := by have := trimB_len (rest.drop n); rw [hrv] at this; simp at this; omega
  have hk0 : (0 : Int) ≤ (n : Int) := by omega
  have hk1 : (n : Int) ≤ (rest.length : Int) := by omega
  clear hbl hrv
  have hfn : (fillN rv).length ≤ 1000000 := by have := fillN_len rv; omega
  have HFT : Hid (∀ g, Foot A V g → g < w.heap.size) := fun g hg => h.foot_lt hg
  have HDG : Hid ((r.fill rv).diags.length ≤ 200000) := by show _ ≤ _; rw [fill_diags]; exact hdg
  have HE := Lib.hid hE
  clear hE
  have HA := Lib.hid (show (r.fill rv).attrs = _ from (fill_attrs r _).trans ha)
  clear ha
  clear h ht
  go_enter Tryz.func134, Tryz.ntmps134
  have hb0 : Below w.heap.size w (w.alloc (.cells #[.string ⟨l.file.toArray⟩, .int .i64 l.no, .string ⟨l.text.toArray⟩] 205)) := (Below.refl _ _).alloc (Nat.le_refl _) _
  have HP0 : Hid (Bk (w.alloc (.cells #[.string ⟨l.file.toArray⟩, .int .i64 l.no, .string ⟨l.text.toArray⟩] 205)) w.heap.size [.string ⟨l.file.toArray⟩, .int .i64 l.no, .string ⟨l.text.toArray⟩] 205) := Bk.new w #[.string ⟨l.file.toArray⟩, .int .i64 l.no, .string ⟨l.text.toArray⟩] 205
  go_wp2_with ((go_at_call 156; refine (indexAny_any rest _ (by omega) rfl).mono ?_; rw [HBL.out, idxI_some]; rintro e w1 ⟨rfl, hc⟩; have hb1 := hb0.trans (hc.mono hb0.size); have HP1 := Lib.hid (HP0.out.next hc); clear hc))
  go_region_law ((go_simp; go_at_call 157; refine (trim_any (rest.drop n) _ (by simp; omega)).mono ?_; rw [HRV.out]; rintro e w2 ⟨rfl, hc0⟩; have hc := (drew_below w1).trans hc0; clear hc0; have hb2 := hb1.trans (hc.mono hb1.size); have HP2 := Lib.hid (HP1.out.next hc); have HC2 := Lib.hid (HC.out.next hb2); have HT2 := Lib.hid (HT.out.next hb2); clear hc; dsimp only))
  go_wp2_with (first
    | (go_at_call 158; refine (rdfill_any A L r V (ss ++ [x]) _ HC2.out rv (by omega) (by omega) hvs hfn).mono ?_; rintro e w3 ⟨rfl, hc3, hs3⟩; have HC3 := Lib.hid hc3; have HT3 : Hid (Top A (r.fill rv).top x w3) := (by (show Top A _ x w3); rw [fill_top]; exact HT2.out.step HC2.out hs3); have HS3 := Lib.hid (((StepT.refl A V x w).below hb2).trans (hs3.toT x)); have HP3 := Lib.hid (hs3.kept.bk HP2.out (fun hf => by have h1 := HFT.out _ hf; omega)); clear hc3 hs3)
    | (go_at_call 159; refine (set_any none 0 [] nm (fillT r.attrs rv) _ (by simp) (by omega) (by omega) (At.nil _ _ _ _) (by simp) (fun x hx => absurd hx (List.not_mem_nil))).mono ?_; rw [HE.out]; rintro e w4 ⟨⟨r1, rfl, hO⟩, hc⟩; have HP4 := Lib.hid (HP3.out.next hc); have HC4 := Lib.hid (HC3.out.next hc); have HT4 := Lib.hid (HT3.out.next hc); have HS4 := Lib.hid (HS3.out.below hc); have p0 := HP4.out.cell 0; have p1 := HP4.out.cell 1; have p2 := HP4.out.cell 2; simp only [List.getElem?_cons_zero, List.getElem?_cons_succ] at p0 p1 p2; have c5 : w4.cell? ⟨A.rb, 5, none⟩ = some (.map (some A.dn)) := (by rw [HC4.out.rb.cell]; rfl); clear hO hc)
    | (refine wpList_smap_put rfl (.tmp 44) (.tmp 45) (.tmp 46) 86 9 97 (.inl rfl) Tryz.underlying86 Tryz.underlying9 A.dn _ HC4.out.dn nm (.agg #[]) rfl rfl rfl ?_; intro w5 hm4 hg4 hz4; rw [kv_put] at hm4; have HX := Lib.hid (HC4.out.updDn hg4 hm4); have HTX := Lib.hid (HT4.out.step HC4.out HX.out.2); have HSX := Lib.hid (HS4.out.trans (HX.out.2.toT x)); clear hm4 hg4)
    | (go_at_call 160; refine (where_none A L _ V (ss ++ [x]) _ HX.out.1 nm HA.out).mono ?_; rintro e w6 ⟨rfl, hc⟩; have HC6 := Lib.hid (HX.out.1.next hc); have HT6 := Lib.hid (HTX.out.next hc); have HS6 := Lib.hid (HSX.out.below hc); have HO6 : Hid (Own w6 A.B 78 2 encT V.va []) := (by have h1 := HC6.out.va; (show Own _ _ _ _ _ _ _); rw [← HA.out]; exact h1); have c1 : w6.cell? ⟨A.rb, 1, none⟩ = some V.va := (by rw [HC6.out.rb.cell]; rfl); clear hc)
    | (go_at_call 161; refine Hold.out ?_))
  constructor
  refine (insert_none V.va A.B ⟨nm, fillT r.attrs rv⟩ w6.heap.size _ (HO6.out.alloc _) (by have := HC6.out.base; simp; omega) (by intro j u hj; match j, hj with | 0, hj => (simp [encT] at hj; subst hj; simp) | 1, hj => (simp [encT] at hj; subst hj; simp) | j + 2, hj => simp [encT] at hj)).mono ?_
  rintro e w7 ⟨v7, rfl, hO7, hg7, hn7⟩
  obtain ⟨a7, c7, rfl⟩ := hO7.shape
  have HO7 := Lib.hid hO7
  have HB7 := Lib.hid (Bk.grown (HC6.out.rb.alloc _) hg7 (HC6.out.va.ne_bk HC6.out.rb (by decide)))
  have HK7 : Hid (Kept (fun g => g = A.rb ∨ V.va.ownBlock = some g) w6 w7) := ((Kept.refl _ _).alloc _).grown hg7 (fun g e => .inr e)
  have z0 : w7.cell? ⟨A.rb, 1, none⟩ = some V.va := by rw [HB7.out.cell]; rfl
  have z1 := HB7.out.free 1
  have HF := Lib.hid (HC6.out.attr1 HK7.out HB7.out HO7.out (fun g e => by
    rcases hn7 g e with h1 | h1
    · exact .inl h1
    · exact .inr (by simp at h1; omega)))
  clear hO7 hg7 hn7
  go_wp2_with fail
  go_end0
  exact ⟨rfl, _, x, HF.out.1, HT6.out.step HC6.out HF.out.2, HS6.out.trans (HF.out.2.toT x)⟩

set_option maxHeartbeats 4000000 in
set_option maxRecDepth 100000 in
theorem set_one_b (A : Adr) (L : List Two) (r : RS) (V : Vals) (ss : List Op1) (x : Op1) (w : World) (h : Core A L r V (ss ++ [x]) w) (ht : Top A r.top x w) (l : Pl) (rest : Bytes) (hrest : rest.length ≤ 100000) (hdg : r.diags.length ≤ 200000) (n : Nat) (hn : n < rest.length) (hbl : blankI rest = some n) (nm rv : Bytes) (hnm : rest.take n = nm) (hrv : trimB (rest.drop n) = rv) (hat : r.attrs.length ≤ 1048576) (hvs : ∀ x ∈ r.attrs, x.value.length ≤ 100000) (hvl : (fillT r.attrs rv).length ≤ 1000000) (hE : setE [] nm (fillT r.attrs rv) = 0) (y : Two) (ha : r.attrs = [y]) (hy : y.name = nm) :
    Calls Tryz.prog 134 #[.pointer (some ⟨A.rb, 0, none⟩), .agg #[.string ⟨l.file.toArray⟩, .int .i64 l.no, .string ⟨l.text.toArray⟩], .string ⟨rest.toArray⟩] w (LineGives A L V ss x w { r.fill rv with done := addN (r.fill rv).done nm, attrs := [⟨nm, fillT r.attrs rv⟩] }) := by
  have HC := Lib.hid h
  have HT := Lib.hid ht
  have HBL := Lib.hid hbl
  have HRV := Lib.hid hrv
  have HNM := Lib.hid hnm
  have hnl : nm.length ≤ 100000 := by rw [← hnm]; simp; omega
  have hrl : rv.length ≤ 100000 := by have := trimB_len (rest.drop n); rw [hrv] at this; simp at this; omega
  have hk0 : (0 : Int) ≤ (n : Int) := by omega
  have hk1 : (n : Int) ≤ (rest.length : Int) := by omega
  clear hbl hrv
  have hfn : (fillN rv).length ≤ 1000000 := by have := fillN_len rv; omega
  have HFT : Hid (∀ g, Foot A V g → g < w.heap.size) := fun g hg => h.foot_lt hg
  have HDG : Hid ((r.fill rv).diags.length ≤ 200000) := by show _ ≤ _; rw [fill_diags]; exact hdg
  have HE := Lib.hid hE
  clear hE
  have HA := Lib.hid (show (r.fill rv).attrs = _ from (fill_attrs r _).trans ha)
  clear ha
  clear h ht
  go_enter Tryz.func134, Tryz.ntmps134
  have hb0 : Below w.heap.size w (w.alloc (.cells #[.string ⟨l.file.toArray⟩, .int .i64 l.no, .string ⟨l.text.toArray⟩] 205)) := (Below.refl _ _).alloc (Nat.le_refl _) _
  have HP0 : Hid (Bk (w.alloc (.cells #[.string ⟨l.file.toArray⟩, .int .i64 l.no, .string ⟨l.text.toArray⟩] 205)) w.heap.size [.string ⟨l.file.toArray⟩, .int .i64 l.no, .string ⟨l.text.toArray⟩] 205) := Bk.new w #[.string ⟨l.file.toArray⟩, .int .i64 l.no, .string ⟨l.text.toArray⟩] 205
  go_wp2_with ((go_at_call 156; refine (indexAny_any rest _ (by omega) rfl).mono ?_; rw [HBL.out, idxI_some]; rintro e w1 ⟨rfl, hc⟩; have hb1 := hb0.trans (hc.mono hb0.size); have HP1 := Lib.hid (HP0.out.next hc); clear hc))
  go_region_law ((go_simp; go_at_call 157; refine (trim_any (rest.drop n) _ (by simp; omega)).mono ?_; rw [HRV.out]; rintro e w2 ⟨rfl, hc0⟩; have hc := (drew_below w1).trans hc0; clear hc0; have hb2 := hb1.trans (hc.mono hb1.size); have HP2 := Lib.hid (HP1.out.next hc); have HC2 := Lib.hid (HC.out.next hb2); have HT2 := Lib.hid (HT.out.next hb2); clear hc; dsimp only))
  go_wp2_with (first
    | (go_at_call 158; refine (rdfill_any A L r V (ss ++ [x]) _ HC2.out rv (by omega) (by omega) hvs hfn).mono ?_; rintro e w3 ⟨rfl, hc3, hs3⟩; have HC3 := Lib.hid hc3; have HT3 : Hid (Top A (r.fill rv).top x w3) := (by (show Top A _ x w3); rw [fill_top]; exact HT2.out.step HC2.out hs3); have HS3 := Lib.hid (((StepT.refl A V x w).below hb2).trans (hs3.toT x)); have HP3 := Lib.hid (hs3.kept.bk HP2.out (fun hf => by have h1 := HFT.out _ hf; omega)); clear hc3 hs3)
    | (go_at_call 159; refine (set_any none 0 [] nm (fillT r.attrs rv) _ (by simp) (by omega) (by omega) (At.nil _ _ _ _) (by simp) (fun x hx => absurd hx (List.not_mem_nil))).mono ?_; rw [HE.out]; rintro e w4 ⟨⟨r1, rfl, hO⟩, hc⟩; have HP4 := Lib.hid (HP3.out.next hc); have HC4 := Lib.hid (HC3.out.next hc); have HT4 := Lib.hid (HT3.out.next hc); have HS4 := Lib.hid (HS3.out.below hc); have p0 := HP4.out.cell 0; have p1 := HP4.out.cell 1; have p2 := HP4.out.cell 2; simp only [List.getElem?_cons_zero, List.getElem?_cons_succ] at p0 p1 p2; have c5 : w4.cell? ⟨A.rb, 5, none⟩ = some (.map (some A.dn)) := (by rw [HC4.out.rb.cell]; rfl); clear hO hc)
    | (refine wpList_smap_put rfl (.tmp 44) (.tmp 45) (.tmp 46) 86 9 97 (.inl rfl) Tryz.underlying86 Tryz.underlying9 A.dn _ HC4.out.dn nm (.agg #[]) rfl rfl rfl ?_; intro w5 hm4 hg4 hz4; rw [kv_put] at hm4; have HX := Lib.hid (HC4.out.updDn hg4 hm4); have HTX := Lib.hid (HT4.out.step HC4.out HX.out.2); have HSX := Lib.hid (HS4.out.trans (HX.out.2.toT x)); clear hm4 hg4)
    | (go_at_call 160; refine (where_one A L _ V (ss ++ [x]) _ HX.out.1 nm y hy HA.out).mono ?_; rintro e w6 ⟨rfl, hc⟩; have HC6 := Lib.hid (HX.out.1.next hc); have HT6 := Lib.hid (HTX.out.next hc); have HS6 := Lib.hid (HSX.out.below hc); obtain ⟨gv, cv, hv, _⟩ := HC6.out.va.ptr' (n := 0) (by (show (r.fill rv).attrs.length = 1); rw [HA.out]; rfl); have HV6 := Lib.hid hv; have c1 : w6.cell? ⟨A.rb, 1, none⟩ = some (.slice (some ⟨gv, 0, none⟩) 1 cv) := (by rw [HC6.out.rb.cell]; (show some V.va = _); rw [hv]); have HO6 : Hid (Own w6 A.B 78 2 encT (.slice (some ⟨gv, 0, none⟩) 1 cv) [y]) := (by have h1 := HC6.out.va; rw [hv] at h1; (show Own _ _ _ _ _ _ _); rw [← HA.out]; exact h1); have y1 : w6.cell? ⟨gv, 1, none⟩ = some (.string ⟨y.value.toArray⟩) := (by have h1 := HO6.out.cellAt encT_ok (k := 0) (j := 1) (u := .string ⟨y.value.toArray⟩) rfl rfl; simpa using h1); have y2 : w6.frozen? ⟨gv, 1, none⟩ = false := HO6.out.freeAt 1; clear hc hv))
  have HK : Hid (Kept (fun g => V.va.ownBlock = some g) w6 (w6.setCell ⟨gv, 1, none⟩ (.string ⟨(fillT r.attrs rv).toArray⟩))) := (Kept.refl _ _).setCell (p := ⟨gv, 1, none⟩) (by show V.va.ownBlock = some gv; rw [HV6.out]; rfl) _
  have HOS : Hid (Own (w6.setCell ⟨gv, 1, none⟩ (.string ⟨(fillT r.attrs rv).toArray⟩)) A.B 78 2 encT V.va [⟨nm, fillT r.attrs rv⟩]) := by
    have h1 := Own.setAt encT_ok HO6.out (k := 0) (by simp) (p := 1) (by omega) (.string ⟨(fillT r.attrs rv).toArray⟩) ⟨y.name, fillT r.attrs rv⟩ rfl
    show Own _ _ _ _ _ _ _
    rw [HV6.out, ← hy]
    simpa using h1
  have HF := Lib.hid (HC6.out.attr0 HK.out HOS.out)
  refine bodyPost_ret (results_none rfl _ _ _) rfl ?_
  exact ⟨rfl, V, x, HF.out.1, HT6.out.step HC6.out HF.out.2, HS6.out.trans (HF.out.2.toT x)⟩

set_option maxHeartbeats 4000000 in
set_option maxRecDepth 100000 in
theorem set_bad_n (A : Adr) (L : List Two) (r : RS) (V : Vals) (ss : List Op1) (x : Op1) (w : World) (h : Core A L r V (ss ++ [x]) w) (ht : Top A r.top x w) (l : Pl) (rest : Bytes) (hrest : rest.length ≤ 100000) (hdg : r.diags.length ≤ 200000) (hbl : blankI rest = none) (nm rv : Bytes) (hnm : rest = nm) (hrv : ([] : Bytes) = rv) (hat : r.attrs.length ≤ 1048576) (hvs : ∀ x ∈ r.attrs, x.value.length ≤ 100000) (hvl : (fillT r.attrs rv).length ≤ 1000000) (hE : setE [] nm (fillT r.attrs rv) = 1) :
    Calls Tryz.prog 134 #[.pointer (some ⟨A.rb, 0, none⟩), .agg #[.string ⟨l.file.toArray⟩, .int .i64 l.no, .string ⟨l.text.toArray⟩], .string ⟨rest.toArray⟩] w (LineGives A L V ss x w ((r.fill rv).tell l 3 l.text)) := by
  have HC := Lib.hid h
  have HT := Lib.hid ht
  subst hnm hrv
  have HBL := Lib.hid hbl
  have hnl : rest.length ≤ 100000 := hrest
  have hrl : ([] : Bytes).length ≤ 100000 := by simp
  clear hbl
  have hfn : (fillN []).length ≤ 1000000 := by have := fillN_len []; omega
  have HFT : Hid (∀ g, Foot A V g → g < w.heap.size) := fun g hg => h.foot_lt hg
  have HDG : Hid ((r.fill []).diags.length ≤ 200000) := by show _ ≤ _; rw [fill_diags]; exact hdg
  have HE := Lib.hid hE
  clear hE
  clear h ht
  go_enter Tryz.func134, Tryz.ntmps134
  have hb0 : Below w.heap.size w (w.alloc (.cells #[.string ⟨l.file.toArray⟩, .int .i64 l.no, .string ⟨l.text.toArray⟩] 205)) := (Below.refl _ _).alloc (Nat.le_refl _) _
  have HP0 : Hid (Bk (w.alloc (.cells #[.string ⟨l.file.toArray⟩, .int .i64 l.no, .string ⟨l.text.toArray⟩] 205)) w.heap.size [.string ⟨l.file.toArray⟩, .int .i64 l.no, .string ⟨l.text.toArray⟩] 205) := Bk.new w #[.string ⟨l.file.toArray⟩, .int .i64 l.no, .string ⟨l.text.toArray⟩] 205
  go_wp2_with (first
    | (go_at_call 156; refine (indexAny_any rest _ (by omega) rfl).mono ?_; rw [HBL.out, idxI_none]; rintro e w1 ⟨rfl, hc⟩; have hb1 := hb0.trans (hc.mono hb0.size); have HP1 := Lib.hid (HP0.out.next hc); have hb2 := hb1; have HP2 := HP1; have HC2 := Lib.hid (HC.out.next hb2); have HT2 := Lib.hid (HT.out.next hb2); clear hc)
    | (go_at_call 158; refine (rdfill_any A L r V (ss ++ [x]) _ HC2.out [] (by omega) (by omega) hvs hfn).mono ?_; rintro e w3 ⟨rfl, hc3, hs3⟩; have HC3 := Lib.hid hc3; have HT3 : Hid (Top A (r.fill []).top x w3) := (by (show Top A _ x w3); rw [fill_top]; exact HT2.out.step HC2.out hs3); have HS3 := Lib.hid (((StepT.refl A V x w).below hb2).trans (hs3.toT x)); have HP3 := Lib.hid (hs3.kept.bk HP2.out (fun hf => by have h1 := HFT.out _ hf; omega)); clear hc3 hs3)
    | (go_at_call 159; refine (set_any none 0 [] rest (fillT r.attrs []) _ (by simp) (by omega) (by omega) (At.nil _ _ _ _) (by simp) (fun x hx => absurd hx (List.not_mem_nil))).mono ?_; rw [HE.out]; rintro e w4 ⟨⟨r1, rfl, hO⟩, hc⟩; have HP4 := Lib.hid (HP3.out.next hc); have HC4 := Lib.hid (HC3.out.next hc); have HT4 := Lib.hid (HT3.out.next hc); have HS4 := Lib.hid (HS3.out.below hc); have p0 := HP4.out.cell 0; have p1 := HP4.out.cell 1; have p2 := HP4.out.cell 2; simp only [List.getElem?_cons_zero, List.getElem?_cons_succ] at p0 p1 p2; have c5 : w4.cell? ⟨A.rb, 5, none⟩ = some (.map (some A.dn)) := (by rw [HC4.out.rb.cell]; rfl); clear hO hc)
    | (go_at_call 150; refine (tell_any A L (r.fill []) V (ss ++ [x]) _ HC4.out l 3 l.text HDG.out).mono ?_; rintro e w6 ⟨rfl, V', hc4, hs4⟩; have HCt := Lib.hid hc4; have HTt := Lib.hid (HT4.out.step HC4.out hs4); have HSt := Lib.hid (HS4.out.trans (hs4.toT x)); clear hc4 hs4))
  go_end0
  exact ⟨rfl, V', x, HCt.out, HTt.out, HSt.out⟩

set_option maxHeartbeats 4000000 in
set_option maxRecDepth 100000 in
theorem set_nil_n (A : Adr) (L : List Two) (r : RS) (V : Vals) (ss : List Op1) (x : Op1) (w : World) (h : Core A L r V (ss ++ [x]) w) (ht : Top A r.top x w) (l : Pl) (rest : Bytes) (hrest : rest.length ≤ 100000) (hdg : r.diags.length ≤ 200000) (hbl : blankI rest = none) (nm rv : Bytes) (hnm : rest = nm) (hrv : ([] : Bytes) = rv) (hat : r.attrs.length ≤ 1048576) (hvs : ∀ x ∈ r.attrs, x.value.length ≤ 100000) (hvl : (fillT r.attrs rv).length ≤ 1000000) (hE : setE [] nm (fillT r.attrs rv) = 0) (ha : r.attrs = []) :
    Calls Tryz.prog 134 #[.pointer (some ⟨A.rb, 0, none⟩), .agg #[.string ⟨l.file.toArray⟩, .int .i64 l.no, .string ⟨l.text.toArray⟩], .string ⟨rest.toArray⟩] w (LineGives A L V ss x w { r.fill rv with done := addN (r.fill rv).done nm, attrs := [⟨nm, fillT r.attrs rv⟩] }) := by
  have HC := Lib.hid h
  have HT := Lib.hid ht
  subst hnm hrv
  have HBL := Lib.hid hbl
  have hnl : rest.length ≤ 100000 := hrest
  have hrl : ([] : Bytes).length ≤ 100000 := by simp
  clear hbl
  have hfn : (fillN []).length ≤ 1000000 := by have := fillN_len []; omega
  have HFT : Hid (∀ g, Foot A V g → g < w.heap.size) := fun g hg => h.foot_lt hg
  have HDG : Hid ((r.fill []).diags.length ≤ 200000) := by show _ ≤ _; rw [fill_diags]; exact hdg
  have HE := Lib.hid hE
  clear hE
  have HA := Lib.hid (show (r.fill []).attrs = _ from (fill_attrs r _).trans ha)
  clear ha
  clear h ht
  go_enter Tryz.func134, Tryz.ntmps134
  have hb0 : Below w.heap.size w (w.alloc (.cells #[.string ⟨l.file.toArray⟩, .int .i64 l.no, .string ⟨l.text.toArray⟩] 205)) := (Below.refl _ _).alloc (Nat.le_refl _) _
  have HP0 : Hid (Bk (w.alloc (.cells #[.string ⟨l.file.toArray⟩, .int .i64 l.no, .string ⟨l.text.toArray⟩] 205)) w.heap.size [.string ⟨l.file.toArray⟩, .int .i64 l.no, .string ⟨l.text.toArray⟩] 205) := Bk.new w #[.string ⟨l.file.toArray⟩, .int .i64 l.no, .string ⟨l.text.toArray⟩] 205
  go_wp2_with (first
    | (go_at_call 156; refine (indexAny_any rest _ (by omega) rfl).mono ?_; rw [HBL.out, idxI_none]; rintro e w1 ⟨rfl, hc⟩; have hb1 := hb0.trans (hc.mono hb0.size); have HP1 := Lib.hid (HP0.out.next hc); have hb2 := hb1; have HP2 := HP1; have HC2 := Lib.hid (HC.out.next hb2); have HT2 := Lib.hid (HT.out.next hb2); clear hc)
    | (go_at_call 158; refine (rdfill_any A L r V (ss ++ [x]) _ HC2.out [] (by omega) (by omega) hvs hfn).mono ?_; rintro e w3 ⟨rfl, hc3, hs3⟩; have HC3 := Lib.hid hc3; have HT3 : Hid (Top A (r.fill []).top x w3) := (by (show Top A _ x w3); rw [fill_top]; exact HT2.out.step HC2.out hs3); have HS3 := Lib.hid (((StepT.refl A V x w).below hb2).trans (hs3.toT x)); have HP3 := Lib.hid (hs3.kept.bk HP2.out (fun hf => by have h1 := HFT.out _ hf; omega)); clear hc3 hs3)
    | (go_at_call 159; refine (set_any none 0 [] rest (fillT r.attrs []) _ (by simp) (by omega) (by omega) (At.nil _ _ _ _) (by simp) (fun x hx => absurd hx (List.not_mem_nil))).mono ?_; rw [HE.out]; rintro e w4 ⟨⟨r1, rfl, hO⟩, hc⟩; have HP4 := Lib.hid (HP3.out.next hc); have HC4 := Lib.hid (HC3.out.next hc); have HT4 := Lib.hid (HT3.out.next hc); have HS4 := Lib.hid (HS3.out.below hc); have p0 := HP4.out.cell 0; have p1 := HP4.out.cell 1; have p2 := HP4.out.cell 2; simp only [List.getElem?_cons_zero, List.getElem?_cons_succ] at p0 p1 p2; have c5 : w4.cell? ⟨A.rb, 5, none⟩ = some (.map (some A.dn)) := (by rw [HC4.out.rb.cell]; rfl); clear hO hc)
    | (refine wpList_smap_put rfl (.tmp 44) (.tmp 45) (.tmp 46) 86 9 97 (.inl rfl) Tryz.underlying86 Tryz.underlying9 A.dn _ HC4.out.dn rest (.agg #[]) rfl rfl rfl ?_; intro w5 hm4 hg4 hz4; rw [kv_put] at hm4; have HX := Lib.hid (HC4.out.updDn hg4 hm4); have HTX := Lib.hid (HT4.out.step HC4.out HX.out.2); have HSX := Lib.hid (HS4.out.trans (HX.out.2.toT x)); clear hm4 hg4)
    | (go_at_call 160; refine (where_none A L _ V (ss ++ [x]) _ HX.out.1 rest HA.out).mono ?_; rintro e w6 ⟨rfl, hc⟩; have HC6 := Lib.hid (HX.out.1.next hc); have HT6 := Lib.hid (HTX.out.next hc); have HS6 := Lib.hid (HSX.out.below hc); have HO6 : Hid (Own w6 A.B 78 2 encT V.va []) := (by have h1 := HC6.out.va; (show Own _ _ _ _ _ _ _); rw [← HA.out]; exact h1); have c1 : w6.cell? ⟨A.rb, 1, none⟩ = some V.va := (by rw [HC6.out.rb.cell]; rfl); clear hc)
    | (go_at_call 161; refine Hold.out ?_))
  constructor
  refine (insert_none V.va A.B ⟨rest, fillT r.attrs []⟩ w6.heap.size _ (HO6.out.alloc _) (by have := HC6.out.base; simp; omega) (by intro j u hj; match j, hj with | 0, hj => (simp [encT] at hj; subst hj; simp) | 1, hj => (simp [encT] at hj; subst hj; simp) | j + 2, hj => simp [encT] at hj)).mono ?_
  rintro e w7 ⟨v7, rfl, hO7, hg7, hn7⟩
  obtain ⟨a7, c7, rfl⟩ := hO7.shape
  have HO7 := Lib.hid hO7
  have HB7 := Lib.hid (Bk.grown (HC6.out.rb.alloc _) hg7 (HC6.out.va.ne_bk HC6.out.rb (by decide)))
  have HK7 : Hid (Kept (fun g => g = A.rb ∨ V.va.ownBlock = some g) w6 w7) := ((Kept.refl _ _).alloc _).grown hg7 (fun g e => .inr e)
  have z0 : w7.cell? ⟨A.rb, 1, none⟩ = some V.va := by rw [HB7.out.cell]; rfl
  have z1 := HB7.out.free 1
  have HF := Lib.hid (HC6.out.attr1 HK7.out HB7.out HO7.out (fun g e => by
    rcases hn7 g e with h1 | h1
    · exact .inl h1
    · exact .inr (by simp at h1; omega)))
  clear hO7 hg7 hn7
  go_wp2_with fail
  go_end0
  exact ⟨rfl, _, x, HF.out.1, HT6.out.step HC6.out HF.out.2, HS6.out.trans (HF.out.2.toT x)⟩

set_option maxHeartbeats 4000000 in
set_option maxRecDepth 100000 in
theorem set_one_n (A : Adr) (L : List Two) (r : RS) (V : Vals) (ss : List Op1) (x : Op1) (w : World) (h : Core A L r V (ss ++ [x]) w) (ht : Top A r.top x w) (l : Pl) (rest : Bytes) (hrest : rest.length ≤ 100000) (hdg : r.diags.length ≤ 200000) (hbl : blankI rest = none) (nm rv : Bytes) (hnm : rest = nm) (hrv : ([] : Bytes) = rv) (hat : r.attrs.length ≤ 1048576) (hvs : ∀ x ∈ r.attrs, x.value.length ≤ 100000) (hvl : (fillT r.attrs rv).length ≤ 1000000) (hE : setE [] nm (fillT r.attrs rv) = 0) (y : Two) (ha : r.attrs = [y]) (hy : y.name = nm) :
    Calls Tryz.prog 134 #[.pointer (some ⟨A.rb, 0, none⟩), .agg #[.string ⟨l.file.toArray⟩, .int .i64 l.no, .string ⟨l.text.toArray⟩], .string ⟨rest.toArray⟩] w (LineGives A L V ss x w { r.fill rv with done := addN (r.fill rv).done nm, attrs := [⟨nm, fillT r.attrs rv⟩] }) := by
  have HC := Lib.hid h
  have HT := Lib.hid ht
  subst hnm hrv
  have HBL := Lib.hid hbl
  have hnl : rest.length ≤ 100000 := hrest
  have hrl : ([] : Bytes).length ≤ 100000 := by simp
  clear hbl
  have hfn : (fillN []).length ≤ 1000000 := by have := fillN_len []; omega
  have HFT : Hid (∀ g, Foot A V g → g < w.heap.size) := fun g hg => h.foot_lt hg
  have HDG : Hid ((r.fill []).diags.length ≤ 200000) := by show _ ≤ _; rw [fill_diags]; exact hdg
  have HE := Lib.hid hE
  clear hE
  have HA := Lib.hid (show (r.fill []).attrs = _ from (fill_attrs r _).trans ha)
  clear ha
  clear h ht
  go_enter Tryz.func134, Tryz.ntmps134
  have hb0 : Below w.heap.size w (w.alloc (.cells #[.string ⟨l.file.toArray⟩, .int .i64 l.no, .string ⟨l.text.toArray⟩] 205)) := (Below.refl _ _).alloc (Nat.le_refl _) _
  have HP0 : Hid (Bk (w.alloc (.cells #[.string ⟨l.file.toArray⟩, .int .i64 l.no, .string ⟨l.text.toArray⟩] 205)) w.heap.size [.string ⟨l.file.toArray⟩, .int .i64 l.no, .string ⟨l.text.toArray⟩] 205) := Bk.new w #[.string ⟨l.file.toArray⟩, .int .i64 l.no, .string ⟨l.text.toArray⟩] 205
  go_wp2_with (first
    | (go_at_call 156; refine (indexAny_any rest _ (by omega) rfl).mono ?_; rw [HBL.out, idxI_none]; rintro e w1 ⟨rfl, hc⟩; have hb1 := hb0.trans (hc.mono hb0.size); have HP1 := Lib.hid (HP0.out.next hc); have hb2 := hb1; have HP2 := HP1; have HC2 := Lib.hid (HC.out.next hb2); have HT2 := Lib.hid (HT.out.next hb2); clear hc)
    | (go_at_call 158; refine (rdfill_any A L r V (ss ++ [x]) _ HC2.out [] (by omega) (by omega) hvs hfn).mono ?_; rintro e w3 ⟨rfl, hc3, hs3⟩; have HC3 := Lib.hid hc3; have HT3 : Hid (Top A (r.fill []).top x w3) := (by (show Top A _ x w3); rw [fill_top]; exact HT2.out.step HC2.out hs3); have HS3 := Lib.hid (((StepT.refl A V x w).below hb2).trans (hs3.toT x)); have HP3 := Lib.hid (hs3.kept.bk HP2.out (fun hf => by have h1 := HFT.out _ hf; omega)); clear hc3 hs3)
    | (go_at_call 159; refine (set_any none 0 [] rest (fillT r.attrs []) _ (by simp) (by omega) (by omega) (At.nil _ _ _ _) (by simp) (fun x hx => absurd hx (List.not_mem_nil))).mono ?_; rw [HE.out]; rintro e w4 ⟨⟨r1, rfl, hO⟩, hc⟩; have HP4 := Lib.hid (HP3.out.next hc); have HC4 := Lib.hid (HC3.out.next hc); have HT4 := Lib.hid (HT3.out.next hc); have HS4 := Lib.hid (HS3.out.below hc); have p0 := HP4.out.cell 0; have p1 := HP4.out.cell 1; have p2 := HP4.out.cell 2; simp only [List.getElem?_cons_zero, List.getElem?_cons_succ] at p0 p1 p2; have c5 : w4.cell? ⟨A.rb, 5, none⟩ = some (.map (some A.dn)) := (by rw [HC4.out.rb.cell]; rfl); clear hO hc)
    | (refine wpList_smap_put rfl (.tmp 44) (.tmp 45) (.tmp 46) 86 9 97 (.inl rfl) Tryz.underlying86 Tryz.underlying9 A.dn _ HC4.out.dn rest (.agg #[]) rfl rfl rfl ?_; intro w5 hm4 hg4 hz4; rw [kv_put] at hm4; have HX := Lib.hid (HC4.out.updDn hg4 hm4); have HTX := Lib.hid (HT4.out.step HC4.out HX.out.2); have HSX := Lib.hid (HS4.out.trans (HX.out.2.toT x)); clear hm4 hg4)
    | (go_at_call 160; refine (where_one A L _ V (ss ++ [x]) _ HX.out.1 rest y hy HA.out).mono ?_; rintro e w6 ⟨rfl, hc⟩; have HC6 := Lib.hid (HX.out.1.next hc); have HT6 := Lib.hid (HTX.out.next hc); have HS6 := Lib.hid (HSX.out.below hc); obtain ⟨gv, cv, hv, _⟩ := HC6.out.va.ptr' (n := 0) (by (show (r.fill []).attrs.length = 1); rw [HA.out]; rfl); have HV6 := Lib.hid hv; have c1 : w6.cell? ⟨A.rb, 1, none⟩ = some (.slice (some ⟨gv, 0, none⟩) 1 cv) := (by rw [HC6.out.rb.cell]; (show some V.va = _); rw [hv]); have HO6 : Hid (Own w6 A.B 78 2 encT (.slice (some ⟨gv, 0, none⟩) 1 cv) [y]) := (by have h1 := HC6.out.va; rw [hv] at h1; (show Own _ _ _ _ _ _ _); rw [← HA.out]; exact h1); have y1 : w6.cell? ⟨gv, 1, none⟩ = some (.string ⟨y.value.toArray⟩) := (by have h1 := HO6.out.cellAt encT_ok (k := 0) (j := 1) (u := .string ⟨y.value.toArray⟩) rfl rfl; simpa using h1); have y2 : w6.frozen? ⟨gv, 1, none⟩ = false := HO6.out.freeAt 1; clear hc hv))
  have HK : Hid (Kept (fun g => V.va.ownBlock = some g) w6 (w6.setCell ⟨gv, 1, none⟩ (.string ⟨(fillT r.attrs []).toArray⟩))) := (Kept.refl _ _).setCell (p := ⟨gv, 1, none⟩) (by show V.va.ownBlock = some gv; rw [HV6.out]; rfl) _
  have HOS : Hid (Own (w6.setCell ⟨gv, 1, none⟩ (.string ⟨(fillT r.attrs []).toArray⟩)) A.B 78 2 encT V.va [⟨rest, fillT r.attrs []⟩]) := by
    have h1 := Own.setAt encT_ok HO6.out (k := 0) (by simp) (p := 1) (by omega) (.string ⟨(fillT r.attrs []).toArray⟩) ⟨y.name, fillT r.attrs []⟩ rfl
    show Own _ _ _ _ _ _ _
    rw [HV6.out, ← hy]
    simpa using h1
  have HF := Lib.hid (HC6.out.attr0 HK.out HOS.out)
  refine bodyPost_ret (results_none rfl _ _ _) rfl ?_
  exact ⟨rfl, V, x, HF.out.1, HT6.out.step HC6.out HF.out.2, HS6.out.trans (HF.out.2.toT x)⟩

/-- @set -/
theorem rset_any (A : Adr) (L : List Two) (r : RS) (V : Vals) (ss : List Op1) (x : Op1) (w : World) (h : Core A L r V (ss ++ [x]) w) (ht : Top A r.top x w) (l : Pl) (rest : Bytes) (hrest : rest.length ≤ 100000) (hdg : r.diags.length ≤ 200000) (hat : r.attrs.length ≤ 1048576) (hvs : ∀ x ∈ r.attrs, x.value.length ≤ 100000) (r2 : RS) (hr2 : r.set l rest = some r2) :
    Calls Tryz.prog 134 #[.pointer (some ⟨A.rb, 0, none⟩), .agg #[.string ⟨l.file.toArray⟩, .int .i64 l.no, .string ⟨l.text.toArray⟩], .string ⟨rest.toArray⟩] w (LineGives A L V ss x w r2) := by
  unfold RS.set at hr2
  by_cases hvl : 1000000 < (fillT r.attrs (restOf rest)).length
  · rw [if_pos hvl] at hr2; cases hr2
  rw [if_neg hvl] at hr2
  have hvl2 : (fillT r.attrs (restOf rest)).length ≤ 1000000 := by omega
  have hE1 : setE [] (wordOf rest) (fillT r.attrs (restOf rest)) ≠ 0 → setE [] (wordOf rest) (fillT r.attrs (restOf rest)) = 1 := fun h1 => by
    unfold setE at *
    split at h1
    · split at h1
      · rename_i h2; revert h2; simp [fullB, hasAt, posL]
      · exact absurd rfl h1
    · rename_i h2; rw [if_neg h2]
  have hw : (∃ n, n < rest.length ∧ blankI rest = some n ∧ rest.take n = wordOf rest ∧ trimB (rest.drop n) = restOf rest) ∨ (blankI rest = none ∧ rest = wordOf rest ∧ ([] : Bytes) = restOf rest) := by
    cases hb : blankI rest with
    | none => exact .inr ⟨rfl, by unfold wordOf; rw [hb], by unfold restOf; rw [hb]⟩
    | some n => exact .inl ⟨n, blankI_lt hb, rfl, by unfold wordOf; rw [hb], by unfold restOf; rw [hb]⟩
  generalize wordOf rest = nm at *
  generalize restOf rest = rv at *
  have hfa := fill_attrs r rv
  by_cases hE : setE [] nm (fillT r.attrs rv) = 0
  · simp only [hE, if_true] at hr2
    rw [hfa] at hr2
    rcases ha : r.attrs with _ | ⟨y, _ | ⟨z, t⟩⟩
    · rw [ha] at hr2
      have hr3 : ({ r.fill rv with done := addN (r.fill rv).done nm, attrs := [⟨nm, fillT r.attrs rv⟩] } : RS) = r2 := by rw [ha]; exact Option.some.inj hr2
      subst hr3
      rcases hw with ⟨n, h1, h2, h3, h4⟩ | ⟨h2, h3, h4⟩
      · exact set_nil_b A L r V ss x w h ht l rest hrest hdg n h1 h2 nm rv h3 h4 hat hvs hvl2 hE ha
      · exact set_nil_n A L r V ss x w h ht l rest hrest hdg h2 nm rv h3 h4 hat hvs hvl2 hE ha
    · rw [ha] at hr2
      by_cases hy : (y.name == nm) = true
      · have hr3 : ({ r.fill rv with done := addN (r.fill rv).done nm, attrs := [⟨nm, fillT r.attrs rv⟩] } : RS) = r2 := by
          simp only [hy, if_true] at hr2
          rw [ha]; exact Option.some.inj hr2
        subst hr3
        have hy2 : y.name = nm := by simpa using hy
        rcases hw with ⟨n, h1, h2, h3, h4⟩ | ⟨h2, h3, h4⟩
        · exact set_one_b A L r V ss x w h ht l rest hrest hdg n h1 h2 nm rv h3 h4 hat hvs hvl2 hE y ha hy2
        · exact set_one_n A L r V ss x w h ht l rest hrest hdg h2 nm rv h3 h4 hat hvs hvl2 hE y ha hy2
      · simp only [hy] at hr2; cases hr2
    · rw [ha] at hr2; cases hr2
  · simp only [hE, if_false] at hr2
    cases hr2
    rcases hw with ⟨n, h1, h2, h3, h4⟩ | ⟨h2, h3, h4⟩
    · exact set_bad_b A L r V ss x w h ht l rest hrest hdg n h1 h2 nm rv h3 h4 hat hvs hvl2 (hE1 hE)
    · exact set_bad_n A L r V ss x w h ht l rest hrest hdg h2 nm rv h3 h4 hat hvs hvl2 (hE1 hE)
end Go.Proofs.YtfedkhicckgjaaaGreatDoor
