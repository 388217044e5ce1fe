/- ahead.Read: what it answers of a source that is there, and of one that is not. alive() of the ahead laws: what the document fixes is so. -/
import Derived.Test.YtfedkhicckgjaaaGreatDoorRdSix
import Derived.Test.YtfedkhicckgjaaaGreatDoorBaseB
import Derived.Deep.RegionHeld3
import Derived.Test.YtfedkhicckgjaaaGreatDoorRdOne
import Derived.Test.YtfedkhicckgjaaaGreatDoorBaseA
import Derived.Laws.StructEq
namespace Go.Proofs.YtfedkhicckgjaaaGreatDoor
open Go.RowKit
set_option linter.unusedVariables false
set_option linter.unusedSimpArgs false

/-- ahead.Read's answer -/
def ReadGives (w : World) (B : Nat) (ls : List Pl) (ds : List DiagS) (fs qs : List Bytes) (e : Ending) (w' : World) : Prop :=
  (∃ v0 v1 v2 v3, e = .returned (.tuple #[v0, v1, v2, v3]) ∧ Own w' B 76 3 encL v0 ls ∧ Own w' B 71 4 encD v1 ds ∧ Own w' B 9 1 encS v2 fs ∧ Own w' B 9 1 encS v3 qs) ∧ Below w.heap.size w w'
/-- a reader that has read nothing yet -/
theorem Core.start {w0 w : World} {rb wm dn ak bg : Nat} {la : Option Addr} {lc : Nat} {L : List Two} (hB : w0.heap.size ≤ w.heap.size) (hL : At w 2 encT la L) (hLB : ∀ b off, la = some ⟨b, off, none⟩ → b < w0.heap.size)
    (hrb : Bk w rb [.slice la L.length lc, .slice none 0 0, .map (some wm), .slice none 0 0, .int .i64 0, .map (some dn), .map (some ak), .map (some bg), .slice none 0 0, .slice none 0 0, .slice none 0 0] 89)
    (hb : w0.heap.size ≤ rb ∧ w0.heap.size ≤ dn ∧ w0.heap.size ≤ ak ∧ w0.heap.size ≤ bg) (hwm : SMap w wm wordsKV) (hdn : SMap w dn []) (hak : SMap w ak []) (hbg : SMap w bg [])
    (hne : wm ≠ dn ∧ wm ≠ ak ∧ wm ≠ bg ∧ dn ≠ ak ∧ dn ≠ bg ∧ ak ≠ bg) (hM : MaxOk w) (hMB : 0 < w0.heap.size) :
    Core ⟨w0.heap.size, rb, la, lc, wm, dn, ak, bg⟩ L (RS.new []) ⟨.slice none 0 0, .slice none 0 0, .slice none 0 0, .slice none 0 0, .slice none 0 0⟩ [] w where
  rb := hrb
  hrb := hb.1
  src := hL
  srcB := hLB
  va := Own.nil _ _ _ _ _
  vo := Own.nil _ _ _ _ _
  vl := Own.nil _ _ _ _ _
  vd := Own.nil _ _ _ _ _
  vf := Own.nil _ _ _ _ _
  wm := hwm
  dn := hdn
  ak := hak
  bg := hbg
  mB := hb.2
  mne := hne
  ops := fun x hx => absurd hx (List.not_mem_nil)
  nd := List.nodup_nil
  nm := rfl
  mx := hM
  mxB := hMB
/-- the reader's attributes may be others -/
theorem Core.setAttrs {A : Adr} {L : List Two} {r : RS} {V : Vals} {ss : List Op1} {w : World} {v : Value} {at' : List Two} (h : Core A L r V ss w) (hv : Own w A.B 78 2 encT v at') :
    Core A L { r with attrs := at' } { V with va := v } ss (w.setCell ⟨A.rb, 1, none⟩ v) := by
  have hk : Kept (fun g => g = A.rb) w (w.setCell ⟨A.rb, 1, none⟩ v) := Kept.setCell (S := fun g => g = A.rb) (Kept.refl _ w) (p := ⟨A.rb, 1, none⟩) rfl _
  have hb := h.rb.set 1 v
  have hne := hv.ne_bk h.rb (by decide)
  exact h.upd (T := 78) hk (fun g hg => .inl hg) (by decide) hb (fun _ => hv.set_other (by intro e; exact hne e) 1 v) (fun e => absurd rfl e) (fun e => absurd e (by decide)) (fun _ => ⟨rfl, rfl⟩) (fun e => absurd e (by decide)) (fun _ => ⟨rfl, rfl⟩) (fun e => absurd e (by decide)) (fun _ => ⟨rfl, rfl⟩) (by decide) rfl rfl rfl rfl rfl (fun g hg => by rw [hg]; exact h.hrb)

theorem results_tmp4 {fn : Func} {t u v x : Tmp} (h : fn.results = #[.tmp t, .tmp u, .tmp v, .tmp x]) (tmps : Array Value) (P : Program) (w : World) :
    (results fn tmps).run P w = .ok (.tuple #[tmps[t]?.getD undef, tmps[u]?.getD undef, tmps[v]?.getD undef, tmps[x]?.getD undef]) w := by
  simp [results, h, List.mapM_cons, List.mapM_nil, Result.andThen]

set_option maxHeartbeats 4000000 in
set_option maxRecDepth 100000 in
theorem read_miss (la : Option Addr) (lc : Nat) (L : List Two) (aa : Option Addr) (ac : Nat) (attrs : List Two) (name : Bytes) (w : World) (hL : At w 2 encT la L) (hLn : L.length ≤ 1048576) (hs : srcL L name = none) :
    Calls Tryz.prog 25 #[.slice la L.length lc, .slice aa attrs.length ac, .string ⟨name.toArray⟩] w (ReadGives w w.heap.size [] [⟨name, 0, 1, name⟩] [] []) := by
  have HS := Lib.hid (srcV_none hs)
  go_enter Tryz.func25, Tryz.ntmps25
  go_wp2_with (go_at_call 14; refine (find_any la lc L name w hLn hL).mono ?_; rw [HS.out.1, HS.out.2]; rintro e w1 ⟨rfl, hb⟩; have HB := Lib.hid hb; have hz := hb.size; clear hb)
  refine bodyPost_ret (results_tmp4 rfl _ _ _) rfl ?_
  refine ⟨⟨_, _, _, _, rfl, Own.nil _ _ _ _ _, ?_, Own.nil _ _ _ _ _, Own.nil _ _ _ _ _⟩, HB.out.alloc HB.out.size _⟩
  exact ⟨by simp [encD], .inr ⟨w1.heap.size, 1, #[.string ⟨name.toArray⟩, .int .i64 0, .int .i64 1, .string ⟨name.toArray⟩], rfl, HB.out.size, by rw [World.alloc]; simp, Nat.le_refl _, by unfold maxLen; omega, rfl, rfl⟩⟩

set_option maxHeartbeats 8000000 in
set_option maxRecDepth 100000 in
theorem read_ok_true (la : Option Addr) (lc : Nat) (L : List Two) (aa : Option Addr) (ac : Nat) (attrs : List Two) (name text : Bytes) (w : World) (hL : At w 2 encT la L) (hLB : ∀ b off, la = some ⟨b, off, none⟩ → b < w.heap.size) (hLn : L.length ≤ 1048576)
    (hA : At w 2 encT aa attrs) (hAn : attrs.length ≤ 1048576) (hAs : ∀ x ∈ attrs, x.name.length + x.value.length ≤ 9223372036854775807) (hM : MaxOk w) (hs : srcL L name = some text) (hck : checkB attrs = true) (r : RS) (hr : RS.read L 17 (RS.new attrs) name text = some r) (hq : r.asked.length ≤ 1000000 ∧ ∀ x ∈ r.asked, x.length ≤ 1000000) :
    Calls Tryz.prog 25 #[.slice la L.length lc, .slice aa attrs.length ac, .string ⟨name.toArray⟩] w (ReadGives w w.heap.size r.lines r.diags r.files (sortB r.asked)) := by
  have HS := Lib.hid (srcV_some hs)
  have HL := Lib.hid hL
  have HA := Lib.hid hA
  have HAS := Lib.hid hAs
  have HLB := Lib.hid hLB
  have HM := Lib.hid hM
  have HR := Lib.hid hr
  have HQ := Lib.hid hq
  have HCK := Lib.hid hck
  clear hL hA hLB hM hr hq hck hs hAs
  have hmm := @run_makeMap Tryz.prog
  go_enter Tryz.func25, Tryz.ntmps25
  go_wp2_with (first
    | (go_at_call 14; refine (find_any la lc L name w hLn HL.out).mono ?_; rw [HS.out.1, HS.out.2]; rintro e w1 ⟨rfl, hb⟩; have HB1 := Lib.hid hb; have hz1 := hb.size; clear hb)
    | (go_at_call 86; refine (words_any w1).mono ?_; rintro e w2 ⟨rfl, hwm, hb⟩; have HW2 := Lib.hid hwm; have HB2 := Lib.hid (HB1.out.trans (hb.mono hz1)); have hz2 := hb.size; have hwlt := hwm.lt; clear hwm hb)
    | (go_at_call 87; refine Hold.out ?_))
  constructor
  have hzz : w.heap.size ≤ w2.heap.size := by omega
  have hMB := HM.out.lt
  have hb6 : Below w.heap.size w ((((w2.alloc (.map #[] 0)).alloc (.map #[] 0)).alloc (.map #[] 0)).alloc (.cells #[.slice la L.length lc, .slice none 0 0, .map (some w1.heap.size), .slice none 0 0, .int .i64 0, .map (some w2.heap.size), .map (some (w2.heap.size + 1)), .map (some (w2.heap.size + 1 + 1)), .slice none 0 0, .slice none 0 0, .slice none 0 0] 89)) := (((HB2.out.alloc HB2.out.size _).alloc (by simp; omega) _).alloc (by simp; omega) _).alloc (by simp; omega) _
  have HB6 := Lib.hid hb6
  have HC6 : Hid (Core ⟨w.heap.size, w2.heap.size + 1 + 1 + 1, la, lc, w1.heap.size, w2.heap.size, w2.heap.size + 1, w2.heap.size + 1 + 1⟩ L (RS.new []) ⟨.slice none 0 0, .slice none 0 0, .slice none 0 0, .slice none 0 0, .slice none 0 0⟩ [] ((((w2.alloc (.map #[] 0)).alloc (.map #[] 0)).alloc (.map #[] 0)).alloc (.cells #[.slice la L.length lc, .slice none 0 0, .map (some w1.heap.size), .slice none 0 0, .int .i64 0, .map (some w2.heap.size), .map (some (w2.heap.size + 1)), .map (some (w2.heap.size + 1 + 1)), .slice none 0 0, .slice none 0 0, .slice none 0 0] 89))) := by
    refine Core.start (w0 := w) hb6.size (HL.out.below hb6) HLB.out ?_ ?_ ((((HW2.out.alloc _).alloc _).alloc _).alloc _) ?_ ?_ ?_ ?_ (HM.out.next hb6) hMB
    · have h1 := Bk.new (((w2.alloc (.map #[] 0)).alloc (.map #[] 0)).alloc (.map #[] 0)) #[.slice la L.length lc, .slice none 0 0, .map (some w1.heap.size), .slice none 0 0, .int .i64 0, .map (some w2.heap.size), .map (some (w2.heap.size + 1)), .map (some (w2.heap.size + 1 + 1)), .slice none 0 0, .slice none 0 0, .slice none 0 0] 89; simp only [World.size_alloc] at h1; exact h1
    · exact ⟨by omega, by omega, by omega, by omega⟩
    · exact (((SMap.new w2).alloc _).alloc _).alloc _
    · have h1 := ((SMap.new (w2.alloc (.map #[] 0))).alloc (.map #[] 0)).alloc (.cells #[.slice la L.length lc, .slice none 0 0, .map (some w1.heap.size), .slice none 0 0, .int .i64 0, .map (some w2.heap.size), .map (some (w2.heap.size + 1)), .map (some (w2.heap.size + 1 + 1)), .slice none 0 0, .slice none 0 0, .slice none 0 0] 89); simp only [World.size_alloc] at h1; exact h1
    · have h1 := (SMap.new ((w2.alloc (.map #[] 0)).alloc (.map #[] 0))).alloc (.cells #[.slice la L.length lc, .slice none 0 0, .map (some w1.heap.size), .slice none 0 0, .int .i64 0, .map (some w2.heap.size), .map (some (w2.heap.size + 1)), .map (some (w2.heap.size + 1 + 1)), .slice none 0 0, .slice none 0 0, .slice none 0 0] 89); simp only [World.size_alloc] at h1; exact h1
    · exact ⟨by omega, by omega, by omega, by omega, by omega, by omega⟩
  clear hb6
  refine (check_any aa ac attrs _ hAn (HA.out.below HB6.out) HAS.out).mono ?_
  rw [HCK.out]
  rintro e w7 ⟨rfl, hb⟩
  have HC7 := Lib.hid (HC6.out.next hb)
  have HB7 := Lib.hid (HB6.out.trans (hb.mono HB6.out.size))
  clear hb
  have hzA : At w7 2 encT aa attrs := HA.out.below HB7.out
  go_wp2_with (go_at_call 88; refine Hold.out ?_)
  constructor
  refine (clone_any aa ac attrs _ hzA hAn).mono ?_
  rintro e w8 ⟨⟨v, rfl, hO⟩, hb⟩
  obtain ⟨va, vc, rfl⟩ := hO.shape
  have HC8 := Lib.hid (HC7.out.next hb)
  have HB8 := Lib.hid (HB7.out.trans (hb.mono HB7.out.size))
  have HC9 : Hid (Core ⟨w.heap.size, w2.heap.size + 1 + 1 + 1, la, lc, w1.heap.size, w2.heap.size, w2.heap.size + 1, w2.heap.size + 1 + 1⟩ L (RS.new attrs) { (⟨.slice none 0 0, .slice none 0 0, .slice none 0 0, .slice none 0 0, .slice none 0 0⟩ : Vals) with va := .slice va attrs.length vc } [] (w8.setCell ⟨w2.heap.size + 1 + 1 + 1, 1, none⟩ (.slice va attrs.length vc))) := HC8.out.setAttrs (hO.mono HB7.out.size)
  have HB9 : Hid (Below w.heap.size w (w8.setCell ⟨w2.heap.size + 1 + 1 + 1, 1, none⟩ (.slice va attrs.length vc))) := HB8.out.setCell (by show w.heap.size ≤ w2.heap.size + 1 + 1 + 1; omega) _
  have z0 : w8.cell? ⟨w2.heap.size + 1 + 1 + 1, 1, none⟩ = some (.slice none 0 0) := by have h1 := HC8.out.rb.cell 1; exact h1
  have z1 : w8.frozen? ⟨w2.heap.size + 1 + 1 + 1, 1, none⟩ = false := HC8.out.rb.free 1
  clear hb hO hzA
  go_wp2_with ((go_at_call 89; refine (run_any _ L hLn (RS.new attrs) _ [] _ HC9.out name text r HR.out).mono ?_; rintro e w10 ⟨rfl, V10, hc, hs⟩; have HC10 := Lib.hid hc; have HB10 := Lib.hid (HB9.out.trans (HC9.out.below hs HC9.out.base)); clear hc hs))
  have c6 : w10.cell? ⟨w2.heap.size + 1 + 1 + 1, 6, none⟩ = some (.map (some (w2.heap.size + 1))) := by have h1 := HC10.out.rb.cell 6; exact h1
  have c8 : w10.cell? ⟨w2.heap.size + 1 + 1 + 1, 8, none⟩ = some V10.vl := by have h1 := HC10.out.rb.cell 8; exact h1
  have c9 : w10.cell? ⟨w2.heap.size + 1 + 1 + 1, 9, none⟩ = some V10.vd := by have h1 := HC10.out.rb.cell 9; exact h1
  have c10 : w10.cell? ⟨w2.heap.size + 1 + 1 + 1, 10, none⟩ = some V10.vf := by have h1 := HC10.out.rb.cell 10; exact h1
  have hlt10 : w2.heap.size + 1 + 1 + 1 < w10.heap.size := HC10.out.rb.lt
  have HAK : Hid (SMap w10.drew (w2.heap.size + 1) (kv r.asked)) := HC10.out.ak
  have HKEY := Lib.hid (sorted_any (w2.heap.size + 1) r.asked w10.drew HAK.out HQ.out.1 HQ.out.2)
  go_region_held3 (fun w' => w'.cell? ⟨w2.heap.size + 1 + 1 + 1, 6, none⟩ = some (.map (some (w2.heap.size + 1))) ∧ w'.cell? ⟨w2.heap.size + 1 + 1 + 1, 8, none⟩ = some V10.vl ∧ w'.cell? ⟨w2.heap.size + 1 + 1 + 1, 9, none⟩ = some V10.vd ∧ w'.cell? ⟨w2.heap.size + 1 + 1 + 1, 10, none⟩ = some V10.vf) (first | exact ⟨c6, c8, c9, c10⟩ | exact ⟨d6, d8, d9, d10⟩ | go_keep) (first | (go_at_call 91; refine (keys_any _ _).mono ?_; rintro e w11 ⟨rfl, rfl⟩) | (go_at_call 90; refine HKEY.out.mono ?_; rintro e w12 ⟨⟨v3, rfl, hO3⟩, hb⟩; have HO3 := Lib.hid hO3; have hbx := (Below.trans (show Below w10.heap.size w10 w10.drew from ⟨rfl, rfl, rfl, Nat.le_refl _, fun _ _ => rfl⟩) hb); have HC12 := Lib.hid (HC10.out.next hbx); have HB12 := Lib.hid (HB10.out.trans (hbx.mono HB10.out.size)); have d6 := HC12.out.rb.cell 6; have d8 := HC12.out.rb.cell 8; have d9 := HC12.out.rb.cell 9; have d10 := HC12.out.rb.cell 10; clear hO3 hb hbx))
  all_goals
    go_wp2
    refine bodyPost_ret (results_tmp4 rfl _ _ _) rfl ?_
    exact ⟨⟨_, _, _, _, rfl, HC12.out.vl, HC12.out.vd, HC12.out.vf, HO3.out.mono HB10.out.size⟩, HB12.out⟩

set_option maxHeartbeats 8000000 in
set_option maxRecDepth 100000 in
theorem read_ok_false (la : Option Addr) (lc : Nat) (L : List Two) (aa : Option Addr) (ac : Nat) (attrs : List Two) (name text : Bytes) (w : World) (hL : At w 2 encT la L) (hLB : ∀ b off, la = some ⟨b, off, none⟩ → b < w.heap.size) (hLn : L.length ≤ 1048576)
    (hA : At w 2 encT aa attrs) (hAn : attrs.length ≤ 1048576) (hAs : ∀ x ∈ attrs, x.name.length + x.value.length ≤ 9223372036854775807) (hM : MaxOk w) (hs : srcL L name = some text) (hck : checkB attrs = false) (r : RS) (hr : RS.read L 17 (RS.new []) name text = some r) (hq : r.asked.length ≤ 1000000 ∧ ∀ x ∈ r.asked, x.length ≤ 1000000) :
    Calls Tryz.prog 25 #[.slice la L.length lc, .slice aa attrs.length ac, .string ⟨name.toArray⟩] w (ReadGives w w.heap.size r.lines r.diags r.files (sortB r.asked)) := by
  have HS := Lib.hid (srcV_some hs)
  have HL := Lib.hid hL
  have HA := Lib.hid hA
  have HAS := Lib.hid hAs
  have HLB := Lib.hid hLB
  have HM := Lib.hid hM
  have HR := Lib.hid hr
  have HQ := Lib.hid hq
  have HCK := Lib.hid hck
  clear hL hA hLB hM hr hq hck hs hAs
  have hmm := @run_makeMap Tryz.prog
  go_enter Tryz.func25, Tryz.ntmps25
  go_wp2_with (first
    | (go_at_call 14; refine (find_any la lc L name w hLn HL.out).mono ?_; rw [HS.out.1, HS.out.2]; rintro e w1 ⟨rfl, hb⟩; have HB1 := Lib.hid hb; have hz1 := hb.size; clear hb)
    | (go_at_call 86; refine (words_any w1).mono ?_; rintro e w2 ⟨rfl, hwm, hb⟩; have HW2 := Lib.hid hwm; have HB2 := Lib.hid (HB1.out.trans (hb.mono hz1)); have hz2 := hb.size; have hwlt := hwm.lt; clear hwm hb)
    | (go_at_call 87; refine Hold.out ?_))
  constructor
  have hzz : w.heap.size ≤ w2.heap.size := by omega
  have hMB := HM.out.lt
  have hb6 : Below w.heap.size w ((((w2.alloc (.map #[] 0)).alloc (.map #[] 0)).alloc (.map #[] 0)).alloc (.cells #[.slice la L.length lc, .slice none 0 0, .map (some w1.heap.size), .slice none 0 0, .int .i64 0, .map (some w2.heap.size), .map (some (w2.heap.size + 1)), .map (some (w2.heap.size + 1 + 1)), .slice none 0 0, .slice none 0 0, .slice none 0 0] 89)) := (((HB2.out.alloc HB2.out.size _).alloc (by simp; omega) _).alloc (by simp; omega) _).alloc (by simp; omega) _
  have HB6 := Lib.hid hb6
  have HC6 : Hid (Core ⟨w.heap.size, w2.heap.size + 1 + 1 + 1, la, lc, w1.heap.size, w2.heap.size, w2.heap.size + 1, w2.heap.size + 1 + 1⟩ L (RS.new []) ⟨.slice none 0 0, .slice none 0 0, .slice none 0 0, .slice none 0 0, .slice none 0 0⟩ [] ((((w2.alloc (.map #[] 0)).alloc (.map #[] 0)).alloc (.map #[] 0)).alloc (.cells #[.slice la L.length lc, .slice none 0 0, .map (some w1.heap.size), .slice none 0 0, .int .i64 0, .map (some w2.heap.size), .map (some (w2.heap.size + 1)), .map (some (w2.heap.size + 1 + 1)), .slice none 0 0, .slice none 0 0, .slice none 0 0] 89))) := by
    refine Core.start (w0 := w) hb6.size (HL.out.below hb6) HLB.out ?_ ?_ ((((HW2.out.alloc _).alloc _).alloc _).alloc _) ?_ ?_ ?_ ?_ (HM.out.next hb6) hMB
    · have h1 := Bk.new (((w2.alloc (.map #[] 0)).alloc (.map #[] 0)).alloc (.map #[] 0)) #[.slice la L.length lc, .slice none 0 0, .map (some w1.heap.size), .slice none 0 0, .int .i64 0, .map (some w2.heap.size), .map (some (w2.heap.size + 1)), .map (some (w2.heap.size + 1 + 1)), .slice none 0 0, .slice none 0 0, .slice none 0 0] 89; simp only [World.size_alloc] at h1; exact h1
    · exact ⟨by omega, by omega, by omega, by omega⟩
    · exact (((SMap.new w2).alloc _).alloc _).alloc _
    · have h1 := ((SMap.new (w2.alloc (.map #[] 0))).alloc (.map #[] 0)).alloc (.cells #[.slice la L.length lc, .slice none 0 0, .map (some w1.heap.size), .slice none 0 0, .int .i64 0, .map (some w2.heap.size), .map (some (w2.heap.size + 1)), .map (some (w2.heap.size + 1 + 1)), .slice none 0 0, .slice none 0 0, .slice none 0 0] 89); simp only [World.size_alloc] at h1; exact h1
    · have h1 := (SMap.new ((w2.alloc (.map #[] 0)).alloc (.map #[] 0))).alloc (.cells #[.slice la L.length lc, .slice none 0 0, .map (some w1.heap.size), .slice none 0 0, .int .i64 0, .map (some w2.heap.size), .map (some (w2.heap.size + 1)), .map (some (w2.heap.size + 1 + 1)), .slice none 0 0, .slice none 0 0, .slice none 0 0] 89); simp only [World.size_alloc] at h1; exact h1
    · exact ⟨by omega, by omega, by omega, by omega, by omega, by omega⟩
  clear hb6
  refine (check_any aa ac attrs _ hAn (HA.out.below HB6.out) HAS.out).mono ?_
  rw [HCK.out]
  rintro e w7 ⟨rfl, hb⟩
  have HC7 := Lib.hid (HC6.out.next hb)
  have HB7 := Lib.hid (HB6.out.trans (hb.mono HB6.out.size))
  clear hb
  have HC9 := HC7
  have HB9 := HB7
  go_wp2_with ((go_at_call 89; refine (run_any _ L hLn (RS.new []) _ [] _ HC9.out name text r HR.out).mono ?_; rintro e w10 ⟨rfl, V10, hc, hs⟩; have HC10 := Lib.hid hc; have HB10 := Lib.hid (HB9.out.trans (HC9.out.below hs HC9.out.base)); clear hc hs))
  have c6 : w10.cell? ⟨w2.heap.size + 1 + 1 + 1, 6, none⟩ = some (.map (some (w2.heap.size + 1))) := by have h1 := HC10.out.rb.cell 6; exact h1
  have c8 : w10.cell? ⟨w2.heap.size + 1 + 1 + 1, 8, none⟩ = some V10.vl := by have h1 := HC10.out.rb.cell 8; exact h1
  have c9 : w10.cell? ⟨w2.heap.size + 1 + 1 + 1, 9, none⟩ = some V10.vd := by have h1 := HC10.out.rb.cell 9; exact h1
  have c10 : w10.cell? ⟨w2.heap.size + 1 + 1 + 1, 10, none⟩ = some V10.vf := by have h1 := HC10.out.rb.cell 10; exact h1
  have hlt10 : w2.heap.size + 1 + 1 + 1 < w10.heap.size := HC10.out.rb.lt
  have HAK : Hid (SMap w10.drew (w2.heap.size + 1) (kv r.asked)) := HC10.out.ak
  have HKEY := Lib.hid (sorted_any (w2.heap.size + 1) r.asked w10.drew HAK.out HQ.out.1 HQ.out.2)
  go_region_held3 (fun w' => w'.cell? ⟨w2.heap.size + 1 + 1 + 1, 6, none⟩ = some (.map (some (w2.heap.size + 1))) ∧ w'.cell? ⟨w2.heap.size + 1 + 1 + 1, 8, none⟩ = some V10.vl ∧ w'.cell? ⟨w2.heap.size + 1 + 1 + 1, 9, none⟩ = some V10.vd ∧ w'.cell? ⟨w2.heap.size + 1 + 1 + 1, 10, none⟩ = some V10.vf) (first | exact ⟨c6, c8, c9, c10⟩ | exact ⟨d6, d8, d9, d10⟩ | go_keep) (first | (go_at_call 91; refine (keys_any _ _).mono ?_; rintro e w11 ⟨rfl, rfl⟩) | (go_at_call 90; refine HKEY.out.mono ?_; rintro e w12 ⟨⟨v3, rfl, hO3⟩, hb⟩; have HO3 := Lib.hid hO3; have hbx := (Below.trans (show Below w10.heap.size w10 w10.drew from ⟨rfl, rfl, rfl, Nat.le_refl _, fun _ _ => rfl⟩) hb); have HC12 := Lib.hid (HC10.out.next hbx); have HB12 := Lib.hid (HB10.out.trans (hbx.mono HB10.out.size)); have d6 := HC12.out.rb.cell 6; have d8 := HC12.out.rb.cell 8; have d9 := HC12.out.rb.cell 9; have d10 := HC12.out.rb.cell 10; clear hO3 hb hbx))
  all_goals
    go_wp2
    refine bodyPost_ret (results_tmp4 rfl _ _ _) rfl ?_
    exact ⟨⟨_, _, _, _, rfl, HC12.out.vl, HC12.out.vd, HC12.out.vf, HO3.out.mono HB10.out.size⟩, HB12.out⟩

/-- ahead.Read of a source that is there -/
theorem read_ok (la : Option Addr) (lc : Nat) (L : List Two) (aa : Option Addr) (ac : Nat) (attrs : List Two) (name text : Bytes) (w : World) (hL : At w 2 encT la L) (hLB : ∀ b off, la = some ⟨b, off, none⟩ → b < w.heap.size) (hLn : L.length ≤ 1048576)
    (hA : At w 2 encT aa attrs) (hAn : attrs.length ≤ 1048576) (hAs : ∀ x ∈ attrs, x.name.length + x.value.length ≤ 9223372036854775807) (hM : MaxOk w) (hs : srcL L name = some text) (r : RS) (hr : readP L attrs name text = some r) (hq : r.asked.length ≤ 1000000 ∧ ∀ x ∈ r.asked, x.length ≤ 1000000) :
    Calls Tryz.prog 25 #[.slice la L.length lc, .slice aa attrs.length ac, .string ⟨name.toArray⟩] w (ReadGives w w.heap.size r.lines r.diags r.files (sortB r.asked)) := by
  unfold readP at hr
  cases hck : checkB attrs
  · rw [hck, if_neg (by decide)] at hr
    exact read_ok_false la lc L aa ac attrs name text w hL hLB hLn hA hAn hAs hM hs hck r hr hq
  · rw [hck, if_pos rfl] at hr
    exact read_ok_true la lc L aa ac attrs name text w hL hLB hLn hA hAn hAs hM hs hck r hr hq
end Go.Proofs.YtfedkhicckgjaaaGreatDoor

namespace Go.Proofs.YtfedkhicckgjaaaGreatDoor
open Go.RowKit
set_option linter.unusedVariables false
set_option linter.unusedSimpArgs false

theorem At.ofBk {α : Type} {w : World} {g sz : Nat} {enc : α → List Value} {l : List α} {T : TypeId} (he : Enc sz enc) (h : Bk w g (l.flatMap enc) T) : At w sz enc (some ⟨g, 0, none⟩) l := by
  refine .inr ⟨g, 0, rfl, h.lt, fun i x hi j v hj => ?_⟩
  have hjz : j < sz := by rw [← he.len x]; exact (List.getElem?_eq_some_iff.1 hj).1
  rw [Nat.zero_add, h.cell, flat_get he.len l i j hjz, hi]
  exact hj
theorem Own.ptrN {α : Type} {w : World} {B : Nat} {e : TypeId} {sz : Nat} {enc : α → List Value} {v : Value} {l : List α} (h : Own w B e sz enc v l) (k : Nat) (hk : l.length = k + 1) : ∃ g c, v = .slice (some ⟨g, 0, none⟩) (k + 1) c ∧ g < w.heap.size := by
  obtain ⟨g, c, hv, _⟩ := h.ptr' hk
  exact ⟨g, c, hv, (h.block g (by rw [hv]; rfl)).2⟩
/-- ahead.Read where the plain reading is known -/
theorem read_ans (la : Option Addr) (lc : Nat) (L : List Two) (aa : Option Addr) (ac : Nat) (attrs : List Two) (name text : Bytes) (w : World) (hL : At w 2 encT la L) (hLB : ∀ b off, la = some ⟨b, off, none⟩ → b < w.heap.size) (hLn : L.length ≤ 1048576)
    (hA : At w 2 encT aa attrs) (hAn : attrs.length ≤ 1048576) (hAs : ∀ x ∈ attrs, x.name.length + x.value.length ≤ 9223372036854775807) (hM : MaxOk w) (hs : srcL L name = some text) (a : Ans) (hr : (readP L attrs name text).map RS.ans = some a) (hq : a.asked.length ≤ 1000000 ∧ ∀ x ∈ a.asked, x.length ≤ 1000000) :
    Calls Tryz.prog 25 #[.slice la L.length lc, .slice aa attrs.length ac, .string ⟨name.toArray⟩] w (ReadGives w w.heap.size a.lines a.diags a.files (sortB a.asked)) := by
  obtain ⟨r, h1, h2⟩ := Option.map_eq_some_iff.1 hr
  subst h2
  exact read_ok la lc L aa ac attrs name text w hL hLB hLn hA hAn hAs hM hs r h1 hq
theorem Bk.new1 (w : World) (o : Obj) (C : Array Value) (t : TypeId) : Bk ((w.alloc o).alloc (.cells C t)) (w.heap.size + 1) C.toList t := by have h1 := Bk.new (w.alloc o) C t; rw [World.size_alloc] at h1; exact h1
theorem gen_calls {P : Program} {f : FuncId} {args : Array Value} {w : World} {Q : Ending → World → Prop} (h : ∀ W, W = w → Calls P f args W Q) : Calls P f args w Q := h w rfl
set_option maxHeartbeats 1000000 in
theorem src_any (n t : Bytes) (w : World) : Calls Tryz.prog 26 #[.string ⟨n.toArray⟩, .string ⟨t.toArray⟩] w fun e w' => e = .returned (.agg #[.string ⟨n.toArray⟩, .string ⟨t.toArray⟩]) ∧ Below w.heap.size w w' := by
  go_enter Tryz.func26, Tryz.ntmps26
  go_wp2
  refine bodyPost_ret (v := .agg #[.string ⟨n.toArray⟩, .string ⟨t.toArray⟩]) ?_ rfl ⟨rfl, (Below.refl _ _).alloc (Nat.le_refl _) _⟩
  simp [results, Tryz.results26, go_sem]

set_option maxHeartbeats 8000000 in
set_option maxRecDepth 100000 in
theorem alive_any (w : World) (hM : MaxOk w) : Calls Tryz.prog 22 #[] w fun e w' => e = .returned (.bool true) ∧ Below w.heap.size w w' := by
  have HM := Lib.hid hM
  clear hM
  go_enter Tryz.func22, Tryz.ntmps22
  go_wp2_with (first
    | (go_at_call 26; refine Hold.out ?_))
  constructor
  refine (src_any _ _ _).mono ?_
  rintro e w1 ⟨rfl, hb1⟩
  go_wp2_with (first
    | (go_at_call 26; refine Hold.out ?_))
  constructor
  refine (src_any _ _ _).mono ?_
  rintro e w2 ⟨rfl, hc⟩
  have hb2 := hb1.trans (hc.mono hb1.size)
  clear hc
  go_wp2_with (first
    | (go_at_call 25; refine Hold.out ?_))
  constructor
  refine gen_calls fun W4 hW => ?_
  have hBL4 : Bk W4 w2.heap.size (aliveL.flatMap encT) 63 := by rw [hW]; exact (Bk.new w2 _ _).alloc _
  have hBA4 : Bk W4 (w2.heap.size + 1) ((([⟨[120], [49]⟩] : List Two)).flatMap encT) 78 := by rw [hW]; exact Bk.new1 w2 _ _ _
  have hb4 : Below w.heap.size w W4 := by rw [hW]; exact (hb2.alloc hb2.size _).alloc (by have := hb2.size; simp; omega) _
  clear hW
  have HB4 := Lib.hid hb4
  have HBL4 := Lib.hid hBL4
  have HBA := Lib.hid hBA4
  clear hb4 hBL4 hBA4
  refine (read_ans (some ⟨w2.heap.size, 0, none⟩) 2 aliveL (some ⟨w2.heap.size + 1, 0, none⟩) 1 [⟨[120], [49]⟩] [109] [97, 10, 64, 105, 110, 99, 108, 117, 100, 101, 32, 110, 10, 64, 105, 102, 32, 120, 10, 98, 10, 64, 101, 108, 115, 101, 10, 99, 10, 64, 101, 110, 100, 10] _ (At.ofBk encT_ok HBL4.out) (fun b off e => by cases e; exact HBL4.out.lt) (by decide) (At.ofBk encT_ok HBA.out) (by decide) (fun x hx => by simp at hx; subst hx; decide) (HM.out.next HB4.out) rfl _ alive_a ⟨by decide, fun x hx => by simp at hx; subst hx; decide⟩).mono ?_
  rintro e r1 ⟨⟨u0, u1, u2, u3, rfl, h0, h1, h2, h3⟩, hc⟩
  rw [sortB_one] at h3
  obtain ⟨ga, ka, rfl, hga⟩ := h0.ptrN 2 rfl
  obtain ⟨bb, kb, rfl⟩ := h1.shape
  obtain ⟨gc, kc, rfl, hgc⟩ := h2.ptrN 1 rfl
  obtain ⟨gd, kd, rfl, hgd⟩ := h3.ptrN 0 rfl
  have HA1 := Lib.hid h0
  have HC1 := Lib.hid h2
  have HD1 := Lib.hid h3
  have HR1 := Lib.hid (HB4.out.trans (hc.mono HB4.out.size))
  have HL1 := Lib.hid (HBL4.out.next hc)
  clear h0 h1 h2 h3 hc hb1 hb2
  go_wp2_with (first
    | (go_at_call 25; refine Hold.out ?_))
  constructor
  refine (read_ans (some ⟨w2.heap.size, 0, none⟩) 2 aliveL none 0 [] [109] [97, 10, 64, 105, 110, 99, 108, 117, 100, 101, 32, 110, 10, 64, 105, 102, 32, 120, 10, 98, 10, 64, 101, 108, 115, 101, 10, 99, 10, 64, 101, 110, 100, 10] _ (At.ofBk encT_ok HL1.out) (fun b off e => by cases e; exact HL1.out.lt) (by decide) (At.nil _ _ _ _) (by decide) (fun x hx => by simp at hx) (HM.out.next HR1.out) rfl _ alive_x ⟨by decide, fun x hx => by simp at hx; subst hx; decide⟩).mono ?_
  rintro e r2 ⟨⟨u0, u1, u2, u3, rfl, h0, h1, h2, h3⟩, hc⟩
  rw [sortB_one] at h3
  obtain ⟨gx, kx, rfl, hgx⟩ := h0.ptrN 2 rfl
  obtain ⟨bx, kbx, rfl⟩ := h1.shape
  obtain ⟨gcx, kcx, rfl, _⟩ := h2.ptrN 1 rfl
  obtain ⟨gdx, kdx, rfl, _⟩ := h3.ptrN 0 rfl
  have HX2 := Lib.hid h0
  have HA2 := Lib.hid (HA1.out.next rfl hc)
  have HC2 := Lib.hid (HC1.out.next rfl hc)
  have HD2 := Lib.hid (HD1.out.next rfl hc)
  have HR2 := Lib.hid (HR1.out.trans (hc.mono HR1.out.size))
  clear h0 h1 h2 h3 hc
  go_wp2_with (first
    | (go_at_call 26; refine Hold.out ?_))
  constructor
  refine (src_any _ _ _).mono ?_
  rintro e w5 ⟨rfl, hc⟩
  have HX5 := Lib.hid (HX2.out.next rfl hc)
  have HA5 := Lib.hid (HA2.out.next rfl hc)
  have HC5 := Lib.hid (HC2.out.next rfl hc)
  have HD5 := Lib.hid (HD2.out.next rfl hc)
  have HR5 := Lib.hid (HR2.out.trans (hc.mono HR2.out.size))
  clear hc
  go_wp2_with (first
    | (go_at_call 25; refine Hold.out ?_))
  constructor
  refine gen_calls fun W6 hW => ?_
  have hBY : Bk W6 w5.heap.size (aliveY.flatMap encT) 63 := by rw [hW]; exact Bk.new w5 _ _
  have hbl6 : Below w5.heap.size w5 W6 := by rw [hW]; exact (Below.refl _ _).alloc (Nat.le_refl _) _
  clear hW
  have HBY := Lib.hid hBY
  have HBl6 := Lib.hid hbl6
  have HR6 := Lib.hid (HR5.out.trans (hbl6.mono HR5.out.size))
  clear hBY hbl6
  refine (read_ans (some ⟨w5.heap.size, 0, none⟩) 1 aliveY none 0 [] [109] [64, 105, 110, 99, 108, 117, 100, 101, 32, 109, 10, 64, 102, 111, 111, 10, 64, 101, 110, 100, 10, 64, 105, 102, 32, 120] _ (At.ofBk encT_ok HBY.out) (fun b off e => by cases e; exact HBY.out.lt) (by decide) (At.nil _ _ _ _) (by decide) (fun x hx => by simp at hx) (HM.out.next HR6.out) rfl _ alive_y ⟨by decide, fun x hx => by simp at hx; subst hx; decide⟩).mono ?_
  rintro e r7 ⟨⟨u0, u1, u2, u3, rfl, h0, h1, h2, h3⟩, hc0⟩
  have hc := HBl6.out.trans (hc0.mono HBl6.out.size)
  rw [sortB_one] at h3
  obtain ⟨ay, ky, rfl⟩ := h0.shape
  obtain ⟨gy, kby, rfl, hgy⟩ := h1.ptrN 3 rfl
  obtain ⟨gcy, kcy, rfl, _⟩ := h2.ptrN 0 rfl
  obtain ⟨gdy, kdy, rfl, _⟩ := h3.ptrN 0 rfl
  have HY7 := Lib.hid h1
  have HX7 := Lib.hid (HX5.out.next rfl hc)
  have HA7 := Lib.hid (HA5.out.next rfl hc)
  have HC7 := Lib.hid (HC5.out.next rfl hc)
  have HD7 := Lib.hid (HD5.out.next rfl hc)
  have HR7 := Lib.hid (HR5.out.trans (hc.mono HR5.out.size))
  clear h0 h1 h2 h3 hc hc0
  go_wp2_with (first
    | (go_at_call 25; refine Hold.out ?_))
  constructor
  refine (read_miss none 0 [] none 0 [] [107] _ (At.nil _ _ _ _) (by decide) rfl).mono ?_
  rintro e r8 ⟨⟨u0, u1, u2, u3, rfl, h0, h1, h2, h3⟩, hc⟩
  obtain ⟨az, kz, rfl⟩ := h0.shape
  obtain ⟨gz, kbz, rfl, hgz⟩ := h1.ptrN 0 rfl
  obtain ⟨acz, kcz, rfl⟩ := h2.shape
  obtain ⟨adz, kdz, rfl⟩ := h3.shape
  have HZ8 := Lib.hid h1
  have HY8 := Lib.hid (HY7.out.next rfl hc)
  have HX8 := Lib.hid (HX7.out.next rfl hc)
  have HA8 := Lib.hid (HA7.out.next rfl hc)
  have HC8 := Lib.hid (HC7.out.next rfl hc)
  have HD8 := Lib.hid (HD7.out.next rfl hc)
  have HR8 := Lib.hid (HR7.out.trans (hc.mono HR7.out.size))
  clear h0 h1 h2 h3 hc
  have fa10 := HA8.out.cellAt encL_ok (k := 1) (j := 0) (u := .string ⟨#[110]⟩) rfl rfl
  have fa11 := HA8.out.cellAt encL_ok (k := 1) (j := 1) (u := .int .i64 1) rfl rfl
  have fa12 := HA8.out.cellAt encL_ok (k := 1) (j := 2) (u := .string ⟨#[49]⟩) rfl rfl
  have fa20 := HA8.out.cellAt encL_ok (k := 2) (j := 0) (u := .string ⟨#[109]⟩) rfl rfl
  have fa21 := HA8.out.cellAt encL_ok (k := 2) (j := 1) (u := .int .i64 4) rfl rfl
  have fa22 := HA8.out.cellAt encL_ok (k := 2) (j := 2) (u := .string ⟨#[98]⟩) rfl rfl
  have fx := HX8.out.cellAt encL_ok (k := 2) (j := 2) (u := .string ⟨#[99]⟩) rfl rfl
  have fy00 := HY8.out.cellAt encD_ok (k := 0) (j := 0) (u := .string ⟨#[109]⟩) rfl rfl
  have fy01 := HY8.out.cellAt encD_ok (k := 0) (j := 1) (u := .int .i64 1) rfl rfl
  have fy02 := HY8.out.cellAt encD_ok (k := 0) (j := 2) (u := .int .i64 2) rfl rfl
  have fy03 := HY8.out.cellAt encD_ok (k := 0) (j := 3) (u := .string ⟨#[109]⟩) rfl rfl
  have fy30 := HY8.out.cellAt encD_ok (k := 3) (j := 0) (u := .string ⟨#[109]⟩) rfl rfl
  have fy31 := HY8.out.cellAt encD_ok (k := 3) (j := 1) (u := .int .i64 4) rfl rfl
  have fy32 := HY8.out.cellAt encD_ok (k := 3) (j := 2) (u := .int .i64 4) rfl rfl
  have fy33 := HY8.out.cellAt encD_ok (k := 3) (j := 3) (u := .string ⟨#[]⟩) rfl rfl
  have fy12 := HY8.out.cellAt encD_ok (k := 1) (j := 2) (u := .int .i64 3) rfl rfl
  have fy23 := HY8.out.cellAt encD_ok (k := 2) (j := 3) (u := .string ⟨#[64, 101, 110, 100]⟩) rfl rfl
  have fz0 := HZ8.out.cellAt encD_ok (k := 0) (j := 0) (u := .string ⟨#[107]⟩) rfl rfl
  have fz1 := HZ8.out.cellAt encD_ok (k := 0) (j := 1) (u := .int .i64 0) rfl rfl
  have fz2 := HZ8.out.cellAt encD_ok (k := 0) (j := 2) (u := .int .i64 1) rfl rfl
  have fz3 := HZ8.out.cellAt encD_ok (k := 0) (j := 3) (u := .string ⟨#[107]⟩) rfl rfl
  simp only [Nat.reduceMul, Nat.reduceAdd] at fa10 fa11 fa12 fa20 fa21 fa22 fx fy00 fy01 fy02 fy03 fy30 fy31 fy32 fy33 fy12 fy23 fz0 fz1 fz2 fz3
  go_wp2_with (first
    | (go_at_call 16; refine Hold.out ?_))
  constructor
  refine gen_calls fun W9 hW => ?_
  have hbW : Below r8.heap.size r8 W9 := by rw [hW]; exact (Below.refl _ _).alloc (Nat.le_refl _) _
  have hbk : Bk W9 r8.heap.size (([[109], [110]] : List Bytes).flatMap encS) 9 := by rw [hW]; exact Bk.new r8 _ _
  clear hW
  refine (sameTexts_any _ _ _ _ [[109], [110]] W9 (by decide) ((HC8.out.next rfl hbW).addr encS_ok) (At.ofBk encS_ok hbk)).mono ?_
  rintro e r9 ⟨rfl, hc0⟩
  have hc := hbW.trans (hc0.mono hbW.size)
  have HD9 := Lib.hid (HD8.out.next rfl hc)
  have HY9 := Lib.hid (HY8.out.next rfl hc)
  have HZ9 := Lib.hid (HZ8.out.next rfl hc)
  have HR9 := Lib.hid (HR8.out.trans (hc.mono HR8.out.size))
  clear hc hc0 hbW hbk fa10 fa11 fa12 fa20 fa21 fa22 fx fy00 fy01 fy02 fy03 fy30 fy31 fy32 fy33 fy12 fy23 fz0 fz1 fz2 fz3
  have fy00 := HY9.out.cellAt encD_ok (k := 0) (j := 0) (u := .string ⟨#[109]⟩) rfl rfl
  have fy01 := HY9.out.cellAt encD_ok (k := 0) (j := 1) (u := .int .i64 1) rfl rfl
  have fy02 := HY9.out.cellAt encD_ok (k := 0) (j := 2) (u := .int .i64 2) rfl rfl
  have fy03 := HY9.out.cellAt encD_ok (k := 0) (j := 3) (u := .string ⟨#[109]⟩) rfl rfl
  have fy30 := HY9.out.cellAt encD_ok (k := 3) (j := 0) (u := .string ⟨#[109]⟩) rfl rfl
  have fy31 := HY9.out.cellAt encD_ok (k := 3) (j := 1) (u := .int .i64 4) rfl rfl
  have fy32 := HY9.out.cellAt encD_ok (k := 3) (j := 2) (u := .int .i64 4) rfl rfl
  have fy33 := HY9.out.cellAt encD_ok (k := 3) (j := 3) (u := .string ⟨#[]⟩) rfl rfl
  have fy12 := HY9.out.cellAt encD_ok (k := 1) (j := 2) (u := .int .i64 3) rfl rfl
  have fy23 := HY9.out.cellAt encD_ok (k := 2) (j := 3) (u := .string ⟨#[64, 101, 110, 100]⟩) rfl rfl
  have fz0 := HZ9.out.cellAt encD_ok (k := 0) (j := 0) (u := .string ⟨#[107]⟩) rfl rfl
  have fz1 := HZ9.out.cellAt encD_ok (k := 0) (j := 1) (u := .int .i64 0) rfl rfl
  have fz2 := HZ9.out.cellAt encD_ok (k := 0) (j := 2) (u := .int .i64 1) rfl rfl
  have fz3 := HZ9.out.cellAt encD_ok (k := 0) (j := 3) (u := .string ⟨#[107]⟩) rfl rfl
  simp only [Nat.reduceMul, Nat.reduceAdd] at fy00 fy01 fy02 fy03 fy30 fy31 fy32 fy33 fy12 fy23 fz0 fz1 fz2 fz3
  go_wp2_with (first
    | (go_at_call 16; refine Hold.out ?_))
  constructor
  refine gen_calls fun W10 hW => ?_
  have hbW : Below r9.heap.size r9 W10 := by rw [hW]; exact (Below.refl _ _).alloc (Nat.le_refl _) _
  have hbk : Bk W10 r9.heap.size (([[120]] : List Bytes).flatMap encS) 9 := by rw [hW]; exact Bk.new r9 _ _
  clear hW
  refine (sameTexts_any _ _ _ _ [[120]] W10 (by decide) ((HD9.out.next rfl hbW).addr encS_ok) (At.ofBk encS_ok hbk)).mono ?_
  rintro e r10 ⟨rfl, hc0⟩
  have hc := hbW.trans (hc0.mono hbW.size)
  have HY10 := Lib.hid (HY9.out.next rfl hc)
  have HZ10 := Lib.hid (HZ9.out.next rfl hc)
  have HR10 := Lib.hid (HR9.out.trans (hc.mono HR9.out.size))
  clear hc hc0 hbW hbk fy00 fy01 fy02 fy03 fy30 fy31 fy32 fy33 fy12 fy23 fz0 fz1 fz2 fz3
  have fy00 := HY10.out.cellAt encD_ok (k := 0) (j := 0) (u := .string ⟨#[109]⟩) rfl rfl
  have fy01 := HY10.out.cellAt encD_ok (k := 0) (j := 1) (u := .int .i64 1) rfl rfl
  have fy02 := HY10.out.cellAt encD_ok (k := 0) (j := 2) (u := .int .i64 2) rfl rfl
  have fy03 := HY10.out.cellAt encD_ok (k := 0) (j := 3) (u := .string ⟨#[109]⟩) rfl rfl
  have fy30 := HY10.out.cellAt encD_ok (k := 3) (j := 0) (u := .string ⟨#[109]⟩) rfl rfl
  have fy31 := HY10.out.cellAt encD_ok (k := 3) (j := 1) (u := .int .i64 4) rfl rfl
  have fy32 := HY10.out.cellAt encD_ok (k := 3) (j := 2) (u := .int .i64 4) rfl rfl
  have fy33 := HY10.out.cellAt encD_ok (k := 3) (j := 3) (u := .string ⟨#[]⟩) rfl rfl
  have fy12 := HY10.out.cellAt encD_ok (k := 1) (j := 2) (u := .int .i64 3) rfl rfl
  have fy23 := HY10.out.cellAt encD_ok (k := 2) (j := 3) (u := .string ⟨#[64, 101, 110, 100]⟩) rfl rfl
  have fz0 := HZ10.out.cellAt encD_ok (k := 0) (j := 0) (u := .string ⟨#[107]⟩) rfl rfl
  have fz1 := HZ10.out.cellAt encD_ok (k := 0) (j := 1) (u := .int .i64 0) rfl rfl
  have fz2 := HZ10.out.cellAt encD_ok (k := 0) (j := 2) (u := .int .i64 1) rfl rfl
  have fz3 := HZ10.out.cellAt encD_ok (k := 0) (j := 3) (u := .string ⟨#[107]⟩) rfl rfl
  simp only [Nat.reduceMul, Nat.reduceAdd] at fy00 fy01 fy02 fy03 fy30 fy31 fy32 fy33 fy12 fy23 fz0 fz1 fz2 fz3
  go_wp2_with fail
  go_ret
  exact ⟨rfl, HR10.out⟩
end Go.Proofs.YtfedkhicckgjaaaGreatDoor
