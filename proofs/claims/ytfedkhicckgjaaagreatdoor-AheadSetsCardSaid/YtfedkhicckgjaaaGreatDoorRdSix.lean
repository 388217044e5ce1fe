/- ahead's reader: a source is read, from its first line to its last one. ahead's reader: all reading; what is deferred finds no panic. slices.Clone of attributes. slices.Sorted(maps.Keys(m)): the keys of a map that the call made, sorted. -/
import Derived.Test.YtfedkhicckgjaaaGreatDoorRdThree
import Derived.Test.YtfedkhicckgjaaaGreatDoorRdTwo
import Derived.Test.YtfedkhicckgjaaaGreatDoorRdFive
import Derived.Test.YtfedkhicckgjaaaGreatDoorLinesW
import Derived.Test.YtfedkhicckgjaaaGreatDoorBaseA
import Derived.Deep.RegionHeld3
import Derived.Deep.AppendLies
import Derived.Deep.DrawnRows
import Derived.StillTailTactics
import Derived.Defers
import Derived.Recover
import Derived.Test.YtfedkhicckgjaaaGreatDoorBaseD
import Derived.Laws.Cover3
import Derived.Test.YtfedkhicckgjaaaGreatDoorIter
namespace Go.Proofs.YtfedkhicckgjaaaGreatDoor
open Go.RowKit
set_option linter.unusedVariables false
set_option linter.unusedSimpArgs false

theorem Core.footT_lt {A : Adr} {L : List Two} {r : RS} {V : Vals} {ss : List Op1} {s : SrcS} {x : Op1} {w : World} (h : Core A L r V ss w) (ht : Top A s x w) {g : Nat} (hg : FootT A V x g) : g < w.heap.size := by
  rcases hg with h1 | rfl | e
  · exact h.foot_lt h1
  · exact ht.bk.lt
  · exact (ht.vc.block g e).2
theorem rows_cons {rd : Rd} {L : List Two} {file : Bytes} {r rE : RS} {i : Nat} {t : Bytes} {ts : List Bytes} (h : RS.rows rd L file r i (t :: ts) = some rE) :
    r.count < 16384 ∧ ∃ r', RS.line rd L { r with count := r.count + 1 } ⟨file, i + 1, t⟩ = some r' ∧ RS.rows rd L file r' (i + 1) ts = some rE := by
  unfold RS.rows at h
  split at h
  · cases h
  · rename_i hc
    split at h
    · cases h
    · rename_i r' h1
      exact ⟨by omega, r', h1, h⟩
theorem rows_nil {rd : Rd} {L : List Two} {file : Bytes} {r rE : RS} {i : Nat} (h : RS.rows rd L file r i [] = some rE) : r = rE := by
  unfold RS.rows at h; cases h; rfl
theorem tells_opens : ∀ (cs : List CondS) (r : RS), (cs.foldl (fun r c => r.tell c.pl 4 []) r).opens = r.opens
  | [], _ => rfl
  | c :: cs, r => by rw [List.foldl_cons, tells_opens cs]; rfl
theorem tells_diags : ∀ (cs : List CondS) (r : RS), (cs.foldl (fun r c => r.tell c.pl 4 []) r).diags.length = r.diags.length + cs.length
  | [], _ => rfl
  | c :: cs, r => by rw [List.foldl_cons, tells_diags cs]; show (r.diags ++ [_]).length + _ = _; simp; omega

set_option maxHeartbeats 8000000 in
set_option maxRecDepth 100000 in
theorem readG_true (A : Adr) (L : List Two) (hL : L.length ≤ 1048576) (rd : Rd) (hrd : ReadsAs A L rd) (hkp : RdKeeps rd) (r : RS) (V : Vals) (ss : List Op1) (w : World) (h : Core A L r V ss w) (name text : Bytes)
    (hf : r.files.length ≤ 20000) (ho : r.opens.length ≤ 15) (htx : text.length ≤ 1048576) (hbg : r.begun.contains name = true) (rE : RS) (hE : RS.rows rd L name (r.enter name) 0 (linesP text) = some rE) (hEf : rE.fits = true) :
    Calls Tryz.prog 138 #[.pointer (some ⟨A.rb, 0, none⟩), .string ⟨name.toArray⟩, .string ⟨text.toArray⟩] w fun e w' => e = .returned (.tuple #[]) ∧ ∃ V', Core A L rE.shut V' ss w' ∧ Step A V w V' w' := by
  have hl15 : ss.length ≤ 15 := by have := h.len_ss; omega
  have hBs := h.base
  have c7 : w.cell? ⟨A.rb, 7, none⟩ = some (.map (some A.bg)) := by rw [h.rb.cell]; rfl
  have hb1 := (Below.refl w.heap.size w).alloc (Nat.le_refl _) (.cells #[] 97)
  have HC := Lib.hid h
  have HC1 := Lib.hid (h.next hb1)
  have HB1 := Lib.hid hb1
  have HD := Lib.hid hbg
  have HE := Lib.hid hE
  have hrb : A.rb < w.heap.size := h.rb.lt
  obtain ⟨i0, hi, hz0, hz1, hz2⟩ := info_parts (show (Tryz.prog.info? 206).map (fun i => (i.zero, i.size, i.bytes)) = some (some (.pointer none), 1, 8) by kernel_rfl)
  obtain ⟨j0, hj, hy0, hy1, hy2⟩ := info_parts (show (Tryz.prog.info? 9).map (fun i => (i.zero, i.size, i.bytes)) = some (some (.string ⟨#[]⟩), 1, 16) by kernel_rfl)
  have HEN : Hid (r.enter name = { r with opens := r.opens ++ [⟨name, []⟩] }) := by show _ = _; unfold RS.enter; rw [if_pos hbg]
  clear h hb1 hbg hE
  go_enter Tryz.func138, Tryz.ntmps138
  obtain ⟨ao, d0, hvo⟩ := HC.out.vo.shape
  rw [List.length_map] at hvo
  have HVO := Lib.hid hvo
  have HCA : Hid (Core A L r V ss (w.alloc (.cells #[] 97))) := HC1.out
  have HSA := Lib.hid ((Step.refl A V w).below HB1.out)
  have c3 : w.cell? ⟨A.rb, 3, none⟩ = some (.slice ao ss.length d0) := by rw [HC.out.rb.cell, ← HVO.out]; rfl
  have HOO : Hid (World.ownsRow (w.alloc (.cells #[] 97)) A.B 206 1 (.slice ao ss.length d0) ss.length ((ss.map (·.g)).flatMap encP)) := by have h1 := HC1.out.vo; rw [HVO.out] at h1; unfold Own at h1; rw [List.length_map] at h1; exact h1
  have HNO : Hid ((Value.slice ao ss.length d0).ownBlock ≠ some A.rb) := by have h1 := HC1.out.vo.ne_bk HC1.out.rb (by decide); rw [HVO.out] at h1; exact h1
  have hszA : w.heap.size ≤ (w.heap.size + 1) := by omega
  have hszB : A.rb < (w.heap.size + 1) := by omega
  clear hvo
  go_wp2_with (first
    | (refine wpList_kv_lookup rfl (.tmp 18) (.tmp 19) 86 9 97 rfl Tryz.underlying86 Tryz.underlying9 (zeroU _) A.bg r.begun HC.out.bg name true HD.out rfl rfl ?_)
    | (at_builtin; refine Hold.out ?_))
  constructor
  refine wpList_append_lies _ rfl _ _ 87 rfl A.B 206 i0 (.pointer none) 1 8 Tryz.underlying87 hi hz0 hz1 hz2 rfl (by decide) (.slice ao ss.length d0) ss.length ((ss.map (·.g)).flatMap encP) rfl ((HOO.out.alloc _).alloc _) ⟨(w.heap.size + 1) + 1, 0, none⟩ 1 1 [.pointer (some ⟨(w.heap.size + 1), 0, none⟩)] rfl rfl (by have h1 := World.news_of_block (cs := #[.pointer (some ⟨(w.heap.size + 1), 0, none⟩)]) (t := 206) (fr := (0, 0)) (heap_alloc_new ((w.alloc (.cells #[] 97)).alloc (.cells #[.string ⟨name.toArray⟩, .slice none 0 0] 216)) _); simp only [World.size_alloc, World.size_setCell] at h1; exact h1) (by simp [Value.oneCell']) (by omega) (by unfold maxLen; omega) (by omega) (by simp; omega) ((w.heap.size + 1) + 2) (by simp) ?_
  intro gp cp wB hownP hgrP hatP hltP
  have hkB := Bk.grown ((HCA.out.rb.alloc _).alloc _) hgrP HNO.out
  have hsB := Bk.grown ((Bk.new (w.alloc (.cells #[] 97)) #[.string ⟨name.toArray⟩, .slice none 0 0] 216).alloc _) hgrP (by intro e; have h1 := HCA.out.vo.block; rw [HVO.out] at h1; have h2 := (h1 _ e).2; omega)
  have hgpk : gp ≠ A.rb := (by rcases hatP with h | h; (intro e; rw [e] at h; exact HNO.out h); omega)
  have hPU := HCA.out.push (gg := gp) (cap := cp) (gs := (w.heap.size + 1)) (nm := name) (Kept.grown (((Kept.refl _ _).alloc _).alloc _) hgrP (fun g h => .inr (by rw [HVO.out]; exact h))) hkB hownP hgpk (by rcases hatP with h | h; exact .inl (by rw [HVO.out]; exact h); exact .inr (by simp; omega)) (by simpa using hsB) (by simp) (r.enter name) HEN.out
  obtain ⟨V1, h1, h2, h3⟩ := hPU
  have HC2 := Lib.hid h1
  have HT2 := Lib.hid h2
  have HS2 := Lib.hid (HSA.out.trans h3)
  clear h1 h2 h3
  have yB := hkB.free 3
  have zB : wB.cell? ⟨A.rb, 3, none⟩ = some (.slice ao ss.length d0) := (by rw [hkB.cell, ← HVO.out]; rfl)
  clear hkB hsB hownP hgrP hatP hltP
  go_wp2_with (first
    | (go_at_call 13; refine (lines_any text _ (by omega) HC2.out.mx).mono ?_; rintro e wD ⟨⟨vl, rfl, hOl⟩, hc⟩; obtain ⟨al, cl, rfl⟩ := hOl.shape; have HL := Lib.hid hOl; have HC3 := Lib.hid (HC2.out.next hc); have HT3 := Lib.hid (HT2.out.next hc); have HS3 := Lib.hid (HS2.out.below hc); have HFT : Hid (∀ g, FootT A V1 ⟨(w.heap.size + 1), name, .slice none 0 0⟩ g → ∀ {v : Value} , v.ownBlock = some g → Own wD (World.heap (wB.setCell ⟨A.rb, 3, none⟩ (.slice (some ⟨gp, 0, none⟩) (ss.length + 1) cp))).size 9 1 encS v (linesP text) → False) := (fun g hg v e ho => by have h1 := HC2.out.footT_lt HT2.out hg; have h2 := (ho.block g e).1; omega); clear hOl hc))
  have HTE : Hid (Top A (r.enter name).top ⟨(w.heap.size + 1), name, .slice none 0 0⟩ wD) := by
    have e : (r.enter name).top = ⟨name, []⟩ := by unfold RS.top; rw [enter_opens]; simp
    show Top _ _ _ _
    rw [e]; exact HT3.out
  have hlen := linesP_le text
  go_loopw [57] (fun v wr => ∃ k : Nat, ∃ (rk : RS) (Vk : Vals) (xk : Op1), k ≤ (linesP text).length ∧ v = .int .i64 k ∧ Hid (RS.rows rd L name rk k ((linesP text).drop k) = some rE) ∧ Hid (Core A L rk Vk (ss ++ [xk]) wr) ∧ Hid (Top A rk.top xk wr) ∧ Hid (StepT A V1 ⟨(w.heap.size + 1), name, .slice none 0 0⟩ wD Vk xk wr)) (fun v _ => (linesP text).length - (intOf v).toNat)
  case atStart => exact ⟨0, _, V1, _, by omega, rfl, by show _ = _; rw [List.drop_zero]; exact HE.out, HC3.out, HTE.out, StepT.refl _ _ _ _⟩
  case round =>
    obtain ⟨k, rk, Vk, xk, hk, rfl, HRk, HCk, HTk, HSk⟩ := hrel
    have HLk : Hid (Own wr _ 9 1 encS (.slice al (linesP text).length cl) (linesP text)) := HSk.out.kept.own HL.out fun g e hf => HFT.out g hf e HL.out
    have hrbk : A.rb < wr.heap.size := HCk.out.rb.lt
    have hrbn : A.rb ≠ wr.heap.size := by omega
    by_cases hlt : k < (linesP text).length
    · obtain ⟨b, off, ha, hbl, hc0⟩ := (HLk.out.addr encS_ok).str hlt
      subst ha
      have hR := HRk.out
      rw [List.drop_eq_getElem_cons hlt] at hR
      generalize hx0 : (linesP text)[k] = tx at *
      obtain ⟨hcnt, r', hl, hr'⟩ := rows_cons hR
      have HLN := Lib.hid hl
      have HR9 := Lib.hid hr'
      clear hR hl hr' hx0
      have c4 : wr.cell? ⟨A.rb, 4, none⟩ = some (.int .i64 rk.count) := by rw [HCk.out.rb.cell]; rfl
      have g4 : wr.frozen? ⟨A.rb, 4, none⟩ = false := HCk.out.rb.free _
      have a1 : IntKind.i64.wrap ((k : Int) + 1) = (k : Int) + 1 := by rw [IntWalk.i64_in _ (by omega)]
      have a2 : IntKind.i64.wrap ((rk.count : Int) + 1) = (rk.count : Int) + 1 := by rw [IntWalk.i64_in _ (by omega)]
      have hq : ¬ (16384 : Int) ≤ (rk.count : Int) := by omega
      have HC5 : Hid (Core A L { rk with count := rk.count + 1 } Vk (ss ++ [xk]) (wr.setCell ⟨A.rb, 4, none⟩ (.int .i64 ((rk.count : Int) + 1)))) := HCk.out.cnt.1
      have hs5 : Step A Vk wr Vk (wr.setCell ⟨A.rb, 4, none⟩ (.int .i64 ((rk.count : Int) + 1))) := HCk.out.cnt.2
      have hbp := (Below.refl (wr.setCell ⟨A.rb, 4, none⟩ (.int .i64 ((rk.count : Int) + 1))).heap.size (wr.setCell ⟨A.rb, 4, none⟩ (.int .i64 ((rk.count : Int) + 1)))).alloc (Nat.le_refl _) (.cells #[.string ⟨name.toArray⟩, .int .i64 ((k : Int) + 1), .string ⟨tx.toArray⟩] 205)
      have HCc := Lib.hid (HC5.out.next hbp)
      have HTc := Lib.hid ((HTk.out.step HCk.out hs5).next hbp)
      have HSc := Lib.hid ((HSk.out.trans (hs5.toT xk)).below hbp)
      have HCALL : Hid (Calls Tryz.prog 164 #[.pointer (some ⟨A.rb, 0, none⟩), .agg #[.string ⟨name.toArray⟩, .int .i64 ((k : Int) + 1), .string ⟨tx.toArray⟩]] ((wr.setCell ⟨A.rb, 4, none⟩ (.int .i64 ((rk.count : Int) + 1))).alloc (.cells #[.string ⟨name.toArray⟩, .int .i64 ((k : Int) + 1), .string ⟨tx.toArray⟩] 205)) (LineGives A L Vk ss xk ((wr.setCell ⟨A.rb, 4, none⟩ (.int .i64 ((rk.count : Int) + 1))).alloc (.cells #[.string ⟨name.toArray⟩, .int .i64 ((k : Int) + 1), .string ⟨tx.toArray⟩] 205)) r')) := line_any A L { rk with count := rk.count + 1 } Vk ss xk _ HCc.out HTc.out (by omega) ⟨name, k + 1, tx⟩ hL rd hrd r' HLN.out
      clear hbp hs5
      go_wp2_with (go_at_call 164; refine HCALL.out.mono ?_; rintro e w9 ⟨rfl, V9, x9, h1, h2, h3⟩; have HC9 := Lib.hid h1; have HT9 := Lib.hid h2; have HS9 := Lib.hid (HSc.out.trans h3); clear h1 h2 h3)
      go_roundw
      case rel => exact ⟨k + 1, r', V9, x9, by omega, by go_num, HR9.out, HC9.out, HT9.out, HS9.out⟩
      case measure => simp [intOf]; omega
    · obtain rfl : k = (linesP text).length := by omega
      have e := HRk.out
      rw [List.drop_of_length_le (Nat.le_refl _)] at e
      have e := rows_nil e
      subst e
      obtain ⟨f1, f2, f3, f4, f5, f6, f7⟩ := fit_parts hEf
      obtain ⟨ac, cc, hvc⟩ := HTk.out.vc.shape
      have HVC := Lib.hid hvc
      have hgx : xk.g = (w.heap.size + 1) := HSk.out.g
      have HGX := Lib.hid hgx
      have cx : wr.cell? ⟨(w.heap.size + 1), 1, none⟩ = some (.slice ac rk.top.conds.length cc) := by rw [← HGX.out, HTk.out.bk.cell, ← HVC.out]; rfl
      clear hvc hgx
      go_wp2_with fail
      have hn2 : rk.top.conds.length ≤ 20000 := f3
      obtain ⟨wE, hwE⟩ : ∃ z, z = wr := ⟨_, rfl⟩
      subst hwE
      go_loopw [92] (fun v wq => ∃ i : Nat, ∃ Vi : Vals, i ≤ rk.top.conds.length ∧ v = .int .i64 i ∧ Hid (Core A L ((rk.top.conds.take i).foldl (fun r c => r.tell c.pl 4 []) rk) Vi (ss ++ [xk]) wq) ∧ Hid (Step A Vk wE Vi wq)) (fun v _ => rk.top.conds.length - (intOf v).toNat)
      case atStart => exact ⟨0, Vk, by omega, rfl, HCk.out, Step.refl _ _ _⟩
      case round =>
        obtain ⟨i, Vi, hi2, rfl, HCi, HSi⟩ := hrel
        have HTi := Lib.hid (HTk.out.step HCk.out HSi.out)
        have hrbi : A.rb < wr.heap.size := HCi.out.rb.lt
        by_cases hlt2 : i < rk.top.conds.length
        · have hO : Own wr A.B 209 6 encC (.slice ac rk.top.conds.length cc) rk.top.conds := by have h1 := HTi.out.vc; rw [HVC.out] at h1; exact h1
          obtain ⟨gc, rfl, _, _, hcc⟩ := hO.ptr (by omega)
          have HX : Hid ((rk.top.conds.take (i + 1)).foldl (fun r c => r.tell c.pl 4 []) rk = RS.tell ((rk.top.conds.take i).foldl (fun r c => r.tell c.pl 4 []) rk) rk.top.conds[i].pl 4 []) := by
            show _ = _
            rw [List.take_succ_eq_append_getElem hlt2, List.foldl_append]; rfl
          generalize hcd : rk.top.conds[i] = cd at *
          have hgi : rk.top.conds[i]? = some cd := by rw [List.getElem?_eq_getElem hlt2, hcd]
          have e0 := hO.cellAt encC_ok hgi (j := 0) (u := .string ⟨cd.pl.file.toArray⟩) rfl
          have e1 := hO.cellAt encC_ok hgi (j := 1) (u := .int .i64 cd.pl.no) rfl
          have e2 := hO.cellAt encC_ok hgi (j := 2) (u := .string ⟨cd.pl.text.toArray⟩) rfl
          have e3 := hO.cellAt encC_ok hgi (j := 3) (u := .bool cd.first) rfl
          have e4 := hO.cellAt encC_ok hgi (j := 4) (u := .bool cd.second) rfl
          have e5 := hO.cellAt encC_ok hgi (j := 5) (u := .bool cd.other) rfl
          rw [Nat.add_zero] at e0
          have hbq := (Below.refl wr.heap.size wr).alloc (Nat.le_refl _) (.cells #[.string ⟨cd.pl.file.toArray⟩, .int .i64 cd.pl.no, .string ⟨cd.pl.text.toArray⟩, .bool cd.first, .bool cd.second, .bool cd.other] 209)
          have HTELL := Lib.hid (tell_any A L _ Vi (ss ++ [xk]) _ (HCi.out.next hbq) cd.pl 4 [] (by rw [tells_diags, List.length_take]; omega))
          have HSq := Lib.hid (HSi.out.below hbq)
          clear hO hcd hgi hbq
          go_wp2_with (go_at_call 150; refine HTELL.out.mono ?_; rintro e w9 ⟨rfl, V9, h1, h3⟩; have HC9 := Lib.hid h1; have HS9 := Lib.hid (HSq.out.trans h3); clear h1 h3)
          go_roundw
          case rel => exact ⟨i + 1, V9, by omega, by go_num, by show Core _ _ _ _ _ _; rw [HX.out]; exact HC9.out, HS9.out⟩
          case measure => simp [intOf]; omega
        · have hi3 : i = rk.top.conds.length := by omega
          have HCe : Hid (Core A L (rk.top.conds.foldl (fun r c => r.tell c.pl 4 []) rk) Vi (ss ++ [xk]) wr) := by
            have h1 := HCi.out
            rw [hi3, List.take_of_length_le (Nat.le_refl _)] at h1; exact h1
          clear hi3
          obtain ⟨go, c2, hvo2, hc2⟩ := HCe.out.vo.ptr' (n := ss.length) (by simp)
          have d3 : wr.cell? ⟨A.rb, 3, none⟩ = some (.slice (some ⟨go, 0, none⟩) (ss.length + 1) c2) := by rw [HCe.out.rb.cell, ← hvo2]; rfl
          have g3 : wr.frozen? ⟨A.rb, 3, none⟩ = false := HCe.out.rb.free _
          have a3 : IntKind.i64.wrap (((ss.length + 1 : Nat) : Int) - 1) = ((ss.length : Nat) : Int) := by rw [IntWalk.i64_in _ (by omega)]; omega
          have hm3 : ss.length ≤ c2 := by omega
          have HV2 := Lib.hid hvo2
          clear hvo2
          go_wp2_with fail
          go_region
          all_goals
            go_wp2
            go_end0
            obtain ⟨V9, h1, h2⟩ := HCe.out.pop HV2.out _ rfl rk.shut (by unfold RS.shut; rw [tells_opens])
            exact ⟨rfl, V9, h1, StepT.close HS3.out (by first | omega | (simp; done) | (simp; omega)) rfl (HSk.out.trans ((HSi.out.trans h2).toT xk))⟩

set_option maxHeartbeats 8000000 in
set_option maxRecDepth 100000 in
theorem readG_false (A : Adr) (L : List Two) (hL : L.length ≤ 1048576) (rd : Rd) (hrd : ReadsAs A L rd) (hkp : RdKeeps rd) (r : RS) (V : Vals) (ss : List Op1) (w : World) (h : Core A L r V ss w) (name text : Bytes)
    (hf : r.files.length ≤ 20000) (ho : r.opens.length ≤ 15) (htx : text.length ≤ 1048576) (hbg : r.begun.contains name = false) (rE : RS) (hE : RS.rows rd L name (r.enter name) 0 (linesP text) = some rE) (hEf : rE.fits = true) :
    Calls Tryz.prog 138 #[.pointer (some ⟨A.rb, 0, none⟩), .string ⟨name.toArray⟩, .string ⟨text.toArray⟩] w fun e w' => e = .returned (.tuple #[]) ∧ ∃ V', Core A L rE.shut V' ss w' ∧ Step A V w V' w' := by
  have hl15 : ss.length ≤ 15 := by have := h.len_ss; omega
  have hBs := h.base
  have c7 : w.cell? ⟨A.rb, 7, none⟩ = some (.map (some A.bg)) := by rw [h.rb.cell]; rfl
  have hb1 := (Below.refl w.heap.size w).alloc (Nat.le_refl _) (.cells #[] 97)
  have HC := Lib.hid h
  have HC1 := Lib.hid (h.next hb1)
  have HB1 := Lib.hid hb1
  have HD := Lib.hid hbg
  have HE := Lib.hid hE
  have hrb : A.rb < w.heap.size := h.rb.lt
  obtain ⟨i0, hi, hz0, hz1, hz2⟩ := info_parts (show (Tryz.prog.info? 206).map (fun i => (i.zero, i.size, i.bytes)) = some (some (.pointer none), 1, 8) by kernel_rfl)
  obtain ⟨j0, hj, hy0, hy1, hy2⟩ := info_parts (show (Tryz.prog.info? 9).map (fun i => (i.zero, i.size, i.bytes)) = some (some (.string ⟨#[]⟩), 1, 16) by kernel_rfl)
  have HEN : Hid (r.enter name = { ({ r with begun := r.begun ++ [name], files := r.files ++ [name] } : RS) with opens := r.opens ++ [⟨name, []⟩] }) := by show _ = _; unfold RS.enter; rw [if_neg (by rw [hbg]; simp)]
  have HAD : Hid (addN r.begun name = r.begun ++ [name]) := by show _ = _; unfold addN; rw [if_neg (by rw [hbg]; simp)]
  clear h hb1 hbg hE
  go_enter Tryz.func138, Tryz.ntmps138
  obtain ⟨af, e0, hvf⟩ := HC.out.vf.shape
  have HVF := Lib.hid hvf
  clear hvf
  go_wp2_with (first
    | (refine wpList_kv_lookup rfl (.tmp 18) (.tmp 19) 86 9 97 rfl Tryz.underlying86 Tryz.underlying9 (zeroU _) A.bg r.begun HC.out.bg name false HD.out rfl rfl ?_)
    | (refine wpList_smap_put rfl (.tmp 28) (.tmp 29) (.tmp 30) 86 9 97 (.inl rfl) Tryz.underlying86 Tryz.underlying9 A.bg _ HC1.out.bg name (.agg #[]) rfl rfl rfl ?_; intro w4 hm4 hg4 hz4; rw [kv_put, HAD.out] at hm4; have HX := Lib.hid (HC1.out.updBg hg4 hm4); have hsz4 : w.heap.size ≤ w4.heap.size := (by have := HX.out.2.kept.size; simp at this; omega); clear hm4 hg4 hz4; have f10 : w4.cell? ⟨A.rb, 10, none⟩ = some (.slice af r.files.length e0) := (by rw [HX.out.1.rb.cell, ← HVF.out]; rfl); have hrb4 : A.rb < w4.heap.size := (by omega); have HF4 : Hid (World.ownsRow w4 A.B 9 1 (.slice af r.files.length e0) r.files.length (r.files.flatMap encS)) := (by have h1 := HX.out.1.vf; rw [HVF.out] at h1; exact h1); have HNF : Hid ((Value.slice af r.files.length e0).ownBlock ≠ some A.rb) := (by have h1 := HX.out.1.vf.ne_bk HX.out.1.rb (by decide); rw [HVF.out] at h1; exact h1); have HS4 := Lib.hid (((Step.refl A V w).below HB1.out).trans HX.out.2))
    | (at_builtin; refine Hold.out ?_))
  constructor
  refine wpList_append_lies _ rfl _ _ 26 rfl A.B 9 j0 (.string ⟨#[]⟩) 1 16 Tryz.underlying26 hj hy0 hy1 hy2 rfl (by decide) (.slice af r.files.length e0) r.files.length (r.files.flatMap encS) rfl (HF4.out.alloc _) ⟨w4.heap.size, 0, none⟩ 1 1 [.string ⟨name.toArray⟩] rfl rfl (World.news_of_block (heap_alloc_new w4 _)) (by simp [Value.oneCell']) (by omega) (by unfold maxLen; omega) (by omega) (by simp; omega) (w4.heap.size + 1) (by simp) ?_
  intro gf cf w9 hown1 hgrow hat hlt
  have hk9 := Bk.grown (HX.out.1.rb.alloc _) hgrow HNF.out
  have hgk : gf ≠ A.rb := (by rcases hat with h | h; (intro e; rw [e] at h; exact HNF.out h); omega)
  have hFL := HX.out.1.file (y := name) (gg := gf) (cap := cf) (Kept.grown ((Kept.refl _ w4).alloc _) hgrow (fun g h => .inr (by rw [HVF.out]; exact h))) hk9 hown1 hgk (by rcases hat with h | h; exact .inl (by rw [HVF.out]; exact h); exact .inr (by omega))
  obtain ⟨VA, hca, hsa⟩ := hFL
  have HCA := Lib.hid hca
  have HSA := Lib.hid (HS4.out.trans hsa)
  have y10 := hk9.free 10
  have z10 : w9.cell? ⟨A.rb, 10, none⟩ = some (.slice af r.files.length e0) := (by rw [hk9.cell, ← HVF.out]; rfl)
  obtain ⟨ao, d0, hvo⟩ := hca.vo.shape
  rw [List.length_map] at hvo
  have c3 : w9.cell? ⟨A.rb, 3, none⟩ = some (.slice ao ss.length d0) := (by have h1 := hca.rb.cell 3; rw [World.cell?_setCell_other _ _ _ _ (by simp)] at h1; rw [h1, ← hvo]; rfl)
  have HVO := Lib.hid hvo
  have HOO : Hid (World.ownsRow (w9.setCell ⟨A.rb, 10, none⟩ (.slice (some ⟨gf, 0, none⟩) (r.files.length + 1) cf)) A.B 206 1 (.slice ao ss.length d0) ss.length ((ss.map (·.g)).flatMap encP)) := (by have h1 := hca.vo; rw [HVO.out] at h1; unfold Own at h1; rw [List.length_map] at h1; exact h1)
  have HNO : Hid ((Value.slice ao ss.length d0).ownBlock ≠ some A.rb) := (by have h1 := hca.vo.ne_bk hca.rb (by decide); rw [HVO.out] at h1; exact h1)
  have hszA : w.heap.size ≤ w9.heap.size := (by have h1 := hgrow.size; simp at h1; omega)
  have hszB : A.rb < w9.heap.size := (by omega)
  clear hca hsa hvo hown1 hgrow hat hlt hk9
  go_wp2_with (first
    | (refine wpList_kv_lookup rfl (.tmp 18) (.tmp 19) 86 9 97 rfl Tryz.underlying86 Tryz.underlying9 (zeroU _) A.bg r.begun HC.out.bg name false HD.out rfl rfl ?_)
    | (refine wpList_smap_put rfl (.tmp 28) (.tmp 29) (.tmp 30) 86 9 97 (.inl rfl) Tryz.underlying86 Tryz.underlying9 A.bg _ HC1.out.bg name (.agg #[]) rfl rfl rfl ?_; intro w4 hm4 hg4 hz4; rw [kv_put, HAD.out] at hm4; have HX := Lib.hid (HC1.out.updBg hg4 hm4); have hsz4 : w.heap.size ≤ w4.heap.size := (by have := HX.out.2.kept.size; simp at this; omega); clear hm4 hg4 hz4; have f10 : w4.cell? ⟨A.rb, 10, none⟩ = some (.slice af r.files.length e0) := (by rw [HX.out.1.rb.cell, ← HVF.out]; rfl); have hrb4 : A.rb < w4.heap.size := (by omega); have HF4 : Hid (World.ownsRow w4 A.B 9 1 (.slice af r.files.length e0) r.files.length (r.files.flatMap encS)) := (by have h1 := HX.out.1.vf; rw [HVF.out] at h1; exact h1); have HNF : Hid ((Value.slice af r.files.length e0).ownBlock ≠ some A.rb) := (by have h1 := HX.out.1.vf.ne_bk HX.out.1.rb (by decide); rw [HVF.out] at h1; exact h1); have HS4 := Lib.hid (((Step.refl A V w).below HB1.out).trans HX.out.2))
    | (at_builtin; refine Hold.out ?_))
  constructor
  refine wpList_append_lies _ rfl _ _ 87 rfl A.B 206 i0 (.pointer none) 1 8 Tryz.underlying87 hi hz0 hz1 hz2 rfl (by decide) (.slice ao ss.length d0) ss.length ((ss.map (·.g)).flatMap encP) rfl ((HOO.out.alloc _).alloc _) ⟨w9.heap.size + 1, 0, none⟩ 1 1 [.pointer (some ⟨w9.heap.size, 0, none⟩)] rfl rfl (by have h1 := World.news_of_block (cs := #[.pointer (some ⟨w9.heap.size, 0, none⟩)]) (t := 206) (fr := (0, 0)) (heap_alloc_new ((w9.setCell ⟨A.rb, 10, none⟩ (.slice (some ⟨gf, 0, none⟩) (r.files.length + 1) cf)).alloc (.cells #[.string ⟨name.toArray⟩, .slice none 0 0] 216)) _); simp only [World.size_alloc, World.size_setCell] at h1; exact h1) (by simp [Value.oneCell']) (by omega) (by unfold maxLen; omega) (by omega) (by simp; omega) (w9.heap.size + 2) (by simp) ?_
  intro gp cp wB hownP hgrP hatP hltP
  have hkB := Bk.grown ((HCA.out.rb.alloc _).alloc _) hgrP HNO.out
  have hsB := Bk.grown ((Bk.new (w9.setCell ⟨A.rb, 10, none⟩ (.slice (some ⟨gf, 0, none⟩) (r.files.length + 1) cf)) #[.string ⟨name.toArray⟩, .slice none 0 0] 216).alloc _) hgrP (by intro e; have h1 := HCA.out.vo.block; rw [HVO.out] at h1; have h2 := (h1 _ e).2; omega)
  have hgpk : gp ≠ A.rb := (by rcases hatP with h | h; (intro e; rw [e] at h; exact HNO.out h); omega)
  have hPU := HCA.out.push (gg := gp) (cap := cp) (gs := w9.heap.size) (nm := name) (Kept.grown (((Kept.refl _ _).alloc _).alloc _) hgrP (fun g h => .inr (by rw [HVO.out]; exact h))) hkB hownP hgpk (by rcases hatP with h | h; exact .inl (by rw [HVO.out]; exact h); exact .inr (by simp; omega)) (by simpa using hsB) (by simp) (r.enter name) HEN.out
  obtain ⟨V1, h1, h2, h3⟩ := hPU
  have HC2 := Lib.hid h1
  have HT2 := Lib.hid h2
  have HS2 := Lib.hid (HSA.out.trans h3)
  clear h1 h2 h3
  have yB := hkB.free 3
  have zB : wB.cell? ⟨A.rb, 3, none⟩ = some (.slice ao ss.length d0) := (by rw [hkB.cell, ← HVO.out]; rfl)
  clear hkB hsB hownP hgrP hatP hltP
  go_wp2_with (first
    | (go_at_call 13; refine (lines_any text _ (by omega) HC2.out.mx).mono ?_; rintro e wD ⟨⟨vl, rfl, hOl⟩, hc⟩; obtain ⟨al, cl, rfl⟩ := hOl.shape; have HL := Lib.hid hOl; have HC3 := Lib.hid (HC2.out.next hc); have HT3 := Lib.hid (HT2.out.next hc); have HS3 := Lib.hid (HS2.out.below hc); have HFT : Hid (∀ g, FootT A V1 ⟨w9.heap.size, name, .slice none 0 0⟩ g → ∀ {v : Value} , v.ownBlock = some g → Own wD (World.heap (wB.setCell ⟨A.rb, 3, none⟩ (.slice (some ⟨gp, 0, none⟩) (ss.length + 1) cp))).size 9 1 encS v (linesP text) → False) := (fun g hg v e ho => by have h1 := HC2.out.footT_lt HT2.out hg; have h2 := (ho.block g e).1; omega); clear hOl hc))
  have HTE : Hid (Top A (r.enter name).top ⟨w9.heap.size, name, .slice none 0 0⟩ wD) := by
    have e : (r.enter name).top = ⟨name, []⟩ := by unfold RS.top; rw [enter_opens]; simp
    show Top _ _ _ _
    rw [e]; exact HT3.out
  have hlen := linesP_le text
  go_loopw [57] (fun v wr => ∃ k : Nat, ∃ (rk : RS) (Vk : Vals) (xk : Op1), k ≤ (linesP text).length ∧ v = .int .i64 k ∧ Hid (RS.rows rd L name rk k ((linesP text).drop k) = some rE) ∧ Hid (Core A L rk Vk (ss ++ [xk]) wr) ∧ Hid (Top A rk.top xk wr) ∧ Hid (StepT A V1 ⟨w9.heap.size, name, .slice none 0 0⟩ wD Vk xk wr)) (fun v _ => (linesP text).length - (intOf v).toNat)
  case atStart => exact ⟨0, _, V1, _, by omega, rfl, by show _ = _; rw [List.drop_zero]; exact HE.out, HC3.out, HTE.out, StepT.refl _ _ _ _⟩
  case round =>
    obtain ⟨k, rk, Vk, xk, hk, rfl, HRk, HCk, HTk, HSk⟩ := hrel
    have HLk : Hid (Own wr _ 9 1 encS (.slice al (linesP text).length cl) (linesP text)) := HSk.out.kept.own HL.out fun g e hf => HFT.out g hf e HL.out
    have hrbk : A.rb < wr.heap.size := HCk.out.rb.lt
    have hrbn : A.rb ≠ wr.heap.size := by omega
    by_cases hlt : k < (linesP text).length
    · obtain ⟨b, off, ha, hbl, hc0⟩ := (HLk.out.addr encS_ok).str hlt
      subst ha
      have hR := HRk.out
      rw [List.drop_eq_getElem_cons hlt] at hR
      generalize hx0 : (linesP text)[k] = tx at *
      obtain ⟨hcnt, r', hl, hr'⟩ := rows_cons hR
      have HLN := Lib.hid hl
      have HR9 := Lib.hid hr'
      clear hR hl hr' hx0
      have c4 : wr.cell? ⟨A.rb, 4, none⟩ = some (.int .i64 rk.count) := by rw [HCk.out.rb.cell]; rfl
      have g4 : wr.frozen? ⟨A.rb, 4, none⟩ = false := HCk.out.rb.free _
      have a1 : IntKind.i64.wrap ((k : Int) + 1) = (k : Int) + 1 := by rw [IntWalk.i64_in _ (by omega)]
      have a2 : IntKind.i64.wrap ((rk.count : Int) + 1) = (rk.count : Int) + 1 := by rw [IntWalk.i64_in _ (by omega)]
      have hq : ¬ (16384 : Int) ≤ (rk.count : Int) := by omega
      have HC5 : Hid (Core A L { rk with count := rk.count + 1 } Vk (ss ++ [xk]) (wr.setCell ⟨A.rb, 4, none⟩ (.int .i64 ((rk.count : Int) + 1)))) := HCk.out.cnt.1
      have hs5 : Step A Vk wr Vk (wr.setCell ⟨A.rb, 4, none⟩ (.int .i64 ((rk.count : Int) + 1))) := HCk.out.cnt.2
      have hbp := (Below.refl (wr.setCell ⟨A.rb, 4, none⟩ (.int .i64 ((rk.count : Int) + 1))).heap.size (wr.setCell ⟨A.rb, 4, none⟩ (.int .i64 ((rk.count : Int) + 1)))).alloc (Nat.le_refl _) (.cells #[.string ⟨name.toArray⟩, .int .i64 ((k : Int) + 1), .string ⟨tx.toArray⟩] 205)
      have HCc := Lib.hid (HC5.out.next hbp)
      have HTc := Lib.hid ((HTk.out.step HCk.out hs5).next hbp)
      have HSc := Lib.hid ((HSk.out.trans (hs5.toT xk)).below hbp)
      have HCALL : Hid (Calls Tryz.prog 164 #[.pointer (some ⟨A.rb, 0, none⟩), .agg #[.string ⟨name.toArray⟩, .int .i64 ((k : Int) + 1), .string ⟨tx.toArray⟩]] ((wr.setCell ⟨A.rb, 4, none⟩ (.int .i64 ((rk.count : Int) + 1))).alloc (.cells #[.string ⟨name.toArray⟩, .int .i64 ((k : Int) + 1), .string ⟨tx.toArray⟩] 205)) (LineGives A L Vk ss xk ((wr.setCell ⟨A.rb, 4, none⟩ (.int .i64 ((rk.count : Int) + 1))).alloc (.cells #[.string ⟨name.toArray⟩, .int .i64 ((k : Int) + 1), .string ⟨tx.toArray⟩] 205)) r')) := line_any A L { rk with count := rk.count + 1 } Vk ss xk _ HCc.out HTc.out (by omega) ⟨name, k + 1, tx⟩ hL rd hrd r' HLN.out
      clear hbp hs5
      go_wp2_with (go_at_call 164; refine HCALL.out.mono ?_; rintro e w9 ⟨rfl, V9, x9, h1, h2, h3⟩; have HC9 := Lib.hid h1; have HT9 := Lib.hid h2; have HS9 := Lib.hid (HSc.out.trans h3); clear h1 h2 h3)
      go_roundw
      case rel => exact ⟨k + 1, r', V9, x9, by omega, by go_num, HR9.out, HC9.out, HT9.out, HS9.out⟩
      case measure => simp [intOf]; omega
    · obtain rfl : k = (linesP text).length := by omega
      have e := HRk.out
      rw [List.drop_of_length_le (Nat.le_refl _)] at e
      have e := rows_nil e
      subst e
      obtain ⟨f1, f2, f3, f4, f5, f6, f7⟩ := fit_parts hEf
      obtain ⟨ac, cc, hvc⟩ := HTk.out.vc.shape
      have HVC := Lib.hid hvc
      have hgx : xk.g = w9.heap.size := HSk.out.g
      have HGX := Lib.hid hgx
      have cx : wr.cell? ⟨w9.heap.size, 1, none⟩ = some (.slice ac rk.top.conds.length cc) := by rw [← HGX.out, HTk.out.bk.cell, ← HVC.out]; rfl
      clear hvc hgx
      go_wp2_with fail
      have hn2 : rk.top.conds.length ≤ 20000 := f3
      obtain ⟨wE, hwE⟩ : ∃ z, z = wr := ⟨_, rfl⟩
      subst hwE
      go_loopw [92] (fun v wq => ∃ i : Nat, ∃ Vi : Vals, i ≤ rk.top.conds.length ∧ v = .int .i64 i ∧ Hid (Core A L ((rk.top.conds.take i).foldl (fun r c => r.tell c.pl 4 []) rk) Vi (ss ++ [xk]) wq) ∧ Hid (Step A Vk wE Vi wq)) (fun v _ => rk.top.conds.length - (intOf v).toNat)
      case atStart => exact ⟨0, Vk, by omega, rfl, HCk.out, Step.refl _ _ _⟩
      case round =>
        obtain ⟨i, Vi, hi2, rfl, HCi, HSi⟩ := hrel
        have HTi := Lib.hid (HTk.out.step HCk.out HSi.out)
        have hrbi : A.rb < wr.heap.size := HCi.out.rb.lt
        by_cases hlt2 : i < rk.top.conds.length
        · have hO : Own wr A.B 209 6 encC (.slice ac rk.top.conds.length cc) rk.top.conds := by have h1 := HTi.out.vc; rw [HVC.out] at h1; exact h1
          obtain ⟨gc, rfl, _, _, hcc⟩ := hO.ptr (by omega)
          have HX : Hid ((rk.top.conds.take (i + 1)).foldl (fun r c => r.tell c.pl 4 []) rk = RS.tell ((rk.top.conds.take i).foldl (fun r c => r.tell c.pl 4 []) rk) rk.top.conds[i].pl 4 []) := by
            show _ = _
            rw [List.take_succ_eq_append_getElem hlt2, List.foldl_append]; rfl
          generalize hcd : rk.top.conds[i] = cd at *
          have hgi : rk.top.conds[i]? = some cd := by rw [List.getElem?_eq_getElem hlt2, hcd]
          have e0 := hO.cellAt encC_ok hgi (j := 0) (u := .string ⟨cd.pl.file.toArray⟩) rfl
          have e1 := hO.cellAt encC_ok hgi (j := 1) (u := .int .i64 cd.pl.no) rfl
          have e2 := hO.cellAt encC_ok hgi (j := 2) (u := .string ⟨cd.pl.text.toArray⟩) rfl
          have e3 := hO.cellAt encC_ok hgi (j := 3) (u := .bool cd.first) rfl
          have e4 := hO.cellAt encC_ok hgi (j := 4) (u := .bool cd.second) rfl
          have e5 := hO.cellAt encC_ok hgi (j := 5) (u := .bool cd.other) rfl
          rw [Nat.add_zero] at e0
          have hbq := (Below.refl wr.heap.size wr).alloc (Nat.le_refl _) (.cells #[.string ⟨cd.pl.file.toArray⟩, .int .i64 cd.pl.no, .string ⟨cd.pl.text.toArray⟩, .bool cd.first, .bool cd.second, .bool cd.other] 209)
          have HTELL := Lib.hid (tell_any A L _ Vi (ss ++ [xk]) _ (HCi.out.next hbq) cd.pl 4 [] (by rw [tells_diags, List.length_take]; omega))
          have HSq := Lib.hid (HSi.out.below hbq)
          clear hO hcd hgi hbq
          go_wp2_with (go_at_call 150; refine HTELL.out.mono ?_; rintro e w9 ⟨rfl, V9, h1, h3⟩; have HC9 := Lib.hid h1; have HS9 := Lib.hid (HSq.out.trans h3); clear h1 h3)
          go_roundw
          case rel => exact ⟨i + 1, V9, by omega, by go_num, by show Core _ _ _ _ _ _; rw [HX.out]; exact HC9.out, HS9.out⟩
          case measure => simp [intOf]; omega
        · have hi3 : i = rk.top.conds.length := by omega
          have HCe : Hid (Core A L (rk.top.conds.foldl (fun r c => r.tell c.pl 4 []) rk) Vi (ss ++ [xk]) wr) := by
            have h1 := HCi.out
            rw [hi3, List.take_of_length_le (Nat.le_refl _)] at h1; exact h1
          clear hi3
          obtain ⟨go, c2, hvo2, hc2⟩ := HCe.out.vo.ptr' (n := ss.length) (by simp)
          have d3 : wr.cell? ⟨A.rb, 3, none⟩ = some (.slice (some ⟨go, 0, none⟩) (ss.length + 1) c2) := by rw [HCe.out.rb.cell, ← hvo2]; rfl
          have g3 : wr.frozen? ⟨A.rb, 3, none⟩ = false := HCe.out.rb.free _
          have a3 : IntKind.i64.wrap (((ss.length + 1 : Nat) : Int) - 1) = ((ss.length : Nat) : Int) := by rw [IntWalk.i64_in _ (by omega)]; omega
          have hm3 : ss.length ≤ c2 := by omega
          have HV2 := Lib.hid hvo2
          clear hvo2
          go_wp2_with fail
          go_region
          all_goals
            go_wp2
            go_end0
            obtain ⟨V9, h1, h2⟩ := HCe.out.pop HV2.out _ rfl rk.shut (by unfold RS.shut; rw [tells_opens])
            exact ⟨rfl, V9, h1, StepT.close HS3.out (by first | omega | (simp; done) | (simp; omega)) rfl (HSk.out.trans ((HSi.out.trans h2).toT xk))⟩

/-- a source is read -/
theorem readG_any (A : Adr) (L : List Two) (hL : L.length ≤ 1048576) (rd : Rd) (hrd : ReadsAs A L rd) (hkp : RdKeeps rd) : ReadsAs A L (fun r n t => RS.readG rd L r n t) := by
  intro r V ss w name text r' h hr
  refine ⟨readG_keeps hkp L r name text r' hr, ?_⟩
  have hr : RS.readG rd L r name text = some r' := hr
  unfold RS.readG at hr
  split at hr
  · rename_i hc
    split at hr
    · cases hr
    · rename_i rE hE
      split at hr
      · rename_i hEf
        cases hr
        cases hbg : r.begun.contains name
        · exact readG_false A L hL rd hrd hkp r V ss w h name text hc.1 hc.2.1 hc.2.2 hbg rE hE hEf
        · exact readG_true A L hL rd hrd hkp r V ss w h name text hc.1 hc.2.1 hc.2.2 hbg rE hE hEf
      · cases hr
  · cases hr
theorem read_any (A : Adr) (L : List Two) (hL : L.length ≤ 1048576) : ∀ f, ReadsAs A L (RS.read L f)
  | 0 => fun r V ss w name text r' h hr => by cases hr
  | f + 1 => fun r V ss w name text r' h hr => readG_any A L hL (RS.read L f) (read_any A L hL f) (read_keeps L f) r V ss w name text r' h hr
end Go.Proofs.YtfedkhicckgjaaaGreatDoor

namespace Go.Proofs.YtfedkhicckgjaaaGreatDoor
open Go.RowKit
set_option linter.unusedVariables false

set_option maxHeartbeats 2000000 in
theorem catch_idle (w : World) :
    CallsD Tryz.prog 137 #[] .returning w fun e u' w' => e = .returned (.tuple #[]) ∧ u' = .returning ∧ w' = w := by
  refine callsD_of_wpS Tryz.func137 rfl fun c₀ cs hu => ?_
  apply wpS_seq
  apply wpS_region
  simp [wpOpsS, go_sem, recoverD, hu, Tryz.ntmps137, Exit.thenS]
  refine wpS_of_wp ?_
  simp only [Array.replicate_succ, Array.replicate_zero, List.push_toArray, List.nil_append, List.cons_append, List.setIfInBounds_toArray, List.set_cons_zero, List.set_cons_succ]
  go_wp2
  
  cases c₀
  simp_all [bodyPostS, results, Tryz.results137]

set_option maxHeartbeats 4000000 in
set_option maxRecDepth 100000 in
theorem run_any (A : Adr) (L : List Two) (hL : L.length ≤ 1048576) (r : RS) (V : Vals) (ss : List Op1) (w : World) (h : Core A L r V ss w) (name text : Bytes) (r' : RS) (hr : RS.read L 17 r name text = some r') :
    Calls Tryz.prog 89 #[.pointer (some ⟨A.rb, 0, none⟩), .string ⟨name.toArray⟩, .string ⟨text.toArray⟩] w fun e w' => e = .returned (.tuple #[]) ∧ ∃ V', Core A L r' V' ss w' ∧ Step A V w V' w' := by
  have hmf : ∀ (fn : Fn) (first cap : Array Value) (w : World), (Instr.makeFunc fn first cap).run Tryz.prog w = .ok (.func fn first cap) w := fun _ _ _ _ => rfl
  have HR := Lib.hid ((read_any A L hL 17) r V ss w name text r' h hr).2
  clear h
  go_enter_defers Tryz.func89, Tryz.ntmps89
  go_wp2_with (go_at_call 138; refine HR.out.mono ?_; rintro e w1 ⟨rfl, h1⟩; have H1 := Lib.hid h1; clear h1)
  refine leaves_cons (f := 137) (args := #[]) (by simp) (by simp [go_sem]) ?_
  refine (catch_idle _).mono ?_
  rintro e u' w'' ⟨rfl, rfl, rfl⟩
  
  simp [Leaves, settle, results, Tryz.results89, go_sem]
  exact H1.out
end Go.Proofs.YtfedkhicckgjaaaGreatDoor

namespace Go.Proofs.YtfedkhicckgjaaaGreatDoor
open Go.RowKit
set_option linter.unusedVariables false

theorem eql_nil (a : Option Addr) (n c : Nat) (w : World) : (binOp .eql 55 (.slice a n c) (.slice none 0 0)).run Tryz.prog w = .ok (.bool a.isNone) w := by
  simp only [binOp]
  simp [run_equal_slice_nil w 55 78 a n c Tryz.underlying55]
set_option maxHeartbeats 2000000 in
set_option maxRecDepth 100000 in
theorem clone_any (a : Option Addr) (c : Nat) (l : List Two) (w : World) (hA : At w 2 encT a l) (hn : l.length ≤ 1048576) :
    Calls Tryz.prog 88 #[.slice a l.length c] w fun e w' => (∃ v, e = .returned v ∧ Own w' w.heap.size 78 2 encT v l) ∧ Below w.heap.size w w' := by
  cases a with
  | none =>
    have hl : l = [] := by
      rcases hA with h | ⟨b, off, ha, _⟩
      · exact h
      · cases ha
    subst hl
    have hq := eql_nil none 0 c
    go_enter Tryz.func88, Tryz.ntmps88
    go_wp2
    go_ret
    exact ⟨⟨_, rfl, Own.nil _ _ _ _ _⟩, Below.refl _ _⟩
  | some ad =>
    have HA := Lib.hid hA
    clear hA
    have hq := eql_nil (some ad) l.length c
    go_enter Tryz.func88, Tryz.ntmps88
    go_wp2_with (at_builtin; refine Hold.out ?_)
    constructor
    refine wpList_cat rfl _ _ 55 rfl w.heap.size 78 2 32 slattrs encT encT_ok _ [] rfl (Own.zeros w 78 2 encT #[] 0 (by decide) rfl w.heap.size (Nat.le_refl _)) _ _ _ l rfl rfl (HA.out.below ((Below.refl _ _).alloc (Nat.le_refl _) _)) (by simp; omega) (by unfold maxLen; simp; omega) w ((Below.refl _ _).alloc (Nat.le_refl _) _) (by simp) ?_
    intro v2 w2 hown2 hb2 _
    go_wp2
    go_ret
    exact ⟨⟨_, rfl, hown2⟩, hb2⟩
end Go.Proofs.YtfedkhicckgjaaaGreatDoor

namespace Go.Proofs.YtfedkhicckgjaaaGreatDoor
open Go.RowKit Go.Maps Go.Sort
open Go.WideElems (Fit rd rg rd_mk rg_of)
set_option linter.unusedVariables false

def anyElem (v : Value) : Option (DataW Unit × List MemPlace) := some (.lit (.bool true), [])
def sortB (l : List Bytes) : List Bytes := l.mergeSort fun x y => decide (x ≤ y)
theorem sortB_nil : sortB [] = [] := by unfold sortB; exact List.mergeSort_nil
theorem sortB_one (x : Bytes) : sortB [x] = [x] := by unfold sortB; exact List.mergeSort_singleton x
theorem SMap.owns {w : World} {b : Nat} {l : List Bytes} (h : SMap w b (kv l)) (hn : l.length ≤ 1000000) (hl : ∀ x ∈ l, x.length ≤ 1000000) :
    ∃ D0 : DataW Unit, w.ownsMap Tryz.prog 9 anyElem b l.length D0 ∧ (strKeys D0).Perm l ∧ Maps.size D0 = l.length := by
  obtain ⟨es, clock, hb, hm, hst⟩ := h
  have hk : Tryz.prog.underlying 9 = some .string := Tryz.underlying9
  have hlen : es.toList.length = l.length := by have := congrArg List.length hm; unfold kv at this; simpa using this
  have hrd : ∀ (i : Nat) (hi : i < es.toList.length), rd Tryz.prog 9 anyElem es.toList[i] = some (.string (l[i]'(by omega)), .lit (.bool true)) := by
    intro i hi
    have e := congrArg (fun z => z[i]?) hm
    simp only [kv, List.getElem?_map, List.getElem?_eq_getElem hi, List.getElem?_eq_getElem (show i < l.length by omega), Option.map_some, Option.some.injEq, Prod.mk.injEq] at e
    have hx : (l[i]'(by omega)).length ≤ 1000000 := hl _ (List.getElem_mem _)
    have h1 := Go.WideMaps.keyOf_string_mk (P := Tryz.prog) hk (s := ⟨(l[i]'(by omega)).toArray⟩) (by rw [size_mk]; unfold maxLen; omega)
    rw [← e.1] at h1
    have h2 := rd_mk (P := Tryz.prog) (k := 9) (R := anyElem) (val := es.toList[i].val) (born := es.toList[i].born) h1 (yv := (.lit (.bool true), [])) rfl
    simpa using h2
  have hF : Fit Tryz.prog 9 anyElem es clock := ⟨by rw [← Array.length_toList]; unfold maxLen; omega, hst, fun x hx => by
    obtain ⟨i, hi, rfl⟩ := List.getElem_of_mem hx
    exact ⟨_, hrd i hi⟩⟩
  have hmap : es.toList.map (rg Tryz.prog 9 anyElem) = l.map fun x => ((.string x, .lit (.bool true)) : Lit × DataW Unit) := by
    apply List.ext_getElem (by simp; simpa using hlen)
    intro i h1 h2
    simp only [List.getElem_map]
    exact rg_of (hrd i (by simpa using h1))
  refine ⟨_, ⟨es, clock, hb, hF, by rw [← Array.length_toList, hlen]; exact Nat.le_refl _, rfl⟩, ?_, ?_⟩
  · rw [hmap]
    show List.Perm (List.map _ (List.foldr DataW.insert [] _)) l
    have h1 := (Go.WideShapes.sorted_perm (l.map fun x => ((.string x, .lit (.bool true)) : Lit × DataW Unit))).map fun p => strOf p.1
    refine h1.trans ?_
    rw [List.map_map]
    have : (l.map ((fun p : Lit × DataW Unit => strOf p.1) ∘ fun x => (.string x, .lit (.bool true)))) = l := by
      have e : ((fun p : Lit × DataW Unit => strOf p.1) ∘ fun x : Bytes => ((.string x, .lit (.bool true)) : Lit × DataW Unit)) = id := by funext x; rfl
      rw [e, List.map_id]
    rw [this]
  · rw [hmap]
    show List.length (List.foldr DataW.insert [] _) = _
    rw [length_sorted, List.length_map]

theorem keys_any (b : Nat) (w : World) : Calls Tryz.prog 91 #[.map (some b)] w fun e w' => e = .returned (.func (.func 141) #[] #[.pointer (some ⟨w.heap.size, 0, none⟩)]) ∧ w' = w.alloc (.cells #[.map (some b)] 86) :=
  (callsIn_wide (n := 5)).1 (Tryz.maps_Keys_91 (some b) w)
theorem sorted_any (b : Nat) (l : List Bytes) (w : World) (h : SMap w b (kv l)) (hn : l.length ≤ 1000000) (hl : ∀ x ∈ l, x.length ≤ 1000000) :
    Calls Tryz.prog 90 #[.func (.func 141) #[] #[.pointer (some ⟨w.heap.size, 0, none⟩)]] (w.alloc (.cells #[.map (some b)] 86))
      fun e w' => (∃ v, e = .returned v ∧ Own w' w.heap.size 9 1 encS v (sortB l)) ∧ Below w.heap.size w w' := by
  obtain ⟨D0, hD, hP, hS⟩ := h.owns hn hl
  refine ((callsIn_wide (n := 5)).1 (Tryz.slices_Sorted_keys_90_91 b l.length D0 anyElem w hD (by rw [hS]; unfold maxLen; omega) (by rw [hS]; omega))).mono ?_
  rintro e w' ⟨v, ss, rfl, hp, hrow, hnil, hb⟩
  refine ⟨⟨v, rfl, ?_⟩, ((Below.refl _ w).alloc (Nat.le_refl _) _).trans (hb.mono (by simp))⟩
  have h1 : ss.mergeSort (fun x y => decide (x ≤ y)) = sortB l := mergeSort_of_perm (hp.trans hP)
  have h2 : (sortB l).length = ss.length := by rw [← h1, List.length_mergeSort]
  rw [h1] at hrow
  have h3 : Own w' (w.heap.size + 1) 9 1 encS v (sortB l) := by
    unfold Own
    rw [h2]
    have e : (sortB l).flatMap encS = (sortB l).map Go.Proofs.encStr := by
      show (sortB l).flatMap (fun x => [Go.Proofs.encStr x]) = _
      rw [List.map_eq_flatMap]
    rw [e]
    simpa using hrow
  exact h3.mono (by omega)
end Go.Proofs.YtfedkhicckgjaaaGreatDoor
