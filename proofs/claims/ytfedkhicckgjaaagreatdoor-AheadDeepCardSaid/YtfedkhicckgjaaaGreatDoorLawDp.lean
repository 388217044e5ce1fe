/- The law AheadDeep, walked. -/
import Derived.Test.YtfedkhicckgjaaaGreatDoorPlainW
import Derived.Test.YtfedkhicckgjaaaGreatDoorDeepP
import Derived.Test.YtfedkhicckgjaaaGreatDoorLinesW
import Derived.Test.YtfedkhicckgjaaaGreatDoorFrameC
import Derived.Test.YtfedkhicckgjaaaGreatDoorSameL
import Derived.Test.YtfedkhicckgjaaaGreatDoorBaseA
import Derived.Laws.IdiomStrings
namespace Go.Proofs.YtfedkhicckgjaaaGreatDoor
open Go.RowKit
set_option linter.unusedVariables false

theorem slsrc5 : SlTy Tryz.prog 22 63 2 32 := ⟨Tryz.underlying22, .agg #[.string ⟨#[]⟩, .string ⟨#[]⟩], by kernel_rfl, rfl, by decide⟩
theorem conv1 (W : World) (g : Nat) (z : Int) (y : UInt8) (hz : (y.toNat : Int) = z) (h : W.cell? ⟨g, 0, none⟩ = some (.int .u8 z)) :
    (convert 68 9 (.slice (some ⟨g, 0, none⟩) 1 1)).run Tryz.prog W = .ok (.string ⟨#[y]⟩) W := by
  subst hz
  exact run_convert_bytes_back (P := Tryz.prog) W 68 9 5 ⟨g, 0, none⟩ 1 [y] Tryz.underlying68 Tryz.underlying5 Tryz.underlying9 (fun j hj => by
    have : j = 0 := by simpa using hj
    subst this
    exact h)
theorem nmC_byte (i : Nat) (h : i < 30) : ∃ y : UInt8, (y.toNat : Int) = 97 + (i : Int) ∧ nmC i = [115, y] ∧ ∀ p : Bytes, p ++ [115, y] = p ++ nmC i := ⟨UInt8.ofNat (97 + i), by simp; omega, rfl, fun _ => rfl⟩
theorem chainL_succ (k : Nat) : chainL (k + 1) = chainL k ++ [⟨nmC k, txC k⟩] := by unfold chainL; rw [List.range_succ, List.map_append]; rfl
theorem read_n (la : Option Addr) (lc : Nat) (L : List Two) (n : Nat) (hL' : L.length = n) (name text : Bytes) (w : World) (hL : At w 2 encT la L) (hLB : ∀ b off, la = some ⟨b, off, none⟩ → b < w.heap.size) (hLn : n ≤ 1048576)
    (hM : MaxOk w) (hs : srcL L name = some text) (a : Ans) (hr : (readP L [] name text).map RS.ans = some a) (hq : a.asked.length ≤ 1000000 ∧ ∀ x ∈ a.asked, x.length ≤ 1000000) :
    Calls Tryz.prog 25 #[.slice la n lc, .slice none 0 0, .string ⟨name.toArray⟩] w (ReadGives w w.heap.size a.lines a.diags a.files (sortB a.asked)) := by
  subst hL'
  exact read_ans la lc L none 0 [] name text w hL hLB hLn (At.nil _ _ _ _) (by simp) (fun x hx => absurd hx (List.not_mem_nil)) hM hs a hr hq
theorem moreL_len (k : Nat) (s : Bytes) : (moreL k s).length = k + 2 := by simp [moreL, chainL]
theorem chainL_len (k : Nat) : (chainL k).length = k := by simp [chainL]

set_option maxHeartbeats 4000000 in
set_option maxRecDepth 100000 in
theorem deep_long (w : World) (s : Bytes) (hs : s.length ≤ 140737488351232) (t : Nat) (ht : t < 256) (hM : MaxOk w) (h1 : 500 < s.length) :
    Calls Tryz.prog 6 #[.string ⟨s.toArray⟩, .int .u8 t] w fun e w' => e = .returned (.bool true) ∧ Below w.heap.size w w' := by
  have HM := Lib.hid hM
  clear hM
  go_enter Tryz.func6, Tryz.ntmps6
  go_wp2_with (first
    | (go_at_call 22; refine (alive_any _ HM.out).mono ?_; rintro e w1 ⟨rfl, hb1⟩)
    | (go_at_call 22; refine (alive_any _ (HM.out.next hb1)).mono ?_; rintro e w9 ⟨rfl, hc⟩; have hb9 := hb1.trans (hc.mono hb1.size)))
  go_ret
  exact ⟨rfl, hb9⟩

set_option maxHeartbeats 4000000 in
set_option maxRecDepth 100000 in
theorem deep_not (w : World) (s : Bytes) (hs : s.length ≤ 140737488351232) (t : Nat) (ht : t < 256) (hM : MaxOk w) (h1 : s.length ≤ 500) (hp : plainB s = false) :
    Calls Tryz.prog 6 #[.string ⟨s.toArray⟩, .int .u8 t] w fun e w' => e = .returned (.bool true) ∧ Below w.heap.size w w' := by
  have HM := Lib.hid hM
  have HPL := Lib.hid hp
  clear hp
  clear hM
  go_enter Tryz.func6, Tryz.ntmps6
  go_wp2_with (first
    | (go_at_call 22; refine (alive_any _ HM.out).mono ?_; rintro e w1 ⟨rfl, hb1⟩)
    | (go_at_call 24; refine (plain_any s _ (by omega)).mono ?_; rw [HPL.out]; rintro e w3 ⟨rfl, rfl⟩)
    | (go_at_call 22; refine (alive_any _ (HM.out.next hb1)).mono ?_; rintro e w9 ⟨rfl, hc⟩; have hb9 := hb1.trans (hc.mono hb1.size)))
  go_ret
  exact ⟨rfl, hb9⟩

set_option maxHeartbeats 4000000 in
set_option maxRecDepth 100000 in
theorem deep_main (w : World) (s : Bytes) (hs : s.length ≤ 140737488351232) (t : Nat) (ht : t < 256) (hM : MaxOk w) (h1 : s.length ≤ 500) (hp : plainB s = true) (k : Nat) (hk : k = 1 + t % 20) :
    Calls Tryz.prog 6 #[.string ⟨s.toArray⟩, .int .u8 t] w fun e w' => e = .returned (.bool true) ∧ Below w.heap.size w w' := by
  have HM := Lib.hid hM
  have HPL := Lib.hid hp
  have PL2 := Lib.hid hp
  have hk20 : 1 ≤ k ∧ k ≤ 20 := by omega
  have hkI : 1 + (t : Int) % 20 = (k : Int) := by omega
  clear hp hk
  clear hM
  go_enter Tryz.func6, Tryz.ntmps6
  go_wp2_with (first
    | (go_at_call 22; refine (alive_any _ HM.out).mono ?_; rintro e w1 ⟨rfl, hb1⟩)
    | (go_at_call 24; refine (plain_any s _ (by omega)).mono ?_; rw [HPL.out]; rintro e w3 ⟨rfl, rfl⟩))
  go_loopw [6, 7] (fun v6 v7 wr => ∃ i : Nat, i ≤ k ∧ v7 = .int .i64 i ∧ Hid (Own wr w.heap.size 63 2 encT v6 (chainL i)) ∧ Hid (Below w.heap.size w wr)) (fun _ v7 _ => k - (intOf v7).toNat)
  case atStart => exact ⟨0, by omega, rfl, Own.nil _ _ _ _ _, hb1⟩
  case round =>
    obtain ⟨i, hi, rfl, HO, HB⟩ := hrel
    by_cases hlt : i < k
    · obtain ⟨y, hy, hyn, _⟩ := nmC_byte i (by omega)
      obtain ⟨z, hz, hzn, _⟩ := nmC_byte (i + 1) (by omega)
      have HY : Hid (nmC i = [115, y] ∧ txC i = [120, 10, 64, 105, 110, 99, 108, 117, 100, 101, 32, 115, z]) := ⟨hyn, by
        have e : z = UInt8.ofNat (98 + i) := by injection hzn with _ h; injection h with h _; rw [← h, show 97 + (i + 1) = 98 + i from by omega]
        rw [e]; rfl⟩
      clear hyn hzn
      have hcv1 := conv1 (wr.alloc (.cells #[.int .u8 (97 + (i : Int))] 5)) wr.heap.size (97 + (i : Int)) y hy (by simp)
      have hcv2 := conv1 ((wr.alloc (.cells #[.int .u8 (97 + (i : Int))] 5)).alloc (.cells #[.int .u8 (98 + (i : Int))] 5)) (wr.heap.size + 1) (98 + (i : Int)) z (by omega) (by have h := (Bk.new1 wr (.cells #[.int .u8 (97 + (i : Int))] 5) #[.int .u8 (98 + (i : Int))] 5).cell 0; exact h)
      have hb2 : Below w.heap.size w ((wr.alloc (.cells #[.int .u8 (97 + (i : Int))] 5)).alloc (.cells #[.int .u8 (98 + (i : Int))] 5)) := (HB.out.alloc HB.out.size _).alloc (by have := HB.out.size; simp; omega) _
      have HO2 := Lib.hid ((HO.out.alloc (.cells #[.int .u8 (97 + (i : Int))] 5)).alloc (.cells #[.int .u8 (98 + (i : Int))] 5))
      clear hy hz
      go_wp2_with (first
        | (go_at_call 26; refine (src_any [115, y] [120, 10, 64, 105, 110, 99, 108, 117, 100, 101, 32, 115, z] _).mono ?_; rintro e w3 ⟨rfl, hc⟩; have hb3 := hb2.trans (hc.mono hb2.size); have HO3 := Lib.hid (HO2.out.next rfl hc); clear hc)
        | (at_builtin; refine Hold.out ?_))
      constructor
      refine wpList_push rfl _ _ 22 rfl w.heap.size 63 2 32 slsrc5 encT encT_ok _ (chainL i) rfl (HO3.out.alloc _) ⟨nmC i, txC i⟩ w3.heap.size rfl (by rw [HY.out.1, HY.out.2]; intro j u hj; match j, hj with | 0, hj => (simp [encT] at hj; subst hj; simp) | 1, hj => (simp [encT] at hj; subst hj; simp) | j + 2, hj => simp [encT] at hj) (by rw [chainL_len]; omega) (by rw [chainL_len]; unfold maxLen; omega) w (hb3.alloc hb3.size _) (by have := hb3.size; simp; omega) ?_
      intro v4 w4 hO4 hb4 _
      rw [← chainL_succ] at hO4
      have HO4 := Lib.hid hO4
      clear hO4
      go_wp2_with fail
      go_roundw
      case rel => exact ⟨i + 1, by omega, by go_num, HO4.out, hb4⟩
      case measure => simp [intOf]; omega
    · obtain rfl : k = i := by omega
      obtain ⟨al, cl, hv⟩ := HO.out.shape
      rw [chainL_len] at hv
      subst hv
      obtain ⟨ga, hga, hga1, hgl, hcl⟩ := HO.out.ptr (by omega)
      subst hga
      obtain ⟨y, hy, hyn, _⟩ := nmC_byte k (by omega)
      have HY : Hid (nmC k = [115, y]) := hyn
      clear hyn
      have hbs := HB.out.size
      obtain ⟨i0, hi0, hz0, hz1, hz2⟩ := info_parts (show (Tryz.prog.info? 63).map (fun i => (i.zero, i.size, i.bytes)) = some (some (.agg #[.string ⟨#[]⟩, .string ⟨#[]⟩]), 2, 32) by kernel_rfl)
      have HNW : Hid (∀ W, Below wr.heap.size wr W → ∀ j u, ((chainL k).flatMap encT)[j]? = some u → W.cell? ((⟨ga, 0, none⟩ : Addr).add j) = some u) := fun W hW j u hj => by
        have hO := HO.out.below hW (Nat.le_refl _)
        exact World.ownsRow.cells hO (g := ga) rfl j u hj
      have HLN : Hid (((chainL k).flatMap encT).length = k * 2) := by show _ = _; rw [flat_len encT_ok.len, chainL_len]
      have HONE : Hid (∀ u ∈ (chainL k).flatMap encT, u.oneCell' = true) := fun u hu => by obtain ⟨x, _, hx⟩ := List.mem_flatMap.1 hu; exact encT_ok.one x u hx
      have hd : Below wr.heap.size wr wr.drew := drew_below wr
      have hd2 : Below wr.heap.size wr (wr.alloc (.cells #[.int .u8 (97 + (k : Int))] 5)).drew := ((Below.refl _ _).alloc (Nat.le_refl _) _).trans ⟨rfl, rfl, rfl, Nat.le_refl _, fun _ _ => rfl⟩
      have hcv0 := conv1 (wr.alloc (.cells #[.int .u8 (97 + (k : Int))] 5)).drew wr.heap.size (97 + (k : Int)) y hy (by have h := (Bk.new wr #[.int .u8 (97 + (k : Int))] 5).drew.cell 0; exact h)
      have hcvW := fun W : World => conv1 (W.alloc (.cells #[.int .u8 (97 + (k : Int))] 5)) W.heap.size (97 + (k : Int)) y hy (by simp)
      have hw1 : IntKind.u8.wrap (k : Int) = (k : Int) := by simp [IntKind.wrap, IntKind.bits, IntKind.signed]; omega
      have hw2 : IntKind.u8.wrap (97 + (k : Int)) = 97 + (k : Int) := by simp [IntKind.wrap, IntKind.bits, IntKind.signed]; omega
      have HYI := Lib.hid hy
      clear hy
      go_upto_region 9 with fail
      go_cut [8] from 56 to 69 (fun v8 wx => Hid (Own wx w.heap.size 63 2 encT v8 (moreL k s)) ∧ Hid (Below wr.heap.size wr wx))
      case first =>
        go_region_law (first
          | (refine step_append_lies _ (by rfl) _ _ _ (by rfl) wr.heap.size 63 i0 _ 2 32 Tryz.underlying22 hi0 hz0 hz1 hz2 rfl (by omega) (.slice none 0 0) 0 [] (by rfl) (World.ownsRow_nil _ _ _ _) ⟨ga, 0, none⟩ k cl ((chainL k).flatMap encT) (by rfl) HLN.out (HNW.out _ hd) HONE.out (by omega) (by unfold maxLen; omega) (by omega) (by simp) wr.heap.size (by simp) ?_; intro gg cap wA hownA hgrowA hatA hltA; have hbA : Below wr.heap.size wr wA := hd.grown hgrowA (Nat.le_refl _) (fun k hk => by cases hk); have HOA : Hid (Own wA wr.heap.size 63 2 encT (.slice (some ⟨gg, 0, none⟩) k cap) (chainL k)) := (by (show World.ownsRow _ _ _ _ _ _ _); (rw [chainL_len]); (rw [Nat.zero_add, List.nil_append] at hownA); exact hownA))
          | (refine step_append_lies _ (by rfl) _ _ _ (by rfl) wr.heap.size 63 i0 _ 2 32 Tryz.underlying22 hi0 hz0 hz1 hz2 rfl (by omega) (.slice none 0 0) 0 [] (by rfl) (World.ownsRow_nil _ _ _ _) ⟨ga, 0, none⟩ k cl ((chainL k).flatMap encT) (by rfl) HLN.out (HNW.out _ hd2) HONE.out (by omega) (by unfold maxLen; omega) (by omega) (by simp) (wr.heap.size + 1) (by simp) ?_; intro gg cap wA hownA hgrowA hatA hltA; have hbA : Below wr.heap.size wr wA := hd2.grown hgrowA (by simp) (fun k hk => by cases hk); have HOA : Hid (Own wA wr.heap.size 63 2 encT (.slice (some ⟨gg, 0, none⟩) k cap) (chainL k)) := (by (show World.ownsRow _ _ _ _ _ _ _); (rw [chainL_len]); (rw [Nat.zero_add, List.nil_append] at hownA); exact hownA); have hcvA := conv1 wA wr.heap.size (97 + (k : Int)) y HYI.out (by (rw [hgrowA.cell_far ⟨wr.heap.size, 0, none⟩ (by simp) (show some wr.heap.size ≠ (none : Option Nat) by simp)]); (have h := (Bk.new wr #[.int .u8 (97 + (k : Int))] 5).drew.cell 0); exact h))
          | (go_simp; go_at_call 26; refine (src_any [111, 116, 104, 101, 114] s _).mono ?_; rintro e wC ⟨rfl, hc⟩; have hbC : Below wr.heap.size wr wC := hbB.trans (hc.mono hbB.size); have HOC : Hid (Own wC wr.heap.size 63 2 encT (.slice (some ⟨gg, 0, none⟩) k cap) (chainL k)) := HOB.out.next rfl hc; dsimp only)
          | (go_simp; go_at_call 26; refine (src_any [115, y] s _).mono ?_; rintro e wB ⟨rfl, hc⟩; have hbB : Below wr.heap.size wr wB := (by first | exact hbA.trans (hc.mono hbA.size) | exact (hbA.alloc hbA.size _).trans (hc.mono (hbA.alloc hbA.size _).size)); have HOB : Hid (Own wB wr.heap.size 63 2 encT (.slice (some ⟨gg, 0, none⟩) k cap) (chainL k)) := (by first | exact HOA.out.next rfl hc | exact (HOA.out.alloc _).next rfl hc); dsimp only)
          | (refine step_append_lies _ (by rfl) _ _ _ (by rfl) wr.heap.size 63 i0 _ 2 32 Tryz.underlying22 hi0 hz0 hz1 hz2 rfl (by omega) (.slice (some ⟨gg, 0, none⟩) k cap) k ((chainL k).flatMap encT) (by rfl) (by (have h := HOC.out.alloc (.cells #[.string ⟨#[115, y]⟩, .string ⟨s.toArray⟩, .string ⟨#[111, 116, 104, 101, 114]⟩, .string ⟨s.toArray⟩] 63)); (unfold Own at h); (rw [chainL_len] at h); exact h) ⟨wC.heap.size, 0, none⟩ 2 2 [.string ⟨#[115, y]⟩, .string ⟨s.toArray⟩, .string ⟨#[111, 116, 104, 101, 114]⟩, .string ⟨s.toArray⟩] (by rfl) (by rfl) (World.news_of_block (cs := #[.string ⟨#[115, y]⟩, .string ⟨s.toArray⟩, .string ⟨#[111, 116, 104, 101, 114]⟩, .string ⟨s.toArray⟩]) (t := 63) (fr := (0, 0)) (heap_alloc_new wC _)) (by simp [Value.oneCell']) (by omega) (by unfold maxLen; omega) (by omega) (by (have := hbC.size); simp; omega) (wC.heap.size + 1) (by simp) ?_; intro g4 cap4 wD hownD hgrowD hatD hltD))
        all_goals
          have hbD : Below wr.heap.size wr wD := (hbC.alloc hbC.size _).grown hgrowD (by have := hbC.size; simp; omega) (fun b hb => by cases hb; exact (HOC.out.block gg rfl).1)
          have HOD : Hid (Own wD wr.heap.size 63 2 encT (.slice (some ⟨g4, 0, none⟩) (k + 2) cap4) (moreL k s)) := by
            show World.ownsRow _ _ _ _ _ _ _
            unfold moreL
            rw [List.length_append, chainL_len, List.flatMap_append]
            have e : ([⟨nmC k, s⟩, ⟨otherB, s⟩] : List Two).flatMap encT = [.string ⟨#[115, y]⟩, .string ⟨s.toArray⟩, .string ⟨#[111, 116, 104, 101, 114]⟩, .string ⟨s.toArray⟩] := by
              rw [HY.out]; rfl
            rw [e]; exact hownD
          go_wp2_with fail
          go_meet
          exact ⟨HOD.out.mono hbs, hbD⟩
      case rest =>
        obtain ⟨HO8, HB8⟩ := hcut
        obtain ⟨am, cm, hv⟩ := HO8.out.shape
        rw [moreL_len] at hv
        subst hv
        obtain ⟨gm, hgm, hgm1, hgml, hgmc⟩ := HO8.out.ptr (by omega)
        subst hgm
        have HOl := Lib.hid (HO.out.below HB8.out (Nat.le_refl _))
        have hbc := HB.out.trans (HB8.out.mono hbs)
        have hglc : ga < wc.heap.size := by have := HB8.out.size; omega
        clear hcv0 hcvW HNW HLN HONE hd hd2 HO HY HYI hw1 hw2 hi0 hz0 hz1 hz2
        have hsrcL : srcL (chainL k) (nmC 0) = some (txC 0) := of_decide_eq_true (all_lt (p := fun k => decide (1 ≤ k → srcL (chainL k) (nmC 0) = some (txC 0))) (n := 21) (by kernel_rfl) k (by omega)) (by omega)
        have hsrcM : srcL (moreL k s) (nmC 0) = some (txC 0) := srcL_app hsrcL
        by_cases hk16 : 16 ≤ k
        · have HR1 := Lib.hid (readP_deep k ⟨hk16, by omega⟩)
          have HR2 := Lib.hid (readP_deepM k ⟨hk16, by omega⟩ s)
          go_wp2_with ((go_at_call 25; refine Hold.out ?_))
          constructor
          refine (read_n (some ⟨ga, 0, none⟩) cl (chainL k) k (chainL_len k) (nmC 0) (txC 0) _ (HOl.out.addr encT_ok) (fun b off e => by cases e; exact hglc) (by omega) (HM.out.next hbc) hsrcL _ HR1.out ⟨by simp [deepAns], fun x hx => absurd hx (List.not_mem_nil)⟩).mono ?_
          rintro e w5 ⟨⟨u0, u1, u2, u3, rfl, h0, h1', h2', h3'⟩, hc⟩
          obtain ⟨g0, c0, rfl, hg0⟩ := h0.ptrN 15 rfl
          obtain ⟨g1, c1, rfl, hg1⟩ := h1'.ptrN 0 rfl
          obtain ⟨g2, c2, rfl, hg2⟩ := h2'.ptrN 15 rfl
          obtain ⟨a3, c3, rfl⟩ := h3'.shape
          have hb5 := hbc.trans (hc.mono hbc.size)
          have HA5 := Lib.hid h0
          have HD5 := Lib.hid h1'
          have HF5 := Lib.hid h2'
          have HM5 := Lib.hid (HO8.out.next rfl hc)
          have hgm5 : gm < w5.heap.size := by have := hc.size; omega
          clear h0 h1' h2' h3' hc
          go_wp2_with ((go_at_call 25; refine Hold.out ?_))
          constructor
          refine (read_n (some ⟨gm, 0, none⟩) cm (moreL k s) (k + 2) (moreL_len k s) (nmC 0) (txC 0) _ (HM5.out.addr encT_ok) (fun b off e => by cases e; exact hgm5) (by omega) (HM.out.next hb5) hsrcM _ HR2.out ⟨by simp [deepAns], fun x hx => absurd hx (List.not_mem_nil)⟩).mono ?_
          rintro e w6 ⟨⟨u0, u1, u2, u3, rfl, h0, h1', h2', h3'⟩, hc⟩
          obtain ⟨g10, c10, rfl, hg10⟩ := h0.ptrN 15 rfl
          obtain ⟨g11, c11, rfl, hg11⟩ := h1'.ptrN 0 rfl
          obtain ⟨g12, c12, rfl, hg12⟩ := h2'.ptrN 15 rfl
          obtain ⟨a13, c13, rfl⟩ := h3'.shape
          have hb6 := hb5.trans (hc.mono hb5.size)
          have HA6 := Lib.hid (HA5.out.next rfl hc)
          have HD6 := Lib.hid (HD5.out.next rfl hc)
          have HF6 := Lib.hid (HF5.out.next rfl hc)
          have HX6 := Lib.hid h0
          have HY6 := Lib.hid h1'
          have HZ6 := Lib.hid h2'
          clear h0 h1' h2' h3' hc
          have f0 := HD6.out.cellAt encD_ok (k := 0) (j := 0) (u := .string ⟨#[115, 112]⟩) rfl rfl
          have f1 := HD6.out.cellAt encD_ok (k := 0) (j := 1) (u := .int .i64 2) rfl rfl
          have f2 := HD6.out.cellAt encD_ok (k := 0) (j := 2) (u := .int .i64 5) rfl rfl
          have f3 := HD6.out.cellAt encD_ok (k := 0) (j := 3) (u := .string ⟨#[115, 113]⟩) rfl rfl
          simp only [Nat.zero_mul, Nat.zero_add] at f0 f1 f2 f3
          go_wp2_with (first
            | (go_at_call 28; refine (sameLines_any _ _ _ _ (xLines 16) _ (by decide) (HA6.out.addr encL_ok) (HX6.out.addr encL_ok)).mono ?_; rintro e w7 ⟨rfl, hc⟩; have hb7 := hb6.trans (hc.mono hb6.size); have HD7 := Lib.hid (HD6.out.next rfl hc); have HY7 := Lib.hid (HY6.out.next rfl hc); have HF7 := Lib.hid (HF6.out.next rfl hc); have HZ7 := Lib.hid (HZ6.out.next rfl hc); clear hc)
            | (go_at_call 29; refine (sameDiags_any _ _ _ _ [⟨nmC 15, 2, 5, nmC 16⟩] _ (by decide) (HD7.out.addr encD_ok) (HY7.out.addr encD_ok)).mono ?_; rintro e w8 ⟨rfl, hc⟩; have hb8 := hb7.trans (hc.mono hb7.size); have HF8 := Lib.hid (HF7.out.next rfl hc); have HZ8 := Lib.hid (HZ7.out.next rfl hc); clear hc)
            | (go_at_call 16; refine (sameTexts_any _ _ _ _ (namesC 16) _ (by decide) (HF8.out.addr encS_ok) (HZ8.out.addr encS_ok)).mono ?_; rintro e w9 ⟨rfl, hc⟩; have hb9 := hb8.trans (hc.mono hb8.size); clear hc))
          go_ret
          exact ⟨rfl, hb9⟩
        · obtain ⟨an, hR2, hR2d, hR2q, hR2f, hR2l⟩ := readP_more k ⟨by omega, by omega⟩ s (PL2.out) h1
          have HR1 := Lib.hid (readP_low k ⟨by omega, by omega⟩)
          have HR2 := Lib.hid hR2
          have hll := linesP_le s
          go_wp2_with ((go_at_call 25; refine Hold.out ?_))
          constructor
          refine (read_n (some ⟨ga, 0, none⟩) cl (chainL k) k (chainL_len k) (nmC 0) (txC 0) _ (HOl.out.addr encT_ok) (fun b off e => by cases e; exact hglc) (by omega) (HM.out.next hbc) hsrcL _ HR1.out ⟨by simp [lowAns], fun x hx => absurd hx (List.not_mem_nil)⟩).mono ?_
          rintro e w5 ⟨⟨u0, u1, u2, u3, rfl, h0, h1', h2', h3'⟩, hc⟩
          obtain ⟨a0, c0, hv0⟩ := h0.shape
          rw [show (lowAns k).lines.length = k from by simp [lowAns, xLines]] at hv0
          subst hv0
          obtain ⟨g1, c1, rfl, hg1⟩ := h1'.ptrN 0 rfl
          obtain ⟨a2, c2, rfl⟩ := h2'.shape
          obtain ⟨a3, c3, rfl⟩ := h3'.shape
          have hb5 := hbc.trans (hc.mono hbc.size)
          have HD5 := Lib.hid h1'
          have HM5 := Lib.hid (HO8.out.next rfl hc)
          have hgm5 : gm < w5.heap.size := by have := hc.size; omega
          clear h0 h1' h2' h3' hc
          go_wp2_with ((go_at_call 25; refine Hold.out ?_))
          constructor
          refine (read_n (some ⟨gm, 0, none⟩) cm (moreL k s) (k + 2) (moreL_len k s) (nmC 0) (txC 0) _ (HM5.out.addr encT_ok) (fun b off e => by cases e; exact hgm5) (by omega) (HM.out.next hb5) hsrcM _ HR2.out ⟨by rw [hR2q]; simp, fun x hx => by rw [hR2q] at hx; exact absurd hx (List.not_mem_nil)⟩).mono ?_
          rintro e w6 ⟨⟨u0, u1, u2, u3, rfl, h0, h1', h2', h3'⟩, hc⟩
          obtain ⟨a10, c10, hv0⟩ := h0.shape
          rw [hR2l] at hv0
          obtain ⟨a11, c11, hv1⟩ := h1'.shape
          rw [hR2d] at hv1
          obtain ⟨a12, c12, hv2⟩ := h2'.shape
          rw [hR2f] at hv2
          obtain ⟨a13, c13, rfl⟩ := h3'.shape
          subst hv0 hv1 hv2
          have hb6 := hb5.trans (hc.mono hb5.size)
          have HD6 := Lib.hid (HD5.out.next rfl hc)
          clear h0 h1' h2' h3' hc hR2 hR2d hR2q hR2f hR2l
          obtain ⟨y, hy, hyn, _⟩ := nmC_byte (k - 1) (by omega)
          have HY : Hid (nmC (k - 1) = [115, y]) := hyn
          clear hyn
          have hcv := conv1 (w6.alloc (.cells #[.int .u8 (97 + ((k : Int) - 1))] 5)) w6.heap.size (97 + ((k : Int) - 1)) y (by omega) (by simp)
          have hb7 := hb6.alloc hb6.size (.cells #[.int .u8 (97 + ((k : Int) - 1))] 5)
          have HD7 := Lib.hid (HD6.out.alloc (.cells #[.int .u8 (97 + ((k : Int) - 1))] 5))
          have f0 := HD7.out.cellAt encD_ok (k := 0) (j := 0) (u := .string ⟨#[115, y]⟩) rfl (by (show (encD ⟨nmC (k - 1), 2, 1, nmC k⟩)[0]? = _); rw [HY.out]; rfl)
          have f2 := HD7.out.cellAt encD_ok (k := 0) (j := 2) (u := .int .i64 1) rfl rfl
          simp only [Nat.zero_mul, Nat.zero_add] at f0 f2
          have e1 : ¬ (16 : Int) ≤ (k : Int) := by omega
          clear hy
          go_wp2_with (first
            | (go_at_call 13; refine (lines_any s _ (by omega) (HM.out.next hb7)).mono ?_; rintro e w9 ⟨⟨vl, rfl, hOl⟩, hc⟩; obtain ⟨a9, c9, rfl⟩ := hOl.shape; have hb9 := hb7.trans (hc.mono hb7.size); clear hOl hc))
          go_ret
          exact ⟨rfl, hb9⟩

theorem walk_AheadDeep (w : World) (s : Bytes) (hs : s.length ≤ reachBytes) (t : Nat) (ht : t < 256) (hM : MaxOk w) :
    Calls Tryz.prog 6 #[.string ⟨s.toArray⟩, .int .u8 t] w fun e w' => e = .returned (.bool true) ∧ Below w.heap.size w w' := by
  have hs' : s.length ≤ 140737488351232 := hs
  by_cases h1 : 500 < s.length
  · exact deep_long w s hs' t ht hM h1
  cases hp : plainB s
  · exact deep_not w s hs' t ht hM (by omega) hp
  · exact deep_main w s hs' t ht hM (by omega) hp _ rfl
end Go.Proofs.YtfedkhicckgjaaaGreatDoor
