/- The law SlugsMany, walked. -/
import Derived.Test.YtofphojcfjkjhaaDoorAliveS
import Derived.OwnWalk
import Derived.Deep.QuietTactic
import Derived.BigQuiet
namespace Go.Proofs.YtofphojcfjkjhaaDoor
open Go.RowKit
set_option linter.unusedVariables false

theorem reach_le {n : Nat} (h : n ≤ reachBytes) : n ≤ 140737488351232 := h
theorem unlike_rep (s : Bytes) : ∀ k, unlike (List.replicate k s) = (List.range k).map (cand s)
  | 0 => rfl
  | k + 1 => by
    have ih := unlike_rep s k
    have e : List.replicate (k + 1) s = List.replicate k s ++ [s] := by rw [List.replicate_succ']
    rw [e]
    have : unlike (List.replicate k s ++ [s]) = stepU (unlike (List.replicate k s)) s := by unfold unlike; rw [List.foldl_append]; rfl
    rw [this, ih, stepU_of (j := k) ⟨?_, ?_⟩, List.range_succ, List.map_append]
    · rfl
    · intro h
      obtain ⟨i, hi, he⟩ := List.mem_map.1 h
      have := cand_inj he
      have := List.mem_range.1 hi
      omega
    · intro i hi
      exact List.mem_map.2 ⟨i, List.mem_range.2 hi, rfl⟩
theorem infoS : (Tryd.prog.info? 9).map (fun i => (i.zero, i.size, i.bytes)) = some (some (.string ⟨#[]⟩), 1, 16) := by kernel_rfl
theorem made_str (n : Nat) : (madeCells #[Value.string ⟨#[]⟩] (n * 1)).toList = (List.replicate n ([] : Bytes)).flatMap encS := by
  have h2 : (List.replicate n ([] : Bytes)).flatMap encS = List.replicate n (.string ⟨#[]⟩) := by
    induction n with
    | zero => rfl
    | succ n ih => rw [List.replicate_succ, List.flatMap_cons, ih]; rfl
  rw [h2, Nat.mul_one]
  apply List.ext_getElem?
  intro i
  unfold madeCells
  by_cases hi : i < n
  · simp [hi, Nat.mod_one]
  · rw [List.getElem?_eq_none (by simp; omega), List.getElem?_eq_none (by simp; omega)]
def repTo (s : Bytes) (n k : Nat) : List Bytes := List.replicate k s ++ List.replicate (n - k) []
theorem repTo_len (s : Bytes) {n k : Nat} (h : k ≤ n) : (repTo s n k).length = n := by unfold repTo; simp; omega
theorem repTo_set (s : Bytes) {n k : Nat} (h : k < n) : (repTo s n k).set k s = repTo s n (k + 1) := by
  unfold repTo
  rw [List.set_append_right _ _ (by simp)]
  simp only [List.length_replicate, Nat.sub_self]
  obtain ⟨d, hd⟩ : ∃ d, n - k = d + 1 := ⟨n - k - 1, by omega⟩
  rw [hd, List.replicate_succ, List.set_cons_zero, show n - (k + 1) = d by omega, List.replicate_succ', List.append_assoc]; rfl
theorem repTo_at (s : Bytes) {n k : Nat} (h : k < n) : (repTo s n k)[k]? = some [] := by
  unfold repTo
  rw [List.getElem?_append_right (by simp)]
  simp only [List.length_replicate, Nat.sub_self]
  obtain ⟨d, hd⟩ : ∃ d, n - k = d + 1 := ⟨n - k - 1, by omega⟩
  rw [hd, List.replicate_succ]; rfl
theorem repTo_all (s : Bytes) (n : Nat) : repTo s n n = List.replicate n s := by unfold repTo; simp
theorem dig_str (n : Nat) (h : n < 10) : List.drop n (48 :: List.take n ([49, 50, 51, 52, 53, 54, 55, 56, 57] : Bytes)) = [UInt8.ofNat (48 + n)] := by
  have h10 : n = 0 ∨ n = 1 ∨ n = 2 ∨ n = 3 ∨ n = 4 ∨ n = 5 ∨ n = 6 ∨ n = 7 ∨ n = 8 ∨ n = 9 := by omega
  rcases h10 with rfl | rfl | rfl | rfl | rfl | rfl | rfl | rfl | rfl | rfl <;> rfl

set_option maxHeartbeats 8000000 in
set_option maxRecDepth 100000 in
theorem walk_SlugsMany (w : World) (s : Bytes) (hs : s.length ≤ reachBytes) (n : Nat) (hn : n < 256) (htab : HasTab w) :
    Calls Tryd.prog 8 #[.string ⟨s.toArray⟩, .int .u8 n] w fun e w' => e = .returned (.bool true) ∧ Below w.heap.size w w' := by
  have hs' := reach_le hs
  have HTB := Lib.hid htab
  clear htab
  obtain ⟨i0, hi1, hi2, hi3, hi4⟩ := info_parts infoS
  have hby : i0.bytes * (n % 100) ≤ 281474976710656 := by rw [hi4]; omega
  have HI2 := Lib.hid hi2
  have HI3 := Lib.hid hi3
  have HI1 := Lib.hid hi1
  clear hi1 hi2 hi3 hi4
  have hk99 : n % 100 < 100 := Nat.mod_lt _ (by decide)
  have hk0 : (0 : Int) ≤ (n : Int) % 100 := by omega
  have hk1 : (n : Int) % 100 < 100 := by omega
  go_enter Tryd.func8, Tryd.ntmps8
  go_wp2_with fail
  refine (alive_any _ HTB.out).mono ?_
  rintro e w1 ⟨rfl, hb1⟩
  by_cases h1k : s.length ≤ 1000
  rotate_left
  · go_wp2_with fail
    refine (alive_any _ (HTB.out.below hb1)).mono ?_
    rintro e w3 ⟨rfl, hb3⟩
    go_wp2_with fail
    go_ret
    exact ⟨rfl, hb1.trans (hb3.mono hb1.size)⟩
  go_wp2_with (at_make; refine wpList_make_full _ rfl _ _ 30 rfl w.heap.size 9 i0 (.string ⟨#[]⟩) 1 Tryd.underlying30 HI1.out HI2.out HI3.out .i64 .i64 _ _ (n % 100) rfl rfl (by simp) (by simp) hby (by unfold maxLen; omega) hb1.size ?_; intro w2 hown hg1)
  have hb2 : Below w.heap.size w w2 := hb1.grown hg1 hb1.size (fun k hk => by cases hk)
  have hOw : Own w2 w.heap.size 9 1 encS (.slice (some ⟨w1.heap.size, 0, none⟩) (n % 100) (n % 100)) (repTo s (n % 100) 0) := by
    unfold Own
    rw [repTo_len s (Nat.zero_le _)]
    have e : repTo s (n % 100) 0 = List.replicate (n % 100) [] := by unfold repTo; simp
    rw [e, ← made_str]
    exact hown
  have HO0 := Lib.hid hOw
  have hzw := hb1.size
  clear hown hg1 hOw hk0 hk1 hb1 hby HI1 HI2 HI3
  rw [show ((n : Int) % 100) = ((n % 100 : Nat) : Int) from by omega]
  generalize n % 100 = m at *
  go_loopw [7] (fun v7 wr => ∃ k : Nat, k ≤ m ∧ v7 = .int .i64 k ∧ Hid (Own wr w.heap.size 9 1 encS (.slice (some ⟨w1.heap.size, 0, none⟩) m m) (repTo s m k)) ∧ Below w.heap.size w wr) (fun v7 _ => m - (intOf v7).toNat)
  case atStart => exact ⟨0, by omega, rfl, HO0, hb2⟩
  case round =>
    obtain ⟨k, hk, rfl, HO, hb⟩ := hrel
    by_cases hlt : k < m
    · have z0 := HO.out.cellAt encS_ok (k := k) (x := ([] : Bytes)) (repTo_at s hlt) (j := 0) rfl
      rw [Nat.mul_one, Nat.add_zero] at z0
      have f0 := HO.out.freeAt k
      have hset := HO.out.setAt encS_ok (k := k) (by rw [repTo_len s hk]; exact hlt) (p := 0) (by decide) (.string ⟨s.toArray⟩) s rfl
      rw [repTo_set s hlt, Nat.mul_one, Nat.add_zero] at hset
      have HSET := Lib.hid hset
      have hbz := hb.setCell (p := ⟨w1.heap.size, k, none⟩) hzw (.string ⟨s.toArray⟩)
      clear hset
      go_wp2_with fail
      go_roundw
      case rel => exact ⟨k + 1, by omega, by go_num, HSET, hbz⟩
      case measure => simp [intOf]; omega
    · obtain rfl : k = m := by omega
      have hO2 := HO.out
      rw [repTo_all] at hO2
      have HUN : Hid (Calls Tryd.prog 16 #[.slice (some ⟨w1.heap.size, 0, none⟩) k k] wr (GivesTexts wr ((List.range k).map (cand s)))) := by
        have h := unlike_any (some ⟨w1.heap.size, 0, none⟩) k (List.replicate k s) wr (by simp; omega) (by intro x hx; have := List.eq_of_mem_replicate hx; subst this; omega) (hO2.addr encS_ok) (HTB.out.below hb)
        rw [unlike_rep, List.length_replicate] at h
        exact h
      clear hO2 HO HO0
      go_wp2_with fail
      refine HUN.out.mono ?_
      rintro e w3 ⟨⟨rx, rfl, hO⟩, hb3⟩
      obtain ⟨xa, xc, hrx⟩ := hO.shape
      rw [hrx] at hO
      rw [List.length_map, List.length_range] at hrx hO
      subst hrx
      have HX := Lib.hid (hO.addr encS_ok)
      have hb3' := hb.trans (hb3.mono hb.size)
      clear hO hb3 HUN
      go_wp2_with fail
      go_loopw [9] (fun v9 wr => ∃ i : Nat, i ≤ k ∧ v9 = .int .i64 i ∧ Hid (At wr 1 encS xa ((List.range k).map (cand s))) ∧ Below w.heap.size w wr) (fun v9 _ => k - (intOf v9).toNat)
      case atStart => exact ⟨0, by omega, rfl, HX, hb3'⟩
      case round =>
        obtain ⟨i, hi, rfl, HX1, hbi⟩ := hrel
        by_cases hlti : i < k
        · obtain ⟨b, off, ha, hbl, hc0⟩ := HX1.out.str (i := i) (by simp; exact hlti)
          subst ha
          rw [List.getElem_map, List.getElem_range] at hc0
          have hi99 : i < 99 := by omega
          by_cases hi0 : i = 0
          · rw [hi0, cand_zero] at hc0
            have hc1 : wr.cell? ⟨b, off + i, none⟩ = some (.string ⟨s.toArray⟩) := by rw [hi0]; exact hc0
            have hi1 : (i : Int) ≤ 0 := by omega
            clear hi0 hc0
            go_wp2_with fail
            go_roundw
            case rel => exact ⟨i + 1, by omega, by go_num, HX1, hbi⟩
            case measure => simp [intOf]; omega
          · rw [cand_succ s hi0] at hc0
            by_cases hi8 : i ≤ 8
            · rw [Lib.decDigits_one (by omega)] at hc0
              have hds := dig_str (i + 1) (by omega)
              rw [← hds] at hc0
              have hi1 : (0 : Int) < (i : Int) := by omega
              clear hds
              go_wp2_with fail
              go_roundw
              case rel => exact ⟨i + 1, by omega, by go_num, HX1, hbi⟩
              case measure => simp [intOf]; omega
            · have hd2 := Lib.decDigits_two (i := i + 1) (by omega) (by omega)
              have hds := dig_str ((i + 1) / 10) (by omega)
              have hdt := dig_str ((i + 1) % 10) (by omega)
              have hi1 : (8 : Int) < (i : Int) := by omega
              have hdd : Lib.decDigits (i + 1) = List.drop ((i + 1) / 10) (48 :: List.take ((i + 1) / 10) ([49, 50, 51, 52, 53, 54, 55, 56, 57] : Bytes)) ++ List.drop ((i + 1) % 10) (48 :: List.take ((i + 1) % 10) ([49, 50, 51, 52, 53, 54, 55, 56, 57] : Bytes)) := by rw [hds, hdt, hd2]; rfl
              rw [hdd] at hc0
              clear hd2 hds hdt hdd
              have a1 : IntKind.i64.wrap ((i : Int) + 1) = (i : Int) + 1 := IntWalk.i64_in _ (by omega)
              have b0 : (0 : Int) ≤ (i : Int) + 1 := by omega
              have q0 : (0 : Int) ≤ ((i : Int) + 1) / 10 := by omega
              have q1 : ((i : Int) + 1) / 10 < 10 := by omega
              have q2 : (((i : Int) + 1) / 10).toNat = (i + 1) / 10 := by omega
              have q3 : (((i : Int) + 1) / 10 + 1).toNat = (i + 1) / 10 + 1 := by omega
              have q4 : IntKind.i64.wrap (((i : Int) + 1) / 10 + 1) = ((i : Int) + 1) / 10 + 1 := IntWalk.i64_in _ (by omega)
              have r0 : (0 : Int) ≤ ((i : Int) + 1) % 10 := by omega
              have r1 : ((i : Int) + 1) % 10 < 10 := by omega
              have r2 : (((i : Int) + 1) % 10).toNat = (i + 1) % 10 := by omega
              have r3 : (((i : Int) + 1) % 10 + 1).toNat = (i + 1) % 10 + 1 := by omega
              have r4 : IntKind.i64.wrap (((i : Int) + 1) % 10 + 1) = ((i : Int) + 1) % 10 + 1 := IntWalk.i64_in _ (by omega)
              go_wp2_with fail
              go_quiet (fail)
              clear a1 q2 q3 q4 r2 r3 r4
              go_wp2_with fail
              go_roundw
              case rel => exact ⟨i + 1, by omega, by go_num, HX1.out.below (below_drewN (Below.refl _ _) _), below_drewN hbi _⟩
              case measure => simp [intOf]; omega
        · go_wp2_with fail
          go_ret
          exact ⟨rfl, hbi⟩
end Go.Proofs.YtofphojcfjkjhaaDoor
