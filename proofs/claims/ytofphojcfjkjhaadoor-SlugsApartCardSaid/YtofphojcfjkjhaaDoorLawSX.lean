/- The law SlugsApart, walked. -/
import Derived.Test.YtofphojcfjkjhaaDoorAliveS
import Derived.Test.YtofphojcfjkjhaaDoorTSize
import Derived.Deep.QuietTactic
import Derived.BigQuiet
namespace Go.Proofs.YtofphojcfjkjhaaDoor
open Go.RowKit
set_option linter.unusedVariables false

theorem reach_le {n : Nat} (h : n ≤ reachBytes) : n ≤ 140737488351232 := h
/-! ### the plain laws -/
theorem fold_pre : ∀ (l acc : List Bytes), ∃ more, l.foldl stepU acc = acc ++ more
  | [], acc => ⟨[], by simp⟩
  | s :: l, acc => by
    obtain ⟨m, hm⟩ := fold_pre l (stepU acc s)
    exact ⟨[nameJ acc s] ++ m, by rw [List.foldl_cons, hm]; unfold stepU; rw [List.append_assoc]⟩
theorem unlike_of_take (l : List Bytes) {k : Nat} (h : k ≤ l.length) : (unlike l).take k = unlike (l.take k) := by
  obtain ⟨m, hm⟩ := fold_pre (l.drop k) (unlike (l.take k))
  have : unlike l = unlike (l.take k) ++ m := by
    rw [← hm]; unfold unlike; rw [← List.foldl_append, List.take_append_drop]
  rw [this, List.take_left' (unlike_len_take l k h)]
theorem unlike_at (l : List Bytes) {k : Nat} (h : k < l.length) : (unlike l)[k]'(by rw [unlike_len]; exact h) = nameJ (unlike (l.take k)) l[k] := by
  have h1 := unlike_of_take l (k := k + 1) (by omega)
  rw [unlike_take h] at h1
  have h2 : ((unlike l).take (k + 1))[k]? = some (nameJ (unlike (l.take k)) l[k]) := by
    rw [h1, List.getElem?_append_right (by rw [unlike_len_take l k (by omega)]; exact Nat.le_refl _), unlike_len_take l k (by omega)]; simp
  rw [List.getElem?_take, if_pos (by omega)] at h2
  exact (List.getElem?_eq_some_iff.1 h2).2
/-- each one is unlike those ahead -/
def Dis (l : List Bytes) : Prop := ∀ k (h : k < l.length), l[k] ∉ l.take k
theorem unlike_dis (l : List Bytes) : Dis (unlike l) := by
  intro k h
  rw [unlike_len] at h
  rw [unlike_at l h, unlike_of_take l (by omega)]
  exact (firstJ_free _ _).1
theorem dis_same {l : List Bytes} (h : Dis l) : unlike l = l := by
  have key : ∀ k, k ≤ l.length → unlike (l.take k) = l.take k := by
    intro k
    induction k with
    | zero => intro _; simp [unlike]
    | succ k ih =>
      intro hk
      rw [unlike_take (by omega), ih (by omega), List.take_succ_eq_append_getElem (by omega)]
      congr 2
      rw [nameJ_of (j := 0) ⟨by rw [cand_zero]; exact h k (by omega), fun i hi => absurd hi (by omega)⟩, cand_zero]
  have := key l.length (Nat.le_refl _)
  rwa [List.take_length] at this
theorem Dis.ne {l : List Bytes} (h : Dis l) {i k : Nat} (hi : i < l.length) (hk : k < i) : (l[k] == l[i]) = false := by
  rw [beq_eq_false_iff_ne]
  intro e
  refine h i hi ?_
  rw [← e]
  exact List.mem_take_iff_getElem.2 ⟨k, by omega, rfl⟩
def inB (l : List Bytes) (s : Bytes) : Bool := l.contains s
theorem inB_succ {l : List Bytes} {k : Nat} (h : k < l.length) (s : Bytes) : inB (l.take (k + 1)) s = (inB (l.take k) s || (l[k] == s)) := by
  unfold inB
  rw [List.take_succ_eq_append_getElem h]
  simp only [List.contains_eq_mem, List.mem_append, List.mem_singleton]
  rw [Bool.eq_iff_iff]
  simp only [decide_eq_true_eq, Bool.or_eq_true, beq_iff_eq]
  constructor <;> rintro (h | h)
  · exact .inl h
  · exact .inr h.symm
  · exact .inl h
  · exact .inr h.symm
def uB (l : List Bytes) : Nat → Bool
  | 0 => true
  | k + 1 => uB l k && !inB (l.take k) (l[k]?.getD [])
theorem uB_succ {l : List Bytes} {k : Nat} (h : k < l.length) : uB l (k + 1) = (uB l k && !inB (l.take k) l[k]) := by
  show (uB l k && !inB (l.take k) (l[k]?.getD [])) = _
  rw [List.getElem?_eq_getElem h]; rfl
theorem uB_dis {l : List Bytes} : ∀ n (hn : n ≤ l.length), uB l n = true → ∀ k (h : k < n), l[k]'(by omega) ∉ l.take k
  | 0, _, _, k, h => absurd h (by omega)
  | n + 1, hn, hu, k, h => by
    rw [uB_succ (by omega)] at hu
    simp only [Bool.and_eq_true, Bool.not_eq_true'] at hu
    rcases Nat.lt_succ_iff_lt_or_eq.1 h with h | rfl
    · exact uB_dis n (by omega) hu.1 k h
    · unfold inB at hu; simpa using hu.2
theorem dec_cons (n : Nat) : ∃ c d, Lib.decDigits n = c :: d := by
  cases h : Lib.decDigits n with
  | nil => exact absurd h (dec_ne_nil n)
  | cons c d => exact ⟨c, d, rfl⟩

set_option maxHeartbeats 8000000 in
set_option maxRecDepth 100000 in
theorem walk_SlugsApart (w : World) (a : Option Addr) (c : Nat) (l : List Bytes) (hA : At w 1 encS a l) (hn : l.length ≤ 140737488351232) (hG : ∀ x ∈ l, x.length ≤ reachBytes) (htab : HasTab w) :
    Calls Tryd.prog 7 #[.slice a l.length c] w fun e w' => e = .returned (.bool true) ∧ Below w.heap.size w w' := by
  have hG' : ∀ x ∈ l, x.length ≤ 140737488351232 := hG
  have HTS := Lib.hid (fun w' (hA : At w' 1 encS a l) => textsSize_any a c l w' hn hA hG')
  have HA := Lib.hid hA
  have HTB := Lib.hid htab
  clear hA hG hG' htab
  go_enter Tryd.func7, Tryd.ntmps7
  go_wp2_with fail
  refine (alive_any _ HTB.out).mono ?_
  rintro e w1 ⟨rfl, hb1⟩
  have HA1 := Lib.hid (HA.out.below hb1)
  by_cases h200 : l.length ≤ 200
  rotate_left
  · go_wp2_with fail
    refine (alive_any _ (HTB.out.below hb1)).mono ?_
    rintro e w3 ⟨rfl, hb3⟩
    go_wp2_with fail
    go_ret
    exact ⟨rfl, hb1.trans (hb3.mono hb1.size)⟩
  go_wp2_with fail
  refine (HTS.out _ HA1.out).mono ?_
  rintro e w2 ⟨⟨r, rfl, hr⟩, hb2⟩
  have hb2' := hb1.trans (hb2.mono hb1.size)
  by_cases hbig : 20000 < r
  · go_wp2_with fail
    refine (alive_any _ (HTB.out.below hb2')).mono ?_
    rintro e w3 ⟨rfl, hb3⟩
    go_wp2_with fail
    go_ret
    exact ⟨rfl, hb2'.trans (hb3.mono hb2'.size)⟩
  have hsz : ∀ x ∈ l, x.length ≤ 20000 := by
    intro x hx
    have := sizeT_mem hx
    rcases hr with hr | ⟨hr, _⟩ <;> omega
  have hX : ∀ x ∈ unlike l, x.length ≤ 1000000 := by
    intro x hx
    have hx' : x ∈ unlike (l.take l.length) := by rw [List.take_length]; exact hx
    obtain ⟨s, hs, j, hj, rfl⟩ := unlike_mem l.length (Nat.le_refl _) hx'
    have := cand_len s (j := j) (by omega)
    have := hsz s hs
    omega
  have HX := Lib.hid hX
  have HSZ := Lib.hid hsz
  have HSZ1 := Lib.hid (fun x hx => Nat.le_trans (hsz x hx) (by omega : 20000 ≤ 1000000))
  have hXl := unlike_len l
  have HDX := Lib.hid (unlike_dis l)
  have HUX := Lib.hid (dis_same (unlike_dis l))
  have HAT : Hid (∀ k (h : k < l.length), ∃ j, (unlike l)[k]? = some (cand l[k] j) ∧ j ≤ 200) := fun k h => by
    have hj := (firstJ_free (unlike (l.take k)) l[k]).le
    rw [unlike_len_take l k (by omega)] at hj
    exact ⟨_, by rw [List.getElem?_eq_getElem (by rw [unlike_len]; exact h), unlike_at l h]; rfl, by omega⟩
  have HSAME : Hid (uB l l.length = true → unlike l = l) := fun h => dis_same fun k hk => uB_dis l.length (Nat.le_refl _) h k hk
  have HA2 := Lib.hid (HA1.out.below hb2)
  clear hsz hX hr HTS HA HA1 hb1 hb2
  go_wp2_with fail
  refine (unlike_any a c l _ (by omega) HSZ1.out HA2.out (HTB.out.below hb2')).mono ?_
  rintro e w3 ⟨⟨rx, rfl, hO⟩, hb3⟩
  obtain ⟨xa, xc, hrx⟩ := hO.shape
  have hAx := hO
  rw [hrx] at hAx
  rw [unlike_len] at hrx hAx
  subst hrx
  have hb3' := hb2'.trans (hb3.mono hb2'.size)
  have HAx := Lib.hid (hAx.addr encS_ok)
  have HA3 := Lib.hid (HA2.out.below hb3)
  clear hO hAx hb3 HA2 HSZ1
  generalize hXX : unlike l = X at *
  have HXL := Lib.hid hXl
  have HXX := Lib.hid hXX
  have HU2 : Hid (∀ w', At w' 1 encS xa X → HasTab w' → Calls Tryd.prog 16 #[.slice xa l.length xc] w' (GivesTexts w' X)) := fun w' h1 h2 => by
    have h := unlike_any xa xc X w' (by omega) HX.out h1 h2
    rwa [HUX.out, hXl] at h
  have HS2 : Hid (∀ w' ya yc, At w' 1 encS ya X → At w' 1 encS xa X → Calls Tryd.prog 17 #[.slice ya l.length yc, .slice xa l.length xc] w' fun e w'' => e = .returned (.bool true) ∧ Below w'.heap.size w' w'') := fun w' ya yc h1 h2 => by
    have h := sameTexts_any ya yc xa xc X w' (by omega) h1 h2
    rwa [hXl] at h
  clear hXX hXl HX HUX
  go_wp2_with fail
  refine (HU2.out _ HAx.out (HTB.out.below hb3')).mono ?_
  rintro e w4 ⟨⟨ry, rfl, hO⟩, hb4⟩
  obtain ⟨ya, yc, hry⟩ := hO.shape
  have hAy := hO
  rw [hry] at hAy
  rw [HXL.out] at hry hAy
  subst hry
  have hb4' := hb3'.trans (hb4.mono hb3'.size)
  have HAy := Lib.hid (hAy.addr encS_ok)
  have HAx := Lib.hid (HAx.out.below hb4)
  have HA4 := Lib.hid (HA3.out.below hb4)
  clear hO hAy hb4 HA3 HU2
  go_wp2_with fail
  refine (HS2.out _ ya yc HAy.out HAx.out).mono ?_
  rintro e w5 ⟨rfl, hb5⟩
  have hb5' := hb4'.trans (hb5.mono hb4'.size)
  have HAx := Lib.hid (HAx.out.below hb5)
  have HA5 := Lib.hid (HA4.out.below hb5)
  clear hb5 HA4 HAy HS2
  go_wp2_with fail
  go_loopw [4, 5] (fun v4 v5 wr => ∃ i : Nat, i ≤ l.length ∧ v5 = .int .i64 i ∧ v4 = .bool (uB l i) ∧ Hid (At wr 1 encS xa X) ∧ Hid (At wr 1 encS a l) ∧ Below w.heap.size w wr) (fun _ v5 _ => l.length - (intOf v5).toNat)
  case atStart => exact ⟨0, by omega, rfl, rfl, HAx, HA5, hb5'⟩
  case round =>
    obtain ⟨i, hi, rfl, rfl, HX1, HL1, hb⟩ := hrel
    by_cases hlt : i < l.length
    · have hltx : i < X.length := by rw [HXL.out]; exact hlt
      obtain ⟨b, off, ha, hbl, hc0⟩ := HL1.out.str hlt
      obtain ⟨b', off', ha', hbl', hd0⟩ := HX1.out.str hltx
      subst ha
      subst ha'
      have hsl := HSZ.out l[i] (List.getElem_mem hlt)
      obtain ⟨j, hj, hj2⟩ := HAT.out i hlt
      rw [List.getElem?_eq_getElem hltx] at hj
      injection hj with hj
      have HXi := Lib.hid hj
      rw [hj] at hd0
      have hcl := cand_len l[i] (j := j) (by omega)
      have hi0 : (0 : Int) ≤ (i : Int) := by omega
      have hi1 : (i : Int) < (l.length : Int) := by omega
      by_cases hj0 : j = 0
      · subst hj0
        rw [cand_zero] at hd0 hcl
        generalize hse : l[i] = s at hc0 hd0 hsl hcl
        clear hj hse
        go_wp2_with fail
        go_quiet (fail)
        go_wp2
        obtain ⟨wo, hwo⟩ : ∃ wo : World, wo = wr.drewN nq := ⟨_, rfl⟩
        have HXo : Hid (At wo 1 encS (some ⟨b', off', none⟩) X) := by rw [hwo]; exact HX1.out.below (below_drewN (Below.refl _ _) _)
        have HLo : Hid (At wo 1 encS (some ⟨b, off, none⟩) l) := by rw [hwo]; exact HL1.out.below (below_drewN (Below.refl _ _) _)
        have hbo : Below w.heap.size w wo := by rw [hwo]; exact below_drewN hb _
        rw [← hwo]
        clear hwo hc0 hd0
        go_loopw [4, 7] (fun v4 v7 wi => ∃ k : Nat, k ≤ i ∧ v7 = .int .i64 k ∧ v4 = .bool (uB l i && !inB (l.take k) l[i]) ∧ Hid (At wi 1 encS (some ⟨b', off', none⟩) X) ∧ Hid (At wi 1 encS (some ⟨b, off, none⟩) l) ∧ Below w.heap.size w wi) (fun _ v7 _ => i - (intOf v7).toNat)
        case atStart => exact ⟨0, by omega, rfl, by simp [inB], HXo, HLo, hbo⟩
        case round =>
          obtain ⟨k, hk, rfl, rfl, HX2, HL2, hb2⟩ := hrel
          by_cases hki : k < i
          · have hkx : k < X.length := by omega
            have hkl : k < l.length := by omega
            obtain ⟨b1, o1, h1, _, hck⟩ := HL2.out.str hkl
            injection h1 with h1; injection h1 with e1 e2; subst e1 e2
            obtain ⟨b1, o1, h1, _, hci⟩ := HL2.out.str hlt
            injection h1 with h1; injection h1 with e1 e2; subst e1 e2
            obtain ⟨b1, o1, h1, _, hdk⟩ := HX2.out.str hkx
            injection h1 with h1; injection h1 with e1 e2; subst e1 e2
            obtain ⟨b1, o1, h1, _, hdi⟩ := HX2.out.str hltx
            injection h1 with h1; injection h1 with e1 e2; subst e1 e2
            have hne := HDX.out.ne hltx hki
            have hS := inB_succ hkl l[i]
            have hk0 : (0 : Int) ≤ (k : Int) := by omega
            have hk1 : (k : Int) < (l.length : Int) := by omega
            have hi0 : (0 : Int) ≤ (i : Int) := by omega
            have hi1 : (i : Int) < (l.length : Int) := by omega
            cases he : (l[k] == l[i]) <;> cases hu : (uB l i && !inB (l.take k) l[i])
            all_goals
              have hS2 : (uB l i && !inB (l.take (k + 1)) l[i]) = ((uB l i && !inB (l.take k) l[i]) && !(l[k] == l[i])) := by rw [hS, Bool.not_or, Bool.and_assoc]
              rw [he, hu] at hS2
              have HS2 := Lib.hid hS2
              clear hS2 hS
              go_wp2_with fail
              go_quiet (fail)
              go_wp2
              go_quiet (fail)
              go_wp2
              go_roundw
              case rel => exact ⟨k + 1, by omega, by go_num, by rw [HS2.out]; rfl, HX2.out.below (below_drewN (Below.refl _ _) _), HL2.out.below (below_drewN (Below.refl _ _) _), below_drewN hb2 _⟩
              case measure => simp [intOf]; omega
          · obtain rfl : k = i := by omega
            have HU := Lib.hid (uB_succ hlt)
            go_wp2_with fail
            go_roundw
            case rel => exact ⟨k + 1, by omega, by go_num, by rw [HU.out], HX2, HL2, hb2⟩
            case measure => simp [intOf]; omega
      · rw [cand_succ _ hj0] at hd0 hcl
        obtain ⟨cc, d, hdd⟩ := dec_cons (j + 1)
        rw [hdd] at hd0 hcl
        generalize hse : l[i] = s at hc0 hd0 hsl hcl
        have hxl : (s ++ 45 :: cc :: d).length = s.length + 2 + d.length := by simp; omega
        have hx1 : decide ((s ++ 45 :: cc :: d).length < s.length) = false := by rw [decide_eq_false_iff_not]; omega
        have hx2 : decide (s.length < (s ++ 45 :: cc :: d).length) = true := by rw [decide_eq_true_iff]; omega
        have hx3 : decide (((s ++ 45 :: cc :: d).length : Int) < (s.length : Int) + 2) = false := by rw [decide_eq_false_iff_not]; omega
        have hx4 : (List.take s.length (s ++ 45 :: cc :: d) != s) = false := by simp
        have hx5 : (s ++ 45 :: cc :: d)[s.length]? = some 45 := by simp
        have hx6 : s.length < (s ++ 45 :: cc :: d).length := by omega
        have hx7 : s.length ≤ (s ++ 45 :: cc :: d).length := by omega
        have hxe : (List.take s.length (s ++ 45 :: cc :: d) == s) = true := by simp
        clear hj hdd hxl hse
        generalize s ++ 45 :: cc :: d = x at *
        have hx8 : x[s.length] = 45 := by rw [List.getElem?_eq_getElem hx6] at hx5; injection hx5
        have hx9 : ((x[s.length].toNat : Int) != 45) = false := by rw [hx8]; rfl
        have hxa : IntKind.i64.wrap ((s.length : Int) + 2) = (s.length : Int) + 2 := IntWalk.i64_in _ (by omega)
        have hxb : (0 : Int) ≤ (s.length : Int) := by omega
        have hxc : (s.length : Int) ≤ (x.length : Int) := by omega
        have hxd : (s.length : Int) < (x.length : Int) := by omega
        clear hx5 hx8
        go_wp2_with fail
        go_quiet (fail)
        go_wp2
        obtain ⟨wo, hwo⟩ : ∃ wo : World, wo = wr.drewN nq := ⟨_, rfl⟩
        have HXo : Hid (At wo 1 encS (some ⟨b', off', none⟩) X) := by rw [hwo]; exact HX1.out.below (below_drewN (Below.refl _ _) _)
        have HLo : Hid (At wo 1 encS (some ⟨b, off, none⟩) l) := by rw [hwo]; exact HL1.out.below (below_drewN (Below.refl _ _) _)
        have hbo : Below w.heap.size w wo := by rw [hwo]; exact below_drewN hb _
        rw [← hwo]
        clear hwo hc0 hd0
        go_loopw [4, 7] (fun v4 v7 wi => ∃ k : Nat, k ≤ i ∧ v7 = .int .i64 k ∧ v4 = .bool (uB l i && !inB (l.take k) l[i]) ∧ Hid (At wi 1 encS (some ⟨b', off', none⟩) X) ∧ Hid (At wi 1 encS (some ⟨b, off, none⟩) l) ∧ Below w.heap.size w wi) (fun _ v7 _ => i - (intOf v7).toNat)
        case atStart => exact ⟨0, by omega, rfl, by simp [inB], HXo, HLo, hbo⟩
        case round =>
          obtain ⟨k, hk, rfl, rfl, HX2, HL2, hb2⟩ := hrel
          by_cases hki : k < i
          · have hkx : k < X.length := by omega
            have hkl : k < l.length := by omega
            obtain ⟨b1, o1, h1, _, hck⟩ := HL2.out.str hkl
            injection h1 with h1; injection h1 with e1 e2; subst e1 e2
            obtain ⟨b1, o1, h1, _, hci⟩ := HL2.out.str hlt
            injection h1 with h1; injection h1 with e1 e2; subst e1 e2
            obtain ⟨b1, o1, h1, _, hdk⟩ := HX2.out.str hkx
            injection h1 with h1; injection h1 with e1 e2; subst e1 e2
            obtain ⟨b1, o1, h1, _, hdi⟩ := HX2.out.str hltx
            injection h1 with h1; injection h1 with e1 e2; subst e1 e2
            have hne := HDX.out.ne hltx hki
            have hS := inB_succ hkl l[i]
            have hk0 : (0 : Int) ≤ (k : Int) := by omega
            have hk1 : (k : Int) < (l.length : Int) := by omega
            have hi0 : (0 : Int) ≤ (i : Int) := by omega
            have hi1 : (i : Int) < (l.length : Int) := by omega
            cases he : (l[k] == l[i]) <;> cases hu : (uB l i && !inB (l.take k) l[i])
            all_goals
              have hS2 : (uB l i && !inB (l.take (k + 1)) l[i]) = ((uB l i && !inB (l.take k) l[i]) && !(l[k] == l[i])) := by rw [hS, Bool.not_or, Bool.and_assoc]
              rw [he, hu] at hS2
              have HS2 := Lib.hid hS2
              clear hS2 hS
              go_wp2_with fail
              go_quiet (fail)
              go_wp2
              go_quiet (fail)
              go_wp2
              go_roundw
              case rel => exact ⟨k + 1, by omega, by go_num, by rw [HS2.out]; rfl, HX2.out.below (below_drewN (Below.refl _ _) _), HL2.out.below (below_drewN (Below.refl _ _) _), below_drewN hb2 _⟩
              case measure => simp [intOf]; omega
          · obtain rfl : k = i := by omega
            have HU := Lib.hid (uB_succ hlt)
            go_wp2_with fail
            go_roundw
            case rel => exact ⟨k + 1, by omega, by go_num, by rw [HU.out], HX2, HL2, hb2⟩
            case measure => simp [intOf]; omega
    · obtain rfl : i = l.length := by omega
      cases hu : uB l l.length
      · go_wp2_with fail
        go_ret
        exact ⟨rfl, hb⟩
      · have hxe := HSAME.out hu
        have HSL := Lib.hid (fun w' (h1 : At w' 1 encS xa l) (h2 : At w' 1 encS a l) => sameTexts_any xa xc a c l w' (by omega) h1 h2)
        have hX1 := HX1.out
        rw [hxe] at hX1
        have HX1' := Lib.hid hX1
        clear hX1 hxe HX1 HSAME
        go_wp2_with fail
        refine (HSL.out _ HX1'.out HL1.out).mono ?_
        rintro e w6 ⟨rfl, hb6⟩
        go_wp2_with fail
        go_ret
        exact ⟨rfl, hb.trans (hb6.mono hb.size)⟩
end Go.Proofs.YtofphojcfjkjhaaDoor
