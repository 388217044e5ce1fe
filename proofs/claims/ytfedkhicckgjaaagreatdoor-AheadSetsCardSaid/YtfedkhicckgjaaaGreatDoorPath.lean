/- Paths: paths.Check. -/
import Derived.Test.YtfedkhicckgjaaaGreatDoorRdOne
import Derived.Test.YtfedkhicckgjaaaGreatDoorLinesW
import Derived.Test.YtfedkhicckgjaaaGreatDoorBaseB
namespace Go.Proofs.YtfedkhicckgjaaaGreatDoor
open Go.RowKit
set_option linter.unusedVariables false

theorem splitDot_dot (r : Bytes) : splitDot (46 :: r) = [] :: splitDot r := by
  show (if (46 : UInt8) = 46 then _ else _) = _
  rw [if_pos rfl]
theorem splitDot_other {c : UInt8} {r p : Bytes} {ps : List Bytes} (h : c ≠ 46) (e : splitDot r = p :: ps) : splitDot (c :: r) = (c :: p) :: ps := by
  show (if c = 46 then _ else _) = _
  rw [if_neg h, e]
theorem splitKD_eq : ∀ s : Bytes, Lib.splitK [46] 0 (Lib.count s [46]) s = splitDot s
  | [] => by rw [Lib.count_miss (by simp [Lib.index])]; rfl
  | b :: l => by
    have ih := splitKD_eq l
    by_cases hb : b = 46
    · subst hb
      have hix : Lib.index (46 :: l) [46] = ((0 : Nat) : Int) := by rw [Lib.index]; simp [List.isPrefixOf]
      rw [Lib.count_cons_eq, splitDot_dot, ← ih, Nat.add_comm]
      show (if (Lib.index (46 :: l) [46] == -1) = true then _ else _) = _
      rw [hix, if_neg (by decide)]
      rfl
    · rw [Lib.count_cons_ne b 46 l hb]
      have hp : ([46] : Bytes).isPrefixOf (b :: l) = false := by simp [List.isPrefixOf, Ne.symm hb]
      have hix : Lib.index (b :: l) [46] = if Lib.index l [46] == -1 then -1 else Lib.index l [46] + 1 := by rw [Lib.index, hp]; simp
      by_cases hm : Lib.index l [46] = -1
      · rw [Lib.count_miss hm] at ih ⊢
        rw [splitDot_other hb (p := l) (ps := []) ih.symm]; rfl
      · have hge := Lib.index_ge l [46]
        obtain ⟨j, hj⟩ : ∃ j : Nat, Lib.index l [46] = j := ⟨(Lib.index l [46]).toNat, by omega⟩
        have hix' : Lib.index (b :: l) [46] = ((j + 1 : Nat) : Int) := by rw [hix, if_neg (fun e => hm (beq_iff_eq.1 e)), hj]; omega
        have hc := Lib.count_hit (s := l) (sub := [46]) (by simp) hj
        rw [Nat.add_comm] at hc
        rw [hc] at ih ⊢
        have e1 : ∀ n, Lib.splitK [46] 0 (n + 1) l = l.take j :: Lib.splitK [46] 0 n (l.drop (j + 1)) := fun n => by
          show (if (Lib.index l [46] == -1) = true then _ else _) = _
          rw [hj, if_neg (by intro e; have := beq_iff_eq.1 e; omega)]; rfl
        have e2 : ∀ n, Lib.splitK [46] 0 (n + 1) (b :: l) = (b :: l.take j) :: Lib.splitK [46] 0 n (l.drop (j + 1)) := fun n => by
          show (if (Lib.index (b :: l) [46] == -1) = true then _ else _) = _
          rw [hix', if_neg (by intro e; have := beq_iff_eq.1 e; omega)]; rfl
        rw [e1] at ih
        rw [e2, splitDot_other hb ih.symm]
theorem splitDot_ne : ∀ s : Bytes, splitDot s ≠ []
  | [] => by simp [splitDot]
  | c :: r => by
    by_cases h : c = 46
    · subst h; rw [splitDot_dot]; simp
    · obtain ⟨p, ps, e⟩ : ∃ p ps, splitDot r = p :: ps := by
        cases hq : splitDot r with
        | nil => exact absurd hq (splitDot_ne r)
        | cons p ps => exact ⟨p, ps, rfl⟩
      rw [splitDot_other h e]; simp
theorem splitDot_cons (r : Bytes) : ∃ p ps, splitDot r = p :: ps := by
  cases hq : splitDot r with
  | nil => exact absurd hq (splitDot_ne r)
  | cons p ps => exact ⟨p, ps, rfl⟩
/-- what strings.Split hands out is the call's own -/
theorem own_splitD (s : Bytes) (w : World) (hs : s.length ≤ 1048576) :
    Own (w.alloc (.cells ((Lib.splitB ⟨#[46]⟩ 0 (Lib.countB ⟨s.toArray⟩ ⟨#[46]⟩) ⟨s.toArray⟩).map Value.string).toArray 9)) w.heap.size 9 1 encS
      (.slice (some ⟨w.heap.size, 0, none⟩) (Lib.countB ⟨s.toArray⟩ ⟨#[46]⟩ + 1) (Lib.countB ⟨s.toArray⟩ ⟨#[46]⟩ + 1)) (splitDot s) := by
  have hd : (Lib.splitB ⟨#[46]⟩ 0 (Lib.countB ⟨s.toArray⟩ ⟨#[46]⟩) ⟨s.toArray⟩).map (·.data.toList) = splitDot s := by
    rw [Lib.splitB_data]
    exact splitKD_eq s
  have hm : (Lib.splitB ⟨#[46]⟩ 0 (Lib.countB ⟨s.toArray⟩ ⟨#[46]⟩) ⟨s.toArray⟩).map Value.string = (splitDot s).flatMap encS := by
    rw [← hd]; exact strings_enc _
  have hl : (splitDot s).length = Lib.countB ⟨s.toArray⟩ ⟨#[46]⟩ + 1 := by
    rw [← hd, List.length_map]
    exact Lib.splitB_all _ (by decide) 0 _ _ rfl
  have hlen : (splitDot s).length ≤ s.length + 1 := by
    have h : ∀ t : Bytes, (splitDot t).length ≤ t.length + 1 := by
      intro t
      induction t with
      | nil => simp [splitDot]
      | cons c r ih =>
        by_cases hc : c = 46
        · subst hc; rw [splitDot_dot]; simp; omega
        · obtain ⟨p, ps, e⟩ := splitDot_cons r
          rw [splitDot_other hc e]
          rw [e] at ih
          simp at ih ⊢; omega
    exact h s
  rw [hm, ← hl]
  have hfl : ((splitDot s).flatMap encS).length = (splitDot s).length * 1 := flat_len encS_len _
  exact ⟨hfl, .inr ⟨w.heap.size, (splitDot s).length, ((splitDot s).flatMap encS).toArray, rfl, Nat.le_refl _, heap_alloc_new w _, Nat.le_refl _, by unfold maxLen; omega, by simpa using hfl, by rw [← hfl]; exact List.take_length⟩⟩


set_option maxHeartbeats 1000000 in
theorem all_names (a : Option Addr) (c : Nat) (l : List Bytes) (w : World) (hA : At w 1 encS a l) (h0 : 0 < l.length) (hn : l.length ≤ 1000) (hs : ∀ x ∈ l, x.length ≤ 1048576) :
    Calls Tryz.prog 180 #[.func (.func 30) #[] #[], .slice a l.length c] w fun e w' => e = .returned (.bool (l.all nameB)) ∧ w = w' := by
  have HA := Lib.hid hA
  have HS := Lib.hid hs
  clear hA hs
  go_enter Tryz.func180, Tryz.ntmps180
  go_wp2
  go_loop [9] (fun v => ∃ k : Nat, k ≤ l.length ∧ v = .int .i64 k ∧ Hid ((l.take k).all nameB = true)) (fun v => l.length - (intOf v).toNat)
  case atStart => exact ⟨0, by omega, rfl, by simp [Hid]⟩
  case round =>
    obtain ⟨k, hk, rfl, HP⟩ := hrel
    by_cases hlt : k < l.length
    · obtain ⟨b, off, ha, hbl, hc0⟩ := HA.out.str hlt
      subst ha
      have HTK : Hid ((l.take (k + 1)).all nameB = nameB l[k]) := by
        show _ = _
        rw [List.take_succ_eq_append_getElem hlt, List.all_append, HP.out]; simp
      have HM := Lib.hid (List.getElem_mem hlt)
      have hl1 := HS.out l[k] (List.getElem_mem hlt)
      generalize hx : l[k] = nm at *
      have HX := Lib.hid hx
      clear hx
      cases hq : nameB nm
      · have HQ := Lib.hid hq
        clear hq
        have HR : Hid (l.all nameB = false) := by
          show _ = _
          rw [List.all_eq_false]
          exact ⟨nm, HM.out, by rw [HQ.out]; simp⟩
        go_wp2_with (go_at_call 30; refine (name_any nm _ (by omega)).mono ?_; rw [HQ.out]; rintro e w2 ⟨rfl, rfl⟩)
        go_ret
        exact ⟨by rw [HR.out]; rfl, rfl⟩
      · have HQ := Lib.hid hq
        clear hq
        go_wp2_with (go_at_call 30; refine (name_any nm _ (by omega)).mono ?_; rw [HQ.out]; rintro e w2 ⟨rfl, rfl⟩)
        go_round
        case rel => exact ⟨k + 1, by omega, by go_num, by show _ = _; rw [HTK.out, HQ.out]⟩
        case measure => simp [intOf]; omega
    · have HR : Hid (l.all nameB = true) := by
        have := HP.out; rwa [List.take_of_length_le (by omega)] at this
      go_wp2
      go_ret
      exact ⟨by rw [HR.out]; rfl, rfl⟩
theorem splitDot_len : ∀ t : Bytes, (splitDot t).length ≤ t.length + 1 := by
  intro t
  induction t with
  | nil => simp [splitDot]
  | cons c r ih =>
    by_cases hc : c = 46
    · subst hc; rw [splitDot_dot]; simp; omega
    · obtain ⟨p, ps, e⟩ := splitDot_cons r
      rw [splitDot_other hc e]
      rw [e] at ih
      simp at ih ⊢; omega
theorem splitDot_mem : ∀ (t : Bytes) (x : Bytes), x ∈ splitDot t → x.length ≤ t.length
  | [], x, h => by simp [splitDot] at h; subst h; simp
  | c :: r, x, h => by
    by_cases hc : c = 46
    · subst hc
      rw [splitDot_dot] at h
      rcases List.mem_cons.1 h with rfl | h
      · simp
      · have := splitDot_mem r x h; simp; omega
    · obtain ⟨p, ps, e⟩ := splitDot_cons r
      rw [splitDot_other hc e] at h
      rcases List.mem_cons.1 h with rfl | h
      · have := splitDot_mem r p (by rw [e]; simp); simp; omega
      · have := splitDot_mem r x (by rw [e]; exact List.mem_cons_of_mem _ h); simp; omega

set_option maxHeartbeats 1000000 in
theorem pathCheck_any (s : Bytes) (w : World) (hs : s.length ≤ 1048576) (hM : MaxOk w) :
    Calls Tryz.prog 153 #[.string ⟨s.toArray⟩] w fun e w' => e = .returned (.bool (pathB s)) ∧ Below w.heap.size w w' := by
  by_cases h60 : s.length ≤ 60
  · have HR : Hid (pathB s = (splitDot s).all nameB) := by show _ = _; unfold pathB; rw [decide_eq_true h60]; rfl
    have HO := Lib.hid (own_splitD s w hs)
    have hl : (splitDot s).length = Lib.countB ⟨s.toArray⟩ ⟨#[46]⟩ + 1 := by
      obtain ⟨a, c, e⟩ := HO.out.shape
      injection e with _ e _
      exact e.symm
    obtain ⟨m, hm⟩ := hM
    have HS := Lib.hid (Tryz.strings_Split ⟨s.toArray⟩ ⟨#[46]⟩ m w (by rw [size_mk]; omega) hm (by decide))
    rw [← hl] at HO HS
    have HLN := Lib.hid (splitDot_len s)
    have HMM := Lib.hid (splitDot_mem s)
    have hpos : 0 < (splitDot s).length := by omega
    clear hl hm
    go_enter Tryz.func153, Tryz.ntmps153
    go_wp2_with (first
      | (go_at_call 31; refine HS.out.mono ?_; rintro e w2 ⟨rfl, rfl⟩)
      | (go_at_call 180; refine (all_names _ _ (splitDot s) _ (HO.out.addr encS_ok) hpos (by have := HLN.out; omega) (fun x hx => by have := HMM.out x hx; omega)).mono ?_; rintro e w3 ⟨rfl, rfl⟩))
    go_ret
    exact ⟨by rw [HR.out]; rfl, (Below.refl _ _).alloc (Nat.le_refl _) _⟩
  · have HR : Hid (pathB s = false) := by show _ = _; unfold pathB; rw [decide_eq_false h60]; rfl
    go_enter Tryz.func153, Tryz.ntmps153
    go_wp2
    go_ret
    exact ⟨by rw [HR.out]; rfl, Below.refl _ _⟩
end Go.Proofs.YtfedkhicckgjaaaGreatDoor
