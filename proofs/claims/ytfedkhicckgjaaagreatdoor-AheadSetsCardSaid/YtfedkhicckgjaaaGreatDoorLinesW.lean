/- Lines of a text: ahead.Lines and the reference's. -/
import Derived.Test.YtfedkhicckgjaaaGreatDoorBaseA
import Derived.Test.YtfedkhicckgjaaaGreatDoorShelf
namespace Go.Proofs.YtfedkhicckgjaaaGreatDoor
open Go.RowKit
set_option linter.unusedVariables false

theorem strings_enc : ∀ L : List ByteArray, L.map Value.string = (L.map (·.data.toList)).flatMap encS
  | [] => rfl
  | x :: L => by
    rw [List.map_cons, List.map_cons, List.flatMap_cons, ← strings_enc L]
    show Value.string x :: _ = Value.string ⟨x.data.toList.toArray⟩ :: _
    rw [Array.toArray_toList]
    rfl
theorem trimNL_len (s : Bytes) : (trimNL s).length ≤ s.length := by unfold trimNL; split <;> simp
/-- what strings.Split hands out is the call's own -/
theorem own_split (s : Bytes) (w : World) (hs : s.length ≤ 2097152) :
    Own (w.alloc (.cells ((Lib.splitB ⟨#[10]⟩ 0 (Lib.countB ⟨s.toArray⟩ ⟨#[10]⟩) ⟨s.toArray⟩).map Value.string).toArray 9)) w.heap.size 9 1 encS
      (.slice (some ⟨w.heap.size, 0, none⟩) (Lib.countB ⟨s.toArray⟩ ⟨#[10]⟩ + 1) (Lib.countB ⟨s.toArray⟩ ⟨#[10]⟩ + 1)) (splitNL s) := by
  have hd : (Lib.splitB ⟨#[10]⟩ 0 (Lib.countB ⟨s.toArray⟩ ⟨#[10]⟩) ⟨s.toArray⟩).map (·.data.toList) = splitNL s := by
    rw [Lib.splitB_data]
    exact splitK_eq s
  have hm : (Lib.splitB ⟨#[10]⟩ 0 (Lib.countB ⟨s.toArray⟩ ⟨#[10]⟩) ⟨s.toArray⟩).map Value.string = (splitNL s).flatMap encS := by
    rw [← hd]; exact strings_enc _
  have hl : (splitNL s).length = Lib.countB ⟨s.toArray⟩ ⟨#[10]⟩ + 1 := by
    rw [← hd, List.length_map]
    exact Lib.splitB_all _ (by decide) 0 _ _ rfl
  have hlen : (splitNL s).length ≤ s.length + 1 := by
    have h : ∀ t : Bytes, (splitNL t).length ≤ t.length + 1 := by
      intro t
      induction t with
      | nil => simp [splitNL]
      | cons c r ih =>
        by_cases hc : c = 10
        · subst hc; rw [splitNL_ten]; simp; omega
        · obtain ⟨p, ps, e⟩ := splitNL_cons r
          rw [splitNL_other hc e]
          rw [e] at ih
          simp at ih ⊢; omega
    exact h s
  rw [hm, ← hl]
  have hfl : ((splitNL s).flatMap encS).length = (splitNL s).length * 1 := flat_len encS_len _
  exact ⟨hfl, .inr ⟨w.heap.size, (splitNL s).length, ((splitNL s).flatMap encS).toArray, rfl, Nat.le_refl _, heap_alloc_new w _, Nat.le_refl _, by unfold maxLen; omega, by simpa using hfl, by rw [← hfl]; exact List.take_length⟩⟩

set_option maxHeartbeats 1000000 in
theorem lines_any (s : Bytes) (w : World) (hs : s.length ≤ 2097152) (hM : MaxOk w) :
    Calls Tryz.prog 13 #[.string ⟨s.toArray⟩] w fun e w' => (∃ v, e = .returned v ∧ Own w' w.heap.size 9 1 encS v (linesP s)) ∧ Below w.heap.size w w' := by
  by_cases h0 : s = []
  · have HR : Hid (linesP s = []) := by subst h0; rfl
    subst h0
    go_enter Tryz.func13, Tryz.ntmps13
    go_wp2
    go_ret
    exact ⟨⟨_, rfl, by rw [HR.out]; exact Own.nil _ _ _ _ _⟩, Below.refl _ _⟩
  · have HR : Hid (linesP s = splitNL (trimNL s)) := by unfold linesP; exact if_neg h0
    have HO := Lib.hid (own_split (trimNL s) w (by have := trimNL_len s; omega))
    obtain ⟨m, hm⟩ := hM
    have HT := Lib.hid (Tryz.strings_TrimSuffix ⟨s.toArray⟩ ⟨#[10]⟩ w (by rw [size_mk]; omega))
    have HS := Lib.hid (Tryz.strings_Split ⟨(trimNL s).toArray⟩ ⟨#[10]⟩ m w (by rw [size_mk]; have := trimNL_len s; omega) hm (by decide))
    have HT2 := Lib.hid (trimNL_eq s)
    have h1 : (s == []) = false := by cases s with | nil => exact absurd rfl h0 | cons c r => rfl
    clear h0 hm
    go_enter Tryz.func13, Tryz.ntmps13
    go_wp2_with (first
      | (go_at_call 32; refine HT.out.mono ?_; rintro e w1 ⟨rfl, rfl⟩; rw [show Lib.trimSuffix (ByteArray.mk s.toArray).data.toList (ByteArray.mk #[10]).data.toList = trimNL s from HT2.out])
      | (go_at_call 31; refine HS.out.mono ?_; rintro e w2 ⟨rfl, rfl⟩))
    go_ret
    exact ⟨⟨_, rfl, by rw [HR.out]; exact HO.out⟩, (Below.refl _ _).alloc (Nat.le_refl _) _⟩

set_option maxHeartbeats 2000000 in
theorem rlines_any (s : Bytes) (w : World) (hs : s.length ≤ 1048576) :
    Calls Tryz.prog 17 #[.string ⟨s.toArray⟩] w fun e w' => (∃ v, e = .returned v ∧ Own w' w.heap.size 9 1 encS v (linesP s)) ∧ Below w.heap.size w w' := by
  go_enter Tryz.func17, Tryz.ntmps17
  go_wp2
  go_loopw [3, 4, 5] (fun v3 v4 v5 wr => ∃ k fr : Nat, ∃ out : List Bytes, k ≤ s.length ∧ fr ≤ k ∧ out.length ≤ k ∧ v5 = .int .i64 k ∧ v4 = .int .i64 fr ∧ Hid (CutI s k fr out) ∧ Hid (Own wr w.heap.size 9 1 encS v3 out) ∧ Below w.heap.size w wr) (fun _ _ v5 _ => s.length - (intOf v5).toNat)
  case atStart => exact ⟨0, 0, [], by omega, by omega, by simp, rfl, rfl, CutI.start s, Own.nil _ _ _ _ _, Below.refl _ _⟩
  case round =>
    obtain ⟨k, fr, out, hk, hfr, hout, rfl, rfl, HC, HO, hb⟩ := hrel
    have hz := hb.size
    by_cases hlt : k < s.length
    · by_cases hten : s[k] = 10
      · have HC2 := Lib.hid (HC.out.ten hlt hten)
        have ht : ((s[k].toNat : Int) == 10) = true := by rw [hten]; rfl
        clear hten
        have hl2 := HC2.out.len
        generalize hx : (s.take k).drop fr = piece at HC2 hl2
        have HX := Lib.hid hx
        clear hx
        obtain ⟨xa, ca, rfl⟩ := HO.out.shape
        go_wp2_with (at_builtin; refine wpList_push rfl _ _ 26 rfl w.heap.size 9 1 16 slstrs encS encS_ok _ out rfl (HO.out.alloc _) piece wr.heap.size rfl (by intro j u hj; match j, hj with | 0, hj => (simp [encS] at hj; subst hj; rw [← HX.out]; simp) | j + 1, hj => simp [encS] at hj) (by omega) (by unfold maxLen; omega) w (hb.alloc hz _) (by simp; omega) ?_; intro v2 w2 hown2 hb2 hg2; have HO2 := Lib.hid hown2; clear hown2 hg2)
        go_roundw
        case rel => exact ⟨k + 1, k + 1, out ++ [piece], by omega, by omega, hl2, by go_num, by go_num, HC2.out, HO2.out, hb2⟩
        case measure => simp [intOf]; omega
      · have HC2 := Lib.hid (HC.out.other hlt hten)
        have ht : ((s[k].toNat : Int) == 10) = false := by rw [beq_eq_false_iff_ne]; intro e; apply hten; apply UInt8.toNat_inj.1; show s[k].toNat = 10; omega
        clear hten
        go_wp2
        go_roundw
        case rel => exact ⟨k + 1, fr, out, by omega, by omega, by omega, by go_num, by rfl, HC2.out, HO.out, hb⟩
        case measure => simp [intOf]; omega
    · have hke : k = s.length := by omega
      have HE : Hid ((if fr < s.length then out ++ [s.drop fr] else out) = linesP s) := by
        have := HC.out; rw [hke] at this; exact this.stop
      have hol : out.length ≤ 1048576 := by omega
      clear hke
      by_cases hf : fr < s.length
      · have HE2 : Hid (out ++ [s.drop fr] = linesP s) := by have := HE.out; rwa [if_pos hf] at this
        obtain ⟨xa, ca, rfl⟩ := HO.out.shape
        generalize hx : s.drop fr = piece at HE2
        have HX := Lib.hid hx
        clear hx
        go_wp2_with (at_builtin; refine wpList_push rfl _ _ 26 rfl w.heap.size 9 1 16 slstrs encS encS_ok _ out rfl (HO.out.alloc _) piece wr.heap.size rfl (by intro j u hj; match j, hj with | 0, hj => (simp [encS] at hj; subst hj; rw [← HX.out]; simp) | j + 1, hj => simp [encS] at hj) (by omega) (by unfold maxLen; omega) w (hb.alloc hz _) (by simp; omega) ?_; intro v2 w2 hown2 hb2 hg2; have HO2 := Lib.hid hown2; clear hown2 hg2)
        go_ret
        exact ⟨⟨_, rfl, by rw [← HE2.out]; exact HO2.out⟩, hb2⟩
      · have HE2 : Hid (out = linesP s) := by have := HE.out; rwa [if_neg hf] at this
        go_wp2
        go_ret
        exact ⟨⟨_, rfl, by rw [← HE2.out]; exact HO.out⟩, hb⟩
end Go.Proofs.YtfedkhicckgjaaaGreatDoor
