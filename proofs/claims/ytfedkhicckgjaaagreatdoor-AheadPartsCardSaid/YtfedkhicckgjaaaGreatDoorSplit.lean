/- Conditions: conds.split. -/
import Derived.Test.YtfedkhicckgjaaaGreatDoorNames
import Derived.Test.YtfedkhicckgjaaaGreatDoorShelf
import Derived.Test.YtfedkhicckgjaaaGreatDoorMaxOk
namespace Go.Proofs.YtfedkhicckgjaaaGreatDoor
open Go.RowKit


theorem cut_any (c sep : Bytes) (w : World) (hc : c.length ≤ 1048576) (hM : MaxOk w) :
    Calls Tryz.prog 220 #[.string ⟨c.toArray⟩, .string ⟨sep.toArray⟩] w fun e w' => e = .returned (.tuple #[.string ⟨(Lib.cut c sep).1.toArray⟩, .string ⟨(Lib.cut c sep).2.1.toArray⟩, .bool (Lib.cut c sep).2.2]) ∧ Below w.heap.size w w' := by
  obtain ⟨m, hm⟩ := hM
  refine (Tryz.strings_Cut ⟨c.toArray⟩ ⟨sep.toArray⟩ m w (by rw [size_mk]; omega) hm).mono ?_
  rintro e w' ⟨rfl, n, rfl⟩
  exact ⟨rfl, below_drewN (Below.refl _ _) _⟩

def splitP (c : Bytes) : Bytes × Bytes × Bytes × Bool :=
  if Lib.hasPrefix c [33] = true then ([33], Lib.trimPrefix c [33], [], nameB (Lib.trimPrefix c [33]))
  else if (Lib.cut c [61]).2.2 = false then ([], (Lib.cut c [61]).1, [], nameB (Lib.cut c [61]).1)
  else if Lib.hasSuffix (Lib.cut c [61]).1 [33] = true then ([33, 61], Lib.trimSuffix (Lib.cut c [61]).1 [33], (Lib.cut c [61]).2.1, nameB (Lib.trimSuffix (Lib.cut c [61]).1 [33]))
  else ([61], (Lib.cut c [61]).1, (Lib.cut c [61]).2.1, nameB (Lib.cut c [61]).1)
def splitV (p : Bytes × Bytes × Bytes × Bool) : Value := .tuple #[.string ⟨p.1.toArray⟩, .string ⟨p.2.1.toArray⟩, .string ⟨p.2.2.1.toArray⟩, .bool p.2.2.2]

theorem trimPrefix_len (s p : Bytes) : (Lib.trimPrefix s p).length ≤ s.length := by
  unfold Lib.trimPrefix; split <;> simp
theorem trimSuffix_len (s p : Bytes) : (Lib.trimSuffix s p).length ≤ s.length := by
  unfold Lib.trimSuffix; split <;> simp
theorem cut_len (s sep : Bytes) : (Lib.cut s sep).1.length ≤ s.length := by
  unfold Lib.cut
  split
  · simp only [List.length_take]; exact Nat.min_le_right _ _
  · exact Nat.le_refl _

theorem cutPrefix_any (c p : Bytes) (w : World) :
    Calls Tryz.prog 219 #[.string ⟨c.toArray⟩, .string ⟨p.toArray⟩] w fun e w' => e = .returned (.tuple #[.string ⟨(Lib.trimPrefix c p).toArray⟩, .bool (Lib.hasPrefix c p)]) ∧ w = w' :=
  (Tryz.strings_CutPrefix ⟨c.toArray⟩ ⟨p.toArray⟩ w).mono fun _ _ ⟨he, hw⟩ => ⟨he, hw.symm⟩
theorem cutSuffix_any (c p : Bytes) (w : World) (hc : c.length ≤ 1048576) :
    Calls Tryz.prog 221 #[.string ⟨c.toArray⟩, .string ⟨p.toArray⟩] w fun e w' => e = .returned (.tuple #[.string ⟨(Lib.trimSuffix c p).toArray⟩, .bool (Lib.hasSuffix c p)]) ∧ w = w' :=
  (Tryz.strings_CutSuffix ⟨c.toArray⟩ ⟨p.toArray⟩ w (by rw [size_mk]; omega)).mono fun _ _ ⟨he, hw⟩ => ⟨he, hw.symm⟩

set_option maxHeartbeats 2000000 in
theorem split_any (c : Bytes) (w : World) (hc : c.length ≤ 1048576) (hM : MaxOk w) :
    Calls Tryz.prog 174 #[.string ⟨c.toArray⟩] w fun e w' => e = .returned (splitV (splitP c)) ∧ Below w.heap.size w w' := by
  have HC := Lib.hid (cut_any c [61] w hc hM)
  have h1 := trimPrefix_len c [33]
  have h2 := cut_len c [61]
  have h3 := trimSuffix_len (Lib.cut c [61]).1 [33]
  cases hp : Lib.hasPrefix c [33]
  · have e1 : splitP c = if (Lib.cut c [61]).2.2 = false then ([], (Lib.cut c [61]).1, [], nameB (Lib.cut c [61]).1)
        else if Lib.hasSuffix (Lib.cut c [61]).1 [33] = true then ([33, 61], Lib.trimSuffix (Lib.cut c [61]).1 [33], (Lib.cut c [61]).2.1, nameB (Lib.trimSuffix (Lib.cut c [61]).1 [33]))
        else ([61], (Lib.cut c [61]).1, (Lib.cut c [61]).2.1, nameB (Lib.cut c [61]).1) := by unfold splitP; rw [if_neg (by simp [hp])]
    rw [e1]
    clear e1
    obtain ⟨nm, tx, wi, hcut⟩ : ∃ nm tx wi, Lib.cut c [61] = (nm, tx, wi) := ⟨_, _, _, rfl⟩
    rw [hcut] at HC h2 h3 ⊢
    simp only at h2 h3 ⊢
    have HP := Lib.hid hp
    clear hp hcut
    cases wi
    · rw [if_pos rfl]
      go_enter Tryz.func174, Tryz.ntmps174
      go_wp2_with fail
      refine (cutPrefix_any c [33] _).mono ?_
      rw [HP.out]
      rintro e w' ⟨rfl, rfl⟩
      go_wp2_with fail
      refine HC.out.mono ?_
      rintro e w1 ⟨rfl, hb1⟩
      go_wp2_with fail
      refine (name_any nm _ (by omega)).mono ?_
      rintro e w' ⟨rfl, rfl⟩
      go_wp2_with fail
      refine bodyPost_ret (v := splitV ([], nm, [], nameB nm)) (by simp [results, Tryz.results174, go_sem, splitV]) rfl ⟨rfl, hb1⟩
    · rw [if_neg (by simp)]
      cases hsf : Lib.hasSuffix nm [33]
      · rw [if_neg (by simp)]
        have HS := Lib.hid hsf
        clear hsf
        go_enter Tryz.func174, Tryz.ntmps174
        go_wp2_with fail
        refine (cutPrefix_any c [33] _).mono ?_
        rw [HP.out]
        rintro e w' ⟨rfl, rfl⟩
        go_wp2_with fail
        refine HC.out.mono ?_
        rintro e w1 ⟨rfl, hb1⟩
        go_wp2_with fail
        refine (cutSuffix_any nm [33] _ (by omega)).mono ?_
        rw [HS.out]
        rintro e w' ⟨rfl, rfl⟩
        go_wp2_with fail
        refine (name_any nm _ (by omega)).mono ?_
        rintro e w' ⟨rfl, rfl⟩
        go_wp2_with fail
        refine bodyPost_ret (v := splitV ([61], nm, tx, nameB nm)) (by simp [results, Tryz.results174, go_sem, splitV]) rfl ⟨rfl, hb1⟩
      · rw [if_pos rfl]
        have HS := Lib.hid hsf
        clear hsf
        generalize hsh : Lib.trimSuffix nm [33] = sh at *
        have HSH := Lib.hid hsh
        clear hsh
        go_enter Tryz.func174, Tryz.ntmps174
        go_wp2_with fail
        refine (cutPrefix_any c [33] _).mono ?_
        rw [HP.out]
        rintro e w' ⟨rfl, rfl⟩
        go_wp2_with fail
        refine HC.out.mono ?_
        rintro e w1 ⟨rfl, hb1⟩
        go_wp2_with fail
        refine (cutSuffix_any nm [33] _ (by omega)).mono ?_
        rw [HS.out, HSH.out]
        rintro e w' ⟨rfl, rfl⟩
        go_wp2_with fail
        refine (name_any sh _ (by omega)).mono ?_
        rintro e w' ⟨rfl, rfl⟩
        go_wp2_with fail
        refine bodyPost_ret (v := splitV ([33, 61], sh, tx, nameB sh)) (by simp [results, Tryz.results174, go_sem, splitV]) rfl ⟨rfl, hb1⟩
  · have e1 : splitP c = ([33], Lib.trimPrefix c [33], [], nameB (Lib.trimPrefix c [33])) := by unfold splitP; rw [if_pos hp]
    rw [e1]
    have HP := Lib.hid hp
    clear hp e1 h2 h3
    have HR := Lib.hid (fun w => cutPrefix_any c [33] w)
    rw [HP.out] at HR
    generalize Lib.trimPrefix c [33] = rs at *
    go_enter Tryz.func174, Tryz.ntmps174
    go_wp2_with fail
    refine (HR.out _).mono ?_
    rintro e w' ⟨rfl, rfl⟩
    go_wp2_with fail
    refine (name_any rs _ (by omega)).mono ?_
    rintro e w' ⟨rfl, rfl⟩
    go_wp2_with fail
    refine bodyPost_ret (v := splitV ([33], rs, [], nameB rs)) (by simp [results, Tryz.results174, go_sem, splitV]) rfl ⟨rfl, Below.refl _ _⟩
end Go.Proofs.YtfedkhicckgjaaaGreatDoor
