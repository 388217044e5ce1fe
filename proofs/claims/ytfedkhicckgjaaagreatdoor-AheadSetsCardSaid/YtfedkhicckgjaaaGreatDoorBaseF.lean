/- Conditions: conds.split. Conditions: conds.Ask. -/
import Derived.Test.YtfedkhicckgjaaaGreatDoorBaseB
import Derived.Test.YtfedkhicckgjaaaGreatDoorShelf
import Derived.Test.YtfedkhicckgjaaaGreatDoorBaseA
namespace Go.Proofs.YtfedkhicckgjaaaGreatDoor
open Go.RowKit


theorem cut_any (c sep : Bytes) (w : World) (hc : c.length ≤ 1048576) (hM : MaxOk w) :
    Calls Tryz.prog 220 #[.string ⟨c.toArray⟩, .string ⟨sep.toArray⟩] w fun e w' => e = .returned (.tuple #[.string ⟨(Lib.cut c sep).1.toArray⟩, .string ⟨(Lib.cut c sep).2.1.toArray⟩, .bool (Lib.cut c sep).2.2]) ∧ Below w.heap.size w w' := by
  obtain ⟨m, hm⟩ := hM
  refine (Tryz.strings_Cut ⟨c.toArray⟩ ⟨sep.toArray⟩ m w (by rw [size_mk]; omega) hm).mono ?_
  rintro e w' ⟨rfl, n, rfl⟩
  exact ⟨rfl, below_drewN (Below.refl _ _) _⟩

def splitP (c : Bytes) : Bytes × Bytes × Bytes × Bool :=
  if Lib.hasPrefix c [33] = true then ([33], Lib.trimPrefix c [33], [], nameB (Lib.trimPrefix c [33]))
  else if (Lib.cut c [61]).2.2 = false then ([], (Lib.cut c [61]).1, [], nameB (Lib.cut c [61]).1)
  else if Lib.hasSuffix (Lib.cut c [61]).1 [33] = true then ([33, 61], Lib.trimSuffix (Lib.cut c [61]).1 [33], (Lib.cut c [61]).2.1, nameB (Lib.trimSuffix (Lib.cut c [61]).1 [33]))
  else ([61], (Lib.cut c [61]).1, (Lib.cut c [61]).2.1, nameB (Lib.cut c [61]).1)
def splitV (p : Bytes × Bytes × Bytes × Bool) : Value := .tuple #[.string ⟨p.1.toArray⟩, .string ⟨p.2.1.toArray⟩, .string ⟨p.2.2.1.toArray⟩, .bool p.2.2.2]

theorem trimPrefix_len (s p : Bytes) : (Lib.trimPrefix s p).length ≤ s.length := by
  unfold Lib.trimPrefix; split <;> simp
theorem trimSuffix_len (s p : Bytes) : (Lib.trimSuffix s p).length ≤ s.length := by
  unfold Lib.trimSuffix; split <;> simp
theorem cut_len (s sep : Bytes) : (Lib.cut s sep).1.length ≤ s.length := by
  unfold Lib.cut
  split
  · simp only [List.length_take]; exact Nat.min_le_right _ _
  · exact Nat.le_refl _

theorem cutPrefix_any (c p : Bytes) (w : World) :
    Calls Tryz.prog 219 #[.string ⟨c.toArray⟩, .string ⟨p.toArray⟩] w fun e w' => e = .returned (.tuple #[.string ⟨(Lib.trimPrefix c p).toArray⟩, .bool (Lib.hasPrefix c p)]) ∧ w = w' :=
  (Tryz.strings_CutPrefix ⟨c.toArray⟩ ⟨p.toArray⟩ w).mono fun _ _ ⟨he, hw⟩ => ⟨he, hw.symm⟩
theorem cutSuffix_any (c p : Bytes) (w : World) (hc : c.length ≤ 1048576) :
    Calls Tryz.prog 221 #[.string ⟨c.toArray⟩, .string ⟨p.toArray⟩] w fun e w' => e = .returned (.tuple #[.string ⟨(Lib.trimSuffix c p).toArray⟩, .bool (Lib.hasSuffix c p)]) ∧ w = w' :=
  (Tryz.strings_CutSuffix ⟨c.toArray⟩ ⟨p.toArray⟩ w (by rw [size_mk]; omega)).mono fun _ _ ⟨he, hw⟩ => ⟨he, hw.symm⟩

set_option maxHeartbeats 2000000 in
theorem split_any (c : Bytes) (w : World) (hc : c.length ≤ 1048576) (hM : MaxOk w) :
    Calls Tryz.prog 174 #[.string ⟨c.toArray⟩] w fun e w' => e = .returned (splitV (splitP c)) ∧ Below w.heap.size w w' := by
  have HC := Lib.hid (cut_any c [61] w hc hM)
  have h1 := trimPrefix_len c [33]
  have h2 := cut_len c [61]
  have h3 := trimSuffix_len (Lib.cut c [61]).1 [33]
  cases hp : Lib.hasPrefix c [33]
  · have e1 : splitP c = if (Lib.cut c [61]).2.2 = false then ([], (Lib.cut c [61]).1, [], nameB (Lib.cut c [61]).1)
        else if Lib.hasSuffix (Lib.cut c [61]).1 [33] = true then ([33, 61], Lib.trimSuffix (Lib.cut c [61]).1 [33], (Lib.cut c [61]).2.1, nameB (Lib.trimSuffix (Lib.cut c [61]).1 [33]))
        else ([61], (Lib.cut c [61]).1, (Lib.cut c [61]).2.1, nameB (Lib.cut c [61]).1) := by unfold splitP; rw [if_neg (by simp [hp])]
    rw [e1]
    clear e1
    obtain ⟨nm, tx, wi, hcut⟩ : ∃ nm tx wi, Lib.cut c [61] = (nm, tx, wi) := ⟨_, _, _, rfl⟩
    rw [hcut] at HC h2 h3 ⊢
    simp only at h2 h3 ⊢
    have HP := Lib.hid hp
    clear hp hcut
    cases wi
    · rw [if_pos rfl]
      go_enter Tryz.func174, Tryz.ntmps174
      go_wp2_with fail
      refine (cutPrefix_any c [33] _).mono ?_
      rw [HP.out]
      rintro e w' ⟨rfl, rfl⟩
      go_wp2_with fail
      refine HC.out.mono ?_
      rintro e w1 ⟨rfl, hb1⟩
      go_wp2_with fail
      refine (name_any nm _ (by omega)).mono ?_
      rintro e w' ⟨rfl, rfl⟩
      go_wp2_with fail
      refine bodyPost_ret (v := splitV ([], nm, [], nameB nm)) (by simp [results, Tryz.results174, go_sem, splitV]) rfl ⟨rfl, hb1⟩
    · rw [if_neg (by simp)]
      cases hsf : Lib.hasSuffix nm [33]
      · rw [if_neg (by simp)]
        have HS := Lib.hid hsf
        clear hsf
        go_enter Tryz.func174, Tryz.ntmps174
        go_wp2_with fail
        refine (cutPrefix_any c [33] _).mono ?_
        rw [HP.out]
        rintro e w' ⟨rfl, rfl⟩
        go_wp2_with fail
        refine HC.out.mono ?_
        rintro e w1 ⟨rfl, hb1⟩
        go_wp2_with fail
        refine (cutSuffix_any nm [33] _ (by omega)).mono ?_
        rw [HS.out]
        rintro e w' ⟨rfl, rfl⟩
        go_wp2_with fail
        refine (name_any nm _ (by omega)).mono ?_
        rintro e w' ⟨rfl, rfl⟩
        go_wp2_with fail
        refine bodyPost_ret (v := splitV ([61], nm, tx, nameB nm)) (by simp [results, Tryz.results174, go_sem, splitV]) rfl ⟨rfl, hb1⟩
      · rw [if_pos rfl]
        have HS := Lib.hid hsf
        clear hsf
        generalize hsh : Lib.trimSuffix nm [33] = sh at *
        have HSH := Lib.hid hsh
        clear hsh
        go_enter Tryz.func174, Tryz.ntmps174
        go_wp2_with fail
        refine (cutPrefix_any c [33] _).mono ?_
        rw [HP.out]
        rintro e w' ⟨rfl, rfl⟩
        go_wp2_with fail
        refine HC.out.mono ?_
        rintro e w1 ⟨rfl, hb1⟩
        go_wp2_with fail
        refine (cutSuffix_any nm [33] _ (by omega)).mono ?_
        rw [HS.out, HSH.out]
        rintro e w' ⟨rfl, rfl⟩
        go_wp2_with fail
        refine (name_any sh _ (by omega)).mono ?_
        rintro e w' ⟨rfl, rfl⟩
        go_wp2_with fail
        refine bodyPost_ret (v := splitV ([33, 61], sh, tx, nameB sh)) (by simp [results, Tryz.results174, go_sem, splitV]) rfl ⟨rfl, hb1⟩
  · have e1 : splitP c = ([33], Lib.trimPrefix c [33], [], nameB (Lib.trimPrefix c [33])) := by unfold splitP; rw [if_pos hp]
    rw [e1]
    have HP := Lib.hid hp
    clear hp e1 h2 h3
    have HR := Lib.hid (fun w => cutPrefix_any c [33] w)
    rw [HP.out] at HR
    generalize Lib.trimPrefix c [33] = rs at *
    go_enter Tryz.func174, Tryz.ntmps174
    go_wp2_with fail
    refine (HR.out _).mono ?_
    rintro e w' ⟨rfl, rfl⟩
    go_wp2_with fail
    refine (name_any rs _ (by omega)).mono ?_
    rintro e w' ⟨rfl, rfl⟩
    go_wp2_with fail
    refine bodyPost_ret (v := splitV ([33], rs, [], nameB rs)) (by simp [results, Tryz.results174, go_sem, splitV]) rfl ⟨rfl, Below.refl _ _⟩
end Go.Proofs.YtfedkhicckgjaaaGreatDoor

namespace Go.Proofs.YtfedkhicckgjaaaGreatDoor
open Go.RowKit

/-! ### plain -/
def holdsP (l : List Two) (sign name text : Bytes) : Bool :=
  if sign = [] then (getL l name).isSome else if sign = [33] then !(getL l name).isSome
  else if sign = [61] then (getL l name).isSome && ((getL l name).getD [] == text) else !((getL l name).isSome && ((getL l name).getD [] == text))
def askP (l : List Two) (c : Bytes) : Value :=
  if (splitP c).2.2.2 = true then .tuple #[.string ⟨(splitP c).2.1.toArray⟩, .bool (holdsP l (splitP c).1 (splitP c).2.1 (splitP c).2.2.1), .int .i64 0]
  else .tuple #[.string ⟨#[]⟩, .bool false, .int .i64 4]
theorem splitP_sign (c : Bytes) : (splitP c).1 = [] ∨ (splitP c).1 = [33] ∨ (splitP c).1 = [61] ∨ (splitP c).1 = [33, 61] := by
  unfold splitP
  split
  · exact .inr (.inl rfl)
  · split
    · exact .inl rfl
    · split
      · exact .inr (.inr (.inr rfl))
      · exact .inr (.inr (.inl rfl))

theorem zeroF (w : World) : (zeroValue 53).run Tryz.prog w = .ok .nilFunc w := by kernel_rfl
theorem getV_eq (l : List Two) (s : Bytes) : getV l s = .tuple #[.string ⟨((getL l s).getD []).toArray⟩, .bool (getL l s).isSome] := by
  unfold getV; cases getL l s <;> rfl

theorem clo1_any (bs : Nat) (set : Bool) (w : World) (hs : w.cell? ⟨bs, 0, none⟩ = some (.bool set)) :
    Calls Tryz.prog 176 #[.pointer (some ⟨bs, 0, none⟩)] w fun e w' => e = .returned (.bool (set)) ∧ w = w' := by
  cases set
  all_goals
    go_enter Tryz.func176, Tryz.ntmps176
    go_wp2
    go_ret
    exact ⟨by first | rfl | simp, rfl⟩

theorem clo2_any (bs : Nat) (set : Bool) (w : World) (hs : w.cell? ⟨bs, 0, none⟩ = some (.bool set)) :
    Calls Tryz.prog 177 #[.pointer (some ⟨bs, 0, none⟩)] w fun e w' => e = .returned (.bool (!set)) ∧ w = w' := by
  cases set
  all_goals
    go_enter Tryz.func177, Tryz.ntmps177
    go_wp2
    go_ret
    exact ⟨by first | rfl | simp, rfl⟩

theorem clo3_any (bs bv bt : Nat) (set : Bool) (val tx : Bytes) (w : World) (hs : w.cell? ⟨bs, 0, none⟩ = some (.bool set)) (hv : w.cell? ⟨bv, 0, none⟩ = some (.string ⟨val.toArray⟩)) (ht : w.cell? ⟨bt, 0, none⟩ = some (.string ⟨tx.toArray⟩)) :
    Calls Tryz.prog 178 #[.pointer (some ⟨bs, 0, none⟩), .pointer (some ⟨bv, 0, none⟩), .pointer (some ⟨bt, 0, none⟩)] w fun e w' => e = .returned (.bool (set && (val == tx))) ∧ w = w' := by
  cases set <;> cases hvt : (val == tx)
  all_goals
    have HV := Lib.hid hvt
    go_enter Tryz.func178, Tryz.ntmps178
    go_wp2
    go_ret
    exact ⟨by first | rfl | simp, rfl⟩

theorem clo4_any (bs bv bt : Nat) (set : Bool) (val tx : Bytes) (w : World) (hs : w.cell? ⟨bs, 0, none⟩ = some (.bool set)) (hv : w.cell? ⟨bv, 0, none⟩ = some (.string ⟨val.toArray⟩)) (ht : w.cell? ⟨bt, 0, none⟩ = some (.string ⟨tx.toArray⟩)) :
    Calls Tryz.prog 179 #[.pointer (some ⟨bs, 0, none⟩), .pointer (some ⟨bv, 0, none⟩), .pointer (some ⟨bt, 0, none⟩)] w fun e w' => e = .returned (.bool (!(set && (val == tx)))) ∧ w = w' := by
  cases set <;> cases hvt : (val == tx)
  all_goals
    have HV := Lib.hid hvt
    go_enter Tryz.func179, Tryz.ntmps179
    go_wp2
    go_ret
    exact ⟨by first | rfl | simp, rfl⟩

set_option maxHeartbeats 4000000 in
theorem ask_1 (a : Option Addr) (ca : Nat) (l : List Two) (c : Bytes) (nm tx : Bytes) (w : World) (hn : l.length ≤ 1048576) (hc : c.length ≤ 1048576) (hA : At w 2 encT a l) (hM : MaxOk w) (hsp : splitP c = ([], nm, tx, true)) :
    Calls Tryz.prog 149 #[.slice a l.length ca, .string ⟨c.toArray⟩] w fun e w' => e = .returned (.tuple #[.string ⟨nm.toArray⟩, .bool (holdsP l [] nm tx), .int .i64 0]) ∧ Below w.heap.size w w' := by
  have HS := Lib.hid (split_any c w hc hM)
  rw [hsp] at HS
  have HA := Lib.hid hA
  clear hA hsp hM
  have hpost : holdsP l [] nm tx = ((getL l nm).isSome) := by simp [holdsP]
  rw [hpost]
  clear hpost
  have hgv := getV_eq l nm
  generalize (getL l nm).getD [] = val at *
  generalize (getL l nm).isSome = set at *
  have HGV := Lib.hid hgv
  clear hgv
  have hmm := @run_makeMap Tryz.prog
  go_enter Tryz.func149, Tryz.ntmps149
  go_wp2_with fail
  refine HS.out.mono ?_
  rintro e w1 ⟨rfl, hb1⟩
  unfold splitV
  have HG := Lib.hid (fun w hA => get_any a ca l nm w hn hA)
  go_wp2_with fail
  refine (HG.out _ (HA.out.below (hb1.alloc hb1.size _))).mono ?_
  rw [HGV.out]
  rintro e w2 ⟨rfl, hb2⟩
  clear HG HA
  rw [World.size_alloc] at hb2
  have xt0 : w2.cell? ⟨w1.heap.size, 0, none⟩ = some (.string ⟨tx.toArray⟩) := by rw [hb2.cell (p := ⟨w1.heap.size, 0, none⟩) (Nat.lt_succ_self _)]; simp
  have hz12 : w1.heap.size + 1 ≤ w2.heap.size := by have := hb2.size; simpa using this
  have HB : Hid (Below w.heap.size w w2) := (hb1.alloc hb1.size _).trans (hb2.mono (by have := hb1.size; omega))
  have HZ : Hid (w.heap.size ≤ w1.heap.size) := hb1.size
  clear hb1 hb2
  have xv : (((w2.alloc (.cells #[.string ⟨val.toArray⟩] 9)).alloc (.cells #[.bool set] 4)).alloc (.map #[] 0)).cell? ⟨w2.heap.size, 0, none⟩ = some (.string ⟨val.toArray⟩) := cell_old _ (cell_old _ (cell_new1 _ _ _))
  have xs : (((w2.alloc (.cells #[.string ⟨val.toArray⟩] 9)).alloc (.cells #[.bool set] 4)).alloc (.map #[] 0)).cell? ⟨w2.heap.size + 1, 0, none⟩ = some (.bool set) := cell_old _ (cell_new1' _ _ _ _)
  have xt : (((w2.alloc (.cells #[.string ⟨val.toArray⟩] 9)).alloc (.cells #[.bool set] 4)).alloc (.map #[] 0)).cell? ⟨w1.heap.size, 0, none⟩ = some (.string ⟨tx.toArray⟩) := cell_old _ (cell_old _ (cell_old _ xt0))
  have HXV := Lib.hid xv
  have HXS := Lib.hid xs
  have HXT := Lib.hid xt
  clear xv xs xt xt0
  go_wp2_with (first
    | (refine wpList_smap_put rfl (.tmp 28) (.const (.string ⟨#[]⟩)) (.tmp 29) 243 9 53 (.inr rfl) Tryz.underlying243 Tryz.underlying9 (w2.heap.size + 1 + 1) [] (by have h := SMap.new ((w2.alloc (.cells #[.string ⟨val.toArray⟩] 9)).alloc (.cells #[.bool set] 4)); simpa using h) [] (.func (.func 176) #[] #[.pointer (some ⟨w2.heap.size + 1, 0, none⟩)]) rfl rfl rfl ?_; intro m1 hm1 hg1 hz1)
    | (refine wpList_smap_put rfl (.tmp 28) (.const (.string ⟨#[33]⟩)) (.tmp 30) 243 9 53 (.inr rfl) Tryz.underlying243 Tryz.underlying9 (w2.heap.size + 1 + 1) _ hm1 [33] (.func (.func 177) #[] #[.pointer (some ⟨w2.heap.size + 1, 0, none⟩)]) rfl rfl rfl ?_; intro m2 hm2 hg2 hz2)
    | (refine wpList_smap_put rfl (.tmp 28) (.const (.string ⟨#[61]⟩)) (.tmp 31) 243 9 53 (.inr rfl) Tryz.underlying243 Tryz.underlying9 (w2.heap.size + 1 + 1) _ hm2 [61] (.func (.func 178) #[] #[.pointer (some ⟨w2.heap.size + 1, 0, none⟩), .pointer (some ⟨w2.heap.size, 0, none⟩), .pointer (some ⟨w1.heap.size, 0, none⟩)]) rfl rfl rfl ?_; intro m3 hm3 hg3 hz3)
    | (refine wpList_smap_put rfl (.tmp 28) (.const (.string ⟨#[33, 61]⟩)) (.tmp 32) 243 9 53 (.inr rfl) Tryz.underlying243 Tryz.underlying9 (w2.heap.size + 1 + 1) _ hm3 [33, 61] (.func (.func 179) #[] #[.pointer (some ⟨w2.heap.size + 1, 0, none⟩), .pointer (some ⟨w2.heap.size, 0, none⟩), .pointer (some ⟨w1.heap.size, 0, none⟩)]) rfl rfl rfl ?_; intro m4 hm4 hg4 hz4)
    | (refine wpList_smap_lookup rfl (.tmp 35) (.tmp 36) 243 9 53 false rfl Tryz.underlying243 Tryz.underlying9 .nilFunc (zeroF _) (w2.heap.size + 1 + 1) _ hm4 [] rfl rfl ?_; rw [show (mapGet (mapPut (mapPut (mapPut (mapPut [] [] (.func (.func 176) #[] #[.pointer (some ⟨w2.heap.size + 1, 0, none⟩)])) [33] (.func (.func 177) #[] #[.pointer (some ⟨w2.heap.size + 1, 0, none⟩)])) [61] (.func (.func 178) #[] #[.pointer (some ⟨w2.heap.size + 1, 0, none⟩), .pointer (some ⟨w2.heap.size, 0, none⟩), .pointer (some ⟨w1.heap.size, 0, none⟩)])) [33, 61] (.func (.func 179) #[] #[.pointer (some ⟨w2.heap.size + 1, 0, none⟩), .pointer (some ⟨w2.heap.size, 0, none⟩), .pointer (some ⟨w1.heap.size, 0, none⟩)])) []).getD .nilFunc = .func (.func 176) #[] #[.pointer (some ⟨w2.heap.size + 1, 0, none⟩)] from rfl]))
  have qv := hg4.cell (hg3.cell (hg2.cell (hg1.cell HXV.out (ne_row (show w2.heap.size ≠ w2.heap.size + 1 + 1 by omega))) (ne_row (show w2.heap.size ≠ w2.heap.size + 1 + 1 by omega))) (ne_row (show w2.heap.size ≠ w2.heap.size + 1 + 1 by omega))) (ne_row (show w2.heap.size ≠ w2.heap.size + 1 + 1 by omega))
  have qs := hg4.cell (hg3.cell (hg2.cell (hg1.cell HXS.out (ne_row (show w2.heap.size + 1 ≠ w2.heap.size + 1 + 1 by omega))) (ne_row (show w2.heap.size + 1 ≠ w2.heap.size + 1 + 1 by omega))) (ne_row (show w2.heap.size + 1 ≠ w2.heap.size + 1 + 1 by omega))) (ne_row (show w2.heap.size + 1 ≠ w2.heap.size + 1 + 1 by omega))
  have qt := hg4.cell (hg3.cell (hg2.cell (hg1.cell HXT.out (ne_row (show w1.heap.size ≠ w2.heap.size + 1 + 1 by omega))) (ne_row (show w1.heap.size ≠ w2.heap.size + 1 + 1 by omega))) (ne_row (show w1.heap.size ≠ w2.heap.size + 1 + 1 by omega))) (ne_row (show w1.heap.size ≠ w2.heap.size + 1 + 1 by omega))
  refine (clo1_any (w2.heap.size + 1) set m4 qs).mono ?_
  rintro e w' ⟨rfl, rfl⟩
  go_wp2_with fail
  go_ret3
  have hz : w2.heap.size ≤ m4.heap.size := by rw [hz4, hz3, hz2, hz1]; simp; omega
  have hB2 : Below w2.heap.size w2 (((w2.alloc (.cells #[.string ⟨val.toArray⟩] 9)).alloc (.cells #[.bool set] 4)).alloc (.map #[] 0)) := (((Below.refl _ _).alloc (Nat.le_refl _) _).alloc (by simp) _).alloc (by simp; omega) _
  have hB3 := (((hB2.grown hg1 (by simp; omega) (by intro k hk; cases hk; omega)).grown hg2 (by rw [hz1]; simp; omega) (by intro k hk; cases hk; omega)).grown hg3 (by rw [hz2, hz1]; simp; omega) (by intro k hk; cases hk; omega)).grown hg4 (by rw [hz3, hz2, hz1]; simp; omega) (by intro k hk; cases hk; omega)
  exact ⟨by first | rfl | simp, HB.out.trans (hB3.mono HB.out.size)⟩

set_option maxHeartbeats 4000000 in
theorem ask_2 (a : Option Addr) (ca : Nat) (l : List Two) (c : Bytes) (nm tx : Bytes) (w : World) (hn : l.length ≤ 1048576) (hc : c.length ≤ 1048576) (hA : At w 2 encT a l) (hM : MaxOk w) (hsp : splitP c = ([33], nm, tx, true)) :
    Calls Tryz.prog 149 #[.slice a l.length ca, .string ⟨c.toArray⟩] w fun e w' => e = .returned (.tuple #[.string ⟨nm.toArray⟩, .bool (holdsP l [33] nm tx), .int .i64 0]) ∧ Below w.heap.size w w' := by
  have HS := Lib.hid (split_any c w hc hM)
  rw [hsp] at HS
  have HA := Lib.hid hA
  clear hA hsp hM
  have hpost : holdsP l [33] nm tx = (!(getL l nm).isSome) := by simp [holdsP]
  rw [hpost]
  clear hpost
  have hgv := getV_eq l nm
  generalize (getL l nm).getD [] = val at *
  generalize (getL l nm).isSome = set at *
  have HGV := Lib.hid hgv
  clear hgv
  have hmm := @run_makeMap Tryz.prog
  go_enter Tryz.func149, Tryz.ntmps149
  go_wp2_with fail
  refine HS.out.mono ?_
  rintro e w1 ⟨rfl, hb1⟩
  unfold splitV
  have HG := Lib.hid (fun w hA => get_any a ca l nm w hn hA)
  go_wp2_with fail
  refine (HG.out _ (HA.out.below (hb1.alloc hb1.size _))).mono ?_
  rw [HGV.out]
  rintro e w2 ⟨rfl, hb2⟩
  clear HG HA
  rw [World.size_alloc] at hb2
  have xt0 : w2.cell? ⟨w1.heap.size, 0, none⟩ = some (.string ⟨tx.toArray⟩) := by rw [hb2.cell (p := ⟨w1.heap.size, 0, none⟩) (Nat.lt_succ_self _)]; simp
  have hz12 : w1.heap.size + 1 ≤ w2.heap.size := by have := hb2.size; simpa using this
  have HB : Hid (Below w.heap.size w w2) := (hb1.alloc hb1.size _).trans (hb2.mono (by have := hb1.size; omega))
  have HZ : Hid (w.heap.size ≤ w1.heap.size) := hb1.size
  clear hb1 hb2
  have xv : (((w2.alloc (.cells #[.string ⟨val.toArray⟩] 9)).alloc (.cells #[.bool set] 4)).alloc (.map #[] 0)).cell? ⟨w2.heap.size, 0, none⟩ = some (.string ⟨val.toArray⟩) := cell_old _ (cell_old _ (cell_new1 _ _ _))
  have xs : (((w2.alloc (.cells #[.string ⟨val.toArray⟩] 9)).alloc (.cells #[.bool set] 4)).alloc (.map #[] 0)).cell? ⟨w2.heap.size + 1, 0, none⟩ = some (.bool set) := cell_old _ (cell_new1' _ _ _ _)
  have xt : (((w2.alloc (.cells #[.string ⟨val.toArray⟩] 9)).alloc (.cells #[.bool set] 4)).alloc (.map #[] 0)).cell? ⟨w1.heap.size, 0, none⟩ = some (.string ⟨tx.toArray⟩) := cell_old _ (cell_old _ (cell_old _ xt0))
  have HXV := Lib.hid xv
  have HXS := Lib.hid xs
  have HXT := Lib.hid xt
  clear xv xs xt xt0
  go_wp2_with (first
    | (refine wpList_smap_put rfl (.tmp 28) (.const (.string ⟨#[]⟩)) (.tmp 29) 243 9 53 (.inr rfl) Tryz.underlying243 Tryz.underlying9 (w2.heap.size + 1 + 1) [] (by have h := SMap.new ((w2.alloc (.cells #[.string ⟨val.toArray⟩] 9)).alloc (.cells #[.bool set] 4)); simpa using h) [] (.func (.func 176) #[] #[.pointer (some ⟨w2.heap.size + 1, 0, none⟩)]) rfl rfl rfl ?_; intro m1 hm1 hg1 hz1)
    | (refine wpList_smap_put rfl (.tmp 28) (.const (.string ⟨#[33]⟩)) (.tmp 30) 243 9 53 (.inr rfl) Tryz.underlying243 Tryz.underlying9 (w2.heap.size + 1 + 1) _ hm1 [33] (.func (.func 177) #[] #[.pointer (some ⟨w2.heap.size + 1, 0, none⟩)]) rfl rfl rfl ?_; intro m2 hm2 hg2 hz2)
    | (refine wpList_smap_put rfl (.tmp 28) (.const (.string ⟨#[61]⟩)) (.tmp 31) 243 9 53 (.inr rfl) Tryz.underlying243 Tryz.underlying9 (w2.heap.size + 1 + 1) _ hm2 [61] (.func (.func 178) #[] #[.pointer (some ⟨w2.heap.size + 1, 0, none⟩), .pointer (some ⟨w2.heap.size, 0, none⟩), .pointer (some ⟨w1.heap.size, 0, none⟩)]) rfl rfl rfl ?_; intro m3 hm3 hg3 hz3)
    | (refine wpList_smap_put rfl (.tmp 28) (.const (.string ⟨#[33, 61]⟩)) (.tmp 32) 243 9 53 (.inr rfl) Tryz.underlying243 Tryz.underlying9 (w2.heap.size + 1 + 1) _ hm3 [33, 61] (.func (.func 179) #[] #[.pointer (some ⟨w2.heap.size + 1, 0, none⟩), .pointer (some ⟨w2.heap.size, 0, none⟩), .pointer (some ⟨w1.heap.size, 0, none⟩)]) rfl rfl rfl ?_; intro m4 hm4 hg4 hz4)
    | (refine wpList_smap_lookup rfl (.tmp 35) (.tmp 36) 243 9 53 false rfl Tryz.underlying243 Tryz.underlying9 .nilFunc (zeroF _) (w2.heap.size + 1 + 1) _ hm4 [33] rfl rfl ?_; rw [show (mapGet (mapPut (mapPut (mapPut (mapPut [] [] (.func (.func 176) #[] #[.pointer (some ⟨w2.heap.size + 1, 0, none⟩)])) [33] (.func (.func 177) #[] #[.pointer (some ⟨w2.heap.size + 1, 0, none⟩)])) [61] (.func (.func 178) #[] #[.pointer (some ⟨w2.heap.size + 1, 0, none⟩), .pointer (some ⟨w2.heap.size, 0, none⟩), .pointer (some ⟨w1.heap.size, 0, none⟩)])) [33, 61] (.func (.func 179) #[] #[.pointer (some ⟨w2.heap.size + 1, 0, none⟩), .pointer (some ⟨w2.heap.size, 0, none⟩), .pointer (some ⟨w1.heap.size, 0, none⟩)])) [33]).getD .nilFunc = .func (.func 177) #[] #[.pointer (some ⟨w2.heap.size + 1, 0, none⟩)] from rfl]))
  have qv := hg4.cell (hg3.cell (hg2.cell (hg1.cell HXV.out (ne_row (show w2.heap.size ≠ w2.heap.size + 1 + 1 by omega))) (ne_row (show w2.heap.size ≠ w2.heap.size + 1 + 1 by omega))) (ne_row (show w2.heap.size ≠ w2.heap.size + 1 + 1 by omega))) (ne_row (show w2.heap.size ≠ w2.heap.size + 1 + 1 by omega))
  have qs := hg4.cell (hg3.cell (hg2.cell (hg1.cell HXS.out (ne_row (show w2.heap.size + 1 ≠ w2.heap.size + 1 + 1 by omega))) (ne_row (show w2.heap.size + 1 ≠ w2.heap.size + 1 + 1 by omega))) (ne_row (show w2.heap.size + 1 ≠ w2.heap.size + 1 + 1 by omega))) (ne_row (show w2.heap.size + 1 ≠ w2.heap.size + 1 + 1 by omega))
  have qt := hg4.cell (hg3.cell (hg2.cell (hg1.cell HXT.out (ne_row (show w1.heap.size ≠ w2.heap.size + 1 + 1 by omega))) (ne_row (show w1.heap.size ≠ w2.heap.size + 1 + 1 by omega))) (ne_row (show w1.heap.size ≠ w2.heap.size + 1 + 1 by omega))) (ne_row (show w1.heap.size ≠ w2.heap.size + 1 + 1 by omega))
  refine (clo2_any (w2.heap.size + 1) set m4 qs).mono ?_
  rintro e w' ⟨rfl, rfl⟩
  go_wp2_with fail
  go_ret3
  have hz : w2.heap.size ≤ m4.heap.size := by rw [hz4, hz3, hz2, hz1]; simp; omega
  have hB2 : Below w2.heap.size w2 (((w2.alloc (.cells #[.string ⟨val.toArray⟩] 9)).alloc (.cells #[.bool set] 4)).alloc (.map #[] 0)) := (((Below.refl _ _).alloc (Nat.le_refl _) _).alloc (by simp) _).alloc (by simp; omega) _
  have hB3 := (((hB2.grown hg1 (by simp; omega) (by intro k hk; cases hk; omega)).grown hg2 (by rw [hz1]; simp; omega) (by intro k hk; cases hk; omega)).grown hg3 (by rw [hz2, hz1]; simp; omega) (by intro k hk; cases hk; omega)).grown hg4 (by rw [hz3, hz2, hz1]; simp; omega) (by intro k hk; cases hk; omega)
  exact ⟨by first | rfl | simp, HB.out.trans (hB3.mono HB.out.size)⟩

set_option maxHeartbeats 4000000 in
theorem ask_3 (a : Option Addr) (ca : Nat) (l : List Two) (c : Bytes) (nm tx : Bytes) (w : World) (hn : l.length ≤ 1048576) (hc : c.length ≤ 1048576) (hA : At w 2 encT a l) (hM : MaxOk w) (hsp : splitP c = ([61], nm, tx, true)) :
    Calls Tryz.prog 149 #[.slice a l.length ca, .string ⟨c.toArray⟩] w fun e w' => e = .returned (.tuple #[.string ⟨nm.toArray⟩, .bool (holdsP l [61] nm tx), .int .i64 0]) ∧ Below w.heap.size w w' := by
  have HS := Lib.hid (split_any c w hc hM)
  rw [hsp] at HS
  have HA := Lib.hid hA
  clear hA hsp hM
  have hpost : holdsP l [61] nm tx = ((getL l nm).isSome && ((getL l nm).getD [] == tx)) := by simp [holdsP]
  rw [hpost]
  clear hpost
  have hgv := getV_eq l nm
  generalize (getL l nm).getD [] = val at *
  generalize (getL l nm).isSome = set at *
  have HGV := Lib.hid hgv
  clear hgv
  have hmm := @run_makeMap Tryz.prog
  go_enter Tryz.func149, Tryz.ntmps149
  go_wp2_with fail
  refine HS.out.mono ?_
  rintro e w1 ⟨rfl, hb1⟩
  unfold splitV
  have HG := Lib.hid (fun w hA => get_any a ca l nm w hn hA)
  go_wp2_with fail
  refine (HG.out _ (HA.out.below (hb1.alloc hb1.size _))).mono ?_
  rw [HGV.out]
  rintro e w2 ⟨rfl, hb2⟩
  clear HG HA
  rw [World.size_alloc] at hb2
  have xt0 : w2.cell? ⟨w1.heap.size, 0, none⟩ = some (.string ⟨tx.toArray⟩) := by rw [hb2.cell (p := ⟨w1.heap.size, 0, none⟩) (Nat.lt_succ_self _)]; simp
  have hz12 : w1.heap.size + 1 ≤ w2.heap.size := by have := hb2.size; simpa using this
  have HB : Hid (Below w.heap.size w w2) := (hb1.alloc hb1.size _).trans (hb2.mono (by have := hb1.size; omega))
  have HZ : Hid (w.heap.size ≤ w1.heap.size) := hb1.size
  clear hb1 hb2
  have xv : (((w2.alloc (.cells #[.string ⟨val.toArray⟩] 9)).alloc (.cells #[.bool set] 4)).alloc (.map #[] 0)).cell? ⟨w2.heap.size, 0, none⟩ = some (.string ⟨val.toArray⟩) := cell_old _ (cell_old _ (cell_new1 _ _ _))
  have xs : (((w2.alloc (.cells #[.string ⟨val.toArray⟩] 9)).alloc (.cells #[.bool set] 4)).alloc (.map #[] 0)).cell? ⟨w2.heap.size + 1, 0, none⟩ = some (.bool set) := cell_old _ (cell_new1' _ _ _ _)
  have xt : (((w2.alloc (.cells #[.string ⟨val.toArray⟩] 9)).alloc (.cells #[.bool set] 4)).alloc (.map #[] 0)).cell? ⟨w1.heap.size, 0, none⟩ = some (.string ⟨tx.toArray⟩) := cell_old _ (cell_old _ (cell_old _ xt0))
  have HXV := Lib.hid xv
  have HXS := Lib.hid xs
  have HXT := Lib.hid xt
  clear xv xs xt xt0
  go_wp2_with (first
    | (refine wpList_smap_put rfl (.tmp 28) (.const (.string ⟨#[]⟩)) (.tmp 29) 243 9 53 (.inr rfl) Tryz.underlying243 Tryz.underlying9 (w2.heap.size + 1 + 1) [] (by have h := SMap.new ((w2.alloc (.cells #[.string ⟨val.toArray⟩] 9)).alloc (.cells #[.bool set] 4)); simpa using h) [] (.func (.func 176) #[] #[.pointer (some ⟨w2.heap.size + 1, 0, none⟩)]) rfl rfl rfl ?_; intro m1 hm1 hg1 hz1)
    | (refine wpList_smap_put rfl (.tmp 28) (.const (.string ⟨#[33]⟩)) (.tmp 30) 243 9 53 (.inr rfl) Tryz.underlying243 Tryz.underlying9 (w2.heap.size + 1 + 1) _ hm1 [33] (.func (.func 177) #[] #[.pointer (some ⟨w2.heap.size + 1, 0, none⟩)]) rfl rfl rfl ?_; intro m2 hm2 hg2 hz2)
    | (refine wpList_smap_put rfl (.tmp 28) (.const (.string ⟨#[61]⟩)) (.tmp 31) 243 9 53 (.inr rfl) Tryz.underlying243 Tryz.underlying9 (w2.heap.size + 1 + 1) _ hm2 [61] (.func (.func 178) #[] #[.pointer (some ⟨w2.heap.size + 1, 0, none⟩), .pointer (some ⟨w2.heap.size, 0, none⟩), .pointer (some ⟨w1.heap.size, 0, none⟩)]) rfl rfl rfl ?_; intro m3 hm3 hg3 hz3)
    | (refine wpList_smap_put rfl (.tmp 28) (.const (.string ⟨#[33, 61]⟩)) (.tmp 32) 243 9 53 (.inr rfl) Tryz.underlying243 Tryz.underlying9 (w2.heap.size + 1 + 1) _ hm3 [33, 61] (.func (.func 179) #[] #[.pointer (some ⟨w2.heap.size + 1, 0, none⟩), .pointer (some ⟨w2.heap.size, 0, none⟩), .pointer (some ⟨w1.heap.size, 0, none⟩)]) rfl rfl rfl ?_; intro m4 hm4 hg4 hz4)
    | (refine wpList_smap_lookup rfl (.tmp 35) (.tmp 36) 243 9 53 false rfl Tryz.underlying243 Tryz.underlying9 .nilFunc (zeroF _) (w2.heap.size + 1 + 1) _ hm4 [61] rfl rfl ?_; rw [show (mapGet (mapPut (mapPut (mapPut (mapPut [] [] (.func (.func 176) #[] #[.pointer (some ⟨w2.heap.size + 1, 0, none⟩)])) [33] (.func (.func 177) #[] #[.pointer (some ⟨w2.heap.size + 1, 0, none⟩)])) [61] (.func (.func 178) #[] #[.pointer (some ⟨w2.heap.size + 1, 0, none⟩), .pointer (some ⟨w2.heap.size, 0, none⟩), .pointer (some ⟨w1.heap.size, 0, none⟩)])) [33, 61] (.func (.func 179) #[] #[.pointer (some ⟨w2.heap.size + 1, 0, none⟩), .pointer (some ⟨w2.heap.size, 0, none⟩), .pointer (some ⟨w1.heap.size, 0, none⟩)])) [61]).getD .nilFunc = .func (.func 178) #[] #[.pointer (some ⟨w2.heap.size + 1, 0, none⟩), .pointer (some ⟨w2.heap.size, 0, none⟩), .pointer (some ⟨w1.heap.size, 0, none⟩)] from rfl]))
  have qv := hg4.cell (hg3.cell (hg2.cell (hg1.cell HXV.out (ne_row (show w2.heap.size ≠ w2.heap.size + 1 + 1 by omega))) (ne_row (show w2.heap.size ≠ w2.heap.size + 1 + 1 by omega))) (ne_row (show w2.heap.size ≠ w2.heap.size + 1 + 1 by omega))) (ne_row (show w2.heap.size ≠ w2.heap.size + 1 + 1 by omega))
  have qs := hg4.cell (hg3.cell (hg2.cell (hg1.cell HXS.out (ne_row (show w2.heap.size + 1 ≠ w2.heap.size + 1 + 1 by omega))) (ne_row (show w2.heap.size + 1 ≠ w2.heap.size + 1 + 1 by omega))) (ne_row (show w2.heap.size + 1 ≠ w2.heap.size + 1 + 1 by omega))) (ne_row (show w2.heap.size + 1 ≠ w2.heap.size + 1 + 1 by omega))
  have qt := hg4.cell (hg3.cell (hg2.cell (hg1.cell HXT.out (ne_row (show w1.heap.size ≠ w2.heap.size + 1 + 1 by omega))) (ne_row (show w1.heap.size ≠ w2.heap.size + 1 + 1 by omega))) (ne_row (show w1.heap.size ≠ w2.heap.size + 1 + 1 by omega))) (ne_row (show w1.heap.size ≠ w2.heap.size + 1 + 1 by omega))
  refine (clo3_any (w2.heap.size + 1) w2.heap.size w1.heap.size set val tx m4 qs qv qt).mono ?_
  rintro e w' ⟨rfl, rfl⟩
  go_wp2_with fail
  go_ret3
  have hz : w2.heap.size ≤ m4.heap.size := by rw [hz4, hz3, hz2, hz1]; simp; omega
  have hB2 : Below w2.heap.size w2 (((w2.alloc (.cells #[.string ⟨val.toArray⟩] 9)).alloc (.cells #[.bool set] 4)).alloc (.map #[] 0)) := (((Below.refl _ _).alloc (Nat.le_refl _) _).alloc (by simp) _).alloc (by simp; omega) _
  have hB3 := (((hB2.grown hg1 (by simp; omega) (by intro k hk; cases hk; omega)).grown hg2 (by rw [hz1]; simp; omega) (by intro k hk; cases hk; omega)).grown hg3 (by rw [hz2, hz1]; simp; omega) (by intro k hk; cases hk; omega)).grown hg4 (by rw [hz3, hz2, hz1]; simp; omega) (by intro k hk; cases hk; omega)
  exact ⟨by first | rfl | simp, HB.out.trans (hB3.mono HB.out.size)⟩

set_option maxHeartbeats 4000000 in
theorem ask_4 (a : Option Addr) (ca : Nat) (l : List Two) (c : Bytes) (nm tx : Bytes) (w : World) (hn : l.length ≤ 1048576) (hc : c.length ≤ 1048576) (hA : At w 2 encT a l) (hM : MaxOk w) (hsp : splitP c = ([33, 61], nm, tx, true)) :
    Calls Tryz.prog 149 #[.slice a l.length ca, .string ⟨c.toArray⟩] w fun e w' => e = .returned (.tuple #[.string ⟨nm.toArray⟩, .bool (holdsP l [33, 61] nm tx), .int .i64 0]) ∧ Below w.heap.size w w' := by
  have HS := Lib.hid (split_any c w hc hM)
  rw [hsp] at HS
  have HA := Lib.hid hA
  clear hA hsp hM
  have hpost : holdsP l [33, 61] nm tx = (!((getL l nm).isSome && ((getL l nm).getD [] == tx))) := by simp [holdsP]
  rw [hpost]
  clear hpost
  have hgv := getV_eq l nm
  generalize (getL l nm).getD [] = val at *
  generalize (getL l nm).isSome = set at *
  have HGV := Lib.hid hgv
  clear hgv
  have hmm := @run_makeMap Tryz.prog
  go_enter Tryz.func149, Tryz.ntmps149
  go_wp2_with fail
  refine HS.out.mono ?_
  rintro e w1 ⟨rfl, hb1⟩
  unfold splitV
  have HG := Lib.hid (fun w hA => get_any a ca l nm w hn hA)
  go_wp2_with fail
  refine (HG.out _ (HA.out.below (hb1.alloc hb1.size _))).mono ?_
  rw [HGV.out]
  rintro e w2 ⟨rfl, hb2⟩
  clear HG HA
  rw [World.size_alloc] at hb2
  have xt0 : w2.cell? ⟨w1.heap.size, 0, none⟩ = some (.string ⟨tx.toArray⟩) := by rw [hb2.cell (p := ⟨w1.heap.size, 0, none⟩) (Nat.lt_succ_self _)]; simp
  have hz12 : w1.heap.size + 1 ≤ w2.heap.size := by have := hb2.size; simpa using this
  have HB : Hid (Below w.heap.size w w2) := (hb1.alloc hb1.size _).trans (hb2.mono (by have := hb1.size; omega))
  have HZ : Hid (w.heap.size ≤ w1.heap.size) := hb1.size
  clear hb1 hb2
  have xv : (((w2.alloc (.cells #[.string ⟨val.toArray⟩] 9)).alloc (.cells #[.bool set] 4)).alloc (.map #[] 0)).cell? ⟨w2.heap.size, 0, none⟩ = some (.string ⟨val.toArray⟩) := cell_old _ (cell_old _ (cell_new1 _ _ _))
  have xs : (((w2.alloc (.cells #[.string ⟨val.toArray⟩] 9)).alloc (.cells #[.bool set] 4)).alloc (.map #[] 0)).cell? ⟨w2.heap.size + 1, 0, none⟩ = some (.bool set) := cell_old _ (cell_new1' _ _ _ _)
  have xt : (((w2.alloc (.cells #[.string ⟨val.toArray⟩] 9)).alloc (.cells #[.bool set] 4)).alloc (.map #[] 0)).cell? ⟨w1.heap.size, 0, none⟩ = some (.string ⟨tx.toArray⟩) := cell_old _ (cell_old _ (cell_old _ xt0))
  have HXV := Lib.hid xv
  have HXS := Lib.hid xs
  have HXT := Lib.hid xt
  clear xv xs xt xt0
  go_wp2_with (first
    | (refine wpList_smap_put rfl (.tmp 28) (.const (.string ⟨#[]⟩)) (.tmp 29) 243 9 53 (.inr rfl) Tryz.underlying243 Tryz.underlying9 (w2.heap.size + 1 + 1) [] (by have h := SMap.new ((w2.alloc (.cells #[.string ⟨val.toArray⟩] 9)).alloc (.cells #[.bool set] 4)); simpa using h) [] (.func (.func 176) #[] #[.pointer (some ⟨w2.heap.size + 1, 0, none⟩)]) rfl rfl rfl ?_; intro m1 hm1 hg1 hz1)
    | (refine wpList_smap_put rfl (.tmp 28) (.const (.string ⟨#[33]⟩)) (.tmp 30) 243 9 53 (.inr rfl) Tryz.underlying243 Tryz.underlying9 (w2.heap.size + 1 + 1) _ hm1 [33] (.func (.func 177) #[] #[.pointer (some ⟨w2.heap.size + 1, 0, none⟩)]) rfl rfl rfl ?_; intro m2 hm2 hg2 hz2)
    | (refine wpList_smap_put rfl (.tmp 28) (.const (.string ⟨#[61]⟩)) (.tmp 31) 243 9 53 (.inr rfl) Tryz.underlying243 Tryz.underlying9 (w2.heap.size + 1 + 1) _ hm2 [61] (.func (.func 178) #[] #[.pointer (some ⟨w2.heap.size + 1, 0, none⟩), .pointer (some ⟨w2.heap.size, 0, none⟩), .pointer (some ⟨w1.heap.size, 0, none⟩)]) rfl rfl rfl ?_; intro m3 hm3 hg3 hz3)
    | (refine wpList_smap_put rfl (.tmp 28) (.const (.string ⟨#[33, 61]⟩)) (.tmp 32) 243 9 53 (.inr rfl) Tryz.underlying243 Tryz.underlying9 (w2.heap.size + 1 + 1) _ hm3 [33, 61] (.func (.func 179) #[] #[.pointer (some ⟨w2.heap.size + 1, 0, none⟩), .pointer (some ⟨w2.heap.size, 0, none⟩), .pointer (some ⟨w1.heap.size, 0, none⟩)]) rfl rfl rfl ?_; intro m4 hm4 hg4 hz4)
    | (refine wpList_smap_lookup rfl (.tmp 35) (.tmp 36) 243 9 53 false rfl Tryz.underlying243 Tryz.underlying9 .nilFunc (zeroF _) (w2.heap.size + 1 + 1) _ hm4 [33, 61] rfl rfl ?_; rw [show (mapGet (mapPut (mapPut (mapPut (mapPut [] [] (.func (.func 176) #[] #[.pointer (some ⟨w2.heap.size + 1, 0, none⟩)])) [33] (.func (.func 177) #[] #[.pointer (some ⟨w2.heap.size + 1, 0, none⟩)])) [61] (.func (.func 178) #[] #[.pointer (some ⟨w2.heap.size + 1, 0, none⟩), .pointer (some ⟨w2.heap.size, 0, none⟩), .pointer (some ⟨w1.heap.size, 0, none⟩)])) [33, 61] (.func (.func 179) #[] #[.pointer (some ⟨w2.heap.size + 1, 0, none⟩), .pointer (some ⟨w2.heap.size, 0, none⟩), .pointer (some ⟨w1.heap.size, 0, none⟩)])) [33, 61]).getD .nilFunc = .func (.func 179) #[] #[.pointer (some ⟨w2.heap.size + 1, 0, none⟩), .pointer (some ⟨w2.heap.size, 0, none⟩), .pointer (some ⟨w1.heap.size, 0, none⟩)] from rfl]))
  have qv := hg4.cell (hg3.cell (hg2.cell (hg1.cell HXV.out (ne_row (show w2.heap.size ≠ w2.heap.size + 1 + 1 by omega))) (ne_row (show w2.heap.size ≠ w2.heap.size + 1 + 1 by omega))) (ne_row (show w2.heap.size ≠ w2.heap.size + 1 + 1 by omega))) (ne_row (show w2.heap.size ≠ w2.heap.size + 1 + 1 by omega))
  have qs := hg4.cell (hg3.cell (hg2.cell (hg1.cell HXS.out (ne_row (show w2.heap.size + 1 ≠ w2.heap.size + 1 + 1 by omega))) (ne_row (show w2.heap.size + 1 ≠ w2.heap.size + 1 + 1 by omega))) (ne_row (show w2.heap.size + 1 ≠ w2.heap.size + 1 + 1 by omega))) (ne_row (show w2.heap.size + 1 ≠ w2.heap.size + 1 + 1 by omega))
  have qt := hg4.cell (hg3.cell (hg2.cell (hg1.cell HXT.out (ne_row (show w1.heap.size ≠ w2.heap.size + 1 + 1 by omega))) (ne_row (show w1.heap.size ≠ w2.heap.size + 1 + 1 by omega))) (ne_row (show w1.heap.size ≠ w2.heap.size + 1 + 1 by omega))) (ne_row (show w1.heap.size ≠ w2.heap.size + 1 + 1 by omega))
  refine (clo4_any (w2.heap.size + 1) w2.heap.size w1.heap.size set val tx m4 qs qv qt).mono ?_
  rintro e w' ⟨rfl, rfl⟩
  go_wp2_with fail
  go_ret3
  have hz : w2.heap.size ≤ m4.heap.size := by rw [hz4, hz3, hz2, hz1]; simp; omega
  have hB2 : Below w2.heap.size w2 (((w2.alloc (.cells #[.string ⟨val.toArray⟩] 9)).alloc (.cells #[.bool set] 4)).alloc (.map #[] 0)) := (((Below.refl _ _).alloc (Nat.le_refl _) _).alloc (by simp) _).alloc (by simp; omega) _
  have hB3 := (((hB2.grown hg1 (by simp; omega) (by intro k hk; cases hk; omega)).grown hg2 (by rw [hz1]; simp; omega) (by intro k hk; cases hk; omega)).grown hg3 (by rw [hz2, hz1]; simp; omega) (by intro k hk; cases hk; omega)).grown hg4 (by rw [hz3, hz2, hz1]; simp; omega) (by intro k hk; cases hk; omega)
  exact ⟨by first | rfl | simp, HB.out.trans (hB3.mono HB.out.size)⟩

set_option maxHeartbeats 2000000 in
theorem ask_bad (a : Option Addr) (ca : Nat) (l : List Two) (c : Bytes) (w : World) (hc : c.length ≤ 1048576) (hM : MaxOk w) (hsp : (splitP c).2.2.2 = false) :
    Calls Tryz.prog 149 #[.slice a l.length ca, .string ⟨c.toArray⟩] w fun e w' => e = .returned (.tuple #[.string ⟨#[]⟩, .bool false, .int .i64 4]) ∧ Below w.heap.size w w' := by
  have HS := Lib.hid (split_any c w hc hM)
  obtain ⟨sg, nm, tx, ok, hq⟩ : ∃ sg nm tx ok, splitP c = (sg, nm, tx, ok) := ⟨_, _, _, _, rfl⟩
  rw [hq] at HS hsp
  simp only at hsp
  subst hsp
  clear hq hM
  go_enter Tryz.func149, Tryz.ntmps149
  go_wp2_with fail
  refine HS.out.mono ?_
  rintro e w1 ⟨rfl, hb1⟩
  unfold splitV
  go_wp2_with fail
  go_ret3
  exact ⟨rfl, hb1.alloc hb1.size _⟩

theorem ask_any (a : Option Addr) (ca : Nat) (l : List Two) (c : Bytes) (w : World) (hn : l.length ≤ 1048576) (hc : c.length ≤ 1048576) (hA : At w 2 encT a l) (hM : MaxOk w) :
    Calls Tryz.prog 149 #[.slice a l.length ca, .string ⟨c.toArray⟩] w fun e w' => e = .returned (askP l c) ∧ Below w.heap.size w w' := by
  unfold askP
  cases hok : (splitP c).2.2.2
  · rw [if_neg (by simp)]
    exact ask_bad a ca l c w hc hM hok
  · rw [if_pos rfl]
    have hs := splitP_sign c
    obtain ⟨sg, nm, tx, ok, hq⟩ : ∃ sg nm tx ok, splitP c = (sg, nm, tx, ok) := ⟨_, _, _, _, rfl⟩
    rw [hq] at hok hs ⊢
    simp only at hok hs ⊢
    subst hok
    rcases hs with rfl | rfl | rfl | rfl
    · exact ask_1 a ca l c nm tx w hn hc hA hM hq
    · exact ask_2 a ca l c nm tx w hn hc hA hM hq
    · exact ask_3 a ca l c nm tx w hn hc hA hM hq
    · exact ask_4 a ca l c nm tx w hn hc hA hM hq
end Go.Proofs.YtfedkhicckgjaaaGreatDoor
