/- Names, each unlike those ahead: the plain laws. No program is named here. Lists of strings as a list type. slugs.Unlike. -/
import Derived.Test.YtohinfefidahlaaGreatDoorJoA
import Derived.Lib.ItoaMem
import Derived.Lib.ItoaLen
import Derived.Laws.CopyOwn
import Derived.Test.YtohinfefidahlaaGreatDoorJoD
import Derived.Test.YtohinfefidahlaaGreatDoorShelf
import Derived.Lib.SmallJoins
import Derived.Lib.AppendIntMem
namespace Go.Proofs.YtohinfefidahlaaGreatDoor
open Go.RowKit
set_option linter.unusedVariables false

/-! ### numbers as texts -/
theorem dec_step {u : Nat} (h : ¬ u < 10) : Lib.decDigits u = Lib.decDigits (u / 10) ++ [UInt8.ofNat (48 + u % 10)] := by
  rw [Lib.decDigits, dif_neg h]
theorem dig_inj {a b : Nat} (ha : a < 10) (hb : b < 10) (h : UInt8.ofNat (48 + a) = UInt8.ofNat (48 + b)) : a = b := by
  have := congrArg UInt8.toNat h
  simp at this
  omega
theorem dec_ne_nil (u : Nat) : Lib.decDigits u ≠ [] := by
  rw [Lib.decDigits]
  split <;> simp
theorem dec_inj : ∀ (n a b : Nat), a ≤ n → Lib.decDigits a = Lib.decDigits b → a = b := by
  intro n
  induction n with
  | zero =>
    intro a b ha h
    obtain rfl : a = 0 := by omega
    by_cases hb : b < 10
    · rw [Lib.decDigits_one (by omega), Lib.decDigits_one hb] at h
      injection h with h
      exact dig_inj (by omega) hb h
    · rw [Lib.decDigits_one (by omega), dec_step hb] at h
      have := congrArg List.length h
      simp at this
      exact absurd this (dec_ne_nil _)
  | succ n ih =>
    intro a b ha h
    by_cases h1 : a < 10
    · by_cases hb : b < 10
      · rw [Lib.decDigits_one h1, Lib.decDigits_one hb] at h
        injection h with h
        exact dig_inj h1 hb h
      · rw [Lib.decDigits_one h1, dec_step hb] at h
        have := congrArg List.length h
        simp at this
        exact absurd this (dec_ne_nil _)
    · by_cases hb : b < 10
      · rw [Lib.decDigits_one hb, dec_step h1] at h
        have := congrArg List.length h
        simp at this
        exact absurd this (dec_ne_nil _)
      · rw [dec_step h1, dec_step hb] at h
        have h2 := List.append_inj' h rfl
        have h3 := ih (a / 10) (b / 10) (by omega) h2.1
        have h4 := h2.2
        injection h4 with h4
        have := dig_inj (by omega) (by omega) h4
        omega

/-! ### the names that are tried -/
def cand (s : Bytes) (j : Nat) : Bytes := if j = 0 then s else s ++ 45 :: Lib.decDigits (j + 1)
theorem cand_zero (s : Bytes) : cand s 0 = s := rfl
theorem cand_succ (s : Bytes) {j : Nat} (h : j ≠ 0) : cand s j = s ++ 45 :: Lib.decDigits (j + 1) := if_neg h
theorem cand_inj {s : Bytes} {i j : Nat} (h : cand s i = cand s j) : i = j := by
  by_cases hi : i = 0
  · by_cases hj : j = 0
    · omega
    · subst hi
      rw [cand_zero, cand_succ s hj] at h
      have := congrArg List.length h
      simp at this
  · by_cases hj : j = 0
    · subst hj
      rw [cand_zero, cand_succ s hi] at h
      have := congrArg List.length h
      simp at this
    · rw [cand_succ s hi, cand_succ s hj] at h
      have h := List.append_cancel_left h
      injection h with _ h
      have := dec_inj _ _ _ (Nat.le_refl _) h
      omega
theorem nodup_le : ∀ (l m : List Bytes), l.Nodup → (∀ x ∈ l, x ∈ m) → l.length ≤ m.length
  | [], _, _, _ => by simp
  | x :: l, m, hd, h => by
    rw [List.nodup_cons] at hd
    have hx := h x (by simp)
    have := nodup_le l (m.erase x) hd.2 (fun y hy => by
      have hne : y ≠ x := fun e => hd.1 (e ▸ hy)
      exact (List.mem_erase_of_ne hne).2 (h y (by simp [hy])))
    rw [List.length_erase_of_mem hx] at this
    have := List.length_pos_of_mem hx
    rw [List.length_cons]; omega
theorem cands_nodup (s : Bytes) (n : Nat) : ((List.range n).map (cand s)).Nodup := by
  induction n with
  | zero => simp
  | succ n ih =>
    rw [List.range_succ, List.map_append, List.nodup_append]
    refine ⟨ih, by simp, ?_⟩
    intro a ha b hb e
    subst e
    obtain ⟨i, hi, rfl⟩ := List.mem_map.1 ha
    simp at hb
    have := cand_inj hb
    have := List.mem_range.1 hi
    omega
/-- so many are tried at most -/
theorem tried_le {s : Bytes} {out : List Bytes} {n : Nat} (h : ∀ i, i < n → cand s i ∈ out) : n ≤ out.length := by
  have := nodup_le _ out (cands_nodup s n) (fun x hx => by
    obtain ⟨i, hi, rfl⟩ := List.mem_map.1 hx
    exact h i (List.mem_range.1 hi))
  simpa using this
/-- j is the first that is free -/
def Free (out : List Bytes) (s : Bytes) (j : Nat) : Prop := cand s j ∉ out ∧ ∀ i, i < j → cand s i ∈ out
theorem Free.unique {out : List Bytes} {s : Bytes} {i j : Nat} (h : Free out s i) (k : Free out s j) : i = j := by
  rcases Nat.lt_trichotomy i j with c | c | c
  · exact absurd (k.2 i c) h.1
  · exact c
  · exact absurd (h.2 j c) k.1
theorem Free.le {out : List Bytes} {s : Bytes} {j : Nat} (h : Free out s j) : j ≤ out.length := tried_le h.2
def freeJ (out : List Bytes) (s : Bytes) : Nat → Nat → Nat
  | 0, j => j
  | f + 1, j => if out.contains (cand s j) = true then freeJ out s f (j + 1) else j
theorem freeJ_free (out : List Bytes) (s : Bytes) : ∀ (f j : Nat), out.length < f + j → (∀ i, i < j → cand s i ∈ out) → Free out s (freeJ out s f j)
  | 0, j, hf, h => by have := tried_le h; omega
  | f + 1, j, hf, h => by
    unfold freeJ
    by_cases hc : out.contains (cand s j) = true
    · rw [if_pos hc]
      refine freeJ_free out s f (j + 1) (by omega) fun i hi => ?_
      rcases Nat.lt_succ_iff_lt_or_eq.1 hi with hlt | rfl
      · exact h i hlt
      · simpa using hc
    · rw [if_neg hc]
      exact ⟨by simpa using hc, h⟩
def firstJ (out : List Bytes) (s : Bytes) : Nat := freeJ out s (out.length + 1) 0
theorem firstJ_free (out : List Bytes) (s : Bytes) : Free out s (firstJ out s) := freeJ_free out s _ 0 (by omega) (fun i hi => absurd hi (by omega))
theorem firstJ_of {out : List Bytes} {s : Bytes} {j : Nat} (h : Free out s j) : firstJ out s = j := (firstJ_free out s).unique h
def nameJ (out : List Bytes) (s : Bytes) : Bytes := cand s (firstJ out s)
theorem nameJ_of {out : List Bytes} {s : Bytes} {j : Nat} (h : Free out s j) : nameJ out s = cand s j := by unfold nameJ; rw [firstJ_of h]
def stepU (out : List Bytes) (s : Bytes) : List Bytes := out ++ [nameJ out s]
def unlike (l : List Bytes) : List Bytes := l.foldl stepU []
theorem unlike_take {l : List Bytes} {k : Nat} (h : k < l.length) : unlike (l.take (k + 1)) = unlike (l.take k) ++ [nameJ (unlike (l.take k)) l[k]] := by
  unfold unlike
  rw [List.take_succ_eq_append_getElem h, List.foldl_append]
  rfl
theorem unlike_len_take (l : List Bytes) : ∀ k, k ≤ l.length → (unlike (l.take k)).length = k
  | 0, _ => by simp [unlike]
  | k + 1, h => by rw [unlike_take (by omega), List.length_append, unlike_len_take l k (by omega)]; rfl
theorem unlike_len (l : List Bytes) : (unlike l).length = l.length := by
  have := unlike_len_take l l.length (Nat.le_refl _)
  rwa [List.take_length] at this
theorem dec_len (n : Nat) (h : n ≤ 9223372036854775807) : (Lib.decDigits n).length ≤ 21 := by
  have := Lib.itoa_length_le (n : Int) (by omega) (by omega)
  rwa [Lib.itoa_nonneg] at this
theorem cand_len (s : Bytes) {j : Nat} (h : j ≤ 1000000) : s.length ≤ (cand s j).length ∧ (cand s j).length ≤ s.length + 22 := by
  by_cases hj : j = 0
  · subst hj; simp [cand]
  · rw [cand_succ s hj]
    have := dec_len (j + 1) (by omega)
    simp; omega
theorem unlike_mem {l : List Bytes} {x : Bytes} : ∀ k, k ≤ l.length → x ∈ unlike (l.take k) → ∃ s ∈ l, ∃ j, j < l.length ∧ x = cand s j
  | 0, _, h => by simp [unlike] at h
  | k + 1, hk, h => by
    rw [unlike_take (by omega)] at h
    rcases List.mem_append.1 h with h | h
    · exact unlike_mem k (by omega) h
    · simp at h
      have hj := (firstJ_free (unlike (l.take k)) (l[k]'(by omega))).le
      rw [unlike_len_take l k (by omega)] at hj
      exact ⟨_, List.getElem_mem (by omega), _, by omega, h⟩
end Go.Proofs.YtohinfefidahlaaGreatDoor

namespace Go.Proofs.YtohinfefidahlaaGreatDoor
open Go.RowKit

theorem slstrs : SlTy Tryz.prog 27 9 1 16 := ⟨Tryz.underlying27, .string ⟨#[]⟩, by kernel_rfl, rfl, by decide⟩
end Go.Proofs.YtohinfefidahlaaGreatDoor

namespace Go.Proofs.YtohinfefidahlaaGreatDoor
open Go.RowKit
set_option linter.unusedVariables false

/-! ### the names that were answered, each with the number to be tried next -/
def MInv (out : List Bytes) (m : KV) : Prop := (∀ x, x ∈ out ↔ (mapGet m x).isSome = true) ∧ ∀ x v, mapGet m x = some v → ∃ n : Nat, v = .int .i64 n ∧ 2 ≤ n ∧ ∀ i, i + 1 < n → cand x i ∈ out
theorem MInv.nil : MInv [] [] := ⟨fun x => by simp [mapGet], fun x v h => by simp [mapGet] at h⟩
theorem MInv.not {out : List Bytes} {m : KV} {x : Bytes} (h : MInv out m) (hx : mapGet m x = none) : x ∉ out := fun e => by have := (h.1 x).1 e; rw [hx] at this; cases this
theorem MInv.is {out : List Bytes} {m : KV} {x : Bytes} {v : Value} (h : MInv out m) (hx : mapGet m x = some v) : x ∈ out := (h.1 x).2 (by rw [hx]; rfl)
theorem MInv.fresh {out : List Bytes} {m : KV} {s : Bytes} (h : MInv out m) (hs : mapGet m s = none) : nameJ out s = s ∧ MInv (out ++ [s]) (mapPut m s (.int .i64 2)) := by
  have hf : Free out s 0 := ⟨h.not hs, fun i hi => absurd hi (by omega)⟩
  refine ⟨nameJ_of hf, fun x => ?_, fun x v hx => ?_⟩
  · rw [mapGet_put, List.mem_append, List.mem_singleton]
    by_cases he : x = s
    · simp [he]
    · rw [if_neg he, ← h.1 x]; simp [he]
  · rw [mapGet_put] at hx
    by_cases he : x = s
    · rw [if_pos he] at hx
      injection hx with hx
      refine ⟨2, hx.symm, by omega, fun i hi => ?_⟩
      obtain rfl : i = 0 := by omega
      rw [cand_zero, he]; simp
    · rw [if_neg he] at hx
      obtain ⟨n, hn, h2, hc⟩ := h.2 x v hx
      exact ⟨n, hn, h2, fun i hi => List.mem_append.2 (.inl (hc i hi))⟩
theorem MInv.tried {out : List Bytes} {m : KV} {s : Bytes} {t : Nat} (h : MInv out m) (ht : 3 ≤ t) (hf : Free out s (t - 2)) (hs : s ∈ out) :
    nameJ out s = cand s (t - 2) ∧ MInv (out ++ [cand s (t - 2)]) (mapPut (mapPut m s (.int .i64 t)) (cand s (t - 2)) (.int .i64 2)) := by
  refine ⟨nameJ_of hf, fun x => ?_, fun x v hx => ?_⟩
  · rw [mapGet_put, List.mem_append, List.mem_singleton, mapGet_put]
    by_cases he : x = cand s (t - 2)
    · simp [he]
    · rw [if_neg he]
      by_cases h2 : x = s
      · subst h2; simp [hs]
      · rw [if_neg h2, ← h.1 x]; simp [he]
  · rw [mapGet_put] at hx
    by_cases he : x = cand s (t - 2)
    · rw [if_pos he] at hx
      injection hx with hx
      refine ⟨2, hx.symm, by omega, fun i hi => ?_⟩
      obtain rfl : i = 0 := by omega
      rw [cand_zero, he]; simp
    · rw [if_neg he, mapGet_put] at hx
      by_cases h2 : x = s
      · rw [if_pos h2] at hx
        injection hx with hx
        subst h2
        refine ⟨t, hx.symm, by omega, fun i hi => ?_⟩
        by_cases hi2 : i = t - 2
        · subst hi2; simp
        · exact List.mem_append.2 (.inl (hf.2 i (by omega)))
      · rw [if_neg h2] at hx
        obtain ⟨n, hn, h3, hc⟩ := h.2 x v hx
        exact ⟨n, hn, h3, fun i hi => List.mem_append.2 (.inl (hc i hi))⟩
def InnerI (R : List Bytes) (s : Bytes) (t : Nat) (b : Bool) (nm : Bytes) : Prop :=
  (b = true ∧ ∀ i, i + 1 < t → cand s i ∈ R) ∨ (b = false ∧ nm = cand s (t - 2) ∧ 3 ≤ t ∧ Free R s (t - 2))
theorem InnerI.bound {R : List Bytes} {s nm : Bytes} {t : Nat} (h : InnerI R s t true nm) (h2 : 2 ≤ t) : t ≤ R.length + 1 := by
  rcases h with ⟨_, h⟩ | ⟨h, _⟩
  · have := tried_le (s := s) (out := R) (n := t - 1) (fun i hi => h i (by omega)); omega
  · cases h
theorem cand_at (s : Bytes) {t : Nat} (h : 2 ≤ t) : cand s (t - 1) = s ++ 45 :: Lib.decDigits t := by
  rw [cand_succ s (by omega), show t - 1 + 1 = t by omega]
theorem InnerI.hit {R : List Bytes} {s nm nm2 : Bytes} {t : Nat} (h : InnerI R s t true nm) (h2 : 2 ≤ t) (hm : cand s (t - 1) ∈ R) : InnerI R s (t + 1) true nm2 := by
  rcases h with ⟨_, h⟩ | ⟨h, _⟩
  · refine .inl ⟨rfl, fun i hi => ?_⟩
    by_cases e : i = t - 1
    · rw [e]; exact hm
    · exact h i (by omega)
  · cases h
theorem InnerI.miss {R : List Bytes} {s nm : Bytes} {t : Nat} (h : InnerI R s t true nm) (h2 : 2 ≤ t) (hm : cand s (t - 1) ∉ R) : InnerI R s (t + 1) false (cand s (t - 1)) := by
  rcases h with ⟨_, h⟩ | ⟨h, _⟩
  · have e : t + 1 - 2 = t - 1 := by omega
    refine .inr ⟨rfl, by rw [e], by omega, ?_⟩
    rw [e]
    exact ⟨hm, fun i hi => h i (by omega)⟩
  · cases h

section
variable {w : World}
theorem powTab : Tryz.prog.globalNamed "internal/strconv.uint64pow10" = some 1 := by kernel_rfl
def HasTab (w : World) : Prop := Lib.TabIs Tryz.prog w "internal/strconv.uint64pow10" .u64 Lib.pow10Tab
theorem HasTab.below {w' : World} (h : HasTab w) (hb : Below w.heap.size w w') : HasTab w' := Joins.tab_stays powTab h hb (Nat.le_refl _)
theorem itoa_any (t : Nat) (w : World) (h : t ≤ 9223372036854775807) (htab : HasTab w) :
    Calls Tryz.prog 146 #[.int .i64 t] w fun e w' => e = .returned (.string ⟨(Lib.decDigits t).toArray⟩) ∧ Below w.heap.size w w' :=
  (Tryz.strconv_Itoa (t : Int) (by omega) (by omega) w htab).mono fun e w' ⟨he, k, os, hw⟩ => ⟨by rw [he, Lib.itoa_nonneg], by rw [hw]; exact Lib.below_grow _ _ (Nat.le_refl _) _ _⟩
theorem zeroI (w : World) : (zeroValue 3).run Tryz.prog w = .ok (.int .i64 0) w := by kernel_rfl
theorem SMap.push {w w' : World} {r : Nat} {m : KV} {α : Type} {B : Nat} {e : TypeId} {sz : Nat} {enc : α → List Value} {v : Value} {l : List α} (h : SMap w r m) (ho : Own w B e sz enc v l) (hg : w.grownBy w' v.ownBlock) : SMap w' r m := by
  refine h.grown hg fun hk => ?_
  obtain ⟨es, clock, hm, _⟩ := h
  rcases ho.2 with ⟨hv, _⟩ | ⟨g, cap, cur, hv, _, hc, _⟩
  · rw [hv] at hk; cases hk
  · rw [hv] at hk
    injection hk with hk
    subst hk
    rw [hc] at hm; cases hm
theorem Own.mapPut {w w' : World} {r : Nat} {m : KV} {α : Type} {B : Nat} {e : TypeId} {sz : Nat} {enc : α → List Value} {v : Value} {l : List α} (h : Own w B e sz enc v l) (hm : SMap w r m) (hg : w.grownBy w' (some r)) : Own w' B e sz enc v l := by
  refine h.kept fun k hk => hg.block k (h.block k hk).2 fun e => ?_
  injection e with e
  subst e
  obtain ⟨es, clock, hm, _⟩ := hm
  rcases h.2 with ⟨hv, _⟩ | ⟨g, cap, cur, hv, _, hc, _⟩
  · rw [hv] at hk; cases hk
  · rw [hv] at hk
    injection hk with hk
    subst hk
    rw [hc] at hm; cases hm
end
section
variable {P : Program} {w : World} {ops : Array Oper} {rest : List Oper} {o : Oper} {a : Act} {Q : Exit → Act → World → Prop}
theorem wpList_smap_found (hgd : o.guard = none) (mo ko : Operand) (T K E : TypeId) (ho : o.op = .lookup T mo ko true) (hT : P.underlying T = some (.map K E)) (hK : P.underlying K = some .string)
    (z : Value) (hz : (zeroValue E).run P w = .ok z w) (r : Nat) (m : KV) (h : SMap w r m) (k : Bytes) (v : Value) (hg : mapGet m k = some v) (hm : a.eval mo = .map (some r)) (hk : a.eval ko = .string ⟨k.toArray⟩)
    (hn : wpList P ops Q rest (a.put o.dst (.tuple #[v, .bool true])) w) : wpList P ops Q (o :: rest) a w :=
  wpList_smap_lookup hgd mo ko T K E true ho hT hK z hz r m h k hm hk (by rw [hg]; exact hn)
theorem wpList_smap_missing (hgd : o.guard = none) (mo ko : Operand) (T K E : TypeId) (ho : o.op = .lookup T mo ko true) (hT : P.underlying T = some (.map K E)) (hK : P.underlying K = some .string)
    (z : Value) (hz : (zeroValue E).run P w = .ok z w) (r : Nat) (m : KV) (h : SMap w r m) (k : Bytes) (hg : mapGet m k = none) (hm : a.eval mo = .map (some r)) (hk : a.eval ko = .string ⟨k.toArray⟩)
    (hn : wpList P ops Q rest (a.put o.dst (.tuple #[z, .bool false])) w) : wpList P ops Q (o :: rest) a w :=
  wpList_smap_lookup hgd mo ko T K E true ho hT hK z hz r m h k hm hk (by rw [hg]; exact hn)
end

/-- a slice of texts of the call's own -/
def GivesTexts (w : World) (R : List Bytes) (e : Ending) (w' : World) : Prop := (∃ r, e = .returned r ∧ Own w' w.heap.size 9 1 encS r R) ∧ Below w.heap.size w w'

section
variable (a : Option Addr) (ca : Nat) (l : List Bytes) (w : World)
set_option maxHeartbeats 4000000 in
set_option maxRecDepth 100000 in
theorem unlike_any (hn : l.length ≤ 100000) (hs : ∀ x ∈ l, x.length ≤ 140737488355328) (hA : At w 1 encS a l) (htab : HasTab w) :
    Calls Tryz.prog 88 #[.slice a l.length ca] w (GivesTexts w (unlike l)) := by
  have HA := Lib.hid hA
  have HS := Lib.hid hs
  have HTB := Lib.hid htab
  clear hA hs htab
  have hmm := @run_makeMap Tryz.prog
  go_enter Tryz.func88, Tryz.ntmps88
  go_wp2_with (at_make; refine wpList_mk rfl _ _ 27 rfl w.heap.size 9 1 16 slstrs encS l.length _ rfl rfl (by simp) (by omega) (by unfold maxLen; omega) w (Below.refl _ _) (Nat.le_refl _) ?_; intro w1 hown hb1 hz1)
  go_loopw [3, 16] (fun v3 v16 wr => ∃ k : Nat, k ≤ l.length ∧ v16 = .int .i64 k ∧ Hid (Own wr w.heap.size 9 1 encS v3 (unlike (l.take k))) ∧ Hid (∃ m, SMap wr w1.heap.size m ∧ MInv (unlike (l.take k)) m) ∧ Below w.heap.size w wr ∧ w1.heap.size < wr.heap.size) (fun _ v16 _ => l.length - (intOf v16).toNat)
  case atStart => exact ⟨0, by omega, rfl, hown.alloc _, ⟨[], by have h := SMap.new w1; exact h, MInv.nil⟩, hb1.alloc hz1 _, by simp⟩
  case round =>
    obtain ⟨k, hk, rfl, HO, HM, hb, hz⟩ := hrel
    by_cases hlt : k < l.length
    · obtain ⟨b, off, ha, hbl, hc0⟩ := (HA.out.below hb).str hlt
      subst ha
      have hsl := HS.out l[k] (List.getElem_mem hlt)
      have hT := unlike_take hlt
      have hL := unlike_len_take l k hk
      generalize hse : l[k] = s at *
      generalize hRe : unlike (l.take k) = R at *
      obtain ⟨m, hmp, hmi⟩ := HM.out
      have HT := Lib.hid hT
      have HRL := Lib.hid hL
      have hRl : R.length ≤ l.length := by omega
      clear hT hL hse hRe HM
      cases hg : mapGet m s with
      | none =>
        obtain ⟨hnm, hmi2⟩ := hmi.fresh hg
        have HNM := Lib.hid hnm
        have HMI := Lib.hid hmi2
        have HMP := Lib.hid hmp
        have HG := Lib.hid hg
        clear hnm hmi2 hmi hmp hg
        go_wp2_with (first
          | (refine wpList_smap_missing rfl (.tmp 22) (.tmp 23) 91 9 3 rfl Tryz.underlying91 Tryz.underlying9 (.int .i64 0) (zeroI _) w1.heap.size m HMP.out s HG.out rfl rfl ?_)
          | (refine wpList_smap_put rfl (.tmp 45) (.tmp 46) (.const (.int .i64 2)) 91 9 3 (.inl rfl) Tryz.underlying91 Tryz.underlying9 w1.heap.size m HMP.out s (.int .i64 2) rfl rfl rfl ?_; intro w4 hm4 hg4 hz4; have HM4 := Lib.hid hm4; have HO4 := Lib.hid (HO.out.mapPut HMP.out hg4); have hb4 := hb.grown hg4 hb.size (fun k' hk' => Nat.le_trans hz1 (Nat.le_of_eq (Option.some.inj hk'))); have hz5 : w1.heap.size < w4.heap.size := (by omega); clear hm4 hg4 hz4)
          | (at_builtin; refine wpList_push rfl _ _ 27 rfl w.heap.size 9 1 16 slstrs encS encS_ok _ R rfl (HO4.out.alloc _) s w4.heap.size rfl (by intro j u hj; match j, hj with | 0, hj => (simp [encS] at hj; subst hj; simp) | j + 1, hj => simp [encS] at hj) (by omega) (by unfold maxLen; omega) w (hb4.alloc hb4.size _) (by simp; omega) ?_; intro v2 wa hown2 hb2 hg2; have HO2 := Lib.hid hown2; have HM2 := Lib.hid ((HM4.out.alloc _).push (HO4.out.alloc _) hg2); have hz2 := hg2.size; clear hown2 hg2))
        go_roundw
        case rel => exact ⟨k + 1, by omega, by go_num, by show Own _ _ _ _ _ _ _; rw [HT.out, HNM.out]; exact HO2.out, ⟨_, HM2.out, by rw [HT.out, HNM.out]; exact HMI.out⟩, hb2, by simp at hz2; omega⟩
        case measure => simp [intOf]; omega
      | some v =>
        obtain ⟨n, rfl, hn2, hni⟩ := hmi.2 s v hg
        have hsin := hmi.is hg
        have hi0 : InnerI R s n true s := .inl ⟨rfl, hni⟩
        have hnb := hi0.bound hn2
        have HI0 := Lib.hid hi0
        have HSI := Lib.hid hsin
        have HMI := Lib.hid hmi
        have HMP := Lib.hid hmp
        have HG := Lib.hid hg
        clear hi0 hsin hmi hmp hg hni
        go_wp2_with (refine wpList_smap_found rfl (.tmp 22) (.tmp 23) 91 9 3 rfl Tryz.underlying91 Tryz.underlying9 (.int .i64 0) (zeroI _) w1.heap.size m HMP.out s _ HG.out rfl rfl ?_)
        obtain ⟨wo, hwo⟩ : ∃ wo : World, wo = wr := ⟨_, rfl⟩
        subst hwo
        go_loopw [7, 8, 9] (fun v7 v8 v9 wi => ∃ (t : Nat) (bb : Bool) (nm : Bytes), v7 = .string ⟨nm.toArray⟩ ∧ v8 = .int .i64 t ∧ v9 = .bool bb ∧ 2 ≤ t ∧ t ≤ R.length + 2 ∧ Hid (InnerI R s t bb nm) ∧ Hid (Own wi w.heap.size 9 1 encS u3 R) ∧ Hid (SMap wi w1.heap.size m) ∧ Below w.heap.size w wi ∧ w1.heap.size < wi.heap.size) (fun _ v8 _ _ => R.length + 10 - (intOf v8).toNat)
        case atStart => exact ⟨n, true, s, rfl, rfl, rfl, hn2, by omega, HI0, HO, HMP, hb, hz⟩
        case round =>
          obtain ⟨t, bb, nm, rfl, rfl, rfl, ht2, htR, HI, HO1, HM1, hb1', hz1'⟩ := hrel
          cases bb
          · rcases HI.out with ⟨hf, _⟩ | ⟨_, hnm, ht3, hfr⟩
            · cases hf
            subst hnm
            obtain ⟨hname, hmi2⟩ := HMI.out.tried ht3 hfr HSI.out
            have HNM := Lib.hid hname
            have HMI2 := Lib.hid hmi2
            clear hname hmi2 hfr
            generalize hcs : cand s (t - 2) = nm at *
            clear hcs
            go_wp2_with (first
              | (at_builtin; refine wpList_push rfl _ _ 27 rfl w.heap.size 9 1 16 slstrs encS encS_ok _ R rfl (HO5.out.alloc _) nm w5.heap.size rfl (by intro j u hj; match j, hj with | 0, hj => (simp [encS] at hj; subst hj; simp) | j + 1, hj => simp [encS] at hj) (by omega) (by unfold maxLen; omega) w (hb5.alloc hb5.size _) (by simp; omega) ?_; intro v2 wa hown2 hb2 hg2; have HO2 := Lib.hid hown2; have HM2 := Lib.hid ((HM5.out.alloc _).push (HO5.out.alloc _) hg2); have hz2 := hg2.size; clear hown2 hg2)
              | (refine wpList_smap_put rfl (.tmp 45) (.tmp 46) (.const (.int .i64 2)) 91 9 3 (.inl rfl) Tryz.underlying91 Tryz.underlying9 w1.heap.size (mapPut m s (.int .i64 t)) HM4.out nm (.int .i64 2) rfl rfl rfl ?_; intro w5 hm4 hg4 hz4; have HM5 := Lib.hid hm4; have HO5 := Lib.hid (HO4.out.mapPut HM4.out hg4); have hb5 := hb4.grown hg4 hb4.size (fun k' hk' => Nat.le_trans hz1 (Nat.le_of_eq (Option.some.inj hk'))); have hz6 : w1.heap.size < w5.heap.size := (by omega); clear hm4 hg4 hz4)
              | (refine wpList_smap_put rfl (.tmp 42) (.tmp 43) (.tmp 44) 91 9 3 (.inl rfl) Tryz.underlying91 Tryz.underlying9 w1.heap.size m HM1.out s (.int .i64 t) rfl rfl rfl ?_; intro w4 hm4 hg4 hz4; have HM4 := Lib.hid hm4; have HO4 := Lib.hid (HO1.out.mapPut HM1.out hg4); have hb4 := hb1'.grown hg4 hb1'.size (fun k' hk' => Nat.le_trans hz1 (Nat.le_of_eq (Option.some.inj hk'))); have hz5 : w1.heap.size < w4.heap.size := (by omega); clear hm4 hg4 hz4))
            go_roundw
            case rel => exact ⟨k + 1, by omega, by go_num, by show Own _ _ _ _ _ _ _; rw [HT.out, HNM.out]; exact HO2.out, ⟨_, HM2.out, by rw [HT.out, HNM.out]; exact HMI2.out⟩, hb2, by simp at hz2; omega⟩
            case measure => simp [intOf]; omega
          · have hbd := HI.out.bound ht2
            have hdl := dec_len t (by omega)
            cases hg2 : mapGet m (s ++ 45 :: Lib.decDigits t) with
            | none =>
              have hmiss := HI.out.miss ht2 (by rw [cand_at s ht2]; exact HMI.out.not hg2)
              rw [cand_at s ht2] at hmiss
              have HMS := Lib.hid hmiss
              have HG2 := Lib.hid hg2
              clear hmiss hg2
              go_wp2_with fail
              refine (itoa_any t _ (by omega) (HTB.out.below hb1')).mono ?_
              rintro e w5 ⟨rfl, hb5⟩
              have HM5 := Lib.hid (HM1.out.below hb5 HM1.out.lt)
              have HO5 := Lib.hid (HO1.out.below hb5 (Nat.le_refl _))
              have hb5' := hb1'.trans (hb5.mono hb1'.size)
              have hz5 := hb5.size
              clear hb5
              generalize Lib.decDigits t = dt at *
              go_wp2_with (refine wpList_smap_missing rfl (.tmp 35) (.tmp 36) 91 9 3 rfl Tryz.underlying91 Tryz.underlying9 (.int .i64 0) (zeroI _) w1.heap.size m HM5.out (s ++ 45 :: dt) HG2.out rfl rfl ?_)
              go_roundw
              case rel => exact ⟨t + 1, false, s ++ 45 :: dt, rfl, by go_num, rfl, by omega, by omega, HMS, HO5, HM5, hb5', by omega⟩
              case measure => simp [intOf]; omega
            | some v2 =>
              have hhit := HI.out.hit (nm2 := s ++ 45 :: Lib.decDigits t) ht2 (by rw [cand_at s ht2]; exact HMI.out.is hg2)
              have HMS := Lib.hid hhit
              have HG2 := Lib.hid hg2
              clear hhit hg2
              go_wp2_with fail
              refine (itoa_any t _ (by omega) (HTB.out.below hb1')).mono ?_
              rintro e w5 ⟨rfl, hb5⟩
              have HM5 := Lib.hid (HM1.out.below hb5 HM1.out.lt)
              have HO5 := Lib.hid (HO1.out.below hb5 (Nat.le_refl _))
              have hb5' := hb1'.trans (hb5.mono hb1'.size)
              have hz5 := hb5.size
              clear hb5
              generalize Lib.decDigits t = dt at *
              go_wp2_with (refine wpList_smap_found rfl (.tmp 35) (.tmp 36) 91 9 3 rfl Tryz.underlying91 Tryz.underlying9 (.int .i64 0) (zeroI _) w1.heap.size m HM5.out (s ++ 45 :: dt) v2 HG2.out rfl rfl ?_)
              go_roundw
              case rel => exact ⟨t + 1, true, s ++ 45 :: dt, rfl, by go_num, rfl, by omega, by omega, HMS, HO5, HM5, hb5', by omega⟩
              case measure => simp [intOf]; omega
    · obtain rfl : k = l.length := by omega
      have HO2 := HO.out
      rw [List.take_length] at HO2
      have HO3 := Lib.hid HO2
      clear HO2
      go_wp2_with fail
      go_ret
      exact ⟨⟨_, rfl, HO3.out⟩, hb⟩
end
end Go.Proofs.YtohinfefidahlaaGreatDoor
