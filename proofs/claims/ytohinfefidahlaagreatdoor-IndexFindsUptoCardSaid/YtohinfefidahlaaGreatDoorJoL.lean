/- index.Find: an entry by its term. What an index is, in plain words: each term once, in order; what is found in it. -/
import Derived.Test.YtohinfefidahlaaGreatDoorClone
import Derived.Test.YtohinfefidahlaaGreatDoorJoF
import Derived.Laws.ResultCell
import Derived.Test.YtohinfefidahlaaGreatDoorJoK
namespace Go.Proofs.YtohinfefidahlaaGreatDoor
set_option linter.unusedSimpArgs false
open Go.RowKit
set_option linter.unusedVariables false

/-- the first entry of a term -/
structure FirstE (l : List En) (s : Bytes) (i : Nat) : Prop where
  lt : i < l.length
  term : ∀ y, l[i]? = some y → y.term = s
  ahead : ∀ j y, j < i → l[j]? = some y → y.term ≠ s
def FoundG (x : En) (w : World) (e : Ending) (w' : World) : Prop :=
  ∃ aa ac sa sc ua uc ul, e = .returned (.tuple #[.agg #[.string ⟨x.term.toArray⟩, .slice aa x.al.length ac, .slice sa x.sl.length sc, .slice ua (List.length ul) uc], .bool true]) ∧ EnIn (fun g => w.heap.size ≤ g) w' (.mk x.term aa ac x.al sa sc x.sl ua uc ul) ∧ SameE x (.mk x.term aa ac x.al sa sc x.sl ua uc ul) ∧ Below w.heap.size w w'
def MissG (w : World) (e : Ending) (w' : World) : Prop := e = .returned (.tuple #[.agg #[.string ⟨#[]⟩, .slice none 0 0, .slice none 0 0, .slice none 0 0], .bool false]) ∧ Below w.heap.size w w'
/-- what Find answers: p is the first entry of the term, if there is one -/
def FindG (l : List En) (s : Bytes) (w : World) (e : Ending) (w' : World) : Prop := (∃ i x, FirstE l s i ∧ l[i]? = some x ∧ FoundG x w e w') ∨ ((∀ y ∈ l, y.term ≠ s) ∧ MissG w e w')
set_option maxHeartbeats 8000000 in
set_option maxRecDepth 100000 in
theorem findE_any (l : List En) (a : Option Addr) (c : Nat) (s : Bytes) (N : Nat → Prop) (w : World) (hE : EnsAt N w a l) (hll : l.length ≤ 1000000) (hn : ∀ x ∈ l, EnSm x) :
    Calls Tryz.prog 9 #[.slice a l.length c, .string ⟨s.toArray⟩] w (FindG l s w) := by
  have HE := Lib.hid hE
  have HN := Lib.hid hn
  have hl0 : s.length < 1 ∨ 1 ≤ s.length := by omega
  clear hE hn hl0
  go_enter Tryz.func9, Tryz.ntmps9
  go_wp2_with fail
  refine wp_gen fun W0 hW0 => ?_
  have hb0 : Below w.heap.size w W0 := by subst hW0; exact (Below.refl _ _).alloc (Nat.le_refl _) _
  have hz0 : Bk W0 w.heap.size [.string ⟨#[]⟩, .slice none 0 0, .slice none 0 0, .slice none 0 0] 29 := by subst hW0; exact Bk.new w #[.string ⟨#[]⟩, .slice none 0 0, .slice none 0 0, .slice none 0 0] 29
  have HB0 := Lib.hid hb0
  have HZ0 := Lib.hid hz0
  clear hW0 hb0 hz0
  go_loopw [10] (fun v10 wr => ∃ k : Nat, k ≤ l.length ∧ v10 = .int .i64 k ∧ Hid (Bk wr w.heap.size [.string ⟨#[]⟩, .slice none 0 0, .slice none 0 0, .slice none 0 0] 29) ∧ Hid (Below w.heap.size w wr) ∧ Hid (∀ j y, j < k → l[j]? = some y → y.term ≠ s)) (fun v10 _ => l.length - (intOf v10).toNat)
  case atStart => exact ⟨0, by omega, rfl, HZ0.out, HB0.out, fun j y h => by omega⟩
  case round =>
    obtain ⟨k, hk, rfl, HZ, HB, HA⟩ := hrel
    have hzl := HZ.out.lt
    by_cases hlt : k < l.length
    · obtain ⟨gb, goff, hga, hgl, hgc⟩ := ((HE.out.1.at_).below HB.out).elem hlt
      subst hga
      have HIN : Hid (EnIn N w l[k]) := HE.out.2 _ (List.getElem_mem hlt)
      have HNE : Hid (EnSm l[k]) := HN.out _ (List.getElem_mem hlt)
      have HGJ : Hid (l[k]? = some l[k]) := List.getElem?_eq_getElem hlt
      generalize l[k] = y at *
      have d0 := hgc 0 (.string ⟨y.term.toArray⟩) rfl
      have d1 := hgc 1 (.slice y.aa y.al.length y.ac) rfl
      have d2 := hgc 2 (.slice y.sa y.sl.length y.sc) rfl
      have d3 := hgc 3 (.slice y.ua y.ul.length y.uc) rfl
      rw [Nat.add_zero] at d0
      clear hgc
      by_cases hq : y.term = s
      · have HFE : Hid (FirstE l s k) := ⟨hlt, fun z hz => by rw [HGJ.out] at hz; cases hz; exact hq, HA.out⟩
        have hqb : (y.term == s) = true := by simpa using hq
        have HQ := Lib.hid hq
        clear hq
        go_wp2_with fail
        refine calls_gen fun W hW => ?_
        have hbW : Below wr.heap.size wr W := by subst hW; exact (Below.refl _ _).alloc (Nat.le_refl _) _
        have HZW := Lib.hid (HZ.out.next hbW)
        have HBW : Hid (Below w.heap.size w W) := HB.out.trans (hbW.mono HB.out.size)
        clear hW hbW
        refine (clone_any (nE y) y (Nat.le_refl _) HNE.out N W (HIN.out.next (HBW.out.mono (Nat.le_refl _)))).mono ?_
        rintro e w8 ⟨aa, ac, sa, sc, ua, uc, ul, rfl, hE8, hS8, hb8⟩
        have HE8 := Lib.hid hE8
        have HS8 := Lib.hid hS8
        have HZ8 := Lib.hid (HZW.out.next hb8)
        have HB8 : Hid (Below w.heap.size w w8) := HBW.out.trans (hb8.mono HBW.out.size)
        have HWZ : Hid (w.heap.size < W.heap.size) := HZW.out.lt
        clear hE8 hS8 hb8 d0 d1 d2 d3
        go_wp2_with (refine hold_op (.store 29 (.tmp 4) (.tmp 19)) rfl ?_)
        constructor
        refine wpList_store_bk rfl _ _ rfl rfl rfl (off := 0) (C' := [.string ⟨y.term.toArray⟩, .slice aa y.al.length ac, .slice sa y.sl.length sc, .slice ua ul.length uc]) rfl HZ8.out (show 0 + 4 ≤ 4 by omega) (by kernel_rfl) (by simp [Value.oneCell']) ?_
        intro wf hbf hkf hzf
        have HKF := Lib.hid hkf
        have f0 := hbf.cell 0
        change wf.cell? ⟨w.heap.size, 0, none⟩ = some (.string ⟨y.term.toArray⟩) at f0
        have f1 := hbf.cell 1
        change wf.cell? ⟨w.heap.size, 1, none⟩ = some (.slice aa y.al.length ac) at f1
        have f2 := hbf.cell 2
        change wf.cell? ⟨w.heap.size, 2, none⟩ = some (.slice sa y.sl.length sc) at f2
        have f3 := hbf.cell 3
        change wf.cell? ⟨w.heap.size, 3, none⟩ = some (.slice ua ul.length uc) at f3
        clear hbf hkf hzf
        go_wp2_with fail
        refine bodyPost_ret (v := .tuple #[.agg #[.string ⟨y.term.toArray⟩, .slice aa y.al.length ac, .slice sa y.sl.length sc, .slice ua ul.length uc], .bool true]) ?_ rfl ?_
        · rw [results_cell_tmp rfl]
          go_simp
        · refine .inl ⟨k, y, HFE.out, HGJ.out, aa, ac, sa, sc, ua, uc, ul, rfl, ?_, HS8.out, HB8.out.trans (HKF.out.below (fun g h => by omega) HB8.out.size)⟩
          exact (HE8.out.kept HKF.out (fun g hN _ h => by have := HWZ.out; omega)).mono fun g _ hN => by have := HWZ.out; omega
      · have hqb : (y.term == s) = false := by simpa using hq
        have HA2 : Hid (∀ j z, j < k + 1 → l[j]? = some z → z.term ≠ s) := fun j z hj hz => by
          by_cases h : j < k
          · exact HA.out j z h hz
          · obtain rfl : j = k := by omega
            rw [HGJ.out] at hz; cases hz; exact hq
        clear hq
        go_wp2_with fail
        go_roundw
        case rel => exact ⟨k + 1, by omega, by go_num, HZ.out.alloc _, HB.out.alloc HB.out.size _, HA2.out⟩
        case measure => simp [intOf]; omega
    · obtain rfl : k = l.length := by omega
      have HNO : Hid (∀ y ∈ l, y.term ≠ s) := fun y hy => by
        obtain ⟨i, hi, rfl⟩ := List.getElem_of_mem hy
        exact HA.out i _ hi (List.getElem?_eq_getElem hi)
      have z0 := HZ.out.cell 0
      have z1 := HZ.out.cell 1
      have z2 := HZ.out.cell 2
      have z3 := HZ.out.cell 3
      change wr.cell? ⟨w.heap.size, 0, none⟩ = some (.string ⟨#[]⟩) at z0
      change wr.cell? ⟨w.heap.size, 1, none⟩ = some (.slice none 0 0) at z1
      change wr.cell? ⟨w.heap.size, 2, none⟩ = some (.slice none 0 0) at z2
      change wr.cell? ⟨w.heap.size, 3, none⟩ = some (.slice none 0 0) at z3
      have zf := fun i => HZ.out.free i
      go_wp2_with fail
      refine bodyPost_ret (v := .tuple #[.agg #[.string ⟨#[]⟩, .slice none 0 0, .slice none 0 0, .slice none 0 0], .bool false]) ?_ rfl ?_
      · rw [results_cell_tmp rfl]
        go_simp
      · exact .inr ⟨HNO.out, rfl, (((HB.out.setCell (by simp) _).setCell (by simp) _).setCell (by simp) _).setCell (by simp) _⟩
end Go.Proofs.YtohinfefidahlaaGreatDoor

namespace Go.Proofs.YtohinfefidahlaaGreatDoor
set_option linter.unusedSimpArgs false
open Go.RowKit
set_option linter.unusedVariables false

theorem mem_topT {ps : List Path} {t : Bytes} : t ∈ topT ps ↔ (t, none) ∈ ps := by
  unfold topT
  rw [List.mem_filterMap]
  constructor
  · rintro ⟨⟨a, u⟩, hp, e⟩
    cases u with
    | none => cases e; exact hp
    | some u => cases e
  · exact fun h => ⟨(t, none), h, rfl⟩
theorem mem_subT {ps : List Path} {t u : Bytes} : u ∈ subT ps t ↔ (t, some u) ∈ ps := by
  unfold subT
  rw [List.mem_filterMap]
  constructor
  · rintro ⟨⟨a, v⟩, hp, e⟩
    cases v with
    | none => cases e
    | some v =>
      unfold subN at e
      simp only at e
      split at e
      · rename_i h; subst h; cases e; exact hp
      · cases e
  · exact fun h => ⟨(t, some u), h, by unfold subN; simp⟩
theorem filterMap_nodup {α β : Type} {f : α → Option β} (hf : ∀ a b c, f a = some c → f b = some c → a = b) : ∀ {l : List α}, l.Nodup → (l.filterMap f).Nodup
  | [], _ => by simp
  | x :: l, h => by
    rw [List.nodup_cons] at h
    rw [List.filterMap_cons]
    cases hx : f x with
    | none => exact filterMap_nodup hf h.2
    | some c =>
      simp only
      rw [List.nodup_cons]
      refine ⟨fun hm => ?_, filterMap_nodup hf h.2⟩
      obtain ⟨y, hy, e⟩ := List.mem_filterMap.1 hm
      exact h.1 (hf x y c hx e ▸ hy)
theorem topT_nodup {ps : List Path} (h : ps.Nodup) : (topT ps).Nodup := filterMap_nodup (fun a b c h1 h2 => by
  obtain ⟨a, u⟩ := a
  obtain ⟨b, v⟩ := b
  cases u with
  | some u => cases h1
  | none =>
    cases v with
    | some v => cases h2
    | none => cases h1; cases h2; rfl) h
theorem subT_nodup {ps : List Path} (t : Bytes) (h : ps.Nodup) : (subT ps t).Nodup := filterMap_nodup (fun a b c h1 h2 => by
  obtain ⟨a, u⟩ := a
  obtain ⟨b, v⟩ := b
  cases u with
  | none => cases h1
  | some u =>
    cases v with
    | none => cases h2
    | some v =>
      unfold subN at h1 h2
      simp only at h1 h2
      split at h1
      · split at h2
        · rename_i e1 e2
          subst e1; subst e2
          cases h1; cases h2; rfl
        · cases h2
      · cases h1) h
theorem ord_lt {l : List En} {m : List Bytes} (hp : (l.map En.term).Perm m) (hm : m.Nodup) (ho : l.Pairwise (fun a b => nodeO a.term b.term ≤ 0)) : (l.map En.term).Pairwise (fun a b => nodeO a b < 0) := by
  have hn : (l.map En.term).Nodup := hp.nodup_iff.2 hm
  have h1 : (l.map En.term).Pairwise (fun a b => nodeO a b ≤ 0) := by rw [List.pairwise_map]; exact ho
  exact (h1.and hn).imp fun {a b} h => by
    have h2 : nodeO a b ≠ 0 := fun e => h.2 (nodeO_eq e)
    omega
theorem EnsOf.lt {s : IxS} {l : List En} (h : EnsOf s l) (ok : IxOk s) : (l.map En.term).Pairwise (fun a b => nodeO a b < 0) := ord_lt h.perm (topT_nodup ok.nodup) h.ord
theorem SubOf.lt {s : IxS} {t : Bytes} {l : List En} (h : SubOf s t l) (ok : IxOk s) : (l.map En.term).Pairwise (fun a b => nodeO a b < 0) := ord_lt h.perm (subT_nodup t ok.nodup) h.ord
theorem lt_asym (a b : Bytes) (h : nodeO a b < 0) : ¬ nodeO b a < 0 := by
  have := (nodeO_cmp.anti a b).1 h
  omega
theorem EnsOf.len {s : IxS} {n : Nat} {l : List En} (h : EnsOf s l) (hle : IxLe n s) : l.length ≤ 2 * n := by
  have h1 := h.perm.length_eq
  rw [List.length_map] at h1
  have h2 : (topT s.ps).length ≤ s.ps.length := List.length_filterMap_le _ _
  have := hle.ps
  omega
theorem EnsOf.small {s : IxS} {n : Nat} {l : List En} (h : EnsOf s l) (hle : IxLe n s) (hn : n ≤ 400000) : ∀ x ∈ l, EnSm x := by
  intro x hx
  have h1 : x.al.length ≤ 1000000 := by rw [h.al x hx]; have := hle.at_ (x.term, none); omega
  have h2 : x.sl.length ≤ 1000000 := by rw [(h.see x hx).length_eq]; have := hle.see (x.term, none); omega
  have hu := h.under x hx
  have h3 : x.ul.length ≤ 1000000 := by
    have h4 := hu.perm.length_eq
    rw [List.length_map] at h4
    have h5 : (subT s.ps x.term).length ≤ s.ps.length := List.length_filterMap_le _ _
    have := hle.ps
    omega
  have h6 : ∀ y ∈ x.ul, EnSm y := by
    intro y hy
    have g1 : y.al.length ≤ 1000000 := by rw [hu.al y hy]; have := hle.at_ (x.term, some y.term); omega
    have g2 : y.sl.length ≤ 1000000 := by rw [(hu.see y hy).length_eq]; have := hle.see (x.term, some y.term); omega
    have g3 : y.ul = [] := hu.under y hy
    obtain ⟨t, aa, ac, al, sa, sc, sl, ua, uc, ul⟩ := y
    simp only [En.al, En.sl, En.ul] at g1 g2 g3
    subst g3
    exact .mk g1 g2 (Nat.zero_le _) (fun z hz => by cases hz)
  obtain ⟨t, aa, ac, al, sa, sc, sl, ua, uc, ul⟩ := x
  exact .mk h1 h2 h3 h6
/-- the order of a few terms is known -/
theorem terms_are {l : List En} {m r : List Bytes} (hp : (l.map En.term).Perm m) (hl : (l.map En.term).Pairwise (fun a b => nodeO a b < 0)) (hr : r.Perm m) (ho : r.Pairwise (fun a b => nodeO a b < 0)) : l.map En.term = r :=
  sorted_one lt_asym (hp.trans hr.symm) hl ho
/-- a term of an index is found -/
theorem first_of {l : List En} {s : Bytes} (h : s ∈ l.map En.term) : ¬ ∀ y ∈ l, y.term ≠ s := fun hn => by
  obtain ⟨y, hy, e⟩ := List.mem_map.1 h
  exact hn y hy e
end Go.Proofs.YtohinfefidahlaaGreatDoor
