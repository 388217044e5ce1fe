/- conds.Fill. -/
import Derived.Test.YtfedkhicckgjaaaGreatDoorFillI
import Derived.Test.YtfedkhicckgjaaaGreatDoorBld
import Derived.Test.YtfedkhicckgjaaaGreatDoorMap
namespace Go.Proofs.YtfedkhicckgjaaaGreatDoor
open Go.RowKit
set_option linter.unusedVariables false

theorem slstrs : SlTy Tryz.prog 26 9 1 16 := ⟨Tryz.underlying26, .string ⟨#[]⟩, by kernel_rfl, rfl, by decide⟩
theorem zeroI (w : World) : (zeroValue 3).run Tryz.prog w = .ok (.int .i64 0) w := by kernel_rfl

/-! ### the call's own things side by side -/
theorem Own.row {α : Type} {w : World} {B : Nat} {e : TypeId} {sz : Nat} {enc : α → List Value} {v : Value} {l : List α} (h : Own w B e sz enc v l) : ∀ g, v.ownBlock = some g → ∃ cur, w.heap[g]? = some (.cells cur e (0, 0)) := by
  intro g hg
  rcases h.2 with ⟨rfl, _⟩ | ⟨g', cap, cur, rfl, _, hh, _⟩
  · cases hg
  · cases hg
    exact ⟨cur, hh⟩
theorem Bld.row {B b : Nat} {s : Bytes} {w : World} (h : Bld B b s w) : ∃ cs, w.heap[b]? = some (.cells cs 284 (0, 0)) := by
  rcases h with ⟨_, v, h, _⟩ | ⟨_, v, h, _⟩ <;> exact ⟨_, h⟩
theorem Own.others {α : Type} {w w' : World} {B B' b : Nat} {e : TypeId} {sz : Nat} {enc : α → List Value} {v : Value} {l : List α} {s : Bytes} (h : Own w B e sz enc v l) (hk : Lib.OthersKept 5 (some b) w w') (hb : Bld B' b s w) (he : e ≠ 5) (he2 : e ≠ 284) : Own w' B e sz enc v l := by
  refine h.kept fun k hv => ?_
  obtain ⟨cur, hh⟩ := h.row k hv
  rw [hh]
  refine hk k _ hh ?_ ?_
  · intro e1
    cases e1
    obtain ⟨cs, hc⟩ := hb.row
    rw [hh] at hc
    cases hc
    exact he2 rfl
  · intro c fz e1
    cases e1
    exact he rfl
theorem SMap.others {w w' : World} {r : Nat} {m : KV} {B' b : Nat} {s : Bytes} (h : SMap w r m) (hk : Lib.OthersKept 5 (some b) w w') (hb : Bld B' b s w) : SMap w' r m := by
  obtain ⟨es, clock, hh, hm⟩ := h
  refine ⟨es, clock, hk r _ hh ?_ (fun c fz e1 => by cases e1), hm⟩
  intro e1
  cases e1
  obtain ⟨cs, hc⟩ := hb.row
  rw [hh] at hc
  cases hc
theorem SMap.push {w w' : World} {r : Nat} {m : KV} {α : Type} {B : Nat} {e : TypeId} {sz : Nat} {enc : α → List Value} {v : Value} {l : List α} (h : SMap w r m) (ho : Own w B e sz enc v l) (hg : w.grownBy w' v.ownBlock) : SMap w' r m := by
  refine h.grown hg ?_
  intro e1
  obtain ⟨cur, hc⟩ := ho.row r e1
  obtain ⟨es, clock, hh, _⟩ := h
  rw [hh] at hc
  cases hc
theorem Bld.push {w w' : World} {B' b : Nat} {s : Bytes} {α : Type} {B : Nat} {e : TypeId} {sz : Nat} {enc : α → List Value} {v : Value} {l : List α} (h : Bld B' b s w) (ho : Own w B e sz enc v l) (hg : w.grownBy w' v.ownBlock) (he : e ≠ 5) (he2 : e ≠ 284) : Bld B' b s w' := by
  refine h.grown hg ?_
  intro g e1
  obtain ⟨cur, hc⟩ := ho.row g e1
  obtain ⟨cs, hb⟩ := h.row
  constructor
  · intro e2
    subst e2
    rw [hb] at hc
    cases hc
    exact he2 rfl
  · intro c fz e2
    rw [e2] at hc
    cases hc
    exact he rfl
theorem Bld.mapPut {w w' : World} {B' b : Nat} {s : Bytes} {r : Nat} {m : KV} (h : Bld B' b s w) (hm : SMap w r m) (hg : w.grownBy w' (some r)) : Bld B' b s w' := by
  refine h.grown hg ?_
  rintro g e1
  cases e1
  obtain ⟨es, clock, hh, _⟩ := hm
  obtain ⟨cs, hb⟩ := h.row
  constructor
  · intro e2
    subst e2
    rw [hh] at hb
    cases hb
  · intro c fz e2
    rw [e2] at hh
    cases hh
theorem Own.mapPut {w w' : World} {r : Nat} {m : KV} {α : Type} {B : Nat} {e : TypeId} {sz : Nat} {enc : α → List Value} {v : Value} {l : List α} (h : Own w B e sz enc v l) (hm : SMap w r m) (hg : w.grownBy w' (some r)) : Own w' B e sz enc v l := by
  refine h.kept fun k hv => hg.block k (h.block k hv).2 ?_
  intro e1
  cases e1
  obtain ⟨cur, hc⟩ := h.row _ hv
  obtain ⟨es, clock, hh, _⟩ := hm
  rw [hh] at hc
  cases hc
theorem SMap.bel {w w' : World} {r : Nat} {m : KV} (h : SMap w r m) (hb : Below w.heap.size w w') : SMap w' r m := h.below hb h.lt
theorem Bld.bel {w w' : World} {B b : Nat} {s : Bytes} (h : Bld B b s w) (hb : Below w.heap.size w w') : Bld B b s w' :=
  h.grown (row := none) ⟨hb.os, hb.tape, hb.output, hb.size, fun j hj _ => hb.block j hj⟩ (fun g e => by cases e)
theorem Own.bel {w w' : World} {α : Type} {B : Nat} {e : TypeId} {sz : Nat} {enc : α → List Value} {v : Value} {l : List α} (h : Own w B e sz enc v l) (hb : Below w.heap.size w w') : Own w' B e sz enc v l := h.below hb (Nat.le_refl _)

theorem placesOf_get (l : List Two) (nms : List Bytes) (nm : Bytes) : mapGet (placesOf l nms) nm = if nms.contains nm = true then some (placeV l nm) else none := by
  induction nms with
  | nil => rfl
  | cons x nms ih =>
    unfold placesOf mapGet at ih ⊢
    rw [List.map_cons, List.find?_cons]
    by_cases h : x = nm
    · subst h; simp
    · have h1 : (x == nm) = false := by simpa using h
      have h2 : (nm == x) = false := by simpa using fun e => h e.symm
      simp only [h1, List.contains_cons, h2, Bool.false_or]
      exact ih
theorem placesOf_put (l : List Two) (nms : List Bytes) (nm : Bytes) (h : nms.contains nm = false) : mapPut (placesOf l nms) nm (placeV l nm) = placesOf l (nms ++ [nm]) := by
  induction nms with
  | nil => rfl
  | cons x nms ih =>
    rw [List.contains_cons, Bool.or_eq_false_iff] at h
    have hx : (x == nm) = false := by
      have := h.1
      simp at this ⊢
      exact fun e => this e.symm
    show mapPut ((x, placeV l x) :: placesOf l nms) nm (placeV l nm) = _
    unfold mapPut
    rw [if_neg (by simp [hx]), ih h.2]
    rfl
section
variable {P : Program} {w : World} {ops : Array Oper} {rest : List Oper} {o : Oper} {a : Act} {Q : Exit → Act → World → Prop}
theorem wpList_smap_found (hgd : o.guard = none) (mo ko : Operand) (T K E : TypeId) (ho : o.op = .lookup T mo ko true) (hT : P.underlying T = some (.map K E)) (hK : P.underlying K = some .string)
    (z : Value) (hz : (zeroValue E).run P w = .ok z w) (r : Nat) (m : KV) (h : SMap w r m) (k : Bytes) (v : Value) (hg : mapGet m k = some v) (hm : a.eval mo = .map (some r)) (hk : a.eval ko = .string ⟨k.toArray⟩)
    (hn : wpList P ops Q rest (a.put o.dst (.tuple #[v, .bool true])) w) : wpList P ops Q (o :: rest) a w :=
  wpList_smap_lookup hgd mo ko T K E true ho hT hK z hz r m h k hm hk (by rw [hg]; exact hn)
theorem wpList_smap_missing (hgd : o.guard = none) (mo ko : Operand) (T K E : TypeId) (ho : o.op = .lookup T mo ko true) (hT : P.underlying T = some (.map K E)) (hK : P.underlying K = some .string)
    (z : Value) (hz : (zeroValue E).run P w = .ok z w) (r : Nat) (m : KV) (h : SMap w r m) (k : Bytes) (hg : mapGet m k = none) (hm : a.eval mo = .map (some r)) (hk : a.eval ko = .string ⟨k.toArray⟩)
    (hn : wpList P ops Q rest (a.put o.dst (.tuple #[z, .bool false])) w) : wpList P ops Q (o :: rest) a w :=
  wpList_smap_lookup hgd mo ko T K E true ho hT hK z hz r m h k hm hk (by rw [hg]; exact hn)
end
/-- a text, and a slice of texts of the call's own -/
def FillGives (w : World) (t : Bytes) (R : List Bytes) (e : Ending) (w' : World) : Prop := (∃ r, e = .returned (.tuple #[.string ⟨t.toArray⟩, r]) ∧ Own w' w.heap.size 9 1 encS r R) ∧ Below w.heap.size w w'

section
variable (a : Option Addr) (ca : Nat) (l : List Two) (s : Bytes) (w : World)
set_option maxHeartbeats 4000000 in
theorem fill_any (hn : l.length ≤ 1048576) (hs : s.length ≤ 100000) (hA : At w 2 encT a l) (hv : ∀ x ∈ l, x.value.length ≤ 100000) :
    Calls Tryz.prog 192 #[.slice a l.length ca, .string ⟨s.toArray⟩] w (FillGives w (fillT l s) (fillN s)) := by
  have HA := Lib.hid hA
  have HV := Lib.hid hv
  clear hA hv
  have hmm := @run_makeMap Tryz.prog
  go_enter Tryz.func192, Tryz.ntmps192
  go_wp2_with fail
  go_loopw [7, 9, 10] (fun v7 v9 v10 wr => ∃ (fr p : Nat) (out : Bytes) (nms : List Bytes), v9 = .int .i64 fr ∧ v10 = .int .i64 p ∧ p ≤ s.length ∧ fr ≤ p ∧ Hid (FillI l s fr p out nms) ∧ Hid (Own wr w.heap.size 9 1 encS v7 nms) ∧ Hid (SMap wr (w.heap.size + 1) (placesOf l nms)) ∧ Hid (Bld w.heap.size w.heap.size out wr) ∧ Below w.heap.size w wr) (fun _ _ v10 _ => s.length - (intOf v10).toNat)
  case atStart => exact ⟨0, 0, [], [], rfl, rfl, by omega, by omega, FillI.start l s, Own.nil _ _ _ _ _, by have h := SMap.new (w.alloc (.cells #[.pointer none, .slice none 0 0] 284)); exact Lib.hid (by show SMap _ _ []; simpa using h), (Bld.fresh w).alloc _, ((Below.refl _ _).alloc (Nat.le_refl _) _).alloc (by simp) _⟩
  case round =>
    obtain ⟨fr, p, out, nms, rfl, rfl, hp, hfr, HI, HO, HM, HB, hb⟩ := hrel
    rcases idx_cases (s.drop p) 123 with hi | ⟨n, hi⟩
    · have hst := HI.out.stop hi
      have HX := Lib.hid hi
      have HST := Lib.hid hst
      clear hi hst
      have hroom := HI.out.room
      go_wp2_with fail
      refine (idx_123 _ _).mono ?_
      rw [HX.out]
      rintro e w' ⟨rfl, rfl⟩
      go_wp2_with fail
      refine (writeString_b w.heap.size w.heap.size out _ _ HB.out (by simp only [List.length_drop]; omega) hb.size).mono ?_
      rintro e w1 ⟨rfl, HB1, hb1, hk1⟩
      have HO1 := Lib.hid (HO.out.others hk1 HB.out (by decide) (by decide))
      have HBB := Lib.hid HB1
      have hb1' := hb.trans hb1
      clear HB1
      go_wp2_with fail
      refine (string_b w.heap.size w.heap.size _ _ HBB.out hb1'.size).mono ?_
      rintro e w2 ⟨rfl, HB2, hb2, hk2⟩
      have HO2 := Lib.hid (HO1.out.others hk2 HBB.out (by decide) (by decide))
      have hb2' := hb1'.trans hb2
      clear HB2
      go_wp2_with fail
      go_ret2
      rw [HST.out.1, HST.out.2]
      exact ⟨⟨_, rfl, HO2.out⟩, hb2'⟩
    · obtain ⟨hpn, hdr, _, _⟩ := HI.out.idx hi
      have HDR := Lib.hid hdr
      have HX := Lib.hid hi
      have hi1 : (0 : Int) ≤ (n : Int) := by omega
      have hi2 : (p : Int) + (n : Int) ≤ (s.length : Int) := by omega
      have hi3 : (0 : Int) ≤ (p : Int) + (n : Int) := by omega
      have hroom := HI.out.room
      clear hdr hi
      cases htk : tokOf (s.drop (p + n)) with
      | none =>
        have HTK := Lib.hid htk
        have HF := Lib.hid (HI.out.lit HX.out htk)
        clear htk
        go_wp2_with fail
        refine (idx_123 _ _).mono ?_
        rw [HX.out]
        rintro e w' ⟨rfl, rfl⟩
        go_wp2_with fail
        refine (asked_any (s.drop (p + n)) _ (by simp only [List.length_drop]; omega)).mono ?_
        unfold tokV
        rw [HTK.out]
        rintro e w' ⟨rfl, rfl⟩
        go_wp2_with fail
        go_roundw
        case rel => exact ⟨fr, p + n + 1, out, nms, rfl, by go_num, by omega, by omega, HF.out, HO.out, HM.out, HB.out, hb⟩
        case measure => simp [intOf]; omega
      | some nm =>
        have HTK := Lib.hid htk
        have hnl := tokOf_len htk
        simp only [List.length_drop] at hnl
        clear htk
        have HFN := Lib.hid (fun (w' : World) (hA : At w' 2 encT a l) nb hc hnb => find_named (.pointer (some ⟨nb, 0, none⟩)) (fun x => x.name == nm) a ca l w' hn hA (named_asks nm nb w' hc hnb))
        cases hkn : nms.contains nm
        · rcases findI_cases (fun x => x.name == nm) l with ⟨hf, hall⟩ | ⟨k, hk, hf, hp, hall⟩
          · have HGET : Hid (mapGet (placesOf l nms) nm = none) := by unfold Hid; rw [placesOf_get, if_neg (by simp only [hkn, Bool.false_eq_true, not_false_eq_true])]
            have HADD : Hid (addN nms nm = nms ++ [nm]) := by unfold Hid addN; rw [if_neg (by simp only [hkn, Bool.false_eq_true, not_false_eq_true])]
            have HPUT := Lib.hid (placesOf_put l nms nm hkn)
            have HGL := Lib.hid (getL_none hall)
            have HF := Lib.hid (HI.out.unset HX.out HTK.out HGL.out)
            have HPL : Hid (placeV l nm = .int .i64 (-1)) := by unfold Hid placeV; rw [hf]
            have HFI := Lib.hid hf
            clear hf hall hkn
            go_wp2_with fail
            refine (idx_123 _ _).mono ?_
            rw [HX.out]
            rintro e w' ⟨rfl, rfl⟩
            go_wp2_with fail
            refine (asked_any (s.drop (p + n)) _ (by simp only [List.length_drop]; omega)).mono ?_
            unfold tokV
            rw [HTK.out]
            rintro e w' ⟨rfl, rfl⟩
            simp only [Option.getD_some, Option.isSome_some]
            go_wp2_with (first | (refine wpList_smap_missing rfl (.tmp 39) (.tmp 40) 285 9 3 rfl Tryz.underlying285 Tryz.underlying9 (.int .i64 0) (zeroI _) (w.heap.size + 1) _ HM.out nm HGET.out rfl rfl ?_) | (go_at_call 222; go_in))
            refine (HFN.out _ (HA.out.below (hb.alloc hb.size _)) _ (by simp) (by simp)).mono ?_
            rw [HFI.out]
            rintro e w3 ⟨rfl, hb3⟩
            have hA3 := (Below.refl wr.heap.size wr).alloc (Nat.le_refl _) (.cells #[.string ⟨nm.toArray⟩] 9)
            have hAll := hA3.trans (hb3.mono (by simp))
            have HO1 := Lib.hid (HO.out.bel hAll)
            have HM1 := Lib.hid (HM.out.bel hAll)
            have HB1 := Lib.hid (HB.out.bel hAll)
            have hb1 := hb.trans (hAll.mono hb.size)
            clear HFN hA3 hAll hb3
            go_wp2_with (first
              | (refine wpList_smap_put rfl (.tmp 50) (.tmp 51) (.tmp 52) 285 9 3 (.inl rfl) Tryz.underlying285 Tryz.underlying9 (w.heap.size + 1) _ HM1.out nm _ rfl rfl HPL.out.symm ?_; intro w4 hm4 hg4 hz4; rw [HPUT.out] at hm4; have HM4 := Lib.hid hm4; have HO4 := Lib.hid (HO1.out.mapPut HM1.out hg4); have HB4 := Lib.hid (HB1.out.mapPut HM1.out hg4); have hb4 := hb1.grown hg4 hb1.size (by intro k hk; cases hk; omega); clear hm4 hg4 hz4)
              | (at_builtin; refine wpList_push rfl _ _ 26 rfl w.heap.size 9 1 16 slstrs encS encS_ok _ nms rfl (HO4.out.alloc _) nm w4.heap.size rfl (by intro j u hj; match j, hj with | 0, hj => (simp [encS] at hj; subst hj; simp) | j + 1, hj => simp [encS] at hj) (by have := HI.out.len; omega) (by have := HI.out.len; unfold maxLen; omega) w (hb4.alloc hb4.size _) (by have := hb4.size; simp; omega) ?_; intro v2 wa hown2 hb2 hg2; have HO2 := Lib.hid hown2; have HM2 := Lib.hid ((HM4.out.alloc _).push (HO4.out.alloc _) hg2); have HB2 := Lib.hid ((HB4.out.alloc _).push (HO4.out.alloc _) hg2 (by decide) (by decide)); clear hown2 hg2))
            go_roundw
            case rel => exact ⟨fr, p + n + nm.length + 2, out, nms ++ [nm], by go_num, by go_num, by omega, by omega, by have h := HF.out; rw [HADD.out] at h; exact h, HO2.out, HM2.out, HB2.out, hb2⟩
            case measure => simp [intOf]; omega
          · have HGET : Hid (mapGet (placesOf l nms) nm = none) := by unfold Hid; rw [placesOf_get, if_neg (by simp only [hkn, Bool.false_eq_true, not_false_eq_true])]
            have HADD : Hid (addN nms nm = nms ++ [nm]) := by unfold Hid addN; rw [if_neg (by simp only [hkn, Bool.false_eq_true, not_false_eq_true])]
            have HPUT := Lib.hid (placesOf_put l nms nm hkn)
            have HGL := Lib.hid (getL_some hk hp hall)
            have hvl := HV.out l[k] (List.getElem_mem hk)
            have HF := Lib.hid (HI.out.set HX.out HTK.out HGL.out hvl)
            have HPL : Hid (placeV l nm = .int .i64 k) := by unfold Hid placeV; rw [hf]
            have HFI := Lib.hid hf
            clear hf hp hall hkn
            go_wp2_with fail
            refine (idx_123 _ _).mono ?_
            rw [HX.out]
            rintro e w' ⟨rfl, rfl⟩
            go_wp2_with fail
            refine (asked_any (s.drop (p + n)) _ (by simp only [List.length_drop]; omega)).mono ?_
            unfold tokV
            rw [HTK.out]
            rintro e w' ⟨rfl, rfl⟩
            simp only [Option.getD_some, Option.isSome_some]
            go_wp2_with (first | (refine wpList_smap_missing rfl (.tmp 39) (.tmp 40) 285 9 3 rfl Tryz.underlying285 Tryz.underlying9 (.int .i64 0) (zeroI _) (w.heap.size + 1) _ HM.out nm HGET.out rfl rfl ?_) | (go_at_call 222; go_in))
            refine (HFN.out _ (HA.out.below (hb.alloc hb.size _)) _ (by simp) (by simp)).mono ?_
            rw [HFI.out]
            rintro e w3 ⟨rfl, hb3⟩
            have hA3 := (Below.refl wr.heap.size wr).alloc (Nat.le_refl _) (.cells #[.string ⟨nm.toArray⟩] 9)
            have hAll := hA3.trans (hb3.mono (by simp))
            have HO1 := Lib.hid (HO.out.bel hAll)
            have HM1 := Lib.hid (HM.out.bel hAll)
            have HB1 := Lib.hid (HB.out.bel hAll)
            have hb1 := hb.trans (hAll.mono hb.size)
            clear HFN hA3 hAll hb3
            go_wp2_with (first
              | (refine wpList_smap_put rfl (.tmp 50) (.tmp 51) (.tmp 52) 285 9 3 (.inl rfl) Tryz.underlying285 Tryz.underlying9 (w.heap.size + 1) _ HM1.out nm _ rfl rfl HPL.out.symm ?_; intro w4 hm4 hg4 hz4; rw [HPUT.out] at hm4; have HM4 := Lib.hid hm4; have HO4 := Lib.hid (HO1.out.mapPut HM1.out hg4); have HB4 := Lib.hid (HB1.out.mapPut HM1.out hg4); have hb4 := hb1.grown hg4 hb1.size (by intro k hk; cases hk; omega); clear hm4 hg4 hz4)
              | (at_builtin; refine wpList_push rfl _ _ 26 rfl w.heap.size 9 1 16 slstrs encS encS_ok _ nms rfl (HO4.out.alloc _) nm w4.heap.size rfl (by intro j u hj; match j, hj with | 0, hj => (simp [encS] at hj; subst hj; simp) | j + 1, hj => simp [encS] at hj) (by have := HI.out.len; omega) (by have := HI.out.len; unfold maxLen; omega) w (hb4.alloc hb4.size _) (by have := hb4.size; simp; omega) ?_; intro v2 wa hown2 hb2 hg2; have HO2 := Lib.hid hown2; have HM2 := Lib.hid ((HM4.out.alloc _).push (HO4.out.alloc _) hg2); have HB2 := Lib.hid ((HB4.out.alloc _).push (HO4.out.alloc _) hg2 (by decide) (by decide)); clear hown2 hg2))
            refine (writeString_b w.heap.size w.heap.size out _ _ HB2.out (by simp only [List.length_drop, List.length_take]; omega) hb2.size).mono ?_
            rintro e w5 ⟨rfl, HB5, hb5, hk5⟩
            have HO5 := Lib.hid (HO2.out.others hk5 HB2.out (by decide) (by decide))
            have HM5 := Lib.hid (HM2.out.others hk5 HB2.out)
            have HBB := Lib.hid HB5
            have hb5' := hb2.trans hb5
            clear HB5
            obtain ⟨b, off, ha, hbl, hc0, hc1⟩ := (HA.out.below hb5').two hk
            subst ha
            go_wp2_with fail
            refine (writeString_b w.heap.size w.heap.size _ _ _ HBB.out (by simp only [List.length_append, List.length_drop, List.length_take]; omega) hb5'.size).mono ?_
            rintro e w6 ⟨rfl, HB6, hb6, hk6⟩
            have HO6 := Lib.hid (HO5.out.others hk6 HBB.out (by decide) (by decide))
            have HM6 := Lib.hid (HM5.out.others hk6 HBB.out)
            have HB6' := Lib.hid HB6
            have hb6' := hb5'.trans hb6
            clear HB6
            go_wp2_with fail
            go_roundw
            case rel => exact ⟨p + n + nm.length + 2, p + n + nm.length + 2, _, nms ++ [nm], by go_num, by go_num, by omega, by omega, by have h := HF.out; rw [HADD.out] at h; exact h, HO6.out, HM6.out, HB6'.out, hb6'⟩
            case measure => simp [intOf]; omega
        · rcases findI_cases (fun x => x.name == nm) l with ⟨hf, hall⟩ | ⟨k, hk, hf, hp, hall⟩
          · have HGET : Hid (mapGet (placesOf l nms) nm = some (placeV l nm)) := by unfold Hid; rw [placesOf_get, if_pos hkn]
            have HADD : Hid (addN nms nm = nms) := by unfold Hid addN; rw [if_pos hkn]
            have HGL := Lib.hid (getL_none hall)
            have HF := Lib.hid (HI.out.unset HX.out HTK.out HGL.out)
            have HPL : Hid (placeV l nm = .int .i64 (-1)) := by unfold Hid placeV; rw [hf]
            have HFI := Lib.hid hf
            clear hf hall hkn
            go_wp2_with fail
            refine (idx_123 _ _).mono ?_
            rw [HX.out]
            rintro e w' ⟨rfl, rfl⟩
            go_wp2_with fail
            refine (asked_any (s.drop (p + n)) _ (by simp only [List.length_drop]; omega)).mono ?_
            unfold tokV
            rw [HTK.out]
            rintro e w' ⟨rfl, rfl⟩
            simp only [Option.getD_some, Option.isSome_some]
            go_wp2_with (refine wpList_smap_found rfl (.tmp 39) (.tmp 40) 285 9 3 rfl Tryz.underlying285 Tryz.underlying9 (.int .i64 0) (zeroI _) (w.heap.size + 1) _ HM.out nm (placeV l nm) HGET.out rfl rfl ?_; rw [HPL.out])
            obtain ⟨wa, rfl⟩ : ∃ wa : World, wa = wr := ⟨_, rfl⟩
            have HO2 := HO
            have HM2 := HM
            have HB2 := HB
            have hb2 := hb
            go_roundw
            case rel => exact ⟨fr, p + n + nm.length + 2, out, nms, by go_num, by go_num, by omega, by omega, by have h := HF.out; rw [HADD.out] at h; exact h, HO2.out, HM2.out, HB2.out, hb2⟩
            case measure => simp [intOf]; omega
          · have HGET : Hid (mapGet (placesOf l nms) nm = some (placeV l nm)) := by unfold Hid; rw [placesOf_get, if_pos hkn]
            have HADD : Hid (addN nms nm = nms) := by unfold Hid addN; rw [if_pos hkn]
            have HGL := Lib.hid (getL_some hk hp hall)
            have hvl := HV.out l[k] (List.getElem_mem hk)
            have HF := Lib.hid (HI.out.set HX.out HTK.out HGL.out hvl)
            have HPL : Hid (placeV l nm = .int .i64 k) := by unfold Hid placeV; rw [hf]
            have HFI := Lib.hid hf
            clear hf hp hall hkn
            go_wp2_with fail
            refine (idx_123 _ _).mono ?_
            rw [HX.out]
            rintro e w' ⟨rfl, rfl⟩
            go_wp2_with fail
            refine (asked_any (s.drop (p + n)) _ (by simp only [List.length_drop]; omega)).mono ?_
            unfold tokV
            rw [HTK.out]
            rintro e w' ⟨rfl, rfl⟩
            simp only [Option.getD_some, Option.isSome_some]
            go_wp2_with (refine wpList_smap_found rfl (.tmp 39) (.tmp 40) 285 9 3 rfl Tryz.underlying285 Tryz.underlying9 (.int .i64 0) (zeroI _) (w.heap.size + 1) _ HM.out nm (placeV l nm) HGET.out rfl rfl ?_; rw [HPL.out])
            obtain ⟨wa, rfl⟩ : ∃ wa : World, wa = wr := ⟨_, rfl⟩
            have HO2 := HO
            have HM2 := HM
            have HB2 := HB
            have hb2 := hb
            refine (writeString_b w.heap.size w.heap.size out _ _ HB2.out (by simp only [List.length_drop, List.length_take]; omega) hb2.size).mono ?_
            rintro e w5 ⟨rfl, HB5, hb5, hk5⟩
            have HO5 := Lib.hid (HO2.out.others hk5 HB2.out (by decide) (by decide))
            have HM5 := Lib.hid (HM2.out.others hk5 HB2.out)
            have HBB := Lib.hid HB5
            have hb5' := hb2.trans hb5
            clear HB5
            obtain ⟨b, off, ha, hbl, hc0, hc1⟩ := (HA.out.below hb5').two hk
            subst ha
            go_wp2_with fail
            refine (writeString_b w.heap.size w.heap.size _ _ _ HBB.out (by simp only [List.length_append, List.length_drop, List.length_take]; omega) hb5'.size).mono ?_
            rintro e w6 ⟨rfl, HB6, hb6, hk6⟩
            have HO6 := Lib.hid (HO5.out.others hk6 HBB.out (by decide) (by decide))
            have HM6 := Lib.hid (HM5.out.others hk6 HBB.out)
            have HB6' := Lib.hid HB6
            have hb6' := hb5'.trans hb6
            clear HB6
            go_wp2_with fail
            go_roundw
            case rel => exact ⟨p + n + nm.length + 2, p + n + nm.length + 2, _, nms, by go_num, by go_num, by omega, by omega, by have h := HF.out; rw [HADD.out] at h; exact h, HO6.out, HM6.out, HB6'.out, hb6'⟩
            case measure => simp [intOf]; omega
end
end Go.Proofs.YtfedkhicckgjaaaGreatDoor
