/- letters.Order: the order of an index. terms.Key: by which a term is sorted. A step of a walk that is held: its law is given in the open. No program is named here. The comparison of an index's nodes: cmp.Or, entries' closure. Comparisons that order: total, transitive; texts byte by byte; what is sorted strictly stands in one order alone. No program is named here. The index as it grows, in plain words: the paths of its terms, where each stands, what it is told to see. No program is named here. -/
import Derived.Test.YtohinfefidahlaaGreatDoorKeyC
import Derived.Test.YtohinfefidahlaaGreatDoorShelf
import Derived.Lib.BytesEntry
import Derived.Lib.Bytealg
import Derived.BigQuiet
import Derived.Deep.LoopGhost
import Derived.Deep.QuietTactic
import Derived.Test.YtohinfefidahlaaGreatDoorHeld
import Derived.Deep.RegionHeld3
import Derived.Test.YtohinfefidahlaaGreatDoorJoA
import Derived.Sort.Statements
namespace Go.Proofs.YtohinfefidahlaaGreatDoor
open Go.RowKit
set_option linter.unusedVariables false

theorem bytesOf_u8 (l : Bytes) : Lib.bytesOf (l.map fun c => (c.toNat : Int)) = l := by
  induction l with
  | nil => rfl
  | cons c l ih =>
    have h : Lib.bytesOf ((c :: l).map fun c => (c.toNat : Int)) = (UInt8.ofNat ((c.toNat : Int)).toNat) :: Lib.bytesOf (l.map fun c => (c.toNat : Int)) := by
      first | rfl | simp [Lib.bytesOf]
    rw [h, ih]; simp
theorem run_bytesOf_own {P : Program} {w : World} {B : Nat} {e : TypeId} {v : Value} {l : Bytes} (hown : Own w B e 1 encB v l) : (Extern.Bytes.bytesOf v).run P w = .ok ⟨l.toArray⟩ w := by
  rcases hown.2 with ⟨rfl, h0⟩ | ⟨g, cap, cur, rfl, hb, hg, hnc, hcm, hcs, htake⟩
  · have : l = [] := List.eq_nil_of_length_eq_zero h0
    subst this; rfl
  · have h2 : Own w B e 1 encB (.slice (some ⟨g, 0, none⟩) l.length cap) l := hown
    have h3 := Lib.run_loadBytesX (P := P) (w := w) (l.map fun c => (c.toNat : Int)) ⟨g, 0, none⟩ .empty (fun j x hx => by
      rw [List.getElem?_map] at hx
      obtain ⟨c, hc, rfl⟩ := Option.map_eq_some_iff.1 hx
      have := h2.cellAt encB_ok (k := j) (x := c) hc (j := 0) rfl
      rw [Nat.mul_one, Nat.add_zero] at this
      have hadd : (⟨g, 0, none⟩ : Addr).add j = ⟨g, j, none⟩ := by unfold Addr.add; split <;> simp_all
      rw [hadd]; exact this)
    rw [List.length_map, bytesOf_u8] at h3
    show (Extern.Bytes.loadBytes _ _ _).run P w = _
    rw [h3]; simp
theorem run_compareSl {P : Program} {w : World} {B B' : Nat} {e : TypeId} {u v : Value} {a b : Bytes} (ha : Own w B e 1 encB u a) (hb : Own w B' e 1 encB v b) :
    (Extern.BytealgCompare.compare #[u, v]).run P w = .ok (.int .i64 (Lib.compareBytes a b)) w := by
  change Sem.run P (do pure (goInt (Extern.BytealgCompare.cmp (← Extern.Bytes.bytesOf u) (← Extern.Bytes.bytesOf v)))) w = _
  simp only [Sem.run_bind, run_bytesOf_own ha, run_bytesOf_own hb, Sem.run_pure, Result.andThen]
  rw [Lib.cmp_eq]
  rfl
set_option maxHeartbeats 1000000 in
set_option maxRecDepth 100000 in
theorem bcompare_any {w : World} {B B' : Nat} {e : TypeId} {u v : Value} {a b : Bytes} (ha : Own w B e 1 encB u a) (hb : Own w B' e 1 encB v b) :
    Calls Tryz.prog 154 #[u, v] w fun e w' => e = .returned (.int .i64 (Lib.compareBytes a b)) ∧ w' = w := by
  have hr := run_compareSl (P := Tryz.prog) ha hb
  go_enter Tryz.func154, Tryz.ntmps154
  go_wp2
  rw [run_callFunc_extern Tryz.func177 (by kernel_rfl) (by kernel_rfl) (by kernel_rfl) (e := Extern.BytealgCompare.compare) (by kernel_rfl), hr]
  simp only [Result.andThen]
  rw [Oper.upon_value]
  go_wp2
  go_ret
  exact ⟨rfl, rfl⟩
def orderB (a b : Bytes) : Int := if Lib.compareBytes (keyS a) (keyS b) = 0 then Lib.compareBytes a b else Lib.compareBytes (keyS a) (keyS b)
set_option maxHeartbeats 2000000 in
set_option maxRecDepth 100000 in
theorem order_any (a b : Bytes) (ha : a.length ≤ 1000000) (hb : b.length ≤ 1000000) (w : World) :
    Calls Tryz.prog 94 #[.string ⟨a.toArray⟩, .string ⟨b.toArray⟩] w fun e w' => e = .returned (.int .i64 (orderB a b)) ∧ Below w.heap.size w w' := by
  have HOB : Hid (orderB a b = if Lib.compareBytes (keyS a) (keyS b) = 0 then Lib.compareBytes a b else Lib.compareBytes (keyS a) (keyS b)) := rfl
  have hsc := fun w => Tryz.strings_Compare ⟨a.toArray⟩ ⟨b.toArray⟩ w
  go_enter Tryz.func94, Tryz.ntmps94
  go_wp2_with fail
  refine (key_any a ha w).mono ?_
  rintro e w1 ⟨⟨v1, rfl, ho1⟩, hb1⟩
  have HO1 := Lib.hid ho1
  clear ho1
  go_wp2_with fail
  refine (key_any b hb w1).mono ?_
  rintro e w2 ⟨⟨v2, rfl, ho2⟩, hb2⟩
  have HO2 := Lib.hid ho2
  have HO3 := Lib.hid (HO1.out.next rfl hb2)
  have HB := Lib.hid (hb1.trans (hb2.mono hb1.size))
  clear ho2 hb2 hb1 HO1
  go_wp2_with fail
  refine (bcompare_any HO3.out HO2.out).mono ?_
  rintro e w3 ⟨rfl, rfl⟩
  clear HO3 HO2
  generalize Lib.compareBytes (keyS a) (keyS b) = c at *
  by_cases hc : c = 0
  · subst hc
    have HO := HOB.out
    rw [if_pos rfl] at HO
    go_wp2_with fail
    refine (hsc _).mono ?_
    rintro e w4 ⟨rfl, rfl⟩
    go_wp2_with fail
    go_ret
    exact ⟨by rw [HO]; rfl, HB.out⟩
  · have HO := HOB.out
    rw [if_neg hc] at HO
    have h1 : (c != 0) = true := bne_iff_ne.2 hc
    have h2 : (c == 0) = false := beq_eq_false_iff_ne.2 hc
    go_wp2_with fail
    go_ret
    exact ⟨by rw [HO]; rfl, HB.out⟩
end Go.Proofs.YtohinfefidahlaaGreatDoor

namespace Go.Proofs.YtohinfefidahlaaGreatDoor
open Go.RowKit
set_option linter.unusedVariables false

/-- behind the first of the articles that stands ahead -/
def dropArt : List Bytes → Bytes → Bytes
  | [], l => l
  | p :: ps, l => if p.isPrefixOf l then l.drop p.length else dropArt ps l
def arts : List Bytes := [[116, 104, 101, 32], [97, 32], [97, 110, 32]]
def keyT (s : Bytes) : Bytes := dropArt arts (lowS s)
theorem dropArt_len (ps : List Bytes) (l : Bytes) : (dropArt ps l).length ≤ l.length := by
  induction ps with
  | nil => exact Nat.le_refl _
  | cons p ps ih => unfold dropArt; split; · rw [List.length_drop]; omega
                    · exact ih
theorem keyT_len (s : Bytes) : (keyT s).length ≤ s.length := by
  have := dropArt_len arts (lowS s); rw [lowS_len] at this; exact this
theorem pre_yes {p l : Bytes} (h : l.take p.length = p.take p.length) : p.isPrefixOf l = true := by
  rw [List.isPrefixOf_iff_prefix, List.prefix_iff_eq_take]
  rw [List.take_length] at h; exact h.symm
theorem pre_no {p l : Bytes} {j : Nat} (hj : j < p.length) (h : l[j]? ≠ p[j]?) : p.isPrefixOf l = false := by
  rw [Bool.eq_false_iff]
  intro hp
  rw [List.isPrefixOf_iff_prefix, List.prefix_iff_eq_take] at hp
  apply h
  have := congrArg (fun m : Bytes => m[j]?) hp
  simp only [List.getElem?_take, if_pos hj] at this
  exact this.symm
theorem take_step {p l : Bytes} {j : Nat} (h : l.take j = p.take j) (hj : j < p.length) (hl : j < l.length) (he : l[j] = p[j]) : l.take (j + 1) = p.take (j + 1) := by
  rw [List.take_succ_eq_append_getElem hl, List.take_succ_eq_append_getElem hj, h, he]
theorem art_step {k : Nat} {p l : Bytes} (hp : arts[k]? = some p) (h : p.isPrefixOf l = false) : dropArt (arts.drop k) l = dropArt (arts.drop (k + 1)) l := by
  obtain ⟨hk, rfl⟩ := List.getElem?_eq_some_iff.1 hp
  rw [List.drop_eq_getElem_cons hk, dropArt, if_neg (by simp [h])]
theorem art_hit {k : Nat} {p l : Bytes} (hp : arts[k]? = some p) (h : p.isPrefixOf l = true) : dropArt (arts.drop k) l = l.drop p.length := by
  obtain ⟨hk, rfl⟩ := List.getElem?_eq_some_iff.1 hp
  rw [List.drop_eq_getElem_cons hk, dropArt, if_pos h]
theorem arts_at {k : Nat} (hk : k < 3) : ∃ p : Bytes, arts[k]? = some p ∧ p.length ≤ 4 ∧ ∀ w, (Instr.index 231 (.agg #[.string ⟨#[116, 104, 101, 32]⟩, .string ⟨#[97, 32]⟩, .string ⟨#[97, 110, 32]⟩]) (.int .i64 (k : Nat))).run Tryz.prog w = .ok (.string ⟨p.toArray⟩) w := by
  rcases (by omega : k = 0 ∨ k = 1 ∨ k = 2) with rfl | rfl | rfl
  · exact ⟨_, rfl, by decide, fun w => by kernel_rfl⟩
  · exact ⟨_, rfl, by decide, fun w => by kernel_rfl⟩
  · exact ⟨_, rfl, by decide, fun w => by kernel_rfl⟩
set_option maxHeartbeats 4000000 in
set_option maxRecDepth 100000 in
theorem termKey_any (s : Bytes) (hs : s.length ≤ 1000000) (w : World) :
    Calls Tryz.prog 95 #[.string ⟨s.toArray⟩] w fun e w' => e = .returned (.string ⟨(keyT s).toArray⟩) ∧ Below w.heap.size w w' := by
  have hl := lower_any s w (by omega)
  have hll := lowS_len s
  have HK : Hid (keyT s = dropArt arts (lowS s)) := rfl
  generalize lowS s = l at *
  have hl6 : l.length ≤ 1000000 := by omega
  clear hll hs
  go_enter Tryz.func95, Tryz.ntmps95
  go_wp2_with fail
  refine wp_scope_straight ?_
  go_wp2_with fail
  refine hl.mono ?_
  rintro e w1 ⟨rfl, hb1⟩
  have HB := Lib.hid hb1
  clear hb1
  go_wp2_with fail
  refine wp_label ?_
  go_wp2_with fail
  go_loopg [10] 3 (fun g v10 wr => ∃ k : Nat, k + g = 3 ∧ v10 = .int .i64 k ∧ Hid (dropArt arts l = dropArt (arts.drop k) l) ∧ Hid (Below w.heap.size w wr))
  case atStart => exact ⟨0, by omega, rfl, rfl, HB.out⟩
  case round =>
    obtain ⟨k, hk, rfl, HD, HBr⟩ := hrel
    by_cases hlt : k < 3
    · obtain ⟨p, hp, hpl, hidx⟩ := arts_at hlt
      have HP := Lib.hid hp
      clear hp
      go_wp2_with fail
      obtain ⟨wo, hwo⟩ : ∃ wo : World, wo = wr := ⟨_, rfl⟩
      subst hwo
      go_loopw [15] (fun v15 wi => ∃ j : Nat, j ≤ p.length ∧ j ≤ l.length ∧ v15 = .int .i64 j ∧ Hid (l.take j = p.take j) ∧ Hid (Below w.heap.size w wi)) (fun v15 _ => p.length - (intOf v15).toNat)
      case atStart => exact ⟨0, by omega, by omega, rfl, rfl, HBr.out⟩
      case round =>
        obtain ⟨j, hj, hjl, rfl, HT, HBi⟩ := hrel
        by_cases hjp : j < p.length
        · by_cases hjl2 : j < l.length
          · by_cases he : l[j] = p[j]
            · have HT2 := Lib.hid (take_step HT.out hjp hjl2 he)
              have h1 : ((l[j].toNat : Int) != (p[j].toNat : Int)) = false := by rw [he]; simp
              have h2 : ((l[j].toNat : Int) == (p[j].toNat : Int)) = true := by rw [he]; simp
              have h3 : decide (l.length ≤ j) = false := decide_eq_false (by omega)
              clear he
              go_wp2_with fail
              go_quiet (fail)
              go_wp2_with fail
              go_roundw
              case rel => exact ⟨j + 1, by omega, by omega, by go_num, HT2.out, below_drewN HBi.out _⟩
              case measure => simp [intOf]; omega
            · have HN := Lib.hid (pre_no (p := p) (l := l) hjp (by rw [List.getElem?_eq_getElem hjp, List.getElem?_eq_getElem hjl2]; exact fun e => he (Option.some.inj e)))
              have hne : (l[j].toNat : Int) ≠ (p[j].toNat : Int) := fun e => he (UInt8.toNat_inj.1 (by omega))
              have h1 : ((l[j].toNat : Int) != (p[j].toNat : Int)) = true := bne_iff_ne.2 hne
              have h2 : ((l[j].toNat : Int) == (p[j].toNat : Int)) = false := beq_eq_false_iff_ne.2 hne
              have h3 : decide (l.length ≤ j) = false := decide_eq_false (by omega)
              clear he hne
              go_wp2_with fail
              go_quiet (fail)
              go_wp2_with fail
              go_roundg (2 - k)
              case rel => exact ⟨k + 1, by omega, by go_num, by show _ = _; rw [HD.out, art_step HP.out HN.out], below_drewN HBi.out _⟩
              case measure => omega
          · obtain rfl : j = l.length := by omega
            have HN := Lib.hid (pre_no (p := p) (l := l) hjp (by rw [List.getElem?_eq_getElem hjp, List.getElem?_eq_none (Nat.le_refl _)]; simp))
            have h3 : decide (l.length ≤ l.length) = true := decide_eq_true (Nat.le_refl _)
            go_wp2_with fail
            go_quiet (fail)
            go_wp2_with fail
            go_roundg (2 - k)
            case rel => exact ⟨k + 1, by omega, by go_num, by show _ = _; rw [HD.out, art_step HP.out HN.out], below_drewN HBi.out _⟩
            case measure => omega
        · obtain rfl : j = p.length := by omega
          have HY := Lib.hid (pre_yes HT.out)
          have HR : Hid (keyT s = l.drop p.length) := by show _ = _; rw [HK.out, HD.out, art_hit HP.out HY.out]
          go_wp2_with fail
          rw [Exit.noGoto_ret]
          go_ret
          exact ⟨by rw [HR.out]; rfl, HBi.out⟩
    · obtain rfl : k = 3 := by omega
      have HR : Hid (keyT s = l) := by show _ = _; rw [HK.out, HD.out]; rfl
      go_wp2_with fail
      rw [Exit.noGoto_ret]
      go_ret
      exact ⟨by rw [HR.out]; first | rfl | done, HBr.out⟩
end Go.Proofs.YtohinfefidahlaaGreatDoor

namespace Go.Proofs.YtohinfefidahlaaGreatDoor
open Go.RowKit
set_option linter.unusedVariables false
structure Hld (p : Prop) : Prop where
  out : p
section
variable {P : Program} {w : World} {ops : Array Oper} {rest : List Oper} {o : Oper} {a : Act} {Q : Exit → Act → World → Prop}
/-- the operation that fills a slot -/
theorem hold_at (k : Nat) (ho : o.dst = some k) (h : Hld (wpList P ops Q (o :: rest) a w)) : wpList P ops Q (o :: rest) a w := h.out
/-- an operation that is told whole -/
theorem hold_op (x : Op) (ho : o.op = x) (h : Hld (wpList P ops Q (o :: rest) a w)) : wpList P ops Q (o :: rest) a w := h.out
end
theorem At.of_bk {α : Type} {w : World} {g sz : Nat} {enc : α → List Value} {l : List α} {T : TypeId} (he : Enc sz enc) (h : Bk w g (l.flatMap enc) T) : At w sz enc (some ⟨g, 0, none⟩) l := by
  refine .inr ⟨g, 0, rfl, h.lt, fun i x hi j v hj => ?_⟩
  have hjz : j < sz := by rw [← he.len x]; exact (List.getElem?_eq_some_iff.1 hj).1
  rw [Nat.zero_add, h.cell, flat_get he.len l i j hjz, hi]
  exact hj
/-- the world of what is to be shown, named -/
theorem calls_gen {P : Program} {f : FuncId} {args : Array Value} {w : World} {Q : Ending → World → Prop} (h : ∀ W, W = w → Calls P f args W Q) : Calls P f args w Q := h w rfl
theorem wp_gen {P : Program} {c : Code} {Q : Exit → Act → World → Prop} {a : Act} {w : World} (h : ∀ W, W = w → Code.wp P c Q a W) : Code.wp P c Q a w := h w rfl
theorem exit_gen {K : Exit → Act → World → Prop} {e : Exit} {a : Act} {w : World} (h : ∀ W, W = w → K e a W) : K e a w := h w rfl
end Go.Proofs.YtohinfefidahlaaGreatDoor

namespace Go.Proofs.YtohinfefidahlaaGreatDoor
open Go.RowKit
set_option linter.unusedVariables false

/-- the first of two that is not 0 -/
def orV (a b : Int) : Int := if a = 0 then b else a
set_option maxHeartbeats 1000000 in
set_option maxRecDepth 100000 in
theorem or_any (g : Nat) (a b : Int) (w : World) (hg : Bk w g [.int .i64 a, .int .i64 b] 3) :
    Calls Tryz.prog 151 #[.slice (some ⟨g, 0, none⟩) 2 2] w fun e w' => e = .returned (.int .i64 (orV a b)) ∧ w' = w := by
  unfold orV
  have c0 := hg.cell 0
  change w.cell? ⟨g, 0, none⟩ = some (.int .i64 a) at c0
  have c1 := hg.cell 1
  change w.cell? ⟨g, 1, none⟩ = some (.int .i64 b) at c1
  clear hg
  by_cases ha : a = 0
  · subst ha
    rw [if_pos rfl]
    by_cases hb : b = 0
    · subst hb
      go_enter Tryz.func151, Tryz.ntmps151
      go_wp2
      refine wp_loop_rounds 3 ?_
      iterate 3 (rw [rounds_succ]; go_wp2)
      go_ret
      exact ⟨rfl, rfl⟩
    · have h1 : (b != 0) = true := bne_iff_ne.2 hb
      have h2 : (b == 0) = false := beq_eq_false_iff_ne.2 hb
      clear hb
      go_enter Tryz.func151, Tryz.ntmps151
      go_wp2
      refine wp_loop_rounds 3 ?_
      iterate 2 (rw [rounds_succ]; go_wp2)
      go_ret
      exact ⟨rfl, rfl⟩
  · rw [if_neg ha]
    have h1 : (a != 0) = true := bne_iff_ne.2 ha
    have h2 : (a == 0) = false := beq_eq_false_iff_ne.2 ha
    clear ha
    go_enter Tryz.func151, Tryz.ntmps151
    go_wp2
    refine wp_loop_rounds 3 ?_
    rw [rounds_succ]; go_wp2
    go_ret
    exact ⟨rfl, rfl⟩
/-- the order of an index's terms -/
def nodeO (a b : Bytes) : Int := orV (orderB (keyT a) (keyT b)) (orderB a b)
theorem bcellN {W w1 : World} (hb : Below W.heap.size W w1) {b o : Nat} {v : Value} (h : W.cell? ⟨b, o, none⟩ = some v) : w1.cell? ⟨b, o, none⟩ = some v := by
  rw [hb.cell (p := ⟨b, o, none⟩) (World.block_lt_of_cell? W _ h)]; exact h
set_option maxHeartbeats 4000000 in
set_option maxRecDepth 100000 in
theorem cmpNode_any (t1 t2 : Bytes) (b1 b2 : Nat) (W : World) (h1 : t1.length ≤ 1000000) (h2 : t2.length ≤ 1000000) (c1 : W.cell? ⟨b1, 0, none⟩ = some (.string ⟨t1.toArray⟩)) (c2 : W.cell? ⟨b2, 0, none⟩ = some (.string ⟨t2.toArray⟩)) :
    Calls Tryz.prog 150 #[.agg #[.string ⟨(keyT t1).toArray⟩, .pointer (some ⟨b1, 0, none⟩)], .agg #[.string ⟨(keyT t2).toArray⟩, .pointer (some ⟨b2, 0, none⟩)]] W fun e w' => e = .returned (.int .i64 (nodeO t1 t2)) ∧ Below W.heap.size W w' := by
  have k1 : (keyT t1).length ≤ 1000000 := Nat.le_trans (keyT_len t1) h1
  have k2 : (keyT t2).length ≤ 1000000 := Nat.le_trans (keyT_len t2) h2
  have HO : Hid (nodeO t1 t2 = orV (orderB (keyT t1) (keyT t2)) (orderB t1 t2)) := rfl
  generalize keyT t1 = s1 at *
  generalize keyT t2 = s2 at *
  go_enter Tryz.func150, Tryz.ntmps150
  go_wp2_with fail
  refine wp_gen fun W0 hW0 => ?_
  have HB : Hid (Below W.heap.size W W0) := by subst hW0; exact ((Below.refl _ _).alloc (Nat.le_refl _) _).alloc (by simp) _
  have HK1 : Hid (Bk W0 W.heap.size [.string ⟨s1.toArray⟩, .pointer (some ⟨b1, 0, none⟩)] 225) := by subst hW0; exact (Bk.new W #[.string ⟨s1.toArray⟩, .pointer (some ⟨b1, 0, none⟩)] 225).alloc _
  have HK2 : Hid (Bk W0 (W.heap.size + 1) [.string ⟨s2.toArray⟩, .pointer (some ⟨b2, 0, none⟩)] 225) := by
    subst hW0
    have h := Bk.new (W.alloc (.cells #[.string ⟨s1.toArray⟩, .pointer (some ⟨b1, 0, none⟩)] 225)) #[.string ⟨s2.toArray⟩, .pointer (some ⟨b2, 0, none⟩)] 225
    rw [World.size_alloc] at h
    exact h
  clear hW0
  have d1 := bcellN HB.out c1
  have d2 := bcellN HB.out c2
  have p0 := HK1.out.cell 0
  change W0.cell? ⟨W.heap.size, 0, none⟩ = some (.string ⟨s1.toArray⟩) at p0
  have p1 := HK1.out.cell 1
  change W0.cell? ⟨W.heap.size, 1, none⟩ = some (.pointer (some ⟨b1, 0, none⟩)) at p1
  have q0 := HK2.out.cell 0
  change W0.cell? ⟨W.heap.size + 1, 0, none⟩ = some (.string ⟨s2.toArray⟩) at q0
  have q1 := HK2.out.cell 1
  change W0.cell? ⟨W.heap.size + 1, 1, none⟩ = some (.pointer (some ⟨b2, 0, none⟩)) at q1
  clear c1 c2 HK1 HK2
  have HBd : Hid (Below W.heap.size W W0.drew) := below_drewN HB.out 1
  clear HB
  have HO1 : Hid (∀ (a b : Bytes) W1, a.length ≤ 1000000 → b.length ≤ 1000000 → Calls Tryz.prog 94 #[.string ⟨a.toArray⟩, .string ⟨b.toArray⟩] W1 fun e w' => e = .returned (.int .i64 (orderB a b)) ∧ Below W1.heap.size W1 w') := fun a b W1 h h' => order_any a b h h' W1
  go_region_held3 (fun w' => w'.cell? ⟨W.heap.size, 0, none⟩ = some (.string ⟨s1.toArray⟩) ∧ w'.cell? ⟨W.heap.size, 1, none⟩ = some (.pointer (some ⟨b1, 0, none⟩)) ∧ w'.cell? ⟨W.heap.size + 1, 0, none⟩ = some (.string ⟨s2.toArray⟩) ∧ w'.cell? ⟨W.heap.size + 1, 1, none⟩ = some (.pointer (some ⟨b2, 0, none⟩)) ∧ w'.cell? ⟨b1, 0, none⟩ = some (.string ⟨t1.toArray⟩) ∧ w'.cell? ⟨b2, 0, none⟩ = some (.string ⟨t2.toArray⟩)) (first | exact ⟨p0, p1, q0, q1, d1, d2⟩ | go_keep) (first
    | (go_at_call 94; refine (HO1.out _ _ _ (by assumption) (by assumption)).mono ?_; rintro e w4 ⟨rfl, hb⟩; have p0 := bcellN hb p0; have p1 := bcellN hb p1; have q0 := bcellN hb q0; have q1 := bcellN hb q1; have d1 := bcellN hb d1; have d2 := bcellN hb d2; have HBd := Lib.hid (HBd.out.trans (hb.mono HBd.out.size)); clear hb)
    | (go_at_call 151; refine (or_any _ _ _ _ (Bk.new _ #[.int .i64 (orderB s1 s2), .int .i64 (orderB t1 t2)] 3)).mono ?_; rintro e w6 ⟨rfl, rfl⟩))
  go_wp2
  go_ret
  exact ⟨by rw [HO.out]; rfl, HBd.out.alloc HBd.out.size _⟩
end Go.Proofs.YtohinfefidahlaaGreatDoor

namespace Go.Proofs.YtohinfefidahlaaGreatDoor
open Go.RowKit
set_option linter.unusedVariables false
/-- a comparison that orders: of two, one goes ahead, or neither -/
structure TCmp {α : Type} (c : α → α → Int) : Prop where
  anti : ∀ a b, c a b < 0 ↔ 0 < c b a
  trans : ∀ a b d, c a b ≤ 0 → c b d ≤ 0 → c a d ≤ 0
theorem TCmp.refl {α : Type} {c : α → α → Int} (h : TCmp c) (a : α) : c a a = 0 := by
  have := h.anti a a
  omega
theorem TCmp.comap {α β : Type} {c : α → α → Int} (h : TCmp c) (f : β → α) : TCmp (fun x y => c (f x) (f y)) := ⟨fun a b => h.anti _ _, fun a b d => h.trans _ _ _⟩
theorem TCmp.lex {α : Type} {c d : α → α → Int} (h : TCmp c) (k : TCmp d) : TCmp (fun x y => if c x y = 0 then d x y else c x y) := by
  refine ⟨fun a b => ?_, fun a b e => ?_⟩
  · have h1 := h.anti a b
    have h2 := h.anti b a
    have h3 := k.anti a b
    by_cases h0 : c a b = 0
    · have : c b a = 0 := by omega
      rw [if_pos h0, if_pos this]; exact h3
    · have : c b a ≠ 0 := by omega
      rw [if_neg h0, if_neg this]; exact h1
  · have t1 := h.trans a b e
    have t2 := h.trans e a b
    have t3 := h.trans b e a
    have t4 := h.trans e b a
    have k1 := k.trans a b e
    have a1 := h.anti a b
    have a2 := h.anti b e
    have a3 := h.anti a e
    have b1 := h.anti b a
    have b2 := h.anti e b
    have b3 := h.anti e a
    intro h1 h2
    by_cases h3 : c a b = 0
    · rw [if_pos h3] at h1
      by_cases h4 : c b e = 0
      · rw [if_pos h4] at h2
        have : c a e = 0 := by omega
        rw [if_pos this]; exact k1 h1 h2
      · rw [if_neg h4] at h2
        have : c a e ≠ 0 := by omega
        rw [if_neg this]; omega
    · rw [if_neg h3] at h1
      by_cases h4 : c b e = 0
      · rw [if_pos h4] at h2
        have : c a e ≠ 0 := by omega
        rw [if_neg this]; omega
      · rw [if_neg h4] at h2
        have : c a e ≠ 0 := by omega
        rw [if_neg this]; omega
theorem TCmp.swo {α : Type} {c : α → α → Int} (h : TCmp c) : Go.Sort.SWO (fun x y => decide (c x y < 0)) := by
  refine ⟨fun x => ?_, fun x y z => ?_, fun x y z => ?_⟩
  · rw [h.refl]; decide
  · have t1 := h.trans x y z
    have t2 := h.trans z x y
    have a1 := h.anti y z
    have a2 := h.anti z x
    have a3 := h.anti x z
    simp only [decide_eq_true_eq]
    omega
  · have t1 := h.trans z y x
    have a1 := h.anti x y
    have a2 := h.anti y z
    have a3 := h.anti x z
    have b1 := h.anti y x
    have b2 := h.anti z y
    have b3 := h.anti z x
    simp only [decide_eq_false_iff_not]
    omega
theorem cb_anti : ∀ a b : Bytes, Lib.compareBytes a b < 0 ↔ 0 < Lib.compareBytes b a
  | [], [] => by decide
  | [], _ :: _ => by simp [Lib.compareBytes]
  | _ :: _, [] => by simp [Lib.compareBytes]
  | x :: a, y :: b => by
    have ih := cb_anti a b
    unfold Lib.compareBytes
    by_cases h1 : x < y
    · have h2 : ¬ y < x := UInt8.lt_asymm h1
      simp [h1, h2]
    · by_cases h2 : y < x
      · simp [h1, h2]
      · simp [h1, h2, ih]
theorem cb_trans : ∀ a b d : Bytes, Lib.compareBytes a b ≤ 0 → Lib.compareBytes b d ≤ 0 → Lib.compareBytes a d ≤ 0
  | [], _, [] => by intro _ _; decide
  | [], _, _ :: _ => by intro _ _; show (-1 : Int) ≤ 0; decide
  | _ :: _, [], _ => by intro h; simp [Lib.compareBytes] at h
  | _ :: _, _ :: _, [] => by intro _ h; simp [Lib.compareBytes] at h
  | x :: a, y :: b, z :: d => by
    have ih := cb_trans a b d
    unfold Lib.compareBytes
    simp only [UInt8.lt_iff_toNat_lt]
    intro h1 h2
    by_cases p1 : x.toNat < y.toNat
    · by_cases p2 : y.toNat < z.toNat
      · rw [if_pos (by omega)]; decide
      · rw [if_neg p2] at h2
        by_cases p3 : z.toNat < y.toNat
        · rw [if_pos p3] at h2; omega
        · rw [if_pos (by omega)]; decide
    · rw [if_neg p1] at h1
      by_cases p3 : y.toNat < x.toNat
      · rw [if_pos p3] at h1; omega
      · rw [if_neg p3] at h1
        by_cases p2 : y.toNat < z.toNat
        · rw [if_pos (by omega)]; decide
        · rw [if_neg p2] at h2
          by_cases p4 : z.toNat < y.toNat
          · rw [if_pos p4] at h2; omega
          · rw [if_neg p4] at h2
            rw [if_neg (by omega), if_neg (by omega)]
            exact ih h1 h2
theorem cb_eq : ∀ {a b : Bytes}, Lib.compareBytes a b = 0 → a = b
  | [], [], _ => rfl
  | [], _ :: _, h => by simp [Lib.compareBytes] at h
  | _ :: _, [], h => by simp [Lib.compareBytes] at h
  | x :: a, y :: b, h => by
    unfold Lib.compareBytes at h
    by_cases h1 : x < y
    · simp [h1] at h
    · by_cases h2 : y < x
      · simp [h1, h2] at h
      · simp [h1, h2] at h
        have : x = y := UInt8.le_antisymm (UInt8.not_lt.1 h2) (UInt8.not_lt.1 h1)
        rw [this, cb_eq h]
theorem cb_cmp : TCmp Lib.compareBytes := ⟨cb_anti, cb_trans⟩
/-- what is sorted, strictly, stands in one order alone -/
theorem sorted_one {α : Type} {R : α → α → Prop} (hasym : ∀ a b, R a b → ¬ R b a) : ∀ {l m : List α}, l.Perm m → l.Pairwise R → m.Pairwise R → l = m
  | [], m, hp, _, _ => (List.Perm.nil_eq hp)
  | x :: l, [], hp, _, _ => absurd hp.length_eq (by simp)
  | x :: l, y :: m, hp, h1, h2 => by
    rw [List.pairwise_cons] at h1 h2
    have hxy : x = y := by
      have m1 : x ∈ y :: m := hp.subset (by simp)
      have m2 : y ∈ x :: l := hp.symm.subset (by simp)
      rcases List.mem_cons.1 m1 with e | m1
      · exact e
      · rcases List.mem_cons.1 m2 with e | m2
        · exact e.symm
        · exact absurd (h2.1 x m1) (hasym _ _ (h1.1 y m2))
    subst hxy
    rw [sorted_one hasym (List.perm_cons x |>.1 hp) h1.2 h2.2]
end Go.Proofs.YtohinfefidahlaaGreatDoor

namespace Go.Proofs.YtohinfefidahlaaGreatDoor
open Go.RowKit
set_option linter.unusedVariables false

/-- where a term stands: page, anchor, number -/
abbrev LoK := { p : Bytes × Bytes × Bytes // p.1.length ≤ 2000000 ∧ p.2.1.length ≤ 2000000 ∧ p.2.2.length ≤ 2000000 }
def encLo (x : LoK) : List Value := [.string ⟨x.1.1.toArray⟩, .string ⟨x.1.2.1.toArray⟩, .string ⟨x.1.2.2.toArray⟩]
theorem encLo_ok : Enc 3 encLo := ⟨fun _ => rfl, fun x u hu => by simp [encLo] at hu; rcases hu with rfl | rfl | rfl <;> rfl⟩
/-- a term, or a term under one -/
abbrev Path := Bytes × Option Bytes
def ins {α : Type} [DecidableEq α] (l : List α) (a : α) : List α := if a ∈ l then l else l ++ [a]
theorem ins_nodup {α : Type} [DecidableEq α] {l : List α} (h : l.Nodup) (a : α) : (ins l a).Nodup := by
  unfold ins; split
  · exact h
  · rename_i hn
    rw [List.nodup_append]
    exact ⟨h, by simp, fun x hx y hy e => by simp at hy; subst hy; subst e; exact hn hx⟩
theorem mem_ins {α : Type} [DecidableEq α] {l : List α} {a b : α} : b ∈ ins l a ↔ b ∈ l ∨ b = a := by
  unfold ins; split
  · rename_i h
    exact ⟨.inl, fun h2 => h2.elim id (fun e => e ▸ h)⟩
  · simp
theorem ins_len {α : Type} [DecidableEq α] (l : List α) (a : α) : (ins l a).length ≤ l.length + 1 := by
  unfold ins; split
  · omega
  · simp
/-- what a term of a text says: the term, what stands under it, what it sees; where -/
structure Tl where
  text : Bytes
  sub : Bytes
  see : Bytes
  here : LoK
structure IxS where
  ps : List Path
  at_ : Path → List LoK
  see : Path → List Bytes
def ix0 : IxS := ⟨[], fun _ => [], fun _ => []⟩
def IxS.grow (s : IxS) (p : Path) : IxS := { s with ps := ins s.ps p }
def Tl.path (x : Tl) : Path := (x.text, if x.sub = [] then none else some x.sub)
def IxS.paths (s : IxS) (x : Tl) : IxS := if x.sub = [] then s.grow (x.text, none) else (s.grow (x.text, none)).grow (x.text, some x.sub)
def IxS.putAt (s : IxS) (p : Path) (a : LoK) : IxS := { s with at_ := fun q => if q = p then ins (s.at_ q) a else s.at_ q }
def IxS.putSee (s : IxS) (p : Path) (a : Bytes) : IxS := { s with see := fun q => if q = p then ins (s.see q) a else s.see q }
def IxS.step (s : IxS) (x : Tl) : IxS := if x.see = [] then (s.paths x).putAt x.path x.here else (s.paths x).putSee x.path x.see
def ixOf (l : List Tl) : IxS := l.foldl IxS.step ix0
theorem ixOf_snoc (l : List Tl) (x : Tl) : ixOf (l ++ [x]) = (ixOf l).step x := by unfold ixOf; rw [List.foldl_append]; rfl

structure IxOk (s : IxS) : Prop where
  nodup : s.ps.Nodup
  par : ∀ t u, (t, some u) ∈ s.ps → (t, none) ∈ s.ps
  out : ∀ p, p ∉ s.ps → s.at_ p = [] ∧ s.see p = []
  atN : ∀ p, (s.at_ p).Nodup
  seeN : ∀ p, (s.see p).Nodup
theorem ix0_ok : IxOk ix0 := ⟨by simp [ix0], by simp [ix0], fun _ _ => ⟨rfl, rfl⟩, fun _ => by simp [ix0], fun _ => by simp [ix0]⟩
theorem IxOk.grow {s : IxS} (h : IxOk s) {p : Path} (hp : ∀ u, p.2 = some u → (p.1, none) ∈ s.ps) : IxOk (s.grow p) := by
  refine ⟨ins_nodup h.nodup p, fun t u hm => ?_, fun q hq => ?_, h.atN, h.seeN⟩
  · rcases mem_ins.1 hm with hm | e
    · exact mem_ins.2 (.inl (h.par t u hm))
    · subst e; exact mem_ins.2 (.inl (hp u rfl))
  · exact h.out q fun hm => hq (mem_ins.2 (.inl hm))
theorem IxOk.putAt {s : IxS} (h : IxOk s) {p : Path} (hp : p ∈ s.ps) (a : LoK) : IxOk (s.putAt p a) := by
  refine ⟨h.nodup, h.par, fun q hq => ⟨?_, (h.out q hq).2⟩, fun q => ?_, h.seeN⟩
  · have : q ≠ p := fun e => hq (e ▸ hp)
    simp only [IxS.putAt, if_neg this]; exact (h.out q hq).1
  · simp only [IxS.putAt]
    split
    · exact ins_nodup (h.atN q) a
    · exact h.atN q
theorem IxOk.putSee {s : IxS} (h : IxOk s) {p : Path} (hp : p ∈ s.ps) (a : Bytes) : IxOk (s.putSee p a) := by
  refine ⟨h.nodup, h.par, fun q hq => ⟨(h.out q hq).1, ?_⟩, h.atN, fun q => ?_⟩
  · have : q ≠ p := fun e => hq (e ▸ hp)
    simp only [IxS.putSee, if_neg this]; exact (h.out q hq).2
  · simp only [IxS.putSee]
    split
    · exact ins_nodup (h.seeN q) a
    · exact h.seeN q
theorem IxOk.paths {s : IxS} (h : IxOk s) (x : Tl) : IxOk (s.paths x) ∧ x.path ∈ (s.paths x).ps := by
  unfold IxS.paths Tl.path
  by_cases hs : x.sub = []
  · rw [if_pos hs, if_pos hs]
    exact ⟨h.grow (fun u e => by cases e), mem_ins.2 (.inr rfl)⟩
  · rw [if_neg hs, if_neg hs]
    exact ⟨(h.grow (p := (x.text, none)) (fun u e => by cases e)).grow (p := (x.text, some x.sub)) (fun u e => mem_ins.2 (.inr rfl)), mem_ins.2 (.inr rfl)⟩
theorem IxOk.step {s : IxS} (h : IxOk s) (x : Tl) : IxOk (s.step x) := by
  obtain ⟨h1, h2⟩ := h.paths x
  unfold IxS.step
  split
  · exact h1.putAt h2 _
  · exact h1.putSee h2 _
theorem ixOf_ok (l : List Tl) : IxOk (ixOf l) := by
  suffices h : ∀ (l : List Tl) (s : IxS), IxOk s → IxOk (l.foldl IxS.step s) from h l ix0 ix0_ok
  intro l
  induction l with
  | nil => intro s h; exact h
  | cons x l ih => intro s h; exact ih _ (h.step x)
/-- how many: no more than twice the terms -/
theorem IxS.paths_len (s : IxS) (x : Tl) : (s.paths x).ps.length ≤ s.ps.length + 2 := by
  unfold IxS.paths
  split
  · have := ins_len s.ps (x.text, none); show (ins _ _).length ≤ _; omega
  · have := ins_len s.ps (x.text, none)
    have := ins_len (ins s.ps (x.text, none)) (x.text, some x.sub); show (ins (ins _ _) _).length ≤ _; omega
theorem IxS.paths_at (s : IxS) (x : Tl) : (s.paths x).at_ = s.at_ ∧ (s.paths x).see = s.see := by unfold IxS.paths; split <;> exact ⟨rfl, rfl⟩
structure IxLe (n : Nat) (s : IxS) : Prop where
  ps : s.ps.length ≤ 2 * n
  at_ : ∀ p, (s.at_ p).length ≤ n
  see : ∀ p, (s.see p).length ≤ n
theorem IxLe.step {n : Nat} {s : IxS} (h : IxLe n s) (x : Tl) : IxLe (n + 1) (s.step x) := by
  have h1 := s.paths_len x
  obtain ⟨h2, h3⟩ := s.paths_at x
  have h4 := h.ps
  unfold IxS.step
  split
  · refine ⟨by show (s.paths x).ps.length ≤ _; omega, fun p => ?_, fun p => ?_⟩
    · have h5 := h.at_ p
      simp only [IxS.putAt, h2]
      split
      · have := ins_len (s.at_ p) x.here; omega
      · omega
    · have h5 := h.see p
      simp only [IxS.putAt, h3]; omega
  · refine ⟨by show (s.paths x).ps.length ≤ _; omega, fun p => ?_, fun p => ?_⟩
    · have h5 := h.at_ p
      simp only [IxS.putSee, h2]; omega
    · have h5 := h.see p
      simp only [IxS.putSee, h3]
      split
      · have := ins_len (s.see p) x.see; omega
      · omega
theorem ixOf_le (l : List Tl) : IxLe l.length (ixOf l) := by
  suffices h : ∀ (l : List Tl) (n : Nat) (s : IxS), IxLe n s → IxLe (n + l.length) (l.foldl IxS.step s) from by
    have := h l 0 ix0 ⟨by simp [ix0], fun _ => by simp [ix0], fun _ => by simp [ix0]⟩
    rwa [Nat.zero_add] at this
  intro l
  induction l with
  | nil => intro n s h; exact h
  | cons x l ih => intro n s h; have := ih (n + 1) _ (h.step x); rw [List.length_cons, show n + (l.length + 1) = n + 1 + l.length from by omega]; exact this

/-! ### the texts of all terms are short -/
structure IxBd (s : IxS) : Prop where
  top : ∀ p ∈ s.ps, p.1.length ≤ 1000000
  sub : ∀ p ∈ s.ps, ∀ u, p.2 = some u → u.length ≤ 1000000
  see : ∀ p, ∀ u ∈ s.see p, u.length ≤ 1000000
structure TlBd (x : Tl) : Prop where
  text : x.text.length ≤ 1000000
  sub : x.sub.length ≤ 1000000
  see : x.see.length ≤ 1000000
theorem IxBd.grow {s : IxS} (h : IxBd s) {p : Path} (h1 : p.1.length ≤ 1000000) (h2 : ∀ u, p.2 = some u → u.length ≤ 1000000) : IxBd (s.grow p) := by
  refine ⟨fun q hq => ?_, fun q hq => ?_, h.see⟩
  · rcases mem_ins.1 hq with hq | rfl
    · exact h.top q hq
    · exact h1
  · rcases mem_ins.1 hq with hq | rfl
    · exact h.sub q hq
    · exact h2
theorem IxBd.step {s : IxS} (h : IxBd s) {x : Tl} (hx : TlBd x) : IxBd (s.step x) := by
  have hp : IxBd (s.paths x) := by
    unfold IxS.paths
    split
    · exact h.grow hx.text (fun u e => by cases e)
    · exact (h.grow (p := (x.text, none)) hx.text (fun u e => by cases e)).grow (p := (x.text, some x.sub)) hx.text (fun u e => by cases e; exact hx.sub)
  unfold IxS.step
  split
  · exact ⟨hp.top, hp.sub, hp.see⟩
  · refine ⟨hp.top, hp.sub, fun p u hu => ?_⟩
    simp only [IxS.putSee] at hu
    split at hu
    · rcases mem_ins.1 hu with hu | rfl
      · exact hp.see p u hu
      · exact hx.see
    · exact hp.see p u hu
theorem ixOf_bd {l : List Tl} (hl : ∀ x ∈ l, TlBd x) : IxBd (ixOf l) := by
  suffices h : ∀ (l : List Tl) (s : IxS), (∀ x ∈ l, TlBd x) → IxBd s → IxBd (l.foldl IxS.step s) from h l ix0 hl ⟨by simp [ix0], by simp [ix0], by simp [ix0]⟩
  intro l
  induction l with
  | nil => intro s _ h; exact h
  | cons x l ih => intro s hl h; exact ih _ (fun y hy => hl y (by simp [hy])) (h.step (hl x (by simp)))
end Go.Proofs.YtohinfefidahlaaGreatDoor
