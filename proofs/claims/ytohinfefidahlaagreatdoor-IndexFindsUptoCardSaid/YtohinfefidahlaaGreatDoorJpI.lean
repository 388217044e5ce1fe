/- How great texts are: binderylaw01.TextsSize. How great chapters are: binderylaw01's sizes, where nothing is beyond their early end. How great entries are: binderylaw01.EntriesSize, where nothing is beyond its early end. -/
import Derived.Test.YtohinfefidahlaaGreatDoorJoA
import Derived.Test.YtohinfefidahlaaGreatDoorJoF
import Derived.Test.YtohinfefidahlaaGreatDoorHeld
import Derived.Deep.QuietTactic
import Derived.BigQuiet
import Derived.Test.YtohinfefidahlaaGreatDoorJpF
namespace Go.Proofs.YtohinfefidahlaaGreatDoor
set_option linter.unusedSimpArgs false
open Go.RowKit

def sumT (l : List Bytes) : Nat := (l.map fun x => x.length).sum
def sizeT (l : List Bytes) : Nat := l.length + sumT l
theorem sizeT_eq (l : List Bytes) : sizeT l = l.length + sumT l := rfl
theorem sumT_take_succ (l : List Bytes) (k : Nat) (h : k < l.length) : sumT (l.take (k + 1)) = sumT (l.take k) + l[k].length := by
  unfold sumT; rw [List.take_succ_eq_append_getElem h, List.map_append, List.sum_append]; simp
theorem sumT_take_le (l : List Bytes) (k : Nat) : sumT (l.take k) ≤ sumT l := by
  unfold sumT
  conv => rhs; rw [← List.take_append_drop k l, List.map_append, List.sum_append]
  omega
theorem sumT_mem {l : List Bytes} {x : Bytes} (h : x ∈ l) : x.length ≤ sumT l := by
  unfold sumT
  induction l with
  | nil => cases h
  | cons y l ih =>
    rw [List.map_cons, List.sum_cons]
    rcases List.mem_cons.1 h with rfl | h
    · omega
    · have := ih h; omega

set_option maxHeartbeats 1000000 in
theorem textsSize_any (a : Option Addr) (c : Nat) (l : List Bytes) (w : World) (hn : l.length ≤ 140737488351232) (hA : At w 1 encS a l)
    (hs : ∀ x ∈ l, x.length ≤ 140737488351232) :
    Calls Tryz.prog 97 #[.slice a l.length c] w fun e w' => (∃ r : Nat, e = .returned (.int .i64 r) ∧ (r = sizeT l ∨ (1048576 < r ∧ 1048576 < sizeT l))) ∧ Below w.heap.size w w' := by
  have HA := Lib.hid hA
  have HS := Lib.hid hs
  clear hA hs
  go_enter Tryz.func97, Tryz.ntmps97
  go_wp2
  go_loopw [3, 4] (fun v3 v4 wr => ∃ k r : Nat, k ≤ l.length ∧ v4 = .int .i64 k ∧ v3 = .int .i64 r ∧ r ≤ 140737488351232 + 140737488351232 + 1048576 ∧ Hid (r = l.length + sumT (l.take k)) ∧ Below w.heap.size w wr) (fun _ v4 _ => l.length - (intOf v4).toNat)
  case atStart => exact ⟨0, l.length, by omega, rfl, rfl, by omega, by simp [Hid, sumT], Below.refl _ _⟩
  case round =>
    obtain ⟨k, r, hk, rfl, rfl, hr, HR, hb⟩ := hrel
    have hle := sumT_take_le l k
    by_cases hlt : k < l.length
    · by_cases hbig : 1048576 < r
      · go_wp2
        go_ret
        exact ⟨⟨r, rfl, .inr ⟨hbig, by rw [sizeT_eq]; have := HR.out; omega⟩⟩, hb⟩
      · obtain ⟨b, off, ha, hbl, hc0⟩ := (HA.out.below hb).str hlt
        subst ha
        have hs0 := HS.out l[k] (List.getElem_mem hlt)
        have hstep := sumT_take_succ l k hlt
        generalize hx0 : l[k] = x0 at *
        have HX := Lib.hid hstep
        clear hstep hx0
        go_wp2_with fail
        have a1 : IntKind.i64.wrap ((r : Int) + (x0.length : Int)) = ((r + x0.length : Nat) : Int) := by rw [IntWalk.i64_in _ (by omega)]; rfl
        try go_quiet (fail)
        go_wp2
        go_roundw
        case rel => exact ⟨k + 1, r + x0.length, by omega, by go_num, by first | rfl | go_num, by omega, by show _ = _; rw [HX.out]; have := HR.out; omega, by first | exact below_drewN hb _ | exact hb⟩
        case measure => simp [intOf]; omega
    · go_wp2
      go_ret
      exact ⟨⟨r, rfl, .inl (by rw [sizeT_eq]; have := HR.out; rwa [List.take_of_length_le (by omega)] at this)⟩, hb⟩
theorem sizeT_mem {l : List Bytes} {x : Bytes} (h : x ∈ l) : x.length + l.length ≤ sizeT l := by
  have := sumT_mem h
  unfold sizeT; omega
end Go.Proofs.YtohinfefidahlaaGreatDoor

namespace Go.Proofs.YtohinfefidahlaaGreatDoor
set_option linter.unusedSimpArgs false
open Go.RowKit
set_option linter.unusedVariables false

def SzGives (w : World) (n : Nat) (e : Ending) (w' : World) : Prop := e = .returned (.int .i64 (n : Nat)) ∧ Below w.heap.size w w'
theorem szM_take_succ {α : Type} (f : α → Nat) {l : List α} {k r : Nat} (h : k < l.length) (hr : r = l.length + sumM f (l.take k)) : r + f l[k] = l.length + sumM f (l.take (k + 1)) := by
  rw [sumM_take_succ f h]; omega
theorem szM_part {α : Type} (f : α → Nat) {l : List α} {k r : Nat} (hr : r = l.length + sumM f (l.take k)) : r ≤ szM f l := by
  have := sumM_take_le f l k
  unfold szM; omega
theorem i64_nat {n : Nat} (h : n ≤ 9223372036854775807) : IntKind.i64.wrap ((n : Nat) : Int) = ((n : Nat) : Int) := IntWalk.i64_in _ (by omega)

set_option maxHeartbeats 4000000 in
set_option maxRecDepth 100000 in
/-- a span, where those within it are as great as they are said to be -/
theorem spanSize_of (kd : Nat) (tx sb se : Bytes) (ka : Option Addr) (kc : Nat) (kids : List Sp) (w : World) (hz : 1 + tx.length + sb.length + se.length + szM szS kids ≤ 1048576)
    (hk : ∀ W, Below w.heap.size w W → Calls Tryz.prog 210 #[.slice ka kids.length kc] W (SzGives W (szM szS kids))) :
    Calls Tryz.prog 229 #[.agg #[.int .u8 kd, .string ⟨tx.toArray⟩, .string ⟨sb.toArray⟩, .string ⟨se.toArray⟩, .slice ka kids.length kc]] w (SzGives w (1 + tx.length + sb.length + se.length + szM szS kids)) := by
  have HK := Lib.hid hk
  have HW : Hid (Below w.heap.size w (w.alloc (.cells #[.int .u8 kd, .string ⟨tx.toArray⟩, .string ⟨sb.toArray⟩, .string ⟨se.toArray⟩, .slice ka kids.length kc] 70))) := (Below.refl _ _).alloc (Nat.le_refl _) _
  generalize szM szS kids = zk at *
  clear hk
  have hz1 : 1 + tx.length + sb.length + se.length ≤ 1048576 := by omega
  go_enter Tryz.func229, Tryz.ntmps229
  go_wp2_with (go_at_call 210; refine (HK.out _ HW.out).mono ?_; rintro e w3 ⟨rfl, hb3⟩; have HB3 : Hid (Below w.heap.size w w3) := HW.out.trans (hb3.mono HW.out.size))
  go_ret
  exact ⟨by first | rfl | (congr 2; omega), HB3.out⟩
set_option maxHeartbeats 4000000 in
set_option maxRecDepth 100000 in
theorem spansSize_any (n : Nat) : ∀ (l : List Sp), deepL l ≤ n → ∀ (a : Option Addr) (c : Nat) (w : World), SpsAt w a l → szM szS l ≤ 1048576 →
    Calls Tryz.prog 210 #[.slice a l.length c] w (SzGives w (szM szS l)) := by
  induction n using Nat.strongRecOn with
  | _ n ih =>
  intro l hd a c w hA hz
  have HA := Lib.hid hA
  have HZ := Lib.hid hz
  have HIH := Lib.hid ih
  have hll : l.length ≤ 1048576 := by unfold szM at hz; omega
  clear hA hz ih
  go_enter Tryz.func210, Tryz.ntmps210
  go_wp2
  go_loopw [3, 4] (fun v3 v4 wr => ∃ k r : Nat, k ≤ l.length ∧ v4 = .int .i64 k ∧ v3 = .int .i64 r ∧ r ≤ 1048576 ∧ Hid (r = l.length + sumM szS (l.take k)) ∧ Hid (Below w.heap.size w wr)) (fun _ v4 _ => l.length - (intOf v4).toNat)
  case atStart => exact ⟨0, l.length, by omega, rfl, rfl, by omega, by rw [List.take_zero]; rfl, Below.refl _ _⟩
  case round =>
    obtain ⟨k, r, hk, rfl, rfl, hr, HR, HB⟩ := hrel
    by_cases hlt : k < l.length
    · obtain ⟨bb, off, ha, hbl, hc⟩ := (HA.out.1.below HB.out).elem hlt
      subst ha
      have HKA := Lib.hid (HA.out.2 _ (List.getElem_mem hlt)).kidsAt
      have HDL := Lib.hid (deep_lt hlt)
      have HS := Lib.hid (szM_take_succ szS hlt HR.out)
      have HT := Lib.hid (Nat.le_trans (szM_part szS HS.out) HZ.out)
      generalize l[k] = x at *
      obtain ⟨kd, tx, sb, se, ka, kc, kids⟩ := x
      have d0 := hc 0 (.int .u8 kd) rfl
      have d1 := hc 1 (.string ⟨tx.toArray⟩) rfl
      have d2 := hc 2 (.string ⟨sb.toArray⟩) rfl
      have d3 := hc 3 (.string ⟨se.toArray⟩) rfl
      have d4 := hc 4 (.slice ka kids.length kc) rfl
      rw [Nat.add_zero] at d0
      have he := szS_eq (.mk kd tx sb se ka kc kids)
      have he : szS (.mk kd tx sb se ka kc kids) = 1 + tx.length + sb.length + se.length + szM szS kids := he
      rw [he] at HS HT
      have hrx := HT.out
      have hz := HB.out.size
      have HKK : Hid (SpsAt w ka kids) := HKA.out
      clear hc HT he HKA
      go_wp2_with (go_at_call 229; refine (spanSize_of kd tx sb se ka kc kids _ (by omega) (fun W hb => HIH.out _ (Nat.lt_of_lt_of_le HDL.out hd) kids (Nat.le_refl _) ka kc W (HKK.out.keep (HB.out.trans (hb.mono hz))) (by omega))).mono ?_; rintro e w3 ⟨rfl, hb3⟩; have HB3 : Hid (Below w.heap.size w w3) := HB.out.trans (hb3.mono hz))
      go_roundw
      case rel => exact ⟨k + 1, _, by omega, by go_num, by first | rfl | go_num, hrx, HS.out, HB3.out⟩
      case measure => simp [intOf]; omega
    · obtain rfl : k = l.length := by omega
      rw [List.take_length] at HR
      have HE : Hid (r = szM szS l) := HR.out
      go_wp2
      go_ret
      exact ⟨by rw [← HE.out]; rfl, HB.out⟩
theorem spans_size (l : List Sp) (a : Option Addr) (c : Nat) (w : World) (hA : SpsAt w a l) (hz : szM szS l ≤ 1048576) :
    Calls Tryz.prog 210 #[.slice a l.length c] w (SzGives w (szM szS l)) := spansSize_any _ l (Nat.le_refl _) a c w hA hz
set_option maxHeartbeats 4000000 in
set_option maxRecDepth 100000 in
theorem cellSize_any (sa : Option Addr) (sc : Nat) (sl : List Sp) (w : World) (hS : SpsAt w sa sl) (hz : 1 + szM szS sl ≤ 1048576) :
    Calls Tryz.prog 246 #[.agg #[.slice sa sl.length sc]] w (SzGives w (szCe ⟨sa, sc, sl⟩)) := by
  have HE : Hid (szCe ⟨sa, sc, sl⟩ = 1 + szM szS sl) := rfl
  have HX := Lib.hid (Bk.new w #[.slice sa sl.length sc] 158)
  have HW : Hid (Below w.heap.size w (w.alloc (.cells #[.slice sa sl.length sc] 158))) := (Below.refl _ _).alloc (Nat.le_refl _) _
  have HC0 : Hid (∀ W, Below w.heap.size w W → Calls Tryz.prog 210 #[.slice sa sl.length sc] W (SzGives W (szM szS sl))) := fun W hb => spans_size sl sa sc W (hS.keep hb) (by omega)
  generalize szCe ⟨sa, sc, sl⟩ = S at *
  generalize szM szS sl = z0 at *
  go_enter Tryz.func246, Tryz.ntmps246
  have g0 : 1 ≤ 1048576 := by omega
  go_wp2_with fail
  refine (HC0.out _ HW.out).mono ?_
  rintro e W0 ⟨rfl, hb0⟩
  have HB0 : Hid (Below w.heap.size w W0) := HW.out.trans (hb0.mono HW.out.size)
  have HX0 := Lib.hid (HX.out.next hb0)
  clear hb0 
  go_wp2_with fail
  go_ret
  exact ⟨by rw [HE.out]; first | rfl | (congr 2; omega), HB0.out⟩
set_option maxHeartbeats 4000000 in
set_option maxRecDepth 100000 in
theorem cells_size (l : List Ce) (a : Option Addr) (c : Nat) (w : World) (hA : At w 1 encCe a l ∧ ∀ x ∈ l, CeIn w x) (hz : szM szCe l ≤ 1048576) :
    Calls Tryz.prog 242 #[.slice a l.length c] w (SzGives w (szM szCe l)) := by
  have HA := Lib.hid hA
  have HZ := Lib.hid hz
  have hll : l.length ≤ 1048576 := by unfold szM at hz; omega
  clear hA hz
  go_enter Tryz.func242, Tryz.ntmps242
  go_wp2
  go_loopw [3, 4] (fun v3 v4 wr => ∃ k r : Nat, k ≤ l.length ∧ v4 = .int .i64 k ∧ v3 = .int .i64 r ∧ r ≤ 1048576 ∧ Hid (r = l.length + sumM szCe (l.take k)) ∧ Hid (Below w.heap.size w wr)) (fun _ v4 _ => l.length - (intOf v4).toNat)
  case atStart => exact ⟨0, l.length, by omega, rfl, rfl, by omega, by rw [List.take_zero]; rfl, Below.refl _ _⟩
  case round =>
    obtain ⟨k, r, hk, rfl, rfl, hr, HR, HB⟩ := hrel
    by_cases hlt : k < l.length
    · obtain ⟨bb, off, ha, hbl, hc⟩ := (HA.out.1.below HB.out).elem hlt
      subst ha
      have HI := Lib.hid (HA.out.2 _ (List.getElem_mem hlt))
      have HS := Lib.hid (szM_take_succ szCe hlt HR.out)
      have HT := Lib.hid (Nat.le_trans (szM_part szCe HS.out) HZ.out)
      generalize l[k] = x at *
      obtain ⟨sa, sc, sl⟩ := x
      have HI : Hid (SpsAt w sa sl) := HI
      have d0 := hc 0 (.slice sa sl.length sc) rfl
      rw [Nat.mul_one, Nat.add_zero] at d0
      have hrx := HT.out
      have hz := HB.out.size
      clear hc HT
      go_wp2_with (go_at_call 246; refine (cellSize_any sa sc sl _ (HI.out.keep HB.out) (by have h : r + (1 + szM szS sl) ≤ 1048576 := hrx; omega)).mono ?_; rintro e w3 ⟨rfl, hb3⟩; have HB3 : Hid (Below w.heap.size w w3) := HB.out.trans (hb3.mono hz))
      go_roundw
      case rel => exact ⟨k + 1, _, by omega, by go_num, by first | rfl | go_num, hrx, HS.out, HB3.out⟩
      case measure => simp [intOf]; omega
    · obtain rfl : k = l.length := by omega
      rw [List.take_length] at HR
      have HE : Hid (r = szM szCe l) := HR.out
      go_wp2
      go_ret
      exact ⟨by rw [← HE.out]; rfl, HB.out⟩
set_option maxHeartbeats 4000000 in
set_option maxRecDepth 100000 in
theorem rowSize_any (ca : Option Addr) (cc : Nat) (cl : List Ce) (w : World) (hS : At w 1 encCe ca cl ∧ ∀ x ∈ cl, CeIn w x) (hz : 1 + szM szCe cl ≤ 1048576) :
    Calls Tryz.prog 230 #[.agg #[.slice ca cl.length cc]] w (SzGives w (szRw ⟨ca, cc, cl⟩)) := by
  have HE : Hid (szRw ⟨ca, cc, cl⟩ = 1 + szM szCe cl) := rfl
  have HX := Lib.hid (Bk.new w #[.slice ca cl.length cc] 163)
  have HW : Hid (Below w.heap.size w (w.alloc (.cells #[.slice ca cl.length cc] 163))) := (Below.refl _ _).alloc (Nat.le_refl _) _
  have HC0 : Hid (∀ W, Below w.heap.size w W → Calls Tryz.prog 242 #[.slice ca cl.length cc] W (SzGives W (szM szCe cl))) := fun W hb => cells_size cl ca cc W ⟨hS.1.below hb, fun x hx => (hS.2 x hx).keep hb⟩ (by omega)
  generalize szRw ⟨ca, cc, cl⟩ = S at *
  generalize szM szCe cl = z0 at *
  go_enter Tryz.func230, Tryz.ntmps230
  have g0 : 1 ≤ 1048576 := by omega
  go_wp2_with fail
  refine (HC0.out _ HW.out).mono ?_
  rintro e W0 ⟨rfl, hb0⟩
  have HB0 : Hid (Below w.heap.size w W0) := HW.out.trans (hb0.mono HW.out.size)
  have HX0 := Lib.hid (HX.out.next hb0)
  clear hb0 
  go_wp2_with fail
  go_ret
  exact ⟨by rw [HE.out]; first | rfl | (congr 2; omega), HB0.out⟩
set_option maxHeartbeats 4000000 in
set_option maxRecDepth 100000 in
theorem rows_size (l : List Rw) (a : Option Addr) (c : Nat) (w : World) (hA : RwsAt w a l) (hz : szM szRw l ≤ 1048576) :
    Calls Tryz.prog 211 #[.slice a l.length c] w (SzGives w (szM szRw l)) := by
  have HA := Lib.hid hA
  have HZ := Lib.hid hz
  have hll : l.length ≤ 1048576 := by unfold szM at hz; omega
  clear hA hz
  go_enter Tryz.func211, Tryz.ntmps211
  go_wp2
  go_loopw [3, 4] (fun v3 v4 wr => ∃ k r : Nat, k ≤ l.length ∧ v4 = .int .i64 k ∧ v3 = .int .i64 r ∧ r ≤ 1048576 ∧ Hid (r = l.length + sumM szRw (l.take k)) ∧ Hid (Below w.heap.size w wr)) (fun _ v4 _ => l.length - (intOf v4).toNat)
  case atStart => exact ⟨0, l.length, by omega, rfl, rfl, by omega, by rw [List.take_zero]; rfl, Below.refl _ _⟩
  case round =>
    obtain ⟨k, r, hk, rfl, rfl, hr, HR, HB⟩ := hrel
    by_cases hlt : k < l.length
    · obtain ⟨bb, off, ha, hbl, hc⟩ := (HA.out.1.below HB.out).elem hlt
      subst ha
      have HI := Lib.hid (HA.out.2 _ (List.getElem_mem hlt))
      have HS := Lib.hid (szM_take_succ szRw hlt HR.out)
      have HT := Lib.hid (Nat.le_trans (szM_part szRw HS.out) HZ.out)
      generalize l[k] = x at *
      obtain ⟨ca, cc, cl⟩ := x
      have HI : Hid (RwIn w ⟨ca, cc, cl⟩) := HI
      have d0 := hc 0 (.slice ca cl.length cc) rfl
      rw [Nat.mul_one, Nat.add_zero] at d0
      have hrx := HT.out
      have hz := HB.out.size
      clear hc HT
      go_wp2_with (go_at_call 230; refine (rowSize_any ca cc cl _ (HI.out.keep HB.out) (by have h : r + (1 + szM szCe cl) ≤ 1048576 := hrx; omega)).mono ?_; rintro e w3 ⟨rfl, hb3⟩; have HB3 : Hid (Below w.heap.size w w3) := HB.out.trans (hb3.mono hz))
      go_roundw
      case rel => exact ⟨k + 1, _, by omega, by go_num, by first | rfl | go_num, hrx, HS.out, HB3.out⟩
      case measure => simp [intOf]; omega
    · obtain rfl : k = l.length := by omega
      rw [List.take_length] at HR
      have HE : Hid (r = szM szRw l) := HR.out
      go_wp2
      go_ret
      exact ⟨by rw [← HE.out]; rfl, HB.out⟩
set_option maxHeartbeats 4000000 in
set_option maxRecDepth 100000 in
theorem blockSize_any (kd : Nat) (lv : Int) (od : Bool) (lb tx : Bytes) (sa : Option Addr) (sc : Nat) (sl : List Sp) (ra : Option Addr) (rc : Nat) (rl : List Rw) (fi : Bytes) (ln : Int) (w : World) (hS : SpsAt w sa sl) (hR : RwsAt w ra rl) (hz : 1 + lb.length + tx.length + fi.length + szM szS sl + szM szRw rl ≤ 1048576) :
    Calls Tryz.prog 183 #[.agg #[.int .u8 kd, .int .i64 lv, .bool od, .string ⟨lb.toArray⟩, .string ⟨tx.toArray⟩, .slice sa sl.length sc, .slice ra rl.length rc, .string ⟨fi.toArray⟩, .int .i64 ln]] w (SzGives w (szBl ⟨kd, lv, od, lb, tx, sa, sc, sl, ra, rc, rl, fi, ln⟩)) := by
  have HE : Hid (szBl ⟨kd, lv, od, lb, tx, sa, sc, sl, ra, rc, rl, fi, ln⟩ = 1 + lb.length + tx.length + fi.length + szM szS sl + szM szRw rl) := rfl
  have HX := Lib.hid (Bk.new w #[.int .u8 kd, .int .i64 lv, .bool od, .string ⟨lb.toArray⟩, .string ⟨tx.toArray⟩, .slice sa sl.length sc, .slice ra rl.length rc, .string ⟨fi.toArray⟩, .int .i64 ln] 74)
  have HW : Hid (Below w.heap.size w (w.alloc (.cells #[.int .u8 kd, .int .i64 lv, .bool od, .string ⟨lb.toArray⟩, .string ⟨tx.toArray⟩, .slice sa sl.length sc, .slice ra rl.length rc, .string ⟨fi.toArray⟩, .int .i64 ln] 74))) := (Below.refl _ _).alloc (Nat.le_refl _) _
  have HC0 : Hid (∀ W, Below w.heap.size w W → Calls Tryz.prog 210 #[.slice sa sl.length sc] W (SzGives W (szM szS sl))) := fun W hb => spans_size sl sa sc W (hS.keep hb) (by omega)
  have HC1 : Hid (∀ W, Below w.heap.size w W → Calls Tryz.prog 211 #[.slice ra rl.length rc] W (SzGives W (szM szRw rl))) := fun W hb => rows_size rl ra rc W (hR.keep hb) (by omega)
  generalize szBl ⟨kd, lv, od, lb, tx, sa, sc, sl, ra, rc, rl, fi, ln⟩ = S at *
  generalize szM szS sl = z0 at *
  generalize szM szRw rl = z1 at *
  go_enter Tryz.func183, Tryz.ntmps183
  have g0 : 1 + lb.length + tx.length + fi.length ≤ 1048576 := by omega
  have g1 : 1 + lb.length + tx.length + fi.length + z0 ≤ 1048576 := by omega
  go_wp2_with fail
  refine (HC0.out _ HW.out).mono ?_
  rintro e W0 ⟨rfl, hb0⟩
  have HB0 : Hid (Below w.heap.size w W0) := HW.out.trans (hb0.mono HW.out.size)
  have HX0 := Lib.hid (HX.out.next hb0)
  have x0 := HX0.out.cell 6
  change W0.cell? ⟨w.heap.size, 6, none⟩ = some (.slice ra rl.length rc) at x0
  clear hb0 
  go_wp2_with fail
  refine (HC1.out _ HB0.out).mono ?_
  rintro e W1 ⟨rfl, hb1⟩
  have HB1 : Hid (Below w.heap.size w W1) := HB0.out.trans (hb1.mono HB0.out.size)
  have HX1 := Lib.hid (HX0.out.next hb1)
  clear hb1 x0
  go_wp2_with fail
  go_ret
  exact ⟨by rw [HE.out]; first | rfl | (congr 2; omega), HB1.out⟩
set_option maxHeartbeats 4000000 in
set_option maxRecDepth 100000 in
theorem blocks_size (l : List Bl) (a : Option Addr) (c : Nat) (w : World) (hA : BlsAt w a l) (hz : szM szBl l ≤ 1048576) :
    Calls Tryz.prog 158 #[.slice a l.length c] w (SzGives w (szM szBl l)) := by
  have HA := Lib.hid hA
  have HZ := Lib.hid hz
  have hll : l.length ≤ 1048576 := by unfold szM at hz; omega
  clear hA hz
  go_enter Tryz.func158, Tryz.ntmps158
  go_wp2
  go_loopw [3, 4] (fun v3 v4 wr => ∃ k r : Nat, k ≤ l.length ∧ v4 = .int .i64 k ∧ v3 = .int .i64 r ∧ r ≤ 1048576 ∧ Hid (r = l.length + sumM szBl (l.take k)) ∧ Hid (Below w.heap.size w wr)) (fun _ v4 _ => l.length - (intOf v4).toNat)
  case atStart => exact ⟨0, l.length, by omega, rfl, rfl, by omega, by rw [List.take_zero]; rfl, Below.refl _ _⟩
  case round =>
    obtain ⟨k, r, hk, rfl, rfl, hr, HR, HB⟩ := hrel
    by_cases hlt : k < l.length
    · obtain ⟨bb, off, ha, hbl, hc⟩ := (HA.out.1.below HB.out).elem hlt
      subst ha
      have HI := Lib.hid (HA.out.2 _ (List.getElem_mem hlt))
      have HS := Lib.hid (szM_take_succ szBl hlt HR.out)
      have HT := Lib.hid (Nat.le_trans (szM_part szBl HS.out) HZ.out)
      generalize l[k] = x at *
      obtain ⟨kd, lv, od, lb, tx, sa, sc, sl, ra, rc, rl, fi, ln⟩ := x
      have HI : Hid (BlIn w ⟨kd, lv, od, lb, tx, sa, sc, sl, ra, rc, rl, fi, ln⟩) := HI
      have d0 := hc 0 (.int .u8 kd) rfl
      have d1 := hc 1 (.int .i64 lv) rfl
      have d2 := hc 2 (.bool od) rfl
      have d3 := hc 3 (.string ⟨lb.toArray⟩) rfl
      have d4 := hc 4 (.string ⟨tx.toArray⟩) rfl
      have d5 := hc 5 (.slice sa sl.length sc) rfl
      have d6 := hc 6 (.slice ra rl.length rc) rfl
      have d7 := hc 7 (.string ⟨fi.toArray⟩) rfl
      have d8 := hc 8 (.int .i64 ln) rfl
      rw [Nat.add_zero] at d0
      have hrx := HT.out
      have hz := HB.out.size
      clear hc HT
      go_wp2_with (go_at_call 183; refine (blockSize_any kd lv od lb tx sa sc sl ra rc rl fi ln _ (HI.out.1.keep HB.out) (HI.out.2.keep HB.out) (by have h : r + (1 + lb.length + tx.length + fi.length + szM szS sl + szM szRw rl) ≤ 1048576 := hrx; omega)).mono ?_; rintro e w3 ⟨rfl, hb3⟩; have HB3 : Hid (Below w.heap.size w w3) := HB.out.trans (hb3.mono hz))
      go_roundw
      case rel => exact ⟨k + 1, _, by omega, by go_num, by first | rfl | go_num, hrx, HS.out, HB3.out⟩
      case measure => simp [intOf]; omega
    · obtain rfl : k = l.length := by omega
      rw [List.take_length] at HR
      have HE : Hid (r = szM szBl l) := HR.out
      go_wp2
      go_ret
      exact ⟨by rw [← HE.out]; rfl, HB.out⟩
set_option maxHeartbeats 4000000 in
set_option maxRecDepth 100000 in
theorem diags_size (l : List Dg) (a : Option Addr) (c : Nat) (w : World) (hA : At w 4 encDg a l) (hz : szM szDg l ≤ 1048576) :
    Calls Tryz.prog 159 #[.slice a l.length c] w (SzGives w (szM szDg l)) := by
  have HA := Lib.hid hA
  have HZ := Lib.hid hz
  have hll : l.length ≤ 1048576 := by unfold szM at hz; omega
  clear hA hz
  go_enter Tryz.func159, Tryz.ntmps159
  go_wp2
  go_loopw [3, 4] (fun v3 v4 wr => ∃ k r : Nat, k ≤ l.length ∧ v4 = .int .i64 k ∧ v3 = .int .i64 r ∧ r ≤ 1048576 ∧ Hid (r = l.length + sumM szDg (l.take k)) ∧ Hid (Below w.heap.size w wr)) (fun _ v4 _ => l.length - (intOf v4).toNat)
  case atStart => exact ⟨0, l.length, by omega, rfl, rfl, by omega, by rw [List.take_zero]; rfl, Below.refl _ _⟩
  case round =>
    obtain ⟨k, r, hk, rfl, rfl, hr, HR, HB⟩ := hrel
    by_cases hlt : k < l.length
    · obtain ⟨bb, off, ha, hbl, hc⟩ := (HA.out.below HB.out).elem hlt
      subst ha
      have HS := Lib.hid (szM_take_succ szDg hlt HR.out)
      have HT := Lib.hid (Nat.le_trans (szM_part szDg HS.out) HZ.out)
      generalize l[k] = x at *
      obtain ⟨fi, ln, fa, tx⟩ := x
      have HS : Hid (r + (fi.length + tx.length) = l.length + sumM szDg (l.take (k + 1))) := HS
      have HT : Hid (r + (fi.length + tx.length) ≤ 1048576) := HT
      have d0 := hc 0 (.string ⟨fi.toArray⟩) rfl
      have d1 := hc 1 (.int .i64 ln) rfl
      have d2 := hc 2 (.int .i64 fa) rfl
      have d3 := hc 3 (.string ⟨tx.toArray⟩) rfl
      rw [Nat.add_zero] at d0
      have hrx := HT.out
      have hz := HB.out.size
      clear hc HT
      have a0 : IntKind.i64.wrap ((r : Int) + (fi.length : Int)) = (r : Int) + (fi.length : Int) := IntWalk.i64_in _ (by omega)
      have a1 : IntKind.i64.wrap ((r : Int) + (fi.length : Int) + (tx.length : Int)) = (r : Int) + (fi.length : Int) + (tx.length : Int) := IntWalk.i64_in _ (by omega)
      have HB3 : Hid (Below w.heap.size w wr.drew) := HB.out.drew
      go_wp2_with fail
      go_quiet (fail)
      go_wp2_with fail
      go_roundw
      case rel => exact ⟨k + 1, _, by omega, by go_num, by first | rfl | go_num, hrx, HS.out, below_drewN HB.out _⟩
      case measure => simp [intOf]; omega
    · obtain rfl : k = l.length := by omega
      rw [List.take_length] at HR
      have HE : Hid (r = szM szDg l) := HR.out
      go_wp2
      go_ret
      exact ⟨by rw [← HE.out]; rfl, HB.out⟩
set_option maxHeartbeats 4000000 in
set_option maxRecDepth 100000 in
theorem attrs_size (l : List Two) (a : Option Addr) (c : Nat) (w : World) (hA : At w 2 encT a l) (hz : szM szT l ≤ 1048576) :
    Calls Tryz.prog 160 #[.slice a l.length c] w (SzGives w (szM szT l)) := by
  have HA := Lib.hid hA
  have HZ := Lib.hid hz
  have hll : l.length ≤ 1048576 := by unfold szM at hz; omega
  clear hA hz
  go_enter Tryz.func160, Tryz.ntmps160
  go_wp2
  go_loopw [3, 4] (fun v3 v4 wr => ∃ k r : Nat, k ≤ l.length ∧ v4 = .int .i64 k ∧ v3 = .int .i64 r ∧ r ≤ 1048576 ∧ Hid (r = l.length + sumM szT (l.take k)) ∧ Hid (Below w.heap.size w wr)) (fun _ v4 _ => l.length - (intOf v4).toNat)
  case atStart => exact ⟨0, l.length, by omega, rfl, rfl, by omega, by rw [List.take_zero]; rfl, Below.refl _ _⟩
  case round =>
    obtain ⟨k, r, hk, rfl, rfl, hr, HR, HB⟩ := hrel
    by_cases hlt : k < l.length
    · obtain ⟨bb, off, ha, hbl, hc⟩ := (HA.out.below HB.out).elem hlt
      subst ha
      have HS := Lib.hid (szM_take_succ szT hlt HR.out)
      have HT := Lib.hid (Nat.le_trans (szM_part szT HS.out) HZ.out)
      generalize l[k] = x at *
      obtain ⟨fi, tx⟩ := x
      have HS : Hid (r + (fi.length + tx.length) = l.length + sumM szT (l.take (k + 1))) := HS
      have HT : Hid (r + (fi.length + tx.length) ≤ 1048576) := HT
      have d0 := hc 0 (.string ⟨fi.toArray⟩) rfl
      have d1 := hc 1 (.string ⟨tx.toArray⟩) rfl
      rw [Nat.add_zero] at d0
      have hrx := HT.out
      have hz := HB.out.size
      clear hc HT
      have a0 : IntKind.i64.wrap ((r : Int) + (fi.length : Int)) = (r : Int) + (fi.length : Int) := IntWalk.i64_in _ (by omega)
      have a1 : IntKind.i64.wrap ((r : Int) + (fi.length : Int) + (tx.length : Int)) = (r : Int) + (fi.length : Int) + (tx.length : Int) := IntWalk.i64_in _ (by omega)
      have HB3 : Hid (Below w.heap.size w wr.drew) := HB.out.drew
      go_wp2_with fail
      go_quiet (fail)
      go_wp2_with fail
      go_roundw
      case rel => exact ⟨k + 1, _, by omega, by go_num, by first | rfl | go_num, hrx, HS.out, below_drewN HB.out _⟩
      case measure => simp [intOf]; omega
    · obtain rfl : k = l.length := by omega
      rw [List.take_length] at HR
      have HE : Hid (r = szM szT l) := HR.out
      go_wp2
      go_ret
      exact ⟨by rw [← HE.out]; rfl, HB.out⟩
theorem texts_size (l : List Bytes) (a : Option Addr) (c : Nat) (w : World) (hA : At w 1 encS a l) (hz : szM szB l ≤ 1048576) :
    Calls Tryz.prog 97 #[.slice a l.length c] w (SzGives w (szM szB l)) := by
  have he : sizeT l = szM szB l := rfl
  refine (textsSize_any a c l w (by unfold szM at hz; omega) hA (fun x hx => by have := szM_mem szB hx; have h : szB x = x.length := rfl; omega)).mono ?_
  rintro e w' ⟨⟨r, rfl, hr⟩, hb⟩
  refine ⟨?_, hb⟩
  rcases hr with hr | hr
  · rw [hr, he]
  · omega
set_option maxHeartbeats 4000000 in
set_option maxRecDepth 100000 in
theorem chapterSize_any (nm : Bytes) (ba : Option Addr) (bc : Nat) (bl : List Bl) (da : Option Addr) (dc : Nat) (dl : List Dg) (fa : Option Addr) (fc : Nat) (fl : List Bytes) (aa : Option Addr) (ac : Nat) (al : List Two) (ua : Option Addr) (uc : Nat) (ul : List Bytes) (w : World) (hC : ChIn w ⟨nm, ba, bc, bl, da, dc, dl, fa, fc, fl, aa, ac, al, ua, uc, ul⟩) (hz : 1 + nm.length + szM szBl bl + szM szDg dl + szM szB fl + szM szT al + szM szB ul ≤ 1048576) :
    Calls Tryz.prog 138 #[.agg #[.string ⟨nm.toArray⟩, .slice ba bl.length bc, .slice da dl.length dc, .slice fa fl.length fc, .slice aa al.length ac, .slice ua ul.length uc]] w (SzGives w (szCh ⟨nm, ba, bc, bl, da, dc, dl, fa, fc, fl, aa, ac, al, ua, uc, ul⟩)) := by
  have HE : Hid (szCh ⟨nm, ba, bc, bl, da, dc, dl, fa, fc, fl, aa, ac, al, ua, uc, ul⟩ = 1 + nm.length + szM szBl bl + szM szDg dl + szM szB fl + szM szT al + szM szB ul) := rfl
  have HX := Lib.hid (Bk.new w #[.string ⟨nm.toArray⟩, .slice ba bl.length bc, .slice da dl.length dc, .slice fa fl.length fc, .slice aa al.length ac, .slice ua ul.length uc] 77)
  have HW : Hid (Below w.heap.size w (w.alloc (.cells #[.string ⟨nm.toArray⟩, .slice ba bl.length bc, .slice da dl.length dc, .slice fa fl.length fc, .slice aa al.length ac, .slice ua ul.length uc] 77))) := (Below.refl _ _).alloc (Nat.le_refl _) _
  have HC0 : Hid (∀ W, Below w.heap.size w W → Calls Tryz.prog 158 #[.slice ba bl.length bc] W (SzGives W (szM szBl bl))) := fun W hb => blocks_size bl ba bc W (hC.bls.keep hb) (by omega)
  have HC1 : Hid (∀ W, Below w.heap.size w W → Calls Tryz.prog 159 #[.slice da dl.length dc] W (SzGives W (szM szDg dl))) := fun W hb => diags_size dl da dc W (hC.dls.below hb) (by omega)
  have HC2 : Hid (∀ W, Below w.heap.size w W → Calls Tryz.prog 97 #[.slice fa fl.length fc] W (SzGives W (szM szB fl))) := fun W hb => texts_size fl fa fc W (hC.fls.below hb) (by omega)
  have HC3 : Hid (∀ W, Below w.heap.size w W → Calls Tryz.prog 160 #[.slice aa al.length ac] W (SzGives W (szM szT al))) := fun W hb => attrs_size al aa ac W (hC.als.below hb) (by omega)
  have HC4 : Hid (∀ W, Below w.heap.size w W → Calls Tryz.prog 97 #[.slice ua ul.length uc] W (SzGives W (szM szB ul))) := fun W hb => texts_size ul ua uc W (hC.uls.below hb) (by omega)
  generalize szCh ⟨nm, ba, bc, bl, da, dc, dl, fa, fc, fl, aa, ac, al, ua, uc, ul⟩ = S at *
  generalize szM szBl bl = z0 at *
  generalize szM szDg dl = z1 at *
  generalize szM szB fl = z2 at *
  generalize szM szT al = z3 at *
  generalize szM szB ul = z4 at *
  go_enter Tryz.func138, Tryz.ntmps138
  have g0 : 1 + nm.length ≤ 1048576 := by omega
  have g1 : 1 + nm.length + z0 ≤ 1048576 := by omega
  have g2 : 1 + nm.length + z0 + z1 ≤ 1048576 := by omega
  have g3 : 1 + nm.length + z0 + z1 + z2 ≤ 1048576 := by omega
  have g4 : 1 + nm.length + z0 + z1 + z2 + z3 ≤ 1048576 := by omega
  go_wp2_with fail
  refine (HC0.out _ HW.out).mono ?_
  rintro e W0 ⟨rfl, hb0⟩
  have HB0 : Hid (Below w.heap.size w W0) := HW.out.trans (hb0.mono HW.out.size)
  have HX0 := Lib.hid (HX.out.next hb0)
  have x0 := HX0.out.cell 2
  change W0.cell? ⟨w.heap.size, 2, none⟩ = some (.slice da dl.length dc) at x0
  clear hb0 
  go_wp2_with fail
  refine (HC1.out _ HB0.out).mono ?_
  rintro e W1 ⟨rfl, hb1⟩
  have HB1 : Hid (Below w.heap.size w W1) := HB0.out.trans (hb1.mono HB0.out.size)
  have HX1 := Lib.hid (HX0.out.next hb1)
  have x1 := HX1.out.cell 3
  change W1.cell? ⟨w.heap.size, 3, none⟩ = some (.slice fa fl.length fc) at x1
  clear hb1 x0
  go_wp2_with fail
  refine (HC2.out _ HB1.out).mono ?_
  rintro e W2 ⟨rfl, hb2⟩
  have HB2 : Hid (Below w.heap.size w W2) := HB1.out.trans (hb2.mono HB1.out.size)
  have HX2 := Lib.hid (HX1.out.next hb2)
  have x2 := HX2.out.cell 4
  change W2.cell? ⟨w.heap.size, 4, none⟩ = some (.slice aa al.length ac) at x2
  clear hb2 x1
  go_wp2_with fail
  refine (HC3.out _ HB2.out).mono ?_
  rintro e W3 ⟨rfl, hb3⟩
  have HB3 : Hid (Below w.heap.size w W3) := HB2.out.trans (hb3.mono HB2.out.size)
  have HX3 := Lib.hid (HX2.out.next hb3)
  have x3 := HX3.out.cell 5
  change W3.cell? ⟨w.heap.size, 5, none⟩ = some (.slice ua ul.length uc) at x3
  clear hb3 x2
  go_wp2_with fail
  refine (HC4.out _ HB3.out).mono ?_
  rintro e W4 ⟨rfl, hb4⟩
  have HB4 : Hid (Below w.heap.size w W4) := HB3.out.trans (hb4.mono HB3.out.size)
  have HX4 := Lib.hid (HX3.out.next hb4)
  clear hb4 x3
  go_wp2_with fail
  go_ret
  exact ⟨by rw [HE.out]; first | rfl | (congr 2; omega), HB4.out⟩
set_option maxHeartbeats 4000000 in
set_option maxRecDepth 100000 in
theorem chapters_size (l : List Ch) (a : Option Addr) (c : Nat) (w : World) (hA : ChsAt w a l) (hz : szM szCh l ≤ 1048576) :
    Calls Tryz.prog 81 #[.slice a l.length c] w (SzGives w (szM szCh l)) := by
  have HA := Lib.hid hA
  have HZ := Lib.hid hz
  have hll : l.length ≤ 1048576 := by unfold szM at hz; omega
  clear hA hz
  go_enter Tryz.func81, Tryz.ntmps81
  go_wp2
  go_loopw [3, 4] (fun v3 v4 wr => ∃ k r : Nat, k ≤ l.length ∧ v4 = .int .i64 k ∧ v3 = .int .i64 r ∧ r ≤ 1048576 ∧ Hid (r = l.length + sumM szCh (l.take k)) ∧ Hid (Below w.heap.size w wr)) (fun _ v4 _ => l.length - (intOf v4).toNat)
  case atStart => exact ⟨0, l.length, by omega, rfl, rfl, by omega, by rw [List.take_zero]; rfl, Below.refl _ _⟩
  case round =>
    obtain ⟨k, r, hk, rfl, rfl, hr, HR, HB⟩ := hrel
    by_cases hlt : k < l.length
    · obtain ⟨bb, off, ha, hbl, hc⟩ := (HA.out.1.below HB.out).elem hlt
      subst ha
      have HI := Lib.hid (HA.out.2 _ (List.getElem_mem hlt))
      have HS := Lib.hid (szM_take_succ szCh hlt HR.out)
      have HT := Lib.hid (Nat.le_trans (szM_part szCh HS.out) HZ.out)
      generalize l[k] = x at *
      obtain ⟨nm, ba, bc, bl, da, dc, dl, fa, fc, fl, aa, ac, al, ua, uc, ul⟩ := x
      have HI : Hid (ChIn w ⟨nm, ba, bc, bl, da, dc, dl, fa, fc, fl, aa, ac, al, ua, uc, ul⟩) := HI
      have d0 := hc 0 (.string ⟨nm.toArray⟩) rfl
      have d1 := hc 1 (.slice ba bl.length bc) rfl
      have d2 := hc 2 (.slice da dl.length dc) rfl
      have d3 := hc 3 (.slice fa fl.length fc) rfl
      have d4 := hc 4 (.slice aa al.length ac) rfl
      have d5 := hc 5 (.slice ua ul.length uc) rfl
      rw [Nat.add_zero] at d0
      have hrx := HT.out
      have hz := HB.out.size
      clear hc HT
      go_wp2_with (go_at_call 138; refine (chapterSize_any nm ba bc bl da dc dl fa fc fl aa ac al ua uc ul _ (HI.out.keep HB.out) (by have h : r + (1 + nm.length + szM szBl bl + szM szDg dl + szM szB fl + szM szT al + szM szB ul) ≤ 1048576 := hrx; omega)).mono ?_; rintro e w3 ⟨rfl, hb3⟩; have HB3 : Hid (Below w.heap.size w w3) := HB.out.trans (hb3.mono hz))
      go_roundw
      case rel => exact ⟨k + 1, _, by omega, by go_num, by first | rfl | go_num, hrx, HS.out, HB3.out⟩
      case measure => simp [intOf]; omega
    · obtain rfl : k = l.length := by omega
      rw [List.take_length] at HR
      have HE : Hid (r = szM szCh l) := HR.out
      go_wp2
      go_ret
      exact ⟨by rw [← HE.out]; rfl, HB.out⟩
end Go.Proofs.YtohinfefidahlaaGreatDoor

namespace Go.Proofs.YtohinfefidahlaaGreatDoor
set_option linter.unusedSimpArgs false
open Go.RowKit
set_option linter.unusedVariables false

def szLo (x : LoK) : Nat := x.1.1.length + x.1.2.1.length + x.1.2.2.length
mutual
def szE : En → Nat
  | .mk t _ _ al _ _ sl _ _ ul => 1 + t.length + szM szLo al + szM szB sl + szEL ul
def szEL : List En → Nat
  | [] => 0
  | x :: l => 1 + szE x + szEL l
end
theorem szEL_eq : ∀ l : List En, szEL l = szM szE l
  | [] => by rw [szEL]; rfl
  | x :: l => by rw [szEL, szEL_eq l]; unfold szM; rw [sumM_cons, List.length_cons]; omega
theorem szE_eq (x : En) : szE x = 1 + x.term.length + szM szLo x.al + szM szB x.sl + szM szE x.ul := by cases x; rw [szE, szEL_eq]; rfl
/-- what is small is so in all of it -/
theorem small_of (n : Nat) : ∀ x : En, szE x ≤ n → n ≤ 1000000 → EnSm x := by
  induction n using Nat.strongRecOn with
  | _ n ih =>
    intro x hx hn
    obtain ⟨t, aa, ac, al, sa, sc, sl, ua, uc, ul⟩ := x
    rw [szE, szEL_eq] at hx
    refine .mk (by unfold szM at hx; omega) (by unfold szM at hx; omega) (by unfold szM at hx; omega) fun y hy => ?_
    have := szM_mem szE hy
    exact ih (szE y) (by omega) y (Nat.le_refl _) (by omega)
theorem smallL_of {l : List En} (h : szM szE l ≤ 1000000) : ∀ x ∈ l, EnSm x := fun x hx => small_of (szE x) x (Nat.le_refl _) (by have := szM_mem szE hx; omega)
theorem cn_le (n : Nat) : ∀ x : En, nE x ≤ n → cnE x ≤ 3 * szE x := by
  induction n using Nat.strongRecOn with
  | _ n ih =>
    intro x hx
    obtain ⟨t, aa, ac, al, sa, sc, sl, ua, uc, ul⟩ := x
    rw [nE] at hx
    rw [cnE, szE]
    have : ∀ l : List En, nEs l ≤ nEs ul → cnL l ≤ 3 * szEL l := by
      intro l
      induction l with
      | nil => intro _; rw [cnL]; omega
      | cons y l ihl =>
        intro hl
        rw [nEs] at hl
        rw [cnL, szEL]
        have h1 := ih (nE y) (by omega) y (Nat.le_refl _)
        have h2 := ihl (by omega)
        omega
    have := this ul (Nat.le_refl _)
    omega
theorem cnL_le : ∀ l : List En, cnL l ≤ 3 * szM szE l := by
  intro l
  rw [← szEL_eq]
  induction l with
  | nil => rw [cnL]; omega
  | cons y l ih => rw [cnL, szEL]; have := cn_le _ y (Nat.le_refl _); omega
set_option maxHeartbeats 4000000 in
set_option maxRecDepth 100000 in
theorem locs_size (l : List LoK) (a : Option Addr) (c : Nat) (w : World) (hA : At w 3 encLo a l) (hz : szM szLo l ≤ 1048576) :
    Calls Tryz.prog 96 #[.slice a l.length c] w (SzGives w (szM szLo l)) := by
  have HA := Lib.hid hA
  have HZ := Lib.hid hz
  have hll : l.length ≤ 1048576 := by unfold szM at hz; omega
  clear hA hz
  go_enter Tryz.func96, Tryz.ntmps96
  go_wp2
  go_loopw [3, 4] (fun v3 v4 wr => ∃ k r : Nat, k ≤ l.length ∧ v4 = .int .i64 k ∧ v3 = .int .i64 r ∧ r ≤ 1048576 ∧ Hid (r = l.length + sumM szLo (l.take k)) ∧ Hid (Below w.heap.size w wr)) (fun _ v4 _ => l.length - (intOf v4).toNat)
  case atStart => exact ⟨0, l.length, by omega, rfl, rfl, by omega, by rw [List.take_zero]; rfl, Below.refl _ _⟩
  case round =>
    obtain ⟨k, r, hk, rfl, rfl, hr, HR, HB⟩ := hrel
    by_cases hlt : k < l.length
    · obtain ⟨bb, off, ha, hbl, hc⟩ := (HA.out.below HB.out).elem hlt
      subst ha
      have HS := Lib.hid (szM_take_succ szLo hlt HR.out)
      have HT := Lib.hid (Nat.le_trans (szM_part szLo HS.out) HZ.out)
      generalize l[k] = x at *
      obtain ⟨⟨pg, an, nu⟩, hpl⟩ := x
      have HS : Hid (r + (pg.length + an.length + nu.length) = l.length + sumM szLo (l.take (k + 1))) := HS
      have HT : Hid (r + (pg.length + an.length + nu.length) ≤ 1048576) := HT
      have d0 := hc 0 (.string ⟨pg.toArray⟩) rfl
      have d1 := hc 1 (.string ⟨an.toArray⟩) rfl
      have d2 := hc 2 (.string ⟨nu.toArray⟩) rfl
      rw [Nat.add_zero] at d0
      have hrx := HT.out
      have hz := HB.out.size
      clear hc HT
      have a0 : IntKind.i64.wrap ((r : Int) + (pg.length : Int)) = (r : Int) + (pg.length : Int) := IntWalk.i64_in _ (by omega)
      have a1 : IntKind.i64.wrap ((r : Int) + (pg.length : Int) + (an.length : Int)) = (r : Int) + (pg.length : Int) + (an.length : Int) := IntWalk.i64_in _ (by omega)
      have a2 : IntKind.i64.wrap ((r : Int) + (pg.length : Int) + (an.length : Int) + (nu.length : Int)) = (r : Int) + (pg.length : Int) + (an.length : Int) + (nu.length : Int) := IntWalk.i64_in _ (by omega)
      have HB3 : Hid (Below w.heap.size w wr.drew) := HB.out.drew
      go_wp2_with fail
      go_quiet (fail)
      go_wp2_with fail
      go_roundw
      case rel => exact ⟨k + 1, _, by omega, by go_num, by first | rfl | go_num, hrx, HS.out, below_drewN HB.out _⟩
      case measure => simp [intOf]; omega
    · obtain rfl : k = l.length := by omega
      rw [List.take_length] at HR
      have HE : Hid (r = szM szLo l) := HR.out
      go_wp2
      go_ret
      exact ⟨by rw [← HE.out]; rfl, HB.out⟩
set_option maxHeartbeats 4000000 in
set_option maxRecDepth 100000 in
theorem entrySize_of (t : Bytes) (aa : Option Addr) (ac : Nat) (al : List LoK) (sa : Option Addr) (sc : Nat) (sl : List Bytes) (ua : Option Addr) (uc : Nat) (ul : List En) (w : World) (hA : At w 3 encLo aa al) (hS : At w 1 encS sa sl) (hk : ∀ W, Below w.heap.size w W → Calls Tryz.prog 6 #[.slice ua ul.length uc] W (SzGives W (szM szE ul))) (hz : 1 + t.length + szM szLo al + szM szB sl + szM szE ul ≤ 1048576) :
    Calls Tryz.prog 20 #[.agg #[.string ⟨t.toArray⟩, .slice aa al.length ac, .slice sa sl.length sc, .slice ua ul.length uc]] w (SzGives w (szE (.mk t aa ac al sa sc sl ua uc ul))) := by
  have HE : Hid (szE (.mk t aa ac al sa sc sl ua uc ul) = 1 + t.length + szM szLo al + szM szB sl + szM szE ul) := szE_eq (.mk t aa ac al sa sc sl ua uc ul)
  have HX := Lib.hid (Bk.new w #[.string ⟨t.toArray⟩, .slice aa al.length ac, .slice sa sl.length sc, .slice ua ul.length uc] 29)
  have HW : Hid (Below w.heap.size w (w.alloc (.cells #[.string ⟨t.toArray⟩, .slice aa al.length ac, .slice sa sl.length sc, .slice ua ul.length uc] 29))) := (Below.refl _ _).alloc (Nat.le_refl _) _
  have HC0 : Hid (∀ W, Below w.heap.size w W → Calls Tryz.prog 96 #[.slice aa al.length ac] W (SzGives W (szM szLo al))) := fun W hb => locs_size al aa ac W (hA.below hb) (by omega)
  have HC1 : Hid (∀ W, Below w.heap.size w W → Calls Tryz.prog 97 #[.slice sa sl.length sc] W (SzGives W (szM szB sl))) := fun W hb => texts_size sl sa sc W (hS.below hb) (by omega)
  have HC2 : Hid (∀ W, Below w.heap.size w W → Calls Tryz.prog 6 #[.slice ua ul.length uc] W (SzGives W (szM szE ul))) := fun W hb => hk W hb
  generalize szE (.mk t aa ac al sa sc sl ua uc ul) = S at *
  generalize szM szLo al = z0 at *
  generalize szM szB sl = z1 at *
  generalize szM szE ul = z2 at *
  go_enter Tryz.func20, Tryz.ntmps20
  have g0 : 1 + t.length ≤ 1048576 := by omega
  have g1 : 1 + t.length + z0 ≤ 1048576 := by omega
  have g2 : 1 + t.length + z0 + z1 ≤ 1048576 := by omega
  go_wp2_with fail
  refine (HC0.out _ HW.out).mono ?_
  rintro e W0 ⟨rfl, hb0⟩
  have HB0 : Hid (Below w.heap.size w W0) := HW.out.trans (hb0.mono HW.out.size)
  have HX0 := Lib.hid (HX.out.next hb0)
  have x0 := HX0.out.cell 2
  change W0.cell? ⟨w.heap.size, 2, none⟩ = some (.slice sa sl.length sc) at x0
  clear hb0 
  go_wp2_with fail
  refine (HC1.out _ HB0.out).mono ?_
  rintro e W1 ⟨rfl, hb1⟩
  have HB1 : Hid (Below w.heap.size w W1) := HB0.out.trans (hb1.mono HB0.out.size)
  have HX1 := Lib.hid (HX0.out.next hb1)
  have x1 := HX1.out.cell 3
  change W1.cell? ⟨w.heap.size, 3, none⟩ = some (.slice ua ul.length uc) at x1
  clear hb1 x0
  go_wp2_with fail
  refine (HC2.out _ HB1.out).mono ?_
  rintro e W2 ⟨rfl, hb2⟩
  have HB2 : Hid (Below w.heap.size w W2) := HB1.out.trans (hb2.mono HB1.out.size)
  have HX2 := Lib.hid (HX1.out.next hb2)
  clear hb2 x1
  go_wp2_with fail
  go_ret
  exact ⟨by rw [HE.out]; first | rfl | (congr 2; omega), HB2.out⟩
set_option maxHeartbeats 4000000 in
set_option maxRecDepth 100000 in
theorem ensSize_any (n : Nat) : ∀ (l : List En), nEs l ≤ n → ∀ (N : Nat → Prop) (a : Option Addr) (c : Nat) (w : World), EnsAt N w a l → szM szE l ≤ 1048576 →
    Calls Tryz.prog 6 #[.slice a l.length c] w (SzGives w (szM szE l)) := by
  induction n using Nat.strongRecOn with
  | _ n ih =>
  intro l hd N a c w hA hz
  have HA := Lib.hid hA
  have HZ := Lib.hid hz
  have HIH : Hid (∀ x ∈ l, ∀ W, Below w.heap.size w W → szM szE x.ul ≤ 1048576 → Calls Tryz.prog 6 #[.slice x.ua x.ul.length x.uc] W (SzGives W (szM szE x.ul))) := fun x hx W hb hz =>
    ih (nEs x.ul) (by have h1 := nEs_mem hx; have h2 : nEs x.ul < nE x := (by cases x; rw [nE]; simp only [En.ul]; omega); omega) x.ul (Nat.le_refl _) N x.ua x.uc W ⟨((hA.2 x hx).next hb).uls, ((hA.2 x hx).next hb).kids⟩ hz
  have hll : l.length ≤ 1048576 := by unfold szM at hz; omega
  clear hA hz ih
  go_enter Tryz.func6, Tryz.ntmps6
  go_wp2
  go_loopw [3, 4] (fun v3 v4 wr => ∃ k r : Nat, k ≤ l.length ∧ v4 = .int .i64 k ∧ v3 = .int .i64 r ∧ r ≤ 1048576 ∧ Hid (r = l.length + sumM szE (l.take k)) ∧ Hid (Below w.heap.size w wr)) (fun _ v4 _ => l.length - (intOf v4).toNat)
  case atStart => exact ⟨0, l.length, by omega, rfl, rfl, by omega, by rw [List.take_zero]; rfl, Below.refl _ _⟩
  case round =>
    obtain ⟨k, r, hk, rfl, rfl, hr, HR, HB⟩ := hrel
    by_cases hlt : k < l.length
    · obtain ⟨bb, off, ha, hbl, hc⟩ := ((HA.out.1.at_).below HB.out).elem hlt
      subst ha
      have HI := Lib.hid (HA.out.2 _ (List.getElem_mem hlt))
      have HREC := Lib.hid (HIH.out _ (List.getElem_mem hlt))
      have HS := Lib.hid (szM_take_succ szE hlt HR.out)
      have HT := Lib.hid (Nat.le_trans (szM_part szE HS.out) HZ.out)
      generalize l[k] = x at *
      obtain ⟨t, aa, ac, al, sa, sc, sl, ua, uc, ul⟩ := x
      have HI1 : Hid (At w 3 encLo aa al) := HI.out.als.at_
      have HI2 : Hid (At w 1 encS sa sl) := HI.out.sls.at_
      have HREC : Hid (∀ W, Below w.heap.size w W → szM szE ul ≤ 1048576 → Calls Tryz.prog 6 #[.slice ua ul.length uc] W (SzGives W (szM szE ul))) := HREC
      have d0 := hc 0 (.string ⟨t.toArray⟩) rfl
      have d1 := hc 1 (.slice aa al.length ac) rfl
      have d2 := hc 2 (.slice sa sl.length sc) rfl
      have d3 := hc 3 (.slice ua ul.length uc) rfl
      rw [Nat.add_zero] at d0
      have he : szE (.mk t aa ac al sa sc sl ua uc ul) = 1 + t.length + szM szLo al + szM szB sl + szM szE ul := szE_eq _
      have hrx := HT.out
      have HSZ : Hid (1 + t.length + szM szLo al + szM szB sl + szM szE ul ≤ 1048576 ∧ szM szE ul ≤ 1048576) := by rw [he] at hrx; exact ⟨by omega, by omega⟩
      have hz := HB.out.size
      clear hc HT he HI
      go_wp2_with (go_at_call 20; refine (entrySize_of t aa ac al sa sc sl ua uc ul _ (HI1.out.below HB.out) (HI2.out.below HB.out) (fun W hb => HREC.out W (HB.out.trans (hb.mono hz)) HSZ.out.2) HSZ.out.1).mono ?_; rintro e w3 ⟨rfl, hb3⟩; have HB3 : Hid (Below w.heap.size w w3) := HB.out.trans (hb3.mono hz))
      go_roundw
      case rel => exact ⟨k + 1, _, by omega, by go_num, by first | rfl | go_num, hrx, HS.out, HB3.out⟩
      case measure => simp [intOf]; omega
    · obtain rfl : k = l.length := by omega
      rw [List.take_length] at HR
      have HE : Hid (r = szM szE l) := HR.out
      go_wp2
      go_ret
      exact ⟨by rw [← HE.out]; rfl, HB.out⟩
theorem ens_size (l : List En) (N : Nat → Prop) (a : Option Addr) (c : Nat) (w : World) (hA : EnsAt N w a l) (hz : szM szE l ≤ 1048576) :
    Calls Tryz.prog 6 #[.slice a l.length c] w (SzGives w (szM szE l)) := ensSize_any _ l (Nat.le_refl _) N a c w hA hz
end Go.Proofs.YtohinfefidahlaaGreatDoor
