/- The laws CondsBack and CondsAgain, walked. -/
import Derived.Test.YtgikmippclcimaaAlive
import Derived.Test.YtgikmippclcimaaSetLaw
import Derived.Test.YtgikmippclcimaaSize
import Derived.Test.YtgikmippclcimaaTwinA
namespace Go.Proofs.Ytgikmippclcimaa
open Go.RowKit
set_option linter.unusedVariables false

theorem Blk.next {w w' : World} {g : Nat} {C : List Value} (h : Blk w g C) (hb : Below w.heap.size w w') : Blk w' g C := h.below hb h.lt
theorem val_len {l : List Two} {s : Bytes} (hs : ∀ x ∈ l, x.name.length + x.value.length ≤ 100000) (x : Two) (hx : x ∈ l) : x.name.length + x.value.length ≤ 9223372036854775807 := by have := hs x hx; omega
theorem setRec_len2 {l : List Two} {s v : Bytes} (hs : ∀ x ∈ l, x.name.length + x.value.length ≤ 100000) (h1 : s.length ≤ 100000) (h2 : v.length ≤ 100000) : ∀ x ∈ setRec s v l, x.name.length + x.value.length ≤ 9223372036854775807 := by
  intro x hx
  rcases setRec_mem s v l x hx with rfl | hx
  · show s.length + v.length ≤ _; omega
  · have := hs x hx; omega
theorem filter_len2 {l : List Two} {s : Bytes} (hs : ∀ x ∈ l, x.name.length + x.value.length ≤ 100000) : ∀ x ∈ l.filter (notB s), x.name.length + x.value.length ≤ 9223372036854775807 := by
  intro x hx
  have := hs x (List.mem_filter.1 hx).1
  omega
theorem getV_of {l : List Two} {s : Bytes} {q : Option Bytes} (h : getL l s = q) : getV l s = .tuple #[.string ⟨(q.getD []).toArray⟩, .bool q.isSome] := by rw [getV_eq, h]

set_option maxHeartbeats 8000000 in
set_option maxRecDepth 100000 in
theorem bk_great (w : World) (a : Option Addr) (c : Nat) (l : List Two) (hA : At w 2 encT a l) (hn : l.length ≤ 140737488351232) (hG : ∀ x ∈ l, x.name.length ≤ 140737488351232 ∧ x.value.length ≤ 140737488351232) (hcap : l.length ≤ c) (n m : Bytes) (hs : n.length ≤ 140737488351232) (hm : m.length ≤ 140737488351232) (v : Bytes) (hv : v.length ≤ 140737488351232) (hM : MaxOk w) (hgr : greatB l n = true) :
    Calls Try.prog 5 #[.slice a l.length c, .agg #[.string ⟨n.toArray⟩, .string ⟨m.toArray⟩], .string ⟨v.toArray⟩] w fun e w' => e = .returned (.bool true) ∧ Below w.heap.size w w' := by
  have HGR := Lib.hid (fun w hA => great_any a c l n w hn hA hG hs)
  have HGB := Lib.hid hgr
  have HA := Lib.hid hA
  have HM := Lib.hid hM
  clear hA hG hgr hM
  go_enter Try.func5, Try.ntmps5
  go_wp2_with fail
  refine (alive_any _ (HM.out.next ((Below.refl _ _).alloc (Nat.le_refl _) _))).mono ?_
  rintro e w1 ⟨rfl, hd⟩
  have HB := Lib.hid ((Blk.new w #[.string ⟨n.toArray⟩, .string ⟨m.toArray⟩] 32).next hd)
  have hc := ((Below.refl w.heap.size w).alloc (Nat.le_refl _) (.cells #[.string ⟨n.toArray⟩, .string ⟨m.toArray⟩] 32)).trans (hd.mono (by simp))
  have hb1 := hc
  have HM := Lib.hid (HM.out.next hc)
  have HA := Lib.hid (HA.out.below hc)
  have xc0 : w1.cell? ⟨w.heap.size, 0, none⟩ = some (.string ⟨n.toArray⟩) := HB.out.cell 0
  have xc1 : w1.cell? ⟨w.heap.size, 1, none⟩ = some (.string ⟨m.toArray⟩) := HB.out.cell 1
  clear hc hd
  go_wp2_with fail
  clear xc0 xc1
  refine (HGR.out _ HA.out).mono ?_
  rw [HGB.out]
  rintro e w2 ⟨rfl, hc⟩
  have hb2 := hb1.trans (hc.mono hb1.size)
  have HM := Lib.hid (HM.out.next hc)
  have HA := Lib.hid (HA.out.below hc)
  have HB := Lib.hid (HB.out.next hc)
  clear hc
  have xc0 : w2.cell? ⟨w.heap.size, 0, none⟩ = some (.string ⟨n.toArray⟩) := HB.out.cell 0
  have xc1 : w2.cell? ⟨w.heap.size, 1, none⟩ = some (.string ⟨m.toArray⟩) := HB.out.cell 1
  go_wp2_with fail
  clear xc0 xc1
  refine (alive_any _ HM.out).mono ?_
  rintro e w3 ⟨rfl, hc⟩
  have hb3 := hb2.trans (hc.mono hb2.size)
  have HM := Lib.hid (HM.out.next hc)
  have HA := Lib.hid (HA.out.below hc)
  have HB := Lib.hid (HB.out.next hc)
  clear hc
  have xc0 : w3.cell? ⟨w.heap.size, 0, none⟩ = some (.string ⟨n.toArray⟩) := HB.out.cell 0
  have xc1 : w3.cell? ⟨w.heap.size, 1, none⟩ = some (.string ⟨m.toArray⟩) := HB.out.cell 1
  go_wp2_with fail
  go_ret
  exact ⟨rfl, hb3⟩

set_option maxHeartbeats 8000000 in
set_option maxRecDepth 100000 in
theorem bk_long1 (w : World) (a : Option Addr) (c : Nat) (l : List Two) (hA : At w 2 encT a l) (hn : l.length ≤ 140737488351232) (hG : ∀ x ∈ l, x.name.length ≤ 140737488351232 ∧ x.value.length ≤ 140737488351232) (hcap : l.length ≤ c) (n m : Bytes) (hs : n.length ≤ 140737488351232) (hm : m.length ≤ 140737488351232) (v : Bytes) (hv : v.length ≤ 140737488351232) (hM : MaxOk w) (hgr : greatB l n = false) (hlong : 100000 < m.length) :
    Calls Try.prog 5 #[.slice a l.length c, .agg #[.string ⟨n.toArray⟩, .string ⟨m.toArray⟩], .string ⟨v.toArray⟩] w fun e w' => e = .returned (.bool true) ∧ Below w.heap.size w w' := by
  obtain ⟨hl1, hn1, hv1⟩ := greatB_false hgr
  have HGR := Lib.hid (fun w hA => great_any a c l n w hn hA hG hs)
  have HGB := Lib.hid hgr
  have HA := Lib.hid hA
  have HM := Lib.hid hM
  clear hA hG hgr hM
  have HS := Lib.hid (val_len (s := n) hv1)
  have HV1 := Lib.hid hv1
  clear hv1
  go_enter Try.func5, Try.ntmps5
  go_wp2_with fail
  refine (alive_any _ (HM.out.next ((Below.refl _ _).alloc (Nat.le_refl _) _))).mono ?_
  rintro e w1 ⟨rfl, hd⟩
  have HB := Lib.hid ((Blk.new w #[.string ⟨n.toArray⟩, .string ⟨m.toArray⟩] 32).next hd)
  have hc := ((Below.refl w.heap.size w).alloc (Nat.le_refl _) (.cells #[.string ⟨n.toArray⟩, .string ⟨m.toArray⟩] 32)).trans (hd.mono (by simp))
  have hb1 := hc
  have HM := Lib.hid (HM.out.next hc)
  have HA := Lib.hid (HA.out.below hc)
  have xc0 : w1.cell? ⟨w.heap.size, 0, none⟩ = some (.string ⟨n.toArray⟩) := HB.out.cell 0
  have xc1 : w1.cell? ⟨w.heap.size, 1, none⟩ = some (.string ⟨m.toArray⟩) := HB.out.cell 1
  clear hc hd
  go_wp2_with fail
  clear xc0 xc1
  refine (HGR.out _ HA.out).mono ?_
  rw [HGB.out]
  rintro e w2 ⟨rfl, hc⟩
  have hb2 := hb1.trans (hc.mono hb1.size)
  have HM := Lib.hid (HM.out.next hc)
  have HA := Lib.hid (HA.out.below hc)
  have HB := Lib.hid (HB.out.next hc)
  clear hc
  have xc0 : w2.cell? ⟨w.heap.size, 0, none⟩ = some (.string ⟨n.toArray⟩) := HB.out.cell 0
  have xc1 : w2.cell? ⟨w.heap.size, 1, none⟩ = some (.string ⟨m.toArray⟩) := HB.out.cell 1
  go_wp2_with fail
  clear xc0 xc1
  refine (alive_any _ HM.out).mono ?_
  rintro e w3 ⟨rfl, hc⟩
  have hb3 := hb2.trans (hc.mono hb2.size)
  have HM := Lib.hid (HM.out.next hc)
  have HA := Lib.hid (HA.out.below hc)
  have HB := Lib.hid (HB.out.next hc)
  clear hc
  have xc0 : w3.cell? ⟨w.heap.size, 0, none⟩ = some (.string ⟨n.toArray⟩) := HB.out.cell 0
  have xc1 : w3.cell? ⟨w.heap.size, 1, none⟩ = some (.string ⟨m.toArray⟩) := HB.out.cell 1
  go_wp2_with fail
  go_ret
  exact ⟨rfl, hb3⟩

set_option maxHeartbeats 8000000 in
set_option maxRecDepth 100000 in
theorem bk_long2 (w : World) (a : Option Addr) (c : Nat) (l : List Two) (hA : At w 2 encT a l) (hn : l.length ≤ 140737488351232) (hG : ∀ x ∈ l, x.name.length ≤ 140737488351232 ∧ x.value.length ≤ 140737488351232) (hcap : l.length ≤ c) (n m : Bytes) (hs : n.length ≤ 140737488351232) (hm : m.length ≤ 140737488351232) (v : Bytes) (hv : v.length ≤ 140737488351232) (hM : MaxOk w) (hgr : greatB l n = false) (hlong1 : m.length ≤ 100000) (hlong : 100000 < v.length) :
    Calls Try.prog 5 #[.slice a l.length c, .agg #[.string ⟨n.toArray⟩, .string ⟨m.toArray⟩], .string ⟨v.toArray⟩] w fun e w' => e = .returned (.bool true) ∧ Below w.heap.size w w' := by
  obtain ⟨hl1, hn1, hv1⟩ := greatB_false hgr
  have HGR := Lib.hid (fun w hA => great_any a c l n w hn hA hG hs)
  have HGB := Lib.hid hgr
  have HA := Lib.hid hA
  have HM := Lib.hid hM
  clear hA hG hgr hM
  have HS := Lib.hid (val_len (s := n) hv1)
  have HV1 := Lib.hid hv1
  clear hv1
  go_enter Try.func5, Try.ntmps5
  go_wp2_with fail
  refine (alive_any _ (HM.out.next ((Below.refl _ _).alloc (Nat.le_refl _) _))).mono ?_
  rintro e w1 ⟨rfl, hd⟩
  have HB := Lib.hid ((Blk.new w #[.string ⟨n.toArray⟩, .string ⟨m.toArray⟩] 32).next hd)
  have hc := ((Below.refl w.heap.size w).alloc (Nat.le_refl _) (.cells #[.string ⟨n.toArray⟩, .string ⟨m.toArray⟩] 32)).trans (hd.mono (by simp))
  have hb1 := hc
  have HM := Lib.hid (HM.out.next hc)
  have HA := Lib.hid (HA.out.below hc)
  have xc0 : w1.cell? ⟨w.heap.size, 0, none⟩ = some (.string ⟨n.toArray⟩) := HB.out.cell 0
  have xc1 : w1.cell? ⟨w.heap.size, 1, none⟩ = some (.string ⟨m.toArray⟩) := HB.out.cell 1
  clear hc hd
  go_wp2_with fail
  clear xc0 xc1
  refine (HGR.out _ HA.out).mono ?_
  rw [HGB.out]
  rintro e w2 ⟨rfl, hc⟩
  have hb2 := hb1.trans (hc.mono hb1.size)
  have HM := Lib.hid (HM.out.next hc)
  have HA := Lib.hid (HA.out.below hc)
  have HB := Lib.hid (HB.out.next hc)
  clear hc
  have xc0 : w2.cell? ⟨w.heap.size, 0, none⟩ = some (.string ⟨n.toArray⟩) := HB.out.cell 0
  have xc1 : w2.cell? ⟨w.heap.size, 1, none⟩ = some (.string ⟨m.toArray⟩) := HB.out.cell 1
  go_wp2_with fail
  clear xc0 xc1
  refine (alive_any _ HM.out).mono ?_
  rintro e w3 ⟨rfl, hc⟩
  have hb3 := hb2.trans (hc.mono hb2.size)
  have HM := Lib.hid (HM.out.next hc)
  have HA := Lib.hid (HA.out.below hc)
  have HB := Lib.hid (HB.out.next hc)
  clear hc
  have xc0 : w3.cell? ⟨w.heap.size, 0, none⟩ = some (.string ⟨n.toArray⟩) := HB.out.cell 0
  have xc1 : w3.cell? ⟨w.heap.size, 1, none⟩ = some (.string ⟨m.toArray⟩) := HB.out.cell 1
  go_wp2_with fail
  go_ret
  exact ⟨rfl, hb3⟩

set_option maxHeartbeats 8000000 in
set_option maxRecDepth 100000 in
theorem bk_bad1 (w : World) (a : Option Addr) (c : Nat) (l : List Two) (hA : At w 2 encT a l) (hn : l.length ≤ 140737488351232) (hG : ∀ x ∈ l, x.name.length ≤ 140737488351232 ∧ x.value.length ≤ 140737488351232) (hcap : l.length ≤ c) (n m : Bytes) (hs : n.length ≤ 140737488351232) (hm : m.length ≤ 140737488351232) (v : Bytes) (hv : v.length ≤ 140737488351232) (hM : MaxOk w) (hgr : greatB l n = false) (hlm : m.length ≤ 100000) (hlv : v.length ≤ 100000) (h1 : checkB l = false) :
    Calls Try.prog 5 #[.slice a l.length c, .agg #[.string ⟨n.toArray⟩, .string ⟨m.toArray⟩], .string ⟨v.toArray⟩] w fun e w' => e = .returned (.bool true) ∧ Below w.heap.size w w' := by
  have HF1 := Lib.hid (setR_bad (l := l) (s := n) (v := v) (by simp [mayB, h1]))
  have HF2 := Lib.hid (unsetR_bad (l := l) (s := n) (by simp [h1]))
  have HC := Lib.hid h1
  clear h1
  obtain ⟨hl1, hn1, hv1⟩ := greatB_false hgr
  have HGR := Lib.hid (fun w hA => great_any a c l n w hn hA hG hs)
  have HGB := Lib.hid hgr
  have HA := Lib.hid hA
  have HM := Lib.hid hM
  clear hA hG hgr hM
  have HS := Lib.hid (val_len (s := n) hv1)
  have HV1 := Lib.hid hv1
  clear hv1
  go_enter Try.func5, Try.ntmps5
  go_wp2_with fail
  refine (alive_any _ (HM.out.next ((Below.refl _ _).alloc (Nat.le_refl _) _))).mono ?_
  rintro e w1 ⟨rfl, hd⟩
  have HB := Lib.hid ((Blk.new w #[.string ⟨n.toArray⟩, .string ⟨m.toArray⟩] 32).next hd)
  have hc := ((Below.refl w.heap.size w).alloc (Nat.le_refl _) (.cells #[.string ⟨n.toArray⟩, .string ⟨m.toArray⟩] 32)).trans (hd.mono (by simp))
  have hb1 := hc
  have HM := Lib.hid (HM.out.next hc)
  have HA := Lib.hid (HA.out.below hc)
  have xc0 : w1.cell? ⟨w.heap.size, 0, none⟩ = some (.string ⟨n.toArray⟩) := HB.out.cell 0
  have xc1 : w1.cell? ⟨w.heap.size, 1, none⟩ = some (.string ⟨m.toArray⟩) := HB.out.cell 1
  clear hc hd
  go_wp2_with fail
  clear xc0 xc1
  refine (HGR.out _ HA.out).mono ?_
  rw [HGB.out]
  rintro e w2 ⟨rfl, hc⟩
  have hb2 := hb1.trans (hc.mono hb1.size)
  have HM := Lib.hid (HM.out.next hc)
  have HA := Lib.hid (HA.out.below hc)
  have HB := Lib.hid (HB.out.next hc)
  clear hc
  have xc0 : w2.cell? ⟨w.heap.size, 0, none⟩ = some (.string ⟨n.toArray⟩) := HB.out.cell 0
  have xc1 : w2.cell? ⟨w.heap.size, 1, none⟩ = some (.string ⟨m.toArray⟩) := HB.out.cell 1
  go_wp2_with fail
  clear xc0 xc1
  refine (set_any a c l n v _ (by omega) (by omega) (by omega) HA.out (hcap) HS.out).mono ?_
  rw [HF1.out.1, HF1.out.2]
  rintro e w3 ⟨⟨rA1, rfl, hO⟩, hc⟩
  have hb3 := hb2.trans (hc.mono hb2.size)
  have HM := Lib.hid (HM.out.next hc)
  have HA := Lib.hid (HA.out.below hc)
  have HB := Lib.hid (HB.out.next hc)
  obtain ⟨A1, cA1, rfl, hA', hCA1⟩ := hO.open encT_ok
  have HA1 : Hid (At w3 2 encT A1 []) := hA'
  clear hA' hO
  clear hc
  have xc0 : w3.cell? ⟨w.heap.size, 0, none⟩ = some (.string ⟨n.toArray⟩) := HB.out.cell 0
  have xc1 : w3.cell? ⟨w.heap.size, 1, none⟩ = some (.string ⟨m.toArray⟩) := HB.out.cell 1
  go_wp2_with fail
  clear xc0 xc1
  refine (unset_any a c l n _ (by omega) (by omega) HA.out HS.out).mono ?_
  rw [HF2.out.1, HF2.out.2]
  rintro e w4 ⟨⟨rA2, rfl, hO⟩, hc⟩
  have hb4 := hb3.trans (hc.mono hb3.size)
  have HM := Lib.hid (HM.out.next hc)
  have HA := Lib.hid (HA.out.below hc)
  have HB := Lib.hid (HB.out.next hc)
  have HA1 := Lib.hid (HA1.out.below hc)
  obtain ⟨A2, cA2, rfl, hA', hCA2⟩ := hO.open encT_ok
  have HA2 : Hid (At w4 2 encT A2 []) := hA'
  clear hA' hO
  clear hc
  have xc0 : w4.cell? ⟨w.heap.size, 0, none⟩ = some (.string ⟨n.toArray⟩) := HB.out.cell 0
  have xc1 : w4.cell? ⟨w.heap.size, 1, none⟩ = some (.string ⟨m.toArray⟩) := HB.out.cell 1
  go_wp2_with fail
  clear xc0 xc1
  refine (check_any a c l _ (by omega) HA.out HS.out).mono ?_
  rw [HC.out]
  rintro e w5 ⟨rfl, hc⟩
  have hb5 := hb4.trans (hc.mono hb4.size)
  have HM := Lib.hid (HM.out.next hc)
  have HA := Lib.hid (HA.out.below hc)
  have HB := Lib.hid (HB.out.next hc)
  have HA1 := Lib.hid (HA1.out.below hc)
  have HA2 := Lib.hid (HA2.out.below hc)
  clear hc
  have xc0 : w5.cell? ⟨w.heap.size, 0, none⟩ = some (.string ⟨n.toArray⟩) := HB.out.cell 0
  have xc1 : w5.cell? ⟨w.heap.size, 1, none⟩ = some (.string ⟨m.toArray⟩) := HB.out.cell 1
  go_wp2_with fail
  go_ret
  exact ⟨rfl, hb5⟩

set_option maxHeartbeats 8000000 in
set_option maxRecDepth 100000 in
theorem bk_bad2 (w : World) (a : Option Addr) (c : Nat) (l : List Two) (hA : At w 2 encT a l) (hn : l.length ≤ 140737488351232) (hG : ∀ x ∈ l, x.name.length ≤ 140737488351232 ∧ x.value.length ≤ 140737488351232) (hcap : l.length ≤ c) (n m : Bytes) (hs : n.length ≤ 140737488351232) (hm : m.length ≤ 140737488351232) (v : Bytes) (hv : v.length ≤ 140737488351232) (hM : MaxOk w) (hgr : greatB l n = false) (hlm : m.length ≤ 100000) (hlv : v.length ≤ 100000) (h1 : checkB l = true) (h2 : nameB n = false) :
    Calls Try.prog 5 #[.slice a l.length c, .agg #[.string ⟨n.toArray⟩, .string ⟨m.toArray⟩], .string ⟨v.toArray⟩] w fun e w' => e = .returned (.bool true) ∧ Below w.heap.size w w' := by
  have HF1 := Lib.hid (setR_bad (l := l) (s := n) (v := v) (by simp [mayB, h2]))
  have HF2 := Lib.hid (unsetR_bad (l := l) (s := n) (by simp [h2]))
  have HC := Lib.hid h1
  have HN := Lib.hid h2
  clear h1 h2
  obtain ⟨hl1, hn1, hv1⟩ := greatB_false hgr
  have HGR := Lib.hid (fun w hA => great_any a c l n w hn hA hG hs)
  have HGB := Lib.hid hgr
  have HA := Lib.hid hA
  have HM := Lib.hid hM
  clear hA hG hgr hM
  have HS := Lib.hid (val_len (s := n) hv1)
  have HV1 := Lib.hid hv1
  clear hv1
  go_enter Try.func5, Try.ntmps5
  go_wp2_with fail
  refine (alive_any _ (HM.out.next ((Below.refl _ _).alloc (Nat.le_refl _) _))).mono ?_
  rintro e w1 ⟨rfl, hd⟩
  have HB := Lib.hid ((Blk.new w #[.string ⟨n.toArray⟩, .string ⟨m.toArray⟩] 32).next hd)
  have hc := ((Below.refl w.heap.size w).alloc (Nat.le_refl _) (.cells #[.string ⟨n.toArray⟩, .string ⟨m.toArray⟩] 32)).trans (hd.mono (by simp))
  have hb1 := hc
  have HM := Lib.hid (HM.out.next hc)
  have HA := Lib.hid (HA.out.below hc)
  have xc0 : w1.cell? ⟨w.heap.size, 0, none⟩ = some (.string ⟨n.toArray⟩) := HB.out.cell 0
  have xc1 : w1.cell? ⟨w.heap.size, 1, none⟩ = some (.string ⟨m.toArray⟩) := HB.out.cell 1
  clear hc hd
  go_wp2_with fail
  clear xc0 xc1
  refine (HGR.out _ HA.out).mono ?_
  rw [HGB.out]
  rintro e w2 ⟨rfl, hc⟩
  have hb2 := hb1.trans (hc.mono hb1.size)
  have HM := Lib.hid (HM.out.next hc)
  have HA := Lib.hid (HA.out.below hc)
  have HB := Lib.hid (HB.out.next hc)
  clear hc
  have xc0 : w2.cell? ⟨w.heap.size, 0, none⟩ = some (.string ⟨n.toArray⟩) := HB.out.cell 0
  have xc1 : w2.cell? ⟨w.heap.size, 1, none⟩ = some (.string ⟨m.toArray⟩) := HB.out.cell 1
  go_wp2_with fail
  clear xc0 xc1
  refine (set_any a c l n v _ (by omega) (by omega) (by omega) HA.out (hcap) HS.out).mono ?_
  rw [HF1.out.1, HF1.out.2]
  rintro e w3 ⟨⟨rA1, rfl, hO⟩, hc⟩
  have hb3 := hb2.trans (hc.mono hb2.size)
  have HM := Lib.hid (HM.out.next hc)
  have HA := Lib.hid (HA.out.below hc)
  have HB := Lib.hid (HB.out.next hc)
  obtain ⟨A1, cA1, rfl, hA', hCA1⟩ := hO.open encT_ok
  have HA1 : Hid (At w3 2 encT A1 []) := hA'
  clear hA' hO
  clear hc
  have xc0 : w3.cell? ⟨w.heap.size, 0, none⟩ = some (.string ⟨n.toArray⟩) := HB.out.cell 0
  have xc1 : w3.cell? ⟨w.heap.size, 1, none⟩ = some (.string ⟨m.toArray⟩) := HB.out.cell 1
  go_wp2_with fail
  clear xc0 xc1
  refine (unset_any a c l n _ (by omega) (by omega) HA.out HS.out).mono ?_
  rw [HF2.out.1, HF2.out.2]
  rintro e w4 ⟨⟨rA2, rfl, hO⟩, hc⟩
  have hb4 := hb3.trans (hc.mono hb3.size)
  have HM := Lib.hid (HM.out.next hc)
  have HA := Lib.hid (HA.out.below hc)
  have HB := Lib.hid (HB.out.next hc)
  have HA1 := Lib.hid (HA1.out.below hc)
  obtain ⟨A2, cA2, rfl, hA', hCA2⟩ := hO.open encT_ok
  have HA2 : Hid (At w4 2 encT A2 []) := hA'
  clear hA' hO
  clear hc
  have xc0 : w4.cell? ⟨w.heap.size, 0, none⟩ = some (.string ⟨n.toArray⟩) := HB.out.cell 0
  have xc1 : w4.cell? ⟨w.heap.size, 1, none⟩ = some (.string ⟨m.toArray⟩) := HB.out.cell 1
  go_wp2_with fail
  clear xc0 xc1
  refine (check_any a c l _ (by omega) HA.out HS.out).mono ?_
  rw [HC.out]
  rintro e w5 ⟨rfl, hc⟩
  have hb5 := hb4.trans (hc.mono hb4.size)
  have HM := Lib.hid (HM.out.next hc)
  have HA := Lib.hid (HA.out.below hc)
  have HB := Lib.hid (HB.out.next hc)
  have HA1 := Lib.hid (HA1.out.below hc)
  have HA2 := Lib.hid (HA2.out.below hc)
  clear hc
  have xc0 : w5.cell? ⟨w.heap.size, 0, none⟩ = some (.string ⟨n.toArray⟩) := HB.out.cell 0
  have xc1 : w5.cell? ⟨w.heap.size, 1, none⟩ = some (.string ⟨m.toArray⟩) := HB.out.cell 1
  go_wp2_with fail
  refine (name_any n _ (by omega)).mono ?_
  rw [HN.out]
  rintro e w' ⟨rfl, rfl⟩
  go_wp2_with fail
  go_ret
  exact ⟨rfl, hb5⟩

set_option maxHeartbeats 8000000 in
set_option maxRecDepth 100000 in
theorem bk_bad3 (w : World) (a : Option Addr) (c : Nat) (l : List Two) (hA : At w 2 encT a l) (hn : l.length ≤ 140737488351232) (hG : ∀ x ∈ l, x.name.length ≤ 140737488351232 ∧ x.value.length ≤ 140737488351232) (hcap : l.length ≤ c) (n m : Bytes) (hs : n.length ≤ 140737488351232) (hm : m.length ≤ 140737488351232) (v : Bytes) (hv : v.length ≤ 140737488351232) (hM : MaxOk w) (hgr : greatB l n = false) (hlm : m.length ≤ 100000) (hlv : v.length ≤ 100000) (h1 : checkB l = true) (h2 : nameB n = true) (h3 : validB v = false) :
    Calls Try.prog 5 #[.slice a l.length c, .agg #[.string ⟨n.toArray⟩, .string ⟨m.toArray⟩], .string ⟨v.toArray⟩] w fun e w' => e = .returned (.bool true) ∧ Below w.heap.size w w' := by
  have HF1 := Lib.hid (setR_bad (l := l) (s := n) (v := v) (by simp [mayB, h3]))
  have HF2 := Lib.hid (unsetR_ok h1 h2)
  have HC := Lib.hid h1
  have HN := Lib.hid h2
  clear h1 h2 h3
  obtain ⟨hl1, hn1, hv1⟩ := greatB_false hgr
  have HGR := Lib.hid (fun w hA => great_any a c l n w hn hA hG hs)
  have HGB := Lib.hid hgr
  have HA := Lib.hid hA
  have HM := Lib.hid hM
  clear hA hG hgr hM
  have HS := Lib.hid (val_len (s := n) hv1)
  have HV1 := Lib.hid hv1
  clear hv1
  go_enter Try.func5, Try.ntmps5
  go_wp2_with fail
  refine (alive_any _ (HM.out.next ((Below.refl _ _).alloc (Nat.le_refl _) _))).mono ?_
  rintro e w1 ⟨rfl, hd⟩
  have HB := Lib.hid ((Blk.new w #[.string ⟨n.toArray⟩, .string ⟨m.toArray⟩] 32).next hd)
  have hc := ((Below.refl w.heap.size w).alloc (Nat.le_refl _) (.cells #[.string ⟨n.toArray⟩, .string ⟨m.toArray⟩] 32)).trans (hd.mono (by simp))
  have hb1 := hc
  have HM := Lib.hid (HM.out.next hc)
  have HA := Lib.hid (HA.out.below hc)
  have xc0 : w1.cell? ⟨w.heap.size, 0, none⟩ = some (.string ⟨n.toArray⟩) := HB.out.cell 0
  have xc1 : w1.cell? ⟨w.heap.size, 1, none⟩ = some (.string ⟨m.toArray⟩) := HB.out.cell 1
  clear hc hd
  go_wp2_with fail
  clear xc0 xc1
  refine (HGR.out _ HA.out).mono ?_
  rw [HGB.out]
  rintro e w2 ⟨rfl, hc⟩
  have hb2 := hb1.trans (hc.mono hb1.size)
  have HM := Lib.hid (HM.out.next hc)
  have HA := Lib.hid (HA.out.below hc)
  have HB := Lib.hid (HB.out.next hc)
  clear hc
  have xc0 : w2.cell? ⟨w.heap.size, 0, none⟩ = some (.string ⟨n.toArray⟩) := HB.out.cell 0
  have xc1 : w2.cell? ⟨w.heap.size, 1, none⟩ = some (.string ⟨m.toArray⟩) := HB.out.cell 1
  go_wp2_with fail
  clear xc0 xc1
  refine (set_any a c l n v _ (by omega) (by omega) (by omega) HA.out (hcap) HS.out).mono ?_
  rw [HF1.out.1, HF1.out.2]
  rintro e w3 ⟨⟨rA1, rfl, hO⟩, hc⟩
  have hb3 := hb2.trans (hc.mono hb2.size)
  have HM := Lib.hid (HM.out.next hc)
  have HA := Lib.hid (HA.out.below hc)
  have HB := Lib.hid (HB.out.next hc)
  obtain ⟨A1, cA1, rfl, hA', hCA1⟩ := hO.open encT_ok
  have HA1 : Hid (At w3 2 encT A1 []) := hA'
  clear hA' hO
  clear hc
  have xc0 : w3.cell? ⟨w.heap.size, 0, none⟩ = some (.string ⟨n.toArray⟩) := HB.out.cell 0
  have xc1 : w3.cell? ⟨w.heap.size, 1, none⟩ = some (.string ⟨m.toArray⟩) := HB.out.cell 1
  go_wp2_with fail
  clear xc0 xc1
  refine (unset_any a c l n _ (by omega) (by omega) HA.out HS.out).mono ?_
  rw [HF2.out.1, HF2.out.2]
  rintro e w4 ⟨⟨rA2, rfl, hO⟩, hc⟩
  have hb4 := hb3.trans (hc.mono hb3.size)
  have HM := Lib.hid (HM.out.next hc)
  have HA := Lib.hid (HA.out.below hc)
  have HB := Lib.hid (HB.out.next hc)
  have HA1 := Lib.hid (HA1.out.below hc)
  obtain ⟨A2, cA2, rfl, hA', hCA2⟩ := hO.open encT_ok
  have HA2 : Hid (At w4 2 encT A2 (l.filter (notB n))) := hA'
  clear hA' hO
  clear hc
  have xc0 : w4.cell? ⟨w.heap.size, 0, none⟩ = some (.string ⟨n.toArray⟩) := HB.out.cell 0
  have xc1 : w4.cell? ⟨w.heap.size, 1, none⟩ = some (.string ⟨m.toArray⟩) := HB.out.cell 1
  go_wp2_with fail
  clear xc0 xc1
  refine (check_any a c l _ (by omega) HA.out HS.out).mono ?_
  rw [HC.out]
  rintro e w5 ⟨rfl, hc⟩
  have hb5 := hb4.trans (hc.mono hb4.size)
  have HM := Lib.hid (HM.out.next hc)
  have HA := Lib.hid (HA.out.below hc)
  have HB := Lib.hid (HB.out.next hc)
  have HA1 := Lib.hid (HA1.out.below hc)
  have HA2 := Lib.hid (HA2.out.below hc)
  clear hc
  have xc0 : w5.cell? ⟨w.heap.size, 0, none⟩ = some (.string ⟨n.toArray⟩) := HB.out.cell 0
  have xc1 : w5.cell? ⟨w.heap.size, 1, none⟩ = some (.string ⟨m.toArray⟩) := HB.out.cell 1
  go_wp2_with fail
  refine (name_any n _ (by omega)).mono ?_
  rw [HN.out]
  rintro e w' ⟨rfl, rfl⟩
  go_wp2_with fail
  go_ret
  exact ⟨rfl, hb5⟩

set_option maxHeartbeats 8000000 in
set_option maxRecDepth 100000 in
theorem bk_good00 (w : World) (a : Option Addr) (c : Nat) (l : List Two) (hA : At w 2 encT a l) (hn : l.length ≤ 140737488351232) (hG : ∀ x ∈ l, x.name.length ≤ 140737488351232 ∧ x.value.length ≤ 140737488351232) (hcap : l.length ≤ c) (n m : Bytes) (hs : n.length ≤ 140737488351232) (hm : m.length ≤ 140737488351232) (v : Bytes) (hv : v.length ≤ 140737488351232) (hM : MaxOk w) (hgr : greatB l n = false) (hlm : m.length ≤ 100000) (hlv : v.length ≤ 100000) (h1 : checkB l = true) (h2 : nameB n = true) (h3 : validB v = true) (hfull : fullB l n = false) (hmn : (m == n) = false) :
    Calls Try.prog 5 #[.slice a l.length c, .agg #[.string ⟨n.toArray⟩, .string ⟨m.toArray⟩], .string ⟨v.toArray⟩] w fun e w' => e = .returned (.bool true) ∧ Below w.heap.size w w' := by
  have hmay : mayB l n v = true := by simp [mayB, h1, h2, h3]
  have HF1 := Lib.hid (setR_ok hmay hfull)
  have HF2 := Lib.hid (unsetR_ok h1 h2)
  have HU := Lib.hid (check_unset n h1)
  have HG1 := Lib.hid (getV_of (getL_unset n l))
  have HCS := Lib.hid (check_set hmay hfull)
  have HG3 := Lib.hid (getV_of (getL_set n v l))
  have hg0 := getV_of (l := l) (s := m) rfl
  have hg2 := getV_of (getL_unset_other n m hmn l)
  have hg4 := getV_of (getL_set_other n v m hmn l)
  have hmn2 : (m != n) = true := by rw [bne, hmn]; rfl
  clear h1 h2 h3 hmay hfull
  generalize getL l m = q at *
  cases q with
  | none =>
    simp only [Option.getD_none, Option.isSome_none] at hg0 hg2 hg4
    have HG0 := Lib.hid hg0
    have HG2 := Lib.hid hg2
    have HG4 := Lib.hid hg4
    clear hg0 hg2 hg4
    obtain ⟨hl1, hn1, hv1⟩ := greatB_false hgr
    have HGR := Lib.hid (fun w hA => great_any a c l n w hn hA hG hs)
    have HGB := Lib.hid hgr
    have HA := Lib.hid hA
    have HM := Lib.hid hM
    clear hA hG hgr hM
    have HS := Lib.hid (val_len (s := n) hv1)
    have HV1 := Lib.hid hv1
    clear hv1
    have HFL := Lib.hid (filter_len2 (s := n) HV1.out)
    have hflen : (l.filter (notB n)).length ≤ l.length := List.length_filter_le _ _
    have HSL := Lib.hid (setRec_len2 (s := n) (v := v) HV1.out (by omega) (by omega))
    have hslen : (setRec n v l).length ≤ l.length + 1 := by rw [setRec_len]; split <;> omega
    go_enter Try.func5, Try.ntmps5
    go_wp2_with fail
    refine (alive_any _ (HM.out.next ((Below.refl _ _).alloc (Nat.le_refl _) _))).mono ?_
    rintro e w1 ⟨rfl, hd⟩
    have HB := Lib.hid ((Blk.new w #[.string ⟨n.toArray⟩, .string ⟨m.toArray⟩] 32).next hd)
    have hc := ((Below.refl w.heap.size w).alloc (Nat.le_refl _) (.cells #[.string ⟨n.toArray⟩, .string ⟨m.toArray⟩] 32)).trans (hd.mono (by simp))
    have hb1 := hc
    have HM := Lib.hid (HM.out.next hc)
    have HA := Lib.hid (HA.out.below hc)
    have xc0 : w1.cell? ⟨w.heap.size, 0, none⟩ = some (.string ⟨n.toArray⟩) := HB.out.cell 0
    have xc1 : w1.cell? ⟨w.heap.size, 1, none⟩ = some (.string ⟨m.toArray⟩) := HB.out.cell 1
    clear hc hd
    go_wp2_with fail
    clear xc0 xc1
    refine (HGR.out _ HA.out).mono ?_
    rw [HGB.out]
    rintro e w2 ⟨rfl, hc⟩
    have hb2 := hb1.trans (hc.mono hb1.size)
    have HM := Lib.hid (HM.out.next hc)
    have HA := Lib.hid (HA.out.below hc)
    have HB := Lib.hid (HB.out.next hc)
    clear hc
    have xc0 : w2.cell? ⟨w.heap.size, 0, none⟩ = some (.string ⟨n.toArray⟩) := HB.out.cell 0
    have xc1 : w2.cell? ⟨w.heap.size, 1, none⟩ = some (.string ⟨m.toArray⟩) := HB.out.cell 1
    go_wp2_with fail
    clear xc0 xc1
    refine (set_any a c l n v _ (by omega) (by omega) (by omega) HA.out (hcap) HS.out).mono ?_
    rw [HF1.out.1, HF1.out.2]
    rintro e w3 ⟨⟨rA1, rfl, hO⟩, hc⟩
    have hb3 := hb2.trans (hc.mono hb2.size)
    have HM := Lib.hid (HM.out.next hc)
    have HA := Lib.hid (HA.out.below hc)
    have HB := Lib.hid (HB.out.next hc)
    obtain ⟨A1, cA1, rfl, hA', hCA1⟩ := hO.open encT_ok
    have HA1 : Hid (At w3 2 encT A1 (setRec n v l)) := hA'
    clear hA' hO
    clear hc
    have xc0 : w3.cell? ⟨w.heap.size, 0, none⟩ = some (.string ⟨n.toArray⟩) := HB.out.cell 0
    have xc1 : w3.cell? ⟨w.heap.size, 1, none⟩ = some (.string ⟨m.toArray⟩) := HB.out.cell 1
    go_wp2_with fail
    clear xc0 xc1
    refine (unset_any a c l n _ (by omega) (by omega) HA.out HS.out).mono ?_
    rw [HF2.out.1, HF2.out.2]
    rintro e w4 ⟨⟨rA2, rfl, hO⟩, hc⟩
    have hb4 := hb3.trans (hc.mono hb3.size)
    have HM := Lib.hid (HM.out.next hc)
    have HA := Lib.hid (HA.out.below hc)
    have HB := Lib.hid (HB.out.next hc)
    have HA1 := Lib.hid (HA1.out.below hc)
    obtain ⟨A2, cA2, rfl, hA', hCA2⟩ := hO.open encT_ok
    have HA2 : Hid (At w4 2 encT A2 (l.filter (notB n))) := hA'
    clear hA' hO
    clear hc
    have xc0 : w4.cell? ⟨w.heap.size, 0, none⟩ = some (.string ⟨n.toArray⟩) := HB.out.cell 0
    have xc1 : w4.cell? ⟨w.heap.size, 1, none⟩ = some (.string ⟨m.toArray⟩) := HB.out.cell 1
    go_wp2_with fail
    clear xc0 xc1
    refine (get_any A2 cA2 (l.filter (notB n)) n _ (by omega) HA2.out).mono ?_
    rw [HG1.out]
    rintro e w5 ⟨rfl, hc⟩
    have hb5 := hb4.trans (hc.mono hb4.size)
    have HM := Lib.hid (HM.out.next hc)
    have HA := Lib.hid (HA.out.below hc)
    have HB := Lib.hid (HB.out.next hc)
    have HA1 := Lib.hid (HA1.out.below hc)
    have HA2 := Lib.hid (HA2.out.below hc)
    clear hc
    have xc0 : w5.cell? ⟨w.heap.size, 0, none⟩ = some (.string ⟨n.toArray⟩) := HB.out.cell 0
    have xc1 : w5.cell? ⟨w.heap.size, 1, none⟩ = some (.string ⟨m.toArray⟩) := HB.out.cell 1
    go_wp2_with fail
    clear xc0 xc1
    refine (get_any a c l m _ (by omega) HA.out).mono ?_
    rw [HG0.out]
    rintro e w6 ⟨rfl, hc⟩
    have hb6 := hb5.trans (hc.mono hb5.size)
    have HM := Lib.hid (HM.out.next hc)
    have HA := Lib.hid (HA.out.below hc)
    have HB := Lib.hid (HB.out.next hc)
    have HA1 := Lib.hid (HA1.out.below hc)
    have HA2 := Lib.hid (HA2.out.below hc)
    clear hc
    have xc0 : w6.cell? ⟨w.heap.size, 0, none⟩ = some (.string ⟨n.toArray⟩) := HB.out.cell 0
    have xc1 : w6.cell? ⟨w.heap.size, 1, none⟩ = some (.string ⟨m.toArray⟩) := HB.out.cell 1
    go_wp2_with fail
    clear xc0 xc1
    refine (get_any A2 cA2 (l.filter (notB n)) m _ (by omega) HA2.out).mono ?_
    rw [HG2.out]
    rintro e w7 ⟨rfl, hc⟩
    have hb7 := hb6.trans (hc.mono hb6.size)
    have HM := Lib.hid (HM.out.next hc)
    have HA := Lib.hid (HA.out.below hc)
    have HB := Lib.hid (HB.out.next hc)
    have HA1 := Lib.hid (HA1.out.below hc)
    have HA2 := Lib.hid (HA2.out.below hc)
    clear hc
    have xc0 : w7.cell? ⟨w.heap.size, 0, none⟩ = some (.string ⟨n.toArray⟩) := HB.out.cell 0
    have xc1 : w7.cell? ⟨w.heap.size, 1, none⟩ = some (.string ⟨m.toArray⟩) := HB.out.cell 1
    go_wp2_with fail
    clear xc0 xc1
    refine (check_any A2 cA2 (l.filter (notB n)) _ (by omega) HA2.out HFL.out).mono ?_
    rw [HU.out]
    rintro e w8 ⟨rfl, hc⟩
    have hb8 := hb7.trans (hc.mono hb7.size)
    have HM := Lib.hid (HM.out.next hc)
    have HA := Lib.hid (HA.out.below hc)
    have HB := Lib.hid (HB.out.next hc)
    have HA1 := Lib.hid (HA1.out.below hc)
    have HA2 := Lib.hid (HA2.out.below hc)
    clear hc
    have xc0 : w8.cell? ⟨w.heap.size, 0, none⟩ = some (.string ⟨n.toArray⟩) := HB.out.cell 0
    have xc1 : w8.cell? ⟨w.heap.size, 1, none⟩ = some (.string ⟨m.toArray⟩) := HB.out.cell 1
    go_wp2_with fail
    clear xc0 xc1
    refine (get_any A1 cA1 (setRec n v l) n _ (by omega) HA1.out).mono ?_
    rw [HG3.out]
    rintro e w9 ⟨rfl, hc⟩
    have hb9 := hb8.trans (hc.mono hb8.size)
    have HM := Lib.hid (HM.out.next hc)
    have HA := Lib.hid (HA.out.below hc)
    have HB := Lib.hid (HB.out.next hc)
    have HA1 := Lib.hid (HA1.out.below hc)
    have HA2 := Lib.hid (HA2.out.below hc)
    clear hc
    have xc0 : w9.cell? ⟨w.heap.size, 0, none⟩ = some (.string ⟨n.toArray⟩) := HB.out.cell 0
    have xc1 : w9.cell? ⟨w.heap.size, 1, none⟩ = some (.string ⟨m.toArray⟩) := HB.out.cell 1
    go_wp2_with fail
    clear xc0 xc1
    refine (get_any A1 cA1 (setRec n v l) m _ (by omega) HA1.out).mono ?_
    rw [HG4.out]
    rintro e w10 ⟨rfl, hc⟩
    have hb10 := hb9.trans (hc.mono hb9.size)
    have HM := Lib.hid (HM.out.next hc)
    have HA := Lib.hid (HA.out.below hc)
    have HB := Lib.hid (HB.out.next hc)
    have HA1 := Lib.hid (HA1.out.below hc)
    have HA2 := Lib.hid (HA2.out.below hc)
    clear hc
    have xc0 : w10.cell? ⟨w.heap.size, 0, none⟩ = some (.string ⟨n.toArray⟩) := HB.out.cell 0
    have xc1 : w10.cell? ⟨w.heap.size, 1, none⟩ = some (.string ⟨m.toArray⟩) := HB.out.cell 1
    go_wp2_with fail
    clear xc0 xc1
    refine (check_any A1 cA1 (setRec n v l) _ (by omega) HA1.out HSL.out).mono ?_
    rw [HCS.out]
    rintro e w11 ⟨rfl, hc⟩
    have hb11 := hb10.trans (hc.mono hb10.size)
    have HM := Lib.hid (HM.out.next hc)
    have HA := Lib.hid (HA.out.below hc)
    have HB := Lib.hid (HB.out.next hc)
    have HA1 := Lib.hid (HA1.out.below hc)
    have HA2 := Lib.hid (HA2.out.below hc)
    clear hc
    have xc0 : w11.cell? ⟨w.heap.size, 0, none⟩ = some (.string ⟨n.toArray⟩) := HB.out.cell 0
    have xc1 : w11.cell? ⟨w.heap.size, 1, none⟩ = some (.string ⟨m.toArray⟩) := HB.out.cell 1
    go_wp2_with fail
    go_ret
    exact ⟨rfl, hb11⟩
  | some x =>
    simp only [Option.getD_some, Option.isSome_some] at hg0 hg2 hg4
    have HG0 := Lib.hid hg0
    have HG2 := Lib.hid hg2
    have HG4 := Lib.hid hg4
    clear hg0 hg2 hg4
    obtain ⟨hl1, hn1, hv1⟩ := greatB_false hgr
    have HGR := Lib.hid (fun w hA => great_any a c l n w hn hA hG hs)
    have HGB := Lib.hid hgr
    have HA := Lib.hid hA
    have HM := Lib.hid hM
    clear hA hG hgr hM
    have HS := Lib.hid (val_len (s := n) hv1)
    have HV1 := Lib.hid hv1
    clear hv1
    have HFL := Lib.hid (filter_len2 (s := n) HV1.out)
    have hflen : (l.filter (notB n)).length ≤ l.length := List.length_filter_le _ _
    have HSL := Lib.hid (setRec_len2 (s := n) (v := v) HV1.out (by omega) (by omega))
    have hslen : (setRec n v l).length ≤ l.length + 1 := by rw [setRec_len]; split <;> omega
    go_enter Try.func5, Try.ntmps5
    go_wp2_with fail
    refine (alive_any _ (HM.out.next ((Below.refl _ _).alloc (Nat.le_refl _) _))).mono ?_
    rintro e w1 ⟨rfl, hd⟩
    have HB := Lib.hid ((Blk.new w #[.string ⟨n.toArray⟩, .string ⟨m.toArray⟩] 32).next hd)
    have hc := ((Below.refl w.heap.size w).alloc (Nat.le_refl _) (.cells #[.string ⟨n.toArray⟩, .string ⟨m.toArray⟩] 32)).trans (hd.mono (by simp))
    have hb1 := hc
    have HM := Lib.hid (HM.out.next hc)
    have HA := Lib.hid (HA.out.below hc)
    have xc0 : w1.cell? ⟨w.heap.size, 0, none⟩ = some (.string ⟨n.toArray⟩) := HB.out.cell 0
    have xc1 : w1.cell? ⟨w.heap.size, 1, none⟩ = some (.string ⟨m.toArray⟩) := HB.out.cell 1
    clear hc hd
    go_wp2_with fail
    clear xc0 xc1
    refine (HGR.out _ HA.out).mono ?_
    rw [HGB.out]
    rintro e w2 ⟨rfl, hc⟩
    have hb2 := hb1.trans (hc.mono hb1.size)
    have HM := Lib.hid (HM.out.next hc)
    have HA := Lib.hid (HA.out.below hc)
    have HB := Lib.hid (HB.out.next hc)
    clear hc
    have xc0 : w2.cell? ⟨w.heap.size, 0, none⟩ = some (.string ⟨n.toArray⟩) := HB.out.cell 0
    have xc1 : w2.cell? ⟨w.heap.size, 1, none⟩ = some (.string ⟨m.toArray⟩) := HB.out.cell 1
    go_wp2_with fail
    clear xc0 xc1
    refine (set_any a c l n v _ (by omega) (by omega) (by omega) HA.out (hcap) HS.out).mono ?_
    rw [HF1.out.1, HF1.out.2]
    rintro e w3 ⟨⟨rA1, rfl, hO⟩, hc⟩
    have hb3 := hb2.trans (hc.mono hb2.size)
    have HM := Lib.hid (HM.out.next hc)
    have HA := Lib.hid (HA.out.below hc)
    have HB := Lib.hid (HB.out.next hc)
    obtain ⟨A1, cA1, rfl, hA', hCA1⟩ := hO.open encT_ok
    have HA1 : Hid (At w3 2 encT A1 (setRec n v l)) := hA'
    clear hA' hO
    clear hc
    have xc0 : w3.cell? ⟨w.heap.size, 0, none⟩ = some (.string ⟨n.toArray⟩) := HB.out.cell 0
    have xc1 : w3.cell? ⟨w.heap.size, 1, none⟩ = some (.string ⟨m.toArray⟩) := HB.out.cell 1
    go_wp2_with fail
    clear xc0 xc1
    refine (unset_any a c l n _ (by omega) (by omega) HA.out HS.out).mono ?_
    rw [HF2.out.1, HF2.out.2]
    rintro e w4 ⟨⟨rA2, rfl, hO⟩, hc⟩
    have hb4 := hb3.trans (hc.mono hb3.size)
    have HM := Lib.hid (HM.out.next hc)
    have HA := Lib.hid (HA.out.below hc)
    have HB := Lib.hid (HB.out.next hc)
    have HA1 := Lib.hid (HA1.out.below hc)
    obtain ⟨A2, cA2, rfl, hA', hCA2⟩ := hO.open encT_ok
    have HA2 : Hid (At w4 2 encT A2 (l.filter (notB n))) := hA'
    clear hA' hO
    clear hc
    have xc0 : w4.cell? ⟨w.heap.size, 0, none⟩ = some (.string ⟨n.toArray⟩) := HB.out.cell 0
    have xc1 : w4.cell? ⟨w.heap.size, 1, none⟩ = some (.string ⟨m.toArray⟩) := HB.out.cell 1
    go_wp2_with fail
    clear xc0 xc1
    refine (get_any A2 cA2 (l.filter (notB n)) n _ (by omega) HA2.out).mono ?_
    rw [HG1.out]
    rintro e w5 ⟨rfl, hc⟩
    have hb5 := hb4.trans (hc.mono hb4.size)
    have HM := Lib.hid (HM.out.next hc)
    have HA := Lib.hid (HA.out.below hc)
    have HB := Lib.hid (HB.out.next hc)
    have HA1 := Lib.hid (HA1.out.below hc)
    have HA2 := Lib.hid (HA2.out.below hc)
    clear hc
    have xc0 : w5.cell? ⟨w.heap.size, 0, none⟩ = some (.string ⟨n.toArray⟩) := HB.out.cell 0
    have xc1 : w5.cell? ⟨w.heap.size, 1, none⟩ = some (.string ⟨m.toArray⟩) := HB.out.cell 1
    go_wp2_with fail
    clear xc0 xc1
    refine (get_any a c l m _ (by omega) HA.out).mono ?_
    rw [HG0.out]
    rintro e w6 ⟨rfl, hc⟩
    have hb6 := hb5.trans (hc.mono hb5.size)
    have HM := Lib.hid (HM.out.next hc)
    have HA := Lib.hid (HA.out.below hc)
    have HB := Lib.hid (HB.out.next hc)
    have HA1 := Lib.hid (HA1.out.below hc)
    have HA2 := Lib.hid (HA2.out.below hc)
    clear hc
    have xc0 : w6.cell? ⟨w.heap.size, 0, none⟩ = some (.string ⟨n.toArray⟩) := HB.out.cell 0
    have xc1 : w6.cell? ⟨w.heap.size, 1, none⟩ = some (.string ⟨m.toArray⟩) := HB.out.cell 1
    go_wp2_with fail
    clear xc0 xc1
    refine (get_any A2 cA2 (l.filter (notB n)) m _ (by omega) HA2.out).mono ?_
    rw [HG2.out]
    rintro e w7 ⟨rfl, hc⟩
    have hb7 := hb6.trans (hc.mono hb6.size)
    have HM := Lib.hid (HM.out.next hc)
    have HA := Lib.hid (HA.out.below hc)
    have HB := Lib.hid (HB.out.next hc)
    have HA1 := Lib.hid (HA1.out.below hc)
    have HA2 := Lib.hid (HA2.out.below hc)
    clear hc
    have xc0 : w7.cell? ⟨w.heap.size, 0, none⟩ = some (.string ⟨n.toArray⟩) := HB.out.cell 0
    have xc1 : w7.cell? ⟨w.heap.size, 1, none⟩ = some (.string ⟨m.toArray⟩) := HB.out.cell 1
    go_wp2_with fail
    clear xc0 xc1
    refine (check_any A2 cA2 (l.filter (notB n)) _ (by omega) HA2.out HFL.out).mono ?_
    rw [HU.out]
    rintro e w8 ⟨rfl, hc⟩
    have hb8 := hb7.trans (hc.mono hb7.size)
    have HM := Lib.hid (HM.out.next hc)
    have HA := Lib.hid (HA.out.below hc)
    have HB := Lib.hid (HB.out.next hc)
    have HA1 := Lib.hid (HA1.out.below hc)
    have HA2 := Lib.hid (HA2.out.below hc)
    clear hc
    have xc0 : w8.cell? ⟨w.heap.size, 0, none⟩ = some (.string ⟨n.toArray⟩) := HB.out.cell 0
    have xc1 : w8.cell? ⟨w.heap.size, 1, none⟩ = some (.string ⟨m.toArray⟩) := HB.out.cell 1
    go_wp2_with fail
    clear xc0 xc1
    refine (get_any A1 cA1 (setRec n v l) n _ (by omega) HA1.out).mono ?_
    rw [HG3.out]
    rintro e w9 ⟨rfl, hc⟩
    have hb9 := hb8.trans (hc.mono hb8.size)
    have HM := Lib.hid (HM.out.next hc)
    have HA := Lib.hid (HA.out.below hc)
    have HB := Lib.hid (HB.out.next hc)
    have HA1 := Lib.hid (HA1.out.below hc)
    have HA2 := Lib.hid (HA2.out.below hc)
    clear hc
    have xc0 : w9.cell? ⟨w.heap.size, 0, none⟩ = some (.string ⟨n.toArray⟩) := HB.out.cell 0
    have xc1 : w9.cell? ⟨w.heap.size, 1, none⟩ = some (.string ⟨m.toArray⟩) := HB.out.cell 1
    go_wp2_with fail
    clear xc0 xc1
    refine (get_any A1 cA1 (setRec n v l) m _ (by omega) HA1.out).mono ?_
    rw [HG4.out]
    rintro e w10 ⟨rfl, hc⟩
    have hb10 := hb9.trans (hc.mono hb9.size)
    have HM := Lib.hid (HM.out.next hc)
    have HA := Lib.hid (HA.out.below hc)
    have HB := Lib.hid (HB.out.next hc)
    have HA1 := Lib.hid (HA1.out.below hc)
    have HA2 := Lib.hid (HA2.out.below hc)
    clear hc
    have xc0 : w10.cell? ⟨w.heap.size, 0, none⟩ = some (.string ⟨n.toArray⟩) := HB.out.cell 0
    have xc1 : w10.cell? ⟨w.heap.size, 1, none⟩ = some (.string ⟨m.toArray⟩) := HB.out.cell 1
    go_wp2_with fail
    clear xc0 xc1
    refine (check_any A1 cA1 (setRec n v l) _ (by omega) HA1.out HSL.out).mono ?_
    rw [HCS.out]
    rintro e w11 ⟨rfl, hc⟩
    have hb11 := hb10.trans (hc.mono hb10.size)
    have HM := Lib.hid (HM.out.next hc)
    have HA := Lib.hid (HA.out.below hc)
    have HB := Lib.hid (HB.out.next hc)
    have HA1 := Lib.hid (HA1.out.below hc)
    have HA2 := Lib.hid (HA2.out.below hc)
    clear hc
    have xc0 : w11.cell? ⟨w.heap.size, 0, none⟩ = some (.string ⟨n.toArray⟩) := HB.out.cell 0
    have xc1 : w11.cell? ⟨w.heap.size, 1, none⟩ = some (.string ⟨m.toArray⟩) := HB.out.cell 1
    go_wp2_with fail
    go_ret
    exact ⟨rfl, hb11⟩

set_option maxHeartbeats 8000000 in
set_option maxRecDepth 100000 in
theorem bk_good01 (w : World) (a : Option Addr) (c : Nat) (l : List Two) (hA : At w 2 encT a l) (hn : l.length ≤ 140737488351232) (hG : ∀ x ∈ l, x.name.length ≤ 140737488351232 ∧ x.value.length ≤ 140737488351232) (hcap : l.length ≤ c) (n m : Bytes) (hs : n.length ≤ 140737488351232) (hm : m.length ≤ 140737488351232) (v : Bytes) (hv : v.length ≤ 140737488351232) (hM : MaxOk w) (hgr : greatB l n = false) (hlm : m.length ≤ 100000) (hlv : v.length ≤ 100000) (h1 : checkB l = true) (h2 : nameB n = true) (h3 : validB v = true) (hfull : fullB l n = true) (hmn : (m == n) = false) :
    Calls Try.prog 5 #[.slice a l.length c, .agg #[.string ⟨n.toArray⟩, .string ⟨m.toArray⟩], .string ⟨v.toArray⟩] w fun e w' => e = .returned (.bool true) ∧ Below w.heap.size w w' := by
  have hmay : mayB l n v = true := by simp [mayB, h1, h2, h3]
  have HF1 := Lib.hid (setR_full hmay hfull)
  have HF2 := Lib.hid (unsetR_ok h1 h2)
  have HU := Lib.hid (check_unset n h1)
  have HG1 := Lib.hid (getV_of (getL_unset n l))
  have HL64 := Lib.hid (full_len h1 hfull)
  have hg0 := getV_of (l := l) (s := m) rfl
  have hg2 := getV_of (getL_unset_other n m hmn l)
  have hmn2 : (m != n) = true := by rw [bne, hmn]; rfl
  clear h1 h2 h3 hmay hfull
  generalize getL l m = q at *
  cases q with
  | none =>
    simp only [Option.getD_none, Option.isSome_none] at hg0 hg2
    have HG0 := Lib.hid hg0
    have HG2 := Lib.hid hg2
    clear hg0 hg2
    obtain ⟨hl1, hn1, hv1⟩ := greatB_false hgr
    have HGR := Lib.hid (fun w hA => great_any a c l n w hn hA hG hs)
    have HGB := Lib.hid hgr
    have HA := Lib.hid hA
    have HM := Lib.hid hM
    clear hA hG hgr hM
    have HS := Lib.hid (val_len (s := n) hv1)
    have HV1 := Lib.hid hv1
    clear hv1
    have HFL := Lib.hid (filter_len2 (s := n) HV1.out)
    have hflen : (l.filter (notB n)).length ≤ l.length := List.length_filter_le _ _
    have hl64 := HL64.out
    have hl64a : ((l.length : Nat) : Int) = 64 := by omega
    have HLL := Lib.hid hl64a
    clear hl64 hl64a
    go_enter Try.func5, Try.ntmps5
    go_wp2_with fail
    refine (alive_any _ (HM.out.next ((Below.refl _ _).alloc (Nat.le_refl _) _))).mono ?_
    rintro e w1 ⟨rfl, hd⟩
    have HB := Lib.hid ((Blk.new w #[.string ⟨n.toArray⟩, .string ⟨m.toArray⟩] 32).next hd)
    have hc := ((Below.refl w.heap.size w).alloc (Nat.le_refl _) (.cells #[.string ⟨n.toArray⟩, .string ⟨m.toArray⟩] 32)).trans (hd.mono (by simp))
    have hb1 := hc
    have HM := Lib.hid (HM.out.next hc)
    have HA := Lib.hid (HA.out.below hc)
    have xc0 : w1.cell? ⟨w.heap.size, 0, none⟩ = some (.string ⟨n.toArray⟩) := HB.out.cell 0
    have xc1 : w1.cell? ⟨w.heap.size, 1, none⟩ = some (.string ⟨m.toArray⟩) := HB.out.cell 1
    clear hc hd
    go_wp2_with fail
    clear xc0 xc1
    refine (HGR.out _ HA.out).mono ?_
    rw [HGB.out]
    rintro e w2 ⟨rfl, hc⟩
    have hb2 := hb1.trans (hc.mono hb1.size)
    have HM := Lib.hid (HM.out.next hc)
    have HA := Lib.hid (HA.out.below hc)
    have HB := Lib.hid (HB.out.next hc)
    clear hc
    have xc0 : w2.cell? ⟨w.heap.size, 0, none⟩ = some (.string ⟨n.toArray⟩) := HB.out.cell 0
    have xc1 : w2.cell? ⟨w.heap.size, 1, none⟩ = some (.string ⟨m.toArray⟩) := HB.out.cell 1
    go_wp2_with fail
    clear xc0 xc1
    refine (set_any a c l n v _ (by omega) (by omega) (by omega) HA.out (hcap) HS.out).mono ?_
    rw [HF1.out.1, HF1.out.2]
    rintro e w3 ⟨⟨rA1, rfl, hO⟩, hc⟩
    have hb3 := hb2.trans (hc.mono hb2.size)
    have HM := Lib.hid (HM.out.next hc)
    have HA := Lib.hid (HA.out.below hc)
    have HB := Lib.hid (HB.out.next hc)
    obtain ⟨A1, cA1, rfl, hA', hCA1⟩ := hO.open encT_ok
    have HA1 : Hid (At w3 2 encT A1 []) := hA'
    clear hA' hO
    clear hc
    have xc0 : w3.cell? ⟨w.heap.size, 0, none⟩ = some (.string ⟨n.toArray⟩) := HB.out.cell 0
    have xc1 : w3.cell? ⟨w.heap.size, 1, none⟩ = some (.string ⟨m.toArray⟩) := HB.out.cell 1
    go_wp2_with fail
    clear xc0 xc1
    refine (unset_any a c l n _ (by omega) (by omega) HA.out HS.out).mono ?_
    rw [HF2.out.1, HF2.out.2]
    rintro e w4 ⟨⟨rA2, rfl, hO⟩, hc⟩
    have hb4 := hb3.trans (hc.mono hb3.size)
    have HM := Lib.hid (HM.out.next hc)
    have HA := Lib.hid (HA.out.below hc)
    have HB := Lib.hid (HB.out.next hc)
    have HA1 := Lib.hid (HA1.out.below hc)
    obtain ⟨A2, cA2, rfl, hA', hCA2⟩ := hO.open encT_ok
    have HA2 : Hid (At w4 2 encT A2 (l.filter (notB n))) := hA'
    clear hA' hO
    clear hc
    have xc0 : w4.cell? ⟨w.heap.size, 0, none⟩ = some (.string ⟨n.toArray⟩) := HB.out.cell 0
    have xc1 : w4.cell? ⟨w.heap.size, 1, none⟩ = some (.string ⟨m.toArray⟩) := HB.out.cell 1
    go_wp2_with fail
    clear xc0 xc1
    refine (get_any A2 cA2 (l.filter (notB n)) n _ (by omega) HA2.out).mono ?_
    rw [HG1.out]
    rintro e w5 ⟨rfl, hc⟩
    have hb5 := hb4.trans (hc.mono hb4.size)
    have HM := Lib.hid (HM.out.next hc)
    have HA := Lib.hid (HA.out.below hc)
    have HB := Lib.hid (HB.out.next hc)
    have HA1 := Lib.hid (HA1.out.below hc)
    have HA2 := Lib.hid (HA2.out.below hc)
    clear hc
    have xc0 : w5.cell? ⟨w.heap.size, 0, none⟩ = some (.string ⟨n.toArray⟩) := HB.out.cell 0
    have xc1 : w5.cell? ⟨w.heap.size, 1, none⟩ = some (.string ⟨m.toArray⟩) := HB.out.cell 1
    go_wp2_with fail
    clear xc0 xc1
    refine (get_any a c l m _ (by omega) HA.out).mono ?_
    rw [HG0.out]
    rintro e w6 ⟨rfl, hc⟩
    have hb6 := hb5.trans (hc.mono hb5.size)
    have HM := Lib.hid (HM.out.next hc)
    have HA := Lib.hid (HA.out.below hc)
    have HB := Lib.hid (HB.out.next hc)
    have HA1 := Lib.hid (HA1.out.below hc)
    have HA2 := Lib.hid (HA2.out.below hc)
    clear hc
    have xc0 : w6.cell? ⟨w.heap.size, 0, none⟩ = some (.string ⟨n.toArray⟩) := HB.out.cell 0
    have xc1 : w6.cell? ⟨w.heap.size, 1, none⟩ = some (.string ⟨m.toArray⟩) := HB.out.cell 1
    go_wp2_with fail
    clear xc0 xc1
    refine (get_any A2 cA2 (l.filter (notB n)) m _ (by omega) HA2.out).mono ?_
    rw [HG2.out]
    rintro e w7 ⟨rfl, hc⟩
    have hb7 := hb6.trans (hc.mono hb6.size)
    have HM := Lib.hid (HM.out.next hc)
    have HA := Lib.hid (HA.out.below hc)
    have HB := Lib.hid (HB.out.next hc)
    have HA1 := Lib.hid (HA1.out.below hc)
    have HA2 := Lib.hid (HA2.out.below hc)
    clear hc
    have xc0 : w7.cell? ⟨w.heap.size, 0, none⟩ = some (.string ⟨n.toArray⟩) := HB.out.cell 0
    have xc1 : w7.cell? ⟨w.heap.size, 1, none⟩ = some (.string ⟨m.toArray⟩) := HB.out.cell 1
    go_wp2_with fail
    clear xc0 xc1
    refine (check_any A2 cA2 (l.filter (notB n)) _ (by omega) HA2.out HFL.out).mono ?_
    rw [HU.out]
    rintro e w8 ⟨rfl, hc⟩
    have hb8 := hb7.trans (hc.mono hb7.size)
    have HM := Lib.hid (HM.out.next hc)
    have HA := Lib.hid (HA.out.below hc)
    have HB := Lib.hid (HB.out.next hc)
    have HA1 := Lib.hid (HA1.out.below hc)
    have HA2 := Lib.hid (HA2.out.below hc)
    clear hc
    have xc0 : w8.cell? ⟨w.heap.size, 0, none⟩ = some (.string ⟨n.toArray⟩) := HB.out.cell 0
    have xc1 : w8.cell? ⟨w.heap.size, 1, none⟩ = some (.string ⟨m.toArray⟩) := HB.out.cell 1
    have hl64b := HLL.out
    go_wp2_with fail
    go_ret
    exact ⟨rfl, hb8⟩
  | some x =>
    simp only [Option.getD_some, Option.isSome_some] at hg0 hg2
    have HG0 := Lib.hid hg0
    have HG2 := Lib.hid hg2
    clear hg0 hg2
    obtain ⟨hl1, hn1, hv1⟩ := greatB_false hgr
    have HGR := Lib.hid (fun w hA => great_any a c l n w hn hA hG hs)
    have HGB := Lib.hid hgr
    have HA := Lib.hid hA
    have HM := Lib.hid hM
    clear hA hG hgr hM
    have HS := Lib.hid (val_len (s := n) hv1)
    have HV1 := Lib.hid hv1
    clear hv1
    have HFL := Lib.hid (filter_len2 (s := n) HV1.out)
    have hflen : (l.filter (notB n)).length ≤ l.length := List.length_filter_le _ _
    have hl64 := HL64.out
    have hl64a : ((l.length : Nat) : Int) = 64 := by omega
    have HLL := Lib.hid hl64a
    clear hl64 hl64a
    go_enter Try.func5, Try.ntmps5
    go_wp2_with fail
    refine (alive_any _ (HM.out.next ((Below.refl _ _).alloc (Nat.le_refl _) _))).mono ?_
    rintro e w1 ⟨rfl, hd⟩
    have HB := Lib.hid ((Blk.new w #[.string ⟨n.toArray⟩, .string ⟨m.toArray⟩] 32).next hd)
    have hc := ((Below.refl w.heap.size w).alloc (Nat.le_refl _) (.cells #[.string ⟨n.toArray⟩, .string ⟨m.toArray⟩] 32)).trans (hd.mono (by simp))
    have hb1 := hc
    have HM := Lib.hid (HM.out.next hc)
    have HA := Lib.hid (HA.out.below hc)
    have xc0 : w1.cell? ⟨w.heap.size, 0, none⟩ = some (.string ⟨n.toArray⟩) := HB.out.cell 0
    have xc1 : w1.cell? ⟨w.heap.size, 1, none⟩ = some (.string ⟨m.toArray⟩) := HB.out.cell 1
    clear hc hd
    go_wp2_with fail
    clear xc0 xc1
    refine (HGR.out _ HA.out).mono ?_
    rw [HGB.out]
    rintro e w2 ⟨rfl, hc⟩
    have hb2 := hb1.trans (hc.mono hb1.size)
    have HM := Lib.hid (HM.out.next hc)
    have HA := Lib.hid (HA.out.below hc)
    have HB := Lib.hid (HB.out.next hc)
    clear hc
    have xc0 : w2.cell? ⟨w.heap.size, 0, none⟩ = some (.string ⟨n.toArray⟩) := HB.out.cell 0
    have xc1 : w2.cell? ⟨w.heap.size, 1, none⟩ = some (.string ⟨m.toArray⟩) := HB.out.cell 1
    go_wp2_with fail
    clear xc0 xc1
    refine (set_any a c l n v _ (by omega) (by omega) (by omega) HA.out (hcap) HS.out).mono ?_
    rw [HF1.out.1, HF1.out.2]
    rintro e w3 ⟨⟨rA1, rfl, hO⟩, hc⟩
    have hb3 := hb2.trans (hc.mono hb2.size)
    have HM := Lib.hid (HM.out.next hc)
    have HA := Lib.hid (HA.out.below hc)
    have HB := Lib.hid (HB.out.next hc)
    obtain ⟨A1, cA1, rfl, hA', hCA1⟩ := hO.open encT_ok
    have HA1 : Hid (At w3 2 encT A1 []) := hA'
    clear hA' hO
    clear hc
    have xc0 : w3.cell? ⟨w.heap.size, 0, none⟩ = some (.string ⟨n.toArray⟩) := HB.out.cell 0
    have xc1 : w3.cell? ⟨w.heap.size, 1, none⟩ = some (.string ⟨m.toArray⟩) := HB.out.cell 1
    go_wp2_with fail
    clear xc0 xc1
    refine (unset_any a c l n _ (by omega) (by omega) HA.out HS.out).mono ?_
    rw [HF2.out.1, HF2.out.2]
    rintro e w4 ⟨⟨rA2, rfl, hO⟩, hc⟩
    have hb4 := hb3.trans (hc.mono hb3.size)
    have HM := Lib.hid (HM.out.next hc)
    have HA := Lib.hid (HA.out.below hc)
    have HB := Lib.hid (HB.out.next hc)
    have HA1 := Lib.hid (HA1.out.below hc)
    obtain ⟨A2, cA2, rfl, hA', hCA2⟩ := hO.open encT_ok
    have HA2 : Hid (At w4 2 encT A2 (l.filter (notB n))) := hA'
    clear hA' hO
    clear hc
    have xc0 : w4.cell? ⟨w.heap.size, 0, none⟩ = some (.string ⟨n.toArray⟩) := HB.out.cell 0
    have xc1 : w4.cell? ⟨w.heap.size, 1, none⟩ = some (.string ⟨m.toArray⟩) := HB.out.cell 1
    go_wp2_with fail
    clear xc0 xc1
    refine (get_any A2 cA2 (l.filter (notB n)) n _ (by omega) HA2.out).mono ?_
    rw [HG1.out]
    rintro e w5 ⟨rfl, hc⟩
    have hb5 := hb4.trans (hc.mono hb4.size)
    have HM := Lib.hid (HM.out.next hc)
    have HA := Lib.hid (HA.out.below hc)
    have HB := Lib.hid (HB.out.next hc)
    have HA1 := Lib.hid (HA1.out.below hc)
    have HA2 := Lib.hid (HA2.out.below hc)
    clear hc
    have xc0 : w5.cell? ⟨w.heap.size, 0, none⟩ = some (.string ⟨n.toArray⟩) := HB.out.cell 0
    have xc1 : w5.cell? ⟨w.heap.size, 1, none⟩ = some (.string ⟨m.toArray⟩) := HB.out.cell 1
    go_wp2_with fail
    clear xc0 xc1
    refine (get_any a c l m _ (by omega) HA.out).mono ?_
    rw [HG0.out]
    rintro e w6 ⟨rfl, hc⟩
    have hb6 := hb5.trans (hc.mono hb5.size)
    have HM := Lib.hid (HM.out.next hc)
    have HA := Lib.hid (HA.out.below hc)
    have HB := Lib.hid (HB.out.next hc)
    have HA1 := Lib.hid (HA1.out.below hc)
    have HA2 := Lib.hid (HA2.out.below hc)
    clear hc
    have xc0 : w6.cell? ⟨w.heap.size, 0, none⟩ = some (.string ⟨n.toArray⟩) := HB.out.cell 0
    have xc1 : w6.cell? ⟨w.heap.size, 1, none⟩ = some (.string ⟨m.toArray⟩) := HB.out.cell 1
    go_wp2_with fail
    clear xc0 xc1
    refine (get_any A2 cA2 (l.filter (notB n)) m _ (by omega) HA2.out).mono ?_
    rw [HG2.out]
    rintro e w7 ⟨rfl, hc⟩
    have hb7 := hb6.trans (hc.mono hb6.size)
    have HM := Lib.hid (HM.out.next hc)
    have HA := Lib.hid (HA.out.below hc)
    have HB := Lib.hid (HB.out.next hc)
    have HA1 := Lib.hid (HA1.out.below hc)
    have HA2 := Lib.hid (HA2.out.below hc)
    clear hc
    have xc0 : w7.cell? ⟨w.heap.size, 0, none⟩ = some (.string ⟨n.toArray⟩) := HB.out.cell 0
    have xc1 : w7.cell? ⟨w.heap.size, 1, none⟩ = some (.string ⟨m.toArray⟩) := HB.out.cell 1
    go_wp2_with fail
    clear xc0 xc1
    refine (check_any A2 cA2 (l.filter (notB n)) _ (by omega) HA2.out HFL.out).mono ?_
    rw [HU.out]
    rintro e w8 ⟨rfl, hc⟩
    have hb8 := hb7.trans (hc.mono hb7.size)
    have HM := Lib.hid (HM.out.next hc)
    have HA := Lib.hid (HA.out.below hc)
    have HB := Lib.hid (HB.out.next hc)
    have HA1 := Lib.hid (HA1.out.below hc)
    have HA2 := Lib.hid (HA2.out.below hc)
    clear hc
    have xc0 : w8.cell? ⟨w.heap.size, 0, none⟩ = some (.string ⟨n.toArray⟩) := HB.out.cell 0
    have xc1 : w8.cell? ⟨w.heap.size, 1, none⟩ = some (.string ⟨m.toArray⟩) := HB.out.cell 1
    have hl64b := HLL.out
    go_wp2_with fail
    go_ret
    exact ⟨rfl, hb8⟩

set_option maxHeartbeats 8000000 in
set_option maxRecDepth 100000 in
theorem bk_good10 (w : World) (a : Option Addr) (c : Nat) (l : List Two) (hA : At w 2 encT a l) (hn : l.length ≤ 140737488351232) (hG : ∀ x ∈ l, x.name.length ≤ 140737488351232 ∧ x.value.length ≤ 140737488351232) (hcap : l.length ≤ c) (n m : Bytes) (hs : n.length ≤ 140737488351232) (hm : m.length ≤ 140737488351232) (v : Bytes) (hv : v.length ≤ 140737488351232) (hM : MaxOk w) (hgr : greatB l n = false) (hlm : m.length ≤ 100000) (hlv : v.length ≤ 100000) (h1 : checkB l = true) (h2 : nameB n = true) (h3 : validB v = true) (hfull : fullB l n = false) (hmn : n = m) :
    Calls Try.prog 5 #[.slice a l.length c, .agg #[.string ⟨n.toArray⟩, .string ⟨m.toArray⟩], .string ⟨v.toArray⟩] w fun e w' => e = .returned (.bool true) ∧ Below w.heap.size w w' := by
  subst hmn
  have hmay : mayB l n v = true := by simp [mayB, h1, h2, h3]
  have HF1 := Lib.hid (setR_ok hmay hfull)
  have HF2 := Lib.hid (unsetR_ok h1 h2)
  have HU := Lib.hid (check_unset n h1)
  have HG1 := Lib.hid (getV_of (getL_unset n l))
  have HCS := Lib.hid (check_set hmay hfull)
  have HG3 := Lib.hid (getV_of (getL_set n v l))
  have hg0 := getV_of (l := l) (s := n) rfl
  clear h1 h2 h3 hmay hfull
  generalize getL l n = q at *
  cases q with
  | none =>
    simp only [Option.getD_none, Option.isSome_none] at hg0
    have HG0 := Lib.hid hg0
    clear hg0
    obtain ⟨hl1, hn1, hv1⟩ := greatB_false hgr
    have HGR := Lib.hid (fun w hA => great_any a c l n w hn hA hG hs)
    have HGB := Lib.hid hgr
    have HA := Lib.hid hA
    have HM := Lib.hid hM
    clear hA hG hgr hM
    have HS := Lib.hid (val_len (s := n) hv1)
    have HV1 := Lib.hid hv1
    clear hv1
    have HFL := Lib.hid (filter_len2 (s := n) HV1.out)
    have hflen : (l.filter (notB n)).length ≤ l.length := List.length_filter_le _ _
    have HSL := Lib.hid (setRec_len2 (s := n) (v := v) HV1.out (by omega) (by omega))
    have hslen : (setRec n v l).length ≤ l.length + 1 := by rw [setRec_len]; split <;> omega
    go_enter Try.func5, Try.ntmps5
    go_wp2_with fail
    refine (alive_any _ (HM.out.next ((Below.refl _ _).alloc (Nat.le_refl _) _))).mono ?_
    rintro e w1 ⟨rfl, hd⟩
    have HB := Lib.hid ((Blk.new w #[.string ⟨n.toArray⟩, .string ⟨n.toArray⟩] 32).next hd)
    have hc := ((Below.refl w.heap.size w).alloc (Nat.le_refl _) (.cells #[.string ⟨n.toArray⟩, .string ⟨n.toArray⟩] 32)).trans (hd.mono (by simp))
    have hb1 := hc
    have HM := Lib.hid (HM.out.next hc)
    have HA := Lib.hid (HA.out.below hc)
    have xc0 : w1.cell? ⟨w.heap.size, 0, none⟩ = some (.string ⟨n.toArray⟩) := HB.out.cell 0
    have xc1 : w1.cell? ⟨w.heap.size, 1, none⟩ = some (.string ⟨n.toArray⟩) := HB.out.cell 1
    clear hc hd
    go_wp2_with fail
    clear xc0 xc1
    refine (HGR.out _ HA.out).mono ?_
    rw [HGB.out]
    rintro e w2 ⟨rfl, hc⟩
    have hb2 := hb1.trans (hc.mono hb1.size)
    have HM := Lib.hid (HM.out.next hc)
    have HA := Lib.hid (HA.out.below hc)
    have HB := Lib.hid (HB.out.next hc)
    clear hc
    have xc0 : w2.cell? ⟨w.heap.size, 0, none⟩ = some (.string ⟨n.toArray⟩) := HB.out.cell 0
    have xc1 : w2.cell? ⟨w.heap.size, 1, none⟩ = some (.string ⟨n.toArray⟩) := HB.out.cell 1
    go_wp2_with fail
    clear xc0 xc1
    refine (set_any a c l n v _ (by omega) (by omega) (by omega) HA.out (hcap) HS.out).mono ?_
    rw [HF1.out.1, HF1.out.2]
    rintro e w3 ⟨⟨rA1, rfl, hO⟩, hc⟩
    have hb3 := hb2.trans (hc.mono hb2.size)
    have HM := Lib.hid (HM.out.next hc)
    have HA := Lib.hid (HA.out.below hc)
    have HB := Lib.hid (HB.out.next hc)
    obtain ⟨A1, cA1, rfl, hA', hCA1⟩ := hO.open encT_ok
    have HA1 : Hid (At w3 2 encT A1 (setRec n v l)) := hA'
    clear hA' hO
    clear hc
    have xc0 : w3.cell? ⟨w.heap.size, 0, none⟩ = some (.string ⟨n.toArray⟩) := HB.out.cell 0
    have xc1 : w3.cell? ⟨w.heap.size, 1, none⟩ = some (.string ⟨n.toArray⟩) := HB.out.cell 1
    go_wp2_with fail
    clear xc0 xc1
    refine (unset_any a c l n _ (by omega) (by omega) HA.out HS.out).mono ?_
    rw [HF2.out.1, HF2.out.2]
    rintro e w4 ⟨⟨rA2, rfl, hO⟩, hc⟩
    have hb4 := hb3.trans (hc.mono hb3.size)
    have HM := Lib.hid (HM.out.next hc)
    have HA := Lib.hid (HA.out.below hc)
    have HB := Lib.hid (HB.out.next hc)
    have HA1 := Lib.hid (HA1.out.below hc)
    obtain ⟨A2, cA2, rfl, hA', hCA2⟩ := hO.open encT_ok
    have HA2 : Hid (At w4 2 encT A2 (l.filter (notB n))) := hA'
    clear hA' hO
    clear hc
    have xc0 : w4.cell? ⟨w.heap.size, 0, none⟩ = some (.string ⟨n.toArray⟩) := HB.out.cell 0
    have xc1 : w4.cell? ⟨w.heap.size, 1, none⟩ = some (.string ⟨n.toArray⟩) := HB.out.cell 1
    go_wp2_with fail
    clear xc0 xc1
    refine (get_any A2 cA2 (l.filter (notB n)) n _ (by omega) HA2.out).mono ?_
    rw [HG1.out]
    rintro e w5 ⟨rfl, hc⟩
    have hb5 := hb4.trans (hc.mono hb4.size)
    have HM := Lib.hid (HM.out.next hc)
    have HA := Lib.hid (HA.out.below hc)
    have HB := Lib.hid (HB.out.next hc)
    have HA1 := Lib.hid (HA1.out.below hc)
    have HA2 := Lib.hid (HA2.out.below hc)
    clear hc
    have xc0 : w5.cell? ⟨w.heap.size, 0, none⟩ = some (.string ⟨n.toArray⟩) := HB.out.cell 0
    have xc1 : w5.cell? ⟨w.heap.size, 1, none⟩ = some (.string ⟨n.toArray⟩) := HB.out.cell 1
    go_wp2_with fail
    clear xc0 xc1
    refine (get_any a c l n _ (by omega) HA.out).mono ?_
    rw [HG0.out]
    rintro e w6 ⟨rfl, hc⟩
    have hb6 := hb5.trans (hc.mono hb5.size)
    have HM := Lib.hid (HM.out.next hc)
    have HA := Lib.hid (HA.out.below hc)
    have HB := Lib.hid (HB.out.next hc)
    have HA1 := Lib.hid (HA1.out.below hc)
    have HA2 := Lib.hid (HA2.out.below hc)
    clear hc
    have xc0 : w6.cell? ⟨w.heap.size, 0, none⟩ = some (.string ⟨n.toArray⟩) := HB.out.cell 0
    have xc1 : w6.cell? ⟨w.heap.size, 1, none⟩ = some (.string ⟨n.toArray⟩) := HB.out.cell 1
    go_wp2_with fail
    clear xc0 xc1
    refine (get_any A2 cA2 (l.filter (notB n)) n _ (by omega) HA2.out).mono ?_
    rw [HG1.out]
    rintro e w7 ⟨rfl, hc⟩
    have hb7 := hb6.trans (hc.mono hb6.size)
    have HM := Lib.hid (HM.out.next hc)
    have HA := Lib.hid (HA.out.below hc)
    have HB := Lib.hid (HB.out.next hc)
    have HA1 := Lib.hid (HA1.out.below hc)
    have HA2 := Lib.hid (HA2.out.below hc)
    clear hc
    have xc0 : w7.cell? ⟨w.heap.size, 0, none⟩ = some (.string ⟨n.toArray⟩) := HB.out.cell 0
    have xc1 : w7.cell? ⟨w.heap.size, 1, none⟩ = some (.string ⟨n.toArray⟩) := HB.out.cell 1
    go_wp2_with fail
    clear xc0 xc1
    refine (check_any A2 cA2 (l.filter (notB n)) _ (by omega) HA2.out HFL.out).mono ?_
    rw [HU.out]
    rintro e w8 ⟨rfl, hc⟩
    have hb8 := hb7.trans (hc.mono hb7.size)
    have HM := Lib.hid (HM.out.next hc)
    have HA := Lib.hid (HA.out.below hc)
    have HB := Lib.hid (HB.out.next hc)
    have HA1 := Lib.hid (HA1.out.below hc)
    have HA2 := Lib.hid (HA2.out.below hc)
    clear hc
    have xc0 : w8.cell? ⟨w.heap.size, 0, none⟩ = some (.string ⟨n.toArray⟩) := HB.out.cell 0
    have xc1 : w8.cell? ⟨w.heap.size, 1, none⟩ = some (.string ⟨n.toArray⟩) := HB.out.cell 1
    go_wp2_with fail
    clear xc0 xc1
    refine (get_any A1 cA1 (setRec n v l) n _ (by omega) HA1.out).mono ?_
    rw [HG3.out]
    rintro e w9 ⟨rfl, hc⟩
    have hb9 := hb8.trans (hc.mono hb8.size)
    have HM := Lib.hid (HM.out.next hc)
    have HA := Lib.hid (HA.out.below hc)
    have HB := Lib.hid (HB.out.next hc)
    have HA1 := Lib.hid (HA1.out.below hc)
    have HA2 := Lib.hid (HA2.out.below hc)
    clear hc
    have xc0 : w9.cell? ⟨w.heap.size, 0, none⟩ = some (.string ⟨n.toArray⟩) := HB.out.cell 0
    have xc1 : w9.cell? ⟨w.heap.size, 1, none⟩ = some (.string ⟨n.toArray⟩) := HB.out.cell 1
    go_wp2_with fail
    clear xc0 xc1
    refine (get_any A1 cA1 (setRec n v l) n _ (by omega) HA1.out).mono ?_
    rw [HG3.out]
    rintro e w10 ⟨rfl, hc⟩
    have hb10 := hb9.trans (hc.mono hb9.size)
    have HM := Lib.hid (HM.out.next hc)
    have HA := Lib.hid (HA.out.below hc)
    have HB := Lib.hid (HB.out.next hc)
    have HA1 := Lib.hid (HA1.out.below hc)
    have HA2 := Lib.hid (HA2.out.below hc)
    clear hc
    have xc0 : w10.cell? ⟨w.heap.size, 0, none⟩ = some (.string ⟨n.toArray⟩) := HB.out.cell 0
    have xc1 : w10.cell? ⟨w.heap.size, 1, none⟩ = some (.string ⟨n.toArray⟩) := HB.out.cell 1
    go_wp2_with fail
    clear xc0 xc1
    refine (check_any A1 cA1 (setRec n v l) _ (by omega) HA1.out HSL.out).mono ?_
    rw [HCS.out]
    rintro e w11 ⟨rfl, hc⟩
    have hb11 := hb10.trans (hc.mono hb10.size)
    have HM := Lib.hid (HM.out.next hc)
    have HA := Lib.hid (HA.out.below hc)
    have HB := Lib.hid (HB.out.next hc)
    have HA1 := Lib.hid (HA1.out.below hc)
    have HA2 := Lib.hid (HA2.out.below hc)
    clear hc
    have xc0 : w11.cell? ⟨w.heap.size, 0, none⟩ = some (.string ⟨n.toArray⟩) := HB.out.cell 0
    have xc1 : w11.cell? ⟨w.heap.size, 1, none⟩ = some (.string ⟨n.toArray⟩) := HB.out.cell 1
    go_wp2_with fail
    go_ret
    exact ⟨rfl, hb11⟩
  | some x =>
    simp only [Option.getD_some, Option.isSome_some] at hg0
    have HG0 := Lib.hid hg0
    clear hg0
    obtain ⟨hl1, hn1, hv1⟩ := greatB_false hgr
    have HGR := Lib.hid (fun w hA => great_any a c l n w hn hA hG hs)
    have HGB := Lib.hid hgr
    have HA := Lib.hid hA
    have HM := Lib.hid hM
    clear hA hG hgr hM
    have HS := Lib.hid (val_len (s := n) hv1)
    have HV1 := Lib.hid hv1
    clear hv1
    have HFL := Lib.hid (filter_len2 (s := n) HV1.out)
    have hflen : (l.filter (notB n)).length ≤ l.length := List.length_filter_le _ _
    have HSL := Lib.hid (setRec_len2 (s := n) (v := v) HV1.out (by omega) (by omega))
    have hslen : (setRec n v l).length ≤ l.length + 1 := by rw [setRec_len]; split <;> omega
    go_enter Try.func5, Try.ntmps5
    go_wp2_with fail
    refine (alive_any _ (HM.out.next ((Below.refl _ _).alloc (Nat.le_refl _) _))).mono ?_
    rintro e w1 ⟨rfl, hd⟩
    have HB := Lib.hid ((Blk.new w #[.string ⟨n.toArray⟩, .string ⟨n.toArray⟩] 32).next hd)
    have hc := ((Below.refl w.heap.size w).alloc (Nat.le_refl _) (.cells #[.string ⟨n.toArray⟩, .string ⟨n.toArray⟩] 32)).trans (hd.mono (by simp))
    have hb1 := hc
    have HM := Lib.hid (HM.out.next hc)
    have HA := Lib.hid (HA.out.below hc)
    have xc0 : w1.cell? ⟨w.heap.size, 0, none⟩ = some (.string ⟨n.toArray⟩) := HB.out.cell 0
    have xc1 : w1.cell? ⟨w.heap.size, 1, none⟩ = some (.string ⟨n.toArray⟩) := HB.out.cell 1
    clear hc hd
    go_wp2_with fail
    clear xc0 xc1
    refine (HGR.out _ HA.out).mono ?_
    rw [HGB.out]
    rintro e w2 ⟨rfl, hc⟩
    have hb2 := hb1.trans (hc.mono hb1.size)
    have HM := Lib.hid (HM.out.next hc)
    have HA := Lib.hid (HA.out.below hc)
    have HB := Lib.hid (HB.out.next hc)
    clear hc
    have xc0 : w2.cell? ⟨w.heap.size, 0, none⟩ = some (.string ⟨n.toArray⟩) := HB.out.cell 0
    have xc1 : w2.cell? ⟨w.heap.size, 1, none⟩ = some (.string ⟨n.toArray⟩) := HB.out.cell 1
    go_wp2_with fail
    clear xc0 xc1
    refine (set_any a c l n v _ (by omega) (by omega) (by omega) HA.out (hcap) HS.out).mono ?_
    rw [HF1.out.1, HF1.out.2]
    rintro e w3 ⟨⟨rA1, rfl, hO⟩, hc⟩
    have hb3 := hb2.trans (hc.mono hb2.size)
    have HM := Lib.hid (HM.out.next hc)
    have HA := Lib.hid (HA.out.below hc)
    have HB := Lib.hid (HB.out.next hc)
    obtain ⟨A1, cA1, rfl, hA', hCA1⟩ := hO.open encT_ok
    have HA1 : Hid (At w3 2 encT A1 (setRec n v l)) := hA'
    clear hA' hO
    clear hc
    have xc0 : w3.cell? ⟨w.heap.size, 0, none⟩ = some (.string ⟨n.toArray⟩) := HB.out.cell 0
    have xc1 : w3.cell? ⟨w.heap.size, 1, none⟩ = some (.string ⟨n.toArray⟩) := HB.out.cell 1
    go_wp2_with fail
    clear xc0 xc1
    refine (unset_any a c l n _ (by omega) (by omega) HA.out HS.out).mono ?_
    rw [HF2.out.1, HF2.out.2]
    rintro e w4 ⟨⟨rA2, rfl, hO⟩, hc⟩
    have hb4 := hb3.trans (hc.mono hb3.size)
    have HM := Lib.hid (HM.out.next hc)
    have HA := Lib.hid (HA.out.below hc)
    have HB := Lib.hid (HB.out.next hc)
    have HA1 := Lib.hid (HA1.out.below hc)
    obtain ⟨A2, cA2, rfl, hA', hCA2⟩ := hO.open encT_ok
    have HA2 : Hid (At w4 2 encT A2 (l.filter (notB n))) := hA'
    clear hA' hO
    clear hc
    have xc0 : w4.cell? ⟨w.heap.size, 0, none⟩ = some (.string ⟨n.toArray⟩) := HB.out.cell 0
    have xc1 : w4.cell? ⟨w.heap.size, 1, none⟩ = some (.string ⟨n.toArray⟩) := HB.out.cell 1
    go_wp2_with fail
    clear xc0 xc1
    refine (get_any A2 cA2 (l.filter (notB n)) n _ (by omega) HA2.out).mono ?_
    rw [HG1.out]
    rintro e w5 ⟨rfl, hc⟩
    have hb5 := hb4.trans (hc.mono hb4.size)
    have HM := Lib.hid (HM.out.next hc)
    have HA := Lib.hid (HA.out.below hc)
    have HB := Lib.hid (HB.out.next hc)
    have HA1 := Lib.hid (HA1.out.below hc)
    have HA2 := Lib.hid (HA2.out.below hc)
    clear hc
    have xc0 : w5.cell? ⟨w.heap.size, 0, none⟩ = some (.string ⟨n.toArray⟩) := HB.out.cell 0
    have xc1 : w5.cell? ⟨w.heap.size, 1, none⟩ = some (.string ⟨n.toArray⟩) := HB.out.cell 1
    go_wp2_with fail
    clear xc0 xc1
    refine (get_any a c l n _ (by omega) HA.out).mono ?_
    rw [HG0.out]
    rintro e w6 ⟨rfl, hc⟩
    have hb6 := hb5.trans (hc.mono hb5.size)
    have HM := Lib.hid (HM.out.next hc)
    have HA := Lib.hid (HA.out.below hc)
    have HB := Lib.hid (HB.out.next hc)
    have HA1 := Lib.hid (HA1.out.below hc)
    have HA2 := Lib.hid (HA2.out.below hc)
    clear hc
    have xc0 : w6.cell? ⟨w.heap.size, 0, none⟩ = some (.string ⟨n.toArray⟩) := HB.out.cell 0
    have xc1 : w6.cell? ⟨w.heap.size, 1, none⟩ = some (.string ⟨n.toArray⟩) := HB.out.cell 1
    go_wp2_with fail
    clear xc0 xc1
    refine (get_any A2 cA2 (l.filter (notB n)) n _ (by omega) HA2.out).mono ?_
    rw [HG1.out]
    rintro e w7 ⟨rfl, hc⟩
    have hb7 := hb6.trans (hc.mono hb6.size)
    have HM := Lib.hid (HM.out.next hc)
    have HA := Lib.hid (HA.out.below hc)
    have HB := Lib.hid (HB.out.next hc)
    have HA1 := Lib.hid (HA1.out.below hc)
    have HA2 := Lib.hid (HA2.out.below hc)
    clear hc
    have xc0 : w7.cell? ⟨w.heap.size, 0, none⟩ = some (.string ⟨n.toArray⟩) := HB.out.cell 0
    have xc1 : w7.cell? ⟨w.heap.size, 1, none⟩ = some (.string ⟨n.toArray⟩) := HB.out.cell 1
    go_wp2_with fail
    clear xc0 xc1
    refine (check_any A2 cA2 (l.filter (notB n)) _ (by omega) HA2.out HFL.out).mono ?_
    rw [HU.out]
    rintro e w8 ⟨rfl, hc⟩
    have hb8 := hb7.trans (hc.mono hb7.size)
    have HM := Lib.hid (HM.out.next hc)
    have HA := Lib.hid (HA.out.below hc)
    have HB := Lib.hid (HB.out.next hc)
    have HA1 := Lib.hid (HA1.out.below hc)
    have HA2 := Lib.hid (HA2.out.below hc)
    clear hc
    have xc0 : w8.cell? ⟨w.heap.size, 0, none⟩ = some (.string ⟨n.toArray⟩) := HB.out.cell 0
    have xc1 : w8.cell? ⟨w.heap.size, 1, none⟩ = some (.string ⟨n.toArray⟩) := HB.out.cell 1
    go_wp2_with fail
    clear xc0 xc1
    refine (get_any A1 cA1 (setRec n v l) n _ (by omega) HA1.out).mono ?_
    rw [HG3.out]
    rintro e w9 ⟨rfl, hc⟩
    have hb9 := hb8.trans (hc.mono hb8.size)
    have HM := Lib.hid (HM.out.next hc)
    have HA := Lib.hid (HA.out.below hc)
    have HB := Lib.hid (HB.out.next hc)
    have HA1 := Lib.hid (HA1.out.below hc)
    have HA2 := Lib.hid (HA2.out.below hc)
    clear hc
    have xc0 : w9.cell? ⟨w.heap.size, 0, none⟩ = some (.string ⟨n.toArray⟩) := HB.out.cell 0
    have xc1 : w9.cell? ⟨w.heap.size, 1, none⟩ = some (.string ⟨n.toArray⟩) := HB.out.cell 1
    go_wp2_with fail
    clear xc0 xc1
    refine (get_any A1 cA1 (setRec n v l) n _ (by omega) HA1.out).mono ?_
    rw [HG3.out]
    rintro e w10 ⟨rfl, hc⟩
    have hb10 := hb9.trans (hc.mono hb9.size)
    have HM := Lib.hid (HM.out.next hc)
    have HA := Lib.hid (HA.out.below hc)
    have HB := Lib.hid (HB.out.next hc)
    have HA1 := Lib.hid (HA1.out.below hc)
    have HA2 := Lib.hid (HA2.out.below hc)
    clear hc
    have xc0 : w10.cell? ⟨w.heap.size, 0, none⟩ = some (.string ⟨n.toArray⟩) := HB.out.cell 0
    have xc1 : w10.cell? ⟨w.heap.size, 1, none⟩ = some (.string ⟨n.toArray⟩) := HB.out.cell 1
    go_wp2_with fail
    clear xc0 xc1
    refine (check_any A1 cA1 (setRec n v l) _ (by omega) HA1.out HSL.out).mono ?_
    rw [HCS.out]
    rintro e w11 ⟨rfl, hc⟩
    have hb11 := hb10.trans (hc.mono hb10.size)
    have HM := Lib.hid (HM.out.next hc)
    have HA := Lib.hid (HA.out.below hc)
    have HB := Lib.hid (HB.out.next hc)
    have HA1 := Lib.hid (HA1.out.below hc)
    have HA2 := Lib.hid (HA2.out.below hc)
    clear hc
    have xc0 : w11.cell? ⟨w.heap.size, 0, none⟩ = some (.string ⟨n.toArray⟩) := HB.out.cell 0
    have xc1 : w11.cell? ⟨w.heap.size, 1, none⟩ = some (.string ⟨n.toArray⟩) := HB.out.cell 1
    go_wp2_with fail
    go_ret
    exact ⟨rfl, hb11⟩

set_option maxHeartbeats 8000000 in
set_option maxRecDepth 100000 in
theorem bk_good11 (w : World) (a : Option Addr) (c : Nat) (l : List Two) (hA : At w 2 encT a l) (hn : l.length ≤ 140737488351232) (hG : ∀ x ∈ l, x.name.length ≤ 140737488351232 ∧ x.value.length ≤ 140737488351232) (hcap : l.length ≤ c) (n m : Bytes) (hs : n.length ≤ 140737488351232) (hm : m.length ≤ 140737488351232) (v : Bytes) (hv : v.length ≤ 140737488351232) (hM : MaxOk w) (hgr : greatB l n = false) (hlm : m.length ≤ 100000) (hlv : v.length ≤ 100000) (h1 : checkB l = true) (h2 : nameB n = true) (h3 : validB v = true) (hfull : fullB l n = true) (hmn : n = m) :
    Calls Try.prog 5 #[.slice a l.length c, .agg #[.string ⟨n.toArray⟩, .string ⟨m.toArray⟩], .string ⟨v.toArray⟩] w fun e w' => e = .returned (.bool true) ∧ Below w.heap.size w w' := by
  subst hmn
  have hmay : mayB l n v = true := by simp [mayB, h1, h2, h3]
  have HF1 := Lib.hid (setR_full hmay hfull)
  have HF2 := Lib.hid (unsetR_ok h1 h2)
  have HU := Lib.hid (check_unset n h1)
  have HG1 := Lib.hid (getV_of (getL_unset n l))
  have HL64 := Lib.hid (full_len h1 hfull)
  have hg0 := getV_of (l := l) (s := n) rfl
  clear h1 h2 h3 hmay hfull
  generalize getL l n = q at *
  cases q with
  | none =>
    simp only [Option.getD_none, Option.isSome_none] at hg0
    have HG0 := Lib.hid hg0
    clear hg0
    obtain ⟨hl1, hn1, hv1⟩ := greatB_false hgr
    have HGR := Lib.hid (fun w hA => great_any a c l n w hn hA hG hs)
    have HGB := Lib.hid hgr
    have HA := Lib.hid hA
    have HM := Lib.hid hM
    clear hA hG hgr hM
    have HS := Lib.hid (val_len (s := n) hv1)
    have HV1 := Lib.hid hv1
    clear hv1
    have HFL := Lib.hid (filter_len2 (s := n) HV1.out)
    have hflen : (l.filter (notB n)).length ≤ l.length := List.length_filter_le _ _
    have hl64 := HL64.out
    have hl64a : ((l.length : Nat) : Int) = 64 := by omega
    have HLL := Lib.hid hl64a
    clear hl64 hl64a
    go_enter Try.func5, Try.ntmps5
    go_wp2_with fail
    refine (alive_any _ (HM.out.next ((Below.refl _ _).alloc (Nat.le_refl _) _))).mono ?_
    rintro e w1 ⟨rfl, hd⟩
    have HB := Lib.hid ((Blk.new w #[.string ⟨n.toArray⟩, .string ⟨n.toArray⟩] 32).next hd)
    have hc := ((Below.refl w.heap.size w).alloc (Nat.le_refl _) (.cells #[.string ⟨n.toArray⟩, .string ⟨n.toArray⟩] 32)).trans (hd.mono (by simp))
    have hb1 := hc
    have HM := Lib.hid (HM.out.next hc)
    have HA := Lib.hid (HA.out.below hc)
    have xc0 : w1.cell? ⟨w.heap.size, 0, none⟩ = some (.string ⟨n.toArray⟩) := HB.out.cell 0
    have xc1 : w1.cell? ⟨w.heap.size, 1, none⟩ = some (.string ⟨n.toArray⟩) := HB.out.cell 1
    clear hc hd
    go_wp2_with fail
    clear xc0 xc1
    refine (HGR.out _ HA.out).mono ?_
    rw [HGB.out]
    rintro e w2 ⟨rfl, hc⟩
    have hb2 := hb1.trans (hc.mono hb1.size)
    have HM := Lib.hid (HM.out.next hc)
    have HA := Lib.hid (HA.out.below hc)
    have HB := Lib.hid (HB.out.next hc)
    clear hc
    have xc0 : w2.cell? ⟨w.heap.size, 0, none⟩ = some (.string ⟨n.toArray⟩) := HB.out.cell 0
    have xc1 : w2.cell? ⟨w.heap.size, 1, none⟩ = some (.string ⟨n.toArray⟩) := HB.out.cell 1
    go_wp2_with fail
    clear xc0 xc1
    refine (set_any a c l n v _ (by omega) (by omega) (by omega) HA.out (hcap) HS.out).mono ?_
    rw [HF1.out.1, HF1.out.2]
    rintro e w3 ⟨⟨rA1, rfl, hO⟩, hc⟩
    have hb3 := hb2.trans (hc.mono hb2.size)
    have HM := Lib.hid (HM.out.next hc)
    have HA := Lib.hid (HA.out.below hc)
    have HB := Lib.hid (HB.out.next hc)
    obtain ⟨A1, cA1, rfl, hA', hCA1⟩ := hO.open encT_ok
    have HA1 : Hid (At w3 2 encT A1 []) := hA'
    clear hA' hO
    clear hc
    have xc0 : w3.cell? ⟨w.heap.size, 0, none⟩ = some (.string ⟨n.toArray⟩) := HB.out.cell 0
    have xc1 : w3.cell? ⟨w.heap.size, 1, none⟩ = some (.string ⟨n.toArray⟩) := HB.out.cell 1
    go_wp2_with fail
    clear xc0 xc1
    refine (unset_any a c l n _ (by omega) (by omega) HA.out HS.out).mono ?_
    rw [HF2.out.1, HF2.out.2]
    rintro e w4 ⟨⟨rA2, rfl, hO⟩, hc⟩
    have hb4 := hb3.trans (hc.mono hb3.size)
    have HM := Lib.hid (HM.out.next hc)
    have HA := Lib.hid (HA.out.below hc)
    have HB := Lib.hid (HB.out.next hc)
    have HA1 := Lib.hid (HA1.out.below hc)
    obtain ⟨A2, cA2, rfl, hA', hCA2⟩ := hO.open encT_ok
    have HA2 : Hid (At w4 2 encT A2 (l.filter (notB n))) := hA'
    clear hA' hO
    clear hc
    have xc0 : w4.cell? ⟨w.heap.size, 0, none⟩ = some (.string ⟨n.toArray⟩) := HB.out.cell 0
    have xc1 : w4.cell? ⟨w.heap.size, 1, none⟩ = some (.string ⟨n.toArray⟩) := HB.out.cell 1
    go_wp2_with fail
    clear xc0 xc1
    refine (get_any A2 cA2 (l.filter (notB n)) n _ (by omega) HA2.out).mono ?_
    rw [HG1.out]
    rintro e w5 ⟨rfl, hc⟩
    have hb5 := hb4.trans (hc.mono hb4.size)
    have HM := Lib.hid (HM.out.next hc)
    have HA := Lib.hid (HA.out.below hc)
    have HB := Lib.hid (HB.out.next hc)
    have HA1 := Lib.hid (HA1.out.below hc)
    have HA2 := Lib.hid (HA2.out.below hc)
    clear hc
    have xc0 : w5.cell? ⟨w.heap.size, 0, none⟩ = some (.string ⟨n.toArray⟩) := HB.out.cell 0
    have xc1 : w5.cell? ⟨w.heap.size, 1, none⟩ = some (.string ⟨n.toArray⟩) := HB.out.cell 1
    go_wp2_with fail
    clear xc0 xc1
    refine (get_any a c l n _ (by omega) HA.out).mono ?_
    rw [HG0.out]
    rintro e w6 ⟨rfl, hc⟩
    have hb6 := hb5.trans (hc.mono hb5.size)
    have HM := Lib.hid (HM.out.next hc)
    have HA := Lib.hid (HA.out.below hc)
    have HB := Lib.hid (HB.out.next hc)
    have HA1 := Lib.hid (HA1.out.below hc)
    have HA2 := Lib.hid (HA2.out.below hc)
    clear hc
    have xc0 : w6.cell? ⟨w.heap.size, 0, none⟩ = some (.string ⟨n.toArray⟩) := HB.out.cell 0
    have xc1 : w6.cell? ⟨w.heap.size, 1, none⟩ = some (.string ⟨n.toArray⟩) := HB.out.cell 1
    go_wp2_with fail
    clear xc0 xc1
    refine (get_any A2 cA2 (l.filter (notB n)) n _ (by omega) HA2.out).mono ?_
    rw [HG1.out]
    rintro e w7 ⟨rfl, hc⟩
    have hb7 := hb6.trans (hc.mono hb6.size)
    have HM := Lib.hid (HM.out.next hc)
    have HA := Lib.hid (HA.out.below hc)
    have HB := Lib.hid (HB.out.next hc)
    have HA1 := Lib.hid (HA1.out.below hc)
    have HA2 := Lib.hid (HA2.out.below hc)
    clear hc
    have xc0 : w7.cell? ⟨w.heap.size, 0, none⟩ = some (.string ⟨n.toArray⟩) := HB.out.cell 0
    have xc1 : w7.cell? ⟨w.heap.size, 1, none⟩ = some (.string ⟨n.toArray⟩) := HB.out.cell 1
    go_wp2_with fail
    clear xc0 xc1
    refine (check_any A2 cA2 (l.filter (notB n)) _ (by omega) HA2.out HFL.out).mono ?_
    rw [HU.out]
    rintro e w8 ⟨rfl, hc⟩
    have hb8 := hb7.trans (hc.mono hb7.size)
    have HM := Lib.hid (HM.out.next hc)
    have HA := Lib.hid (HA.out.below hc)
    have HB := Lib.hid (HB.out.next hc)
    have HA1 := Lib.hid (HA1.out.below hc)
    have HA2 := Lib.hid (HA2.out.below hc)
    clear hc
    have xc0 : w8.cell? ⟨w.heap.size, 0, none⟩ = some (.string ⟨n.toArray⟩) := HB.out.cell 0
    have xc1 : w8.cell? ⟨w.heap.size, 1, none⟩ = some (.string ⟨n.toArray⟩) := HB.out.cell 1
    have hl64b := HLL.out
    go_wp2_with fail
    go_ret
    exact ⟨rfl, hb8⟩
  | some x =>
    simp only [Option.getD_some, Option.isSome_some] at hg0
    have HG0 := Lib.hid hg0
    clear hg0
    obtain ⟨hl1, hn1, hv1⟩ := greatB_false hgr
    have HGR := Lib.hid (fun w hA => great_any a c l n w hn hA hG hs)
    have HGB := Lib.hid hgr
    have HA := Lib.hid hA
    have HM := Lib.hid hM
    clear hA hG hgr hM
    have HS := Lib.hid (val_len (s := n) hv1)
    have HV1 := Lib.hid hv1
    clear hv1
    have HFL := Lib.hid (filter_len2 (s := n) HV1.out)
    have hflen : (l.filter (notB n)).length ≤ l.length := List.length_filter_le _ _
    have hl64 := HL64.out
    have hl64a : ((l.length : Nat) : Int) = 64 := by omega
    have HLL := Lib.hid hl64a
    clear hl64 hl64a
    go_enter Try.func5, Try.ntmps5
    go_wp2_with fail
    refine (alive_any _ (HM.out.next ((Below.refl _ _).alloc (Nat.le_refl _) _))).mono ?_
    rintro e w1 ⟨rfl, hd⟩
    have HB := Lib.hid ((Blk.new w #[.string ⟨n.toArray⟩, .string ⟨n.toArray⟩] 32).next hd)
    have hc := ((Below.refl w.heap.size w).alloc (Nat.le_refl _) (.cells #[.string ⟨n.toArray⟩, .string ⟨n.toArray⟩] 32)).trans (hd.mono (by simp))
    have hb1 := hc
    have HM := Lib.hid (HM.out.next hc)
    have HA := Lib.hid (HA.out.below hc)
    have xc0 : w1.cell? ⟨w.heap.size, 0, none⟩ = some (.string ⟨n.toArray⟩) := HB.out.cell 0
    have xc1 : w1.cell? ⟨w.heap.size, 1, none⟩ = some (.string ⟨n.toArray⟩) := HB.out.cell 1
    clear hc hd
    go_wp2_with fail
    clear xc0 xc1
    refine (HGR.out _ HA.out).mono ?_
    rw [HGB.out]
    rintro e w2 ⟨rfl, hc⟩
    have hb2 := hb1.trans (hc.mono hb1.size)
    have HM := Lib.hid (HM.out.next hc)
    have HA := Lib.hid (HA.out.below hc)
    have HB := Lib.hid (HB.out.next hc)
    clear hc
    have xc0 : w2.cell? ⟨w.heap.size, 0, none⟩ = some (.string ⟨n.toArray⟩) := HB.out.cell 0
    have xc1 : w2.cell? ⟨w.heap.size, 1, none⟩ = some (.string ⟨n.toArray⟩) := HB.out.cell 1
    go_wp2_with fail
    clear xc0 xc1
    refine (set_any a c l n v _ (by omega) (by omega) (by omega) HA.out (hcap) HS.out).mono ?_
    rw [HF1.out.1, HF1.out.2]
    rintro e w3 ⟨⟨rA1, rfl, hO⟩, hc⟩
    have hb3 := hb2.trans (hc.mono hb2.size)
    have HM := Lib.hid (HM.out.next hc)
    have HA := Lib.hid (HA.out.below hc)
    have HB := Lib.hid (HB.out.next hc)
    obtain ⟨A1, cA1, rfl, hA', hCA1⟩ := hO.open encT_ok
    have HA1 : Hid (At w3 2 encT A1 []) := hA'
    clear hA' hO
    clear hc
    have xc0 : w3.cell? ⟨w.heap.size, 0, none⟩ = some (.string ⟨n.toArray⟩) := HB.out.cell 0
    have xc1 : w3.cell? ⟨w.heap.size, 1, none⟩ = some (.string ⟨n.toArray⟩) := HB.out.cell 1
    go_wp2_with fail
    clear xc0 xc1
    refine (unset_any a c l n _ (by omega) (by omega) HA.out HS.out).mono ?_
    rw [HF2.out.1, HF2.out.2]
    rintro e w4 ⟨⟨rA2, rfl, hO⟩, hc⟩
    have hb4 := hb3.trans (hc.mono hb3.size)
    have HM := Lib.hid (HM.out.next hc)
    have HA := Lib.hid (HA.out.below hc)
    have HB := Lib.hid (HB.out.next hc)
    have HA1 := Lib.hid (HA1.out.below hc)
    obtain ⟨A2, cA2, rfl, hA', hCA2⟩ := hO.open encT_ok
    have HA2 : Hid (At w4 2 encT A2 (l.filter (notB n))) := hA'
    clear hA' hO
    clear hc
    have xc0 : w4.cell? ⟨w.heap.size, 0, none⟩ = some (.string ⟨n.toArray⟩) := HB.out.cell 0
    have xc1 : w4.cell? ⟨w.heap.size, 1, none⟩ = some (.string ⟨n.toArray⟩) := HB.out.cell 1
    go_wp2_with fail
    clear xc0 xc1
    refine (get_any A2 cA2 (l.filter (notB n)) n _ (by omega) HA2.out).mono ?_
    rw [HG1.out]
    rintro e w5 ⟨rfl, hc⟩
    have hb5 := hb4.trans (hc.mono hb4.size)
    have HM := Lib.hid (HM.out.next hc)
    have HA := Lib.hid (HA.out.below hc)
    have HB := Lib.hid (HB.out.next hc)
    have HA1 := Lib.hid (HA1.out.below hc)
    have HA2 := Lib.hid (HA2.out.below hc)
    clear hc
    have xc0 : w5.cell? ⟨w.heap.size, 0, none⟩ = some (.string ⟨n.toArray⟩) := HB.out.cell 0
    have xc1 : w5.cell? ⟨w.heap.size, 1, none⟩ = some (.string ⟨n.toArray⟩) := HB.out.cell 1
    go_wp2_with fail
    clear xc0 xc1
    refine (get_any a c l n _ (by omega) HA.out).mono ?_
    rw [HG0.out]
    rintro e w6 ⟨rfl, hc⟩
    have hb6 := hb5.trans (hc.mono hb5.size)
    have HM := Lib.hid (HM.out.next hc)
    have HA := Lib.hid (HA.out.below hc)
    have HB := Lib.hid (HB.out.next hc)
    have HA1 := Lib.hid (HA1.out.below hc)
    have HA2 := Lib.hid (HA2.out.below hc)
    clear hc
    have xc0 : w6.cell? ⟨w.heap.size, 0, none⟩ = some (.string ⟨n.toArray⟩) := HB.out.cell 0
    have xc1 : w6.cell? ⟨w.heap.size, 1, none⟩ = some (.string ⟨n.toArray⟩) := HB.out.cell 1
    go_wp2_with fail
    clear xc0 xc1
    refine (get_any A2 cA2 (l.filter (notB n)) n _ (by omega) HA2.out).mono ?_
    rw [HG1.out]
    rintro e w7 ⟨rfl, hc⟩
    have hb7 := hb6.trans (hc.mono hb6.size)
    have HM := Lib.hid (HM.out.next hc)
    have HA := Lib.hid (HA.out.below hc)
    have HB := Lib.hid (HB.out.next hc)
    have HA1 := Lib.hid (HA1.out.below hc)
    have HA2 := Lib.hid (HA2.out.below hc)
    clear hc
    have xc0 : w7.cell? ⟨w.heap.size, 0, none⟩ = some (.string ⟨n.toArray⟩) := HB.out.cell 0
    have xc1 : w7.cell? ⟨w.heap.size, 1, none⟩ = some (.string ⟨n.toArray⟩) := HB.out.cell 1
    go_wp2_with fail
    clear xc0 xc1
    refine (check_any A2 cA2 (l.filter (notB n)) _ (by omega) HA2.out HFL.out).mono ?_
    rw [HU.out]
    rintro e w8 ⟨rfl, hc⟩
    have hb8 := hb7.trans (hc.mono hb7.size)
    have HM := Lib.hid (HM.out.next hc)
    have HA := Lib.hid (HA.out.below hc)
    have HB := Lib.hid (HB.out.next hc)
    have HA1 := Lib.hid (HA1.out.below hc)
    have HA2 := Lib.hid (HA2.out.below hc)
    clear hc
    have xc0 : w8.cell? ⟨w.heap.size, 0, none⟩ = some (.string ⟨n.toArray⟩) := HB.out.cell 0
    have xc1 : w8.cell? ⟨w.heap.size, 1, none⟩ = some (.string ⟨n.toArray⟩) := HB.out.cell 1
    have hl64b := HLL.out
    go_wp2_with fail
    go_ret
    exact ⟨rfl, hb8⟩

theorem walk_CondsBack (w : World) (a : Option Addr) (c : Nat) (l : List Two) (hA : At w 2 encT a l) (hn : l.length ≤ 140737488351232) (hG : ∀ x ∈ l, x.name.length ≤ reachBytes ∧ x.value.length ≤ reachBytes) (hcap : l.length ≤ c) (n m : Bytes) (hs : n.length ≤ reachBytes) (hm : m.length ≤ reachBytes) (v : Bytes) (hv : v.length ≤ reachBytes) (hM : MaxOk w) :
    Calls Try.prog 5 #[.slice a l.length c, .agg #[.string ⟨n.toArray⟩, .string ⟨m.toArray⟩], .string ⟨v.toArray⟩] w fun e w' => e = .returned (.bool true) ∧ Below w.heap.size w w' := by
  cases hgr : greatB l n
  · by_cases hlm : m.length ≤ 100000
    · by_cases hlv : v.length ≤ 100000
      · cases h1 : checkB l
        · exact bk_bad1 w a c l hA hn hG hcap n m hs hm v hv hM hgr hlm hlv h1
        cases h2 : nameB n
        · exact bk_bad2 w a c l hA hn hG hcap n m hs hm v hv hM hgr hlm hlv h1 h2
        cases h3 : validB v
        · exact bk_bad3 w a c l hA hn hG hcap n m hs hm v hv hM hgr hlm hlv h1 h2 h3
        cases hf : fullB l n
        · by_cases hmn : m = n
          · exact bk_good10 w a c l hA hn hG hcap n m hs hm v hv hM hgr hlm hlv h1 h2 h3 hf hmn.symm
          · exact bk_good00 w a c l hA hn hG hcap n m hs hm v hv hM hgr hlm hlv h1 h2 h3 hf (by simpa using hmn)
        · by_cases hmn : m = n
          · exact bk_good11 w a c l hA hn hG hcap n m hs hm v hv hM hgr hlm hlv h1 h2 h3 hf hmn.symm
          · exact bk_good01 w a c l hA hn hG hcap n m hs hm v hv hM hgr hlm hlv h1 h2 h3 hf (by simpa using hmn)
      · exact bk_long2 w a c l hA hn hG hcap n m hs hm v hv hM hgr hlm (by omega)
    · exact bk_long1 w a c l hA hn hG hcap n m hs hm v hv hM hgr (by omega)
  · exact bk_great w a c l hA hn hG hcap n m hs hm v hv hM hgr

set_option maxHeartbeats 8000000 in
set_option maxRecDepth 100000 in
theorem ag_great (w : World) (a : Option Addr) (c : Nat) (l : List Two) (hA : At w 2 encT a l) (hn : l.length ≤ 140737488351232) (hG : ∀ x ∈ l, x.name.length ≤ 140737488351232 ∧ x.value.length ≤ 140737488351232) (hcap : l.length ≤ c) (n : Bytes) (hs : n.length ≤ 140737488351232) (v u : Bytes) (hv : v.length ≤ 140737488351232) (hu : u.length ≤ 140737488351232) (hM : MaxOk w) (hgr : greatB l n = true) :
    Calls Try.prog 6 #[.slice a l.length c, .string ⟨n.toArray⟩, .agg #[.string ⟨v.toArray⟩, .string ⟨u.toArray⟩]] w fun e w' => e = .returned (.bool true) ∧ Below w.heap.size w w' := by
  have HGR := Lib.hid (fun w hA => great_any a c l n w hn hA hG hs)
  have HGB := Lib.hid hgr
  have HA := Lib.hid hA
  have HM := Lib.hid hM
  clear hA hG hgr hM
  go_enter Try.func6, Try.ntmps6
  go_wp2_with fail
  refine (alive_any _ (HM.out.next ((Below.refl _ _).alloc (Nat.le_refl _) _))).mono ?_
  rintro e w1 ⟨rfl, hd⟩
  have HB := Lib.hid ((Blk.new w #[.string ⟨v.toArray⟩, .string ⟨u.toArray⟩] 32).next hd)
  have hc := ((Below.refl w.heap.size w).alloc (Nat.le_refl _) (.cells #[.string ⟨v.toArray⟩, .string ⟨u.toArray⟩] 32)).trans (hd.mono (by simp))
  have hb1 := hc
  have HM := Lib.hid (HM.out.next hc)
  have HA := Lib.hid (HA.out.below hc)
  have xc0 : w1.cell? ⟨w.heap.size, 0, none⟩ = some (.string ⟨v.toArray⟩) := HB.out.cell 0
  have xc1 : w1.cell? ⟨w.heap.size, 1, none⟩ = some (.string ⟨u.toArray⟩) := HB.out.cell 1
  clear hc hd
  go_wp2_with fail
  clear xc0 xc1
  refine (HGR.out _ HA.out).mono ?_
  rw [HGB.out]
  rintro e w2 ⟨rfl, hc⟩
  have hb2 := hb1.trans (hc.mono hb1.size)
  have HM := Lib.hid (HM.out.next hc)
  have HA := Lib.hid (HA.out.below hc)
  have HB := Lib.hid (HB.out.next hc)
  clear hc
  have xc0 : w2.cell? ⟨w.heap.size, 0, none⟩ = some (.string ⟨v.toArray⟩) := HB.out.cell 0
  have xc1 : w2.cell? ⟨w.heap.size, 1, none⟩ = some (.string ⟨u.toArray⟩) := HB.out.cell 1
  go_wp2_with fail
  clear xc0 xc1
  refine (alive_any _ HM.out).mono ?_
  rintro e w3 ⟨rfl, hc⟩
  have hb3 := hb2.trans (hc.mono hb2.size)
  have HM := Lib.hid (HM.out.next hc)
  have HA := Lib.hid (HA.out.below hc)
  have HB := Lib.hid (HB.out.next hc)
  clear hc
  have xc0 : w3.cell? ⟨w.heap.size, 0, none⟩ = some (.string ⟨v.toArray⟩) := HB.out.cell 0
  have xc1 : w3.cell? ⟨w.heap.size, 1, none⟩ = some (.string ⟨u.toArray⟩) := HB.out.cell 1
  go_wp2_with fail
  go_ret
  exact ⟨rfl, hb3⟩

set_option maxHeartbeats 8000000 in
set_option maxRecDepth 100000 in
theorem ag_long1 (w : World) (a : Option Addr) (c : Nat) (l : List Two) (hA : At w 2 encT a l) (hn : l.length ≤ 140737488351232) (hG : ∀ x ∈ l, x.name.length ≤ 140737488351232 ∧ x.value.length ≤ 140737488351232) (hcap : l.length ≤ c) (n : Bytes) (hs : n.length ≤ 140737488351232) (v u : Bytes) (hv : v.length ≤ 140737488351232) (hu : u.length ≤ 140737488351232) (hM : MaxOk w) (hgr : greatB l n = false) (hlong : 10000 < v.length) :
    Calls Try.prog 6 #[.slice a l.length c, .string ⟨n.toArray⟩, .agg #[.string ⟨v.toArray⟩, .string ⟨u.toArray⟩]] w fun e w' => e = .returned (.bool true) ∧ Below w.heap.size w w' := by
  obtain ⟨hl1, hn1, hv1⟩ := greatB_false hgr
  have HGR := Lib.hid (fun w hA => great_any a c l n w hn hA hG hs)
  have HGB := Lib.hid hgr
  have HA := Lib.hid hA
  have HM := Lib.hid hM
  clear hA hG hgr hM
  have HS := Lib.hid (val_len (s := n) hv1)
  have HV1 := Lib.hid hv1
  clear hv1
  go_enter Try.func6, Try.ntmps6
  go_wp2_with fail
  refine (alive_any _ (HM.out.next ((Below.refl _ _).alloc (Nat.le_refl _) _))).mono ?_
  rintro e w1 ⟨rfl, hd⟩
  have HB := Lib.hid ((Blk.new w #[.string ⟨v.toArray⟩, .string ⟨u.toArray⟩] 32).next hd)
  have hc := ((Below.refl w.heap.size w).alloc (Nat.le_refl _) (.cells #[.string ⟨v.toArray⟩, .string ⟨u.toArray⟩] 32)).trans (hd.mono (by simp))
  have hb1 := hc
  have HM := Lib.hid (HM.out.next hc)
  have HA := Lib.hid (HA.out.below hc)
  have xc0 : w1.cell? ⟨w.heap.size, 0, none⟩ = some (.string ⟨v.toArray⟩) := HB.out.cell 0
  have xc1 : w1.cell? ⟨w.heap.size, 1, none⟩ = some (.string ⟨u.toArray⟩) := HB.out.cell 1
  clear hc hd
  go_wp2_with fail
  clear xc0 xc1
  refine (HGR.out _ HA.out).mono ?_
  rw [HGB.out]
  rintro e w2 ⟨rfl, hc⟩
  have hb2 := hb1.trans (hc.mono hb1.size)
  have HM := Lib.hid (HM.out.next hc)
  have HA := Lib.hid (HA.out.below hc)
  have HB := Lib.hid (HB.out.next hc)
  clear hc
  have xc0 : w2.cell? ⟨w.heap.size, 0, none⟩ = some (.string ⟨v.toArray⟩) := HB.out.cell 0
  have xc1 : w2.cell? ⟨w.heap.size, 1, none⟩ = some (.string ⟨u.toArray⟩) := HB.out.cell 1
  go_wp2_with fail
  clear xc0 xc1
  refine (alive_any _ HM.out).mono ?_
  rintro e w3 ⟨rfl, hc⟩
  have hb3 := hb2.trans (hc.mono hb2.size)
  have HM := Lib.hid (HM.out.next hc)
  have HA := Lib.hid (HA.out.below hc)
  have HB := Lib.hid (HB.out.next hc)
  clear hc
  have xc0 : w3.cell? ⟨w.heap.size, 0, none⟩ = some (.string ⟨v.toArray⟩) := HB.out.cell 0
  have xc1 : w3.cell? ⟨w.heap.size, 1, none⟩ = some (.string ⟨u.toArray⟩) := HB.out.cell 1
  go_wp2_with fail
  go_ret
  exact ⟨rfl, hb3⟩

set_option maxHeartbeats 8000000 in
set_option maxRecDepth 100000 in
theorem ag_long2 (w : World) (a : Option Addr) (c : Nat) (l : List Two) (hA : At w 2 encT a l) (hn : l.length ≤ 140737488351232) (hG : ∀ x ∈ l, x.name.length ≤ 140737488351232 ∧ x.value.length ≤ 140737488351232) (hcap : l.length ≤ c) (n : Bytes) (hs : n.length ≤ 140737488351232) (v u : Bytes) (hv : v.length ≤ 140737488351232) (hu : u.length ≤ 140737488351232) (hM : MaxOk w) (hgr : greatB l n = false) (hlong1 : v.length ≤ 10000) (hlong : 10000 < u.length) :
    Calls Try.prog 6 #[.slice a l.length c, .string ⟨n.toArray⟩, .agg #[.string ⟨v.toArray⟩, .string ⟨u.toArray⟩]] w fun e w' => e = .returned (.bool true) ∧ Below w.heap.size w w' := by
  obtain ⟨hl1, hn1, hv1⟩ := greatB_false hgr
  have HGR := Lib.hid (fun w hA => great_any a c l n w hn hA hG hs)
  have HGB := Lib.hid hgr
  have HA := Lib.hid hA
  have HM := Lib.hid hM
  clear hA hG hgr hM
  have HS := Lib.hid (val_len (s := n) hv1)
  have HV1 := Lib.hid hv1
  clear hv1
  go_enter Try.func6, Try.ntmps6
  go_wp2_with fail
  refine (alive_any _ (HM.out.next ((Below.refl _ _).alloc (Nat.le_refl _) _))).mono ?_
  rintro e w1 ⟨rfl, hd⟩
  have HB := Lib.hid ((Blk.new w #[.string ⟨v.toArray⟩, .string ⟨u.toArray⟩] 32).next hd)
  have hc := ((Below.refl w.heap.size w).alloc (Nat.le_refl _) (.cells #[.string ⟨v.toArray⟩, .string ⟨u.toArray⟩] 32)).trans (hd.mono (by simp))
  have hb1 := hc
  have HM := Lib.hid (HM.out.next hc)
  have HA := Lib.hid (HA.out.below hc)
  have xc0 : w1.cell? ⟨w.heap.size, 0, none⟩ = some (.string ⟨v.toArray⟩) := HB.out.cell 0
  have xc1 : w1.cell? ⟨w.heap.size, 1, none⟩ = some (.string ⟨u.toArray⟩) := HB.out.cell 1
  clear hc hd
  go_wp2_with fail
  clear xc0 xc1
  refine (HGR.out _ HA.out).mono ?_
  rw [HGB.out]
  rintro e w2 ⟨rfl, hc⟩
  have hb2 := hb1.trans (hc.mono hb1.size)
  have HM := Lib.hid (HM.out.next hc)
  have HA := Lib.hid (HA.out.below hc)
  have HB := Lib.hid (HB.out.next hc)
  clear hc
  have xc0 : w2.cell? ⟨w.heap.size, 0, none⟩ = some (.string ⟨v.toArray⟩) := HB.out.cell 0
  have xc1 : w2.cell? ⟨w.heap.size, 1, none⟩ = some (.string ⟨u.toArray⟩) := HB.out.cell 1
  go_wp2_with fail
  clear xc0 xc1
  refine (alive_any _ HM.out).mono ?_
  rintro e w3 ⟨rfl, hc⟩
  have hb3 := hb2.trans (hc.mono hb2.size)
  have HM := Lib.hid (HM.out.next hc)
  have HA := Lib.hid (HA.out.below hc)
  have HB := Lib.hid (HB.out.next hc)
  clear hc
  have xc0 : w3.cell? ⟨w.heap.size, 0, none⟩ = some (.string ⟨v.toArray⟩) := HB.out.cell 0
  have xc1 : w3.cell? ⟨w.heap.size, 1, none⟩ = some (.string ⟨u.toArray⟩) := HB.out.cell 1
  go_wp2_with fail
  go_ret
  exact ⟨rfl, hb3⟩

set_option maxHeartbeats 8000000 in
set_option maxRecDepth 100000 in
theorem ag_bad (w : World) (a : Option Addr) (c : Nat) (l : List Two) (hA : At w 2 encT a l) (hn : l.length ≤ 140737488351232) (hG : ∀ x ∈ l, x.name.length ≤ 140737488351232 ∧ x.value.length ≤ 140737488351232) (hcap : l.length ≤ c) (n : Bytes) (hs : n.length ≤ 140737488351232) (v u : Bytes) (hv : v.length ≤ 140737488351232) (hu : u.length ≤ 140737488351232) (hM : MaxOk w) (hgr : greatB l n = false) (hlv : v.length ≤ 10000) (hlu : u.length ≤ 10000) (h1 : mayB l n v = false) :
    Calls Try.prog 6 #[.slice a l.length c, .string ⟨n.toArray⟩, .agg #[.string ⟨v.toArray⟩, .string ⟨u.toArray⟩]] w fun e w' => e = .returned (.bool true) ∧ Below w.heap.size w w' := by
  have HF1 := Lib.hid (setR_bad h1)
  clear h1
  obtain ⟨hl1, hn1, hv1⟩ := greatB_false hgr
  have HGR := Lib.hid (fun w hA => great_any a c l n w hn hA hG hs)
  have HGB := Lib.hid hgr
  have HA := Lib.hid hA
  have HM := Lib.hid hM
  clear hA hG hgr hM
  have HS := Lib.hid (val_len (s := n) hv1)
  have HV1 := Lib.hid hv1
  clear hv1
  go_enter Try.func6, Try.ntmps6
  go_wp2_with fail
  refine (alive_any _ (HM.out.next ((Below.refl _ _).alloc (Nat.le_refl _) _))).mono ?_
  rintro e w1 ⟨rfl, hd⟩
  have HB := Lib.hid ((Blk.new w #[.string ⟨v.toArray⟩, .string ⟨u.toArray⟩] 32).next hd)
  have hc := ((Below.refl w.heap.size w).alloc (Nat.le_refl _) (.cells #[.string ⟨v.toArray⟩, .string ⟨u.toArray⟩] 32)).trans (hd.mono (by simp))
  have hb1 := hc
  have HM := Lib.hid (HM.out.next hc)
  have HA := Lib.hid (HA.out.below hc)
  have xc0 : w1.cell? ⟨w.heap.size, 0, none⟩ = some (.string ⟨v.toArray⟩) := HB.out.cell 0
  have xc1 : w1.cell? ⟨w.heap.size, 1, none⟩ = some (.string ⟨u.toArray⟩) := HB.out.cell 1
  clear hc hd
  go_wp2_with fail
  clear xc0 xc1
  refine (HGR.out _ HA.out).mono ?_
  rw [HGB.out]
  rintro e w2 ⟨rfl, hc⟩
  have hb2 := hb1.trans (hc.mono hb1.size)
  have HM := Lib.hid (HM.out.next hc)
  have HA := Lib.hid (HA.out.below hc)
  have HB := Lib.hid (HB.out.next hc)
  clear hc
  have xc0 : w2.cell? ⟨w.heap.size, 0, none⟩ = some (.string ⟨v.toArray⟩) := HB.out.cell 0
  have xc1 : w2.cell? ⟨w.heap.size, 1, none⟩ = some (.string ⟨u.toArray⟩) := HB.out.cell 1
  go_wp2_with fail
  clear xc0 xc1
  refine (set_any a c l n v _ (by omega) (by omega) (by omega) HA.out (hcap) HS.out).mono ?_
  rw [HF1.out.1, HF1.out.2]
  rintro e w3 ⟨⟨rA1, rfl, hO⟩, hc⟩
  have hb3 := hb2.trans (hc.mono hb2.size)
  have HM := Lib.hid (HM.out.next hc)
  have HA := Lib.hid (HA.out.below hc)
  have HB := Lib.hid (HB.out.next hc)
  obtain ⟨A1, cA1, rfl, hA', hCA1⟩ := hO.open encT_ok
  have HA1 : Hid (At w3 2 encT A1 []) := hA'
  clear hA' hO
  clear hc
  have xc0 : w3.cell? ⟨w.heap.size, 0, none⟩ = some (.string ⟨v.toArray⟩) := HB.out.cell 0
  have xc1 : w3.cell? ⟨w.heap.size, 1, none⟩ = some (.string ⟨u.toArray⟩) := HB.out.cell 1
  go_wp2_with fail
  go_ret
  exact ⟨rfl, hb3⟩

set_option maxHeartbeats 8000000 in
set_option maxRecDepth 100000 in
theorem ag_full (w : World) (a : Option Addr) (c : Nat) (l : List Two) (hA : At w 2 encT a l) (hn : l.length ≤ 140737488351232) (hG : ∀ x ∈ l, x.name.length ≤ 140737488351232 ∧ x.value.length ≤ 140737488351232) (hcap : l.length ≤ c) (n : Bytes) (hs : n.length ≤ 140737488351232) (v u : Bytes) (hv : v.length ≤ 140737488351232) (hu : u.length ≤ 140737488351232) (hM : MaxOk w) (hgr : greatB l n = false) (hlv : v.length ≤ 10000) (hlu : u.length ≤ 10000) (h1 : mayB l n v = true) (hf : fullB l n = true) :
    Calls Try.prog 6 #[.slice a l.length c, .string ⟨n.toArray⟩, .agg #[.string ⟨v.toArray⟩, .string ⟨u.toArray⟩]] w fun e w' => e = .returned (.bool true) ∧ Below w.heap.size w w' := by
  have HF1 := Lib.hid (setR_full h1 hf)
  clear h1 hf
  obtain ⟨hl1, hn1, hv1⟩ := greatB_false hgr
  have HGR := Lib.hid (fun w hA => great_any a c l n w hn hA hG hs)
  have HGB := Lib.hid hgr
  have HA := Lib.hid hA
  have HM := Lib.hid hM
  clear hA hG hgr hM
  have HS := Lib.hid (val_len (s := n) hv1)
  have HV1 := Lib.hid hv1
  clear hv1
  go_enter Try.func6, Try.ntmps6
  go_wp2_with fail
  refine (alive_any _ (HM.out.next ((Below.refl _ _).alloc (Nat.le_refl _) _))).mono ?_
  rintro e w1 ⟨rfl, hd⟩
  have HB := Lib.hid ((Blk.new w #[.string ⟨v.toArray⟩, .string ⟨u.toArray⟩] 32).next hd)
  have hc := ((Below.refl w.heap.size w).alloc (Nat.le_refl _) (.cells #[.string ⟨v.toArray⟩, .string ⟨u.toArray⟩] 32)).trans (hd.mono (by simp))
  have hb1 := hc
  have HM := Lib.hid (HM.out.next hc)
  have HA := Lib.hid (HA.out.below hc)
  have xc0 : w1.cell? ⟨w.heap.size, 0, none⟩ = some (.string ⟨v.toArray⟩) := HB.out.cell 0
  have xc1 : w1.cell? ⟨w.heap.size, 1, none⟩ = some (.string ⟨u.toArray⟩) := HB.out.cell 1
  clear hc hd
  go_wp2_with fail
  clear xc0 xc1
  refine (HGR.out _ HA.out).mono ?_
  rw [HGB.out]
  rintro e w2 ⟨rfl, hc⟩
  have hb2 := hb1.trans (hc.mono hb1.size)
  have HM := Lib.hid (HM.out.next hc)
  have HA := Lib.hid (HA.out.below hc)
  have HB := Lib.hid (HB.out.next hc)
  clear hc
  have xc0 : w2.cell? ⟨w.heap.size, 0, none⟩ = some (.string ⟨v.toArray⟩) := HB.out.cell 0
  have xc1 : w2.cell? ⟨w.heap.size, 1, none⟩ = some (.string ⟨u.toArray⟩) := HB.out.cell 1
  go_wp2_with fail
  clear xc0 xc1
  refine (set_any a c l n v _ (by omega) (by omega) (by omega) HA.out (hcap) HS.out).mono ?_
  rw [HF1.out.1, HF1.out.2]
  rintro e w3 ⟨⟨rA1, rfl, hO⟩, hc⟩
  have hb3 := hb2.trans (hc.mono hb2.size)
  have HM := Lib.hid (HM.out.next hc)
  have HA := Lib.hid (HA.out.below hc)
  have HB := Lib.hid (HB.out.next hc)
  obtain ⟨A1, cA1, rfl, hA', hCA1⟩ := hO.open encT_ok
  have HA1 : Hid (At w3 2 encT A1 []) := hA'
  clear hA' hO
  clear hc
  have xc0 : w3.cell? ⟨w.heap.size, 0, none⟩ = some (.string ⟨v.toArray⟩) := HB.out.cell 0
  have xc1 : w3.cell? ⟨w.heap.size, 1, none⟩ = some (.string ⟨u.toArray⟩) := HB.out.cell 1
  go_wp2_with fail
  go_ret
  exact ⟨rfl, hb3⟩

set_option maxHeartbeats 8000000 in
set_option maxRecDepth 100000 in
theorem ag_good0 (w : World) (a : Option Addr) (c : Nat) (l : List Two) (hA : At w 2 encT a l) (hn : l.length ≤ 140737488351232) (hG : ∀ x ∈ l, x.name.length ≤ 140737488351232 ∧ x.value.length ≤ 140737488351232) (hcap : l.length ≤ c) (n : Bytes) (hs : n.length ≤ 140737488351232) (v u : Bytes) (hv : v.length ≤ 140737488351232) (hu : u.length ≤ 140737488351232) (hM : MaxOk w) (hgr : greatB l n = false) (hlv : v.length ≤ 10000) (hlu : u.length ≤ 10000) (h1 : checkB l = true) (h2 : nameB n = true) (h3 : validB v = true) (hf : fullB l n = false) (h4 : validB u = false) :
    Calls Try.prog 6 #[.slice a l.length c, .string ⟨n.toArray⟩, .agg #[.string ⟨v.toArray⟩, .string ⟨u.toArray⟩]] w fun e w' => e = .returned (.bool true) ∧ Below w.heap.size w w' := by
  have hmay : mayB l n v = true := by simp [mayB, h1, h2, h3]
  have hc1 := check_set hmay hf
  have hf1 : fullB (setRec n v l) n = false := by rw [fullB_rec, setRec_has]; rfl
  have HF1 := Lib.hid (setR_ok hmay hf)
  have HF2 := Lib.hid (setR_bad (l := setRec n v l) (s := n) (v := u) (by simp [mayB, h4]))
  have HF3 := Lib.hid (setR_bad (l := l) (s := n) (v := u) (by simp [mayB, h4]))
  have HF4 : Hid (unsetR (setRec n v l) n = l.filter (notB n) ∧ unsetE (setRec n v l) n = 0) := by unfold Hid; rw [← filter_set n v l]; exact unsetR_ok hc1 h2
  have HF5 := Lib.hid (unsetR_ok h1 h2)
  clear h1 h2 h3 hf h4 hmay hc1 hf1
  obtain ⟨hl1, hn1, hv1⟩ := greatB_false hgr
  have HGR := Lib.hid (fun w hA => great_any a c l n w hn hA hG hs)
  have HGB := Lib.hid hgr
  have HA := Lib.hid hA
  have HM := Lib.hid hM
  clear hA hG hgr hM
  have HS := Lib.hid (val_len (s := n) hv1)
  have HV1 := Lib.hid hv1
  clear hv1
  have HSL := Lib.hid (setRec_len2 (s := n) (v := v) HV1.out (by omega) (by omega))
  have hslen : (setRec n v l).length ≤ l.length + 1 := by rw [setRec_len]; split <;> omega
  have hslen2 : (setRec n u l).length ≤ l.length + 1 := by rw [setRec_len]; split <;> omega
  have hflen : (l.filter (notB n)).length ≤ l.length := List.length_filter_le _ _
  go_enter Try.func6, Try.ntmps6
  go_wp2_with fail
  refine (alive_any _ (HM.out.next ((Below.refl _ _).alloc (Nat.le_refl _) _))).mono ?_
  rintro e w1 ⟨rfl, hd⟩
  have HB := Lib.hid ((Blk.new w #[.string ⟨v.toArray⟩, .string ⟨u.toArray⟩] 32).next hd)
  have hc := ((Below.refl w.heap.size w).alloc (Nat.le_refl _) (.cells #[.string ⟨v.toArray⟩, .string ⟨u.toArray⟩] 32)).trans (hd.mono (by simp))
  have hb1 := hc
  have HM := Lib.hid (HM.out.next hc)
  have HA := Lib.hid (HA.out.below hc)
  have xc0 : w1.cell? ⟨w.heap.size, 0, none⟩ = some (.string ⟨v.toArray⟩) := HB.out.cell 0
  have xc1 : w1.cell? ⟨w.heap.size, 1, none⟩ = some (.string ⟨u.toArray⟩) := HB.out.cell 1
  clear hc hd
  go_wp2_with fail
  clear xc0 xc1
  refine (HGR.out _ HA.out).mono ?_
  rw [HGB.out]
  rintro e w2 ⟨rfl, hc⟩
  have hb2 := hb1.trans (hc.mono hb1.size)
  have HM := Lib.hid (HM.out.next hc)
  have HA := Lib.hid (HA.out.below hc)
  have HB := Lib.hid (HB.out.next hc)
  clear hc
  have xc0 : w2.cell? ⟨w.heap.size, 0, none⟩ = some (.string ⟨v.toArray⟩) := HB.out.cell 0
  have xc1 : w2.cell? ⟨w.heap.size, 1, none⟩ = some (.string ⟨u.toArray⟩) := HB.out.cell 1
  go_wp2_with fail
  clear xc0 xc1
  refine (set_any a c l n v _ (by omega) (by omega) (by omega) HA.out (hcap) HS.out).mono ?_
  rw [HF1.out.1, HF1.out.2]
  rintro e w3 ⟨⟨rA1, rfl, hO⟩, hc⟩
  have hb3 := hb2.trans (hc.mono hb2.size)
  have HM := Lib.hid (HM.out.next hc)
  have HA := Lib.hid (HA.out.below hc)
  have HB := Lib.hid (HB.out.next hc)
  obtain ⟨A1, cA1, rfl, hA', hCA1⟩ := hO.open encT_ok
  have HA1 : Hid (At w3 2 encT A1 (setRec n v l)) := hA'
  clear hA' hO
  clear hc
  have xc0 : w3.cell? ⟨w.heap.size, 0, none⟩ = some (.string ⟨v.toArray⟩) := HB.out.cell 0
  have xc1 : w3.cell? ⟨w.heap.size, 1, none⟩ = some (.string ⟨u.toArray⟩) := HB.out.cell 1
  go_wp2_with fail
  clear xc0 xc1
  refine (set_any A1 cA1 (setRec n v l) n u _ (by omega) (by omega) (by omega) HA1.out (hCA1) HSL.out).mono ?_
  rw [HF2.out.1, HF2.out.2]
  rintro e w4 ⟨⟨rA2, rfl, hO⟩, hc⟩
  have hb4 := hb3.trans (hc.mono hb3.size)
  have HM := Lib.hid (HM.out.next hc)
  have HA := Lib.hid (HA.out.below hc)
  have HB := Lib.hid (HB.out.next hc)
  have HA1 := Lib.hid (HA1.out.below hc)
  obtain ⟨A2, cA2, rfl, hA', hCA2⟩ := hO.open encT_ok
  have HA2 : Hid (At w4 2 encT A2 []) := hA'
  clear hA' hO
  clear hc
  have xc0 : w4.cell? ⟨w.heap.size, 0, none⟩ = some (.string ⟨v.toArray⟩) := HB.out.cell 0
  have xc1 : w4.cell? ⟨w.heap.size, 1, none⟩ = some (.string ⟨u.toArray⟩) := HB.out.cell 1
  go_wp2_with fail
  clear xc0 xc1
  refine (set_any a c l n u _ (by omega) (by omega) (by omega) HA.out (hcap) HS.out).mono ?_
  rw [HF3.out.1, HF3.out.2]
  rintro e w5 ⟨⟨rA3, rfl, hO⟩, hc⟩
  have hb5 := hb4.trans (hc.mono hb4.size)
  have HM := Lib.hid (HM.out.next hc)
  have HA := Lib.hid (HA.out.below hc)
  have HB := Lib.hid (HB.out.next hc)
  have HA1 := Lib.hid (HA1.out.below hc)
  have HA2 := Lib.hid (HA2.out.below hc)
  obtain ⟨A3, cA3, rfl, hA', hCA3⟩ := hO.open encT_ok
  have HA3 : Hid (At w5 2 encT A3 []) := hA'
  clear hA' hO
  clear hc
  have xc0 : w5.cell? ⟨w.heap.size, 0, none⟩ = some (.string ⟨v.toArray⟩) := HB.out.cell 0
  have xc1 : w5.cell? ⟨w.heap.size, 1, none⟩ = some (.string ⟨u.toArray⟩) := HB.out.cell 1
  go_wp2_with fail
  clear xc0 xc1
  refine (unset_any A1 cA1 (setRec n v l) n _ (by omega) (by omega) HA1.out HSL.out).mono ?_
  rw [HF4.out.1, HF4.out.2]
  rintro e w6 ⟨⟨rA4, rfl, hO⟩, hc⟩
  have hb6 := hb5.trans (hc.mono hb5.size)
  have HM := Lib.hid (HM.out.next hc)
  have HA := Lib.hid (HA.out.below hc)
  have HB := Lib.hid (HB.out.next hc)
  have HA1 := Lib.hid (HA1.out.below hc)
  have HA2 := Lib.hid (HA2.out.below hc)
  have HA3 := Lib.hid (HA3.out.below hc)
  obtain ⟨A4, cA4, rfl, hA', hCA4⟩ := hO.open encT_ok
  have HA4 : Hid (At w6 2 encT A4 (l.filter (notB n))) := hA'
  clear hA' hO
  clear hc
  have xc0 : w6.cell? ⟨w.heap.size, 0, none⟩ = some (.string ⟨v.toArray⟩) := HB.out.cell 0
  have xc1 : w6.cell? ⟨w.heap.size, 1, none⟩ = some (.string ⟨u.toArray⟩) := HB.out.cell 1
  go_wp2_with fail
  clear xc0 xc1
  refine (unset_any a c l n _ (by omega) (by omega) HA.out HS.out).mono ?_
  rw [HF5.out.1, HF5.out.2]
  rintro e w7 ⟨⟨rA5, rfl, hO⟩, hc⟩
  have hb7 := hb6.trans (hc.mono hb6.size)
  have HM := Lib.hid (HM.out.next hc)
  have HA := Lib.hid (HA.out.below hc)
  have HB := Lib.hid (HB.out.next hc)
  have HA1 := Lib.hid (HA1.out.below hc)
  have HA2 := Lib.hid (HA2.out.below hc)
  have HA3 := Lib.hid (HA3.out.below hc)
  have HA4 := Lib.hid (HA4.out.below hc)
  obtain ⟨A5, cA5, rfl, hA', hCA5⟩ := hO.open encT_ok
  have HA5 : Hid (At w7 2 encT A5 (l.filter (notB n))) := hA'
  clear hA' hO
  clear hc
  have xc0 : w7.cell? ⟨w.heap.size, 0, none⟩ = some (.string ⟨v.toArray⟩) := HB.out.cell 0
  have xc1 : w7.cell? ⟨w.heap.size, 1, none⟩ = some (.string ⟨u.toArray⟩) := HB.out.cell 1
  go_wp2_with fail
  clear xc0 xc1
  refine (sameAttrs_any A2 cA2 A3 cA3 [] _ (by simp) HA2.out HA3.out).mono ?_
  rintro e w8 ⟨rfl, hc⟩
  have hb8 := hb7.trans (hc.mono hb7.size)
  have HM := Lib.hid (HM.out.next hc)
  have HA := Lib.hid (HA.out.below hc)
  have HB := Lib.hid (HB.out.next hc)
  have HA1 := Lib.hid (HA1.out.below hc)
  have HA2 := Lib.hid (HA2.out.below hc)
  have HA3 := Lib.hid (HA3.out.below hc)
  have HA4 := Lib.hid (HA4.out.below hc)
  have HA5 := Lib.hid (HA5.out.below hc)
  clear hc
  have xc0 : w8.cell? ⟨w.heap.size, 0, none⟩ = some (.string ⟨v.toArray⟩) := HB.out.cell 0
  have xc1 : w8.cell? ⟨w.heap.size, 1, none⟩ = some (.string ⟨u.toArray⟩) := HB.out.cell 1
  go_wp2_with fail
  clear xc0 xc1
  refine (sameAttrs_any A4 cA4 A5 cA5 (l.filter (notB n)) _ (by omega) HA4.out HA5.out).mono ?_
  rintro e w9 ⟨rfl, hc⟩
  have hb9 := hb8.trans (hc.mono hb8.size)
  have HM := Lib.hid (HM.out.next hc)
  have HA := Lib.hid (HA.out.below hc)
  have HB := Lib.hid (HB.out.next hc)
  have HA1 := Lib.hid (HA1.out.below hc)
  have HA2 := Lib.hid (HA2.out.below hc)
  have HA3 := Lib.hid (HA3.out.below hc)
  have HA4 := Lib.hid (HA4.out.below hc)
  have HA5 := Lib.hid (HA5.out.below hc)
  clear hc
  have xc0 : w9.cell? ⟨w.heap.size, 0, none⟩ = some (.string ⟨v.toArray⟩) := HB.out.cell 0
  have xc1 : w9.cell? ⟨w.heap.size, 1, none⟩ = some (.string ⟨u.toArray⟩) := HB.out.cell 1
  go_wp2_with fail
  go_ret
  exact ⟨rfl, hb9⟩

set_option maxHeartbeats 8000000 in
set_option maxRecDepth 100000 in
theorem ag_good1 (w : World) (a : Option Addr) (c : Nat) (l : List Two) (hA : At w 2 encT a l) (hn : l.length ≤ 140737488351232) (hG : ∀ x ∈ l, x.name.length ≤ 140737488351232 ∧ x.value.length ≤ 140737488351232) (hcap : l.length ≤ c) (n : Bytes) (hs : n.length ≤ 140737488351232) (v u : Bytes) (hv : v.length ≤ 140737488351232) (hu : u.length ≤ 140737488351232) (hM : MaxOk w) (hgr : greatB l n = false) (hlv : v.length ≤ 10000) (hlu : u.length ≤ 10000) (h1 : checkB l = true) (h2 : nameB n = true) (h3 : validB v = true) (hf : fullB l n = false) (h4 : validB u = true) :
    Calls Try.prog 6 #[.slice a l.length c, .string ⟨n.toArray⟩, .agg #[.string ⟨v.toArray⟩, .string ⟨u.toArray⟩]] w fun e w' => e = .returned (.bool true) ∧ Below w.heap.size w w' := by
  have hmay : mayB l n v = true := by simp [mayB, h1, h2, h3]
  have hc1 := check_set hmay hf
  have hf1 : fullB (setRec n v l) n = false := by rw [fullB_rec, setRec_has]; rfl
  have HF1 := Lib.hid (setR_ok hmay hf)
  have HF2 : Hid (setR (setRec n v l) n u = setRec n u l ∧ setE (setRec n v l) n u = 0) := by unfold Hid; rw [← setRec_again n v u l]; exact setR_ok (by simp [mayB, hc1, h2, h4]) hf1
  have HF3 := Lib.hid (setR_ok (l := l) (s := n) (v := u) (by simp [mayB, h1, h2, h4]) hf)
  have HF4 : Hid (unsetR (setRec n v l) n = l.filter (notB n) ∧ unsetE (setRec n v l) n = 0) := by unfold Hid; rw [← filter_set n v l]; exact unsetR_ok hc1 h2
  have HF5 := Lib.hid (unsetR_ok h1 h2)
  clear h1 h2 h3 hf h4 hmay hc1 hf1
  obtain ⟨hl1, hn1, hv1⟩ := greatB_false hgr
  have HGR := Lib.hid (fun w hA => great_any a c l n w hn hA hG hs)
  have HGB := Lib.hid hgr
  have HA := Lib.hid hA
  have HM := Lib.hid hM
  clear hA hG hgr hM
  have HS := Lib.hid (val_len (s := n) hv1)
  have HV1 := Lib.hid hv1
  clear hv1
  have HSL := Lib.hid (setRec_len2 (s := n) (v := v) HV1.out (by omega) (by omega))
  have hslen : (setRec n v l).length ≤ l.length + 1 := by rw [setRec_len]; split <;> omega
  have hslen2 : (setRec n u l).length ≤ l.length + 1 := by rw [setRec_len]; split <;> omega
  have hflen : (l.filter (notB n)).length ≤ l.length := List.length_filter_le _ _
  go_enter Try.func6, Try.ntmps6
  go_wp2_with fail
  refine (alive_any _ (HM.out.next ((Below.refl _ _).alloc (Nat.le_refl _) _))).mono ?_
  rintro e w1 ⟨rfl, hd⟩
  have HB := Lib.hid ((Blk.new w #[.string ⟨v.toArray⟩, .string ⟨u.toArray⟩] 32).next hd)
  have hc := ((Below.refl w.heap.size w).alloc (Nat.le_refl _) (.cells #[.string ⟨v.toArray⟩, .string ⟨u.toArray⟩] 32)).trans (hd.mono (by simp))
  have hb1 := hc
  have HM := Lib.hid (HM.out.next hc)
  have HA := Lib.hid (HA.out.below hc)
  have xc0 : w1.cell? ⟨w.heap.size, 0, none⟩ = some (.string ⟨v.toArray⟩) := HB.out.cell 0
  have xc1 : w1.cell? ⟨w.heap.size, 1, none⟩ = some (.string ⟨u.toArray⟩) := HB.out.cell 1
  clear hc hd
  go_wp2_with fail
  clear xc0 xc1
  refine (HGR.out _ HA.out).mono ?_
  rw [HGB.out]
  rintro e w2 ⟨rfl, hc⟩
  have hb2 := hb1.trans (hc.mono hb1.size)
  have HM := Lib.hid (HM.out.next hc)
  have HA := Lib.hid (HA.out.below hc)
  have HB := Lib.hid (HB.out.next hc)
  clear hc
  have xc0 : w2.cell? ⟨w.heap.size, 0, none⟩ = some (.string ⟨v.toArray⟩) := HB.out.cell 0
  have xc1 : w2.cell? ⟨w.heap.size, 1, none⟩ = some (.string ⟨u.toArray⟩) := HB.out.cell 1
  go_wp2_with fail
  clear xc0 xc1
  refine (set_any a c l n v _ (by omega) (by omega) (by omega) HA.out (hcap) HS.out).mono ?_
  rw [HF1.out.1, HF1.out.2]
  rintro e w3 ⟨⟨rA1, rfl, hO⟩, hc⟩
  have hb3 := hb2.trans (hc.mono hb2.size)
  have HM := Lib.hid (HM.out.next hc)
  have HA := Lib.hid (HA.out.below hc)
  have HB := Lib.hid (HB.out.next hc)
  obtain ⟨A1, cA1, rfl, hA', hCA1⟩ := hO.open encT_ok
  have HA1 : Hid (At w3 2 encT A1 (setRec n v l)) := hA'
  clear hA' hO
  clear hc
  have xc0 : w3.cell? ⟨w.heap.size, 0, none⟩ = some (.string ⟨v.toArray⟩) := HB.out.cell 0
  have xc1 : w3.cell? ⟨w.heap.size, 1, none⟩ = some (.string ⟨u.toArray⟩) := HB.out.cell 1
  go_wp2_with fail
  clear xc0 xc1
  refine (set_any A1 cA1 (setRec n v l) n u _ (by omega) (by omega) (by omega) HA1.out (hCA1) HSL.out).mono ?_
  rw [HF2.out.1, HF2.out.2]
  rintro e w4 ⟨⟨rA2, rfl, hO⟩, hc⟩
  have hb4 := hb3.trans (hc.mono hb3.size)
  have HM := Lib.hid (HM.out.next hc)
  have HA := Lib.hid (HA.out.below hc)
  have HB := Lib.hid (HB.out.next hc)
  have HA1 := Lib.hid (HA1.out.below hc)
  obtain ⟨A2, cA2, rfl, hA', hCA2⟩ := hO.open encT_ok
  have HA2 : Hid (At w4 2 encT A2 (setRec n u l)) := hA'
  clear hA' hO
  clear hc
  have xc0 : w4.cell? ⟨w.heap.size, 0, none⟩ = some (.string ⟨v.toArray⟩) := HB.out.cell 0
  have xc1 : w4.cell? ⟨w.heap.size, 1, none⟩ = some (.string ⟨u.toArray⟩) := HB.out.cell 1
  go_wp2_with fail
  clear xc0 xc1
  refine (set_any a c l n u _ (by omega) (by omega) (by omega) HA.out (hcap) HS.out).mono ?_
  rw [HF3.out.1, HF3.out.2]
  rintro e w5 ⟨⟨rA3, rfl, hO⟩, hc⟩
  have hb5 := hb4.trans (hc.mono hb4.size)
  have HM := Lib.hid (HM.out.next hc)
  have HA := Lib.hid (HA.out.below hc)
  have HB := Lib.hid (HB.out.next hc)
  have HA1 := Lib.hid (HA1.out.below hc)
  have HA2 := Lib.hid (HA2.out.below hc)
  obtain ⟨A3, cA3, rfl, hA', hCA3⟩ := hO.open encT_ok
  have HA3 : Hid (At w5 2 encT A3 (setRec n u l)) := hA'
  clear hA' hO
  clear hc
  have xc0 : w5.cell? ⟨w.heap.size, 0, none⟩ = some (.string ⟨v.toArray⟩) := HB.out.cell 0
  have xc1 : w5.cell? ⟨w.heap.size, 1, none⟩ = some (.string ⟨u.toArray⟩) := HB.out.cell 1
  go_wp2_with fail
  clear xc0 xc1
  refine (unset_any A1 cA1 (setRec n v l) n _ (by omega) (by omega) HA1.out HSL.out).mono ?_
  rw [HF4.out.1, HF4.out.2]
  rintro e w6 ⟨⟨rA4, rfl, hO⟩, hc⟩
  have hb6 := hb5.trans (hc.mono hb5.size)
  have HM := Lib.hid (HM.out.next hc)
  have HA := Lib.hid (HA.out.below hc)
  have HB := Lib.hid (HB.out.next hc)
  have HA1 := Lib.hid (HA1.out.below hc)
  have HA2 := Lib.hid (HA2.out.below hc)
  have HA3 := Lib.hid (HA3.out.below hc)
  obtain ⟨A4, cA4, rfl, hA', hCA4⟩ := hO.open encT_ok
  have HA4 : Hid (At w6 2 encT A4 (l.filter (notB n))) := hA'
  clear hA' hO
  clear hc
  have xc0 : w6.cell? ⟨w.heap.size, 0, none⟩ = some (.string ⟨v.toArray⟩) := HB.out.cell 0
  have xc1 : w6.cell? ⟨w.heap.size, 1, none⟩ = some (.string ⟨u.toArray⟩) := HB.out.cell 1
  go_wp2_with fail
  clear xc0 xc1
  refine (unset_any a c l n _ (by omega) (by omega) HA.out HS.out).mono ?_
  rw [HF5.out.1, HF5.out.2]
  rintro e w7 ⟨⟨rA5, rfl, hO⟩, hc⟩
  have hb7 := hb6.trans (hc.mono hb6.size)
  have HM := Lib.hid (HM.out.next hc)
  have HA := Lib.hid (HA.out.below hc)
  have HB := Lib.hid (HB.out.next hc)
  have HA1 := Lib.hid (HA1.out.below hc)
  have HA2 := Lib.hid (HA2.out.below hc)
  have HA3 := Lib.hid (HA3.out.below hc)
  have HA4 := Lib.hid (HA4.out.below hc)
  obtain ⟨A5, cA5, rfl, hA', hCA5⟩ := hO.open encT_ok
  have HA5 : Hid (At w7 2 encT A5 (l.filter (notB n))) := hA'
  clear hA' hO
  clear hc
  have xc0 : w7.cell? ⟨w.heap.size, 0, none⟩ = some (.string ⟨v.toArray⟩) := HB.out.cell 0
  have xc1 : w7.cell? ⟨w.heap.size, 1, none⟩ = some (.string ⟨u.toArray⟩) := HB.out.cell 1
  go_wp2_with fail
  clear xc0 xc1
  refine (sameAttrs_any A2 cA2 A3 cA3 (setRec n u l) _ (by omega) HA2.out HA3.out).mono ?_
  rintro e w8 ⟨rfl, hc⟩
  have hb8 := hb7.trans (hc.mono hb7.size)
  have HM := Lib.hid (HM.out.next hc)
  have HA := Lib.hid (HA.out.below hc)
  have HB := Lib.hid (HB.out.next hc)
  have HA1 := Lib.hid (HA1.out.below hc)
  have HA2 := Lib.hid (HA2.out.below hc)
  have HA3 := Lib.hid (HA3.out.below hc)
  have HA4 := Lib.hid (HA4.out.below hc)
  have HA5 := Lib.hid (HA5.out.below hc)
  clear hc
  have xc0 : w8.cell? ⟨w.heap.size, 0, none⟩ = some (.string ⟨v.toArray⟩) := HB.out.cell 0
  have xc1 : w8.cell? ⟨w.heap.size, 1, none⟩ = some (.string ⟨u.toArray⟩) := HB.out.cell 1
  go_wp2_with fail
  clear xc0 xc1
  refine (sameAttrs_any A4 cA4 A5 cA5 (l.filter (notB n)) _ (by omega) HA4.out HA5.out).mono ?_
  rintro e w9 ⟨rfl, hc⟩
  have hb9 := hb8.trans (hc.mono hb8.size)
  have HM := Lib.hid (HM.out.next hc)
  have HA := Lib.hid (HA.out.below hc)
  have HB := Lib.hid (HB.out.next hc)
  have HA1 := Lib.hid (HA1.out.below hc)
  have HA2 := Lib.hid (HA2.out.below hc)
  have HA3 := Lib.hid (HA3.out.below hc)
  have HA4 := Lib.hid (HA4.out.below hc)
  have HA5 := Lib.hid (HA5.out.below hc)
  clear hc
  have xc0 : w9.cell? ⟨w.heap.size, 0, none⟩ = some (.string ⟨v.toArray⟩) := HB.out.cell 0
  have xc1 : w9.cell? ⟨w.heap.size, 1, none⟩ = some (.string ⟨u.toArray⟩) := HB.out.cell 1
  go_wp2_with fail
  go_ret
  exact ⟨rfl, hb9⟩

theorem walk_CondsAgain (w : World) (a : Option Addr) (c : Nat) (l : List Two) (hA : At w 2 encT a l) (hn : l.length ≤ 140737488351232) (hG : ∀ x ∈ l, x.name.length ≤ reachBytes ∧ x.value.length ≤ reachBytes) (hcap : l.length ≤ c) (n : Bytes) (hs : n.length ≤ reachBytes) (v u : Bytes) (hv : v.length ≤ reachBytes) (hu : u.length ≤ reachBytes) (hM : MaxOk w) :
    Calls Try.prog 6 #[.slice a l.length c, .string ⟨n.toArray⟩, .agg #[.string ⟨v.toArray⟩, .string ⟨u.toArray⟩]] w fun e w' => e = .returned (.bool true) ∧ Below w.heap.size w w' := by
  cases hgr : greatB l n
  · by_cases hlv : v.length ≤ 10000
    · by_cases hlu : u.length ≤ 10000
      · cases h1 : checkB l
        · exact ag_bad w a c l hA hn hG hcap n hs v u hv hu hM hgr hlv hlu (by simp [mayB, h1])
        cases h2 : nameB n
        · exact ag_bad w a c l hA hn hG hcap n hs v u hv hu hM hgr hlv hlu (by simp [mayB, h2])
        cases h3 : validB v
        · exact ag_bad w a c l hA hn hG hcap n hs v u hv hu hM hgr hlv hlu (by simp [mayB, h3])
        cases hf : fullB l n
        · cases h4 : validB u
          · exact ag_good0 w a c l hA hn hG hcap n hs v u hv hu hM hgr hlv hlu h1 h2 h3 hf h4
          · exact ag_good1 w a c l hA hn hG hcap n hs v u hv hu hM hgr hlv hlu h1 h2 h3 hf h4
        · exact ag_full w a c l hA hn hG hcap n hs v u hv hu hM hgr hlv hlu (by simp [mayB, h1, h2, h3]) hf
      · exact ag_long2 w a c l hA hn hG hcap n hs v u hv hu hM hgr hlv (by omega)
    · exact ag_long1 w a c l hA hn hG hcap n hs v u hv hu hM hgr (by omega)
  · exact ag_great w a c l hA hn hG hcap n hs v u hv hu hM hgr
end Go.Proofs.Ytgikmippclcimaa
