/- How great attributes are: binderylaw01.AttrsSize and the laws' early end. -/
import Derived.Test.YtfedkhicckgjaaaGreatDoorAttrs
namespace Go.Proofs.YtfedkhicckgjaaaGreatDoor
open Go.RowKit

def sumA (l : List Two) : Nat := (l.map fun x => x.name.length + x.value.length).sum
theorem sizeA_eq (l : List Two) : sizeA l = l.length + sumA l := rfl
theorem sumA_take_succ (l : List Two) (k : Nat) (h : k < l.length) : sumA (l.take (k + 1)) = sumA (l.take k) + (l[k].name.length + l[k].value.length) := by
  unfold sumA; rw [List.take_succ_eq_append_getElem h, List.map_append, List.sum_append]; simp
theorem sumA_take_le (l : List Two) (k : Nat) : sumA (l.take k) ≤ sumA l := by
  unfold sumA
  conv => rhs; rw [← List.take_append_drop k l, List.map_append, List.sum_append]
  omega
theorem sumA_mem {l : List Two} {x : Two} (h : x ∈ l) : x.name.length + x.value.length ≤ sumA l := by
  unfold sumA
  induction l with
  | nil => cases h
  | cons y l ih =>
    rw [List.map_cons, List.sum_cons]
    rcases List.mem_cons.1 h with rfl | h
    · omega
    · have := ih h; omega

set_option maxHeartbeats 1000000 in
theorem attrsSize_any (a : Option Addr) (c : Nat) (l : List Two) (w : World) (hn : l.length ≤ 140737488351232) (hA : At w 2 encT a l)
    (hs : ∀ x ∈ l, x.name.length ≤ 140737488351232 ∧ x.value.length ≤ 140737488351232) :
    Calls Tryz.prog 23 #[.slice a l.length c] w fun e w' => (∃ r : Nat, e = .returned (.int .i64 r) ∧ (r = sizeA l ∨ (1048576 < r ∧ 1048576 < sizeA l))) ∧ Below w.heap.size w w' := by
  have HA := Lib.hid hA
  have HS := Lib.hid hs
  clear hA hs
  go_enter Tryz.func23, Tryz.ntmps23
  go_wp2
  go_loopw [3, 4] (fun v3 v4 wr => ∃ k r : Nat, k ≤ l.length ∧ v4 = .int .i64 k ∧ v3 = .int .i64 r ∧ r ≤ 281474977758208 + 140737488351232 ∧ Hid (r = l.length + sumA (l.take k)) ∧ Below w.heap.size w wr) (fun _ v4 _ => l.length - (intOf v4).toNat)
  case atStart => exact ⟨0, l.length, by omega, rfl, rfl, by omega, by simp [Hid, sumA], Below.refl _ _⟩
  case round =>
    obtain ⟨k, r, hk, rfl, rfl, hr, HR, hb⟩ := hrel
    have hle := sumA_take_le l k
    by_cases hlt : k < l.length
    · by_cases hbig : 1048576 < r
      · go_wp2
        go_ret
        exact ⟨⟨r, rfl, .inr ⟨hbig, by rw [sizeA_eq]; have := HR.out; omega⟩⟩, hb⟩
      · obtain ⟨b, off, ha, hbl, hc0, hc1⟩ := (HA.out.below hb).two hlt
        subst ha
        obtain ⟨hs0, hs1⟩ := HS.out l[k] (List.getElem_mem hlt)
        have hstep := sumA_take_succ l k hlt
        generalize hx0 : l[k].name = x0 at *
        generalize hx1 : l[k].value = x1 at *
        have HX := Lib.hid hstep
        clear hstep hx0 hx1
        go_wp2_with fail
        have a1 : IntKind.i64.wrap ((r : Int) + (x0.length : Int)) = ((r + x0.length : Nat) : Int) := by rw [IntWalk.i64_in _ (by omega)]; rfl
        have a2 : IntKind.i64.wrap (((r + x0.length : Nat) : Int) + (x1.length : Int)) = ((r + x0.length + x1.length : Nat) : Int) := by rw [IntWalk.i64_in _ (by omega)]; rfl
        go_quiet (fail)
        go_wp2
        go_roundw
        case rel => exact ⟨k + 1, r + x0.length + x1.length, by omega, by go_num, by rfl, by omega, by show _ = _; rw [HX.out]; have := HR.out; omega, below_drewN hb _⟩
        case measure => simp [intOf]; omega
    · go_wp2
      go_ret
      exact ⟨⟨r, rfl, .inl (by rw [sizeA_eq]; have := HR.out; rwa [List.take_of_length_le (by omega)] at this)⟩, hb⟩

def greatB (l : List Two) (s : Bytes) : Bool := decide (1000 < l.length) || decide (100000 < sizeA l) || decide (100000 < s.length)

theorem greatB_false {l : List Two} {s : Bytes} (h : greatB l s = false) : l.length ≤ 1000 ∧ s.length ≤ 100000 ∧ ∀ x ∈ l, x.name.length + x.value.length ≤ 100000 := by
  unfold greatB at h
  simp at h
  obtain ⟨⟨h1, h2⟩, h3⟩ := h
  refine ⟨h1, h3, fun x hx => ?_⟩
  have := sumA_mem hx
  rw [sizeA_eq] at h2
  omega
end Go.Proofs.YtfedkhicckgjaaaGreatDoor
