/- How great texts are: binderylaw01.TextsSize. -/
import Derived.Test.YtohinfefidahlaaDoorMem
namespace Go.Proofs.YtohinfefidahlaaDoor
open Go.RowKit

def sumT (l : List Bytes) : Nat := (l.map fun x => x.length).sum
def sizeT (l : List Bytes) : Nat := l.length + sumT l
theorem sizeT_eq (l : List Bytes) : sizeT l = l.length + sumT l := rfl
theorem sumT_take_succ (l : List Bytes) (k : Nat) (h : k < l.length) : sumT (l.take (k + 1)) = sumT (l.take k) + l[k].length := by
  unfold sumT; rw [List.take_succ_eq_append_getElem h, List.map_append, List.sum_append]; simp
theorem sumT_take_le (l : List Bytes) (k : Nat) : sumT (l.take k) ≤ sumT l := by
  unfold sumT
  conv => rhs; rw [← List.take_append_drop k l, List.map_append, List.sum_append]
  omega
theorem sumT_mem {l : List Bytes} {x : Bytes} (h : x ∈ l) : x.length ≤ sumT l := by
  unfold sumT
  induction l with
  | nil => cases h
  | cons y l ih =>
    rw [List.map_cons, List.sum_cons]
    rcases List.mem_cons.1 h with rfl | h
    · omega
    · have := ih h; omega

set_option maxHeartbeats 1000000 in
theorem textsSize_any (a : Option Addr) (c : Nat) (l : List Bytes) (w : World) (hn : l.length ≤ 140737488351232) (hA : At w 1 encS a l)
    (hs : ∀ x ∈ l, x.length ≤ 140737488351232) :
    Calls Tryd.prog 38 #[.slice a l.length c] w fun e w' => (∃ r : Nat, e = .returned (.int .i64 r) ∧ (r = sizeT l ∨ (1048576 < r ∧ 1048576 < sizeT l))) ∧ Below w.heap.size w w' := by
  have HA := Lib.hid hA
  have HS := Lib.hid hs
  clear hA hs
  go_enter Tryd.func38, Tryd.ntmps38
  go_wp2
  go_loopw [3, 4] (fun v3 v4 wr => ∃ k r : Nat, k ≤ l.length ∧ v4 = .int .i64 k ∧ v3 = .int .i64 r ∧ r ≤ 140737488351232 + 140737488351232 + 1048576 ∧ Hid (r = l.length + sumT (l.take k)) ∧ Below w.heap.size w wr) (fun _ v4 _ => l.length - (intOf v4).toNat)
  case atStart => exact ⟨0, l.length, by omega, rfl, rfl, by omega, by simp [Hid, sumT], Below.refl _ _⟩
  case round =>
    obtain ⟨k, r, hk, rfl, rfl, hr, HR, hb⟩ := hrel
    have hle := sumT_take_le l k
    by_cases hlt : k < l.length
    · by_cases hbig : 1048576 < r
      · go_wp2
        go_ret
        exact ⟨⟨r, rfl, .inr ⟨hbig, by rw [sizeT_eq]; have := HR.out; omega⟩⟩, hb⟩
      · obtain ⟨b, off, ha, hbl, hc0⟩ := (HA.out.below hb).str hlt
        subst ha
        have hs0 := HS.out l[k] (List.getElem_mem hlt)
        have hstep := sumT_take_succ l k hlt
        generalize hx0 : l[k] = x0 at *
        have HX := Lib.hid hstep
        clear hstep hx0
        go_wp2_with fail
        have a1 : IntKind.i64.wrap ((r : Int) + (x0.length : Int)) = ((r + x0.length : Nat) : Int) := by rw [IntWalk.i64_in _ (by omega)]; rfl
        try go_quiet (fail)
        go_wp2
        go_roundw
        case rel => exact ⟨k + 1, r + x0.length, by omega, by go_num, by first | rfl | go_num, by omega, by show _ = _; rw [HX.out]; have := HR.out; omega, by first | exact below_drewN hb _ | exact hb⟩
        case measure => simp [intOf]; omega
    · go_wp2
      go_ret
      exact ⟨⟨r, rfl, .inl (by rw [sizeT_eq]; have := HR.out; rwa [List.take_of_length_le (by omega)] at this)⟩, hb⟩
theorem sizeT_mem {l : List Bytes} {x : Bytes} (h : x ∈ l) : x.length + l.length ≤ sizeT l := by
  have := sumT_mem h
  unfold sizeT; omega
end Go.Proofs.YtohinfefidahlaaDoor
