/- Sources: ahead.Find and the reference's; how great sources are. -/
import Derived.Test.YtfedkhicckgjaaaGreatDoorBaseA
namespace Go.Proofs.YtfedkhicckgjaaaGreatDoor
open Go.RowKit
set_option linter.unusedVariables false

def srcL (l : List Two) (s : Bytes) : Option Bytes := (l.find? fun x => x.name == s).map (·.value)
theorem srcL_some {l : List Two} {s : Bytes} {k : Nat} (hk : k < l.length) (h1 : (l[k].name == s) = true) (h2 : ∀ i (hi : i < k), ((l[i]'(by omega)).name == s) = false) : srcL l s = some l[k].value := by
  have : l.find? (fun x => x.name == s) = some l[k] := by
    rw [List.find?_eq_some_iff_getElem]
    exact ⟨h1, k, hk, rfl, fun j hj => by simp [h2 j hj]⟩
  simp [srcL, this]
theorem srcL_none {l : List Two} {s : Bytes} (h2 : ∀ i (hi : i < l.length), (l[i].name == s) = false) : srcL l s = none := by
  have : l.find? (fun x => x.name == s) = none := by
    rw [List.find?_eq_none]
    intro x hx
    obtain ⟨i, hi, rfl⟩ := List.mem_iff_getElem.1 hx
    simp [h2 i hi]
  simp [srcL, this]
def srcV (l : List Two) (s : Bytes) : Bytes := (srcL l s).getD []
def srcB (l : List Two) (s : Bytes) : Bool := (srcL l s).isSome
theorem srcT_some {l : List Two} {s : Bytes} {k : Nat} (hk : k < l.length) (h1 : (l[k].name == s) = true) (h2 : ∀ i (hi : i < k), ((l[i]'(by omega)).name == s) = false) : srcV l s = l[k].value ∧ srcB l s = true := by
  unfold srcV srcB; rw [srcL_some hk h1 h2]; exact ⟨rfl, rfl⟩
theorem srcT_none {l : List Two} {s : Bytes} (h2 : ∀ i (hi : i < l.length), (l[i].name == s) = false) : srcV l s = [] ∧ srcB l s = false := by
  unfold srcV srcB; rw [srcL_none h2]; exact ⟨rfl, rfl⟩

set_option maxHeartbeats 1000000 in
theorem find_any (a : Option Addr) (c : Nat) (l : List Two) (s : Bytes) (w : World) (hn : l.length ≤ 1048576) (hA : At w 2 encT a l) :
    Calls Tryz.prog 14 #[.slice a l.length c, .string ⟨s.toArray⟩] w fun e w' => e = .returned (.tuple #[.string ⟨(srcV l s).toArray⟩, .bool (srcB l s)]) ∧ Below w.heap.size w w' := by
  have HA := Lib.hid hA
  clear hA
  go_enter Tryz.func14, Tryz.ntmps14
  go_wp2
  go_loopw [10] (fun v wr => ∃ k : Nat, k ≤ l.length ∧ v = .int .i64 k ∧ Hid (∀ i (hi : i < k) (hl : i < l.length), (l[i].name == s) = false) ∧ Below w.heap.size w wr) (fun v _ => l.length - (intOf v).toNat)
  case atStart => exact ⟨0, by omega, rfl, (fun i hi => absurd hi (by omega)), Below.refl _ _⟩
  case round =>
    obtain ⟨k, hk, rfl, HP, hb⟩ := hrel
    by_cases hlt : k < l.length
    · obtain ⟨b, off, ha, hbl, hc0, hc1⟩ := (HA.out.below hb).two hlt
      subst ha
      cases hp : (l[k].name == s)
      · have HP2 := Lib.hid hp
        go_wp2
        go_roundw
        case rel =>
          refine ⟨k + 1, by omega, by go_num, ?_, (hb.alloc hb.size _)⟩
          intro i hi hl
          rcases Nat.lt_succ_iff_lt_or_eq.1 hi with h | h
          · exact HP.out i h hl
          · subst h; exact HP2.out
        case measure => simp [intOf]; omega
      · have hr := srcT_some hlt hp (fun i hi => HP.out i hi (by omega))
        have HR := Lib.hid hr
        clear hr
        go_wp2
        go_ret2
        exact ⟨by rw [HR.out.1, HR.out.2]; rfl, (hb.alloc hb.size _)⟩
    · have hr := srcT_none fun i hi => HP.out i (by omega) hi
      have HR := Lib.hid hr
      clear hr
      go_wp2
      go_ret2
      exact ⟨by rw [HR.out.1, HR.out.2]; rfl, hb⟩

set_option maxHeartbeats 1000000 in
theorem rfind_any (a : Option Addr) (c : Nat) (l : List Two) (s : Bytes) (w : World) (hn : l.length ≤ 1048576) (hA : At w 2 encT a l) :
    Calls Tryz.prog 15 #[.slice a l.length c, .string ⟨s.toArray⟩] w fun e w' => e = .returned (.tuple #[.string ⟨(srcV l s).toArray⟩, .bool (srcB l s)]) ∧ Below w.heap.size w w' := by
  have HA := Lib.hid hA
  clear hA
  go_enter Tryz.func15, Tryz.ntmps15
  go_wp2
  go_loopw [6] (fun v wr => ∃ k : Nat, k ≤ l.length ∧ v = .int .i64 k ∧ Hid (∀ i (hi : i < k) (hl : i < l.length), (l[i].name == s) = false) ∧ Below w.heap.size w wr) (fun v _ => l.length - (intOf v).toNat)
  case atStart => exact ⟨0, by omega, rfl, (fun i hi => absurd hi (by omega)), Below.refl _ _⟩
  case round =>
    obtain ⟨k, hk, rfl, HP, hb⟩ := hrel
    by_cases hlt : k < l.length
    · obtain ⟨b, off, ha, hbl, hc0, hc1⟩ := (HA.out.below hb).two hlt
      subst ha
      cases hp : (l[k].name == s)
      · have HP2 := Lib.hid hp
        go_wp2
        go_roundw
        case rel =>
          refine ⟨k + 1, by omega, by go_num, ?_, hb⟩
          intro i hi hl
          rcases Nat.lt_succ_iff_lt_or_eq.1 hi with h | h
          · exact HP.out i h hl
          · subst h; exact HP2.out
        case measure => simp [intOf]; omega
      · have hr := srcT_some hlt hp (fun i hi => HP.out i hi (by omega))
        have HR := Lib.hid hr
        clear hr
        go_wp2
        go_ret2
        exact ⟨by rw [HR.out.1, HR.out.2]; rfl, hb⟩
    · have hr := srcT_none fun i hi => HP.out i (by omega) hi
      have HR := Lib.hid hr
      clear hr
      go_wp2
      go_ret2
      exact ⟨by rw [HR.out.1, HR.out.2]; rfl, hb⟩

def sumS (l : List Two) : Nat := (l.map fun x => x.name.length + x.value.length).sum
def sizeS (l : List Two) : Nat := l.length + sumS l
theorem sumS_take_succ (l : List Two) (k : Nat) (h : k < l.length) : sumS (l.take (k + 1)) = sumS (l.take k) + (l[k].name.length + l[k].value.length) := by
  unfold sumS; rw [List.take_succ_eq_append_getElem h, List.map_append, List.sum_append]; simp
theorem sumS_take_le (l : List Two) (k : Nat) : sumS (l.take k) ≤ sumS l := by
  unfold sumS
  conv => rhs; rw [← List.take_append_drop k l, List.map_append, List.sum_append]
  omega
theorem sumS_mem {l : List Two} {x : Two} (h : x ∈ l) : x.name.length + x.value.length ≤ sumS l := by
  unfold sumS
  induction l with
  | nil => cases h
  | cons y l ih =>
    rw [List.map_cons, List.sum_cons]
    rcases List.mem_cons.1 h with rfl | h
    · omega
    · have := ih h; omega

set_option maxHeartbeats 1000000 in
theorem sourcesSize_any (a : Option Addr) (c : Nat) (l : List Two) (w : World) (hn : l.length ≤ 140737488351232) (hA : At w 2 encT a l)
    (hs : ∀ x ∈ l, x.name.length ≤ 140737488351232 ∧ x.value.length ≤ 140737488351232) :
    Calls Tryz.prog 11 #[.slice a l.length c] w fun e w' => (∃ r : Nat, e = .returned (.int .i64 r) ∧ (r = sizeS l ∨ (1048576 < r ∧ 1048576 < sizeS l))) ∧ Below w.heap.size w w' := by
  have HA := Lib.hid hA
  have HS := Lib.hid hs
  clear hA hs
  go_enter Tryz.func11, Tryz.ntmps11
  go_wp2
  go_loopw [3, 4] (fun v3 v4 wr => ∃ k r : Nat, k ≤ l.length ∧ v4 = .int .i64 k ∧ v3 = .int .i64 r ∧ r ≤ 281474977758208 + 140737488351232 ∧ Hid (r = l.length + sumS (l.take k)) ∧ Below w.heap.size w wr) (fun _ v4 _ => l.length - (intOf v4).toNat)
  case atStart => exact ⟨0, l.length, by omega, rfl, rfl, by omega, by simp [Hid, sumS], Below.refl _ _⟩
  case round =>
    obtain ⟨k, r, hk, rfl, rfl, hr, HR, hb⟩ := hrel
    have hle := sumS_take_le l k
    by_cases hlt : k < l.length
    · by_cases hbig : 1048576 < r
      · go_wp2
        go_ret
        exact ⟨⟨r, rfl, .inr ⟨hbig, by unfold sizeS; have := HR.out; omega⟩⟩, hb⟩
      · obtain ⟨b, off, ha, hbl, hc0, hc1⟩ := (HA.out.below hb).two hlt
        subst ha
        obtain ⟨hs0, hs1⟩ := HS.out l[k] (List.getElem_mem hlt)
        have hstep := sumS_take_succ l k hlt
        generalize hx0 : l[k].name = x0 at *
        generalize hx1 : l[k].value = x1 at *
        have HX := Lib.hid hstep
        clear hstep hx0 hx1
        go_wp2_with fail
        have a1 : IntKind.i64.wrap ((r : Int) + (x0.length : Int)) = ((r + x0.length : Nat) : Int) := by rw [IntWalk.i64_in _ (by omega)]; rfl
        have a2 : IntKind.i64.wrap (((r + x0.length : Nat) : Int) + (x1.length : Int)) = ((r + x0.length + x1.length : Nat) : Int) := by rw [IntWalk.i64_in _ (by omega)]; rfl
        go_quiet (fail)
        go_wp2
        go_roundw
        case rel => exact ⟨k + 1, r + x0.length + x1.length, by omega, by go_num, by rfl, by omega, by show _ = _; rw [HX.out]; have := HR.out; omega, below_drewN hb _⟩
        case measure => simp [intOf]; omega
    · go_wp2
      go_ret
      exact ⟨⟨r, rfl, .inl (by unfold sizeS; have := HR.out; rwa [List.take_of_length_le (by omega)] at this)⟩, hb⟩
end Go.Proofs.YtfedkhicckgjaaaGreatDoor
