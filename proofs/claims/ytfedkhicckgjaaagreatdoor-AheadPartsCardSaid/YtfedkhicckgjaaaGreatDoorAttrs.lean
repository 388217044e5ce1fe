/- Attributes: conds.find, conds.Get and the reference's Get; how great attributes are. -/
import Derived.Test.YtfedkhicckgjaaaGreatDoorNames
namespace Go.Proofs.YtfedkhicckgjaaaGreatDoor
open Go.RowKit

/-! ### plain -/
def encV (x : Two) : Value := .agg #[.string ⟨x.name.toArray⟩, .string ⟨x.value.toArray⟩]
def findI (p : Two → Bool) (l : List Two) : Int := match l.findIdx? p with | some i => (i : Int) | none => -1
def getL (l : List Two) (s : Bytes) : Option Bytes := (l.find? fun x => x.name == s).map (·.value)
theorem findI_some {p : Two → Bool} {l : List Two} {k : Nat} (hk : k < l.length) (h1 : p l[k] = true) (h2 : ∀ i (hi : i < k), p (l[i]'(by omega)) = false) : findI p l = (k : Int) := by
  have : l.findIdx? p = some k := List.findIdx?_eq_some_iff_getElem.2 ⟨hk, h1, fun j hj => by simp [h2 j hj]⟩
  simp [findI, this]
theorem findI_none {p : Two → Bool} {l : List Two} (h2 : ∀ i (hi : i < l.length), p l[i] = false) : findI p l = -1 := by
  have : l.findIdx? p = none := by
    rw [List.findIdx?_eq_none_iff]
    intro x hx
    obtain ⟨i, hi, rfl⟩ := List.mem_iff_getElem.1 hx
    exact h2 i hi
  simp [findI, this]
theorem findI_cases (p : Two → Bool) (l : List Two) : (findI p l = -1 ∧ ∀ i (hi : i < l.length), p l[i] = false) ∨ ∃ k, ∃ hk : k < l.length, findI p l = (k : Int) ∧ p l[k] = true ∧ ∀ i (hi : i < k), p (l[i]'(by omega)) = false := by
  cases h : l.findIdx? p with
  | none =>
    left
    rw [List.findIdx?_eq_none_iff] at h
    have h2 : ∀ i (hi : i < l.length), p l[i] = false := fun i hi => h _ (List.getElem_mem hi)
    exact ⟨findI_none h2, h2⟩
  | some k =>
    right
    obtain ⟨hk, h1, h2⟩ := List.findIdx?_eq_some_iff_getElem.1 h
    exact ⟨k, hk, by simp [findI, h], h1, fun i hi => by simpa using h2 i hi⟩
theorem getL_some {l : List Two} {s : Bytes} {k : Nat} (hk : k < l.length) (h1 : (l[k].name == s) = true) (h2 : ∀ i (hi : i < k), ((l[i]'(by omega)).name == s) = false) : getL l s = some l[k].value := by
  have : l.find? (fun x => x.name == s) = some l[k] := by
    rw [List.find?_eq_some_iff_getElem]
    exact ⟨h1, k, hk, rfl, fun j hj => by simp [h2 j hj]⟩
  simp [getL, this]
theorem getL_none {l : List Two} {s : Bytes} (h2 : ∀ i (hi : i < l.length), (l[i].name == s) = false) : getL l s = none := by
  have : l.find? (fun x => x.name == s) = none := by
    rw [List.find?_eq_none]
    intro x hx
    obtain ⟨i, hi, rfl⟩ := List.mem_iff_getElem.1 hx
    simp [h2 i hi]
  simp [getL, this]
/-- what Get answers -/
def getV (l : List Two) (s : Bytes) : Value := match getL l s with
  | some v => .tuple #[.string ⟨v.toArray⟩, .bool true]
  | none => .tuple #[.string ⟨#[]⟩, .bool false]
def sizeA (l : List Two) : Nat := l.length + (l.map fun x => x.name.length + x.value.length).sum

/-- a closure of one captured value, asked about an element -/
def Asks (P : Program) (g : FuncId) (cap : Value) (w : World) (p : Two → Bool) : Prop :=
  ∀ (x : Two) (w' : World), Below w.heap.size w w' → Calls P g #[encV x, cap] w' fun e w'' => e = .returned (.bool (p x)) ∧ Below w'.heap.size w' w''

set_option maxHeartbeats 1000000 in
theorem find_named (cap : Value) (p : Two → Bool) (a : Option Addr) (c : Nat) (l : List Two) (w : World) (hn : l.length ≤ 1048576)
    (hA : At w 2 encT a l) (hg : Asks Tryz.prog 246 cap w p) :
    Calls Tryz.prog 193 #[.slice a l.length c, .func (.func 246) #[] #[cap]] w fun e w' => e = .returned (.int .i64 (findI p l)) ∧ Below w.heap.size w w' := by
  have HG := Lib.hid hg
  have HA := Lib.hid hA
  clear hg hA
  go_enter Tryz.func193, Tryz.ntmps193
  go_wp2
  go_loopw [9] (fun v wr => ∃ k : Nat, k ≤ l.length ∧ v = .int .i64 k ∧ Hid (∀ i (hi : i < k) (hl : i < l.length), p l[i] = false) ∧ Below w.heap.size w wr) (fun v _ => l.length - (intOf v).toNat)
  case atStart => exact ⟨0, by omega, rfl, (fun i hi => absurd hi (by omega)), Below.refl _ _⟩
  case round =>
    obtain ⟨k, hk, rfl, HP, hb⟩ := hrel
    by_cases hlt : k < l.length
    · obtain ⟨b, off, ha, hbl, hc0, hc1⟩ := (HA.out.below hb).two hlt
      subst ha
      cases hp : p l[k]
      · have HP2 := Lib.hid hp
        clear hp
        go_wp2_with (go_at_call 246; refine (HG.out l[k] _ (hb.alloc hb.size _)).mono ?_; rw [HP2.out]; rintro e w2 ⟨rfl, hb2⟩)
        go_roundw
        case rel =>
          refine ⟨k + 1, by omega, by go_num, ?_, (hb.alloc hb.size _).trans (hb2.mono (by have := hb.size; simp; omega))⟩
          intro i hi hl
          rcases Nat.lt_succ_iff_lt_or_eq.1 hi with h | h
          · exact HP.out i h hl
          · subst h; exact HP2.out
        case measure => simp [intOf]; omega
      · have hr : findI p l = (k : Int) := findI_some hlt hp (fun i hi => HP.out i hi (by omega))
        have HR := Lib.hid hr
        have HP2 := Lib.hid hp
        clear hp hr
        go_wp2_with (go_at_call 246; refine (HG.out l[k] _ (hb.alloc hb.size _)).mono ?_; rw [HP2.out]; rintro e w2 ⟨rfl, hb2⟩)
        go_ret
        exact ⟨by rw [HR.out]; rfl, (hb.alloc hb.size _).trans (hb2.mono (by have := hb.size; simp; omega))⟩
    · have hr : findI p l = -1 := findI_none fun i hi => HP.out i (by omega) hi
      have HR := Lib.hid hr
      clear hr
      go_wp2
      go_ret
      exact ⟨by rw [HR.out]; rfl, hb⟩

set_option maxHeartbeats 1000000 in
theorem named_asks (s : Bytes) (nb : Nat) (w : World) (hc : w.cell? ⟨nb, 0, none⟩ = some (.string ⟨s.toArray⟩)) (hn : nb < w.heap.size) :
    Asks Tryz.prog 246 (.pointer (some ⟨nb, 0, none⟩)) w (fun x => x.name == s) := by
  intro x w' hb
  have hc' : w'.cell? ⟨nb, 0, none⟩ = some (.string ⟨s.toArray⟩) := by rw [hb.cell (p := ⟨nb, 0, none⟩) hn]; exact hc
  have hn' : nb < w'.heap.size := Nat.lt_of_lt_of_le hn hb.size
  unfold encV
  clear hb hc
  cases h : (x.name == s)
  all_goals
    go_enter Tryz.func246, Tryz.ntmps246
    have HH := Lib.hid h
    go_wp2
    go_ret
    exact ⟨by simp [HH.out], (Below.refl _ _).alloc (Nat.le_refl _) _⟩

set_option maxHeartbeats 1000000 in
theorem get_any (a : Option Addr) (c : Nat) (l : List Two) (s : Bytes) (w : World) (hn : l.length ≤ 1048576) (hA : At w 2 encT a l) :
    Calls Tryz.prog 175 #[.slice a l.length c, .string ⟨s.toArray⟩] w fun e w' => e = .returned (getV l s) ∧ Below w.heap.size w w' := by
  have HA := Lib.hid hA
  clear hA
  have HF : Hid (∀ w' : World, Below w.heap.size w w' → ∀ nb, w'.cell? ⟨nb, 0, none⟩ = some (.string ⟨s.toArray⟩) → nb < w'.heap.size →
      Calls Tryz.prog 193 #[.slice a l.length c, .func (.func 246) #[] #[.pointer (some ⟨nb, 0, none⟩)]] w' fun e w'' => e = .returned (.int .i64 (findI (fun x => x.name == s) l)) ∧ Below w'.heap.size w' w'') :=
    fun w' hb nb hc hnb => find_named _ _ a c l w' hn (HA.out.below hb) (named_asks s nb w' hc hnb)
  rcases findI_cases (fun x => x.name == s) l with ⟨hf, hall⟩ | ⟨k, hk, hf, hp, hall⟩
  · have hr : getV l s = .tuple #[.string ⟨#[]⟩, .bool false] := by simp [getV, getL_none hall]
    rw [hr]
    have H1 := Lib.hid hf
    clear hr hf hall
    go_enter Tryz.func175, Tryz.ntmps175
    go_wp2_with (first | (go_at_call 193; refine (HF.out _ ((Below.refl _ _).alloc (Nat.le_refl _) _) _ (by simp) (by simp)).mono ?_; rw [H1.out]; rintro e w2 ⟨rfl, hb2⟩) | (go_at_call 222; go_in))
    go_ret2
    exact ⟨rfl, ((Below.refl _ _).alloc (Nat.le_refl _) _).trans (hb2.mono (by simp))⟩
  · have hr : getV l s = .tuple #[.string ⟨l[k].value.toArray⟩, .bool true] := by simp [getV, getL_some hk hp hall]
    rw [hr]
    have H1 := Lib.hid hf
    clear hr hf hall hp
    go_enter Tryz.func175, Tryz.ntmps175
    go_wp2_with (first | (go_at_call 193; refine (HF.out _ ((Below.refl _ _).alloc (Nat.le_refl _) _) _ (by simp) (by simp)).mono ?_; rw [H1.out]; rintro e w2 ⟨rfl, hb2⟩; have hball := ((Below.refl w.heap.size w).alloc (Nat.le_refl _) (.cells #[.string ⟨s.toArray⟩] 9)).trans (hb2.mono (by simp)); obtain ⟨b, off, ha, hbl, hc0, hc1⟩ := (HA.out.below hball).two hk; subst ha) | (go_at_call 222; go_in))
    go_ret2
    exact ⟨rfl, hball⟩

end Go.Proofs.YtfedkhicckgjaaaGreatDoor
