/- Names and values of attributes: letters.Name, conds.valid and what the reference has for them. Attributes: conds.find, conds.Get and the reference's Get; how great attributes are. How great attributes are: binderylaw01.AttrsSize and the laws' early end. May attributes be? conds.Check and the reference's Check. -/
import Derived.Test.YtfedkhicckgjaaaGreatDoorBaseA
namespace Go.Proofs.YtfedkhicckgjaaaGreatDoor
open Go.RowKit

/-! ### plain -/
def isLetter (c : UInt8) : Bool := decide ((65 ≤ c.toNat ∧ c.toNat ≤ 90) ∨ (97 ≤ c.toNat ∧ c.toNat ≤ 122))
def isDigit (c : UInt8) : Bool := decide (48 ≤ c.toNat ∧ c.toNat ≤ 57)
def isSign (c : UInt8) : Bool := isLetter c || isDigit c || decide (c.toNat = 45)
def nameB (l : Bytes) : Bool := decide (1 ≤ l.length) && decide (l.length ≤ 60) && isLetter (l.getD 0 0) && l.all isSign
def okByte (c : UInt8) : Bool := decide (32 ≤ c.toNat) && decide (c.toNat ≠ 127)
def validB (l : Bytes) : Bool := decide (l.length ≤ 1024) && l.all okByte

theorem isLetter_true {c : UInt8} (h : (65 ≤ c.toNat ∧ c.toNat ≤ 90) ∨ (97 ≤ c.toNat ∧ c.toNat ≤ 122)) : isLetter c = true := by simpa [isLetter] using h
theorem isLetter_false {c : UInt8} (h : ¬ ((65 ≤ c.toNat ∧ c.toNat ≤ 90) ∨ (97 ≤ c.toNat ∧ c.toNat ≤ 122))) : isLetter c = false := by simpa [isLetter] using h
theorem isDigit_true {c : UInt8} (h : 48 ≤ c.toNat ∧ c.toNat ≤ 57) : isDigit c = true := by simpa [isDigit] using h
theorem isDigit_false {c : UInt8} (h : ¬ (48 ≤ c.toNat ∧ c.toNat ≤ 57)) : isDigit c = false := by
  unfold isDigit; exact decide_eq_false h

set_option maxHeartbeats 400000 in
theorem letter_any (c : UInt8) (w : World) : Calls Tryz.prog 92 #[.int .u8 c.toNat] w fun e w' => e = .returned (.bool (isLetter c)) ∧ w = w' := by
  have hc : c.toNat < 256 := c.toNat_lt
  have h5 : c.toNat < 65 ∨ (65 ≤ c.toNat ∧ c.toNat ≤ 90) ∨ (91 ≤ c.toNat ∧ c.toNat < 97) ∨ (97 ≤ c.toNat ∧ c.toNat ≤ 122) ∨ 123 ≤ c.toNat := by omega
  rcases h5 with h | h | h | h | h
  all_goals
    go_enter Tryz.func92, Tryz.ntmps92
    go_wp2
    go_ret
    refine ⟨?_, rfl⟩
    first
      | (have hh := isLetter_true (c := c) (by omega); rw [hh]; first | rfl | (simp; omega))
      | (have hh := isLetter_false (c := c) (by omega); rw [hh]; first | rfl | (simp; omega))

set_option maxHeartbeats 400000 in
theorem digit_any (c : UInt8) (w : World) : Calls Tryz.prog 93 #[.int .u8 c.toNat] w fun e w' => e = .returned (.bool (isDigit c)) ∧ w = w' := by
  have hc : c.toNat < 256 := c.toNat_lt
  have h5 : c.toNat < 48 ∨ (48 ≤ c.toNat ∧ c.toNat ≤ 57) ∨ 58 ≤ c.toNat := by omega
  rcases h5 with h | h | h
  all_goals
    go_enter Tryz.func93, Tryz.ntmps93
    go_wp2
    go_ret
    refine ⟨?_, rfl⟩
    first
      | (have hh := isDigit_true (c := c) (by omega); rw [hh]; first | rfl | (simp; omega))
      | (have hh := isDigit_false (c := c) (by omega); rw [hh]; first | rfl | (simp; omega))

/-! ### a name -/
theorem all_take_succ (p : UInt8 → Bool) (l : Bytes) (k : Nat) (h : k < l.length) : (l.take (k + 1)).all p = ((l.take k).all p && p l[k]) := by
  rw [List.take_succ_eq_append_getElem h, List.all_append]; simp
theorem all_false_at (p : UInt8 → Bool) (l : Bytes) (k : Nat) (h : k < l.length) (hp : p l[k] = false) : l.all p = false := by
  rw [List.all_eq_false]; exact ⟨l[k], List.getElem_mem h, by simp [hp]⟩

set_option maxHeartbeats 1000000 in
theorem name_any (l : Bytes) (w : World) (hl : l.length ≤ 9223372036854775807) :
    Calls Tryz.prog 30 #[.string ⟨l.toArray⟩] w fun e w' => e = .returned (.bool (nameB l)) ∧ w = w' := by
  by_cases h1 : l.length < 1
  · have hr : nameB l = false := by unfold nameB; rw [decide_eq_false (by omega)]; rfl
    rw [hr]
    go_enter Tryz.func30, Tryz.ntmps30
    go_wp2_with fail
    go_ret
    exact ⟨rfl, rfl⟩
  by_cases h60 : 60 < l.length
  · have hr : nameB l = false := by unfold nameB; rw [decide_eq_false (show ¬ l.length ≤ 60 by omega)]; simp
    rw [hr]
    go_enter Tryz.func30, Tryz.ntmps30
    go_wp2_with fail
    go_ret
    exact ⟨rfl, rfl⟩
  have hpos : 0 < l.length := by omega
  have h0 : l.getD 0 0 = l[0] := by simp [List.getD, hpos]
  cases hlet : isLetter l[0]
  · have hr : nameB l = false := by unfold nameB; rw [h0, hlet]; simp
    rw [hr]
    go_enter Tryz.func30, Tryz.ntmps30
    go_wp2_with (go_at_call 92; refine (letter_any l[0] _).mono ?_; rw [hlet]; rintro e w' ⟨rfl, rfl⟩)
    go_ret
    exact ⟨rfl, rfl⟩
  · have hr : nameB l = l.all isSign := by unfold nameB; rw [h0, hlet, decide_eq_true (show 1 ≤ l.length by omega), decide_eq_true (show l.length ≤ 60 by omega)]; simp
    rw [hr]
    clear hr h0
    go_enter Tryz.func30, Tryz.ntmps30
    go_wp2_with (go_at_call 92; refine (letter_any l[0] _).mono ?_; rw [hlet]; rintro e w' ⟨rfl, rfl⟩)
    go_loop [3, 4, 21] (fun _ _ v => ∃ k : Nat, k ≤ l.length ∧ v = .int .i64 k ∧ Hid ((l.take k).all isSign = true)) (fun _ _ v => l.length - (intOf v).toNat)
    case atStart => exact ⟨0, by omega, rfl, by simp [Hid]⟩
    case round =>
      obtain ⟨k, hk, rfl, HP⟩ := hrel
      by_cases hlt : k < l.length
      · have hcl : l[k].toNat < 256 := l[k].toNat_lt
        have hts := all_take_succ isSign l k hlt
        rw [HP.out, Bool.true_and] at hts
        have HT := Lib.hid hts
        clear hts
        cases hL : isLetter l[k]
        · cases hD : isDigit l[k]
          · by_cases h45 : l[k].toNat = 45
            · have hs : isSign l[k] = true := by simp [isSign, h45]
              have HS := Lib.hid hs
              have hb : ((l[k].toNat : Int) != 45) = false := by rw [h45]; rfl
              clear hs h45
              go_wp2_with (first | (go_at_call 92; refine (letter_any l[k] _).mono ?_; rw [hL]; rintro e w' ⟨rfl, rfl⟩) | (go_at_call 93; refine (digit_any l[k] _).mono ?_; rw [hD]; rintro e w' ⟨rfl, rfl⟩))
              go_round
              case rel => exact ⟨k + 1, by omega, by go_num, by show _ = _; rw [HT.out, HS.out]⟩
              case measure => simp [intOf]; omega
            · have hs : isSign l[k] = false := by simp [isSign, h45, hL, hD]
              have hr := all_false_at isSign l k hlt hs
              have HR := Lib.hid hr
              have hb : ((l[k].toNat : Int) != 45) = true := by rw [bne_iff_ne]; omega
              clear hs h45 hr
              go_wp2_with (first | (go_at_call 92; refine (letter_any l[k] _).mono ?_; rw [hL]; rintro e w' ⟨rfl, rfl⟩) | (go_at_call 93; refine (digit_any l[k] _).mono ?_; rw [hD]; rintro e w' ⟨rfl, rfl⟩))
              go_ret
              exact ⟨by rw [HR.out]; rfl, rfl⟩
          · have hs : isSign l[k] = true := by simp [isSign, hD]
            have HS := Lib.hid hs
            clear hs
            go_wp2_with (first | (go_at_call 92; refine (letter_any l[k] _).mono ?_; rw [hL]; rintro e w' ⟨rfl, rfl⟩) | (go_at_call 93; refine (digit_any l[k] _).mono ?_; rw [hD]; rintro e w' ⟨rfl, rfl⟩))
            go_round
            case rel => exact ⟨k + 1, by omega, by go_num, by show _ = _; rw [HT.out, HS.out]⟩
            case measure => simp [intOf]; omega
        · have hs : isSign l[k] = true := by simp [isSign, hL]
          have HS := Lib.hid hs
          clear hs
          go_wp2_with (go_at_call 92; refine (letter_any l[k] _).mono ?_; rw [hL]; rintro e w' ⟨rfl, rfl⟩)
          go_round
          case rel => exact ⟨k + 1, by omega, by go_num, by show _ = _; rw [HT.out, HS.out]⟩
          case measure => simp [intOf]; omega
      · have hr : l.all isSign = true := by
          have := HP.out
          rwa [List.take_of_length_le (by omega)] at this
        have HR := Lib.hid hr
        clear hr
        go_wp2
        go_ret
        exact ⟨by rw [HR.out]; rfl, rfl⟩

/-! ### a value -/
theorem okByte_cases (c : UInt8) : (okByte c = true ∧ 32 ≤ c.toNat ∧ c.toNat ≠ 127) ∨ (okByte c = false ∧ c.toNat < 32) ∨ (okByte c = false ∧ 32 ≤ c.toNat ∧ c.toNat = 127) := by
  unfold okByte
  by_cases h : 32 ≤ c.toNat
  · by_cases h2 : c.toNat = 127
    · exact .inr (.inr ⟨by simp [h2], h, h2⟩)
    · exact .inl ⟨by simp [h, h2], h, h2⟩
  · exact .inr (.inl ⟨by simp; omega, by omega⟩)

set_option maxHeartbeats 1000000 in
theorem valid_any (l : Bytes) (w : World) (hl : l.length ≤ 9223372036854775807) :
    Calls Tryz.prog 136 #[.string ⟨l.toArray⟩] w fun e w' => e = .returned (.bool (validB l)) ∧ w = w' := by
  by_cases h1 : 1024 < l.length
  · have hr : validB l = false := by unfold validB; rw [decide_eq_false (show ¬ l.length ≤ 1024 by omega)]; rfl
    rw [hr]
    go_enter Tryz.func136, Tryz.ntmps136
    go_wp2
    go_ret
    exact ⟨rfl, rfl⟩
  · have hr : validB l = l.all okByte := by unfold validB; rw [decide_eq_true (show l.length ≤ 1024 by omega)]; rfl
    rw [hr]
    clear hr
    go_enter Tryz.func136, Tryz.ntmps136
    go_wp2
    go_loop [3, 9] (fun _ v => ∃ k : Nat, k ≤ l.length ∧ v = .int .i64 k ∧ Hid ((l.take k).all okByte = true)) (fun _ v => l.length - (intOf v).toNat)
    case atStart => exact ⟨0, by omega, rfl, by simp [Hid]⟩
    case round =>
      obtain ⟨k, hk, rfl, HP⟩ := hrel
      by_cases hlt : k < l.length
      · have hcl : l[k].toNat < 256 := l[k].toNat_lt
        have hts := all_take_succ okByte l k hlt
        rw [HP.out, Bool.true_and] at hts
        have HT := Lib.hid hts
        clear hts
        rcases okByte_cases l[k] with ⟨ho, h32, h127⟩ | ⟨ho, h32⟩ | ⟨ho, h32, h127⟩
        · have HS := Lib.hid ho
          have hb : ((l[k].toNat : Int) == 127) = false := beq_eq_false_iff_ne.2 (by omega)
          clear ho h127
          go_wp2
          go_round
          case rel => exact ⟨k + 1, by omega, by go_num, by show _ = _; rw [HT.out, HS.out]⟩
          case measure => simp [intOf]; omega
        · have hr := all_false_at okByte l k hlt ho
          have HR := Lib.hid hr
          clear ho hr
          go_wp2
          go_ret
          exact ⟨by rw [HR.out]; rfl, rfl⟩
        · have hr := all_false_at okByte l k hlt ho
          have HR := Lib.hid hr
          have hb : ((l[k].toNat : Int) == 127) = true := beq_iff_eq.2 (by omega)
          clear ho hr h127
          go_wp2
          go_ret
          exact ⟨by rw [HR.out]; rfl, rfl⟩
      · have hr : l.all okByte = true := by
          have := HP.out
          rwa [List.take_of_length_le (by omega)] at this
        have HR := Lib.hid hr
        clear hr
        go_wp2
        go_ret
        exact ⟨by rw [HR.out]; rfl, rfl⟩

end Go.Proofs.YtfedkhicckgjaaaGreatDoor

namespace Go.Proofs.YtfedkhicckgjaaaGreatDoor
open Go.RowKit

/-! ### plain -/
def encV (x : Two) : Value := .agg #[.string ⟨x.name.toArray⟩, .string ⟨x.value.toArray⟩]
def findI (p : Two → Bool) (l : List Two) : Int := match l.findIdx? p with | some i => (i : Int) | none => -1
def getL (l : List Two) (s : Bytes) : Option Bytes := (l.find? fun x => x.name == s).map (·.value)
theorem findI_some {p : Two → Bool} {l : List Two} {k : Nat} (hk : k < l.length) (h1 : p l[k] = true) (h2 : ∀ i (hi : i < k), p (l[i]'(by omega)) = false) : findI p l = (k : Int) := by
  have : l.findIdx? p = some k := List.findIdx?_eq_some_iff_getElem.2 ⟨hk, h1, fun j hj => by simp [h2 j hj]⟩
  simp [findI, this]
theorem findI_none {p : Two → Bool} {l : List Two} (h2 : ∀ i (hi : i < l.length), p l[i] = false) : findI p l = -1 := by
  have : l.findIdx? p = none := by
    rw [List.findIdx?_eq_none_iff]
    intro x hx
    obtain ⟨i, hi, rfl⟩ := List.mem_iff_getElem.1 hx
    exact h2 i hi
  simp [findI, this]
theorem findI_cases (p : Two → Bool) (l : List Two) : (findI p l = -1 ∧ ∀ i (hi : i < l.length), p l[i] = false) ∨ ∃ k, ∃ hk : k < l.length, findI p l = (k : Int) ∧ p l[k] = true ∧ ∀ i (hi : i < k), p (l[i]'(by omega)) = false := by
  cases h : l.findIdx? p with
  | none =>
    left
    rw [List.findIdx?_eq_none_iff] at h
    have h2 : ∀ i (hi : i < l.length), p l[i] = false := fun i hi => h _ (List.getElem_mem hi)
    exact ⟨findI_none h2, h2⟩
  | some k =>
    right
    obtain ⟨hk, h1, h2⟩ := List.findIdx?_eq_some_iff_getElem.1 h
    exact ⟨k, hk, by simp [findI, h], h1, fun i hi => by simpa using h2 i hi⟩
theorem getL_some {l : List Two} {s : Bytes} {k : Nat} (hk : k < l.length) (h1 : (l[k].name == s) = true) (h2 : ∀ i (hi : i < k), ((l[i]'(by omega)).name == s) = false) : getL l s = some l[k].value := by
  have : l.find? (fun x => x.name == s) = some l[k] := by
    rw [List.find?_eq_some_iff_getElem]
    exact ⟨h1, k, hk, rfl, fun j hj => by simp [h2 j hj]⟩
  simp [getL, this]
theorem getL_none {l : List Two} {s : Bytes} (h2 : ∀ i (hi : i < l.length), (l[i].name == s) = false) : getL l s = none := by
  have : l.find? (fun x => x.name == s) = none := by
    rw [List.find?_eq_none]
    intro x hx
    obtain ⟨i, hi, rfl⟩ := List.mem_iff_getElem.1 hx
    simp [h2 i hi]
  simp [getL, this]
/-- what Get answers -/
def getV (l : List Two) (s : Bytes) : Value := match getL l s with
  | some v => .tuple #[.string ⟨v.toArray⟩, .bool true]
  | none => .tuple #[.string ⟨#[]⟩, .bool false]
def sizeA (l : List Two) : Nat := l.length + (l.map fun x => x.name.length + x.value.length).sum

/-- a closure of one captured value, asked about an element -/
def Asks (P : Program) (g : FuncId) (cap : Value) (w : World) (p : Two → Bool) : Prop :=
  ∀ (x : Two) (w' : World), Below w.heap.size w w' → Calls P g #[encV x, cap] w' fun e w'' => e = .returned (.bool (p x)) ∧ Below w'.heap.size w' w''

set_option maxHeartbeats 1000000 in
theorem find_named (cap : Value) (p : Two → Bool) (a : Option Addr) (c : Nat) (l : List Two) (w : World) (hn : l.length ≤ 1048576)
    (hA : At w 2 encT a l) (hg : Asks Tryz.prog 246 cap w p) :
    Calls Tryz.prog 193 #[.slice a l.length c, .func (.func 246) #[] #[cap]] w fun e w' => e = .returned (.int .i64 (findI p l)) ∧ Below w.heap.size w w' := by
  have HG := Lib.hid hg
  have HA := Lib.hid hA
  clear hg hA
  go_enter Tryz.func193, Tryz.ntmps193
  go_wp2
  go_loopw [9] (fun v wr => ∃ k : Nat, k ≤ l.length ∧ v = .int .i64 k ∧ Hid (∀ i (hi : i < k) (hl : i < l.length), p l[i] = false) ∧ Below w.heap.size w wr) (fun v _ => l.length - (intOf v).toNat)
  case atStart => exact ⟨0, by omega, rfl, (fun i hi => absurd hi (by omega)), Below.refl _ _⟩
  case round =>
    obtain ⟨k, hk, rfl, HP, hb⟩ := hrel
    by_cases hlt : k < l.length
    · obtain ⟨b, off, ha, hbl, hc0, hc1⟩ := (HA.out.below hb).two hlt
      subst ha
      cases hp : p l[k]
      · have HP2 := Lib.hid hp
        clear hp
        go_wp2_with (go_at_call 246; refine (HG.out l[k] _ (hb.alloc hb.size _)).mono ?_; rw [HP2.out]; rintro e w2 ⟨rfl, hb2⟩)
        go_roundw
        case rel =>
          refine ⟨k + 1, by omega, by go_num, ?_, (hb.alloc hb.size _).trans (hb2.mono (by have := hb.size; simp; omega))⟩
          intro i hi hl
          rcases Nat.lt_succ_iff_lt_or_eq.1 hi with h | h
          · exact HP.out i h hl
          · subst h; exact HP2.out
        case measure => simp [intOf]; omega
      · have hr : findI p l = (k : Int) := findI_some hlt hp (fun i hi => HP.out i hi (by omega))
        have HR := Lib.hid hr
        have HP2 := Lib.hid hp
        clear hp hr
        go_wp2_with (go_at_call 246; refine (HG.out l[k] _ (hb.alloc hb.size _)).mono ?_; rw [HP2.out]; rintro e w2 ⟨rfl, hb2⟩)
        go_ret
        exact ⟨by rw [HR.out]; rfl, (hb.alloc hb.size _).trans (hb2.mono (by have := hb.size; simp; omega))⟩
    · have hr : findI p l = -1 := findI_none fun i hi => HP.out i (by omega) hi
      have HR := Lib.hid hr
      clear hr
      go_wp2
      go_ret
      exact ⟨by rw [HR.out]; rfl, hb⟩

set_option maxHeartbeats 1000000 in
theorem named_asks (s : Bytes) (nb : Nat) (w : World) (hc : w.cell? ⟨nb, 0, none⟩ = some (.string ⟨s.toArray⟩)) (hn : nb < w.heap.size) :
    Asks Tryz.prog 246 (.pointer (some ⟨nb, 0, none⟩)) w (fun x => x.name == s) := by
  intro x w' hb
  have hc' : w'.cell? ⟨nb, 0, none⟩ = some (.string ⟨s.toArray⟩) := by rw [hb.cell (p := ⟨nb, 0, none⟩) hn]; exact hc
  have hn' : nb < w'.heap.size := Nat.lt_of_lt_of_le hn hb.size
  unfold encV
  clear hb hc
  cases h : (x.name == s)
  all_goals
    go_enter Tryz.func246, Tryz.ntmps246
    have HH := Lib.hid h
    go_wp2
    go_ret
    exact ⟨by simp [HH.out], (Below.refl _ _).alloc (Nat.le_refl _) _⟩

set_option maxHeartbeats 1000000 in
theorem get_any (a : Option Addr) (c : Nat) (l : List Two) (s : Bytes) (w : World) (hn : l.length ≤ 1048576) (hA : At w 2 encT a l) :
    Calls Tryz.prog 175 #[.slice a l.length c, .string ⟨s.toArray⟩] w fun e w' => e = .returned (getV l s) ∧ Below w.heap.size w w' := by
  have HA := Lib.hid hA
  clear hA
  have HF : Hid (∀ w' : World, Below w.heap.size w w' → ∀ nb, w'.cell? ⟨nb, 0, none⟩ = some (.string ⟨s.toArray⟩) → nb < w'.heap.size →
      Calls Tryz.prog 193 #[.slice a l.length c, .func (.func 246) #[] #[.pointer (some ⟨nb, 0, none⟩)]] w' fun e w'' => e = .returned (.int .i64 (findI (fun x => x.name == s) l)) ∧ Below w'.heap.size w' w'') :=
    fun w' hb nb hc hnb => find_named _ _ a c l w' hn (HA.out.below hb) (named_asks s nb w' hc hnb)
  rcases findI_cases (fun x => x.name == s) l with ⟨hf, hall⟩ | ⟨k, hk, hf, hp, hall⟩
  · have hr : getV l s = .tuple #[.string ⟨#[]⟩, .bool false] := by simp [getV, getL_none hall]
    rw [hr]
    have H1 := Lib.hid hf
    clear hr hf hall
    go_enter Tryz.func175, Tryz.ntmps175
    go_wp2_with (first | (go_at_call 193; refine (HF.out _ ((Below.refl _ _).alloc (Nat.le_refl _) _) _ (by simp) (by simp)).mono ?_; rw [H1.out]; rintro e w2 ⟨rfl, hb2⟩) | (go_at_call 222; go_in))
    go_ret2
    exact ⟨rfl, ((Below.refl _ _).alloc (Nat.le_refl _) _).trans (hb2.mono (by simp))⟩
  · have hr : getV l s = .tuple #[.string ⟨l[k].value.toArray⟩, .bool true] := by simp [getV, getL_some hk hp hall]
    rw [hr]
    have H1 := Lib.hid hf
    clear hr hf hall hp
    go_enter Tryz.func175, Tryz.ntmps175
    go_wp2_with (first | (go_at_call 193; refine (HF.out _ ((Below.refl _ _).alloc (Nat.le_refl _) _) _ (by simp) (by simp)).mono ?_; rw [H1.out]; rintro e w2 ⟨rfl, hb2⟩; have hball := ((Below.refl w.heap.size w).alloc (Nat.le_refl _) (.cells #[.string ⟨s.toArray⟩] 9)).trans (hb2.mono (by simp)); obtain ⟨b, off, ha, hbl, hc0, hc1⟩ := (HA.out.below hball).two hk; subst ha) | (go_at_call 222; go_in))
    go_ret2
    exact ⟨rfl, hball⟩

end Go.Proofs.YtfedkhicckgjaaaGreatDoor

namespace Go.Proofs.YtfedkhicckgjaaaGreatDoor
open Go.RowKit

def sumA (l : List Two) : Nat := (l.map fun x => x.name.length + x.value.length).sum
theorem sizeA_eq (l : List Two) : sizeA l = l.length + sumA l := rfl
theorem sumA_take_succ (l : List Two) (k : Nat) (h : k < l.length) : sumA (l.take (k + 1)) = sumA (l.take k) + (l[k].name.length + l[k].value.length) := by
  unfold sumA; rw [List.take_succ_eq_append_getElem h, List.map_append, List.sum_append]; simp
theorem sumA_take_le (l : List Two) (k : Nat) : sumA (l.take k) ≤ sumA l := by
  unfold sumA
  conv => rhs; rw [← List.take_append_drop k l, List.map_append, List.sum_append]
  omega
theorem sumA_mem {l : List Two} {x : Two} (h : x ∈ l) : x.name.length + x.value.length ≤ sumA l := by
  unfold sumA
  induction l with
  | nil => cases h
  | cons y l ih =>
    rw [List.map_cons, List.sum_cons]
    rcases List.mem_cons.1 h with rfl | h
    · omega
    · have := ih h; omega

set_option maxHeartbeats 1000000 in
theorem attrsSize_any (a : Option Addr) (c : Nat) (l : List Two) (w : World) (hn : l.length ≤ 140737488351232) (hA : At w 2 encT a l)
    (hs : ∀ x ∈ l, x.name.length ≤ 140737488351232 ∧ x.value.length ≤ 140737488351232) :
    Calls Tryz.prog 23 #[.slice a l.length c] w fun e w' => (∃ r : Nat, e = .returned (.int .i64 r) ∧ (r = sizeA l ∨ (1048576 < r ∧ 1048576 < sizeA l))) ∧ Below w.heap.size w w' := by
  have HA := Lib.hid hA
  have HS := Lib.hid hs
  clear hA hs
  go_enter Tryz.func23, Tryz.ntmps23
  go_wp2
  go_loopw [3, 4] (fun v3 v4 wr => ∃ k r : Nat, k ≤ l.length ∧ v4 = .int .i64 k ∧ v3 = .int .i64 r ∧ r ≤ 281474977758208 + 140737488351232 ∧ Hid (r = l.length + sumA (l.take k)) ∧ Below w.heap.size w wr) (fun _ v4 _ => l.length - (intOf v4).toNat)
  case atStart => exact ⟨0, l.length, by omega, rfl, rfl, by omega, by simp [Hid, sumA], Below.refl _ _⟩
  case round =>
    obtain ⟨k, r, hk, rfl, rfl, hr, HR, hb⟩ := hrel
    have hle := sumA_take_le l k
    by_cases hlt : k < l.length
    · by_cases hbig : 1048576 < r
      · go_wp2
        go_ret
        exact ⟨⟨r, rfl, .inr ⟨hbig, by rw [sizeA_eq]; have := HR.out; omega⟩⟩, hb⟩
      · obtain ⟨b, off, ha, hbl, hc0, hc1⟩ := (HA.out.below hb).two hlt
        subst ha
        obtain ⟨hs0, hs1⟩ := HS.out l[k] (List.getElem_mem hlt)
        have hstep := sumA_take_succ l k hlt
        generalize hx0 : l[k].name = x0 at *
        generalize hx1 : l[k].value = x1 at *
        have HX := Lib.hid hstep
        clear hstep hx0 hx1
        go_wp2_with fail
        have a1 : IntKind.i64.wrap ((r : Int) + (x0.length : Int)) = ((r + x0.length : Nat) : Int) := by rw [IntWalk.i64_in _ (by omega)]; rfl
        have a2 : IntKind.i64.wrap (((r + x0.length : Nat) : Int) + (x1.length : Int)) = ((r + x0.length + x1.length : Nat) : Int) := by rw [IntWalk.i64_in _ (by omega)]; rfl
        go_quiet (fail)
        go_wp2
        go_roundw
        case rel => exact ⟨k + 1, r + x0.length + x1.length, by omega, by go_num, by rfl, by omega, by show _ = _; rw [HX.out]; have := HR.out; omega, below_drewN hb _⟩
        case measure => simp [intOf]; omega
    · go_wp2
      go_ret
      exact ⟨⟨r, rfl, .inl (by rw [sizeA_eq]; have := HR.out; rwa [List.take_of_length_le (by omega)] at this)⟩, hb⟩

def greatB (l : List Two) (s : Bytes) : Bool := decide (1000 < l.length) || decide (100000 < sizeA l) || decide (100000 < s.length)

theorem greatB_false {l : List Two} {s : Bytes} (h : greatB l s = false) : l.length ≤ 1000 ∧ s.length ≤ 100000 ∧ ∀ x ∈ l, x.name.length + x.value.length ≤ 100000 := by
  unfold greatB at h
  simp at h
  obtain ⟨⟨h1, h2⟩, h3⟩ := h
  refine ⟨h1, h3, fun x hx => ?_⟩
  have := sumA_mem hx
  rw [sizeA_eq] at h2
  omega
end Go.Proofs.YtfedkhicckgjaaaGreatDoor

namespace Go.Proofs.YtfedkhicckgjaaaGreatDoor
open Go.RowKit

/-! ### plain -/
def okAt (l : List Two) (i : Nat) : Bool := match l[i]? with
  | none => true
  | some x => nameB x.name && validB x.value && (match i with
    | 0 => true
    | j + 1 => match l[j]? with
      | none => true
      | some y => Op.bytesLess y.name x.name)
def checkB (l : List Two) : Bool := decide (l.length ≤ 64) && (List.range l.length).all (okAt l)
theorem okAt_zero {l : List Two} (h : 0 < l.length) : okAt l 0 = (nameB l[0].name && validB l[0].value) := by
  simp [okAt, List.getElem?_eq_getElem h]
theorem okAt_succ {l : List Two} {j : Nat} (h : j + 1 < l.length) : okAt l (j + 1) = (nameB l[j + 1].name && validB l[j + 1].value && Op.bytesLess (l[j]'(by omega)).name l[j + 1].name) := by
  have h' : j < l.length := by omega
  simp [okAt, List.getElem?_eq_getElem h, List.getElem?_eq_getElem h']
theorem okAt_name {l : List Two} {k : Nat} (h : k < l.length) (hn : nameB l[k].name = false) : okAt l k = false := by
  simp [okAt, List.getElem?_eq_getElem h, hn]
theorem okAt_value {l : List Two} {k : Nat} (h : k < l.length) (hn : validB l[k].value = false) : okAt l k = false := by
  simp [okAt, List.getElem?_eq_getElem h, hn]
theorem checkB_big {l : List Two} (h : 64 < l.length) : checkB l = false := by
  unfold checkB; rw [decide_eq_false (by omega)]; rfl
theorem checkB_at {l : List Two} {k : Nat} (h : k < l.length) (hn : okAt l k = false) : checkB l = false := by
  unfold checkB
  rw [Bool.and_eq_false_iff]
  right
  rw [List.all_eq_false]
  exact ⟨k, List.mem_range.2 h, by simp [hn]⟩
theorem checkB_all {l : List Two} (h : l.length ≤ 64) (hn : ∀ i, i < l.length → okAt l i = true) : checkB l = true := by
  unfold checkB
  rw [decide_eq_true h, Bool.true_and, List.all_eq_true]
  intro i hi
  exact hn i (List.mem_range.1 hi)

theorem quiet_same {P : Program} {f : FuncId} {args : Array Value} {w : World} {n : Nat} {v : Value}
    (h : Calls P f args (w.drewN n) fun e w' => e = .returned v ∧ w.drewN n = w') : Calls P f args (w.drewN n) fun e w'' => e = .returned v ∧ ∃ m, w'' = w.drewN m :=
  Calls.quiet_of_same (h.mono fun _ _ ⟨he, hm⟩ => ⟨he, hm.symm⟩)

set_option maxHeartbeats 4000000 in
theorem check_any (a : Option Addr) (c : Nat) (l : List Two) (w : World) (hn : l.length ≤ 1048576) (hA : At w 2 encT a l) (hs : ∀ x ∈ l, x.name.length + x.value.length ≤ 9223372036854775807) :
    Calls Tryz.prog 87 #[.slice a l.length c] w fun e w' => e = .returned (.bool (checkB l)) ∧ Below w.heap.size w w' := by
  have HA := Lib.hid hA
  have HS := Lib.hid hs
  clear hA hs
  by_cases h64 : 64 < l.length
  · rw [checkB_big h64]
    go_enter Tryz.func87, Tryz.ntmps87
    go_wp2_with fail
    go_ret
    exact ⟨rfl, Below.refl _ _⟩
  go_enter Tryz.func87, Tryz.ntmps87
  go_wp2_with fail
  go_loopw [10] (fun v wr => ∃ k : Nat, k ≤ l.length ∧ v = .int .i64 k ∧ Hid (∀ i, i < k → okAt l i = true) ∧ Below w.heap.size w wr) (fun v _ => l.length - (intOf v).toNat)
  case atStart => exact ⟨0, by omega, rfl, (fun i hi => absurd hi (by omega)), Below.refl _ _⟩
  case round =>
    obtain ⟨k, hk, rfl, HP, hb⟩ := hrel
    by_cases hlt : k < l.length
    · obtain ⟨b, off, ha, hbl, hc0, hc1⟩ := (HA.out.below hb).two hlt
      have hsz := HS.out l[k] (List.getElem_mem hlt)
      have HN := Lib.hid (fun w => name_any l[k].name w (by omega))
      have HV := Lib.hid (fun w => valid_any l[k].value w (by omega))
      subst ha
      cases hnm : nameB l[k].name
      · have HR := Lib.hid (checkB_at hlt (okAt_name hlt hnm))
        have HNM := Lib.hid hnm
        clear hnm
        go_wp2_with (go_at_call 30; refine (HN.out _).mono ?_; rw [HNM.out]; rintro e w' ⟨rfl, rfl⟩)
        go_ret
        exact ⟨by rw [HR.out]; rfl, hb.alloc hb.size _⟩
      · cases hvl : validB l[k].value
        · have HR := Lib.hid (checkB_at hlt (okAt_value hlt hvl))
          have HNM := Lib.hid hnm
          have HVL := Lib.hid hvl
          clear hnm hvl
          go_wp2_with (first | (go_at_call 30; refine (HN.out _).mono ?_; rw [HNM.out]; rintro e w' ⟨rfl, rfl⟩) | (go_at_call 136; refine (HV.out _).mono ?_; rw [HVL.out]; rintro e w' ⟨rfl, rfl⟩))
          go_ret
          exact ⟨by rw [HR.out]; rfl, hb.alloc hb.size _⟩
        · match k, hk, hlt, hc0, hc1, HN, HV, HP, hsz, hnm, hvl with
          | 0, hk, hlt, hc0, hc1, HN, HV, HP, hsz, hnm, hvl =>
            have hok : okAt l 0 = true := by rw [okAt_zero hlt, hnm, hvl]; rfl
            have HO := Lib.hid hok
            have HNM := Lib.hid hnm
            have HVL := Lib.hid hvl
            clear hnm hvl hok
            have hc0' : wr.cell? ⟨b, off, none⟩ = some (.string ⟨l[0].name.toArray⟩) := by simpa using hc0
            have hc1' : wr.cell? ⟨b, off + 1, none⟩ = some (.string ⟨l[0].value.toArray⟩) := by simpa using hc1
            clear hc0 hc1
            go_wp2_with (first | (go_at_call 30; refine (HN.out _).mono ?_; rw [HNM.out]; rintro e w' ⟨rfl, rfl⟩) | (go_at_call 136; refine (HV.out _).mono ?_; rw [HVL.out]; rintro e w' ⟨rfl, rfl⟩))
            go_quiet (fail)
            go_wp2
            go_roundw
            case rel => exact ⟨1, by omega, by go_num, (fun i hi => by rcases Nat.lt_succ_iff_lt_or_eq.1 hi with h | h; exact HP.out i h; subst h; exact HO.out), below_drewN (hb.alloc hb.size _) _⟩
            case measure => simp [intOf]; omega
          | j + 1, hk, hlt, hc0, hc1, HN, HV, HP, hsz, hnm, hvl =>
            have hj : j < l.length := by omega
            obtain ⟨b', off', ha', hbl', hd0, hd1⟩ := (HA.out.below hb).two hj
            cases ha'
            have hos := okAt_succ hlt
            rw [hnm, hvl, Bool.true_and, Bool.true_and] at hos
            have HNM := Lib.hid hnm
            have HVL := Lib.hid hvl
            clear hnm hvl
            cases hls : Op.bytesLess l[j].name l[j + 1].name
            · rw [hls] at hos
              have HR := Lib.hid (checkB_at hlt hos)
              clear hos
              go_wp2_with (first | (go_at_call 30; refine (HN.out _).mono ?_; rw [HNM.out]; rintro e w' ⟨rfl, rfl⟩) | (go_at_call 136; refine (HV.out _).mono ?_; rw [HVL.out]; rintro e w' ⟨rfl, rfl⟩))
              go_quiet (fail)
              go_wp2
              go_ret
              exact ⟨by rw [HR.out]; rfl, below_drewN (hb.alloc hb.size _) _⟩
            · rw [hls] at hos
              have HO := Lib.hid hos
              clear hos
              go_wp2_with (first | (go_at_call 30; refine (HN.out _).mono ?_; rw [HNM.out]; rintro e w' ⟨rfl, rfl⟩) | (go_at_call 136; refine (HV.out _).mono ?_; rw [HVL.out]; rintro e w' ⟨rfl, rfl⟩))
              go_quiet (fail)
              go_wp2
              go_roundw
              case rel => exact ⟨j + 1 + 1, by omega, by go_num, (fun i hi => by rcases Nat.lt_succ_iff_lt_or_eq.1 hi with h | h; exact HP.out i h; subst h; exact HO.out), below_drewN (hb.alloc hb.size _) _⟩
              case measure => simp [intOf]; omega
    · have HR := Lib.hid (checkB_all (l := l) (by omega) (fun i hi => HP.out i (by omega)))
      go_wp2_with fail
      go_ret
      exact ⟨by rw [HR.out]; rfl, hb⟩

end Go.Proofs.YtfedkhicckgjaaaGreatDoor
