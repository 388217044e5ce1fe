/- Names and values of attributes: letters.Name, conds.valid and what the reference has for them. -/
import Derived.Test.YtfedkhicckgjaaaGreatDoorMem
namespace Go.Proofs.YtfedkhicckgjaaaGreatDoor
open Go.RowKit

/-! ### plain -/
def isLetter (c : UInt8) : Bool := decide ((65 ≤ c.toNat ∧ c.toNat ≤ 90) ∨ (97 ≤ c.toNat ∧ c.toNat ≤ 122))
def isDigit (c : UInt8) : Bool := decide (48 ≤ c.toNat ∧ c.toNat ≤ 57)
def isSign (c : UInt8) : Bool := isLetter c || isDigit c || decide (c.toNat = 45)
def nameB (l : Bytes) : Bool := decide (1 ≤ l.length) && decide (l.length ≤ 60) && isLetter (l.getD 0 0) && l.all isSign
def okByte (c : UInt8) : Bool := decide (32 ≤ c.toNat) && decide (c.toNat ≠ 127)
def validB (l : Bytes) : Bool := decide (l.length ≤ 1024) && l.all okByte

theorem isLetter_true {c : UInt8} (h : (65 ≤ c.toNat ∧ c.toNat ≤ 90) ∨ (97 ≤ c.toNat ∧ c.toNat ≤ 122)) : isLetter c = true := by simpa [isLetter] using h
theorem isLetter_false {c : UInt8} (h : ¬ ((65 ≤ c.toNat ∧ c.toNat ≤ 90) ∨ (97 ≤ c.toNat ∧ c.toNat ≤ 122))) : isLetter c = false := by simpa [isLetter] using h
theorem isDigit_true {c : UInt8} (h : 48 ≤ c.toNat ∧ c.toNat ≤ 57) : isDigit c = true := by simpa [isDigit] using h
theorem isDigit_false {c : UInt8} (h : ¬ (48 ≤ c.toNat ∧ c.toNat ≤ 57)) : isDigit c = false := by
  unfold isDigit; exact decide_eq_false h

set_option maxHeartbeats 400000 in
theorem letter_any (c : UInt8) (w : World) : Calls Tryz.prog 92 #[.int .u8 c.toNat] w fun e w' => e = .returned (.bool (isLetter c)) ∧ w = w' := by
  have hc : c.toNat < 256 := c.toNat_lt
  have h5 : c.toNat < 65 ∨ (65 ≤ c.toNat ∧ c.toNat ≤ 90) ∨ (91 ≤ c.toNat ∧ c.toNat < 97) ∨ (97 ≤ c.toNat ∧ c.toNat ≤ 122) ∨ 123 ≤ c.toNat := by omega
  rcases h5 with h | h | h | h | h
  all_goals
    go_enter Tryz.func92, Tryz.ntmps92
    go_wp2
    go_ret
    refine ⟨?_, rfl⟩
    first
      | (have hh := isLetter_true (c := c) (by omega); rw [hh]; first | rfl | (simp; omega))
      | (have hh := isLetter_false (c := c) (by omega); rw [hh]; first | rfl | (simp; omega))

set_option maxHeartbeats 400000 in
theorem digit_any (c : UInt8) (w : World) : Calls Tryz.prog 93 #[.int .u8 c.toNat] w fun e w' => e = .returned (.bool (isDigit c)) ∧ w = w' := by
  have hc : c.toNat < 256 := c.toNat_lt
  have h5 : c.toNat < 48 ∨ (48 ≤ c.toNat ∧ c.toNat ≤ 57) ∨ 58 ≤ c.toNat := by omega
  rcases h5 with h | h | h
  all_goals
    go_enter Tryz.func93, Tryz.ntmps93
    go_wp2
    go_ret
    refine ⟨?_, rfl⟩
    first
      | (have hh := isDigit_true (c := c) (by omega); rw [hh]; first | rfl | (simp; omega))
      | (have hh := isDigit_false (c := c) (by omega); rw [hh]; first | rfl | (simp; omega))

/-! ### a name -/
theorem all_take_succ (p : UInt8 → Bool) (l : Bytes) (k : Nat) (h : k < l.length) : (l.take (k + 1)).all p = ((l.take k).all p && p l[k]) := by
  rw [List.take_succ_eq_append_getElem h, List.all_append]; simp
theorem all_false_at (p : UInt8 → Bool) (l : Bytes) (k : Nat) (h : k < l.length) (hp : p l[k] = false) : l.all p = false := by
  rw [List.all_eq_false]; exact ⟨l[k], List.getElem_mem h, by simp [hp]⟩

set_option maxHeartbeats 1000000 in
theorem name_any (l : Bytes) (w : World) (hl : l.length ≤ 9223372036854775807) :
    Calls Tryz.prog 30 #[.string ⟨l.toArray⟩] w fun e w' => e = .returned (.bool (nameB l)) ∧ w = w' := by
  by_cases h1 : l.length < 1
  · have hr : nameB l = false := by unfold nameB; rw [decide_eq_false (by omega)]; rfl
    rw [hr]
    go_enter Tryz.func30, Tryz.ntmps30
    go_wp2_with fail
    go_ret
    exact ⟨rfl, rfl⟩
  by_cases h60 : 60 < l.length
  · have hr : nameB l = false := by unfold nameB; rw [decide_eq_false (show ¬ l.length ≤ 60 by omega)]; simp
    rw [hr]
    go_enter Tryz.func30, Tryz.ntmps30
    go_wp2_with fail
    go_ret
    exact ⟨rfl, rfl⟩
  have hpos : 0 < l.length := by omega
  have h0 : l.getD 0 0 = l[0] := by simp [List.getD, hpos]
  cases hlet : isLetter l[0]
  · have hr : nameB l = false := by unfold nameB; rw [h0, hlet]; simp
    rw [hr]
    go_enter Tryz.func30, Tryz.ntmps30
    go_wp2_with (go_at_call 92; refine (letter_any l[0] _).mono ?_; rw [hlet]; rintro e w' ⟨rfl, rfl⟩)
    go_ret
    exact ⟨rfl, rfl⟩
  · have hr : nameB l = l.all isSign := by unfold nameB; rw [h0, hlet, decide_eq_true (show 1 ≤ l.length by omega), decide_eq_true (show l.length ≤ 60 by omega)]; simp
    rw [hr]
    clear hr h0
    go_enter Tryz.func30, Tryz.ntmps30
    go_wp2_with (go_at_call 92; refine (letter_any l[0] _).mono ?_; rw [hlet]; rintro e w' ⟨rfl, rfl⟩)
    go_loop [3, 4, 21] (fun _ _ v => ∃ k : Nat, k ≤ l.length ∧ v = .int .i64 k ∧ Hid ((l.take k).all isSign = true)) (fun _ _ v => l.length - (intOf v).toNat)
    case atStart => exact ⟨0, by omega, rfl, by simp [Hid]⟩
    case round =>
      obtain ⟨k, hk, rfl, HP⟩ := hrel
      by_cases hlt : k < l.length
      · have hcl : l[k].toNat < 256 := l[k].toNat_lt
        have hts := all_take_succ isSign l k hlt
        rw [HP.out, Bool.true_and] at hts
        have HT := Lib.hid hts
        clear hts
        cases hL : isLetter l[k]
        · cases hD : isDigit l[k]
          · by_cases h45 : l[k].toNat = 45
            · have hs : isSign l[k] = true := by simp [isSign, h45]
              have HS := Lib.hid hs
              have hb : ((l[k].toNat : Int) != 45) = false := by rw [h45]; rfl
              clear hs h45
              go_wp2_with (first | (go_at_call 92; refine (letter_any l[k] _).mono ?_; rw [hL]; rintro e w' ⟨rfl, rfl⟩) | (go_at_call 93; refine (digit_any l[k] _).mono ?_; rw [hD]; rintro e w' ⟨rfl, rfl⟩))
              go_round
              case rel => exact ⟨k + 1, by omega, by go_num, by show _ = _; rw [HT.out, HS.out]⟩
              case measure => simp [intOf]; omega
            · have hs : isSign l[k] = false := by simp [isSign, h45, hL, hD]
              have hr := all_false_at isSign l k hlt hs
              have HR := Lib.hid hr
              have hb : ((l[k].toNat : Int) != 45) = true := by rw [bne_iff_ne]; omega
              clear hs h45 hr
              go_wp2_with (first | (go_at_call 92; refine (letter_any l[k] _).mono ?_; rw [hL]; rintro e w' ⟨rfl, rfl⟩) | (go_at_call 93; refine (digit_any l[k] _).mono ?_; rw [hD]; rintro e w' ⟨rfl, rfl⟩))
              go_ret
              exact ⟨by rw [HR.out]; rfl, rfl⟩
          · have hs : isSign l[k] = true := by simp [isSign, hD]
            have HS := Lib.hid hs
            clear hs
            go_wp2_with (first | (go_at_call 92; refine (letter_any l[k] _).mono ?_; rw [hL]; rintro e w' ⟨rfl, rfl⟩) | (go_at_call 93; refine (digit_any l[k] _).mono ?_; rw [hD]; rintro e w' ⟨rfl, rfl⟩))
            go_round
            case rel => exact ⟨k + 1, by omega, by go_num, by show _ = _; rw [HT.out, HS.out]⟩
            case measure => simp [intOf]; omega
        · have hs : isSign l[k] = true := by simp [isSign, hL]
          have HS := Lib.hid hs
          clear hs
          go_wp2_with (go_at_call 92; refine (letter_any l[k] _).mono ?_; rw [hL]; rintro e w' ⟨rfl, rfl⟩)
          go_round
          case rel => exact ⟨k + 1, by omega, by go_num, by show _ = _; rw [HT.out, HS.out]⟩
          case measure => simp [intOf]; omega
      · have hr : l.all isSign = true := by
          have := HP.out
          rwa [List.take_of_length_le (by omega)] at this
        have HR := Lib.hid hr
        clear hr
        go_wp2
        go_ret
        exact ⟨by rw [HR.out]; rfl, rfl⟩

/-! ### a value -/
theorem okByte_cases (c : UInt8) : (okByte c = true ∧ 32 ≤ c.toNat ∧ c.toNat ≠ 127) ∨ (okByte c = false ∧ c.toNat < 32) ∨ (okByte c = false ∧ 32 ≤ c.toNat ∧ c.toNat = 127) := by
  unfold okByte
  by_cases h : 32 ≤ c.toNat
  · by_cases h2 : c.toNat = 127
    · exact .inr (.inr ⟨by simp [h2], h, h2⟩)
    · exact .inl ⟨by simp [h, h2], h, h2⟩
  · exact .inr (.inl ⟨by simp; omega, by omega⟩)

set_option maxHeartbeats 1000000 in
theorem valid_any (l : Bytes) (w : World) (hl : l.length ≤ 9223372036854775807) :
    Calls Tryz.prog 136 #[.string ⟨l.toArray⟩] w fun e w' => e = .returned (.bool (validB l)) ∧ w = w' := by
  by_cases h1 : 1024 < l.length
  · have hr : validB l = false := by unfold validB; rw [decide_eq_false (show ¬ l.length ≤ 1024 by omega)]; rfl
    rw [hr]
    go_enter Tryz.func136, Tryz.ntmps136
    go_wp2
    go_ret
    exact ⟨rfl, rfl⟩
  · have hr : validB l = l.all okByte := by unfold validB; rw [decide_eq_true (show l.length ≤ 1024 by omega)]; rfl
    rw [hr]
    clear hr
    go_enter Tryz.func136, Tryz.ntmps136
    go_wp2
    go_loop [3, 9] (fun _ v => ∃ k : Nat, k ≤ l.length ∧ v = .int .i64 k ∧ Hid ((l.take k).all okByte = true)) (fun _ v => l.length - (intOf v).toNat)
    case atStart => exact ⟨0, by omega, rfl, by simp [Hid]⟩
    case round =>
      obtain ⟨k, hk, rfl, HP⟩ := hrel
      by_cases hlt : k < l.length
      · have hcl : l[k].toNat < 256 := l[k].toNat_lt
        have hts := all_take_succ okByte l k hlt
        rw [HP.out, Bool.true_and] at hts
        have HT := Lib.hid hts
        clear hts
        rcases okByte_cases l[k] with ⟨ho, h32, h127⟩ | ⟨ho, h32⟩ | ⟨ho, h32, h127⟩
        · have HS := Lib.hid ho
          have hb : ((l[k].toNat : Int) == 127) = false := beq_eq_false_iff_ne.2 (by omega)
          clear ho h127
          go_wp2
          go_round
          case rel => exact ⟨k + 1, by omega, by go_num, by show _ = _; rw [HT.out, HS.out]⟩
          case measure => simp [intOf]; omega
        · have hr := all_false_at okByte l k hlt ho
          have HR := Lib.hid hr
          clear ho hr
          go_wp2
          go_ret
          exact ⟨by rw [HR.out]; rfl, rfl⟩
        · have hr := all_false_at okByte l k hlt ho
          have HR := Lib.hid hr
          have hb : ((l[k].toNat : Int) == 127) = true := beq_iff_eq.2 (by omega)
          clear ho hr h127
          go_wp2
          go_ret
          exact ⟨by rw [HR.out]; rfl, rfl⟩
      · have hr : l.all okByte = true := by
          have := HP.out
          rwa [List.take_of_length_le (by omega)] at this
        have HR := Lib.hid hr
        clear hr
        go_wp2
        go_ret
        exact ⟨by rw [HR.out]; rfl, rfl⟩

end Go.Proofs.YtfedkhicckgjaaaGreatDoor
