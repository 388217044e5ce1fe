/- The reference's text, and the digest's text read back: program and reference. -/
import Derived.Test.YtmnklljkhabodaaDigT
namespace Go.Proofs.Ytmnklljkhabodaa
open Go.RowKit

theorem hexDig_get (n : Nat) (h : n < 16) : (ByteArray.mk #[48, 49, 50, 51, 52, 53, 54, 55, 56, 57, 97, 98, 99, 100, 101, 102]).extract n (n + 1) = ⟨#[hexDig n]⟩ := by
  match n, h with
  | 0, _ => rfl
  | 1, _ => rfl
  | 2, _ => rfl
  | 3, _ => rfl
  | 4, _ => rfl
  | 5, _ => rfl
  | 6, _ => rfl
  | 7, _ => rfl
  | 8, _ => rfl
  | 9, _ => rfl
  | 10, _ => rfl
  | 11, _ => rfl
  | 12, _ => rfl
  | 13, _ => rfl
  | 14, _ => rfl
  | 15, _ => rfl
  | n + 16, h => omega

set_option maxHeartbeats 400000 in
theorem rtext_any (d : Nat) (w : World) (hd : d < 18446744073709551616) :
    Calls Try.prog 17 #[.int .u64 d] w fun e w' => e = .returned (.string ⟨(lowHex 16 d).toArray⟩) ∧ w = w' := by
  go_enter Try.func17, Try.ntmps17
  go_wp2
  go_loop [0, 3, 4] (fun v0 v3 v4 => ∃ i x : Nat, i ≤ 16 ∧ v4 = .int .i64 i ∧ v0 = .int .u64 x ∧ x < 18446744073709551616 ∧ Hid (x = d / 16 ^ i) ∧ v3 = .string ⟨(lowHex i d).toArray⟩) (fun _ _ v4 => 16 - (intOf v4).toNat)
  case atStart => exact ⟨0, d, by omega, rfl, rfl, hd, by simp [Hid], rfl⟩
  case round =>
    obtain ⟨i, x, hi, rfl, rfl, hx, HX, rfl⟩ := hrel
    by_cases hlt : i < 16
    · have hc1 := hexDig_get (x % 16) (by omega)
      have hl : (lowHex i d).length ≤ 16 := by rw [lowHex_len]; omega
      go_wp2
      go_round
      case rel =>
        have h5 : x / 16 = d / 16 ^ (i + 1) := by rw [HX.out, Nat.pow_succ, Nat.div_div_eq_div_mul]
        refine ⟨i + 1, x / 16, by omega, by go_num, by rfl, by omega, h5, ?_⟩
        have e : lowHex (i + 1) d = hexDig (x % 16) :: lowHex i d := by rw [HX.out]; rfl
        rw [e]; rfl
      case measure => simp [intOf]; omega
    · have hi16 : i = 16 := by omega
      subst hi16
      go_wp2
      go_ret
      exact ⟨rfl, rfl⟩

/-! ### Parse, plain -/
def hexVal (c : UInt8) : Option Nat := if 48 ≤ c.toNat ∧ c.toNat ≤ 57 then some (c.toNat - 48) else if 97 ≤ c.toNat ∧ c.toNat ≤ 102 then some (c.toNat - 87) else none
def pstep (o : Option Nat) (c : UInt8) : Option Nat := o.bind fun d => (hexVal c).map fun v => 16 * d + v
def parseL (l : List UInt8) : Option Nat := l.foldl pstep (some 0)
theorem parseL_snoc (l : List UInt8) (c : UInt8) : parseL (l ++ [c]) = pstep (parseL l) c := foldl_snoc' pstep (some 0) l c
theorem pstep_none (l : List UInt8) : l.foldl pstep none = none := by
  induction l with
  | nil => rfl
  | cons c l ih => exact ih
theorem parseL_append (l m : List UInt8) (h : parseL l = none) : parseL (l ++ m) = none := by
  unfold parseL at *
  rw [foldl_append', h, pstep_none]
def parse (l : List UInt8) : Option Nat := if l.length = 16 then parseL l else none
def parseV (l : List UInt8) : Value := match parse l with
  | some d => .tuple #[.int .u64 (d : Nat), .int .i64 0]
  | none => .tuple #[.int .u64 0, .int .i64 4]
theorem hexVal_lt {c : UInt8} {v : Nat} (h : hexVal c = some v) : v < 16 := by
  unfold hexVal at h
  split at h
  · simp at h; omega
  · split at h
    · simp at h; omega
    · cases h
theorem parseL_none_of (s : ByteArray) (k : Nat) (h : k < s.size) (h2 : hexVal s[k] = none) : parseL s.data.toList = none := by
  have e : s.data.toList = (s.data.toList.take k ++ [s[k]]) ++ s.data.toList.drop (k + 1) := by
    rw [← take_snoc s k h, List.take_append_drop]
  rw [e]
  apply parseL_append
  rw [parseL_snoc, pstep, h2]
  cases parseL (List.take k s.data.toList) <;> rfl
theorem parse_none_len (s : ByteArray) (h : s.size ≠ 16) : parseV s.data.toList = .tuple #[.int .u64 0, .int .i64 4] := by
  have : parse s.data.toList = none := by unfold parse; rw [if_neg]; simpa using h
  simp [parseV, this]
theorem parse_none_at (s : ByteArray) (k : Nat) (h : k < s.size) (h2 : hexVal s[k] = none) : parseV s.data.toList = .tuple #[.int .u64 0, .int .i64 4] := by
  have : parse s.data.toList = none := by
    unfold parse
    split
    · exact parseL_none_of s k h h2
    · rfl
  simp [parseV, this]
theorem parse_some (s : ByteArray) (d : Nat) (h : s.size = 16) (h2 : parseL s.data.toList = some d) : parseV s.data.toList = .tuple #[.int .u64 d, .int .i64 0] := by
  have : parse s.data.toList = some d := by unfold parse; rw [if_pos (by simpa using h), h2]
  simp [parseV, this]

set_option maxHeartbeats 1000000 in
theorem rparse_any (s : ByteArray) (w : World) (hs : s.size ≤ maxLen) :
    Calls Try.prog 15 #[.string s] w fun e w' => e = .returned (parseV s.data.toList) ∧ w = w' := by
  unfold maxLen at hs
  by_cases h16 : s.size = 16
  case neg =>
    rw [parse_none_len s h16]
    have hne : ((s.size : Int) != 16) = true := by rw [bne_iff_ne]; omega
    go_enter Try.func15, Try.ntmps15
    go_wp2
    go_ret2
    exact ⟨rfl, rfl⟩
  case pos =>
    have hne : ((s.size : Int) != 16) = false := by simp; omega
    have H16 := Lib.hid h16
    have h16l : s.size ≤ 16 := by omega
    have h16g : 16 ≤ s.size := by omega
    clear h16
    go_enter Try.func15, Try.ntmps15
    go_wp2
    go_loop [4, 5, 6] (fun v4 v5 _ => ∃ i x : Nat, i ≤ 16 ∧ v5 = .int .i64 i ∧ v4 = .int .u64 x ∧ Hid (parseL (s.data.toList.take i) = some x) ∧ Hid (x < 16 ^ i)) (fun _ v5 _ => 16 - (intOf v5).toNat)
    case atStart => exact ⟨0, 0, by omega, rfl, rfl, rfl, by simp [Hid]⟩
    case round =>
      obtain ⟨i, x, hi, rfl, rfl, HP, HX⟩ := hrel
      by_cases hlt : i < 16
      · have hx16 : x < 1152921504606846976 := by
          have h1 := HX.out
          have h2 : 16 ^ i ≤ 16 ^ 15 := Nat.pow_le_pow_right (by omega) (by omega)
          omega
        have hc : s[i].toNat < 256 := s[i].toNat_lt
        have hin : i < s.size := by omega
        have HL := Lib.hid (parseL_snoc (s.data.toList.take i) s[i])
        have HS := Lib.hid (take_snoc s i hin)
        go_wp2
        · go_round
          case rel =>
            have hv : hexVal s[i] = some (s[i].toNat - 48) := by unfold hexVal; rw [if_pos (by omega)]
            refine ⟨i + 1, 16 * x + (s[i].toNat - 48), by omega, by go_num, by go_num, ?_, ?_⟩
            · show _ = _; rw [HS.out, HL.out, HP.out, pstep, hv]; rfl
            · have := HX.out; show _ < _; rw [Nat.pow_succ]; omega
          case measure => simp [intOf]; omega
        · go_round
          case rel =>
            have hv : hexVal s[i] = some (s[i].toNat - 87) := by unfold hexVal; rw [if_neg (by omega), if_pos (by omega)]
            refine ⟨i + 1, 16 * x + (s[i].toNat - 87), by omega, by go_num, by go_num, ?_, ?_⟩
            · show _ = _; rw [HS.out, HL.out, HP.out, pstep, hv]; rfl
            · have := HX.out; show _ < _; rw [Nat.pow_succ]; omega
          case measure => simp [intOf]; omega
        all_goals
          have hv : hexVal s[i] = none := by unfold hexVal; rw [if_neg (by omega), if_neg (by omega)]
          go_ret2
          refine ⟨?_, rfl⟩
          rw [parse_none_at s i hin hv]; rfl
      · have hi16 : i = 16 := by omega
        subst hi16
        go_wp2
        go_ret2
        refine ⟨?_, rfl⟩
        have hp := HP.out
        rw [List.take_of_length_le (by simp; omega)] at hp
        rw [parse_some s x H16.out hp]; rfl

/-! ### the program's Parse -/
def hexFind : Nat → UInt8 → Int
  | 0, _ => -1
  | k + 1, c => if (hexDig k).toNat = c.toNat then (k : Int) else hexFind k c
theorem hexFind_bd (k : Nat) (c : UInt8) : -1 ≤ hexFind k c ∧ hexFind k c < k := by
  induction k with
  | zero => unfold hexFind; omega
  | succ k ih => unfold hexFind; split <;> omega
theorem hexFind_val (c : UInt8) : hexFind 16 c = match hexVal c with | some v => (v : Int) | none => -1 := by
  have h : ∀ n : Fin 256, hexFind 16 (UInt8.ofNat n) = match hexVal (UInt8.ofNat n) with | some v => (v : Int) | none => -1 := by decide +kernel
  have := h ⟨c.toNat, c.toNat_lt⟩
  simpa using this
theorem run_index_hex (k : Nat) (hk : k < 16) (w : World) : (Instr.index 39 (.agg hexCells) (.int .i64 k)).run Try.prog w = .ok (.int .u8 (hexDig k).toNat) w := by
  match k, hk with
  | 0, _ => exact rfl
  | 1, _ => exact rfl
  | 2, _ => exact rfl
  | 3, _ => exact rfl
  | 4, _ => exact rfl
  | 5, _ => exact rfl
  | 6, _ => exact rfl
  | 7, _ => exact rfl
  | 8, _ => exact rfl
  | 9, _ => exact rfl
  | 10, _ => exact rfl
  | 11, _ => exact rfl
  | 12, _ => exact rfl
  | 13, _ => exact rfl
  | 14, _ => exact rfl
  | 15, _ => exact rfl
  | n + 16, h => omega

theorem or_nibble (x v : Nat) (hx : x < 1152921504606846976) (hv : v < 16) : bits BinOp.or .u64 ((x : Int) * 16) (v : Int) = ((16 * x + v : Nat) : Int) := by
  have h := u64_or_nat (x * 16) v (by omega) (by omega)
  rw [nat_join 4 (x * 16) v (by omega) (by omega)] at h
  rw [show ((x : Int) * 16) = ((x * 16 : Nat) : Int) from by omega, h]
  omega

set_option maxHeartbeats 1000000 in
theorem parse_any (s : ByteArray) (w : World) (hs : s.size ≤ maxLen) :
    Calls Try.prog 14 #[.string s] w fun e w' => e = .returned (parseV s.data.toList) ∧ Below w.heap.size w w' := by
  unfold maxLen at hs
  by_cases h16 : s.size = 16
  case neg =>
    rw [parse_none_len s h16]
    have hne : ((s.size : Int) != 16) = true := by rw [bne_iff_ne]; omega
    go_enter Try.func14, Try.ntmps14
    go_wp2_with fail
    go_ret2
    exact ⟨rfl, Below.refl _ _⟩
  case pos =>
    have hne : ((s.size : Int) != 16) = false := by simp; omega
    have H16 := Lib.hid h16
    have h16l : s.size ≤ 16 := by omega
    have h16g : 16 ≤ s.size := by omega
    clear h16
    go_enter Try.func14, Try.ntmps14
    go_wp2_with fail
    refine (digits_any _).mono ?_
    rintro e w1 ⟨rfl, hb⟩
    go_wp2_with (first | (refine wpList_store_row rfl 39 (.tmp 4) (.tmp 13) rfl w1.heap.size hexCells rfl rfl 39 _ (heap_alloc_new w1 _) (by kernel_rfl) rfl hexCells_one ?_; rw [setRow_alloc]))
    go_loop [5, 6, 7, 8, 9, 16, 19, 20] (fun v5 _ _ _ _ v16 _ _ => ∃ i x : Nat, i ≤ 16 ∧ v16 = .int .i64 i ∧ v5 = .int .u64 x ∧ Hid (parseL (s.data.toList.take i) = some x) ∧ Hid (x < 16 ^ i)) (fun _ _ _ _ _ v16 _ _ => 16 - (intOf v16).toNat)
    case atStart => exact ⟨0, 0, by omega, rfl, rfl, rfl, by simp [Hid]⟩
    case round =>
      obtain ⟨i, x, hi, rfl, rfl, HP, HX⟩ := hrel
      by_cases hlt : i < 16
      · have hx16 : x < 1152921504606846976 := by
          have h1 := HX.out
          have h2 : 16 ^ i ≤ 16 ^ 15 := Nat.pow_le_pow_right (by omega) (by omega)
          omega
        have hc : s[i].toNat < 256 := s[i].toNat_lt
        have hin : i < s.size := by omega
        have HL := Lib.hid (parseL_snoc (s.data.toList.take i) s[i])
        have HS := Lib.hid (take_snoc s i hin)
        go_wp2_with (refine wpList_load_row rfl 39 (.tmp 4) rfl w1.heap.size rfl 39 hexCells (0,0) (.array 16 5) (heap_alloc_new w1 _) Try.underlying39 rfl (by kernel_rfl) ?_)
        go_loop [7, 8, 9, 20] (fun v7 _ _ v20 => ∃ k : Nat, k ≤ 16 ∧ v20 = .int .i64 k ∧ v7 = .int .i64 (hexFind k s[i])) (fun _ _ _ v20 => 16 - (intOf v20).toNat)
        case atStart => exact ⟨0, by omega, rfl, rfl⟩
        case round =>
          obtain ⟨k, hk, rfl, rfl⟩ := hrel
          by_cases hkl : k < 16
          · have hix := run_index_hex k hkl
            have hbd := hexFind_bd k s[i]
            have hdl : (hexDig k).toNat < 256 := (hexDig k).toNat_lt
            by_cases heq : (hexDig k).toNat = s[i].toNat
            · have hb1 : (((hexDig k).toNat : Int) == (s[i].toNat : Int)) = true := by rw [heq]; simp
              have H6 : Hid (hexFind (k + 1) s[i] = (k : Int)) := by show _ = _; unfold hexFind; rw [if_pos heq]
              clear heq
              go_wp2
              go_round
              case rel => exact ⟨k + 1, by omega, by go_num, by rw [H6.out]⟩
              case measure => simp [intOf]; omega
            · have hb1 : (((hexDig k).toNat : Int) == (s[i].toNat : Int)) = false := by simp; omega
              have H6 : Hid (hexFind (k + 1) s[i] = hexFind k s[i]) := by show _ = _; rw [hexFind, if_neg heq]
              clear heq
              go_wp2
              go_round
              case rel => exact ⟨k + 1, by omega, by go_num, by rw [H6.out]⟩
              case measure => simp [intOf]; omega
          · have hk16 : k = 16 := by omega
            subst hk16
            cases hv : hexVal s[i] with
            | none =>
              have h1 : hexFind 16 s[i] = -1 := by rw [hexFind_val, hv]
              have HV := Lib.hid hv
              clear hv
              generalize hexFind 16 s[i] = q at *
              subst h1
              go_wp2
              go_ret2
              refine ⟨?_, hb.alloc (by have := hb.size; omega) _⟩
              rw [parse_none_at s i hin HV.out]; rfl
            | some v =>
              have h1 : hexFind 16 s[i] = v := by rw [hexFind_val, hv]
              have hv16 := hexVal_lt hv
              have HV := Lib.hid hv
              clear hv
              generalize hexFind 16 s[i] = q at *
              subst h1
              have hor := or_nibble x v hx16 hv16
              go_wp2
              go_round
              case rel =>
                refine ⟨i + 1, 16 * x + v, by omega, by go_num, by go_num, ?_, ?_⟩
                · show _ = _; rw [HS.out, HL.out, HP.out, pstep, HV.out]; rfl
                · have := HX.out; show _ < _; rw [Nat.pow_succ]; omega
              case measure => simp [intOf]; omega
      · have hi16 : i = 16 := by omega
        subst hi16
        go_wp2
        go_ret2
        refine ⟨?_, hb.alloc (by have := hb.size; omega) _⟩
        have hp := HP.out
        rw [List.take_of_length_le (by simp; omega)] at hp
        rw [parse_some s x H16.out hp]; rfl

end Go.Proofs.Ytmnklljkhabodaa
