/- The digest's laws, walked. -/
import Derived.Test.YtmnklljkhabodaaDigP
namespace Go.Proofs.Ytmnklljkhabodaa
open Go.RowKit

theorem reach_le {n : Nat} (h : n ≤ reachBytes) : n ≤ 140737488351232 := h
theorem reach_max {n : Nat} (h : n ≤ reachBytes) : n ≤ maxLen := by have := reach_le h; unfold maxLen; omega

set_option maxHeartbeats 1000000 in
theorem walk_DigestOf (s : ByteArray) (hs : s.size ≤ reachBytes) (d : Nat) (hd : d < 18446744073709551616) (w : World) :
    Calls Try.prog 3 #[.string s, .int .u64 d] w fun e w' => e = .returned (.bool true) ∧ Below w.heap.size w w' := by
  have h1 := reach_le hs
  have h2 := reach_max hs
  go_enter Try.func3, Try.ntmps3
  go_wp2_with fail
  refine (beyond1 s.size _ _ (by simp) h1).mono ?_
  rintro e w' ⟨rfl, rfl⟩
  cases hb : beyondB s.size
  · go_wp2_with fail
    refine (of_any s _ h2).mono ?_
    rintro e w' ⟨rfl, rfl⟩
    go_wp2_with fail
    refine (rof_any s _ h2).mono ?_
    rintro e w' ⟨rfl, rfl⟩
    go_wp2_with fail
    refine (more_any d s _ h2 hd).mono ?_
    rintro e w' ⟨rfl, rfl⟩
    go_wp2_with fail
    refine (rmore_any d s _ h2 hd).mono ?_
    rintro e w' ⟨rfl, rfl⟩
    go_wp2_with fail
    go_ret
    exact ⟨rfl, (Below.refl _ _).alloc (Nat.le_refl _) _⟩
  · go_wp2_with fail
    go_ret
    exact ⟨rfl, (Below.refl _ _).alloc (Nat.le_refl _) _⟩

theorem parseV_form (l : List UInt8) : ∃ (a : Nat) (e : Int), parseV l = .tuple #[.int .u64 a, .int .i64 e] := by
  unfold parseV
  split
  · exact ⟨_, _, rfl⟩
  · exact ⟨0, 4, rfl⟩

set_option maxHeartbeats 1000000 in
theorem walk_DigestTexts (d : Nat) (hd : d < 18446744073709551616) (s : ByteArray) (hs : s.size ≤ reachBytes) (w : World) :
    Calls Try.prog 4 #[.int .u64 d, .string s] w fun e w' => e = .returned (.bool true) ∧ Below w.heap.size w w' := by
  have h1 := reach_le hs
  have h2 := reach_max hs
  obtain ⟨va, ve, hp⟩ := parseV_form s.data.toList
  have HP := Lib.hid hp
  clear hp
  go_enter Try.func4, Try.ntmps4
  go_wp2_with fail
  refine (beyond1 s.size _ _ (by simp) h1).mono ?_
  rintro e w' ⟨rfl, rfl⟩
  cases hb : beyondB s.size
  · go_wp2_with fail
    refine (parse_any s _ h2).mono ?_
    rintro e w1 ⟨rfl, hb1⟩
    rw [HP.out]
    go_wp2_with fail
    refine (rparse_any s _ h2).mono ?_
    rintro e w' ⟨rfl, rfl⟩
    rw [HP.out]
    go_wp2_with fail
    refine (text_any d _ hd).mono ?_
    rintro e w2 ⟨rfl, hb2⟩
    go_wp2_with fail
    refine (rtext_any d _ hd).mono ?_
    rintro e w' ⟨rfl, rfl⟩
    go_wp2_with fail
    go_ret
    exact ⟨rfl, (((Below.refl _ _).alloc (Nat.le_refl _) _).trans (hb1.mono (by simp))).trans (hb2.mono (by have := hb1.size; simp at this; omega))⟩
  · go_wp2_with fail
    go_ret
    exact ⟨rfl, (Below.refl _ _).alloc (Nat.le_refl _) _⟩

/-! ### the document's fixed answers -/
theorem fnv_empty : fnv basis [] = 14695981039346656037 := by decide
theorem fnv_a : fnv basis [97] = 12638187200555641996 := by decide
theorem fnv_foobar : fnv basis [102, 111, 111, 98, 97, 114] = 9625390261332436968 := by decide
theorem parse_ff : parseV [48, 48, 48, 48, 48, 48, 48, 48, 48, 48, 48, 48, 48, 48, 102, 102] = .tuple #[.int .u64 255, .int .i64 0] := by
  have : parse [48, 48, 48, 48, 48, 48, 48, 48, 48, 48, 48, 48, 48, 48, 102, 102] = some 255 := by decide
  simp [parseV, this]
theorem parse_FF : parseV [48, 48, 48, 48, 48, 48, 48, 48, 48, 48, 48, 48, 48, 48, 70, 70] = .tuple #[.int .u64 0, .int .i64 4] := by
  have : parse [48, 48, 48, 48, 48, 48, 48, 48, 48, 48, 48, 48, 48, 48, 70, 70] = none := by decide
  simp [parseV, this]
theorem text_255 : lowHex 16 255 = [48, 48, 48, 48, 48, 48, 48, 48, 48, 48, 48, 48, 48, 48, 102, 102] := by decide

set_option maxHeartbeats 1000000 in
theorem alive_any (w : World) :
    Calls Try.prog 18 #[] w fun e w' => e = .returned (.bool true) ∧ Below w.heap.size w w' := by
  go_enter Try.func18, Try.ntmps18
  go_wp2_with fail
  refine (parse_any _ _ (by decide)).mono ?_
  rintro e w1 ⟨rfl, hb1⟩
  rw [parse_ff]
  go_wp2_with fail
  refine (parse_any _ _ (by decide)).mono ?_
  rintro e w2 ⟨rfl, hb2⟩
  rw [parse_FF]
  go_wp2_with fail
  refine (text_any 255 _ (by decide)).mono ?_
  rintro e w3 ⟨rfl, hb3⟩
  rw [text_255]
  go_wp2_with fail
  refine (of_any _ _ (by decide)).mono ?_
  rintro e w' ⟨rfl, rfl⟩
  rw [fnv_empty]
  go_wp2_with fail
  refine (of_any _ _ (by decide)).mono ?_
  rintro e w' ⟨rfl, rfl⟩
  rw [fnv_a]
  go_wp2_with fail
  refine (of_any _ _ (by decide)).mono ?_
  rintro e w' ⟨rfl, rfl⟩
  rw [fnv_foobar]
  go_wp2_with fail
  go_ret
  exact ⟨rfl, (hb1.trans (hb2.mono hb1.size)).trans (hb3.mono (Nat.le_trans hb1.size hb2.size))⟩

theorem size_str (a : List UInt8) : (ByteArray.mk a.toArray).size = a.length := by simp [ByteArray.size]

set_option maxHeartbeats 1000000 in
theorem walk_DigestJoins (a : ByteArray) (ha : a.size ≤ reachBytes) (b : ByteArray) (hb : b.size ≤ reachBytes) (d : Nat) (hd : d < 18446744073709551616) (w : World) :
    Calls Try.prog 5 #[.string a, .string b, .int .u64 d] w fun e w' => e = .returned (.bool true) ∧ Below w.heap.size w w' := by
  have a1 := reach_le ha
  have a2 := reach_max ha
  have b1 := reach_le hb
  have b2 := reach_max hb
  go_enter Try.func5, Try.ntmps5
  go_wp2_with fail
  refine (alive_any _).mono ?_
  rintro e w1 ⟨rfl, hb1⟩
  go_wp2_with fail
  refine (beyond2 a.size b.size _ _ (by simp) (by simp) a1 b1).mono ?_
  rintro e w' ⟨rfl, rfl⟩
  cases hbe : beyondB (a.size + b.size)
  · have hle := beyondB_le hbe
    have hab : (a ++ b).size ≤ maxLen := by simp [maxLen]; omega
    have hcat : (a ++ b).data.toList = a.data.toList ++ b.data.toList := by simp
    have HC := Lib.hid hcat
    clear hcat
    go_wp2_with fail
    refine (of_any (a ++ b) _ hab).mono ?_
    rintro e w' ⟨rfl, rfl⟩
    go_wp2_with fail
    refine (of_any a _ a2).mono ?_
    rintro e w' ⟨rfl, rfl⟩
    go_wp2_with fail
    refine (more_any _ b _ b2 (fnv_lt _ _ basis_lt)).mono ?_
    rintro e w' ⟨rfl, rfl⟩
    rw [fnv_append]
    go_wp2_with fail
    refine (more_any d (a ++ b) _ hab hd).mono ?_
    rintro e w' ⟨rfl, rfl⟩
    rw [HC.out, fnv_append]
    go_wp2_with fail
    refine (more_any d a _ a2 hd).mono ?_
    rintro e w' ⟨rfl, rfl⟩
    go_wp2_with fail
    refine (more_any _ b _ b2 (fnv_lt _ _ hd)).mono ?_
    rintro e w' ⟨rfl, rfl⟩
    go_wp2_with fail
    refine (more_any d _ _ (by decide) hd).mono ?_
    rintro e w' ⟨rfl, rfl⟩
    rw [fnv_nil]
    go_wp2_with fail
    go_ret
    exact ⟨rfl, hb1.alloc hb1.size _⟩
  · go_wp2_with fail
    refine (alive_any _).mono ?_
    rintro e w2 ⟨rfl, hb2⟩
    go_wp2_with fail
    go_ret
    exact ⟨rfl, (hb1.alloc hb1.size _).trans (hb2.mono (by have := hb1.size; simp; omega))⟩

/-! ### one byte that is changed -/
theorem cancel_mul (M P Q x y : Nat) (hPQ : P * Q % M = 1) (hx : x < M) (hy : y < M) (h : x * P % M = y * P % M) : x = y := by
  have e : ∀ z, z < M → (z * P % M) * Q % M = z := by
    intro z hz
    rw [Nat.mod_mul_mod, Nat.mul_assoc, Nat.mul_mod, hPQ, Nat.mul_one, Nat.mod_mod, Nat.mod_eq_of_lt hz]
  rw [← e x hx, ← e y hy, h]
theorem xor_lt64 (d c : Nat) (hd : d < 18446744073709551616) (hc : c < 18446744073709551616) : d ^^^ c < 18446744073709551616 := by
  have := Nat.xor_lt_two_pow (n := 64) (by simpa using hd) (by simpa using hc)
  simpa using this
theorem byte_lt64 (c : UInt8) : c.toNat < 18446744073709551616 := by have := c.toNat_lt; omega
theorem xor_cancel_r (a b c : Nat) (h : a ^^^ c = b ^^^ c) : a = b := by
  have := congrArg (· ^^^ c) h
  simpa [Nat.xor_assoc] using this
theorem xor_cancel_l (a b c : Nat) (h : c ^^^ a = c ^^^ b) : a = b := by
  have := congrArg (c ^^^ ·) h
  simpa [← Nat.xor_assoc] using this
theorem fnv1_def (d : Nat) (c : UInt8) : fnv1 d c = (d ^^^ c.toNat) * 1099511628211 % 18446744073709551616 := rfl
theorem fnv1_inj (d d' : Nat) (c : UInt8) (hd : d < 18446744073709551616) (hd' : d' < 18446744073709551616) (h : fnv1 d c = fnv1 d' c) : d = d' := by
  rw [fnv1_def, fnv1_def] at h
  have h2 := cancel_mul _ 1099511628211 14886173955864302971 _ _ (by decide) (xor_lt64 _ _ hd (byte_lt64 c)) (xor_lt64 _ _ hd' (byte_lt64 c)) h
  exact xor_cancel_r _ _ _ h2
theorem fnv1_byte (d : Nat) (c c' : UInt8) (hd : d < 18446744073709551616) (h : fnv1 d c = fnv1 d c') : c = c' := by
  rw [fnv1_def, fnv1_def] at h
  have h2 := cancel_mul _ 1099511628211 14886173955864302971 _ _ (by decide) (xor_lt64 _ _ hd (byte_lt64 c)) (xor_lt64 _ _ hd (byte_lt64 c')) h
  exact UInt8.toNat_inj.1 (xor_cancel_l _ _ _ h2)
theorem fnv_inj (l : List UInt8) : ∀ d d', d < 18446744073709551616 → d' < 18446744073709551616 → fnv d l = fnv d' l → d = d' := by
  induction l with
  | nil => intro d d' _ _ h; rwa [fnv_nil, fnv_nil] at h
  | cons c l ih =>
    intro d d' hd hd' h
    rw [fnv_cons, fnv_cons] at h
    exact fnv1_inj d d' c hd hd' (ih _ _ (fnv1_lt _ _) (fnv1_lt _ _) h)
theorem fnv_spoil (d : Nat) (l m : List UInt8) (c c' : UInt8) (hd : d < 18446744073709551616) (h : c ≠ c') : fnv d (l ++ c :: m) ≠ fnv d (l ++ c' :: m) := by
  intro e
  rw [fnv_append, fnv_append, fnv_cons, fnv_cons] at e
  exact h (fnv1_byte _ c c' (fnv_lt _ _ hd) (fnv_inj m _ _ (fnv1_lt _ _) (fnv1_lt _ _) e))

set_option maxHeartbeats 1000000 in
theorem walk_DigestSpoils (s : ByteArray) (hs : s.size ≤ reachBytes) (b : Nat) (hb : b < 256) (k : Nat) (hk : k < 65536) (w : World) :
    Calls Try.prog 6 #[.string s, .int .u8 b, .int .u16 k] w fun e w' => e = .returned (.bool true) ∧ Below w.heap.size w w' := by
  have h1 := reach_le hs
  have h2 := reach_max hs
  go_enter Try.func6, Try.ntmps6
  go_wp2_with fail
  refine (alive_any _).mono ?_
  rintro e w1 ⟨rfl, hb1⟩
  go_wp2_with fail
  refine (beyond1 s.size _ _ (by simp) h1).mono ?_
  rintro e w' ⟨rfl, rfl⟩
  cases hbe : beyondB s.size
  · by_cases hne : s.size = 0
    · have e1 : s.toList.isEmpty = true := by
        rw [ByteArray.toList_eq]
        cases h : s.data.toList with
        | nil => rfl
        | cons a l => exact absurd (show s.data.size = 0 from hne) (by rw [← Array.length_toList, h]; simp)
      have e2 : s.toList = [] := by simpa using e1
      go_wp2_with fail
      refine (alive_any _).mono ?_
      rintro e w2 ⟨rfl, hb2⟩
      go_wp2_with fail
      go_ret
      exact ⟨rfl, (hb1.alloc hb1.size _).trans (hb2.mono (by have := hb1.size; simp; omega))⟩
    · have e1 : s.toList.isEmpty = false := by
        rw [ByteArray.toList_eq]
        cases h : s.data.toList with
        | nil => exact absurd (show s.data.size = 0 by rw [← Array.length_toList, h]; rfl) hne
        | cons a l => rfl
      by_cases hb0 : b = 0
      · subst hb0
        go_wp2_with fail
        refine (alive_any _).mono ?_
        rintro e w2 ⟨rfl, hb2⟩
        go_wp2_with fail
        go_ret
        exact ⟨rfl, (hb1.alloc hb1.size _).trans (hb2.mono (by have := hb1.size; simp; omega))⟩
      · have e2 : ((b : Int) == 0) = false := beq_eq_false_iff_ne.2 (by omega)
        have hpos : 0 < s.size := by omega
        have hkm : k % s.size < s.size := Nat.mod_lt _ hpos
        obtain ⟨i, hi⟩ : ∃ i, i = k % s.size := ⟨_, rfl⟩
        have hmod : (k : Int) % (s.size : Int) = (i : Int) := by rw [hi]; rfl
        have his : i < s.size := by rw [hi]; exact hkm
        clear hkm hi
        have hbs : s[i].toNat < 256 := s[i].toNat_lt
        have hxo : bits BinOp.xor .u8 (s[i].toNat : Int) (b : Int) = ((s[i].toNat ^^^ b : Nat) : Int) := u8_xor_nat _ _ (by omega) hb
        have hx256 : s[i].toNat ^^^ b < 256 := by
          have := Nat.xor_lt_two_pow (x := s[i].toNat) (y := b) (n := 8) (by simpa using hbs) (by simpa using hb)
          simpa using this
        obtain ⟨x, hxx⟩ : ∃ x : UInt8, x.toNat = s[i].toNat ^^^ b := ⟨UInt8.ofNat (s[i].toNat ^^^ b), by rw [UInt8.toNat_ofNat']; exact Nat.mod_eq_of_lt (by simpa using hx256)⟩
        have hxne : x ≠ s[i] := by
          intro e
          rw [e] at hxx
          have h3 : s[i].toNat ^^^ b = s[i].toNat ^^^ 0 := by rw [← hxx]; simp
          exact hb0 (xor_cancel_l _ _ _ h3)
        rw [← hxx] at hxo
        have HX := Lib.hid hxx
        have hspl : s.data.toList = s.data.toList.take i ++ s[i] :: s.data.toList.drop (i + 1) := by
          have h3 := take_snoc s i his
          have h4 := List.take_append_drop (i + 1) s.data.toList
          rw [h3, List.append_assoc] at h4
          exact h4.symm
        have hset : (s.data.toList.set i x) = s.data.toList.take i ++ x :: s.data.toList.drop (i + 1) := by
          rw [List.set_eq_take_append_cons_drop, if_pos (by simpa using his)]
        have hneq : fnv basis (s.data.toList.set i x) ≠ fnv basis s.data.toList := by
          rw [hset]
          conv => rhs; rw [hspl]
          exact fnv_spoil _ _ _ _ _ basis_lt hxne
        clear hxx hx256 hspl hset hxne
        obtain ⟨l', hl'⟩ : ∃ l', l' = s.data.toList.set i x := ⟨_, rfl⟩
        have hlen : l'.length = s.size := by rw [hl']; simp
        rw [← hl'] at hneq
        have HL := Lib.hid hl'
        clear hl'
        have hne2 : ((fnv basis l' : Int) != (fnv basis s.data.toList : Int)) = true := by rw [bne_iff_ne]; omega
        clear hneq
        go_wp2_with (refine wpList_bytes_of rfl (.tmp 26) 9 35 5 rfl s rfl Try.underlying9 Try.underlying35 Try.underlying5 ?_; intro w2 cap rest' hB hz hblk hcap; rw [World.size_alloc] at hB hz hblk; have hc2 : w2.cell? ⟨w1.heap.size + 1, i, none⟩ = some (.int .u8 s[i].toNat) := (by rw [hblk.cell, List.getElem?_append_left (by simpa using his), List.getElem?_map]; simp [his]; rfl); have hf2 : w2.frozen? ⟨w1.heap.size + 1, i, none⟩ = false := hblk.free (by simp; omega); have hbl2 := hblk.set i (.int .u8 x.toNat); have hcv : (convert 35 9 (.slice (some ⟨w1.heap.size + 1, 0, none⟩) s.size cap)).run Try.prog (w2.setCell ⟨w1.heap.size + 1, i, none⟩ (.int .u8 x.toNat)) = .ok (.string ⟨l'.toArray⟩) (w2.setCell ⟨w1.heap.size + 1, i, none⟩ (.int .u8 x.toNat)) := (by
          refine run_bytes_str _ _ _ 5 Try.underlying35 Try.underlying5 Try.underlying9 _ 0 s.size cap l' hlen ?_
          intro j hj
          rw [Nat.zero_add, hbl2.cell, List.set_append_left _ _ (by simpa using his), List.getElem?_append_left (by simpa using hj), List.getElem?_set, HL.out]
          by_cases hji : i = j
          · subst hji; simp [his, List.getD]
          · simp [hji, List.getD, hj]))
        refine (of_any ⟨l'.toArray⟩ _ (by rw [size_str, hlen]; exact h2)).mono ?_
        rintro e w' ⟨rfl, rfl⟩
        go_wp2_with fail
        refine (of_any s _ h2).mono ?_
        rintro e w' ⟨rfl, rfl⟩
        go_wp2_with fail
        go_ret
        exact ⟨rfl, (((hb1.alloc hb1.size _).trans (hB.mono (by have := hb1.size; omega))).setCell (by have := hb1.size; simp; omega) _)⟩
  · go_wp2_with fail
    refine (alive_any _).mono ?_
    rintro e w2 ⟨rfl, hb2⟩
    go_wp2_with fail
    go_ret
    exact ⟨rfl, (hb1.alloc hb1.size _).trans (hb2.mono (by have := hb1.size; simp; omega))⟩

/-! ### a number's text, and back -/
theorem hexVal_dig (n : Nat) (h : n < 16) : hexVal (hexDig n) = some n := by
  have : ∀ n : Fin 16, hexVal (hexDig n) = some n.val := by decide
  exact this ⟨n, h⟩
theorem parseL_snoc' (l : List UInt8) (c : UInt8) : parseL (l ++ [c]) = pstep (parseL l) c := foldl_snoc' pstep (some 0) l c
theorem parse_fold (i d : Nat) : ∀ x, (lowHex i d).foldl pstep (some x) = some (16 ^ i * x + d % 16 ^ i) := by
  induction i with
  | zero => intro x; simp [lowHex, Nat.mod_one]
  | succ i ih =>
    intro x
    have h16 : d / 16 ^ i % 16 < 16 := Nat.mod_lt _ (by omega)
    have e : pstep (some x) (hexDig (d / 16 ^ i % 16)) = some (16 * x + d / 16 ^ i % 16) := by simp [pstep, hexVal_dig _ h16]
    show (lowHex i d).foldl pstep (pstep (some x) (hexDig (d / 16 ^ i % 16))) = _
    rw [e, ih]
    congr 1
    have h2 : d % 16 ^ (i + 1) = d % 16 ^ i + 16 ^ i * (d / 16 ^ i % 16) := by rw [Nat.pow_succ]; exact Nat.mod_mul
    rw [h2, Nat.pow_succ, Nat.mul_add, Nat.mul_assoc, Nat.add_assoc]
    omega
theorem parse_text (d : Nat) (hd : d < 18446744073709551616) : parseV (lowHex 16 d) = .tuple #[.int .u64 d, .int .i64 0] := by
  have e := parse_fold 16 d 0
  have h1 : d % 16 ^ 16 = d := Nat.mod_eq_of_lt (by simpa using hd)
  rw [h1, Nat.mul_zero, Nat.zero_add] at e
  have : parse (lowHex 16 d) = some d := by unfold parse; rw [if_pos (lowHex_len _ _)]; exact e
  simp [parseV, this]
/-- a text that is read is the number's -/
theorem hexDig_val {c : UInt8} {v : Nat} (h : hexVal c = some v) : hexDig v = c := by
  have : ∀ n : Fin 256, ∀ v, hexVal (UInt8.ofNat n) = some v → hexDig v = UInt8.ofNat n := by
    intro n v hv
    have h2 : ∀ n : Fin 256, (match hexVal (UInt8.ofNat n) with | some v => hexDig v == UInt8.ofNat n | none => true) = true := by decide +kernel
    have h3 := h2 n
    rw [hv] at h3
    simpa using h3
  have h4 := this ⟨c.toNat, c.toNat_lt⟩ v (by simpa using h)
  simpa using h4
theorem parse_back (l : List UInt8) : ∀ d, parseL l = some d → d < 16 ^ l.length ∧ lowHex l.length d = l := by
  suffices H : ∀ (l : List UInt8) (x d : Nat), l.foldl pstep (some x) = some d → ∃ y, d = 16 ^ l.length * x + y ∧ y < 16 ^ l.length ∧ lowHex l.length y = l by
    intro d h
    obtain ⟨y, h1, h2, h3⟩ := H l 0 d h
    rw [Nat.mul_zero, Nat.zero_add] at h1
    subst h1
    exact ⟨h2, h3⟩
  intro l
  induction l with
  | nil => intro x d h; simp at h; exact ⟨0, by simp [h], by simp, rfl⟩
  | cons c l ih =>
    intro x d h
    rw [List.foldl_cons] at h
    cases hv : hexVal c with
    | none =>
      have : pstep (some x) c = none := by simp [pstep, hv]
      rw [this, pstep_none] at h
      cases h
    | some v =>
      have e : pstep (some x) c = some (16 * x + v) := by simp [pstep, hv]
      rw [e] at h
      obtain ⟨y, h1, h2, h3⟩ := ih _ _ h
      have hv16 := hexVal_lt hv
      have hlow : ∀ (i : Nat) (a b : Nat), i ≤ l.length → b < 16 ^ l.length → lowHex i (16 ^ l.length * a + b) = lowHex i b := by
        intro i a b
        induction i with
        | zero => intro _ _; rfl
        | succ i ihi =>
          intro hi hb
          have e2 : (16 ^ l.length * a + b) / 16 ^ i % 16 = b / 16 ^ i % 16 := by
            obtain ⟨j, hj⟩ : ∃ j, l.length = i + 1 + j := ⟨l.length - (i + 1), by omega⟩
            have e3 : 16 ^ l.length * a = 16 ^ i * (16 * (16 ^ j * a)) := by
              rw [hj, Nat.pow_add, Nat.pow_succ]; simp [Nat.mul_assoc]
            rw [e3, Nat.mul_add_div (Nat.pow_pos (by omega)), Nat.mul_add_mod]
          rw [lowHex, lowHex, e2, ihi (by omega) hb]
      refine ⟨16 ^ l.length * v + y, ?_, ?_, ?_⟩
      · rw [h1, List.length_cons, Nat.pow_succ, Nat.mul_add, Nat.mul_assoc, Nat.add_assoc]
      · rw [List.length_cons, Nat.pow_succ]
        have : 16 ^ l.length * v + y < 16 ^ l.length * v + 16 ^ l.length := by omega
        have h5 : 16 ^ l.length * v + 16 ^ l.length ≤ 16 ^ l.length * 16 := by
          rw [← Nat.mul_succ]; exact Nat.mul_le_mul_left _ hv16
        omega
      · rw [List.length_cons, lowHex, hlow _ _ _ (Nat.le_refl _) h2, h3]
        congr 1
        rw [Nat.mul_add_div (Nat.pow_pos (by omega)), Nat.div_eq_of_lt h2, Nat.add_zero, Nat.mod_eq_of_lt hv16]
        exact hexDig_val hv
theorem parseV_cases (l : List UInt8) : (∃ d, d < 18446744073709551616 ∧ parseV l = .tuple #[.int .u64 (d : Nat), .int .i64 0] ∧ lowHex 16 d = l) ∨ parseV l = .tuple #[.int .u64 0, .int .i64 4] := by
  unfold parseV parse
  by_cases h : l.length = 16
  · rw [if_pos h]
    cases hp : parseL l with
    | none => exact .inr rfl
    | some d =>
      obtain ⟨h1, h2⟩ := parse_back l d hp
      rw [h] at h1 h2
      exact .inl ⟨d, by simpa using h1, rfl, h2⟩
  · rw [if_neg h]; exact .inr rfl

set_option maxHeartbeats 2000000 in
theorem walk_DigestBack (d : Nat) (hd : d < 18446744073709551616) (s : ByteArray) (hs : s.size ≤ reachBytes) (w : World) :
    Calls Try.prog 7 #[.int .u64 d, .string s] w fun e w' => e = .returned (.bool true) ∧ Below w.heap.size w w' := by
  have h1 := reach_le hs
  have h2 := reach_max hs
  have htl : (lowHex 16 d).length = 16 := lowHex_len _ _
  have HT := Lib.hid htl
  clear htl
  go_enter Try.func7, Try.ntmps7
  go_wp2_with fail
  refine (alive_any _).mono ?_
  rintro e w1 ⟨rfl, hb1⟩
  go_wp2_with fail
  refine (beyond1 s.size _ _ (by simp) h1).mono ?_
  rintro e w' ⟨rfl, rfl⟩
  cases hbe : beyondB s.size
  · go_wp2_with fail
    refine (text_any d _ hd).mono ?_
    rintro e w2 ⟨rfl, hb2⟩
    go_wp2_with fail
    refine (parse_any _ _ (by rw [size_str, HT.out]; decide)).mono ?_
    rintro e w3 ⟨rfl, hb3⟩
    rw [parse_text d hd]
    go_wp2_with fail
    refine (parse_any s _ h2).mono ?_
    rintro e w4 ⟨rfl, hb4⟩
    have hlast : Below w.heap.size w w4 := ((((hb1.alloc hb1.size _).trans (hb2.mono (by have := hb1.size; simp; omega))).trans (hb3.mono (by have := hb1.size; have := hb2.size; simp at this; omega)))).trans (hb4.mono (by have := hb1.size; have := hb2.size; have := hb3.size; simp at *; omega))
    have HB := Lib.hid hlast
    clear hlast
    have hl16 : (((lowHex 16 d).length : Int) == 16) = true := by rw [HT.out]; rfl
    rcases parseV_cases s.data.toList with ⟨m, hm, hp, hlow⟩ | hp
    · have HLow := Lib.hid hlow
      rw [hp]
      clear hp hlow
      have hse : (lowHex 16 m == s.toList) = true := by
        rw [ByteArray.toList_eq, HLow.out]; simp
      go_wp2_with fail
      refine (text_any m _ hm).mono ?_
      rintro e w5 ⟨rfl, hb5⟩
      go_wp2_with fail
      go_ret
      exact ⟨rfl, HB.out.trans (hb5.mono HB.out.size)⟩
    · rw [hp]
      clear hp
      go_wp2_with fail
      go_ret
      exact ⟨rfl, HB.out⟩
  · go_wp2_with fail
    refine (alive_any _).mono ?_
    rintro e w2 ⟨rfl, hb2⟩
    go_wp2_with fail
    go_ret
    exact ⟨rfl, (hb1.alloc hb1.size _).trans (hb2.mono (by have := hb1.size; simp; omega))⟩

/-! ### odd or even -/
theorem fnv1_odd (d : Nat) (c : UInt8) : fnv1 d c % 2 = (d ^^^ c.toNat) % 2 := by
  have h : ∀ x M P : Nat, M % 2 = 0 → P % 2 = 1 → x * P % M % 2 = x % 2 := by
    intro x M P hM hP
    rw [Nat.mod_mod_of_dvd _ (Nat.dvd_of_mod_eq_zero hM), Nat.mul_mod, hP, Nat.mul_one, Nat.mod_mod]
  rw [fnv1_def]
  exact h _ _ _ (by decide) (by decide)
theorem xor_mod2 (d c : Nat) : (d ^^^ c) % 2 = (d % 2 + c % 2) % 2 := by
  have h := Nat.xor_mod_two_pow (a := d) (b := c) (n := 1)
  simp at h
  rw [h]
  rcases Nat.mod_two_eq_zero_or_one d with h1 | h1 <;> rcases Nat.mod_two_eq_zero_or_one c with h2 | h2 <;> simp [h1, h2]

theorem fnv_one (d : Nat) (x : UInt8) : fnv d [x] = fnv1 d x := by rw [fnv_cons, fnv_nil]
theorem odd_facts (d n n' q : Nat) (x y : UInt8) (hy : y = x ^^^ 1) (hn : n = fnv d [x]) (hn' : n' = fnv d [y]) (hq : q = d ^^^ x.toNat) :
    ((n : Int) % 2 == (q : Int) % 2) = true ∧ ((n' : Int) % 2 != (n : Int) % 2) = true := by
  have o1 := fnv1_odd d x
  have o2 := fnv1_odd d y
  have ex : y.toNat = x.toNat ^^^ 1 := by rw [hy, UInt8.toNat_xor]; rfl
  rw [← fnv_one, ← hn, ← hq] at o1
  rw [← fnv_one, ← hn', ex, ← Nat.xor_assoc, ← hq, xor_mod2] at o2
  exact ⟨by rw [beq_iff_eq]; omega, by rw [bne_iff_ne]; omega⟩

set_option maxHeartbeats 2000000 in
theorem walk_DigestOdd (d : Nat) (hd : d < 18446744073709551616) (c : Nat) (hc : c < 256) (w : World) :
    Calls Try.prog 8 #[.int .u64 d, .int .u8 c] w fun e w' => e = .returned (.bool true) ∧ Below w.heap.size w w' := by
  obtain ⟨x, hx⟩ : ∃ x : UInt8, x.toNat = c := ⟨UInt8.ofNat c, by rw [UInt8.toNat_ofNat']; exact Nat.mod_eq_of_lt (by simpa using hc)⟩
  subst hx
  have hcc : x.toNat < 256 := x.toNat_lt
  obtain ⟨y, hy⟩ : ∃ y, y = x ^^^ 1 := ⟨_, rfl⟩
  have h1 : (ByteArray.mk [x].toArray).size ≤ maxLen := by rw [size_str]; simp [maxLen]
  have h2 : (ByteArray.mk [y].toArray).size ≤ maxLen := by rw [size_str]; simp [maxLen]
  obtain ⟨n, hn⟩ : ∃ n, n = fnv d [x] := ⟨_, rfl⟩
  obtain ⟨n', hn'⟩ : ∃ n', n' = fnv d [y] := ⟨_, rfl⟩
  obtain ⟨q, hq⟩ : ∃ q, q = d ^^^ x.toNat := ⟨_, rfl⟩
  obtain ⟨e1, e2⟩ := odd_facts d n n' q x y hy hn hn' hq
  have ex : y.toNat = x.toNat ^^^ 1 := by rw [hy, UInt8.toNat_xor]; rfl
  have hxo : bits BinOp.xor .u8 (x.toNat : Int) 1 = (y.toNat : Int) := by rw [ex]; exact u8_xor_nat _ 1 hcc (by omega)
  have hxd : bits BinOp.xor .u64 (d : Int) (x.toNat : Int) = (q : Int) := by rw [hq]; exact bits_xor_u64_nat _ _ hd (byte_lt64 x)
  have hnb : n < 18446744073709551616 := by rw [hn]; exact fnv_lt _ _ hd
  have hnb' : n' < 18446744073709551616 := by rw [hn']; exact fnv_lt _ _ hd
  have hN := Lib.hid hn
  have hN' := Lib.hid hn'
  clear hn hn' ex hq hy
  go_enter Try.func8, Try.ntmps8
  go_wp2_with (refine wpList_str_of rfl (.tmp 8) 35 9 5 rfl w.heap.size 0 1 1 rfl Try.underlying35 Try.underlying5 Try.underlying9 [x] rfl (by intro i hi; obtain rfl : i = 0 := (by omega); simp) ?_)
  refine (more_any d _ _ h1 hd).mono ?_
  rintro e w' ⟨rfl, rfl⟩
  rw [show (ByteArray.mk [x].toArray).data.toList = [x] from rfl, ← hN.out]
  go_wp2_with fail
  refine (alive_any _).mono ?_
  rintro e w1 ⟨rfl, hb1⟩
  have hcv := run_bytes_str (P := Try.prog) (w1.alloc (.cells #[.int .u8 y.toNat] 5)) 35 9 5 Try.underlying35 Try.underlying5 Try.underlying9 w1.heap.size 0 1 1 [y] rfl (by intro i hi; obtain rfl : i = 0 := (by omega); simp)
  go_wp2_with fail
  refine (more_any d _ _ h2 hd).mono ?_
  rintro e w' ⟨rfl, rfl⟩
  rw [show (ByteArray.mk [y].toArray).data.toList = [y] from rfl, ← hN'.out]
  go_wp2_with fail
  go_ret
  exact ⟨rfl, (((Below.refl _ _).alloc (Nat.le_refl _) _).trans (hb1.mono (by simp))).alloc (by have := hb1.size; simp at this; omega) _⟩
end Go.Proofs.Ytmnklljkhabodaa
