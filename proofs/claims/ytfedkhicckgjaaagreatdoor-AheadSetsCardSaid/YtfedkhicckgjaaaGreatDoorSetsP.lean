/- What is read of a source that sets and unsets one name. No program is named here. -/
import Derived.Test.YtfedkhicckgjaaaGreatDoorOffP
namespace Go.Proofs.YtfedkhicckgjaaaGreatDoor
set_option linter.unusedVariables false

/-- a value that may be set by a line: as AheadSets asks it -/
structure SetVal (v : Bytes) : Prop where
  len : v.length ≤ 1024
  ne : v ≠ []
  ok : ∀ c ∈ v, 32 ≤ c.toNat ∧ c.toNat ≠ 127 ∧ c ≠ 123
  first : ∀ c, v.head? = some c → c ≠ 32
  last : ∀ c, v.getLast? = some c → c ≠ 32
theorem SetVal.bl {v : Bytes} (h : SetVal v) {c : UInt8} (hc : c ∈ v) (h32 : c ≠ 32) : isBl c = false := by
  have h1 := (h.ok c hc).1
  have h9 : c ≠ 9 := fun e => by subst e; revert h1; decide
  unfold isBl; simp [h32, h9]
theorem SetVal.no {v : Bytes} (h : SetVal v) (k : UInt8) (hk : k.toNat < 32 ∨ k = 123) : ∀ c ∈ v, c ≠ k := fun c hc e => by
  subst e
  have h1 := h.ok c hc
  rcases hk with h2 | h2
  · omega
  · exact h1.2.2 h2
theorem SetVal.valid {v : Bytes} (h : SetVal v) : validB v = true := by
  unfold validB
  rw [decide_eq_true h.len, Bool.true_and, List.all_eq_true]
  intro c hc
  have h1 := h.ok c hc
  unfold okByte
  simp [h1.1, h1.2.1]
/-- blanks ahead are let go; what begins and ends without one stays -/
theorem trimB_mid (v : Bytes) (hne : v ≠ []) (h1 : ∀ c, v.head? = some c → isBl c = false) (h2 : ∀ c, v.getLast? = some c → isBl c = false) : trimB (32 :: v) = v := by
  obtain ⟨x, y, rfl⟩ : ∃ x y, v = x :: y := by cases v with | nil => exact absurd rfl hne | cons x y => exact ⟨x, y, rfl⟩
  have hx := h1 x rfl
  have hr : (32 :: x :: y).reverse.dropWhile isBl = (32 :: x :: y).reverse := by
    obtain ⟨r, z, hz⟩ : ∃ r z, x :: y = r ++ [z] := ⟨_, _, (List.dropLast_concat_getLast (by simp)).symm⟩
    have hzb : isBl z = false := h2 z (by rw [hz, List.getLast?_concat])
    rw [hz, ← List.cons_append, List.reverse_append, List.reverse_singleton, List.singleton_append, List.dropWhile_cons, hzb]; rfl
  unfold trimB
  rw [hr, List.reverse_reverse, List.dropWhile_cons, show isBl 32 = true from by decide, if_pos rfl, List.dropWhile_cons, hx]; rfl
theorem name_ends {n : Bytes} (h : nameB n = true) : n ≠ [] ∧ (∀ c, n.head? = some c → isBl c = false) ∧ (∀ c, n.getLast? = some c → isBl c = false) := by
  have hl := nameB_len h
  have hb : ∀ c ∈ n, isBl c = false := fun c hc => isBl_sign (nameB_signs h c hc)
  exact ⟨fun e => by subst e; simp at hl, fun c hc => hb c (List.mem_of_head? hc), fun c hc => hb c (List.mem_of_getLast? hc)⟩
def setB : Bytes := [64, 115, 101, 116]
def unsetB : Bytes := [64, 117, 110, 115, 101, 116]
def setLn (n v : Bytes) : Bytes := setB ++ 32 :: (n ++ 32 :: v)
def unsetLn (n : Bytes) : Bytes := unsetB ++ 32 :: n
def brace (n : Bytes) : Bytes := 123 :: (n ++ [125])
theorem blankI_app (a b : Bytes) (h : ∀ c ∈ a, isBl c = false) : blankI (a ++ 32 :: b) = some a.length := by
  unfold blankI
  rw [List.findIdx?_append, List.findIdx?_eq_none_iff.2 h, List.findIdx?_cons]
  simp [isBl]
theorem word_app (a b : Bytes) (h : ∀ c ∈ a, isBl c = false) : wordOf (a ++ 32 :: b) = a ∧ restOf (a ++ 32 :: b) = trimB (32 :: b) := by
  unfold wordOf restOf
  rw [blankI_app a b h]
  exact ⟨List.take_left, by show trimB (List.drop a.length (a ++ 32 :: b)) = _; rw [List.drop_left]⟩
theorem setLn_is {n v : Bytes} (hn : nameB n = true) (hv : SetVal v) : wordOf (setLn n v) = setB ∧ restOf (setLn n v) = n ++ 32 :: v := by
  obtain ⟨h1, h2⟩ := word_app setB (n ++ 32 :: v) (by decide)
  refine ⟨h1, h2.trans (trimB_mid _ (by simp) ?_ ?_)⟩
  · obtain ⟨e1, e2, _⟩ := name_ends hn
    intro c hc
    cases n with
    | nil => exact absurd rfl e1
    | cons x y => exact e2 c hc
  · intro c hc
    rw [List.getLast?_append] at hc
    have e : (32 :: v).getLast? = v.getLast? := by
      cases hv2 : v with
      | nil => exact absurd hv2 hv.ne
      | cons x y => rw [List.getLast?_cons_cons]
    rw [e] at hc
    cases hg : v.getLast? with
    | none => rw [List.getLast?_eq_none_iff] at hg; exact absurd hg hv.ne
    | some z =>
      rw [hg] at hc
      cases hc
      exact hv.bl (List.mem_of_getLast? hg) (hv.last _ hg)
theorem rest_is {n v : Bytes} (hn : nameB n = true) (hv : SetVal v) : wordOf (n ++ 32 :: v) = n ∧ restOf (n ++ 32 :: v) = v := by
  obtain ⟨h1, h2⟩ := word_app n v fun c hc => isBl_sign (nameB_signs hn c hc)
  refine ⟨h1, h2.trans (trimB_mid _ hv.ne (fun c hc => hv.bl (List.mem_of_head? hc) (hv.first c hc)) (fun c hc => hv.bl (List.mem_of_getLast? hc) (hv.last c hc)))⟩
theorem unsetLn_is {n : Bytes} (hn : nameB n = true) : wordOf (unsetLn n) = unsetB ∧ restOf (unsetLn n) = n := by
  obtain ⟨h1, h2⟩ := word_app unsetB n (by decide)
  obtain ⟨e1, e2, e3⟩ := name_ends hn
  exact ⟨h1, h2.trans (trimB_mid _ e1 e2 e3)⟩
def setsText (n v : Bytes) : Bytes := brace n ++ 10 :: (setLn n v ++ 10 :: (brace n ++ 10 :: (unsetLn n ++ 10 :: brace n)))
def ownText (n v : Bytes) : Bytes := setLn n v ++ 10 :: brace n
theorem brace_no {n : Bytes} (hn : nameB n = true) (k : UInt8) (hk : isSign k = false) (h1 : k ≠ 123) (h2 : k ≠ 125) : ∀ c ∈ brace n, c ≠ k := fun c hc => by
  unfold brace at hc
  rcases List.mem_cons.1 hc with rfl | hc
  · exact fun e => h1 e.symm
  rcases List.mem_append.1 hc with hc | hc
  · exact name_not10 hn k hk c hc
  · rw [List.mem_singleton] at hc; subst hc; exact fun e => h2 e.symm
theorem setLn_no10 {n v : Bytes} (hn : nameB n = true) (hv : SetVal v) : ∀ c ∈ setLn n v, c ≠ 10 := fun c hc => by
  unfold setLn at hc
  rcases List.mem_append.1 hc with hc | hc
  · exact (by decide : ∀ c ∈ setB, c ≠ (10 : UInt8)) c hc
  rcases List.mem_cons.1 hc with rfl | hc
  · decide
  rcases List.mem_append.1 hc with hc | hc
  · exact name_not10 hn 10 (by decide) c hc
  rcases List.mem_cons.1 hc with rfl | hc
  · decide
  · exact hv.no 10 (by decide) c hc
theorem unsetLn_no10 {n : Bytes} (hn : nameB n = true) : ∀ c ∈ unsetLn n, c ≠ 10 := fun c hc => by
  unfold unsetLn at hc
  rcases List.mem_append.1 hc with hc | hc
  · exact (by decide : ∀ c ∈ unsetB, c ≠ (10 : UInt8)) c hc
  rcases List.mem_cons.1 hc with rfl | hc
  · decide
  · exact name_not10 hn 10 (by decide) c hc
theorem linesP_one {s : Bytes} (h : ∀ c ∈ s, c ≠ 10) (h0 : s ≠ []) : linesP s = [s] := by
  unfold linesP trimNL
  rw [if_neg h0, if_neg (fun e => h 10 (List.mem_of_getLast? e) rfl), splitNL_none s h]
theorem setsText_lines {n v : Bytes} (hn : nameB n = true) (hv : SetVal v) : linesP (setsText n v) = [brace n, setLn n v, brace n, unsetLn n, brace n] := by
  have hb := brace_no hn 10 (by decide) (by decide) (by decide)
  unfold setsText
  rw [linesP_app, linesP_app, linesP_app, linesP_app, splitNL_none _ hb, splitNL_none _ (setLn_no10 hn hv), splitNL_none _ (unsetLn_no10 hn), linesP_one hb (by simp [brace])]
  rfl
theorem ownText_lines {n v : Bytes} (hn : nameB n = true) (hv : SetVal v) : linesP (ownText n v) = [setLn n v, brace n] := by
  have hb := brace_no hn 10 (by decide) (by decide) (by decide)
  unfold ownText
  rw [linesP_app, splitNL_none _ (setLn_no10 hn hv), linesP_one hb (by simp [brace])]
  rfl
/-! ### what is read of it -/
theorem parse_brace {n : Bytes} (hn : nameB n = true) : parse (brace n) = [.ask n] := by
  unfold brace
  rw [parse_name hn, parse_nil]
theorem fill_brace (l : List Two) {n : Bytes} (hn : nameB n = true) : fillT l (brace n) = (getL l n).getD (brace n) ∧ fillN (brace n) = [n] := by
  constructor
  · unfold fillT
    rw [parse_brace hn]
    simp [segOut, brace]
  · unfold fillN asksOf
    rw [parse_brace hn]
    rfl
theorem getL_one (n v : Bytes) : getL [⟨n, v⟩] n = some v := by simp [getL]
theorem addN_in (n : Bytes) : addN [n] n = [n] := by simp [addN]
theorem setE_ok {n v : Bytes} (hn : nameB n = true) (hv : SetVal v) : setE [] n v = 0 := by
  have h1 : mayB [] n v = true := by unfold mayB; rw [hn, hv.valid]; rfl
  have h2 : fullB [] n = false := by simp [fullB, hasAt, posL]
  unfold setE
  rw [h1, h2]; rfl
theorem unsetE_ok {n : Bytes} (hn : nameB n = true) : unsetE [] n = 0 := by unfold unsetE; rw [hn]; rfl
/-- what a reader of one source knows: its attributes, how many lines it came to, what was set, what was asked for, what it told -/
def st1 (at' : List Two) (c : Nat) (dn ak : List Bytes) (ls : List Pl) : RS := ⟨at', [⟨[109], []⟩], c, dn, ak, [[109]], ls, [], [[109]]⟩
theorem st1_fits {at' : List Two} (h : at'.length ≤ 1000000) (h2 : ∀ x ∈ at', x.value.length ≤ 100000) (c : Nat) (dn ak : List Bytes) {ls : List Pl} (h3 : ls.length ≤ 20000) : (st1 at' c dn ak ls).fits = true := by
  unfold RS.fits st1 RS.top
  simp only [Bool.and_eq_true, decide_eq_true_eq, List.all_eq_true]
  refine ⟨⟨⟨⟨⟨⟨h, h2⟩, ?_⟩, ?_⟩, h3⟩, ?_⟩, ?_⟩ <;> simp
theorem ln_brace (rd : Rd) (L : List Two) {at' : List Two} (h : at'.length ≤ 1000000) (h2 : ∀ x ∈ at', x.value.length ≤ 100000) (c : Nat) (dn ak : List Bytes) {ls : List Pl} (h3 : ls.length ≤ 20000) (no : Nat) {n : Bytes} (hn : nameB n = true) :
    RS.line rd L (st1 at' c dn ak ls) ⟨[109], no, brace n⟩ = some (st1 at' c dn (if dn.contains n = true then ak else addN ak n) (ls ++ [(⟨[109], no, (getL at' n).getD (brace n)⟩ : Pl)])) := by
  have hl := nameB_len hn
  have hp : Lib.hasPrefix (brace n) [64] = false := by unfold brace; rfl
  have hq : plainOf (brace n) = brace n := by
    unfold plainOf
    rw [show Lib.hasPrefix (brace n) [92, 64] = false from by unfold brace; rfl]; rfl
  obtain ⟨e1, e2⟩ := fill_brace at' hn
  unfold RS.line
  rw [if_pos ⟨st1_fits h h2 c dn ak h3, (show (brace n).length ≤ 100000 by unfold brace; simp; omega)⟩, hp, if_neg (by decide), if_pos (by rfl), hq]
  unfold RS.fill
  rw [e2]
  show some { ([n] : List Bytes).foldl RS.ask (st1 at' c dn ak ls) with lines := ls ++ [(⟨[109], no, fillT at' (brace n)⟩ : Pl)] } = _
  rw [e1]
  show some { RS.ask (st1 at' c dn ak ls) n with lines := ls ++ [(⟨[109], no, (getL at' n).getD (brace n)⟩ : Pl)] } = _
  unfold RS.ask
  show some { (if dn.contains n = true then st1 at' c dn ak ls else { st1 at' c dn ak ls with asked := addN ak n }) with lines := ls ++ [(⟨[109], no, (getL at' n).getD (brace n)⟩ : Pl)] } = _
  split <;> rfl
theorem ln_set (rd : Rd) (L : List Two) {at' : List Two} (h : at' = [] ∨ ∃ u, at' = [u] ∧ u.value.length ≤ 100000) (c : Nat) (ak : List Bytes) {ls : List Pl} (h3 : ls.length ≤ 20000) (no : Nat) {n v : Bytes} (hn : nameB n = true) (hv : SetVal v) (hat : ∀ u, at' = [u] → u.name = n) :
    RS.line rd L (st1 at' c [] ak ls) ⟨[109], no, setLn n v⟩ = some (st1 [⟨n, v⟩] c [n] ak ls) := by
  have hl := nameB_len hn
  have hlv := hv.len
  obtain ⟨w1, w2⟩ := setLn_is hn hv
  obtain ⟨q1, q2⟩ := rest_is hn hv
  have hfp := fillT_plain at' v (hv.no 123 (.inr rfl))
  have hfit : (st1 at' c [] ak ls).fits = true := by
    rcases h with rfl | ⟨u, rfl, hu⟩
    · exact st1_fits (by simp) (fun x hx => absurd hx (List.not_mem_nil)) c [] ak h3
    · exact st1_fits (by simp) (fun x hx => by simp at hx; subst hx; exact hu) c [] ak h3
  unfold RS.line
  rw [if_pos ⟨hfit, (show (setLn n v).length ≤ 100000 by unfold setLn setB; simp; omega)⟩]
  show (if Lib.hasPrefix (setLn n v) [64] = true then (if idxOk _ = true then RS.word _ _ _ _ (wordOf (setLn n v)) (restOf (setLn n v)) else none) else _) = _
  rw [if_pos (by rfl), if_pos (show idxOk _ = true from rfl), w1, w2]
  unfold RS.word
  rw [if_neg (by decide), if_neg (by decide), if_neg (by decide), if_neg (show ¬ ((st1 at' c [] ak ls).top.force = false) from fun e => by cases e), if_neg (by decide), if_pos (show setB = [64, 115, 101, 116] from rfl), if_pos (show setsToo = true from rfl)]
  unfold RS.set
  rw [q1, q2]
  have e0 : (st1 at' c [] ak ls).attrs = at' := rfl
  have e1 : (st1 at' c [] ak ls).fill v = st1 at' c [] ak ls := by unfold RS.fill; rw [hfp.2]; rfl
  rw [e0, hfp.1, e1, if_neg (by omega)]
  simp only [setE_ok hn hv, if_true, e0]
  rcases h with rfl | ⟨u, rfl, hu⟩
  · rfl
  · have hun := hat u rfl
    simp only [hun, beq_self_eq_true, if_true]
    rfl
theorem ln_unset (rd : Rd) (L : List Two) (c : Nat) (ak : List Bytes) {ls : List Pl} (h3 : ls.length ≤ 20000) (no : Nat) {n v : Bytes} (hn : nameB n = true) (hv : v.length ≤ 100000) :
    RS.line rd L (st1 [⟨n, v⟩] c [n] ak ls) ⟨[109], no, unsetLn n⟩ = some (st1 [] c [n] ak ls) := by
  have hl := nameB_len hn
  obtain ⟨w1, w2⟩ := unsetLn_is hn
  unfold RS.line
  rw [if_pos ⟨st1_fits (by simp) (fun x hx => by simp at hx; subst hx; exact hv) c [n] ak h3, (show (unsetLn n).length ≤ 100000 by unfold unsetLn unsetB; simp; omega)⟩]
  show (if Lib.hasPrefix (unsetLn n) [64] = true then (if idxOk _ = true then RS.word _ _ _ _ (wordOf (unsetLn n)) (restOf (unsetLn n)) else none) else _) = _
  rw [if_pos (by rfl), if_pos (show idxOk _ = true from rfl), w1, w2]
  unfold RS.word
  rw [if_neg (by decide), if_neg (by decide), if_neg (by decide), if_neg (show ¬ ((st1 [⟨n, v⟩] c [n] ak ls).top.force = false) from fun e => by cases e), if_neg (by decide), if_neg (by decide), if_pos (show unsetB = [64, 117, 110, 115, 101, 116] from rfl), if_pos (show setsToo = true from rfl)]
  unfold RS.unset
  rw [if_pos (unsetE_ok hn)]
  show (if (n == n) = true then some { st1 [⟨n, v⟩] c [n] ak ls with done := addN [n] n, attrs := [] } else none) = _
  rw [if_pos (by simp), addN_in]; rfl
theorem checkB_one {n v : Bytes} (hn : nameB n = true) (hv : validB v = true) : checkB [⟨n, v⟩] = true := by
  unfold checkB
  simp [okAt, hn, hv]
theorem rows_st1 (rd : Rd) (L : List Two) (f : Bytes) (at' : List Two) (c : Nat) (dn ak : List Bytes) (ls : List Pl) (i : Nat) (t : Bytes) (ts : List Bytes) (hc : c < 16384) (r' : RS) (h : RS.line rd L (st1 at' (c + 1) dn ak ls) ⟨f, i + 1, t⟩ = some r') :
    RS.rows rd L f (st1 at' c dn ak ls) i (t :: ts) = RS.rows rd L f r' (i + 1) ts := by
  conv => lhs; unfold RS.rows
  rw [if_neg (show ¬ 16384 ≤ (st1 at' c dn ak ls).count from fun e => by (have e : 16384 ≤ c := e); omega)]
  show (match RS.line rd L (st1 at' (c + 1) dn ak ls) ⟨f, i + 1, t⟩ with | none => none | some r' => RS.rows rd L f r' (i + 1) ts) = _
  rw [h]
def wasB : Bytes := [119, 97, 115]
theorem readP_sets {n v : Bytes} (hn : nameB n = true) (hv : SetVal v) :
    (readP [⟨[109], setsText n v⟩] [⟨n, wasB⟩] [109] (setsText n v)).map RS.ans = some ⟨[⟨[109], 1, wasB⟩, ⟨[109], 3, v⟩, ⟨[109], 5, brace n⟩], [], [[109]], [n]⟩ := by
  have hl := nameB_len hn
  have hlv := hv.len
  have hlen : (setsText n v).length ≤ 1048576 := by unfold setsText setLn unsetLn brace setB unsetB; simp; omega
  unfold readP
  rw [if_pos (checkB_one hn (by decide))]
  show (RS.readG (RS.read [⟨[109], setsText n v⟩] 16) [⟨[109], setsText n v⟩] (RS.new [⟨n, wasB⟩]) [109] (setsText n v)).map RS.ans = _
  generalize RS.read [⟨[109], setsText n v⟩] 16 = rd
  generalize ([⟨[109], setsText n v⟩] : List Two) = L
  unfold RS.readG
  rw [if_pos ⟨by show 0 ≤ _; omega, by show 0 ≤ _; omega, hlen⟩, setsText_lines hn hv]
  have e : (RS.new [⟨n, wasB⟩]).enter [109] = st1 [⟨n, wasB⟩] 0 [] [] [] := rfl
  have hw : wasB.length ≤ 100000 := by decide
  rw [e, rows_st1 rd L [109] _ 0 _ _ _ 0 _ _ (by omega) _ (ln_brace rd L (by simp) (fun x hx => by simp at hx; subst hx; exact hw) _ _ _ (by simp) _ hn)]
  rw [getL_one]
  have k1 : (if (([] : List Bytes).contains n) = true then ([] : List Bytes) else addN [] n) = [n] := by simp [addN]
  rw [k1, rows_st1 rd L [109] _ 1 _ _ _ 1 _ _ (by omega) _ (ln_set rd L (.inr ⟨_, rfl, hw⟩) _ _ (by simp) _ hn hv (fun u hu => by cases hu; rfl))]
  rw [rows_st1 rd L [109] _ 2 _ _ _ 2 _ _ (by omega) _ (ln_brace rd L (by simp) (fun x hx => by simp at hx; subst hx; show v.length ≤ _; omega) _ _ _ (by simp) _ hn)]
  rw [getL_one]
  have k2 : (if (([n] : List Bytes).contains n) = true then ([n] : List Bytes) else addN [n] n) = [n] := by simp
  rw [k2, rows_st1 rd L [109] _ 3 _ _ _ 3 _ _ (by omega) _ (ln_unset rd L _ _ (by simp) _ hn (by omega))]
  rw [rows_st1 rd L [109] _ 4 _ _ _ 4 _ _ (by omega) _ (ln_brace rd L (by simp) (fun x hx => absurd hx (List.not_mem_nil)) _ _ _ (by simp) _ hn)]
  rw [k2]
  show (if RS.fits _ = true then some (RS.shut _) else none).map RS.ans = _
  rw [if_pos (st1_fits (by simp) (fun x hx => absurd hx (List.not_mem_nil)) _ _ _ (by simp)), shut_none _ (by rfl)]
  rfl
theorem readP_own {n v : Bytes} (hn : nameB n = true) (hv : SetVal v) :
    (readP [⟨[109], ownText n v⟩] [] [109] (ownText n v)).map RS.ans = some ⟨[⟨[109], 2, v⟩], [], [[109]], []⟩ := by
  have hl := nameB_len hn
  have hlv := hv.len
  have hlen : (ownText n v).length ≤ 1048576 := by unfold ownText setLn brace setB; simp; omega
  unfold readP
  show (RS.readG (RS.read [⟨[109], ownText n v⟩] 16) [⟨[109], ownText n v⟩] (RS.new []) [109] (ownText n v)).map RS.ans = _
  generalize RS.read [⟨[109], ownText n v⟩] 16 = rd
  generalize ([⟨[109], ownText n v⟩] : List Two) = L
  unfold RS.readG
  rw [if_pos ⟨by show 0 ≤ _; omega, by show 0 ≤ _; omega, hlen⟩, ownText_lines hn hv]
  have e : (RS.new []).enter [109] = st1 [] 0 [] [] [] := rfl
  rw [e, rows_st1 rd L [109] _ 0 _ _ _ 0 _ _ (by omega) _ (ln_set rd L (.inl rfl) _ _ (by simp) _ hn hv (fun u hu => by cases hu))]
  rw [rows_st1 rd L [109] _ 1 _ _ _ 1 _ _ (by omega) _ (ln_brace rd L (by simp) (fun x hx => by simp at hx; subst hx; show v.length ≤ _; omega) _ _ _ (by simp) _ hn)]
  rw [getL_one]
  have k2 : (if (([n] : List Bytes).contains n) = true then ([] : List Bytes) else addN [] n) = [] := by simp
  rw [k2]
  show (if RS.fits _ = true then some (RS.shut _) else none).map RS.ans = _
  rw [if_pos (st1_fits (by simp) (fun x hx => by simp at hx; subst hx; show v.length ≤ _; omega) _ _ _ (by simp)), shut_none _ (by rfl)]
  rfl
end Go.Proofs.YtfedkhicckgjaaaGreatDoor
