/- binderylaw17.IndexWhole: what lies in memory; how great it is. -/
import Derived.Test.YtohinfefidahlaaGreatDoorWhL
import Derived.Test.YtohinfefidahlaaGreatDoorJoN
namespace Go.Proofs.YtohinfefidahlaaGreatDoor
open Go.RowKit
set_option linter.unusedVariables false
set_option linter.unusedSimpArgs false

def encU (n : Nat) : List Value := [.int .u8 n]
theorem encU_ok : Enc 1 encU := ⟨fun _ => rfl, fun x u hu => by simp [encU] at hu; subst hu; rfl⟩
/-- what the i-th term sees -/
def seeW (nms : List Bytes) (ses : List Nat) (i : Nat) : Bytes := if (ses.getD i 0) % 2 = 1 then nms.getD (ses.getD i 0 % nms.length) [] else []
/-- so many of the names are told -/
structure WhI (nms : List Bytes) (ses : List Nat) (w wr : World) (i : Nat) (W : List Wb) (v : Value) : Prop where
  len : W.length = i
  data : ∀ (j : Nat) x, W[j]? = some x → x.t = nms.getD j [] ∧ x.se = seeW nms ses j
  spa : ∀ x ∈ W, Bk wr x.ga (encSp spH) 70 ∧ Bk wr x.gb (encSp (spW x)) 70
  own : Own wr w.heap.size 74 9 encBl v (blW W)
  bel : Below w.heap.size w wr
theorem WhI.nil (nms : List Bytes) (ses : List Nat) (w : World) : WhI nms ses w w 0 [] (.slice none 0 0) :=
  ⟨rfl, fun j x h => (by simp at h), fun x h => (by cases h), Own.nil _ _ _ _ _, Below.refl _ _⟩
theorem WhI.next {nms : List Bytes} {ses : List Nat} {w wr w' : World} {i : Nat} {W : List Wb} {v : Value} (h : WhI nms ses w wr i W v) (hb : Below wr.heap.size wr w') : WhI nms ses w w' i W v :=
  ⟨h.len, h.data, fun x hx => ⟨(h.spa x hx).1.next hb, (h.spa x hx).2.next hb⟩, h.own.below hb (Nat.le_refl _), h.bel.trans (hb.mono h.bel.size)⟩
theorem WhI.step {nms : List Bytes} {ses : List Nat} {w wr w3 w' : World} {i : Nat} {W : List Wb} {v v' : Value} {x : Wb} (h : WhI nms ses w wr i W v) (hb : Below wr.heap.size wr w3) (hx : x.t = nms.getD i [] ∧ x.se = seeW nms ses i)
    (ha : Bk w3 x.ga (encSp spH) 70) (hbb : Bk w3 x.gb (encSp (spW x)) 70) (ho : Own w' w.heap.size 74 9 encBl v' (blW W ++ [hdW x, paW x])) (hg : w3.grownBy w' v.ownBlock) : WhI nms ses w w' (i + 1) (W ++ [x]) v' := by
  have h3 := h.next hb
  have hne : ∀ {g : Nat} {C : List Value}, Bk w3 g C 70 → v.ownBlock ≠ some g := fun hk => h3.own.ne_bk hk (by decide)
  refine ⟨by rw [List.length_append, h.len]; rfl, fun j y hj => ?_, fun y hy => ?_, by rw [blW_snoc]; exact ho, h3.bel.grown hg h3.bel.size (fun k hk => (h3.own.lt k hk).1)⟩
  · rcases Nat.lt_or_ge j W.length with hl | hl
    · rw [List.getElem?_append_left hl] at hj; exact h.data j y hj
    · rw [List.getElem?_append_right hl] at hj
      have : j - W.length = 0 := by
        rcases Nat.eq_zero_or_pos (j - W.length) with h0 | h0
        · exact h0
        · rw [List.getElem?_eq_none (by simp; omega)] at hj; cases hj
      rw [this] at hj
      cases hj
      have e : j = i := by have := h.len; omega
      rw [e]; exact hx
  · rcases List.mem_append.1 hy with hy | hy
    · exact ⟨(h3.spa y hy).1.grown hg (hne (h3.spa y hy).1), (h3.spa y hy).2.grown hg (hne (h3.spa y hy).2)⟩
    · rw [List.mem_singleton] at hy
      subst hy
      exact ⟨ha.grown hg (hne ha), hbb.grown hg (hne hbb)⟩
theorem sum_40 {nms : List Bytes} (h40 : nms.length ≤ 40) (h : ∀ x ∈ nms, x.length ≤ 140737488355328) (k : Nat) : sumM List.length (nms.take k) ≤ 40 * 140737488355328 := by
  have h1 := sumM_take_le List.length nms k
  suffices g : ∀ l : List Bytes, (∀ x ∈ l, x.length ≤ 140737488355328) → sumM List.length l ≤ l.length * 140737488355328 by
    have h2 := g nms h
    have h3 : nms.length * 140737488355328 ≤ 40 * 140737488355328 := Nat.mul_le_mul_right _ h40
    omega
  intro l
  induction l with
  | nil => intro _; simp [sumM]
  | cons x l ih =>
    intro hl
    rw [sumM_cons, List.length_cons]
    have h1 := hl x (by simp)
    have h2 := ih (fun y hy => hl y (by simp [hy]))
    omega
theorem slblk : SlTy Tryz.prog 66 74 9 128 := ⟨Tryz.underlying66, .agg #[.int .u8 0, .int .i64 0, .bool false, .string ⟨#[]⟩, .string ⟨#[]⟩, .slice none 0 0, .slice none 0 0, .string ⟨#[]⟩, .int .i64 0], by kernel_rfl, rfl, by decide⟩
theorem WhI.chs {nms : List Bytes} {ses : List Nat} {w wr : World} {i bc : Nat} {W : List Wb} {ba : Option Addr} (h : WhI nms ses w wr i W (.slice ba (blW W).length bc)) (T : TypeId) :
    ChsAt (wr.alloc (.cells #[.string ⟨#[97]⟩, .slice ba (blW W).length bc, .slice none 0 0, .slice none 0 0, .slice none 0 0, .slice none 0 0] T)) (some ⟨wr.heap.size, 0, none⟩) [chW ba bc W] := by
  have hs : ∀ (o : Obj) (g : Nat) (y : Sp), SpIn (wr.alloc o) y → Bk wr g (encSp y) 70 → SpsAt (wr.alloc o) (some ⟨g, 0, none⟩) [y] := fun o g y hy hk => by
    refine ⟨At.of_bk encSp_ok (T := 70) (by simpa using hk.alloc o), fun z hz => ?_⟩
    rw [List.mem_singleton] at hz
    subst hz; exact hy
  refine ⟨At.one_new encCh_ok wr _ T [chW ba bc W] rfl, fun c hc => ?_⟩
  rw [List.mem_singleton] at hc
  subst hc
  refine ⟨⟨(h.own.addr encBl_ok).alloc _, fun b hb => ?_⟩, At.nil _ _ _ _, At.nil _ _ _ _, At.nil _ _ _ _, At.nil _ _ _ _⟩
  obtain ⟨x, hx, rfl | rfl⟩ := mem_blW (W := W) hb
  · exact ⟨hs _ _ _ (leaf_in _ _ _ _ _) (h.spa x hx).1, At.nil _ _ _ _, fun r hr => by cases hr⟩
  · exact ⟨hs _ _ _ (leaf_in _ _ _ _ _) (h.spa x hx).2, At.nil _ _ _ _, fun r hr => by cases hr⟩
theorem szBl_hd (x : Wb) : szBl (hdW x) = 4 := by unfold szBl hdW szM; simp [sumM, szS, szL, spH]
theorem szBl_pa (x : Wb) : szBl (paW x) = 3 + x.t.length + x.se.length := by unfold szBl paW szM; simp [sumM, szS, szL, spW]; omega
theorem sz_blW {W : List Wb} (h : ∀ x ∈ W, x.t.length ≤ 3000 ∧ x.se.length ≤ 3000) : szM szBl (blW W) ≤ W.length * 6010 := by
  induction W with
  | nil => simp [blW, szM, sumM]
  | cons x W ih =>
    have h1 := ih (fun y hy => h y (by simp [hy]))
    have h2 := h x (by simp)
    unfold szM at *
    rw [blW_cons, sumM_cons, sumM_cons, szBl_hd, szBl_pa, List.length_cons, List.length_cons, List.length_cons]
    omega
structure WhSz (W : List Wb) : Prop where
  len : W.length ≤ 40
  le : ∀ x ∈ W, x.t.length ≤ 3000 ∧ x.se.length ≤ 3000
theorem WhSz.size {W : List Wb} (h : WhSz W) (ba : Option Addr) (bc : Nat) : szM szCh [chW ba bc W] ≤ 300000 := by
  have h1 := sz_blW h.le
  have h2 := h.len
  have h3 : szM szBl (chW ba bc W).bl ≤ W.length * 6010 := h1
  have h4 : W.length * 6010 ≤ 40 * 6010 := Nat.mul_le_mul_right _ h2
  have h5 : szCh (chW ba bc W) = 1 + 1 + szM szBl (chW ba bc W).bl + 0 + 0 + 0 + 0 := rfl
  unfold szM at *
  rw [sumM_cons, h5]
  simp [sumM] at *
  omega
theorem WhSz.blk {W : List Wb} (h : WhSz W) (ba : Option Addr) (bc : Nat) : ∀ c ∈ [chW ba bc W], ∀ b ∈ c.bl, szBl b ≤ 20000 := fun c hc b hb => by
  rw [List.mem_singleton] at hc
  subst hc
  obtain ⟨x, hx, rfl | rfl⟩ := mem_blW (W := W) hb
  · rw [szBl_hd]; omega
  · rw [szBl_pa]; have := h.le x hx; omega
theorem WhSz.ok {W : List Wb} (h : WhSz W) (ba : Option Addr) (bc : Nat) : ChsOk [chW ba bc W] := by
  refine ⟨by simp, ?_, fun c hc => ?_, fun c hc b hb => ?_⟩
  · have h1 : sumM nbl [chW ba bc W] = (blW W).length + 0 := rfl
    rw [h1, blW_len]
    have := h.len
    omega
  · rw [List.mem_singleton] at hc
    subst hc
    show ([97] : Bytes).length ≤ _
    decide
  · rw [List.mem_singleton] at hc
    subst hc
    obtain ⟨x, hx, rfl | rfl⟩ := mem_blW (W := W) hb
    · exact ⟨by show ([] : Bytes).length ≤ _; simp, fun _ => ⟨spLen (by show szM szS [spH] ≤ _; simp [szM, sumM, szS, szL, spH]), by show (sayL [spH]).length ≤ _; decide⟩⟩
    · exact ⟨by show ([] : Bytes).length ≤ _; simp, fun e => by cases e⟩
theorem WhSz.bd {W : List Wb} (h : WhSz W) (ba : Option Addr) (bc : Nat) : ∀ q ∈ (totP [chW ba bc W]).pls, PlBd q :=
  totK_bd (h.ok ba bc) (fun c hc b hb => by
    rw [List.mem_singleton] at hc
    subst hc
    obtain ⟨x, hx, rfl | rfl⟩ := mem_blW (W := W) hb
    · show ([] : Bytes).length ≤ _; simp
    · show ([] : Bytes).length ≤ _; simp) _ (Nat.le_refl _)
theorem getD_len {nms : List Bytes} {n : Nat} (h : ∀ x ∈ nms, x.length ≤ n) (j : Nat) : (nms.getD j []).length ≤ n := by
  rw [List.getD_eq_getElem?_getD]
  cases hj : nms[j]? with
  | none => simp
  | some x => exact h x (List.mem_of_getElem? hj)
theorem seeW_len {nms : List Bytes} {n : Nat} (h : ∀ x ∈ nms, x.length ≤ n) (ses : List Nat) (j : Nat) : (seeW nms ses j).length ≤ n := by
  unfold seeW
  split
  · exact getD_len h _
  · simp
theorem len_sum {nms : List Bytes} (h : sumM List.length nms ≤ 3000) : ∀ x ∈ nms, x.length ≤ 3000 := fun x hx => by
  have := sumM_mem List.length hx
  omega
theorem WhI.sz {nms : List Bytes} {ses : List Nat} {w wr : World} {W : List Wb} {v : Value} (h : WhI nms ses w wr nms.length W v) (h40 : nms.length ≤ 40) (hs : sumM List.length nms ≤ 3000) : WhSz W := by
  refine ⟨by rw [h.len]; exact h40, fun x hx => ?_⟩
  obtain ⟨j, hj, rfl⟩ := List.getElem_of_mem hx
  obtain ⟨h1, h2⟩ := h.data j W[j] (List.getElem?_eq_getElem hj)
  rw [h1, h2]
  exact ⟨getD_len (len_sum hs) j, seeW_len (len_sum hs) ses j⟩
theorem WhI.at {nms : List Bytes} {ses : List Nat} {w wr : World} {W : List Wb} {v : Value} (h : WhI nms ses w wr nms.length W v) {i : Nat} (hi : i < nms.length) : ∃ x, W[i]? = some x ∧ x.t = nms[i] ∧ x.se = seeW nms ses i := by
  have hl : i < W.length := by rw [h.len]; exact hi
  refine ⟨W[i], List.getElem?_eq_getElem hl, ?_⟩
  obtain ⟨h1, h2⟩ := h.data i W[i] (List.getElem?_eq_getElem hl)
  refine ⟨?_, h2⟩
  rw [h1, List.getD_eq_getElem?_getD, List.getElem?_eq_getElem hi]; rfl
theorem WhI.sees {nms : List Bytes} {ses : List Nat} {w wr : World} {W : List Wb} {v : Value} (h : WhI nms ses w wr nms.length W v) : ∀ x ∈ W, x.se = [] ∨ ∃ y ∈ W, y.t = x.se := fun x hx => by
  obtain ⟨j, hj, rfl⟩ := List.getElem_of_mem hx
  have hn : 0 < nms.length := by have := h.len; omega
  obtain ⟨h1, h2⟩ := h.data j W[j] (List.getElem?_eq_getElem hj)
  rw [h2]
  unfold seeW
  split
  · right
    have hm : ses.getD j 0 % nms.length < nms.length := Nat.mod_lt _ hn
    obtain ⟨y, hy, ht, _⟩ := h.at hm
    have hg : ∀ q (h : q < nms.length), nms[q] = nms.getD q [] := fun q h => by rw [List.getD_eq_getElem?_getD, List.getElem?_eq_getElem h]; rfl
    refine ⟨y, List.mem_of_getElem? hy, ?_⟩
    rw [ht]
    exact hg _ hm
  · exact .inl rfl
/-- what is known of the index of the names -/
structure WhX (nms : List Bytes) (ses : List Nat) (W : List Wb) (P : List Pl) (ul : List En) : Prop where
  len : P.length = nms.length
  fnd : ∀ (i : Nat) (hi : i < nms.length), ∃ x p, W[i]? = some x ∧ P[i]? = some p ∧ x.t = nms[i] ∧ x.se = seeW nms ses i ∧ WhFound x p ul
  small : ∀ x ∈ ul, EnSm x
  ulen : ul.length ≤ 1000000
theorem WhI.law {nms : List Bytes} {ses : List Nat} {w wr : World} {W : List Wb} {v : Value} (h : WhI nms ses w wr nms.length W v) (h40 : nms.length ≤ 40) (hs : sumM List.length nms ≤ 3000) {ba : Option Addr} {bc : Nat} {ul : List En}
    (hU : EnsOf (ixOf (allBS (totP [chW ba bc W]).pls [chW ba bc W] 1).tl) ul) : diagsOf (allBS (totP [chW ba bc W]).pls [chW ba bc W] 1) = [] ∧ WhX nms ses W (totP [chW ba bc W]).pls ul := by
  have hz := h.sz h40 hs
  have hlen : (totP [chW ba bc W]).pls.length = W.length := tot_W ba bc W
  have hw := wh_law (P := (totP [chW ba bc W]).pls) (W := W) (ba := ba) (bc := bc) hlen (hz.bd ba bc) h.sees hU
  have h1 := (allBS_len (totP [chW ba bc W]).pls [chW ba bc W] 1 (Nat.le_refl _)).1
  have h2 := sumM_take_le szCh [chW ba bc W] 1
  have h3 : sumM szCh [chW ba bc W] ≤ szM szCh [chW ba bc W] := by unfold szM; omega
  have h4 := hz.size ba bc
  have hle := ixOf_le (allBS (totP [chW ba bc W]).pls [chW ba bc W] 1).tl
  refine ⟨hw.1, by rw [hlen, h.len], fun i hi => ?_, hU.small hle (by omega), by have := hU.len hle; omega⟩
  obtain ⟨x, hx, ht, hse⟩ := h.at hi
  have hp : i < (totP [chW ba bc W]).pls.length := by rw [hlen, h.len]; exact hi
  exact ⟨x, _, hx, List.getElem?_eq_getElem hp, ht, hse, hw.2 i x _ hx (List.getElem?_eq_getElem hp)⟩
theorem wh_places {ba : Option Addr} {bc : Nat} {W : List Wb} (hz : WhSz W) (g : Nat) (w : World) (hA : ChsAt w (some ⟨g, 0, none⟩) [chW ba bc W]) (htab : HasTab w) :
    Calls Tryz.prog 17 #[.slice (some ⟨g, 0, none⟩) 1 1] w fun e w' => ∃ ap cp ad cd nd, e = .returned (.tuple #[.slice ap (totP [chW ba bc W]).pls.length cp, .slice ad nd cd]) ∧ At w' 6 encPl ap (totP [chW ba bc W]).pls ∧ (totP [chW ba bc W]).pls.length ≤ cp ∧ Below w.heap.size w w' :=
  (places_all [chW ba bc W] _ 1 w hA (hz.ok ba bc) htab).mono fun e w' h => by
    obtain ⟨⟨v, d, rfl, hp, hd⟩, hb1⟩ := h
    obtain ⟨ap, cp, rfl⟩ := hp.shape
    obtain ⟨ad, cd, rfl⟩ := hd.shape
    refine ⟨ap, cp, ad, cd, _, rfl, hp.addr encPl_ok, ?_, hb1⟩
    rcases Nat.eq_zero_or_pos (totP [chW ba bc W]).pls.length with h0 | h0
    · omega
    · obtain ⟨g, _, _, _, h1⟩ := hp.ptr h0; exact h1
theorem wh_build {nms : List Bytes} {ses : List Nat} {w0 wr : World} {W : List Wb} {vb : Value} (hI : WhI nms ses w0 wr nms.length W vb) (h40 : nms.length ≤ 40) (hs : sumM List.length nms ≤ 3000) {ba : Option Addr} {bc : Nat} (g : Nat) (ap : Option Addr) (cp : Nat) (w : World)
    (hA : ChsAt w (some ⟨g, 0, none⟩) [chW ba bc W]) (hP : At w 6 encPl ap (totP [chW ba bc W]).pls) (hc : (totP [chW ba bc W]).pls.length ≤ cp) (htab : HasTab w) :
    Calls Tryz.prog 18 #[.slice (some ⟨g, 0, none⟩) 1 1, .slice ap (totP [chW ba bc W]).pls.length cp] w fun e w' => ∃ ea ec ul ad cd, e = .returned (.tuple #[.slice ea (List.length ul) ec, .slice ad 0 cd]) ∧ EnsAt (fun _ => True) w' ea ul ∧ WhX nms ses W (totP [chW ba bc W]).pls ul ∧ Below w.heap.size w w' :=
  (build_all [chW ba bc W] _ 1 (totP [chW ba bc W]).pls ap cp w hA ((hI.sz h40 hs).size ba bc) ((hI.sz h40 hs).blk ba bc) hP hc (by rw [tot_W, hI.len]; omega) ((hI.sz h40 hs).bd ba bc) htab).mono fun e w' h => by
    obtain ⟨⟨a, c, ul, d, rfl, hE, hU, hD⟩, hb⟩ := h
    have hL := hI.law h40 hs hU
    have hD' : Own w' w.heap.size 103 4 encDg d (diagsOf (allBS (totP [chW ba bc W]).pls [chW ba bc W] 1)) := hD
    rw [hL.1] at hD'
    obtain ⟨ad, cd, rfl⟩ := hD'.shape
    exact ⟨a, c, ul, ad, cd, rfl, hE, hL.2, hb⟩
theorem blW_get : ∀ {W : List Wb} {i : Nat} {x : Wb}, W[i]? = some x → (blW W)[2 * i + 1]? = some (paW x)
  | [], i, x, h => by simp at h
  | y :: W, 0, x, h => by simp at h; subst h; rfl
  | y :: W, i + 1, x, h => by
    rw [blW_cons, show 2 * (i + 1) + 1 = (2 * i + 1) + 1 + 1 by omega, List.getElem?_cons_succ, List.getElem?_cons_succ]
    exact blW_get (by simpa using h)
theorem WhI.see_at {nms : List Bytes} {ses : List Nat} {w wr : World} {n bc : Nat} {W : List Wb} {ba : Option Addr} (h : WhI nms ses w wr n W (.slice ba (blW W).length bc)) {i : Nat} {x : Wb} (hx : W[i]? = some x) :
    ∃ g, ba = some ⟨g, 0, none⟩ ∧ wr.cell? ⟨g, (2 * i + 1) * 9 + 5, none⟩ = some (.slice (some ⟨x.gb, 0, none⟩) 1 1) ∧ wr.cell? ⟨x.gb, 3, none⟩ = some (.string ⟨x.se.toArray⟩)∧ g < wr.heap.size ∧ x.gb < wr.heap.size := by
  have hb := blW_get hx
  have hl := (List.getElem?_eq_some_iff.1 hb).1
  obtain ⟨g, rfl, _, hg, _⟩ := h.own.ptr (by omega)
  have h2 := (h.spa x (List.mem_of_getElem? hx)).2
  exact ⟨g, rfl, h.own.cellAt encBl_ok hb (j := 5) rfl, h2.cell 3, hg, h2.lt⟩
end Go.Proofs.YtohinfefidahlaaGreatDoor
