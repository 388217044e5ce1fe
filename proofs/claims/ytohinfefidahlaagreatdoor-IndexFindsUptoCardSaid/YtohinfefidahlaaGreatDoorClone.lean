/- index.clone: an entry in memory of its own. -/
import Derived.Test.YtohinfefidahlaaGreatDoorJoE
import Derived.Test.YtohinfefidahlaaGreatDoorAdd
import Derived.Test.YtohinfefidahlaaGreatDoorEnt
import Derived.Test.YtohinfefidahlaaGreatDoorJoK
import Derived.Deep.RegionLaw
namespace Go.Proofs.YtohinfefidahlaaGreatDoor
set_option linter.unusedSimpArgs false
open Go.RowKit
set_option linter.unusedVariables false

mutual
def nE : En → Nat
  | .mk _ _ _ al _ _ sl _ _ ul => 1 + al.length + sl.length + nEs ul
def nEs : List En → Nat
  | [] => 0
  | x :: l => 1 + nE x + nEs l
end
theorem nEs_mem : ∀ {l : List En} {x : En}, x ∈ l → nE x < nEs l
  | y :: l, x, h => by
    rw [nEs]
    rcases List.mem_cons.1 h with rfl | h
    · omega
    · have := nEs_mem h; omega
theorem nEs_len : ∀ l : List En, l.length ≤ nEs l
  | [] => by rw [nEs]; exact Nat.le_refl _
  | x :: l => by rw [nEs, List.length_cons]; have := nEs_len l; omega
/-- no row of an entry is too long -/
inductive EnSm : En → Prop
  | mk {t aa ac al sa sc sl ua uc ul} : List.length al ≤ 1000000 → List.length sl ≤ 1000000 → List.length ul ≤ 1000000 → (∀ x ∈ ul, EnSm x) → EnSm (.mk t aa ac al sa sc sl ua uc ul)
theorem EnSm.kids {x : En} (h : EnSm x) : ∀ y ∈ x.ul, EnSm y := by cases h; assumption
/-- two entries say the same -/
inductive SameE : En → En → Prop
  | mk {t aa ac al sa sc sl ua uc ul aa' ac' sa' sc' ua' uc' ul'} : List.length ul = List.length ul' → (∀ (i : Nat) a b, ul[i]? = some a → ul'[i]? = some b → SameE a b) → SameE (.mk t aa ac al sa sc sl ua uc ul) (.mk t aa' ac' al sa' sc' sl ua' uc' ul')
def CloneG (x : En) (w : World) (e : Ending) (w' : World) : Prop :=
  ∃ aa ac sa sc ua uc ul, e = .returned (.agg #[.string ⟨x.term.toArray⟩, .slice aa x.al.length ac, .slice sa x.sl.length sc, .slice ua (List.length ul) uc]) ∧ EnIn (fun g => w.heap.size ≤ g) w' (.mk x.term aa ac x.al sa sc x.sl ua uc ul) ∧ SameE x (.mk x.term aa ac x.al sa sc x.sl ua uc ul) ∧ Below w.heap.size w w'
/-- where the loop over those under it stands -/
def CL (w : World) (t : Bytes) (al : List LoK) (sl : List Bytes) (ul : List En) (v1 v2 : Value) (wr : World) (j : Nat) : Prop :=
  ∃ v3 ml, Bk wr (w.heap.size + 1 + 1) [.string ⟨t.toArray⟩, v1, v2, v3] 29 ∧ Own wr w.heap.size 29 4 encEn v3 ml ∧ ml.length = j ∧ (∀ (i : Nat) a b, i < j → ul[i]? = some a → ml[i]? = some b → SameE a b) ∧
    (∀ y ∈ ml, EnIn (fun g => w.heap.size + 1 + 1 < g ∧ v3.ownBlock ≠ some g) wr y) ∧ Own wr w.heap.size 79 3 encLo v1 al ∧ Own wr w.heap.size 9 1 encS v2 sl ∧
    Bk wr (w.heap.size + 1) [.string ⟨#[]⟩, .slice none 0 0, .slice none 0 0, .slice none 0 0] 29 ∧ v3.ownBlock ≠ some (w.heap.size + 1) ∧ v3.ownBlock ≠ some (w.heap.size + 1 + 1) ∧ Below w.heap.size w wr
theorem CL.push {w wr W w8 w9 : World} {t : Bytes} {al : List LoK} {sl : List Bytes} {ul ml : List En} {v1 v2 v3 : Value} {j gg n cap : Nat} {y y' : En} {o : Obj}
    (hC : Bk w8 (w.heap.size + 1 + 1) [.string ⟨t.toArray⟩, v1, v2, v3] 29) (hO : Own w8 w.heap.size 29 4 encEn v3 ml) (hO0 : Own wr w.heap.size 29 4 encEn v3 ml) (hml : ml.length = j) (hsame : ∀ (i : Nat) a b, i < j → ul[i]? = some a → ml[i]? = some b → SameE a b)
    (hkin : ∀ y ∈ ml, EnIn (fun g => w.heap.size + 1 + 1 < g ∧ v3.ownBlock ≠ some g) wr y) (hO1 : Own wr w.heap.size 79 3 encLo v1 al) (hO2 : Own wr w.heap.size 9 1 encS v2 sl) (hZ : Bk wr (w.heap.size + 1) [.string ⟨#[]⟩, .slice none 0 0, .slice none 0 0, .slice none 0 0] 29)
    (hn1 : v3.ownBlock ≠ some (w.heap.size + 1)) (hn2 : v3.ownBlock ≠ some (w.heap.size + 1 + 1)) (hcl : w.heap.size + 1 + 1 < wr.heap.size) (hbel : Below w.heap.size w wr) (hWs : wr.heap.size ≤ W.heap.size) (hW8 : W.heap.size ≤ w8.heap.size) (h68 : Below wr.heap.size wr w8)
    (hE8 : EnIn (fun g => W.heap.size ≤ g) w8 y') (hS8 : SameE y y') (hy : ul[j]? = some y) (hown : Own w9 w.heap.size 29 4 encEn (.slice (some ⟨gg, 0, none⟩) n cap) (ml ++ [y'])) (hgrow : (w8.alloc o).grownBy w9 v3.ownBlock) (hat : v3.ownBlock = some gg ∨ gg = (w8.alloc o).heap.size) :
    CL w t al sl ul v1 v2 (w9.setCell ⟨w.heap.size + 1 + 1, 3, none⟩ (.slice (some ⟨gg, 0, none⟩) n cap)) (j + 1) := by
  have ho : (w8.alloc o).heap.size = w8.heap.size + 1 := World.size_alloc _ _
  have hk89 : Kept (fun g => v3.ownBlock = some g ∨ g = w.heap.size + 1 + 1) w8 (w9.setCell ⟨w.heap.size + 1 + 1, 3, none⟩ (.slice (some ⟨gg, 0, none⟩) n cap)) :=
    (((Kept.refl _ w8).alloc o).grown hgrow (fun g e => .inl e)).setCell (.inr rfl) _
  have hkr : Kept (fun g => v3.ownBlock = some g ∨ g = w.heap.size + 1 + 1) wr (w9.setCell ⟨w.heap.size + 1 + 1, 3, none⟩ (.slice (some ⟨gg, 0, none⟩) n cap)) := (Kept.of_below h68).trans hk89
  have hvl : ∀ g, v3.ownBlock = some g → w.heap.size ≤ g ∧ g < wr.heap.size := fun g hg => hO0.block g hg
  have hC9 : Bk w9 (w.heap.size + 1 + 1) [.string ⟨t.toArray⟩, v1, v2, v3] 29 := (hC.alloc o).grown hgrow hn2
  have hgc : gg ≠ w.heap.size + 1 + 1 := fun e => by
    rcases hat with h | h
    · exact hn2 (by rw [h, e])
    · omega
  have hC0 : Bk wr (w.heap.size + 1 + 1) [.string ⟨t.toArray⟩, v1, v2, v3] 29 := by
    unfold Bk at hC ⊢
    rw [← h68.block _ hcl]; exact hC
  refine ⟨.slice (some ⟨gg, 0, none⟩) n cap, ml ++ [y'], hC9.set 3 _, hown.set_other (fun e => hgc (Option.some.inj e)) 3 _, by rw [List.length_append, hml]; rfl, ?_, ?_, ?_, ?_, ?_, ?_, ?_, ?_⟩
  · intro i a b hi ha hb
    by_cases h : i < j
    · rw [List.getElem?_append_left (by omega)] at hb
      exact hsame i a b h ha hb
    · obtain rfl : i = j := by omega
      rw [List.getElem?_append_right (by omega), hml, Nat.sub_self] at hb
      rw [hy] at ha
      cases ha
      cases hb
      exact hS8
  · intro z hz
    rcases List.mem_append.1 hz with hz | hz
    · refine (((hkin z hz).mono (N' := fun g => w.heap.size + 1 + 1 < g ∧ v3.ownBlock ≠ some g ∧ g < wr.heap.size) fun g hg hN => ⟨hN.1, hN.2, hg⟩).kept hkr (fun g hN _ h => ?_)).mono fun g _ hN => ⟨hN.1, fun e => ?_⟩
      · rcases h with h | h
        · exact hN.2.1 h
        · omega
      · have e' : gg = g := Option.some.inj e
        subst e'
        rcases hat with h | h
        · exact hN.2.1 h
        · have := h68.size; omega
    · rw [List.mem_singleton.1 hz]
      refine ((hE8.mono (N' := fun g => W.heap.size ≤ g ∧ g < w8.heap.size) fun g hg hN => ⟨hN, hg⟩).kept hk89 (fun g hN _ h => ?_)).mono fun g _ hN => ⟨by omega, fun e => ?_⟩
      · rcases h with h | h
        · have := hvl g h; omega
        · omega
      · have e' : gg = g := Option.some.inj e
        subst e'
        rcases hat with h | h
        · have := hvl gg h; omega
        · omega
  · exact hkr.own hO1 fun g e h => by
      rcases h with h | h
      · exact hO1.ne_own hO0 (by decide) g e h
      · exact hO1.ne_bk hC0 (by decide) (h ▸ e)
  · exact hkr.own hO2 fun g e h => by
      rcases h with h | h
      · exact hO2.ne_own hO0 (by decide) g e h
      · exact hO2.ne_bk hC0 (by decide) (h ▸ e)
  · exact hkr.bk hZ fun h => by
      rcases h with h | h
      · exact hn1 h
      · omega
  · intro e
    have e' : gg = w.heap.size + 1 := Option.some.inj e
    rcases hat with h | h
    · exact hn1 (by rw [h, e'])
    · have := h68.size; omega
  · intro e
    exact hgc (Option.some.inj e)
  · exact hbel.trans (hkr.below (fun g h => h.elim (fun h => (hvl g h).1) (fun h => by omega)) hbel.size)
/-- at the end -/
theorem CL.done {w wr : World} {t : Bytes} {aa sa ua : Option Addr} {ac sc uc : Nat} {al : List LoK} {sl : List Bytes} {ul ml : List En} {a1 a2 a3 : Option Addr} {c1 c2 c3 : Nat} (hO : Own wr w.heap.size 29 4 encEn (.slice a3 ml.length c3) ml) (hml : ml.length = ul.length) (hsame : ∀ (i : Nat) a b, i < ul.length → ul[i]? = some a → ml[i]? = some b → SameE a b)
    (hkin : ∀ y ∈ ml, EnIn (fun g => w.heap.size + 1 + 1 < g ∧ (Value.slice a3 ml.length c3).ownBlock ≠ some g) wr y) (hO1 : Own wr w.heap.size 79 3 encLo (.slice a1 al.length c1) al) (hO2 : Own wr w.heap.size 9 1 encS (.slice a2 sl.length c2) sl) (hZ : Bk wr (w.heap.size + 1) [.string ⟨#[]⟩, .slice none 0 0, .slice none 0 0, .slice none 0 0] 29)
    (hn1 : (Value.slice a3 ml.length c3).ownBlock ≠ some (w.heap.size + 1)) (hbel : Below w.heap.size w wr) {wf : World} (hk : Kept (fun g => g = w.heap.size + 1) wr wf) :
    CloneG (.mk t aa ac al sa sc sl ua uc ul) w (.returned (.agg #[.string ⟨t.toArray⟩, .slice a1 al.length c1, .slice a2 sl.length c2, .slice a3 ml.length c3])) wf := by
  refine ⟨a1, c1, a2, c2, a3, c3, ml, rfl, ?_, .mk hml.symm (fun i a b ha hb => hsame i a b (List.getElem?_eq_some_iff.1 ha).1 ha hb), hbel.trans (hk.below (fun g h => by omega) hbel.size)⟩
  have k1 := hk.own hO1 (fun g e h => hO1.ne_bk hZ (by decide) (h ▸ e))
  have k2 := hk.own hO2 (fun g e h => hO2.ne_bk hZ (by decide) (h ▸ e))
  have k3 := hk.own hO (fun g e h => hn1 (h ▸ e))
  refine .mk (k1.addrN encLo_ok fun g hg => (k1.block g hg).1) (k2.addrN encS_ok fun g hg => (k2.block g hg).1) (k3.addrN encEn_ok fun g hg => (k3.block g hg).1) fun y hy => ?_
  exact ((hkin y hy).kept hk (fun g hN _ h => by omega)).mono fun g _ hN => by omega
set_option maxHeartbeats 16000000 in
set_option maxRecDepth 100000 in
theorem clone_any (n : Nat) : ∀ (x : En), nE x ≤ n → EnSm x → ∀ (N : Nat → Prop) (w : World), EnIn N w x →
    Calls Tryz.prog 22 #[.agg #[.string ⟨x.term.toArray⟩, .slice x.aa x.al.length x.ac, .slice x.sa x.sl.length x.sc, .slice x.ua x.ul.length x.uc]] w (CloneG x w) := by
  induction n using Nat.strongRecOn with
  | _ n ih =>
    intro x hx hn N w hin
    obtain ⟨t, aa, ac, al, sa, sc, sl, ua, uc, ul⟩ := x
    simp only [En.term, En.aa, En.al, En.ac, En.sa, En.sl, En.sc, En.ua, En.ul, En.uc]
    rw [nE] at hx
    have hal : al.length ≤ 1000000 := by cases hn; assumption
    have hsl : sl.length ≤ 1000000 := by cases hn; assumption
    have hul : ul.length ≤ 1000000 := by cases hn; assumption
    have HREC : Hid (∀ y ∈ ul, ∀ W, Below w.heap.size w W → Calls Tryz.prog 22 #[.agg #[.string ⟨y.term.toArray⟩, .slice y.aa y.al.length y.ac, .slice y.sa y.sl.length y.sc, .slice y.ua y.ul.length y.uc]] W (CloneG y W)) := fun y hy W hb =>
      ih (nE y) (by have := nEs_mem hy; omega) y (Nat.le_refl _) (hn.kids y hy) N W ((hin.kids y hy).next hb)
    have HA1 : Hid (At w 3 encLo aa al) := hin.als.at_
    have HA2 : Hid (At w 1 encS sa sl) := hin.sls.at_
    have HA3 : Hid (At w 4 encEn ua ul) := hin.uls.at_
    clear ih hx hn hin
    go_enter Tryz.func22, Tryz.ntmps22
    go_wp2_with (at_builtin; refine hold_op _ rfl ?_)
    constructor
    have hb0 : Below w.heap.size w (((w.alloc (.cells #[.string ⟨t.toArray⟩, .slice aa al.length ac, .slice sa sl.length sc, .slice ua ul.length uc] 29)).alloc (.cells #[.string ⟨#[]⟩, .slice none 0 0, .slice none 0 0, .slice none 0 0] 29)).alloc (.cells #[.string ⟨t.toArray⟩, .slice none 0 0, .slice none 0 0, .slice none 0 0] 29)) := (((Below.refl _ _).alloc (Nat.le_refl _) _).alloc (by simp) _).alloc (by simp; omega) _
    have hE0 := ((Bk.new w #[.string ⟨t.toArray⟩, .slice aa al.length ac, .slice sa sl.length sc, .slice ua ul.length uc] 29).alloc (.cells #[.string ⟨#[]⟩, .slice none 0 0, .slice none 0 0, .slice none 0 0] 29)).alloc (.cells #[.string ⟨t.toArray⟩, .slice none 0 0, .slice none 0 0, .slice none 0 0] 29)
    have hZ0 := (Bk.new (w.alloc (.cells #[.string ⟨t.toArray⟩, .slice aa al.length ac, .slice sa sl.length sc, .slice ua ul.length uc] 29)) #[.string ⟨#[]⟩, .slice none 0 0, .slice none 0 0, .slice none 0 0] 29).alloc (.cells #[.string ⟨t.toArray⟩, .slice none 0 0, .slice none 0 0, .slice none 0 0] 29)
    have hC0 := Bk.new ((w.alloc (.cells #[.string ⟨t.toArray⟩, .slice aa al.length ac, .slice sa sl.length sc, .slice ua ul.length uc] 29)).alloc (.cells #[.string ⟨#[]⟩, .slice none 0 0, .slice none 0 0, .slice none 0 0] 29)) #[.string ⟨t.toArray⟩, .slice none 0 0, .slice none 0 0, .slice none 0 0] 29
    simp only [World.size_alloc] at hZ0 hC0
    refine wpList_cat rfl _ _ 26 rfl w.heap.size 79 3 48 slloc encLo encLo_ok (.slice none 0 0) [] rfl (Own.nil _ _ _ _ _) _ _ _ al rfl rfl (HA1.out.below hb0) (by simp; omega) (by unfold maxLen; simp; omega) w hb0 hb0.size ?_
    intro v1 w1 hown1 hb1 hg1
    rw [List.nil_append] at hown1
    obtain ⟨a1, c1, hv1⟩ := hown1.shape
    subst hv1
    have hE1 : Bk w1 w.heap.size [.string ⟨t.toArray⟩, .slice aa al.length ac, .slice sa sl.length sc, .slice ua ul.length uc] 29 := hE0.grown hg1 (fun e => by cases e)
    have hZ1 : Bk w1 (w.heap.size + 1) [.string ⟨#[]⟩, .slice none 0 0, .slice none 0 0, .slice none 0 0] 29 := hZ0.grown hg1 (fun e => by cases e)
    have hC1 : Bk w1 (w.heap.size + 1 + 1) [.string ⟨t.toArray⟩, .slice none 0 0, .slice none 0 0, .slice none 0 0] 29 := hC0.grown hg1 (fun e => by cases e)
    have HO1 := Lib.hid (hown1.set_other (hown1.ne_bk hC1 (by decide)) 1 (.slice a1 al.length c1))
    have HE1 := Lib.hid (hE1.set_other (g' := w.heap.size + 1 + 1) (by omega) 1 (.slice a1 al.length c1))
    have HZ1 := Lib.hid (hZ1.set_other (g' := w.heap.size + 1 + 1) (by omega) 1 (.slice a1 al.length c1))
    have HC1 : Hid (Bk (w1.setCell ⟨w.heap.size + 1 + 1, 1, none⟩ (.slice a1 al.length c1)) (w.heap.size + 1 + 1) [.string ⟨t.toArray⟩, .slice a1 al.length c1, .slice none 0 0, .slice none 0 0] 29) := hC1.set 1 _
    have HB1 : Hid (Below w.heap.size w (w1.setCell ⟨w.heap.size + 1 + 1, 1, none⟩ (.slice a1 al.length c1))) := hb1.setCell (by simp; omega) _
    have y0 := hE1.cell 2
    change w1.cell? ⟨w.heap.size, 2, none⟩ = some (.slice sa sl.length sc) at y0
    have y1 := hC1.cell 1
    change w1.cell? ⟨w.heap.size + 1 + 1, 1, none⟩ = some (.slice none 0 0) at y1
    have y2 := hC1.cell 2
    change w1.cell? ⟨w.heap.size + 1 + 1, 2, none⟩ = some (.slice none 0 0) at y2
    have yf := hC1.free 1
    clear hown1 hb1 hg1 hE0 hZ0 hC0 hE1 hZ1 hC1 hb0
    go_wp2_with (at_builtin; refine hold_op _ rfl ?_)
    constructor
    refine wpList_cat rfl _ _ 27 rfl w.heap.size 9 1 16 slstrs encS encS_ok (.slice none 0 0) [] rfl (Own.nil _ _ _ _ _) _ _ _ sl rfl rfl (HA2.out.below HB1.out) (by simp; omega) (by unfold maxLen; simp; omega) w HB1.out HB1.out.size ?_
    intro v2 w3 hown2 hb3 hg3
    rw [List.nil_append] at hown2
    obtain ⟨a2, c2, hv2⟩ := hown2.shape
    subst hv2
    have hE3 := HE1.out.grown hg3 (fun e => by cases e)
    have hZ3 := HZ1.out.grown hg3 (fun e => by cases e)
    have hC3 := HC1.out.grown hg3 (fun e => by cases e)
    have hO3 : Own w3 w.heap.size 79 3 encLo (.slice a1 al.length c1) al := HO1.out.kept fun k hk => hg3.block k (HO1.out.block k hk).2 (fun e => by cases e)
    have HO3 := Lib.hid (hO3.set_other (hO3.ne_bk hC3 (by decide)) 2 (.slice a2 sl.length c2))
    have HP3 := Lib.hid (hown2.set_other (hown2.ne_bk hC3 (by decide)) 2 (.slice a2 sl.length c2))
    have HE3 := Lib.hid (hE3.set_other (g' := w.heap.size + 1 + 1) (by omega) 2 (.slice a2 sl.length c2))
    have HZ3 := Lib.hid (hZ3.set_other (g' := w.heap.size + 1 + 1) (by omega) 2 (.slice a2 sl.length c2))
    have HC3 : Hid (Bk (w3.setCell ⟨w.heap.size + 1 + 1, 2, none⟩ (.slice a2 sl.length c2)) (w.heap.size + 1 + 1) [.string ⟨t.toArray⟩, .slice a1 al.length c1, .slice a2 sl.length c2, .slice none 0 0] 29) := hC3.set 2 _
    have HB3 : Hid (Below w.heap.size w (w3.setCell ⟨w.heap.size + 1 + 1, 2, none⟩ (.slice a2 sl.length c2))) := hb3.setCell (by simp; omega) _
    have z0 := hE3.cell 3
    change w3.cell? ⟨w.heap.size, 3, none⟩ = some (.slice ua ul.length uc) at z0
    have z2 := hC3.cell 2
    change w3.cell? ⟨w.heap.size + 1 + 1, 2, none⟩ = some (.slice none 0 0) at z2
    have zf := hC3.free 2
    clear hown2 hb3 hg3 hE3 hZ3 hC3 hO3 HO1 HE1 HZ1 HC1 HB1 y0 y1 y2 yf
    go_wp2_with fail
    refine wp_gen fun W4 hW4 => ?_
    rw [← hW4] at HO3 HP3 HE3 HZ3 HC3 HB3
    clear hW4 z0 z2 zf
    have HS0 : Hid (CL w t al sl ul (.slice a1 al.length c1) (.slice a2 sl.length c2) W4 0) := ⟨.slice none 0 0, [], HC3.out, Own.nil _ _ _ _ _, rfl, by intro i a b h; omega, by simp, HO3.out, HP3.out, HZ3.out, by simp [Value.ownBlock], by simp [Value.ownBlock], HB3.out⟩
    clear HO3 HP3 HE3 HZ3 HC3 HB3
    go_loopw [24] (fun v24 wr => ∃ j : Nat, j ≤ ul.length ∧ v24 = .int .i64 j ∧ Hid (CL w t al sl ul (.slice a1 al.length c1) (.slice a2 sl.length c2) wr j)) (fun v24 _ => ul.length - (intOf v24).toNat)
    case atStart => exact ⟨0, by omega, rfl, HS0.out⟩
    case round =>
      obtain ⟨j, hj, rfl, HS⟩ := hrel
      obtain ⟨v3, ml, hC, hO, hml, hsame, hkin, hO1, hO2, hZ, hn1, hn2, hbel⟩ := HS.out
      obtain ⟨a3, c3, hv3⟩ := hO.shape
      subst hv3
      have HC := Lib.hid hC
      have HO := Lib.hid hO
      have HML := Lib.hid hml
      have HSA := Lib.hid hsame
      have HKI := Lib.hid hkin
      have HO1 := Lib.hid hO1
      have HO2 := Lib.hid hO2
      have HZ := Lib.hid hZ
      have HN1 := Lib.hid hn1
      have HN2 := Lib.hid hn2
      have HBE := Lib.hid hbel
      have q0 := hC.cell 0
      have q1 := hC.cell 1
      have q2 := hC.cell 2
      have q3 := hC.cell 3
      change wr.cell? ⟨w.heap.size + 1 + 1, 0, none⟩ = some (.string ⟨t.toArray⟩) at q0
      change wr.cell? ⟨w.heap.size + 1 + 1, 1, none⟩ = some (.slice a1 al.length c1) at q1
      change wr.cell? ⟨w.heap.size + 1 + 1, 2, none⟩ = some (.slice a2 sl.length c2) at q2
      change wr.cell? ⟨w.heap.size + 1 + 1, 3, none⟩ = some (.slice a3 ml.length c3) at q3
      have hcl := hC.lt
      clear HS hC hO hml hsame hkin hO1 hO2 hZ hn1 hn2 hbel HS0
      by_cases hlt : j < ul.length
      · obtain ⟨gb, goff, hga, hgl, hgc⟩ := (HA3.out.below HBE.out).elem hlt
        subst hga
        have HY := Lib.hid (HREC.out ul[j] (List.getElem_mem hlt))
        have HGJ : Hid (ul[j]? = some ul[j]) := List.getElem?_eq_getElem hlt
        generalize ul[j] = y at *
        have d0 := hgc 0 (.string ⟨y.term.toArray⟩) rfl
        have d1 := hgc 1 (.slice y.aa y.al.length y.ac) rfl
        have d2 := hgc 2 (.slice y.sa y.sl.length y.sc) rfl
        have d3 := hgc 3 (.slice y.ua y.ul.length y.uc) rfl
        rw [Nat.add_zero] at d0
        clear hgc
        go_wp2_with fail
        refine wp_gen fun W6 hW6 => ?_
        have hb6 : Below wr.heap.size wr W6 := by subst hW6; exact (Below.refl _ _).alloc (Nat.le_refl _) _
        have HK6 : Hid (Bk W6 wr.heap.size [.string ⟨y.term.toArray⟩, .slice y.aa y.al.length y.ac, .slice y.sa y.sl.length y.sc, .slice y.ua y.ul.length y.uc] 29) := by subst hW6; exact Bk.new wr #[.string ⟨y.term.toArray⟩, .slice y.aa y.al.length y.ac, .slice y.sa y.sl.length y.sc, .slice y.ua y.ul.length y.uc] 29
        have HB6 := Lib.hid hb6
        have p0 := HK6.out.cell 0
        have p1 := HK6.out.cell 1
        have p2 := HK6.out.cell 2
        have p3 := HK6.out.cell 3
        change W6.cell? ⟨wr.heap.size, 0, none⟩ = some (.string ⟨y.term.toArray⟩) at p0
        change W6.cell? ⟨wr.heap.size, 1, none⟩ = some (.slice y.aa y.al.length y.ac) at p1
        change W6.cell? ⟨wr.heap.size, 2, none⟩ = some (.slice y.sa y.sl.length y.sc) at p2
        change W6.cell? ⟨wr.heap.size, 3, none⟩ = some (.slice y.ua y.ul.length y.uc) at p3
        have r3 := bcellN hb6 q3
        have HC6 := Lib.hid (HC.out.next hb6)
        have HO6 := Lib.hid (HO.out.below hb6 (Nat.le_refl _))
        have HBE6 : Hid (Below w.heap.size w W6) := HBE.out.trans (hb6.mono HBE.out.size)
        have HW6s : Hid (wr.heap.size ≤ W6.heap.size) := hb6.size
        have hml : ml.length ≤ 1000000 := by have := HML.out; omega
        clear hW6 hb6 q0 q1 q2 q3 d0 d1 d2 d3
        go_region_law (first
          | (go_simp; go_at_call 22; refine (HY.out _ (below_drewN HBE6.out 1)).mono ?_; rintro e w8 ⟨aa8, ac8, sa8, sc8, ua8, uc8, ul8, rfl, hE8, hS8, hb8⟩; dsimp only; have hb68 := (below_drewN (Below.refl _ W6) 1).trans hb8; have r3 := bcellN hb68 r3; have HE8 := Lib.hid hE8; have HS8 := Lib.hid hS8; have HB8 := Lib.hid hb8; have HB68 := Lib.hid hb68; have HC8 := Lib.hid (HC6.out.next hb68); have HO8 := Lib.hid (HO6.out.below hb68 (Nat.le_refl _)); have hc8l := HC8.out.lt; clear hE8 hS8 hb8 hb68)
          | (refine step_push2 (by rfl) _ _ _ (by rfl) w.heap.size 29 4 88 slen encEn encEn_ok (.slice a3 ml.length c3) ml (by rfl) (HO8.out.alloc _) (.mk y.term aa8 ac8 y.al sa8 sc8 y.sl ua8 uc8 ul8) w8.heap.size (by rfl) (fun j u hj => ((Bk.new w8 #[.string ⟨y.term.toArray⟩, .slice aa8 y.al.length ac8, .slice sa8 y.sl.length sc8, .slice ua8 ul8.length uc8] 29).cell j).trans hj) (by omega) (by unfold maxLen; omega) (by have h1 := HBE6.out.size; have h2 := HB68.out.size; simp; omega) ?_; intro gg cap w9 hown9 hgrow9 hat9; have hc9 := Bk.grown (HC8.out.alloc _) hgrow9 HN2.out; have s3 := hc9.cell 3; change w9.cell? ⟨w.heap.size + 1 + 1, 3, none⟩ = some (.slice a3 ml.length c3) at s3; have sf := hc9.free 3))
        all_goals
          have HCL : Hid (CL w t al sl ul (.slice a1 al.length c1) (.slice a2 sl.length c2) (w9.setCell ⟨w.heap.size + 1 + 1, 3, none⟩ (.slice (some ⟨gg, 0, none⟩) (ml.length + 1) cap)) (j + 1)) :=
            CL.push (W := W6) HC8.out HO8.out HO.out HML.out HSA.out HKI.out HO1.out HO2.out HZ.out HN1.out HN2.out hcl HBE.out HW6s.out HB68.out.size (HB6.out.trans (HB68.out.mono HW6s.out)) HE8.out HS8.out HGJ.out hown9 hgrow9 hat9
          clear hown9 hgrow9 hat9 hc9
          go_wp2_with fail
          go_roundw
          case rel => exact ⟨j + 1, by omega, by go_num, HCL.out⟩
          case measure => simp [intOf]; omega
      · obtain rfl : j = ul.length := by omega
        have z0 := HZ.out.cell 0
        have z1 := HZ.out.cell 1
        have z2 := HZ.out.cell 2
        have z3 := HZ.out.cell 3
        change wr.cell? ⟨w.heap.size + 1, 0, none⟩ = some (.string ⟨#[]⟩) at z0
        change wr.cell? ⟨w.heap.size + 1, 1, none⟩ = some (.slice none 0 0) at z1
        change wr.cell? ⟨w.heap.size + 1, 2, none⟩ = some (.slice none 0 0) at z2
        change wr.cell? ⟨w.heap.size + 1, 3, none⟩ = some (.slice none 0 0) at z3
        have zf := fun i => HZ.out.free i
        go_wp2_with fail
        refine bodyPost_ret (v := .agg #[.string ⟨t.toArray⟩, .slice a1 al.length c1, .slice a2 sl.length c2, .slice a3 ml.length c3]) ?_ rfl ?_
        · simp only [results, Tryz.results22]
          go_simp
        · exact CL.done HO.out HML.out HSA.out HKI.out HO1.out HO2.out HZ.out HN1.out HBE.out (((((Kept.refl (fun g => g = w.heap.size + 1) wr).setCell (p := ⟨w.heap.size + 1, 0, none⟩) rfl _).setCell (p := ⟨w.heap.size + 1, 1, none⟩) rfl _).setCell (p := ⟨w.heap.size + 1, 2, none⟩) rfl _).setCell (p := ⟨w.heap.size + 1, 3, none⟩) rfl _)
end Go.Proofs.YtohinfefidahlaaGreatDoor
