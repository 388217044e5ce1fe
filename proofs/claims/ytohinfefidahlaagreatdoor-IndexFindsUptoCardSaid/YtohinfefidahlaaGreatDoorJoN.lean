/- binderylaw17.lives. binderylaw17.lives: the walk. -/
import Derived.Test.YtohinfefidahlaaGreatDoorJoL
import Derived.Test.YtohinfefidahlaaGreatDoorBuild
import Derived.Deep.RegionHeld3
import Derived.Laws.StructEq
namespace Go.Proofs.YtohinfefidahlaaGreatDoor
set_option linter.unusedSimpArgs false
open Go.RowKit
set_option linter.unusedVariables false

def tSp (s : Bytes) : Sp := .mk 0 s [] [] none 0 []
def l7Sp : List Sp := [.mk 5 [98] [] [] none 0 [], .mk 5 [97] [120] [] none 0 [], .mk 5 [98] [] [] none 0 [], .mk 5 [84, 104, 101, 32, 99] [] [98] none 0 []]
def l7Bl (B : Nat) : List Bl := [⟨1, 1, false, [], [], some ⟨B, 0, none⟩, 1, [tSp [79, 110, 101]], none, 0, [], [], 0⟩, ⟨2, 0, false, [], [], some ⟨B + 1, 0, none⟩, 4, l7Sp, none, 0, [], [], 0⟩]
def l7Ch (B : Nat) : Ch := ⟨[97], some ⟨B + 2, 0, none⟩, 2, l7Bl B, none, 0, [], none, 0, [], none, 0, [], none, 0, []⟩
def l7Pls : List Pl := [⟨[], 1, [49], [79, 110, 101], [97, 46, 104, 116, 109, 108], [111, 110, 101]⟩]
theorem s_one : slugOf [79, 110, 101] = [111, 110, 101] := by decide +kernel
theorem dot1 : dotP [1] = [49] := by unfold dotP; rw [Lib.decDigits_one (by decide)]; rfl
theorem stepU_of {out : List Bytes} {s : Bytes} {j : Nat} (h : Free out s j) : stepU out s = out ++ [cand s j] := by unfold stepU; rw [nameJ_of h]
theorem stepU_new {out : List Bytes} {s : Bytes} (h : s ∉ out) : stepU out s = out ++ [s] := by
  rw [stepU_of (j := 0) ⟨by rw [cand_zero]; exact h, fun i hi => absurd hi (by omega)⟩, cand_zero]
theorem l7_tot (B : Nat) : (totP [l7Ch B]).pls = l7Pls ∧ (totP [l7Ch B]).dgs = [] := by
  have h1 : totP [l7Ch B] = stepC ⟨[], [], []⟩ 1 (l7Ch B) := rfl
  have e1 : stepB 1 ([97] ++ htmlB) ⟨cnt0 1, [], [], [], []⟩ ⟨1, 1, false, [], [], some ⟨B, 0, none⟩, 1, [tSp [79, 110, 101]], none, 0, [], [], 0⟩ = ⟨⟨[1], [0, 1, 0, 0, 0, 0, 0, 0]⟩, [⟨[], 1, dotP [1], [79, 110, 101], [97, 46, 104, 116, 109, 108], []⟩], [slugOf [79, 110, 101]], [], []⟩ := by kernel_rfl
  have e2 : ∀ X : St, stepB 1 ([97] ++ htmlB) X ⟨2, 0, false, [], [], some ⟨B + 1, 0, none⟩, 4, l7Sp, none, 0, [], [], 0⟩ = X := fun X => by
    unfold stepB ledB
    simp
  have hc : chapS 1 (l7Ch B).name [] [] (l7Ch B).bl = ⟨⟨[1], [0, 1, 0, 0, 0, 0, 0, 0]⟩, [⟨[], 1, dotP [1], [79, 110, 101], [97, 46, 104, 116, 109, 108], []⟩], [slugOf [79, 110, 101]], [], []⟩ := by
    unfold chapS
    rw [show (l7Ch B).bl = l7Bl B from rfl, show (l7Ch B).name = [97] from rfl]
    unfold l7Bl
    rw [List.foldl_cons, List.foldl_cons, List.foldl_nil, e1, e2]
  have hu : unlike [[111, 110, 101]] = [[111, 110, 101]] := by
    unfold unlike
    simp only [List.foldl_cons, List.foldl_nil]
    rw [stepU_new (by decide)]; rfl
  rw [h1]
  unfold stepC
  rw [show (⟨[], [], []⟩ : Tot).labs = [] from rfl, show (⟨[], [], []⟩ : Tot).dgs = [] from rfl, hc]
  dsimp only
  rw [s_one, hu, dot1]
  exact ⟨rfl, rfl⟩
def H7 : LoK := loOf [97, 46, 104, 116, 109, 108] [111, 110, 101] [49]
def l7tl : List Tl := [⟨[98], [], [], H7⟩, ⟨[97], [120], [], H7⟩, ⟨[98], [], [], H7⟩, ⟨[84, 104, 101, 32, 99], [], [98], H7⟩]
theorem l7_all (B : Nat) : (allBS l7Pls [l7Ch B] 1).tl = l7tl ∧ (allBS l7Pls [l7Ch B] 1).ws = [⟨[], 0, 14, [98]⟩] := by
  have h1 : allBS l7Pls [l7Ch B] 1 = stepBS (stepBS (chBS0 (allBS l7Pls [l7Ch B] 0) 1 (l7Ch B)) ⟨1, 1, false, [], [], some ⟨B, 0, none⟩, 1, [tSp [79, 110, 101]], none, 0, [], [], 0⟩) ⟨2, 0, false, [], [], some ⟨B + 1, 0, none⟩, 4, l7Sp, none, 0, [], [], 0⟩ := rfl
  have h2 : stepBS (chBS0 (allBS l7Pls [l7Ch B] 0) 1 (l7Ch B)) ⟨1, 1, false, [], [], some ⟨B, 0, none⟩, 1, [tSp [79, 110, 101]], none, 0, [], [], 0⟩ = ⟨[], H7, [], []⟩ := rfl
  rw [h1, h2]
  exact ⟨rfl, rfl⟩
theorem l7_ps : (ixOf l7tl).ps = [([98], none), ([97], none), ([97], some [120]), ([84, 104, 101, 32, 99], none)] := by kernel_rfl
theorem l7_a0 : (ixOf l7tl).at_ ([97], none) = [] := by kernel_rfl
theorem l7_a1 : (ixOf l7tl).at_ ([98], none) = [H7] := by kernel_rfl
theorem l7_s2 : (ixOf l7tl).see ([84, 104, 101, 32, 99], none) = [[98]] := by kernel_rfl
theorem n_ab : nodeO [97] [98] < 0 := by decide +kernel
theorem n_bc : nodeO [98] [84, 104, 101, 32, 99] < 0 := by decide +kernel
theorem n_ac : nodeO [97] [84, 104, 101, 32, 99] < 0 := by decide +kernel
theorem l7_ens {l : List En} (h : EnsOf (ixOf l7tl) l) : ∃ x0 x1 x2 y0, l = [x0, x1, x2] ∧ x0.term = [97] ∧ x1.term = [98] ∧ x2.term = [84, 104, 101, 32, 99] ∧ x0.al = [] ∧ x0.ul = [y0] ∧ y0.term = [120] ∧ x1.al = [H7] ∧ x2.sl = [[98]] := by
  have h1 : l.map En.term = [[97], [98], [84, 104, 101, 32, 99]] := by
    refine terms_are h.perm (h.lt (ixOf_ok _)) ?_ ?_
    · rw [l7_ps]
      show ([[97], [98], [84, 104, 101, 32, 99]] : List Bytes).Perm [[98], [97], [84, 104, 101, 32, 99]]
      exact List.Perm.swap _ _ _
    · refine .cons ?_ (.cons ?_ (.cons ?_ .nil))
      · intro b hb
        simp at hb
        rcases hb with rfl | rfl
        · exact n_ab
        · exact n_ac
      · intro b hb
        simp at hb; subst hb
        exact n_bc
      · intro b hb; cases hb
  obtain ⟨x0, t0, rfl, e0, h1⟩ := List.map_eq_cons_iff.1 h1
  obtain ⟨x1, t1, rfl, e1, h1⟩ := List.map_eq_cons_iff.1 h1
  obtain ⟨x2, t2, rfl, e2, h1⟩ := List.map_eq_cons_iff.1 h1
  have h1 := List.map_eq_nil_iff.1 h1
  subst h1
  have hu := h.under x0 (by simp)
  rw [e0] at hu
  have hp := hu.perm
  rw [l7_ps] at hp
  have hp' : (x0.ul.map En.term).Perm [[120]] := hp
  have hp2 := List.perm_singleton.1 hp'
  obtain ⟨y0, t3, hy0, hy1, h4⟩ := List.map_eq_cons_iff.1 hp2
  have h4 := List.map_eq_nil_iff.1 h4
  subst h4
  refine ⟨x0, x1, x2, y0, rfl, e0, e1, e2, ?_, hy0, hy1, ?_, ?_⟩
  · rw [h.al x0 (by simp), e0, l7_a0]
  · rw [h.al x1 (by simp), e1, l7_a1]
  · have h3 := h.see x2 (by simp)
    rw [e2, l7_s2] at h3
    exact List.perm_singleton.1 h3
theorem At.one_new {α : Type} {sz : Nat} {enc : α → List Value} (he : Enc sz enc) (w : World) (C : Array Value) (T : TypeId) (l : List α) (h : C.toList = l.flatMap enc) : At (w.alloc (.cells C T)) sz enc (some ⟨w.heap.size, 0, none⟩) l := by
  have hb := Bk.new w C T
  rw [h] at hb
  exact At.of_bk he hb
theorem At.alloc {α : Type} {w : World} {sz : Nat} {enc : α → List Value} {a : Option Addr} {l : List α} (h : At w sz enc a l) (o : Obj) : At (w.alloc o) sz enc a l := h.below ((Below.refl _ _).alloc (Nat.le_refl _) o)
theorem l7_sz (B : Nat) : szM szCh [l7Ch B] ≤ 20000 := of_decide_eq_true (by kernel_rfl : decide (szM szCh [l7Ch B] ≤ 20000) = true)
def l7W (w : World) : World := ((((w.alloc (.cells #[.int .u8 0, .string ⟨#[79, 110, 101]⟩, .string ⟨#[]⟩, .string ⟨#[]⟩, .slice none 0 0] 70)).alloc (.cells #[.int .u8 5, .string ⟨#[98]⟩, .string ⟨#[]⟩, .string ⟨#[]⟩, .slice none 0 0, .int .u8 5, .string ⟨#[97]⟩, .string ⟨#[120]⟩, .string ⟨#[]⟩, .slice none 0 0, .int .u8 5, .string ⟨#[98]⟩, .string ⟨#[]⟩, .string ⟨#[]⟩, .slice none 0 0, .int .u8 5, .string ⟨#[84, 104, 101, 32, 99]⟩, .string ⟨#[]⟩, .string ⟨#[98]⟩, .slice none 0 0] 70)).alloc (.cells #[.int .u8 1, .int .i64 1, .bool false, .string ⟨#[]⟩, .string ⟨#[]⟩, .slice (some ⟨w.heap.size, 0, none⟩) 1 1, .slice none 0 0, .string ⟨#[]⟩, .int .i64 0, .int .u8 2, .int .i64 0, .bool false, .string ⟨#[]⟩, .string ⟨#[]⟩, .slice (some ⟨w.heap.size + 1, 0, none⟩) 4 4, .slice none 0 0, .string ⟨#[]⟩, .int .i64 0] 74)).alloc (.cells #[.string ⟨#[97]⟩, .slice (some ⟨w.heap.size + 1 + 1, 0, none⟩) 2 2, .slice none 0 0, .slice none 0 0, .slice none 0 0, .slice none 0 0] 77))
theorem l7W_below (w : World) : Below w.heap.size w (l7W w) := ((((Below.refl _ _).alloc (Nat.le_refl _) _).alloc (by simp) _).alloc (by simp; omega) _).alloc (by simp; omega) _
theorem leaf_in (w : World) (k : Nat) (t s se : Bytes) : SpIn w (.mk k t s se none 0 []) := .mk (At.nil _ _ _ _) (fun y hy => by cases hy)
theorem l7W_at (w : World) : ChsAt (l7W w) (some ⟨w.heap.size + 1 + 1 + 1, 0, none⟩) [l7Ch w.heap.size] := by
  have h0 : At (l7W w) 5 encSp (some ⟨w.heap.size, 0, none⟩) [tSp [79, 110, 101]] := (((At.one_new encSp_ok w _ 70 [tSp [79, 110, 101]] rfl).alloc _).alloc _).alloc _
  have h1 : At (l7W w) 5 encSp (some ⟨w.heap.size + 1, 0, none⟩) l7Sp := by
    have h := At.one_new encSp_ok (w.alloc (.cells #[.int .u8 0, .string ⟨#[79, 110, 101]⟩, .string ⟨#[]⟩, .string ⟨#[]⟩, .slice none 0 0] 70)) _ 70 l7Sp rfl
    rw [World.size_alloc] at h
    exact (h.alloc _).alloc _
  have h2 : At (l7W w) 9 encBl (some ⟨w.heap.size + 2, 0, none⟩) (l7Bl w.heap.size) := by
    have h := At.one_new encBl_ok ((w.alloc (.cells #[.int .u8 0, .string ⟨#[79, 110, 101]⟩, .string ⟨#[]⟩, .string ⟨#[]⟩, .slice none 0 0] 70)).alloc (.cells #[.int .u8 5, .string ⟨#[98]⟩, .string ⟨#[]⟩, .string ⟨#[]⟩, .slice none 0 0, .int .u8 5, .string ⟨#[97]⟩, .string ⟨#[120]⟩, .string ⟨#[]⟩, .slice none 0 0, .int .u8 5, .string ⟨#[98]⟩, .string ⟨#[]⟩, .string ⟨#[]⟩, .slice none 0 0, .int .u8 5, .string ⟨#[84, 104, 101, 32, 99]⟩, .string ⟨#[]⟩, .string ⟨#[98]⟩, .slice none 0 0] 70)) _ 74 (l7Bl w.heap.size) rfl
    rw [World.size_alloc, World.size_alloc] at h
    exact h.alloc _
  have h3 : At (l7W w) 6 encCh (some ⟨w.heap.size + 1 + 1 + 1, 0, none⟩) [l7Ch w.heap.size] := by
    have h := At.one_new encCh_ok (((w.alloc (.cells #[.int .u8 0, .string ⟨#[79, 110, 101]⟩, .string ⟨#[]⟩, .string ⟨#[]⟩, .slice none 0 0] 70)).alloc (.cells #[.int .u8 5, .string ⟨#[98]⟩, .string ⟨#[]⟩, .string ⟨#[]⟩, .slice none 0 0, .int .u8 5, .string ⟨#[97]⟩, .string ⟨#[120]⟩, .string ⟨#[]⟩, .slice none 0 0, .int .u8 5, .string ⟨#[98]⟩, .string ⟨#[]⟩, .string ⟨#[]⟩, .slice none 0 0, .int .u8 5, .string ⟨#[84, 104, 101, 32, 99]⟩, .string ⟨#[]⟩, .string ⟨#[98]⟩, .slice none 0 0] 70)).alloc (.cells #[.int .u8 1, .int .i64 1, .bool false, .string ⟨#[]⟩, .string ⟨#[]⟩, .slice (some ⟨w.heap.size, 0, none⟩) 1 1, .slice none 0 0, .string ⟨#[]⟩, .int .i64 0, .int .u8 2, .int .i64 0, .bool false, .string ⟨#[]⟩, .string ⟨#[]⟩, .slice (some ⟨w.heap.size + 1, 0, none⟩) 4 4, .slice none 0 0, .string ⟨#[]⟩, .int .i64 0] 74)) _ 77 [l7Ch w.heap.size] rfl
    rw [World.size_alloc, World.size_alloc, World.size_alloc] at h
    exact h
  refine ⟨h3, fun c hc => ?_⟩
  simp at hc; subst hc
  refine ⟨⟨h2, fun b hb => ?_⟩, At.nil _ _ _ _, At.nil _ _ _ _, At.nil _ _ _ _, At.nil _ _ _ _⟩
  have hb' : b ∈ l7Bl w.heap.size := hb
  unfold l7Bl at hb'
  simp at hb'
  rcases hb' with rfl | rfl
  · exact ⟨⟨h0, fun x hx => by simp at hx; subst hx; exact leaf_in _ _ _ _ _⟩, At.nil _ _ _ _, fun r hr => by cases hr⟩
  · refine ⟨⟨h1, fun x hx => ?_⟩, At.nil _ _ _ _, fun r hr => by cases hr⟩
    have hx' : x ∈ l7Sp := hx
    unfold l7Sp at hx'
    simp at hx'
    rcases hx' with rfl | rfl | rfl | rfl <;> exact leaf_in _ _ _ _ _
end Go.Proofs.YtohinfefidahlaaGreatDoor

namespace Go.Proofs.YtohinfefidahlaaGreatDoor
set_option linter.unusedSimpArgs false
open Go.RowKit
set_option linter.unusedVariables false

theorem AtN.cellAt {α : Type} {N : Nat → Prop} {w : World} {sz : Nat} {enc : α → List Value} {a : Option Addr} {l : List α} (h : AtN N w sz enc a l) (hl : l ≠ []) : ∃ b off, a = some ⟨b, off, none⟩ ∧ b < w.heap.size ∧ ∀ i x, l[i]? = some x → ∀ j v, (enc x)[j]? = some v → w.cell? ⟨b, off + i * sz + j, none⟩ = some v := by
  rcases h with h | ⟨b, off, h1, h2, _, h3⟩
  · exact absurd h hl
  · exact ⟨b, off, h1, h2, fun i x hi j v hj => h3 i x hi j v hj⟩
theorem l7_places (B g : Nat) (W : World) (hAt : ChsAt W (some ⟨g, 0, none⟩) [l7Ch B]) (htab : HasTab W) : Calls Tryz.prog 17 #[.slice (some ⟨g, 0, none⟩) 1 1] W fun e w' =>
    ∃ gp cp ad cd, e = .returned (.tuple #[.slice (some ⟨gp, 0, none⟩) 1 cp, .slice ad 0 cd]) ∧ At w' 6 encPl (some ⟨gp, 0, none⟩) l7Pls ∧ 1 ≤ cp ∧ Below W.heap.size W w' :=
  (places_any [l7Ch B] _ 1 W hAt (l7_sz _) htab).mono fun e w' h => by
    obtain ⟨⟨v, d, rfl, hp, hd⟩, hb1⟩ := h
    rw [(l7_tot B).1] at hp
    rw [(l7_tot B).2] at hd
    obtain ⟨ap, cp, rfl⟩ := hp.shape
    obtain ⟨ad, cd, rfl⟩ := hd.shape
    obtain ⟨gp, rfl, hgp1, hgp2, hgp3⟩ := hp.ptr (by decide)
    exact ⟨gp, cp, ad, cd, rfl, hp.addr encPl_ok, hgp3, hb1⟩
def L7B (W : World) (e : Ending) (w' : World) : Prop :=
  ∃ ge go cg ad cd x0 x1 x2 y0, e = .returned (.tuple #[.slice (some ⟨ge, go, none⟩) 3 cg, .slice ad 0 cd]) ∧ EnsAt (fun _ => True) w' (some ⟨ge, go, none⟩) [x0, x1, x2] ∧ En.term x0 = [97] ∧ En.term x1 = [98] ∧ En.term x2 = [84, 104, 101, 32, 99] ∧ x0.al = [] ∧ x0.ul = [y0] ∧ En.term y0 = [120] ∧ x1.al = [H7] ∧ x2.sl = [[98]] ∧ (∀ x ∈ [x0, x1, x2], EnSm x) ∧ Below W.heap.size W w'
theorem l7_build (B g gp cp : Nat) (W : World) (hAt : ChsAt W (some ⟨g, 0, none⟩) [l7Ch B]) (hP : At W 6 encPl (some ⟨gp, 0, none⟩) l7Pls) (hc : 1 ≤ cp) (htab : HasTab W) :
    Calls Tryz.prog 18 #[.slice (some ⟨g, 0, none⟩) 1 1, .slice (some ⟨gp, 0, none⟩) 1 cp] W (L7B W) :=
  (build_any [l7Ch B] _ 1 l7Pls _ cp W hAt (l7_sz _) hP hc (by decide) (fun p hp => by
    have hp' : p ∈ [(⟨[], 1, [49], [79, 110, 101], [97, 46, 104, 116, 109, 108], [111, 110, 101]⟩ : Pl)] := hp
    rw [List.mem_singleton.1 hp']
    exact ⟨by decide, by decide, by decide⟩) htab).mono fun e w' h => by
    obtain ⟨⟨a, c, ul, d, rfl, hE, hU, hD⟩, hb⟩ := h
    have h1 := l7_all B
    change EnsOf (ixOf (allBS l7Pls [l7Ch B] 1).tl) ul at hU
    rw [h1.1] at hU
    have hsm := hU.small (ixOf_le l7tl) (by decide)
    obtain ⟨x0, x1, x2, y0, rfl, e0, e1, e2, e3, e4, e5, e6, e7⟩ := l7_ens hU
    have hd : diagsOf (allBS l7Pls [l7Ch B] 1) = [] := by
      unfold diagsOf
      rw [h1.1, h1.2, l7_ps]
      decide
    change Own w' W.heap.size 103 4 encDg d (diagsOf (allBS l7Pls [l7Ch B] 1)) at hD
    rw [hd] at hD
    obtain ⟨ad, cd, rfl⟩ := hD.shape
    obtain ⟨ge, go, rfl, _⟩ := hE.1.cellAt (by simp)
    exact ⟨ge, go, c, ad, cd, x0, x1, x2, y0, rfl, hE, e0, e1, e2, e3, e4, e5, e6, e7, hsm, hb⟩
set_option maxHeartbeats 8000000 in
set_option maxRecDepth 100000 in
theorem lives17_any (w : World) (htab : HasTab w) : Calls Tryz.prog 7 #[] w fun e w' => e = .returned (.bool true) ∧ Below w.heap.size w w' := by
  have HT := Lib.hid htab
  clear htab
  go_enter Tryz.func7, Tryz.ntmps7
  go_wp2_with fail
  refine calls_gen fun W hW => ?_
  have hbW : Below w.heap.size w W := by subst hW; exact l7W_below w
  have hAt : ChsAt W (some ⟨w.heap.size + 1 + 1 + 1, 0, none⟩) [l7Ch w.heap.size] := by subst hW; exact l7W_at w
  clear hW
  have HBW := Lib.hid hbW
  have HAT := Lib.hid hAt
  refine (l7_places w.heap.size _ W hAt (HT.out.below hbW)).mono ?_
  rintro e w1 ⟨gp, cp, ad, cd, rfl, hp, hcp, hb1⟩
  have HPA := Lib.hid hp
  have HB1 : Hid (Below w.heap.size w w1) := hbW.trans (hb1.mono hbW.size)
  have HA1 := Lib.hid (hAt.keep hb1)
  clear hp hb1 hbW hAt HAT
  go_wp2_with fail
  refine (l7_build w.heap.size _ gp cp w1 HA1.out HPA.out hcp (HT.out.below HB1.out)).mono ?_
  rintro e w2 ⟨ge, go, cg, ad2, cd2, x0, x1, x2, y0, rfl, hE, e0, e1, e2, e3, e4, e5, e6, e7, hsm, hb2⟩
  have HE := Lib.hid hE
  have HSM := Lib.hid hsm
  have HB2 : Hid (Below w.heap.size w w2) := HB1.out.trans (hb2.mono HB1.out.size)
  have HX : Hid (En.term x0 = [97] ∧ En.term x1 = [98] ∧ En.term x2 = [84, 104, 101, 32, 99] ∧ x0.al = [] ∧ x0.ul = [y0] ∧ En.term y0 = [120] ∧ x1.al = [H7] ∧ x2.sl = [[98]]) := ⟨e0, e1, e2, e3, e4, e5, e6, e7⟩
  obtain ⟨ge, go, ha_, hbl, hc⟩ := hE.1.cellAt (by simp)
  cases ha_
  obtain ⟨gu, uo, hau, hul, hcu⟩ := (hE.2 x0 (by simp)).uls.cellAt (by rw [e4]; simp)
  obtain ⟨gs, so, has, hsl, hcs⟩ := (hE.2 x2 (by simp)).sls.cellAt (by rw [e7]; simp)
  have c0 : w2.cell? ⟨ge, go, none⟩ = some (.string ⟨#[97]⟩) := by have h := hc 0 x0 rfl 0 _ rfl; rw [e0] at h; simpa using h
  have c1 : w2.cell? ⟨ge, go + 1, none⟩ = some (.slice x0.aa 0 x0.ac) := by have h := hc 0 x0 rfl 1 _ rfl; rw [e3] at h; simpa using h
  have c3 : w2.cell? ⟨ge, go + 3, none⟩ = some (.slice (some ⟨gu, uo, none⟩) 1 x0.uc) := by have h := hc 0 x0 rfl 3 _ rfl; rw [e4, hau] at h; simpa using h
  have c4 : w2.cell? ⟨ge, go + 4, none⟩ = some (.string ⟨#[98]⟩) := by have h := hc 1 x1 rfl 0 _ rfl; rw [e1] at h; simpa using h
  have c8 : w2.cell? ⟨ge, go + 8, none⟩ = some (.string ⟨#[84, 104, 101, 32, 99]⟩) := by have h := hc 2 x2 rfl 0 _ rfl; rw [e2] at h; simpa using h
  have c10 : w2.cell? ⟨ge, go + 8 + 2, none⟩ = some (.slice (some ⟨gs, so, none⟩) 1 x2.sc) := by have h := hc 2 x2 rfl 2 _ rfl; rw [e7, has] at h; simpa using h
  have u0 : w2.cell? ⟨gu, uo, none⟩ = some (.string ⟨#[120]⟩) := by have h := hcu 0 y0 (by rw [e4]; rfl) 0 _ rfl; rw [e5] at h; simpa using h
  have s0 : w2.cell? ⟨gs, so, none⟩ = some (.string ⟨#[98]⟩) := by have h := hcs 0 [98] (by rw [e7]; rfl) 0 _ rfl; simpa using h
  have HCS : Hid (w2.cell? ⟨ge, go + 8 + 2, none⟩ = some (.slice (some ⟨gs, so, none⟩) 1 x2.sc) ∧ w2.cell? ⟨gs, so, none⟩ = some (.string ⟨#[98]⟩)) := ⟨c10, s0⟩
  clear hE hb2 hsm e0 e1 e2 e3 e4 e5 e6 e7 hc hcu hcs hau has
  go_wp2_with fail
  refine (findE_any [x0, x1, x2] _ cg [98] (fun _ => True) w2 HE.out (show 3 ≤ 1000000 by decide) HSM.out).mono ?_
  rintro e w3 hF
  have hF3 : FoundG x1 w2 e w3 := by
    have hX := HX.out
    rcases hF with ⟨i, x, hf, hx, hG⟩ | ⟨hno, _⟩
    · have hi : i < 3 := hf.lt
      rcases (by omega : i = 0 ∨ i = 1 ∨ i = 2) with rfl | rfl | rfl
      · have := hf.term x hx
        cases hx
        rw [hX.1] at this; cases this
      · cases hx; exact hG
      · have := hf.ahead 1 x1 (by omega) rfl
        exact absurd hX.2.1 this
    · exact absurd hX.2.1 (hno x1 (by simp))
  clear hF
  obtain ⟨aa, ac, sa, sc, ua, uc, ul, rfl, hE3, hS3, hb3⟩ := hF3
  have HB3 : Hid (Below w.heap.size w w3) := HB2.out.trans (hb3.mono HB2.out.size)
  have hal := HX.out.2.2.2.2.2.2.1
  have hals : AtN (fun g => w2.heap.size ≤ g) w3 3 encLo aa x1.al := hE3.als
  rw [hal] at hals
  obtain ⟨ga, gao, haa, hgal, hca⟩ := hals.cellAt (by simp)
  subst haa
  have hH : H7.1 = ([97, 46, 104, 116, 109, 108], [111, 110, 101], [49]) := loOf_val (by decide) (by decide) (by decide)
  have a0 : w3.cell? ⟨ga, gao, none⟩ = some (.string ⟨#[97, 46, 104, 116, 109, 108]⟩) := by have h := hca 0 H7 rfl 0 _ rfl; rw [hH] at h; simpa using h
  have a1 : w3.cell? ⟨ga, gao + 1, none⟩ = some (.string ⟨#[111, 110, 101]⟩) := by have h := hca 0 H7 rfl 1 _ rfl; rw [hH] at h; simpa using h
  have a2 : w3.cell? ⟨ga, gao + 2, none⟩ = some (.string ⟨#[49]⟩) := by have h := hca 0 H7 rfl 2 _ rfl; rw [hH] at h; simpa using h
  have k10 := bcellN hb3 HCS.out.1
  have k0 := bcellN hb3 HCS.out.2
  have hge3 : ge < w3.heap.size := by have := hb3.size; omega
  have hgs3 : gs < w3.heap.size := by have := hb3.size; omega
  have hl1 : x1.al.length = 1 := by rw [hal]; rfl
  rw [hl1]
  clear c0 c1 c3 c4 c8 c10 u0 s0 hE3 hS3 hb3 hal hals hca hH hl1 HE HSM HX
  go_wp2_with fail
  go_ret
  exact ⟨rfl, HB3.out.alloc HB3.out.size _⟩
end Go.Proofs.YtohinfefidahlaaGreatDoor
