/- binderylaw16.lives. -/
import Derived.Test.YtohinfefidahlaaDoorPlaces
import Derived.Test.YtohinfefidahlaaDoorFind
import Derived.Deep.RegionHeld3
namespace Go.Proofs.YtohinfefidahlaaDoor
open Go.RowKit
set_option linter.unusedVariables false

/-- a span of text alone -/
def tSp (s : Bytes) : Sp := .mk 0 s [] [] none 0 []
/-- the chapter of lives, by the place of its first block in memory -/
def lvBl (B : Nat) : List Bl := [⟨1, 1, false, [], [], some ⟨B, 0, none⟩, 1, [tSp [79, 110, 101]], none, 0, [], [], 0⟩, ⟨1, 2, false, [116], [], some ⟨B + 1, 0, none⟩, 1, [tSp [84, 119, 111]], none, 0, [], [], 0⟩, ⟨6, 0, false, [], [], none, 0, [], none, 0, [], [], 0⟩]
def lvCh (B : Nat) : Ch := ⟨[97], some ⟨B + 2, 0, none⟩, 3, lvBl B, none, 0, [], none, 0, [], none, 0, [], none, 0, []⟩
def lvPls : List Pl := [⟨[], 1, [49], [79, 110, 101], [97, 46, 104, 116, 109, 108], [111, 110, 101]⟩, ⟨[116], 1, [49, 46, 49], [84, 119, 111], [97, 46, 104, 116, 109, 108], [116]⟩, ⟨[], 6, [49, 46, 49], [], [97, 46, 104, 116, 109, 108], [112, 97, 114, 116]⟩]
theorem s_one : slugOf [79, 110, 101] = [111, 110, 101] := by decide +kernel
theorem s_part : slugOf [] = [112, 97, 114, 116] := by decide +kernel
theorem dot1 : dotP [1] = [49] := by unfold dotP; rw [Lib.decDigits_one (by decide)]; rfl
theorem dot11 : dotP [1, 1] = [49, 46, 49] := by
  rw [show dotP [1, 1] = Lib.decDigits 1 ++ 46 :: dotP [1] from rfl, dot1, Lib.decDigits_one (by decide)]; rfl
theorem stepU_of {out : List Bytes} {s : Bytes} {j : Nat} (h : Free out s j) : stepU out s = out ++ [cand s j] := by unfold stepU; rw [nameJ_of h]
/-- names that are all unlike stay as they are -/
theorem stepU_new {out : List Bytes} {s : Bytes} (h : s ∉ out) : stepU out s = out ++ [s] := by
  rw [stepU_of (j := 0) ⟨by rw [cand_zero]; exact h, fun i hi => absurd hi (by omega)⟩, cand_zero]
theorem lv_tot (B : Nat) : (totP [lvCh B]).pls = lvPls ∧ (totP [lvCh B]).dgs = [] := by
  have h1 : totP [lvCh B] = stepC ⟨[], [], []⟩ 1 (lvCh B) := rfl
  have e1 : stepB 1 ([97] ++ htmlB) ⟨cnt0 1, [], [], [], []⟩ ⟨1, 1, false, [], [], some ⟨B, 0, none⟩, 1, [tSp [79, 110, 101]], none, 0, [], [], 0⟩ = ⟨⟨[1], [0, 1, 0, 0, 0, 0, 0, 0]⟩, [⟨[], 1, dotP [1], [79, 110, 101], [97, 46, 104, 116, 109, 108], []⟩], [slugOf [79, 110, 101]], [], []⟩ := by kernel_rfl
  have e2 : stepB 1 ([97] ++ htmlB) ⟨⟨[1], [0, 1, 0, 0, 0, 0, 0, 0]⟩, [⟨[], 1, dotP [1], [79, 110, 101], [97, 46, 104, 116, 109, 108], []⟩], [slugOf [79, 110, 101]], [], []⟩ ⟨1, 2, false, [116], [], some ⟨B + 1, 0, none⟩, 1, [tSp [84, 119, 111]], none, 0, [], [], 0⟩ = ⟨⟨[1, 1], [0, 2, 0, 0, 0, 0, 0, 0]⟩, [⟨[], 1, dotP [1], [79, 110, 101], [97, 46, 104, 116, 109, 108], []⟩, ⟨[116], 1, dotP [1, 1], [84, 119, 111], [97, 46, 104, 116, 109, 108], []⟩], [slugOf [79, 110, 101], [116]], [[116]], []⟩ := by kernel_rfl
  have e3 : stepB 1 ([97] ++ htmlB) ⟨⟨[1, 1], [0, 2, 0, 0, 0, 0, 0, 0]⟩, [⟨[], 1, dotP [1], [79, 110, 101], [97, 46, 104, 116, 109, 108], []⟩, ⟨[116], 1, dotP [1, 1], [84, 119, 111], [97, 46, 104, 116, 109, 108], []⟩], [slugOf [79, 110, 101], [116]], [[116]], []⟩ ⟨6, 0, false, [], [], none, 0, [], none, 0, [], [], 0⟩ = ⟨⟨[1, 1], [0, 2, 0, 0, 0, 0, 1, 0]⟩, [⟨[], 1, dotP [1], [79, 110, 101], [97, 46, 104, 116, 109, 108], []⟩, ⟨[116], 1, dotP [1, 1], [84, 119, 111], [97, 46, 104, 116, 109, 108], []⟩, ⟨[], 6, dotP [1, 1], [], [97, 46, 104, 116, 109, 108], []⟩], [slugOf [79, 110, 101], [116], slugOf []], [[116]], []⟩ := by kernel_rfl
  have hc : chapS 1 (lvCh B).name [] [] (lvCh B).bl = ⟨⟨[1, 1], [0, 2, 0, 0, 0, 0, 1, 0]⟩, [⟨[], 1, dotP [1], [79, 110, 101], [97, 46, 104, 116, 109, 108], []⟩, ⟨[116], 1, dotP [1, 1], [84, 119, 111], [97, 46, 104, 116, 109, 108], []⟩, ⟨[], 6, dotP [1, 1], [], [97, 46, 104, 116, 109, 108], []⟩], [slugOf [79, 110, 101], [116], slugOf []], [[116]], []⟩ := by
    unfold chapS
    rw [show (lvCh B).bl = lvBl B from rfl, show (lvCh B).name = [97] from rfl]
    unfold lvBl
    rw [List.foldl_cons, List.foldl_cons, List.foldl_cons, List.foldl_nil, e1, e2, e3]
  have hu : unlike [[111, 110, 101], [116], [112, 97, 114, 116]] = [[111, 110, 101], [116], [112, 97, 114, 116]] := by
    unfold unlike
    simp only [List.foldl_cons, List.foldl_nil]
    rw [stepU_new (by decide), stepU_new (by decide), stepU_new (by decide)]; rfl
  rw [h1]
  unfold stepC
  rw [show (⟨[], [], []⟩ : Tot).labs = [] from rfl, show (⟨[], [], []⟩ : Tot).dgs = [] from rfl, hc]
  dsimp only
  rw [s_one, s_part, hu, dot1, dot11]
  exact ⟨rfl, rfl⟩
theorem At.one_new {α : Type} {sz : Nat} {enc : α → List Value} (he : Enc sz enc) (w : World) (C : Array Value) (T : TypeId) (l : List α) (h : C.toList = l.flatMap enc) : At (w.alloc (.cells C T)) sz enc (some ⟨w.heap.size, 0, none⟩) l := by
  have hb := Bk.new w C T
  rw [h] at hb
  exact At.of_bk he hb
theorem tSp_at {w : World} {g : Nat} {s : Bytes} (h : At w 5 encSp (some ⟨g, 0, none⟩) [tSp s]) : SpsAt w (some ⟨g, 0, none⟩) [tSp s] :=
  ⟨h, fun x hx => by simp at hx; subst hx; exact .mk (At.nil _ _ _ _) (fun y hy => by cases hy)⟩
theorem lv_at (w0 W : World) (hb : Below w0.heap.size w0 W) (h0 : At W 5 encSp (some ⟨w0.heap.size, 0, none⟩) [tSp [79, 110, 101]]) (h1 : At W 5 encSp (some ⟨w0.heap.size + 1, 0, none⟩) [tSp [84, 119, 111]]) (h2 : At W 9 encBl (some ⟨w0.heap.size + 2, 0, none⟩) (lvBl w0.heap.size)) (g : Nat) (h4 : At W 6 encCh (some ⟨g, 0, none⟩) [lvCh w0.heap.size]) :
    ChsAt W (some ⟨g, 0, none⟩) [lvCh w0.heap.size] := by
  refine ⟨h4, fun c hc => ?_⟩
  simp at hc; subst hc
  refine ⟨⟨h2, fun b hb => ?_⟩, At.nil _ _ _ _, At.nil _ _ _ _, At.nil _ _ _ _, At.nil _ _ _ _⟩
  have hb' : b ∈ lvBl w0.heap.size := hb
  unfold lvBl at hb'
  simp at hb'
  rcases hb' with rfl | rfl | rfl
  · exact ⟨tSp_at h0, At.nil _ _ _ _, fun r hr => by cases hr⟩
  · exact ⟨tSp_at h1, At.nil _ _ _ _, fun r hr => by cases hr⟩
  · exact ⟨SpsAt.nil _ _, At.nil _ _ _ _, fun r hr => by cases hr⟩
theorem At.alloc {α : Type} {w : World} {sz : Nat} {enc : α → List Value} {a : Option Addr} {l : List α} (h : At w sz enc a l) (o : Obj) : At (w.alloc o) sz enc a l := h.below ((Below.refl _ _).alloc (Nat.le_refl _) o)
theorem lv_sz (B : Nat) : szM szCh [lvCh B] ≤ 20000 := of_decide_eq_true (by kernel_rfl : decide (szM szCh [lvCh B] ≤ 20000) = true)
def lvW (w : World) : World := ((((w.alloc (.cells #[.int .u8 0, .string ⟨#[79, 110, 101]⟩, .string ⟨#[]⟩, .string ⟨#[]⟩, .slice none 0 0] 47)).alloc (.cells #[.int .u8 0, .string ⟨#[84, 119, 111]⟩, .string ⟨#[]⟩, .string ⟨#[]⟩, .slice none 0 0] 47)).alloc (.cells #[.int .u8 1, .int .i64 1, .bool false, .string ⟨#[]⟩, .string ⟨#[]⟩, .slice (some ⟨w.heap.size, 0, none⟩) 1 1, .slice none 0 0, .string ⟨#[]⟩, .int .i64 0, .int .u8 1, .int .i64 2, .bool false, .string ⟨#[116]⟩, .string ⟨#[]⟩, .slice (some ⟨w.heap.size + 1, 0, none⟩) 1 1, .slice none 0 0, .string ⟨#[]⟩, .int .i64 0, .int .u8 6, .int .i64 0, .bool false, .string ⟨#[]⟩, .string ⟨#[]⟩, .slice none 0 0, .slice none 0 0, .string ⟨#[]⟩, .int .i64 0] 39)).alloc (.cells #[.string ⟨#[97]⟩, .slice (some ⟨w.heap.size + 1 + 1, 0, none⟩) 3 3, .slice none 0 0, .slice none 0 0, .slice none 0 0, .slice none 0 0] 30)).alloc (.cells #[.string ⟨#[97]⟩, .slice (some ⟨w.heap.size + 1 + 1, 0, none⟩) 3 3, .slice none 0 0, .slice none 0 0, .slice none 0 0, .slice none 0 0] 30)
theorem lvW_below (w : World) : Below w.heap.size w (lvW w) := (((((Below.refl _ _).alloc (Nat.le_refl _) _).alloc (by simp) _).alloc (by simp; omega) _).alloc (by simp; omega) _).alloc (by simp; omega) _
theorem lvW_at (w : World) : ChsAt (lvW w) (some ⟨w.heap.size + 1 + 1 + 1 + 1, 0, none⟩) [lvCh w.heap.size] := by
  refine lv_at w _ (lvW_below w) ?_ ?_ ?_ _ ?_
  · exact ((((At.one_new encSp_ok w _ 47 [tSp [79, 110, 101]] rfl).alloc _).alloc _).alloc _).alloc _
  · have h := At.one_new encSp_ok (w.alloc (.cells #[.int .u8 0, .string ⟨#[79, 110, 101]⟩, .string ⟨#[]⟩, .string ⟨#[]⟩, .slice none 0 0] 47)) _ 47 [tSp [84, 119, 111]] rfl
    rw [World.size_alloc] at h
    exact ((h.alloc _).alloc _).alloc _
  · have h := At.one_new encBl_ok ((w.alloc (.cells #[.int .u8 0, .string ⟨#[79, 110, 101]⟩, .string ⟨#[]⟩, .string ⟨#[]⟩, .slice none 0 0] 47)).alloc (.cells #[.int .u8 0, .string ⟨#[84, 119, 111]⟩, .string ⟨#[]⟩, .string ⟨#[]⟩, .slice none 0 0] 47)) _ 39 (lvBl w.heap.size) rfl
    rw [World.size_alloc, World.size_alloc] at h
    exact (h.alloc _).alloc _
  · have h := At.one_new encCh_ok ((((w.alloc (.cells #[.int .u8 0, .string ⟨#[79, 110, 101]⟩, .string ⟨#[]⟩, .string ⟨#[]⟩, .slice none 0 0] 47)).alloc (.cells #[.int .u8 0, .string ⟨#[84, 119, 111]⟩, .string ⟨#[]⟩, .string ⟨#[]⟩, .slice none 0 0] 47)).alloc (.cells #[.int .u8 1, .int .i64 1, .bool false, .string ⟨#[]⟩, .string ⟨#[]⟩, .slice (some ⟨w.heap.size, 0, none⟩) 1 1, .slice none 0 0, .string ⟨#[]⟩, .int .i64 0, .int .u8 1, .int .i64 2, .bool false, .string ⟨#[116]⟩, .string ⟨#[]⟩, .slice (some ⟨w.heap.size + 1, 0, none⟩) 1 1, .slice none 0 0, .string ⟨#[]⟩, .int .i64 0, .int .u8 6, .int .i64 0, .bool false, .string ⟨#[]⟩, .string ⟨#[]⟩, .slice none 0 0, .slice none 0 0, .string ⟨#[]⟩, .int .i64 0] 39)).alloc (.cells #[.string ⟨#[97]⟩, .slice (some ⟨w.heap.size + 1 + 1, 0, none⟩) 3 3, .slice none 0 0, .slice none 0 0, .slice none 0 0, .slice none 0 0] 30)) _ 30 [lvCh w.heap.size] rfl
    rw [World.size_alloc, World.size_alloc, World.size_alloc, World.size_alloc] at h
    exact h
theorem At.here {α : Type} {w : World} {sz : Nat} {enc : α → List Value} {g : Nat} {l : List α} (h : At w sz enc (some ⟨g, 0, none⟩) l) {k : Nat} {x : α} (hk : l[k]? = some x) {j : Nat} {u : Value} (hj : (enc x)[j]? = some u) : w.cell? ⟨g, k * sz + j, none⟩ = some u := by
  obtain ⟨hl, rfl⟩ := List.getElem?_eq_some_iff.1 hk
  obtain ⟨b, off, ha, _, hc⟩ := h.elem hl
  cases ha
  have := hc j u hj
  rwa [Nat.zero_add] at this
theorem lv_cells {w : World} {gp : Nat} (h : At w 6 encPl (some ⟨gp, 0, none⟩) lvPls) : w.cell? ⟨gp, 2, none⟩ = some (.string ⟨#[49]⟩) ∧ w.cell? ⟨gp, 4, none⟩ = some (.string ⟨#[97, 46, 104, 116, 109, 108]⟩) ∧ w.cell? ⟨gp, 5, none⟩ = some (.string ⟨#[111, 110, 101]⟩) ∧ w.cell? ⟨gp, 6, none⟩ = some (.string ⟨#[116]⟩) ∧ w.cell? ⟨gp, 7, none⟩ = some (.int .u8 1) ∧ w.cell? ⟨gp, 8, none⟩ = some (.string ⟨#[49, 46, 49]⟩) ∧ w.cell? ⟨gp, 9, none⟩ = some (.string ⟨#[84, 119, 111]⟩) ∧ w.cell? ⟨gp, 10, none⟩ = some (.string ⟨#[97, 46, 104, 116, 109, 108]⟩) ∧ w.cell? ⟨gp, 11, none⟩ = some (.string ⟨#[116]⟩) ∧ w.cell? ⟨gp, 14, none⟩ = some (.string ⟨#[49, 46, 49]⟩) ∧ w.cell? ⟨gp, 17, none⟩ = some (.string ⟨#[112, 97, 114, 116]⟩) :=
  ⟨h.here (k := 0) (j := 2) rfl rfl, h.here (k := 0) (j := 4) rfl rfl, h.here (k := 0) (j := 5) rfl rfl, h.here (k := 1) (j := 0) rfl rfl, h.here (k := 1) (j := 1) rfl rfl, h.here (k := 1) (j := 2) rfl rfl, h.here (k := 1) (j := 3) rfl rfl, h.here (k := 1) (j := 4) rfl rfl, h.here (k := 1) (j := 5) rfl rfl, h.here (k := 2) (j := 2) rfl rfl, h.here (k := 2) (j := 5) rfl rfl⟩
theorem lv_find1 (gp cp : Nat) (W : World) (h : At W 6 encPl (some ⟨gp, 0, none⟩) lvPls) : Calls Tryd.prog 12 #[.slice (some ⟨gp, 0, none⟩) 3 cp, .string ⟨#[116]⟩] W fun e w' => e = .returned (.tuple #[.agg #[.string ⟨#[116]⟩, .int .u8 1, .string ⟨#[49, 46, 49]⟩, .string ⟨#[84, 119, 111]⟩, .string ⟨#[97, 46, 104, 116, 109, 108]⟩, .string ⟨#[116]⟩], .bool true]) ∧ Below W.heap.size W w' :=
  (find_any lvPls _ cp [116] W h (by decide)).mono fun e w' h => ⟨h.1.trans (by kernel_rfl), h.2⟩
theorem lv_find2 (gp cp : Nat) (W : World) (h : At W 6 encPl (some ⟨gp, 0, none⟩) lvPls) : Calls Tryd.prog 12 #[.slice (some ⟨gp, 0, none⟩) 3 cp, .string ⟨#[120]⟩] W fun e w' => e = .returned (.tuple #[.agg #[.string ⟨#[]⟩, .int .u8 0, .string ⟨#[]⟩, .string ⟨#[]⟩, .string ⟨#[]⟩, .string ⟨#[]⟩], .bool false]) ∧ Below W.heap.size W w' :=
  (find_any lvPls _ cp [120] W h (by decide)).mono fun e w' h => ⟨h.1.trans (by kernel_rfl), h.2⟩
theorem lv_find3 (gp cp : Nat) (W : World) (h : At W 6 encPl (some ⟨gp, 0, none⟩) lvPls) : Calls Tryd.prog 12 #[.slice (some ⟨gp, 0, none⟩) 3 cp, .string ⟨#[]⟩] W fun e w' => e = .returned (.tuple #[.agg #[.string ⟨#[]⟩, .int .u8 0, .string ⟨#[]⟩, .string ⟨#[]⟩, .string ⟨#[]⟩, .string ⟨#[]⟩], .bool false]) ∧ Below W.heap.size W w' :=
  (find_any lvPls _ cp [] W h (by decide)).mono fun e w' h => ⟨h.1.trans (by kernel_rfl), h.2⟩
theorem lv_cont (gp cp : Nat) (W : World) (h : At W 6 encPl (some ⟨gp, 0, none⟩) lvPls) : Calls Tryd.prog 15 #[.slice (some ⟨gp, 0, none⟩) 3 cp] W fun e w' => (∃ a c, e = .returned (.slice a 2 c)) ∧ Below W.heap.size W w' :=
  (contents_any lvPls _ cp W h (by decide)).mono fun e w' h => by
    obtain ⟨⟨v, rfl, ho⟩, hb⟩ := h
    obtain ⟨a, c, rfl⟩ := ho.shape
    exact ⟨⟨a, c, rfl⟩, hb⟩
theorem lv_places (B g : Nat) (W : World) (hAt : ChsAt W (some ⟨g, 0, none⟩) [lvCh B]) (htab : HasTab W) : Calls Tryd.prog 8 #[.slice (some ⟨g, 0, none⟩) 1 1] W fun e w' =>
    ∃ gp cp ad cd, e = .returned (.tuple #[.slice (some ⟨gp, 0, none⟩) 3 cp, .slice ad 0 cd]) ∧ At w' 6 encPl (some ⟨gp, 0, none⟩) lvPls ∧ Below W.heap.size W w' :=
  (places_any [lvCh B] _ 1 W hAt (lv_sz _) htab).mono fun e w' h => by
    obtain ⟨⟨v, d, rfl, hp, hd⟩, hb1⟩ := h
    rw [(lv_tot B).1] at hp
    rw [(lv_tot B).2] at hd
    obtain ⟨ap, cp, rfl⟩ := hp.shape
    obtain ⟨ad, cd, rfl⟩ := hd.shape
    obtain ⟨gp, rfl, hgp1, hgp2, hgp3⟩ := hp.ptr (by decide)
    exact ⟨gp, cp, ad, cd, rfl, hp.addr encPl_ok, hb1⟩
set_option maxHeartbeats 600000 in
set_option maxRecDepth 100000 in
theorem lives16_any (w : World) (htab : HasTab w) : Calls Tryd.prog 7 #[] w fun e w' => e = .returned (.bool true) ∧ Below w.heap.size w w' := by
  have HT := Lib.hid htab
  clear htab
  go_enter Tryd.func7, Tryd.ntmps7
  go_wp2_with (go_at_call 10; go_in)
  refine calls_gen fun W hW => ?_
  have hbW : Below w.heap.size w W := by subst hW; exact lvW_below w
  have hAt : ChsAt W (some ⟨w.heap.size + 1 + 1 + 1 + 1, 0, none⟩) [lvCh w.heap.size] := by subst hW; exact lvW_at w
  clear hW
  have HBW := Lib.hid hbW
  refine (lv_places w.heap.size _ W hAt (HT.out.below hbW)).mono ?_
  rintro e w1 ⟨gp, cp, ad, cd, rfl, hp, hb1⟩
  obtain ⟨c02, c04, c05, c10, c11, c12, c13, c14, c15, c22, c25⟩ := lv_cells hp
  have HB1 : Hid (Below w.heap.size w w1) := hbW.trans (hb1.mono hbW.size)
  have HPA := Lib.hid hp
  clear hp hb1 hbW hAt
  go_wp2_with fail
  refine (lv_find1 gp cp w1 HPA.out).mono ?_
  rintro e w2 ⟨rfl, hb2⟩
  have HPA2 := Lib.hid (HPA.out.below hb2)
  have HB2 : Hid (Below w.heap.size w w2) := HB1.out.trans (hb2.mono HB1.out.size)
  clear c02 c04 c05 c22 c25 HB1 HPA hb2 c10 c11 c12 c13 c14 c15
  go_wp2_with fail
  refine calls_gen fun W3 hW3 => ?_
  have HPB := Lib.hid (show At W3 6 encPl (some ⟨gp, 0, none⟩) lvPls by subst hW3; exact HPA2.out.alloc _)
  have HB3 : Hid (Below w.heap.size w W3) := by subst hW3; exact HB2.out.alloc HB2.out.size _
  have HT4 : Hid (Bk W3 w2.heap.size (encPl ⟨[116], 1, [49, 46, 49], [84, 119, 111], [97, 46, 104, 116, 109, 108], [116]⟩) 41) := by subst hW3; exact Bk.new _ _ _
  clear hW3 HPA2 HB2
  refine (lv_find2 gp cp W3 HPB.out).mono ?_
  rintro e w4 ⟨rfl, hb4⟩
  have HPC := Lib.hid (HPB.out.below hb4)
  have HB4 : Hid (Below w.heap.size w w4) := HB3.out.trans (hb4.mono HB3.out.size)
  have HT5 := Lib.hid (HT4.out.next hb4)
  clear hb4 HPB HB3 HT4
  go_wp2_with fail
  refine calls_gen fun W5 hW5 => ?_
  have HPD := Lib.hid (show At W5 6 encPl (some ⟨gp, 0, none⟩) lvPls by subst hW5; exact HPC.out.alloc _)
  have HB5 : Hid (Below w.heap.size w W5) := by subst hW5; exact HB4.out.alloc HB4.out.size _
  have HT6 : Hid (Bk W5 w2.heap.size (encPl ⟨[116], 1, [49, 46, 49], [84, 119, 111], [97, 46, 104, 116, 109, 108], [116]⟩) 41) := by subst hW5; exact HT5.out.alloc _
  clear hW5 HPC HB4 HT5
  refine (lv_find3 gp cp W5 HPD.out).mono ?_
  rintro e w6 ⟨rfl, hb6⟩
  have HPE := Lib.hid (HPD.out.below hb6)
  have HB6 : Hid (Below w.heap.size w w6) := HB5.out.trans (hb6.mono HB5.out.size)
  have HT7 := Lib.hid (HT6.out.next hb6)
  clear hb6 HPD HB5 HT6
  go_wp2_with fail
  refine wp_gen fun W8 hW8 => ?_
  have HPF := Lib.hid (show At W8 6 encPl (some ⟨gp, 0, none⟩) lvPls by subst hW8; exact HPE.out.alloc _)
  have HB8 : Hid (Below w.heap.size w W8) := by subst hW8; exact HB6.out.alloc HB6.out.size _
  have HT8 : Hid (Bk W8 w2.heap.size (encPl ⟨[116], 1, [49, 46, 49], [84, 119, 111], [97, 46, 104, 116, 109, 108], [116]⟩) 41) := by subst hW8; exact HT7.out.alloc _
  clear hW8 HPE HB6 HT7
  have HPG : Hid (At W8.drew 6 encPl (some ⟨gp, 0, none⟩) lvPls) := HPF.out.below ⟨rfl, rfl, rfl, Nat.le_refl _, fun _ _ => rfl⟩
  have HSS : Hid (∀ W', Below W8.heap.size W8.drew W' → (fun w' => w'.cell? ⟨w2.heap.size, 0, none⟩ = some (.string ⟨#[116]⟩) ∧ w'.cell? ⟨w2.heap.size, 1, none⟩ = some (.int .u8 1) ∧ w'.cell? ⟨w2.heap.size, 2, none⟩ = some (.string ⟨#[49, 46, 49]⟩) ∧ w'.cell? ⟨w2.heap.size, 3, none⟩ = some (.string ⟨#[84, 119, 111]⟩) ∧ w'.cell? ⟨w2.heap.size, 4, none⟩ = some (.string ⟨#[97, 46, 104, 116, 109, 108]⟩) ∧ w'.cell? ⟨w2.heap.size, 5, none⟩ = some (.string ⟨#[116]⟩) ∧ w'.cell? ⟨gp, 6, none⟩ = some (.string ⟨#[116]⟩) ∧ w'.cell? ⟨gp, 7, none⟩ = some (.int .u8 1) ∧ w'.cell? ⟨gp, 8, none⟩ = some (.string ⟨#[49, 46, 49]⟩) ∧ w'.cell? ⟨gp, 9, none⟩ = some (.string ⟨#[84, 119, 111]⟩) ∧ w'.cell? ⟨gp, 10, none⟩ = some (.string ⟨#[97, 46, 104, 116, 109, 108]⟩) ∧ w'.cell? ⟨gp, 11, none⟩ = some (.string ⟨#[116]⟩)) W') := fun W' hb => by
    have h1 := HT8.out.next (w' := W') (by exact ⟨hb.os, hb.tape, hb.output, hb.size, hb.block⟩)
    obtain ⟨_, _, _, c0, c1, c2, c3, c4, c5, _, _⟩ := lv_cells (HPG.out.below hb)
    exact ⟨h1.cell 0, h1.cell 1, h1.cell 2, h1.cell 3, h1.cell 4, h1.cell 5, c0, c1, c2, c3, c4, c5⟩
  have hS0 := HSS.out W8.drew (Below.refl _ _)
  go_region_held3 (fun w' => w'.cell? ⟨w2.heap.size, 0, none⟩ = some (.string ⟨#[116]⟩) ∧ w'.cell? ⟨w2.heap.size, 1, none⟩ = some (.int .u8 1) ∧ w'.cell? ⟨w2.heap.size, 2, none⟩ = some (.string ⟨#[49, 46, 49]⟩) ∧ w'.cell? ⟨w2.heap.size, 3, none⟩ = some (.string ⟨#[84, 119, 111]⟩) ∧ w'.cell? ⟨w2.heap.size, 4, none⟩ = some (.string ⟨#[97, 46, 104, 116, 109, 108]⟩) ∧ w'.cell? ⟨w2.heap.size, 5, none⟩ = some (.string ⟨#[116]⟩) ∧ w'.cell? ⟨gp, 6, none⟩ = some (.string ⟨#[116]⟩) ∧ w'.cell? ⟨gp, 7, none⟩ = some (.int .u8 1) ∧ w'.cell? ⟨gp, 8, none⟩ = some (.string ⟨#[49, 46, 49]⟩) ∧ w'.cell? ⟨gp, 9, none⟩ = some (.string ⟨#[84, 119, 111]⟩) ∧ w'.cell? ⟨gp, 10, none⟩ = some (.string ⟨#[97, 46, 104, 116, 109, 108]⟩) ∧ w'.cell? ⟨gp, 11, none⟩ = some (.string ⟨#[116]⟩)) (first | exact hS0 | exact hS1 | go_keep) (first | (go_at_call 15; refine (lv_cont gp cp W8.drew HPG.out).mono ?_; rintro e w9 ⟨⟨a9, c9, rfl⟩, hb9⟩; have hS1 := HSS.out w9 hb9))
  have HBE : Hid (Below w.heap.size w w9) := HB8.out.trans ((show Below w.heap.size W8 W8.drew from ⟨rfl, rfl, rfl, Nat.le_refl _, fun _ _ => rfl⟩).trans (hb9.mono (by have := HB8.out.size; exact this)))
  clear hS0 hS1 hb9
  go_wp2_with fail
  go_ret
  exact ⟨rfl, HBE.out⟩
end Go.Proofs.YtohinfefidahlaaDoor
