/- binderylaw16.RefsLead: a reference to the label of a title that is there leads to it; to any other one it is told, with its line. -/
import Derived.Test.YtohinfefidahlaaDoorLive16
import Derived.Test.YtohinfefidahlaaDoorCheckR
namespace Go.Proofs.YtohinfefidahlaaDoor
open Go.RowKit
set_option linter.unusedVariables false

def ldBl (B : Nat) (L lab : Bytes) (ln : Int) : List Bl := [⟨1, 1, false, L, [], some ⟨B, 0, none⟩, 1, [tSp [79, 110, 101]], none, 0, [], [], 0⟩,
  ⟨2, 0, false, [], [], some ⟨B + 3, 0, none⟩, 1, [.mk 1 [] [] [] (some ⟨B + 2, 0, none⟩) 1 [.mk 4 lab [] [] none 0 []]], none, 0, [], [97], ln⟩]
def ldCh (B : Nat) (L lab : Bytes) (ln : Int) : Ch := ⟨[97], some ⟨B + 5, 0, none⟩, 2, ldBl B L lab ln, none, 0, [], none, 0, [], none, 0, [], none, 0, []⟩
def ldPl (L : Bytes) : Pl := ⟨L, 1, [49], [79, 110, 101], [97, 46, 104, 116, 109, 108], if L = [] then slugOf [79, 110, 101] else L⟩
theorem ld_tot (B : Nat) (L lab : Bytes) (ln : Int) : (totP [ldCh B L lab ln]).pls = [ldPl L] ∧ (totP [ldCh B L lab ln]).dgs = [] := by
  have h1 : totP [ldCh B L lab ln] = stepC ⟨[], [], []⟩ 1 (ldCh B L lab ln) := rfl
  have e1 : ∃ labs, stepB 1 ([97] ++ htmlB) ⟨cnt0 1, [], [], [], []⟩ ⟨1, 1, false, L, [], some ⟨B, 0, none⟩, 1, [tSp [79, 110, 101]], none, 0, [], [], 0⟩ = ⟨⟨[1], [0, 1, 0, 0, 0, 0, 0, 0]⟩, [⟨L, 1, dotP [1], [79, 110, 101], [97, 46, 104, 116, 109, 108], []⟩], [if L = [] then slugOf [79, 110, 101] else L], labs, []⟩ := by
    cases L with
    | nil => exact ⟨[], by kernel_rfl⟩
    | cons x t => exact ⟨[x :: t], by kernel_rfl⟩
  obtain ⟨labs, e1⟩ := e1
  have hc : chapS 1 (ldCh B L lab ln).name [] [] (ldCh B L lab ln).bl = ⟨⟨[1], [0, 1, 0, 0, 0, 0, 0, 0]⟩, [⟨L, 1, dotP [1], [79, 110, 101], [97, 46, 104, 116, 109, 108], []⟩], [if L = [] then slugOf [79, 110, 101] else L], labs, []⟩ := by
    unfold chapS
    rw [show (ldCh B L lab ln).bl = ldBl B L lab ln from rfl, show (ldCh B L lab ln).name = [97] from rfl]
    unfold ldBl
    rw [List.foldl_cons, List.foldl_cons, List.foldl_nil, e1]
    rfl
  have hu : ∀ x : Bytes, unlike [x] = [x] := fun x => by
    unfold unlike
    simp only [List.foldl_cons, List.foldl_nil]
    rw [stepU_new (by simp)]; rfl
  rw [h1]
  unfold stepC
  rw [show (⟨[], [], []⟩ : Tot).labs = [] from rfl, show (⟨[], [], []⟩ : Tot).dgs = [] from rfl, hc]
  dsimp only
  rw [hu, dot1]
  exact ⟨rfl, rfl⟩
theorem ld_ok (B : Nat) (L lab : Bytes) (ln : Int) (hL : L.length ≤ 140737488351232) : ChsOk [ldCh B L lab ln] := by
  refine ⟨by show 1 ≤ 20000; omega, by show 2 + 0 ≤ 20000; omega, fun c hc => ?_, fun c hc b hb => ?_⟩
  · simp at hc; subst hc; show 1 ≤ 20000; omega
  · simp at hc; subst hc
    have hb' : b ∈ ldBl B L lab ln := hb
    unfold ldBl at hb'
    simp at hb'
    rcases hb' with rfl | rfl
    · exact ⟨hL, fun _ => ⟨⟨by show 1 ≤ 140737488351232; omega, fun x hx => by
        have hx' : x ∈ [tSp [79, 110, 101]] := hx
        simp at hx'; subst hx'; exact .mk (Nat.zero_le _) (fun y hy => by cases hy)⟩, by show (sayL [tSp [79, 110, 101]]).length ≤ 20000; rw [show (sayL [tSp [79, 110, 101]]) = [79, 110, 101] by kernel_rfl]; decide⟩⟩
    · exact ⟨Nat.zero_le _, fun h => absurd (show ledB 2 = true from h) (by decide)⟩
theorem ld_labs (L : Bytes) : labsP [ldPl L] = if L = [] then [] else [L] := by
  unfold labsP ldPl
  by_cases h : L = [] <;> simp [h]
theorem ld_chk (labs : List Bytes) (B : Nat) (L lab : Bytes) (ln : Int) : chkCs labs [ldCh B L lab ln] = if lab ∈ labs then [] else [⟨[97], ln, 12, lab⟩] := by
  have e1 : eachL 4 [tSp [79, 110, 101]] = [] := by kernel_rfl
  have e2 : eachL 4 [.mk 1 [] [] [] (some ⟨B + 2, 0, none⟩) 1 [.mk 4 lab [] [] none 0 []]] = [⟨lab, [], []⟩] := by kernel_rfl
  have h : chkCs labs [ldCh B L lab ln] = chkT labs [97] ln [⟨lab, [], []⟩] := by
    show (chkT labs [] 0 (eachL 4 [tSp [79, 110, 101]]) ++ (chkT labs [97] ln (eachL 4 [.mk 1 [] [] [] (some ⟨B + 2, 0, none⟩) 1 [.mk 4 lab [] [] none 0 []]]) ++ [])) ++ [] = _
    rw [e1, e2, List.append_nil, List.append_nil]; rfl
  rw [h]
  unfold chkT
  by_cases hm : lab ∈ labs <;> simp [hm]
theorem ld_at (B g : Nat) (L lab : Bytes) (ln : Int) (W : World) (h0 : At W 5 encSp (some ⟨B, 0, none⟩) [tSp [79, 110, 101]]) (h2 : At W 5 encSp (some ⟨B + 2, 0, none⟩) [.mk 4 lab [] [] none 0 []]) (h3 : At W 5 encSp (some ⟨B + 3, 0, none⟩) [.mk 1 [] [] [] (some ⟨B + 2, 0, none⟩) 1 [.mk 4 lab [] [] none 0 []]])
    (h5 : At W 9 encBl (some ⟨B + 5, 0, none⟩) (ldBl B L lab ln)) (h6 : At W 6 encCh (some ⟨g, 0, none⟩) [ldCh B L lab ln]) : ChsAt W (some ⟨g, 0, none⟩) [ldCh B L lab ln] := by
  refine ⟨h6, fun c hc => ?_⟩
  simp at hc; subst hc
  refine ⟨⟨h5, fun b hb => ?_⟩, At.nil _ _ _ _, At.nil _ _ _ _, At.nil _ _ _ _, At.nil _ _ _ _⟩
  have hb' : b ∈ ldBl B L lab ln := hb
  unfold ldBl at hb'
  simp at hb'
  rcases hb' with rfl | rfl
  · exact ⟨tSp_at h0, At.nil _ _ _ _, fun r hr => by cases hr⟩
  · refine ⟨⟨h3, fun x hx => ?_⟩, At.nil _ _ _ _, fun r hr => by cases hr⟩
    simp at hx; subst hx
    refine .mk h2 fun y hy => ?_
    simp at hy; subst hy
    exact .mk (At.nil _ _ _ _) (fun z hz => by cases hz)
def ldW (w : World) (L lab : Bytes) (ln : Int) : World := (((((((w.alloc (.cells #[.int .u8 0, .string ⟨#[79, 110, 101]⟩, .string ⟨#[]⟩, .string ⟨#[]⟩, .slice none 0 0] 47)).alloc (.cells #[.int .u8 1, .int .i64 1, .bool false, .string ⟨L.toArray⟩, .string ⟨#[]⟩, .slice (some ⟨w.heap.size, 0, none⟩) 1 1, .slice none 0 0, .string ⟨#[]⟩, .int .i64 0] 39)).alloc (.cells #[.int .u8 4, .string ⟨lab.toArray⟩, .string ⟨#[]⟩, .string ⟨#[]⟩, .slice none 0 0] 47)).alloc (.cells #[.int .u8 1, .string ⟨#[]⟩, .string ⟨#[]⟩, .string ⟨#[]⟩, .slice (some ⟨w.heap.size + 1 + 1, 0, none⟩) 1 1] 47)).alloc (.cells #[.int .u8 2, .int .i64 0, .bool false, .string ⟨#[]⟩, .string ⟨#[]⟩, .slice (some ⟨w.heap.size + 1 + 1 + 1, 0, none⟩) 1 1, .slice none 0 0, .string ⟨#[97]⟩, .int .i64 ln] 39)).alloc (.cells #[.int .u8 1, .int .i64 1, .bool false, .string ⟨L.toArray⟩, .string ⟨#[]⟩, .slice (some ⟨w.heap.size, 0, none⟩) 1 1, .slice none 0 0, .string ⟨#[]⟩, .int .i64 0, .int .u8 2, .int .i64 0, .bool false, .string ⟨#[]⟩, .string ⟨#[]⟩, .slice (some ⟨w.heap.size + 1 + 1 + 1, 0, none⟩) 1 1, .slice none 0 0, .string ⟨#[97]⟩, .int .i64 ln] 39)).alloc (.cells #[.string ⟨#[97]⟩, .slice (some ⟨w.heap.size + 1 + 1 + 1 + 1 + 1, 0, none⟩) 2 2, .slice none 0 0, .slice none 0 0, .slice none 0 0, .slice none 0 0] 30))
theorem ldW_below (w : World) (L lab : Bytes) (ln : Int) : Below w.heap.size w (ldW w L lab ln) := (((((((Below.refl _ _).alloc (Nat.le_refl _) _).alloc (by simp) _).alloc (by simp; omega) _).alloc (by simp; omega) _).alloc (by simp; omega) _).alloc (by simp; omega) _).alloc (by simp; omega) _
theorem ldW_at (w : World) (L lab : Bytes) (ln : Int) : ChsAt (ldW w L lab ln) (some ⟨w.heap.size + 1 + 1 + 1 + 1 + 1 + 1, 0, none⟩) [ldCh w.heap.size L lab ln] := by
  refine ld_at w.heap.size _ L lab ln _ ?_ ?_ ?_ ?_ ?_
  · exact ((((((At.one_new encSp_ok w _ 47 [tSp [79, 110, 101]] rfl).alloc _).alloc _).alloc _).alloc _).alloc _).alloc _
  · have h := At.one_new encSp_ok ((w.alloc (.cells #[.int .u8 0, .string ⟨#[79, 110, 101]⟩, .string ⟨#[]⟩, .string ⟨#[]⟩, .slice none 0 0] 47)).alloc (.cells #[.int .u8 1, .int .i64 1, .bool false, .string ⟨L.toArray⟩, .string ⟨#[]⟩, .slice (some ⟨w.heap.size, 0, none⟩) 1 1, .slice none 0 0, .string ⟨#[]⟩, .int .i64 0] 39)) _ 47 [.mk 4 lab [] [] none 0 []] rfl
    simp only [World.size_alloc] at h
    exact (((h.alloc _).alloc _).alloc _).alloc _
  · have h := At.one_new encSp_ok (((w.alloc (.cells #[.int .u8 0, .string ⟨#[79, 110, 101]⟩, .string ⟨#[]⟩, .string ⟨#[]⟩, .slice none 0 0] 47)).alloc (.cells #[.int .u8 1, .int .i64 1, .bool false, .string ⟨L.toArray⟩, .string ⟨#[]⟩, .slice (some ⟨w.heap.size, 0, none⟩) 1 1, .slice none 0 0, .string ⟨#[]⟩, .int .i64 0] 39)).alloc (.cells #[.int .u8 4, .string ⟨lab.toArray⟩, .string ⟨#[]⟩, .string ⟨#[]⟩, .slice none 0 0] 47)) _ 47 [.mk 1 [] [] [] (some ⟨w.heap.size + 2, 0, none⟩) 1 [.mk 4 lab [] [] none 0 []]] rfl
    simp only [World.size_alloc] at h
    exact ((h.alloc _).alloc _).alloc _
  · have h := At.one_new encBl_ok (((((w.alloc (.cells #[.int .u8 0, .string ⟨#[79, 110, 101]⟩, .string ⟨#[]⟩, .string ⟨#[]⟩, .slice none 0 0] 47)).alloc (.cells #[.int .u8 1, .int .i64 1, .bool false, .string ⟨L.toArray⟩, .string ⟨#[]⟩, .slice (some ⟨w.heap.size, 0, none⟩) 1 1, .slice none 0 0, .string ⟨#[]⟩, .int .i64 0] 39)).alloc (.cells #[.int .u8 4, .string ⟨lab.toArray⟩, .string ⟨#[]⟩, .string ⟨#[]⟩, .slice none 0 0] 47)).alloc (.cells #[.int .u8 1, .string ⟨#[]⟩, .string ⟨#[]⟩, .string ⟨#[]⟩, .slice (some ⟨w.heap.size + 1 + 1, 0, none⟩) 1 1] 47)).alloc (.cells #[.int .u8 2, .int .i64 0, .bool false, .string ⟨#[]⟩, .string ⟨#[]⟩, .slice (some ⟨w.heap.size + 1 + 1 + 1, 0, none⟩) 1 1, .slice none 0 0, .string ⟨#[97]⟩, .int .i64 ln] 39)) _ 39 (ldBl w.heap.size L lab ln) rfl
    simp only [World.size_alloc] at h
    exact h.alloc _
  · have h := At.one_new encCh_ok ((((((w.alloc (.cells #[.int .u8 0, .string ⟨#[79, 110, 101]⟩, .string ⟨#[]⟩, .string ⟨#[]⟩, .slice none 0 0] 47)).alloc (.cells #[.int .u8 1, .int .i64 1, .bool false, .string ⟨L.toArray⟩, .string ⟨#[]⟩, .slice (some ⟨w.heap.size, 0, none⟩) 1 1, .slice none 0 0, .string ⟨#[]⟩, .int .i64 0] 39)).alloc (.cells #[.int .u8 4, .string ⟨lab.toArray⟩, .string ⟨#[]⟩, .string ⟨#[]⟩, .slice none 0 0] 47)).alloc (.cells #[.int .u8 1, .string ⟨#[]⟩, .string ⟨#[]⟩, .string ⟨#[]⟩, .slice (some ⟨w.heap.size + 1 + 1, 0, none⟩) 1 1] 47)).alloc (.cells #[.int .u8 2, .int .i64 0, .bool false, .string ⟨#[]⟩, .string ⟨#[]⟩, .slice (some ⟨w.heap.size + 1 + 1 + 1, 0, none⟩) 1 1, .slice none 0 0, .string ⟨#[97]⟩, .int .i64 ln] 39)).alloc (.cells #[.int .u8 1, .int .i64 1, .bool false, .string ⟨L.toArray⟩, .string ⟨#[]⟩, .slice (some ⟨w.heap.size, 0, none⟩) 1 1, .slice none 0 0, .string ⟨#[]⟩, .int .i64 0, .int .u8 2, .int .i64 0, .bool false, .string ⟨#[]⟩, .string ⟨#[]⟩, .slice (some ⟨w.heap.size + 1 + 1 + 1, 0, none⟩) 1 1, .slice none 0 0, .string ⟨#[97]⟩, .int .i64 ln] 39)) _ 30 [ldCh w.heap.size L lab ln] rfl
    simp only [World.size_alloc] at h
    exact h
theorem ld_places (B g : Nat) (L lab : Bytes) (ln : Int) (W : World) (hL : L.length ≤ 140737488351232) (hAt : ChsAt W (some ⟨g, 0, none⟩) [ldCh B L lab ln]) (htab : HasTab W) : Calls Tryd.prog 8 #[.slice (some ⟨g, 0, none⟩) 1 1] W fun e w' =>
    ∃ gp cp ad cd, e = .returned (.tuple #[.slice (some ⟨gp, 0, none⟩) 1 cp, .slice ad 0 cd]) ∧ At w' 6 encPl (some ⟨gp, 0, none⟩) [ldPl L] ∧ Below W.heap.size W w' :=
  (places_all [ldCh B L lab ln] _ 1 W hAt (ld_ok B L lab ln hL) htab).mono fun e w' h => by
    obtain ⟨⟨v, d, rfl, hp, hd⟩, hb1⟩ := h
    rw [(ld_tot B L lab ln).1] at hp
    rw [(ld_tot B L lab ln).2] at hd
    obtain ⟨ap, cp, rfl⟩ := hp.shape
    obtain ⟨ad, cd, rfl⟩ := hd.shape
    obtain ⟨gp, rfl, hgp1, hgp2, hgp3⟩ := hp.ptr (by show 0 < 1; omega)
    exact ⟨gp, cp, ad, cd, rfl, hp.addr encPl_ok, hb1⟩
theorem ld_check (B g gp cp : Nat) (L lab : Bytes) (ln : Int) (W : World) (hAt : ChsAt W (some ⟨g, 0, none⟩) [ldCh B L lab ln]) (hP : At W 6 encPl (some ⟨gp, 0, none⟩) [ldPl L]) : Calls Tryd.prog 11 #[.slice (some ⟨g, 0, none⟩) 1 1, .slice (some ⟨gp, 0, none⟩) 1 cp] W
    (CheckGives W (if lab ∈ (if L = [] then [] else [L]) then [] else [⟨[97], ln, 12, lab⟩])) := by
  have h := check_any [ldCh B L lab ln] (some ⟨g, 0, none⟩) 1 [ldPl L] (some ⟨gp, 0, none⟩) cp W hAt (of_decide_eq_true (by kernel_rfl : decide (szM nCh [ldCh B L lab ln] ≤ 20000) = true)) hP (by show 1 ≤ 20000; omega) (fun x hx b hb => by
    simp at hx; subst hx
    have hb' : b ∈ ldBl B L lab ln := hb
    unfold ldBl at hb'
    simp at hb'
    rcases hb' with rfl | rfl <;> rfl)
  rw [ld_chk, ld_labs] at h
  exact h
theorem ld_find (gp cp : Nat) (lab : Bytes) (hl : lab ≠ []) (W : World) (h : At W 6 encPl (some ⟨gp, 0, none⟩) [ldPl lab]) : Calls Tryd.prog 12 #[.slice (some ⟨gp, 0, none⟩) 1 cp, .string ⟨lab.toArray⟩] W fun e w' => e = .returned (.tuple #[.agg #[.string ⟨lab.toArray⟩, .int .u8 1, .string ⟨#[49]⟩, .string ⟨#[79, 110, 101]⟩, .string ⟨#[97, 46, 104, 116, 109, 108]⟩, .string ⟨lab.toArray⟩], .bool true]) ∧ Below W.heap.size W w' :=
  (find_any [ldPl lab] _ cp lab W h (by show 1 ≤ 1000000; omega)).mono fun e w' h => by
    have hf : findO [ldPl lab] lab = some (ldPl lab) := find_some hl (k := 0) (by show 0 < 1; omega) (fun j hj => absurd hj (by omega)) rfl
    have he : ldPl lab = ⟨lab, 1, [49], [79, 110, 101], [97, 46, 104, 116, 109, 108], lab⟩ := by unfold ldPl; rw [if_neg hl]
    rw [FindGives, hf, he] at h
    exact ⟨h.1.trans rfl, h.2⟩
set_option maxHeartbeats 8000000 in
set_option maxRecDepth 100000 in
theorem walk_ld (lab : Bytes) (there : Bool) (ln : Int) (w : World) (htab : HasTab w) (hl : lab.length ≤ 140737488351232) :
    Calls Tryd.prog 5 #[.string ⟨lab.toArray⟩, .bool there, .int .i64 ln] w fun e w' => e = .returned (.bool true) ∧ Below w.heap.size w w' := by
  have HT := Lib.hid htab
  clear htab
  cases there
  · go_enter Tryd.func5, Tryd.ntmps5
    go_wp2_with (go_at_call 10; go_in)
    refine calls_gen fun W hW => ?_
    have hbW : Below w.heap.size w W := by subst hW; exact ldW_below w [] lab ln
    have hAt : ChsAt W (some ⟨w.heap.size + 1 + 1 + 1 + 1 + 1 + 1, 0, none⟩) [ldCh w.heap.size [] lab ln] := by subst hW; exact ldW_at w [] lab ln
    clear hW
    have HAT := Lib.hid hAt
    have HBW := Lib.hid hbW
    refine (ld_places w.heap.size _ [] lab ln W (Nat.zero_le _) hAt (HT.out.below hbW)).mono ?_
    rintro e w1 ⟨gp, cp, ad, cd, rfl, hp, hb1⟩
    have HAT1 := Lib.hid (HAT.out.keep hb1)
    have HB1 : Hid (Below w.heap.size w w1) := HBW.out.trans (hb1.mono HBW.out.size)
    have HP1 := Lib.hid hp
    clear hAt hbW hp hb1 HAT
    go_wp2_with fail
    refine (ld_check w.heap.size _ gp cp [] lab ln w1 HAT1.out HP1.out).mono ?_
    rintro e w2 ⟨⟨v2, rfl, ho⟩, hb2⟩
    rw [if_neg (by simp)] at ho
    obtain ⟨af, cf, rfl⟩ := ho.shape
    obtain ⟨gf, rfl, hgf1, hgf2, hgf3⟩ := ho.ptr (by show 0 < 1; omega)
    have f0 : w2.cell? ⟨gf, 0, none⟩ = some (.string ⟨#[97]⟩) := ho.cellAt encDg_ok (k := 0) (j := 0) rfl rfl
    have f1 : w2.cell? ⟨gf, 1, none⟩ = some (.int .i64 ln) := ho.cellAt encDg_ok (k := 0) (j := 1) rfl rfl
    have f2 : w2.cell? ⟨gf, 2, none⟩ = some (.int .i64 12) := ho.cellAt encDg_ok (k := 0) (j := 2) rfl rfl
    have f3 : w2.cell? ⟨gf, 3, none⟩ = some (.string ⟨lab.toArray⟩) := ho.cellAt encDg_ok (k := 0) (j := 3) rfl rfl
    have HB2 : Hid (Below w.heap.size w w2) := HB1.out.trans (hb2.mono HB1.out.size)
    clear ho hb2 HAT1 HP1 HB1 HBW
    go_wp2_with (go_at_call 7; refine (lives16_any w2 (HT.out.below HB2.out)).mono ?_; rintro e w3 ⟨rfl, hb3⟩; have HB3 : Hid (Below w.heap.size w w3) := HB2.out.trans (hb3.mono HB2.out.size))
    go_ret
    exact ⟨rfl, HB3.out⟩
  by_cases hne : lab = []
  · subst hne
    have hle : ([] : Bytes).isEmpty = true := rfl
    go_enter Tryd.func5, Tryd.ntmps5
    go_wp2_with (go_at_call 10; go_in)
    refine calls_gen fun W hW => ?_
    have hbW : Below w.heap.size w W := by subst hW; exact ldW_below w [] [] ln
    have hAt : ChsAt W (some ⟨w.heap.size + 1 + 1 + 1 + 1 + 1 + 1, 0, none⟩) [ldCh w.heap.size [] [] ln] := by subst hW; exact ldW_at w [] [] ln
    clear hW
    have HAT := Lib.hid hAt
    have HBW := Lib.hid hbW
    refine (ld_places w.heap.size _ [] [] ln W (Nat.zero_le _) hAt (HT.out.below hbW)).mono ?_
    rintro e w1 ⟨gp, cp, ad, cd, rfl, hp, hb1⟩
    have HAT1 := Lib.hid (HAT.out.keep hb1)
    have HB1 : Hid (Below w.heap.size w w1) := HBW.out.trans (hb1.mono HBW.out.size)
    have HP1 := Lib.hid hp
    clear hAt hbW hp hb1 HAT
    go_wp2_with fail
    refine (ld_check w.heap.size _ gp cp [] [] ln w1 HAT1.out HP1.out).mono ?_
    rintro e w2 ⟨⟨v2, rfl, ho⟩, hb2⟩
    rw [if_neg (by simp)] at ho
    obtain ⟨af, cf, rfl⟩ := ho.shape
    obtain ⟨gf, rfl, hgf1, hgf2, hgf3⟩ := ho.ptr (by show 0 < 1; omega)
    have f0 : w2.cell? ⟨gf, 0, none⟩ = some (.string ⟨#[97]⟩) := ho.cellAt encDg_ok (k := 0) (j := 0) rfl rfl
    have f1 : w2.cell? ⟨gf, 1, none⟩ = some (.int .i64 ln) := ho.cellAt encDg_ok (k := 0) (j := 1) rfl rfl
    have f2 : w2.cell? ⟨gf, 2, none⟩ = some (.int .i64 12) := ho.cellAt encDg_ok (k := 0) (j := 2) rfl rfl
    have f3 : w2.cell? ⟨gf, 3, none⟩ = some (.string ⟨#[]⟩) := ho.cellAt encDg_ok (k := 0) (j := 3) rfl rfl
    have HB2 : Hid (Below w.heap.size w w2) := HB1.out.trans (hb2.mono HB1.out.size)
    clear ho hb2 HAT1 HP1 HB1 HBW
    go_wp2_with (go_at_call 7; refine (lives16_any w2 (HT.out.below HB2.out)).mono ?_; rintro e w3 ⟨rfl, hb3⟩; have HB3 : Hid (Below w.heap.size w w3) := HB2.out.trans (hb3.mono HB2.out.size))
    go_ret
    exact ⟨rfl, HB3.out⟩
  · have hle : lab.isEmpty = false := by
      cases lab with
      | nil => exact absurd rfl hne
      | cons _ _ => rfl
    have HNE := Lib.hid hne
    clear hne
    go_enter Tryd.func5, Tryd.ntmps5
    go_wp2_with (go_at_call 10; go_in)
    refine calls_gen fun W hW => ?_
    have hbW : Below w.heap.size w W := by subst hW; exact ldW_below w lab lab ln
    have hAt : ChsAt W (some ⟨w.heap.size + 1 + 1 + 1 + 1 + 1 + 1, 0, none⟩) [ldCh w.heap.size lab lab ln] := by subst hW; exact ldW_at w lab lab ln
    clear hW
    have HAT := Lib.hid hAt
    have HBW := Lib.hid hbW
    refine (ld_places w.heap.size _ lab lab ln W hl hAt (HT.out.below hbW)).mono ?_
    rintro e w1 ⟨gp, cp, ad, cd, rfl, hp, hb1⟩
    have HAT1 := Lib.hid (HAT.out.keep hb1)
    have HB1 : Hid (Below w.heap.size w w1) := HBW.out.trans (hb1.mono HBW.out.size)
    have HP1 := Lib.hid hp
    clear hAt hbW hp hb1 HAT
    go_wp2_with fail
    refine (ld_check w.heap.size _ gp cp lab lab ln w1 HAT1.out HP1.out).mono ?_
    rintro e w2 ⟨⟨v2, rfl, ho⟩, hb2⟩
    rw [if_neg HNE.out, if_pos (by simp)] at ho
    obtain ⟨af, cf, rfl⟩ := ho.shape
    have HB2 : Hid (Below w.heap.size w w2) := HB1.out.trans (hb2.mono HB1.out.size)
    have HP2 := Lib.hid (HP1.out.below hb2)
    clear ho hb2 HAT1 HP1 HB1 HBW
    go_wp2_with fail
    refine (ld_find gp cp lab HNE.out w2 HP2.out).mono ?_
    rintro e w3 ⟨rfl, hb3⟩
    have HB3 : Hid (Below w.heap.size w w3) := HB2.out.trans (hb3.mono HB2.out.size)
    clear hb3 HP2 HB2
    have HB4 : Hid (Below w.heap.size w (w3.alloc (.cells #[.string ⟨lab.toArray⟩, .int .u8 1, .string ⟨#[49]⟩, .string ⟨#[79, 110, 101]⟩, .string ⟨#[97, 46, 104, 116, 109, 108]⟩, .string ⟨lab.toArray⟩] 41))) := HB3.out.alloc HB3.out.size _
    go_wp2_with fail
    refine (lives16_any _ (HT.out.below HB4.out)).mono ?_
    rintro e w5 ⟨rfl, hb5⟩
    have HB5 : Hid (Below w.heap.size w w5) := HB4.out.trans (hb5.mono HB4.out.size)
    go_wp2_with fail
    go_ret
    exact ⟨rfl, HB5.out⟩
theorem walk_RefsLead (w : World) (lab : Bytes) (hl : lab.length ≤ reachBytes) (there : Bool) (ln : Int) (_hn : -9223372036854775808 ≤ ln ∧ ln ≤ 9223372036854775807) (htab : Lib.TabIs Tryd.prog w "internal/strconv.uint64pow10" .u64 Lib.pow10Tab) :
    Calls Tryd.prog 5 #[.string ⟨lab.toArray⟩, .bool there, .int .i64 ln] w fun e w' => e = .returned (.bool true) ∧ Below w.heap.size w w' := walk_ld lab there ln w htab hl
end Go.Proofs.YtohinfefidahlaaDoor

