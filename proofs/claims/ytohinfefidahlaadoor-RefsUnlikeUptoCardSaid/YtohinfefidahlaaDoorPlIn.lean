/- refs.Places: what holds between two blocks of a chapter. -/
import Derived.Test.YtohinfefidahlaaDoorPlLaw
import Derived.Test.YtohinfefidahlaaDoorMap
namespace Go.Proofs.YtohinfefidahlaaDoor
open Go.RowKit
set_option linter.unusedVariables false

theorem slpl : SlTy Tryd.prog 31 41 6 88 := ⟨Tryd.underlying31, .agg #[.string ⟨#[]⟩, .int .u8 0, .string ⟨#[]⟩, .string ⟨#[]⟩, .string ⟨#[]⟩, .string ⟨#[]⟩], by kernel_rfl, rfl, by decide⟩
theorem sldg : SlTy Tryd.prog 26 53 4 48 := ⟨Tryd.underlying26, .agg #[.string ⟨#[]⟩, .int .i64 0, .int .i64 0, .string ⟨#[]⟩], by kernel_rfl, rfl, by decide⟩

section
variable {α : Type} {w w' : World} {B : Nat} {e : TypeId} {sz : Nat} {enc : α → List Value} {v : Value} {l : List α}
theorem Own.grown {row : Option Nat} (h : Own w B e sz enc v l) (hg : w.grownBy w' row) (hne : ∀ k, v.ownBlock = some k → row ≠ some k) : Own w' B e sz enc v l :=
  h.kept fun k hk => hg.block k (h.block k hk).2 fun e => hne k hk e.symm
theorem Bk.grownBy {row : Option Nat} {g : Nat} {C : List Value} {T : TypeId} (h : Bk w g C T) (hg : w.grownBy w' row) (hne : row ≠ some g) : Bk w' g C T := h.of_block (hg.block g h.lt fun e => hne e.symm)
end
theorem CntAt.grown {w w' : World} {B g p : Nat} {c : Cnt} {row : Option Nat} (h : CntAt w B g p c) (hg : w.grownBy w' row) (h1 : row ≠ some g) (h2 : ∀ v : Value, Own w B 3 1 encI v c.ts → ∀ k, v.ownBlock = some k → row ≠ some k) : CntAt w' B g p c := by
  obtain ⟨v, hb, ho⟩ := h
  exact ⟨v, hb.grownBy hg h1, ho.grown hg (h2 v ho)⟩
theorem CntAt.bk {w : World} {B g p : Nat} {c : Cnt} (h : CntAt w B g p c) : ∃ C, Bk w g C 62 := by
  obtain ⟨v, hb, _⟩ := h
  exact ⟨_, hb⟩

/-- what holds between two blocks: places, faults, anchors, how often each label was there, the counts, the chapter itself -/
structure PIn (w : World) (B g8 g9 p : Nat) (C8 : List Value) (v4 v5 v11 : Value) (P : List Pl) (D : List Dg) (A : List Bytes) (L : List Bytes) (c : Cnt) : Prop where
  pl : Own w B 41 6 encPl v4 P
  dg : Own w B 53 4 encDg v5 D
  an : Own w B 9 1 encS v11 A
  mp : ∃ m, SMap w B m ∧ LInv L m
  ct : CntAt w B g9 p c
  ch : Bk w g8 C8 30
  l8 : B < g8
  l9 : g8 < g9
section
variable {w w' : World} {B g8 g9 p : Nat} {C8 : List Value} {v4 v5 v11 v : Value} {P : List Pl} {D : List Dg} {A : List Bytes} {L : List Bytes} {c : Cnt}
theorem PIn.next (h : PIn w B g8 g9 p C8 v4 v5 v11 P D A L c) (hb : Below w.heap.size w w') : PIn w' B g8 g9 p C8 v4 v5 v11 P D A L c := by
  obtain ⟨m, hm, hl⟩ := h.mp
  exact ⟨h.pl.next rfl hb, h.dg.next rfl hb, h.an.next rfl hb, ⟨m, hm.below hb hm.lt, hl⟩, h.ct.next hb, h.ch.next hb, h.l8, h.l9⟩
theorem PIn.drewN (h : PIn w B g8 g9 p C8 v4 v5 v11 P D A L c) (n : Nat) : PIn (w.drewN n) B g8 g9 p C8 v4 v5 v11 P D A L c := h.next ⟨rfl, rfl, rfl, Nat.le_refl _, fun _ _ => rfl⟩
theorem PIn.alloc (h : PIn w B g8 g9 p C8 v4 v5 v11 P D A L c) (o : Obj) : PIn (w.alloc o) B g8 g9 p C8 v4 v5 v11 P D A L c := h.next ((Below.refl _ _).alloc (Nat.le_refl _) o)
theorem PIn.sz (h : PIn w B g8 g9 p C8 v4 v5 v11 P D A L c) : B ≤ w.heap.size := by have := h.ch.lt; have := h.l8; omega
theorem PIn.numbered (h : PIn w B g8 g9 p C8 v4 v5 v11 P D A L c) {c' : Cnt} (hk : Kept (fun x => x = g9) w w') (hc : CntAt w' B g9 p c') : PIn w' B g8 g9 p C8 v4 v5 v11 P D A L c' := by
  obtain ⟨m, hm, hl⟩ := h.mp
  obtain ⟨C, hC⟩ := h.ct.bk
  have := h.l8; have := h.l9
  exact ⟨hk.own h.pl fun g hg e => h.pl.ne_bk hC (by decide) (by rw [hg, e]), hk.own h.dg fun g hg e => h.dg.ne_bk hC (by decide) (by rw [hg, e]), hk.own h.an fun g hg e => h.an.ne_bk hC (by decide) (by rw [hg, e]),
    ⟨m, hm.of_block (hk.block B hm.lt (by omega)), hl⟩, hc, hk.bk h.ch (by omega), h.l8, h.l9⟩
theorem PIn.pushPl (h : PIn w B g8 g9 p C8 v4 v5 v11 P D A L c) {P' : List Pl} (hg : w.grownBy w' v4.ownBlock) (ho : Own w' B 41 6 encPl v P') : PIn w' B g8 g9 p C8 v v5 v11 P' D A L c := by
  obtain ⟨m, hm, hl⟩ := h.mp
  obtain ⟨C, hC⟩ := h.ct.bk
  exact ⟨ho, h.dg.grown hg fun k hk e => h.dg.ne_own h.pl (by decide) k hk e, h.an.grown hg fun k hk e => h.an.ne_own h.pl (by decide) k hk e, ⟨m, hm.push h.pl hg, hl⟩,
    h.ct.grown hg (h.pl.ne_bk hC (by decide)) (fun v hv k hk e => hv.ne_own h.pl (by decide) k hk e), h.ch.grownBy hg (h.pl.ne_bk h.ch (by decide)), h.l8, h.l9⟩
theorem PIn.pushDg (h : PIn w B g8 g9 p C8 v4 v5 v11 P D A L c) {D' : List Dg} (hg : w.grownBy w' v5.ownBlock) (ho : Own w' B 53 4 encDg v D') : PIn w' B g8 g9 p C8 v4 v v11 P D' A L c := by
  obtain ⟨m, hm, hl⟩ := h.mp
  obtain ⟨C, hC⟩ := h.ct.bk
  exact ⟨h.pl.grown hg fun k hk e => h.pl.ne_own h.dg (by decide) k hk e, ho, h.an.grown hg fun k hk e => h.an.ne_own h.dg (by decide) k hk e, ⟨m, hm.push h.dg hg, hl⟩,
    h.ct.grown hg (h.dg.ne_bk hC (by decide)) (fun v hv k hk e => hv.ne_own h.dg (by decide) k hk e), h.ch.grownBy hg (h.dg.ne_bk h.ch (by decide)), h.l8, h.l9⟩
theorem PIn.pushAn (h : PIn w B g8 g9 p C8 v4 v5 v11 P D A L c) {A' : List Bytes} (hg : w.grownBy w' v11.ownBlock) (ho : Own w' B 9 1 encS v A') : PIn w' B g8 g9 p C8 v4 v5 v P D A' L c := by
  obtain ⟨m, hm, hl⟩ := h.mp
  obtain ⟨C, hC⟩ := h.ct.bk
  exact ⟨h.pl.grown hg fun k hk e => h.pl.ne_own h.an (by decide) k hk e, h.dg.grown hg fun k hk e => h.dg.ne_own h.an (by decide) k hk e, ho, ⟨m, hm.push h.an hg, hl⟩,
    h.ct.grown hg (h.an.ne_bk hC (by decide)) (fun v hv k hk e => hv.ne_own h.an (by decide) k hk e), h.ch.grownBy hg (h.an.ne_bk h.ch (by decide)), h.l8, h.l9⟩
theorem PIn.put (h : PIn w B g8 g9 p C8 v4 v5 v11 P D A L c) {m m' : KV} {L' : List Bytes} (hm : SMap w B m) (hm' : SMap w' B m') (hL : LInv L' m') (hg : w.grownBy w' (some B)) : PIn w' B g8 g9 p C8 v4 v5 v11 P D A L' c := by
  have := h.l8; have := h.l9
  exact ⟨h.pl.mapPut hm hg, h.dg.mapPut hm hg, h.an.mapPut hm hg, ⟨m', hm', hL⟩, by
    obtain ⟨v, hb, ho⟩ := h.ct
    exact ⟨v, hb.grownBy hg (by intro e; injection e with e; omega), ho.mapPut hm hg⟩, h.ch.grownBy hg (by intro e; injection e with e; omega), h.l8, h.l9⟩
end
theorem PIn.start {wr : World} {B p : Nat} {C8 : List Value} {v4 v5 : Value} {T0 : Tot} (hP : Own wr B 41 6 encPl v4 T0.pls) (hD : Own wr B 53 4 encDg v5 T0.dgs) (hM : ∃ m, SMap wr B m ∧ LInv T0.labs m) (hB : B < wr.heap.size) {C : Array Value} (hC : C.toList = C8) :
    PIn (((wr.alloc (.cells C 30)).alloc (.cells #[.int .i64 p] 3)).alloc (.cells #[.int .i64 p, .slice (some ⟨wr.heap.size + 1, 0, none⟩) 1 1, .int .i64 0, .int .i64 0, .int .i64 0, .int .i64 0, .int .i64 0, .int .i64 0, .int .i64 0, .int .i64 0] 62))
      B wr.heap.size (wr.heap.size + 1 + 1) p C8 v4 v5 (.slice none 0 0) T0.pls T0.dgs [] T0.labs (cnt0 p) := by
  subst hC
  obtain ⟨m, hm, hl⟩ := hM
  refine ⟨((hP.alloc _).alloc _).alloc _, ((hD.alloc _).alloc _).alloc _, Own.nil _ _ _ _ _, ⟨m, ((hm.alloc _).alloc _).alloc _, hl⟩, ⟨.slice (some ⟨wr.heap.size + 1, 0, none⟩) 1 1, ?_, ?_⟩, ?_, hB, by omega⟩
  · have h := Bk.new ((wr.alloc (.cells C 30)).alloc (.cells #[.int .i64 p] 3)) #[.int .i64 p, .slice (some ⟨wr.heap.size + 1, 0, none⟩) 1 1, .int .i64 0, .int .i64 0, .int .i64 0, .int .i64 0, .int .i64 0, .int .i64 0, .int .i64 0, .int .i64 0] 62
    rw [World.size_alloc, World.size_alloc] at h
    exact h
  · have h := (Bk.new (wr.alloc (.cells C 30)) #[.int .i64 p] 3).alloc (.cells #[.int .i64 p, .slice (some ⟨wr.heap.size + 1, 0, none⟩) 1 1, .int .i64 0, .int .i64 0, .int .i64 0, .int .i64 0, .int .i64 0, .int .i64 0, .int .i64 0, .int .i64 0] 62)
    rw [World.size_alloc] at h
    exact Own.of_bk encI_ok h (by omega) rfl (by decide)
  · exact ((Bk.new wr C 30).alloc _).alloc _
/-- the anchors are short -/
theorem chS_anc_len {p : Nat} {name : Bytes} {labs : List Bytes} {dgs : List Dg} {bs : List Bl} {n : Nat} (hn : 60 ≤ n) (hb : ∀ b ∈ bs, b.label.length ≤ n) : ∀ k, k ≤ bs.length → ∀ x ∈ (chS p name labs dgs bs k).anc, x.length ≤ n
  | 0, _ => by rw [chS_zero]; intro x hx; cases hx
  | k + 1, h => by
    have ih := chS_anc_len (p := p) (name := name) (labs := labs) (dgs := dgs) hn hb k (by omega)
    have hk : k < bs.length := h
    by_cases hl : ledB bs[k].kind = true
    · rw [chS_led hk hl]
      intro x hx
      rcases List.mem_append.1 hx with hx | hx
      · exact ih x hx
      · simp at hx; subst hx
        unfold ancP
        split
        · have := (slugOf_hy (sayL bs[k].sl)).2.2; omega
        · exact hb _ (List.getElem_mem hk)
    · rw [chS_not hk hl]; exact ih
end Go.Proofs.YtohinfefidahlaaDoor
