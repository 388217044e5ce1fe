/- index.add: what one term says is put. -/
import Derived.Test.YtohinfefidahlaaGreatDoorJoE
import Derived.DeepKeys5
import Derived.Deep.RegionHeld3
import Derived.StillTailTactics
import Derived.Deep.QuietTactic
import Derived.BigQuiet
import Derived.Deep.RegionLaw
import Derived.Deep.CutRange
namespace Go.Proofs.YtohinfefidahlaaGreatDoor
open Go.RowKit Go.WideMaps
set_option linter.unusedVariables false
set_option linter.unusedSimpArgs false

theorem lits_str' (d : Nat) (s : Bytes) (h : s.length ≤ 2000000) : Tryz.prog.keyLits (d + 1) 9 [.string ⟨s.toArray⟩] = some [.string s] := by
  have hs : (ByteArray.mk s.toArray).size ≤ maxLen := by rw [size_mk]; unfold maxLen; omega
  simp [Program.keyLits, Tryz.underlying9, hs]
theorem lo_enc : KEnc Tryz.prog 79 encLoV := by
  refine ⟨deep_law (m := 2) (by omega) (by kernel_rfl) (by kernel_rfl) (by kernel_rfl), fun x => ?_, fun x y h => ?_⟩
  · obtain ⟨⟨a, b, c⟩, ha, hb, hc⟩ := x
    have hk : Tryz.prog.keyType 79 = true := by kernel_rfl
    have hcl : Tryz.prog.cellsOf 79 = 3 := by kernel_rfl
    have hf : (encLoV ⟨(a, b, c), ha, hb, hc⟩).formed Tryz.prog 79 = true := by
      simp [encLoV, Value.formed, Tryz.underlying79, hcl]
    obtain ⟨n, hn⟩ : ∃ n, Tryz.prog.types.size + 1 = n + 1 + 1 := ⟨Tryz.prog.types.size - 1, by have : 1 ≤ Tryz.prog.types.size := of_decide_eq_true (by kernel_rfl); omega⟩
    have hc1 : Tryz.prog.cellsOf 9 = 1 := by kernel_rfl
    have hl : Tryz.prog.keyLits (n + 1 + 1) 79 [.string ⟨a.toArray⟩, .string ⟨b.toArray⟩, .string ⟨c.toArray⟩] = some [.string a, .string b, .string c] := by
      unfold Program.keyLits
      rw [Tryz.underlying79]
      simp [hcl, hc1, lits_str' n a ha, lits_str' n b hb, lits_str' n c hc]
    unfold keyOf
    rw [Tryz.underlying79, hk, hf, hn]
    simp only [encLoV, Value.cells, hl]
    exact ⟨_, rfl⟩
  · obtain ⟨⟨a, b, c⟩, ha⟩ := x
    obtain ⟨⟨a', b', c'⟩, hc⟩ := y
    simp only [encLoV, Value.agg.injEq] at h
    simp at h
    obtain ⟨rfl, rfl, rfl⟩ := h
    rfl

/-! ### the tree grows -/
theorem NdIn.mono {w : World} {B B' : Nat} {t : Bytes} {al : List LoK} {sl : List Bytes} {km : KV} {x : Nd} (h : NdIn w B t al sl km x) (hB : B' ≤ B) : NdIn w B' t al sl km x :=
  ⟨h.cells, h.at_.mono hB, h.been, h.see, h.under, ⟨by have := h.lo.1; omega, by have := h.lo.2.1; omega, by have := h.lo.2.2.1; omega, by have := h.lo.2.2.2; omega⟩, h.ne⟩
/-- what a step of the tree may change, and where the tree lies then -/
structure IxFr (top : Nat) (s : IxS) (D : Path → Nd) (s' : IxS) (D' : Path → Nd) (w w' : World) : Prop where
  kept : Kept (IxFt top s D) w w'
  ft : ∀ g, IxFt top s' D' g → IxFt top s D g ∨ w.heap.size ≤ g
theorem IxFr.trans {top : Nat} {s s1 s2 : IxS} {D D1 D2 : Path → Nd} {w w1 w2 : World} (h : IxFr top s D s1 D1 w w1) (k : IxFr top s1 D1 s2 D2 w1 w2) : IxFr top s D s2 D2 w w2 := by
  refine ⟨Kept.transN (n := w.heap.size) h.kept (k.kept.mono fun g hg => h.ft g hg) (Nat.le_refl _), fun g hg => ?_⟩
  rcases k.ft g hg with h1 | h1
  · exact h.ft g h1
  · exact .inr (Nat.le_trans h.kept.size h1)
theorem IxFr.refl (top : Nat) (s : IxS) (D : Path → Nd) (w : World) : IxFr top s D s D w w := ⟨Kept.refl _ _, fun g hg => .inl hg⟩
theorem IxFr.of_below {top : Nat} {s : IxS} {D : Path → Nd} {w w' : World} (hb : Below w.heap.size w w') : IxFr top s D s D w w' := ⟨Kept.of_below hb, fun g hg => .inl hg⟩
theorem grow_same {s : IxS} {p : Path} (h : p ∈ s.ps) : s.grow p = s := by
  unfold IxS.grow ins; rw [if_pos h]
def GrowG (B top : Nat) (s : IxS) (D : Path → Nd) (p : Path) (w : World) (e : Ending) (w' : World) : Prop :=
  ∃ D', e = .returned (.pointer (some ⟨(D' p).b, 0, none⟩)) ∧ Ix w' B top (s.grow p) D' ∧ IxFr top s D (s.grow p) D' w w'
theorem ixFt_grown {top : Nat} {s : IxS} {D : Path → Nd} {p : Path} {nd : Nd} (hn : p ∉ s.ps) {n : Nat} (hf : ∀ g, nd.foot g → n ≤ g) : ∀ g, IxFt top (s.grow p) (upd D p nd) g → IxFt top s D g ∨ n ≤ g := by
  have hps : (s.grow p).ps = s.ps ++ [p] := by unfold IxS.grow ins; rw [if_neg hn]
  rintro g (rfl | ⟨q, hq, hg⟩)
  · exact .inl (.inl rfl)
  · rw [hps] at hq
    rcases List.mem_append.1 hq with h1 | h1
    · rw [upd_other D nd (fun e : q = p => hn (e ▸ h1))] at hg
      exact .inl (.inr ⟨q, h1, hg⟩)
    · simp at h1; subst h1
      rw [upd_same] at hg
      exact .inr (hf g hg)
theorem growTop {w : World} {B top : Nat} {s : IxS} {D : Path → Nd} (h : Ix w B top s D) (hB : B ≤ w.heap.size) (t : Bytes) :
    Calls Tryz.prog 149 #[.map (some top), .string ⟨t.toArray⟩] w (GrowG B top s D (t, none) w) := by
  have hg := tops_get D t s.ps
  by_cases hp : (t, none) ∈ s.ps
  · rw [if_pos hp] at hg
    refine (growF h.mem hg).mono ?_
    rintro e w' ⟨rfl, rfl⟩
    exact ⟨D, rfl, by rw [grow_same hp]; exact h, by rw [grow_same hp]; exact IxFr.refl _ _ _ _⟩
  · rw [if_neg hp] at hg
    refine (growN h.mem hg).mono ?_
    rintro e w' ⟨nd, rfl, hnd, hf, hm, hk⟩
    refine ⟨upd D (t, none) nd, by rw [upd_same], h.grown hp (fun u e => by cases e) hf (hnd.mono hB) rfl hm hk, ⟨hk.mono fun g e => .inl e, ixFt_grown hp hf⟩⟩
theorem growSub {w : World} {B top : Nat} {s : IxS} {D : Path → Nd} (h : Ix w B top s D) (hB : B ≤ w.heap.size) {t : Bytes} (ht : (t, none) ∈ s.ps) (u : Bytes) :
    Calls Tryz.prog 149 #[.map (some (D (t, none)).r3), .string ⟨u.toArray⟩] w (GrowG B top s D (t, some u) w) := by
  have hg := kids_get D t u s.ps
  have hN := h.nodes _ ht
  by_cases hp : (t, some u) ∈ s.ps
  · rw [if_pos hp] at hg
    refine (growF hN.under hg).mono ?_
    rintro e w' ⟨rfl, rfl⟩
    exact ⟨D, rfl, by rw [grow_same hp]; exact h, by rw [grow_same hp]; exact IxFr.refl _ _ _ _⟩
  · rw [if_neg hp] at hg
    refine (growN hN.under hg).mono ?_
    rintro e w' ⟨nd, rfl, hnd, hf, hm, hk⟩
    refine ⟨upd D (t, some u) nd, by rw [upd_same], h.grown hp (fun u' e => ht) hf (hnd.mono hB) rfl hm hk, ⟨hk.mono fun g e => .inr ⟨_, ht, .inr (.inr (.inr (.inl e)))⟩, ixFt_grown hp hf⟩⟩
theorem IxFr.seen {w w' : World} {top : Nat} {s : IxS} {D : Path → Nd} {p : Path} (hp : p ∈ s.ps) (a : Bytes) (hk : Kept (fun g => g = (D p).r2) w w') : IxFr top s D (s.putSee p a) (upd D p (D p)) w w' := by
  refine ⟨hk.mono fun g e => .inr ⟨p, hp, .inr (.inr (.inl e))⟩, fun g hg => .inl ?_⟩
  rcases hg with rfl | ⟨q, hq, hg⟩
  · exact .inl rfl
  · refine .inr ⟨q, hq, ?_⟩
    by_cases e : q = p
    · subst e; rw [upd_same] at hg; exact hg
    · rw [upd_other D _ e] at hg; exact hg
theorem IxFr.there {top : Nat} {s : IxS} {D : Path → Nd} {w w' : World} (p : Path) (a : LoK) (hb : Below w.heap.size w w') : IxFr top s D (s.putAt p a) D w w' :=
  ⟨Kept.of_below hb, fun g hg => .inl hg⟩
theorem IxFr.pushed {w w' : World} {top : Nat} {s : IxS} {D : Path → Nd} {p : Path} (hp : p ∈ s.ps) (a : LoK) {v' : Value} (hv : ∀ g, v'.ownBlock = some g → (D p).v.ownBlock = some g ∨ w.heap.size ≤ g)
    (hk : Kept (fun g => g = (D p).r1 ∨ g = (D p).b ∨ (D p).v.ownBlock = some g) w w') : IxFr top s D (s.putAt p a) (upd D p { D p with v := v' }) w w' := by
  refine ⟨hk.mono fun g hg => .inr ⟨p, hp, ?_⟩, fun g hg => ?_⟩
  · rcases hg with hg | hg | hg
    · exact .inr (.inl hg)
    · exact .inl hg
    · exact .inr (.inr (.inr (.inr hg)))
  · rcases hg with rfl | ⟨q, hq, hg⟩
    · exact .inl (.inl rfl)
    · by_cases e : q = p
      · subst e
        rw [upd_same] at hg
        rcases hg with hg | hg | hg | hg | hg
        · exact .inl (.inr ⟨q, hp, .inl hg⟩)
        · exact .inl (.inr ⟨q, hp, .inr (.inl hg)⟩)
        · exact .inl (.inr ⟨q, hp, .inr (.inr (.inl hg))⟩)
        · exact .inl (.inr ⟨q, hp, .inr (.inr (.inr (.inl hg)))⟩)
        · rcases hv g hg with h1 | h1
          · exact .inl (.inr ⟨q, hp, .inr (.inr (.inr (.inr h1)))⟩)
          · exact .inr h1
      · rw [upd_other D _ e] at hg; exact .inl (.inr ⟨q, hq, hg⟩)
section
variable {w wy w5 : World} {B top : Nat} {s : IxS} {D : Path → Nd} {p : Path} {a : LoK} {nd : Nd}
theorem push_cells (h : Ix w B top s D) (hp : p ∈ s.ps) (hx : D p = nd) (hky : Kept (fun g => g = nd.r1) w wy) : Bk wy nd.b (ndC (termOf p) nd) 220 ∧ Own wy B 79 3 encLo nd.v (s.at_ p) := by
  subst hx
  have hN := h.nodes p hp
  exact ⟨hky.bk hN.cells (hN.cells.ne_gmap hN.been), hky.own hN.at_ (fun g hg e => hN.at_.ne_gmap hN.been (e ▸ hg))⟩
theorem push_done (h : Ix w B top s D) (hp : p ∈ s.ps) (ha : a ∉ s.at_ p) (hx : D p = nd) (hmy : GMap encLoV wy nd.r1 (gPut ((s.at_ p).map fun u => (u, unitV)) a unitV)) (hky : Kept (fun g => g = nd.r1) w wy)
    {W0 : World} (hW0 : Below wy.heap.size wy W0) (hgrow : W0.grownBy w5 nd.v.ownBlock) {gg n cap : Nat} (hown : Own w5 B 79 3 encLo (.slice (some ⟨gg, 0, none⟩) n cap) (s.at_ p ++ [a]))
    (hat : nd.v.ownBlock = some gg ∨ gg = W0.heap.size) :
    Ix (w5.setCell ⟨nd.b, 1, none⟩ (.slice (some ⟨gg, 0, none⟩) n cap)) B top (s.putAt p a) (upd D p { D p with v := .slice (some ⟨gg, 0, none⟩) n cap }) ∧
    IxFr top s D (s.putAt p a) (upd D p { D p with v := .slice (some ⟨gg, 0, none⟩) n cap }) w (w5.setCell ⟨nd.b, 1, none⟩ (.slice (some ⟨gg, 0, none⟩) n cap)) := by
  obtain ⟨hc, ho⟩ := push_cells h hp hx hky
  subst hx
  have hN := h.nodes p hp
  have hc0 : Bk W0 (D p).b (ndC (termOf p) (D p)) 220 := hc.next hW0
  have ho0 : Own W0 B 79 3 encLo (D p).v (s.at_ p) := ho.below hW0 (Nat.le_refl _)
  have hm0 : GMap encLoV W0 (D p).r1 (gPut ((s.at_ p).map fun u => (u, unitV)) a unitV) := hmy.below hW0 hmy.lt
  have hc5 : Bk w5 (D p).b (ndC (termOf p) (D p)) 220 := hc0.grown hgrow (ho0.ne_bk hc0 (by decide))
  have hm5 : GMap encLoV w5 (D p).r1 (gPut ((s.at_ p).map fun u => (u, unitV)) a unitV) := hm0.grown hgrow (ho0.ne_gmap hm0)
  have hgb : gg ≠ (D p).b := fun e => hown.ne_bk hc5 (by decide) (show some gg = some _ from congrArg some e)
  have hv : ∀ g, (Value.slice (some ⟨gg, 0, none⟩) n cap).ownBlock = some g → (D p).v.ownBlock = some g ∨ w.heap.size ≤ g := by
    intro g hg
    have hg' : gg = g := Option.some.inj hg
    subst hg'
    rcases hat with h1 | h1
    · exact .inl h1
    · right
      have h2 := hky.size
      have h3 := hW0.size
      omega
  have hk : Kept (fun g => g = (D p).r1 ∨ g = (D p).b ∨ (D p).v.ownBlock = some g) w (w5.setCell ⟨(D p).b, 1, none⟩ (.slice (some ⟨gg, 0, none⟩) n cap)) :=
    (((hky.mono fun g e => .inl e).trans (Kept.of_below hW0)).grown hgrow (fun g e => .inr (.inr e))).setCell (.inr (.inl rfl)) _
  refine ⟨h.pushed hp ha (hm5.setCell _) ?_ (hown.set_other (fun e => hgb (Option.some.inj e)) 1 _) hv hk, IxFr.pushed hp a hv hk⟩
  have := hc5.set 1 (.slice (some ⟨gg, 0, none⟩) n cap)
  exact this
theorem gGet_inG {α : Type} [DecidableEq α] {l : List α} {a : α} (v : Value) (h : a ∈ l) : gGet (l.map fun u => (u, v)) a = some v := by
  induction l with
  | nil => simp at h
  | cons x l ih =>
    by_cases hx : x = a
    · subst hx; simp [gGet]
    · have h2 : (x == a) = false := by simpa using hx
      have := ih (by rcases List.mem_cons.1 h with e | e; · exact absurd e.symm hx
                     · exact e)
      simp [gGet, h2] at this ⊢
      exact this
theorem gGet_in {l : List LoK} (h : a ∈ l) : gGet (l.map fun u => (u, unitV)) a = some unitV := gGet_inG unitV h
theorem gGet_out {l : List LoK} (h : a ∉ l) : gGet (l.map fun u => (u, unitV)) a = none :=
  gGet_none fun x hx e => by obtain ⟨y, hy, rfl⟩ := List.mem_map.1 hx; exact h (e ▸ hy)
theorem lookLo {W : World} {r : Nat} {l : List LoK} (hm : GMap encLoV W r (l.map fun u => (u, unitV))) (a : LoK) (b : Bool) (hb : b = true ↔ a ∈ l) :
    (Instr.lookup 217 (.map (some r)) (.agg #[.string ⟨a.1.1.toArray⟩, .string ⟨a.1.2.1.toArray⟩, .string ⟨a.1.2.2.toArray⟩]) true).run Tryz.prog W = .ok (.tuple #[.agg #[], .bool b]) W := by
  have h := run_lookup_g (P := Tryz.prog) (w := W) Tryz.underlying217 lo_enc (z := .agg #[]) (by kernel_rfl) hm a true
  by_cases ha : a ∈ l
  · rw [gGet_in ha] at h
    rw [hb.2 ha]; exact h
  · rw [gGet_out ha] at h
    have : b = false := by cases b with
      | true => exact absurd (hb.1 rfl) ha
      | false => rfl
    rw [this]; exact h
end
theorem slloc : SlTy Tryz.prog 26 79 3 48 := ⟨Tryz.underlying26, .agg #[.string ⟨#[]⟩, .string ⟨#[]⟩, .string ⟨#[]⟩], by kernel_rfl, rfl, by decide⟩
theorem step_see {s : IxS} {x : Tl} (h : x.see ≠ []) : s.step x = (s.paths x).putSee x.path x.see := by unfold IxS.step; rw [if_neg h]
theorem step_at {s : IxS} {x : Tl} (h : x.see = []) : s.step x = (s.paths x).putAt x.path x.here := by unfold IxS.step; rw [if_pos h]
theorem drewN_below' (w : World) (n : Nat) : Below w.heap.size w (w.drewN n) := below_drewN (Below.refl _ _) n
end Go.Proofs.YtohinfefidahlaaGreatDoor
