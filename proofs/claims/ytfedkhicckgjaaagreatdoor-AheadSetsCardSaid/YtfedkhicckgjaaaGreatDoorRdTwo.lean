/- A step of the walk that is held, to be met in the open: go_wp2_with (at_builtin; refine Hold.out ?_), then constructor. ahead's reader in memory. ahead's reader: what may change, and what stays. ahead's reader: what the source that is read now has open. ahead's reader: what it tells. ahead's reader: the source that is read now, and whether its lines are in force. ahead's reader: force, ask, fill. ahead's reader: an attribute is asked for. ahead's reader: a text with the attributes as they are. ahead's reader: a source is opened and shut; what was begun; what was set. -/
import Derived.Test.YtfedkhicckgjaaaGreatDoorRdOne
import Derived.Test.YtfedkhicckgjaaaGreatDoorBaseA
import Derived.Test.YtfedkhicckgjaaaGreatDoorBaseD
import Derived.Deep.RegionHeld3
import Derived.Deep.AppendLies
import Derived.Deep.DrawnRows
import Derived.StillTailTactics
import Derived.Test.YtfedkhicckgjaaaGreatDoorBaseE
namespace Go.Proofs.YtfedkhicckgjaaaGreatDoor
structure Hold (p : Prop) : Prop where
  out : p
end Go.Proofs.YtfedkhicckgjaaaGreatDoor

namespace Go.Proofs.YtfedkhicckgjaaaGreatDoor
open Go.RowKit
set_option linter.unusedVariables false

/-! ### kinds of blocks -/
def IsK (w : World) (T : TypeId) (g : Nat) : Prop := ∃ cur, w.heap[g]? = some (.cells cur T (0, 0))
section
variable {α : Type} {w w' : World} {g : Nat} {T T' : TypeId}
theorem IsK.ne (h : IsK w T g) (h' : IsK w T' g) : T = T' := by
  obtain ⟨c, h⟩ := h
  obtain ⟨c', h'⟩ := h'
  rw [h] at h'
  injection h' with h'
  injection h' with _ h' _
theorem Bk.isK {C : List Value} (h : Bk w g C T) : IsK w T g := ⟨_, h⟩
theorem Own.isK {B sz : Nat} {enc : α → List Value} {v : Value} {l : List α} (h : Own w B T sz enc v l) (e : v.ownBlock = some g) : IsK w T g := h.kind g e
theorem SMap.not_k {m : KV} (h : SMap w g m) (k : IsK w T g) : False := by
  obtain ⟨es, c, h, _⟩ := h
  obtain ⟨cur, k⟩ := k
  rw [h] at k
  injection k with k
  cases k
theorem Kept.smap {S : Nat → Prop} {m : KV} (hk : Kept S w w') (h : SMap w g m) (hn : ¬ S g) : SMap w' g m := h.of_block (hk.block g h.lt hn)
theorem MaxOk.keptB {S : Nat → Prop} {B : Nat} (h : MaxOk w) (hk : Kept S w w') (hS : ∀ g, S g → B ≤ g) (hB : 0 < B) : MaxOk w' := by
  have hlt := h.lt
  obtain ⟨m, h⟩ := h
  refine ⟨m, ?_⟩
  unfold World.cell? at *
  rw [hk.block _ hlt (fun hs => by have := hS _ hs; omega)]
  exact h
/-- a slice's memory is older than some place, and leads to the same -/
theorem At.kept {sz : Nat} {enc : α → List Value} {a : Option Addr} {l : List α} (h : At w sz enc a l) (hz : w.heap.size ≤ w'.heap.size) (hk : ∀ b off, a = some ⟨b, off, none⟩ → w'.heap[b]? = w.heap[b]?) : At w' sz enc a l := by
  rcases h with h | ⟨b, off, ha, hlt, hr⟩
  · exact .inl h
  · refine .inr ⟨b, off, ha, Nat.lt_of_lt_of_le hlt hz, fun i x hi j v hj => ?_⟩
    have := hr i x hi j v hj
    unfold World.cell? at *
    rw [hk b off ha]; exact this
end

/-! ### how a reader's parts are told -/
def encP (g : Nat) : List Value := [.pointer (some ⟨g, 0, none⟩)]
def encC (c : CondS) : List Value := [.string ⟨c.pl.file.toArray⟩, .int .i64 c.pl.no, .string ⟨c.pl.text.toArray⟩, .bool c.first, .bool c.second, .bool c.other]
def encL (l : Pl) : List Value := [.string ⟨l.file.toArray⟩, .int .i64 l.no, .string ⟨l.text.toArray⟩]
def encD (d : DiagS) : List Value := [.string ⟨d.file.toArray⟩, .int .i64 d.no, .int .i64 d.fault, .string ⟨d.text.toArray⟩]
theorem encP_ok : Enc 1 encP := ⟨fun _ => rfl, fun x u hu => by simp [encP] at hu; subst hu; rfl⟩
theorem encC_ok : Enc 6 encC := ⟨fun _ => rfl, fun x u hu => by simp [encC] at hu; rcases hu with rfl | rfl | rfl | rfl | rfl | rfl <;> rfl⟩
theorem encL_ok : Enc 3 encL := ⟨fun _ => rfl, fun x u hu => by simp [encL] at hu; rcases hu with rfl | rfl | rfl <;> rfl⟩
theorem encD_ok : Enc 4 encD := ⟨fun _ => rfl, fun x u hu => by simp [encD] at hu; rcases hu with rfl | rfl | rfl | rfl <;> rfl⟩
def kv (l : List Bytes) : KV := l.map fun x => (x, .agg #[])

structure Adr where
  B : Nat
  rb : Nat
  sa : Option Addr
  sc : Nat
  wm : Nat
  dn : Nat
  ak : Nat
  bg : Nat
structure Vals where
  va : Value
  vo : Value
  vl : Value
  vd : Value
  vf : Value
def rcells (A : Adr) (n : Nat) (V : Vals) (c : Nat) : List Value :=
  [.slice A.sa n A.sc, V.va, .map (some A.wm), V.vo, .int .i64 c, .map (some A.dn), .map (some A.ak), .map (some A.bg), V.vl, V.vd, V.vf]
def wordsKV : KV := [([64, 105, 102], .agg #[.func (.func 130) #[] #[], .bool true]), ([64, 101, 108, 115, 101], .agg #[.func (.func 131) #[] #[], .bool true]), ([64, 101, 110, 100], .agg #[.func (.func 132) #[] #[], .bool true]), ([64, 105, 110, 99, 108, 117, 100, 101], .agg #[.func (.func 133) #[] #[], .bool false]), ([64, 115, 101, 116], .agg #[.func (.func 134) #[] #[], .bool false]), ([64, 117, 110, 115, 101, 116], .agg #[.func (.func 135) #[] #[], .bool false])]

/-- a source that is open: its block, its name, and what it holds of conditions -/
structure Op1 where
  g : Nat
  name : Bytes
  vc : Value

structure Core (A : Adr) (L : List Two) (r : RS) (V : Vals) (ss : List Op1) (w : World) : Prop where
  rb : Bk w A.rb (rcells A L.length V r.count) 89
  hrb : A.B ≤ A.rb
  src : At w 2 encT A.sa L
  srcB : ∀ b off, A.sa = some ⟨b, off, none⟩ → b < A.B
  va : Own w A.B 78 2 encT V.va r.attrs
  vo : Own w A.B 206 1 encP V.vo (ss.map (·.g))
  vl : Own w A.B 76 3 encL V.vl r.lines
  vd : Own w A.B 71 4 encD V.vd r.diags
  vf : Own w A.B 9 1 encS V.vf r.files
  wm : SMap w A.wm wordsKV
  dn : SMap w A.dn (kv r.done)
  ak : SMap w A.ak (kv r.asked)
  bg : SMap w A.bg (kv r.begun)
  mB : A.B ≤ A.dn ∧ A.B ≤ A.ak ∧ A.B ≤ A.bg
  mne : A.wm ≠ A.dn ∧ A.wm ≠ A.ak ∧ A.wm ≠ A.bg ∧ A.dn ≠ A.ak ∧ A.dn ≠ A.bg ∧ A.ak ≠ A.bg
  ops : ∀ x ∈ ss, Bk w x.g [.string ⟨x.name.toArray⟩, x.vc] 216 ∧ A.B ≤ x.g
  nd : (ss.map (·.g)).Nodup
  nm : r.opens.map (·.name) = ss.map (·.name)
  mx : MaxOk w
  mxB : 0 < A.B

/-- the source that is read now -/
structure Top (A : Adr) (s : SrcS) (x : Op1) (w : World) : Prop where
  bk : Bk w x.g [.string ⟨s.name.toArray⟩, x.vc] 216
  gB : A.B ≤ x.g
  vc : Own w A.B 209 6 encC x.vc s.conds

section
variable {A : Adr} {L : List Two} {r : RS} {V : Vals} {ss : List Op1} {s : SrcS} {x : Op1} {w w' : World} {S : Nat → Prop}

/-- blocks of kinds that a reader has not may change -/
theorem Core.kept (h : Core A L r V ss w) (hk : Kept S w w')
    (hS : ∀ g, S g → A.B ≤ g ∧ (IsK w 209 g ∨ IsK w 216 g) ∧ ∀ x ∈ ss, x.g ≠ g) : Core A L r V ss w' := by
  have nk : ∀ {T} {g}, IsK w T g → T ≠ 209 → T ≠ 216 → ¬ S g := fun hT h1 h2 hs => by
    rcases (hS _ hs).2.1 with k | k
    · exact h1 (hT.ne k)
    · exact h2 (hT.ne k)
  have nm : ∀ {m} {g}, SMap w g m → ¬ S g := fun hm hs => by
    rcases (hS _ hs).2.1 with k | k <;> exact hm.not_k k
  exact {
    rb := hk.bk h.rb (nk h.rb.isK (by decide) (by decide))
    hrb := h.hrb
    src := h.src.kept hk.size fun b off e => by
      by_cases hlt : b < w.heap.size
      · exact hk.block b hlt fun hs => by have := (hS b hs).1; have := h.srcB b off e; omega
      · have h2 := h.srcB b off e; have h3 := h.rb.lt; have := h.hrb; omega
    srcB := h.srcB
    va := hk.own h.va fun g e => nk (h.va.isK e) (by decide) (by decide)
    vo := hk.own h.vo fun g e => nk (h.vo.isK e) (by decide) (by decide)
    vl := hk.own h.vl fun g e => nk (h.vl.isK e) (by decide) (by decide)
    vd := hk.own h.vd fun g e => nk (h.vd.isK e) (by decide) (by decide)
    vf := hk.own h.vf fun g e => nk (h.vf.isK e) (by decide) (by decide)
    wm := hk.smap h.wm (nm h.wm)
    dn := hk.smap h.dn (nm h.dn)
    ak := hk.smap h.ak (nm h.ak)
    bg := hk.smap h.bg (nm h.bg)
    mB := h.mB
    mne := h.mne
    ops := fun y hy => ⟨hk.bk (h.ops y hy).1 (fun hs => (hS _ hs).2.2 y hy rfl), (h.ops y hy).2⟩
    nd := h.nd
    nm := h.nm
    mx := h.mx.keptB hk (fun g hg => (hS g hg).1) h.mxB
    mxB := h.mxB }
theorem Core.next (h : Core A L r V ss w) (hb : Below w.heap.size w w') : Core A L r V ss w' := h.kept (S := fun _ => False) (Kept.of_below hb) fun _ hs => hs.elim
/-- a new source is no part of it -/
theorem Top.kept (h : Top A s x w) (hk : Kept S w w') (hS : ∀ g, S g → ¬ IsK w 209 g ∧ ¬ IsK w 216 g) : Top A s x w' :=
  ⟨hk.bk h.bk (fun hs => (hS _ hs).2 h.bk.isK), h.gB, hk.own h.vc fun g e hs => (hS _ hs).1 (h.vc.isK e)⟩
theorem Top.next (h : Top A s x w) (hb : Below w.heap.size w w') : Top A s x w' := h.kept (S := fun _ => False) (Kept.of_below hb) fun _ hs => hs.elim
end
end Go.Proofs.YtfedkhicckgjaaaGreatDoor

namespace Go.Proofs.YtfedkhicckgjaaaGreatDoor
open Go.RowKit
set_option linter.unusedVariables false

/-- the blocks that a reader writes to -/
def Foot (A : Adr) (V : Vals) (g : Nat) : Prop := g = A.rb ∨ g = A.dn ∨ g = A.ak ∨ g = A.bg ∨ V.va.ownBlock = some g ∨ V.vo.ownBlock = some g ∨ V.vl.ownBlock = some g ∨ V.vd.ownBlock = some g ∨ V.vf.ownBlock = some g
structure Step (A : Adr) (V : Vals) (w : World) (V' : Vals) (w' : World) : Prop where
  foot : ∀ g, Foot A V' g → Foot A V g ∨ w.heap.size ≤ g
  kept : Kept (Foot A V) w w'
section
variable {A : Adr} {L : List Two} {r : RS} {V V1 V2 : Vals} {ss : List Op1} {s : SrcS} {x : Op1} {w w1 w2 : World}
theorem Step.trans (h : Step A V w V1 w1) (k : Step A V1 w1 V2 w2) : Step A V w V2 w2 := by
  have hz := h.kept.size
  refine ⟨fun g hg => ?_, h.kept.transN (n := w.heap.size) (k.kept.mono fun g hg => ?_) (Nat.le_refl _)⟩
  · rcases k.foot g hg with h1 | h1
    · exact h.foot g h1
    · exact .inr (by omega)
  · exact h.foot g hg
theorem Step.refl (A : Adr) (V : Vals) (w : World) : Step A V w V w := ⟨fun _ h => .inl h, Kept.refl _ _⟩
theorem Step.below (h : Step A V w V1 w1) (hb : Below w1.heap.size w1 w2) : Step A V w V1 w2 :=
  ⟨h.foot, h.kept.trans ((Kept.of_below hb).mono fun _ h => h)⟩
theorem Core.foot_kind (h : Core A L r V ss w) {g : Nat} (hg : Foot A V g) : ¬ IsK w 209 g ∧ ¬ IsK w 216 g := by
  have nk : ∀ {T}, IsK w T g → T ≠ 209 → T ≠ 216 → ¬ IsK w 209 g ∧ ¬ IsK w 216 g :=
    fun hT h1 h2 => ⟨fun k => h1 (hT.ne k), fun k => h2 (hT.ne k)⟩
  have nm : ∀ {m}, SMap w g m → ¬ IsK w 209 g ∧ ¬ IsK w 216 g := fun hm => ⟨fun k => hm.not_k k, fun k => hm.not_k k⟩
  rcases hg with rfl | rfl | rfl | rfl | e | e | e | e | e
  · exact nk h.rb.isK (by decide) (by decide)
  · exact nm h.dn
  · exact nm h.ak
  · exact nm h.bg
  · exact nk (h.va.isK e) (by decide) (by decide)
  · exact nk (h.vo.isK e) (by decide) (by decide)
  · exact nk (h.vl.isK e) (by decide) (by decide)
  · exact nk (h.vd.isK e) (by decide) (by decide)
  · exact nk (h.vf.isK e) (by decide) (by decide)
theorem Top.step (h : Top A s x w) (hc : Core A L r V ss w) (hs : Step A V w V1 w1) : Top A s x w1 := h.kept hs.kept fun g hg => hc.foot_kind hg
theorem Core.footB (h : Core A L r V ss w) {g : Nat} (hg : Foot A V g) : A.B ≤ g := by
  rcases hg with rfl | rfl | rfl | rfl | e | e | e | e | e
  · exact h.hrb
  · exact h.mB.1
  · exact h.mB.2.1
  · exact h.mB.2.2
  · exact (h.va.block g e).1
  · exact (h.vo.block g e).1
  · exact (h.vl.block g e).1
  · exact (h.vd.block g e).1
  · exact (h.vf.block g e).1
theorem Core.below (h : Core A L r V ss w) (hs : Step A V w V1 w1) (hB : A.B ≤ w.heap.size) : Below A.B w w1 := hs.kept.below (fun g hg => h.footB hg) hB
theorem Core.base (h : Core A L r V ss w) : A.B ≤ w.heap.size := Nat.le_trans h.hrb (Nat.le_of_lt h.rb.lt)

/-- one of the reader's lists, and its place among the reader's cells, may change -/
theorem Core.upd {T : TypeId} {S : Nat → Prop} {V' : Vals} {r' : RS} (h : Core A L r V ss w) (hk : Kept S w w1)
    (hS : ∀ g, S g → g = A.rb ∨ IsK w T g) (hT : T ≠ 209 ∧ T ≠ 216)
    (hbk : Bk w1 A.rb (rcells A L.length V' r'.count) 89)
    (hva : T = 78 → Own w1 A.B 78 2 encT V'.va r'.attrs) (hva' : T ≠ 78 → V'.va = V.va ∧ r'.attrs = r.attrs)
    (hvl : T = 76 → Own w1 A.B 76 3 encL V'.vl r'.lines) (hvl' : T ≠ 76 → V'.vl = V.vl ∧ r'.lines = r.lines)
    (hvd : T = 71 → Own w1 A.B 71 4 encD V'.vd r'.diags) (hvd' : T ≠ 71 → V'.vd = V.vd ∧ r'.diags = r.diags)
    (hvf : T = 9 → Own w1 A.B 9 1 encS V'.vf r'.files) (hvf' : T ≠ 9 → V'.vf = V.vf ∧ r'.files = r.files)
    (hTo : T ≠ 206) (hvo : V'.vo = V.vo) (hdn : r'.done = r.done) (hak : r'.asked = r.asked) (hbg : r'.begun = r.begun) (hop : r'.opens = r.opens) (hSB : ∀ g, S g → A.B ≤ g) : Core A L r' V' ss w1 := by
  have nrb : ∀ {T'} {g}, IsK w T' g → T' ≠ 89 → T ≠ T' → ¬ S g := fun hT' h1 h2 hs => by
    rcases hS _ hs with rfl | k
    · exact h1 (hT'.ne h.rb.isK)
    · exact h2 (k.ne hT')
  have nm : ∀ {m} {g}, SMap w g m → ¬ S g := fun hm hs => by
    rcases hS _ hs with rfl | k
    · exact hm.not_k h.rb.isK
    · exact hm.not_k k
  exact {
    rb := hbk
    hrb := h.hrb
    src := h.src.kept hk.size fun b off e => by
      by_cases hlt : b < w.heap.size
      · exact hk.block b hlt fun hs => by have := hSB b hs; have := h.srcB b off e; omega
      · have h2 := h.srcB b off e; have h3 := h.rb.lt; have := h.hrb; omega
    srcB := h.srcB
    va := by
      by_cases e : T = 78
      · exact hva e
      · rw [(hva' e).1, (hva' e).2]; exact hk.own h.va fun g e2 => nrb (h.va.isK e2) (by decide) e
    vo := by rw [hvo]; exact hk.own h.vo fun g e2 => nrb (h.vo.isK e2) (by decide) hTo
    vl := by
      by_cases e : T = 76
      · exact hvl e
      · rw [(hvl' e).1, (hvl' e).2]; exact hk.own h.vl fun g e2 => nrb (h.vl.isK e2) (by decide) e
    vd := by
      by_cases e : T = 71
      · exact hvd e
      · rw [(hvd' e).1, (hvd' e).2]; exact hk.own h.vd fun g e2 => nrb (h.vd.isK e2) (by decide) e
    vf := by
      by_cases e : T = 9
      · exact hvf e
      · rw [(hvf' e).1, (hvf' e).2]; exact hk.own h.vf fun g e2 => nrb (h.vf.isK e2) (by decide) e
    wm := hk.smap h.wm (nm h.wm)
    dn := by rw [hdn]; exact hk.smap h.dn (nm h.dn)
    ak := by rw [hak]; exact hk.smap h.ak (nm h.ak)
    bg := by rw [hbg]; exact hk.smap h.bg (nm h.bg)
    mB := h.mB
    mne := h.mne
    ops := fun y hy => ⟨hk.bk (h.ops y hy).1 (nrb (h.ops y hy).1.isK (by decide) hT.2), (h.ops y hy).2⟩
    nd := h.nd
    nm := by rw [hop]; exact h.nm
    mx := h.mx.keptB hk hSB h.mxB
    mxB := h.mxB }
end

theorem Core.diag {A : Adr} {L : List Two} {r : RS} {V : Vals} {ss : List Op1} {w w3 : World} {gg cap : Nat} {y : DiagS} (h : Core A L r V ss w) (hSt : Kept (fun g => g = A.rb ∨ V.vd.ownBlock = some g) w w3)
    (hk3 : Bk w3 A.rb (rcells A L.length V r.count) 89) (hown : w3.ownsRow A.B 71 4 (.slice (some ⟨gg, 0, none⟩) (r.diags.length + 1) cap) (r.diags.length + 1) (r.diags.flatMap encD ++ encD y))
    (hgk : gg ≠ A.rb) (hgn : V.vd.ownBlock = some gg ∨ w.heap.size ≤ gg) :
    ∃ V', Core A L { r with diags := r.diags ++ [y] } V' ss (w3.setCell ⟨A.rb, 9, none⟩ (.slice (some ⟨gg, 0, none⟩) (r.diags.length + 1) cap)) ∧ Step A V w V' (w3.setCell ⟨A.rb, 9, none⟩ (.slice (some ⟨gg, 0, none⟩) (r.diags.length + 1) cap)) := by
  have hSt2 := hSt.setCell (p := ⟨A.rb, 9, none⟩) (.inl rfl) (.slice (some ⟨gg, 0, none⟩) (r.diags.length + 1) cap)
  have hO : Own (w3.setCell ⟨A.rb, 9, none⟩ (.slice (some ⟨gg, 0, none⟩) (r.diags.length + 1) cap)) A.B 71 4 encD (.slice (some ⟨gg, 0, none⟩) (r.diags.length + 1) cap) (r.diags ++ [y]) := by
    refine Own.kept (w := w3) ?_ (fun k hk' => Below.heap_setCell _ _ _ _ (fun e => by cases hk'; exact hgk e))
    unfold Own
    rw [List.length_append, List.flatMap_append]
    simpa using hown
  refine ⟨{ V with vd := .slice (some ⟨gg, 0, none⟩) (r.diags.length + 1) cap }, h.upd (T := 71) hSt2 (fun g hg => by
    rcases hg with e | e
    · exact .inl e
    · exact .inr (h.vd.isK e)) (by decide) (hk3.set 9 _) (fun e => absurd e (by decide)) (fun _ => ⟨rfl, rfl⟩) (fun e => absurd e (by decide)) (fun _ => ⟨rfl, rfl⟩) (fun _ => hO) (fun e => absurd rfl e) (fun e => absurd e (by decide)) (fun _ => ⟨rfl, rfl⟩) (by decide) rfl rfl rfl rfl rfl (fun g hg => by
    rcases hg with rfl | e
    · exact h.hrb
    · exact (h.vd.block g e).1), ⟨fun g hg => ?_, hSt2.mono fun g hg => ?_⟩⟩
  · rcases hg with rfl | rfl | rfl | rfl | e | e | e | e | e
    · exact .inl (.inl rfl)
    · exact .inl (.inr (.inl rfl))
    · exact .inl (.inr (.inr (.inl rfl)))
    · exact .inl (.inr (.inr (.inr (.inl rfl))))
    · exact .inl (.inr (.inr (.inr (.inr (.inl e)))))
    · exact .inl (.inr (.inr (.inr (.inr (.inr (.inl e))))))
    · exact .inl (.inr (.inr (.inr (.inr (.inr (.inr (.inl e)))))))
    · cases e
      rcases hgn with h1 | h1
      · exact .inl (.inr (.inr (.inr (.inr (.inr (.inr (.inr (.inl h1))))))))
      · exact .inr h1
    · exact .inl (.inr (.inr (.inr (.inr (.inr (.inr (.inr (.inr e))))))))
  · rcases hg with rfl | e
    · exact .inl rfl
    · exact (.inr (.inr (.inr (.inr (.inr (.inr (.inr (.inl e))))))))

theorem Core.line1 {A : Adr} {L : List Two} {r : RS} {V : Vals} {ss : List Op1} {w w3 : World} {gg cap : Nat} {y : Pl} (h : Core A L r V ss w) (hSt : Kept (fun g => g = A.rb ∨ V.vl.ownBlock = some g) w w3)
    (hk3 : Bk w3 A.rb (rcells A L.length V r.count) 89) (hown : w3.ownsRow A.B 76 3 (.slice (some ⟨gg, 0, none⟩) (r.lines.length + 1) cap) (r.lines.length + 1) (r.lines.flatMap encL ++ encL y))
    (hgk : gg ≠ A.rb) (hgn : V.vl.ownBlock = some gg ∨ w.heap.size ≤ gg) :
    ∃ V', Core A L { r with lines := r.lines ++ [y] } V' ss (w3.setCell ⟨A.rb, 8, none⟩ (.slice (some ⟨gg, 0, none⟩) (r.lines.length + 1) cap)) ∧ Step A V w V' (w3.setCell ⟨A.rb, 8, none⟩ (.slice (some ⟨gg, 0, none⟩) (r.lines.length + 1) cap)) := by
  have hSt2 := hSt.setCell (p := ⟨A.rb, 8, none⟩) (.inl rfl) (.slice (some ⟨gg, 0, none⟩) (r.lines.length + 1) cap)
  have hO : Own (w3.setCell ⟨A.rb, 8, none⟩ (.slice (some ⟨gg, 0, none⟩) (r.lines.length + 1) cap)) A.B 76 3 encL (.slice (some ⟨gg, 0, none⟩) (r.lines.length + 1) cap) (r.lines ++ [y]) := by
    refine Own.kept (w := w3) ?_ (fun k hk' => Below.heap_setCell _ _ _ _ (fun e => by cases hk'; exact hgk e))
    unfold Own
    rw [List.length_append, List.flatMap_append]
    simpa using hown
  refine ⟨{ V with vl := .slice (some ⟨gg, 0, none⟩) (r.lines.length + 1) cap }, h.upd (T := 76) hSt2 (fun g hg => by
    rcases hg with e | e
    · exact .inl e
    · exact .inr (h.vl.isK e)) (by decide) (hk3.set 8 _) (fun e => absurd e (by decide)) (fun _ => ⟨rfl, rfl⟩) (fun _ => hO) (fun e => absurd rfl e) (fun e => absurd e (by decide)) (fun _ => ⟨rfl, rfl⟩) (fun e => absurd e (by decide)) (fun _ => ⟨rfl, rfl⟩) (by decide) rfl rfl rfl rfl rfl (fun g hg => by
    rcases hg with rfl | e
    · exact h.hrb
    · exact (h.vl.block g e).1), ⟨fun g hg => ?_, hSt2.mono fun g hg => ?_⟩⟩
  · rcases hg with rfl | rfl | rfl | rfl | e | e | e | e | e
    · exact .inl (.inl rfl)
    · exact .inl (.inr (.inl rfl))
    · exact .inl (.inr (.inr (.inl rfl)))
    · exact .inl (.inr (.inr (.inr (.inl rfl))))
    · exact .inl (.inr (.inr (.inr (.inr (.inl e)))))
    · exact .inl (.inr (.inr (.inr (.inr (.inr (.inl e))))))
    · cases e
      rcases hgn with h1 | h1
      · exact .inl (.inr (.inr (.inr (.inr (.inr (.inr (.inl h1)))))))
      · exact .inr h1
    · exact .inl (.inr (.inr (.inr (.inr (.inr (.inr (.inr (.inl e))))))))
    · exact .inl (.inr (.inr (.inr (.inr (.inr (.inr (.inr (.inr e))))))))
  · rcases hg with rfl | e
    · exact .inl rfl
    · exact (.inr (.inr (.inr (.inr (.inr (.inr (.inl e)))))))

theorem Core.file {A : Adr} {L : List Two} {r : RS} {V : Vals} {ss : List Op1} {w w3 : World} {gg cap : Nat} {y : Bytes} (h : Core A L r V ss w) (hSt : Kept (fun g => g = A.rb ∨ V.vf.ownBlock = some g) w w3)
    (hk3 : Bk w3 A.rb (rcells A L.length V r.count) 89) (hown : w3.ownsRow A.B 9 1 (.slice (some ⟨gg, 0, none⟩) (r.files.length + 1) cap) (r.files.length + 1) (r.files.flatMap encS ++ encS y))
    (hgk : gg ≠ A.rb) (hgn : V.vf.ownBlock = some gg ∨ w.heap.size ≤ gg) :
    ∃ V', Core A L { r with files := r.files ++ [y] } V' ss (w3.setCell ⟨A.rb, 10, none⟩ (.slice (some ⟨gg, 0, none⟩) (r.files.length + 1) cap)) ∧ Step A V w V' (w3.setCell ⟨A.rb, 10, none⟩ (.slice (some ⟨gg, 0, none⟩) (r.files.length + 1) cap)) := by
  have hSt2 := hSt.setCell (p := ⟨A.rb, 10, none⟩) (.inl rfl) (.slice (some ⟨gg, 0, none⟩) (r.files.length + 1) cap)
  have hO : Own (w3.setCell ⟨A.rb, 10, none⟩ (.slice (some ⟨gg, 0, none⟩) (r.files.length + 1) cap)) A.B 9 1 encS (.slice (some ⟨gg, 0, none⟩) (r.files.length + 1) cap) (r.files ++ [y]) := by
    refine Own.kept (w := w3) ?_ (fun k hk' => Below.heap_setCell _ _ _ _ (fun e => by cases hk'; exact hgk e))
    unfold Own
    rw [List.length_append, List.flatMap_append]
    simpa using hown
  refine ⟨{ V with vf := .slice (some ⟨gg, 0, none⟩) (r.files.length + 1) cap }, h.upd (T := 9) hSt2 (fun g hg => by
    rcases hg with e | e
    · exact .inl e
    · exact .inr (h.vf.isK e)) (by decide) (hk3.set 10 _) (fun e => absurd e (by decide)) (fun _ => ⟨rfl, rfl⟩) (fun e => absurd e (by decide)) (fun _ => ⟨rfl, rfl⟩) (fun e => absurd e (by decide)) (fun _ => ⟨rfl, rfl⟩) (fun _ => hO) (fun e => absurd rfl e) (by decide) rfl rfl rfl rfl rfl (fun g hg => by
    rcases hg with rfl | e
    · exact h.hrb
    · exact (h.vf.block g e).1), ⟨fun g hg => ?_, hSt2.mono fun g hg => ?_⟩⟩
  · rcases hg with rfl | rfl | rfl | rfl | e | e | e | e | e
    · exact .inl (.inl rfl)
    · exact .inl (.inr (.inl rfl))
    · exact .inl (.inr (.inr (.inl rfl)))
    · exact .inl (.inr (.inr (.inr (.inl rfl))))
    · exact .inl (.inr (.inr (.inr (.inr (.inl e)))))
    · exact .inl (.inr (.inr (.inr (.inr (.inr (.inl e))))))
    · exact .inl (.inr (.inr (.inr (.inr (.inr (.inr (.inl e)))))))
    · exact .inl (.inr (.inr (.inr (.inr (.inr (.inr (.inr (.inl e))))))))
    · cases e
      rcases hgn with h1 | h1
      · exact .inl (.inr (.inr (.inr (.inr (.inr (.inr (.inr (.inr h1))))))))
      · exact .inr h1
  · rcases hg with rfl | e
    · exact .inl rfl
    · exact (.inr (.inr (.inr (.inr (.inr (.inr (.inr (.inr e))))))))

end Go.Proofs.YtfedkhicckgjaaaGreatDoor

namespace Go.Proofs.YtfedkhicckgjaaaGreatDoor
open Go.RowKit
set_option linter.unusedVariables false

/-- the blocks that a line's work writes to: the reader's, and those of the source that is read now -/
def FootT (A : Adr) (V : Vals) (x : Op1) (g : Nat) : Prop := Foot A V g ∨ g = x.g ∨ x.vc.ownBlock = some g
structure StepT (A : Adr) (V : Vals) (x : Op1) (w : World) (V' : Vals) (x' : Op1) (w' : World) : Prop where
  foot : ∀ g, FootT A V' x' g → FootT A V x g ∨ w.heap.size ≤ g
  kept : Kept (FootT A V x) w w'
  g : x'.g = x.g
  name : x'.name = x.name
section
variable {A : Adr} {L : List Two} {r : RS} {V V1 V2 : Vals} {ss : List Op1} {s : SrcS} {x x1 x2 : Op1} {w w1 w2 : World}
theorem StepT.trans (h : StepT A V x w V1 x1 w1) (k : StepT A V1 x1 w1 V2 x2 w2) : StepT A V x w V2 x2 w2 := by
  have hz := h.kept.size
  refine ⟨fun g hg => ?_, h.kept.transN (n := w.heap.size) (k.kept.mono fun g hg => ?_) (Nat.le_refl _), k.g.trans h.g, k.name.trans h.name⟩
  · rcases k.foot g hg with h1 | h1
    · exact h.foot g h1
    · exact .inr (by omega)
  · exact h.foot g hg
theorem StepT.refl (A : Adr) (V : Vals) (x : Op1) (w : World) : StepT A V x w V x w := ⟨fun _ h => .inl h, Kept.refl _ _, rfl, rfl⟩
theorem Step.toT (h : Step A V w V1 w1) (x : Op1) : StepT A V x w V1 x w1 :=
  ⟨fun g hg => by
    rcases hg with h1 | h1
    · rcases h.foot g h1 with h2 | h2
      · exact .inl (.inl h2)
      · exact .inr h2
    · exact .inl (.inr h1), h.kept.mono fun g hg => .inl hg, rfl, rfl⟩
theorem StepT.below (h : StepT A V x w V1 x1 w1) (hb : Below w1.heap.size w1 w2) : StepT A V x w V1 x1 w2 :=
  ⟨h.foot, h.kept.trans ((Kept.of_below hb).mono fun _ h => h), h.g, h.name⟩
theorem Core.footTB (h : Core A L r V ss w) (ht : Top A s x w) {g : Nat} (hg : FootT A V x g) : A.B ≤ g := by
  rcases hg with h1 | rfl | e
  · exact h.footB h1
  · exact ht.gB
  · exact (ht.vc.block g e).1

/-- what the source that is read now has open may change -/
theorem Core.setTop {s' : SrcS} {vc' : Value} (h : Core A L r V (ss ++ [x]) w) (ht : Top A s x w) (hk : Kept (fun g => g = x.g ∨ x.vc.ownBlock = some g) w w1)
    (hbk : Bk w1 x.g [.string ⟨x.name.toArray⟩, vc'] 216) (hnm : s'.name = x.name) (hvc : Own w1 A.B 209 6 encC vc' s'.conds)
    (hnew : ∀ g, vc'.ownBlock = some g → x.vc.ownBlock = some g ∨ w.heap.size ≤ g) :
    Core A L (r.setTop s') V (ss ++ [⟨x.g, x.name, vc'⟩]) w1 ∧ Top A s' ⟨x.g, x.name, vc'⟩ w1 ∧ StepT A V x w V ⟨x.g, x.name, vc'⟩ w1 := by
  have nk : ∀ {T} {g}, IsK w T g → T ≠ 209 → T ≠ 216 → ¬ (g = x.g ∨ x.vc.ownBlock = some g) := fun hT h1 h2 hs => by
    rcases hs with rfl | e
    · exact h2 (hT.ne ht.bk.isK)
    · exact h1 (hT.ne (ht.vc.isK e))
  have nm : ∀ {m} {g}, SMap w g m → ¬ (g = x.g ∨ x.vc.ownBlock = some g) := fun hm hs => by
    rcases hs with rfl | e
    · exact hm.not_k ht.bk.isK
    · exact hm.not_k (ht.vc.isK e)
  have hB : ∀ g, (g = x.g ∨ x.vc.ownBlock = some g) → A.B ≤ g := fun g hg => by
    rcases hg with rfl | e
    · exact ht.gB
    · exact (ht.vc.block g e).1
  refine ⟨{
    rb := hk.bk h.rb (nk h.rb.isK (by decide) (by decide))
    hrb := h.hrb
    src := h.src.kept hk.size fun b off e => by
      by_cases hlt : b < w.heap.size
      · exact hk.block b hlt fun hs => by have := hB b hs; have := h.srcB b off e; omega
      · have h2 := h.srcB b off e; have h3 := h.rb.lt; have := h.hrb; omega
    srcB := h.srcB
    va := hk.own h.va fun g e => nk (h.va.isK e) (by decide) (by decide)
    vo := by
      have := hk.own h.vo fun g e => nk (h.vo.isK e) (by decide) (by decide)
      simpa using this
    vl := hk.own h.vl fun g e => nk (h.vl.isK e) (by decide) (by decide)
    vd := hk.own h.vd fun g e => nk (h.vd.isK e) (by decide) (by decide)
    vf := hk.own h.vf fun g e => nk (h.vf.isK e) (by decide) (by decide)
    wm := hk.smap h.wm (nm h.wm)
    dn := hk.smap h.dn (nm h.dn)
    ak := hk.smap h.ak (nm h.ak)
    bg := hk.smap h.bg (nm h.bg)
    mB := h.mB
    mne := h.mne
    ops := fun y hy => by
      rcases List.mem_append.1 hy with hy | hy
      · have hy2 := h.ops y (List.mem_append_left _ hy)
        refine ⟨hk.bk hy2.1 fun hs => ?_, hy2.2⟩
        rcases hs with e | e
        · have hnd := h.nd
          rw [List.map_append, List.nodup_append] at hnd
          exact hnd.2.2 y.g (List.mem_map_of_mem hy) x.g (by simp) e
        · have := (ht.vc.isK e).ne hy2.1.isK
          exact absurd this (by decide)
      · rw [List.mem_singleton] at hy
        subst hy
        exact ⟨hbk, ht.gB⟩
    nd := by have := h.nd; simpa using this
    nm := by
      have := h.nm
      have hne : r.opens ≠ [] := by
        intro e; rw [e] at this; simp at this
      rw [← List.dropLast_concat_getLast hne] at this
      rw [List.map_append, List.map_append] at this
      have h2 := List.append_inj' this (by simp)
      show (r.opens.dropLast ++ [s']).map _ = _
      rw [List.map_append, List.map_append, h2.1]
      simp [hnm]
    mx := h.mx.keptB hk hB h.mxB
    mxB := h.mxB }, ⟨by rw [hnm]; exact hbk, ht.gB, hvc⟩, ⟨fun g hg => ?_, hk.mono fun g hg => .inr hg, rfl, rfl⟩⟩
  rcases hg with h1 | h1 | h1
  · exact .inl (.inl h1)
  · exact .inl (.inr (.inl h1))
  · rcases hnew g h1 with h2 | h2
    · exact .inl (.inr (.inr h2))
    · exact .inr h2
end
end Go.Proofs.YtfedkhicckgjaaaGreatDoor

namespace Go.Proofs.YtfedkhicckgjaaaGreatDoor
open Go.RowKit
set_option linter.unusedVariables false

theorem sldiags : SlTy Tryz.prog 59 71 4 48 := ⟨Tryz.underlying59, .agg #[.string ⟨#[]⟩, .int .i64 0, .int .i64 0, .string ⟨#[]⟩], by kernel_rfl, rfl, by decide⟩
def plV (l : Pl) : Value := .agg #[.string ⟨l.file.toArray⟩, .int .i64 l.no, .string ⟨l.text.toArray⟩]

set_option maxHeartbeats 2000000 in
set_option maxRecDepth 100000 in
theorem tell_any (A : Adr) (L : List Two) (r : RS) (V : Vals) (ss : List Op1) (w : World) (h : Core A L r V ss w) (l : Pl) (f : Nat) (t : Bytes) (hn : r.diags.length ≤ 200000) :
    Calls Tryz.prog 150 #[.pointer (some ⟨A.rb, 0, none⟩), plV l, .int .i64 f, .string ⟨t.toArray⟩] w fun e w' => e = .returned (.tuple #[]) ∧ ∃ V', Core A L (r.tell l f t) V' ss w' ∧ Step A V w V' w' := by
  have hBs := h.base
  have hne := h.vd.ne_bk h.rb (by decide)
  have c1 : w.cell? ⟨A.rb, 9, none⟩ = some V.vd := by rw [h.rb.cell]; rfl
  obtain ⟨a0, d0, hvd⟩ := h.vd.shape
  have HO : Hid (Own w A.B 71 4 encD (.slice a0 r.diags.length d0) r.diags) := by rw [← hvd]; exact h.vd
  have HV : Hid (V.vd = .slice a0 r.diags.length d0) := hvd
  rw [hvd] at c1 hne
  have HK := Lib.hid h.rb
  have HC := Lib.hid h
  have HN := Lib.hid hne
  have hlt := h.rb.lt
  clear h hne hvd
  obtain ⟨i0, hi, hz0, hz1, hz2⟩ := info_parts (show (Tryz.prog.info? 71).map (fun i => (i.zero, i.size, i.bytes)) = some (some (.agg #[.string ⟨#[]⟩, .int .i64 0, .int .i64 0, .string ⟨#[]⟩]), 4, 48) by kernel_rfl)
  unfold plV
  go_enter Tryz.func150, Tryz.ntmps150
  go_wp2_with fail
  have p0 : (w.alloc (.cells #[.string ⟨l.file.toArray⟩, .int .i64 l.no, .string ⟨l.text.toArray⟩] 205)).cell? ⟨w.heap.size, 0, none⟩ = some (.string ⟨l.file.toArray⟩) := by simp
  have p1 : (w.alloc (.cells #[.string ⟨l.file.toArray⟩, .int .i64 l.no, .string ⟨l.text.toArray⟩] 205)).cell? ⟨w.heap.size, 1, none⟩ = some (.int .i64 l.no) := by simp
  have HK1 := Lib.hid (HK.out.alloc (.cells #[.string ⟨l.file.toArray⟩, .int .i64 l.no, .string ⟨l.text.toArray⟩] 205))
  have HO1 := Lib.hid (HO.out.alloc (.cells #[.string ⟨l.file.toArray⟩, .int .i64 l.no, .string ⟨l.text.toArray⟩] 205))
  have HB1 := Lib.hid ((Below.refl w.heap.size w).alloc (Nat.le_refl _) (.cells #[.string ⟨l.file.toArray⟩, .int .i64 l.no, .string ⟨l.text.toArray⟩] 205))
  have hs1 : (w.alloc (.cells #[.string ⟨l.file.toArray⟩, .int .i64 l.no, .string ⟨l.text.toArray⟩] 205)).heap.size > w.heap.size := by simp
  generalize w.alloc (.cells #[.string ⟨l.file.toArray⟩, .int .i64 l.no, .string ⟨l.text.toArray⟩] 205) = w1 at *
  have d1 : w1.cell? ⟨A.rb, 9, none⟩ = some (.slice a0 r.diags.length d0) := by rw [HK1.out.cell, ← HV.out]; rfl
  have g1 : w1.frozen? ⟨A.rb, 9, none⟩ = false := HK1.out.free _
  have hlt1 : A.rb < w1.heap.size := HK1.out.lt
  have hx1 : (rcells A L.length V r.count)[9]? = some (.slice a0 r.diags.length d0) := by rw [← HV.out]; rfl
  have HX1 := Lib.hid hx1
  clear c1 hx1
  go_region_law ((refine step_append_lies _ (by rfl) _ _ _ (by rfl) A.B 71 i0 _ 4 48 Tryz.underlying59 hi hz0 hz1 hz2 rfl (by omega) (.slice a0 r.diags.length d0) r.diags.length (r.diags.flatMap encD) (by rfl) ((HO1.out.alloc _)) ⟨w1.heap.size, 0, none⟩ 1 1 [.string ⟨l.file.toArray⟩, .int .i64 l.no, .int .i64 f, .string ⟨t.toArray⟩] (by rfl) (by rfl) (World.news_of_block (cs := #[.string ⟨l.file.toArray⟩, .int .i64 l.no, .int .i64 f, .string ⟨t.toArray⟩]) (t := 71) (fr := (0, 0)) (heap_alloc_new w1 _)) (by simp [Value.oneCell']) (by omega) (by unfold maxLen; omega) (by omega) (by simp; omega) (w1.heap.size + 1) (by simp) ?_; intro gg cap w3 hown1 hgrow hat hlt; have hk3 := Bk.grown (HK1.out.alloc _).drew hgrow HN.out; have z1 := (hk3.cell 9).trans HX1.out; have z2 := hk3.free 9))
  all_goals
    go_wp2
    go_end0
    have hggk : gg ≠ A.rb := by
      rcases hat with h | h
      · intro e; rw [e] at h; exact HN.out h
      · omega
    have hSt : Kept (fun g => g = A.rb ∨ V.vd.ownBlock = some g) w w3 := Kept.grown (w1 := (w1.alloc _).drew) (((Kept.of_below HB1.out).alloc _).drewN 1) hgrow (fun g h => .inr (by rw [HV.out]; exact h))
    exact ⟨rfl, HC.out.diag (y := ⟨l.file, l.no, f, t⟩) hSt hk3 hown1 hggk (by rcases hat with h | h; exact .inl (by rw [HV.out]; exact h); exact .inr (by omega))⟩
end Go.Proofs.YtfedkhicckgjaaaGreatDoor

namespace Go.Proofs.YtfedkhicckgjaaaGreatDoor
open Go.RowKit
set_option linter.unusedVariables false

theorem Own.ptr' {α : Type} {w : World} {B : Nat} {e : TypeId} {sz : Nat} {enc : α → List Value} {v : Value} {l : List α} (h : Own w B e sz enc v l) {n : Nat} (hn : l.length = n + 1) : ∃ g c, v = .slice (some ⟨g, 0, none⟩) (n + 1) c ∧ n + 1 ≤ c := by
  obtain ⟨a, c, rfl⟩ := h.shape
  rw [hn] at h ⊢
  obtain ⟨g, rfl, _, _, hc⟩ := h.ptr (by omega)
  exact ⟨g, c, rfl, hc⟩

set_option maxHeartbeats 1000000 in
theorem top_any (A : Adr) (L : List Two) (r : RS) (V : Vals) (ss : List Op1) (x : Op1) (w : World) (h : Core A L r V (ss ++ [x]) w) (hn : ss.length ≤ 1000) :
    Calls Tryz.prog 147 #[.pointer (some ⟨A.rb, 0, none⟩)] w fun e w' => e = .returned (.pointer (some ⟨x.g, 0, none⟩)) ∧ Below w.heap.size w w' := by
  obtain ⟨go, c, hvo, hc⟩ := h.vo.ptr' (n := ss.length) (by simp)
  have c3 : w.cell? ⟨A.rb, 3, none⟩ = some (.slice (some ⟨go, 0, none⟩) (ss.length + 1) c) := by rw [h.rb.cell, ← hvo]; rfl
  have hO : Own w A.B 206 1 encP (.slice (some ⟨go, 0, none⟩) (ss.length + 1) c) ((ss ++ [x]).map (·.g)) := by rw [← hvo]; exact h.vo
  have e0 : w.cell? ⟨go, ss.length, none⟩ = some (.pointer (some ⟨x.g, 0, none⟩)) := by
    have := hO.cellAt encP_ok (k := ss.length) (x := x.g) (by simp) (j := 0) (u := .pointer (some ⟨x.g, 0, none⟩)) rfl
    simpa using this
  clear h hO hvo
  go_enter Tryz.func147, Tryz.ntmps147
  go_wp2_with fail
  have a1 : IntKind.i64.wrap (((ss.length + 1 : Nat) : Int) - 1) = ((ss.length : Nat) : Int) := by rw [IntWalk.i64_in _ (by omega)]; omega
  go_quiet (fail)
  go_wp2
  go_ret
  exact ⟨rfl, below_drewN (Below.refl _ _) _⟩

set_option maxHeartbeats 1000000 in
theorem holds_any (c : CondS) (w : World) :
    Calls Tryz.prog 173 #[.agg (encC c).toArray] w fun e w' => e = .returned (.bool c.holds) ∧ Below w.heap.size w w' := by
  obtain ⟨pl, a, b, o⟩ := c
  cases o
  all_goals
    go_enter Tryz.func173, Tryz.ntmps173
    unfold encC
    go_wp2_with fail
    go_ret
    exact ⟨rfl, (Below.refl _ _).alloc (Nat.le_refl _) _⟩

/-- where the last condition lies -/
def lastV (vc : Value) : Value := match vc with
  | .slice (some a) (n + 1) _ => .pointer (some ⟨a.block, n * 6, none⟩)
  | _ => .pointer none

set_option maxHeartbeats 1000000 in
theorem last_any (A : Adr) (s : SrcS) (x : Op1) (w : World) (h : Top A s x w) (hn : s.conds.length ≤ 30000) :
    Calls Tryz.prog 152 #[.pointer (some ⟨x.g, 0, none⟩)] w fun e w' => e = .returned (lastV x.vc) ∧ Below w.heap.size w w' := by
  have c1 : w.cell? ⟨x.g, 1, none⟩ = some x.vc := by rw [h.bk.cell]; rfl
  cases hl : s.conds.length with
  | zero =>
    have hv : ∃ a c, x.vc = .slice a 0 c := by
      obtain ⟨a, c, e⟩ := h.vc.shape
      exact ⟨a, c, by rw [e, hl]⟩
    obtain ⟨a, c, hv⟩ := hv
    have hr : lastV x.vc = .pointer none := by rw [hv]; cases a <;> rfl
    rw [hr]
    rw [hv] at c1
    clear h hl hv hr
    go_enter Tryz.func152, Tryz.ntmps152
    go_wp2_with fail
    go_ret
    exact ⟨rfl, Below.refl _ _⟩
  | succ n =>
    obtain ⟨gc, c, hv, hc⟩ := h.vc.ptr' hl
    have hr : lastV x.vc = .pointer (some ⟨gc, n * 6, none⟩) := by rw [hv]; rfl
    rw [hr]
    rw [hv] at c1
    have hn2 : n ≤ 30000 := by omega
    clear h hl hv hr
    go_enter Tryz.func152, Tryz.ntmps152
    go_wp2_with fail
    have a1 : IntKind.i64.wrap (((n + 1 : Nat) : Int) - 1) = ((n : Nat) : Int) := by rw [IntWalk.i64_in _ (by omega)]; omega
    go_quiet (fail)
    go_wp2
    go_ret
    exact ⟨by simp, below_drewN (Below.refl _ _) _⟩
end Go.Proofs.YtfedkhicckgjaaaGreatDoor

namespace Go.Proofs.YtfedkhicckgjaaaGreatDoor
open Go.RowKit
set_option linter.unusedVariables false

set_option maxHeartbeats 1000000 in
theorem force_any (A : Adr) (s : SrcS) (x : Op1) (w : World) (h : Top A s x w) (hn : s.conds.length ≤ 30000) :
    Calls Tryz.prog 148 #[.pointer (some ⟨x.g, 0, none⟩)] w fun e w' => e = .returned (.bool s.force) ∧ Below w.heap.size w w' := by
  have HL := Lib.hid (last_any A s x w h hn)
  have HT := Lib.hid h
  cases hl : s.conds.length with
  | zero =>
    have hv : ∃ a c, x.vc = .slice a 0 c := by
      obtain ⟨a, c, e⟩ := h.vc.shape
      exact ⟨a, c, by rw [e, hl]⟩
    obtain ⟨a, c, hv⟩ := hv
    have hr : lastV x.vc = .pointer none := by rw [hv]; cases a <;> rfl
    have hf : s.force = true := by unfold SrcS.force; rw [List.eq_nil_of_length_eq_zero hl]; rfl
    rw [hf]
    rw [hr] at HL
    clear h hl hv hr hf HT
    go_enter Tryz.func148, Tryz.ntmps148
    go_wp2_with (go_at_call 152; refine HL.out.mono ?_; rintro e w1 ⟨rfl, hb1⟩)
    go_ret
    exact ⟨rfl, hb1⟩
  | succ n =>
    obtain ⟨cs, cd, hcs⟩ : ∃ cs cd, s.conds = cs ++ [cd] := ⟨s.conds.dropLast, s.conds.getLast (by intro e; rw [e] at hl; cases hl), (List.dropLast_concat_getLast _).symm⟩
    have hcl : cs.length = n := by rw [hcs] at hl; simp at hl; exact hl
    have hf : s.force = cd.holds := by unfold SrcS.force; rw [hcs, List.getLast?_concat]
    obtain ⟨gc, c, hv, hc⟩ := h.vc.ptr' hl
    have hr : lastV x.vc = .pointer (some ⟨gc, n * 6, none⟩) := by rw [hv]; rfl
    have HO : Hid (Own w A.B 209 6 encC (.slice (some ⟨gc, 0, none⟩) (n + 1) c) (cs ++ [cd])) := by rw [← hv, ← hcs]; exact h.vc
    have hx : (cs ++ [cd])[n]? = some cd := by rw [← hcl]; simp
    have HX := Lib.hid hx
    rw [hf]
    rw [hr] at HL
    clear h hl hv hr hf hcl hcs hx
    have hgt := (HO.out.block gc rfl).2
    go_enter Tryz.func148, Tryz.ntmps148
    go_wp2_with (first
      | (go_at_call 152; refine HL.out.mono ?_; rintro e w1 ⟨rfl, hb1⟩; have HO1 := Lib.hid (HO.out.below hb1 (Nat.le_refl _)); have c0 := HO1.out.cellAt encC_ok HX.out (j := 0) rfl; have c1 := HO1.out.cellAt encC_ok HX.out (j := 1) rfl; have c2 := HO1.out.cellAt encC_ok HX.out (j := 2) rfl; have c3 := HO1.out.cellAt encC_ok HX.out (j := 3) rfl; have c4 := HO1.out.cellAt encC_ok HX.out (j := 4) rfl; have c5 := HO1.out.cellAt encC_ok HX.out (j := 5) rfl; rw [Nat.add_zero] at c0)
      | (go_at_call 173; refine (holds_any cd _).mono ?_; rintro e w2 ⟨rfl, hb2⟩))
    go_ret
    exact ⟨rfl, hb1.trans (hb2.mono hb1.size)⟩
end Go.Proofs.YtfedkhicckgjaaaGreatDoor

namespace Go.Proofs.YtfedkhicckgjaaaGreatDoor
open Go.RowKit
set_option linter.unusedVariables false

theorem zeroU (w : World) : (zeroValue 97).run Tryz.prog w = .ok (.agg #[]) w := by kernel_rfl
theorem kv_find (l : List Bytes) (k : Bytes) : mapGet (kv l) k = if l.contains k = true then some (.agg #[]) else none := by
  induction l with
  | nil => rfl
  | cons x l ih =>
    unfold kv at *
    unfold mapGet at *
    rw [List.map_cons, List.find?_cons, List.contains_cons]
    by_cases h : x = k
    · subst h; simp
    · have h1 : (x == k) = false := by simpa using h
      have h2 : (k == x) = false := by simpa using fun e => h e.symm
      simp only [h1, h2, Bool.false_or]
      exact ih
theorem kv_put (l : List Bytes) (k : Bytes) : mapPut (kv l) k (.agg #[]) = kv (addN l k) := by
  induction l with
  | nil => rfl
  | cons x l ih =>
    unfold kv at *
    rw [List.map_cons]
    unfold mapPut
    by_cases h : x = k
    · subst h
      have e : addN (x :: l) x = x :: l := by unfold addN; rw [if_pos (by simp)]
      rw [if_pos (by simp), e]; rfl
    · have h1 : (x == k) = false := by simpa using h
      rw [if_neg (by simp [h1]), ih]
      have h2 : (k == x) = false := by simpa using fun e => h e.symm
      unfold addN
      simp only [List.contains_cons, h2, Bool.false_or]
      split <;> rfl

/-- one of the reader's maps may change -/
theorem Core.updAk {A : Adr} {L : List Two} {r : RS} {V : Vals} {ss : List Op1} {w w1 : World} {ak' : List Bytes} (h : Core A L r V ss w) (hg : w.grownBy w1 (some A.ak)) (hm : SMap w1 A.ak (kv ak')) :
    Core A L { r with asked := ak' } V ss w1 ∧ Step A V w V w1 := by
  have hk : Kept (fun g => g = A.ak) w w1 := (Kept.refl _ w).grown hg fun g e => (Option.some.inj e).symm
  have nk : ∀ {T} {g}, IsK w T g → ¬ g = A.ak := fun hT e => by subst e; exact h.ak.not_k hT
  refine ⟨{
    rb := hk.bk h.rb (nk h.rb.isK)
    hrb := h.hrb
    src := h.src.kept hk.size fun b off e => by
      by_cases hlt : b < w.heap.size
      · exact hk.block b hlt fun hs => by have := h.mB.2.1; have := h.srcB b off e; omega
      · have h2 := h.srcB b off e; have h3 := h.rb.lt; have := h.hrb; omega
    srcB := h.srcB
    va := hk.own h.va fun g e => nk (h.va.isK e)
    vo := hk.own h.vo fun g e => nk (h.vo.isK e)
    vl := hk.own h.vl fun g e => nk (h.vl.isK e)
    vd := hk.own h.vd fun g e => nk (h.vd.isK e)
    vf := hk.own h.vf fun g e => nk (h.vf.isK e)
    wm := hk.smap h.wm (h.mne.2.1)
    dn := hk.smap h.dn (h.mne.2.2.2.1)
    ak := hm
    bg := hk.smap h.bg (fun e => h.mne.2.2.2.2.2 e.symm)
    mB := h.mB
    mne := h.mne
    ops := fun y hy => ⟨hk.bk (h.ops y hy).1 (nk (h.ops y hy).1.isK), (h.ops y hy).2⟩
    nd := h.nd
    nm := h.nm
    mx := h.mx.keptB hk (fun g e => by rw [e]; exact h.mB.2.1) h.mxB
    mxB := h.mxB }, ⟨fun _ h => .inl h, hk.mono fun g e => .inr (.inr (.inl e))⟩⟩

section
variable {P : Program} {w : World} {ops : Array Oper} {rest : List Oper} {o : Oper} {a : Act} {Q : Exit → Act → World → Prop}
theorem wpList_kv_lookup (hgd : o.guard = none) (mo ko : Operand) (T K E : TypeId) (ho : o.op = .lookup T mo ko true) (hT : P.underlying T = some (.map K E)) (hK : P.underlying K = some .string)
    (hz : (zeroValue E).run P w = .ok (.agg #[]) w) (r : Nat) (l : List Bytes) (h : SMap w r (kv l)) (k : Bytes) (b : Bool) (hb : l.contains k = b) (hm : a.eval mo = .map (some r)) (hk : a.eval ko = .string ⟨k.toArray⟩)
    (hn : wpList P ops Q rest (a.put o.dst (.tuple #[.agg #[], .bool b])) w) : wpList P ops Q (o :: rest) a w := by
  refine wpList_smap_lookup hgd mo ko T K E true ho hT hK _ hz r _ h k hm hk ?_
  have e1 : (mapGet (kv l) k).getD (.agg #[]) = .agg #[] := by rw [kv_find]; split <;> rfl
  have e2 : (mapGet (kv l) k).isSome = b := by rw [kv_find, ← hb]; cases l.contains k <;> rfl
  rw [e1, e2]
  exact hn
end

set_option maxHeartbeats 1000000 in
theorem rask_any (A : Adr) (L : List Two) (r : RS) (V : Vals) (ss : List Op1) (w : World) (h : Core A L r V ss w) (n : Bytes) :
    Calls Tryz.prog 151 #[.pointer (some ⟨A.rb, 0, none⟩), .string ⟨n.toArray⟩] w fun e w' => e = .returned (.tuple #[]) ∧ Core A L (r.ask n) V ss w' ∧ Step A V w V w' := by
  have c5 : w.cell? ⟨A.rb, 5, none⟩ = some (.map (some A.dn)) := by rw [h.rb.cell]; rfl
  have hb1 := (Below.refl w.heap.size w).alloc (Nat.le_refl _) (.cells #[] 97)
  have h1 := h.next hb1
  have c6 : (w.alloc (.cells #[] 97)).cell? ⟨A.rb, 6, none⟩ = some (.map (some A.ak)) := by rw [h1.rb.cell]; rfl
  have HC := Lib.hid h
  have HC1 := Lib.hid h1
  have HB := Lib.hid hb1
  cases hd : r.done.contains n
  · have hr : r.ask n = { r with asked := addN r.asked n } := by unfold RS.ask; rw [if_neg (by rw [hd]; simp)]
    have HD := Lib.hid hd
    rw [hr]
    clear h h1 hb1 hd hr
    go_enter Tryz.func151, Tryz.ntmps151
    go_wp2_with (first
      | (refine wpList_kv_lookup rfl (.tmp 10) (.tmp 11) 86 9 97 rfl Tryz.underlying86 Tryz.underlying9 (zeroU _) A.dn r.done HC.out.dn n false HD.out rfl rfl ?_)
      | (refine wpList_smap_put rfl (.tmp 20) (.tmp 21) (.tmp 22) 86 9 97 (.inl rfl) Tryz.underlying86 Tryz.underlying9 A.ak _ HC1.out.ak n (.agg #[]) rfl rfl rfl ?_; intro w4 hm4 hg4 hz4; rw [kv_put] at hm4; have HX := Lib.hid (HC1.out.updAk hg4 hm4); clear hm4 hg4))
    go_end0
    exact ⟨rfl, HX.out.1, ((Step.refl A V w).below HB.out).trans HX.out.2⟩
  · have hr : r.ask n = r := by unfold RS.ask; rw [if_pos hd]
    have HD := Lib.hid hd
    rw [hr]
    clear h h1 hb1 hd hr c6
    go_enter Tryz.func151, Tryz.ntmps151
    go_wp2_with (refine wpList_kv_lookup rfl (.tmp 10) (.tmp 11) 86 9 97 rfl Tryz.underlying86 Tryz.underlying9 (zeroU _) A.dn r.done HC.out.dn n true HD.out rfl rfl ?_)
    go_end0
    exact ⟨rfl, HC1.out, (Step.refl A V w).below HB.out⟩
end Go.Proofs.YtfedkhicckgjaaaGreatDoor

namespace Go.Proofs.YtfedkhicckgjaaaGreatDoor
open Go.RowKit
set_option linter.unusedVariables false

theorem SMap.lt' {w : World} {r : Nat} {m : KV} (h : SMap w r m) : r < w.heap.size := h.lt
theorem Core.foot_lt {A : Adr} {L : List Two} {r : RS} {V : Vals} {ss : List Op1} {w : World} (h : Core A L r V ss w) {g : Nat} (hg : Foot A V g) : g < w.heap.size := by
  rcases hg with rfl | rfl | rfl | rfl | e | e | e | e | e
  · exact h.rb.lt
  · exact h.dn.lt
  · exact h.ak.lt
  · exact h.bg.lt
  · exact (h.va.block g e).2
  · exact (h.vo.block g e).2
  · exact (h.vl.block g e).2
  · exact (h.vd.block g e).2
  · exact (h.vf.block g e).2
theorem askFold_attrs : ∀ (l : List Bytes) (r : RS), (l.foldl RS.ask r).attrs = r.attrs
  | [], _ => rfl
  | n :: l, r => by
    rw [List.foldl_cons, askFold_attrs l]
    unfold RS.ask; split <;> rfl

set_option maxHeartbeats 1000000 in
theorem rdfill_any (A : Adr) (L : List Two) (r : RS) (V : Vals) (ss : List Op1) (w : World) (h : Core A L r V ss w) (s : Bytes) (hs : s.length ≤ 100000) (hn : r.attrs.length ≤ 1048576) (hv : ∀ x ∈ r.attrs, x.value.length ≤ 100000) (hl : (fillN s).length ≤ 1000000) :
    Calls Tryz.prog 158 #[.pointer (some ⟨A.rb, 0, none⟩), .string ⟨s.toArray⟩] w fun e w' => e = .returned (.string ⟨(fillT r.attrs s).toArray⟩) ∧ Core A L (r.fill s) V ss w' ∧ Step A V w V w' := by
  obtain ⟨aa, ac, hva⟩ := h.va.shape
  have c1 : w.cell? ⟨A.rb, 1, none⟩ = some (.slice aa r.attrs.length ac) := by rw [h.rb.cell, ← hva]; rfl
  have hO : Own w A.B 78 2 encT (.slice aa r.attrs.length ac) r.attrs := by rw [← hva]; exact h.va
  have HC := Lib.hid h
  have HF := Lib.hid (fill_any aa ac r.attrs s w hn hs (hO.addr encT_ok) hv)
  clear h hva hO hv
  go_enter Tryz.func158, Tryz.ntmps158
  go_wp2_with (go_at_call 192; refine HF.out.mono ?_; rintro e w1 ⟨⟨rv, rfl, hO1⟩, hb1⟩; obtain ⟨na, nc, rfl⟩ := hO1.shape; have HN := Lib.hid hO1; have hz1 := hb1.size; have HB1 := Lib.hid hb1; clear hO1 hb1)
  go_loopw [20] (fun v wr => ∃ k : Nat, k ≤ (fillN s).length ∧ v = .int .i64 k ∧ Hid (Core A L (((fillN s).take k).foldl RS.ask r) V ss wr) ∧ Hid (Step A V w V wr) ∧ Hid (Own wr w.heap.size 9 1 encS (.slice na (fillN s).length nc) (fillN s))) (fun v _ => (fillN s).length - (intOf v).toNat)
  case atStart => exact ⟨0, by omega, rfl, HC.out.next HB1.out, (Step.refl A V w).below HB1.out, HN.out⟩
  case round =>
    obtain ⟨k, hk, rfl, HCr, HSt, HOr⟩ := hrel
    by_cases hlt : k < (fillN s).length
    · obtain ⟨b, off, ha, hbl, hc0⟩ := (HOr.out.addr encS_ok).str hlt
      subst ha
      generalize hx0 : (fillN s)[k] = nm at *
      have HX : Hid (((fillN s).take (k + 1)).foldl RS.ask r = RS.ask (((fillN s).take k).foldl RS.ask r) nm) := by
        show _ = _
        rw [List.take_succ_eq_append_getElem hlt, List.foldl_append, hx0]; rfl
      clear hx0
      have HR := Lib.hid (rask_any A L _ V ss wr HCr.out nm)
      go_wp2_with (go_at_call 151; refine HR.out.mono ?_; rintro e w2 ⟨rfl, hc2, hs2⟩; have HC2 := Lib.hid hc2; have HS2 := Lib.hid hs2; clear hc2 hs2)
      go_roundw
      case rel =>
        refine ⟨k + 1, by omega, by go_num, by show Core _ _ _ _ _ _; rw [HX.out]; exact HC2.out, HSt.out.trans HS2.out, HS2.out.kept.own HOr.out fun g e hf => ?_⟩
        have h1 := HC.out.foot_lt hf
        have h2 := (HOr.out.block g e).1
        omega
      case measure => simp [intOf]; omega
    · have HX : Hid (((fillN s).take k).foldl RS.ask r = r.fill s) := by
        show _ = _
        rw [List.take_of_length_le (by omega)]; rfl
      go_wp2
      go_ret
      exact ⟨rfl, by rw [← HX.out]; exact HCr.out, HSt.out⟩
end Go.Proofs.YtfedkhicckgjaaaGreatDoor

namespace Go.Proofs.YtfedkhicckgjaaaGreatDoor
open Go.RowKit
set_option linter.unusedVariables false

/-- what was begun may change -/
theorem Core.updBg {A : Adr} {L : List Two} {r : RS} {V : Vals} {ss : List Op1} {w w1 : World} {bg' : List Bytes} (h : Core A L r V ss w) (hg : w.grownBy w1 (some A.bg)) (hm : SMap w1 A.bg (kv bg')) :
    Core A L { r with begun := bg' } V ss w1 ∧ Step A V w V w1 := by
  have hk : Kept (fun g => g = A.bg) w w1 := (Kept.refl _ w).grown hg fun g e => (Option.some.inj e).symm
  have nk : ∀ {T} {g}, IsK w T g → ¬ g = A.bg := fun hT e => by subst e; exact h.bg.not_k hT
  refine ⟨{
    rb := hk.bk h.rb (nk h.rb.isK)
    hrb := h.hrb
    src := h.src.kept hk.size fun b off e => by
      by_cases hlt : b < w.heap.size
      · exact hk.block b hlt fun hs => by have := h.mB.2.2; have := h.srcB b off e; omega
      · have h2 := h.srcB b off e; have h3 := h.rb.lt; have := h.hrb; omega
    srcB := h.srcB
    va := hk.own h.va fun g e => nk (h.va.isK e)
    vo := hk.own h.vo fun g e => nk (h.vo.isK e)
    vl := hk.own h.vl fun g e => nk (h.vl.isK e)
    vd := hk.own h.vd fun g e => nk (h.vd.isK e)
    vf := hk.own h.vf fun g e => nk (h.vf.isK e)
    wm := hk.smap h.wm (h.mne.2.2.1)
    dn := hk.smap h.dn (h.mne.2.2.2.2.1)
    ak := hk.smap h.ak (h.mne.2.2.2.2.2)
    bg := hm
    mB := h.mB
    mne := h.mne
    ops := fun y hy => ⟨hk.bk (h.ops y hy).1 (nk (h.ops y hy).1.isK), (h.ops y hy).2⟩
    nd := h.nd
    nm := h.nm
    mx := h.mx.keptB hk (fun g e => by rw [e]; exact h.mB.2.2) h.mxB
    mxB := h.mxB }, ⟨fun _ h => .inl h, hk.mono fun g e => .inr (.inr (.inr (.inl e)))⟩⟩

/-- what was set may change -/
theorem Core.updDn {A : Adr} {L : List Two} {r : RS} {V : Vals} {ss : List Op1} {w w1 : World} {dn' : List Bytes} (h : Core A L r V ss w) (hg : w.grownBy w1 (some A.dn)) (hm : SMap w1 A.dn (kv dn')) :
    Core A L { r with done := dn' } V ss w1 ∧ Step A V w V w1 := by
  have hk : Kept (fun g => g = A.dn) w w1 := (Kept.refl _ w).grown hg fun g e => (Option.some.inj e).symm
  have nk : ∀ {T} {g}, IsK w T g → ¬ g = A.dn := fun hT e => by subst e; exact h.dn.not_k hT
  refine ⟨{
    rb := hk.bk h.rb (nk h.rb.isK)
    hrb := h.hrb
    src := h.src.kept hk.size fun b off e => by
      by_cases hlt : b < w.heap.size
      · exact hk.block b hlt fun hs => by have := h.mB.1; have := h.srcB b off e; omega
      · have h2 := h.srcB b off e; have h3 := h.rb.lt; have := h.hrb; omega
    srcB := h.srcB
    va := hk.own h.va fun g e => nk (h.va.isK e)
    vo := hk.own h.vo fun g e => nk (h.vo.isK e)
    vl := hk.own h.vl fun g e => nk (h.vl.isK e)
    vd := hk.own h.vd fun g e => nk (h.vd.isK e)
    vf := hk.own h.vf fun g e => nk (h.vf.isK e)
    wm := hk.smap h.wm (h.mne.1)
    dn := hm
    ak := hk.smap h.ak (fun e => h.mne.2.2.2.1 e.symm)
    bg := hk.smap h.bg (fun e => h.mne.2.2.2.2.1 e.symm)
    mB := h.mB
    mne := h.mne
    ops := fun y hy => ⟨hk.bk (h.ops y hy).1 (nk (h.ops y hy).1.isK), (h.ops y hy).2⟩
    nd := h.nd
    nm := h.nm
    mx := h.mx.keptB hk (fun g e => by rw [e]; exact h.mB.1) h.mxB
    mxB := h.mxB }, ⟨fun _ h => .inl h, hk.mono fun g e => .inr (.inl e)⟩⟩

/-- what is open may change -/
theorem Core.updO {A : Adr} {L : List Two} {r r' : RS} {V V' : Vals} {ss ss' : List Op1} {w w1 : World} {S : Nat → Prop} (h : Core A L r V ss w) (hk : Kept S w w1)
    (hS : ∀ g, S g → g = A.rb ∨ V.vo.ownBlock = some g) (hbk : Bk w1 A.rb (rcells A L.length V' r'.count) 89)
    (hvo : Own w1 A.B 206 1 encP V'.vo (ss'.map (·.g))) (hV : V'.va = V.va ∧ V'.vl = V.vl ∧ V'.vd = V.vd ∧ V'.vf = V.vf)
    (hr : r'.attrs = r.attrs ∧ r'.lines = r.lines ∧ r'.diags = r.diags ∧ r'.files = r.files ∧ r'.done = r.done ∧ r'.asked = r.asked ∧ r'.begun = r.begun)
    (hops : ∀ x ∈ ss', Bk w1 x.g [.string ⟨x.name.toArray⟩, x.vc] 216 ∧ A.B ≤ x.g) (nd : (ss'.map (·.g)).Nodup) (nm : r'.opens.map (·.name) = ss'.map (·.name))
    (hnew : ∀ g, V'.vo.ownBlock = some g → V.vo.ownBlock = some g ∨ w.heap.size ≤ g) : Core A L r' V' ss' w1 ∧ Step A V w V' w1 := by
  obtain ⟨e1, e2, e3, e4⟩ := hV
  obtain ⟨f1, f2, f3, f4, f5, f6, f7⟩ := hr
  have nk : ∀ {T} {g}, IsK w T g → T ≠ 89 → T ≠ 206 → ¬ S g := fun hT h1 h2 hs => by
    rcases hS _ hs with rfl | e
    · exact h1 (hT.ne h.rb.isK)
    · exact h2 (hT.ne (h.vo.isK e))
  have nm' : ∀ {m} {g}, SMap w g m → ¬ S g := fun hm hs => by
    rcases hS _ hs with rfl | e
    · exact hm.not_k h.rb.isK
    · exact hm.not_k (h.vo.isK e)
  have hB : ∀ g, S g → A.B ≤ g := fun g hg => by
    rcases hS g hg with rfl | e
    · exact h.hrb
    · exact (h.vo.block g e).1
  refine ⟨{
    rb := hbk
    hrb := h.hrb
    src := h.src.kept hk.size fun b off e => by
      by_cases hlt : b < w.heap.size
      · exact hk.block b hlt fun hs => by have := hB b hs; have := h.srcB b off e; omega
      · have h2 := h.srcB b off e; have h3 := h.rb.lt; have := h.hrb; omega
    srcB := h.srcB
    va := by rw [e1, f1]; exact hk.own h.va fun g e => nk (h.va.isK e) (by decide) (by decide)
    vo := hvo
    vl := by rw [e2, f2]; exact hk.own h.vl fun g e => nk (h.vl.isK e) (by decide) (by decide)
    vd := by rw [e3, f3]; exact hk.own h.vd fun g e => nk (h.vd.isK e) (by decide) (by decide)
    vf := by rw [e4, f4]; exact hk.own h.vf fun g e => nk (h.vf.isK e) (by decide) (by decide)
    wm := hk.smap h.wm (nm' h.wm)
    dn := by rw [f5]; exact hk.smap h.dn (nm' h.dn)
    ak := by rw [f6]; exact hk.smap h.ak (nm' h.ak)
    bg := by rw [f7]; exact hk.smap h.bg (nm' h.bg)
    mB := h.mB
    mne := h.mne
    ops := hops
    nd := nd
    nm := nm
    mx := h.mx.keptB hk hB h.mxB
    mxB := h.mxB }, ⟨fun g hg => ?_, hk.mono fun g hg => ?_⟩⟩
  · rcases hg with rfl | rfl | rfl | rfl | e | e | e | e | e
    · exact .inl (.inl rfl)
    · exact .inl (.inr (.inl rfl))
    · exact .inl (.inr (.inr (.inl rfl)))
    · exact .inl (.inr (.inr (.inr (.inl rfl))))
    · exact .inl (.inr (.inr (.inr (.inr (.inl (e1 ▸ e))))))
    · rcases hnew g e with h1 | h1
      · exact .inl (.inr (.inr (.inr (.inr (.inr (.inl h1))))))
      · exact .inr h1
    · exact .inl (.inr (.inr (.inr (.inr (.inr (.inr (.inl (e2 ▸ e))))))))
    · exact .inl (.inr (.inr (.inr (.inr (.inr (.inr (.inr (.inl (e3 ▸ e)))))))))
    · exact .inl (.inr (.inr (.inr (.inr (.inr (.inr (.inr (.inr (e4 ▸ e)))))))))
  · rcases hS g hg with rfl | e
    · exact .inl rfl
    · exact .inr (.inr (.inr (.inr (.inr (.inl e)))))
end Go.Proofs.YtfedkhicckgjaaaGreatDoor
