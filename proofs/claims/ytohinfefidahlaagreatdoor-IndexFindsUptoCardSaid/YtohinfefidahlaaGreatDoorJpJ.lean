/- What an argument that was read is to the walks: slices of strings and of pairs of strings, their sizes too. What an argument of chapters that was read is to the walks: where all of it lies, and how great it is. What an argument of entries that was read is to the walks: where all of it lies, and how great it is. -/
import Derived.Test.YtohinfefidahlaaGreatDoorJoA
import Derived.ProofKit
import Derived.ChangeOld
import Derived.OpenShut
import Derived.SizedLaws
import Derived.Test.YtohinfefidahlaaGreatDoorJoF
import Derived.Test.YtohinfefidahlaaGreatDoorRows
import Derived.Test.YtohinfefidahlaaGreatDoorJpI
namespace Go.Proofs.YtohinfefidahlaaGreatDoor
open Go.RowKit Go.ChangeShapes Go.WideShapes Go.Deep

def Sized {H : Type} (P : Program) (t : TypeId) (d : DataW H) : Prop := ∀ n ∈ d.weights P t, n ≤ reachBytes

section
variable {H : Type} {enc : TypeId × Value → H} {P : Program} {W : World}

theorem sized_arg {ts : List TypeId} {ds : List (DataW H)} (h : (DataW.weightsEach P ts ds).all (· ≤ reachBytes) = true) {j : Nat} {t : TypeId} {d : DataW H} (ht : ts[j]? = some t) (hd : ds[j]? = some d) : Sized P t d := by
  intro n hn
  have := List.all_eq_true.1 h _ (DataW.weights_mem_each ht hd n hn)
  simpa using this
theorem weightsAll_mem {e : TypeId} : ∀ {l : List (DataW H)} {d : DataW H}, d ∈ l → ∀ n ∈ d.weights P e, n ∈ DataW.weightsAll P e l
  | x :: l, d, hd, n, hn => by
    simp only [DataW.weightsAll, List.mem_append]
    rcases List.mem_cons.1 hd with rfl | h
    · exact .inl hn
    · exact .inr (weightsAll_mem h n hn)
theorem Sized.elem {t e : TypeId} {elems spare : List (DataW H)} (hu : P.underlying t = some (.slice e)) (h : Sized P t (.slice elems spare)) {d : DataW H} (hd : d ∈ elems) : Sized P e d := by
  intro n hn
  exact h n (by simp only [DataW.weights, hu, List.mem_cons, List.mem_append]; exact .inr (.inl (weightsAll_mem hd n hn)))
theorem Sized.len {t e : TypeId} {elems spare : List (DataW H)} (hu : P.underlying t = some (.slice e)) (h : Sized P t (.slice elems spare)) : elems.length * P.bytesOf e ≤ reachBytes := by
  have := h _ (by simp only [DataW.weights, hu, List.mem_cons]; exact .inl rfl)
  rw [Nat.add_mul] at this
  omega
theorem Sized.str {t : TypeId} {s : List UInt8} (h : Sized P t (.lit (.string s) : DataW H)) : s.length ≤ reachBytes := h _ (by simp [DataW.weights])
theorem Sized.two {t : TypeId} {f0 f1 : Field} {d0 d1 : DataW H} (hu : P.underlying t = some (.struct #[f0, f1])) (h : Sized P t (.agg [d0, d1])) : Sized P f0.type d0 ∧ Sized P f1.type d1 := by
  constructor
  · intro n hn; exact h n (by simp [DataW.weights, hu, DataW.weightsEach]; exact .inl hn)
  · intro n hn; exact h n (by simp [DataW.weights, hu, DataW.weightsEach]; exact .inr hn)

/-- a slice whose elements are told by 'enc': what is asked of the element's type stands in 'hel' -/
theorem open_sl {α : Type} [Inhabited α] {t e : TypeId} {sz : Nat} {encE : α → List Value} {good : α → Prop} (hu : P.underlying t = some (.slice e)) (hc : P.cellsOf e = sz) (hsz : 0 < sz) {v : Value} {d : DataW H} {ps : List MemPlace}
    (hel : ∀ (n : Nat) (cs : List Value) (x : DataW H × List MemPlace), DataW.trod enc P W 0 (fun _ => true) true n e cs = some x → Sized P e x.1 → ∃ y : α, encE y = cs ∧ good y)
    (hv : ∃ a len cap, v = .slice a len cap) (h : DataW.Trod enc P W 0 (fun _ => true) true t v d ps) (hs : Sized P t d) :
    ∃ (a : Option Addr) (c : Nat) (l : List α), v = .slice a l.length c ∧ At W sz encE a l ∧ (∀ x ∈ l, good x) ∧ l.length * P.bytesOf e ≤ reachBytes ∧ l.length ≤ c := by
  obtain ⟨a0, len0, cap0, rfl⟩ := hv
  obtain ⟨fuel, hf⟩ := h
  rcases open_slice hu hf with ⟨hcs, _⟩ | ⟨a, len, cap, m, n, D, Pl, hcs, _, hl, hm, hmm, hx, hcell⟩
  · simp [Value.cells] at hcs
    obtain ⟨rfl, rfl, rfl⟩ := hcs
    exact ⟨none, 0, [], rfl, .inl rfl, by simp, by simp, by simp⟩
  · simp [Value.cells] at hcs
    obtain ⟨rfl, rfl, rfl⟩ := hcs
    simp only [if_true] at hmm
    subst hmm
    have hd : d = .slice ((List.range len0).map D) ((List.range (m - len0)).map fun j => D (len0 + j)) := congrArg Prod.fst hx
    subst hd
    have hlen := Sized.len hu hs
    rw [List.length_map, List.length_range] at hlen
    have hex : ∀ i, i < len0 → ∃ y : α, (∀ j v, (encE y)[j]? = some v → W.cell? ((a.add (i * sz)).add j) = some v) ∧ (encE y).length = sz ∧ good y := by
      intro i hi
      obtain ⟨cs', h1, h2⟩ := hcell i (by omega)
      obtain ⟨y, hy, hg⟩ := hel n cs' _ h2 (Sized.elem hu hs (List.mem_map.2 ⟨i, List.mem_range.2 hi, rfl⟩))
      rw [hc] at h1
      obtain ⟨_, hlen', hc'⟩ := World.cells?_some h1
      refine ⟨y, fun j v hj => ?_, by rw [hy]; exact hlen', hg⟩
      rw [hy] at hj
      have hjs : j < sz := by rw [← hlen']; exact (List.getElem?_eq_some_iff.1 hj).1
      rw [hc' j hjs, hj]
    obtain ⟨f, hf⟩ := choose_lt hex
    refine ⟨some a, m, (List.range len0).map f, by simp, ?_, ?_, by simpa using hlen, by simpa using hl⟩
    · by_cases h0 : len0 = 0
      · subst h0; exact .inl rfl
      · obtain ⟨b, off, spot⟩ := a
        have hspot : spot = none := by
          obtain ⟨h1, h2, _⟩ := hf 0 (by omega)
          obtain ⟨v0, hv0⟩ : ∃ v0, (encE (f 0))[0]? = some v0 := ⟨_, List.getElem?_eq_getElem (by omega)⟩
          have := h1 0 v0 hv0
          simpa [Addr.add] using World.cell?_spot this
        subst hspot
        have hadd : ∀ i j, ((⟨b, off, none⟩ : Addr).add (i * sz)).add j = ⟨b, off + i * sz + j, none⟩ := by
          intro i j; unfold Addr.add; split <;> split <;> simp_all
        refine .inr ⟨b, off, rfl, ?_, ?_⟩
        · obtain ⟨h1, h2, _⟩ := hf 0 (by omega)
          obtain ⟨v0, hv0⟩ : ∃ v0, (encE (f 0))[0]? = some v0 := ⟨_, List.getElem?_eq_getElem (by omega)⟩
          have := World.block_lt_of_cell? W _ (h1 0 v0 hv0)
          rw [hadd] at this
          exact this
        · intro i x hi j v hj
          have hil : i < len0 := by simpa using (List.getElem?_eq_some_iff.1 hi).1
          have hx2 : x = f i := by
            rw [List.getElem?_map, List.getElem?_range hil] at hi
            simpa using hi.symm
          subst hx2
          rw [← hadd]
          exact (hf i hil).1 j v hj
    · intro x hx
      obtain ⟨i, hi, rfl⟩ := List.mem_map.1 hx
      exact (hf i (List.mem_range.1 hi)).2.2

theorem el_str {t : TypeId} (hu : P.underlying t = some .string) (n : Nat) (cs : List Value) (x : DataW H × List MemPlace) (h : DataW.trod enc P W 0 (fun _ => true) true n t cs = some x) (hs : Sized P t x.1) :
    ∃ y : Bytes, encS y = cs ∧ y.length ≤ reachBytes := by
  obtain ⟨s, rfl, rfl, _⟩ := DataW.trod_string hu h
  refine ⟨s.data.toList, by simp [encS], ?_⟩
  simpa using hs.str

theorem el_two {t s : TypeId} {f0 f1 : Field} (hu : P.underlying t = some (.struct #[f0, f1])) (hc : P.cellsOf t = 2) (h0 : f0.type = s ∧ f0.offset = 0) (h1 : f1.type = s ∧ f1.offset = 1) (hcs : P.cellsOf s = 1) (hus : P.underlying s = some .string)
    (n : Nat) (cs : List Value) (x : DataW H × List MemPlace) (h : DataW.trod enc P W 0 (fun _ => true) true n t cs = some x) (hs : Sized P t x.1) :
    ∃ y : Two, encT y = cs ∧ (y.name.length ≤ reachBytes ∧ y.value.length ≤ reachBytes) := by
  obtain ⟨y0, y1, m, rfl, hl, hy0, hy1⟩ := trod_struct2 hu h
  obtain ⟨hs0, hs1⟩ := Sized.two hu hs
  rw [h0.1, h0.2, hcs] at hy0
  rw [h1.1, h1.2, hcs] at hy1
  rw [h0.1] at hs0
  rw [h1.1] at hs1
  rw [hc] at hl
  obtain ⟨a, e0, rfl, _⟩ := DataW.trod_string hus hy0
  obtain ⟨b, e1, rfl, _⟩ := DataW.trod_string hus hy1
  match cs, hl with
  | [c0, c1], _ =>
    simp at e0 e1
    subst e0 e1
    refine ⟨⟨a.data.toList, b.data.toList⟩, by simp [encT], ?_, ?_⟩
    · simpa using hs0.str
    · simpa using hs1.str

/-- an array of two strings, by value -/
theorem open_arr2 {b0 : Nat} {t e : TypeId} {v : Value} {d : DataW H} {p : List MemPlace} (hu : P.underlying t = some (.array 2 e)) (hC : P.cellsOf t = 2) (hce : P.cellsOf e = 1) (hue : P.underlying e = some .string)
    (hv : Value.okWide P W .any b0 t v) (h : DataW.Trod enc P W 0 (fun _ => true) true t v d p) (hs : Sized P t d) :
    ∃ s0 s1 : Bytes, v = .agg #[.string ⟨s0.toArray⟩, .string ⟨s1.toArray⟩] ∧ s0.length ≤ reachBytes ∧ s1.length ≤ reachBytes := by
  simp only [Value.okWide, hu] at hv
  obtain ⟨cs, rfl, hsz, _⟩ := hv
  rw [hC] at hsz
  obtain ⟨c0, c1, rfl⟩ : ∃ c0 c1, cs = #[c0, c1] := by
    match cs, hsz with
    | ⟨[c0, c1]⟩, _ => exact ⟨c0, c1, rfl⟩
  obtain ⟨fuel, hf⟩ := h
  obtain ⟨xs, m, _, hx, hl, hn, hel⟩ := DataW.trod_array hu hf
  have e0 := hel 0 (by omega)
  have e1 := hel 1 (by omega)
  rw [hce] at e0 e1
  match xs, hn with
  | [y0, y1], _ =>
    have hd : d = .agg [y0.1, y1.1] := congrArg Prod.fst hx
    subst hd
    have w0 : Sized P e y0.1 := fun n hn' => hs n (by simp only [DataW.weights, hu, DataW.weightsAll, List.mem_append]; exact .inl hn')
    have w1 : Sized P e y1.1 := fun n hn' => hs n (by simp only [DataW.weights, hu, DataW.weightsAll, List.mem_append]; exact .inr (.inl hn'))
    obtain ⟨a, h0, h0', _⟩ := DataW.trod_string hue e0
    obtain ⟨b, h1, h1', _⟩ := DataW.trod_string hue e1
    refine ⟨a.data.toList, b.data.toList, ?_, ?_, ?_⟩
    · have k0 : c0 = .string a := by simpa [Value.cells] using h0
      have k1 : c1 = .string b := by simpa [Value.cells] using h1
      rw [k0, k1]
    · have := congrArg Prod.fst h0'
      rw [this] at w0
      simpa using w0.str
    · have := congrArg Prod.fst h1'
      rw [this] at w1
      simpa using w1.str
end

instance : Inhabited Two := ⟨⟨[], []⟩⟩
end Go.Proofs.YtohinfefidahlaaGreatDoor

namespace Go.Proofs.YtohinfefidahlaaGreatDoor
open Go.RowKit Go.ChangeShapes Go.WideShapes Go.Deep
set_option linter.unusedVariables false

section
variable {H : Type}
theorem bulk_one (d : DataW H) : 1 ≤ Rows.uptoBulk d := by
  cases d with
  | lit l => cases l <;> simp [Rows.uptoBulk]
  | nil => simp [Rows.uptoBulk]
  | ptr d => simp [Rows.uptoBulk]
  | slice elems spare => simp [Rows.uptoBulk]
  | agg parts => simp [Rows.uptoBulk]
  | iface t d => simp [Rows.uptoBulk]
  | map entries => simp [Rows.uptoBulk]
  | held h => simp [Rows.uptoBulk]
theorem bulk_slice (elems spare : List (DataW H)) : Rows.uptoBulkAll elems + 1 ≤ Rows.uptoBulk (.slice elems spare) := by
  simp only [Rows.uptoBulk]; omega
theorem bulk_agg (ds : List (DataW H)) : Rows.uptoBulkAll ds + 1 ≤ Rows.uptoBulk (.agg ds) := by
  simp only [Rows.uptoBulk]; omega
theorem bulk_part {d : DataW H} {l : List (DataW H)} (h : d ∈ l) : Rows.uptoBulk d ≤ Rows.uptoBulkAll l := by
  induction l with
  | nil => cases h
  | cons x r ih =>
    simp only [Rows.uptoBulkAll]
    cases List.mem_cons.1 h with
    | inl e => subst e; omega
    | inr e => have := ih e; omega
theorem bulk_str (s : List UInt8) : Rows.uptoBulk (DataW.lit (H := H) (.string s)) = s.length + 1 := by simp [Rows.uptoBulk]
theorem bulk_sum {α : Type} {f : α → Nat} {R : DataW H → α → Prop} (hf : ∀ d y, R d y → f y + 1 ≤ Rows.uptoBulk d) : ∀ (z : List (DataW H × α)), (∀ p ∈ z, R p.1 p.2) → szM f (z.map (·.2)) ≤ Rows.uptoBulkAll (z.map (·.1))
  | [], _ => by simp [szM, sumM, Rows.uptoBulkAll]
  | p :: z, h => by
    have h1 := hf _ _ (h p (by simp))
    have h2 := bulk_sum hf z (fun q hq => h q (by simp [hq]))
    unfold szM at *
    simp only [List.map_cons, sumM_cons, List.length_cons, Rows.uptoBulkAll]
    omega
end

section
variable {H : Type} {enc : TypeId × Value → H} {W : World}
abbrev Rdd (enc : TypeId × Value → H) (W : World) (n : Nat) (t : TypeId) (cs : List Value) (d : DataW H) : Prop := ∃ ps, DataW.trod enc Tryz.prog W 0 (fun _ => true) true n t cs = some (d, ps)
theorem rd_str {n : Nat} {t : TypeId} {cs : List Value} {d : DataW H} (hu : Tryz.prog.underlying t = some .string) (h : Rdd enc W n t cs d) : ∃ s : Bytes, cs = [.string ⟨s.toArray⟩] ∧ s.length + 1 ≤ Rows.uptoBulk d := by
  obtain ⟨ps, h⟩ := h
  obtain ⟨s, rfl, hx, _⟩ := DataW.trod_string hu h
  have hd : d = .lit (.string s.data.toList) := congrArg Prod.fst hx
  subst hd
  exact ⟨s.data.toList, by simp, by rw [bulk_str]; simp⟩
theorem rd_u8 {n : Nat} {t : TypeId} {cs : List Value} {d : DataW H} (hu : Tryz.prog.underlying t = some (.int .u8)) (h : Rdd enc W n t cs d) : ∃ k : Nat, cs = [.int .u8 k] := by
  obtain ⟨ps, h⟩ := h
  obtain ⟨a, rfl, hx, hw⟩ := DataW.trod_int hu h
  simp only [Lit.wf, Bool.and_eq_true, IntKind.min, IntKind.max, IntKind.signed, IntKind.bits] at hw
  simp at hw
  exact ⟨a.toNat, by rw [show ((a.toNat : Nat) : Int) = a by omega]⟩
theorem rd_i64 {n : Nat} {t : TypeId} {cs : List Value} {d : DataW H} (hu : Tryz.prog.underlying t = some (.int .i64)) (h : Rdd enc W n t cs d) : ∃ k : Int, cs = [.int .i64 k] := by
  obtain ⟨ps, h⟩ := h
  obtain ⟨a, rfl, hx, hw⟩ := DataW.trod_int hu h
  exact ⟨a, rfl⟩
theorem rd_bool {n : Nat} {t : TypeId} {cs : List Value} {d : DataW H} (hu : Tryz.prog.underlying t = some .bool) (h : Rdd enc W n t cs d) : ∃ b, cs = [.bool b] := by
  obtain ⟨ps, h⟩ := h
  obtain ⟨b, rfl, hx⟩ := DataW.trod_bool hu h
  exact ⟨b, rfl⟩
theorem rd_struct {n : Nat} {t : TypeId} {cs : List Value} {d : DataW H} {fs : Array Field} (hu : Tryz.prog.underlying t = some (.struct fs)) (h : Rdd enc W n t cs d) :
    ∃ m, m < n ∧ ∃ ds : List (DataW H), d = .agg ds ∧ ds.length = fs.size ∧ cs.length = Tryz.prog.cellsOf t ∧ ∀ (i : Nat) (f : Field), fs[i]? = some f → ∃ di, ds[i]? = some di ∧ Rdd enc W m f.type ((cs.drop f.offset).take (Tryz.prog.cellsOf f.type)) di := by
  obtain ⟨ps, h⟩ := h
  obtain ⟨xs, m, rfl, hx, hl, hlen, hf⟩ := DataW.trod_struct hu h
  refine ⟨m, by omega, xs.map (·.1), congrArg Prod.fst hx, by simpa using hlen, hl, fun i f hi => ?_⟩
  have h1 := hf i f hi
  have hil : i < xs.length := by rw [hlen]; exact (Array.getElem?_eq_some_iff.1 hi).1
  rw [List.getElem?_eq_getElem hil] at h1
  exact ⟨xs[i].1, by rw [List.getElem?_map, List.getElem?_eq_getElem hil]; rfl, xs[i].2, h1⟩
theorem rd_slice {α : Type} [Inhabited α] {n : Nat} {t e : TypeId} {sz : Nat} {encE : α → List Value} {R : DataW H → α → Prop} {cs : List Value} {d : DataW H} (hu : Tryz.prog.underlying t = some (.slice e)) (hc : Tryz.prog.cellsOf e = sz) (hsz : 0 < sz) (h : Rdd enc W n t cs d)
    (hel : ∀ m, m < n → ∀ cs d, Rdd enc W m e cs d → ∃ y, encE y = cs ∧ R d y) :
    ∃ (a : Option Addr) (c : Nat) (l : List α), cs = [.slice a l.length c] ∧ At W sz encE a l ∧ (∀ y ∈ l, ∃ d', R d' y) ∧ ∀ f : α → Nat, (∀ d y, R d y → f y + 1 ≤ Rows.uptoBulk d) → szM f l + 1 ≤ Rows.uptoBulk d := by
  obtain ⟨ps, h⟩ := h
  rcases DataW.trod_slice hu h with ⟨rfl, hx⟩ | ⟨a, len0, cap, elems, rest, m, rfl, rfl, hx, _, hl, _, hlen, hget, _, _⟩
  · have hd : d = .nil := congrArg Prod.fst hx
    subst hd
    exact ⟨none, 0, [], rfl, .inl rfl, fun y hy => absurd hy (List.not_mem_nil), fun f hf => by rw [show szM f [] = 0 from rfl]; exact bulk_one _⟩
  · have hd : d = .slice (elems.map (·.1)) (rest.map (·.1)) := congrArg Prod.fst hx
    subst hd
    have hex : ∀ i, i < len0 → ∃ y : α, (∀ j v, (encE y)[j]? = some v → W.cell? ((a.add (i * sz)).add j) = some v) ∧ (encE y).length = sz ∧ ∃ di, (elems.map (·.1))[i]? = some di ∧ R di y := by
      intro i hi
      have h1 := hget i hi
      have hil : i < elems.length := by omega
      rw [List.getElem?_eq_getElem hil] at h1
      cases hcs : W.cells? 0 (a.add (i * Tryz.prog.cellsOf e)) (Tryz.prog.cellsOf e) with
      | none => rw [hcs] at h1; cases h1
      | some cs' =>
        rw [hcs] at h1
        obtain ⟨y, hy, hg⟩ := hel m (by omega) cs' elems[i].1 ⟨elems[i].2, h1⟩
        rw [hc] at hcs
        obtain ⟨_, hlen', hc'⟩ := World.cells?_some hcs
        refine ⟨y, fun j v hj => ?_, by rw [hy]; exact hlen', elems[i].1, by rw [List.getElem?_map, List.getElem?_eq_getElem hil]; rfl, hg⟩
        rw [hy] at hj
        have hjs : j < sz := by rw [← hlen']; exact (List.getElem?_eq_some_iff.1 hj).1
        rw [hc' j hjs, hj]
    obtain ⟨f, hf⟩ := choose_lt hex
    have hz : elems.map (·.1) = ((List.range len0).map fun i => ((elems.map (·.1))[i]?.getD .nil, f i)).map (·.1) := by
      apply List.ext_getElem?
      intro i
      by_cases hi : i < len0
      · obtain ⟨_, _, di, h1, _⟩ := hf i hi
        simp only [List.map_map, List.getElem?_map, List.getElem?_range hi, Option.map_some, Function.comp]
        rw [List.getElem?_map] at h1
        rw [h1]; rfl
      · rw [List.getElem?_eq_none (by simp; omega), List.getElem?_eq_none (by simp; omega)]
    have hz2 : ((List.range len0).map fun i => ((elems.map (·.1))[i]?.getD .nil, f i)).map (·.2) = (List.range len0).map f := by rw [List.map_map]; rfl
    have hR : ∀ p ∈ ((List.range len0).map fun i => ((elems.map (·.1))[i]?.getD (.nil : DataW H), f i)), R p.1 p.2 := by
      intro p hp
      obtain ⟨i, hi, rfl⟩ := List.mem_map.1 hp
      obtain ⟨_, _, di, h1, h2⟩ := hf i (List.mem_range.1 hi)
      simp only [h1, Option.getD_some]; exact h2
    refine ⟨some a, cap, (List.range len0).map f, by simp, ?_, ?_, ?_⟩
    · by_cases h0 : len0 = 0
      · subst h0; exact .inl rfl
      · obtain ⟨b, off, spot⟩ := a
        have hspot : spot = none := by
          obtain ⟨h1, h2, _⟩ := hf 0 (by omega)
          obtain ⟨v0, hv0⟩ : ∃ v0, (encE (f 0))[0]? = some v0 := ⟨_, List.getElem?_eq_getElem (by omega)⟩
          have := h1 0 v0 hv0
          simpa [Addr.add] using World.cell?_spot this
        subst hspot
        have hadd : ∀ i j, ((⟨b, off, none⟩ : Addr).add (i * sz)).add j = ⟨b, off + i * sz + j, none⟩ := by
          intro i j; unfold Addr.add; split <;> split <;> simp_all
        refine .inr ⟨b, off, rfl, ?_, ?_⟩
        · obtain ⟨h1, h2, _⟩ := hf 0 (by omega)
          obtain ⟨v0, hv0⟩ : ∃ v0, (encE (f 0))[0]? = some v0 := ⟨_, List.getElem?_eq_getElem (by omega)⟩
          have := World.block_lt_of_cell? W _ (h1 0 v0 hv0)
          rw [hadd] at this
          exact this
        · intro i x hi j v hj
          have hil : i < len0 := by simpa using (List.getElem?_eq_some_iff.1 hi).1
          have hx2 : x = f i := by
            rw [List.getElem?_map, List.getElem?_range hil] at hi
            simpa using hi.symm
          subst hx2
          rw [← hadd]
          exact (hf i hil).1 j v hj
    · intro y hy
      obtain ⟨i, hi, rfl⟩ := List.mem_map.1 hy
      obtain ⟨_, _, di, _, h2⟩ := hf i (List.mem_range.1 hi)
      exact ⟨di, h2⟩
    · intro g hg
      have := bulk_sum hg _ hR
      rw [hz2, ← hz] at this
      have := bulk_slice (elems.map (·.1)) (rest.map (·.1))
      omega
theorem len1 {α : Type} {l : List α} (h : l.length = 1) : ∃ c0, l = [c0] := by
  match l, h with
  | [c0], _ => exact ⟨c0, rfl⟩
theorem len2 {α : Type} {l : List α} (h : l.length = 2) : ∃ c0 c1, l = [c0, c1] := by
  match l, h with
  | [c0, c1], _ => exact ⟨c0, c1, rfl⟩
theorem len4 {α : Type} {l : List α} (h : l.length = 4) : ∃ c0 c1 c2 c3, l = [c0, c1, c2, c3] := by
  match l, h with
  | [c0, c1, c2, c3], _ => exact ⟨c0, c1, c2, c3, rfl⟩
theorem len5 {α : Type} {l : List α} (h : l.length = 5) : ∃ c0 c1 c2 c3 c4, l = [c0, c1, c2, c3, c4] := by
  match l, h with
  | [c0, c1, c2, c3, c4], _ => exact ⟨c0, c1, c2, c3, c4, rfl⟩
theorem len6 {α : Type} {l : List α} (h : l.length = 6) : ∃ c0 c1 c2 c3 c4 c5, l = [c0, c1, c2, c3, c4, c5] := by
  match l, h with
  | [c0, c1, c2, c3, c4, c5], _ => exact ⟨c0, c1, c2, c3, c4, c5, rfl⟩
theorem len9 {α : Type} {l : List α} (h : l.length = 9) : ∃ c0 c1 c2 c3 c4 c5 c6 c7 c8, l = [c0, c1, c2, c3, c4, c5, c6, c7, c8] := by
  match l, h with
  | [c0, c1, c2, c3, c4, c5, c6, c7, c8], _ => exact ⟨c0, c1, c2, c3, c4, c5, c6, c7, c8, rfl⟩
theorem el_str2 (n : Nat) (cs : List Value) (d : DataW H) (h : Rdd enc W n 9 cs d) : ∃ y, encS y = cs ∧ (fun (d : DataW H) (y : Bytes) => szB y + 1 ≤ Rows.uptoBulk d) d y := by
  obtain ⟨s, rfl, h2⟩ := rd_str Tryz.underlying9 h
  exact ⟨s, rfl, h2⟩
instance : Inhabited Sp := ⟨Sp.mk 0 [] [] [] none 0 []⟩
/-- how api.Span was read -/
def RSp (W : World) (d : DataW H) (y : Sp) : Prop := SpIn W y ∧ szS y + 1 ≤ Rows.uptoBulk d
set_option maxRecDepth 100000 in
theorem el_Sp : ∀ (n : Nat) (cs : List Value) (d : DataW H), Rdd enc W n 70 cs d → ∃ y, encSp y = cs ∧ RSp W d y := by
  intro n
  induction n using Nat.strongRecOn with
  | _ n ih =>
  intro cs d h
  obtain ⟨m, hm, ds, rfl, hds, hl, hf⟩ := rd_struct Tryz.underlying70 h
  rw [show Tryz.prog.cellsOf 70 = 5 by kernel_rfl] at hl
  obtain ⟨c0, c1, c2, c3, c4, rfl⟩ : ∃ c0 c1 c2 c3 c4, cs = [c0, c1, c2, c3, c4] := by
    exact len5 hl
  have hag := bulk_agg ds
  obtain ⟨d0, d1, d2, d3, d4, rfl⟩ : ∃ d0 d1 d2 d3 d4, ds = [d0, d1, d2, d3, d4] := by
    exact len5 hds
  simp only [Rows.uptoBulkAll] at hag
  obtain ⟨e0, he0, r0⟩ := hf 0 _ rfl
  have he0 : d0 = e0 := Option.some.inj he0
  subst he0
  have r0 : Rdd enc W m 67 [c0] d0 := r0
  have b0 := bulk_one d0
  obtain ⟨s0, q0⟩ := rd_u8 Tryz.underlying67 r0
  simp only [List.cons.injEq, and_true] at q0
  subst q0
  obtain ⟨e1, he1, r1⟩ := hf 1 _ rfl
  have he1 : d1 = e1 := Option.some.inj he1
  subst he1
  have r1 : Rdd enc W m 9 [c1] d1 := r1
  have b1 := bulk_one d1
  obtain ⟨s1, q1, z1⟩ := rd_str Tryz.underlying9 r1
  simp only [List.cons.injEq, and_true] at q1
  subst q1
  obtain ⟨e2, he2, r2⟩ := hf 2 _ rfl
  have he2 : d2 = e2 := Option.some.inj he2
  subst he2
  have r2 : Rdd enc W m 9 [c2] d2 := r2
  have b2 := bulk_one d2
  obtain ⟨s2, q2, z2⟩ := rd_str Tryz.underlying9 r2
  simp only [List.cons.injEq, and_true] at q2
  subst q2
  obtain ⟨e3, he3, r3⟩ := hf 3 _ rfl
  have he3 : d3 = e3 := Option.some.inj he3
  subst he3
  have r3 : Rdd enc W m 9 [c3] d3 := r3
  have b3 := bulk_one d3
  obtain ⟨s3, q3, z3⟩ := rd_str Tryz.underlying9 r3
  simp only [List.cons.injEq, and_true] at q3
  subst q3
  obtain ⟨e4, he4, r4⟩ := hf 4 _ rfl
  have he4 : d4 = e4 := Option.some.inj he4
  subst he4
  have r4 : Rdd enc W m 68 [c4] d4 := r4
  have b4 := bulk_one d4
  obtain ⟨a4, k4, l4, q4, A4, G4, S4⟩ := rd_slice (R := RSp W) Tryz.underlying68 (show Tryz.prog.cellsOf 70 = 5 by kernel_rfl) (by decide) r4 (fun m hm2 cs d h => ih _ (by omega) cs d h)
  simp only [List.cons.injEq, and_true] at q4
  subst q4
  refine ⟨Sp.mk s0 s1 s2 s3 a4 k4 l4, rfl, ?_, ?_⟩
  · exact .mk A4 fun y hy => by obtain ⟨d, h⟩ := G4 y hy; exact h.1
  · have := S4 szS (fun d y h => h.2)
    rw [szS_eq]
    show 1 + s1.length + s2.length + s3.length + szM szS l4 + 1 ≤ _
    omega
theorem spsAt_of {a : Option Addr} {l : List Sp} (hA : At W 5 encSp a l) (hG : ∀ y ∈ l, ∃ d : DataW H, RSp W d y) : SpsAt W a l := ⟨hA, fun y hy => by obtain ⟨d, h⟩ := hG y hy; exact h.1⟩
instance : Inhabited Ce := ⟨⟨none, 0, []⟩⟩
/-- how api.Cell was read -/
def RCe (W : World) (d : DataW H) (y : Ce) : Prop := CeIn W y ∧ szCe y + 1 ≤ Rows.uptoBulk d
set_option maxRecDepth 100000 in
theorem el_Ce (n : Nat) (cs : List Value) (d : DataW H) (h : Rdd enc W n 158 cs d) : ∃ y, encCe y = cs ∧ RCe W d y := by
  obtain ⟨m, hm, ds, rfl, hds, hl, hf⟩ := rd_struct Tryz.underlying158 h
  rw [show Tryz.prog.cellsOf 158 = 1 by kernel_rfl] at hl
  obtain ⟨c0, rfl⟩ : ∃ c0, cs = [c0] := by
    exact len1 hl
  have hag := bulk_agg ds
  obtain ⟨d0, rfl⟩ : ∃ d0, ds = [d0] := by
    exact len1 hds
  simp only [Rows.uptoBulkAll] at hag
  obtain ⟨e0, he0, r0⟩ := hf 0 _ rfl
  have he0 : d0 = e0 := Option.some.inj he0
  subst he0
  have r0 : Rdd enc W m 68 [c0] d0 := r0
  have b0 := bulk_one d0
  obtain ⟨a0, k0, l0, q0, A0, G0, S0⟩ := rd_slice (R := RSp W) Tryz.underlying68 (show Tryz.prog.cellsOf 70 = 5 by kernel_rfl) (by decide) r0 (fun m hm2 cs d h => el_Sp _ cs d h)
  simp only [List.cons.injEq, and_true] at q0
  subst q0
  refine ⟨Ce.mk a0 k0 l0, rfl, ?_, ?_⟩
  · exact spsAt_of A0 G0
  · have := S0 szS (fun d y h => h.2)
    show 1 + szM szS l0 + 1 ≤ _
    omega
instance : Inhabited Rw := ⟨⟨none, 0, []⟩⟩
/-- how api.Row was read -/
def RRw (W : World) (d : DataW H) (y : Rw) : Prop := RwIn W y ∧ szRw y + 1 ≤ Rows.uptoBulk d
set_option maxRecDepth 100000 in
theorem el_Rw (n : Nat) (cs : List Value) (d : DataW H) (h : Rdd enc W n 163 cs d) : ∃ y, encRw y = cs ∧ RRw W d y := by
  obtain ⟨m, hm, ds, rfl, hds, hl, hf⟩ := rd_struct Tryz.underlying163 h
  rw [show Tryz.prog.cellsOf 163 = 1 by kernel_rfl] at hl
  obtain ⟨c0, rfl⟩ : ∃ c0, cs = [c0] := by
    exact len1 hl
  have hag := bulk_agg ds
  obtain ⟨d0, rfl⟩ : ∃ d0, ds = [d0] := by
    exact len1 hds
  simp only [Rows.uptoBulkAll] at hag
  obtain ⟨e0, he0, r0⟩ := hf 0 _ rfl
  have he0 : d0 = e0 := Option.some.inj he0
  subst he0
  have r0 : Rdd enc W m 154 [c0] d0 := r0
  have b0 := bulk_one d0
  obtain ⟨a0, k0, l0, q0, A0, G0, S0⟩ := rd_slice (R := RCe W) Tryz.underlying154 (show Tryz.prog.cellsOf 158 = 1 by kernel_rfl) (by decide) r0 (fun m hm2 cs d h => el_Ce _ cs d h)
  simp only [List.cons.injEq, and_true] at q0
  subst q0
  refine ⟨Rw.mk a0 k0 l0, rfl, ?_, ?_⟩
  · exact ⟨A0, fun y hy => by obtain ⟨d, h⟩ := G0 y hy; exact h.1⟩
  · have := S0 szCe (fun d y h => h.2)
    show 1 + szM szCe l0 + 1 ≤ _
    omega
instance : Inhabited Bl := ⟨⟨0, 0, false, [], [], none, 0, [], none, 0, [], [], 0⟩⟩
/-- how api.Block was read -/
def RBl (W : World) (d : DataW H) (y : Bl) : Prop := BlIn W y ∧ szBl y + 1 ≤ Rows.uptoBulk d
set_option maxRecDepth 100000 in
theorem el_Bl (n : Nat) (cs : List Value) (d : DataW H) (h : Rdd enc W n 74 cs d) : ∃ y, encBl y = cs ∧ RBl W d y := by
  obtain ⟨m, hm, ds, rfl, hds, hl, hf⟩ := rd_struct Tryz.underlying74 h
  rw [show Tryz.prog.cellsOf 74 = 9 by kernel_rfl] at hl
  obtain ⟨c0, c1, c2, c3, c4, c5, c6, c7, c8, rfl⟩ : ∃ c0 c1 c2 c3 c4 c5 c6 c7 c8, cs = [c0, c1, c2, c3, c4, c5, c6, c7, c8] := by
    exact len9 hl
  have hag := bulk_agg ds
  obtain ⟨d0, d1, d2, d3, d4, d5, d6, d7, d8, rfl⟩ : ∃ d0 d1 d2 d3 d4 d5 d6 d7 d8, ds = [d0, d1, d2, d3, d4, d5, d6, d7, d8] := by
    exact len9 hds
  simp only [Rows.uptoBulkAll] at hag
  obtain ⟨e0, he0, r0⟩ := hf 0 _ rfl
  have he0 : d0 = e0 := Option.some.inj he0
  subst he0
  have r0 : Rdd enc W m 71 [c0] d0 := r0
  have b0 := bulk_one d0
  obtain ⟨s0, q0⟩ := rd_u8 Tryz.underlying71 r0
  simp only [List.cons.injEq, and_true] at q0
  subst q0
  obtain ⟨e1, he1, r1⟩ := hf 1 _ rfl
  have he1 : d1 = e1 := Option.some.inj he1
  subst he1
  have r1 : Rdd enc W m 3 [c1] d1 := r1
  have b1 := bulk_one d1
  obtain ⟨s1, q1⟩ := rd_i64 Tryz.underlying3 r1
  simp only [List.cons.injEq, and_true] at q1
  subst q1
  obtain ⟨e2, he2, r2⟩ := hf 2 _ rfl
  have he2 : d2 = e2 := Option.some.inj he2
  subst he2
  have r2 : Rdd enc W m 4 [c2] d2 := r2
  have b2 := bulk_one d2
  obtain ⟨s2, q2⟩ := rd_bool Tryz.underlying4 r2
  simp only [List.cons.injEq, and_true] at q2
  subst q2
  obtain ⟨e3, he3, r3⟩ := hf 3 _ rfl
  have he3 : d3 = e3 := Option.some.inj he3
  subst he3
  have r3 : Rdd enc W m 9 [c3] d3 := r3
  have b3 := bulk_one d3
  obtain ⟨s3, q3, z3⟩ := rd_str Tryz.underlying9 r3
  simp only [List.cons.injEq, and_true] at q3
  subst q3
  obtain ⟨e4, he4, r4⟩ := hf 4 _ rfl
  have he4 : d4 = e4 := Option.some.inj he4
  subst he4
  have r4 : Rdd enc W m 9 [c4] d4 := r4
  have b4 := bulk_one d4
  obtain ⟨s4, q4, z4⟩ := rd_str Tryz.underlying9 r4
  simp only [List.cons.injEq, and_true] at q4
  subst q4
  obtain ⟨e5, he5, r5⟩ := hf 5 _ rfl
  have he5 : d5 = e5 := Option.some.inj he5
  subst he5
  have r5 : Rdd enc W m 68 [c5] d5 := r5
  have b5 := bulk_one d5
  obtain ⟨a5, k5, l5, q5, A5, G5, S5⟩ := rd_slice (R := RSp W) Tryz.underlying68 (show Tryz.prog.cellsOf 70 = 5 by kernel_rfl) (by decide) r5 (fun m hm2 cs d h => el_Sp _ cs d h)
  simp only [List.cons.injEq, and_true] at q5
  subst q5
  obtain ⟨e6, he6, r6⟩ := hf 6 _ rfl
  have he6 : d6 = e6 := Option.some.inj he6
  subst he6
  have r6 : Rdd enc W m 72 [c6] d6 := r6
  have b6 := bulk_one d6
  obtain ⟨a6, k6, l6, q6, A6, G6, S6⟩ := rd_slice (R := RRw W) Tryz.underlying72 (show Tryz.prog.cellsOf 163 = 1 by kernel_rfl) (by decide) r6 (fun m hm2 cs d h => el_Rw _ cs d h)
  simp only [List.cons.injEq, and_true] at q6
  subst q6
  obtain ⟨e7, he7, r7⟩ := hf 7 _ rfl
  have he7 : d7 = e7 := Option.some.inj he7
  subst he7
  have r7 : Rdd enc W m 9 [c7] d7 := r7
  have b7 := bulk_one d7
  obtain ⟨s7, q7, z7⟩ := rd_str Tryz.underlying9 r7
  simp only [List.cons.injEq, and_true] at q7
  subst q7
  obtain ⟨e8, he8, r8⟩ := hf 8 _ rfl
  have he8 : d8 = e8 := Option.some.inj he8
  subst he8
  have r8 : Rdd enc W m 3 [c8] d8 := r8
  have b8 := bulk_one d8
  obtain ⟨s8, q8⟩ := rd_i64 Tryz.underlying3 r8
  simp only [List.cons.injEq, and_true] at q8
  subst q8
  refine ⟨Bl.mk s0 s1 s2 s3 s4 a5 k5 l5 a6 k6 l6 s7 s8, rfl, ?_, ?_⟩
  · exact ⟨spsAt_of A5 G5, A6, fun y hy => by obtain ⟨d, h⟩ := G6 y hy; exact h.1⟩
  · have h1 := S5 szS (fun d y h => h.2)
    have h2 := S6 szRw (fun d y h => h.2)
    show 1 + s3.length + s4.length + s7.length + szM szS l5 + szM szRw l6 + 1 ≤ _
    omega
instance : Inhabited Dg := ⟨⟨[], 0, 0, []⟩⟩
/-- how api.Diag was read -/
def RDg (W : World) (d : DataW H) (y : Dg) : Prop := True ∧ szDg y + 1 ≤ Rows.uptoBulk d
set_option maxRecDepth 100000 in
theorem el_Dg (n : Nat) (cs : List Value) (d : DataW H) (h : Rdd enc W n 103 cs d) : ∃ y, encDg y = cs ∧ RDg W d y := by
  obtain ⟨m, hm, ds, rfl, hds, hl, hf⟩ := rd_struct Tryz.underlying103 h
  rw [show Tryz.prog.cellsOf 103 = 4 by kernel_rfl] at hl
  obtain ⟨c0, c1, c2, c3, rfl⟩ : ∃ c0 c1 c2 c3, cs = [c0, c1, c2, c3] := by
    exact len4 hl
  have hag := bulk_agg ds
  obtain ⟨d0, d1, d2, d3, rfl⟩ : ∃ d0 d1 d2 d3, ds = [d0, d1, d2, d3] := by
    exact len4 hds
  simp only [Rows.uptoBulkAll] at hag
  obtain ⟨e0, he0, r0⟩ := hf 0 _ rfl
  have he0 : d0 = e0 := Option.some.inj he0
  subst he0
  have r0 : Rdd enc W m 9 [c0] d0 := r0
  have b0 := bulk_one d0
  obtain ⟨s0, q0, z0⟩ := rd_str Tryz.underlying9 r0
  simp only [List.cons.injEq, and_true] at q0
  subst q0
  obtain ⟨e1, he1, r1⟩ := hf 1 _ rfl
  have he1 : d1 = e1 := Option.some.inj he1
  subst he1
  have r1 : Rdd enc W m 3 [c1] d1 := r1
  have b1 := bulk_one d1
  obtain ⟨s1, q1⟩ := rd_i64 Tryz.underlying3 r1
  simp only [List.cons.injEq, and_true] at q1
  subst q1
  obtain ⟨e2, he2, r2⟩ := hf 2 _ rfl
  have he2 : d2 = e2 := Option.some.inj he2
  subst he2
  have r2 : Rdd enc W m 101 [c2] d2 := r2
  have b2 := bulk_one d2
  obtain ⟨s2, q2⟩ := rd_i64 Tryz.underlying101 r2
  simp only [List.cons.injEq, and_true] at q2
  subst q2
  obtain ⟨e3, he3, r3⟩ := hf 3 _ rfl
  have he3 : d3 = e3 := Option.some.inj he3
  subst he3
  have r3 : Rdd enc W m 9 [c3] d3 := r3
  have b3 := bulk_one d3
  obtain ⟨s3, q3, z3⟩ := rd_str Tryz.underlying9 r3
  simp only [List.cons.injEq, and_true] at q3
  subst q3
  refine ⟨Dg.mk s0 s1 s2 s3, rfl, ?_, ?_⟩
  · trivial
  · show s0.length + s3.length + 1 ≤ _
    omega
/-- how api.Attr was read -/
def RTwo (W : World) (d : DataW H) (y : Two) : Prop := True ∧ szT y + 1 ≤ Rows.uptoBulk d
set_option maxRecDepth 100000 in
theorem el_Two (n : Nat) (cs : List Value) (d : DataW H) (h : Rdd enc W n 146 cs d) : ∃ y, encT y = cs ∧ RTwo W d y := by
  obtain ⟨m, hm, ds, rfl, hds, hl, hf⟩ := rd_struct Tryz.underlying146 h
  rw [show Tryz.prog.cellsOf 146 = 2 by kernel_rfl] at hl
  obtain ⟨c0, c1, rfl⟩ : ∃ c0 c1, cs = [c0, c1] := by
    exact len2 hl
  have hag := bulk_agg ds
  obtain ⟨d0, d1, rfl⟩ : ∃ d0 d1, ds = [d0, d1] := by
    exact len2 hds
  simp only [Rows.uptoBulkAll] at hag
  obtain ⟨e0, he0, r0⟩ := hf 0 _ rfl
  have he0 : d0 = e0 := Option.some.inj he0
  subst he0
  have r0 : Rdd enc W m 9 [c0] d0 := r0
  have b0 := bulk_one d0
  obtain ⟨s0, q0, z0⟩ := rd_str Tryz.underlying9 r0
  simp only [List.cons.injEq, and_true] at q0
  subst q0
  obtain ⟨e1, he1, r1⟩ := hf 1 _ rfl
  have he1 : d1 = e1 := Option.some.inj he1
  subst he1
  have r1 : Rdd enc W m 9 [c1] d1 := r1
  have b1 := bulk_one d1
  obtain ⟨s1, q1, z1⟩ := rd_str Tryz.underlying9 r1
  simp only [List.cons.injEq, and_true] at q1
  subst q1
  refine ⟨Two.mk s0 s1, rfl, ?_, ?_⟩
  · trivial
  · show s0.length + s1.length + 1 ≤ _
    omega
instance : Inhabited Ch := ⟨⟨[], none, 0, [], none, 0, [], none, 0, [], none, 0, [], none, 0, []⟩⟩
/-- how api.Chapter was read -/
def RCh (W : World) (d : DataW H) (y : Ch) : Prop := ChIn W y ∧ szCh y + 1 ≤ Rows.uptoBulk d
set_option maxRecDepth 100000 in
theorem el_Ch (n : Nat) (cs : List Value) (d : DataW H) (h : Rdd enc W n 77 cs d) : ∃ y, encCh y = cs ∧ RCh W d y := by
  obtain ⟨m, hm, ds, rfl, hds, hl, hf⟩ := rd_struct Tryz.underlying77 h
  rw [show Tryz.prog.cellsOf 77 = 6 by kernel_rfl] at hl
  obtain ⟨c0, c1, c2, c3, c4, c5, rfl⟩ : ∃ c0 c1 c2 c3 c4 c5, cs = [c0, c1, c2, c3, c4, c5] := by
    exact len6 hl
  have hag := bulk_agg ds
  obtain ⟨d0, d1, d2, d3, d4, d5, rfl⟩ : ∃ d0 d1 d2 d3 d4 d5, ds = [d0, d1, d2, d3, d4, d5] := by
    exact len6 hds
  simp only [Rows.uptoBulkAll] at hag
  obtain ⟨e0, he0, r0⟩ := hf 0 _ rfl
  have he0 : d0 = e0 := Option.some.inj he0
  subst he0
  have r0 : Rdd enc W m 9 [c0] d0 := r0
  have b0 := bulk_one d0
  obtain ⟨s0, q0, z0⟩ := rd_str Tryz.underlying9 r0
  simp only [List.cons.injEq, and_true] at q0
  subst q0
  obtain ⟨e1, he1, r1⟩ := hf 1 _ rfl
  have he1 : d1 = e1 := Option.some.inj he1
  subst he1
  have r1 : Rdd enc W m 66 [c1] d1 := r1
  have b1 := bulk_one d1
  obtain ⟨a1, k1, l1, q1, A1, G1, S1⟩ := rd_slice (R := RBl W) Tryz.underlying66 (show Tryz.prog.cellsOf 74 = 9 by kernel_rfl) (by decide) r1 (fun m hm2 cs d h => el_Bl _ cs d h)
  simp only [List.cons.injEq, and_true] at q1
  subst q1
  obtain ⟨e2, he2, r2⟩ := hf 2 _ rfl
  have he2 : d2 = e2 := Option.some.inj he2
  subst he2
  have r2 : Rdd enc W m 59 [c2] d2 := r2
  have b2 := bulk_one d2
  obtain ⟨a2, k2, l2, q2, A2, G2, S2⟩ := rd_slice (R := RDg W) Tryz.underlying59 (show Tryz.prog.cellsOf 103 = 4 by kernel_rfl) (by decide) r2 (fun m hm2 cs d h => el_Dg _ cs d h)
  simp only [List.cons.injEq, and_true] at q2
  subst q2
  obtain ⟨e3, he3, r3⟩ := hf 3 _ rfl
  have he3 : d3 = e3 := Option.some.inj he3
  subst he3
  have r3 : Rdd enc W m 27 [c3] d3 := r3
  have b3 := bulk_one d3
  obtain ⟨a3, k3, l3, q3, A3, G3, S3⟩ := rd_slice (R := fun d y => szB y + 1 ≤ Rows.uptoBulk d) Tryz.underlying27 (show Tryz.prog.cellsOf 9 = 1 by kernel_rfl) (by decide) r3 (fun m hm2 cs d h => el_str2 _ cs d h)
  simp only [List.cons.injEq, and_true] at q3
  subst q3
  obtain ⟨e4, he4, r4⟩ := hf 4 _ rfl
  have he4 : d4 = e4 := Option.some.inj he4
  subst he4
  have r4 : Rdd enc W m 75 [c4] d4 := r4
  have b4 := bulk_one d4
  obtain ⟨a4, k4, l4, q4, A4, G4, S4⟩ := rd_slice (R := RTwo W) Tryz.underlying75 (show Tryz.prog.cellsOf 146 = 2 by kernel_rfl) (by decide) r4 (fun m hm2 cs d h => el_Two _ cs d h)
  simp only [List.cons.injEq, and_true] at q4
  subst q4
  obtain ⟨e5, he5, r5⟩ := hf 5 _ rfl
  have he5 : d5 = e5 := Option.some.inj he5
  subst he5
  have r5 : Rdd enc W m 27 [c5] d5 := r5
  have b5 := bulk_one d5
  obtain ⟨a5, k5, l5, q5, A5, G5, S5⟩ := rd_slice (R := fun d y => szB y + 1 ≤ Rows.uptoBulk d) Tryz.underlying27 (show Tryz.prog.cellsOf 9 = 1 by kernel_rfl) (by decide) r5 (fun m hm2 cs d h => el_str2 _ cs d h)
  simp only [List.cons.injEq, and_true] at q5
  subst q5
  refine ⟨Ch.mk s0 a1 k1 l1 a2 k2 l2 a3 k3 l3 a4 k4 l4 a5 k5 l5, rfl, ?_, ?_⟩
  · exact ⟨⟨A1, fun y hy => by obtain ⟨d, h⟩ := G1 y hy; exact h.1⟩, A2, A3, A4, A5⟩
  · have h1 := S1 szBl (fun d y h => h.2)
    have h2 := S2 szDg (fun d y h => h.2)
    have h3 := S3 szB (fun d y h => h)
    have h4 := S4 szT (fun d y h => h.2)
    have h5 := S5 szB (fun d y h => h)
    show 1 + s0.length + szM szBl l1 + szM szDg l2 + szM szB l3 + szM szT l4 + szM szB l5 + 1 ≤ _
    omega
theorem open_chs {v : Value} {d : DataW H} {ps : List MemPlace} (hv : ∃ a len cap, v = .slice a len cap) (h : DataW.Trod enc Tryz.prog W 0 (fun _ => true) true 56 v d ps) :
    ∃ (a : Option Addr) (c : Nat) (l : List Ch), v = .slice a l.length c ∧ ChsAt W a l ∧ szM szCh l + 1 ≤ Rows.uptoBulk d := by
  obtain ⟨a0, len0, cap0, rfl⟩ := hv
  obtain ⟨fuel, hf⟩ := h
  obtain ⟨a, c, l, q, A, G, S⟩ := rd_slice (R := RCh W) Tryz.underlying56 (show Tryz.prog.cellsOf 77 = 6 by kernel_rfl) (by decide) ⟨_, hf⟩ (fun m hm2 cs d h => el_Ch _ cs d h)
  simp [Value.cells] at q
  obtain ⟨rfl, rfl, rfl⟩ := q
  exact ⟨_, _, l, rfl, ⟨A, fun y hy => by obtain ⟨d, h⟩ := G y hy; exact h.1⟩, S szCh (fun d y h => h.2)⟩
end
end Go.Proofs.YtohinfefidahlaaGreatDoor

namespace Go.Proofs.YtohinfefidahlaaGreatDoor
open Go.RowKit Go.ChangeShapes Go.WideShapes Go.Deep
set_option linter.unusedVariables false
set_option linter.unusedSimpArgs false

theorem At.n {α : Type} {w : World} {sz : Nat} {enc : α → List Value} {a : Option Addr} {l : List α} (h : At w sz enc a l) : AtN (fun _ => True) w sz enc a l := by
  rcases h with h | ⟨b, off, h1, h2, h3⟩
  · exact .inl h
  · exact .inr ⟨b, off, h1, h2, trivial, h3⟩
theorem addr_add2 (b off p j : Nat) : ((⟨b, off, none⟩ : Addr).add p).add j = ⟨b, off + p + j, none⟩ := by
  unfold Addr.add; split <;> split <;> simp_all
section
variable {H : Type} {enc : TypeId × Value → H} {W : World}
set_option maxRecDepth 100000 in
theorem rd_sliceB {α : Type} [Inhabited α] {n : Nat} {t e : TypeId} {sz : Nat} {encE : α → List Value} {R : DataW H → α → Prop} {cs : List Value} {d : DataW H} (hu : Tryz.prog.underlying t = some (.slice e)) (hc : Tryz.prog.cellsOf e = sz) (hsz : 0 < sz) (h : Rdd enc W n t cs d) (M : Nat) (hM : Rows.uptoBulk d ≤ M)
    (hel : ∀ m, m < n → ∀ cs d, Rows.uptoBulk d ≤ M → Rdd enc W m e cs d → ∃ y, encE y = cs ∧ R d y) :
    ∃ (a : Option Addr) (c : Nat) (l : List α), cs = [.slice a l.length c] ∧ At W sz encE a l ∧ (∀ y ∈ l, ∃ d', R d' y) ∧ ∀ f : α → Nat, (∀ d y, R d y → f y + 1 ≤ Rows.uptoBulk d) → szM f l + 1 ≤ Rows.uptoBulk d := by
  obtain ⟨ps, h⟩ := h
  rcases DataW.trod_slice hu h with ⟨rfl, hx⟩ | ⟨a, len0, cap, elems, rest, m, rfl, rfl, hx, _, hl, _, hlen, hget, _, _⟩
  · have hd : d = .nil := congrArg Prod.fst hx
    subst hd
    exact ⟨none, 0, [], rfl, .inl rfl, fun y hy => absurd hy (List.not_mem_nil), fun f hf => by rw [show szM f [] = 0 from rfl]; exact bulk_one _⟩
  · have hd : d = .slice (elems.map (·.1)) (rest.map (·.1)) := congrArg Prod.fst hx
    subst hd
    have hex : ∀ i, i < len0 → ∃ y : α, (∀ j v, (encE y)[j]? = some v → W.cell? ((a.add (i * sz)).add j) = some v) ∧ (encE y).length = sz ∧ ∃ di, (elems.map (·.1))[i]? = some di ∧ R di y := by
      intro i hi
      have h1 := hget i hi
      have hil : i < elems.length := by omega
      rw [List.getElem?_eq_getElem hil] at h1
      cases hcs : W.cells? 0 (a.add (i * Tryz.prog.cellsOf e)) (Tryz.prog.cellsOf e) with
      | none => rw [hcs] at h1; cases h1
      | some cs' =>
        rw [hcs] at h1
        have hbd : Rows.uptoBulk elems[i].1 ≤ M := by
          have e1 := bulk_part (d := elems[i].1) (l := elems.map (·.1)) (List.mem_map.2 ⟨elems[i], List.getElem_mem hil, rfl⟩)
          have e2 := bulk_slice (elems.map (·.1)) (rest.map (·.1))
          omega
        obtain ⟨y, hy, hg⟩ := hel m (by omega) cs' elems[i].1 hbd ⟨elems[i].2, h1⟩
        rw [hc] at hcs
        obtain ⟨_, hlen', hc'⟩ := World.cells?_some hcs
        refine ⟨y, fun j v hj => ?_, by rw [hy]; exact hlen', elems[i].1, by rw [List.getElem?_map, List.getElem?_eq_getElem hil]; rfl, hg⟩
        rw [hy] at hj
        have hjs : j < sz := by rw [← hlen']; exact (List.getElem?_eq_some_iff.1 hj).1
        rw [hc' j hjs, hj]
    obtain ⟨f, hf⟩ := choose_lt hex
    have hz : elems.map (·.1) = ((List.range len0).map fun i => ((elems.map (·.1))[i]?.getD .nil, f i)).map (·.1) := by
      apply List.ext_getElem?
      intro i
      by_cases hi : i < len0
      · obtain ⟨_, _, di, h1, _⟩ := hf i hi
        simp only [List.map_map, List.getElem?_map, List.getElem?_range hi, Option.map_some, Function.comp]
        rw [List.getElem?_map] at h1
        rw [h1]; rfl
      · rw [List.getElem?_eq_none (by simp; omega), List.getElem?_eq_none (by simp; omega)]
    have hz2 : ((List.range len0).map fun i => ((elems.map (·.1))[i]?.getD .nil, f i)).map (·.2) = (List.range len0).map f := by rw [List.map_map]; rfl
    have hR : ∀ p ∈ ((List.range len0).map fun i => ((elems.map (·.1))[i]?.getD (.nil : DataW H), f i)), R p.1 p.2 := by
      intro p hp
      obtain ⟨i, hi, rfl⟩ := List.mem_map.1 hp
      obtain ⟨_, _, di, h1, h2⟩ := hf i (List.mem_range.1 hi)
      simp only [h1, Option.getD_some]; exact h2
    refine ⟨some a, cap, (List.range len0).map f, by simp, ?_, ?_, ?_⟩
    · by_cases h0 : len0 = 0
      · subst h0; exact .inl rfl
      · obtain ⟨b, off, spot⟩ := a
        have hspot : spot = none := by
          obtain ⟨h1, h2, _⟩ := hf 0 (by omega)
          obtain ⟨v0, hv0⟩ : ∃ v0, (encE (f 0))[0]? = some v0 := ⟨_, List.getElem?_eq_getElem (by omega)⟩
          have := h1 0 v0 hv0
          simpa [Addr.add] using World.cell?_spot this
        subst hspot
        have hadd : ∀ i j, ((⟨b, off, none⟩ : Addr).add (i * sz)).add j = ⟨b, off + i * sz + j, none⟩ := fun i j => addr_add2 b off (i * sz) j
        refine .inr ⟨b, off, rfl, ?_, ?_⟩
        · obtain ⟨h1, h2, _⟩ := hf 0 (by omega)
          obtain ⟨v0, hv0⟩ : ∃ v0, (encE (f 0))[0]? = some v0 := ⟨_, List.getElem?_eq_getElem (by omega)⟩
          have := World.block_lt_of_cell? W _ (h1 0 v0 hv0)
          rw [hadd] at this
          exact this
        · intro i x hi j v hj
          have hil : i < len0 := by simpa using (List.getElem?_eq_some_iff.1 hi).1
          have hx2 : x = f i := by
            rw [List.getElem?_map, List.getElem?_range hil] at hi
            simpa using hi.symm
          subst hx2
          rw [← hadd]
          exact (hf i hil).1 j v hj
    · intro y hy
      obtain ⟨i, hi, rfl⟩ := List.mem_map.1 hy
      obtain ⟨_, _, di, _, h2⟩ := hf i (List.mem_range.1 hi)
      exact ⟨di, h2⟩
    · intro g hg
      have := bulk_sum hg _ hR
      rw [hz2, ← hz] at this
      have := bulk_slice (elems.map (·.1)) (rest.map (·.1))
      omega
theorem len3 {α : Type} {l : List α} (h : l.length = 3) : ∃ c0 c1 c2, l = [c0, c1, c2] := by
  match l, h with
  | [c0, c1, c2], _ => exact ⟨c0, c1, c2, rfl⟩
instance : Inhabited LoK := ⟨⟨([], [], []), by decide⟩⟩
instance : Inhabited En := ⟨spEn⟩
/-- how api.Locator was read -/
def RLo (d : DataW H) (y : LoK) : Prop := szLo y + 1 ≤ Rows.uptoBulk d
set_option maxRecDepth 100000 in
theorem el_Lo (n : Nat) (cs : List Value) (d : DataW H) (hM : Rows.uptoBulk d ≤ 1048576) (h : Rdd enc W n 79 cs d) : ∃ y, encLo y = cs ∧ RLo d y := by
  obtain ⟨m, hm, ds, rfl, hds, hl, hf⟩ := rd_struct Tryz.underlying79 h
  rw [show Tryz.prog.cellsOf 79 = 3 by kernel_rfl] at hl
  obtain ⟨c0, c1, c2, rfl⟩ : ∃ c0 c1 c2, cs = [c0, c1, c2] := len3 hl
  have hag := bulk_agg ds
  obtain ⟨d0, d1, d2, rfl⟩ : ∃ d0 d1 d2, ds = [d0, d1, d2] := len3 hds
  simp only [Rows.uptoBulkAll] at hag
  obtain ⟨e0, he0, r0⟩ := hf 0 _ rfl
  have he0 : d0 = e0 := Option.some.inj he0
  subst he0
  have r0 : Rdd enc W m 9 [c0] d0 := r0
  have b0 := bulk_one d0
  obtain ⟨s0, q0, z0⟩ := rd_str Tryz.underlying9 r0
  simp only [List.cons.injEq, and_true] at q0
  subst q0
  obtain ⟨e1, he1, r1⟩ := hf 1 _ rfl
  have he1 : d1 = e1 := Option.some.inj he1
  subst he1
  have r1 : Rdd enc W m 9 [c1] d1 := r1
  have b1 := bulk_one d1
  obtain ⟨s1, q1, z1⟩ := rd_str Tryz.underlying9 r1
  simp only [List.cons.injEq, and_true] at q1
  subst q1
  obtain ⟨e2, he2, r2⟩ := hf 2 _ rfl
  have he2 : d2 = e2 := Option.some.inj he2
  subst he2
  have r2 : Rdd enc W m 9 [c2] d2 := r2
  have b2 := bulk_one d2
  obtain ⟨s2, q2, z2⟩ := rd_str Tryz.underlying9 r2
  simp only [List.cons.injEq, and_true] at q2
  subst q2
  refine ⟨⟨(s0, s1, s2), show s0.length ≤ 2000000 by omega, show s1.length ≤ 2000000 by omega, show s2.length ≤ 2000000 by omega⟩, rfl, ?_⟩
  show s0.length + s1.length + s2.length + 1 ≤ _
  omega
/-- how api.Entry was read -/
def REn (W : World) (d : DataW H) (y : En) : Prop := EnIn (fun _ => True) W y ∧ szE y + 1 ≤ Rows.uptoBulk d
set_option maxRecDepth 100000 in
theorem el_En : ∀ (n : Nat) (cs : List Value) (d : DataW H), Rows.uptoBulk d ≤ 1048576 → Rdd enc W n 29 cs d → ∃ y, encEn y = cs ∧ REn W d y := by
  intro n
  induction n using Nat.strongRecOn with
  | _ n ih =>
  intro cs d hM h
  obtain ⟨m, hm, ds, rfl, hds, hl, hf⟩ := rd_struct Tryz.underlying29 h
  rw [show Tryz.prog.cellsOf 29 = 4 by kernel_rfl] at hl
  obtain ⟨c0, c1, c2, c3, rfl⟩ : ∃ c0 c1 c2 c3, cs = [c0, c1, c2, c3] := len4 hl
  have hag := bulk_agg ds
  obtain ⟨d0, d1, d2, d3, rfl⟩ : ∃ d0 d1 d2 d3, ds = [d0, d1, d2, d3] := len4 hds
  simp only [Rows.uptoBulkAll] at hag
  obtain ⟨e0, he0, r0⟩ := hf 0 _ rfl
  have he0 : d0 = e0 := Option.some.inj he0
  subst he0
  have r0 : Rdd enc W m 9 [c0] d0 := r0
  have b0 := bulk_one d0
  obtain ⟨s0, q0, z0⟩ := rd_str Tryz.underlying9 r0
  simp only [List.cons.injEq, and_true] at q0
  subst q0
  obtain ⟨e1, he1, r1⟩ := hf 1 _ rfl
  have he1 : d1 = e1 := Option.some.inj he1
  subst he1
  have r1 : Rdd enc W m 26 [c1] d1 := r1
  have b1 := bulk_one d1
  obtain ⟨a1, k1, l1, q1, A1, G1, S1⟩ := rd_sliceB (R := RLo) Tryz.underlying26 (show Tryz.prog.cellsOf 79 = 3 by kernel_rfl) (by decide) r1 1048576 (by omega) (fun m hm2 cs d hM h => el_Lo _ cs d hM h)
  simp only [List.cons.injEq, and_true] at q1
  subst q1
  obtain ⟨e2, he2, r2⟩ := hf 2 _ rfl
  have he2 : d2 = e2 := Option.some.inj he2
  subst he2
  have r2 : Rdd enc W m 27 [c2] d2 := r2
  have b2 := bulk_one d2
  obtain ⟨a2, k2, l2, q2, A2, G2, S2⟩ := rd_slice (R := fun d y => szB y + 1 ≤ Rows.uptoBulk d) Tryz.underlying27 (show Tryz.prog.cellsOf 9 = 1 by kernel_rfl) (by decide) r2 (fun m hm2 cs d h => el_str2 _ cs d h)
  simp only [List.cons.injEq, and_true] at q2
  subst q2
  obtain ⟨e3, he3, r3⟩ := hf 3 _ rfl
  have he3 : d3 = e3 := Option.some.inj he3
  subst he3
  have r3 : Rdd enc W m 22 [c3] d3 := r3
  have b3 := bulk_one d3
  obtain ⟨a3, k3, l3, q3, A3, G3, S3⟩ := rd_sliceB (R := REn W) Tryz.underlying22 (show Tryz.prog.cellsOf 29 = 4 by kernel_rfl) (by decide) r3 1048576 (by omega) (fun m hm2 cs d hM h => ih _ (by omega) cs d hM h)
  simp only [List.cons.injEq, and_true] at q3
  subst q3
  refine ⟨.mk s0 a1 k1 l1 a2 k2 l2 a3 k3 l3, rfl, .mk A1.n A2.n A3.n (fun y hy => by obtain ⟨d, h⟩ := G3 y hy; exact h.1), ?_⟩
  have h1 := S1 szLo (fun d y h => h)
  have h2 := S2 szB (fun d y h => h)
  have h3 := S3 szE (fun d y h => h.2)
  rw [szE_eq]
  show 1 + s0.length + szM szLo l1 + szM szB l2 + szM szE l3 + 1 ≤ _
  omega
theorem open_ens {v : Value} {d : DataW H} {ps : List MemPlace} (hM : Rows.uptoBulk d ≤ 1048576) (hv : ∃ a len cap, v = .slice a len cap) (h : DataW.Trod enc Tryz.prog W 0 (fun _ => true) true 22 v d ps) :
    ∃ (a : Option Addr) (c : Nat) (l : List En), v = .slice a l.length c ∧ EnsAt (fun _ => True) W a l ∧ szM szE l + 1 ≤ Rows.uptoBulk d := by
  obtain ⟨a0, len0, cap0, rfl⟩ := hv
  obtain ⟨fuel, hf⟩ := h
  obtain ⟨a, c, l, q, A, G, S⟩ := rd_sliceB (R := REn W) Tryz.underlying22 (show Tryz.prog.cellsOf 29 = 4 by kernel_rfl) (by decide) ⟨_, hf⟩ 1048576 hM (fun m hm2 cs d hM h => el_En _ cs d hM h)
  simp [Value.cells] at q
  obtain ⟨rfl, rfl, rfl⟩ := q
  exact ⟨_, _, l, rfl, ⟨A.n, fun y hy => by obtain ⟨d, h⟩ := G y hy; exact h.1⟩, S szE (fun d y h => h.2)⟩
end
end Go.Proofs.YtohinfefidahlaaGreatDoor
