/- What an argument that was read is to the walks: slices of strings and of pairs of strings, their sizes too. -/
import Derived.Test.YtohinfefidahlaaGreatDoorJoA
import Derived.ProofKit
import Derived.ChangeOld
import Derived.OpenShut
import Derived.SizedLaws
namespace Go.Proofs.YtohinfefidahlaaGreatDoor
open Go.RowKit Go.ChangeShapes Go.WideShapes Go.Deep

def Sized {H : Type} (P : Program) (t : TypeId) (d : DataW H) : Prop := ∀ n ∈ d.weights P t, n ≤ reachBytes

section
variable {H : Type} {enc : TypeId × Value → H} {P : Program} {W : World}

theorem sized_arg {ts : List TypeId} {ds : List (DataW H)} (h : (DataW.weightsEach P ts ds).all (· ≤ reachBytes) = true) {j : Nat} {t : TypeId} {d : DataW H} (ht : ts[j]? = some t) (hd : ds[j]? = some d) : Sized P t d := by
  intro n hn
  have := List.all_eq_true.1 h _ (DataW.weights_mem_each ht hd n hn)
  simpa using this
theorem weightsAll_mem {e : TypeId} : ∀ {l : List (DataW H)} {d : DataW H}, d ∈ l → ∀ n ∈ d.weights P e, n ∈ DataW.weightsAll P e l
  | x :: l, d, hd, n, hn => by
    simp only [DataW.weightsAll, List.mem_append]
    rcases List.mem_cons.1 hd with rfl | h
    · exact .inl hn
    · exact .inr (weightsAll_mem h n hn)
theorem Sized.elem {t e : TypeId} {elems spare : List (DataW H)} (hu : P.underlying t = some (.slice e)) (h : Sized P t (.slice elems spare)) {d : DataW H} (hd : d ∈ elems) : Sized P e d := by
  intro n hn
  exact h n (by simp only [DataW.weights, hu, List.mem_cons, List.mem_append]; exact .inr (.inl (weightsAll_mem hd n hn)))
theorem Sized.len {t e : TypeId} {elems spare : List (DataW H)} (hu : P.underlying t = some (.slice e)) (h : Sized P t (.slice elems spare)) : elems.length * P.bytesOf e ≤ reachBytes := by
  have := h _ (by simp only [DataW.weights, hu, List.mem_cons]; exact .inl rfl)
  rw [Nat.add_mul] at this
  omega
theorem Sized.str {t : TypeId} {s : List UInt8} (h : Sized P t (.lit (.string s) : DataW H)) : s.length ≤ reachBytes := h _ (by simp [DataW.weights])
theorem Sized.two {t : TypeId} {f0 f1 : Field} {d0 d1 : DataW H} (hu : P.underlying t = some (.struct #[f0, f1])) (h : Sized P t (.agg [d0, d1])) : Sized P f0.type d0 ∧ Sized P f1.type d1 := by
  constructor
  · intro n hn; exact h n (by simp [DataW.weights, hu, DataW.weightsEach]; exact .inl hn)
  · intro n hn; exact h n (by simp [DataW.weights, hu, DataW.weightsEach]; exact .inr hn)

/-- a slice whose elements are told by 'enc': what is asked of the element's type stands in 'hel' -/
theorem open_sl {α : Type} [Inhabited α] {t e : TypeId} {sz : Nat} {encE : α → List Value} {good : α → Prop} (hu : P.underlying t = some (.slice e)) (hc : P.cellsOf e = sz) (hsz : 0 < sz) {v : Value} {d : DataW H} {ps : List MemPlace}
    (hel : ∀ (n : Nat) (cs : List Value) (x : DataW H × List MemPlace), DataW.trod enc P W 0 (fun _ => true) true n e cs = some x → Sized P e x.1 → ∃ y : α, encE y = cs ∧ good y)
    (hv : ∃ a len cap, v = .slice a len cap) (h : DataW.Trod enc P W 0 (fun _ => true) true t v d ps) (hs : Sized P t d) :
    ∃ (a : Option Addr) (c : Nat) (l : List α), v = .slice a l.length c ∧ At W sz encE a l ∧ (∀ x ∈ l, good x) ∧ l.length * P.bytesOf e ≤ reachBytes ∧ l.length ≤ c := by
  obtain ⟨a0, len0, cap0, rfl⟩ := hv
  obtain ⟨fuel, hf⟩ := h
  rcases open_slice hu hf with ⟨hcs, _⟩ | ⟨a, len, cap, m, n, D, Pl, hcs, _, hl, hm, hmm, hx, hcell⟩
  · simp [Value.cells] at hcs
    obtain ⟨rfl, rfl, rfl⟩ := hcs
    exact ⟨none, 0, [], rfl, .inl rfl, by simp, by simp, by simp⟩
  · simp [Value.cells] at hcs
    obtain ⟨rfl, rfl, rfl⟩ := hcs
    simp only [if_true] at hmm
    subst hmm
    have hd : d = .slice ((List.range len0).map D) ((List.range (m - len0)).map fun j => D (len0 + j)) := congrArg Prod.fst hx
    subst hd
    have hlen := Sized.len hu hs
    rw [List.length_map, List.length_range] at hlen
    have hex : ∀ i, i < len0 → ∃ y : α, (∀ j v, (encE y)[j]? = some v → W.cell? ((a.add (i * sz)).add j) = some v) ∧ (encE y).length = sz ∧ good y := by
      intro i hi
      obtain ⟨cs', h1, h2⟩ := hcell i (by omega)
      obtain ⟨y, hy, hg⟩ := hel n cs' _ h2 (Sized.elem hu hs (List.mem_map.2 ⟨i, List.mem_range.2 hi, rfl⟩))
      rw [hc] at h1
      obtain ⟨_, hlen', hc'⟩ := World.cells?_some h1
      refine ⟨y, fun j v hj => ?_, by rw [hy]; exact hlen', hg⟩
      rw [hy] at hj
      have hjs : j < sz := by rw [← hlen']; exact (List.getElem?_eq_some_iff.1 hj).1
      rw [hc' j hjs, hj]
    obtain ⟨f, hf⟩ := choose_lt hex
    refine ⟨some a, m, (List.range len0).map f, by simp, ?_, ?_, by simpa using hlen, by simpa using hl⟩
    · by_cases h0 : len0 = 0
      · subst h0; exact .inl rfl
      · obtain ⟨b, off, spot⟩ := a
        have hspot : spot = none := by
          obtain ⟨h1, h2, _⟩ := hf 0 (by omega)
          obtain ⟨v0, hv0⟩ : ∃ v0, (encE (f 0))[0]? = some v0 := ⟨_, List.getElem?_eq_getElem (by omega)⟩
          have := h1 0 v0 hv0
          simpa [Addr.add] using World.cell?_spot this
        subst hspot
        have hadd : ∀ i j, ((⟨b, off, none⟩ : Addr).add (i * sz)).add j = ⟨b, off + i * sz + j, none⟩ := by
          intro i j; unfold Addr.add; split <;> split <;> simp_all
        refine .inr ⟨b, off, rfl, ?_, ?_⟩
        · obtain ⟨h1, h2, _⟩ := hf 0 (by omega)
          obtain ⟨v0, hv0⟩ : ∃ v0, (encE (f 0))[0]? = some v0 := ⟨_, List.getElem?_eq_getElem (by omega)⟩
          have := World.block_lt_of_cell? W _ (h1 0 v0 hv0)
          rw [hadd] at this
          exact this
        · intro i x hi j v hj
          have hil : i < len0 := by simpa using (List.getElem?_eq_some_iff.1 hi).1
          have hx2 : x = f i := by
            rw [List.getElem?_map, List.getElem?_range hil] at hi
            simpa using hi.symm
          subst hx2
          rw [← hadd]
          exact (hf i hil).1 j v hj
    · intro x hx
      obtain ⟨i, hi, rfl⟩ := List.mem_map.1 hx
      exact (hf i (List.mem_range.1 hi)).2.2

theorem el_str {t : TypeId} (hu : P.underlying t = some .string) (n : Nat) (cs : List Value) (x : DataW H × List MemPlace) (h : DataW.trod enc P W 0 (fun _ => true) true n t cs = some x) (hs : Sized P t x.1) :
    ∃ y : Bytes, encS y = cs ∧ y.length ≤ reachBytes := by
  obtain ⟨s, rfl, rfl, _⟩ := DataW.trod_string hu h
  refine ⟨s.data.toList, by simp [encS], ?_⟩
  simpa using hs.str

theorem el_two {t s : TypeId} {f0 f1 : Field} (hu : P.underlying t = some (.struct #[f0, f1])) (hc : P.cellsOf t = 2) (h0 : f0.type = s ∧ f0.offset = 0) (h1 : f1.type = s ∧ f1.offset = 1) (hcs : P.cellsOf s = 1) (hus : P.underlying s = some .string)
    (n : Nat) (cs : List Value) (x : DataW H × List MemPlace) (h : DataW.trod enc P W 0 (fun _ => true) true n t cs = some x) (hs : Sized P t x.1) :
    ∃ y : Two, encT y = cs ∧ (y.name.length ≤ reachBytes ∧ y.value.length ≤ reachBytes) := by
  obtain ⟨y0, y1, m, rfl, hl, hy0, hy1⟩ := trod_struct2 hu h
  obtain ⟨hs0, hs1⟩ := Sized.two hu hs
  rw [h0.1, h0.2, hcs] at hy0
  rw [h1.1, h1.2, hcs] at hy1
  rw [h0.1] at hs0
  rw [h1.1] at hs1
  rw [hc] at hl
  obtain ⟨a, e0, rfl, _⟩ := DataW.trod_string hus hy0
  obtain ⟨b, e1, rfl, _⟩ := DataW.trod_string hus hy1
  match cs, hl with
  | [c0, c1], _ =>
    simp at e0 e1
    subst e0 e1
    refine ⟨⟨a.data.toList, b.data.toList⟩, by simp [encT], ?_, ?_⟩
    · simpa using hs0.str
    · simpa using hs1.str

/-- an array of two strings, by value -/
theorem open_arr2 {b0 : Nat} {t e : TypeId} {v : Value} {d : DataW H} {p : List MemPlace} (hu : P.underlying t = some (.array 2 e)) (hC : P.cellsOf t = 2) (hce : P.cellsOf e = 1) (hue : P.underlying e = some .string)
    (hv : Value.okWide P W .any b0 t v) (h : DataW.Trod enc P W 0 (fun _ => true) true t v d p) (hs : Sized P t d) :
    ∃ s0 s1 : Bytes, v = .agg #[.string ⟨s0.toArray⟩, .string ⟨s1.toArray⟩] ∧ s0.length ≤ reachBytes ∧ s1.length ≤ reachBytes := by
  simp only [Value.okWide, hu] at hv
  obtain ⟨cs, rfl, hsz, _⟩ := hv
  rw [hC] at hsz
  obtain ⟨c0, c1, rfl⟩ : ∃ c0 c1, cs = #[c0, c1] := by
    match cs, hsz with
    | ⟨[c0, c1]⟩, _ => exact ⟨c0, c1, rfl⟩
  obtain ⟨fuel, hf⟩ := h
  obtain ⟨xs, m, _, hx, hl, hn, hel⟩ := DataW.trod_array hu hf
  have e0 := hel 0 (by omega)
  have e1 := hel 1 (by omega)
  rw [hce] at e0 e1
  match xs, hn with
  | [y0, y1], _ =>
    have hd : d = .agg [y0.1, y1.1] := congrArg Prod.fst hx
    subst hd
    have w0 : Sized P e y0.1 := fun n hn' => hs n (by simp only [DataW.weights, hu, DataW.weightsAll, List.mem_append]; exact .inl hn')
    have w1 : Sized P e y1.1 := fun n hn' => hs n (by simp only [DataW.weights, hu, DataW.weightsAll, List.mem_append]; exact .inr (.inl hn'))
    obtain ⟨a, h0, h0', _⟩ := DataW.trod_string hue e0
    obtain ⟨b, h1, h1', _⟩ := DataW.trod_string hue e1
    refine ⟨a.data.toList, b.data.toList, ?_, ?_, ?_⟩
    · have k0 : c0 = .string a := by simpa [Value.cells] using h0
      have k1 : c1 = .string b := by simpa [Value.cells] using h1
      rw [k0, k1]
    · have := congrArg Prod.fst h0'
      rw [this] at w0
      simpa using w0.str
    · have := congrArg Prod.fst h1'
      rw [this] at w1
      simpa using w1.str
end

instance : Inhabited Two := ⟨⟨[], []⟩⟩
end Go.Proofs.YtohinfefidahlaaGreatDoor
