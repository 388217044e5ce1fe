/- An array of two bytes as an argument. -/
import Derived.Test.YtofphojcfjkjhaaDoorOpen
namespace Go.Proofs.YtofphojcfjkjhaaDoor
open Go.RowKit Go.ChangeShapes Go.WideShapes Go.Deep
section
variable {H : Type} {enc : TypeId × Value → H} {P : Program} {W : World}
theorem u8_of {z : Int} (h : (Lit.int .u8 z).wf = true) : ∃ x : UInt8, z = (x.toNat : Int) := by
  simp only [Lit.wf, Bool.and_eq_true, IntKind.min, IntKind.max, IntKind.signed, IntKind.bits] at h
  simp at h
  refine ⟨UInt8.ofNat z.toNat, ?_⟩
  rw [UInt8.toNat_ofNat']
  omega
theorem open_arr2u {b0 : Nat} {t e : TypeId} {v : Value} {d : DataW H} {p : List MemPlace} (hu : P.underlying t = some (.array 2 e)) (hC : P.cellsOf t = 2) (hce : P.cellsOf e = 1) (hue : P.underlying e = some (.int .u8))
    (hv : Value.okWide P W .any b0 t v) (h : DataW.Trod enc P W 0 (fun _ => true) true t v d p) :
    ∃ x0 x1 : UInt8, v = .agg #[.int .u8 x0.toNat, .int .u8 x1.toNat] := by
  simp only [Value.okWide, hu] at hv
  obtain ⟨cs, rfl, hsz, _⟩ := hv
  rw [hC] at hsz
  obtain ⟨c0, c1, rfl⟩ : ∃ c0 c1, cs = #[c0, c1] := by
    match cs, hsz with
    | ⟨[c0, c1]⟩, _ => exact ⟨c0, c1, rfl⟩
  obtain ⟨fuel, hf⟩ := h
  obtain ⟨xs, m, _, hx, hl, hn, hel⟩ := DataW.trod_array hu hf
  have e0 := hel 0 (by omega)
  have e1 := hel 1 (by omega)
  rw [hce] at e0 e1
  match xs, hn with
  | [y0, y1], _ =>
    obtain ⟨a, h0, _, w0⟩ := DataW.trod_int hue e0
    obtain ⟨b, h1, _, w1⟩ := DataW.trod_int hue e1
    obtain ⟨x0, rfl⟩ := u8_of w0
    obtain ⟨x1, rfl⟩ := u8_of w1
    have k0 : c0 = .int .u8 x0.toNat := by simpa [Value.cells] using h0
    have k1 : c1 = .int .u8 x1.toNat := by simpa [Value.cells] using h1
    exact ⟨x0, x1, by rw [k0, k1]⟩
end
end Go.Proofs.YtofphojcfjkjhaaDoor
