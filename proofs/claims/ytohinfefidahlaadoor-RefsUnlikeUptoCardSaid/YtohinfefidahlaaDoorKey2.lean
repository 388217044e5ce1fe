/- Maps whose keys are pairs of texts, as arrays. -/
import Derived.Test.YtohinfefidahlaaDoorMapG
import Derived.Test.YtohinfefidahlaaDoorRows
import Derived.WalkKit
namespace Go.Proofs.YtohinfefidahlaaDoor
open Go.RowKit Go.WideMaps
set_option linter.unusedVariables false

abbrev K2 := { p : Bytes × Bytes // p.1.length ≤ 1000000 ∧ p.2.length ≤ 1000000 }
def encK2 (x : K2) : Value := .agg #[.string ⟨x.1.1.toArray⟩, .string ⟨x.1.2.toArray⟩]
theorem lits_str (d : Nat) (s : Bytes) (h : s.length ≤ 1000000) : Tryd.prog.keyLits (d + 1) 9 [.string ⟨s.toArray⟩] = some [.string s] := by
  have hs : (ByteArray.mk s.toArray).size ≤ maxLen := by rw [size_mk]; unfold maxLen; omega
  simp [Program.keyLits, Tryd.underlying9, hs]
theorem k2_enc : KEnc Tryd.prog 42 encK2 := by
  refine ⟨ArrKey.law (e := 9) (n := 2) ⟨Tryd.underlying42, by kernel_rfl, by kernel_rfl, by kernel_rfl⟩, fun x => ?_, fun x y h => ?_⟩
  · obtain ⟨⟨a, b⟩, ha, hb⟩ := x
    have hk : Tryd.prog.keyType 42 = true := by kernel_rfl
    have hf : (encK2 ⟨(a, b), ha, hb⟩).formed Tryd.prog 42 = true := by
      have hc : Tryd.prog.cellsOf 42 = 2 := by kernel_rfl
      simp [encK2, Value.formed, Tryd.underlying42, hc]
    obtain ⟨n, hn⟩ : ∃ n, Tryd.prog.types.size + 1 = n + 1 + 1 := ⟨Tryd.prog.types.size - 1, by have : 1 ≤ Tryd.prog.types.size := of_decide_eq_true (by kernel_rfl); omega⟩
    have hc : Tryd.prog.cellsOf 42 = 2 := by kernel_rfl
    have hc1 : Tryd.prog.cellsOf 9 = 1 := by kernel_rfl
    have hl : Tryd.prog.keyLits (n + 1 + 1) 42 [.string ⟨a.toArray⟩, .string ⟨b.toArray⟩] = some [.string a, .string b] := by
      unfold Program.keyLits
      rw [Tryd.underlying42]
      simp [hc, hc1, List.range_succ, lits_str n a ha, lits_str n b hb]
    unfold keyOf
    rw [Tryd.underlying42, hk, hf, hn]
    simp only [encK2, Value.cells, hl]
    exact ⟨_, rfl⟩
  · obtain ⟨⟨a, b⟩, ha⟩ := x
    obtain ⟨⟨c, d⟩, hc⟩ := y
    simp only [encK2, Value.agg.injEq] at h
    simp at h
    obtain ⟨rfl, rfl⟩ := h
    rfl
end Go.Proofs.YtohinfefidahlaaDoor
