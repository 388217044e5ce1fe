/- The law binderylaw04.CondsValues returns true for every input, and each argument reads afterwards as it read before. No condition. -/
import Derived.Test.YtgikmippclcimaaLawV
import Derived.Test.YtgikmippclcimaaShelf
import Derived.Test.YtgikmippclcimaaFrame
import Derived.Test.YtgikmippclcimaaOpen
namespace Go.Proofs.Ytgikmippclcimaa.condsValues
open Go.ChangeShapes Go.WideShapes Go.ChangeAt Go.RowKit
open Go.ChangeMaps (open_string shut_string)
set_option linter.unusedVariables false

theorem walks : Walks Try.checked 10 Try.f10 := by
  intro H enc W base args ds ps hval0 hA0 hsz hsh
  have hval : ∀ (j : Nat) t v, Try.f10.params[j]? = some t → args[j]? = some v → Value.okWide Try.prog W .any base t v := hval0
  have hA : DataW.TrodAll enc Try.prog W 0 (fun _ => true) true Try.f10.params.toList args.toList ds ps := hA0
  rw [Try.params10] at hA hval hsz
  obtain ⟨v0, vs0, d0, ds0, p0, q0, hargs, rfl, rfl, h0, r0⟩ := trodAll_cons hA
  obtain ⟨rfl, rfl, rfl⟩ := trodAll_nil r0
  obtain rfl : args = #[v0] := by cases args; simp_all
  obtain ⟨a0, rfl, rfl, rfl, w0⟩ := open_string Try.underlying9 (hval 0 9 v0 rfl rfl) h0
  have b0 : a0.size ≤ reachBytes := by simpa using sized_string hsz (j := 0) rfl rfl
  obtain ⟨s0, rfl⟩ := bytes_of a0
  rw [size_mk] at b0
  exact walk_CondsValues W s0 b0 (Try.laysM145.s1_3 W hsh)

set_option maxRecDepth 100000 in
theorem lifted (os : Os) (started : os.Started) (H : Type) (enc : TypeId × Value → H) :
    ReturnsInHanded {} Try.checked os 10 .any (Rows.condsValuesSpec.pre6 enc Try.prog Try.f10 Rows.condsValuesRow.domain false) (Rows.condsValuesSpec.post enc Try.prog Try.f10 false true false false) :=
  law_lift (s := Rows.condsValuesSpec) started rfl Try.func10 (by kernel_rfl) rfl (by
      intro t ht
      rw [Try.params10] at ht
      simp at ht
      rcases ht with rfl <;> exact ⟨by kernel_rfl, of_decide_eq_true (by kernel_rfl)⟩)
    (by
      intro ds h
      have h' : ds.length = 1 := h
      match ds, h' with
      | [d1], _ => rfl)
    (ChangeSpec.witness6 (enc := enc) (C := Try.checked) false ⟨#[], #[.string ByteArray.empty], []⟩ 8 (by kernel_rfl) (by kernel_rfl) (by kernel_rfl) (by kernel_rfl)) walks

theorem proved : Rows.CondsValuesSaid :=
  OpenClaim.holds_of_wide 10 Try.f10 rfl rfl rfl rfl rfl rfl rfl ⟨rfl, rfl, rfl, rfl, rfl⟩ rfl rfl rfl rfl rfl (by kernel_rfl) Try.func10 (by kernel_rfl)
    (of_decide_eq_true (by kernel_rfl)) (by unfold Func.isWrapper; first | (rw [if_pos (by decide +kernel)]; kernel_rfl) | (rw [if_neg (by decide +kernel)]; exact ⟨rfl, rfl⟩))
    (fun os started H enc _ => lifted os started H enc)
#print axioms proved
end Go.Proofs.Ytgikmippclcimaa.condsValues
