/- The law binderylaw04.CondsAgain returns true for every input, and each argument reads afterwards as it read before. No condition. -/
import Derived.Test.YtgikmippclcimaaLawBk
import Derived.Test.YtgikmippclcimaaShelf
import Derived.Test.YtgikmippclcimaaFrame
import Derived.Test.YtgikmippclcimaaOpen
namespace Go.Proofs.Ytgikmippclcimaa.condsAgain
open Go.ChangeShapes Go.WideShapes Go.ChangeAt Go.RowKit
open Go.ChangeMaps (open_string shut_string)
set_option linter.unusedVariables false

theorem walks : Walks Try.checked 6 Try.f6 := by
  intro H enc W base args ds ps hval0 hA0 hsz hsh
  have hval : ∀ (j : Nat) t v, Try.f6.params[j]? = some t → args[j]? = some v → Value.okWide Try.prog W .any base t v := hval0
  have hA : DataW.TrodAll enc Try.prog W 0 (fun _ => true) true Try.f6.params.toList args.toList ds ps := hA0
  rw [Try.params6] at hA hval hsz
  obtain ⟨v0, vs0, d0, ds0, p0, q0, hargs, rfl, rfl, h0, r0⟩ := trodAll_cons hA
  obtain ⟨v1, vs1, d1, ds1, p1, q1, rfl, rfl, rfl, h1, r1⟩ := trodAll_cons r0
  obtain ⟨v2, vs2, d2, ds2, p2, q2, rfl, rfl, rfl, h2, r2⟩ := trodAll_cons r1
  obtain ⟨rfl, rfl, rfl⟩ := trodAll_nil r2
  obtain rfl : args = #[v0, v1, v2] := by cases args; simp_all
  obtain ⟨a0, c0, l0, rfl, A0, G0, N0, C0⟩ := open_sl (α := Two) (good := fun y : Two => y.name.length ≤ reachBytes ∧ y.value.length ≤ reachBytes) (sz := 2) (encE := encT) Try.underlying22 (by kernel_rfl) (by decide) (fun n cs x hx hs => el_two Try.underlying48 (by kernel_rfl) ⟨rfl, rfl⟩ ⟨rfl, rfl⟩ (by kernel_rfl) Try.underlying9 n cs x hx hs) (okWide_slice Try.underlying22 (hval 0 22 v0 rfl rfl)) h0 (sized_arg hsz (j := 0) rfl rfl)
  have M0 : l0.length * 32 ≤ reachBytes := by have h := N0; rwa [show Try.prog.bytesOf 48 = 32 from by kernel_rfl] at h
  obtain ⟨a1, rfl, rfl, rfl, w1⟩ := open_string Try.underlying9 (hval 1 9 v1 rfl rfl) h1
  have b1 : a1.size ≤ reachBytes := by simpa using sized_string hsz (j := 1) rfl rfl
  obtain ⟨s1, rfl⟩ := bytes_of a1
  rw [size_mk] at b1
  obtain ⟨n2, m2, rfl, B2, D2⟩ := open_arr2 Try.underlying32 (by kernel_rfl) (by kernel_rfl) Try.underlying9 (hval 2 32 v2 rfl rfl) h2 (sized_arg hsz (j := 2) rfl rfl)
  exact walk_CondsAgain W a0 c0 l0 A0 (Nat.le_trans (Nat.le_mul_of_pos_right _ (by decide)) M0) G0 C0 s1 b1 n2 m2 B2 D2 (Try.laysM145.s1_3 W hsh)

set_option maxRecDepth 100000 in
theorem lifted (os : Os) (started : os.Started) (H : Type) (enc : TypeId × Value → H) :
    ReturnsInHanded {} Try.checked os 6 .any (Rows.condsAgainSpec.pre6 enc Try.prog Try.f6 Rows.condsAgainRow.domain false) (Rows.condsAgainSpec.post enc Try.prog Try.f6 false true false false) :=
  law_lift (s := Rows.condsAgainSpec) started rfl Try.func6 (by kernel_rfl) rfl (by
      intro t ht
      rw [Try.params6] at ht
      simp at ht
      rcases ht with rfl | rfl | rfl <;> exact ⟨by kernel_rfl, of_decide_eq_true (by kernel_rfl)⟩)
    (by
      intro ds h
      have h' : ds.length = 3 := h
      match ds, h' with
      | [d1, d2, d3], _ => rfl)
    (ChangeSpec.witness6 (enc := enc) (C := Try.checked) false ⟨#[], #[.slice none 0 0, .string ByteArray.empty, .agg #[.string ByteArray.empty, .string ByteArray.empty]], []⟩ 8 (by kernel_rfl) (by kernel_rfl) (by kernel_rfl) (by kernel_rfl)) walks

theorem proved : Rows.CondsAgainSaid :=
  OpenClaim.holds_of_wide 6 Try.f6 rfl rfl rfl rfl rfl rfl rfl ⟨rfl, rfl, rfl, rfl, rfl⟩ rfl rfl rfl rfl rfl (by kernel_rfl) Try.func6 (by kernel_rfl)
    (of_decide_eq_true (by kernel_rfl)) (by unfold Func.isWrapper; first | (rw [if_pos (by decide +kernel)]; kernel_rfl) | (rw [if_neg (by decide +kernel)]; exact ⟨rfl, rfl⟩))
    (fun os started H enc _ => lifted os started H enc)
#print axioms proved
end Go.Proofs.Ytgikmippclcimaa.condsAgain
