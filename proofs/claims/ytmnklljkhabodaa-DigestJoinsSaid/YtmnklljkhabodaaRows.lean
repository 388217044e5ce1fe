/-
  No cell of these rows narrows 'for every input' (looked for: loops, veiled, ifaces, maps, wideKeys, modest, calm, conditions, laid).
  DERIVED. THE GIVEN ROWS OF THIS SEAT. 6 by the template 'for every input the law returns true; each argument reads behind the call as it read before'; 0 by the template 'total and deterministic' (their statements: YtmnklljkhabodaaTotals.lean).
  GIVEN WITH THE SEED: the statements are not yours to turn. If you find one false, say at which input.
  Laid BY PROGRAM, IN A SANDBOX (cutbox-rows.mjs): the forced cells as the released guide's own fill.sh prints them over the translation cfea96fc4aaf899c… (all of the seat's roots in one cut). By AI agents, Wed Nov 11 2026. No macro, syntax, notation, axiom, sorry.
-/
import Derived.Test.YtmnklljkhabodaaChecked
import GoSem.Claim
import GoSem.ClaimJoined
import GoSem.ClaimMapViews
import Derived.JoinedTies
import Derived.KernelRfl
namespace Go.Proofs.Ytmnklljkhabodaa
/- THE CELL 'sum', in the pinned program and in every row, IS THE sha256 OF THE DUMP (.gsa) THAT YtmnklljkhabodaaProg.lean LOADS. Nothing in Lean hashes anything: it is a label: what it is worth is what the hold of that sum in a sandbox is worth. -/
noncomputable def Try.pinned : Pinned := { name := "ytmnklljkhabodaa", sum := "cfea96fc4aaf899c4225c93db2f0245917906e72eb70e4e072631e731a8957ed", checked := Try.checked }
namespace Rows
def none {H : Type} : Left H := { results := [], args := [] }

/-- 'binderylaw03.DigestOf': WHATEVER THE INPUT: true; the input reads as it did. -/
def digestOfSpec : ChangeSpec := { name := "digestOf", fn := fun _ => fun
  | [d1, d2] => { results := [.lit (.bool true)], args := [d1, d2] }
  | _ => none }
def digestOfRow : OpenClaim := { program := "ytmnklljkhabodaa", sum := "cfea96fc4aaf899c4225c93db2f0245917906e72eb70e4e072631e731a8957ed", func := "bindery/binderylaw03.DigestOf", spec := "digestOf", apart := false }
def DigestOfSaid : Prop := digestOfRow.holds Try.pinned (OpenSpec.ofChange digestOfSpec)

/-- ITS FALSE NEIGHBOUR: 'it returns false'. Refute it at one input. -/
def digestOfWrong : ChangeSpec := { name := "digestOf", fn := fun _ => fun
  | [d1, d2] => { results := [.lit (.bool false)], args := [d1, d2] }
  | _ => none }
def DigestOfWrongFalsely : Prop := digestOfRow.holds Try.pinned (OpenSpec.ofChange digestOfWrong)

/-- 'binderylaw03.DigestTexts': WHATEVER THE INPUT: true; the input reads as it did. -/
def digestTextsSpec : ChangeSpec := { name := "digestTexts", fn := fun _ => fun
  | [d1, d2] => { results := [.lit (.bool true)], args := [d1, d2] }
  | _ => none }
def digestTextsRow : OpenClaim := { program := "ytmnklljkhabodaa", sum := "cfea96fc4aaf899c4225c93db2f0245917906e72eb70e4e072631e731a8957ed", func := "bindery/binderylaw03.DigestTexts", spec := "digestTexts", apart := false }
def DigestTextsSaid : Prop := digestTextsRow.holds Try.pinned (OpenSpec.ofChange digestTextsSpec)

/-- ITS FALSE NEIGHBOUR: 'it returns false'. Refute it at one input. -/
def digestTextsWrong : ChangeSpec := { name := "digestTexts", fn := fun _ => fun
  | [d1, d2] => { results := [.lit (.bool false)], args := [d1, d2] }
  | _ => none }
def DigestTextsWrongFalsely : Prop := digestTextsRow.holds Try.pinned (OpenSpec.ofChange digestTextsWrong)

/-- 'binderylaw03.DigestJoins': WHATEVER THE INPUT: true; the input reads as it did. -/
def digestJoinsSpec : ChangeSpec := { name := "digestJoins", fn := fun _ => fun
  | [d1, d2, d3] => { results := [.lit (.bool true)], args := [d1, d2, d3] }
  | _ => none }
def digestJoinsRow : OpenClaim := { program := "ytmnklljkhabodaa", sum := "cfea96fc4aaf899c4225c93db2f0245917906e72eb70e4e072631e731a8957ed", func := "bindery/binderylaw03.DigestJoins", spec := "digestJoins", apart := false }
def DigestJoinsSaid : Prop := digestJoinsRow.holds Try.pinned (OpenSpec.ofChange digestJoinsSpec)

/-- ITS FALSE NEIGHBOUR: 'it returns false'. Refute it at one input. -/
def digestJoinsWrong : ChangeSpec := { name := "digestJoins", fn := fun _ => fun
  | [d1, d2, d3] => { results := [.lit (.bool false)], args := [d1, d2, d3] }
  | _ => none }
def DigestJoinsWrongFalsely : Prop := digestJoinsRow.holds Try.pinned (OpenSpec.ofChange digestJoinsWrong)

/-- 'binderylaw03.DigestSpoils': WHATEVER THE INPUT: true; the input reads as it did. -/
def digestSpoilsSpec : ChangeSpec := { name := "digestSpoils", fn := fun _ => fun
  | [d1, d2, d3] => { results := [.lit (.bool true)], args := [d1, d2, d3] }
  | _ => none }
def digestSpoilsRow : OpenClaim := { program := "ytmnklljkhabodaa", sum := "cfea96fc4aaf899c4225c93db2f0245917906e72eb70e4e072631e731a8957ed", func := "bindery/binderylaw03.DigestSpoils", spec := "digestSpoils", apart := false }
def DigestSpoilsSaid : Prop := digestSpoilsRow.holds Try.pinned (OpenSpec.ofChange digestSpoilsSpec)

/-- ITS FALSE NEIGHBOUR: 'it returns false'. Refute it at one input. -/
def digestSpoilsWrong : ChangeSpec := { name := "digestSpoils", fn := fun _ => fun
  | [d1, d2, d3] => { results := [.lit (.bool false)], args := [d1, d2, d3] }
  | _ => none }
def DigestSpoilsWrongFalsely : Prop := digestSpoilsRow.holds Try.pinned (OpenSpec.ofChange digestSpoilsWrong)

/-- 'binderylaw03.DigestBack': WHATEVER THE INPUT: true; the input reads as it did. -/
def digestBackSpec : ChangeSpec := { name := "digestBack", fn := fun _ => fun
  | [d1, d2] => { results := [.lit (.bool true)], args := [d1, d2] }
  | _ => none }
def digestBackRow : OpenClaim := { program := "ytmnklljkhabodaa", sum := "cfea96fc4aaf899c4225c93db2f0245917906e72eb70e4e072631e731a8957ed", func := "bindery/binderylaw03.DigestBack", spec := "digestBack", apart := false }
def DigestBackSaid : Prop := digestBackRow.holds Try.pinned (OpenSpec.ofChange digestBackSpec)

/-- ITS FALSE NEIGHBOUR: 'it returns false'. Refute it at one input. -/
def digestBackWrong : ChangeSpec := { name := "digestBack", fn := fun _ => fun
  | [d1, d2] => { results := [.lit (.bool false)], args := [d1, d2] }
  | _ => none }
def DigestBackWrongFalsely : Prop := digestBackRow.holds Try.pinned (OpenSpec.ofChange digestBackWrong)

/-- 'binderylaw03.DigestOdd': WHATEVER THE INPUT: true; the input reads as it did. -/
def digestOddSpec : ChangeSpec := { name := "digestOdd", fn := fun _ => fun
  | [d1, d2] => { results := [.lit (.bool true)], args := [d1, d2] }
  | _ => none }
def digestOddRow : OpenClaim := { program := "ytmnklljkhabodaa", sum := "cfea96fc4aaf899c4225c93db2f0245917906e72eb70e4e072631e731a8957ed", func := "bindery/binderylaw03.DigestOdd", spec := "digestOdd", apart := false }
def DigestOddSaid : Prop := digestOddRow.holds Try.pinned (OpenSpec.ofChange digestOddSpec)

/-- ITS FALSE NEIGHBOUR: 'it returns false'. Refute it at one input. -/
def digestOddWrong : ChangeSpec := { name := "digestOdd", fn := fun _ => fun
  | [d1, d2] => { results := [.lit (.bool false)], args := [d1, d2] }
  | _ => none }
def DigestOddWrongFalsely : Prop := digestOddRow.holds Try.pinned (OpenSpec.ofChange digestOddWrong)

/- THE SECOND FORM. 'bulk': how many values and letters a reading holds, each counted each time it is reached (what is shared counts as often as it is met; a slice's spare places count too). A statement '..UptoSaid' is the law's where the arguments, and the package variables that the reading takes, are together of bulk at most 1048576: NARROWER than '..Said'. Prove '..Said' where nothing that the law and all that it calls make is longer than what came in: it says more and counts as full. Else prove '..UptoSaid'. A law counts once. -/
mutual
def uptoBulk {H : Type} : DataW H → Nat
  | .lit (.string bytes) => bytes.length + 1
  | .lit _ => 1
  | .nil => 1
  | .ptr d => uptoBulk d + 1
  | .slice elems spare => uptoBulkAll elems + uptoBulkAll spare + 1
  | .agg parts => uptoBulkAll parts + 1
  | .iface _ d => uptoBulk d + 1
  | .map entries => uptoBulkEntries entries + 1
  | .held _ => 1
def uptoBulkAll {H : Type} : List (DataW H) → Nat
  | [] => 0
  | d :: r => uptoBulk d + uptoBulkAll r
def uptoBulkEntries {H : Type} : List (Lit × DataW H) → Nat
  | [] => 0
  | x :: r => uptoBulkEntry x + uptoBulkEntries r
def uptoBulkEntry {H : Type} : Lit × DataW H → Nat
  | (.string bytes, d) => bytes.length + uptoBulk d + 1
  | (_, d) => uptoBulk d + 1
 end
def uptoSmall : (H : Type) → List (DataW H) → Bool := fun _ ds => decide (uptoBulkAll ds ≤ 1048576)
def OpenSpec.upto (s : _root_.Go.ChangeSpec) : _root_.Go.OpenSpec := { _root_.Go.OpenSpec.ofChange s with cond := some uptoSmall }

/-- 'binderylaw03.DigestOf', WHERE WHAT IT READS IS OF BULK AT MOST 1048576: true; the input reads as it did. -/
def digestOfUptoRow : OpenClaim := { program := "ytmnklljkhabodaa", sum := "cfea96fc4aaf899c4225c93db2f0245917906e72eb70e4e072631e731a8957ed", func := "bindery/binderylaw03.DigestOf", spec := "digestOf", apart := false, narrowed := true }
def DigestOfUptoSaid : Prop := digestOfUptoRow.holds Try.pinned (OpenSpec.upto digestOfSpec)

/-- 'binderylaw03.DigestTexts', WHERE WHAT IT READS IS OF BULK AT MOST 1048576: true; the input reads as it did. -/
def digestTextsUptoRow : OpenClaim := { program := "ytmnklljkhabodaa", sum := "cfea96fc4aaf899c4225c93db2f0245917906e72eb70e4e072631e731a8957ed", func := "bindery/binderylaw03.DigestTexts", spec := "digestTexts", apart := false, narrowed := true }
def DigestTextsUptoSaid : Prop := digestTextsUptoRow.holds Try.pinned (OpenSpec.upto digestTextsSpec)

/-- 'binderylaw03.DigestJoins', WHERE WHAT IT READS IS OF BULK AT MOST 1048576: true; the input reads as it did. -/
def digestJoinsUptoRow : OpenClaim := { program := "ytmnklljkhabodaa", sum := "cfea96fc4aaf899c4225c93db2f0245917906e72eb70e4e072631e731a8957ed", func := "bindery/binderylaw03.DigestJoins", spec := "digestJoins", apart := false, narrowed := true }
def DigestJoinsUptoSaid : Prop := digestJoinsUptoRow.holds Try.pinned (OpenSpec.upto digestJoinsSpec)

/-- 'binderylaw03.DigestSpoils', WHERE WHAT IT READS IS OF BULK AT MOST 1048576: true; the input reads as it did. -/
def digestSpoilsUptoRow : OpenClaim := { program := "ytmnklljkhabodaa", sum := "cfea96fc4aaf899c4225c93db2f0245917906e72eb70e4e072631e731a8957ed", func := "bindery/binderylaw03.DigestSpoils", spec := "digestSpoils", apart := false, narrowed := true }
def DigestSpoilsUptoSaid : Prop := digestSpoilsUptoRow.holds Try.pinned (OpenSpec.upto digestSpoilsSpec)

/-- 'binderylaw03.DigestBack', WHERE WHAT IT READS IS OF BULK AT MOST 1048576: true; the input reads as it did. -/
def digestBackUptoRow : OpenClaim := { program := "ytmnklljkhabodaa", sum := "cfea96fc4aaf899c4225c93db2f0245917906e72eb70e4e072631e731a8957ed", func := "bindery/binderylaw03.DigestBack", spec := "digestBack", apart := false, narrowed := true }
def DigestBackUptoSaid : Prop := digestBackUptoRow.holds Try.pinned (OpenSpec.upto digestBackSpec)

/-- 'binderylaw03.DigestOdd', WHERE WHAT IT READS IS OF BULK AT MOST 1048576: true; the input reads as it did. -/
def digestOddUptoRow : OpenClaim := { program := "ytmnklljkhabodaa", sum := "cfea96fc4aaf899c4225c93db2f0245917906e72eb70e4e072631e731a8957ed", func := "bindery/binderylaw03.DigestOdd", spec := "digestOdd", apart := false, narrowed := true }
def DigestOddUptoSaid : Prop := digestOddUptoRow.holds Try.pinned (OpenSpec.upto digestOddSpec)

end Rows
end Go.Proofs.Ytmnklljkhabodaa
