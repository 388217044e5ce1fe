/-
  No cell of these rows narrows 'for every input' (looked for: loops, veiled, ifaces, maps, wideKeys, modest, calm, conditions, laid).
  DERIVED. THE GIVEN ROWS OF THIS SEAT. 8 by the template 'for every input the law returns true; each argument reads behind the call as it read before'; 0 by the template 'total and deterministic' (their statements: YtgikmippclcimaaTotals.lean).
  GIVEN WITH THE SEED: the statements are not yours to turn. If you find one false, say at which input.
  Laid BY PROGRAM, IN A SANDBOX (cutbox-rows.mjs): the forced cells as the released guide's own fill.sh prints them over the translation 5165973070cf4306… (all of the seat's roots in one cut). By AI agents, Wed Nov 11 2026. No macro, syntax, notation, axiom, sorry.
-/
import Derived.Test.YtgikmippclcimaaChecked
import GoSem.Claim
import GoSem.ClaimJoined
import GoSem.ClaimMapViews
import Derived.JoinedTies
import Derived.KernelRfl
namespace Go.Proofs.Ytgikmippclcimaa
/- THE CELL 'sum', in the pinned program and in every row, IS THE sha256 OF THE DUMP (.gsa) THAT YtgikmippclcimaaProg.lean LOADS. Nothing in Lean hashes anything: it is a label: what it is worth is what the hold of that sum in a sandbox is worth. -/
noncomputable def Try.pinned : Pinned := { name := "ytgikmippclcimaa", sum := "5165973070cf4306a386b312216aa3afa8a3ed683d8039c621bf9c9f08122281", checked := Try.checked }
namespace Rows
def none {H : Type} : Left H := { results := [], args := [] }

/-- 'binderylaw04.CondsChecks': WHATEVER THE INPUT: true; the input reads as it did. -/
def condsChecksSpec : ChangeSpec := { name := "condsChecks", fn := fun _ => fun
  | [d1, d2] => { results := [.lit (.bool true)], args := [d1, d2] }
  | _ => none }
def condsChecksRow : OpenClaim := { program := "ytgikmippclcimaa", sum := "5165973070cf4306a386b312216aa3afa8a3ed683d8039c621bf9c9f08122281", func := "bindery/binderylaw04.CondsChecks", spec := "condsChecks", unfollowed := true, recurses := true, apart := false }
def CondsChecksSaid : Prop := condsChecksRow.holds Try.pinned (OpenSpec.ofChange condsChecksSpec)

/-- ITS FALSE NEIGHBOUR: 'it returns false'. Refute it at one input. -/
def condsChecksWrong : ChangeSpec := { name := "condsChecks", fn := fun _ => fun
  | [d1, d2] => { results := [.lit (.bool false)], args := [d1, d2] }
  | _ => none }
def CondsChecksWrongFalsely : Prop := condsChecksRow.holds Try.pinned (OpenSpec.ofChange condsChecksWrong)

/-- 'binderylaw04.CondsAsks': WHATEVER THE INPUT: true; the input reads as it did. -/
def condsAsksSpec : ChangeSpec := { name := "condsAsks", fn := fun _ => fun
  | [d1, d2] => { results := [.lit (.bool true)], args := [d1, d2] }
  | _ => none }
def condsAsksRow : OpenClaim := { program := "ytgikmippclcimaa", sum := "5165973070cf4306a386b312216aa3afa8a3ed683d8039c621bf9c9f08122281", func := "bindery/binderylaw04.CondsAsks", spec := "condsAsks", inPlace := ["internal/bytealg.IndexByteString", "internal/bytealg.IndexString"], unfollowed := true, recurses := true, named := ["internal/bytealg.MaxLen"], apart := false }
def CondsAsksSaid : Prop := condsAsksRow.holds Try.pinned (OpenSpec.ofChange condsAsksSpec)

/-- ITS FALSE NEIGHBOUR: 'it returns false'. Refute it at one input. -/
def condsAsksWrong : ChangeSpec := { name := "condsAsks", fn := fun _ => fun
  | [d1, d2] => { results := [.lit (.bool false)], args := [d1, d2] }
  | _ => none }
def CondsAsksWrongFalsely : Prop := condsAsksRow.holds Try.pinned (OpenSpec.ofChange condsAsksWrong)

/-- 'binderylaw04.CondsBack': WHATEVER THE INPUT: true; the input reads as it did. -/
def condsBackSpec : ChangeSpec := { name := "condsBack", fn := fun _ => fun
  | [d1, d2, d3] => { results := [.lit (.bool true)], args := [d1, d2, d3] }
  | _ => none }
def condsBackRow : OpenClaim := { program := "ytgikmippclcimaa", sum := "5165973070cf4306a386b312216aa3afa8a3ed683d8039c621bf9c9f08122281", func := "bindery/binderylaw04.CondsBack", spec := "condsBack", inPlace := ["internal/bytealg.IndexByteString", "internal/bytealg.IndexString", "internal/abi.NoEscape"], unfollowed := true, recurses := true, named := ["internal/bytealg.MaxLen"], apart := false }
def CondsBackSaid : Prop := condsBackRow.holds Try.pinned (OpenSpec.ofChange condsBackSpec)

/-- ITS FALSE NEIGHBOUR: 'it returns false'. Refute it at one input. -/
def condsBackWrong : ChangeSpec := { name := "condsBack", fn := fun _ => fun
  | [d1, d2, d3] => { results := [.lit (.bool false)], args := [d1, d2, d3] }
  | _ => none }
def CondsBackWrongFalsely : Prop := condsBackRow.holds Try.pinned (OpenSpec.ofChange condsBackWrong)

/-- 'binderylaw04.CondsAgain': WHATEVER THE INPUT: true; the input reads as it did. -/
def condsAgainSpec : ChangeSpec := { name := "condsAgain", fn := fun _ => fun
  | [d1, d2, d3] => { results := [.lit (.bool true)], args := [d1, d2, d3] }
  | _ => none }
def condsAgainRow : OpenClaim := { program := "ytgikmippclcimaa", sum := "5165973070cf4306a386b312216aa3afa8a3ed683d8039c621bf9c9f08122281", func := "bindery/binderylaw04.CondsAgain", spec := "condsAgain", inPlace := ["internal/bytealg.IndexByteString", "internal/bytealg.IndexString", "internal/abi.NoEscape"], unfollowed := true, recurses := true, named := ["internal/bytealg.MaxLen"], apart := false }
def CondsAgainSaid : Prop := condsAgainRow.holds Try.pinned (OpenSpec.ofChange condsAgainSpec)

/-- ITS FALSE NEIGHBOUR: 'it returns false'. Refute it at one input. -/
def condsAgainWrong : ChangeSpec := { name := "condsAgain", fn := fun _ => fun
  | [d1, d2, d3] => { results := [.lit (.bool false)], args := [d1, d2, d3] }
  | _ => none }
def CondsAgainWrongFalsely : Prop := condsAgainRow.holds Try.pinned (OpenSpec.ofChange condsAgainWrong)

/-- 'binderylaw04.CondsOpposite': WHATEVER THE INPUT: true; the input reads as it did. -/
def condsOppositeSpec : ChangeSpec := { name := "condsOpposite", fn := fun _ => fun
  | [d1, d2, d3] => { results := [.lit (.bool true)], args := [d1, d2, d3] }
  | _ => none }
def condsOppositeRow : OpenClaim := { program := "ytgikmippclcimaa", sum := "5165973070cf4306a386b312216aa3afa8a3ed683d8039c621bf9c9f08122281", func := "bindery/binderylaw04.CondsOpposite", spec := "condsOpposite", inPlace := ["internal/bytealg.IndexByteString", "internal/bytealg.IndexString", "internal/abi.NoEscape"], unfollowed := true, recurses := true, named := ["internal/bytealg.MaxLen"], apart := false }
def CondsOppositeSaid : Prop := condsOppositeRow.holds Try.pinned (OpenSpec.ofChange condsOppositeSpec)

/-- ITS FALSE NEIGHBOUR: 'it returns false'. Refute it at one input. -/
def condsOppositeWrong : ChangeSpec := { name := "condsOpposite", fn := fun _ => fun
  | [d1, d2, d3] => { results := [.lit (.bool false)], args := [d1, d2, d3] }
  | _ => none }
def CondsOppositeWrongFalsely : Prop := condsOppositeRow.holds Try.pinned (OpenSpec.ofChange condsOppositeWrong)

/-- 'binderylaw04.CondsPlain': WHATEVER THE INPUT: true; the input reads as it did. -/
def condsPlainSpec : ChangeSpec := { name := "condsPlain", fn := fun _ => fun
  | [d1, d2, d3] => { results := [.lit (.bool true)], args := [d1, d2, d3] }
  | _ => none }
def condsPlainRow : OpenClaim := { program := "ytgikmippclcimaa", sum := "5165973070cf4306a386b312216aa3afa8a3ed683d8039c621bf9c9f08122281", func := "bindery/binderylaw04.CondsPlain", spec := "condsPlain", inPlace := ["internal/bytealg.IndexByteString", "internal/bytealg.IndexString", "internal/abi.NoEscape"], unfollowed := true, recurses := true, named := ["internal/bytealg.MaxLen"], apart := false }
def CondsPlainSaid : Prop := condsPlainRow.holds Try.pinned (OpenSpec.ofChange condsPlainSpec)

/-- ITS FALSE NEIGHBOUR: 'it returns false'. Refute it at one input. -/
def condsPlainWrong : ChangeSpec := { name := "condsPlain", fn := fun _ => fun
  | [d1, d2, d3] => { results := [.lit (.bool false)], args := [d1, d2, d3] }
  | _ => none }
def CondsPlainWrongFalsely : Prop := condsPlainRow.holds Try.pinned (OpenSpec.ofChange condsPlainWrong)

/-- 'binderylaw04.CondsName': WHATEVER THE INPUT: true; the input reads as it did. -/
def condsNameSpec : ChangeSpec := { name := "condsName", fn := fun _ => fun
  | [d1, d2, d3] => { results := [.lit (.bool true)], args := [d1, d2, d3] }
  | _ => none }
def condsNameRow : OpenClaim := { program := "ytgikmippclcimaa", sum := "5165973070cf4306a386b312216aa3afa8a3ed683d8039c621bf9c9f08122281", func := "bindery/binderylaw04.CondsName", spec := "condsName", inPlace := ["internal/bytealg.IndexByteString", "internal/bytealg.IndexString", "internal/abi.NoEscape"], unfollowed := true, recurses := true, named := ["internal/bytealg.MaxLen"], apart := false }
def CondsNameSaid : Prop := condsNameRow.holds Try.pinned (OpenSpec.ofChange condsNameSpec)

/-- ITS FALSE NEIGHBOUR: 'it returns false'. Refute it at one input. -/
def condsNameWrong : ChangeSpec := { name := "condsName", fn := fun _ => fun
  | [d1, d2, d3] => { results := [.lit (.bool false)], args := [d1, d2, d3] }
  | _ => none }
def CondsNameWrongFalsely : Prop := condsNameRow.holds Try.pinned (OpenSpec.ofChange condsNameWrong)

/-- 'binderylaw04.CondsValues': WHATEVER THE INPUT: true; the input reads as it did. -/
def condsValuesSpec : ChangeSpec := { name := "condsValues", fn := fun _ => fun
  | [d] => { results := [.lit (.bool true)], args := [d] }
  | _ => none }
def condsValuesRow : OpenClaim := { program := "ytgikmippclcimaa", sum := "5165973070cf4306a386b312216aa3afa8a3ed683d8039c621bf9c9f08122281", func := "bindery/binderylaw04.CondsValues", spec := "condsValues", inPlace := ["internal/bytealg.IndexByteString", "internal/bytealg.IndexString", "internal/abi.NoEscape"], unfollowed := true, recurses := true, named := ["internal/bytealg.MaxLen"], apart := false }
def CondsValuesSaid : Prop := condsValuesRow.holds Try.pinned (OpenSpec.ofChange condsValuesSpec)

/-- ITS FALSE NEIGHBOUR: 'it returns false'. Refute it at one input. -/
def condsValuesWrong : ChangeSpec := { name := "condsValues", fn := fun _ => fun
  | [d] => { results := [.lit (.bool false)], args := [d] }
  | _ => none }
def CondsValuesWrongFalsely : Prop := condsValuesRow.holds Try.pinned (OpenSpec.ofChange condsValuesWrong)

/- THE SECOND FORM. 'bulk': how many values and letters a reading holds, each counted each time it is reached (what is shared counts as often as it is met; a slice's spare places count too). A statement '..UptoSaid' is the law's where the arguments, and the package variables that the reading takes, are together of bulk at most 1048576: NARROWER than '..Said'. Prove '..Said' where nothing that the law and all that it calls make is longer than what came in: it says more and counts as full. Else prove '..UptoSaid'. A law counts once. -/
mutual
def uptoBulk {H : Type} : DataW H → Nat
  | .lit (.string bytes) => bytes.length + 1
  | .lit _ => 1
  | .nil => 1
  | .ptr d => uptoBulk d + 1
  | .slice elems spare => uptoBulkAll elems + uptoBulkAll spare + 1
  | .agg parts => uptoBulkAll parts + 1
  | .iface _ d => uptoBulk d + 1
  | .map entries => uptoBulkEntries entries + 1
  | .held _ => 1
def uptoBulkAll {H : Type} : List (DataW H) → Nat
  | [] => 0
  | d :: r => uptoBulk d + uptoBulkAll r
def uptoBulkEntries {H : Type} : List (Lit × DataW H) → Nat
  | [] => 0
  | x :: r => uptoBulkEntry x + uptoBulkEntries r
def uptoBulkEntry {H : Type} : Lit × DataW H → Nat
  | (.string bytes, d) => bytes.length + uptoBulk d + 1
  | (_, d) => uptoBulk d + 1
 end
def uptoSmall : (H : Type) → List (DataW H) → Bool := fun _ ds => decide (uptoBulkAll ds ≤ 1048576)
def OpenSpec.upto (s : _root_.Go.ChangeSpec) : _root_.Go.OpenSpec := { _root_.Go.OpenSpec.ofChange s with cond := some uptoSmall }

/-- 'binderylaw04.CondsChecks', WHERE WHAT IT READS IS OF BULK AT MOST 1048576: true; the input reads as it did. -/
def condsChecksUptoRow : OpenClaim := { program := "ytgikmippclcimaa", sum := "5165973070cf4306a386b312216aa3afa8a3ed683d8039c621bf9c9f08122281", func := "bindery/binderylaw04.CondsChecks", spec := "condsChecks", unfollowed := true, recurses := true, apart := false, narrowed := true }
def CondsChecksUptoSaid : Prop := condsChecksUptoRow.holds Try.pinned (OpenSpec.upto condsChecksSpec)

/-- 'binderylaw04.CondsAsks', WHERE WHAT IT READS IS OF BULK AT MOST 1048576: true; the input reads as it did. -/
def condsAsksUptoRow : OpenClaim := { program := "ytgikmippclcimaa", sum := "5165973070cf4306a386b312216aa3afa8a3ed683d8039c621bf9c9f08122281", func := "bindery/binderylaw04.CondsAsks", spec := "condsAsks", inPlace := ["internal/bytealg.IndexByteString", "internal/bytealg.IndexString"], unfollowed := true, recurses := true, named := ["internal/bytealg.MaxLen"], apart := false, narrowed := true }
def CondsAsksUptoSaid : Prop := condsAsksUptoRow.holds Try.pinned (OpenSpec.upto condsAsksSpec)

/-- 'binderylaw04.CondsBack', WHERE WHAT IT READS IS OF BULK AT MOST 1048576: true; the input reads as it did. -/
def condsBackUptoRow : OpenClaim := { program := "ytgikmippclcimaa", sum := "5165973070cf4306a386b312216aa3afa8a3ed683d8039c621bf9c9f08122281", func := "bindery/binderylaw04.CondsBack", spec := "condsBack", inPlace := ["internal/bytealg.IndexByteString", "internal/bytealg.IndexString", "internal/abi.NoEscape"], unfollowed := true, recurses := true, named := ["internal/bytealg.MaxLen"], apart := false, narrowed := true }
def CondsBackUptoSaid : Prop := condsBackUptoRow.holds Try.pinned (OpenSpec.upto condsBackSpec)

/-- 'binderylaw04.CondsAgain', WHERE WHAT IT READS IS OF BULK AT MOST 1048576: true; the input reads as it did. -/
def condsAgainUptoRow : OpenClaim := { program := "ytgikmippclcimaa", sum := "5165973070cf4306a386b312216aa3afa8a3ed683d8039c621bf9c9f08122281", func := "bindery/binderylaw04.CondsAgain", spec := "condsAgain", inPlace := ["internal/bytealg.IndexByteString", "internal/bytealg.IndexString", "internal/abi.NoEscape"], unfollowed := true, recurses := true, named := ["internal/bytealg.MaxLen"], apart := false, narrowed := true }
def CondsAgainUptoSaid : Prop := condsAgainUptoRow.holds Try.pinned (OpenSpec.upto condsAgainSpec)

/-- 'binderylaw04.CondsOpposite', WHERE WHAT IT READS IS OF BULK AT MOST 1048576: true; the input reads as it did. -/
def condsOppositeUptoRow : OpenClaim := { program := "ytgikmippclcimaa", sum := "5165973070cf4306a386b312216aa3afa8a3ed683d8039c621bf9c9f08122281", func := "bindery/binderylaw04.CondsOpposite", spec := "condsOpposite", inPlace := ["internal/bytealg.IndexByteString", "internal/bytealg.IndexString", "internal/abi.NoEscape"], unfollowed := true, recurses := true, named := ["internal/bytealg.MaxLen"], apart := false, narrowed := true }
def CondsOppositeUptoSaid : Prop := condsOppositeUptoRow.holds Try.pinned (OpenSpec.upto condsOppositeSpec)

/-- 'binderylaw04.CondsPlain', WHERE WHAT IT READS IS OF BULK AT MOST 1048576: true; the input reads as it did. -/
def condsPlainUptoRow : OpenClaim := { program := "ytgikmippclcimaa", sum := "5165973070cf4306a386b312216aa3afa8a3ed683d8039c621bf9c9f08122281", func := "bindery/binderylaw04.CondsPlain", spec := "condsPlain", inPlace := ["internal/bytealg.IndexByteString", "internal/bytealg.IndexString", "internal/abi.NoEscape"], unfollowed := true, recurses := true, named := ["internal/bytealg.MaxLen"], apart := false, narrowed := true }
def CondsPlainUptoSaid : Prop := condsPlainUptoRow.holds Try.pinned (OpenSpec.upto condsPlainSpec)

/-- 'binderylaw04.CondsName', WHERE WHAT IT READS IS OF BULK AT MOST 1048576: true; the input reads as it did. -/
def condsNameUptoRow : OpenClaim := { program := "ytgikmippclcimaa", sum := "5165973070cf4306a386b312216aa3afa8a3ed683d8039c621bf9c9f08122281", func := "bindery/binderylaw04.CondsName", spec := "condsName", inPlace := ["internal/bytealg.IndexByteString", "internal/bytealg.IndexString", "internal/abi.NoEscape"], unfollowed := true, recurses := true, named := ["internal/bytealg.MaxLen"], apart := false, narrowed := true }
def CondsNameUptoSaid : Prop := condsNameUptoRow.holds Try.pinned (OpenSpec.upto condsNameSpec)

/-- 'binderylaw04.CondsValues', WHERE WHAT IT READS IS OF BULK AT MOST 1048576: true; the input reads as it did. -/
def condsValuesUptoRow : OpenClaim := { program := "ytgikmippclcimaa", sum := "5165973070cf4306a386b312216aa3afa8a3ed683d8039c621bf9c9f08122281", func := "bindery/binderylaw04.CondsValues", spec := "condsValues", inPlace := ["internal/bytealg.IndexByteString", "internal/bytealg.IndexString", "internal/abi.NoEscape"], unfollowed := true, recurses := true, named := ["internal/bytealg.MaxLen"], apart := false, narrowed := true }
def CondsValuesUptoSaid : Prop := condsValuesUptoRow.holds Try.pinned (OpenSpec.upto condsValuesSpec)

end Rows
end Go.Proofs.Ytgikmippclcimaa
