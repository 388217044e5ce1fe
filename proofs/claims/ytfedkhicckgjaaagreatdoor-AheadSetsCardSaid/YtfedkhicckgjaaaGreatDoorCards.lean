/-
  DERIVED. GIVEN WITH THE SEED: THE CARDS: each row of YtfedkhicckgjaaaGreatDoorRows.lean that lists a variable, with what it lists TIED to the program's text (the seventh form; the later family's looks); each row that meets fmt, with fmt's text TOLD by the authors' own Lean function (tested against real Go, not proved from fmt's source: count such statements apart). THE CARD IS WHAT COUNTS. Prove the row's statement (the work); the ties are given (YtfedkhicckgjaaaGreatDoorTie.lean); close each card by the builder's one call (the guide's Derived/Test/ToyasCard.lean, 'card_holds'). Laid BY PROGRAM, IN A SANDBOX (cutbox-door.mjs). By AI agents, Wed Nov 11 2026. No macro, syntax, notation, axiom, sorry.
-/
import Derived.Test.YtfedkhicckgjaaaGreatDoorRows
import GoSem.ClaimSeven
namespace Go.Proofs.YtfedkhicckgjaaaGreatDoor
namespace Rows

/-- THE TIED CARD OF 'binderylaw05.AheadLines'. -/
def aheadLinesCard : Claim7 := { stood := { row := aheadLinesRow, standIns := [], harness := (true, "498033c3e57c88556a439c757f1fb5daed9d74a32b2bbc96e308fb9526e8b4bd"), looks := true }, kinds := [], alts := [], laidByText := true, laidKinds := [.data, .data, .data, .data, .pinned], laidTests := true, laidLooks := .later }
def AheadLinesCardSaid : Prop := Claim7.holds Tryz.pinned (.plain (OpenSpec.ofChange aheadLinesSpec)) aheadLinesCard

/-- THE TIED CARD OF 'binderylaw05.AheadPlain'. -/
def aheadPlainCard : Claim7 := { stood := { row := aheadPlainRow, standIns := [], harness := (true, "498033c3e57c88556a439c757f1fb5daed9d74a32b2bbc96e308fb9526e8b4bd"), looks := true }, kinds := [], alts := [], laidByText := true, laidKinds := [.data, .pinned], laidTests := true, laidLooks := .later }
def AheadPlainCardSaid : Prop := Claim7.holds Tryz.pinned (.plain (OpenSpec.ofChange aheadPlainSpec)) aheadPlainCard

/-- THE TIED CARD OF 'binderylaw05.AheadParts'. -/
def aheadPartsCard : Claim7 := { stood := { row := aheadPartsRow, standIns := [], harness := (true, "498033c3e57c88556a439c757f1fb5daed9d74a32b2bbc96e308fb9526e8b4bd"), looks := true }, kinds := [], alts := [], laidByText := true, laidKinds := [.data, .pinned], laidTests := true, laidLooks := .later }
def AheadPartsCardSaid : Prop := Claim7.holds Tryz.pinned (.plain (OpenSpec.ofChange aheadPartsSpec)) aheadPartsCard

/-- THE TIED CARD OF 'binderylaw05.AheadDeep'. -/
def aheadDeepCard : Claim7 := { stood := { row := aheadDeepRow, standIns := [], harness := (true, "498033c3e57c88556a439c757f1fb5daed9d74a32b2bbc96e308fb9526e8b4bd"), looks := true }, kinds := [], alts := [], laidByText := true, laidKinds := [.data, .pinned], laidTests := true, laidLooks := .later }
def AheadDeepCardSaid : Prop := Claim7.holds Tryz.pinned (.plain (OpenSpec.ofChange aheadDeepSpec)) aheadDeepCard

/-- THE TIED CARD OF 'binderylaw05.AheadOff'. -/
def aheadOffCard : Claim7 := { stood := { row := aheadOffRow, standIns := [], harness := (true, "498033c3e57c88556a439c757f1fb5daed9d74a32b2bbc96e308fb9526e8b4bd"), looks := true }, kinds := [], alts := [], laidByText := true, laidKinds := [.data, .pinned], laidTests := true, laidLooks := .later }
def AheadOffCardSaid : Prop := Claim7.holds Tryz.pinned (.plain (OpenSpec.ofChange aheadOffSpec)) aheadOffCard

/-- THE TIED CARD OF 'binderylaw05.AheadIncludes'. -/
def aheadIncludesCard : Claim7 := { stood := { row := aheadIncludesRow, standIns := [], harness := (true, "498033c3e57c88556a439c757f1fb5daed9d74a32b2bbc96e308fb9526e8b4bd"), looks := true }, kinds := [], alts := [], laidByText := true, laidKinds := [.data, .pinned], laidTests := true, laidLooks := .later }
def AheadIncludesCardSaid : Prop := Claim7.holds Tryz.pinned (.plain (OpenSpec.ofChange aheadIncludesSpec)) aheadIncludesCard

/-- THE TIED CARD OF 'binderylaw05.AheadSets'. -/
def aheadSetsCard : Claim7 := { stood := { row := aheadSetsRow, standIns := [], harness := (true, "498033c3e57c88556a439c757f1fb5daed9d74a32b2bbc96e308fb9526e8b4bd"), looks := true }, kinds := [], alts := [], laidByText := true, laidKinds := [.data, .pinned], laidTests := true, laidLooks := .later }
def AheadSetsCardSaid : Prop := Claim7.holds Tryz.pinned (.plain (OpenSpec.ofChange aheadSetsSpec)) aheadSetsCard

/-- THE SECOND FORM's CARD OF 'binderylaw05.AheadLines'. -/
def aheadLinesUptoCard : Claim7 := { stood := { row := aheadLinesUptoRow, standIns := [], harness := (true, "498033c3e57c88556a439c757f1fb5daed9d74a32b2bbc96e308fb9526e8b4bd"), looks := true }, kinds := [], alts := [], laidByText := true, laidKinds := [.data, .data, .data, .data, .pinned], laidTests := true, laidLooks := .later }
def AheadLinesUptoCardSaid : Prop := Claim7.holds Tryz.pinned (.plain (OpenSpec.upto aheadLinesSpec)) aheadLinesUptoCard

/-- THE SECOND FORM's CARD OF 'binderylaw05.AheadPlain'. -/
def aheadPlainUptoCard : Claim7 := { stood := { row := aheadPlainUptoRow, standIns := [], harness := (true, "498033c3e57c88556a439c757f1fb5daed9d74a32b2bbc96e308fb9526e8b4bd"), looks := true }, kinds := [], alts := [], laidByText := true, laidKinds := [.data, .pinned], laidTests := true, laidLooks := .later }
def AheadPlainUptoCardSaid : Prop := Claim7.holds Tryz.pinned (.plain (OpenSpec.upto aheadPlainSpec)) aheadPlainUptoCard

/-- THE SECOND FORM's CARD OF 'binderylaw05.AheadParts'. -/
def aheadPartsUptoCard : Claim7 := { stood := { row := aheadPartsUptoRow, standIns := [], harness := (true, "498033c3e57c88556a439c757f1fb5daed9d74a32b2bbc96e308fb9526e8b4bd"), looks := true }, kinds := [], alts := [], laidByText := true, laidKinds := [.data, .pinned], laidTests := true, laidLooks := .later }
def AheadPartsUptoCardSaid : Prop := Claim7.holds Tryz.pinned (.plain (OpenSpec.upto aheadPartsSpec)) aheadPartsUptoCard

/-- THE SECOND FORM's CARD OF 'binderylaw05.AheadDeep'. -/
def aheadDeepUptoCard : Claim7 := { stood := { row := aheadDeepUptoRow, standIns := [], harness := (true, "498033c3e57c88556a439c757f1fb5daed9d74a32b2bbc96e308fb9526e8b4bd"), looks := true }, kinds := [], alts := [], laidByText := true, laidKinds := [.data, .pinned], laidTests := true, laidLooks := .later }
def AheadDeepUptoCardSaid : Prop := Claim7.holds Tryz.pinned (.plain (OpenSpec.upto aheadDeepSpec)) aheadDeepUptoCard

/-- THE SECOND FORM's CARD OF 'binderylaw05.AheadOff'. -/
def aheadOffUptoCard : Claim7 := { stood := { row := aheadOffUptoRow, standIns := [], harness := (true, "498033c3e57c88556a439c757f1fb5daed9d74a32b2bbc96e308fb9526e8b4bd"), looks := true }, kinds := [], alts := [], laidByText := true, laidKinds := [.data, .pinned], laidTests := true, laidLooks := .later }
def AheadOffUptoCardSaid : Prop := Claim7.holds Tryz.pinned (.plain (OpenSpec.upto aheadOffSpec)) aheadOffUptoCard

/-- THE SECOND FORM's CARD OF 'binderylaw05.AheadIncludes'. -/
def aheadIncludesUptoCard : Claim7 := { stood := { row := aheadIncludesUptoRow, standIns := [], harness := (true, "498033c3e57c88556a439c757f1fb5daed9d74a32b2bbc96e308fb9526e8b4bd"), looks := true }, kinds := [], alts := [], laidByText := true, laidKinds := [.data, .pinned], laidTests := true, laidLooks := .later }
def AheadIncludesUptoCardSaid : Prop := Claim7.holds Tryz.pinned (.plain (OpenSpec.upto aheadIncludesSpec)) aheadIncludesUptoCard

/-- THE SECOND FORM's CARD OF 'binderylaw05.AheadSets'. -/
def aheadSetsUptoCard : Claim7 := { stood := { row := aheadSetsUptoRow, standIns := [], harness := (true, "498033c3e57c88556a439c757f1fb5daed9d74a32b2bbc96e308fb9526e8b4bd"), looks := true }, kinds := [], alts := [], laidByText := true, laidKinds := [.data, .pinned], laidTests := true, laidLooks := .later }
def AheadSetsUptoCardSaid : Prop := Claim7.holds Tryz.pinned (.plain (OpenSpec.upto aheadSetsSpec)) aheadSetsUptoCard
end Rows
end Go.Proofs.YtfedkhicckgjaaaGreatDoor
