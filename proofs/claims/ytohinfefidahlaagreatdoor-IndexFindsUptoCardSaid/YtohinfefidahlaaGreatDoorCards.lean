/-
  DERIVED. GIVEN WITH THE SEED: THE CARDS: each row of YtohinfefidahlaaGreatDoorRows.lean that lists a variable, with what it lists TIED to the program's text (the seventh form; the later family's looks); each row that meets fmt, with fmt's text TOLD by the authors' own Lean function (tested against real Go, not proved from fmt's source: count such statements apart). THE CARD IS WHAT COUNTS. Prove the row's statement (the work); the ties are given (YtohinfefidahlaaGreatDoorTie.lean); close each card by the builder's one call (the guide's Derived/Test/ToyasCard.lean, 'card_holds'). Laid BY PROGRAM, IN A SANDBOX (cutbox-door.mjs). By AI agents, Wed Nov 11 2026. No macro, syntax, notation, axiom, sorry.
-/
import Derived.Test.YtohinfefidahlaaGreatDoorRows
import GoSem.ClaimSeven
namespace Go.Proofs.YtohinfefidahlaaGreatDoor
namespace Rows

/-- THE TIED CARD OF 'binderylaw17.IndexFinds'. -/
def indexFindsCard : Claim7 := { stood := { row := indexFindsRow, standIns := [], harness := (true, "56ed5def1419614d73d8d646c1951b57eb25b2e71a6e043a90186c3291bdb223"), looks := false }, kinds := [], alts := [], laidByText := true, laidKinds := [.data, .data, .data, .data, .pinned], laidTests := true, laidLooks := .later }
def IndexFindsCardSaid : Prop := Claim7.holds Tryz.pinned (.plain (OpenSpec.ofChange indexFindsSpec)) indexFindsCard

/-- THE TIED CARD OF 'binderylaw17.IndexSorted'. -/
def indexSortedCard : Claim7 := { stood := { row := indexSortedRow, standIns := [], harness := (true, "56ed5def1419614d73d8d646c1951b57eb25b2e71a6e043a90186c3291bdb223"), looks := false }, kinds := [], alts := [], laidByText := true, laidKinds := [.data, .data, .data, .data, .pinned], laidTests := true, laidLooks := .later }
def IndexSortedCardSaid : Prop := Claim7.holds Tryz.pinned (.plain (OpenSpec.ofChange indexSortedSpec)) indexSortedCard

/-- THE TIED CARD OF 'binderylaw17.IndexWhole'. -/
def indexWholeCard : Claim7 := { stood := { row := indexWholeRow, standIns := [], harness := (true, "56ed5def1419614d73d8d646c1951b57eb25b2e71a6e043a90186c3291bdb223"), looks := false }, kinds := [], alts := [], laidByText := true, laidKinds := [.data, .data, .data, .data, .pinned], laidTests := true, laidLooks := .later }
def IndexWholeCardSaid : Prop := Claim7.holds Tryz.pinned (.plain (OpenSpec.ofChange indexWholeSpec)) indexWholeCard

/-- THE SECOND FORM's CARD OF 'binderylaw17.IndexFinds'. -/
def indexFindsUptoCard : Claim7 := { stood := { row := indexFindsUptoRow, standIns := [], harness := (true, "56ed5def1419614d73d8d646c1951b57eb25b2e71a6e043a90186c3291bdb223"), looks := false }, kinds := [], alts := [], laidByText := true, laidKinds := [.data, .data, .data, .data, .pinned], laidTests := true, laidLooks := .later }
def IndexFindsUptoCardSaid : Prop := Claim7.holds Tryz.pinned (.plain (OpenSpec.upto indexFindsSpec)) indexFindsUptoCard

/-- THE SECOND FORM's CARD OF 'binderylaw17.IndexSorted'. -/
def indexSortedUptoCard : Claim7 := { stood := { row := indexSortedUptoRow, standIns := [], harness := (true, "56ed5def1419614d73d8d646c1951b57eb25b2e71a6e043a90186c3291bdb223"), looks := false }, kinds := [], alts := [], laidByText := true, laidKinds := [.data, .data, .data, .data, .pinned], laidTests := true, laidLooks := .later }
def IndexSortedUptoCardSaid : Prop := Claim7.holds Tryz.pinned (.plain (OpenSpec.upto indexSortedSpec)) indexSortedUptoCard

/-- THE SECOND FORM's CARD OF 'binderylaw17.IndexWhole'. -/
def indexWholeUptoCard : Claim7 := { stood := { row := indexWholeUptoRow, standIns := [], harness := (true, "56ed5def1419614d73d8d646c1951b57eb25b2e71a6e043a90186c3291bdb223"), looks := false }, kinds := [], alts := [], laidByText := true, laidKinds := [.data, .data, .data, .data, .pinned], laidTests := true, laidLooks := .later }
def IndexWholeUptoCardSaid : Prop := Claim7.holds Tryz.pinned (.plain (OpenSpec.upto indexWholeSpec)) indexWholeUptoCard
end Rows
end Go.Proofs.YtohinfefidahlaaGreatDoor
