/-
  DERIVED. GIVEN WITH THE SEED: THE CARDS: each row of YtofphojcfjkjhaaGreatDoorRows.lean that lists a variable, with what it lists TIED to the program's text (the seventh form; the later family's looks); each row that meets fmt, with fmt's text TOLD by the authors' own Lean function (tested against real Go, not proved from fmt's source: count such statements apart). THE CARD IS WHAT COUNTS. Prove the row's statement (the work); the ties are given (YtofphojcfjkjhaaGreatDoorTie.lean); close each card by the builder's one call (the guide's Derived/Test/ToyasCard.lean, 'card_holds'). Laid BY PROGRAM, IN A SANDBOX (cutbox-door.mjs). By AI agents, Wed Nov 11 2026. No macro, syntax, notation, axiom, sorry.
-/
import Derived.Test.YtofphojcfjkjhaaGreatDoorRows
import GoSem.ClaimSeven
namespace Go.Proofs.YtofphojcfjkjhaaGreatDoor
namespace Rows

/-- THE TIED CARD OF 'binderylaw13.SlugsUnlikes'. -/
def slugsUnlikesCard : Claim7 := { stood := { row := slugsUnlikesRow, standIns := [], harness := (true, "a2e2ed6eaa41909c2a508f503c0e2f1c541af153854da7971a21d42cea8e9849"), looks := false }, kinds := [], alts := [], laidByText := true, laidKinds := [.data, .data, .data], laidTests := true, laidLooks := .later }
def SlugsUnlikesCardSaid : Prop := Claim7.holds Tryz.pinned (.plain (OpenSpec.ofChange slugsUnlikesSpec)) slugsUnlikesCard

/-- THE SECOND FORM's CARD OF 'binderylaw13.SlugsUnlikes'. -/
def slugsUnlikesUptoCard : Claim7 := { stood := { row := slugsUnlikesUptoRow, standIns := [], harness := (true, "a2e2ed6eaa41909c2a508f503c0e2f1c541af153854da7971a21d42cea8e9849"), looks := false }, kinds := [], alts := [], laidByText := true, laidKinds := [.data, .data, .data], laidTests := true, laidLooks := .later }
def SlugsUnlikesUptoCardSaid : Prop := Claim7.holds Tryz.pinned (.plain (OpenSpec.upto slugsUnlikesSpec)) slugsUnlikesUptoCard
end Rows
end Go.Proofs.YtofphojcfjkjhaaGreatDoor
