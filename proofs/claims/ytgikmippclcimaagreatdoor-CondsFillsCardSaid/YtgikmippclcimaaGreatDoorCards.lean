/-
  DERIVED. GIVEN WITH THE SEED: THE CARDS: each row of YtgikmippclcimaaGreatDoorRows.lean that lists a variable, with what it lists TIED to the program's text (the seventh form; the later family's looks); each row that meets fmt, with fmt's text TOLD by the authors' own Lean function (tested against real Go, not proved from fmt's source: count such statements apart). THE CARD IS WHAT COUNTS. Prove the row's statement (the work); the ties are given (YtgikmippclcimaaGreatDoorTie.lean); close each card by the builder's one call (the guide's Derived/Test/ToyasCard.lean, 'card_holds'). Laid BY PROGRAM, IN A SANDBOX (cutbox-door.mjs). By AI agents, Wed Nov 11 2026. No macro, syntax, notation, axiom, sorry.
-/
import Derived.Test.YtgikmippclcimaaGreatDoorRows
import GoSem.ClaimSeven
namespace Go.Proofs.YtgikmippclcimaaGreatDoor
namespace Rows

/-- THE TIED CARD OF 'binderylaw04.CondsUnsets'. -/
def condsUnsetsCard : Claim7 := { stood := { row := condsUnsetsRow, standIns := [], harness := (true, "c938857c52e0af9c1c7cb867847ad2e7546c4626506e2f441fa55d404afa8e4c"), looks := false }, kinds := [], alts := [], laidByText := true, laidKinds := [.data, .data, .data], laidTests := true, laidLooks := .later }
def CondsUnsetsCardSaid : Prop := Claim7.holds Tryz.pinned (.plain (OpenSpec.ofChange condsUnsetsSpec)) condsUnsetsCard

/-- THE TIED CARD OF 'binderylaw04.CondsSets'. -/
def condsSetsCard : Claim7 := { stood := { row := condsSetsRow, standIns := [], harness := (true, "c938857c52e0af9c1c7cb867847ad2e7546c4626506e2f441fa55d404afa8e4c"), looks := false }, kinds := [], alts := [], laidByText := true, laidKinds := [.data, .data, .data], laidTests := true, laidLooks := .later }
def CondsSetsCardSaid : Prop := Claim7.holds Tryz.pinned (.plain (OpenSpec.ofChange condsSetsSpec)) condsSetsCard

/-- THE TIED CARD OF 'binderylaw04.CondsFills'. -/
def condsFillsCard : Claim7 := { stood := { row := condsFillsRow, standIns := [], harness := (true, "c938857c52e0af9c1c7cb867847ad2e7546c4626506e2f441fa55d404afa8e4c"), looks := false }, kinds := [], alts := [], laidByText := true, laidKinds := [.data, .data, .data], laidTests := true, laidLooks := .later }
def CondsFillsCardSaid : Prop := Claim7.holds Tryz.pinned (.plain (OpenSpec.ofChange condsFillsSpec)) condsFillsCard

/-- THE SECOND FORM's CARD OF 'binderylaw04.CondsUnsets'. -/
def condsUnsetsUptoCard : Claim7 := { stood := { row := condsUnsetsUptoRow, standIns := [], harness := (true, "c938857c52e0af9c1c7cb867847ad2e7546c4626506e2f441fa55d404afa8e4c"), looks := false }, kinds := [], alts := [], laidByText := true, laidKinds := [.data, .data, .data], laidTests := true, laidLooks := .later }
def CondsUnsetsUptoCardSaid : Prop := Claim7.holds Tryz.pinned (.plain (OpenSpec.upto condsUnsetsSpec)) condsUnsetsUptoCard

/-- THE SECOND FORM's CARD OF 'binderylaw04.CondsSets'. -/
def condsSetsUptoCard : Claim7 := { stood := { row := condsSetsUptoRow, standIns := [], harness := (true, "c938857c52e0af9c1c7cb867847ad2e7546c4626506e2f441fa55d404afa8e4c"), looks := false }, kinds := [], alts := [], laidByText := true, laidKinds := [.data, .data, .data], laidTests := true, laidLooks := .later }
def CondsSetsUptoCardSaid : Prop := Claim7.holds Tryz.pinned (.plain (OpenSpec.upto condsSetsSpec)) condsSetsUptoCard

/-- THE SECOND FORM's CARD OF 'binderylaw04.CondsFills'. -/
def condsFillsUptoCard : Claim7 := { stood := { row := condsFillsUptoRow, standIns := [], harness := (true, "c938857c52e0af9c1c7cb867847ad2e7546c4626506e2f441fa55d404afa8e4c"), looks := false }, kinds := [], alts := [], laidByText := true, laidKinds := [.data, .data, .data], laidTests := true, laidLooks := .later }
def CondsFillsUptoCardSaid : Prop := Claim7.holds Tryz.pinned (.plain (OpenSpec.upto condsFillsSpec)) condsFillsUptoCard
end Rows
end Go.Proofs.YtgikmippclcimaaGreatDoor
