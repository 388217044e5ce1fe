/-
  DERIVED. GIVEN WITH THE SEED: THE CARDS: each row of YtofphojcfjkjhaaDoorRows.lean that lists a variable, with what it lists TIED to the program's text (the seventh form; the later family's looks); each row that meets fmt, with fmt's text TOLD by the authors' own Lean function (tested against real Go, not proved from fmt's source: count such statements apart). THE CARD IS WHAT COUNTS. Prove the row's statement (the work); the ties are given (YtofphojcfjkjhaaDoorTie.lean); close each card by the builder's one call (the guide's Derived/Test/ToyasCard.lean, 'card_holds'). Laid BY PROGRAM, IN A SANDBOX (cutbox-door.mjs). By AI agents, Wed Nov 11 2026. No macro, syntax, notation, axiom, sorry.
-/
import Derived.Test.YtofphojcfjkjhaaDoorRows
import GoSem.ClaimSeven
namespace Go.Proofs.YtofphojcfjkjhaaDoor
namespace Rows

/-- THE TIED CARD OF 'binderylaw13.SlugsOf'. -/
def slugsOfCard : Claim7 := { stood := { row := slugsOfRow, standIns := [], harness := (true, "9547d94b64d891c9df5de90aed1e5ea879f464bcaf3c0b688a06fa180d091dd2"), looks := false }, kinds := [], alts := [], laidByText := true, laidKinds := [.data, .pinned], laidTests := true, laidLooks := .later }
def SlugsOfCardSaid : Prop := Claim7.holds Tryd.pinned (.plain (OpenSpec.ofChange slugsOfSpec)) slugsOfCard

/-- THE TIED CARD OF 'binderylaw13.SlugsAgain'. -/
def slugsAgainCard : Claim7 := { stood := { row := slugsAgainRow, standIns := [], harness := (true, "9547d94b64d891c9df5de90aed1e5ea879f464bcaf3c0b688a06fa180d091dd2"), looks := false }, kinds := [], alts := [], laidByText := true, laidKinds := [.data, .data, .data, .data, .pinned], laidTests := true, laidLooks := .later }
def SlugsAgainCardSaid : Prop := Claim7.holds Tryd.pinned (.plain (OpenSpec.ofChange slugsAgainSpec)) slugsAgainCard

/-- THE TIED CARD OF 'binderylaw13.SlugsSigns'. -/
def slugsSignsCard : Claim7 := { stood := { row := slugsSignsRow, standIns := [], harness := (true, "9547d94b64d891c9df5de90aed1e5ea879f464bcaf3c0b688a06fa180d091dd2"), looks := false }, kinds := [], alts := [], laidByText := true, laidKinds := [.data, .data, .data, .data, .pinned], laidTests := true, laidLooks := .later }
def SlugsSignsCardSaid : Prop := Claim7.holds Tryd.pinned (.plain (OpenSpec.ofChange slugsSignsSpec)) slugsSignsCard

/-- THE TIED CARD OF 'binderylaw13.SlugsPlain'. -/
def slugsPlainCard : Claim7 := { stood := { row := slugsPlainRow, standIns := [], harness := (true, "9547d94b64d891c9df5de90aed1e5ea879f464bcaf3c0b688a06fa180d091dd2"), looks := false }, kinds := [], alts := [], laidByText := true, laidKinds := [.data, .data, .data, .data, .pinned], laidTests := true, laidLooks := .later }
def SlugsPlainCardSaid : Prop := Claim7.holds Tryd.pinned (.plain (OpenSpec.ofChange slugsPlainSpec)) slugsPlainCard

/-- THE TIED CARD OF 'binderylaw13.SlugsApart'. -/
def slugsApartCard : Claim7 := { stood := { row := slugsApartRow, standIns := [], harness := (true, "9547d94b64d891c9df5de90aed1e5ea879f464bcaf3c0b688a06fa180d091dd2"), looks := false }, kinds := [], alts := [], laidByText := true, laidKinds := [.data, .data, .data, .data, .pinned], laidTests := true, laidLooks := .later }
def SlugsApartCardSaid : Prop := Claim7.holds Tryd.pinned (.plain (OpenSpec.ofChange slugsApartSpec)) slugsApartCard

/-- THE TIED CARD OF 'binderylaw13.SlugsMany'. -/
def slugsManyCard : Claim7 := { stood := { row := slugsManyRow, standIns := [], harness := (true, "9547d94b64d891c9df5de90aed1e5ea879f464bcaf3c0b688a06fa180d091dd2"), looks := false }, kinds := [], alts := [], laidByText := true, laidKinds := [.data, .data, .data, .data, .pinned], laidTests := true, laidLooks := .later }
def SlugsManyCardSaid : Prop := Claim7.holds Tryd.pinned (.plain (OpenSpec.ofChange slugsManySpec)) slugsManyCard

/-- THE SECOND FORM's CARD OF 'binderylaw13.SlugsOf'. -/
def slugsOfUptoCard : Claim7 := { stood := { row := slugsOfUptoRow, standIns := [], harness := (true, "9547d94b64d891c9df5de90aed1e5ea879f464bcaf3c0b688a06fa180d091dd2"), looks := false }, kinds := [], alts := [], laidByText := true, laidKinds := [.data, .pinned], laidTests := true, laidLooks := .later }
def SlugsOfUptoCardSaid : Prop := Claim7.holds Tryd.pinned (.plain (OpenSpec.upto slugsOfSpec)) slugsOfUptoCard

/-- THE SECOND FORM's CARD OF 'binderylaw13.SlugsAgain'. -/
def slugsAgainUptoCard : Claim7 := { stood := { row := slugsAgainUptoRow, standIns := [], harness := (true, "9547d94b64d891c9df5de90aed1e5ea879f464bcaf3c0b688a06fa180d091dd2"), looks := false }, kinds := [], alts := [], laidByText := true, laidKinds := [.data, .data, .data, .data, .pinned], laidTests := true, laidLooks := .later }
def SlugsAgainUptoCardSaid : Prop := Claim7.holds Tryd.pinned (.plain (OpenSpec.upto slugsAgainSpec)) slugsAgainUptoCard

/-- THE SECOND FORM's CARD OF 'binderylaw13.SlugsSigns'. -/
def slugsSignsUptoCard : Claim7 := { stood := { row := slugsSignsUptoRow, standIns := [], harness := (true, "9547d94b64d891c9df5de90aed1e5ea879f464bcaf3c0b688a06fa180d091dd2"), looks := false }, kinds := [], alts := [], laidByText := true, laidKinds := [.data, .data, .data, .data, .pinned], laidTests := true, laidLooks := .later }
def SlugsSignsUptoCardSaid : Prop := Claim7.holds Tryd.pinned (.plain (OpenSpec.upto slugsSignsSpec)) slugsSignsUptoCard

/-- THE SECOND FORM's CARD OF 'binderylaw13.SlugsPlain'. -/
def slugsPlainUptoCard : Claim7 := { stood := { row := slugsPlainUptoRow, standIns := [], harness := (true, "9547d94b64d891c9df5de90aed1e5ea879f464bcaf3c0b688a06fa180d091dd2"), looks := false }, kinds := [], alts := [], laidByText := true, laidKinds := [.data, .data, .data, .data, .pinned], laidTests := true, laidLooks := .later }
def SlugsPlainUptoCardSaid : Prop := Claim7.holds Tryd.pinned (.plain (OpenSpec.upto slugsPlainSpec)) slugsPlainUptoCard

/-- THE SECOND FORM's CARD OF 'binderylaw13.SlugsApart'. -/
def slugsApartUptoCard : Claim7 := { stood := { row := slugsApartUptoRow, standIns := [], harness := (true, "9547d94b64d891c9df5de90aed1e5ea879f464bcaf3c0b688a06fa180d091dd2"), looks := false }, kinds := [], alts := [], laidByText := true, laidKinds := [.data, .data, .data, .data, .pinned], laidTests := true, laidLooks := .later }
def SlugsApartUptoCardSaid : Prop := Claim7.holds Tryd.pinned (.plain (OpenSpec.upto slugsApartSpec)) slugsApartUptoCard

/-- THE SECOND FORM's CARD OF 'binderylaw13.SlugsMany'. -/
def slugsManyUptoCard : Claim7 := { stood := { row := slugsManyUptoRow, standIns := [], harness := (true, "9547d94b64d891c9df5de90aed1e5ea879f464bcaf3c0b688a06fa180d091dd2"), looks := false }, kinds := [], alts := [], laidByText := true, laidKinds := [.data, .data, .data, .data, .pinned], laidTests := true, laidLooks := .later }
def SlugsManyUptoCardSaid : Prop := Claim7.holds Tryd.pinned (.plain (OpenSpec.upto slugsManySpec)) slugsManyUptoCard
end Rows
end Go.Proofs.YtofphojcfjkjhaaDoor
