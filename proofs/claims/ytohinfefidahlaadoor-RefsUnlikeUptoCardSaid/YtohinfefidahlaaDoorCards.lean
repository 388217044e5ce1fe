/-
  DERIVED. GIVEN WITH THE SEED: THE CARDS: each row of YtohinfefidahlaaDoorRows.lean that lists a variable, with what it lists TIED to the program's text (the seventh form; the later family's looks); each row that meets fmt, with fmt's text TOLD by the authors' own Lean function (tested against real Go, not proved from fmt's source: count such statements apart). THE CARD IS WHAT COUNTS. Prove the row's statement (the work); the ties are given (YtohinfefidahlaaDoorTie.lean); close each card by the builder's one call (the guide's Derived/Test/ToyasCard.lean, 'card_holds'). Laid BY PROGRAM, IN A SANDBOX (cutbox-door.mjs). By AI agents, Wed Nov 11 2026. No macro, syntax, notation, axiom, sorry.
-/
import Derived.Test.YtohinfefidahlaaDoorRows
import GoSem.ClaimSeven
namespace Go.Proofs.YtohinfefidahlaaDoor
namespace Rows

/-- THE TIED CARD OF 'binderylaw16.RefsUnlike'. -/
def refsUnlikeCard : Claim7 := { stood := { row := refsUnlikeRow, standIns := [], harness := (true, "c5abda9bc98af30c43e01be3ef636bee3bc6f54b1c0a49594a859d240ecdc7dd"), looks := false }, kinds := [], alts := [], laidByText := true, laidKinds := [.data, .data, .data, .data, .pinned], laidTests := true, laidLooks := .later }
def RefsUnlikeCardSaid : Prop := Claim7.holds Tryd.pinned (.plain (OpenSpec.ofChange refsUnlikeSpec)) refsUnlikeCard

/-- THE TIED CARD OF 'binderylaw16.RefsNumbers'. -/
def refsNumbersCard : Claim7 := { stood := { row := refsNumbersRow, standIns := [], harness := (true, "c5abda9bc98af30c43e01be3ef636bee3bc6f54b1c0a49594a859d240ecdc7dd"), looks := false }, kinds := [], alts := [], laidByText := true, laidKinds := [.data, .data, .data, .data, .pinned], laidTests := true, laidLooks := .later }
def RefsNumbersCardSaid : Prop := Claim7.holds Tryd.pinned (.plain (OpenSpec.ofChange refsNumbersSpec)) refsNumbersCard

/-- THE TIED CARD OF 'binderylaw16.RefsLead'. -/
def refsLeadCard : Claim7 := { stood := { row := refsLeadRow, standIns := [], harness := (true, "c5abda9bc98af30c43e01be3ef636bee3bc6f54b1c0a49594a859d240ecdc7dd"), looks := false }, kinds := [], alts := [], laidByText := true, laidKinds := [.data, .data, .data, .data, .pinned], laidTests := true, laidLooks := .later }
def RefsLeadCardSaid : Prop := Claim7.holds Tryd.pinned (.plain (OpenSpec.ofChange refsLeadSpec)) refsLeadCard

/-- THE SECOND FORM's CARD OF 'binderylaw16.RefsUnlike'. -/
def refsUnlikeUptoCard : Claim7 := { stood := { row := refsUnlikeUptoRow, standIns := [], harness := (true, "c5abda9bc98af30c43e01be3ef636bee3bc6f54b1c0a49594a859d240ecdc7dd"), looks := false }, kinds := [], alts := [], laidByText := true, laidKinds := [.data, .data, .data, .data, .pinned], laidTests := true, laidLooks := .later }
def RefsUnlikeUptoCardSaid : Prop := Claim7.holds Tryd.pinned (.plain (OpenSpec.upto refsUnlikeSpec)) refsUnlikeUptoCard

/-- THE SECOND FORM's CARD OF 'binderylaw16.RefsNumbers'. -/
def refsNumbersUptoCard : Claim7 := { stood := { row := refsNumbersUptoRow, standIns := [], harness := (true, "c5abda9bc98af30c43e01be3ef636bee3bc6f54b1c0a49594a859d240ecdc7dd"), looks := false }, kinds := [], alts := [], laidByText := true, laidKinds := [.data, .data, .data, .data, .pinned], laidTests := true, laidLooks := .later }
def RefsNumbersUptoCardSaid : Prop := Claim7.holds Tryd.pinned (.plain (OpenSpec.upto refsNumbersSpec)) refsNumbersUptoCard

/-- THE SECOND FORM's CARD OF 'binderylaw16.RefsLead'. -/
def refsLeadUptoCard : Claim7 := { stood := { row := refsLeadUptoRow, standIns := [], harness := (true, "c5abda9bc98af30c43e01be3ef636bee3bc6f54b1c0a49594a859d240ecdc7dd"), looks := false }, kinds := [], alts := [], laidByText := true, laidKinds := [.data, .data, .data, .data, .pinned], laidTests := true, laidLooks := .later }
def RefsLeadUptoCardSaid : Prop := Claim7.holds Tryd.pinned (.plain (OpenSpec.upto refsLeadSpec)) refsLeadUptoCard
end Rows
end Go.Proofs.YtohinfefidahlaaDoor
