/-
  DERIVED. GIVEN WITH THE SEED: THE CARDS: each row of YtopgndakadileaaGreatDoorRows.lean that lists a variable, with what it lists TIED to the program's text (the seventh form; the later family's looks); each row that meets fmt, with fmt's text TOLD by the authors' own Lean function (tested against real Go, not proved from fmt's source: count such statements apart). THE CARD IS WHAT COUNTS. Prove the row's statement (the work); the ties are given (YtopgndakadileaaGreatDoorTie.lean); close each card by the builder's one call (the guide's Derived/Test/ToyasCard.lean, 'card_holds'). Laid BY PROGRAM, IN A SANDBOX (cutbox-door.mjs). By AI agents, Wed Nov 11 2026. No macro, syntax, notation, axiom, sorry.
-/
import Derived.Test.YtopgndakadileaaGreatDoorRows
import GoSem.ClaimSeven
namespace Go.Proofs.YtopgndakadileaaGreatDoor
namespace Rows

/-- THE TIED CARD OF 'bureaulaw16.ExprParses'. -/
def exprParsesCard : Claim7 := { stood := { row := exprParsesRow, standIns := [], harness := (true, "1e54d82fca9b1c33d0ded7d3eb9471a834e48cb9d131781d4bf0674474a4fff5"), looks := true }, kinds := [], alts := [], laidByText := true, laidKinds := [.data, .data, .data, .data, .sentinel, .sentinel, .pinned, .pinned], laidTests := true, laidLooks := .later }
def ExprParsesCardSaid : Prop := Claim7.holds Tryz.pinned (.plain (OpenSpec.ofChange exprParsesSpec)) exprParsesCard

/-- THE TIED CARD OF 'bureaulaw16.ExprPrints'. -/
def exprPrintsCard : Claim7 := { stood := { row := exprPrintsRow, standIns := [], harness := (true, "1e54d82fca9b1c33d0ded7d3eb9471a834e48cb9d131781d4bf0674474a4fff5"), looks := true }, kinds := [], alts := [], laidByText := true, laidKinds := [.data, .data, .data, .data, .sentinel, .sentinel, .pinned, .pinned], laidTests := true, laidLooks := .later }
def ExprPrintsCardSaid : Prop := Claim7.holds Tryz.pinned (.plain (OpenSpec.ofChange exprPrintsSpec)) exprPrintsCard

/-- THE TIED CARD OF 'bureaulaw16.ExprPrintsSelect'. -/
def exprPrintsSelectCard : Claim7 := { stood := { row := exprPrintsSelectRow, standIns := [], harness := (true, "1e54d82fca9b1c33d0ded7d3eb9471a834e48cb9d131781d4bf0674474a4fff5"), looks := true }, kinds := [], alts := [], laidByText := true, laidKinds := [.data, .data, .data, .data, .sentinel, .sentinel, .pinned, .pinned], laidTests := true, laidLooks := .later }
def ExprPrintsSelectCardSaid : Prop := Claim7.holds Tryz.pinned (.plain (OpenSpec.ofChange exprPrintsSelectSpec)) exprPrintsSelectCard

/-- THE TIED CARD OF 'bureaulaw16.ExprSelects'. -/
def exprSelectsCard : Claim7 := { stood := { row := exprSelectsRow, standIns := [], harness := (true, "1e54d82fca9b1c33d0ded7d3eb9471a834e48cb9d131781d4bf0674474a4fff5"), looks := true }, kinds := [], alts := [], laidByText := true, laidKinds := [.data, .data, .data, .data, .sentinel, .sentinel, .pinned, .pinned], laidTests := true, laidLooks := .later }
def ExprSelectsCardSaid : Prop := Claim7.holds Tryz.pinned (.plain (OpenSpec.ofChange exprSelectsSpec)) exprSelectsCard

/-- THE TIED CARD OF 'bureaulaw16.ExprRound'. -/
def exprRoundCard : Claim7 := { stood := { row := exprRoundRow, standIns := [], harness := (true, "1e54d82fca9b1c33d0ded7d3eb9471a834e48cb9d131781d4bf0674474a4fff5"), looks := true }, kinds := [], alts := [], laidByText := true, laidKinds := [.data, .data, .data, .data, .sentinel, .sentinel, .pinned, .pinned], laidTests := true, laidLooks := .later }
def ExprRoundCardSaid : Prop := Claim7.holds Tryz.pinned (.plain (OpenSpec.ofChange exprRoundSpec)) exprRoundCard

/-- THE TIED CARD OF 'bureaulaw16.ExprBrackets'. -/
def exprBracketsCard : Claim7 := { stood := { row := exprBracketsRow, standIns := [], harness := (true, "1e54d82fca9b1c33d0ded7d3eb9471a834e48cb9d131781d4bf0674474a4fff5"), looks := true }, kinds := [], alts := [], laidByText := true, laidKinds := [.data, .data, .data, .data, .sentinel, .sentinel, .pinned, .pinned], laidTests := true, laidLooks := .later }
def ExprBracketsCardSaid : Prop := Claim7.holds Tryz.pinned (.plain (OpenSpec.ofChange exprBracketsSpec)) exprBracketsCard

/-- THE TIED CARD OF 'bureaulaw16.ExprTells'. -/
def exprTellsCard : Claim7 := { stood := { row := exprTellsRow, standIns := [], harness := (true, "1e54d82fca9b1c33d0ded7d3eb9471a834e48cb9d131781d4bf0674474a4fff5"), looks := true }, kinds := [], alts := [], laidByText := true, laidKinds := [.data, .data, .data, .data, .sentinel, .sentinel, .pinned, .pinned], laidTests := true, laidLooks := .later }
def ExprTellsCardSaid : Prop := Claim7.holds Tryz.pinned (.plain (OpenSpec.ofChange exprTellsSpec)) exprTellsCard

/-- THE TIED CARD OF 'bureaulaw16.ExprSame'. -/
def exprSameCard : Claim7 := { stood := { row := exprSameRow, standIns := [], harness := (true, "1e54d82fca9b1c33d0ded7d3eb9471a834e48cb9d131781d4bf0674474a4fff5"), looks := true }, kinds := [], alts := [], laidByText := true, laidKinds := [.data, .data, .data, .data, .sentinel, .sentinel, .pinned, .pinned], laidTests := true, laidLooks := .later }
def ExprSameCardSaid : Prop := Claim7.holds Tryz.pinned (.plain (OpenSpec.ofChange exprSameSpec)) exprSameCard

/-- THE TIED CARD OF 'bureaulaw16.ExprAgain'. -/
def exprAgainCard : Claim7 := { stood := { row := exprAgainRow, standIns := [], harness := (true, "1e54d82fca9b1c33d0ded7d3eb9471a834e48cb9d131781d4bf0674474a4fff5"), looks := true }, kinds := [], alts := [], laidByText := true, laidKinds := [.data, .data, .data, .data, .sentinel, .sentinel, .pinned, .pinned], laidTests := true, laidLooks := .later }
def ExprAgainCardSaid : Prop := Claim7.holds Tryz.pinned (.plain (OpenSpec.ofChange exprAgainSpec)) exprAgainCard

/-- THE TIED CARD OF 'bureaulaw16.ExprRoundSelect'. -/
def exprRoundSelectCard : Claim7 := { stood := { row := exprRoundSelectRow, standIns := [], harness := (true, "1e54d82fca9b1c33d0ded7d3eb9471a834e48cb9d131781d4bf0674474a4fff5"), looks := true }, kinds := [], alts := [], laidByText := true, laidKinds := [.data, .data, .data, .data, .sentinel, .sentinel, .pinned, .pinned], laidTests := true, laidLooks := .later }
def ExprRoundSelectCardSaid : Prop := Claim7.holds Tryz.pinned (.plain (OpenSpec.ofChange exprRoundSelectSpec)) exprRoundSelectCard

/-- THE SECOND FORM's CARD OF 'bureaulaw16.ExprParses'. -/
def exprParsesUptoCard : Claim7 := { stood := { row := exprParsesUptoRow, standIns := [], harness := (true, "1e54d82fca9b1c33d0ded7d3eb9471a834e48cb9d131781d4bf0674474a4fff5"), looks := true }, kinds := [], alts := [], laidByText := true, laidKinds := [.data, .data, .data, .data, .sentinel, .sentinel, .pinned, .pinned], laidTests := true, laidLooks := .later }
def ExprParsesUptoCardSaid : Prop := Claim7.holds Tryz.pinned (.plain (OpenSpec.upto exprParsesSpec)) exprParsesUptoCard

/-- THE SECOND FORM's CARD OF 'bureaulaw16.ExprPrints'. -/
def exprPrintsUptoCard : Claim7 := { stood := { row := exprPrintsUptoRow, standIns := [], harness := (true, "1e54d82fca9b1c33d0ded7d3eb9471a834e48cb9d131781d4bf0674474a4fff5"), looks := true }, kinds := [], alts := [], laidByText := true, laidKinds := [.data, .data, .data, .data, .sentinel, .sentinel, .pinned, .pinned], laidTests := true, laidLooks := .later }
def ExprPrintsUptoCardSaid : Prop := Claim7.holds Tryz.pinned (.plain (OpenSpec.upto exprPrintsSpec)) exprPrintsUptoCard

/-- THE SECOND FORM's CARD OF 'bureaulaw16.ExprPrintsSelect'. -/
def exprPrintsSelectUptoCard : Claim7 := { stood := { row := exprPrintsSelectUptoRow, standIns := [], harness := (true, "1e54d82fca9b1c33d0ded7d3eb9471a834e48cb9d131781d4bf0674474a4fff5"), looks := true }, kinds := [], alts := [], laidByText := true, laidKinds := [.data, .data, .data, .data, .sentinel, .sentinel, .pinned, .pinned], laidTests := true, laidLooks := .later }
def ExprPrintsSelectUptoCardSaid : Prop := Claim7.holds Tryz.pinned (.plain (OpenSpec.upto exprPrintsSelectSpec)) exprPrintsSelectUptoCard

/-- THE SECOND FORM's CARD OF 'bureaulaw16.ExprSelects'. -/
def exprSelectsUptoCard : Claim7 := { stood := { row := exprSelectsUptoRow, standIns := [], harness := (true, "1e54d82fca9b1c33d0ded7d3eb9471a834e48cb9d131781d4bf0674474a4fff5"), looks := true }, kinds := [], alts := [], laidByText := true, laidKinds := [.data, .data, .data, .data, .sentinel, .sentinel, .pinned, .pinned], laidTests := true, laidLooks := .later }
def ExprSelectsUptoCardSaid : Prop := Claim7.holds Tryz.pinned (.plain (OpenSpec.upto exprSelectsSpec)) exprSelectsUptoCard

/-- THE SECOND FORM's CARD OF 'bureaulaw16.ExprRound'. -/
def exprRoundUptoCard : Claim7 := { stood := { row := exprRoundUptoRow, standIns := [], harness := (true, "1e54d82fca9b1c33d0ded7d3eb9471a834e48cb9d131781d4bf0674474a4fff5"), looks := true }, kinds := [], alts := [], laidByText := true, laidKinds := [.data, .data, .data, .data, .sentinel, .sentinel, .pinned, .pinned], laidTests := true, laidLooks := .later }
def ExprRoundUptoCardSaid : Prop := Claim7.holds Tryz.pinned (.plain (OpenSpec.upto exprRoundSpec)) exprRoundUptoCard

/-- THE SECOND FORM's CARD OF 'bureaulaw16.ExprBrackets'. -/
def exprBracketsUptoCard : Claim7 := { stood := { row := exprBracketsUptoRow, standIns := [], harness := (true, "1e54d82fca9b1c33d0ded7d3eb9471a834e48cb9d131781d4bf0674474a4fff5"), looks := true }, kinds := [], alts := [], laidByText := true, laidKinds := [.data, .data, .data, .data, .sentinel, .sentinel, .pinned, .pinned], laidTests := true, laidLooks := .later }
def ExprBracketsUptoCardSaid : Prop := Claim7.holds Tryz.pinned (.plain (OpenSpec.upto exprBracketsSpec)) exprBracketsUptoCard

/-- THE SECOND FORM's CARD OF 'bureaulaw16.ExprTells'. -/
def exprTellsUptoCard : Claim7 := { stood := { row := exprTellsUptoRow, standIns := [], harness := (true, "1e54d82fca9b1c33d0ded7d3eb9471a834e48cb9d131781d4bf0674474a4fff5"), looks := true }, kinds := [], alts := [], laidByText := true, laidKinds := [.data, .data, .data, .data, .sentinel, .sentinel, .pinned, .pinned], laidTests := true, laidLooks := .later }
def ExprTellsUptoCardSaid : Prop := Claim7.holds Tryz.pinned (.plain (OpenSpec.upto exprTellsSpec)) exprTellsUptoCard

/-- THE SECOND FORM's CARD OF 'bureaulaw16.ExprSame'. -/
def exprSameUptoCard : Claim7 := { stood := { row := exprSameUptoRow, standIns := [], harness := (true, "1e54d82fca9b1c33d0ded7d3eb9471a834e48cb9d131781d4bf0674474a4fff5"), looks := true }, kinds := [], alts := [], laidByText := true, laidKinds := [.data, .data, .data, .data, .sentinel, .sentinel, .pinned, .pinned], laidTests := true, laidLooks := .later }
def ExprSameUptoCardSaid : Prop := Claim7.holds Tryz.pinned (.plain (OpenSpec.upto exprSameSpec)) exprSameUptoCard

/-- THE SECOND FORM's CARD OF 'bureaulaw16.ExprAgain'. -/
def exprAgainUptoCard : Claim7 := { stood := { row := exprAgainUptoRow, standIns := [], harness := (true, "1e54d82fca9b1c33d0ded7d3eb9471a834e48cb9d131781d4bf0674474a4fff5"), looks := true }, kinds := [], alts := [], laidByText := true, laidKinds := [.data, .data, .data, .data, .sentinel, .sentinel, .pinned, .pinned], laidTests := true, laidLooks := .later }
def ExprAgainUptoCardSaid : Prop := Claim7.holds Tryz.pinned (.plain (OpenSpec.upto exprAgainSpec)) exprAgainUptoCard

/-- THE SECOND FORM's CARD OF 'bureaulaw16.ExprRoundSelect'. -/
def exprRoundSelectUptoCard : Claim7 := { stood := { row := exprRoundSelectUptoRow, standIns := [], harness := (true, "1e54d82fca9b1c33d0ded7d3eb9471a834e48cb9d131781d4bf0674474a4fff5"), looks := true }, kinds := [], alts := [], laidByText := true, laidKinds := [.data, .data, .data, .data, .sentinel, .sentinel, .pinned, .pinned], laidTests := true, laidLooks := .later }
def ExprRoundSelectUptoCardSaid : Prop := Claim7.holds Tryz.pinned (.plain (OpenSpec.upto exprRoundSelectSpec)) exprRoundSelectUptoCard
end Rows
end Go.Proofs.YtopgndakadileaaGreatDoor
