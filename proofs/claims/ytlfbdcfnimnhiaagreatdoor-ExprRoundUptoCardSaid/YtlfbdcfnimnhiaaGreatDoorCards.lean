/-
  DERIVED. GIVEN WITH THE SEED: THE CARDS: each row of YtlfbdcfnimnhiaaGreatDoorRows.lean that lists a variable, with what it lists TIED to the program's text (the seventh form; the later family's looks); each row that meets fmt, with fmt's text TOLD by the authors' own Lean function (tested against real Go, not proved from fmt's source: count such statements apart). THE CARD IS WHAT COUNTS. Prove the row's statement (the work); the ties are given (YtlfbdcfnimnhiaaGreatDoorTie.lean); close each card by the builder's one call (the guide's Derived/Test/ToyasCard.lean, 'card_holds'). Laid BY PROGRAM, IN A SANDBOX (cutbox-door.mjs). By AI agents, Wed Nov 11 2026. No macro, syntax, notation, axiom, sorry.
-/
import Derived.Test.YtlfbdcfnimnhiaaGreatDoorRows
import GoSem.ClaimSeven
namespace Go.Proofs.YtlfbdcfnimnhiaaGreatDoor
namespace Rows

/-- THE TIED CARD OF 'bureaulaw16.ExprRound'. -/
def exprRoundCard : Claim7 := { stood := { row := exprRoundRow, standIns := [], harness := (true, "0e4acf8a88c0825f6c41834826b045483e0ad79bcae72d23fb0537809ca947fd"), looks := true }, kinds := [], alts := [], laidByText := true, laidKinds := [.data, .data, .data, .data, .sentinel, .sentinel, .pinned, .pinned], laidTests := true, laidLooks := .later }
def ExprRoundCardSaid : Prop := Claim7.holds Tryz.pinned (.plain (OpenSpec.ofChange exprRoundSpec)) exprRoundCard

/-- THE TIED CARD OF 'bureaulaw16.ExprRoundSelect'. -/
def exprRoundSelectCard : Claim7 := { stood := { row := exprRoundSelectRow, standIns := [], harness := (true, "0e4acf8a88c0825f6c41834826b045483e0ad79bcae72d23fb0537809ca947fd"), looks := true }, kinds := [], alts := [], laidByText := true, laidKinds := [.data, .data, .data, .data, .sentinel, .sentinel, .pinned, .pinned], laidTests := true, laidLooks := .later }
def ExprRoundSelectCardSaid : Prop := Claim7.holds Tryz.pinned (.plain (OpenSpec.ofChange exprRoundSelectSpec)) exprRoundSelectCard

/-- THE SECOND FORM's CARD OF 'bureaulaw16.ExprRound'. -/
def exprRoundUptoCard : Claim7 := { stood := { row := exprRoundUptoRow, standIns := [], harness := (true, "0e4acf8a88c0825f6c41834826b045483e0ad79bcae72d23fb0537809ca947fd"), looks := true }, kinds := [], alts := [], laidByText := true, laidKinds := [.data, .data, .data, .data, .sentinel, .sentinel, .pinned, .pinned], laidTests := true, laidLooks := .later }
def ExprRoundUptoCardSaid : Prop := Claim7.holds Tryz.pinned (.plain (OpenSpec.upto exprRoundSpec)) exprRoundUptoCard

/-- THE SECOND FORM's CARD OF 'bureaulaw16.ExprRoundSelect'. -/
def exprRoundSelectUptoCard : Claim7 := { stood := { row := exprRoundSelectUptoRow, standIns := [], harness := (true, "0e4acf8a88c0825f6c41834826b045483e0ad79bcae72d23fb0537809ca947fd"), looks := true }, kinds := [], alts := [], laidByText := true, laidKinds := [.data, .data, .data, .data, .sentinel, .sentinel, .pinned, .pinned], laidTests := true, laidLooks := .later }
def ExprRoundSelectUptoCardSaid : Prop := Claim7.holds Tryz.pinned (.plain (OpenSpec.upto exprRoundSelectSpec)) exprRoundSelectUptoCard
end Rows
end Go.Proofs.YtlfbdcfnimnhiaaGreatDoor
