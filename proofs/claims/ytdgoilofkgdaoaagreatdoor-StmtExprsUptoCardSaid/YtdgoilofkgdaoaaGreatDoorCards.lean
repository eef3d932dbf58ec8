/-
  DERIVED. GIVEN WITH THE SEED: THE CARDS: each row of YtdgoilofkgdaoaaGreatDoorRows.lean that lists a variable, with what it lists TIED to the program's text (the seventh form; the later family's looks); each row that meets fmt, with fmt's text TOLD by the authors' own Lean function (tested against real Go, not proved from fmt's source: count such statements apart). THE CARD IS WHAT COUNTS. Prove the row's statement (the work); the ties are given (YtdgoilofkgdaoaaGreatDoorTie.lean); close each card by the builder's one call (the guide's Derived/Test/ToyasCard.lean, 'card_holds'). Laid BY PROGRAM, IN A SANDBOX (cutbox-door.mjs). By AI agents, Wed Nov 11 2026. No macro, syntax, notation, axiom, sorry.
-/
import Derived.Test.YtdgoilofkgdaoaaGreatDoorRows
import GoSem.ClaimSeven
namespace Go.Proofs.YtdgoilofkgdaoaaGreatDoor
namespace Rows

/-- THE TIED CARD OF 'bureaulaw17.StmtExprs'. -/
def stmtExprsCard : Claim7 := { stood := { row := stmtExprsRow, standIns := [], harness := (true, "b4a5ff034f7ec09b890cdac897a495e3bd356a2f55e17770da4ef893b9232d73"), looks := true }, kinds := [], alts := [], laidByText := true, laidKinds := [.data, .data, .data, .data, .sentinel, .sentinel, .pinned, .pinned], laidTests := true, laidLooks := .later }
def StmtExprsCardSaid : Prop := Claim7.holds Tryz.pinned (.plain (OpenSpec.ofChange stmtExprsSpec)) stmtExprsCard

/-- THE TIED CARD OF 'bureaulaw17.StmtTells'. -/
def stmtTellsCard : Claim7 := { stood := { row := stmtTellsRow, standIns := [], harness := (true, "b4a5ff034f7ec09b890cdac897a495e3bd356a2f55e17770da4ef893b9232d73"), looks := true }, kinds := [], alts := [], laidByText := true, laidKinds := [.data, .data, .data, .data, .sentinel, .sentinel, .pinned, .pinned], laidTests := true, laidLooks := .later }
def StmtTellsCardSaid : Prop := Claim7.holds Tryz.pinned (.plain (OpenSpec.ofChange stmtTellsSpec)) stmtTellsCard

/-- THE SECOND FORM's CARD OF 'bureaulaw17.StmtExprs'. -/
def stmtExprsUptoCard : Claim7 := { stood := { row := stmtExprsUptoRow, standIns := [], harness := (true, "b4a5ff034f7ec09b890cdac897a495e3bd356a2f55e17770da4ef893b9232d73"), looks := true }, kinds := [], alts := [], laidByText := true, laidKinds := [.data, .data, .data, .data, .sentinel, .sentinel, .pinned, .pinned], laidTests := true, laidLooks := .later }
def StmtExprsUptoCardSaid : Prop := Claim7.holds Tryz.pinned (.plain (OpenSpec.upto stmtExprsSpec)) stmtExprsUptoCard

/-- THE SECOND FORM's CARD OF 'bureaulaw17.StmtTells'. -/
def stmtTellsUptoCard : Claim7 := { stood := { row := stmtTellsUptoRow, standIns := [], harness := (true, "b4a5ff034f7ec09b890cdac897a495e3bd356a2f55e17770da4ef893b9232d73"), looks := true }, kinds := [], alts := [], laidByText := true, laidKinds := [.data, .data, .data, .data, .sentinel, .sentinel, .pinned, .pinned], laidTests := true, laidLooks := .later }
def StmtTellsUptoCardSaid : Prop := Claim7.holds Tryz.pinned (.plain (OpenSpec.upto stmtTellsSpec)) stmtTellsUptoCard
end Rows
end Go.Proofs.YtdgoilofkgdaoaaGreatDoor
