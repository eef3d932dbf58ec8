/- The closed facts of the row of StmtTells, in parts. -/
import Derived.Test.YtdgoilofkgdaoaaGreatDoorSXTop
import Derived.Test.YtdgoilofkgdaoaaGreatDoorS10
set_option maxRecDepth 100000
namespace Go.Proofs.YtdgoilofkgdaoaaGreatDoor
open Go.Am Go.Ex Go.ChangeShapes Go.WideShapes Go.ChangeAt Go.RowKit
theorem stmtTells_recurses : (Rows.stmtTellsUptoRow.recurses == Tryz.prog.recurses 4) = true := by kernel_rfl
end Go.Proofs.YtdgoilofkgdaoaaGreatDoor
namespace Go.Proofs.YtdgoilofkgdaoaaGreatDoor
open Go.Am Go.Ex Go.ChangeShapes Go.WideShapes Go.ChangeAt Go.RowKit
theorem stmtTells_named : (Rows.stmtTellsUptoRow.named == Tryz.prog.varsNamed 4) = true := by kernel_rfl
end Go.Proofs.YtdgoilofkgdaoaaGreatDoor
namespace Go.Proofs.YtdgoilofkgdaoaaGreatDoor
open Go.Am Go.Ex Go.ChangeShapes Go.WideShapes Go.ChangeAt Go.RowKit
theorem stmtTells_and {a b : Bool} (ha : a = true) (hb : b = true) : (a && b) = true := by rw [ha, hb]; rfl
theorem stmtTells_closed : joinedFacts Tryz.prog 4 Tryz.f4 (Rows.OpenSpec.upto Rows.stmtTellsSpec).bare Rows.stmtTellsUptoRow = true := by
 unfold joinedFacts
 repeat' (with_reducible refine stmtTells_and ?_ ?_)
 all_goals first | (with_reducible exact stmtTells_inPlace) | (with_reducible exact stmtTells_unfollowed) | (with_reducible exact stmtTells_recurses) | (with_reducible exact stmtTells_named) | kernel_rfl
end Go.Proofs.YtdgoilofkgdaoaaGreatDoor
