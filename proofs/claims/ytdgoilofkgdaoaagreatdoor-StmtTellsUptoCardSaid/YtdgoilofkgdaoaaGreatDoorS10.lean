/- The closed facts of the row of StmtTells, in parts. -/
import Derived.Test.YtdgoilofkgdaoaaGreatDoorSXTop
set_option maxRecDepth 100000
namespace Go.Proofs.YtdgoilofkgdaoaaGreatDoor
open Go.Am Go.Ex Go.ChangeShapes Go.WideShapes Go.ChangeAt Go.RowKit
theorem stmtTells_inPlace : (Rows.stmtTellsUptoRow.inPlace == Tryz.prog.inPlace 4) = true := by kernel_rfl
end Go.Proofs.YtdgoilofkgdaoaaGreatDoor
namespace Go.Proofs.YtdgoilofkgdaoaaGreatDoor
open Go.Am Go.Ex Go.ChangeShapes Go.WideShapes Go.ChangeAt Go.RowKit
theorem stmtTells_unfollowed : (Rows.stmtTellsUptoRow.unfollowed == Tryz.prog.unfollowed 4) = true := by kernel_rfl
end Go.Proofs.YtdgoilofkgdaoaaGreatDoor
