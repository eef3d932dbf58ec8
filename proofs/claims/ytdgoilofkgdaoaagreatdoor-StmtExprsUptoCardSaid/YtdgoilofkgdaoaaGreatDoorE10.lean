/- The closed facts of the row of StmtExprs, in parts. -/
import Derived.Test.YtdgoilofkgdaoaaGreatDoorEXTop
set_option maxRecDepth 100000
namespace Go.Proofs.YtdgoilofkgdaoaaGreatDoor
open Go.Am Go.Ex Go.ChangeShapes Go.WideShapes Go.ChangeAt Go.RowKit
theorem stmtExprs_inPlace : (Rows.stmtExprsUptoRow.inPlace == Tryz.prog.inPlace 3) = true := by kernel_rfl
end Go.Proofs.YtdgoilofkgdaoaaGreatDoor
namespace Go.Proofs.YtdgoilofkgdaoaaGreatDoor
open Go.Am Go.Ex Go.ChangeShapes Go.WideShapes Go.ChangeAt Go.RowKit
theorem stmtExprs_unfollowed : (Rows.stmtExprsUptoRow.unfollowed == Tryz.prog.unfollowed 3) = true := by kernel_rfl
end Go.Proofs.YtdgoilofkgdaoaaGreatDoor
