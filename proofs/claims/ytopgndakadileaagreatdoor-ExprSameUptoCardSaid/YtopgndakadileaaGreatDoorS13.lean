/- The closed facts of the row of ExprSame, in parts. -/
import Derived.Test.YtopgndakadileaaGreatDoorSXTop
set_option maxRecDepth 100000
namespace Go.Proofs.YtopgndakadileaaGreatDoor
open Go.Am Go.Ex Go.ChangeShapes Go.WideShapes Go.ChangeAt Go.RowKit
theorem exprSame_inPlace : (Rows.exprSameUptoRow.inPlace == Tryz.prog.inPlace 10) = true := by kernel_rfl
end Go.Proofs.YtopgndakadileaaGreatDoor
namespace Go.Proofs.YtopgndakadileaaGreatDoor
open Go.Am Go.Ex Go.ChangeShapes Go.WideShapes Go.ChangeAt Go.RowKit
theorem exprSame_unfollowed : (Rows.exprSameUptoRow.unfollowed == Tryz.prog.unfollowed 10) = true := by kernel_rfl
end Go.Proofs.YtopgndakadileaaGreatDoor
