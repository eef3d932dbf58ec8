/- The closed facts of the row of ExprTells, in parts. -/
import Derived.Test.YtopgndakadileaaGreatDoorSXTop
set_option maxRecDepth 100000
namespace Go.Proofs.YtopgndakadileaaGreatDoor
open Go.Am Go.Ex Go.ChangeShapes Go.WideShapes Go.ChangeAt Go.RowKit
theorem exprTells_inPlace : (Rows.exprTellsUptoRow.inPlace == Tryz.prog.inPlace 9) = true := by kernel_rfl
end Go.Proofs.YtopgndakadileaaGreatDoor
namespace Go.Proofs.YtopgndakadileaaGreatDoor
open Go.Am Go.Ex Go.ChangeShapes Go.WideShapes Go.ChangeAt Go.RowKit
theorem exprTells_unfollowed : (Rows.exprTellsUptoRow.unfollowed == Tryz.prog.unfollowed 9) = true := by kernel_rfl
end Go.Proofs.YtopgndakadileaaGreatDoor
