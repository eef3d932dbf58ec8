/- The closed facts of the row of ExprSame, in parts. -/
import Derived.Test.YtopgndakadileaaGreatDoorSXTop
set_option maxRecDepth 100000
namespace Go.Proofs.YtopgndakadileaaGreatDoor
open Go.Am Go.Ex Go.ChangeShapes Go.WideShapes Go.ChangeAt Go.RowKit
theorem exprSame_recurses : (Rows.exprSameUptoRow.recurses == Tryz.prog.recurses 10) = true := by kernel_rfl
end Go.Proofs.YtopgndakadileaaGreatDoor
