/- The closed facts of the row of ExprSame, in parts. -/
import Derived.Test.YtopgndakadileaaGreatDoorS13
import Derived.Test.YtopgndakadileaaGreatDoorSXExprSameJ3
import Derived.Test.YtopgndakadileaaGreatDoorSXExprSameJ4
set_option maxRecDepth 100000
namespace Go.Proofs.YtopgndakadileaaGreatDoor
open Go.Am Go.Ex Go.ChangeShapes Go.WideShapes Go.ChangeAt Go.RowKit
theorem exprSame_and {a b : Bool} (ha : a = true) (hb : b = true) : (a && b) = true := by rw [ha, hb]; rfl
theorem exprSame_closed : joinedFacts Tryz.prog 10 Tryz.f10 (Rows.OpenSpec.upto Rows.exprSameSpec).bare Rows.exprSameUptoRow = true := by
  unfold joinedFacts
  repeat' (with_reducible refine exprSame_and ?_ ?_)
  all_goals first | (with_reducible exact exprSame_inPlace) | (with_reducible exact exprSame_unfollowed) | (with_reducible exact exprSame_recurses) | (with_reducible exact exprSame_named) | kernel_rfl
end Go.Proofs.YtopgndakadileaaGreatDoor
