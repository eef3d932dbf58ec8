/- The closed facts of the row of ExprTells, in parts. -/
import Derived.Test.YtopgndakadileaaGreatDoorSXTop
import Derived.Test.YtopgndakadileaaGreatDoorS13
set_option maxRecDepth 100000
namespace Go.Proofs.YtopgndakadileaaGreatDoor
open Go.Am Go.Ex Go.ChangeShapes Go.WideShapes Go.ChangeAt Go.RowKit
theorem exprTells_recurses : (Rows.exprTellsUptoRow.recurses == Tryz.prog.recurses 9) = true := by kernel_rfl
end Go.Proofs.YtopgndakadileaaGreatDoor
namespace Go.Proofs.YtopgndakadileaaGreatDoor
open Go.Am Go.Ex Go.ChangeShapes Go.WideShapes Go.ChangeAt Go.RowKit
theorem exprTells_named : (Rows.exprTellsUptoRow.named == Tryz.prog.varsNamed 9) = true := by kernel_rfl
end Go.Proofs.YtopgndakadileaaGreatDoor
namespace Go.Proofs.YtopgndakadileaaGreatDoor
open Go.Am Go.Ex Go.ChangeShapes Go.WideShapes Go.ChangeAt Go.RowKit
theorem exprTells_and {a b : Bool} (ha : a = true) (hb : b = true) : (a && b) = true := by rw [ha, hb]; rfl
theorem exprTells_closed : joinedFacts Tryz.prog 9 Tryz.f9 (Rows.OpenSpec.upto Rows.exprTellsSpec).bare Rows.exprTellsUptoRow = true := by
  unfold joinedFacts
  repeat' (with_reducible refine exprTells_and ?_ ?_)
  all_goals first | (with_reducible exact exprTells_inPlace) | (with_reducible exact exprTells_unfollowed) | (with_reducible exact exprTells_recurses) | (with_reducible exact exprTells_named) | kernel_rfl
end Go.Proofs.YtopgndakadileaaGreatDoor
