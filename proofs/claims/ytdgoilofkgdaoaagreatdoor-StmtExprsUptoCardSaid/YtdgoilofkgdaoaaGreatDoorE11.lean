/- The closed facts of the row of StmtExprs, in parts. -/
import Derived.Test.YtdgoilofkgdaoaaGreatDoorEXTop
import Derived.Test.YtdgoilofkgdaoaaGreatDoorE10
set_option maxRecDepth 100000
namespace Go.Proofs.YtdgoilofkgdaoaaGreatDoor
open Go.Am Go.Ex Go.ChangeShapes Go.WideShapes Go.ChangeAt Go.RowKit
theorem stmtExprs_recurses : (Rows.stmtExprsUptoRow.recurses == Tryz.prog.recurses 3) = true := by kernel_rfl
end Go.Proofs.YtdgoilofkgdaoaaGreatDoor
namespace Go.Proofs.YtdgoilofkgdaoaaGreatDoor
open Go.Am Go.Ex Go.ChangeShapes Go.WideShapes Go.ChangeAt Go.RowKit
theorem stmtExprs_named : (Rows.stmtExprsUptoRow.named == Tryz.prog.varsNamed 3) = true := by kernel_rfl
end Go.Proofs.YtdgoilofkgdaoaaGreatDoor
namespace Go.Proofs.YtdgoilofkgdaoaaGreatDoor
open Go.Am Go.Ex Go.ChangeShapes Go.WideShapes Go.ChangeAt Go.RowKit
theorem stmtExprs_and {a b : Bool} (ha : a = true) (hb : b = true) : (a && b) = true := by rw [ha, hb]; rfl
theorem stmtExprs_closed : joinedFacts Tryz.prog 3 Tryz.f3 (Rows.OpenSpec.upto Rows.stmtExprsSpec).bare Rows.stmtExprsUptoRow = true := by
 unfold joinedFacts
 repeat' (with_reducible refine stmtExprs_and ?_ ?_)
 all_goals first | (with_reducible exact stmtExprs_inPlace) | (with_reducible exact stmtExprs_unfollowed) | (with_reducible exact stmtExprs_recurses) | (with_reducible exact stmtExprs_named) | kernel_rfl
end Go.Proofs.YtdgoilofkgdaoaaGreatDoor
