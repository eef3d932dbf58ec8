/- The closed facts of the row of SchemaFinds, in parts. -/
import Derived.Test.YtdomhnkffghmlaaGreatDoorSXTop
set_option maxRecDepth 100000
namespace Go.Proofs.YtdomhnkffghmlaaGreatDoor
open Go.Am Go.Ex Go.ChangeShapes Go.WideShapes Go.ChangeAt Go.RowKit
theorem schemaFinds_inPlace : (Rows.schemaFindsUptoRow.inPlace == Tryz.prog.inPlace 3) = true := by kernel_rfl
end Go.Proofs.YtdomhnkffghmlaaGreatDoor
namespace Go.Proofs.YtdomhnkffghmlaaGreatDoor
open Go.Am Go.Ex Go.ChangeShapes Go.WideShapes Go.ChangeAt Go.RowKit
theorem schemaFinds_unfollowed : (Rows.schemaFindsUptoRow.unfollowed == Tryz.prog.unfollowed 3) = true := by kernel_rfl
end Go.Proofs.YtdomhnkffghmlaaGreatDoor
