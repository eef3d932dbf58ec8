/- The closed facts of the row of SchemaFinds, in parts. -/
import Derived.Test.YtdomhnkffghmlaaGreatDoorSXTop
import Derived.Test.YtdomhnkffghmlaaGreatDoorS17
import Derived.Test.YtdomhnkffghmlaaGreatDoorS20
import Derived.Test.YtdomhnkffghmlaaGreatDoorS21
set_option maxRecDepth 100000
namespace Go.Proofs.YtdomhnkffghmlaaGreatDoor
open Go.Am Go.Ex Go.ChangeShapes Go.WideShapes Go.ChangeAt Go.RowKit
theorem schemaFinds_recurses : (Rows.schemaFindsUptoRow.recurses == Tryz.prog.recurses 3) = true := by kernel_rfl
end Go.Proofs.YtdomhnkffghmlaaGreatDoor
namespace Go.Proofs.YtdomhnkffghmlaaGreatDoor
open Go.Am Go.Ex Go.ChangeShapes Go.WideShapes Go.ChangeAt Go.RowKit
theorem schemaFinds_named : (Rows.schemaFindsUptoRow.named == Tryz.prog.varsNamed 3) = true := by kernel_rfl
end Go.Proofs.YtdomhnkffghmlaaGreatDoor
namespace Go.Proofs.YtdomhnkffghmlaaGreatDoor
open Go.Am Go.Ex Go.ChangeShapes Go.WideShapes Go.ChangeAt Go.RowKit
theorem schemaFinds_and {a b : Bool} (ha : a = true) (hb : b = true) : (a && b) = true := by rw [ha, hb]; rfl
theorem schemaFinds_closed : joinedFacts Tryz.prog 3 Tryz.f3 (Rows.OpenSpec.upto Rows.schemaFindsSpec).bare Rows.schemaFindsUptoRow = true := by
 unfold joinedFacts
 repeat' (with_reducible refine schemaFinds_and ?_ ?_)
 all_goals first | (with_reducible exact schemaFinds_k0) | (with_reducible exact laidOut) | (with_reducible exact schemaFinds_k2) | (with_reducible exact schemaFinds_k3) | (with_reducible exact schemaFinds_k4) | (with_reducible exact schemaFinds_k5) | (with_reducible exact schemaFinds_k6) | (with_reducible exact schemaFinds_k7) | (with_reducible exact schemaFinds_k8) | (with_reducible exact schemaFinds_inPlace) | (with_reducible exact schemaFinds_unfollowed) | (with_reducible exact schemaFinds_recurses) | (with_reducible exact schemaFinds_named) | (with_reducible exact schemaFinds_k13) | (with_reducible exact schemaFinds_k14) | (with_reducible exact schemaFinds_k15) | (with_reducible exact schemaFinds_k16) | (with_reducible exact schemaFinds_k17) | (with_reducible exact schemaFinds_k18) | (with_reducible exact schemaFinds_k19) | (with_reducible exact schemaFinds_k20) | (with_reducible exact schemaFinds_k21) | (with_reducible exact schemaFinds_k22) | (with_reducible exact schemaFinds_k23) | (with_reducible exact schemaFinds_k24) | (with_reducible exact schemaFinds_k25) | (with_reducible exact schemaFinds_k26) | (with_reducible exact schemaFinds_k27) | (with_reducible exact schemaFinds_k28) | (with_reducible exact schemaFinds_k29) | (with_reducible exact schemaFinds_k30) | (with_reducible exact schemaFinds_k31) | kernel_rfl
end Go.Proofs.YtdomhnkffghmlaaGreatDoor
