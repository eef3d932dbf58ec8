/- The closed facts of the row of SchemaFinds, one by one. -/
import Derived.Test.YtdomhnkffghmlaaGreatDoorSXTop
set_option maxRecDepth 100000
namespace Go.Proofs.YtdomhnkffghmlaaGreatDoor
open Go.Am Go.Ex Go.ChangeShapes Go.WideShapes Go.ChangeAt Go.RowKit
theorem schemaFinds_k21 : (Rows.schemaFindsUptoRow.loopsOut == Tryz.f3.resultTypes.toList.any (Tryz.prog.loopsFrom ·)) = true := by kernel_rfl
theorem schemaFinds_k22 : (Rows.schemaFindsUptoRow.plainKeys == Tryz.prog.plainKeys) = true := by kernel_rfl
theorem schemaFinds_k23 : (Rows.schemaFindsUptoRow.shortTexts.isNone) = true := by kernel_rfl
theorem schemaFinds_k24 : (Tryz.prog.stopsHeard) = true := by kernel_rfl
theorem schemaFinds_k25 : (Tryz.prog.mayEnter) = true := by kernel_rfl
theorem schemaFinds_k26 : (Rows.schemaFindsUptoRow.lifted == Tryz.prog.liftsFinal) = true := by kernel_rfl
theorem schemaFinds_k27 : (Tryz.prog.make == some Rows.schemaFindsUptoRow.make) = true := by kernel_rfl
theorem schemaFinds_k28 : (Rows.schemaFindsUptoRow.kinds == (if Rows.schemaFindsUptoRow.domain.isEmpty then [] else Tryz.f3.params.toList.map fun t => match Tryz.prog.underlying t with | some (.int k) => some k | _ => none)) = true := by kernel_rfl
end Go.Proofs.YtdomhnkffghmlaaGreatDoor
namespace Go.Proofs.YtdomhnkffghmlaaGreatDoor
open Go.Am Go.Ex Go.ChangeShapes Go.WideShapes Go.ChangeAt Go.RowKit
theorem schemaFinds_k29 : (Rows.schemaFindsUptoRow.pinned == Rows.schemaFindsUptoRow.pinnedBy) = true := by kernel_rfl
theorem schemaFinds_k30 : (Rows.schemaFindsUptoRow.veiled == (Tryz.f3.params.toList ++ (Rows.OpenSpec.upto Rows.schemaFindsSpec).bare.plain.varTypes Tryz.prog ++ Tryz.f3.resultTypes.toList).any (Tryz.prog.veiledRec ·)) = true := by kernel_rfl
theorem schemaFinds_k31 : (Rows.schemaFindsUptoRow.veiledFits Tryz.prog Tryz.f3.params.toList (Tryz.f3.params.toList ++ (Rows.OpenSpec.upto Rows.schemaFindsSpec).bare.plain.varTypes Tryz.prog ++ Tryz.f3.resultTypes.toList)) = true := by kernel_rfl
end Go.Proofs.YtdomhnkffghmlaaGreatDoor
