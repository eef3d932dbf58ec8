/- The closed facts of the row of SchemaFinds, one by one. -/
import Derived.Test.YtdomhnkffghmlaaGreatDoorSXTop
set_option maxRecDepth 100000
namespace Go.Proofs.YtdomhnkffghmlaaGreatDoor
open Go.Am Go.Ex Go.ChangeShapes Go.WideShapes Go.ChangeAt Go.RowKit
theorem schemaFinds_k0 : (Rows.schemaFindsUptoRow.wf (OpenSpec.ofChange (Rows.OpenSpec.upto Rows.schemaFindsSpec).bare)) = true := by kernel_rfl
theorem schemaFinds_k2 : (mapsRowed Tryz.prog) = true := by kernel_rfl
theorem schemaFinds_k3 : (Tryz.f3.params.all (Tryz.prog.readableRec ·)) = true := by kernel_rfl
theorem schemaFinds_k4 : (namedTie Tryz.prog Rows.schemaFindsUptoRow.named (Rows.OpenSpec.upto Rows.schemaFindsSpec).bare.vars) = true := by kernel_rfl
theorem schemaFinds_k5 : (Rows.schemaFindsUptoRow.stops == []) = true := by kernel_rfl
theorem schemaFinds_k6 : (Tryz.prog.stops == []) = true := by kernel_rfl
theorem schemaFinds_k7 : (Rows.schemaFindsUptoRow.knobs == []) = true := by kernel_rfl
theorem schemaFinds_k8 : (Tryz.prog.stopKnobs == []) = true := by kernel_rfl
end Go.Proofs.YtdomhnkffghmlaaGreatDoor
namespace Go.Proofs.YtdomhnkffghmlaaGreatDoor
open Go.Am Go.Ex Go.ChangeShapes Go.WideShapes Go.ChangeAt Go.RowKit
theorem schemaFinds_k13 : (Rows.schemaFindsUptoRow.maps == (Tryz.f3.params.toList ++ (Rows.OpenSpec.upto Rows.schemaFindsSpec).bare.plain.varTypes Tryz.prog).any (Tryz.prog.mapsRec ·)) = true := by kernel_rfl
theorem schemaFinds_k14 : (Rows.schemaFindsUptoRow.ifaces == (Tryz.f3.params.toList ++ (Rows.OpenSpec.upto Rows.schemaFindsSpec).bare.plain.varTypes Tryz.prog).any (Tryz.prog.ifacesRec ·)) = true := by kernel_rfl
theorem schemaFinds_k15 : (Rows.schemaFindsUptoRow.mapsOut == Tryz.prog.mapsAmong Tryz.f3.resultTypes.toList) = true := by kernel_rfl
theorem schemaFinds_k16 : (Rows.schemaFindsUptoRow.loops == (Tryz.f3.params.toList ++ (Rows.OpenSpec.upto Rows.schemaFindsSpec).bare.plain.varTypes Tryz.prog).any (Tryz.prog.loopsFrom ·)) = true := by kernel_rfl
theorem schemaFinds_k17 : (Rows.schemaFindsUptoRow.wideKeys == (Tryz.f3.params.toList ++ (Rows.OpenSpec.upto Rows.schemaFindsSpec).bare.plain.varTypes Tryz.prog ++ Tryz.f3.resultTypes.toList).any (Tryz.prog.wideKeysFrom ·)) = true := by kernel_rfl
theorem schemaFinds_k18 : (Rows.OpenSpec.upto Rows.schemaFindsSpec).bare.vars.all (Tryz.prog.varReadable ·) = true := by kernel_rfl
theorem schemaFinds_k19 : (Tryz.f3.resultTypes.all (fun t => Tryz.prog.readableRec t && decide (t < Tryz.prog.types.size))) = true := by kernel_rfl
theorem schemaFinds_k20 : (Rows.schemaFindsUptoRow.ifacesOut == Tryz.f3.resultTypes.toList.any (Tryz.prog.ifacesRec ·)) = true := by kernel_rfl
end Go.Proofs.YtdomhnkffghmlaaGreatDoor
