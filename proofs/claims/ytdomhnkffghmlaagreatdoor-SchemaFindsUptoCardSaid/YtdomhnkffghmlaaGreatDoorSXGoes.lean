/- No function of the program starts a goroutine: a closed fact of the card. -/
import Derived.Test.YtdomhnkffghmlaaGreatDoorSXTop
set_option maxRecDepth 100000
namespace Go.Proofs.YtdomhnkffghmlaaGreatDoor
open Go.Am Go.Ex Go.ChangeShapes Go.WideShapes Go.ChangeAt Go.RowKit
namespace schemaFinds
theorem goes_no {P : Program} (h : P.funcs.any Func.goes = false) (f : FuncId) : P.goes f = false := by
 unfold Program.goes
 rw [h, Bool.and_false, Bool.or_false, List.any_eq_false]
 intro g _
 cases e : P.funcs[g]? with
 | none => simp
 | some fn =>
  rw [Array.any_eq_false'] at h
  simpa using h fn (Array.mem_of_getElem? e)
theorem goesBy_no {P : Program} (h : P.funcs.any Func.goes = false) (c : OpenClaim) (hc : c.start = .entering) : c.goesBy P = false := by
 unfold OpenClaim.goesBy Program.goesAt Program.goesFrom
 rw [hc]
 cases P.funcNamed c.func with
 | none => rfl
 | some f => simp [goes_no h f]
theorem noGoes : Tryz.pinned.checked.prog.funcs.any Func.goes = false := by kernel_rfl
theorem card_g : false = Rows.schemaFindsUptoRow.goesBy Tryz.pinned.checked.prog := (goesBy_no noGoes Rows.schemaFindsUptoRow rfl).symm
end schemaFinds
end Go.Proofs.YtdomhnkffghmlaaGreatDoor
