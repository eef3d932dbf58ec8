/- What the laws' top proofs share: the witness' world; a call in abstract values as the row asks it. -/
import Derived.Test.YtdomhnkffghmlaaGreatDoorCards
import Derived.Test.YtdomhnkffghmlaaGreatDoorTie
import Derived.Test.YtdomhnkffghmlaaGreatDoorS9
import Derived.WalkKit
import Derived.ProofKit
import Derived.OpenShut
import Derived.Deep.DeepHandedRow
import Derived.Deep.DeepWitnessRowRef
import Derived.Lib.LaidIn
import Derived.Lay
import Derived.Carry
import Derived.SevenTiedAt
set_option linter.unusedVariables false
namespace Go.Proofs.YtdomhnkffghmlaaGreatDoor
open Go.Am Go.Ex Go.ChangeShapes Go.WideShapes Go.ChangeAt Go.RowKit
theorem own : ownKnob Tryz.prog.godebug = none := by kernel_rfl
theorem laidOut : laidOutB Tryz.prog = true := by kernel_rfl
/-- A call in abstract values, as a call in a world of data. -/
theorem gives_calls {f : FuncId} {args : List V} {b : Bool} (h : Gives Tryz.prog f args (vbool b)) {W : World} (hT : Go.Am.Tables W) {cargs : Array Value} (hr : RepL (G0 W) args cargs.toList) :
  Calls Tryz.prog f cargs W fun e w' => e = .returned (.bool b) ∧ Below W.heap.size W w' := by
 refine ((h H0).2 (G0 W) W cargs (hrel0 W hT) hr).mono ?_
 rintro e w' ⟨G', s', v, cv, rfl, hv, hx, _, rfl, rfl⟩
 cases hv
 refine ⟨rfl, hx.os, hx.tape, hx.output, hx.size, fun k hk => hx.keep k hk fun hf => ?_⟩
 rcases hf with hf | ⟨g, x, v, h1, _⟩
 ·exact hf rfl
 ·cases h1
/-- The witness' world: the settled one, the listed variables laid. -/
noncomputable def laidWorld (os : Os) : World := World.laidAll Tryz.prog os Rows.schemaFindsUptoRow.laid
theorem laid_met (os : Os) (args : Array Value) : laidMet Tryz.prog Rows.schemaFindsUptoRow.laid ((laidWorld os).forCall (fun _ _ => 0) ⟨#[], args, []⟩).memory :=
 laidMet_laidAll args (by kernel_rfl) (by kernel_rfl)
end Go.Proofs.YtdomhnkffghmlaaGreatDoor
