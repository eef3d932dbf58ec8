/- What the laws' top proofs share: the witness' world; a call in abstract values as the row asks it. -/
import Derived.Test.YtcckhbconihagaaGreatDoorCards
import Derived.Test.YtcckhbconihagaaGreatDoorTie
import Derived.Test.YtcckhbconihagaaGreatDoorV8
import Derived.WalkKit
import Derived.ProofKit
import Derived.OpenShut
import Derived.Deep.DeepHandedRow
import Derived.Deep.DeepWitnessRowRef
import Derived.Lib.LaidIn
import Derived.Carry
import Derived.SevenTiedAt
set_option linter.unusedVariables false
namespace Go.Proofs.YtcckhbconihagaaGreatDoor
open Go.Am Go.Pl Go.ChangeShapes Go.WideShapes Go.ChangeAt Go.RowKit
theorem own : ownKnob Tryz.prog.godebug = none := by kernel_rfl
theorem laidOut : laidOutB Tryz.prog = true := by kernel_rfl
/-- A call in abstract values, as a call in a world of data. -/
theorem gives_calls {f : FuncId} {args : List V} {b : Bool} (h : Gives Tryz.prog f args (vbool b)) {W : World} {cargs : Array Value} (hr : RepL (G0 W) args cargs.toList) :
  Calls Tryz.prog f cargs W fun e w' => e = .returned (.bool b) ∧ Below W.heap.size W w' := by
 refine ((h H0).2 (G0 W) W cargs (hrel0 W) hr).mono ?_
 rintro e w' ⟨G', s', v, cv, rfl, hv, hx, _, rfl, rfl⟩
 cases hv
 refine ⟨rfl, hx.os, hx.tape, hx.output, hx.size, fun k hk => hx.keep k hk fun hf => ?_⟩
 rcases hf with hf | ⟨g, x, v, h1, _⟩
 ·exact hf rfl
 ·cases h1
/-- The cells of a table of numbers. -/
def litV : DataW Unit → List Value
 | .lit (.int k n) => [.int k n]
 | _ => []
def tabV : DataW Unit → List Value
 | .agg ps => ps.flatMap litV
 | _ => []
def tabV2 : DataW Unit → List Value
 | .agg ps => ps.flatMap tabV
 | _ => []
/-- The witness' world: the settled one, the two tables holding what their initialisers lay. -/
noncomputable def laidWorld (os : Os) : World :=
 let w0 := World.holding Tryz.prog os ⟨#[], #[], []⟩
 let put (h : Array Obj) (g : Nat) (cs : Array Value) : Array Obj := h.modify g fun
  | .cells _ t frozen => .cells cs t frozen
  | o => o
 { w0 with heap := put (put w0.heap 0 (tabV Rows.laid_unicode_utf8_first).toArray) 1 (tabV2 Rows.laid_unicode_utf8_acceptRanges).toArray }
theorem laid_met (os : Os) (args : Array Value) : laidMet Tryz.prog Rows.planReachUptoRow.laid ((laidWorld os).forCall (fun _ _ => 0) ⟨#[], args, []⟩).memory :=
 (LaidIn.of_run (l := Rows.planReachUptoRow.laid) [0, 1] 8 (by kernel_rfl) (by kernel_rfl) (by kernel_rfl) (by kernel_rfl)).met
end Go.Proofs.YtcckhbconihagaaGreatDoor
