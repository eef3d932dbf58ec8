/- A scope through which the run goes without a goto; a region that yields, alone. -/
import Derived.Test.YtdomhnkffghmlaaGreatDoorSAmYield
import Derived.Scope
set_option linter.unusedVariables false
set_option linter.unusedSimpArgs false
namespace Go.Am
variable {P : Program}
def scopeQ (Q : Exit → St → Prop) : Exit → St → Prop
 | .goto _, _ => False
 | e, st => Q e st
theorem AWp.scope {c : Code} {Q : Exit → St → Prop} {st : St} (h : AWp P c (scopeQ Q) st) : AWp P (.scope c) Q st := fun e a w hin =>
 wp_scope_straight (wp_mono (h e a w hin) fun x a' w' h => by
  rcases h with ⟨st', h1, h2⟩ | hp
  ·cases x <;> first | exact .inl ⟨st', h1, h2⟩ | exact h1.elim
  ·cases x <;> first | exact hp.goto.elim | exact .inr hp)
theorem YieldOk.wk {lo : Ghost} {l : Nat} {args args' : List V} {s : Heap} {R : V → Heap → Prop} (hw : WkL args args') (h : YieldOk P lo l args' s R) : YieldOk P lo l args s R :=
 fun G w cargs h1 h2 h3 => h G w cargs h1 h2 (hw.rep h3)
end Go.Am
