/- Guards and conditions split where they stand. -/
import Derived.Test.YtcckhbconihagaaGreatDoorVAmExtra
import Derived.Test.YtcckhbconihagaaGreatDoorVAmFreeze
import Derived.Test.YtcckhbconihagaaGreatDoorVAmShort
set_option linter.unusedVariables false
namespace Go.Am
variable {P : Program} {Q : Exit → St → Prop} {st : St}
def condP (v : V) (K1 K2 : Prop) : Prop := match v with
 | .base (.bool t) => (t = true → K1) ∧ (t = false → K2)
 | _ => False
theorem AWp.condK {c : Operand} {x y : Code} (h : ∀ K1 K2 : Prop, (AWp P x Q st → K1) → (AWp P y Q st → K2) → condP (st.eval c) K1 K2) : AWp P (.cond c x y) Q st := by
 have h := h _ _ id id
 unfold condP at h
 split at h
 ·rename_i t ht
  exact AWp.cond (t := t) ht h.1 h.2
 ·exact h.elim
theorem ACalls.own1 {f : FuncId} {g sz : Nat} {es : List (List V)} {r : List V} {s : Heap} {R : V → Heap → Prop} (h : ACalls P f (.slice sz es :: r) s R) : ACalls P f (.own g sz es :: r) s R := ACalls.wk (args' := .slice sz es :: r) (h := h) ⟨Wk.own _ _ _, WkL.refl _⟩
theorem ACalls.own2 {f : FuncId} {g sz : Nat} {es : List (List V)} {a : V} {r : List V} {s : Heap} {R : V → Heap → Prop} (h : ACalls P f (a :: .slice sz es :: r) s R) : ACalls P f (a :: .own g sz es :: r) s R := ACalls.wk (args' := a :: .slice sz es :: r) (h := h) ⟨Wk.refl _, Wk.own _ _ _, WkL.refl _⟩
end Go.Am
