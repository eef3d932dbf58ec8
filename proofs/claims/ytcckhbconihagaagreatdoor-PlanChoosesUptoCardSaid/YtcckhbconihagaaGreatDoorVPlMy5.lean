/- plan.May. -/
import Derived.Test.YtcckhbconihagaaGreatDoorV3
import Derived.Test.YtcckhbconihagaaGreatDoorV11
import Derived.Test.YtcckhbconihagaaGreatDoorV7
set_option linter.unusedSimpArgs false
set_option linter.unusedVariables false
set_option maxRecDepth 100000
namespace Go.Proofs.YtcckhbconihagaaGreatDoor
open Go.Am Go.Pl
noncomputable def okA (sc : Schema) (a : Arm) : Bool := (((a.steps.length : Nat) : Int) == 0) || armOk sc a
theorem mem_w {α : Type} (f : α → Nat) : ∀ (l : List α) (x : α), x ∈ l → f x ≤ (l.map f).sum
 | y :: l, x, h => by
  rcases List.mem_cons.1 h with rfl | h
  ·simp only [List.map_cons, List.sum_cons]; omega
  ·have := mem_w f l x h; simp only [List.map_cons, List.sum_cons]; omega
theorem src_mem {a : Arm} {k : Int} (h0 : 0 ≤ k) (h1 : k < ((a.frm.length : Nat) : Int)) : a.src k ∈ a.frm := by
 have h : k.toNat < a.frm.length := by omega
 simp [Arm.src, List.getD_eq_getElem?_getD, h]
theorem flat_len {α β : Type} (f : α → List β) (w : α → Nat) (h : ∀ x, (f x).length ≤ w x) : ∀ l : List α, (l.flatMap f).length ≤ (l.map w).sum
 | [] => by simp
 | x :: l => by
  have h1 := h x; have h2 := flat_len f w h l
  simp only [List.flatMap_cons, List.length_append, List.map_cons, List.sum_cons]; omega
theorem inner_len (f : From) : (innerOn f).length ≤ f.w := by
 have := len_le Term.w_pos f.on
 rw [From.w_eq]
 unfold innerOn
 split
 ·omega
 ·simp
theorem parm_of {a : Arm} (h : a.w ≤ 137455730688) : PArm a := by
 rw [Arm.w_eq] at h
 have l1 := len_le Term.w_pos a.whr
 have l2 := len_le From.w_pos a.frm
 have l3 := len_le Step.w_pos a.steps
 have hon : ∀ k : Int, 0 ≤ k → k < ((a.frm.length : Nat) : Int) → ∀ t ∈ (a.src k).on, t.w ≤ 137455730688 := fun k h0 h1 t ht => by
  have e1 := mem_w From.w a.frm _ (src_mem h0 h1)
  have e2 := mem_w Term.w _ t ht
  rw [From.w_eq] at e1; omega
 have hstep : ∀ x ∈ a.steps, x.w ≤ 137455730688 := fun x hx => by have := mem_w Step.w a.steps x hx; omega
 have hin : (a.frm.flatMap innerOn).length ≤ 137455730688 := by have := flat_len innerOn From.w inner_len a.frm; omega
 have hall : (a.whr ++ a.frm.flatMap innerOn).length ≤ 274911461376 := by rw [List.length_append]; omega
 refine ⟨fun t ht => ?_, fun k h0 h1 t ht => ?_, fun k h0 h1 => ⟨fun t ht => ?_, ?_, hall, by omega⟩, fun k h0 h1 => ?_, fun x hx => ⟨fun e he => ?_, fun e he => ?_, fun e he => ?_, ?_⟩, fun x hx => ?_, by omega, ?_⟩
 ·have := mem_w Term.w a.whr t ht; omega
 ·have := hon k h0 h1 t ht; omega
 ·unfold usableTerms at ht
  split at ht
  ·have := hon k h0 h1 t ht; omega
  ·rcases List.mem_append.1 ht with ht | ht
   ·have := mem_w Term.w a.whr t ht; omega
   ·obtain ⟨f, hf, ht⟩ := List.mem_flatMap.1 ht
    have e1 := mem_w From.w a.frm f hf
    unfold innerOn at ht
    split at ht
    ·have e2 := mem_w Term.w _ t ht
     rw [From.w_eq] at e1; omega
    ·cases ht
 ·unfold usableTerms
  split
  ·have e1 := mem_w From.w a.frm _ (src_mem h0 h1)
   have e2 := len_le Term.w_pos (a.src k).on
   rw [From.w_eq] at e1; omega
  ·exact hall
 ·have e1 := mem_w From.w a.frm _ (src_mem h0 h1)
  rw [From.w_eq] at e1; omega
 ·have e1 := hstep x hx; rw [Step.w_eq] at e1
  have := mem_w Term.w x.eq e he; omega
 ·have e1 := hstep x hx; rw [Step.w_eq] at e1
  have := mem_w Bound.w x.low e he; omega
 ·have e1 := hstep x hx; rw [Step.w_eq] at e1
  have := mem_w Bound.w x.high e he; omega
 ·have e1 := hstep x hx; rw [Step.w_eq] at e1
  have := len_le Term.w_pos x.eq; have := len_le Bound.w_pos x.low; have := len_le Bound.w_pos x.high
  simp only [Step.path]; omega
 ·have e1 := hstep x hx; rw [Step.w_eq] at e1; omega
 ·have : ∀ l : List Step, (l.map fun x => x.whr.length).sum ≤ (l.map Step.w).sum := fun l => by
   induction l with
   | nil => simp
   | cons x l ih => have := Step.w_eq x; simp only [List.map_cons, List.sum_cons]; omega
  have := this a.steps; omega
/-- **plan.May.** -/
noncomputable def mayR (sc : Schema) (r : Resolved) : Bool := (cResolved r).all (okA sc)
end Go.Proofs.YtcckhbconihagaaGreatDoor
