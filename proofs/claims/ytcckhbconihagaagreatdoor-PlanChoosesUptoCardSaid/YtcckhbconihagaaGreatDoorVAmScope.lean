/- A scope through which the run goes without a goto; a region that yields, alone. -/
import Derived.Test.YtcckhbconihagaaGreatDoorVAmYield
import Derived.Scope
set_option linter.unusedVariables false
set_option linter.unusedSimpArgs false
namespace Go.Am
variable {P : Program}
def scopeQ (Q : Exit → St → Prop) : Exit → St → Prop
 | .goto _, _ => False
 | e, st => Q e st
theorem AWp.scope {c : Code} {Q : Exit → St → Prop} {st : St} (h : AWp P c (scopeQ Q) st) : AWp P (.scope c) Q st := fun e a w hin =>
 wp_scope_straight (wp_mono (h e a w hin) fun x a' w' ⟨st', h1, h2⟩ => by cases x <;> first | exact ⟨st', h1, h2⟩ | exact h1.elim)
theorem YieldOk.wk {lo : Ghost} {l : Nat} {args args' : List V} {s : Heap} {R : V → Heap → Prop} (hw : WkL args args') (h : YieldOk P lo l args' s R) : YieldOk P lo l args s R :=
 fun G w cargs h1 h2 h3 => h G w cargs h1 h2 (hw.rep h3)
theorem AWp.regY1 {Q : Exit → St → Prop} {st : St} {id : Nat} {ops : Array Oper} (j : Nat) {o : Oper} {f : Operand} {args : Array Operand} {ts : Array TypeId} (hj : ops[j]? = some o) (ho : o.op = .call { callee := .value f, args := args, argTypes := ts }) (hnd : noDefer ops = true)
  (h : ∀ K : St → Prop, (∀ st, Q .normal st → K st) → aops P ops (ops.toList.take j) st (yieldAt P ops j o f args K)) : AWp P (.region id ops false) Q st := by
 refine fun e a w hin => (wpIn_wide (n := 0)).1 (wpIn_region ?_)
 have hlt : j < ops.size := (Array.getElem?_eq_some_iff.1 hj).1
 have hsplit : List.range ops.size = List.range' 0 j ++ (j :: (List.range' (j + 1) (ops.size - (j + 1)) ++ [])) := by
  have h0 := @List.range'_append_1 0 j (ops.size - (j + 1) + 1)
  rw [Nat.zero_add, show j + (ops.size - (j + 1) + 1) = ops.size by omega] at h0
  rw [List.append_nil, List.range_eq_range', ← List.range'_succ, h0]
 rw [hsplit]
 refine aopsIn (.inl rfl) hnd (e := e) (K := yieldAt P ops j o f args _) (fun a1 w1 hth => ?_) j 0 (by omega) st a w (by simpa using h _ fun _ h => h) hin
 obtain ⟨st1, ⟨hg, hdst, l, vs, R, hf, hvs, hy, hrest⟩, hin1⟩ := hth
 obtain ⟨g1, g2, g3⟩ := gdOf_wanted (all := ops) (o := o) hin1
 have hw : Region.wanted o (yielded ops a1.tmps) = true := by
  split at hg
  ·rename_i hgd; exact g1 hgd
  ·rename_i c b hgd; rw [g3 c b hgd]; simpa using hg
  ·exact hg.elim
 refine wpOpsIn_cons hj ?_
 unfold stepIn
 rw [if_pos hw]
 have hstep := yield_step (P := P) (Q := fun x a' w' => Then e (Q x) a' w') ho hf hvs hdst hy hin1
 have := stepIn_mono (P := P) (all := ops) (F := Fence.wide) (o := o) (a := a1) (w := w1) (next' := wpOpsIn Fence.wide 0 P ops (fun x a' w' => Then e (Q x) a' w') (List.range' (j + 1) (ops.size - (j + 1)) ++ [])) (by unfold stepIn; rw [if_pos hw]; exact hstep) ?_
 ·unfold stepIn at this; rw [if_pos hw] at this; exact this
 ·rintro a2 w2 ⟨_, ⟨v, s', hR, rfl⟩, hin2⟩
  refine aopsIn (.inl rfl) hnd (e := e) (K := Q .normal) (rest := []) (fun a3 w3 h3 => ?_) (ops.size - (j + 1)) (j + 1) (by omega) _ a2 w2 ?_ hin2
  ·simp only [wpOpsIn]
   obtain ⟨st3, h3, h4⟩ := h3
   exact ⟨st3, h3, h4⟩
  ·have := hrest v s' hR
   rwa [List.take_of_length_le (by simp)]
theorem AWp.regY1' {Q : Exit → St → Prop} {st : St} {id : Nat} {ops : Array Oper} (j : Nat) {d : Option Tmp} {ty : TypeId} {ps : String} {af : Array Edge} {gd : Option (Nat × Bool)} {f : Operand} {args : Array Operand} {ts : Array TypeId} (hj : ops[j]? = some { dst := d, op := .call { callee := .value f, args := args, argTypes := ts }, type := ty, pos := ps, after := af, guard := gd }) (hnd : noDefer ops = true)
  (h : ∀ K : St → Prop, (∀ st, Q .normal st → K st) → aops P ops (ops.toList.take j) st (yieldAt P ops j { dst := d, op := .call { callee := .value f, args := args, argTypes := ts }, type := ty, pos := ps, after := af, guard := gd } f args K)) : AWp P (.region id ops false) Q st :=
 AWp.regY1 j hj rfl hnd h
end Go.Am
