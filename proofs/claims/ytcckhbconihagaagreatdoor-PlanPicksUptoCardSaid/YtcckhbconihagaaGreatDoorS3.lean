/- slices.Clone. -/
import Derived.Test.YtcckhbconihagaaGreatDoorSPlUse
import Derived.Test.YtcckhbconihagaaGreatDoorS10
import Derived.Test.YtcckhbconihagaaGreatDoorSAmFrame
set_option linter.unusedSimpArgs false
set_option linter.unusedVariables false
set_option maxRecDepth 100000
namespace Go.Proofs.YtcckhbconihagaaGreatDoor
open Go.Am Go.Pl

theorem f52_spec (es : List (List V)) (hl : es.length ≤ 550024249344) : Gives Tryz.prog 52 [.slice 1 es] (.slice 1 es) := by
 intro s
 cases es with
 | nil =>
  refine ACalls.empty fun ad cap => ?_
  cases ad with
  | none =>
   refine acalls_of (fn := Tryz.f52) Tryz.func52 rfl (by decide) (by show 1 ≤ 8; decide) ?_
   rw [Tryz.ntmps52]
   refine AWp.reg fun R1 hR1 => ?_
   simp only [am, seval, reduceCtorEq]
   refine hR1 _ ?_; clear hR1 R1
   refine AWp.seq_k fun K2 hK2 => ?_
   refine AWp.reg fun R3 hR3 => ?_
   simp only [ty9, ty28, am, seval, reduceCtorEq]
   refine hR3 _ ?_; clear hR3 R3
   refine AWp.cond (t := true) (by simp only [am, seval, reduceCtorEq]) (fun _ => ?_) (fun h => by cases h)
   refine AWp.reg fun R4 hR4 => ?_
   simp only [am, seval, reduceCtorEq]
   refine hR4 _ ?_; clear hR4 R4
   refine AWp.ret ?_
   refine ret_intro (vs := [.nil]) rfl (Wk.nil 1) (Heap.le.refl _) ⟨rfl, rfl⟩
  | some ad =>
   refine acalls_of (fn := Tryz.f52) Tryz.func52 rfl (by decide) (by show 1 ≤ 8; decide) ?_
   rw [Tryz.ntmps52]
   refine AWp.reg fun R1 hR1 => ?_
   simp only [am, seval, reduceCtorEq]
   refine hR1 _ ?_; clear hR1 R1
   refine AWp.seq_k fun K2 hK2 => ?_
   refine AWp.reg fun R3 hR3 => ?_
   simp only [ty9, ty28, am, seval, reduceCtorEq]
   refine hR3 _ ?_; clear hR3 R3
   refine AWp.cond (t := false) (by simp only [am, seval, reduceCtorEq]) (fun h => by cases h) (fun _ => ?_)
   refine AWp.skip ?_
   refine hK2 _ ?_; clear hK2
   refine AWp.reg fun R4 hR4 => ?_
   simp only [ty9, ty28, am, seval, reduceCtorEq]
   intro g hg
   refine hR4 _ ?_; clear hR4 R4
   refine AWp.ret ?_
   refine ret_intro (vs := [.own g 1 []]) rfl (Wk.own _ _ _) (own_drop hg _) ⟨rfl, rfl⟩
 | cons e es =>
  refine acalls_of (fn := Tryz.f52) Tryz.func52 rfl (by decide) (by show 1 ≤ 8; decide) ?_
  rw [Tryz.ntmps52]
  refine AWp.reg fun R1 hR1 => ?_
  simp only [am, seval, reduceCtorEq]
  refine hR1 _ ?_; clear hR1 R1
  refine AWp.seq_k fun K2 hK2 => ?_
  refine AWp.reg fun R3 hR3 => ?_
  simp only [ty9, ty28, am, seval, reduceCtorEq]
  refine hR3 _ ?_; clear hR3 R3
  refine AWp.cond (t := false) (by simp only [am, seval, reduceCtorEq]) (fun h => by cases h) (fun _ => ?_)
  refine AWp.skip ?_
  refine hK2 _ ?_; clear hK2
  refine AWp.reg fun R4 hR4 => ?_
  simp only [ty9, ty28, am, seval, reduceCtorEq]
  refine ⟨by simp only [List.length_cons] at hl ⊢; omega, by simp only [List.length_cons, maxLen] at hl ⊢; omega, fun g hg => ?_⟩
  refine hR4 _ ?_; clear hR4 R4
  refine AWp.ret ?_
  refine ret_intro (vs := [.own g 1 (e :: es)]) rfl (Wk.own _ _ _) (own_drop hg _) ⟨rfl, rfl⟩
theorem f73_spec (es : List (List V)) (hl : es.length ≤ 550024249344) : Gives Tryz.prog 73 [.slice 1 es] (.slice 1 es) := by
 intro s
 cases es with
 | nil =>
  refine ACalls.empty fun ad cap => ?_
  cases ad with
  | none =>
   refine acalls_of (fn := Tryz.f73) Tryz.func73 rfl (by decide) (by show 1 ≤ 8; decide) ?_
   rw [Tryz.ntmps73]
   refine AWp.reg fun R1 hR1 => ?_
   simp only [am, seval, reduceCtorEq]
   refine hR1 _ ?_; clear hR1 R1
   refine AWp.seq_k fun K2 hK2 => ?_
   refine AWp.reg fun R3 hR3 => ?_
   simp only [ty3, ty50, am, seval, reduceCtorEq]
   refine hR3 _ ?_; clear hR3 R3
   refine AWp.cond (t := true) (by simp only [am, seval, reduceCtorEq]) (fun _ => ?_) (fun h => by cases h)
   refine AWp.reg fun R4 hR4 => ?_
   simp only [am, seval, reduceCtorEq]
   refine hR4 _ ?_; clear hR4 R4
   refine AWp.ret ?_
   refine ret_intro (vs := [.nil]) rfl (Wk.nil 1) (Heap.le.refl _) ⟨rfl, rfl⟩
  | some ad =>
   refine acalls_of (fn := Tryz.f73) Tryz.func73 rfl (by decide) (by show 1 ≤ 8; decide) ?_
   rw [Tryz.ntmps73]
   refine AWp.reg fun R1 hR1 => ?_
   simp only [am, seval, reduceCtorEq]
   refine hR1 _ ?_; clear hR1 R1
   refine AWp.seq_k fun K2 hK2 => ?_
   refine AWp.reg fun R3 hR3 => ?_
   simp only [ty3, ty50, am, seval, reduceCtorEq]
   refine hR3 _ ?_; clear hR3 R3
   refine AWp.cond (t := false) (by simp only [am, seval, reduceCtorEq]) (fun h => by cases h) (fun _ => ?_)
   refine AWp.skip ?_
   refine hK2 _ ?_; clear hK2
   refine AWp.reg fun R4 hR4 => ?_
   simp only [ty3, ty50, am, seval, reduceCtorEq]
   intro g hg
   refine hR4 _ ?_; clear hR4 R4
   refine AWp.ret ?_
   refine ret_intro (vs := [.own g 1 []]) rfl (Wk.own _ _ _) (own_drop hg _) ⟨rfl, rfl⟩
 | cons e es =>
  refine acalls_of (fn := Tryz.f73) Tryz.func73 rfl (by decide) (by show 1 ≤ 8; decide) ?_
  rw [Tryz.ntmps73]
  refine AWp.reg fun R1 hR1 => ?_
  simp only [am, seval, reduceCtorEq]
  refine hR1 _ ?_; clear hR1 R1
  refine AWp.seq_k fun K2 hK2 => ?_
  refine AWp.reg fun R3 hR3 => ?_
  simp only [ty3, ty50, am, seval, reduceCtorEq]
  refine hR3 _ ?_; clear hR3 R3
  refine AWp.cond (t := false) (by simp only [am, seval, reduceCtorEq]) (fun h => by cases h) (fun _ => ?_)
  refine AWp.skip ?_
  refine hK2 _ ?_; clear hK2
  refine AWp.reg fun R4 hR4 => ?_
  simp only [ty3, ty50, am, seval, reduceCtorEq]
  refine ⟨by simp only [List.length_cons] at hl ⊢; omega, by simp only [List.length_cons, maxLen] at hl ⊢; omega, fun g hg => ?_⟩
  refine hR4 _ ?_; clear hR4 R4
  refine AWp.ret ?_
  refine ret_intro (vs := [.own g 1 (e :: es)]) rfl (Wk.own _ _ _) (own_drop hg _) ⟨rfl, rfl⟩
theorem f84_spec (es : List (List V)) (hl : es.length ≤ 550024249344) : Gives Tryz.prog 84 [.slice 3 es] (.slice 3 es) := by
 intro s
 cases es with
 | nil =>
  refine ACalls.empty fun ad cap => ?_
  cases ad with
  | none =>
   refine acalls_of (fn := Tryz.f84) Tryz.func84 rfl (by decide) (by show 1 ≤ 8; decide) ?_
   rw [Tryz.ntmps84]
   refine AWp.reg fun R1 hR1 => ?_
   simp only [am, seval, reduceCtorEq]
   refine hR1 _ ?_; clear hR1 R1
   refine AWp.seq_k fun K2 hK2 => ?_
   refine AWp.reg fun R3 hR3 => ?_
   simp only [ty30, ty118, teq118, am, seval, reduceCtorEq]
   refine hR3 _ ?_; clear hR3 R3
   refine AWp.cond (t := true) (by simp only [am, seval, reduceCtorEq]) (fun _ => ?_) (fun h => by cases h)
   refine AWp.reg fun R4 hR4 => ?_
   simp only [am, seval, reduceCtorEq]
   refine hR4 _ ?_; clear hR4 R4
   refine AWp.ret ?_
   refine ret_intro (vs := [.nil]) rfl (Wk.nil 3) (Heap.le.refl _) ⟨rfl, rfl⟩
  | some ad =>
   refine acalls_of (fn := Tryz.f84) Tryz.func84 rfl (by decide) (by show 1 ≤ 8; decide) ?_
   rw [Tryz.ntmps84]
   refine AWp.reg fun R1 hR1 => ?_
   simp only [am, seval, reduceCtorEq]
   refine hR1 _ ?_; clear hR1 R1
   refine AWp.seq_k fun K2 hK2 => ?_
   refine AWp.reg fun R3 hR3 => ?_
   simp only [ty30, ty118, teq118, am, seval, reduceCtorEq]
   refine hR3 _ ?_; clear hR3 R3
   refine AWp.cond (t := false) (by simp only [am, seval, reduceCtorEq]) (fun h => by cases h) (fun _ => ?_)
   refine AWp.skip ?_
   refine hK2 _ ?_; clear hK2
   refine AWp.reg fun R4 hR4 => ?_
   simp only [ty30, ty118, teq118, am, seval, reduceCtorEq]
   intro g hg
   refine hR4 _ ?_; clear hR4 R4
   refine AWp.ret ?_
   refine ret_intro (vs := [.own g 3 []]) rfl (Wk.own _ _ _) (own_drop hg _) ⟨rfl, rfl⟩
 | cons e es =>
  refine acalls_of (fn := Tryz.f84) Tryz.func84 rfl (by decide) (by show 1 ≤ 8; decide) ?_
  rw [Tryz.ntmps84]
  refine AWp.reg fun R1 hR1 => ?_
  simp only [am, seval, reduceCtorEq]
  refine hR1 _ ?_; clear hR1 R1
  refine AWp.seq_k fun K2 hK2 => ?_
  refine AWp.reg fun R3 hR3 => ?_
  simp only [ty30, ty118, teq118, am, seval, reduceCtorEq]
  refine hR3 _ ?_; clear hR3 R3
  refine AWp.cond (t := false) (by simp only [am, seval, reduceCtorEq]) (fun h => by cases h) (fun _ => ?_)
  refine AWp.skip ?_
  refine hK2 _ ?_; clear hK2
  refine AWp.reg fun R4 hR4 => ?_
  simp only [ty30, ty118, teq118, am, seval, reduceCtorEq]
  refine ⟨by simp only [List.length_cons] at hl ⊢; omega, by simp only [List.length_cons, maxLen] at hl ⊢; omega, fun g hg => ?_⟩
  refine hR4 _ ?_; clear hR4 R4
  refine AWp.ret ?_
  refine ret_intro (vs := [.own g 3 (e :: es)]) rfl (Wk.own _ _ _) (own_drop hg _) ⟨rfl, rfl⟩
end Go.Proofs.YtcckhbconihagaaGreatDoor
set_option linter.unusedSimpArgs false
set_option linter.unusedVariables false
set_option maxRecDepth 100000
namespace Go.Proofs.YtcckhbconihagaaGreatDoor
open Go.Am Go.Pl

theorem f73_own (es : List (List V)) (hl : es.length ≤ 550024249344) (s : Heap) : ACalls Tryz.prog 73 [.slice 1 es] s fun v s' => ∃ g, s.own g = none ∧ v = .own g 1 es ∧ s' = s.setOwn g (some (3, 1)) := by
 cases es with
 | nil =>
  refine ACalls.empty fun ad cap => ?_
  cases ad with
  | none =>
   refine acalls_of (fn := Tryz.f73) Tryz.func73 rfl (by decide) (by show 1 ≤ 8; decide) ?_
   rw [Tryz.ntmps73]
   refine AWp.reg fun R1 hR1 => ?_
   simp only [am, seval, reduceCtorEq]
   refine hR1 _ ?_; clear hR1 R1
   refine AWp.seq_k fun K2 hK2 => ?_
   refine AWp.reg fun R3 hR3 => ?_
   simp only [ty3, ty50, am, seval, reduceCtorEq]
   refine hR3 _ ?_; clear hR3 R3
   refine AWp.cond (t := true) (by simp only [am, seval, reduceCtorEq]) (fun _ => ?_) (fun h => by cases h)
   refine AWp.reg fun R4 hR4 => ?_
   simp only [am, seval, reduceCtorEq]
   refine hR4 _ ?_; clear hR4 R4
   refine AWp.adoptE 2 (3, 1) (.inl (by simp only [am, seval, reduceCtorEq])) fun g hg => ?_
   refine AWp.ret ?_
   exact ret_intro (vs := [.own g 1 []]) rfl (Wk.refl _) (Heap.le.refl _) ⟨g, hg, rfl, rfl⟩
  | some ad =>
   refine acalls_of (fn := Tryz.f73) Tryz.func73 rfl (by decide) (by show 1 ≤ 8; decide) ?_
   rw [Tryz.ntmps73]
   refine AWp.reg fun R1 hR1 => ?_
   simp only [am, seval, reduceCtorEq]
   refine hR1 _ ?_; clear hR1 R1
   refine AWp.seq_k fun K2 hK2 => ?_
   refine AWp.reg fun R3 hR3 => ?_
   simp only [ty3, ty50, am, seval, reduceCtorEq]
   refine hR3 _ ?_; clear hR3 R3
   refine AWp.cond (t := false) (by simp only [am, seval, reduceCtorEq]) (fun h => by cases h) (fun _ => ?_)
   refine AWp.skip ?_
   refine hK2 _ ?_; clear hK2
   refine AWp.reg fun R4 hR4 => ?_
   simp only [ty3, ty50, am, seval, reduceCtorEq]
   intro g hg
   refine hR4 _ ?_; clear hR4 R4
   refine AWp.ret ?_
   exact ret_intro (vs := [.own g 1 []]) rfl (Wk.refl _) (Heap.le.refl _) ⟨g, hg, rfl, rfl⟩
 | cons e es =>
  refine acalls_of (fn := Tryz.f73) Tryz.func73 rfl (by decide) (by show 1 ≤ 8; decide) ?_
  rw [Tryz.ntmps73]
  refine AWp.reg fun R1 hR1 => ?_
  simp only [am, seval, reduceCtorEq]
  refine hR1 _ ?_; clear hR1 R1
  refine AWp.seq_k fun K2 hK2 => ?_
  refine AWp.reg fun R3 hR3 => ?_
  simp only [ty3, ty50, am, seval, reduceCtorEq]
  refine hR3 _ ?_; clear hR3 R3
  refine AWp.cond (t := false) (by simp only [am, seval, reduceCtorEq]) (fun h => by cases h) (fun _ => ?_)
  refine AWp.skip ?_
  refine hK2 _ ?_; clear hK2
  refine AWp.reg fun R4 hR4 => ?_
  simp only [ty3, ty50, am, seval, reduceCtorEq]
  refine ⟨by simp only [List.length_cons] at hl ⊢; omega, by simp only [List.length_cons, maxLen] at hl ⊢; omega, fun g hg => ?_⟩
  refine hR4 _ ?_; clear hR4 R4
  refine AWp.ret ?_
  exact ret_intro (vs := [.own g 1 (e :: es)]) rfl (Wk.refl _) (Heap.le.refl _) ⟨g, hg, rfl, rfl⟩
theorem f150_own (es : List (List V)) (hl : es.length ≤ 550024249344) (s : Heap) : ACalls Tryz.prog 150 [.slice 14 es] s fun v s' => ∃ g, s.own g = none ∧ v = .own g 14 es ∧ s' = s.setOwn g (some (49, 14)) := by
 cases es with
 | nil =>
  refine ACalls.empty fun ad cap => ?_
  cases ad with
  | none =>
   refine acalls_of (fn := Tryz.f150) Tryz.func150 rfl (by decide) (by show 1 ≤ 8; decide) ?_
   rw [Tryz.ntmps150]
   refine AWp.reg fun R1 hR1 => ?_
   simp only [am, seval, reduceCtorEq]
   refine hR1 _ ?_; clear hR1 R1
   refine AWp.seq_k fun K2 hK2 => ?_
   refine AWp.reg fun R3 hR3 => ?_
   simp only [ty31, ty49, am, seval, reduceCtorEq]
   refine hR3 _ ?_; clear hR3 R3
   refine AWp.cond (t := true) (by simp only [am, seval, reduceCtorEq]) (fun _ => ?_) (fun h => by cases h)
   refine AWp.reg fun R4 hR4 => ?_
   simp only [am, seval, reduceCtorEq]
   refine hR4 _ ?_; clear hR4 R4
   refine AWp.adoptE 2 (49, 14) (.inl (by simp only [am, seval, reduceCtorEq])) fun g hg => ?_
   refine AWp.ret ?_
   exact ret_intro (vs := [.own g 14 []]) rfl (Wk.refl _) (Heap.le.refl _) ⟨g, hg, rfl, rfl⟩
  | some ad =>
   refine acalls_of (fn := Tryz.f150) Tryz.func150 rfl (by decide) (by show 1 ≤ 8; decide) ?_
   rw [Tryz.ntmps150]
   refine AWp.reg fun R1 hR1 => ?_
   simp only [am, seval, reduceCtorEq]
   refine hR1 _ ?_; clear hR1 R1
   refine AWp.seq_k fun K2 hK2 => ?_
   refine AWp.reg fun R3 hR3 => ?_
   simp only [ty31, ty49, am, seval, reduceCtorEq]
   refine hR3 _ ?_; clear hR3 R3
   refine AWp.cond (t := false) (by simp only [am, seval, reduceCtorEq]) (fun h => by cases h) (fun _ => ?_)
   refine AWp.skip ?_
   refine hK2 _ ?_; clear hK2
   refine AWp.reg fun R4 hR4 => ?_
   simp only [ty31, ty49, am, seval, reduceCtorEq]
   intro g hg
   refine hR4 _ ?_; clear hR4 R4
   refine AWp.ret ?_
   exact ret_intro (vs := [.own g 14 []]) rfl (Wk.refl _) (Heap.le.refl _) ⟨g, hg, rfl, rfl⟩
 | cons e es =>
  refine acalls_of (fn := Tryz.f150) Tryz.func150 rfl (by decide) (by show 1 ≤ 8; decide) ?_
  rw [Tryz.ntmps150]
  refine AWp.reg fun R1 hR1 => ?_
  simp only [am, seval, reduceCtorEq]
  refine hR1 _ ?_; clear hR1 R1
  refine AWp.seq_k fun K2 hK2 => ?_
  refine AWp.reg fun R3 hR3 => ?_
  simp only [ty31, ty49, am, seval, reduceCtorEq]
  refine hR3 _ ?_; clear hR3 R3
  refine AWp.cond (t := false) (by simp only [am, seval, reduceCtorEq]) (fun h => by cases h) (fun _ => ?_)
  refine AWp.skip ?_
  refine hK2 _ ?_; clear hK2
  refine AWp.reg fun R4 hR4 => ?_
  simp only [ty31, ty49, am, seval, reduceCtorEq]
  refine ⟨by simp only [List.length_cons] at hl ⊢; omega, by simp only [List.length_cons, maxLen] at hl ⊢; omega, fun g hg => ?_⟩
  refine hR4 _ ?_; clear hR4 R4
  refine AWp.ret ?_
  exact ret_intro (vs := [.own g 14 (e :: es)]) rfl (Wk.refl _) (Heap.le.refl _) ⟨g, hg, rfl, rfl⟩
theorem f122_spec (es : List (List V)) (hl : es.length ≤ 550024249344) : Gives Tryz.prog 122 [.slice 8 es] (.slice 8 es) := by
 intro s
 cases es with
 | nil =>
  refine ACalls.empty fun ad cap => ?_
  cases ad with
  | none =>
   refine acalls_of (fn := Tryz.f122) Tryz.func122 rfl (by decide) (by show 1 ≤ 8; decide) ?_
   rw [Tryz.ntmps122]
   refine AWp.reg fun R1 hR1 => ?_
   simp only [am, seval, reduceCtorEq]
   refine hR1 _ ?_; clear hR1 R1
   refine AWp.seq_k fun K2 hK2 => ?_
   refine AWp.reg fun R3 hR3 => ?_
   simp only [ty135, ty193, am, seval, reduceCtorEq]
   refine hR3 _ ?_; clear hR3 R3
   refine AWp.cond (t := true) (by simp only [am, seval, reduceCtorEq]) (fun _ => ?_) (fun h => by cases h)
   refine AWp.reg fun R4 hR4 => ?_
   simp only [am, seval, reduceCtorEq]
   refine hR4 _ ?_; clear hR4 R4
   refine AWp.ret ?_
   refine ret_intro (vs := [.nil]) rfl (Wk.nil 8) (Heap.le.refl _) ⟨rfl, rfl⟩
  | some ad =>
   refine acalls_of (fn := Tryz.f122) Tryz.func122 rfl (by decide) (by show 1 ≤ 8; decide) ?_
   rw [Tryz.ntmps122]
   refine AWp.reg fun R1 hR1 => ?_
   simp only [am, seval, reduceCtorEq]
   refine hR1 _ ?_; clear hR1 R1
   refine AWp.seq_k fun K2 hK2 => ?_
   refine AWp.reg fun R3 hR3 => ?_
   simp only [ty135, ty193, am, seval, reduceCtorEq]
   refine hR3 _ ?_; clear hR3 R3
   refine AWp.cond (t := false) (by simp only [am, seval, reduceCtorEq]) (fun h => by cases h) (fun _ => ?_)
   refine AWp.skip ?_
   refine hK2 _ ?_; clear hK2
   refine AWp.reg fun R4 hR4 => ?_
   simp only [ty135, ty193, am, seval, reduceCtorEq]
   intro g hg
   refine hR4 _ ?_; clear hR4 R4
   refine AWp.ret ?_
   refine ret_intro (vs := [.own g 8 []]) rfl (Wk.own _ _ _) (own_drop hg _) ⟨rfl, rfl⟩
 | cons e es =>
  refine acalls_of (fn := Tryz.f122) Tryz.func122 rfl (by decide) (by show 1 ≤ 8; decide) ?_
  rw [Tryz.ntmps122]
  refine AWp.reg fun R1 hR1 => ?_
  simp only [am, seval, reduceCtorEq]
  refine hR1 _ ?_; clear hR1 R1
  refine AWp.seq_k fun K2 hK2 => ?_
  refine AWp.reg fun R3 hR3 => ?_
  simp only [ty135, ty193, am, seval, reduceCtorEq]
  refine hR3 _ ?_; clear hR3 R3
  refine AWp.cond (t := false) (by simp only [am, seval, reduceCtorEq]) (fun h => by cases h) (fun _ => ?_)
  refine AWp.skip ?_
  refine hK2 _ ?_; clear hK2
  refine AWp.reg fun R4 hR4 => ?_
  simp only [ty135, ty193, am, seval, reduceCtorEq]
  refine ⟨by simp only [List.length_cons] at hl ⊢; omega, by simp only [List.length_cons, maxLen] at hl ⊢; omega, fun g hg => ?_⟩
  refine hR4 _ ?_; clear hR4 R4
  refine AWp.ret ?_
  refine ret_intro (vs := [.own g 8 (e :: es)]) rfl (Wk.own _ _ _) (own_drop hg _) ⟨rfl, rfl⟩
end Go.Proofs.YtcckhbconihagaaGreatDoor
set_option linter.unusedSimpArgs false
set_option linter.unusedVariables false
set_option maxRecDepth 100000
namespace Go.Proofs.YtcckhbconihagaaGreatDoor
open Go.Am Go.Pl
/-- A call that bears a state along. -/
def WSpec {σ : Type} (H : σ → Heap → Prop) (f : FuncId) (args : List V) (σ0 σ1 : σ) (v : V) : Prop := ∀ s, H σ0 s → ACalls Tryz.prog f args s fun v' s' => v' = v ∧ H σ1 s'

theorem f25_spec {σ : Type} (H : σ → Heap → Prop) (fa : σ → Arm → σ × Arm) (ff : σ → Term → Nat → σ) (av fv : V) (hac : av.isCell = true) (hfc : fv.isCell = true) (hfv : (fv = .base .nilFunc ∧ ∀ s t d, ff s t d = s) ∨ ∃ k a c, fv = .func k a c) (l : List Term) (d : Nat) (σ0 : σ) (hl : l.length ≤ 550024249344) (hd : d + 1 ≤ 2^42)
    (hF : ∀ i (hi : i < l.length) k a c, fv = .func k a c → l[i].op = 100 → ∀ s, H (wTerms fa ff (l.take i) d σ0).1 s → ACalls Tryz.prog k (a ++ [.agg l[i].v, vint d] ++ c) s fun _ s' => H (ff (wTerms fa ff (l.take i) d σ0).1 l[i] d) s')
    (hA : ∀ i (hi : i < l.length), WSpec H 25 [.agg [av, fv], .slice 14 (l[i].args.map Term.v), vint d] (fldS ff d (wTerms fa ff (l.take i) d σ0).1 l[i]) (wTerms fa ff l[i].args d (fldS ff d (wTerms fa ff (l.take i) d σ0).1 l[i])).1 (.slice 14 ((wTerms fa ff l[i].args d (fldS ff d (wTerms fa ff (l.take i) d σ0).1 l[i])).2.map Term.v)))
    (hQ : ∀ i (hi : i < l.length), WSpec H 51 [.agg [av, fv], .slice 5 (l[i].sub.map Query.v), vint ((d + 1 : Nat) : Int)] (wTerms fa ff l[i].args d (fldS ff d (wTerms fa ff (l.take i) d σ0).1 l[i])).1 (wQueries fa ff l[i].sub (d + 1) (wTerms fa ff l[i].args d (fldS ff d (wTerms fa ff (l.take i) d σ0).1 l[i])).1).1 (.slice 5 ((wQueries fa ff l[i].sub (d + 1) (wTerms fa ff l[i].args d (fldS ff d (wTerms fa ff (l.take i) d σ0).1 l[i])).1).2.map Query.v))) :
    WSpec H 25 [.agg [av, fv], .slice 14 (l.map Term.v), vint d] σ0 (wTerms fa ff l d σ0).1 (.slice 14 ((wTerms fa ff l d σ0).2.map Term.v)) := by
 have hw : IntKind.i64.wrap ((d : Int) + 1) = ((d + 1 : Nat) : Int) := by rw [wrap_id (by omega) (by omega)]; rfl
 have hac' := hac; have hfc' := hfc
 intro s hH
 refine acalls_of (fn := Tryz.f25) Tryz.func25 rfl (by decide) (by show 3 ≤ 48; decide) ?_
 rw [Tryz.ntmps25]
 refine AWp.reg fun R1 hR1 => ?_
 simp only [hac', hfc', ty81, am, seval, reduceCtorEq]
 refine hR1 _ ?_; clear hR1 R1
 refine AWp.reg fun R2 hR2 => ?_
 simp only [am, seval, reduceCtorEq]
 refine hR2 _ ?_; clear hR2 R2
 refine AWp.seq_k fun K3 hK3 => ?_
 refine AWp.reg fun R4 hR4 => ?_
 simp only [ty31, ty49, am, seval, reduceCtorEq]
 refine hR4 _ ?_; clear hR4 R4
 refine AWp.block ?_
 refine AWp.adoptE 7 (49, 14) (.inl (by simp only [am, seval, reduceCtorEq])) fun g hg => ?_
 change s.own g = none at hg
 refine AWp.loopT (ι := Nat × Nat × Heap) (fun i => i.1 ≤ l.length ∧ i.2.2.own i.2.1 = none ∧ H (wTerms fa ff (l.take i.1) d σ0).1 i.2.2) (fun i => tst [(2, vint d), (3, .loc 3 0), (7, .own i.2.1 14 ((wTerms fa ff (l.take i.1) d σ0).2.map Term.v)), (10, .slice 14 (l.map Term.v)), (11, vint l.length), (12, vint i.1)] [(3, ([av, fv], 81))] (i.2.2.setOwn i.2.1 (some (49, 14))) 48) (fun i => l.length - i.1) (0, g, s) ⟨⟨Nat.zero_le _, hg, by rw [wTerms_zero]; exact hH⟩, ?_⟩ ?_
 ·refine le_tst ?_ ?_ ?_ (Heap.le.refl _) rfl
  ·simp only [leE, am, seval, reduceCtorEq]; simp [wTerms]
  ·simp only [oks, Nat.reduceBEq]
  ·simp only [leB, am, seval, reduceCtorEq]
 ·rintro ⟨i, g, s0⟩ ⟨hi, hg0, hH0⟩
  simp only at hi hg0 hH0 ⊢
  refine AWp.reg fun R5 hR5 => ?_
  simp only [ty3, am, seval, reduceCtorEq]
  refine hR5 _ ?_; clear hR5 R5
  refine AWp.seq_k fun K6 hK6 => ?_
  refine AWp.cond (t := decide ((i:Int) < l.length)) (by simp only [am, seval, reduceCtorEq]) (fun ht => ?_) (fun ht => ?_)
  ·have hlt : i < l.length := lt_of_dec ht
   have ix0 : (0 ≤ (i : Int)) = True := by simp
   have ix1 : ((i : Int) < (l.length : Int)) = True := by simp [hlt]
   refine AWp.skip ?_
   refine hK6 _ ?_; clear hK6
   refine AWp.seq_k fun K7 hK7 => ?_
   refine AWp.block ?_
   refine AWp.reg fun R8 hR8 => ?_
   simp only [ix0, ix1, true_and, getD_map _ _ _ hlt, Term.v_eq, ty31, ty49, am, seval, reduceCtorEq]
   refine hR8 _ ?_; clear hR8 R8
   refine AWp.seq_cut (ι := Heap) (fun s1 => H (fldS ff d (wTerms fa ff (l.take i) d σ0).1 l[i]) s1 ∧ s1.own g = none) (fun s1 => tst [(2, vint d), (3, .loc 3 0), (7, .own g 14 ((wTerms fa ff (l.take i) d σ0).2.map Term.v)), (9, .loc 9 0), (10, .slice 14 (l.map Term.v)), (11, vint l.length), (12, vint i)] [(3, ([av, fv], 81)), (9, (l[i].v, 49))] (s1.setOwn g (some (49, 14))) 48) ?_ ?_
   ·rcases hfv with ⟨rfl, hff⟩ | ⟨kf, f1, c1, rfl⟩
    ·refine AWp.reg fun R9 hR9 => ?_
     rcases (Bool.eq_false_or_eq_true ((l[i].op == 100))).symm with hc0 | hc0
     ·simp only [Term.v_eq, hc0, ty41, ty49, ty79, ty81, am, seval, reduceCtorEq]
      refine hR9 _ ?_; clear hR9 R9
      refine AWp.cond (t := false) (by simp only [am, seval, reduceCtorEq]) (fun h => by cases h) (fun _ => ?_)
      refine AWp.skip ?_
      refine ⟨s0, ⟨by rw [fldS, if_neg (by simpa using hc0)]; exact hH0, hg0⟩, ?_⟩
      refine le_tst ?_ ?_ ?_ (Heap.le.refl _) rfl
      ·simp only [leE, am, seval, reduceCtorEq]
      ·simp only [oks, Nat.reduceBEq]
      ·simp only [leB, Term.v_eq, am, seval, reduceCtorEq]
     ·simp only [Term.v_eq, hc0, ty41, ty49, ty79, ty81, am, seval, reduceCtorEq]
      refine hR9 _ ?_; clear hR9 R9
      refine AWp.cond (t := false) (by simp only [am, seval, reduceCtorEq]) (fun h => by cases h) (fun _ => ?_)
      refine AWp.skip ?_
      refine ⟨s0, ⟨by rw [fldS, hff, ite_self]; exact hH0, hg0⟩, ?_⟩
      refine le_tst ?_ ?_ ?_ (Heap.le.refl _) rfl
      ·simp only [leE, am, seval, reduceCtorEq]
      ·simp only [oks, Nat.reduceBEq]
      ·simp only [leB, Term.v_eq, am, seval, reduceCtorEq]
    ·refine AWp.reg fun R10 hR10 => ?_
     rcases (Bool.eq_false_or_eq_true ((l[i].op == 100))).symm with hc0 | hc0
     ·simp only [Term.v_eq, hc0, ty41, ty49, ty79, ty81, am, seval, reduceCtorEq]
      refine hR10 _ ?_; clear hR10 R10
      refine AWp.cond (t := false) (by simp only [am, seval, reduceCtorEq]) (fun h => by cases h) (fun _ => ?_)
      refine AWp.skip ?_
      refine ⟨s0, ⟨by rw [fldS, if_neg (by simpa using hc0)]; exact hH0, hg0⟩, ?_⟩
      refine le_tst ?_ ?_ ?_ (Heap.le.refl _) rfl
      ·simp only [leE, am, seval, reduceCtorEq]
      ·simp only [oks, Nat.reduceBEq]
      ·simp only [leB, Term.v_eq, am, seval, reduceCtorEq]
     ·simp only [Term.v_eq, hc0, ty41, ty49, ty79, ty81, am, seval, reduceCtorEq]
      refine hR10 _ ?_; clear hR10 R10
      refine AWp.cond (t := true) (by simp only [am, seval, reduceCtorEq]) (fun _ => ?_) (fun h => by cases h)
      refine AWp.reg1 fun R11 hR11 => ?_
      simp only [Term.v_eq, ty49, ty79, ty81, am, seval, reduceCtorEq]
      rw [← Term.v_eq]
      refine ((hF i hlt kf f1 c1 rfl (by simpa using hc0) _ hH0).frame1 (49, 14) hg0).mono ?_
      rintro _ _ ⟨s1, hH1, hg1, rfl⟩
      simp only [Term.v_eq, ty49, ty79, ty81, am, seval, reduceCtorEq]
      refine hR11 _ ?_; clear hR11 R11
      refine ⟨s1, ⟨by rw [fldS, if_pos (by simpa using hc0)]; exact hH1, hg1⟩, ?_⟩
      refine le_tst ?_ ?_ ?_ (Heap.le.refl _) rfl
      ·simp only [leE, am, seval, reduceCtorEq]
      ·simp only [oks, Nat.reduceBEq]
      ·simp only [leB, Term.v_eq, am, seval, reduceCtorEq]
   ·rintro s1 ⟨hH1', hg1'⟩
    refine AWp.reg fun R12 hR12 => ?_
    simp only [Term.v_eq, ty31, ty49, ty81, am, seval, reduceCtorEq]
    refine ((hA i hlt _ hH1').frame1 (49, 14) hg1').mono ?_
    rintro _ _ ⟨s2, ⟨rfl, hH2⟩, hg2, rfl⟩
    simp only [Term.v_eq, ty31, ty49, ty81, am, seval, reduceCtorEq]
    refine hR12 _ ?_; clear hR12 R12
    refine AWp.reg fun R13 hR13 => ?_
    simp only [hw, ty3, ty33, ty47, ty49, ty81, am, seval, reduceCtorEq]
    refine ((hQ i hlt _ hH2).frame1 (49, 14) hg2).mono ?_
    rintro _ _ ⟨s3, ⟨rfl, hH3⟩, hg3, rfl⟩
    simp only [hw, ty3, ty33, ty47, ty49, ty81, am, seval, reduceCtorEq]
    refine hR13 _ ?_; clear hR13 R13
    refine AWp.reg1 fun R14 hR14 => ?_
    simp only [ty31, ty49, am, seval, reduceCtorEq]
    refine ⟨own_same _ _ _, by simp only [List.length_map, wTerms_len, List.length_take]; omega, by simp only [List.length_map, wTerms_len, List.length_take, maxLen]; omega, fun g' hg' => ?_⟩
    refine hR14 _ ?_; clear hR14 R14
    refine hK7 _ ?_; clear hK7
    refine AWp.reg1 fun R15 hR15 => ?_
    simp only [ty3, am, seval, reduceCtorEq]
    refine hR15 _ ?_; clear hR15 R15
    refine ⟨(i + 1, g', s3), ⟨⟨hlt, own_fresh hg', by rw [wTerms_succ _ _ _ _ _ _ hlt, wTerm_eq]; exact hH3⟩, by simp only; omega⟩, ?_⟩
    refine le_tst ?_ ?_ ?_ (own_step hg3 _ _ _) rfl
    ·simp only [leE, am, seval, reduceCtorEq]; rw [wrap_id (by omega) (by omega), wTerms_succ _ _ _ _ _ _ hlt, wTerm_eq]; simp [Term.v_eq]
    ·simp only [oks, Nat.reduceBEq]
    ·simp only [leB, am, seval, reduceCtorEq]
  ·obtain rfl : i = l.length := eq_of_dec ht hi
   refine AWp.exit ?_
   simp only [exq, seval]
   refine hK3 _ ?_; clear hK3
   refine AWp.reg fun R16 hR16 => ?_
   simp only [am, seval, reduceCtorEq]
   refine hR16 _ ?_; clear hR16 R16
   refine AWp.ret ?_
   refine ret_intro (vs := [.own g 14 _]) rfl (Wk.own _ _ _) (own_drop hg0 _) ⟨?_, ?_⟩
   ·rw [List.take_length]
   ·rw [List.take_length] at hH0; exact hH0
end Go.Proofs.YtcckhbconihagaaGreatDoor
set_option linter.unusedSimpArgs false
set_option linter.unusedVariables false
set_option maxRecDepth 100000
namespace Go.Proofs.YtcckhbconihagaaGreatDoor
open Go.Am Go.Pl

theorem f132_spec {σ : Type} (H : σ → Heap → Prop) (fa : σ → Arm → σ × Arm) (ff : σ → Term → Nat → σ) (av fv : V) (hac : av.isCell = true) (hfc : fv.isCell = true) (l : List Bound) (d : Nat) (σ0 : σ) (hl : l.length ≤ 550024249344)
    (hB : ∀ i (hi : i < l.length), WSpec H 25 [.agg [av, fv], .slice 14 [l[i].term.v], vint d] (wBounds fa ff (l.take i) d σ0).1 (wTerm fa ff l[i].term d (wBounds fa ff (l.take i) d σ0).1).1 (.slice 14 [(wTerm fa ff l[i].term d (wBounds fa ff (l.take i) d σ0).1).2.v])) :
    WSpec H 132 [.agg [av, fv], .slice 15 (l.map Bound.v), vint d] σ0 (wBounds fa ff l d σ0).1 (.slice 15 ((wBounds fa ff l d σ0).2.map Bound.v)) := by
 have hac' := hac; have hfc' := hfc
 have ixa : ((0 : Int) ≤ 0) = True := by simp
 have ixb : ((0 : Int) < ((1 : Nat) : Int)) = True := by simp
 intro s hH
 refine acalls_of (fn := Tryz.f132) Tryz.func132 rfl (by decide) (by show 3 ≤ 32; decide) ?_
 rw [Tryz.ntmps132]
 refine AWp.reg fun R1 hR1 => ?_
 simp only [hac', hfc', ty81, am, seval, reduceCtorEq]
 refine hR1 _ ?_; clear hR1 R1
 refine AWp.reg fun R2 hR2 => ?_
 simp only [am, seval, reduceCtorEq]
 refine hR2 _ ?_; clear hR2 R2
 refine AWp.seq_k fun K3 hK3 => ?_
 refine AWp.reg fun R4 hR4 => ?_
 simp only [ty64, ty132, am, seval, reduceCtorEq]
 refine hR4 _ ?_; clear hR4 R4
 refine AWp.block ?_
 refine AWp.adoptE 7 (132, 15) (.inl (by simp only [am, seval, reduceCtorEq])) fun g hg => ?_
 change s.own g = none at hg
 refine AWp.loopT (ι := Nat × Nat × Heap) (fun i => i.1 ≤ l.length ∧ i.2.2.own i.2.1 = none ∧ H (wBounds fa ff (l.take i.1) d σ0).1 i.2.2) (fun i => tst [(2, vint d), (3, .loc 3 0), (7, .own i.2.1 15 ((wBounds fa ff (l.take i.1) d σ0).2.map Bound.v)), (10, .slice 15 (l.map Bound.v)), (11, vint l.length), (12, vint i.1)] [(3, ([av, fv], 81))] (i.2.2.setOwn i.2.1 (some (132, 15))) 32) (fun i => l.length - i.1) (0, g, s) ⟨⟨Nat.zero_le _, hg, by rw [wBounds_zero]; exact hH⟩, ?_⟩ ?_
 ·refine le_tst ?_ ?_ ?_ (Heap.le.refl _) rfl
  ·simp only [leE, am, seval, reduceCtorEq]; simp [wBounds]
  ·simp only [oks, Nat.reduceBEq]
  ·simp only [leB, am, seval, reduceCtorEq]
 ·rintro ⟨i, g, s0⟩ ⟨hi, hg0, hH0⟩
  simp only at hi hg0 hH0 ⊢
  refine AWp.reg fun R5 hR5 => ?_
  simp only [ty3, am, seval, reduceCtorEq]
  refine hR5 _ ?_; clear hR5 R5
  refine AWp.seq_k fun K6 hK6 => ?_
  refine AWp.cond (t := decide ((i:Int) < l.length)) (by simp only [am, seval, reduceCtorEq]) (fun ht => ?_) (fun ht => ?_)
  ·have hlt : i < l.length := lt_of_dec ht
   have ix0 : (0 ≤ (i : Int)) = True := by simp
   have ix1 : ((i : Int) < (l.length : Int)) = True := by simp [hlt]
   refine AWp.skip ?_
   refine hK6 _ ?_; clear hK6
   refine AWp.seq_k fun K7 hK7 => ?_
   refine AWp.block ?_
   refine AWp.reg fun R8 hR8 => ?_
   simp only [ix0, ix1, true_and, getD_map _ _ _ hlt, Bound.v_eq, Term.v_eq, ty64, ty132, am, seval, reduceCtorEq]
   refine hR8 _ ?_; clear hR8 R8
   refine AWp.regL1 mixed [0, 1, 2, 3, 4, 5, 9, 10, 6, 7, 8, 11, 12, 13, 14] (by decide +kernel) [99999] (by decide +kernel) fun R9 hR9 => ?_
   simp only [ixa, ixb, Int.toNat_zero, Term.v_eq, ty4, ty31, ty49, ty64, ty81, ty132, aml, Nat.reduceBEq, am, seval, reduceCtorEq]
   rw [← Term.v_eq]
   refine ((hB i hlt _ hH0).frame1 (132, 15) hg0).mono ?_
   rintro _ _ ⟨s1, ⟨rfl, hH1⟩, hg1, rfl⟩
   simp only [ixa, ixb, Int.toNat_zero, Term.v_eq, ty4, ty31, ty49, ty64, ty81, ty132, aml, Nat.reduceBEq, am, seval, reduceCtorEq]
   refine ⟨own_same _ _ _, by simp only [List.length_map, wBounds_len, List.length_take]; omega, by simp only [List.length_map, wBounds_len, List.length_take, maxLen]; omega, fun g' hg' => ?_⟩
   refine hR9 _ ?_; clear hR9 R9
   refine hK7 _ ?_; clear hK7
   refine AWp.reg1 fun R10 hR10 => ?_
   simp only [ty3, am, seval, reduceCtorEq]
   refine hR10 _ ?_; clear hR10 R10
   refine ⟨(i + 1, g', s1), ⟨⟨hlt, own_fresh hg', by rw [wBounds_succ _ _ _ _ _ _ hlt, wBound_eq]; exact hH1⟩, by simp only; omega⟩, ?_⟩
   refine le_tst ?_ ?_ ?_ (own_step hg1 _ _ _) rfl
   ·simp only [leE, am, seval, reduceCtorEq]; rw [wrap_id (by omega) (by omega), wBounds_succ _ _ _ _ _ _ hlt, wBound_eq]; simp [Bound.v_eq, Term.v_eq]
   ·simp only [oks, Nat.reduceBEq]
   ·simp only [leB, am, seval, reduceCtorEq]
  ·obtain rfl : i = l.length := eq_of_dec ht hi
   refine AWp.exit ?_
   simp only [exq, seval]
   refine hK3 _ ?_; clear hK3
   refine AWp.reg fun R11 hR11 => ?_
   simp only [am, seval, reduceCtorEq]
   refine hR11 _ ?_; clear hR11 R11
   refine AWp.ret ?_
   refine ret_intro (vs := [.own g 15 _]) rfl (Wk.own _ _ _) (own_drop hg0 _) ⟨?_, ?_⟩
   ·rw [List.take_length]
   ·rw [List.take_length] at hH0; exact hH0
end Go.Proofs.YtcckhbconihagaaGreatDoor
set_option linter.unusedSimpArgs false
set_option linter.unusedVariables false
set_option maxRecDepth 100000
namespace Go.Proofs.YtcckhbconihagaaGreatDoor
open Go.Am Go.Pl

theorem f51_spec {σ : Type} (H : σ → Heap → Prop) (fa : σ → Arm → σ × Arm) (ff : σ → Term → Nat → σ) (av fv : V) (hac : av.isCell = true) (hfc : fv.isCell = true) (l : List Query) (d : Nat) (σ0 : σ) (hl : l.length ≤ 550024249344) (hN : ∀ i (hi : i < l.length), l[i].names.length ≤ 550024249344 ∧ l[i].order.length ≤ 550024249344) (hM : ∀ i (hi : i < l.length), l[i].arms.length ≤ 550024249344)
    (hL : ∀ i (hi : i < l.length), WSpec H 25 [.agg [av, fv], .slice 14 (l[i].limit.map Term.v), vint d] (wQueries fa ff (l.take i) d σ0).1 (wTerms fa ff l[i].limit d (wQueries fa ff (l.take i) d σ0).1).1 (.slice 14 ((wTerms fa ff l[i].limit d (wQueries fa ff (l.take i) d σ0).1).2.map Term.v)))
    (hO : ∀ i (hi : i < l.length), WSpec H 25 [.agg [av, fv], .slice 14 (l[i].offset.map Term.v), vint d] (wTerms fa ff l[i].limit d (wQueries fa ff (l.take i) d σ0).1).1 (wTerms fa ff l[i].offset d (wTerms fa ff l[i].limit d (wQueries fa ff (l.take i) d σ0).1).1).1 (.slice 14 ((wTerms fa ff l[i].offset d (wTerms fa ff l[i].limit d (wQueries fa ff (l.take i) d σ0).1).1).2.map Term.v)))
    (hR : ∀ i (hi : i < l.length) k (hk : k < l[i].arms.length), WSpec H 85 [.agg [av, fv], .agg l[i].arms[k].v, vint d] (wArms fa ff (l[i].arms.take k) d (wTerms fa ff l[i].offset d (wTerms fa ff l[i].limit d (wQueries fa ff (l.take i) d σ0).1).1).1).1 (wArm fa ff l[i].arms[k] d (wArms fa ff (l[i].arms.take k) d (wTerms fa ff l[i].offset d (wTerms fa ff l[i].limit d (wQueries fa ff (l.take i) d σ0).1).1).1).1).1 (.agg (wArm fa ff l[i].arms[k] d (wArms fa ff (l[i].arms.take k) d (wTerms fa ff l[i].offset d (wTerms fa ff l[i].limit d (wQueries fa ff (l.take i) d σ0).1).1).1).1).2.v)) :
    WSpec H 51 [.agg [av, fv], .slice 5 (l.map Query.v), vint d] σ0 (wQueries fa ff l d σ0).1 (.slice 5 ((wQueries fa ff l d σ0).2.map Query.v)) := by
 have hac' := hac; have hfc' := hfc
 intro s hH
 refine acalls_of (fn := Tryz.f51) Tryz.func51 rfl (by decide) (by show 3 ≤ 64; decide) ?_
 rw [Tryz.ntmps51]
 refine AWp.reg fun R1 hR1 => ?_
 simp only [hac', hfc', ty81, am, seval, reduceCtorEq]
 refine hR1 _ ?_; clear hR1 R1
 refine AWp.reg fun R2 hR2 => ?_
 simp only [am, seval, reduceCtorEq]
 refine hR2 _ ?_; clear hR2 R2
 refine AWp.seq_k fun K3 hK3 => ?_
 refine AWp.reg fun R4 hR4 => ?_
 simp only [ty33, ty47, am, seval, reduceCtorEq]
 refine hR4 _ ?_; clear hR4 R4
 refine AWp.block ?_
 refine AWp.adoptE 7 (33, 5) (.inl (by simp only [am, seval, reduceCtorEq])) fun g hg => ?_
 change s.own g = none at hg
 refine AWp.loopT (ι := Nat × Nat × Heap) (fun i => i.1 ≤ l.length ∧ i.2.2.own i.2.1 = none ∧ H (wQueries fa ff (l.take i.1) d σ0).1 i.2.2) (fun i => tst [(2, vint d), (3, .loc 3 0), (7, .own i.2.1 5 ((wQueries fa ff (l.take i.1) d σ0).2.map Query.v)), (13, .slice 5 (l.map Query.v)), (14, vint l.length), (15, vint i.1)] [(3, ([av, fv], 81))] (i.2.2.setOwn i.2.1 (some (33, 5))) 64) (fun i => l.length - i.1) (0, g, s) ⟨⟨Nat.zero_le _, hg, by rw [wQueries_zero]; exact hH⟩, ?_⟩ ?_
 ·refine le_tst ?_ ?_ ?_ (Heap.le.refl _) rfl
  ·simp only [leE, am, seval, reduceCtorEq]; simp [wQueries]
  ·simp only [oks, Nat.reduceBEq]
  ·simp only [leB, am, seval, reduceCtorEq]
 ·rintro ⟨i, g, s0⟩ ⟨hi, hg0, hH0⟩
  simp only at hi hg0 hH0 ⊢
  refine AWp.reg fun R5 hR5 => ?_
  simp only [ty3, am, seval, reduceCtorEq]
  refine hR5 _ ?_; clear hR5 R5
  refine AWp.seq_k fun K6 hK6 => ?_
  refine AWp.cond (t := decide ((i:Int) < l.length)) (by simp only [am, seval, reduceCtorEq]) (fun ht => ?_) (fun ht => ?_)
  ·have hlt : i < l.length := lt_of_dec ht
   have ix0 : (0 ≤ (i : Int)) = True := by simp
   have ix1 : ((i : Int) < (l.length : Int)) = True := by simp [hlt]
   refine AWp.skip ?_
   refine hK6 _ ?_; clear hK6
   refine AWp.seq_k fun K7 hK7 => ?_
   refine AWp.block ?_
   refine AWp.reg fun R8 hR8 => ?_
   simp only [ix0, ix1, true_and, getD_map _ _ _ hlt, Query.v_eq, ty33, ty47, am, seval, reduceCtorEq]
   refine hR8 _ ?_; clear hR8 R8
   refine AWp.regL mixed [0, 1, 3, 4, 2, 6, 5, 7, 8, 9] (by decide +kernel) [99999] (by decide +kernel) fun R9 hR9 => ?_
   simp only [ty9, ty28, ty30, ty33, ty118, teq118, aml, Nat.reduceBEq, am, seval, reduceCtorEq]
   refine (f52_spec _ (by simp only [List.length_map]; exact (hN i hlt).1) _).mono fun v' s' h => ?_
   rw [h.1, h.2]; clear h v' s'
   simp only [ty9, ty28, ty30, ty33, ty118, teq118, aml, Nat.reduceBEq, am, seval, reduceCtorEq]
   refine (f84_spec _ (by simp only [List.length_map]; exact (hN i hlt).2) _).mono fun v' s' h => ?_
   rw [h.1, h.2]; clear h v' s'
   simp only [ty9, ty28, ty30, ty33, ty118, teq118, aml, Nat.reduceBEq, am, seval, reduceCtorEq]
   refine hR9 _ ?_; clear hR9 R9
   refine AWp.regL mixed [0, 1, 2, 3, 5, 6, 7, 8, 4, 10, 9, 11, 12, 13] (by decide +kernel) [99999] (by decide +kernel) fun R10 hR10 => ?_
   simp only [ty31, ty33, ty49, ty81, aml, Nat.reduceBEq, am, seval, reduceCtorEq]
   refine ((hL i hlt _ hH0).frame1 (33, 5) hg0).mono ?_
   rintro _ _ ⟨s1, ⟨rfl, hH1⟩, hg1, rfl⟩
   simp only [ty31, ty33, ty49, ty81, aml, Nat.reduceBEq, am, seval, reduceCtorEq]
   refine ((hO i hlt _ hH1).frame1 (33, 5) hg1).mono ?_
   rintro _ _ ⟨s2, ⟨rfl, hH2⟩, hg2, rfl⟩
   simp only [ty31, ty33, ty49, ty81, aml, Nat.reduceBEq, am, seval, reduceCtorEq]
   refine hR10 _ ?_; clear hR10 R10
   refine AWp.reg fun R11 hR11 => ?_
   simp only [ty29, ty33, ty75, am, seval, reduceCtorEq]
   refine hR11 _ ?_; clear hR11 R11
   refine AWp.reg fun R12 hR12 => ?_
   simp only [ty29, ty33, ty75, am, seval, reduceCtorEq]
   refine hR12 _ ?_; clear hR12 R12
   refine AWp.seq_k fun K13 hK13 => ?_
   refine AWp.reg fun R14 hR14 => ?_
   simp only [ty29, ty75, am, seval, reduceCtorEq]
   refine hR14 _ ?_; clear hR14 R14
   refine AWp.block ?_
   refine AWp.adoptB 9 1 (75, 13) (cs := [vstrs l[i].names, .nil, .slice 3 (l[i].order.map Sorted.v), .slice 14 ((wTerms fa ff l[i].limit d (wQueries fa ff (l.take i) d σ0).1).2.map Term.v), .slice 14 ((wTerms fa ff l[i].offset d (wTerms fa ff l[i].limit d (wQueries fa ff (l.take i) d σ0).1).1).2.map Term.v)]) (ty := 33) (by simp only [am, seval, reduceCtorEq]) (.inl rfl) fun gb hgb => ?_
   change (s2.setOwn g (some (33, 5))).own gb = none at hgb
   refine AWp.loopT (ι := Nat × Nat × Heap) (fun j => j.1 ≤ l[i].arms.length ∧ j.2.2.own g = none ∧ j.2.2.own j.2.1 = none ∧ j.2.1 ≠ g ∧ H (wArms fa ff (l[i].arms.take j.1) d (wTerms fa ff l[i].offset d (wTerms fa ff l[i].limit d (wQueries fa ff (l.take i) d σ0).1).1).1).1 j.2.2) (fun j => tst [(2, vint d), (3, .loc 3 0), (7, .own g 5 ((wQueries fa ff (l.take i) d σ0).2.map Query.v)), (9, .loc 9 0), (13, .slice 5 (l.map Query.v)), (14, vint l.length), (15, vint i), (42, .slice 13 (l[i].arms.map Arm.v)), (43, vint l[i].arms.length), (44, vint j.1)] [(3, ([av, fv], 81)), (9, ([vstrs l[i].names, .own j.2.1 13 ((wArms fa ff (l[i].arms.take j.1) d (wTerms fa ff l[i].offset d (wTerms fa ff l[i].limit d (wQueries fa ff (l.take i) d σ0).1).1).1).2.map Arm.v), .slice 3 (l[i].order.map Sorted.v), .slice 14 ((wTerms fa ff l[i].limit d (wQueries fa ff (l.take i) d σ0).1).2.map Term.v), .slice 14 ((wTerms fa ff l[i].offset d (wTerms fa ff l[i].limit d (wQueries fa ff (l.take i) d σ0).1).1).2.map Term.v)], 33))] ((j.2.2.setOwn g (some (33, 5))).setOwn j.2.1 (some (75, 13))) 64) (fun j => l[i].arms.length - j.1) (0, gb, s2) ⟨⟨Nat.zero_le _, hg2, own_fresh hgb, own_ne hgb, by rw [wArms_zero]; exact hH2⟩, ?_⟩ ?_
   ·refine le_tst ?_ ?_ ?_ (Heap.le.refl _) rfl
    ·simp only [leE, am, seval, reduceCtorEq] <;> simp [wArms]
    ·simp only [oks, Nat.reduceBEq]
    ·simp only [leB, am, seval, reduceCtorEq]; simp [wArms]
   ·rintro ⟨k, g2, s9⟩ ⟨hk, hg9, hg2, hne, hH9⟩
    simp only at hk hg9 hg2 hne hH9 ⊢
    refine AWp.reg fun R15 hR15 => ?_
    simp only [ty3, am, seval, reduceCtorEq]
    refine hR15 _ ?_; clear hR15 R15
    refine AWp.seq_k fun K16 hK16 => ?_
    refine AWp.cond (t := decide ((k:Int) < l[i].arms.length)) (by simp only [am, seval, reduceCtorEq]) (fun ht => ?_) (fun ht => ?_)
    ·have hlt2 : k < l[i].arms.length := lt_of_dec ht
     have ix0k : (0 ≤ (k : Int)) = True := by simp
     have ix1k : ((k : Int) < (l[i].arms.length : Int)) = True := by simp [hlt2]
     refine AWp.skip ?_
     refine hK16 _ ?_; clear hK16
     refine AWp.seq_k fun K17 hK17 => ?_
     refine AWp.block ?_
     refine AWp.reg fun R18 hR18 => ?_
     simp only [ix0k, ix1k, true_and, getD_map _ _ _ hlt2, Arm.v_eq, ty29, ty75, am, seval, reduceCtorEq]
     refine hR18 _ ?_; clear hR18 R18
     refine AWp.regL1 mixed [0, 1, 2, 3, 4, 5, 6, 7, 8, 9] (by decide +kernel) [99999] (by decide +kernel) fun R19 hR19 => ?_
     simp only [Arm.v_eq, ty29, ty33, ty75, ty81, aml, Nat.reduceBEq, am, seval, reduceCtorEq]
     rw [← Arm.v_eq]
     refine ((hR i hlt k hlt2 _ hH9).frame2 (33, 5) (75, 13) hg9 hg2 hne).mono ?_
     rintro _ _ ⟨s3, ⟨rfl, hH3⟩, hg3, hgb3, rfl⟩
     simp only [Arm.v_eq, ty29, ty33, ty75, ty81, aml, Nat.reduceBEq, am, seval, reduceCtorEq]
     refine ⟨own_same _ _ _, by simp only [List.length_map, wArms_len, List.length_take]; have := (hM i hlt); omega, by simp only [List.length_map, wArms_len, List.length_take, maxLen]; have := (hM i hlt); omega, fun g' hg' => ?_⟩
     refine hR19 _ ?_; clear hR19 R19
     refine hK17 _ ?_; clear hK17
     refine AWp.reg1 fun R20 hR20 => ?_
     simp only [ty3, am, seval, reduceCtorEq]
     refine hR20 _ ?_; clear hR20 R20
     have hgy : (s3.setOwn g (some (33, 5))).own g2 = none := by simpa [Heap.setOwn, upd, hne] using hgb3
     refine ⟨(k + 1, g', s3), ⟨⟨hlt2, hg3, own_fresh (own_fresh hg'), own_ne (own_fresh hg'), by rw [wArms_succ _ _ _ _ _ _ hlt2]; exact hH3⟩, by simp only; omega⟩, ?_⟩
     refine le_tst ?_ ?_ ?_ (own_step hgy _ _ _) rfl
     ·simp only [leE, am, seval, reduceCtorEq]; rw [wrap_id (by omega) (by have := hM i hlt; omega)]; simp
     ·simp only [oks, Nat.reduceBEq]
     ·simp only [leB, am, seval, reduceCtorEq]; rw [wArms_succ _ _ _ _ _ _ hlt2]; simp [Arm.v_eq]
    ·obtain rfl : k = l[i].arms.length := eq_of_dec ht hk
     refine AWp.exit ?_
     simp only [exq, seval]
     refine hK13 _ ?_; clear hK13
     have hgx : (s9.setOwn g (some (33, 5))).own g2 = none := by simpa [Heap.setOwn, upd, hne] using hg2
     refine AWp.wkB 9 (cs := [vstrs l[i].names, .own g2 13 ((wArms fa ff (l[i].arms.take l[i].arms.length) d (wTerms fa ff l[i].offset d (wTerms fa ff l[i].limit d (wQueries fa ff (l.take i) d σ0).1).1).1).2.map Arm.v), .slice 3 (l[i].order.map Sorted.v), .slice 14 ((wTerms fa ff l[i].limit d (wQueries fa ff (l.take i) d σ0).1).2.map Term.v), .slice 14 ((wTerms fa ff l[i].offset d (wTerms fa ff l[i].limit d (wQueries fa ff (l.take i) d σ0).1).1).2.map Term.v)]) (ty := 33) [vstrs l[i].names, .slice 13 ((wArms fa ff (l[i].arms.take l[i].arms.length) d (wTerms fa ff l[i].offset d (wTerms fa ff l[i].limit d (wQueries fa ff (l.take i) d σ0).1).1).1).2.map Arm.v), .slice 3 (l[i].order.map Sorted.v), .slice 14 ((wTerms fa ff l[i].limit d (wQueries fa ff (l.take i) d σ0).1).2.map Term.v), .slice 14 ((wTerms fa ff l[i].offset d (wTerms fa ff l[i].limit d (wQueries fa ff (l.take i) d σ0).1).1).2.map Term.v)] (by simp only [am, seval, reduceCtorEq]) ⟨Wk.refl _, Wk.own _ _ _, Wk.refl _, Wk.refl _, Wk.refl _, trivial⟩ ?_
     refine AWp.reg1 fun R21 hR21 => ?_
     simp only [ty33, ty47, am, seval, reduceCtorEq]
     refine ⟨own_under hgx _, by simp only [List.length_map, wQueries_len, List.length_take]; omega, by simp only [List.length_map, wQueries_len, List.length_take, maxLen]; omega, fun g' hg' => ?_⟩
     refine hR21 _ ?_; clear hR21 R21
     refine hK7 _ ?_; clear hK7
     refine AWp.reg1 fun R22 hR22 => ?_
     simp only [ty3, am, seval, reduceCtorEq]
     refine hR22 _ ?_; clear hR22 R22
     refine ⟨(i + 1, g', s9), ⟨⟨hlt, own_fresh (own_fresh hg'), by rw [wQueries_succ _ _ _ _ _ _ hlt, wQuery_eq]; rw [List.take_length] at hH9; exact hH9⟩, by simp only; omega⟩, ?_⟩
     refine le_tst ?_ ?_ ?_ (own_step2 hg9 hgx _ _ _) rfl
     ·simp only [leE, am, seval, reduceCtorEq]; rw [wrap_id (by omega) (by omega), wQueries_succ _ _ _ _ _ _ hlt, wQuery_eq]; simp [Query.v_eq, List.take_length]
     ·simp only [oks, Nat.reduceBEq]
     ·simp only [leB, am, seval, reduceCtorEq]
  ·obtain rfl : i = l.length := eq_of_dec ht hi
   refine AWp.exit ?_
   simp only [exq, seval]
   refine hK3 _ ?_; clear hK3
   refine AWp.reg fun R23 hR23 => ?_
   simp only [am, seval, reduceCtorEq]
   refine hR23 _ ?_; clear hR23 R23
   refine AWp.ret ?_
   refine ret_intro (vs := [.own g 5 _]) rfl (Wk.own _ _ _) (own_drop hg0 _) ⟨?_, ?_⟩
   ·rw [List.take_length]
   ·rw [List.take_length] at hH0; exact hH0
end Go.Proofs.YtcckhbconihagaaGreatDoor
set_option linter.unusedSimpArgs false
set_option linter.unusedVariables false
set_option maxRecDepth 100000
namespace Go.Proofs.YtcckhbconihagaaGreatDoor
open Go.Am Go.Pl

set_option maxHeartbeats 4000000 in
theorem f85_spec {σ : Type} (H : σ → Heap → Prop) (fa : σ → Arm → σ × Arm) (ff : σ → Term → Nat → σ) (av fv : V) (hac : av.isCell = true) (hfc : fv.isCell = true) (a : Arm) (d : Nat) (σ0 : σ)
    (r1 : σ × List (List Term)) (r2 : σ × List From) (r3 : σ × List Agg) (r4 : σ × List Step) (r5 r6 r7 r8 r9 : σ × List Term)
    (e1 : r1 = wRows fa ff a.rows d σ0) (e2 : r2 = wFroms fa ff a.frm d r1.1) (e3 : r3 = wAggs fa ff a.aggs d r2.1) (e4 : r4 = wSteps fa ff a.steps d r3.1)
    (hl1 : a.rows.length ≤ 550024249344) (hl2 : a.frm.length ≤ 550024249344) (hl3 : a.aggs.length ≤ 550024249344) (hl4 : a.steps.length ≤ 550024249344)
    (hRow : ∀ i (hi : i < a.rows.length), WSpec H 25 [.agg [av, fv], .slice 14 (a.rows[i].map Term.v), vint d] (wRows fa ff (a.rows.take i) d σ0).1 (wTerms fa ff a.rows[i] d (wRows fa ff (a.rows.take i) d σ0).1).1 (.slice 14 ((wTerms fa ff a.rows[i] d (wRows fa ff (a.rows.take i) d σ0).1).2.map Term.v)))
    (hFS : ∀ i (hi : i < a.frm.length), WSpec H 51 [.agg [av, fv], .slice 5 (a.frm[i].sub.map Query.v), vint d] (wFroms fa ff (a.frm.take i) d r1.1).1 (wQueries fa ff a.frm[i].sub d (wFroms fa ff (a.frm.take i) d r1.1).1).1 (.slice 5 ((wQueries fa ff a.frm[i].sub d (wFroms fa ff (a.frm.take i) d r1.1).1).2.map Query.v)))
    (hFO : ∀ i (hi : i < a.frm.length), WSpec H 25 [.agg [av, fv], .slice 14 (a.frm[i].on.map Term.v), vint d] (wQueries fa ff a.frm[i].sub d (wFroms fa ff (a.frm.take i) d r1.1).1).1 (wTerms fa ff a.frm[i].on d (wQueries fa ff a.frm[i].sub d (wFroms fa ff (a.frm.take i) d r1.1).1).1).1 (.slice 14 ((wTerms fa ff a.frm[i].on d (wQueries fa ff a.frm[i].sub d (wFroms fa ff (a.frm.take i) d r1.1).1).1).2.map Term.v)))
    (hAg : ∀ i (hi : i < a.aggs.length), WSpec H 25 [.agg [av, fv], .slice 14 (a.aggs[i].arg.map Term.v), vint d] (wAggs fa ff (a.aggs.take i) d r2.1).1 (wTerms fa ff a.aggs[i].arg d (wAggs fa ff (a.aggs.take i) d r2.1).1).1 (.slice 14 ((wTerms fa ff a.aggs[i].arg d (wAggs fa ff (a.aggs.take i) d r2.1).1).2.map Term.v)))
    (hCl : ∀ i (hi : i < a.steps.length), a.steps[i].whr.length ≤ 550024249344)
    (hSE : ∀ i (hi : i < a.steps.length), WSpec H 25 [.agg [av, fv], .slice 14 (a.steps[i].eq.map Term.v), vint d] (wSteps fa ff (a.steps.take i) d r3.1).1 (wTerms fa ff a.steps[i].eq d (wSteps fa ff (a.steps.take i) d r3.1).1).1 (.slice 14 ((wTerms fa ff a.steps[i].eq d (wSteps fa ff (a.steps.take i) d r3.1).1).2.map Term.v)))
    (hSL : ∀ i (hi : i < a.steps.length), WSpec H 132 [.agg [av, fv], .slice 15 (a.steps[i].low.map Bound.v), vint d] (wTerms fa ff a.steps[i].eq d (wSteps fa ff (a.steps.take i) d r3.1).1).1 (wBounds fa ff a.steps[i].low d (wTerms fa ff a.steps[i].eq d (wSteps fa ff (a.steps.take i) d r3.1).1).1).1 (.slice 15 ((wBounds fa ff a.steps[i].low d (wTerms fa ff a.steps[i].eq d (wSteps fa ff (a.steps.take i) d r3.1).1).1).2.map Bound.v)))
    (hSH : ∀ i (hi : i < a.steps.length), WSpec H 132 [.agg [av, fv], .slice 15 (a.steps[i].high.map Bound.v), vint d] (wBounds fa ff a.steps[i].low d (wTerms fa ff a.steps[i].eq d (wSteps fa ff (a.steps.take i) d r3.1).1).1).1 (wBounds fa ff a.steps[i].high d (wBounds fa ff a.steps[i].low d (wTerms fa ff a.steps[i].eq d (wSteps fa ff (a.steps.take i) d r3.1).1).1).1).1 (.slice 15 ((wBounds fa ff a.steps[i].high d (wBounds fa ff a.steps[i].low d (wTerms fa ff a.steps[i].eq d (wSteps fa ff (a.steps.take i) d r3.1).1).1).1).2.map Bound.v)))
    (h5 : WSpec H 25 [.agg [av, fv], .slice 14 (a.whr.map Term.v), vint d] r4.1 r5.1 (.slice 14 (r5.2.map Term.v)))
    (h6 : WSpec H 25 [.agg [av, fv], .slice 14 (a.group.map Term.v), vint d] r5.1 r6.1 (.slice 14 (r6.2.map Term.v)))
    (h7 : WSpec H 25 [.agg [av, fv], .slice 14 (a.having.map Term.v), vint d] r6.1 r7.1 (.slice 14 (r7.2.map Term.v)))
    (h8 : WSpec H 25 [.agg [av, fv], .slice 14 (a.out.map Term.v), vint d] r7.1 r8.1 (.slice 14 (r8.2.map Term.v)))
    (h9 : WSpec H 25 [.agg [av, fv], .slice 14 (a.extra.map Term.v), vint d] r8.1 r9.1 (.slice 14 (r9.2.map Term.v)))
    (hav : (av = .base .nilFunc ∧ ∀ s a, fa s a = (s, a)) ∨ ∃ k f c, av = .func k f c ∧ ∀ s, H r9.1 s → ACalls Tryz.prog k (f ++ [.agg (Arm.v ⟨a.comp, a.distinct, a.values, r1.2, r2.2, r5.2, a.grouped, r6.2, r3.2, r7.2, r8.2, r9.2, r4.2⟩)] ++ c) s fun v s' => v = .agg (fa r9.1 ⟨a.comp, a.distinct, a.values, r1.2, r2.2, r5.2, a.grouped, r6.2, r3.2, r7.2, r8.2, r9.2, r4.2⟩).2.v ∧ H (fa r9.1 ⟨a.comp, a.distinct, a.values, r1.2, r2.2, r5.2, a.grouped, r6.2, r3.2, r7.2, r8.2, r9.2, r4.2⟩).1 s') :
    WSpec H 85 [.agg [av, fv], .agg a.v, vint d] σ0 (fa r9.1 ⟨a.comp, a.distinct, a.values, r1.2, r2.2, r5.2, a.grouped, r6.2, r3.2, r7.2, r8.2, r9.2, r4.2⟩).1 (.agg (fa r9.1 ⟨a.comp, a.distinct, a.values, r1.2, r2.2, r5.2, a.grouped, r6.2, r3.2, r7.2, r8.2, r9.2, r4.2⟩).2.v) := by
 have hac' := hac; have hfc' := hfc
 have harm : Arm.v ⟨a.comp, a.distinct, a.values, r1.2, r2.2, r5.2, a.grouped, r6.2, r3.2, r7.2, r8.2, r9.2, r4.2⟩ = [vint a.comp, vbool a.distinct, vbool a.values, .slice 1 (r1.2.map (fun l => [.slice 14 (l.map Term.v)])), .slice 7 (r2.2.map From.v), .slice 14 (r5.2.map Term.v), vbool a.grouped, .slice 14 (r6.2.map Term.v), .slice 5 (r3.2.map Agg.v), .slice 14 (r7.2.map Term.v), .slice 14 (r8.2.map Term.v), .slice 14 (r9.2.map Term.v), .slice 7 (r4.2.map Step.v)] := Arm.v_eq _
 intro s hH
 refine acalls_of (fn := Tryz.f85) Tryz.func85 rfl (by decide) (by show 3 ≤ 170; decide) ?_
 rw [Tryz.ntmps85]
 refine AWp.reg fun R1 hR1 => ?_
 simp only [hac', hfc', Arm.v_eq, ty75, ty81, am, seval, reduceCtorEq]
 refine hR1 _ ?_; clear hR1 R1
 refine AWp.regL mixed [0, 1, 2, 3, 4, 5, 6, 7, 8, 9, 10, 11] (by decide +kernel) [] (by decide +kernel) fun R2 hR2 => ?_
 simp only [ty31, ty68, ty69, ty71, ty72, ty73, ty75, ty107, ty130, aml, Nat.reduceBEq, am, seval, reduceCtorEq]
 refine hR2 _ ?_; clear hR2 R2
 refine AWp.reg fun R3 hR3 => ?_
 simp only [ty31, ty68, ty69, ty71, ty72, ty73, ty75, ty107, ty130, am, seval, reduceCtorEq]
 refine hR3 _ ?_; clear hR3 R3
 refine AWp.seq_k fun K4 hK4 => ?_
 refine AWp.reg fun R5 hR5 => ?_
 simp only [ty31, ty71, am, seval, reduceCtorEq]
 refine hR5 _ ?_; clear hR5 R5
 refine AWp.block ?_
 refine AWp.adoptB 4 3 (31, 1) (cs := [vint a.comp, vbool a.distinct, vbool a.values, .nil, .nil, .slice 14 (a.whr.map Term.v), vbool a.grouped, .slice 14 (a.group.map Term.v), .nil, .slice 14 (a.having.map Term.v), .slice 14 (a.out.map Term.v), .slice 14 (a.extra.map Term.v), .nil]) (ty := 75) (by simp only [am, seval, reduceCtorEq]) (.inl rfl) fun g hg => ?_
 change s.own g = none at hg
 refine AWp.loopT (ι := Nat × Nat × Heap) (fun i => i.1 ≤ a.rows.length ∧ i.2.2.own i.2.1 = none ∧ H (wRows fa ff (a.rows.take i.1) d σ0).1 i.2.2) (fun i => tst [(2, vint d), (3, .loc 3 0), (4, .loc 4 0), (6, .loc 6 0), (8, .slice 7 (a.frm.map From.v)), (9, .slice 5 (a.aggs.map Agg.v)), (10, .slice 7 (a.steps.map Step.v)), (31, .slice 1 (a.rows.map (fun l => [.slice 14 (l.map Term.v)]))), (32, vint a.rows.length), (33, vint i.1)] [(3, ([av, fv], 81)), (4, ([vint a.comp, vbool a.distinct, vbool a.values, .own i.2.1 1 ((wRows fa ff (a.rows.take i.1) d σ0).2.map (fun l => [.slice 14 (l.map Term.v)])), .nil, .slice 14 (a.whr.map Term.v), vbool a.grouped, .slice 14 (a.group.map Term.v), .nil, .slice 14 (a.having.map Term.v), .slice 14 (a.out.map Term.v), .slice 14 (a.extra.map Term.v), .nil], 75)), (6, ([vint 0, vbool false, vbool false, .nil, .nil, .nil, vbool false, .nil, .nil, .nil, .nil, .nil, .nil], 75))] (i.2.2.setOwn i.2.1 (some (31, 1))) 170) (fun i => a.rows.length - i.1) (0, g, s) ⟨⟨Nat.zero_le _, hg, by rw [wRows_zero]; exact hH⟩, ?_⟩ ?_
 ·refine le_tst ?_ ?_ ?_ (Heap.le.refl _) rfl
  ·simp only [leE, am, seval, reduceCtorEq] <;> simp
  ·simp only [oks, Nat.reduceBEq]
  ·simp only [leB, am, seval, reduceCtorEq]; simp [wRows]
 ·rintro ⟨i, g, s0⟩ ⟨hi, hg0, hH0⟩
  simp only at hi hg0 hH0 ⊢
  refine AWp.reg fun R6 hR6 => ?_
  simp only [ty3, am, seval, reduceCtorEq]
  refine hR6 _ ?_; clear hR6 R6
  refine AWp.seq_k fun K7 hK7 => ?_
  refine AWp.cond (t := decide ((i:Int) < a.rows.length)) (by simp only [am, seval, reduceCtorEq]) (fun ht => ?_) (fun ht => ?_)
  ·have hlt : i < a.rows.length := lt_of_dec ht
   have ix0 : (0 ≤ (i : Int)) = True := by simp
   have ix1 : ((i : Int) < (a.rows.length : Int)) = True := by simp [hlt]
   refine AWp.skip ?_
   refine hK7 _ ?_; clear hK7
   refine AWp.seq_k fun K8 hK8 => ?_
   refine AWp.block ?_
   refine AWp.reg fun R9 hR9 => ?_
   simp only [ix0, ix1, true_and, getD_map _ _ _ hlt, true_and, ty31, ty49, ty71, am, seval, reduceCtorEq]
   refine hR9 _ ?_; clear hR9 R9
   refine AWp.regL1 mixed [0, 1, 2, 3, 4, 5, 6, 7, 8, 9] (by decide +kernel) [99999] (by decide +kernel) fun R10 hR10 => ?_
   simp only [ty31, ty71, ty75, ty81, aml, Nat.reduceBEq, am, seval, reduceCtorEq]
   refine ((hRow i hlt _ hH0).frame1 (31, 1) hg0).mono ?_
   rintro _ _ ⟨s1, ⟨rfl, hH1⟩, hg1, rfl⟩
   simp only [ty31, ty71, ty75, ty81, aml, Nat.reduceBEq, am, seval, reduceCtorEq]
   refine ⟨own_same _ _ _, by simp only [List.length_map, wRows_len, List.length_take]; omega, by simp only [List.length_map, wRows_len, List.length_take, maxLen]; omega, fun g' hg' => ?_⟩
   refine hR10 _ ?_; clear hR10 R10
   refine hK8 _ ?_; clear hK8
   refine AWp.reg1 fun R11 hR11 => ?_
   simp only [ty3, am, seval, reduceCtorEq]
   refine hR11 _ ?_; clear hR11 R11
   refine ⟨(i + 1, g', s1), ⟨⟨hlt, own_fresh hg', by rw [wRows_succ _ _ _ _ _ _ hlt]; exact hH1⟩, by simp only; omega⟩, ?_⟩
   refine le_tst ?_ ?_ ?_ (own_step hg1 _ _ _) rfl
   ·simp only [leE, am, seval, reduceCtorEq]; rw [wrap_id (by omega) (by omega)]; simp
   ·simp only [oks, Nat.reduceBEq]
   ·simp only [leB, am, seval, reduceCtorEq]; rw [wRows_succ _ _ _ _ _ _ hlt]; simp []
  ·obtain rfl : i = a.rows.length := eq_of_dec ht hi
   rw [List.take_length, ← e1] at hH0
   rw [List.take_length, ← e1]
   refine AWp.exit ?_
   simp only [exq, seval]
   refine hK4 _ ?_; clear hK4
   refine AWp.wkB 4 (cs := [vint a.comp, vbool a.distinct, vbool a.values, .own g 1 (r1.2.map (fun l => [.slice 14 (l.map Term.v)])), .nil, .slice 14 (a.whr.map Term.v), vbool a.grouped, .slice 14 (a.group.map Term.v), .nil, .slice 14 (a.having.map Term.v), .slice 14 (a.out.map Term.v), .slice 14 (a.extra.map Term.v), .nil]) (ty := 75) [vint a.comp, vbool a.distinct, vbool a.values, .slice 1 (r1.2.map (fun l => [.slice 14 (l.map Term.v)])), .nil, .slice 14 (a.whr.map Term.v), vbool a.grouped, .slice 14 (a.group.map Term.v), .nil, .slice 14 (a.having.map Term.v), .slice 14 (a.out.map Term.v), .slice 14 (a.extra.map Term.v), .nil] (by simp only [am, seval, reduceCtorEq]) ⟨Wk.refl _, Wk.refl _, Wk.refl _, Wk.own _ _ _, Wk.refl _, Wk.refl _, Wk.refl _, Wk.refl _, Wk.refl _, Wk.refl _, Wk.refl _, Wk.refl _, Wk.refl _, trivial⟩ ?_
   refine AWp.weaken (st' := tst [(2, vint d), (3, .loc 3 0), (4, .loc 4 0), (6, .loc 6 0), (8, .slice 7 (a.frm.map From.v)), (9, .slice 5 (a.aggs.map Agg.v)), (10, .slice 7 (a.steps.map Step.v))] [(3, ([av, fv], 81)), (4, ([vint a.comp, vbool a.distinct, vbool a.values, .slice 1 (r1.2.map (fun l => [.slice 14 (l.map Term.v)])), .nil, .slice 14 (a.whr.map Term.v), vbool a.grouped, .slice 14 (a.group.map Term.v), .nil, .slice 14 (a.having.map Term.v), .slice 14 (a.out.map Term.v), .slice 14 (a.extra.map Term.v), .nil], 75)), (6, ([vint 0, vbool false, vbool false, .nil, .nil, .nil, vbool false, .nil, .nil, .nil, .nil, .nil, .nil], 75))] s0 170) ?_ ?_
   ·refine le_tst ?_ ?_ ?_ (own_drop hg0 _) rfl
    ·simp only [leE, am, seval, reduceCtorEq]
    ·simp only [oks, Nat.reduceBEq]
    ·simp only [leB, am, seval, reduceCtorEq]
   skip
   have hX0 := hH0; clear hH0 hg0
   refine AWp.seq_k fun K12 hK12 => ?_
   refine AWp.reg fun R13 hR13 => ?_
   simp only [ty72, ty107, am, seval, reduceCtorEq]
   refine hR13 _ ?_; clear hR13 R13
   refine AWp.block ?_
   refine AWp.adoptB 4 4 (107, 7) (cs := [vint a.comp, vbool a.distinct, vbool a.values, .slice 1 (r1.2.map (fun l => [.slice 14 (l.map Term.v)])), .nil, .slice 14 (a.whr.map Term.v), vbool a.grouped, .slice 14 (a.group.map Term.v), .nil, .slice 14 (a.having.map Term.v), .slice 14 (a.out.map Term.v), .slice 14 (a.extra.map Term.v), .nil]) (ty := 75) (by simp only [am, seval, reduceCtorEq]) (.inl rfl) fun g hg => ?_
   change s0.own g = none at hg
   refine AWp.loopT (ι := Nat × Nat × Heap) (fun i => i.1 ≤ a.frm.length ∧ i.2.2.own i.2.1 = none ∧ H (wFroms fa ff (a.frm.take i.1) d r1.1).1 i.2.2) (fun i => tst [(2, vint d), (3, .loc 3 0), (4, .loc 4 0), (6, .loc 6 0), (9, .slice 5 (a.aggs.map Agg.v)), (10, .slice 7 (a.steps.map Step.v)), (47, .slice 7 (a.frm.map From.v)), (48, vint a.frm.length), (49, vint i.1)] [(3, ([av, fv], 81)), (4, ([vint a.comp, vbool a.distinct, vbool a.values, .slice 1 (r1.2.map (fun l => [.slice 14 (l.map Term.v)])), .own i.2.1 7 ((wFroms fa ff (a.frm.take i.1) d r1.1).2.map From.v), .slice 14 (a.whr.map Term.v), vbool a.grouped, .slice 14 (a.group.map Term.v), .nil, .slice 14 (a.having.map Term.v), .slice 14 (a.out.map Term.v), .slice 14 (a.extra.map Term.v), .nil], 75)), (6, ([vint 0, vbool false, vbool false, .nil, .nil, .nil, vbool false, .nil, .nil, .nil, .nil, .nil, .nil], 75))] (i.2.2.setOwn i.2.1 (some (107, 7))) 170) (fun i => a.frm.length - i.1) (0, g, s0) ⟨⟨Nat.zero_le _, hg, by rw [wFroms_zero]; exact hX0⟩, ?_⟩ ?_
   ·refine le_tst ?_ ?_ ?_ (Heap.le.refl _) rfl
    ·simp only [leE, am, seval, reduceCtorEq] <;> simp
    ·simp only [oks, Nat.reduceBEq]
    ·simp only [leB, am, seval, reduceCtorEq]; simp [wFroms]
   ·rintro ⟨i, g, s0⟩ ⟨hi, hg0, hH0⟩
    simp only at hi hg0 hH0 ⊢
    refine AWp.reg fun R14 hR14 => ?_
    simp only [ty3, am, seval, reduceCtorEq]
    refine hR14 _ ?_; clear hR14 R14
    refine AWp.seq_k fun K15 hK15 => ?_
    refine AWp.cond (t := decide ((i:Int) < a.frm.length)) (by simp only [am, seval, reduceCtorEq]) (fun ht => ?_) (fun ht => ?_)
    ·have hlt : i < a.frm.length := lt_of_dec ht
     have ix0 : (0 ≤ (i : Int)) = True := by simp
     have ix1 : ((i : Int) < (a.frm.length : Int)) = True := by simp [hlt]
     refine AWp.skip ?_
     refine hK15 _ ?_; clear hK15
     refine AWp.seq_k fun K16 hK16 => ?_
     refine AWp.block ?_
     refine AWp.reg fun R17 hR17 => ?_
     simp only [ix0, ix1, true_and, getD_map _ _ _ hlt, From.v_eq, ty72, ty107, am, seval, reduceCtorEq]
     refine hR17 _ ?_; clear hR17 R17
     refine AWp.regL mixed [0, 1, 2, 3, 5, 6, 7, 8, 4, 10, 9, 11, 12, 13] (by decide +kernel) [99999] (by decide +kernel) fun R18 hR18 => ?_
     simp only [ty31, ty33, ty47, ty49, ty81, ty107, aml, Nat.reduceBEq, am, seval, reduceCtorEq]
     refine ((hFS i hlt _ hH0).frame1 (107, 7) hg0).mono ?_
     rintro _ _ ⟨s2, ⟨rfl, hH2⟩, hg2, rfl⟩
     simp only [ty31, ty33, ty47, ty49, ty81, ty107, aml, Nat.reduceBEq, am, seval, reduceCtorEq]
     refine ((hFO i hlt _ hH2).frame1 (107, 7) hg2).mono ?_
     rintro _ _ ⟨s3, ⟨rfl, hH3⟩, hg3, rfl⟩
     simp only [ty31, ty33, ty47, ty49, ty81, ty107, aml, Nat.reduceBEq, am, seval, reduceCtorEq]
     refine hR18 _ ?_; clear hR18 R18
     refine AWp.reg1 fun R19 hR19 => ?_
     simp only [ty72, ty75, ty107, am, seval, reduceCtorEq]
     refine ⟨own_same _ _ _, by simp only [List.length_map, wFroms_len, List.length_take]; omega, by simp only [List.length_map, wFroms_len, List.length_take, maxLen]; omega, fun g' hg' => ?_⟩
     refine hR19 _ ?_; clear hR19 R19
     refine hK16 _ ?_; clear hK16
     refine AWp.reg1 fun R20 hR20 => ?_
     simp only [ty3, am, seval, reduceCtorEq]
     refine hR20 _ ?_; clear hR20 R20
     refine ⟨(i + 1, g', s3), ⟨⟨hlt, own_fresh hg', by rw [wFroms_succ _ _ _ _ _ _ hlt, wFrom_eq]; exact hH3⟩, by simp only; omega⟩, ?_⟩
     refine le_tst ?_ ?_ ?_ (own_step hg3 _ _ _) rfl
     ·simp only [leE, am, seval, reduceCtorEq]; rw [wrap_id (by omega) (by omega)]; simp
     ·simp only [oks, Nat.reduceBEq]
     ·simp only [leB, am, seval, reduceCtorEq]; rw [wFroms_succ _ _ _ _ _ _ hlt, wFrom_eq]; simp [From.v_eq]
    ·obtain rfl : i = a.frm.length := eq_of_dec ht hi
     rw [List.take_length, ← e2] at hH0
     rw [List.take_length, ← e2]
     refine AWp.exit ?_
     simp only [exq, seval]
     refine hK12 _ ?_; clear hK12
     refine AWp.wkB 4 (cs := [vint a.comp, vbool a.distinct, vbool a.values, .slice 1 (r1.2.map (fun l => [.slice 14 (l.map Term.v)])), .own g 7 (r2.2.map From.v), .slice 14 (a.whr.map Term.v), vbool a.grouped, .slice 14 (a.group.map Term.v), .nil, .slice 14 (a.having.map Term.v), .slice 14 (a.out.map Term.v), .slice 14 (a.extra.map Term.v), .nil]) (ty := 75) [vint a.comp, vbool a.distinct, vbool a.values, .slice 1 (r1.2.map (fun l => [.slice 14 (l.map Term.v)])), .slice 7 (r2.2.map From.v), .slice 14 (a.whr.map Term.v), vbool a.grouped, .slice 14 (a.group.map Term.v), .nil, .slice 14 (a.having.map Term.v), .slice 14 (a.out.map Term.v), .slice 14 (a.extra.map Term.v), .nil] (by simp only [am, seval, reduceCtorEq]) ⟨Wk.refl _, Wk.refl _, Wk.refl _, Wk.refl _, Wk.own _ _ _, Wk.refl _, Wk.refl _, Wk.refl _, Wk.refl _, Wk.refl _, Wk.refl _, Wk.refl _, Wk.refl _, trivial⟩ ?_
     refine AWp.weaken (st' := tst [(2, vint d), (3, .loc 3 0), (4, .loc 4 0), (6, .loc 6 0), (9, .slice 5 (a.aggs.map Agg.v)), (10, .slice 7 (a.steps.map Step.v))] [(3, ([av, fv], 81)), (4, ([vint a.comp, vbool a.distinct, vbool a.values, .slice 1 (r1.2.map (fun l => [.slice 14 (l.map Term.v)])), .slice 7 (r2.2.map From.v), .slice 14 (a.whr.map Term.v), vbool a.grouped, .slice 14 (a.group.map Term.v), .nil, .slice 14 (a.having.map Term.v), .slice 14 (a.out.map Term.v), .slice 14 (a.extra.map Term.v), .nil], 75)), (6, ([vint 0, vbool false, vbool false, .nil, .nil, .nil, vbool false, .nil, .nil, .nil, .nil, .nil, .nil], 75))] s0 170) ?_ ?_
     ·refine le_tst ?_ ?_ ?_ (own_drop hg0 _) rfl
      ·simp only [leE, am, seval, reduceCtorEq]
      ·simp only [oks, Nat.reduceBEq]
      ·simp only [leB, am, seval, reduceCtorEq]
     skip
     have hX1 := hH0; clear hH0 hg0
     refine AWp.seq_k fun K21 hK21 => ?_
     refine AWp.reg fun R22 hR22 => ?_
     simp only [ty73, ty130, am, seval, reduceCtorEq]
     refine hR22 _ ?_; clear hR22 R22
     refine AWp.block ?_
     refine AWp.adoptB 4 8 (130, 5) (cs := [vint a.comp, vbool a.distinct, vbool a.values, .slice 1 (r1.2.map (fun l => [.slice 14 (l.map Term.v)])), .slice 7 (r2.2.map From.v), .slice 14 (a.whr.map Term.v), vbool a.grouped, .slice 14 (a.group.map Term.v), .nil, .slice 14 (a.having.map Term.v), .slice 14 (a.out.map Term.v), .slice 14 (a.extra.map Term.v), .nil]) (ty := 75) (by simp only [am, seval, reduceCtorEq]) (.inl rfl) fun g hg => ?_
     change s0.own g = none at hg
     refine AWp.loopT (ι := Nat × Nat × Heap) (fun i => i.1 ≤ a.aggs.length ∧ i.2.2.own i.2.1 = none ∧ H (wAggs fa ff (a.aggs.take i.1) d r2.1).1 i.2.2) (fun i => tst [(2, vint d), (3, .loc 3 0), (4, .loc 4 0), (6, .loc 6 0), (10, .slice 7 (a.steps.map Step.v)), (72, .slice 5 (a.aggs.map Agg.v)), (73, vint a.aggs.length), (74, vint i.1)] [(3, ([av, fv], 81)), (4, ([vint a.comp, vbool a.distinct, vbool a.values, .slice 1 (r1.2.map (fun l => [.slice 14 (l.map Term.v)])), .slice 7 (r2.2.map From.v), .slice 14 (a.whr.map Term.v), vbool a.grouped, .slice 14 (a.group.map Term.v), .own i.2.1 5 ((wAggs fa ff (a.aggs.take i.1) d r2.1).2.map Agg.v), .slice 14 (a.having.map Term.v), .slice 14 (a.out.map Term.v), .slice 14 (a.extra.map Term.v), .nil], 75)), (6, ([vint 0, vbool false, vbool false, .nil, .nil, .nil, vbool false, .nil, .nil, .nil, .nil, .nil, .nil], 75))] (i.2.2.setOwn i.2.1 (some (130, 5))) 170) (fun i => a.aggs.length - i.1) (0, g, s0) ⟨⟨Nat.zero_le _, hg, by rw [wAggs_zero]; exact hX1⟩, ?_⟩ ?_
     ·refine le_tst ?_ ?_ ?_ (Heap.le.refl _) rfl
      ·simp only [leE, am, seval, reduceCtorEq] <;> simp
      ·simp only [oks, Nat.reduceBEq]
      ·simp only [leB, am, seval, reduceCtorEq]; simp [wAggs]
     ·rintro ⟨i, g, s0⟩ ⟨hi, hg0, hH0⟩
      simp only at hi hg0 hH0 ⊢
      refine AWp.reg fun R23 hR23 => ?_
      simp only [ty3, am, seval, reduceCtorEq]
      refine hR23 _ ?_; clear hR23 R23
      refine AWp.seq_k fun K24 hK24 => ?_
      refine AWp.cond (t := decide ((i:Int) < a.aggs.length)) (by simp only [am, seval, reduceCtorEq]) (fun ht => ?_) (fun ht => ?_)
      ·have hlt : i < a.aggs.length := lt_of_dec ht
       have ix0 : (0 ≤ (i : Int)) = True := by simp
       have ix1 : ((i : Int) < (a.aggs.length : Int)) = True := by simp [hlt]
       refine AWp.skip ?_
       refine hK24 _ ?_; clear hK24
       refine AWp.seq_k fun K25 hK25 => ?_
       refine AWp.block ?_
       refine AWp.reg fun R26 hR26 => ?_
       simp only [ix0, ix1, true_and, getD_map _ _ _ hlt, Agg.v_eq, ty73, ty130, am, seval, reduceCtorEq]
       refine hR26 _ ?_; clear hR26 R26
       refine AWp.reg fun R27 hR27 => ?_
       simp only [ty31, ty49, ty81, ty130, am, seval, reduceCtorEq]
       refine ((hAg i hlt _ hH0).frame1 (130, 5) hg0).mono ?_
       rintro _ _ ⟨s4, ⟨rfl, hH4⟩, hg4, rfl⟩
       simp only [ty31, ty49, ty81, ty130, am, seval, reduceCtorEq]
       refine hR27 _ ?_; clear hR27 R27
       refine AWp.reg1 fun R28 hR28 => ?_
       simp only [ty73, ty75, ty130, am, seval, reduceCtorEq]
       refine ⟨own_same _ _ _, by simp only [List.length_map, wAggs_len, List.length_take]; omega, by simp only [List.length_map, wAggs_len, List.length_take, maxLen]; omega, fun g' hg' => ?_⟩
       refine hR28 _ ?_; clear hR28 R28
       refine hK25 _ ?_; clear hK25
       refine AWp.reg1 fun R29 hR29 => ?_
       simp only [ty3, am, seval, reduceCtorEq]
       refine hR29 _ ?_; clear hR29 R29
       refine ⟨(i + 1, g', s4), ⟨⟨hlt, own_fresh hg', by rw [wAggs_succ _ _ _ _ _ _ hlt, wAgg_eq]; exact hH4⟩, by simp only; omega⟩, ?_⟩
       refine le_tst ?_ ?_ ?_ (own_step hg4 _ _ _) rfl
       ·simp only [leE, am, seval, reduceCtorEq]; rw [wrap_id (by omega) (by omega)]; simp
       ·simp only [oks, Nat.reduceBEq]
       ·simp only [leB, am, seval, reduceCtorEq]; rw [wAggs_succ _ _ _ _ _ _ hlt, wAgg_eq]; simp [Agg.v_eq]
      ·obtain rfl : i = a.aggs.length := eq_of_dec ht hi
       rw [List.take_length, ← e3] at hH0
       rw [List.take_length, ← e3]
       refine AWp.exit ?_
       simp only [exq, seval]
       refine hK21 _ ?_; clear hK21
       refine AWp.wkB 4 (cs := [vint a.comp, vbool a.distinct, vbool a.values, .slice 1 (r1.2.map (fun l => [.slice 14 (l.map Term.v)])), .slice 7 (r2.2.map From.v), .slice 14 (a.whr.map Term.v), vbool a.grouped, .slice 14 (a.group.map Term.v), .own g 5 (r3.2.map Agg.v), .slice 14 (a.having.map Term.v), .slice 14 (a.out.map Term.v), .slice 14 (a.extra.map Term.v), .nil]) (ty := 75) [vint a.comp, vbool a.distinct, vbool a.values, .slice 1 (r1.2.map (fun l => [.slice 14 (l.map Term.v)])), .slice 7 (r2.2.map From.v), .slice 14 (a.whr.map Term.v), vbool a.grouped, .slice 14 (a.group.map Term.v), .slice 5 (r3.2.map Agg.v), .slice 14 (a.having.map Term.v), .slice 14 (a.out.map Term.v), .slice 14 (a.extra.map Term.v), .nil] (by simp only [am, seval, reduceCtorEq]) ⟨Wk.refl _, Wk.refl _, Wk.refl _, Wk.refl _, Wk.refl _, Wk.refl _, Wk.refl _, Wk.refl _, Wk.own _ _ _, Wk.refl _, Wk.refl _, Wk.refl _, Wk.refl _, trivial⟩ ?_
       refine AWp.weaken (st' := tst [(2, vint d), (3, .loc 3 0), (4, .loc 4 0), (6, .loc 6 0), (10, .slice 7 (a.steps.map Step.v))] [(3, ([av, fv], 81)), (4, ([vint a.comp, vbool a.distinct, vbool a.values, .slice 1 (r1.2.map (fun l => [.slice 14 (l.map Term.v)])), .slice 7 (r2.2.map From.v), .slice 14 (a.whr.map Term.v), vbool a.grouped, .slice 14 (a.group.map Term.v), .slice 5 (r3.2.map Agg.v), .slice 14 (a.having.map Term.v), .slice 14 (a.out.map Term.v), .slice 14 (a.extra.map Term.v), .nil], 75)), (6, ([vint 0, vbool false, vbool false, .nil, .nil, .nil, vbool false, .nil, .nil, .nil, .nil, .nil, .nil], 75))] s0 170) ?_ ?_
       ·refine le_tst ?_ ?_ ?_ (own_drop hg0 _) rfl
        ·simp only [leE, am, seval, reduceCtorEq]
        ·simp only [oks, Nat.reduceBEq]
        ·simp only [leB, am, seval, reduceCtorEq]
       skip
       have hX2 := hH0; clear hH0 hg0
       refine AWp.seq_k fun K30 hK30 => ?_
       refine AWp.reg fun R31 hR31 => ?_
       simp only [ty68, ty69, am, seval, reduceCtorEq]
       refine hR31 _ ?_; clear hR31 R31
       refine AWp.block ?_
       refine AWp.adoptB 4 12 (68, 7) (cs := [vint a.comp, vbool a.distinct, vbool a.values, .slice 1 (r1.2.map (fun l => [.slice 14 (l.map Term.v)])), .slice 7 (r2.2.map From.v), .slice 14 (a.whr.map Term.v), vbool a.grouped, .slice 14 (a.group.map Term.v), .slice 5 (r3.2.map Agg.v), .slice 14 (a.having.map Term.v), .slice 14 (a.out.map Term.v), .slice 14 (a.extra.map Term.v), .nil]) (ty := 75) (by simp only [am, seval, reduceCtorEq]) (.inl rfl) fun g hg => ?_
       change s0.own g = none at hg
       refine AWp.loopT (ι := Nat × Nat × Heap) (fun i => i.1 ≤ a.steps.length ∧ i.2.2.own i.2.1 = none ∧ H (wSteps fa ff (a.steps.take i.1) d r3.1).1 i.2.2) (fun i => tst [(2, vint d), (3, .loc 3 0), (4, .loc 4 0), (6, .loc 6 0), (91, .slice 7 (a.steps.map Step.v)), (92, vint a.steps.length), (93, vint i.1)] [(3, ([av, fv], 81)), (4, ([vint a.comp, vbool a.distinct, vbool a.values, .slice 1 (r1.2.map (fun l => [.slice 14 (l.map Term.v)])), .slice 7 (r2.2.map From.v), .slice 14 (a.whr.map Term.v), vbool a.grouped, .slice 14 (a.group.map Term.v), .slice 5 (r3.2.map Agg.v), .slice 14 (a.having.map Term.v), .slice 14 (a.out.map Term.v), .slice 14 (a.extra.map Term.v), .own i.2.1 7 ((wSteps fa ff (a.steps.take i.1) d r3.1).2.map Step.v)], 75)), (6, ([vint 0, vbool false, vbool false, .nil, .nil, .nil, vbool false, .nil, .nil, .nil, .nil, .nil, .nil], 75))] (i.2.2.setOwn i.2.1 (some (68, 7))) 170) (fun i => a.steps.length - i.1) (0, g, s0) ⟨⟨Nat.zero_le _, hg, by rw [wSteps_zero]; exact hX2⟩, ?_⟩ ?_
       ·refine le_tst ?_ ?_ ?_ (Heap.le.refl _) rfl
        ·simp only [leE, am, seval, reduceCtorEq] <;> simp
        ·simp only [oks, Nat.reduceBEq]
        ·simp only [leB, am, seval, reduceCtorEq]; simp [wSteps]
       ·rintro ⟨i, g, s0⟩ ⟨hi, hg0, hH0⟩
        simp only at hi hg0 hH0 ⊢
        refine AWp.reg fun R32 hR32 => ?_
        simp only [ty3, am, seval, reduceCtorEq]
        refine hR32 _ ?_; clear hR32 R32
        refine AWp.seq_k fun K33 hK33 => ?_
        refine AWp.cond (t := decide ((i:Int) < a.steps.length)) (by simp only [am, seval, reduceCtorEq]) (fun ht => ?_) (fun ht => ?_)
        ·have hlt : i < a.steps.length := lt_of_dec ht
         have ix0 : (0 ≤ (i : Int)) = True := by simp
         have ix1 : ((i : Int) < (a.steps.length : Int)) = True := by simp [hlt]
         refine AWp.skip ?_
         refine hK33 _ ?_; clear hK33
         refine AWp.seq_k fun K34 hK34 => ?_
         refine AWp.block ?_
         refine AWp.reg fun R35 hR35 => ?_
         simp only [ix0, ix1, true_and, getD_map _ _ _ hlt, Step.v_eq, ty68, ty69, am, seval, reduceCtorEq]
         refine hR35 _ ?_; clear hR35 R35
         refine AWp.reg fun R36 hR36 => ?_
         simp only [ty3, ty50, ty68, am, seval, reduceCtorEq]
         refine (f73_spec _ (by simp only [List.length_map]; exact hCl i hlt) _).mono fun v' s' h => ?_
         rw [h.1, h.2]; clear h v' s'
         simp only [ty3, ty50, ty68, am, seval, reduceCtorEq]
         refine hR36 _ ?_; clear hR36 R36
         refine AWp.regL mixed [0, 1, 2, 3, 4, 6, 7, 8, 9, 10, 12, 13, 14, 15, 16, 5, 18, 19, 11, 17, 20, 21, 22, 23, 24, 25, 26] (by decide +kernel) [99999] (by decide +kernel) fun R37 hR37 => ?_
         simp only [ty31, ty49, ty64, ty66, ty68, ty81, ty132, List.append_eq, aml, Nat.reduceBEq, am, seval, reduceCtorEq]
         refine ((hSE i hlt _ hH0).frame1 (68, 7) hg0).mono ?_
         rintro _ _ ⟨s5, ⟨rfl, hH5⟩, hg5, rfl⟩
         simp only [ty31, ty49, ty64, ty66, ty68, ty81, ty132, List.append_eq, aml, Nat.reduceBEq, am, seval, reduceCtorEq]
         refine ((hSL i hlt _ hH5).frame1 (68, 7) hg5).mono ?_
         rintro _ _ ⟨s6, ⟨rfl, hH6⟩, hg6, rfl⟩
         simp only [ty31, ty49, ty64, ty66, ty68, ty81, ty132, List.append_eq, aml, Nat.reduceBEq, am, seval, reduceCtorEq]
         refine ((hSH i hlt _ hH6).frame1 (68, 7) hg6).mono ?_
         rintro _ _ ⟨s7, ⟨rfl, hH7⟩, hg7, rfl⟩
         simp only [ty31, ty49, ty64, ty66, ty68, ty81, ty132, List.append_eq, aml, Nat.reduceBEq, am, seval, reduceCtorEq]
         refine hR37 _ ?_; clear hR37 R37
         refine AWp.reg1 fun R38 hR38 => ?_
         simp only [ty68, ty69, ty75, am, seval, reduceCtorEq]
         refine ⟨own_same _ _ _, by simp only [List.length_map, wSteps_len, List.length_take]; omega, by simp only [List.length_map, wSteps_len, List.length_take, maxLen]; omega, fun g' hg' => ?_⟩
         refine hR38 _ ?_; clear hR38 R38
         refine hK34 _ ?_; clear hK34
         refine AWp.reg1 fun R39 hR39 => ?_
         simp only [ty3, am, seval, reduceCtorEq]
         refine hR39 _ ?_; clear hR39 R39
         refine ⟨(i + 1, g', s7), ⟨⟨hlt, own_fresh hg', by rw [wSteps_succ _ _ _ _ _ _ hlt, wStep_eq]; exact hH7⟩, by simp only; omega⟩, ?_⟩
         refine le_tst ?_ ?_ ?_ (own_step hg7 _ _ _) rfl
         ·simp only [leE, am, seval, reduceCtorEq]; rw [wrap_id (by omega) (by omega)]; simp
         ·simp only [oks, Nat.reduceBEq]
         ·simp only [leB, am, seval, reduceCtorEq]; rw [wSteps_succ _ _ _ _ _ _ hlt, wStep_eq]; simp [Step.v_eq]
        ·obtain rfl : i = a.steps.length := eq_of_dec ht hi
         rw [List.take_length, ← e4] at hH0
         rw [List.take_length, ← e4]
         refine AWp.exit ?_
         simp only [exq, seval]
         refine hK30 _ ?_; clear hK30
         refine AWp.wkB 4 (cs := [vint a.comp, vbool a.distinct, vbool a.values, .slice 1 (r1.2.map (fun l => [.slice 14 (l.map Term.v)])), .slice 7 (r2.2.map From.v), .slice 14 (a.whr.map Term.v), vbool a.grouped, .slice 14 (a.group.map Term.v), .slice 5 (r3.2.map Agg.v), .slice 14 (a.having.map Term.v), .slice 14 (a.out.map Term.v), .slice 14 (a.extra.map Term.v), .own g 7 (r4.2.map Step.v)]) (ty := 75) [vint a.comp, vbool a.distinct, vbool a.values, .slice 1 (r1.2.map (fun l => [.slice 14 (l.map Term.v)])), .slice 7 (r2.2.map From.v), .slice 14 (a.whr.map Term.v), vbool a.grouped, .slice 14 (a.group.map Term.v), .slice 5 (r3.2.map Agg.v), .slice 14 (a.having.map Term.v), .slice 14 (a.out.map Term.v), .slice 14 (a.extra.map Term.v), .slice 7 (r4.2.map Step.v)] (by simp only [am, seval, reduceCtorEq]) ⟨Wk.refl _, Wk.refl _, Wk.refl _, Wk.refl _, Wk.refl _, Wk.refl _, Wk.refl _, Wk.refl _, Wk.refl _, Wk.refl _, Wk.refl _, Wk.refl _, Wk.own _ _ _, trivial⟩ ?_
         refine AWp.weaken (st' := tst [(2, vint d), (3, .loc 3 0), (4, .loc 4 0), (6, .loc 6 0)] [(3, ([av, fv], 81)), (4, ([vint a.comp, vbool a.distinct, vbool a.values, .slice 1 (r1.2.map (fun l => [.slice 14 (l.map Term.v)])), .slice 7 (r2.2.map From.v), .slice 14 (a.whr.map Term.v), vbool a.grouped, .slice 14 (a.group.map Term.v), .slice 5 (r3.2.map Agg.v), .slice 14 (a.having.map Term.v), .slice 14 (a.out.map Term.v), .slice 14 (a.extra.map Term.v), .slice 7 (r4.2.map Step.v)], 75)), (6, ([vint 0, vbool false, vbool false, .nil, .nil, .nil, vbool false, .nil, .nil, .nil, .nil, .nil, .nil], 75))] s0 170) ?_ ?_
         ·refine le_tst ?_ ?_ ?_ (own_drop hg0 _) rfl
          ·simp only [leE, am, seval, reduceCtorEq]
          ·simp only [oks, Nat.reduceBEq]
          ·simp only [leB, am, seval, reduceCtorEq]
         skip
         have hX3 := hH0; clear hH0 hg0
         refine AWp.regL mixed [0, 1, 2, 3, 5, 6, 7, 8, 10, 11, 12, 13, 15, 16, 17, 18, 20, 21, 22, 23, 4, 25, 9, 14, 19, 24, 26, 27, 28, 29, 30, 31, 32, 33, 34] (by decide +kernel) [99999] (by decide +kernel) fun R40 hR40 => ?_
         simp only [ty31, ty49, ty75, ty81, List.append_eq, aml, Nat.reduceBEq, am, seval, reduceCtorEq]
         refine (h5 _ hX3).mono ?_
         rintro _ s8 ⟨rfl, hH8⟩
         simp only [ty31, ty49, ty75, ty81, List.append_eq, aml, Nat.reduceBEq, am, seval, reduceCtorEq]
         refine (h6 _ hH8).mono ?_
         rintro _ s9 ⟨rfl, hH9⟩
         simp only [ty31, ty49, ty75, ty81, List.append_eq, aml, Nat.reduceBEq, am, seval, reduceCtorEq]
         refine (h7 _ hH9).mono ?_
         rintro _ s10 ⟨rfl, hH10⟩
         simp only [ty31, ty49, ty75, ty81, List.append_eq, aml, Nat.reduceBEq, am, seval, reduceCtorEq]
         refine (h8 _ hH10).mono ?_
         rintro _ s11 ⟨rfl, hH11⟩
         simp only [ty31, ty49, ty75, ty81, List.append_eq, aml, Nat.reduceBEq, am, seval, reduceCtorEq]
         refine (h9 _ hH11).mono ?_
         rintro _ s12 ⟨rfl, hH12⟩
         simp only [ty31, ty49, ty75, ty81, List.append_eq, aml, Nat.reduceBEq, am, seval, reduceCtorEq]
         refine hR40 _ ?_; clear hR40 R40
         refine AWp.seq_k fun K41 hK41 => ?_
         rcases hav with ⟨rfl, hfa⟩ | ⟨kf, f1, c1, rfl, hK⟩
         ·refine AWp.reg fun R42 hR42 => ?_
          simp only [ty78, ty81, am, seval, reduceCtorEq]
          refine hR42 _ ?_; clear hR42 R42
          refine AWp.cond (t := false) (by simp only [am, seval, reduceCtorEq]) (fun h => by cases h) (fun _ => ?_)
          refine AWp.skip ?_
          refine hK41 _ ?_; clear hK41
          refine AWp.reg fun R43 hR43 => ?_
          simp only [ty75, am, seval, reduceCtorEq]
          refine hR43 _ ?_; clear hR43 R43
          refine AWp.ret ?_
          refine ret_intro (vs := [.agg [vint a.comp, vbool a.distinct, vbool a.values, .slice 1 (r1.2.map (fun l => [.slice 14 (l.map Term.v)])), .slice 7 (r2.2.map From.v), .slice 14 (r5.2.map Term.v), vbool a.grouped, .slice 14 (r6.2.map Term.v), .slice 5 (r3.2.map Agg.v), .slice 14 (r7.2.map Term.v), .slice 14 (r8.2.map Term.v), .slice 14 (r9.2.map Term.v), .slice 7 (r4.2.map Step.v)]]) (by show resV Tryz.prog _ [.cell 6 75] = _; simp only [resV, ty75, am, seval, reduceCtorEq]) (Wk.refl _) (Heap.le.refl _) ⟨?_, ?_⟩
          ·rw [hfa, Arm.v_eq]; rfl
          ·rw [hfa]; exact hH12
         ·refine AWp.reg fun R42 hR42 => ?_
          simp only [ty78, ty81, am, seval, reduceCtorEq]
          refine hR42 _ ?_; clear hR42 R42
          refine AWp.cond (t := true) (by simp only [am, seval, reduceCtorEq]) (fun _ => ?_) (fun h => by cases h)
          refine AWp.reg1 fun R43 hR43 => ?_
          simp only [Arm.v_eq, ty75, ty78, ty81, am, seval, reduceCtorEq]
          rw [← harm]
          refine (hK _ hH12).mono ?_
          rintro _ s13 ⟨rfl, hH13⟩
          simp only [Arm.v_eq, ty75, ty78, ty81, am, seval, reduceCtorEq]
          refine hR43 _ ?_; clear hR43 R43
          refine hK41 _ ?_; clear hK41
          refine AWp.reg fun R44 hR44 => ?_
          simp only [ty75, am, seval, reduceCtorEq]
          refine hR44 _ ?_; clear hR44 R44
          refine AWp.ret ?_
          refine ret_intro (vs := [.agg [vint (fa r9.1 ⟨a.comp, a.distinct, a.values, r1.2, r2.2, r5.2, a.grouped, r6.2, r3.2, r7.2, r8.2, r9.2, r4.2⟩).2.comp, vbool (fa r9.1 ⟨a.comp, a.distinct, a.values, r1.2, r2.2, r5.2, a.grouped, r6.2, r3.2, r7.2, r8.2, r9.2, r4.2⟩).2.distinct, vbool (fa r9.1 ⟨a.comp, a.distinct, a.values, r1.2, r2.2, r5.2, a.grouped, r6.2, r3.2, r7.2, r8.2, r9.2, r4.2⟩).2.values, .slice 1 ((fa r9.1 ⟨a.comp, a.distinct, a.values, r1.2, r2.2, r5.2, a.grouped, r6.2, r3.2, r7.2, r8.2, r9.2, r4.2⟩).2.rows.map (fun l => [.slice 14 (l.map Term.v)])), .slice 7 ((fa r9.1 ⟨a.comp, a.distinct, a.values, r1.2, r2.2, r5.2, a.grouped, r6.2, r3.2, r7.2, r8.2, r9.2, r4.2⟩).2.frm.map From.v), .slice 14 ((fa r9.1 ⟨a.comp, a.distinct, a.values, r1.2, r2.2, r5.2, a.grouped, r6.2, r3.2, r7.2, r8.2, r9.2, r4.2⟩).2.whr.map Term.v), vbool (fa r9.1 ⟨a.comp, a.distinct, a.values, r1.2, r2.2, r5.2, a.grouped, r6.2, r3.2, r7.2, r8.2, r9.2, r4.2⟩).2.grouped, .slice 14 ((fa r9.1 ⟨a.comp, a.distinct, a.values, r1.2, r2.2, r5.2, a.grouped, r6.2, r3.2, r7.2, r8.2, r9.2, r4.2⟩).2.group.map Term.v), .slice 5 ((fa r9.1 ⟨a.comp, a.distinct, a.values, r1.2, r2.2, r5.2, a.grouped, r6.2, r3.2, r7.2, r8.2, r9.2, r4.2⟩).2.aggs.map Agg.v), .slice 14 ((fa r9.1 ⟨a.comp, a.distinct, a.values, r1.2, r2.2, r5.2, a.grouped, r6.2, r3.2, r7.2, r8.2, r9.2, r4.2⟩).2.having.map Term.v), .slice 14 ((fa r9.1 ⟨a.comp, a.distinct, a.values, r1.2, r2.2, r5.2, a.grouped, r6.2, r3.2, r7.2, r8.2, r9.2, r4.2⟩).2.out.map Term.v), .slice 14 ((fa r9.1 ⟨a.comp, a.distinct, a.values, r1.2, r2.2, r5.2, a.grouped, r6.2, r3.2, r7.2, r8.2, r9.2, r4.2⟩).2.extra.map Term.v), .slice 7 ((fa r9.1 ⟨a.comp, a.distinct, a.values, r1.2, r2.2, r5.2, a.grouped, r6.2, r3.2, r7.2, r8.2, r9.2, r4.2⟩).2.steps.map Step.v)]]) (by show resV Tryz.prog _ [.cell 6 75] = _; simp only [resV, ty75, am, seval, reduceCtorEq]) (Wk.refl _) (Heap.le.refl _) ⟨?_, ?_⟩
          ·rw [Arm.v_eq]; rfl
          ·exact hH13
end Go.Proofs.YtcckhbconihagaaGreatDoor
set_option linter.unusedVariables false
namespace Go.Proofs.YtcckhbconihagaaGreatDoor
open Go.Am Go.Pl
theorem le_sumW {α : Type} (f : α → Nat) : ∀ (l : List α) (i : Nat) (hi : i < l.length), f l[i] ≤ (l.map f).sum
  | x :: l, 0, hi => by simp
  | x :: l, i + 1, hi => by
    have := le_sumW f l i (by simpa using hi)
    simp only [List.getElem_cons_succ, List.map_cons, List.sum_cons]; omega

/-- What comes to an arm: what the walker asks of whoever is asked. -/
structure Vis {σ : Type} (H : σ → Heap → Prop) (fa : σ → Arm → σ × Arm) (ff : σ → Term → Nat → σ) (av fv : V) (good : σ → Prop) : Prop where
  hac : av.isCell = true
  hfc : fv.isCell = true
  hgf : ∀ s t d, good (ff s t d) → good s
  hga : ∀ s a, good (fa s a).1 → good s
  hfv : (fv = .base .nilFunc ∧ ∀ s t d, ff s t d = s) ∨ ∃ k a c, fv = .func k a c
  hF : ∀ k a c, fv = .func k a c → ∀ (σ0 : σ) (t : Term) (d : Nat), t.op = 100 → good (ff σ0 t d) → ∀ s, H σ0 s → ACalls Tryz.prog k (a ++ [.agg t.v, vint d] ++ c) s fun _ s' => H (ff σ0 t d) s'
  hav : (av = .base .nilFunc ∧ ∀ s a, fa s a = (s, a)) ∨ ∃ k f c, av = .func k f c ∧ ∀ (σ0 : σ) (a : Arm), good (fa σ0 a).1 → ∀ s, H σ0 s → ACalls Tryz.prog k (f ++ [.agg a.v] ++ c) s fun v s' => v = .agg (fa σ0 a).2.v ∧ H (fa σ0 a).1 s'

section
variable {σ : Type} {H : σ → Heap → Prop} {fa : σ → Arm → σ × Arm} {ff : σ → Term → Nat → σ} {av fv : V} {good : σ → Prop}

def TermsOk (H : σ → Heap → Prop) (fa : σ → Arm → σ × Arm) (ff : σ → Term → Nat → σ) (av fv : V) (good : σ → Prop) (n : Nat) : Prop := ∀ (l : List Term) (d : Nat) (σ0 : σ), (l.map Term.w).sum ≤ n → d + n < 2^42 → good (wTerms fa ff l d σ0).1 → WSpec H 25 [.agg [av, fv], .slice 14 (l.map Term.v), vint d] σ0 (wTerms fa ff l d σ0).1 (.slice 14 ((wTerms fa ff l d σ0).2.map Term.v))
def QueriesOk (H : σ → Heap → Prop) (fa : σ → Arm → σ × Arm) (ff : σ → Term → Nat → σ) (av fv : V) (good : σ → Prop) (n : Nat) : Prop := ∀ (l : List Query) (d : Nat) (σ0 : σ), (l.map Query.w).sum ≤ n → d + n < 2^42 → good (wQueries fa ff l d σ0).1 → WSpec H 51 [.agg [av, fv], .slice 5 (l.map Query.v), vint d] σ0 (wQueries fa ff l d σ0).1 (.slice 5 ((wQueries fa ff l d σ0).2.map Query.v))
def ArmOk (H : σ → Heap → Prop) (fa : σ → Arm → σ × Arm) (ff : σ → Term → Nat → σ) (av fv : V) (good : σ → Prop) (n : Nat) : Prop := ∀ (a : Arm) (d : Nat) (σ0 : σ), a.w ≤ n → d + n < 2^42 → good (wArm fa ff a d σ0).1 → WSpec H 85 [.agg [av, fv], .agg a.v, vint d] σ0 (wArm fa ff a d σ0).1 (.agg (wArm fa ff a d σ0).2.v)

theorem bounds_ok (h : Vis H fa ff av fv good) {n : Nat} (hn : n ≤ 550024249344) (hT : TermsOk H fa ff av fv good n) (l : List Bound) (d : Nat) (σ0 : σ) (hl : (l.map Bound.w).sum ≤ n) (hd : d + n < 2^42) (hg : good (wBounds fa ff l d σ0).1) :
    WSpec H 132 [.agg [av, fv], .slice 15 (l.map Bound.v), vint d] σ0 (wBounds fa ff l d σ0).1 (.slice 15 ((wBounds fa ff l d σ0).2.map Bound.v)) := by
  have hlen := len_le Bound.w_pos l
  refine f132_spec H fa ff av fv h.hac h.hfc l d σ0 (by omega) fun i hi => ?_
  have hw := le_sumW Bound.w l i hi
  rw [Bound.w_eq] at hw
  have hgi := gdBounds_at fa ff good h.hgf h.hga l d σ0 i hi hg
  rw [wBound_eq] at hgi
  have e : ∀ s, wTerms fa ff [l[i].term] d s = ((wTerm fa ff l[i].term d s).1, [(wTerm fa ff l[i].term d s).2]) := fun s => by rw [wTerms, wTerms]
  have := hT [l[i].term] d (wBounds fa ff (l.take i) d σ0).1 (by simp; omega) hd (by rw [e]; exact hgi)
  rw [e] at this
  exact this

theorem terms_step (h : Vis H fa ff av fv good) {n : Nat} (hn : n + 1 ≤ 550024249344) (hT : TermsOk H fa ff av fv good n) (hQ : QueriesOk H fa ff av fv good n) : TermsOk H fa ff av fv good (n + 1) := by
  intro l d σ0 hl hd hg
  have hlen := len_le Term.w_pos l
  have ha : ∀ i (hi : i < l.length), good (wQueries fa ff l[i].sub (d + 1) (wTerms fa ff l[i].args d (fldS ff d (wTerms fa ff (l.take i) d σ0).1 l[i])).1).1 := fun i hi => by
    have := gdTerms_at fa ff good h.hgf h.hga l d σ0 i hi hg
    rwa [wTerm_eq] at this
  have hb : ∀ i (hi : i < l.length), good (wTerms fa ff l[i].args d (fldS ff d (wTerms fa ff (l.take i) d σ0).1 l[i])).1 := fun i hi => gdQueries fa ff good h.hgf h.hga _ _ _ (ha i hi)
  have hw : ∀ i (hi : i < l.length), (l[i].args.map Term.w).sum ≤ n ∧ (l[i].sub.map Query.w).sum ≤ n := fun i hi => by
    have := le_sumW Term.w l i hi
    rw [Term.w_eq] at this
    omega
  refine f25_spec H fa ff av fv h.hac h.hfc h.hfv l d σ0 (by omega) (by omega) (fun i hi k a c e ho s hs => ?_) (fun i hi => hT _ _ _ (hw i hi).1 (by omega) (hb i hi)) fun i hi => hQ _ _ _ (hw i hi).2 (by omega) (ha i hi)
  refine h.hF k a c e _ _ d ho ?_ s hs
  have := gdTerms fa ff good h.hgf h.hga _ _ _ (hb i hi)
  rwa [fldS, if_pos ho] at this

theorem queries_step (h : Vis H fa ff av fv good) {n : Nat} (hn : n + 1 ≤ 550024249344) (hT : TermsOk H fa ff av fv good n) (hA : ArmOk H fa ff av fv good n) : QueriesOk H fa ff av fv good (n + 1) := by
  intro l d σ0 hl hd hg
  have hlen := len_le Query.w_pos l
  have hw : ∀ i (hi : i < l.length), l[i].names.length + (l[i].arms.map Arm.w).sum + l[i].order.length + (l[i].limit.map Term.w).sum + (l[i].offset.map Term.w).sum ≤ n := fun i hi => by
    have := le_sumW Query.w l i hi
    rw [Query.w_eq] at this
    omega
  have hal : ∀ i (hi : i < l.length), l[i].arms.length ≤ (l[i].arms.map Arm.w).sum := fun i hi => len_le Arm.w_pos _
  have ha : ∀ i (hi : i < l.length), good (wArms fa ff l[i].arms d (wTerms fa ff l[i].offset d (wTerms fa ff l[i].limit d (wQueries fa ff (l.take i) d σ0).1).1).1).1 := fun i hi => by
    have := gdQueries_at fa ff good h.hgf h.hga l d σ0 i hi hg
    rwa [wQuery_eq] at this
  have hb := fun i hi => gdArms fa ff good h.hgf h.hga _ _ _ (ha i hi)
  have hc := fun i hi => gdTerms fa ff good h.hgf h.hga _ _ _ (hb i hi)
  refine f51_spec H fa ff av fv h.hac h.hfc l d σ0 (by omega) (fun i hi => ⟨by have := hw i hi; omega, by have := hw i hi; omega⟩) (fun i hi => by have := hw i hi; have := hal i hi; omega)
    (fun i hi => hT _ _ _ (by have := hw i hi; omega) (by omega) (hc i hi)) (fun i hi => hT _ _ _ (by have := hw i hi; omega) (by omega) (hb i hi)) fun i hi k hk => hA _ _ _ ?_ (by omega) ?_
  · have := hw i hi
    have := le_sumW Arm.w l[i].arms k hk
    omega
  · exact gdArms_at fa ff good h.hgf h.hga _ _ _ k hk (ha i hi)

theorem arm_step (h : Vis H fa ff av fv good) {n : Nat} (hn : n + 1 ≤ 550024249344) (hT : TermsOk H fa ff av fv good n) (hQ : QueriesOk H fa ff av fv good n) : ArmOk H fa ff av fv good (n + 1) := by
  intro a d σ0 hw hd hg
  rw [Arm.w_eq] at hw
  rw [wArm_eq] at hg ⊢
  have g9 := h.hga _ _ hg
  have g8 := gdTerms fa ff good h.hgf h.hga _ _ _ g9
  have g7 := gdTerms fa ff good h.hgf h.hga _ _ _ g8
  have g6 := gdTerms fa ff good h.hgf h.hga _ _ _ g7
  have g5 := gdTerms fa ff good h.hgf h.hga _ _ _ g6
  have g4 := gdTerms fa ff good h.hgf h.hga _ _ _ g5
  have g3 := gdSteps fa ff good h.hgf h.hga _ _ _ g4
  have g2 := gdAggs fa ff good h.hgf h.hga _ _ _ g3
  have g1 := gdFroms fa ff good h.hgf h.hga _ _ _ g2
  have l1 := len_le (f := fun l : List Term => 1 + (l.map Term.w).sum) (fun x => Nat.le_add_right 1 _) a.rows
  have l2 := len_le From.w_pos a.frm
  have l3 := len_le Agg.w_pos a.aggs
  have l4 := len_le Step.w_pos a.steps
  have wr : ∀ i (hi : i < a.rows.length), (a.rows[i].map Term.w).sum ≤ n := fun i hi => by
    have := le_sumW (fun l : List Term => 1 + (l.map Term.w).sum) a.rows i hi
    omega
  have wf : ∀ i (hi : i < a.frm.length), (a.frm[i].sub.map Query.w).sum ≤ n ∧ (a.frm[i].on.map Term.w).sum ≤ n := fun i hi => by
    have := le_sumW From.w a.frm i hi
    rw [From.w_eq] at this
    omega
  have wg : ∀ i (hi : i < a.aggs.length), (a.aggs[i].arg.map Term.w).sum ≤ n := fun i hi => by
    have := le_sumW Agg.w a.aggs i hi
    rw [Agg.w_eq] at this
    omega
  have ws : ∀ i (hi : i < a.steps.length), (a.steps[i].eq.map Term.w).sum + (a.steps[i].low.map Bound.w).sum + (a.steps[i].high.map Bound.w).sum + a.steps[i].whr.length ≤ n := fun i hi => by
    have := le_sumW Step.w a.steps i hi
    rw [Step.w_eq] at this
    omega
  have gf : ∀ i (hi : i < a.frm.length), good (wTerms fa ff a.frm[i].on d (wQueries fa ff a.frm[i].sub d (wFroms fa ff (a.frm.take i) d (wRows fa ff a.rows d σ0).1).1).1).1 := fun i hi => by
    have := gdFroms_at fa ff good h.hgf h.hga a.frm d _ i hi g2
    rwa [wFrom_eq] at this
  have gs : ∀ i (hi : i < a.steps.length), good (wBounds fa ff a.steps[i].high d (wBounds fa ff a.steps[i].low d (wTerms fa ff a.steps[i].eq d (wSteps fa ff (a.steps.take i) d (wAggs fa ff a.aggs d (wFroms fa ff a.frm d (wRows fa ff a.rows d σ0).1).1).1).1).1).1).1 := fun i hi => by
    have := gdSteps_at fa ff good h.hgf h.hga a.steps d _ i hi g4
    rwa [wStep_eq] at this
  have gs2 := fun i hi => gdBounds fa ff good h.hgf h.hga _ _ _ (gs i hi)
  have gs1 := fun i hi => gdBounds fa ff good h.hgf h.hga _ _ _ (gs2 i hi)
  refine f85_spec H fa ff av fv h.hac h.hfc a d σ0 _ _ _ _ _ _ _ _ _ rfl rfl rfl rfl (by omega) (by omega) (by omega) (by omega)
    (fun i hi => hT _ _ _ (wr i hi) (by omega) (gdRows_at fa ff good h.hgf h.hga _ _ _ i hi g1))
    (fun i hi => hQ _ _ _ (wf i hi).1 (by omega) (gdTerms fa ff good h.hgf h.hga _ _ _ (gf i hi)))
    (fun i hi => hT _ _ _ (wf i hi).2 (by omega) (gf i hi))
    (fun i hi => hT _ _ _ (wg i hi) (by omega) (by
      have := gdAggs_at fa ff good h.hgf h.hga a.aggs d _ i hi g3
      rwa [wAgg_eq] at this))
    (fun i hi => by have := ws i hi; omega)
    (fun i hi => hT _ _ _ (by have := ws i hi; omega) (by omega) (gs1 i hi))
    (fun i hi => bounds_ok h (by omega) hT _ _ _ (by have := ws i hi; omega) (by omega) (gs2 i hi))
    (fun i hi => bounds_ok h (by omega) hT _ _ _ (by have := ws i hi; omega) (by omega) (gs i hi))
    (hT _ _ _ (by omega) (by omega) g5) (hT _ _ _ (by omega) (by omega) g6) (hT _ _ _ (by omega) (by omega) g7) (hT _ _ _ (by omega) (by omega) g8) (hT _ _ _ (by omega) (by omega) g9) ?_
  rcases h.hav with hv | ⟨k, f, c, hv, hK⟩
  · exact .inl hv
  · exact .inr ⟨k, f, c, hv, fun s hs => hK _ _ hg s hs⟩

/-- **The walker.** -/
theorem walk_all (h : Vis H fa ff av fv good) : ∀ n, n ≤ 550024249344 → TermsOk H fa ff av fv good n ∧ QueriesOk H fa ff av fv good n ∧ ArmOk H fa ff av fv good n
  | 0, _ => by
    refine ⟨fun l d σ0 hl hd hg => ?_, fun l d σ0 hl hd hg => ?_, fun a d σ0 hw => ?_⟩
    · have := len_le Term.w_pos l
      obtain rfl : l = [] := List.eq_nil_of_length_eq_zero (by omega)
      exact f25_spec H fa ff av fv h.hac h.hfc h.hfv [] d σ0 (by simp) (by omega) (fun i hi => by simp at hi) (fun i hi => by simp at hi) fun i hi => by simp at hi
    · have := len_le Query.w_pos l
      obtain rfl : l = [] := List.eq_nil_of_length_eq_zero (by omega)
      exact f51_spec H fa ff av fv h.hac h.hfc [] d σ0 (by simp) (fun i hi => by simp at hi) (fun i hi => by simp at hi) (fun i hi => by simp at hi) (fun i hi => by simp at hi) fun i hi => by simp at hi
    · have := a.w_pos; omega
  | n + 1, hn => by
    obtain ⟨h1, h2, h3⟩ := walk_all h n (by omega)
    exact ⟨terms_step h hn h1 h2, queries_step h hn h1 h3, arm_step h hn h1 h2⟩
end
end Go.Proofs.YtcckhbconihagaaGreatDoor
