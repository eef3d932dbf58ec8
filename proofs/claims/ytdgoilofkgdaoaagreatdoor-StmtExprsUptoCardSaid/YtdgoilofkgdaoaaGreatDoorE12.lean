/- slices.Clone: an empty slice, or one in a heap box of its own. -/
import Derived.Test.YtdgoilofkgdaoaaGreatDoorE25
import Derived.Test.YtdgoilofkgdaoaaGreatDoorEAmDrawW
import Derived.Test.YtdgoilofkgdaoaaGreatDoorE6
import Derived.Test.YtdgoilofkgdaoaaGreatDoorEXData
import Derived.Test.YtdgoilofkgdaoaaGreatDoorEAmSeq
import Derived.Test.YtdgoilofkgdaoaaGreatDoorE5
set_option linter.unusedVariables false
set_option linter.unusedSimpArgs false
set_option maxRecDepth 100000
set_option maxHeartbeats 4000000
namespace Go.Proofs.YtdgoilofkgdaoaaGreatDoor.Ex
open Go.Am Go.Ex Go.Proofs.YtdgoilofkgdaoaaGreatDoor
theorem own_drop {s : Heap} {g : Nat} (hg : s.own g = none) (x : Option (TypeId × Nat)) : (s.setOwn g x).le s := (Heap.le.refl s).setOwn hg x
theorem clone59 (s : Heap) (es : List (List V)) (hs : ∀ r ∈ es, r.length = 10) (hl : es.length ≤ 268435456) : ACalls Tryz.prog 59 [.slice 10 es] s fun v s' => Mx s s' v 10 42 es ∧ s'.le s ∧ ∀ k x, s.box k = some x → s'.box k = some x := by
 cases es with
 | nil =>
  refine ACalls.empty fun a cap => ?_
  cases a with
  | none =>
   refine acalls_of (fn := Tryz.f59) Tryz.func59 rfl (by decide) (by show 1 ≤ 8; decide) ?_
   rw [Tryz.ntmps59]
   refine AWp.reg fun R1 hR1 => ?_
   simp only [am, seval, reduceCtorEq]
   refine hR1 _ ?_; clear hR1 R1
   refine AWp.seq_k fun K2 hK2 => ?_
   refine AWp.reg fun R3 hR3 => ?_
   simp only [ty28, ty42, am, seval, reduceCtorEq]
   refine hR3 _ ?_; clear hR3 R3
   refine AWp.cond (t := true) (by simp only [am, seval, reduceCtorEq]) (fun _ => ?_) (fun h => by cases h)
   refine AWp.reg fun R4 hR4 => ?_
   simp only [am, seval, reduceCtorEq]
   refine hR4 _ ?_; clear hR4 R4
   refine AWp.ret ?_
   exact ret_intro (vs := [.nil]) rfl (Wk.nil 10) (Heap.le.refl _) ⟨⟨hs, .inl ⟨rfl, rfl⟩⟩, Heap.le.refl _, fun _ _ h => h⟩
  | some ad =>
   refine acalls_of (fn := Tryz.f59) Tryz.func59 rfl (by decide) (by show 1 ≤ 8; decide) ?_
   rw [Tryz.ntmps59]
   refine AWp.reg fun R1 hR1 => ?_
   simp only [am, seval, reduceCtorEq]
   refine hR1 _ ?_; clear hR1 R1
   refine AWp.seq_k fun K2 hK2 => ?_
   refine AWp.reg fun R3 hR3 => ?_
   simp only [ty28, ty42, am, seval, reduceCtorEq]
   refine hR3 _ ?_; clear hR3 R3
   refine AWp.cond (t := false) (by simp only [am, seval, reduceCtorEq]) (fun h => by cases h) (fun _ => ?_)
   refine AWp.skip ?_
   refine hK2 _ ?_; clear hK2
   refine AWp.reg fun R4 hR4 => ?_
   simp only [ty28, ty42, am, seval, reduceCtorEq]
   intro g hg
   refine hR4 _ ?_; clear hR4 R4
   refine AWp.ret ?_
   exact ret_intro (vs := [.own g 10 []]) rfl (Wk.own _ _ _) (own_drop hg _) ⟨⟨hs, .inl ⟨rfl, rfl⟩⟩, Heap.le.refl _, fun _ _ h => h⟩
 | cons r es =>
   refine acalls_of (fn := Tryz.f59) Tryz.func59 rfl (by decide) (by show 1 ≤ 8; decide) ?_
   rw [Tryz.ntmps59]
   refine AWp.reg fun R1 hR1 => ?_
   simp only [am, seval, reduceCtorEq]
   refine hR1 _ ?_; clear hR1 R1
   refine AWp.seq_k fun K2 hK2 => ?_
   refine AWp.reg fun R3 hR3 => ?_
   simp only [ty28, ty42, am, seval, reduceCtorEq]
   refine hR3 _ ?_; clear hR3 R3
   refine AWp.cond (t := false) (by simp only [am, seval, reduceCtorEq]) (fun h => by cases h) (fun _ => ?_)
   refine AWp.skip ?_
   refine hK2 _ ?_; clear hK2
   refine AWp.regX 2 rfl (by decide +kernel) fun R4 hR4 => ?_
   simp only [ty28, ty42, k12, k13, k14, am, seval, reduceCtorEq]
   refine ⟨by simp only [gdOf, am, seval, reduceCtorEq], _, append_box rfl ty28 rfl ty42 (by decide) (es := r :: es) (.inl (by simp only [am, seval, reduceCtorEq])) (by simp only [am, seval, reduceCtorEq]) (by simp) (by simp only [List.length_cons] at hl ⊢; omega) (by simp only [List.length_cons, maxLen] at hl ⊢; omega) (by simp only [am, seval, reduceCtorEq]), ?_⟩
   rintro _ ⟨b, cap, tl, h1, h2, h3, h4, h5, rfl⟩
   change s.box b = none at h1
   simp only [k15, k16, k17, am, seval, reduceCtorEq]
   refine hR4 _ ?_; clear hR4 R4
   refine AWp.ret ?_
   exact ret_intro (vs := [frz b (r :: es).length cap]) rfl (Wk.refl _) (Heap.le.refl _) ⟨⟨hs, .inr ⟨b, cap, tl, rfl, h2, h3, h1, upd_same _ _ _⟩⟩, Heap.le.dropBox h1 _, keepN h1⟩
theorem clone60 (s : Heap) (es : List (List V)) (hs : ∀ r ∈ es, r.length = 5) (hl : es.length ≤ 268435456) : ACalls Tryz.prog 60 [.slice 5 es] s fun v s' => Mx s s' v 5 76 es ∧ s'.le s ∧ ∀ k x, s.box k = some x → s'.box k = some x := by
 cases es with
 | nil =>
  refine ACalls.empty fun a cap => ?_
  cases a with
  | none =>
   refine acalls_of (fn := Tryz.f60) Tryz.func60 rfl (by decide) (by show 1 ≤ 8; decide) ?_
   rw [Tryz.ntmps60]
   refine AWp.reg fun R1 hR1 => ?_
   simp only [am, seval, reduceCtorEq]
   refine hR1 _ ?_; clear hR1 R1
   refine AWp.seq_k fun K2 hK2 => ?_
   refine AWp.reg fun R3 hR3 => ?_
   simp only [ty29, ty76, am, seval, reduceCtorEq]
   refine hR3 _ ?_; clear hR3 R3
   refine AWp.cond (t := true) (by simp only [am, seval, reduceCtorEq]) (fun _ => ?_) (fun h => by cases h)
   refine AWp.reg fun R4 hR4 => ?_
   simp only [am, seval, reduceCtorEq]
   refine hR4 _ ?_; clear hR4 R4
   refine AWp.ret ?_
   exact ret_intro (vs := [.nil]) rfl (Wk.nil 5) (Heap.le.refl _) ⟨⟨hs, .inl ⟨rfl, rfl⟩⟩, Heap.le.refl _, fun _ _ h => h⟩
  | some ad =>
   refine acalls_of (fn := Tryz.f60) Tryz.func60 rfl (by decide) (by show 1 ≤ 8; decide) ?_
   rw [Tryz.ntmps60]
   refine AWp.reg fun R1 hR1 => ?_
   simp only [am, seval, reduceCtorEq]
   refine hR1 _ ?_; clear hR1 R1
   refine AWp.seq_k fun K2 hK2 => ?_
   refine AWp.reg fun R3 hR3 => ?_
   simp only [ty29, ty76, am, seval, reduceCtorEq]
   refine hR3 _ ?_; clear hR3 R3
   refine AWp.cond (t := false) (by simp only [am, seval, reduceCtorEq]) (fun h => by cases h) (fun _ => ?_)
   refine AWp.skip ?_
   refine hK2 _ ?_; clear hK2
   refine AWp.reg fun R4 hR4 => ?_
   simp only [ty29, ty76, am, seval, reduceCtorEq]
   intro g hg
   refine hR4 _ ?_; clear hR4 R4
   refine AWp.ret ?_
   exact ret_intro (vs := [.own g 5 []]) rfl (Wk.own _ _ _) (own_drop hg _) ⟨⟨hs, .inl ⟨rfl, rfl⟩⟩, Heap.le.refl _, fun _ _ h => h⟩
 | cons r es =>
   refine acalls_of (fn := Tryz.f60) Tryz.func60 rfl (by decide) (by show 1 ≤ 8; decide) ?_
   rw [Tryz.ntmps60]
   refine AWp.reg fun R1 hR1 => ?_
   simp only [am, seval, reduceCtorEq]
   refine hR1 _ ?_; clear hR1 R1
   refine AWp.seq_k fun K2 hK2 => ?_
   refine AWp.reg fun R3 hR3 => ?_
   simp only [ty29, ty76, am, seval, reduceCtorEq]
   refine hR3 _ ?_; clear hR3 R3
   refine AWp.cond (t := false) (by simp only [am, seval, reduceCtorEq]) (fun h => by cases h) (fun _ => ?_)
   refine AWp.skip ?_
   refine hK2 _ ?_; clear hK2
   refine AWp.regX 2 rfl (by decide +kernel) fun R4 hR4 => ?_
   simp only [ty29, ty76, k12, k13, k14, am, seval, reduceCtorEq]
   refine ⟨by simp only [gdOf, am, seval, reduceCtorEq], _, append_box rfl ty29 rfl ty76 (by decide) (es := r :: es) (.inl (by simp only [am, seval, reduceCtorEq])) (by simp only [am, seval, reduceCtorEq]) (by simp) (by simp only [List.length_cons] at hl ⊢; omega) (by simp only [List.length_cons, maxLen] at hl ⊢; omega) (by simp only [am, seval, reduceCtorEq]), ?_⟩
   rintro _ ⟨b, cap, tl, h1, h2, h3, h4, h5, rfl⟩
   change s.box b = none at h1
   simp only [k15, k16, k17, am, seval, reduceCtorEq]
   refine hR4 _ ?_; clear hR4 R4
   refine AWp.ret ?_
   exact ret_intro (vs := [frz b (r :: es).length cap]) rfl (Wk.refl _) (Heap.le.refl _) ⟨⟨hs, .inr ⟨b, cap, tl, rfl, h2, h3, h1, upd_same _ _ _⟩⟩, Heap.le.dropBox h1 _, keepN h1⟩
theorem clone92 (s : Heap) (es : List (List V)) (hs : ∀ r ∈ es, r.length = 3) (hl : es.length ≤ 268435456) : ACalls Tryz.prog 92 [.slice 3 es] s fun v s' => Mx s s' v 3 119 es ∧ s'.le s ∧ ∀ k x, s.box k = some x → s'.box k = some x := by
 cases es with
 | nil =>
  refine ACalls.empty fun a cap => ?_
  cases a with
  | none =>
   refine acalls_of (fn := Tryz.f92) Tryz.func92 rfl (by decide) (by show 1 ≤ 8; decide) ?_
   rw [Tryz.ntmps92]
   refine AWp.reg fun R1 hR1 => ?_
   simp only [am, seval, reduceCtorEq]
   refine hR1 _ ?_; clear hR1 R1
   refine AWp.seq_k fun K2 hK2 => ?_
   refine AWp.reg fun R3 hR3 => ?_
   simp only [ty72, ty119, am, seval, reduceCtorEq]
   refine hR3 _ ?_; clear hR3 R3
   refine AWp.cond (t := true) (by simp only [am, seval, reduceCtorEq]) (fun _ => ?_) (fun h => by cases h)
   refine AWp.reg fun R4 hR4 => ?_
   simp only [am, seval, reduceCtorEq]
   refine hR4 _ ?_; clear hR4 R4
   refine AWp.ret ?_
   exact ret_intro (vs := [.nil]) rfl (Wk.nil 3) (Heap.le.refl _) ⟨⟨hs, .inl ⟨rfl, rfl⟩⟩, Heap.le.refl _, fun _ _ h => h⟩
  | some ad =>
   refine acalls_of (fn := Tryz.f92) Tryz.func92 rfl (by decide) (by show 1 ≤ 8; decide) ?_
   rw [Tryz.ntmps92]
   refine AWp.reg fun R1 hR1 => ?_
   simp only [am, seval, reduceCtorEq]
   refine hR1 _ ?_; clear hR1 R1
   refine AWp.seq_k fun K2 hK2 => ?_
   refine AWp.reg fun R3 hR3 => ?_
   simp only [ty72, ty119, am, seval, reduceCtorEq]
   refine hR3 _ ?_; clear hR3 R3
   refine AWp.cond (t := false) (by simp only [am, seval, reduceCtorEq]) (fun h => by cases h) (fun _ => ?_)
   refine AWp.skip ?_
   refine hK2 _ ?_; clear hK2
   refine AWp.reg fun R4 hR4 => ?_
   simp only [ty72, ty119, am, seval, reduceCtorEq]
   intro g hg
   refine hR4 _ ?_; clear hR4 R4
   refine AWp.ret ?_
   exact ret_intro (vs := [.own g 3 []]) rfl (Wk.own _ _ _) (own_drop hg _) ⟨⟨hs, .inl ⟨rfl, rfl⟩⟩, Heap.le.refl _, fun _ _ h => h⟩
 | cons r es =>
   refine acalls_of (fn := Tryz.f92) Tryz.func92 rfl (by decide) (by show 1 ≤ 8; decide) ?_
   rw [Tryz.ntmps92]
   refine AWp.reg fun R1 hR1 => ?_
   simp only [am, seval, reduceCtorEq]
   refine hR1 _ ?_; clear hR1 R1
   refine AWp.seq_k fun K2 hK2 => ?_
   refine AWp.reg fun R3 hR3 => ?_
   simp only [ty72, ty119, am, seval, reduceCtorEq]
   refine hR3 _ ?_; clear hR3 R3
   refine AWp.cond (t := false) (by simp only [am, seval, reduceCtorEq]) (fun h => by cases h) (fun _ => ?_)
   refine AWp.skip ?_
   refine hK2 _ ?_; clear hK2
   refine AWp.regX 2 rfl (by decide +kernel) fun R4 hR4 => ?_
   simp only [ty72, ty119, k12, k13, k14, am, seval, reduceCtorEq]
   refine ⟨by simp only [gdOf, am, seval, reduceCtorEq], _, append_box rfl ty72 rfl ty119 (by decide) (es := r :: es) (.inl (by simp only [am, seval, reduceCtorEq])) (by simp only [am, seval, reduceCtorEq]) (by simp) (by simp only [List.length_cons] at hl ⊢; omega) (by simp only [List.length_cons, maxLen] at hl ⊢; omega) (by simp only [am, seval, reduceCtorEq]), ?_⟩
   rintro _ ⟨b, cap, tl, h1, h2, h3, h4, h5, rfl⟩
   change s.box b = none at h1
   simp only [k15, k16, k17, am, seval, reduceCtorEq]
   refine hR4 _ ?_; clear hR4 R4
   refine AWp.ret ?_
   exact ret_intro (vs := [frz b (r :: es).length cap]) rfl (Wk.refl _) (Heap.le.refl _) ⟨⟨hs, .inr ⟨b, cap, tl, rfl, h2, h3, h1, upd_same _ _ _⟩⟩, Heap.le.dropBox h1 _, keepN h1⟩
theorem clone93 (s : Heap) (es : List (List V)) (hs : ∀ r ∈ es, r.length = 1) (hl : es.length ≤ 268435456) : ACalls Tryz.prog 93 [.slice 1 es] s fun v s' => Mx s s' v 1 9 es ∧ s'.le s ∧ ∀ k x, s.box k = some x → s'.box k = some x := by
 cases es with
 | nil =>
  refine ACalls.empty fun a cap => ?_
  cases a with
  | none =>
   refine acalls_of (fn := Tryz.f93) Tryz.func93 rfl (by decide) (by show 1 ≤ 8; decide) ?_
   rw [Tryz.ntmps93]
   refine AWp.reg fun R1 hR1 => ?_
   simp only [am, seval, reduceCtorEq]
   refine hR1 _ ?_; clear hR1 R1
   refine AWp.seq_k fun K2 hK2 => ?_
   refine AWp.reg fun R3 hR3 => ?_
   simp only [ty24, ty9, am, seval, reduceCtorEq]
   refine hR3 _ ?_; clear hR3 R3
   refine AWp.cond (t := true) (by simp only [am, seval, reduceCtorEq]) (fun _ => ?_) (fun h => by cases h)
   refine AWp.reg fun R4 hR4 => ?_
   simp only [am, seval, reduceCtorEq]
   refine hR4 _ ?_; clear hR4 R4
   refine AWp.ret ?_
   exact ret_intro (vs := [.nil]) rfl (Wk.nil 1) (Heap.le.refl _) ⟨⟨hs, .inl ⟨rfl, rfl⟩⟩, Heap.le.refl _, fun _ _ h => h⟩
  | some ad =>
   refine acalls_of (fn := Tryz.f93) Tryz.func93 rfl (by decide) (by show 1 ≤ 8; decide) ?_
   rw [Tryz.ntmps93]
   refine AWp.reg fun R1 hR1 => ?_
   simp only [am, seval, reduceCtorEq]
   refine hR1 _ ?_; clear hR1 R1
   refine AWp.seq_k fun K2 hK2 => ?_
   refine AWp.reg fun R3 hR3 => ?_
   simp only [ty24, ty9, am, seval, reduceCtorEq]
   refine hR3 _ ?_; clear hR3 R3
   refine AWp.cond (t := false) (by simp only [am, seval, reduceCtorEq]) (fun h => by cases h) (fun _ => ?_)
   refine AWp.skip ?_
   refine hK2 _ ?_; clear hK2
   refine AWp.reg fun R4 hR4 => ?_
   simp only [ty24, ty9, am, seval, reduceCtorEq]
   intro g hg
   refine hR4 _ ?_; clear hR4 R4
   refine AWp.ret ?_
   exact ret_intro (vs := [.own g 1 []]) rfl (Wk.own _ _ _) (own_drop hg _) ⟨⟨hs, .inl ⟨rfl, rfl⟩⟩, Heap.le.refl _, fun _ _ h => h⟩
 | cons r es =>
   refine acalls_of (fn := Tryz.f93) Tryz.func93 rfl (by decide) (by show 1 ≤ 8; decide) ?_
   rw [Tryz.ntmps93]
   refine AWp.reg fun R1 hR1 => ?_
   simp only [am, seval, reduceCtorEq]
   refine hR1 _ ?_; clear hR1 R1
   refine AWp.seq_k fun K2 hK2 => ?_
   refine AWp.reg fun R3 hR3 => ?_
   simp only [ty24, ty9, am, seval, reduceCtorEq]
   refine hR3 _ ?_; clear hR3 R3
   refine AWp.cond (t := false) (by simp only [am, seval, reduceCtorEq]) (fun h => by cases h) (fun _ => ?_)
   refine AWp.skip ?_
   refine hK2 _ ?_; clear hK2
   refine AWp.regX 2 rfl (by decide +kernel) fun R4 hR4 => ?_
   simp only [ty24, ty9, k12, k13, k14, am, seval, reduceCtorEq]
   refine ⟨by simp only [gdOf, am, seval, reduceCtorEq], _, append_box rfl ty24 rfl ty9 (by decide) (es := r :: es) (.inl (by simp only [am, seval, reduceCtorEq])) (by simp only [am, seval, reduceCtorEq]) (by simp) (by simp only [List.length_cons] at hl ⊢; omega) (by simp only [List.length_cons, maxLen] at hl ⊢; omega) (by simp only [am, seval, reduceCtorEq]), ?_⟩
   rintro _ ⟨b, cap, tl, h1, h2, h3, h4, h5, rfl⟩
   change s.box b = none at h1
   simp only [k15, k16, k17, am, seval, reduceCtorEq]
   refine hR4 _ ?_; clear hR4 R4
   refine AWp.ret ?_
   exact ret_intro (vs := [frz b (r :: es).length cap]) rfl (Wk.refl _) (Heap.le.refl _) ⟨⟨hs, .inr ⟨b, cap, tl, rfl, h2, h3, h1, upd_same _ _ _⟩⟩, Heap.le.dropBox h1 _, keepN h1⟩
theorem clone95 (s : Heap) (es : List (List V)) (hs : ∀ r ∈ es, r.length = 8) (hl : es.length ≤ 268435456) : ACalls Tryz.prog 95 [.slice 8 es] s fun v s' => Mx s s' v 8 126 es ∧ s'.le s ∧ ∀ k x, s.box k = some x → s'.box k = some x := by
 cases es with
 | nil =>
  refine ACalls.empty fun a cap => ?_
  cases a with
  | none =>
   refine acalls_of (fn := Tryz.f95) Tryz.func95 rfl (by decide) (by show 1 ≤ 8; decide) ?_
   rw [Tryz.ntmps95]
   refine AWp.reg fun R1 hR1 => ?_
   simp only [am, seval, reduceCtorEq]
   refine hR1 _ ?_; clear hR1 R1
   refine AWp.seq_k fun K2 hK2 => ?_
   refine AWp.reg fun R3 hR3 => ?_
   simp only [ty73, ty126, am, seval, reduceCtorEq]
   refine hR3 _ ?_; clear hR3 R3
   refine AWp.cond (t := true) (by simp only [am, seval, reduceCtorEq]) (fun _ => ?_) (fun h => by cases h)
   refine AWp.reg fun R4 hR4 => ?_
   simp only [am, seval, reduceCtorEq]
   refine hR4 _ ?_; clear hR4 R4
   refine AWp.ret ?_
   exact ret_intro (vs := [.nil]) rfl (Wk.nil 8) (Heap.le.refl _) ⟨⟨hs, .inl ⟨rfl, rfl⟩⟩, Heap.le.refl _, fun _ _ h => h⟩
  | some ad =>
   refine acalls_of (fn := Tryz.f95) Tryz.func95 rfl (by decide) (by show 1 ≤ 8; decide) ?_
   rw [Tryz.ntmps95]
   refine AWp.reg fun R1 hR1 => ?_
   simp only [am, seval, reduceCtorEq]
   refine hR1 _ ?_; clear hR1 R1
   refine AWp.seq_k fun K2 hK2 => ?_
   refine AWp.reg fun R3 hR3 => ?_
   simp only [ty73, ty126, am, seval, reduceCtorEq]
   refine hR3 _ ?_; clear hR3 R3
   refine AWp.cond (t := false) (by simp only [am, seval, reduceCtorEq]) (fun h => by cases h) (fun _ => ?_)
   refine AWp.skip ?_
   refine hK2 _ ?_; clear hK2
   refine AWp.reg fun R4 hR4 => ?_
   simp only [ty73, ty126, am, seval, reduceCtorEq]
   intro g hg
   refine hR4 _ ?_; clear hR4 R4
   refine AWp.ret ?_
   exact ret_intro (vs := [.own g 8 []]) rfl (Wk.own _ _ _) (own_drop hg _) ⟨⟨hs, .inl ⟨rfl, rfl⟩⟩, Heap.le.refl _, fun _ _ h => h⟩
 | cons r es =>
   refine acalls_of (fn := Tryz.f95) Tryz.func95 rfl (by decide) (by show 1 ≤ 8; decide) ?_
   rw [Tryz.ntmps95]
   refine AWp.reg fun R1 hR1 => ?_
   simp only [am, seval, reduceCtorEq]
   refine hR1 _ ?_; clear hR1 R1
   refine AWp.seq_k fun K2 hK2 => ?_
   refine AWp.reg fun R3 hR3 => ?_
   simp only [ty73, ty126, am, seval, reduceCtorEq]
   refine hR3 _ ?_; clear hR3 R3
   refine AWp.cond (t := false) (by simp only [am, seval, reduceCtorEq]) (fun h => by cases h) (fun _ => ?_)
   refine AWp.skip ?_
   refine hK2 _ ?_; clear hK2
   refine AWp.regX 2 rfl (by decide +kernel) fun R4 hR4 => ?_
   simp only [ty73, ty126, k12, k13, k14, am, seval, reduceCtorEq]
   refine ⟨by simp only [gdOf, am, seval, reduceCtorEq], _, append_box rfl ty73 rfl ty126 (by decide) (es := r :: es) (.inl (by simp only [am, seval, reduceCtorEq])) (by simp only [am, seval, reduceCtorEq]) (by simp) (by simp only [List.length_cons] at hl ⊢; omega) (by simp only [List.length_cons, maxLen] at hl ⊢; omega) (by simp only [am, seval, reduceCtorEq]), ?_⟩
   rintro _ ⟨b, cap, tl, h1, h2, h3, h4, h5, rfl⟩
   change s.box b = none at h1
   simp only [k15, k16, k17, am, seval, reduceCtorEq]
   refine hR4 _ ?_; clear hR4 R4
   refine AWp.ret ?_
   exact ret_intro (vs := [frz b (r :: es).length cap]) rfl (Wk.refl _) (Heap.le.refl _) ⟨⟨hs, .inr ⟨b, cap, tl, rfl, h2, h3, h1, upd_same _ _ _⟩⟩, Heap.le.dropBox h1 _, keepN h1⟩
theorem clone96 (s : Heap) (es : List (List V)) (hs : ∀ r ∈ es, r.length = 4) (hl : es.length ≤ 268435456) : ACalls Tryz.prog 96 [.slice 4 es] s fun v s' => Mx s s' v 4 175 es ∧ s'.le s ∧ ∀ k x, s.box k = some x → s'.box k = some x := by
 cases es with
 | nil =>
  refine ACalls.empty fun a cap => ?_
  cases a with
  | none =>
   refine acalls_of (fn := Tryz.f96) Tryz.func96 rfl (by decide) (by show 1 ≤ 8; decide) ?_
   rw [Tryz.ntmps96]
   refine AWp.reg fun R1 hR1 => ?_
   simp only [am, seval, reduceCtorEq]
   refine hR1 _ ?_; clear hR1 R1
   refine AWp.seq_k fun K2 hK2 => ?_
   refine AWp.reg fun R3 hR3 => ?_
   simp only [ty123, ty175, am, seval, reduceCtorEq]
   refine hR3 _ ?_; clear hR3 R3
   refine AWp.cond (t := true) (by simp only [am, seval, reduceCtorEq]) (fun _ => ?_) (fun h => by cases h)
   refine AWp.reg fun R4 hR4 => ?_
   simp only [am, seval, reduceCtorEq]
   refine hR4 _ ?_; clear hR4 R4
   refine AWp.ret ?_
   exact ret_intro (vs := [.nil]) rfl (Wk.nil 4) (Heap.le.refl _) ⟨⟨hs, .inl ⟨rfl, rfl⟩⟩, Heap.le.refl _, fun _ _ h => h⟩
  | some ad =>
   refine acalls_of (fn := Tryz.f96) Tryz.func96 rfl (by decide) (by show 1 ≤ 8; decide) ?_
   rw [Tryz.ntmps96]
   refine AWp.reg fun R1 hR1 => ?_
   simp only [am, seval, reduceCtorEq]
   refine hR1 _ ?_; clear hR1 R1
   refine AWp.seq_k fun K2 hK2 => ?_
   refine AWp.reg fun R3 hR3 => ?_
   simp only [ty123, ty175, am, seval, reduceCtorEq]
   refine hR3 _ ?_; clear hR3 R3
   refine AWp.cond (t := false) (by simp only [am, seval, reduceCtorEq]) (fun h => by cases h) (fun _ => ?_)
   refine AWp.skip ?_
   refine hK2 _ ?_; clear hK2
   refine AWp.reg fun R4 hR4 => ?_
   simp only [ty123, ty175, am, seval, reduceCtorEq]
   intro g hg
   refine hR4 _ ?_; clear hR4 R4
   refine AWp.ret ?_
   exact ret_intro (vs := [.own g 4 []]) rfl (Wk.own _ _ _) (own_drop hg _) ⟨⟨hs, .inl ⟨rfl, rfl⟩⟩, Heap.le.refl _, fun _ _ h => h⟩
 | cons r es =>
   refine acalls_of (fn := Tryz.f96) Tryz.func96 rfl (by decide) (by show 1 ≤ 8; decide) ?_
   rw [Tryz.ntmps96]
   refine AWp.reg fun R1 hR1 => ?_
   simp only [am, seval, reduceCtorEq]
   refine hR1 _ ?_; clear hR1 R1
   refine AWp.seq_k fun K2 hK2 => ?_
   refine AWp.reg fun R3 hR3 => ?_
   simp only [ty123, ty175, am, seval, reduceCtorEq]
   refine hR3 _ ?_; clear hR3 R3
   refine AWp.cond (t := false) (by simp only [am, seval, reduceCtorEq]) (fun h => by cases h) (fun _ => ?_)
   refine AWp.skip ?_
   refine hK2 _ ?_; clear hK2
   refine AWp.regX 2 rfl (by decide +kernel) fun R4 hR4 => ?_
   simp only [ty123, ty175, k12, k13, k14, am, seval, reduceCtorEq]
   refine ⟨by simp only [gdOf, am, seval, reduceCtorEq], _, append_box rfl ty123 rfl ty175 (by decide) (es := r :: es) (.inl (by simp only [am, seval, reduceCtorEq])) (by simp only [am, seval, reduceCtorEq]) (by simp) (by simp only [List.length_cons] at hl ⊢; omega) (by simp only [List.length_cons, maxLen] at hl ⊢; omega) (by simp only [am, seval, reduceCtorEq]), ?_⟩
   rintro _ ⟨b, cap, tl, h1, h2, h3, h4, h5, rfl⟩
   change s.box b = none at h1
   simp only [k15, k16, k17, am, seval, reduceCtorEq]
   refine hR4 _ ?_; clear hR4 R4
   refine AWp.ret ?_
   exact ret_intro (vs := [frz b (r :: es).length cap]) rfl (Wk.refl _) (Heap.le.refl _) ⟨⟨hs, .inr ⟨b, cap, tl, rfl, h2, h3, h1, upd_same _ _ _⟩⟩, Heap.le.dropBox h1 _, keepN h1⟩
theorem clone97 (s : Heap) (es : List (List V)) (hs : ∀ r ∈ es, r.length = 5) (hl : es.length ≤ 268435456) : ACalls Tryz.prog 97 [.slice 5 es] s fun v s' => Mx s s' v 5 179 es ∧ s'.le s ∧ ∀ k x, s.box k = some x → s'.box k = some x := by
 cases es with
 | nil =>
  refine ACalls.empty fun a cap => ?_
  cases a with
  | none =>
   refine acalls_of (fn := Tryz.f97) Tryz.func97 rfl (by decide) (by show 1 ≤ 8; decide) ?_
   rw [Tryz.ntmps97]
   refine AWp.reg fun R1 hR1 => ?_
   simp only [am, seval, reduceCtorEq]
   refine hR1 _ ?_; clear hR1 R1
   refine AWp.seq_k fun K2 hK2 => ?_
   refine AWp.reg fun R3 hR3 => ?_
   simp only [ty124, ty179, am, seval, reduceCtorEq]
   refine hR3 _ ?_; clear hR3 R3
   refine AWp.cond (t := true) (by simp only [am, seval, reduceCtorEq]) (fun _ => ?_) (fun h => by cases h)
   refine AWp.reg fun R4 hR4 => ?_
   simp only [am, seval, reduceCtorEq]
   refine hR4 _ ?_; clear hR4 R4
   refine AWp.ret ?_
   exact ret_intro (vs := [.nil]) rfl (Wk.nil 5) (Heap.le.refl _) ⟨⟨hs, .inl ⟨rfl, rfl⟩⟩, Heap.le.refl _, fun _ _ h => h⟩
  | some ad =>
   refine acalls_of (fn := Tryz.f97) Tryz.func97 rfl (by decide) (by show 1 ≤ 8; decide) ?_
   rw [Tryz.ntmps97]
   refine AWp.reg fun R1 hR1 => ?_
   simp only [am, seval, reduceCtorEq]
   refine hR1 _ ?_; clear hR1 R1
   refine AWp.seq_k fun K2 hK2 => ?_
   refine AWp.reg fun R3 hR3 => ?_
   simp only [ty124, ty179, am, seval, reduceCtorEq]
   refine hR3 _ ?_; clear hR3 R3
   refine AWp.cond (t := false) (by simp only [am, seval, reduceCtorEq]) (fun h => by cases h) (fun _ => ?_)
   refine AWp.skip ?_
   refine hK2 _ ?_; clear hK2
   refine AWp.reg fun R4 hR4 => ?_
   simp only [ty124, ty179, am, seval, reduceCtorEq]
   intro g hg
   refine hR4 _ ?_; clear hR4 R4
   refine AWp.ret ?_
   exact ret_intro (vs := [.own g 5 []]) rfl (Wk.own _ _ _) (own_drop hg _) ⟨⟨hs, .inl ⟨rfl, rfl⟩⟩, Heap.le.refl _, fun _ _ h => h⟩
 | cons r es =>
   refine acalls_of (fn := Tryz.f97) Tryz.func97 rfl (by decide) (by show 1 ≤ 8; decide) ?_
   rw [Tryz.ntmps97]
   refine AWp.reg fun R1 hR1 => ?_
   simp only [am, seval, reduceCtorEq]
   refine hR1 _ ?_; clear hR1 R1
   refine AWp.seq_k fun K2 hK2 => ?_
   refine AWp.reg fun R3 hR3 => ?_
   simp only [ty124, ty179, am, seval, reduceCtorEq]
   refine hR3 _ ?_; clear hR3 R3
   refine AWp.cond (t := false) (by simp only [am, seval, reduceCtorEq]) (fun h => by cases h) (fun _ => ?_)
   refine AWp.skip ?_
   refine hK2 _ ?_; clear hK2
   refine AWp.regX 2 rfl (by decide +kernel) fun R4 hR4 => ?_
   simp only [ty124, ty179, k12, k13, k14, am, seval, reduceCtorEq]
   refine ⟨by simp only [gdOf, am, seval, reduceCtorEq], _, append_box rfl ty124 rfl ty179 (by decide) (es := r :: es) (.inl (by simp only [am, seval, reduceCtorEq])) (by simp only [am, seval, reduceCtorEq]) (by simp) (by simp only [List.length_cons] at hl ⊢; omega) (by simp only [List.length_cons, maxLen] at hl ⊢; omega) (by simp only [am, seval, reduceCtorEq]), ?_⟩
   rintro _ ⟨b, cap, tl, h1, h2, h3, h4, h5, rfl⟩
   change s.box b = none at h1
   simp only [k15, k16, k17, am, seval, reduceCtorEq]
   refine hR4 _ ?_; clear hR4 R4
   refine AWp.ret ?_
   exact ret_intro (vs := [frz b (r :: es).length cap]) rfl (Wk.refl _) (Heap.le.refl _) ⟨⟨hs, .inr ⟨b, cap, tl, rfl, h2, h3, h1, upd_same _ _ _⟩⟩, Heap.le.dropBox h1 _, keepN h1⟩
theorem clone98 (s : Heap) (es : List (List V)) (hs : ∀ r ∈ es, r.length = 1) (hl : es.length ≤ 268435456) : ACalls Tryz.prog 98 [.slice 1 es] s fun v s' => Mx s s' v 1 28 es ∧ s'.le s ∧ ∀ k x, s.box k = some x → s'.box k = some x := by
 cases es with
 | nil =>
  refine ACalls.empty fun a cap => ?_
  cases a with
  | none =>
   refine acalls_of (fn := Tryz.f98) Tryz.func98 rfl (by decide) (by show 1 ≤ 8; decide) ?_
   rw [Tryz.ntmps98]
   refine AWp.reg fun R1 hR1 => ?_
   simp only [am, seval, reduceCtorEq]
   refine hR1 _ ?_; clear hR1 R1
   refine AWp.seq_k fun K2 hK2 => ?_
   refine AWp.reg fun R3 hR3 => ?_
   simp only [ty112, ty28, am, seval, reduceCtorEq]
   refine hR3 _ ?_; clear hR3 R3
   refine AWp.cond (t := true) (by simp only [am, seval, reduceCtorEq]) (fun _ => ?_) (fun h => by cases h)
   refine AWp.reg fun R4 hR4 => ?_
   simp only [am, seval, reduceCtorEq]
   refine hR4 _ ?_; clear hR4 R4
   refine AWp.ret ?_
   exact ret_intro (vs := [.nil]) rfl (Wk.nil 1) (Heap.le.refl _) ⟨⟨hs, .inl ⟨rfl, rfl⟩⟩, Heap.le.refl _, fun _ _ h => h⟩
  | some ad =>
   refine acalls_of (fn := Tryz.f98) Tryz.func98 rfl (by decide) (by show 1 ≤ 8; decide) ?_
   rw [Tryz.ntmps98]
   refine AWp.reg fun R1 hR1 => ?_
   simp only [am, seval, reduceCtorEq]
   refine hR1 _ ?_; clear hR1 R1
   refine AWp.seq_k fun K2 hK2 => ?_
   refine AWp.reg fun R3 hR3 => ?_
   simp only [ty112, ty28, am, seval, reduceCtorEq]
   refine hR3 _ ?_; clear hR3 R3
   refine AWp.cond (t := false) (by simp only [am, seval, reduceCtorEq]) (fun h => by cases h) (fun _ => ?_)
   refine AWp.skip ?_
   refine hK2 _ ?_; clear hK2
   refine AWp.reg fun R4 hR4 => ?_
   simp only [ty112, ty28, am, seval, reduceCtorEq]
   intro g hg
   refine hR4 _ ?_; clear hR4 R4
   refine AWp.ret ?_
   exact ret_intro (vs := [.own g 1 []]) rfl (Wk.own _ _ _) (own_drop hg _) ⟨⟨hs, .inl ⟨rfl, rfl⟩⟩, Heap.le.refl _, fun _ _ h => h⟩
 | cons r es =>
   refine acalls_of (fn := Tryz.f98) Tryz.func98 rfl (by decide) (by show 1 ≤ 8; decide) ?_
   rw [Tryz.ntmps98]
   refine AWp.reg fun R1 hR1 => ?_
   simp only [am, seval, reduceCtorEq]
   refine hR1 _ ?_; clear hR1 R1
   refine AWp.seq_k fun K2 hK2 => ?_
   refine AWp.reg fun R3 hR3 => ?_
   simp only [ty112, ty28, am, seval, reduceCtorEq]
   refine hR3 _ ?_; clear hR3 R3
   refine AWp.cond (t := false) (by simp only [am, seval, reduceCtorEq]) (fun h => by cases h) (fun _ => ?_)
   refine AWp.skip ?_
   refine hK2 _ ?_; clear hK2
   refine AWp.regX 2 rfl (by decide +kernel) fun R4 hR4 => ?_
   simp only [ty112, ty28, k12, k13, k14, am, seval, reduceCtorEq]
   refine ⟨by simp only [gdOf, am, seval, reduceCtorEq], _, append_box rfl ty112 rfl ty28 (by decide) (es := r :: es) (.inl (by simp only [am, seval, reduceCtorEq])) (by simp only [am, seval, reduceCtorEq]) (by simp) (by simp only [List.length_cons] at hl ⊢; omega) (by simp only [List.length_cons, maxLen] at hl ⊢; omega) (by simp only [am, seval, reduceCtorEq]), ?_⟩
   rintro _ ⟨b, cap, tl, h1, h2, h3, h4, h5, rfl⟩
   change s.box b = none at h1
   simp only [k15, k16, k17, am, seval, reduceCtorEq]
   refine hR4 _ ?_; clear hR4 R4
   refine AWp.ret ?_
   exact ret_intro (vs := [frz b (r :: es).length cap]) rfl (Wk.refl _) (Heap.le.refl _) ⟨⟨hs, .inr ⟨b, cap, tl, rfl, h2, h3, h1, upd_same _ _ _⟩⟩, Heap.le.dropBox h1 _, keepN h1⟩
theorem clone100 (s : Heap) (es : List (List V)) (hs : ∀ r ∈ es, r.length = 11) (hl : es.length ≤ 268435456) : ACalls Tryz.prog 100 [.slice 11 es] s fun v s' => Mx s s' v 11 130 es ∧ s'.le s ∧ ∀ k x, s.box k = some x → s'.box k = some x := by
 cases es with
 | nil =>
  refine ACalls.empty fun a cap => ?_
  cases a with
  | none =>
   refine acalls_of (fn := Tryz.f100) Tryz.func100 rfl (by decide) (by show 1 ≤ 8; decide) ?_
   rw [Tryz.ntmps100]
   refine AWp.reg fun R1 hR1 => ?_
   simp only [am, seval, reduceCtorEq]
   refine hR1 _ ?_; clear hR1 R1
   refine AWp.seq_k fun K2 hK2 => ?_
   refine AWp.reg fun R3 hR3 => ?_
   simp only [ty74, ty130, am, seval, reduceCtorEq]
   refine hR3 _ ?_; clear hR3 R3
   refine AWp.cond (t := true) (by simp only [am, seval, reduceCtorEq]) (fun _ => ?_) (fun h => by cases h)
   refine AWp.reg fun R4 hR4 => ?_
   simp only [am, seval, reduceCtorEq]
   refine hR4 _ ?_; clear hR4 R4
   refine AWp.ret ?_
   exact ret_intro (vs := [.nil]) rfl (Wk.nil 11) (Heap.le.refl _) ⟨⟨hs, .inl ⟨rfl, rfl⟩⟩, Heap.le.refl _, fun _ _ h => h⟩
  | some ad =>
   refine acalls_of (fn := Tryz.f100) Tryz.func100 rfl (by decide) (by show 1 ≤ 8; decide) ?_
   rw [Tryz.ntmps100]
   refine AWp.reg fun R1 hR1 => ?_
   simp only [am, seval, reduceCtorEq]
   refine hR1 _ ?_; clear hR1 R1
   refine AWp.seq_k fun K2 hK2 => ?_
   refine AWp.reg fun R3 hR3 => ?_
   simp only [ty74, ty130, am, seval, reduceCtorEq]
   refine hR3 _ ?_; clear hR3 R3
   refine AWp.cond (t := false) (by simp only [am, seval, reduceCtorEq]) (fun h => by cases h) (fun _ => ?_)
   refine AWp.skip ?_
   refine hK2 _ ?_; clear hK2
   refine AWp.reg fun R4 hR4 => ?_
   simp only [ty74, ty130, am, seval, reduceCtorEq]
   intro g hg
   refine hR4 _ ?_; clear hR4 R4
   refine AWp.ret ?_
   exact ret_intro (vs := [.own g 11 []]) rfl (Wk.own _ _ _) (own_drop hg _) ⟨⟨hs, .inl ⟨rfl, rfl⟩⟩, Heap.le.refl _, fun _ _ h => h⟩
 | cons r es =>
   refine acalls_of (fn := Tryz.f100) Tryz.func100 rfl (by decide) (by show 1 ≤ 8; decide) ?_
   rw [Tryz.ntmps100]
   refine AWp.reg fun R1 hR1 => ?_
   simp only [am, seval, reduceCtorEq]
   refine hR1 _ ?_; clear hR1 R1
   refine AWp.seq_k fun K2 hK2 => ?_
   refine AWp.reg fun R3 hR3 => ?_
   simp only [ty74, ty130, am, seval, reduceCtorEq]
   refine hR3 _ ?_; clear hR3 R3
   refine AWp.cond (t := false) (by simp only [am, seval, reduceCtorEq]) (fun h => by cases h) (fun _ => ?_)
   refine AWp.skip ?_
   refine hK2 _ ?_; clear hK2
   refine AWp.regX 2 rfl (by decide +kernel) fun R4 hR4 => ?_
   simp only [ty74, ty130, k12, k13, k14, am, seval, reduceCtorEq]
   refine ⟨by simp only [gdOf, am, seval, reduceCtorEq], _, append_box rfl ty74 rfl ty130 (by decide) (es := r :: es) (.inl (by simp only [am, seval, reduceCtorEq])) (by simp only [am, seval, reduceCtorEq]) (by simp) (by simp only [List.length_cons] at hl ⊢; omega) (by simp only [List.length_cons, maxLen] at hl ⊢; omega) (by simp only [am, seval, reduceCtorEq]), ?_⟩
   rintro _ ⟨b, cap, tl, h1, h2, h3, h4, h5, rfl⟩
   change s.box b = none at h1
   simp only [k15, k16, k17, am, seval, reduceCtorEq]
   refine hR4 _ ?_; clear hR4 R4
   refine AWp.ret ?_
   exact ret_intro (vs := [frz b (r :: es).length cap]) rfl (Wk.refl _) (Heap.le.refl _) ⟨⟨hs, .inr ⟨b, cap, tl, rfl, h2, h3, h1, upd_same _ _ _⟩⟩, Heap.le.dropBox h1 _, keepN h1⟩
end Go.Proofs.YtdgoilofkgdaoaaGreatDoor.Ex
namespace Go.Proofs.YtdgoilofkgdaoaaGreatDoor.Ex
open Go.Am Go.Ex Go.Proofs.YtdgoilofkgdaoaaGreatDoor
theorem f99_spec (l : List XExpr) (hl : l.length ≤ 268435456) (h17 : ∀ x ∈ l, Gives Tryz.prog 17 [.agg x.v] (.agg x.v)) : Gives Tryz.prog 99 [.slice 10 (l.map XExpr.v)] (.slice 10 (l.map XExpr.v)) := by
 intro s
 refine acalls_of (fn := Tryz.f99) Tryz.func99 rfl (by decide) (by show 1 ≤ 21; decide) ?_
 rw [Tryz.ntmps99]
 refine AWp.reg fun R1 hR1 => ?_
 simp only [am, seval, reduceCtorEq]
 refine hR1 _ ?_; clear hR1 R1
 refine AWp.reg fun R2 hR2 => ?_
 simp only [ty28, am, seval, reduceCtorEq]
 refine ((clone59 s (l.map XExpr.v) (fun r hr => by obtain ⟨x, _, rfl⟩ := List.mem_map.1 hr; exact x.v_len) (by simpa using hl)).mono fun v s' ⟨hm, hle, hk⟩ => ?_).toP
 have hlv := hm.len
 simp only [ty28, am, seval, reduceCtorEq]
 refine hR2 _ ?_; clear hR2 R2
 refine AWp.seq_k fun K hK => ?_
 refine AWp.reg fun R3 hR3 => ?_
 simp only [ty28, hlv, am, seval, reduceCtorEq]
 refine hR3 _ ?_; clear hR3 R3
 refine AWp.block ?_
 refine AWp.loopT (ι := Nat) (fun i => i ≤ l.length) (fun i => tst [(0, v), (7, vint l.length), (8, vint i)] [] s' 21) (fun i => l.length - i) 0 ⟨Nat.zero_le _, ?_⟩ ?_
 ·refine le_tst ?_ ?_ ?_ (Heap.le.refl _) rfl
  ·simp only [leE, am, seval, reduceCtorEq] <;> simp
  ·rcases hm.2 with ⟨_, rfl⟩ | ⟨b, cap, tl, rfl, _⟩ <;> simp only [okL, frz, and_self]
  ·simp only [leB]
 ·intro i hi
  refine AWp.reg fun R4 hR4 => ?_
  simp only [ty3, tst, am, seval, reduceCtorEq]
  refine hR4 _ ?_; clear hR4 R4
  refine AWp.seq_k fun K2 hK2 => ?_
  refine AWp.cond (t := decide ((i:Int) < (l.length : Nat))) (by simp only [am, seval, reduceCtorEq]) (fun ht => ?_) (fun ht => ?_)
  ·have hlt : i < l.length := by have := of_decide_eq_true ht; omega
   obtain ⟨b, cap, tl, rfl, h1, h2, h3, h4⟩ := hm.pos (by simpa using (by omega : 0 < l.length))
   refine AWp.skip ?_
   refine hK2 _ ?_; clear hK2
   refine AWp.seq_k fun K3 hK3 => ?_
   refine AWp.block ?_
   refine AWp.reg fun R5 hR5 => ?_
   simp only [ty3, am, seval, reduceCtorEq]
   refine hR5 _ ?_; clear hR5 R5
   obtain ⟨y, hy⟩ : ∃ y, l[i] = y := ⟨_, rfl⟩
   have hr : (l.map XExpr.v)[i]? = some y.v := by rw [List.getElem?_map, List.getElem?_eq_getElem hlt, hy]; rfl
   obtain ⟨e1, e2, e3⟩ := flat_row hm.1 tl hr
   have e1 := isT e1
   have hlt2 : ((i : Int) < ((l.length : Nat) : Int)) = True := isT (by omega)
   have h0 : (0 ≤ (i : Int)) = True := isT (by omega)
   refine AWp.reg1 fun R6 hR6 => ?_
   simp only [ty28, ty42, ty3, frz, h4, h0, hlt2, Int.toNat_natCast, e1, e2, true_and, ↓reduceIte, am, seval, reduceCtorEq]
   refine (h17 y (hy ▸ List.getElem_mem hlt) _).go ?_
   simp only [ty28, ty42, ty3, h4, h0, hlt2, Int.toNat_natCast, e1, e3, XExpr.v_all, XExpr.v_len, setBox_self h4, true_and, and_true, ↓reduceIte, am, seval, reduceCtorEq]
   refine hR6 _ ?_; clear hR6 R6
   refine hK3 _ ?_; clear hK3
   refine AWp.reg1 fun R7 hR7 => ?_
   simp only [ty3, am, seval, reduceCtorEq]
   refine hR7 _ ?_; clear hR7 R7
   refine ⟨i + 1, ⟨hlt, by omega⟩, ?_⟩
   refine le_tst ?_ ?_ ?_ (Heap.le.refl _) rfl
   ·simp only [leE, am, seval, reduceCtorEq]
    have e9 : IntKind.i64.wrap ((i : Int) + 1) = ((i + 1 : Nat) : Int) := by rw [wrap_id (by omega) (by omega)]; simp
    first | (rw [e9]; done) | (rw [e9]; simp [frz])
   ·simp only [okL, frz, and_self]
   ·simp only [leB]
  ·have hge : i = l.length := by have := of_decide_eq_false ht; omega
   refine AWp.exit ?_
   simp only [thenQ, blockQ, ↓reduceIte]
   refine hK _ ?_; clear hK
   refine AWp.settleE 0 hm hle (by simp only [am, seval, reduceCtorEq]) fun h' hle' _ => ?_
   refine AWp.reg fun R8 hR8 => ?_
   simp only [ty28, am, seval, reduceCtorEq]
   refine hR8 _ ?_; clear hR8 R8
   refine AWp.ret ?_
   exact ret_intro (vs := [_]) rfl (Wk.refl _) hle' ⟨rfl, rfl⟩
theorem f94_spec (l : List XSelect) (hl : l.length ≤ 268435456) (h61 : ∀ x ∈ l, Gives Tryz.prog 61 [.agg x.v] (.agg x.v)) : Gives Tryz.prog 94 [.slice 5 (l.map XSelect.v)] (.slice 5 (l.map XSelect.v)) := by
 intro s
 refine acalls_of (fn := Tryz.f94) Tryz.func94 rfl (by decide) (by show 1 ≤ 21; decide) ?_
 rw [Tryz.ntmps94]
 refine AWp.reg fun R1 hR1 => ?_
 simp only [am, seval, reduceCtorEq]
 refine hR1 _ ?_; clear hR1 R1
 refine AWp.reg fun R2 hR2 => ?_
 simp only [ty29, am, seval, reduceCtorEq]
 refine ((clone60 s (l.map XSelect.v) (fun r hr => by obtain ⟨x, _, rfl⟩ := List.mem_map.1 hr; exact x.v_len) (by simpa using hl)).mono fun v s' ⟨hm, hle, hk⟩ => ?_).toP
 have hlv := hm.len
 simp only [ty29, am, seval, reduceCtorEq]
 refine hR2 _ ?_; clear hR2 R2
 refine AWp.seq_k fun K hK => ?_
 refine AWp.reg fun R3 hR3 => ?_
 simp only [ty29, hlv, am, seval, reduceCtorEq]
 refine hR3 _ ?_; clear hR3 R3
 refine AWp.block ?_
 refine AWp.loopT (ι := Nat) (fun i => i ≤ l.length) (fun i => tst [(0, v), (7, vint l.length), (8, vint i)] [] s' 21) (fun i => l.length - i) 0 ⟨Nat.zero_le _, ?_⟩ ?_
 ·refine le_tst ?_ ?_ ?_ (Heap.le.refl _) rfl
  ·simp only [leE, am, seval, reduceCtorEq] <;> simp
  ·rcases hm.2 with ⟨_, rfl⟩ | ⟨b, cap, tl, rfl, _⟩ <;> simp only [okL, frz, and_self]
  ·simp only [leB]
 ·intro i hi
  refine AWp.reg fun R4 hR4 => ?_
  simp only [ty3, tst, am, seval, reduceCtorEq]
  refine hR4 _ ?_; clear hR4 R4
  refine AWp.seq_k fun K2 hK2 => ?_
  refine AWp.cond (t := decide ((i:Int) < (l.length : Nat))) (by simp only [am, seval, reduceCtorEq]) (fun ht => ?_) (fun ht => ?_)
  ·have hlt : i < l.length := by have := of_decide_eq_true ht; omega
   obtain ⟨b, cap, tl, rfl, h1, h2, h3, h4⟩ := hm.pos (by simpa using (by omega : 0 < l.length))
   refine AWp.skip ?_
   refine hK2 _ ?_; clear hK2
   refine AWp.seq_k fun K3 hK3 => ?_
   refine AWp.block ?_
   refine AWp.reg fun R5 hR5 => ?_
   simp only [ty3, am, seval, reduceCtorEq]
   refine hR5 _ ?_; clear hR5 R5
   obtain ⟨y, hy⟩ : ∃ y, l[i] = y := ⟨_, rfl⟩
   have hr : (l.map XSelect.v)[i]? = some y.v := by rw [List.getElem?_map, List.getElem?_eq_getElem hlt, hy]; rfl
   obtain ⟨e1, e2, e3⟩ := flat_row hm.1 tl hr
   have e1 := isT e1
   have hlt2 : ((i : Int) < ((l.length : Nat) : Int)) = True := isT (by omega)
   have h0 : (0 ≤ (i : Int)) = True := isT (by omega)
   refine AWp.reg1 fun R6 hR6 => ?_
   simp only [ty29, ty76, ty3, frz, h4, h0, hlt2, Int.toNat_natCast, e1, e2, true_and, ↓reduceIte, am, seval, reduceCtorEq]
   refine (h61 y (hy ▸ List.getElem_mem hlt) _).go ?_
   simp only [ty29, ty76, ty3, h4, h0, hlt2, Int.toNat_natCast, e1, e3, XSelect.v_all, XSelect.v_len, setBox_self h4, true_and, and_true, ↓reduceIte, am, seval, reduceCtorEq]
   refine hR6 _ ?_; clear hR6 R6
   refine hK3 _ ?_; clear hK3
   refine AWp.reg1 fun R7 hR7 => ?_
   simp only [ty3, am, seval, reduceCtorEq]
   refine hR7 _ ?_; clear hR7 R7
   refine ⟨i + 1, ⟨hlt, by omega⟩, ?_⟩
   refine le_tst ?_ ?_ ?_ (Heap.le.refl _) rfl
   ·simp only [leE, am, seval, reduceCtorEq]
    have e9 : IntKind.i64.wrap ((i : Int) + 1) = ((i + 1 : Nat) : Int) := by rw [wrap_id (by omega) (by omega)]; simp
    first | (rw [e9]; done) | (rw [e9]; simp [frz])
   ·simp only [okL, frz, and_self]
   ·simp only [leB]
  ·have hge : i = l.length := by have := of_decide_eq_false ht; omega
   refine AWp.exit ?_
   simp only [thenQ, blockQ, ↓reduceIte]
   refine hK _ ?_; clear hK
   refine AWp.settleE 0 hm hle (by simp only [am, seval, reduceCtorEq]) fun h' hle' _ => ?_
   refine AWp.reg fun R8 hR8 => ?_
   simp only [ty29, am, seval, reduceCtorEq]
   refine hR8 _ ?_; clear hR8 R8
   refine AWp.ret ?_
   exact ret_intro (vs := [_]) rfl (Wk.refl _) hle' ⟨rfl, rfl⟩
end Go.Proofs.YtdgoilofkgdaoaaGreatDoor.Ex
namespace Go.Proofs.YtdgoilofkgdaoaaGreatDoor.Ex
open Go.Am Go.Ex Go.Proofs.YtdgoilofkgdaoaaGreatDoor
theorem f17_spec (x : XExpr) (h1 : x.args.length ≤ 268435456) (h2 : x.sub.length ≤ 268435456) (h17 : ∀ y ∈ x.args, Gives Tryz.prog 17 [.agg y.v] (.agg y.v)) (h61 : ∀ q ∈ x.sub, Gives Tryz.prog 61 [.agg q.v] (.agg q.v)) : Gives Tryz.prog 17 [.agg x.v] (.agg x.v) := by
 intro s
 refine acalls_of (fn := Tryz.f17) Tryz.func17 rfl (by decide) (by show 1 ≤ 48; decide) ?_
 rw [Tryz.ntmps17]
 refine AWp.reg fun R hR => ?_
 simp only [XExpr.v_eq, ty42, am, seval, reduceCtorEq]
 refine hR _ ?_; clear hR R
 refine AWp.reg fun R hR => ?_
 simp only [XExpr.v_eq, ty28, ty42, am, seval, reduceCtorEq]
 refine ((clone59 s (x.args.map XExpr.v) (fun r hr => by obtain ⟨x, _, rfl⟩ := List.mem_map.1 hr; exact x.v_len) (by simpa using h1)).mono fun v s' ⟨hm, hle, hk⟩ => ?_).toP
 have hlv := hm.len
 have hvc := hm.cell
 have hcc : V.cells v = [v] := by rcases hm.2 with ⟨_, rfl⟩ | ⟨b, cap, tl, rfl, _⟩ <;> rfl
 simp only [ty28, ty42, hcc, hvc, am, seval, reduceCtorEq]
 refine hR _ ?_; clear hR R
 refine AWp.seq_k fun K hK => ?_
 refine AWp.reg fun R hR => ?_
 simp only [ty28, ty42, hlv, am, seval, reduceCtorEq]
 refine hR _ ?_; clear hR R
 refine AWp.block ?_
 refine AWp.loopT (ι := Nat) (fun i => i ≤ x.args.length) (fun i => tst [(1, .loc 1 0), (2, .loc 2 0), (11, vint x.args.length), (12, vint i)] [(1, ([vint x.op, vbool x.not, vstr x.table, vstr x.name, vint x.n, vint x.v_.kind, vint x.v_.int, vstr x.v_.text, v, V.slice 5 (List.map XSelect.v x.sub)], 42)), (2, ([vint 0, vbool false, vstr ByteArray.empty, vstr ByteArray.empty, vint 0, vint 0, vint 0, vstr ByteArray.empty, .nil, .nil], 42))] s' 48) (fun i => x.args.length - i) 0 ⟨Nat.zero_le _, ?_⟩ ?_
 ·refine le_tst ?_ ?_ ?_ (Heap.le.refl _) rfl
  ·simp only [leE, am, seval, reduceCtorEq] <;> simp
  ·simp only [okL, keyIn, Nat.reduceBEq, Bool.or_true, Bool.true_or, Bool.or_false, and_self]
  ·simp only [leB, am, seval, reduceCtorEq] <;> simp
 ·intro i hi
  refine AWp.reg fun R hR => ?_
  simp only [ty3, tst, am, seval, reduceCtorEq]
  refine hR _ ?_; clear hR R
  refine AWp.seq_k fun K2 hK2 => ?_
  refine AWp.cond (t := decide ((i:Int) < (x.args.length : Nat))) (by simp only [am, seval, reduceCtorEq]) (fun ht => ?_) (fun ht => ?_)
  ·have hlt : i < x.args.length := by have := of_decide_eq_true ht; omega
   obtain ⟨b, cap, tl, rfl, h1, h2, h3, h4⟩ := hm.pos (by simpa using (by omega : 0 < x.args.length))
   refine AWp.skip ?_
   refine hK2 _ ?_; clear hK2
   refine AWp.seq_k fun K3 hK3 => ?_
   refine AWp.block ?_
   refine AWp.reg fun R hR => ?_
   simp only [ty3, am, seval, reduceCtorEq]
   refine hR _ ?_; clear hR R
   obtain ⟨y, hy⟩ : ∃ y, x.args[i] = y := ⟨_, rfl⟩
   have hr : (x.args.map XExpr.v)[i]? = some y.v := by rw [List.getElem?_map, List.getElem?_eq_getElem hlt, hy]; rfl
   obtain ⟨e1, e2, e3⟩ := flat_row hm.1 tl hr
   have e1 := isT e1
   have hlt2 : ((i : Int) < ((x.args.length : Nat) : Int)) = True := isT (by omega)
   have h0 : (0 ≤ (i : Int)) = True := isT (by omega)
   refine AWp.regL1 mixed [0, 1, 2, 3, 4, 5, 6, 7, 8, 9, 10] (by decide +kernel) [100016] (by decide +kernel) fun R hR => ?_
   simp only [ty28, ty42, ty42, ty3, frz, h4, h0, hlt2, Int.toNat_natCast, e1, e2, true_and, ↓reduceIte, aml, Nat.reduceBEq, am, seval, reduceCtorEq]
   refine (h17 y (hy ▸ List.getElem_mem hlt) _).go ?_
   simp only [ty28, ty42, ty42, ty3, h4, h0, hlt2, Int.toNat_natCast, e1, e3, XExpr.v_all, XExpr.v_len, setBox_self h4, true_and, and_true, ↓reduceIte, aml, Nat.reduceBEq, am, seval, reduceCtorEq]
   refine hR _ ?_; clear hR R
   refine hK3 _ ?_; clear hK3
   refine AWp.reg1 fun R hR => ?_
   simp only [ty3, am, seval, reduceCtorEq]
   refine hR _ ?_; clear hR R
   refine ⟨i + 1, ⟨hlt, by omega⟩, ?_⟩
   refine le_tst ?_ ?_ ?_ (Heap.le.refl _) rfl
   ·simp only [leE, am, seval, reduceCtorEq]
    have e9 : IntKind.i64.wrap ((i : Int) + 1) = ((i + 1 : Nat) : Int) := by rw [wrap_id (by omega) (by omega)]; simp
    first | (rw [e9]; done) | (rw [e9]; simp [frz])
   ·simp only [okL, keyIn, Nat.reduceBEq, Bool.or_true, Bool.true_or, Bool.or_false, and_self]
   ·simp only [leB, frz, am, seval, reduceCtorEq] <;> simp
  ·have hge : i = x.args.length := by have := of_decide_eq_false ht; omega
   refine AWp.exit ?_
   simp only [thenQ, blockQ, ↓reduceIte]
   refine hK _ ?_; clear hK
   refine AWp.settleB 1 8 hm hle (by simp only [am, seval, reduceCtorEq]; rfl) rfl fun s2 hle2 _ => ?_
   simp only [List.set_cons_zero, List.set_cons_succ, am, seval, reduceCtorEq]
   refine AWp.reg fun R hR => ?_
   simp only [XExpr.v_eq, ty29, ty42, am, seval, reduceCtorEq]
   refine ((clone60 s2 (x.sub.map XSelect.v) (fun r hr => by obtain ⟨x, _, rfl⟩ := List.mem_map.1 hr; exact x.v_len) (by simpa using h2)).mono fun v s' ⟨hm, hle, hk⟩ => ?_).toP
   have hlv := hm.len
   have hvc := hm.cell
   have hcc : V.cells v = [v] := by rcases hm.2 with ⟨_, rfl⟩ | ⟨b, cap, tl, rfl, _⟩ <;> rfl
   simp only [ty29, ty42, hcc, hvc, am, seval, reduceCtorEq]
   refine hR _ ?_; clear hR R
   refine AWp.seq_k fun K hK => ?_
   refine AWp.reg fun R hR => ?_
   simp only [ty29, ty42, hlv, am, seval, reduceCtorEq]
   refine hR _ ?_; clear hR R
   refine AWp.block ?_
   refine AWp.loopT (ι := Nat) (fun i => i ≤ x.sub.length) (fun i => tst [(1, .loc 1 0), (2, .loc 2 0), (32, vint x.sub.length), (33, vint i)] [(1, ([vint x.op, vbool x.not, vstr x.table, vstr x.name, vint x.n, vint x.v_.kind, vint x.v_.int, vstr x.v_.text, V.slice 10 (List.map XExpr.v x.args), v], 42)), (2, ([vint 0, vbool false, vstr ByteArray.empty, vstr ByteArray.empty, vint 0, vint 0, vint 0, vstr ByteArray.empty, .nil, .nil], 42))] s' 48) (fun i => x.sub.length - i) 0 ⟨Nat.zero_le _, ?_⟩ ?_
   ·refine le_tst ?_ ?_ ?_ (Heap.le.refl _) rfl
    ·simp only [leE, am, seval, reduceCtorEq] <;> simp
    ·simp only [okL, keyIn, Nat.reduceBEq, Bool.or_true, Bool.true_or, Bool.or_false, and_self]
    ·simp only [leB, am, seval, reduceCtorEq] <;> simp
   ·intro i hi
    refine AWp.reg fun R hR => ?_
    simp only [ty3, tst, am, seval, reduceCtorEq]
    refine hR _ ?_; clear hR R
    refine AWp.seq_k fun K2 hK2 => ?_
    refine AWp.cond (t := decide ((i:Int) < (x.sub.length : Nat))) (by simp only [am, seval, reduceCtorEq]) (fun ht => ?_) (fun ht => ?_)
    ·have hlt : i < x.sub.length := by have := of_decide_eq_true ht; omega
     obtain ⟨b, cap, tl, rfl, h1, h2, h3, h4⟩ := hm.pos (by simpa using (by omega : 0 < x.sub.length))
     refine AWp.skip ?_
     refine hK2 _ ?_; clear hK2
     refine AWp.seq_k fun K3 hK3 => ?_
     refine AWp.block ?_
     refine AWp.reg fun R hR => ?_
     simp only [ty3, am, seval, reduceCtorEq]
     refine hR _ ?_; clear hR R
     obtain ⟨y, hy⟩ : ∃ y, x.sub[i] = y := ⟨_, rfl⟩
     have hr : (x.sub.map XSelect.v)[i]? = some y.v := by rw [List.getElem?_map, List.getElem?_eq_getElem hlt, hy]; rfl
     obtain ⟨e1, e2, e3⟩ := flat_row hm.1 tl hr
     have e1 := isT e1
     have hlt2 : ((i : Int) < ((x.sub.length : Nat) : Int)) = True := isT (by omega)
     have h0 : (0 ≤ (i : Int)) = True := isT (by omega)
     refine AWp.regL1 mixed [0, 1, 2, 3, 4, 5, 6, 7, 8, 9, 10] (by decide +kernel) [100037] (by decide +kernel) fun R hR => ?_
     simp only [ty29, ty76, ty42, ty3, frz, h4, h0, hlt2, Int.toNat_natCast, e1, e2, true_and, ↓reduceIte, aml, Nat.reduceBEq, am, seval, reduceCtorEq]
     refine (h61 y (hy ▸ List.getElem_mem hlt) _).go ?_
     simp only [ty29, ty76, ty42, ty3, h4, h0, hlt2, Int.toNat_natCast, e1, e3, XSelect.v_all, XSelect.v_len, setBox_self h4, true_and, and_true, ↓reduceIte, aml, Nat.reduceBEq, am, seval, reduceCtorEq]
     refine hR _ ?_; clear hR R
     refine hK3 _ ?_; clear hK3
     refine AWp.reg1 fun R hR => ?_
     simp only [ty3, am, seval, reduceCtorEq]
     refine hR _ ?_; clear hR R
     refine ⟨i + 1, ⟨hlt, by omega⟩, ?_⟩
     refine le_tst ?_ ?_ ?_ (Heap.le.refl _) rfl
     ·simp only [leE, am, seval, reduceCtorEq]
      have e9 : IntKind.i64.wrap ((i : Int) + 1) = ((i + 1 : Nat) : Int) := by rw [wrap_id (by omega) (by omega)]; simp
      first | (rw [e9]; done) | (rw [e9]; simp [frz])
     ·simp only [okL, keyIn, Nat.reduceBEq, Bool.or_true, Bool.true_or, Bool.or_false, and_self]
     ·simp only [leB, frz, am, seval, reduceCtorEq] <;> simp
    ·have hge : i = x.sub.length := by have := of_decide_eq_false ht; omega
     refine AWp.exit ?_
     simp only [thenQ, blockQ, ↓reduceIte]
     refine hK _ ?_; clear hK
     refine AWp.settleB 1 9 hm hle (by simp only [am, seval, reduceCtorEq]; rfl) rfl fun s3 hle3 _ => ?_
     simp only [List.set_cons_zero, List.set_cons_succ, am, seval, reduceCtorEq]
     refine AWp.reg fun R hR => ?_
     simp only [ty42, am, seval, reduceCtorEq]
     refine hR _ ?_; clear hR R
     refine AWp.ret ?_
     refine ret_intro (vs := [.agg x.v]) ?_ (Wk.refl _) (hle3.trans hle2) ⟨rfl, rfl⟩
     show resV Tryz.prog _ [.cell 2 42] = _
     simp only [resV, XExpr.v_eq, ty42, am, seval, reduceCtorEq]
end Go.Proofs.YtdgoilofkgdaoaaGreatDoor.Ex
namespace Go.Proofs.YtdgoilofkgdaoaaGreatDoor.Ex
open Go.Am Go.Ex Go.Proofs.YtdgoilofkgdaoaaGreatDoor
def G99 (l : List XExpr) : Prop := Gives Tryz.prog 99 [.slice 10 (l.map XExpr.v)] (.slice 10 (l.map XExpr.v))
def G94 (l : List XSelect) : Prop := Gives Tryz.prog 94 [.slice 5 (l.map XSelect.v)] (.slice 5 (l.map XSelect.v))
theorem f61_spec (x : XSelect) (h1 : x.with_.length ≤ 268435456) (h2 : x.parts.length ≤ 268435456) (h3 : x.order.length ≤ 268435456) (hc : ∀ y ∈ x.with_, y.cols.length ≤ 268435456) (hp : ∀ y ∈ x.parts, y.items.length ≤ 268435456 ∧ y.from_.length ≤ 268435456 ∧ y.values.length ≤ 268435456)
  (hg : ∀ y ∈ x.parts, G99 y.where_ ∧ G99 y.group ∧ G99 y.having ∧ (∀ z ∈ y.items, G99 z.expr) ∧ (∀ z ∈ y.from_, G94 z.sub ∧ G99 z.on) ∧ ∀ z ∈ y.values, G99 z) (h17 : ∀ y ∈ x.order, Gives Tryz.prog 17 [.agg y.expr.v] (.agg y.expr.v)) (hlo : G99 x.limit ∧ G99 x.offset) (h94 : ∀ y ∈ x.with_, Gives Tryz.prog 94 [.slice 5 (y.body.map XSelect.v)] (.slice 5 (y.body.map XSelect.v))) : Gives Tryz.prog 61 [.agg x.v] (.agg x.v) := by
 intro s
 refine acalls_of (fn := Tryz.f61) Tryz.func61 rfl (by decide) (by show 1 ≤ 229; decide) ?_
 rw [Tryz.ntmps61]
 refine AWp.reg fun R hR => ?_
 simp only [XSelect.v_eq, ty76, am, seval, reduceCtorEq]
 refine hR _ ?_; clear hR R
 refine AWp.reg fun R hR => ?_
 simp only [XSelect.v_eq, ty72, ty76, am, seval, reduceCtorEq]
 refine ((clone92 s (x.with_.map XCte.v) (fun r hr => by obtain ⟨x, _, rfl⟩ := List.mem_map.1 hr; exact x.v_len) (by simpa using h1)).mono fun v s' ⟨hm, hle, hk⟩ => ?_).toP
 have hlv := hm.len
 have hvc := hm.cell
 have hcc := hm.cells
 simp only [ty72, ty76, hcc, hvc, am, seval, reduceCtorEq]
 refine hR _ ?_; clear hR R
 refine AWp.seq_k fun K hK => ?_
 refine AWp.reg fun R hR => ?_
 simp only [ty72, ty76, hlv, am, seval, reduceCtorEq]
 refine hR _ ?_; clear hR R
 refine AWp.block ?_
 refine AWp.loopT (ι := Nat × Heap) (fun i => i.1 ≤ x.with_.length ∧ Mx s i.2 v 3 119 (List.map XCte.v x.with_) ∧ i.2.le s) (fun i => tst [(1, .loc 1 0), (2, .loc 2 0), (16, vint x.with_.length), (17, vint i.1)] [(1, ([v, .slice 8 (List.map XPart.v x.parts), .slice 11 (List.map XSort.v x.order), .slice 10 (List.map XExpr.v x.limit), .slice 10 (List.map XExpr.v x.offset)], 76)), (2, ([.nil, .nil, .nil, .nil, .nil], 76))] i.2 229) (fun i => x.with_.length - i.1) (0, s') ⟨⟨Nat.zero_le _, hm, hle⟩, ?_⟩ ?_
 ·refine le_tst ?_ ?_ ?_ (Heap.le.refl _) rfl
  ·simp only [leE, am, seval, reduceCtorEq] <;> simp
  ·simp only [okL, keyIn, Nat.reduceBEq, Bool.or_true, Bool.true_or, Bool.or_false, and_self]
  ·simp only [leB, am, seval, reduceCtorEq] <;> simp
 ·rintro ⟨i, h⟩ ⟨hi, hm, hle⟩
  simp only at hi hm hle ⊢
  refine AWp.reg fun R hR => ?_
  simp only [ty3, tst, am, seval, reduceCtorEq]
  refine hR _ ?_; clear hR R
  refine AWp.seq_k fun K2 hK2 => ?_
  refine AWp.cond (t := decide ((i:Int) < (x.with_.length : Nat))) (by simp only [am, seval, reduceCtorEq]) (fun ht => ?_) (fun ht => ?_)
  ·have hlt : i < x.with_.length := by have := of_decide_eq_true ht; omega
   obtain ⟨b, cap, tl, rfl, h6, h7, h8, h4⟩ := hm.pos (by simpa using (by omega : 0 < x.with_.length))
   refine AWp.skip ?_
   refine hK2 _ ?_; clear hK2
   refine AWp.seq_k fun K3 hK3 => ?_
   refine AWp.block ?_
   refine AWp.reg fun R hR => ?_
   simp only [ty3, am, seval, reduceCtorEq]
   refine hR _ ?_; clear hR R
   obtain ⟨y, hy⟩ : ∃ y, x.with_[i] = y := ⟨_, rfl⟩
   have hyl : y ∈ x.with_ := hy ▸ List.getElem_mem hlt
   have hr : (x.with_.map XCte.v)[i]? = some (XCte.v y) := by rw [List.getElem?_map, List.getElem?_eq_getElem hlt, hy]; rfl
   have hlt2 : ((i : Int) < ((x.with_.length : Nat) : Int)) = True := isT (by omega)
   have h0 : (0 ≤ (i : Int)) = True := isT (by omega)
   obtain ⟨c1, c2, c3⟩ := flat_at hm.1 tl hr (j := 1) (c := .slice 1 (List.map (fun x => [vstr x]) y.cols)) (by rw [XCte.v_eq]; rfl)
   obtain ⟨d1, d2, d3⟩ := flat_at hm.1 tl hr (j := 2) (c := .slice 5 (List.map XSelect.v y.body)) (by rw [XCte.v_eq]; rfl)
   obtain ⟨p1, p2, p3, p4, p5⟩ := flat_put hm.1 tl hr 1 (by decide) (.slice 1 (List.map (fun x => [vstr x]) y.cols))
   refine AWp.regL mixed [0, 1, 2, 3, 4, 5, 6, 7, 8, 9, 10, 11, 12] (by decide +kernel) [100021] (by decide +kernel) fun R hR => ?_
   simp only [ty72, ty119, ty24, ty76, ty3, frz, h4, h0, hlt2, Int.toNat_natCast, c1, true_and, ↓reduceIte, aml, Nat.reduceBEq, am, seval, reduceCtorEq]
   refine ((clone93 h (y.cols.map fun x => [vstr x]) (fun r hr => by obtain ⟨x, _, rfl⟩ := List.mem_map.1 hr; rfl) (by simpa using (hc y hyl))).mono fun v5 g5 ⟨hm5, hle5, hk5⟩ => ?_).toP
   have hvc5 := hm5.cell
   have hcc5 := hm5.cells
   have h45 := hk5 _ _ h4
   have c2' := isT c2
   obtain ⟨q1, q2, q3, q4, q5⟩ := flat_put hm.1 tl hr 1 (by decide) v5
   simp only [ty72, ty119, ty24, ty76, ty3, h45, h0, hlt2, Int.toNat_natCast, c2', hcc5, hvc5, q2, true_and, and_true, ↓reduceIte, aml, Nat.reduceBEq, am, seval, reduceCtorEq]
   refine hR _ ?_; clear hR R
   have hn : s.box b = none := h8
   refine AWp.settleH b (i * 3 + 1) ((hm5.base hle).other (keepT h45 (by decide))) ((hle5.trans hle).setBox hn _) (by decide) (upd_same _ _ _) hn (flat_at q4 tl q5 (j := 1) (c := v5) (by rw [XCte.v_eq]; rfl)).1 fun h' hleN _ hb' => ?_
   rw [flat_undo hm.1 tl hr (by decide) (by rw [XCte.v_eq]; rfl) v5] at hb'
   have d2' := isT d2
   refine AWp.regL1 mixed [0, 1, 2, 3, 4, 5, 6, 7, 8, 9, 10, 11, 12] (by decide +kernel) [100033] (by decide +kernel) fun R hR => ?_
   simp only [ty72, ty119, ty29, ty76, ty3, frz, hb', h0, hlt2, Int.toNat_natCast, d1, true_and, ↓reduceIte, aml, Nat.reduceBEq, am, seval, reduceCtorEq]
   refine (h94 y hyl _).go ?_
   simp only [ty72, ty119, ty29, ty76, ty3, hb', h0, hlt2, Int.toNat_natCast, d2', d3, setBox_self hb', true_and, and_true, ↓reduceIte, aml, Nat.reduceBEq, am, seval, reduceCtorEq]
   refine hR _ ?_; clear hR R
   have hmN : Mx s h' (frz b (List.map XCte.v x.with_).length cap) 3 119 (List.map XCte.v x.with_) := ⟨hm.1, .inr ⟨b, cap, tl, rfl, h6, h7, h8, hb'⟩⟩
   refine hK3 _ ?_; clear hK3
   refine AWp.reg1 fun R hR => ?_
   simp only [ty3, am, seval, reduceCtorEq]
   refine hR _ ?_; clear hR R
   refine ⟨(i + 1, h'), ⟨⟨hlt, hmN, hleN⟩, by simp only; omega⟩, ?_⟩
   refine le_tst ?_ ?_ ?_ (Heap.le.refl _) rfl
   ·simp only [leE, am, seval, reduceCtorEq]
    have e9 : IntKind.i64.wrap ((i : Int) + 1) = ((i + 1 : Nat) : Int) := by rw [wrap_id (by omega) (by omega)]; simp
    first | (rw [e9]; done) | (rw [e9]; simp [frz])
   ·simp only [okL, keyIn, Nat.reduceBEq, Bool.or_true, Bool.true_or, Bool.or_false, and_self]
   ·simp only [leB, frz, am, seval, reduceCtorEq] <;> simp
  ·have hge : i = x.with_.length := by have := of_decide_eq_false ht; omega
   refine AWp.exit ?_
   simp only [thenQ, blockQ, ↓reduceIte]
   refine hK _ ?_; clear hK
   refine AWp.settleB 1 0 hm hle (by simp only [am, seval, reduceCtorEq]; rfl) rfl fun s2 hle2 _ => ?_
   simp only [List.set_cons_zero, List.set_cons_succ, am, seval, reduceCtorEq]
   refine AWp.reg fun R hR => ?_
   simp only [XSelect.v_eq, ty73, ty76, am, seval, reduceCtorEq]
   refine ((clone95 s2 (x.parts.map XPart.v) (fun r hr => by obtain ⟨x, _, rfl⟩ := List.mem_map.1 hr; exact x.v_len) (by simpa using h2)).mono fun v s' ⟨hm, hle, hk⟩ => ?_).toP
   have hlv := hm.len
   have hvc := hm.cell
   have hcc := hm.cells
   simp only [ty73, ty76, hcc, hvc, am, seval, reduceCtorEq]
   refine hR _ ?_; clear hR R
   refine AWp.seq_k fun K hK => ?_
   refine AWp.reg fun R hR => ?_
   simp only [ty73, ty76, hlv, am, seval, reduceCtorEq]
   refine hR _ ?_; clear hR R
   refine AWp.block ?_
   refine AWp.loopT (ι := Nat × Heap) (fun i => i.1 ≤ x.parts.length ∧ Mx s2 i.2 v 8 126 (List.map XPart.v x.parts) ∧ i.2.le s2) (fun i => tst [(1, .loc 1 0), (2, .loc 2 0), (51, vint x.parts.length), (52, vint i.1)] [(1, ([.slice 3 (List.map XCte.v x.with_), v, .slice 11 (List.map XSort.v x.order), .slice 10 (List.map XExpr.v x.limit), .slice 10 (List.map XExpr.v x.offset)], 76)), (2, ([.nil, .nil, .nil, .nil, .nil], 76))] i.2 229) (fun i => x.parts.length - i.1) (0, s') ⟨⟨Nat.zero_le _, hm, hle⟩, ?_⟩ ?_
   ·refine le_tst ?_ ?_ ?_ (Heap.le.refl _) rfl
    ·simp only [leE, am, seval, reduceCtorEq] <;> simp
    ·simp only [okL, keyIn, Nat.reduceBEq, Bool.or_true, Bool.true_or, Bool.or_false, and_self]
    ·simp only [leB, am, seval, reduceCtorEq] <;> simp
   ·rintro ⟨i, h⟩ ⟨hi, hm, hle⟩
    simp only at hi hm hle ⊢
    refine AWp.reg fun R hR => ?_
    simp only [ty3, tst, am, seval, reduceCtorEq]
    refine hR _ ?_; clear hR R
    refine AWp.seq_k fun K2 hK2 => ?_
    refine AWp.cond (t := decide ((i:Int) < (x.parts.length : Nat))) (by simp only [am, seval, reduceCtorEq]) (fun ht => ?_) (fun ht => ?_)
    ·have hlt : i < x.parts.length := by have := of_decide_eq_true ht; omega
     obtain ⟨bP, cap, tlP, rfl, h6, h7, h8, h4⟩ := hm.pos (by simpa using (by omega : 0 < x.parts.length))
     refine AWp.skip ?_
     refine hK2 _ ?_; clear hK2
     refine AWp.seq_k fun K3 hK3 => ?_
     refine AWp.block ?_
     refine AWp.reg fun R hR => ?_
     simp only [ty3, am, seval, reduceCtorEq]
     refine hR _ ?_; clear hR R
     obtain ⟨y, hy⟩ : ∃ y, x.parts[i] = y := ⟨_, rfl⟩
     have hyl : y ∈ x.parts := hy ▸ List.getElem_mem hlt
     have hr : (x.parts.map XPart.v)[i]? = some (XPart.v y) := by rw [List.getElem?_map, List.getElem?_eq_getElem hlt, hy]; rfl
     have hlt2 : ((i : Int) < ((x.parts.length : Nat) : Int)) = True := isT (by omega)
     have h0 : (0 ≤ (i : Int)) = True := isT (by omega)
     have hn : s2.box bP = none := h8
     refine AWp.reg fun R hR => ?_
     simp only [ty73, ty123, ty124, ty112, ty126, ty28, ty76, ty3, frz, h0, hlt2, Int.toNat_natCast, true_and, am, seval, reduceCtorEq]
     refine hR _ ?_; clear hR R
     obtain ⟨c2, l2, m2⟩ := flat_at hm.1 tlP hr (j := 2) (c := .slice 4 (List.map XItem.v y.items)) (by rw [XPart.v_eq]; rfl)
     have l2 := isT l2
     have n2 : List.take (i * 8 + 2) (_ ++ tlP) ++ [_] ++ List.drop (i * 8 + 2 + 1) (_ ++ tlP) = _ := m2
     obtain ⟨c3, l3, m3⟩ := flat_at hm.1 tlP hr (j := 3) (c := .slice 5 (List.map XSource.v y.from_)) (by rw [XPart.v_eq]; rfl)
     have l3 := isT l3
     have n3 : List.take (i * 8 + 3) (_ ++ tlP) ++ [_] ++ List.drop (i * 8 + 3 + 1) (_ ++ tlP) = _ := m3
     obtain ⟨c7, l7, m7⟩ := flat_at hm.1 tlP hr (j := 7) (c := .slice 1 (List.map (fun x => [.slice 10 (List.map XExpr.v x)]) y.values)) (by rw [XPart.v_eq]; rfl)
     have l7 := isT l7
     have n7 : List.take (i * 8 + 7) (_ ++ tlP) ++ [_] ++ List.drop (i * 8 + 7 + 1) (_ ++ tlP) = _ := m7
     obtain ⟨c4, l4, m4⟩ := flat_at hm.1 tlP hr (j := 4) (c := .slice 10 (List.map XExpr.v y.where_)) (by rw [XPart.v_eq]; rfl)
     have l4 := isT l4
     have n4 : List.take (i * 8 + 4) (_ ++ tlP) ++ [_] ++ List.drop (i * 8 + 4 + 1) (_ ++ tlP) = _ := m4
     obtain ⟨c5, l5, m5⟩ := flat_at hm.1 tlP hr (j := 5) (c := .slice 10 (List.map XExpr.v y.group)) (by rw [XPart.v_eq]; rfl)
     have l5 := isT l5
     have n5 : List.take (i * 8 + 5) (_ ++ tlP) ++ [_] ++ List.drop (i * 8 + 5 + 1) (_ ++ tlP) = _ := m5
     obtain ⟨c6, l6, m6⟩ := flat_at hm.1 tlP hr (j := 6) (c := .slice 10 (List.map XExpr.v y.having)) (by rw [XPart.v_eq]; rfl)
     have l6 := isT l6
     have n6 : List.take (i * 8 + 6) (_ ++ tlP) ++ [_] ++ List.drop (i * 8 + 6 + 1) (_ ++ tlP) = _ := m6
     refine AWp.regW mixed [0, 1, 2, 3, 4, 5, 6, 8, 9, 10, 11, 13, 14, 15, 16, 7, 12, 17, 18, 19, 20, 21, 22, 23, 24, 25, 26] (by decide +kernel) [100070, 100075] (by decide +kernel) fun R hR => ?_
     simp only [ty73, ty123, ty124, ty112, ty126, ty28, ty76, ty3, frz, h4, c2, c3, c7, true_and, and_true, ↓reduceIte, awl, Nat.reduceBEq, am, seval, reduceCtorEq]
     refine ((clone96 h (y.items.map XItem.v) (fun r hr => by obtain ⟨x, _, rfl⟩ := List.mem_map.1 hr; exact x.v_len) (by simpa using (hp y hyl).1)).mono fun vI hI ⟨hmI, hleI, hkI⟩ => ?_).toP
     have kI := isT hkI
     have lvI := hmI.len
     have vcI := hmI.cell
     have ccI := hmI.cells
     simp only [ty73, ty123, ty124, ty112, ty126, ty28, ty76, ty3, frz, h4, c2, c3, c7, ccI, kI, true_and, and_true, ↓reduceIte, awl, Nat.reduceBEq, am, seval, reduceCtorEq]
     refine ((clone97 hI (y.from_.map XSource.v) (fun r hr => by obtain ⟨x, _, rfl⟩ := List.mem_map.1 hr; exact x.v_len) (by simpa using (hp y hyl).2.1)).mono fun vF hF ⟨hmF, hleF, hkF⟩ => ?_).toP
     have kF := isT hkF
     have lvF := hmF.len
     have vcF := hmF.cell
     have ccF := hmF.cells
     simp only [ty73, ty123, ty124, ty112, ty126, ty28, ty76, ty3, frz, h4, c2, c3, c7, ccF, kF, true_and, and_true, ↓reduceIte, awl, Nat.reduceBEq, am, seval, reduceCtorEq]
     refine ((clone98 hF (y.values.map fun x => [.slice 10 (List.map XExpr.v x)]) (fun r hr => by obtain ⟨x, _, rfl⟩ := List.mem_map.1 hr; rfl) (by simpa using (hp y hyl).2.2)).mono fun vV hV ⟨hmV, hleV, hkV⟩ => ?_).toP
     have kV := isT hkV
     have lvV := hmV.len
     have vcV := hmV.cell
     have ccV := hmV.cells
     have h47 := hkV _ _ (hkF _ _ (hkI _ _ h4))
     obtain ⟨_, q1b, q1c, q1d, q1e⟩ := flat_put hm.1 tlP hr 2 (by decide) vI
     obtain ⟨_, q2b, q2c, q2d, q2e⟩ := flat_put q1d tlP q1e 3 (by decide) vF
     obtain ⟨_, q3b, q3c, q3d, q3e⟩ := flat_put q2d tlP q2e 7 (by decide) vV
     have q1b : List.take (i * 8 + 2) ((List.map XPart.v x.parts).flatten ++ tlP) ++ [vI] ++ List.drop (i * 8 + 2 + 1) ((List.map XPart.v x.parts).flatten ++ tlP) = _ := q1b
     have q2b : List.take (i * 8 + 3) (_ ++ tlP) ++ [vF] ++ List.drop (i * 8 + 3 + 1) (_ ++ tlP) = _ := q2b
     have q3b : List.take (i * 8 + 7) (_ ++ tlP) ++ [vV] ++ List.drop (i * 8 + 7 + 1) (_ ++ tlP) = _ := q3b
     have q1c := isT q1c
     have q2c := isT q2c
     have q3c := isT q3c
     simp only [ty73, ty123, ty124, ty112, ty126, ty28, ty76, ty3, frz, h47, ccI, ccF, ccV, vcI, vcF, vcV, q1b, q1c, q2b, q2c, q3b, q3c, kV, setBox_same, setBox_set, true_and, and_true, ↓reduceIte, awl, Nat.reduceBEq, am, seval, reduceCtorEq]
     refine hR _ ?_; clear hR R
     have r3e : (((XPart.v y).set 2 vI).set 3 vF).set 7 vV = [vint y.comp, vbool y.distinct, vI, vF, .slice 10 (List.map XExpr.v y.where_), .slice 10 (List.map XExpr.v y.group), .slice 10 (List.map XExpr.v y.having), vV] := by rw [XPart.v_eq]; rfl
     obtain ⟨E3, hE3⟩ : ∃ E, (((List.map XPart.v x.parts).set i ((XPart.v y).set 2 vI)).set i (((XPart.v y).set 2 vI).set 3 vF)).set i ((((XPart.v y).set 2 vI).set 3 vF).set 7 vV) = E := ⟨_, rfl⟩
     rw [hE3] at q3d q3e ⊢
     rw [r3e] at q3e
     generalize hH3 : hV.setBox bP (E3.flatten ++ tlP, 126) = H3
     have h43 : H3.box bP = some (E3.flatten ++ tlP, 126) := by rw [← hH3]; exact upd_same _ _ _
     have hleH : H3.le s2 := by rw [← hH3]; exact (hleV.trans (hleF.trans (hleI.trans hle))).setBox hn _
     have mI : Mx s2 H3 vI 4 175 (y.items.map XItem.v) := (hmI.base hle).other fun k ks hb => by rw [← hH3]; exact keepT h47 (by decide) k ks (hkV _ _ (hkF _ _ hb))
     have mF : Mx s2 H3 vF 5 179 (y.from_.map XSource.v) := (hmF.base (hleI.trans hle)).other fun k ks hb => by rw [← hH3]; exact keepT h47 (by decide) k ks (hkV _ _ hb)
     have mV : Mx s2 H3 vV 1 28 (y.values.map fun x => [.slice 10 (List.map XExpr.v x)]) := (hmV.base (hleF.trans (hleI.trans hle))).other fun k ks hb => by rw [← hH3]; exact keepT h47 (by decide) k ks hb
     clear hmI hmF hmV hkI hkF hkV kI kF kV hleI hleF hleV h47 q1b q1c q1d q1e q2b q2c q2d q2e q3b q3c c2 c3 c4 c5 c6 c7 l2 l3 l4 l5 l6 l7 m2 m3 m4 m5 m6 m7 n2 n3 n4 n5 n6 n7
     obtain ⟨c2, l2, m2⟩ := flat_at q3d tlP q3e (j := 2) (c := vI) (by rfl)
     have l2 := isT l2
     have n2 : List.take (i * 8 + 2) (_ ++ tlP) ++ [_] ++ List.drop (i * 8 + 2 + 1) (_ ++ tlP) = _ := m2
     obtain ⟨c3, l3, m3⟩ := flat_at q3d tlP q3e (j := 3) (c := vF) (by rfl)
     have l3 := isT l3
     have n3 : List.take (i * 8 + 3) (_ ++ tlP) ++ [_] ++ List.drop (i * 8 + 3 + 1) (_ ++ tlP) = _ := m3
     obtain ⟨c7, l7, m7⟩ := flat_at q3d tlP q3e (j := 7) (c := vV) (by rfl)
     have l7 := isT l7
     have n7 : List.take (i * 8 + 7) (_ ++ tlP) ++ [_] ++ List.drop (i * 8 + 7 + 1) (_ ++ tlP) = _ := m7
     obtain ⟨c4, l4, m4⟩ := flat_at q3d tlP q3e (j := 4) (c := .slice 10 (List.map XExpr.v y.where_)) (by rfl)
     have l4 := isT l4
     have n4 : List.take (i * 8 + 4) (_ ++ tlP) ++ [_] ++ List.drop (i * 8 + 4 + 1) (_ ++ tlP) = _ := m4
     obtain ⟨c5, l5, m5⟩ := flat_at q3d tlP q3e (j := 5) (c := .slice 10 (List.map XExpr.v y.group)) (by rfl)
     have l5 := isT l5
     have n5 : List.take (i * 8 + 5) (_ ++ tlP) ++ [_] ++ List.drop (i * 8 + 5 + 1) (_ ++ tlP) = _ := m5
     obtain ⟨c6, l6, m6⟩ := flat_at q3d tlP q3e (j := 6) (c := .slice 10 (List.map XExpr.v y.having)) (by rfl)
     have l6 := isT l6
     have n6 : List.take (i * 8 + 6) (_ ++ tlP) ++ [_] ++ List.drop (i * 8 + 6 + 1) (_ ++ tlP) = _ := m6
     obtain ⟨g1, g2, g3, g4, g5, g6⟩ := hg y hyl
     obtain ⟨hb1, hb2, hb3⟩ := hp y hyl
     refine AWp.regW mixed [0, 1, 2, 3, 4, 5, 6, 8, 9, 10, 11, 13, 14, 15, 16, 7, 12, 17, 18, 19, 20, 21, 22, 23, 24, 25, 26] (by decide +kernel) [100094, 100099] (by decide +kernel) fun R hR => ?_
     simp only [ty73, ty123, ty124, ty112, ty126, ty28, ty76, ty3, h43, c4, c5, c6, true_and, and_true, ↓reduceIte, awl, Nat.reduceBEq, am, seval, reduceCtorEq]
     refine (g1 _).go ?_
     simp only [ty73, ty123, ty124, ty112, ty126, ty28, ty76, ty3, h43, c4, c5, c6, imp_self, implies_true, true_and, and_true, ↓reduceIte, awl, Nat.reduceBEq, am, seval, reduceCtorEq]
     refine (g2 _).go ?_
     simp only [ty73, ty123, ty124, ty112, ty126, ty28, ty76, ty3, h43, c4, c5, c6, imp_self, implies_true, true_and, and_true, ↓reduceIte, awl, Nat.reduceBEq, am, seval, reduceCtorEq]
     refine (g3 _).go ?_
     simp only [ty73, ty123, ty124, ty112, ty126, ty28, ty76, ty3, h43, c4, c5, c6, l4, l5, l6, n4, n5, n6, setBox_self h43, imp_self, implies_true, true_and, and_true, ↓reduceIte, awl, Nat.reduceBEq, am, seval, reduceCtorEq]
     refine hR _ ?_; clear hR R
     refine AWp.seq_k fun K5 hK5 => ?_
     refine AWp.reg fun R hR => ?_
     simp only [ty73, ty123, ty124, ty112, ty126, ty28, ty76, ty3, h43, c2, mI.len, true_and, and_true, ↓reduceIte, am, seval, reduceCtorEq]
     refine hR _ ?_; clear hR R
     refine AWp.block ?_
     refine AWp.loopT (ι := Nat) (fun j => j ≤ y.items.length) (fun j => tst [(1, .loc 1 0), (2, .loc 2 0), (5, .ptr bP (i * 8)), (51, vint x.parts.length), (52, vint i), (111, vint y.items.length), (112, vint j)] [(1, ([.slice 3 (List.map XCte.v x.with_), (frz bP (List.map XPart.v x.parts).length cap), .slice 11 (List.map XSort.v x.order), .slice 10 (List.map XExpr.v x.limit), .slice 10 (List.map XExpr.v x.offset)], 76)), (2, ([.nil, .nil, .nil, .nil, .nil], 76))] H3 229) (fun j => y.items.length - j) 0 ⟨Nat.zero_le _, ?_⟩ ?_
     ·refine le_tst ?_ ?_ ?_ (Heap.le.refl _) rfl
      ·simp only [leE, frz, am, seval, reduceCtorEq] <;> simp
      ·simp only [okL, keyIn, Nat.reduceBEq, Bool.or_true, Bool.true_or, Bool.or_false, and_self]
      ·simp only [leB, frz, am, seval, reduceCtorEq] <;> simp
     ·intro j hj
      refine AWp.reg fun R hR => ?_
      simp only [ty3, tst, am, seval, reduceCtorEq]
      refine hR _ ?_; clear hR R
      refine AWp.seq_k fun K6 hK6 => ?_
      refine AWp.cond (t := decide ((j:Int) < (y.items.length : Nat))) (by simp only [am, seval, reduceCtorEq]) (fun ht => ?_) (fun ht => ?_)
      ·have hlt : j < y.items.length := by have := of_decide_eq_true ht; omega
       obtain ⟨b, cp, tl, rfl, _, _, _, h4⟩ := mI.pos (by simpa using (by omega : 0 < y.items.length))
       refine AWp.skip ?_
       refine hK6 _ ?_; clear hK6
       refine AWp.seq_k fun K7 hK7 => ?_
       refine AWp.block ?_
       refine AWp.reg fun R hR => ?_
       simp only [ty3, am, seval, reduceCtorEq]
       refine hR _ ?_; clear hR R
       obtain ⟨z, hz⟩ : ∃ z, y.items[j] = z := ⟨_, rfl⟩
       have hzl : z ∈ y.items := hz ▸ List.getElem_mem hlt
       have hr : (y.items.map XItem.v)[j]? = some ((XItem.v) z) := by rw [List.getElem?_map, List.getElem?_eq_getElem hlt, hz]; rfl
       have hlt2 : ((j : Int) < ((y.items.length : Nat) : Int)) = True := isT (by omega)
       have h0 : (0 ≤ (j : Int)) = True := isT (by omega)
       obtain ⟨f0a, f0b, f0c⟩ := flat_at mI.1 tl hr (j := 2) (c := .slice 10 (List.map XExpr.v z.expr)) (by rw [XItem.v_eq]; rfl)
       have f0b := isT f0b
       have f0d : List.take (j * 4 + 2) (_ ++ tl) ++ [_] ++ List.drop (j * 4 + 2 + 1) (_ ++ tl) = _ := f0c
       refine AWp.regW1 mixed [0, 1, 2, 3, 4, 5, 6, 7, 8, 9, 10, 11, 12, 13, 14, 15, 16] (by decide +kernel) [100118] (by decide +kernel) fun R hR => ?_
       simp only [ty73, ty123, ty124, ty112, ty126, ty28, ty76, ty3, ty175, ty123, h43, c2, h4, frz, h0, hlt2, Int.toNat_natCast, f0a, f0b, f0c, f0d, setBox_self h4, Nat.mul_one, Nat.add_zero, imp_self, implies_true, true_and, and_true, ↓reduceIte, awl, Nat.reduceBEq, am, seval, reduceCtorEq]
       refine (g4 z hzl _).go ?_
       simp only [ty73, ty123, ty124, ty112, ty126, ty28, ty76, ty3, ty175, ty123, h43, c2, h4, frz, h0, hlt2, Int.toNat_natCast, f0a, f0b, f0c, f0d, setBox_self h4, Nat.mul_one, Nat.add_zero, imp_self, implies_true, true_and, and_true, ↓reduceIte, awl, Nat.reduceBEq, am, seval, reduceCtorEq]
       refine hR _ ?_; clear hR R
       refine hK7 _ ?_; clear hK7
       refine AWp.reg1 fun R hR => ?_
       simp only [ty3, am, seval, reduceCtorEq]
       refine hR _ ?_; clear hR R
       refine ⟨j + 1, ⟨hlt, by omega⟩, ?_⟩
       refine le_tst ?_ ?_ ?_ (Heap.le.refl _) rfl
       ·simp only [leE, am, seval, reduceCtorEq]
        have e9 : IntKind.i64.wrap ((j : Int) + 1) = ((j + 1 : Nat) : Int) := by rw [wrap_id (by omega) (by omega)]; simp
        first | (rw [e9]; done) | (rw [e9]; simp [frz])
       ·simp only [okL, keyIn, Nat.reduceBEq, Bool.or_true, Bool.true_or, Bool.or_false, and_self]
       ·simp only [leB, frz, am, seval, reduceCtorEq] <;> simp
      ·have hge : j = y.items.length := by have := of_decide_eq_false ht; omega
       refine AWp.exit ?_
       simp only [thenQ, blockQ, ↓reduceIte]
       refine hK5 _ ?_; clear hK5
       refine AWp.seq_k fun K5 hK5 => ?_
       refine AWp.reg fun R hR => ?_
       simp only [ty73, ty123, ty124, ty112, ty126, ty28, ty76, ty3, h43, c3, mF.len, true_and, and_true, ↓reduceIte, am, seval, reduceCtorEq]
       refine hR _ ?_; clear hR R
       refine AWp.block ?_
       refine AWp.loopT (ι := Nat) (fun j => j ≤ y.from_.length) (fun j => tst [(1, .loc 1 0), (2, .loc 2 0), (5, .ptr bP (i * 8)), (51, vint x.parts.length), (52, vint i), (136, vint y.from_.length), (137, vint j)] [(1, ([.slice 3 (List.map XCte.v x.with_), (frz bP (List.map XPart.v x.parts).length cap), .slice 11 (List.map XSort.v x.order), .slice 10 (List.map XExpr.v x.limit), .slice 10 (List.map XExpr.v x.offset)], 76)), (2, ([.nil, .nil, .nil, .nil, .nil], 76))] H3 229) (fun j => y.from_.length - j) 0 ⟨Nat.zero_le _, ?_⟩ ?_
       ·refine le_tst ?_ ?_ ?_ (Heap.le.refl _) rfl
        ·simp only [leE, frz, am, seval, reduceCtorEq] <;> simp
        ·simp only [okL, keyIn, Nat.reduceBEq, Bool.or_true, Bool.true_or, Bool.or_false, and_self]
        ·simp only [leB, frz, am, seval, reduceCtorEq] <;> simp
       ·intro j hj
        refine AWp.reg fun R hR => ?_
        simp only [ty3, tst, am, seval, reduceCtorEq]
        refine hR _ ?_; clear hR R
        refine AWp.seq_k fun K6 hK6 => ?_
        refine AWp.cond (t := decide ((j:Int) < (y.from_.length : Nat))) (by simp only [am, seval, reduceCtorEq]) (fun ht => ?_) (fun ht => ?_)
        ·have hlt : j < y.from_.length := by have := of_decide_eq_true ht; omega
         obtain ⟨b, cp, tl, rfl, _, _, _, h4⟩ := mF.pos (by simpa using (by omega : 0 < y.from_.length))
         refine AWp.skip ?_
         refine hK6 _ ?_; clear hK6
         refine AWp.seq_k fun K7 hK7 => ?_
         refine AWp.block ?_
         refine AWp.reg fun R hR => ?_
         simp only [ty3, am, seval, reduceCtorEq]
         refine hR _ ?_; clear hR R
         obtain ⟨z, hz⟩ : ∃ z, y.from_[j] = z := ⟨_, rfl⟩
         have hzl : z ∈ y.from_ := hz ▸ List.getElem_mem hlt
         have hr : (y.from_.map XSource.v)[j]? = some ((XSource.v) z) := by rw [List.getElem?_map, List.getElem?_eq_getElem hlt, hz]; rfl
         have hlt2 : ((j : Int) < ((y.from_.length : Nat) : Int)) = True := isT (by omega)
         have h0 : (0 ≤ (j : Int)) = True := isT (by omega)
         obtain ⟨f0a, f0b, f0c⟩ := flat_at mF.1 tl hr (j := 2) (c := .slice 5 (List.map XSelect.v z.sub)) (by rw [XSource.v_eq]; rfl)
         have f0b := isT f0b
         have f0d : List.take (j * 5 + 2) (_ ++ tl) ++ [_] ++ List.drop (j * 5 + 2 + 1) (_ ++ tl) = _ := f0c
         obtain ⟨f1a, f1b, f1c⟩ := flat_at mF.1 tl hr (j := 4) (c := .slice 10 (List.map XExpr.v z.on)) (by rw [XSource.v_eq]; rfl)
         have f1b := isT f1b
         have f1d : List.take (j * 5 + 4) (_ ++ tl) ++ [_] ++ List.drop (j * 5 + 4 + 1) (_ ++ tl) = _ := f1c
         refine AWp.regW1 mixed [0, 1, 2, 3, 4, 5, 6, 7, 8, 9, 10, 11, 12, 13, 14, 15, 16, 17, 19, 20, 21, 22, 23, 24, 25, 26, 18, 27, 28, 29, 30, 31, 32, 33] (by decide +kernel) [100143, 100148, 100162, 100166] (by decide +kernel) fun R hR => ?_
         simp only [ty73, ty123, ty124, ty112, ty126, ty28, ty76, ty3, ty179, ty29, ty124, h43, c3, h4, frz, h0, hlt2, Int.toNat_natCast, f0a, f0b, f0c, f0d, f1a, f1b, f1c, f1d, setBox_self h4, Nat.mul_one, Nat.add_zero, imp_self, implies_true, true_and, and_true, ↓reduceIte, awl, Nat.reduceBEq, am, seval, reduceCtorEq]
         refine ((g5 z hzl).1 _).go ?_
         simp only [ty73, ty123, ty124, ty112, ty126, ty28, ty76, ty3, ty179, ty29, ty124, h43, c3, h4, frz, h0, hlt2, Int.toNat_natCast, f0a, f0b, f0c, f0d, f1a, f1b, f1c, f1d, setBox_self h4, Nat.mul_one, Nat.add_zero, imp_self, implies_true, true_and, and_true, ↓reduceIte, awl, Nat.reduceBEq, am, seval, reduceCtorEq]
         refine ((g5 z hzl).2 _).go ?_
         simp only [ty73, ty123, ty124, ty112, ty126, ty28, ty76, ty3, ty179, ty29, ty124, h43, c3, h4, frz, h0, hlt2, Int.toNat_natCast, f0a, f0b, f0c, f0d, f1a, f1b, f1c, f1d, setBox_self h4, Nat.mul_one, Nat.add_zero, imp_self, implies_true, true_and, and_true, ↓reduceIte, awl, Nat.reduceBEq, am, seval, reduceCtorEq]
         refine hR _ ?_; clear hR R
         refine hK7 _ ?_; clear hK7
         refine AWp.reg1 fun R hR => ?_
         simp only [ty3, am, seval, reduceCtorEq]
         refine hR _ ?_; clear hR R
         refine ⟨j + 1, ⟨hlt, by omega⟩, ?_⟩
         refine le_tst ?_ ?_ ?_ (Heap.le.refl _) rfl
         ·simp only [leE, am, seval, reduceCtorEq]
          have e9 : IntKind.i64.wrap ((j : Int) + 1) = ((j + 1 : Nat) : Int) := by rw [wrap_id (by omega) (by omega)]; simp
          first | (rw [e9]; done) | (rw [e9]; simp [frz])
         ·simp only [okL, keyIn, Nat.reduceBEq, Bool.or_true, Bool.true_or, Bool.or_false, and_self]
         ·simp only [leB, frz, am, seval, reduceCtorEq] <;> simp
        ·have hge : j = y.from_.length := by have := of_decide_eq_false ht; omega
         refine AWp.exit ?_
         simp only [thenQ, blockQ, ↓reduceIte]
         refine hK5 _ ?_; clear hK5
         refine AWp.reg fun R hR => ?_
         simp only [ty73, ty123, ty124, ty112, ty126, ty28, ty76, ty3, h43, c7, mV.len, true_and, and_true, ↓reduceIte, am, seval, reduceCtorEq]
         refine hR _ ?_; clear hR R
         refine AWp.block ?_
         refine AWp.loopT (ι := Nat) (fun j => j ≤ y.values.length) (fun j => tst [(1, .loc 1 0), (2, .loc 2 0), (5, .ptr bP (i * 8)), (51, vint x.parts.length), (52, vint i), (177, vint y.values.length), (178, vint j)] [(1, ([.slice 3 (List.map XCte.v x.with_), (frz bP (List.map XPart.v x.parts).length cap), .slice 11 (List.map XSort.v x.order), .slice 10 (List.map XExpr.v x.limit), .slice 10 (List.map XExpr.v x.offset)], 76)), (2, ([.nil, .nil, .nil, .nil, .nil], 76))] H3 229) (fun j => y.values.length - j) 0 ⟨Nat.zero_le _, ?_⟩ ?_
         ·refine le_tst ?_ ?_ ?_ (Heap.le.refl _) rfl
          ·simp only [leE, frz, am, seval, reduceCtorEq] <;> simp
          ·simp only [okL, keyIn, Nat.reduceBEq, Bool.or_true, Bool.true_or, Bool.or_false, and_self]
          ·simp only [leB, frz, am, seval, reduceCtorEq] <;> simp
         ·intro j hj
          refine AWp.reg fun R hR => ?_
          simp only [ty3, tst, am, seval, reduceCtorEq]
          refine hR _ ?_; clear hR R
          refine AWp.seq_k fun K6 hK6 => ?_
          refine AWp.cond (t := decide ((j:Int) < (y.values.length : Nat))) (by simp only [am, seval, reduceCtorEq]) (fun ht => ?_) (fun ht => ?_)
          ·have hlt : j < y.values.length := by have := of_decide_eq_true ht; omega
           obtain ⟨b, cp, tl, rfl, _, _, _, h4⟩ := mV.pos (by simpa using (by omega : 0 < y.values.length))
           refine AWp.skip ?_
           refine hK6 _ ?_; clear hK6
           refine AWp.seq_k fun K7 hK7 => ?_
           refine AWp.block ?_
           refine AWp.reg fun R hR => ?_
           simp only [ty3, am, seval, reduceCtorEq]
           refine hR _ ?_; clear hR R
           obtain ⟨z, hz⟩ : ∃ z, y.values[j] = z := ⟨_, rfl⟩
           have hzl : z ∈ y.values := hz ▸ List.getElem_mem hlt
           have hr : (y.values.map fun x => [V.slice 10 (List.map XExpr.v x)])[j]? = some ((fun x => [V.slice 10 (List.map XExpr.v x)]) z) := by rw [List.getElem?_map, List.getElem?_eq_getElem hlt, hz]; rfl
           have hlt2 : ((j : Int) < ((y.values.length : Nat) : Int)) = True := isT (by omega)
           have h0 : (0 ≤ (j : Int)) = True := isT (by omega)
           obtain ⟨f0a, f0b, f0c⟩ := flat_at mV.1 tl hr (j := 0) (c := .slice 10 (List.map XExpr.v z)) (by rfl)
           have f0b := isT f0b
           simp only [Nat.mul_one, Nat.add_zero] at f0a f0b f0c
           have f0d : List.take (j) (_ ++ tl) ++ [_] ++ List.drop (j + 1) (_ ++ tl) = _ := f0c
           refine AWp.regW1 mixed [0, 1, 2, 3, 4, 5, 6, 7, 8, 9, 10, 11, 12, 13, 14] (by decide +kernel) [100184] (by decide +kernel) fun R hR => ?_
           simp only [ty73, ty123, ty124, ty112, ty126, ty28, ty76, ty3, ty28, ty112, h43, c7, h4, frz, h0, hlt2, Int.toNat_natCast, f0a, f0b, f0c, f0d, setBox_self h4, Nat.mul_one, Nat.add_zero, imp_self, implies_true, true_and, and_true, ↓reduceIte, awl, Nat.reduceBEq, am, seval, reduceCtorEq]
           refine (g6 z hzl _).go ?_
           simp only [ty73, ty123, ty124, ty112, ty126, ty28, ty76, ty3, ty28, ty112, h43, c7, h4, frz, h0, hlt2, Int.toNat_natCast, f0a, f0b, f0c, f0d, setBox_self h4, Nat.mul_one, Nat.add_zero, imp_self, implies_true, true_and, and_true, ↓reduceIte, awl, Nat.reduceBEq, am, seval, reduceCtorEq]
           refine hR _ ?_; clear hR R
           refine hK7 _ ?_; clear hK7
           refine AWp.reg1 fun R hR => ?_
           simp only [ty3, am, seval, reduceCtorEq]
           refine hR _ ?_; clear hR R
           refine ⟨j + 1, ⟨hlt, by omega⟩, ?_⟩
           refine le_tst ?_ ?_ ?_ (Heap.le.refl _) rfl
           ·simp only [leE, am, seval, reduceCtorEq]
            have e9 : IntKind.i64.wrap ((j : Int) + 1) = ((j + 1 : Nat) : Int) := by rw [wrap_id (by omega) (by omega)]; simp
            first | (rw [e9]; done) | (rw [e9]; simp [frz])
           ·simp only [okL, keyIn, Nat.reduceBEq, Bool.or_true, Bool.true_or, Bool.or_false, and_self]
           ·simp only [leB, frz, am, seval, reduceCtorEq] <;> simp
          ·have hge : j = y.values.length := by have := of_decide_eq_false ht; omega
           refine AWp.exit ?_
           simp only [thenQ, blockQ, ↓reduceIte]
           refine hK3 _ ?_; clear hK3
           refine AWp.settleH bP (i * 8 + 2) mI hleH (by decide) h43 hn c2 fun g5 hle5 hk5 hb5 => ?_
           obtain ⟨u1, _, _, u4, u5⟩ := flat_put q3d tlP q3e 2 (by decide) (.slice 4 (List.map XItem.v y.items))
           rw [u1] at hb5
           have mF := mF.other fun k ks hb => hk5 k _ hb (by simp) (by simp)
           have mV := mV.other fun k ks hb => hk5 k _ hb (by simp) (by simp)
           refine AWp.settleH bP (i * 8 + 3) mF hle5 (by decide) hb5 hn (flat_at u4 tlP u5 (j := 3) (c := vF) rfl).1 fun g6 hle6 hk6 hb6 => ?_
           obtain ⟨v1, _, _, v4, v5⟩ := flat_put u4 tlP u5 3 (by decide) (.slice 5 (List.map XSource.v y.from_))
           rw [v1] at hb6
           have mV := mV.other fun k ks hb => hk6 k _ hb (by simp) (by simp)
           refine AWp.settleH bP (i * 8 + 7) mV hle6 (by decide) hb6 hn (flat_at v4 tlP v5 (j := 7) (c := vV) rfl).1 fun h' hleN _ hb7 => ?_
           rw [(flat_put v4 tlP v5 7 (by decide) (.slice 1 (List.map (fun x => [.slice 10 (List.map XExpr.v x)]) y.values))).1, ← hE3] at hb7
           simp only [List.set_set] at hb7
           rw [show ((([vint y.comp, vbool y.distinct, vI, vF, .slice 10 (List.map XExpr.v y.where_), .slice 10 (List.map XExpr.v y.group), .slice 10 (List.map XExpr.v y.having), vV].set 2 (.slice 4 (List.map XItem.v y.items))).set 3 (.slice 5 (List.map XSource.v y.from_))).set 7 (.slice 1 (List.map (fun x => [.slice 10 (List.map XExpr.v x)]) y.values))) = XPart.v y from by rw [XPart.v_eq]; rfl, set_back hr] at hb7
           have hmN : Mx s2 h' (frz bP (List.map XPart.v x.parts).length cap) 8 126 (List.map XPart.v x.parts) := ⟨hm.1, .inr ⟨bP, cap, tlP, rfl, h6, h7, h8, hb7⟩⟩
           refine AWp.reg1 fun R hR => ?_
           simp only [ty3, am, seval, reduceCtorEq]
           refine hR _ ?_; clear hR R
           refine ⟨(i + 1, h'), ⟨⟨hlt, hmN, hleN⟩, by simp only; omega⟩, ?_⟩
           refine le_tst ?_ ?_ ?_ (Heap.le.refl _) rfl
           ·simp only [leE, am, seval, reduceCtorEq]
            have e9 : IntKind.i64.wrap ((i : Int) + 1) = ((i + 1 : Nat) : Int) := by rw [wrap_id (by omega) (by omega)]; simp
            first | (rw [e9]; done) | (rw [e9]; simp [frz])
           ·simp only [okL, keyIn, Nat.reduceBEq, Bool.or_true, Bool.true_or, Bool.or_false, and_self]
           ·simp only [leB, frz, am, seval, reduceCtorEq] <;> simp
    ·have hge : i = x.parts.length := by have := of_decide_eq_false ht; omega
     refine AWp.exit ?_
     simp only [thenQ, blockQ, ↓reduceIte]
     refine hK _ ?_; clear hK
     refine AWp.settleB 1 1 hm hle (by simp only [am, seval, reduceCtorEq]; rfl) rfl fun s3 hle3 _ => ?_
     simp only [List.set_cons_zero, List.set_cons_succ, am, seval, reduceCtorEq]
     refine AWp.reg fun R hR => ?_
     simp only [XSelect.v_eq, ty74, ty76, am, seval, reduceCtorEq]
     refine ((clone100 s3 (x.order.map XSort.v) (fun r hr => by obtain ⟨x, _, rfl⟩ := List.mem_map.1 hr; exact x.v_len) (by simpa using h3)).mono fun v s' ⟨hm, hle, hk⟩ => ?_).toP
     have hlv := hm.len
     have hvc := hm.cell
     have hcc := hm.cells
     simp only [ty74, ty76, hcc, hvc, am, seval, reduceCtorEq]
     refine hR _ ?_; clear hR R
     refine AWp.seq_k fun K hK => ?_
     refine AWp.reg fun R hR => ?_
     simp only [ty74, ty76, hlv, am, seval, reduceCtorEq]
     refine hR _ ?_; clear hR R
     refine AWp.block ?_
     refine AWp.loopT (ι := Nat) (fun i => i ≤ x.order.length) (fun i => tst [(1, .loc 1 0), (2, .loc 2 0), (203, vint x.order.length), (204, vint i)] [(1, ([.slice 3 (List.map XCte.v x.with_), .slice 8 (List.map XPart.v x.parts), v, .slice 10 (List.map XExpr.v x.limit), .slice 10 (List.map XExpr.v x.offset)], 76)), (2, ([.nil, .nil, .nil, .nil, .nil], 76))] s' 229) (fun i => x.order.length - i) 0 ⟨Nat.zero_le _, ?_⟩ ?_
     ·refine le_tst ?_ ?_ ?_ (Heap.le.refl _) rfl
      ·simp only [leE, am, seval, reduceCtorEq] <;> simp
      ·simp only [okL, keyIn, Nat.reduceBEq, Bool.or_true, Bool.true_or, Bool.or_false, and_self]
      ·simp only [leB, am, seval, reduceCtorEq] <;> simp
     ·intro i hi
      refine AWp.reg fun R hR => ?_
      simp only [ty3, tst, am, seval, reduceCtorEq]
      refine hR _ ?_; clear hR R
      refine AWp.seq_k fun K2 hK2 => ?_
      refine AWp.cond (t := decide ((i:Int) < (x.order.length : Nat))) (by simp only [am, seval, reduceCtorEq]) (fun ht => ?_) (fun ht => ?_)
      ·have hlt : i < x.order.length := by have := of_decide_eq_true ht; omega
       obtain ⟨b, cap, tl, rfl, h6, h7, h8, h4⟩ := hm.pos (by simpa using (by omega : 0 < x.order.length))
       refine AWp.skip ?_
       refine hK2 _ ?_; clear hK2
       refine AWp.seq_k fun K3 hK3 => ?_
       refine AWp.block ?_
       refine AWp.reg fun R hR => ?_
       simp only [ty3, am, seval, reduceCtorEq]
       refine hR _ ?_; clear hR R
       obtain ⟨y, hy⟩ : ∃ y, x.order[i] = y := ⟨_, rfl⟩
       have hyl : y ∈ x.order := hy ▸ List.getElem_mem hlt
       have hr : (x.order.map XSort.v)[i]? = some (XSort.v y) := by rw [List.getElem?_map, List.getElem?_eq_getElem hlt, hy]; rfl
       have hlt2 : ((i : Int) < ((x.order.length : Nat) : Int)) = True := isT (by omega)
       have h0 : (0 ≤ (i : Int)) = True := isT (by omega)
       obtain ⟨e1, e2, e3⟩ := flat_sub hm.1 tl hr (j := 0) (n := 10) (by decide) (q := XExpr.v y.expr) (by rw [XSort.v_eq, XExpr.v_eq]; rfl)
       rw [Nat.add_zero] at e1 e2 e3
       have e1 := isT e1
       refine AWp.regL1 mixed [0, 1, 2, 3, 4, 5, 6, 7, 8, 9, 10, 11, 12] (by decide +kernel) [100208] (by decide +kernel) fun R hR => ?_
       simp only [ty74, ty130, ty42, ty76, ty3, frz, h4, h0, hlt2, Int.toNat_natCast, e1, e2, e3, setBox_self h4, Nat.add_zero, XExpr.v_all, XExpr.v_len, true_and, and_true, ↓reduceIte, aml, Nat.reduceBEq, am, seval, reduceCtorEq]
       refine (h17 y hyl _).go ?_
       simp only [ty74, ty130, ty42, ty76, ty3, frz, h4, h0, hlt2, Int.toNat_natCast, e1, e2, e3, setBox_self h4, Nat.add_zero, XExpr.v_all, XExpr.v_len, true_and, and_true, ↓reduceIte, aml, Nat.reduceBEq, am, seval, reduceCtorEq]
       refine hR _ ?_; clear hR R
       refine hK3 _ ?_; clear hK3
       refine AWp.reg1 fun R hR => ?_
       simp only [ty3, am, seval, reduceCtorEq]
       refine hR _ ?_; clear hR R
       refine ⟨i + 1, ⟨hlt, by omega⟩, ?_⟩
       refine le_tst ?_ ?_ ?_ (Heap.le.refl _) rfl
       ·simp only [leE, am, seval, reduceCtorEq]
        have e9 : IntKind.i64.wrap ((i : Int) + 1) = ((i + 1 : Nat) : Int) := by rw [wrap_id (by omega) (by omega)]; simp
        first | (rw [e9]; done) | (rw [e9]; simp [frz])
       ·simp only [okL, keyIn, Nat.reduceBEq, Bool.or_true, Bool.true_or, Bool.or_false, and_self]
       ·simp only [leB, frz, am, seval, reduceCtorEq] <;> simp
      ·have hge : i = x.order.length := by have := of_decide_eq_false ht; omega
       refine AWp.exit ?_
       simp only [thenQ, blockQ, ↓reduceIte]
       refine hK _ ?_; clear hK
       refine AWp.settleB 1 2 hm hle (by simp only [am, seval, reduceCtorEq]; rfl) rfl fun s4 hle4 _ => ?_
       simp only [List.set_cons_zero, List.set_cons_succ, am, seval, reduceCtorEq]
       refine AWp.regL mixed [0, 1, 3, 4, 2, 6, 5, 7, 8, 9] (by decide +kernel) [100224] (by decide +kernel) fun R hR => ?_
       simp only [ty28, ty76, aml, Nat.reduceBEq, am, seval, reduceCtorEq]
       refine (hlo.1 _).go ?_
       simp only [ty28, ty76, aml, Nat.reduceBEq, am, seval, reduceCtorEq]
       refine (hlo.2 _).go ?_
       simp only [ty28, ty76, aml, Nat.reduceBEq, am, seval, reduceCtorEq]
       refine hR _ ?_; clear hR R
       refine AWp.reg fun R hR => ?_
       simp only [ty76, am, seval, reduceCtorEq]
       refine hR _ ?_; clear hR R
       refine AWp.ret ?_
       refine ret_intro (vs := [.agg x.v]) ?_ (Wk.refl _) (hle4.trans (hle3.trans hle2)) ⟨rfl, rfl⟩
       show resV Tryz.prog _ [.cell 2 76] = _
       simp only [resV, XSelect.v_eq, ty76, am, seval, reduceCtorEq]
end Go.Proofs.YtdgoilofkgdaoaaGreatDoor.Ex
namespace Go.Proofs.YtdgoilofkgdaoaaGreatDoor.Ex
open Go.Am Go.Ex Go.Proofs.YtdgoilofkgdaoaaGreatDoor
structure CpOk (n : Nat) : Prop where
 e : ∀ x, XExpr.w x < n → Gives Tryz.prog 17 [.agg x.v] (.agg x.v)
 q : ∀ x, XSelect.w x < n → Gives Tryz.prog 61 [.agg x.v] (.agg x.v)
theorem cp_el {n : Nat} (ih : CpOk n) (hn : n ≤ 268435456) (l : List XExpr) (h : 1 + (l.map XExpr.w).sum ≤ n) : G99 l :=
 f99_spec l (by have := length_le_sum XExpr.w XExpr.w_pos l; omega) fun x hx => ih.e x (by have := mem_le_sum XExpr.w hx; omega)
theorem cp_ql {n : Nat} (ih : CpOk n) (hn : n ≤ 268435456) (l : List XSelect) (h : 1 + (l.map XSelect.w).sum ≤ n) : G94 l :=
 f94_spec l (by have := length_le_sum XSelect.w XSelect.w_pos l; omega) fun x hx => ih.q x (by have := mem_le_sum XSelect.w hx; omega)
theorem cp_e {n : Nat} (ih : CpOk n) (hn : n < 268435456) (x : XExpr) (h : XExpr.w x < n + 1) : Gives Tryz.prog 17 [.agg x.v] (.agg x.v) := by
 have hw := x.w_eq
 have ha := length_le_sum XExpr.w XExpr.w_pos x.args
 have hs := length_le_sum XSelect.w XSelect.w_pos x.sub
 exact f17_spec x (by omega) (by omega) (fun y hy => ih.e y (by have := mem_le_sum XExpr.w hy; omega)) fun y hy => ih.q y (by have := mem_le_sum XSelect.w hy; omega)
theorem cp_q {n : Nat} (ih : CpOk n) (hn : n < 268435456) (x : XSelect) (h : XSelect.w x < n + 1) : Gives Tryz.prog 61 [.agg x.v] (.agg x.v) := by
 have hw := x.w_eq
 have hc := length_le_sum XCte.w XCte.w_pos x.with_
 have hp := length_le_sum XPart.w XPart.w_pos x.parts
 have ho := length_le_sum XSort.w XSort.w_pos x.order
 refine f61_spec x (by omega) (by omega) (by omega) (fun y hy => ?_) (fun y hy => ?_) (fun y hy => ?_) (fun y hy => ?_) ⟨cp_el ih (by omega) _ (by omega), cp_el ih (by omega) _ (by omega)⟩ (fun y hy => ?_)
 ·have h1 := mem_le_sum XCte.w hy
  have h2 := y.w_eq
  have h3 := length_le_sum (fun z : ByteArray => (z.size + 1)) (fun _ => Nat.le_add_left _ _) y.cols
  omega
 ·have h1 := mem_le_sum XPart.w hy
  have h2 := y.w_eq
  have h3 := length_le_sum XItem.w XItem.w_pos y.items
  have h4 := length_le_sum XSource.w XSource.w_pos y.from_
  have h5 := length_le_sum (fun z : List XExpr => (1 + (z.map XExpr.w).sum)) (fun _ => Nat.le_add_right _ _) y.values
  exact ⟨by omega, by omega, by omega⟩
 ·have h1 := mem_le_sum XPart.w hy
  have h2 := y.w_eq
  refine ⟨cp_el ih (by omega) _ (by omega), cp_el ih (by omega) _ (by omega), cp_el ih (by omega) _ (by omega), fun z hz => ?_, fun z hz => ?_, fun z hz => ?_⟩
  ·have h3 := mem_le_sum XItem.w hz
   have h4 := z.w_eq
   exact cp_el ih (by omega) _ (by omega)
  ·have h3 := mem_le_sum XSource.w hz
   have h4 := z.w_eq
   exact ⟨cp_ql ih (by omega) _ (by omega), cp_el ih (by omega) _ (by omega)⟩
  ·have h3 := mem_le_sum (fun z : List XExpr => (1 + (z.map XExpr.w).sum)) hz
   exact cp_el ih (by omega) _ (by omega)
 ·have h1 := mem_le_sum XSort.w hy
  have h2 := y.w_eq
  exact ih.e _ (by omega)
 ·have h1 := mem_le_sum XCte.w hy
  have h2 := y.w_eq
  exact cp_ql ih (by omega) _ (by omega)
theorem cpOk : ∀ n, n ≤ 268435456 → CpOk n
 | 0, _ => ⟨fun _ h => absurd h (Nat.not_lt_zero _), fun _ h => absurd h (Nat.not_lt_zero _)⟩
 | n + 1, hn => ⟨cp_e (cpOk n (by omega)) hn, cp_q (cpOk n (by omega)) hn⟩
/-- stmt.copied gives what it is given. -/
theorem copied_ok (x : XExpr) (h : XExpr.w x < 268435456) : Gives Tryz.prog 17 [.agg x.v] (.agg x.v) := (cpOk _ (Nat.le_refl _)).e x h
end Go.Proofs.YtdgoilofkgdaoaaGreatDoor.Ex
