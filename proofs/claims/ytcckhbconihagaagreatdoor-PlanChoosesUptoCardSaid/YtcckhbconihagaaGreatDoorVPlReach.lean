/- plan.Reach: what a term reaches. -/
import Derived.Test.YtcckhbconihagaaGreatDoorV2
import Derived.Test.YtcckhbconihagaaGreatDoorV6
set_option linter.unusedSimpArgs false
set_option linter.unusedVariables false
set_option maxRecDepth 100000
namespace Go.Proofs.YtcckhbconihagaaGreatDoor
open Go.Am Go.Pl
/-- The box of ints that the closure fills. -/
def HR (s0 : Heap) (bb : Nat) (es : List Int) (s : Heap) : Prop :=
 s.own = s0.own ∧ (∀ k, s0.box k ≠ none → s.box k = s0.box k) ∧ s0.box bb = none ∧ ∃ ad n cap cs, s.box bb = some ([.base (.slice ad n cap)], 50) ∧ n = es.length ∧ MutAt s ad n cap cs 3 ∧ cs.take n = es.map vint ∧ ∀ b, ad = some b → b.block ≠ bb ∧ s0.box b.block = none
theorem HR.start {s : Heap} {bb : Nat} (h : s.box bb = none) : HR s bb [] (s.setBox bb ([.base (.slice none 0 0)], 50)) :=
 ⟨rfl, fun k hk => upd_other _ _ _ _ (fun e => hk (e ▸ h)), h, none, 0, 0, [], upd_same _ _ _, rfl, .inl ⟨rfl, rfl, rfl, rfl⟩, rfl, fun b hb => by cases hb⟩
theorem HR.grow {s0 s : Heap} {bb : Nat} {es : List Int} (h : HR s0 bb es s) {ad : Option Addr} {n cap : Nat} {cs : List V} (hbb : s.box bb = some ([.base (.slice ad n cap)], 50)) (hn : n = es.length) (htk : cs.take n = es.map vint) {b' cap' : Nat} {cs' : List V} {x : Int} (hne : bb ≠ b')
  (q1 : ad = some ⟨b', 0, none⟩ ∨ s.box b' = none) (hab : ∀ b, ad = some b → s0.box b.block = none) (q2 : cs'.length = cap') (q3 : cs'.take (n + 1) = cs.take n ++ [vint x]) (q4 : n + 1 ≤ cap') (q5 : cap' ≤ maxLen) :
  HR s0 bb (es ++ [x]) ((s.setBox b' (cs', 3)).setBox bb ([.base (.slice (some ⟨b', 0, none⟩) (n + 1) cap')], 50)) := by
 obtain ⟨ho, hk, hb0, _⟩ := h
 have h0 : s0.box b' = none := by
  rcases q1 with q1 | q1
  ·exact hab _ q1
  ·cases hq : s0.box b' with
   | none => rfl
   | some y => rw [hk b' (by rw [hq]; simp), hq] at q1; cases q1
 refine ⟨ho, fun k hk' => ?_, hb0, some ⟨b', 0, none⟩, n + 1, cap', cs', upd_same _ _ _, by simp [hn], .inr ⟨b', rfl, ?_, q2, q4, q5⟩, by rw [q3, htk]; simp, fun b hb => ?_⟩
 ·have e1 : k ≠ bb := fun e => hk' (e ▸ hb0)
  have e2 : k ≠ b' := fun e => hk' (e ▸ h0)
  simp only [Heap.setBox, upd_other _ _ _ _ e1, upd_other _ _ _ _ e2]
  exact hk k hk'
 ·simp only [Heap.setBox, upd_other _ _ _ _ hne.symm, upd_same]
 ·cases hb; exact ⟨hne.symm, h0⟩
theorem f24_spec {s0 s : Heap} {bb : Nat} {es : List Int} (hH : HR s0 bb es s) (t : Term) (d : Nat) (hl : (gff es t d).length ≤ 550024249344) : ACalls Tryz.prog 24 ([] ++ [.agg t.v, vint d] ++ [.ptr bb 0]) s fun _ s' => HR s0 bb (gff es t d) s' := by
 obtain ⟨ho, hk, hb0, ad, n, cap, cs, hbb, hn, hm, htk, hab⟩ := hH; unfold gff at hl ⊢; refine acalls_of (fn := Tryz.f24) Tryz.func24 rfl (by decide) (by show 3 ≤ 14; decide) ?_; rw [Tryz.ntmps24]; refine rg fun Z z' => ?_; simp only [Term.v_eq, amt, seval, reduceCtorEq]; refine z' _ ?_; clear z' Z; refine rg fun Z z' => ?_; simp only [amt, seval, reduceCtorEq]; refine z' _ ?_; clear z' Z; refine AWp.cond (t := (t.n == (d : Int))) (by simp only [am, seval, reduceCtorEq]) (fun ht => ?_) (fun ht => ?_)
 ·rw [if_pos (by simpa using ht), List.length_append, List.length_singleton] at hl; refine rg1 fun Z z' => ?_; simp only [hbb, amt, seval, reduceCtorEq]; simp only [aAppendM]; refine ⟨trivial, by omega, by unfold maxLen; omega, cs, hm, fun b' cap' cs' q1 q2 q3 q4 q5 => ?_⟩; have hne : bb ≠ b' := fun e => by
    subst e; rcases q1 with q1 | q1
    ·exact (hab _ q1).1 rfl
    ·rw [hbb] at q1; cases q1
  have hbx : (s.setBox b' (cs', 3)).box bb = some ([.base (.slice ad n cap)], 50) := by simp only [Heap.setBox, upd_other _ _ _ _ hne]; exact hbb
  simp only [hbx, amt, seval, reduceCtorEq]; refine z' _ ?_; clear z' Z; refine ret_intro (vs := []) rfl (Wk.refl _) (Heap.le.refl _) ?_; rw [if_pos (by simpa using ht)]; exact HR.grow ⟨ho, hk, hb0, ad, n, cap, cs, hbb, hn, hm, htk, hab⟩ hbb hn htk hne q1 (fun b hb => (hab b hb).2) q2 q3 q4 q5
 ·refine AWp.skip ?_; refine ret_intro (vs := []) rfl (Wk.refl _) (Heap.le.refl _) ?_; rw [if_neg (by simpa using ht)]; exact ⟨ho, hk, hb0, ad, n, cap, cs, hbb, hn, hm, htk, hab⟩
theorem vis_reach (s0 : Heap) (bb : Nat) : Vis (HR s0 bb) gfa gff (.base .nilFunc) (.func 24 [] [.ptr bb 0]) (fun es => es.length ≤ 550024249344) where
 hac := rfl
 hfc := rfl
 hgf := fun s t d h => by
  unfold gff at h
  split at h
  ·simp at h; omega
  ·exact h
 hga := fun s a h => h
 hfv := .inr ⟨_, _, _, rfl⟩
 hF := fun k a c e σ0 t d _ hg s hs => by cases e; exact f24_spec hs t d hg
 hav := .inl ⟨rfl, fun _ _ => rfl⟩
/-- A heap is told less of. -/
theorem wkHeap {f : FuncId} {args : List V} {s : Heap} {R R' : V → Heap → Prop} (h : ACalls Tryz.prog f args s R) (hr : ∀ v s', R v s' → ∃ s'', s'.le s'' ∧ R' v s'') : ACalls Tryz.prog f args s R' :=
 ⟨h.1, fun G w cargs h1 h2 => (h.2 G w cargs h1 h2).mono fun e w' ⟨G', s', v, cv, he, hv, hx, hh, r⟩ => by
  obtain ⟨s'', hle, r'⟩ := hr v s' r
  exact ⟨G', s'', v, cv, he, hv, hx.weaken hle, hh.weaken hle, r'⟩⟩
theorem setBox_same (s : Heap) (b : Nat) (x : List V × TypeId) : (s.setBox b x).box b = some x := upd_same _ _ _
theorem setBox_ne (s : Heap) {b b' : Nat} (x : List V × TypeId) (h : b' ≠ b) : (s.setBox b x).box b' = s.box b' := upd_other _ _ _ _ h
def RR (hits : List Int) (s0 : Heap) (v : V) (s' : Heap) : Prop :=
 (v = .base (.slice none 0 0) ∧ hits = [] ∧ s'.le s0) ∨ ∃ b k cap cs, v = .base (.slice (some ⟨b, 0, none⟩) k cap) ∧ s'.box b = some (cs, 3) ∧ k ≤ cs.length ∧ cs.length = cap ∧ cap ≤ maxLen ∧ cs.take k = (canon hits).map vint ∧ (s'.delBox b).le s0
theorem f11_raw (t : Term) (hw : t.w ≤ 274945015808) (s0 : Heap) : ACalls Tryz.prog 11 [.agg t.v] s0 (RR (hTerm t 0) s0) := by
 have hlen := hlTerm t 0; have hT : ∀ bb s, HR s0 bb [] s → ACalls Tryz.prog 25 [.agg [.base .nilFunc, .func 24 [] [.ptr bb 0]], .slice 14 [t.v], .base (.int .i64 0)] s fun _ s' => HR s0 bb (hTerm t 0) s' := fun bb s hs => by
  have e : (wTerms gfa gff [t] 0 []).1 = hTerm t 0 := by rw [whTerms, hTerms, hTerms]; simp
  have := (walk_all (vis_reach s0 bb) t.w (by omega)).1 [t] 0 [] (by simp) (by omega) (by rw [e]; omega) s hs; rw [e] at this; exact this.mono fun v s' h => h.2
 refine acalls_of (fn := Tryz.f11) Tryz.func11 rfl (by decide) (by show 1 ≤ 13; decide) ?_; rw [Tryz.ntmps11]; refine rg fun Z z' => ?_; simp only [Term.v_eq, am, seval, reduceCtorEq]; refine z' _ ?_; clear z' Z; refine rg fun Z z' => ?_; simp only [amt, seval, reduceCtorEq]; refine z' _ ?_; clear z' Z; refine AWp.wkB 3 (cs := [.nil]) (ty := 50) [.base (.slice none 0 0)] (by simp only [am, seval, reduceCtorEq]) ⟨fun G v h => by cases h; exact Rep.base _, trivial⟩ ?_; refine AWp.publish (t0 := 3) (x := ([.base (.slice none 0 0)], 50)) (by simp only [am, seval, reduceCtorEq]) fun bb hbb => ?_; change s0.box bb = none at hbb; refine AWp.weaken (st' := tst [(1, .loc 1 0), (3, .ptr bb 0)] [(1, (t.v, 49))] (s0.setBox bb ([.base (.slice none 0 0)], 50)) 13) ?_ ?_
 ·refine lt0 ?_ ?_ ?_
  ·simp only [leE, St.publish, substV, am, seval, reduceCtorEq]
  ·simp only [oks, Nat.reduceBEq]
  ·simp only [leB, St.publish, Term.v_eq, am, seval, reduceCtorEq]
 refine rg fun Z z' => ?_; simp only [Term.v_eq, amt, seval, reduceCtorEq]; rw [← Term.v_eq]; refine (hT bb _ (HR.start hbb)).mono ?_; rintro _ s1 ⟨ho, hk, hb0, ad, n, cap, cs, hbx, hn, hm, htk, hab⟩; simp only [Term.v_eq, amt, seval, reduceCtorEq]; refine z' _ ?_; clear z' Z; rcases hm with ⟨rfl, rfl, rfl, rfl⟩ | ⟨b, rfl, hb, hl, hnc, hcm⟩
 ·refine rg fun Z z' => ?_; simp only [hbx, amt, seval, reduceCtorEq]; refine (f26_none none 0 s1).mono ?_; rintro _ _ rfl; simp only [hbx, amt, seval, reduceCtorEq]; refine z' _ ?_; clear z' Z; refine rg fun Z z' => ?_; simp only [hbx, amt, seval, reduceCtorEq]; refine (f27_none none 0 _).mono ?_; rintro _ _ ⟨rfl, rfl⟩; simp only [hbx, amt, seval, reduceCtorEq]; refine z' _ ?_; clear z' Z; refine AWp.ret ?_; refine ret_intro (vs := [.base (.slice none 0 0)]) rfl (Wk.refl _) (Heap.le.refl _) (.inl ⟨rfl, List.eq_nil_of_length_eq_zero hn.symm, ⟨fun k => ?_, fun g => .inl ?_⟩⟩)
  ·cases hq : s0.box k with
   | none => exact .inr rfl
   | some y => exact .inl (by rw [← hq]; exact (hk k (by rw [hq]; simp)).symm)
  ·exact (congrFun ho g).symm
 ·have hbn : b ≠ bb := (hab _ rfl).1; have hs0b : s0.box b = none := (hab _ rfl).2; have hsl : ((hTerm t 0).mergeSort fun x y => decide (x ≤ y)).length = (hTerm t 0).length := List.length_mergeSort _; refine rg fun Z z' => ?_; simp only [hbx, amt, seval, reduceCtorEq]; refine (f26_spec (hTerm t 0) hb hn htk (by omega)).mono ?_; rintro _ _ rfl; have hbx2 := (setBox_ne s1 (((hTerm t 0).mergeSort fun x y => decide (x ≤ y)).map vint ++ cs.drop n, 3) hbn.symm).trans hbx; have hb2 := setBox_same s1 b (((hTerm t 0).mergeSort fun x y => decide (x ≤ y)).map vint ++ cs.drop n, 3); simp only [hbx, amt, seval, reduceCtorEq]; refine z' _ ?_; clear z' Z; refine rg fun Z z' => ?_; simp only [hbx2, amt, seval, reduceCtorEq]; refine (f27_spec ((hTerm t 0).mergeSort fun x y => decide (x ≤ y)) hb2 (by omega) (by rw [List.take_append_of_le_length (by simp; omega), List.take_of_length_le (by simp; omega)]) (by omega) hnc).mono ?_; rintro _ _ ⟨rfl, rfl⟩; simp only [hbx2, amt, seval, reduceCtorEq]; refine z' _ ?_; clear z' Z; refine AWp.ret ?_; have hcl : (Lib.compact ((hTerm t 0).mergeSort fun x y => decide (x ≤ y))).length ≤ n := by
   rw [compact_sort]; have := len_canon (hTerm t 0); omega
  refine ret_intro (vs := [.base (.slice (some ⟨b, 0, none⟩) (Lib.compact ((hTerm t 0).mergeSort fun x y => decide (x ≤ y))).length cap)]) rfl (Wk.refl _) (Heap.le.refl _) (.inr ⟨b, _, cap, _, rfl, setBox_same _ _ _, ?_, ?_, hcm, ?_, ⟨fun k => ?_, fun g => .inl ?_⟩⟩)
  ·simp only [List.length_append, List.length_map, List.length_replicate, List.length_drop]; omega
  ·simp only [List.length_append, List.length_map, List.length_replicate, List.length_drop]; omega
  ·rw [List.map_append, List.append_assoc, List.take_append_of_le_length (by simp), List.take_of_length_le (by simp), compact_sort]
  ·cases hq : s0.box k with
   | none => exact .inr rfl
   | some y =>
    have e1 : k ≠ b := fun e => by rw [e, hs0b] at hq; cases hq
    have e2 : k ≠ bb := fun e => by rw [e, hb0] at hq; cases hq
    refine .inl ?_; rw [← hq, ← hk k (by rw [hq]; simp)]; show s1.box k = (upd _ b none) k; rw [upd_other _ _ _ _ e1]; show _ = upd (upd s1.box b _) b _ k; rw [upd_other _ _ _ _ e1, upd_other _ _ _ _ e1]
  ·exact (congrFun ho g).symm
/-- **plan.Reach.** -/
theorem f11_spec (t : Term) (hw : t.w ≤ 274945015808) : Gives Tryz.prog 11 [.agg t.v] (vints (canon (hTerm t 0))) := fun s0 => by
 refine wkHeap (R := fun v s' => v = vints (canon (hTerm t 0)) ∧ s'.le s0) ((f11_raw t hw s0).freeze ?_) fun v s' h => ⟨s0, h.2, h.1, rfl⟩
 rintro v s' (⟨rfl, h1, h2⟩ | ⟨b, k, cap, cs, rfl, h1, h2, h3, h4, h5, h6⟩)
 ·exact .inl ⟨_, _, rfl, by rw [h1]; rfl, h2⟩
 ·refine .inr ⟨b, k, cap, cs, 3, rfl, h1, h2, h3, h4, ?_, h6⟩
  rw [h5]; simp
end Go.Proofs.YtcckhbconihagaaGreatDoor
