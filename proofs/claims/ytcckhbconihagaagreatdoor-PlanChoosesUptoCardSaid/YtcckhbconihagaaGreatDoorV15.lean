/- The walker that drops each arm's steps gives the plain query. -/
import Derived.Test.YtcckhbconihagaaGreatDoorV11
import Derived.Test.YtcckhbconihagaaGreatDoorV7
set_option linter.unusedVariables false
set_option linter.unusedSimpArgs false
set_option maxRecDepth 100000
namespace Go.Pl
open Go.Am
def pfa (s : Unit) (a : Arm) : Unit × Arm := (s, { a with steps := [] })
def pff (s : Unit) (t : Term) (d : Nat) : Unit := s
mutual
theorem pwTerm : ∀ (t : Term) (d : Nat) (s : Unit), (wTerm pfa pff t d s).2 = t.plain
 | ⟨op, neg, n, frm, col, name, vk, vi, vt, coll, l, r, args, sub⟩, d, s => by
  rw [wTerm, Term.plain]
  simp only [pwTerms args d, pwQueries sub (d + 1)]
theorem pwQuery : ∀ (t : Query) (d : Nat) (s : Unit), (wQuery pfa pff t d s).2 = t.plain
 | ⟨names, arms, order, limit, offset⟩, d, s => by
  rw [wQuery, Query.plain]
  simp only [pwTerms limit d, pwTerms offset d, pwArms arms d]
theorem pwArm : ∀ (t : Arm) (d : Nat) (s : Unit), (wArm pfa pff t d s).2 = t.plain
 | ⟨comp, distinct, values, rows, frm, whr, grouped, group, aggs, having, out, extra, steps⟩, d, s => by
  rw [wArm, Arm.plain]
  simp only [pfa, pwRows rows d, pwFroms frm d, pwAggs aggs d, pwTerms whr d, pwTerms group d, pwTerms having d, pwTerms out d, pwTerms extra d]
theorem pwFrom : ∀ (t : From) (d : Nat) (s : Unit), (wFrom pfa pff t d s).2 = t.plain
 | ⟨join, kind, name, n, width, sub, on⟩, d, s => by
  rw [wFrom, From.plain]
  simp only [pwQueries sub d, pwTerms on d]
theorem pwAgg : ∀ (t : Agg) (d : Nat) (s : Unit), (wAgg pfa pff t d s).2 = t.plain
 | ⟨name, distinct, star, coll, arg⟩, d, s => by
  rw [wAgg, Agg.plain]
  simp only [pwTerms arg d]
theorem pwTerms : ∀ (l : List Term) (d : Nat) (s : Unit), (wTerms pfa pff l d s).2 = l.map Term.plain
 | [], d, s => by rw [wTerms]; rfl
 | t :: l, d, s => by
  rw [wTerms]
  simp only [pwTerm t d, pwTerms l d, List.map_cons]
theorem pwQueries : ∀ (l : List Query) (d : Nat) (s : Unit), (wQueries pfa pff l d s).2 = l.map Query.plain
 | [], d, s => by rw [wQueries]; rfl
 | t :: l, d, s => by
  rw [wQueries]
  simp only [pwQuery t d, pwQueries l d, List.map_cons]
theorem pwArms : ∀ (l : List Arm) (d : Nat) (s : Unit), (wArms pfa pff l d s).2 = l.map Arm.plain
 | [], d, s => by rw [wArms]; rfl
 | t :: l, d, s => by
  rw [wArms]
  simp only [pwArm t d, pwArms l d, List.map_cons]
theorem pwRows : ∀ (l : List (List Term)) (d : Nat) (s : Unit), (wRows pfa pff l d s).2 = l.map fun l => l.map Term.plain
 | [], d, s => by rw [wRows]; rfl
 | t :: l, d, s => by
  rw [wRows]
  simp only [pwTerms t d, pwRows l d, List.map_cons]
theorem pwFroms : ∀ (l : List From) (d : Nat) (s : Unit), (wFroms pfa pff l d s).2 = l.map From.plain
 | [], d, s => by rw [wFroms]; rfl
 | t :: l, d, s => by
  rw [wFroms]
  simp only [pwFrom t d, pwFroms l d, List.map_cons]
theorem pwAggs : ∀ (l : List Agg) (d : Nat) (s : Unit), (wAggs pfa pff l d s).2 = l.map Agg.plain
 | [], d, s => by rw [wAggs]; rfl
 | t :: l, d, s => by
  rw [wAggs]
  simp only [pwAgg t d, pwAggs l d, List.map_cons]
end
theorem pwWiths : ∀ (l : List With) (s : Unit), (wWiths pfa pff l s).2 = l.map With.plain
 | [], s => rfl
 | x :: l, s => by
  have h1 := pwWiths l (wWith pfa pff s x).1
  unfold wWiths at h1 ⊢
  simp only [mapS, List.map_cons, h1]
  congr 1
  simp only [wWith, With.plain, pwQuery, pwQueries]
theorem pwResolved (r : Resolved) (s : Unit) : (wResolved pfa pff r s).2 = r.plain := by
 simp only [wResolved, Resolved.plain, pwWiths, pwQuery]
end Go.Pl
namespace Go.Proofs.YtcckhbconihagaaGreatDoor
open Go.Am Go.Pl
theorem f31_spec (a : Arm) (s : Heap) : ACalls Tryz.prog 31 ([] ++ [.agg a.v] ++ []) s fun v s' => v = .agg (pfa () a).2.v ∧ s' = s := by
 refine acalls_of (fn := Tryz.f31) Tryz.func31 rfl (by decide) (by show 1 ≤ 5; decide) ?_; rw [Tryz.ntmps31]; refine rg fun Z z' => ?_; simp only [Arm.v_eq, amt, seval, reduceCtorEq]; refine z' _ ?_; clear z' Z; refine rg fun Z z' => ?_; simp only [Arm.v_eq, amt, seval, reduceCtorEq]; refine z' _ ?_; clear z' Z; refine rg fun Z z' => ?_; simp only [Arm.v_eq, amt, seval, reduceCtorEq]; refine z' _ ?_; clear z' Z; refine AWp.ret ?_; refine ret_intro (vs := [.agg [vint a.comp, vbool a.distinct, vbool a.values, .slice 1 (a.rows.map (fun l => [.slice 14 (l.map Term.v)])), .slice 7 (a.frm.map From.v), .slice 14 (a.whr.map Term.v), vbool a.grouped, .slice 14 (a.group.map Term.v), .slice 5 (a.aggs.map Agg.v), .slice 14 (a.having.map Term.v), .slice 14 (a.out.map Term.v), .slice 14 (a.extra.map Term.v), .nil]])
  (v := .agg [vint a.comp, vbool a.distinct, vbool a.values, .slice 1 (a.rows.map (fun l => [.slice 14 (l.map Term.v)])), .slice 7 (a.frm.map From.v), .slice 14 (a.whr.map Term.v), vbool a.grouped, .slice 14 (a.group.map Term.v), .slice 5 (a.aggs.map Agg.v), .slice 14 (a.having.map Term.v), .slice 14 (a.out.map Term.v), .slice 14 (a.extra.map Term.v), .slice 7 []])
  (by show resV Tryz.prog _ [.cell 2 75] = _; simp only [resV, amt, seval, reduceCtorEq]) (Wk.agg ⟨Wk.refl _, Wk.refl _, Wk.refl _, Wk.refl _, Wk.refl _, Wk.refl _, Wk.refl _, Wk.refl _, Wk.refl _, Wk.refl _, Wk.refl _, Wk.refl _, Wk.nil _, trivial⟩) (Heap.le.refl _) ⟨?_, rfl⟩
 rw [Arm.v_eq]; rfl
theorem vis_plain (s0 : Heap) : Vis (fun (_ : Unit) s => s = s0) pfa pff (.func 31 [] []) (.base .nilFunc) (fun _ => True) where
 hac := rfl
 hfc := rfl
 hgf := fun s t d h => h
 hga := fun s a h => trivial
 hfv := .inl ⟨rfl, fun _ _ _ => rfl⟩
 hF := fun k a c e => by cases e
 hav := .inr ⟨31, [], [], rfl, fun σ0 a _ s hs => by
  subst hs
  exact f31_spec a s⟩
/-- **plan.Plain.** -/
theorem f13_spec (r : Resolved) (hw : r.w ≤ 550024249344) : Gives Tryz.prog 13 [.agg r.v] (.agg r.plain.v) := by
 intro s0; have hres := resolved_ok (vis_plain s0) r hw () trivial; rw [pwResolved] at hres; have hrv := Resolved.v_eq r; rw [Query.v_eq] at hrv; simp only [List.cons_append, List.nil_append] at hrv; have hpv := Resolved.v_eq r.plain; rw [Query.v_eq] at hpv; simp only [List.cons_append, List.nil_append] at hpv; refine acalls_of (fn := Tryz.f13) Tryz.func13 rfl (by decide) (by show 1 ≤ 6; decide) ?_; rw [Tryz.ntmps13]; refine rg fun Z z' => ?_; simp only [hrv, amt, seval, reduceCtorEq]; refine z' _ ?_; clear z' Z; refine rg fun Z z' => ?_; simp only [hrv, amt, seval, reduceCtorEq]; rw [← hrv]; refine (hres s0 rfl).mono ?_; rintro _ _ ⟨rfl, rfl⟩; simp only [hpv, hrv, amt, seval, reduceCtorEq]; refine z' _ ?_; clear z' Z; refine AWp.ret ?_; exact rt (vs := [.agg r.plain.v]) (by show resV Tryz.prog _ [.cell 2 35] = _; simp only [resV, hpv, amt, seval, reduceCtorEq]) ⟨rfl, rfl⟩
end Go.Proofs.YtcckhbconihagaaGreatDoor
