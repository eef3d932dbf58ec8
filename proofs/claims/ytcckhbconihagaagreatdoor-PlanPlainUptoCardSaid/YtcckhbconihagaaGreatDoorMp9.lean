/- The reference's Plain, all together; Same of a resolved query and itself; how much a plain query holds. -/
import Derived.Test.YtcckhbconihagaaGreatDoorMp3
import Derived.Test.YtcckhbconihagaaGreatDoorMp7
import Derived.Test.YtcckhbconihagaaGreatDoorMp8
import Derived.Test.YtcckhbconihagaaGreatDoorMp6
set_option linter.unusedVariables false
namespace Go.Proofs.YtcckhbconihagaaGreatDoor
open Go.Am Go.Pl
theorem sum_mem {α : Type} (f : α → Nat) : ∀ (l : List α) (x : α), x ∈ l → f x ≤ (l.map f).sum
  | y :: l, x, h => by
    rw [List.map_cons, List.sum_cons]
    rcases List.mem_cons.1 h with rfl | h
    · omega
    · have := sum_mem f l x h; omega
theorem plain_all : ∀ n : Nat, n ≤ 2 ^ 30 → (∀ l : List Term, (l.map Term.w).sum ≤ n → Gives Tryz.prog 59 [.slice 14 (l.map Term.v)] (.slice 14 (l.map tpv))) ∧
    (∀ l : List Query, (l.map Query.w).sum ≤ n → Gives Tryz.prog 35 [.slice 5 (l.map Query.v)] (.slice 5 (l.map qpv))) ∧
    (∀ a : Arm, a.w ≤ n → Gives Tryz.prog 60 [.agg a.v] (.agg (apv a)))
  | 0, _ => by
    refine ⟨fun l hl => ?_, fun l hl => ?_, fun a hw => ?_⟩
    · have := len_le Term.w_pos l
      obtain rfl : l = [] := List.eq_nil_of_length_eq_zero (by omega)
      exact p59_spec [] (by simp) (fun t ht => by simp at ht) fun t ht => by simp at ht
    · have := len_le Query.w_pos l
      obtain rfl : l = [] := List.eq_nil_of_length_eq_zero (by omega)
      exact p35_spec [] (by simp) (fun t ht => by simp at ht) (fun t ht => by simp at ht) (fun t ht => by simp at ht) fun t ht => by simp at ht
    · have := a.w_pos; omega
  | n + 1, hn => by
    obtain ⟨hT, hQ, hA⟩ := plain_all n (by omega)
    refine ⟨fun l hl => ?_, fun l hl => ?_, fun a hw => ?_⟩
    · have hlen := len_le Term.w_pos l
      refine p59_spec l (by omega) (fun t ht => hT _ ?_) fun t ht => hQ _ ?_
      · have := sum_mem Term.w l t ht; rw [Term.w_eq] at this; omega
      · have := sum_mem Term.w l t ht; rw [Term.w_eq] at this; omega
    · have hlen := len_le Query.w_pos l
      refine p35_spec l (by omega) (fun q hq => ?_) (fun q hq => hT _ ?_) (fun q hq => hT _ ?_) fun q hq a ha => hA a ?_
      · have := sum_mem Query.w l q hq; have e := len_le Arm.w_pos q.arms; rw [Query.w_eq] at this; omega
      · have := sum_mem Query.w l q hq; rw [Query.w_eq] at this; omega
      · have := sum_mem Query.w l q hq; rw [Query.w_eq] at this; omega
      · have := sum_mem Query.w l q hq; have e := sum_mem Arm.w q.arms a ha; rw [Query.w_eq] at this; omega
    · rw [Arm.w_eq] at hw
      have l1 := len_le (f := fun l : List Term => 1 + (l.map Term.w).sum) (fun x => Nat.le_add_right 1 _) a.rows
      have l2 := len_le From.w_pos a.frm
      have l3 := len_le Agg.w_pos a.aggs
      refine p60_spec a (by omega) (by omega) (by omega) (fun x hx => hT _ ?_) (fun f hf => hQ _ ?_) (fun f hf => hT _ ?_) (fun b hb => hT _ ?_) (hT _ (by omega)) (hT _ (by omega)) (hT _ (by omega)) (hT _ (by omega)) (hT _ (by omega))
      · have := sum_mem (fun l : List Term => 1 + (l.map Term.w).sum) a.rows x hx; omega
      · have := sum_mem From.w a.frm f hf; rw [From.w_eq] at this; omega
      · have := sum_mem From.w a.frm f hf; rw [From.w_eq] at this; omega
      · have := sum_mem Agg.w a.aggs b hb; rw [Agg.w_eq] at this; omega
theorem plain_ok (r : Resolved) (hw : r.w ≤ 2 ^ 30) : Gives Tryz.prog 15 [.agg r.v] (.agg r.plain.v) := by
  have hr := Resolved.w_eq r
  have hlen := len_le With.w_pos r.withs
  have one : ∀ q : Query, q.w ≤ 2 ^ 30 → Gives Tryz.prog 35 [.slice 5 [q.v]] (.slice 5 [q.plain.v]) := fun q hq => (plain_all q.w hq).2.1 [q] (by simp)
  refine p15_spec r (by omega) (one _ (by omega)) (fun x hx => one _ ?_) fun x hx => (plain_all _ ?_).2.1 _ (Nat.le_refl _)
  · have := sum_mem With.w r.withs x hx; rw [With.w_eq] at this; omega
  · have := sum_mem With.w r.withs x hx; rw [With.w_eq] at this; omega
theorem sameR_ok (r : Resolved) (hw : r.w ≤ 2 ^ 30) : Gives Tryz.prog 14 [.agg r.v, .agg r.v] (vbool true) := by
  have hr := Resolved.w_eq r
  have hlen := len_le With.w_pos r.withs
  have q : ∀ x : Query, Gives Tryz.prog 32 [.agg x.v, .agg x.v] (.base (.bool true)) := fun x => by
    have := same_query x x
    rwa [same_self] at this
  refine p14_spec r (by omega) (q _) (fun x hx => ?_) (fun x hx => q _) fun x hx => ?_
  · have := f33_spec x.names x.names
    rwa [same_self] at this
  · have := same_queries x.step x.step
    rwa [same_self] at this
end Go.Proofs.YtcckhbconihagaaGreatDoor
/- plan.May finds no fault in a plain query; the law PlanPlain, walked. -/
set_option linter.unusedVariables false
set_option linter.unusedSimpArgs false
set_option maxRecDepth 100000
namespace Go.Proofs.YtcckhbconihagaaGreatDoor
open Go.Am Go.Pl
mutual
theorem pmTerm : ∀ (t : Term) (d : Nat), (wTerm mfa mff t.plain d (some true)).1 = some true
  | ⟨op, neg, n, frm, col, name, vk, vi, vt, coll, l, r, args, sub⟩, d => by
    rw [Term.plain, wTerm]
    simp only [fldS, mff, ite_self, pmTerms args d, pmQueries sub (d + 1)]
theorem pmQuery : ∀ (t : Query) (d : Nat), (wQuery mfa mff t.plain d (some true)).1 = some true
  | ⟨names, arms, order, limit, offset⟩, d => by
    rw [Query.plain, wQuery]
    simp only [pmTerms limit d, pmTerms offset d, pmArms arms d]
theorem pmArm : ∀ (t : Arm) (d : Nat), (wArm mfa mff t.plain d (some true)).1 = some true
  | ⟨comp, distinct, values, rows, frm, whr, grouped, group, aggs, having, out, extra, steps⟩, d => by
    rw [Arm.plain, wArm]
    simp only [wSteps, mfa, okm, Option.bind_some, Option.map_some, if_true, Bool.and_self, pmRows rows d, pmFroms frm d, pmAggs aggs d, pmTerms whr d, pmTerms group d, pmTerms having d, pmTerms out d, pmTerms extra d]
theorem pmFrom : ∀ (t : From) (d : Nat), (wFrom mfa mff t.plain d (some true)).1 = some true
  | ⟨join, kind, name, n, width, sub, on⟩, d => by
    rw [From.plain, wFrom]
    simp only [pmQueries sub d, pmTerms on d]
theorem pmAgg : ∀ (t : Agg) (d : Nat), (wAgg mfa mff t.plain d (some true)).1 = some true
  | ⟨name, distinct, star, coll, arg⟩, d => by
    rw [Agg.plain, wAgg]
    simp only [pmTerms arg d]
theorem pmTerms : ∀ (l : List Term) (d : Nat), (wTerms mfa mff (l.map Term.plain) d (some true)).1 = some true
  | [], d => by rw [List.map_nil, wTerms]
  | t :: l, d => by
    rw [List.map_cons, wTerms]
    simp only [pmTerm t d, pmTerms l d]
theorem pmQueries : ∀ (l : List Query) (d : Nat), (wQueries mfa mff (l.map Query.plain) d (some true)).1 = some true
  | [], d => by rw [List.map_nil, wQueries]
  | t :: l, d => by
    rw [List.map_cons, wQueries]
    simp only [pmQuery t d, pmQueries l d]
theorem pmArms : ∀ (l : List Arm) (d : Nat), (wArms mfa mff (l.map Arm.plain) d (some true)).1 = some true
  | [], d => by rw [List.map_nil, wArms]
  | t :: l, d => by
    rw [List.map_cons, wArms]
    simp only [pmArm t d, pmArms l d]
theorem pmRows : ∀ (l : List (List Term)) (d : Nat), (wRows mfa mff (l.map fun l => l.map Term.plain) d (some true)).1 = some true
  | [], d => by rw [List.map_nil, wRows]
  | t :: l, d => by
    rw [List.map_cons, wRows]
    simp only [pmTerms t d, pmRows l d]
theorem pmFroms : ∀ (l : List From) (d : Nat), (wFroms mfa mff (l.map From.plain) d (some true)).1 = some true
  | [], d => by rw [List.map_nil, wFroms]
  | t :: l, d => by
    rw [List.map_cons, wFroms]
    simp only [pmFrom t d, pmFroms l d]
theorem pmAggs : ∀ (l : List Agg) (d : Nat), (wAggs mfa mff (l.map Agg.plain) d (some true)).1 = some true
  | [], d => by rw [List.map_nil, wAggs]
  | t :: l, d => by
    rw [List.map_cons, wAggs]
    simp only [pmAgg t d, pmAggs l d]
end
theorem pmWiths : ∀ (l : List With), (wWiths mfa mff (l.map With.plain) (some true)).1 = some true
  | [] => rfl
  | x :: l => by
    have h0 : (wWith mfa mff (some true) x.plain).1 = some true := by
      simp only [wWith, With.plain, pmQuery, pmQueries]
    have h1 := pmWiths l
    unfold wWiths at h1 ⊢
    simp only [mapS, List.map_cons, h0, h1]
theorem pmResolved (r : Resolved) : (wResolved mfa mff r.plain (some true)).1 = some true := by
  simp only [wResolved, Resolved.plain, pmQuery, pmWiths]
mutual
theorem wwTerm : ∀ (t : Term), t.plain.w ≤ t.w
  | ⟨op, neg, n, frm, col, name, vk, vi, vt, coll, l, r, args, sub⟩ => by
    rw [Term.plain, Term.w, Term.w]
    have i0 := wwTerms args
    have i1 := wwQueries sub
    omega
theorem wwQuery : ∀ (t : Query), t.plain.w ≤ t.w
  | ⟨names, arms, order, limit, offset⟩ => by
    rw [Query.plain, Query.w, Query.w]
    have i0 := wwTerms limit
    have i1 := wwTerms offset
    have i2 := wwArms arms
    omega
theorem wwArm : ∀ (t : Arm), t.plain.w ≤ t.w
  | ⟨comp, distinct, values, rows, frm, whr, grouped, group, aggs, having, out, extra, steps⟩ => by
    rw [Arm.plain, Arm.w, Arm.w]
    have i0 := wwRows rows
    have i1 := wwFroms frm
    have i2 := wwAggs aggs
    have i4 := wwTerms whr
    have i5 := wwTerms group
    have i6 := wwTerms having
    have i7 := wwTerms out
    have i8 := wwTerms extra
    simp only [List.map_nil, List.sum_nil]
    omega
theorem wwFrom : ∀ (t : From), t.plain.w ≤ t.w
  | ⟨join, kind, name, n, width, sub, on⟩ => by
    rw [From.plain, From.w, From.w]
    have i0 := wwQueries sub
    have i1 := wwTerms on
    omega
theorem wwAgg : ∀ (t : Agg), t.plain.w ≤ t.w
  | ⟨name, distinct, star, coll, arg⟩ => by
    rw [Agg.plain, Agg.w, Agg.w]
    have i0 := wwTerms arg
    omega
theorem wwTerms : ∀ (l : List Term), ((l.map Term.plain).map Term.w).sum ≤ (l.map Term.w).sum
  | [] => Nat.le_refl _
  | t :: l => by
    have i1 := wwTerm t
    have i2 := wwTerms l
    simp only [List.map_cons, List.sum_cons]
    omega
theorem wwQueries : ∀ (l : List Query), ((l.map Query.plain).map Query.w).sum ≤ (l.map Query.w).sum
  | [] => Nat.le_refl _
  | t :: l => by
    have i1 := wwQuery t
    have i2 := wwQueries l
    simp only [List.map_cons, List.sum_cons]
    omega
theorem wwArms : ∀ (l : List Arm), ((l.map Arm.plain).map Arm.w).sum ≤ (l.map Arm.w).sum
  | [] => Nat.le_refl _
  | t :: l => by
    have i1 := wwArm t
    have i2 := wwArms l
    simp only [List.map_cons, List.sum_cons]
    omega
theorem wwRows : ∀ (l : List (List Term)), ((l.map fun l => l.map Term.plain).map (fun l : List Term => 1 + (l.map Term.w).sum)).sum ≤ (l.map (fun l : List Term => 1 + (l.map Term.w).sum)).sum
  | [] => Nat.le_refl _
  | t :: l => by
    have i1 := wwTerms t
    have i2 := wwRows l
    simp only [List.map_cons, List.sum_cons]
    omega
theorem wwFroms : ∀ (l : List From), ((l.map From.plain).map From.w).sum ≤ (l.map From.w).sum
  | [] => Nat.le_refl _
  | t :: l => by
    have i1 := wwFrom t
    have i2 := wwFroms l
    simp only [List.map_cons, List.sum_cons]
    omega
theorem wwAggs : ∀ (l : List Agg), ((l.map Agg.plain).map Agg.w).sum ≤ (l.map Agg.w).sum
  | [] => Nat.le_refl _
  | t :: l => by
    have i1 := wwAgg t
    have i2 := wwAggs l
    simp only [List.map_cons, List.sum_cons]
    omega
end
theorem wwWiths : ∀ (l : List With), ((l.map With.plain).map With.w).sum ≤ (l.map With.w).sum
  | [] => Nat.le_refl _
  | x :: l => by
    have i1 := wwQuery x.query
    have i2 := wwQueries x.step
    have i3 := wwWiths l
    simp only [List.map_cons, List.sum_cons, With.w_eq, With.plain]
    omega
theorem wwResolved (r : Resolved) : r.plain.w ≤ r.w := by
  have i1 := wwQuery r.query
  have i2 := wwWiths r.withs
  simp only [Resolved.w_eq, Resolved.plain]
  omega
theorem f5_spec (r : Resolved) (hw : r.w ≤ 2^28) : Gives Tryz.prog 5 [.agg r.v] (vbool true) := by
  have z0 : ((0 : Int) == 0) = true := rfl
  have hpw := wwResolved r
  have h13 := f13_spec r (by omega)
  have h15 := plain_ok r (by omega)
  have h14 := sameR_ok r.plain (by omega)
  have h9 : Gives Tryz.prog 9 [.agg [.nil, .nil, .nil], .agg r.plain.v] (vint 0) := f9_spec .nil .nil .nil rfl rfl rfl r.plain (by omega) true (pmResolved r)
  intro s
  refine acalls_of (fn := Tryz.f5) Tryz.func5 rfl (by decide) (by show 1 ≤ 19; decide) ?_
  rw [Tryz.ntmps5]
  refine AWp.reg fun R1 hR1 => ?_
  simp only [Resolved.v_eq, Query.v_eq, ty35, nilV, k25, k26, cmpCells, aops_nil, aops_cons, aopsK, gstep, gdOf, aop, aPure, pval, lenVal, lenV, sliceV, appV, binV, rd, loV, hiV, noLoc, noLocs, fillV, chunks, splice, mkBox, aStore, aLoad, aCall_eq, callK, aAppend, V.cells, V.isCell, V.ofVal, V.ofCell, Value.oneCell', St.eval, St.put, dstOk, upd, entryE, env, locs, tst, k00, k01, k02, k03, k04, k05, k06, k07, k08, k09, k10, k11, k12, k13, k14, k15, k16, k17, k18, k19, k20, k21, k22, k23, k24, ↓reduceIte, reduceCtorEq, Nat.reduceLT, Nat.reduceLeDiff, Nat.reduceEqDiff, Nat.reduceAdd, Nat.reduceMul, Nat.reduceSub, Nat.reducePow, Nat.reduceMod, k27, Nat.zero_add, Nat.add_zero, k28, k29, k30, Bool.and_self, Bool.and_true, Bool.true_and, and_self, and_true, true_and, k31, k32, Nat.le_refl, Nat.zero_le, k33, k34]
  refine hR1 _ ?_; clear hR1 R1
  refine AWp.reg fun R2 hR2 => ?_
  simp only [Resolved.v_eq, Query.v_eq, ty35, nilV, k25, k26, cmpCells, aops_nil, aops_cons, aopsK, gstep, gdOf, aop, aPure, pval, lenVal, lenV, sliceV, appV, binV, rd, loV, hiV, noLoc, noLocs, fillV, chunks, splice, mkBox, aStore, aLoad, aCall_eq, callK, aAppend, V.cells, V.isCell, V.ofVal, V.ofCell, Value.oneCell', St.eval, St.put, dstOk, upd, entryE, env, locs, tst, k00, k01, k02, k03, k04, k05, k06, k07, k08, k09, k10, k11, k12, k13, k14, k15, k16, k17, k18, k19, k20, k21, k22, k23, k24, ↓reduceIte, reduceCtorEq, Nat.reduceLT, Nat.reduceLeDiff, Nat.reduceEqDiff, Nat.reduceAdd, Nat.reduceMul, Nat.reduceSub, Nat.reducePow, Nat.reduceMod, k27, Nat.zero_add, Nat.add_zero, k28, k29, k30, Bool.and_self, Bool.and_true, Bool.true_and, and_self, and_true, true_and, k31, k32, Nat.le_refl, Nat.zero_le, k33, k34]
  have hc := h13
  simp only [Resolved.v_eq, Query.v_eq, List.cons_append, List.nil_append] at hc
  refine (hc _).mono fun v' s' h => ?_
  rw [h.1, h.2]; clear h v' s'; clear hc
  simp only [Resolved.v_eq, Query.v_eq, ty35, nilV, k25, k26, cmpCells, aops_nil, aops_cons, aopsK, gstep, gdOf, aop, aPure, pval, lenVal, lenV, sliceV, appV, binV, rd, loV, hiV, noLoc, noLocs, fillV, chunks, splice, mkBox, aStore, aLoad, aCall_eq, callK, aAppend, V.cells, V.isCell, V.ofVal, V.ofCell, Value.oneCell', St.eval, St.put, dstOk, upd, entryE, env, locs, tst, k00, k01, k02, k03, k04, k05, k06, k07, k08, k09, k10, k11, k12, k13, k14, k15, k16, k17, k18, k19, k20, k21, k22, k23, k24, ↓reduceIte, reduceCtorEq, Nat.reduceLT, Nat.reduceLeDiff, Nat.reduceEqDiff, Nat.reduceAdd, Nat.reduceMul, Nat.reduceSub, Nat.reducePow, Nat.reduceMod, k27, Nat.zero_add, Nat.add_zero, k28, k29, k30, Bool.and_self, Bool.and_true, Bool.true_and, and_self, and_true, true_and, k31, k32, Nat.le_refl, Nat.zero_le, k33, k34]
  refine hR2 _ ?_; clear hR2 R2
  refine AWp.regL mixed [0, 1, 2, 3, 4, 5, 6, 7, 8, 9, 10, 11, 12, 13] (by decide +kernel) [] (by decide +kernel) fun R3 hR3 => ?_
  simp only [Resolved.v_eq, Query.v_eq, z0, ty26, ty35, ty37, aopsL_nil, aopsL_cons, aopsLK, gstepL, dcond, List.filterMap_cons, List.filterMap_nil, List.contains_cons, List.contains_nil, Nat.reduceBEq, Bool.or_self, Bool.false_or, Bool.or_false, nilV, k25, k26, cmpCells, aops_nil, aops_cons, aopsK, gstep, gdOf, aop, aPure, pval, lenVal, lenV, sliceV, appV, binV, rd, loV, hiV, noLoc, noLocs, fillV, chunks, splice, mkBox, aStore, aLoad, aCall_eq, callK, aAppend, V.cells, V.isCell, V.ofVal, V.ofCell, Value.oneCell', St.eval, St.put, dstOk, upd, entryE, env, locs, tst, k00, k01, k02, k03, k04, k05, k06, k07, k08, k09, k10, k11, k12, k13, k14, k15, k16, k17, k18, k19, k20, k21, k22, k23, k24, ↓reduceIte, reduceCtorEq, Nat.reduceLT, Nat.reduceLeDiff, Nat.reduceEqDiff, Nat.reduceAdd, Nat.reduceMul, Nat.reduceSub, Nat.reducePow, Nat.reduceMod, k27, Nat.zero_add, Nat.add_zero, k28, k29, k30, Bool.and_self, Bool.and_true, Bool.true_and, and_self, and_true, true_and, k31, k32, Nat.le_refl, Nat.zero_le, k33, k34]
  refine (f8_spec _).mono fun v' s' h => ?_
  rw [h.1, h.2]; clear h v' s'
  simp only [Resolved.v_eq, Query.v_eq, z0, ty26, ty35, ty37, aopsL_nil, aopsL_cons, aopsLK, gstepL, dcond, List.filterMap_cons, List.filterMap_nil, List.contains_cons, List.contains_nil, Nat.reduceBEq, Bool.or_self, Bool.false_or, Bool.or_false, nilV, k25, k26, cmpCells, aops_nil, aops_cons, aopsK, gstep, gdOf, aop, aPure, pval, lenVal, lenV, sliceV, appV, binV, rd, loV, hiV, noLoc, noLocs, fillV, chunks, splice, mkBox, aStore, aLoad, aCall_eq, callK, aAppend, V.cells, V.isCell, V.ofVal, V.ofCell, Value.oneCell', St.eval, St.put, dstOk, upd, entryE, env, locs, tst, k00, k01, k02, k03, k04, k05, k06, k07, k08, k09, k10, k11, k12, k13, k14, k15, k16, k17, k18, k19, k20, k21, k22, k23, k24, ↓reduceIte, reduceCtorEq, Nat.reduceLT, Nat.reduceLeDiff, Nat.reduceEqDiff, Nat.reduceAdd, Nat.reduceMul, Nat.reduceSub, Nat.reducePow, Nat.reduceMod, k27, Nat.zero_add, Nat.add_zero, k28, k29, k30, Bool.and_self, Bool.and_true, Bool.true_and, and_self, and_true, true_and, k31, k32, Nat.le_refl, Nat.zero_le, k33, k34]
  have hc := h15
  simp only [Resolved.v_eq, Query.v_eq, List.cons_append, List.nil_append] at hc
  refine (hc _).mono fun v' s' h => ?_
  rw [h.1, h.2]; clear h v' s'; clear hc
  simp only [Resolved.v_eq, Query.v_eq, z0, ty26, ty35, ty37, aopsL_nil, aopsL_cons, aopsLK, gstepL, dcond, List.filterMap_cons, List.filterMap_nil, List.contains_cons, List.contains_nil, Nat.reduceBEq, Bool.or_self, Bool.false_or, Bool.or_false, nilV, k25, k26, cmpCells, aops_nil, aops_cons, aopsK, gstep, gdOf, aop, aPure, pval, lenVal, lenV, sliceV, appV, binV, rd, loV, hiV, noLoc, noLocs, fillV, chunks, splice, mkBox, aStore, aLoad, aCall_eq, callK, aAppend, V.cells, V.isCell, V.ofVal, V.ofCell, Value.oneCell', St.eval, St.put, dstOk, upd, entryE, env, locs, tst, k00, k01, k02, k03, k04, k05, k06, k07, k08, k09, k10, k11, k12, k13, k14, k15, k16, k17, k18, k19, k20, k21, k22, k23, k24, ↓reduceIte, reduceCtorEq, Nat.reduceLT, Nat.reduceLeDiff, Nat.reduceEqDiff, Nat.reduceAdd, Nat.reduceMul, Nat.reduceSub, Nat.reducePow, Nat.reduceMod, k27, Nat.zero_add, Nat.add_zero, k28, k29, k30, Bool.and_self, Bool.and_true, Bool.true_and, and_self, and_true, true_and, k31, k32, Nat.le_refl, Nat.zero_le, k33, k34]
  have hc := h14
  simp only [Resolved.v_eq, Query.v_eq, List.cons_append, List.nil_append] at hc
  refine (hc _).mono fun v' s' h => ?_
  rw [h.1, h.2]; clear h v' s'; clear hc
  simp only [Resolved.v_eq, Query.v_eq, z0, ty26, ty35, ty37, aopsL_nil, aopsL_cons, aopsLK, gstepL, dcond, List.filterMap_cons, List.filterMap_nil, List.contains_cons, List.contains_nil, Nat.reduceBEq, Bool.or_self, Bool.false_or, Bool.or_false, nilV, k25, k26, cmpCells, aops_nil, aops_cons, aopsK, gstep, gdOf, aop, aPure, pval, lenVal, lenV, sliceV, appV, binV, rd, loV, hiV, noLoc, noLocs, fillV, chunks, splice, mkBox, aStore, aLoad, aCall_eq, callK, aAppend, V.cells, V.isCell, V.ofVal, V.ofCell, Value.oneCell', St.eval, St.put, dstOk, upd, entryE, env, locs, tst, k00, k01, k02, k03, k04, k05, k06, k07, k08, k09, k10, k11, k12, k13, k14, k15, k16, k17, k18, k19, k20, k21, k22, k23, k24, ↓reduceIte, reduceCtorEq, Nat.reduceLT, Nat.reduceLeDiff, Nat.reduceEqDiff, Nat.reduceAdd, Nat.reduceMul, Nat.reduceSub, Nat.reducePow, Nat.reduceMod, k27, Nat.zero_add, Nat.add_zero, k28, k29, k30, Bool.and_self, Bool.and_true, Bool.true_and, and_self, and_true, true_and, k31, k32, Nat.le_refl, Nat.zero_le, k33, k34]
  have hc := h9
  simp only [Resolved.v_eq, Query.v_eq, List.cons_append, List.nil_append] at hc
  refine (hc _).mono fun v' s' h => ?_
  rw [h.1, h.2]; clear h v' s'; clear hc
  simp only [Resolved.v_eq, Query.v_eq, z0, ty26, ty35, ty37, aopsL_nil, aopsL_cons, aopsLK, gstepL, dcond, List.filterMap_cons, List.filterMap_nil, List.contains_cons, List.contains_nil, Nat.reduceBEq, Bool.or_self, Bool.false_or, Bool.or_false, nilV, k25, k26, cmpCells, aops_nil, aops_cons, aopsK, gstep, gdOf, aop, aPure, pval, lenVal, lenV, sliceV, appV, binV, rd, loV, hiV, noLoc, noLocs, fillV, chunks, splice, mkBox, aStore, aLoad, aCall_eq, callK, aAppend, V.cells, V.isCell, V.ofVal, V.ofCell, Value.oneCell', St.eval, St.put, dstOk, upd, entryE, env, locs, tst, k00, k01, k02, k03, k04, k05, k06, k07, k08, k09, k10, k11, k12, k13, k14, k15, k16, k17, k18, k19, k20, k21, k22, k23, k24, ↓reduceIte, reduceCtorEq, Nat.reduceLT, Nat.reduceLeDiff, Nat.reduceEqDiff, Nat.reduceAdd, Nat.reduceMul, Nat.reduceSub, Nat.reducePow, Nat.reduceMod, k27, Nat.zero_add, Nat.add_zero, k28, k29, k30, Bool.and_self, Bool.and_true, Bool.true_and, and_self, and_true, true_and, k31, k32, Nat.le_refl, Nat.zero_le, k33, k34]
  refine hR3 _ ?_; clear hR3 R3
  refine AWp.ret ?_
  refine ret_intro (vs := [.base (.bool true)]) rfl (Wk.refl _) (Heap.le.refl _) ⟨rfl, rfl⟩
end Go.Proofs.YtcckhbconihagaaGreatDoor
