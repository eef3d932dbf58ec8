/- slices.Clone. -/
import Derived.Test.YtcckhbconihagaaGreatDoorPlUse
import Derived.Test.YtcckhbconihagaaGreatDoorPlWalk
import Derived.Test.YtcckhbconihagaaGreatDoorAmFrame
set_option linter.unusedSimpArgs false
set_option linter.unusedVariables false
set_option maxRecDepth 100000
namespace Go.Proofs.YtcckhbconihagaaGreatDoor
open Go.Am Go.Pl

theorem f52_spec (es : List (List V)) (hl : es.length ≤ 2^30) : Gives Tryz.prog 52 [.slice 1 es] (.slice 1 es) := by
  intro s
  cases es with
  | nil =>
    refine ACalls.empty fun ad cap => ?_
    cases ad with
    | none =>
      refine acalls_of (fn := Tryz.f52) Tryz.func52 rfl (by decide) (by show 1 ≤ 8; decide) ?_
      rw [Tryz.ntmps52]
      refine AWp.reg fun R1 hR1 => ?_
      simp only [nilV, k25, k26, cmpCells, aops_nil, aops_cons, aopsK, gstep, gdOf, aop, aPure, pval, lenVal, lenV, sliceV, appV, binV, rd, loV, hiV, noLoc, noLocs, fillV, chunks, splice, mkBox, aStore, aLoad, aCall_eq, callK, aAppend, V.cells, V.isCell, V.ofVal, V.ofCell, Value.oneCell', St.eval, St.put, dstOk, upd, entryE, env, locs, tst, k00, k01, k02, k03, k04, k05, k06, k07, k08, k09, k10, k11, k12, k13, k14, k15, k16, k17, k18, k19, k20, k21, k22, k23, k24, ↓reduceIte, reduceCtorEq, Nat.reduceLT, Nat.reduceLeDiff, Nat.reduceEqDiff, Nat.reduceAdd, Nat.reduceMul, Nat.reduceSub, Nat.reducePow, Nat.reduceMod, k27, Nat.zero_add, Nat.add_zero, k28, k29, k30, Bool.and_self, Bool.and_true, Bool.true_and, and_self, and_true, true_and, k31, k32, Nat.le_refl, Nat.zero_le, k33, k34]
      refine hR1 _ ?_; clear hR1 R1
      refine AWp.seq_k fun K2 hK2 => ?_
      refine AWp.reg fun R3 hR3 => ?_
      simp only [ty9, ty28, nilV, k25, k26, cmpCells, aops_nil, aops_cons, aopsK, gstep, gdOf, aop, aPure, pval, lenVal, lenV, sliceV, appV, binV, rd, loV, hiV, noLoc, noLocs, fillV, chunks, splice, mkBox, aStore, aLoad, aCall_eq, callK, aAppend, V.cells, V.isCell, V.ofVal, V.ofCell, Value.oneCell', St.eval, St.put, dstOk, upd, entryE, env, locs, tst, k00, k01, k02, k03, k04, k05, k06, k07, k08, k09, k10, k11, k12, k13, k14, k15, k16, k17, k18, k19, k20, k21, k22, k23, k24, ↓reduceIte, reduceCtorEq, Nat.reduceLT, Nat.reduceLeDiff, Nat.reduceEqDiff, Nat.reduceAdd, Nat.reduceMul, Nat.reduceSub, Nat.reducePow, Nat.reduceMod, k27, Nat.zero_add, Nat.add_zero, k28, k29, k30, Bool.and_self, Bool.and_true, Bool.true_and, and_self, and_true, true_and, k31, k32, Nat.le_refl, Nat.zero_le, k33, k34]
      refine hR3 _ ?_; clear hR3 R3
      refine AWp.cond (t := true) (by simp only [nilV, k25, k26, cmpCells, aops_nil, aops_cons, aopsK, gstep, gdOf, aop, aPure, pval, lenVal, lenV, sliceV, appV, binV, rd, loV, hiV, noLoc, noLocs, fillV, chunks, splice, mkBox, aStore, aLoad, aCall_eq, callK, aAppend, V.cells, V.isCell, V.ofVal, V.ofCell, Value.oneCell', St.eval, St.put, dstOk, upd, entryE, env, locs, tst, k00, k01, k02, k03, k04, k05, k06, k07, k08, k09, k10, k11, k12, k13, k14, k15, k16, k17, k18, k19, k20, k21, k22, k23, k24, ↓reduceIte, reduceCtorEq, Nat.reduceLT, Nat.reduceLeDiff, Nat.reduceEqDiff, Nat.reduceAdd, Nat.reduceMul, Nat.reduceSub, Nat.reducePow, Nat.reduceMod, k27, Nat.zero_add, Nat.add_zero, k28, k29, k30, Bool.and_self, Bool.and_true, Bool.true_and, and_self, and_true, true_and, k31, k32, Nat.le_refl, Nat.zero_le, k33, k34]) (fun _ => ?_) (fun h => by cases h)
      refine AWp.reg fun R4 hR4 => ?_
      simp only [nilV, k25, k26, cmpCells, aops_nil, aops_cons, aopsK, gstep, gdOf, aop, aPure, pval, lenVal, lenV, sliceV, appV, binV, rd, loV, hiV, noLoc, noLocs, fillV, chunks, splice, mkBox, aStore, aLoad, aCall_eq, callK, aAppend, V.cells, V.isCell, V.ofVal, V.ofCell, Value.oneCell', St.eval, St.put, dstOk, upd, entryE, env, locs, tst, k00, k01, k02, k03, k04, k05, k06, k07, k08, k09, k10, k11, k12, k13, k14, k15, k16, k17, k18, k19, k20, k21, k22, k23, k24, ↓reduceIte, reduceCtorEq, Nat.reduceLT, Nat.reduceLeDiff, Nat.reduceEqDiff, Nat.reduceAdd, Nat.reduceMul, Nat.reduceSub, Nat.reducePow, Nat.reduceMod, k27, Nat.zero_add, Nat.add_zero, k28, k29, k30, Bool.and_self, Bool.and_true, Bool.true_and, and_self, and_true, true_and, k31, k32, Nat.le_refl, Nat.zero_le, k33, k34]
      refine hR4 _ ?_; clear hR4 R4
      refine AWp.ret ?_
      refine ret_intro (vs := [.nil]) rfl (Wk.nil 1) (Heap.le.refl _) ⟨rfl, rfl⟩
    | some ad =>
      refine acalls_of (fn := Tryz.f52) Tryz.func52 rfl (by decide) (by show 1 ≤ 8; decide) ?_
      rw [Tryz.ntmps52]
      refine AWp.reg fun R1 hR1 => ?_
      simp only [nilV, k25, k26, cmpCells, aops_nil, aops_cons, aopsK, gstep, gdOf, aop, aPure, pval, lenVal, lenV, sliceV, appV, binV, rd, loV, hiV, noLoc, noLocs, fillV, chunks, splice, mkBox, aStore, aLoad, aCall_eq, callK, aAppend, V.cells, V.isCell, V.ofVal, V.ofCell, Value.oneCell', St.eval, St.put, dstOk, upd, entryE, env, locs, tst, k00, k01, k02, k03, k04, k05, k06, k07, k08, k09, k10, k11, k12, k13, k14, k15, k16, k17, k18, k19, k20, k21, k22, k23, k24, ↓reduceIte, reduceCtorEq, Nat.reduceLT, Nat.reduceLeDiff, Nat.reduceEqDiff, Nat.reduceAdd, Nat.reduceMul, Nat.reduceSub, Nat.reducePow, Nat.reduceMod, k27, Nat.zero_add, Nat.add_zero, k28, k29, k30, Bool.and_self, Bool.and_true, Bool.true_and, and_self, and_true, true_and, k31, k32, Nat.le_refl, Nat.zero_le, k33, k34]
      refine hR1 _ ?_; clear hR1 R1
      refine AWp.seq_k fun K2 hK2 => ?_
      refine AWp.reg fun R3 hR3 => ?_
      simp only [ty9, ty28, nilV, k25, k26, cmpCells, aops_nil, aops_cons, aopsK, gstep, gdOf, aop, aPure, pval, lenVal, lenV, sliceV, appV, binV, rd, loV, hiV, noLoc, noLocs, fillV, chunks, splice, mkBox, aStore, aLoad, aCall_eq, callK, aAppend, V.cells, V.isCell, V.ofVal, V.ofCell, Value.oneCell', St.eval, St.put, dstOk, upd, entryE, env, locs, tst, k00, k01, k02, k03, k04, k05, k06, k07, k08, k09, k10, k11, k12, k13, k14, k15, k16, k17, k18, k19, k20, k21, k22, k23, k24, ↓reduceIte, reduceCtorEq, Nat.reduceLT, Nat.reduceLeDiff, Nat.reduceEqDiff, Nat.reduceAdd, Nat.reduceMul, Nat.reduceSub, Nat.reducePow, Nat.reduceMod, k27, Nat.zero_add, Nat.add_zero, k28, k29, k30, Bool.and_self, Bool.and_true, Bool.true_and, and_self, and_true, true_and, k31, k32, Nat.le_refl, Nat.zero_le, k33, k34]
      refine hR3 _ ?_; clear hR3 R3
      refine AWp.cond (t := false) (by simp only [nilV, k25, k26, cmpCells, aops_nil, aops_cons, aopsK, gstep, gdOf, aop, aPure, pval, lenVal, lenV, sliceV, appV, binV, rd, loV, hiV, noLoc, noLocs, fillV, chunks, splice, mkBox, aStore, aLoad, aCall_eq, callK, aAppend, V.cells, V.isCell, V.ofVal, V.ofCell, Value.oneCell', St.eval, St.put, dstOk, upd, entryE, env, locs, tst, k00, k01, k02, k03, k04, k05, k06, k07, k08, k09, k10, k11, k12, k13, k14, k15, k16, k17, k18, k19, k20, k21, k22, k23, k24, ↓reduceIte, reduceCtorEq, Nat.reduceLT, Nat.reduceLeDiff, Nat.reduceEqDiff, Nat.reduceAdd, Nat.reduceMul, Nat.reduceSub, Nat.reducePow, Nat.reduceMod, k27, Nat.zero_add, Nat.add_zero, k28, k29, k30, Bool.and_self, Bool.and_true, Bool.true_and, and_self, and_true, true_and, k31, k32, Nat.le_refl, Nat.zero_le, k33, k34]) (fun h => by cases h) (fun _ => ?_)
      refine AWp.skip ?_
      refine hK2 _ ?_; clear hK2
      refine AWp.reg fun R4 hR4 => ?_
      simp only [ty9, ty28, nilV, k25, k26, cmpCells, aops_nil, aops_cons, aopsK, gstep, gdOf, aop, aPure, pval, lenVal, lenV, sliceV, appV, binV, rd, loV, hiV, noLoc, noLocs, fillV, chunks, splice, mkBox, aStore, aLoad, aCall_eq, callK, aAppend, V.cells, V.isCell, V.ofVal, V.ofCell, Value.oneCell', St.eval, St.put, dstOk, upd, entryE, env, locs, tst, k00, k01, k02, k03, k04, k05, k06, k07, k08, k09, k10, k11, k12, k13, k14, k15, k16, k17, k18, k19, k20, k21, k22, k23, k24, ↓reduceIte, reduceCtorEq, Nat.reduceLT, Nat.reduceLeDiff, Nat.reduceEqDiff, Nat.reduceAdd, Nat.reduceMul, Nat.reduceSub, Nat.reducePow, Nat.reduceMod, k27, Nat.zero_add, Nat.add_zero, k28, k29, k30, Bool.and_self, Bool.and_true, Bool.true_and, and_self, and_true, true_and, k31, k32, Nat.le_refl, Nat.zero_le, k33, k34]
      intro g hg
      refine hR4 _ ?_; clear hR4 R4
      refine AWp.ret ?_
      refine ret_intro (vs := [.own g 1 []]) rfl (Wk.own _ _ _) (own_drop hg _) ⟨rfl, rfl⟩
  | cons e es =>
    refine acalls_of (fn := Tryz.f52) Tryz.func52 rfl (by decide) (by show 1 ≤ 8; decide) ?_
    rw [Tryz.ntmps52]
    refine AWp.reg fun R1 hR1 => ?_
    simp only [nilV, k25, k26, cmpCells, aops_nil, aops_cons, aopsK, gstep, gdOf, aop, aPure, pval, lenVal, lenV, sliceV, appV, binV, rd, loV, hiV, noLoc, noLocs, fillV, chunks, splice, mkBox, aStore, aLoad, aCall_eq, callK, aAppend, V.cells, V.isCell, V.ofVal, V.ofCell, Value.oneCell', St.eval, St.put, dstOk, upd, entryE, env, locs, tst, k00, k01, k02, k03, k04, k05, k06, k07, k08, k09, k10, k11, k12, k13, k14, k15, k16, k17, k18, k19, k20, k21, k22, k23, k24, ↓reduceIte, reduceCtorEq, Nat.reduceLT, Nat.reduceLeDiff, Nat.reduceEqDiff, Nat.reduceAdd, Nat.reduceMul, Nat.reduceSub, Nat.reducePow, Nat.reduceMod, k27, Nat.zero_add, Nat.add_zero, k28, k29, k30, Bool.and_self, Bool.and_true, Bool.true_and, and_self, and_true, true_and, k31, k32, Nat.le_refl, Nat.zero_le, k33, k34]
    refine hR1 _ ?_; clear hR1 R1
    refine AWp.seq_k fun K2 hK2 => ?_
    refine AWp.reg fun R3 hR3 => ?_
    simp only [ty9, ty28, nilV, k25, k26, cmpCells, aops_nil, aops_cons, aopsK, gstep, gdOf, aop, aPure, pval, lenVal, lenV, sliceV, appV, binV, rd, loV, hiV, noLoc, noLocs, fillV, chunks, splice, mkBox, aStore, aLoad, aCall_eq, callK, aAppend, V.cells, V.isCell, V.ofVal, V.ofCell, Value.oneCell', St.eval, St.put, dstOk, upd, entryE, env, locs, tst, k00, k01, k02, k03, k04, k05, k06, k07, k08, k09, k10, k11, k12, k13, k14, k15, k16, k17, k18, k19, k20, k21, k22, k23, k24, ↓reduceIte, reduceCtorEq, Nat.reduceLT, Nat.reduceLeDiff, Nat.reduceEqDiff, Nat.reduceAdd, Nat.reduceMul, Nat.reduceSub, Nat.reducePow, Nat.reduceMod, k27, Nat.zero_add, Nat.add_zero, k28, k29, k30, Bool.and_self, Bool.and_true, Bool.true_and, and_self, and_true, true_and, k31, k32, Nat.le_refl, Nat.zero_le, k33, k34]
    refine hR3 _ ?_; clear hR3 R3
    refine AWp.cond (t := false) (by simp only [nilV, k25, k26, cmpCells, aops_nil, aops_cons, aopsK, gstep, gdOf, aop, aPure, pval, lenVal, lenV, sliceV, appV, binV, rd, loV, hiV, noLoc, noLocs, fillV, chunks, splice, mkBox, aStore, aLoad, aCall_eq, callK, aAppend, V.cells, V.isCell, V.ofVal, V.ofCell, Value.oneCell', St.eval, St.put, dstOk, upd, entryE, env, locs, tst, k00, k01, k02, k03, k04, k05, k06, k07, k08, k09, k10, k11, k12, k13, k14, k15, k16, k17, k18, k19, k20, k21, k22, k23, k24, ↓reduceIte, reduceCtorEq, Nat.reduceLT, Nat.reduceLeDiff, Nat.reduceEqDiff, Nat.reduceAdd, Nat.reduceMul, Nat.reduceSub, Nat.reducePow, Nat.reduceMod, k27, Nat.zero_add, Nat.add_zero, k28, k29, k30, Bool.and_self, Bool.and_true, Bool.true_and, and_self, and_true, true_and, k31, k32, Nat.le_refl, Nat.zero_le, k33, k34]) (fun h => by cases h) (fun _ => ?_)
    refine AWp.skip ?_
    refine hK2 _ ?_; clear hK2
    refine AWp.reg fun R4 hR4 => ?_
    simp only [ty9, ty28, nilV, k25, k26, cmpCells, aops_nil, aops_cons, aopsK, gstep, gdOf, aop, aPure, pval, lenVal, lenV, sliceV, appV, binV, rd, loV, hiV, noLoc, noLocs, fillV, chunks, splice, mkBox, aStore, aLoad, aCall_eq, callK, aAppend, V.cells, V.isCell, V.ofVal, V.ofCell, Value.oneCell', St.eval, St.put, dstOk, upd, entryE, env, locs, tst, k00, k01, k02, k03, k04, k05, k06, k07, k08, k09, k10, k11, k12, k13, k14, k15, k16, k17, k18, k19, k20, k21, k22, k23, k24, ↓reduceIte, reduceCtorEq, Nat.reduceLT, Nat.reduceLeDiff, Nat.reduceEqDiff, Nat.reduceAdd, Nat.reduceMul, Nat.reduceSub, Nat.reducePow, Nat.reduceMod, k27, Nat.zero_add, Nat.add_zero, k28, k29, k30, Bool.and_self, Bool.and_true, Bool.true_and, and_self, and_true, true_and, k31, k32, Nat.le_refl, Nat.zero_le, k33, k34]
    refine ⟨by simp only [List.length_cons] at hl ⊢; omega, by simp only [List.length_cons, maxLen] at hl ⊢; omega, fun g hg => ?_⟩
    refine hR4 _ ?_; clear hR4 R4
    refine AWp.ret ?_
    refine ret_intro (vs := [.own g 1 (e :: es)]) rfl (Wk.own _ _ _) (own_drop hg _) ⟨rfl, rfl⟩
theorem f73_spec (es : List (List V)) (hl : es.length ≤ 2^30) : Gives Tryz.prog 73 [.slice 1 es] (.slice 1 es) := by
  intro s
  cases es with
  | nil =>
    refine ACalls.empty fun ad cap => ?_
    cases ad with
    | none =>
      refine acalls_of (fn := Tryz.f73) Tryz.func73 rfl (by decide) (by show 1 ≤ 8; decide) ?_
      rw [Tryz.ntmps73]
      refine AWp.reg fun R1 hR1 => ?_
      simp only [nilV, k25, k26, cmpCells, aops_nil, aops_cons, aopsK, gstep, gdOf, aop, aPure, pval, lenVal, lenV, sliceV, appV, binV, rd, loV, hiV, noLoc, noLocs, fillV, chunks, splice, mkBox, aStore, aLoad, aCall_eq, callK, aAppend, V.cells, V.isCell, V.ofVal, V.ofCell, Value.oneCell', St.eval, St.put, dstOk, upd, entryE, env, locs, tst, k00, k01, k02, k03, k04, k05, k06, k07, k08, k09, k10, k11, k12, k13, k14, k15, k16, k17, k18, k19, k20, k21, k22, k23, k24, ↓reduceIte, reduceCtorEq, Nat.reduceLT, Nat.reduceLeDiff, Nat.reduceEqDiff, Nat.reduceAdd, Nat.reduceMul, Nat.reduceSub, Nat.reducePow, Nat.reduceMod, k27, Nat.zero_add, Nat.add_zero, k28, k29, k30, Bool.and_self, Bool.and_true, Bool.true_and, and_self, and_true, true_and, k31, k32, Nat.le_refl, Nat.zero_le, k33, k34]
      refine hR1 _ ?_; clear hR1 R1
      refine AWp.seq_k fun K2 hK2 => ?_
      refine AWp.reg fun R3 hR3 => ?_
      simp only [ty3, ty50, nilV, k25, k26, cmpCells, aops_nil, aops_cons, aopsK, gstep, gdOf, aop, aPure, pval, lenVal, lenV, sliceV, appV, binV, rd, loV, hiV, noLoc, noLocs, fillV, chunks, splice, mkBox, aStore, aLoad, aCall_eq, callK, aAppend, V.cells, V.isCell, V.ofVal, V.ofCell, Value.oneCell', St.eval, St.put, dstOk, upd, entryE, env, locs, tst, k00, k01, k02, k03, k04, k05, k06, k07, k08, k09, k10, k11, k12, k13, k14, k15, k16, k17, k18, k19, k20, k21, k22, k23, k24, ↓reduceIte, reduceCtorEq, Nat.reduceLT, Nat.reduceLeDiff, Nat.reduceEqDiff, Nat.reduceAdd, Nat.reduceMul, Nat.reduceSub, Nat.reducePow, Nat.reduceMod, k27, Nat.zero_add, Nat.add_zero, k28, k29, k30, Bool.and_self, Bool.and_true, Bool.true_and, and_self, and_true, true_and, k31, k32, Nat.le_refl, Nat.zero_le, k33, k34]
      refine hR3 _ ?_; clear hR3 R3
      refine AWp.cond (t := true) (by simp only [nilV, k25, k26, cmpCells, aops_nil, aops_cons, aopsK, gstep, gdOf, aop, aPure, pval, lenVal, lenV, sliceV, appV, binV, rd, loV, hiV, noLoc, noLocs, fillV, chunks, splice, mkBox, aStore, aLoad, aCall_eq, callK, aAppend, V.cells, V.isCell, V.ofVal, V.ofCell, Value.oneCell', St.eval, St.put, dstOk, upd, entryE, env, locs, tst, k00, k01, k02, k03, k04, k05, k06, k07, k08, k09, k10, k11, k12, k13, k14, k15, k16, k17, k18, k19, k20, k21, k22, k23, k24, ↓reduceIte, reduceCtorEq, Nat.reduceLT, Nat.reduceLeDiff, Nat.reduceEqDiff, Nat.reduceAdd, Nat.reduceMul, Nat.reduceSub, Nat.reducePow, Nat.reduceMod, k27, Nat.zero_add, Nat.add_zero, k28, k29, k30, Bool.and_self, Bool.and_true, Bool.true_and, and_self, and_true, true_and, k31, k32, Nat.le_refl, Nat.zero_le, k33, k34]) (fun _ => ?_) (fun h => by cases h)
      refine AWp.reg fun R4 hR4 => ?_
      simp only [nilV, k25, k26, cmpCells, aops_nil, aops_cons, aopsK, gstep, gdOf, aop, aPure, pval, lenVal, lenV, sliceV, appV, binV, rd, loV, hiV, noLoc, noLocs, fillV, chunks, splice, mkBox, aStore, aLoad, aCall_eq, callK, aAppend, V.cells, V.isCell, V.ofVal, V.ofCell, Value.oneCell', St.eval, St.put, dstOk, upd, entryE, env, locs, tst, k00, k01, k02, k03, k04, k05, k06, k07, k08, k09, k10, k11, k12, k13, k14, k15, k16, k17, k18, k19, k20, k21, k22, k23, k24, ↓reduceIte, reduceCtorEq, Nat.reduceLT, Nat.reduceLeDiff, Nat.reduceEqDiff, Nat.reduceAdd, Nat.reduceMul, Nat.reduceSub, Nat.reducePow, Nat.reduceMod, k27, Nat.zero_add, Nat.add_zero, k28, k29, k30, Bool.and_self, Bool.and_true, Bool.true_and, and_self, and_true, true_and, k31, k32, Nat.le_refl, Nat.zero_le, k33, k34]
      refine hR4 _ ?_; clear hR4 R4
      refine AWp.ret ?_
      refine ret_intro (vs := [.nil]) rfl (Wk.nil 1) (Heap.le.refl _) ⟨rfl, rfl⟩
    | some ad =>
      refine acalls_of (fn := Tryz.f73) Tryz.func73 rfl (by decide) (by show 1 ≤ 8; decide) ?_
      rw [Tryz.ntmps73]
      refine AWp.reg fun R1 hR1 => ?_
      simp only [nilV, k25, k26, cmpCells, aops_nil, aops_cons, aopsK, gstep, gdOf, aop, aPure, pval, lenVal, lenV, sliceV, appV, binV, rd, loV, hiV, noLoc, noLocs, fillV, chunks, splice, mkBox, aStore, aLoad, aCall_eq, callK, aAppend, V.cells, V.isCell, V.ofVal, V.ofCell, Value.oneCell', St.eval, St.put, dstOk, upd, entryE, env, locs, tst, k00, k01, k02, k03, k04, k05, k06, k07, k08, k09, k10, k11, k12, k13, k14, k15, k16, k17, k18, k19, k20, k21, k22, k23, k24, ↓reduceIte, reduceCtorEq, Nat.reduceLT, Nat.reduceLeDiff, Nat.reduceEqDiff, Nat.reduceAdd, Nat.reduceMul, Nat.reduceSub, Nat.reducePow, Nat.reduceMod, k27, Nat.zero_add, Nat.add_zero, k28, k29, k30, Bool.and_self, Bool.and_true, Bool.true_and, and_self, and_true, true_and, k31, k32, Nat.le_refl, Nat.zero_le, k33, k34]
      refine hR1 _ ?_; clear hR1 R1
      refine AWp.seq_k fun K2 hK2 => ?_
      refine AWp.reg fun R3 hR3 => ?_
      simp only [ty3, ty50, nilV, k25, k26, cmpCells, aops_nil, aops_cons, aopsK, gstep, gdOf, aop, aPure, pval, lenVal, lenV, sliceV, appV, binV, rd, loV, hiV, noLoc, noLocs, fillV, chunks, splice, mkBox, aStore, aLoad, aCall_eq, callK, aAppend, V.cells, V.isCell, V.ofVal, V.ofCell, Value.oneCell', St.eval, St.put, dstOk, upd, entryE, env, locs, tst, k00, k01, k02, k03, k04, k05, k06, k07, k08, k09, k10, k11, k12, k13, k14, k15, k16, k17, k18, k19, k20, k21, k22, k23, k24, ↓reduceIte, reduceCtorEq, Nat.reduceLT, Nat.reduceLeDiff, Nat.reduceEqDiff, Nat.reduceAdd, Nat.reduceMul, Nat.reduceSub, Nat.reducePow, Nat.reduceMod, k27, Nat.zero_add, Nat.add_zero, k28, k29, k30, Bool.and_self, Bool.and_true, Bool.true_and, and_self, and_true, true_and, k31, k32, Nat.le_refl, Nat.zero_le, k33, k34]
      refine hR3 _ ?_; clear hR3 R3
      refine AWp.cond (t := false) (by simp only [nilV, k25, k26, cmpCells, aops_nil, aops_cons, aopsK, gstep, gdOf, aop, aPure, pval, lenVal, lenV, sliceV, appV, binV, rd, loV, hiV, noLoc, noLocs, fillV, chunks, splice, mkBox, aStore, aLoad, aCall_eq, callK, aAppend, V.cells, V.isCell, V.ofVal, V.ofCell, Value.oneCell', St.eval, St.put, dstOk, upd, entryE, env, locs, tst, k00, k01, k02, k03, k04, k05, k06, k07, k08, k09, k10, k11, k12, k13, k14, k15, k16, k17, k18, k19, k20, k21, k22, k23, k24, ↓reduceIte, reduceCtorEq, Nat.reduceLT, Nat.reduceLeDiff, Nat.reduceEqDiff, Nat.reduceAdd, Nat.reduceMul, Nat.reduceSub, Nat.reducePow, Nat.reduceMod, k27, Nat.zero_add, Nat.add_zero, k28, k29, k30, Bool.and_self, Bool.and_true, Bool.true_and, and_self, and_true, true_and, k31, k32, Nat.le_refl, Nat.zero_le, k33, k34]) (fun h => by cases h) (fun _ => ?_)
      refine AWp.skip ?_
      refine hK2 _ ?_; clear hK2
      refine AWp.reg fun R4 hR4 => ?_
      simp only [ty3, ty50, nilV, k25, k26, cmpCells, aops_nil, aops_cons, aopsK, gstep, gdOf, aop, aPure, pval, lenVal, lenV, sliceV, appV, binV, rd, loV, hiV, noLoc, noLocs, fillV, chunks, splice, mkBox, aStore, aLoad, aCall_eq, callK, aAppend, V.cells, V.isCell, V.ofVal, V.ofCell, Value.oneCell', St.eval, St.put, dstOk, upd, entryE, env, locs, tst, k00, k01, k02, k03, k04, k05, k06, k07, k08, k09, k10, k11, k12, k13, k14, k15, k16, k17, k18, k19, k20, k21, k22, k23, k24, ↓reduceIte, reduceCtorEq, Nat.reduceLT, Nat.reduceLeDiff, Nat.reduceEqDiff, Nat.reduceAdd, Nat.reduceMul, Nat.reduceSub, Nat.reducePow, Nat.reduceMod, k27, Nat.zero_add, Nat.add_zero, k28, k29, k30, Bool.and_self, Bool.and_true, Bool.true_and, and_self, and_true, true_and, k31, k32, Nat.le_refl, Nat.zero_le, k33, k34]
      intro g hg
      refine hR4 _ ?_; clear hR4 R4
      refine AWp.ret ?_
      refine ret_intro (vs := [.own g 1 []]) rfl (Wk.own _ _ _) (own_drop hg _) ⟨rfl, rfl⟩
  | cons e es =>
    refine acalls_of (fn := Tryz.f73) Tryz.func73 rfl (by decide) (by show 1 ≤ 8; decide) ?_
    rw [Tryz.ntmps73]
    refine AWp.reg fun R1 hR1 => ?_
    simp only [nilV, k25, k26, cmpCells, aops_nil, aops_cons, aopsK, gstep, gdOf, aop, aPure, pval, lenVal, lenV, sliceV, appV, binV, rd, loV, hiV, noLoc, noLocs, fillV, chunks, splice, mkBox, aStore, aLoad, aCall_eq, callK, aAppend, V.cells, V.isCell, V.ofVal, V.ofCell, Value.oneCell', St.eval, St.put, dstOk, upd, entryE, env, locs, tst, k00, k01, k02, k03, k04, k05, k06, k07, k08, k09, k10, k11, k12, k13, k14, k15, k16, k17, k18, k19, k20, k21, k22, k23, k24, ↓reduceIte, reduceCtorEq, Nat.reduceLT, Nat.reduceLeDiff, Nat.reduceEqDiff, Nat.reduceAdd, Nat.reduceMul, Nat.reduceSub, Nat.reducePow, Nat.reduceMod, k27, Nat.zero_add, Nat.add_zero, k28, k29, k30, Bool.and_self, Bool.and_true, Bool.true_and, and_self, and_true, true_and, k31, k32, Nat.le_refl, Nat.zero_le, k33, k34]
    refine hR1 _ ?_; clear hR1 R1
    refine AWp.seq_k fun K2 hK2 => ?_
    refine AWp.reg fun R3 hR3 => ?_
    simp only [ty3, ty50, nilV, k25, k26, cmpCells, aops_nil, aops_cons, aopsK, gstep, gdOf, aop, aPure, pval, lenVal, lenV, sliceV, appV, binV, rd, loV, hiV, noLoc, noLocs, fillV, chunks, splice, mkBox, aStore, aLoad, aCall_eq, callK, aAppend, V.cells, V.isCell, V.ofVal, V.ofCell, Value.oneCell', St.eval, St.put, dstOk, upd, entryE, env, locs, tst, k00, k01, k02, k03, k04, k05, k06, k07, k08, k09, k10, k11, k12, k13, k14, k15, k16, k17, k18, k19, k20, k21, k22, k23, k24, ↓reduceIte, reduceCtorEq, Nat.reduceLT, Nat.reduceLeDiff, Nat.reduceEqDiff, Nat.reduceAdd, Nat.reduceMul, Nat.reduceSub, Nat.reducePow, Nat.reduceMod, k27, Nat.zero_add, Nat.add_zero, k28, k29, k30, Bool.and_self, Bool.and_true, Bool.true_and, and_self, and_true, true_and, k31, k32, Nat.le_refl, Nat.zero_le, k33, k34]
    refine hR3 _ ?_; clear hR3 R3
    refine AWp.cond (t := false) (by simp only [nilV, k25, k26, cmpCells, aops_nil, aops_cons, aopsK, gstep, gdOf, aop, aPure, pval, lenVal, lenV, sliceV, appV, binV, rd, loV, hiV, noLoc, noLocs, fillV, chunks, splice, mkBox, aStore, aLoad, aCall_eq, callK, aAppend, V.cells, V.isCell, V.ofVal, V.ofCell, Value.oneCell', St.eval, St.put, dstOk, upd, entryE, env, locs, tst, k00, k01, k02, k03, k04, k05, k06, k07, k08, k09, k10, k11, k12, k13, k14, k15, k16, k17, k18, k19, k20, k21, k22, k23, k24, ↓reduceIte, reduceCtorEq, Nat.reduceLT, Nat.reduceLeDiff, Nat.reduceEqDiff, Nat.reduceAdd, Nat.reduceMul, Nat.reduceSub, Nat.reducePow, Nat.reduceMod, k27, Nat.zero_add, Nat.add_zero, k28, k29, k30, Bool.and_self, Bool.and_true, Bool.true_and, and_self, and_true, true_and, k31, k32, Nat.le_refl, Nat.zero_le, k33, k34]) (fun h => by cases h) (fun _ => ?_)
    refine AWp.skip ?_
    refine hK2 _ ?_; clear hK2
    refine AWp.reg fun R4 hR4 => ?_
    simp only [ty3, ty50, nilV, k25, k26, cmpCells, aops_nil, aops_cons, aopsK, gstep, gdOf, aop, aPure, pval, lenVal, lenV, sliceV, appV, binV, rd, loV, hiV, noLoc, noLocs, fillV, chunks, splice, mkBox, aStore, aLoad, aCall_eq, callK, aAppend, V.cells, V.isCell, V.ofVal, V.ofCell, Value.oneCell', St.eval, St.put, dstOk, upd, entryE, env, locs, tst, k00, k01, k02, k03, k04, k05, k06, k07, k08, k09, k10, k11, k12, k13, k14, k15, k16, k17, k18, k19, k20, k21, k22, k23, k24, ↓reduceIte, reduceCtorEq, Nat.reduceLT, Nat.reduceLeDiff, Nat.reduceEqDiff, Nat.reduceAdd, Nat.reduceMul, Nat.reduceSub, Nat.reducePow, Nat.reduceMod, k27, Nat.zero_add, Nat.add_zero, k28, k29, k30, Bool.and_self, Bool.and_true, Bool.true_and, and_self, and_true, true_and, k31, k32, Nat.le_refl, Nat.zero_le, k33, k34]
    refine ⟨by simp only [List.length_cons] at hl ⊢; omega, by simp only [List.length_cons, maxLen] at hl ⊢; omega, fun g hg => ?_⟩
    refine hR4 _ ?_; clear hR4 R4
    refine AWp.ret ?_
    refine ret_intro (vs := [.own g 1 (e :: es)]) rfl (Wk.own _ _ _) (own_drop hg _) ⟨rfl, rfl⟩
theorem f84_spec (es : List (List V)) (hl : es.length ≤ 2^30) : Gives Tryz.prog 84 [.slice 3 es] (.slice 3 es) := by
  intro s
  cases es with
  | nil =>
    refine ACalls.empty fun ad cap => ?_
    cases ad with
    | none =>
      refine acalls_of (fn := Tryz.f84) Tryz.func84 rfl (by decide) (by show 1 ≤ 8; decide) ?_
      rw [Tryz.ntmps84]
      refine AWp.reg fun R1 hR1 => ?_
      simp only [nilV, k25, k26, cmpCells, aops_nil, aops_cons, aopsK, gstep, gdOf, aop, aPure, pval, lenVal, lenV, sliceV, appV, binV, rd, loV, hiV, noLoc, noLocs, fillV, chunks, splice, mkBox, aStore, aLoad, aCall_eq, callK, aAppend, V.cells, V.isCell, V.ofVal, V.ofCell, Value.oneCell', St.eval, St.put, dstOk, upd, entryE, env, locs, tst, k00, k01, k02, k03, k04, k05, k06, k07, k08, k09, k10, k11, k12, k13, k14, k15, k16, k17, k18, k19, k20, k21, k22, k23, k24, ↓reduceIte, reduceCtorEq, Nat.reduceLT, Nat.reduceLeDiff, Nat.reduceEqDiff, Nat.reduceAdd, Nat.reduceMul, Nat.reduceSub, Nat.reducePow, Nat.reduceMod, k27, Nat.zero_add, Nat.add_zero, k28, k29, k30, Bool.and_self, Bool.and_true, Bool.true_and, and_self, and_true, true_and, k31, k32, Nat.le_refl, Nat.zero_le, k33, k34]
      refine hR1 _ ?_; clear hR1 R1
      refine AWp.seq_k fun K2 hK2 => ?_
      refine AWp.reg fun R3 hR3 => ?_
      simp only [ty30, ty118, teq118, nilV, k25, k26, cmpCells, aops_nil, aops_cons, aopsK, gstep, gdOf, aop, aPure, pval, lenVal, lenV, sliceV, appV, binV, rd, loV, hiV, noLoc, noLocs, fillV, chunks, splice, mkBox, aStore, aLoad, aCall_eq, callK, aAppend, V.cells, V.isCell, V.ofVal, V.ofCell, Value.oneCell', St.eval, St.put, dstOk, upd, entryE, env, locs, tst, k00, k01, k02, k03, k04, k05, k06, k07, k08, k09, k10, k11, k12, k13, k14, k15, k16, k17, k18, k19, k20, k21, k22, k23, k24, ↓reduceIte, reduceCtorEq, Nat.reduceLT, Nat.reduceLeDiff, Nat.reduceEqDiff, Nat.reduceAdd, Nat.reduceMul, Nat.reduceSub, Nat.reducePow, Nat.reduceMod, k27, Nat.zero_add, Nat.add_zero, k28, k29, k30, Bool.and_self, Bool.and_true, Bool.true_and, and_self, and_true, true_and, k31, k32, Nat.le_refl, Nat.zero_le, k33, k34]
      refine hR3 _ ?_; clear hR3 R3
      refine AWp.cond (t := true) (by simp only [nilV, k25, k26, cmpCells, aops_nil, aops_cons, aopsK, gstep, gdOf, aop, aPure, pval, lenVal, lenV, sliceV, appV, binV, rd, loV, hiV, noLoc, noLocs, fillV, chunks, splice, mkBox, aStore, aLoad, aCall_eq, callK, aAppend, V.cells, V.isCell, V.ofVal, V.ofCell, Value.oneCell', St.eval, St.put, dstOk, upd, entryE, env, locs, tst, k00, k01, k02, k03, k04, k05, k06, k07, k08, k09, k10, k11, k12, k13, k14, k15, k16, k17, k18, k19, k20, k21, k22, k23, k24, ↓reduceIte, reduceCtorEq, Nat.reduceLT, Nat.reduceLeDiff, Nat.reduceEqDiff, Nat.reduceAdd, Nat.reduceMul, Nat.reduceSub, Nat.reducePow, Nat.reduceMod, k27, Nat.zero_add, Nat.add_zero, k28, k29, k30, Bool.and_self, Bool.and_true, Bool.true_and, and_self, and_true, true_and, k31, k32, Nat.le_refl, Nat.zero_le, k33, k34]) (fun _ => ?_) (fun h => by cases h)
      refine AWp.reg fun R4 hR4 => ?_
      simp only [nilV, k25, k26, cmpCells, aops_nil, aops_cons, aopsK, gstep, gdOf, aop, aPure, pval, lenVal, lenV, sliceV, appV, binV, rd, loV, hiV, noLoc, noLocs, fillV, chunks, splice, mkBox, aStore, aLoad, aCall_eq, callK, aAppend, V.cells, V.isCell, V.ofVal, V.ofCell, Value.oneCell', St.eval, St.put, dstOk, upd, entryE, env, locs, tst, k00, k01, k02, k03, k04, k05, k06, k07, k08, k09, k10, k11, k12, k13, k14, k15, k16, k17, k18, k19, k20, k21, k22, k23, k24, ↓reduceIte, reduceCtorEq, Nat.reduceLT, Nat.reduceLeDiff, Nat.reduceEqDiff, Nat.reduceAdd, Nat.reduceMul, Nat.reduceSub, Nat.reducePow, Nat.reduceMod, k27, Nat.zero_add, Nat.add_zero, k28, k29, k30, Bool.and_self, Bool.and_true, Bool.true_and, and_self, and_true, true_and, k31, k32, Nat.le_refl, Nat.zero_le, k33, k34]
      refine hR4 _ ?_; clear hR4 R4
      refine AWp.ret ?_
      refine ret_intro (vs := [.nil]) rfl (Wk.nil 3) (Heap.le.refl _) ⟨rfl, rfl⟩
    | some ad =>
      refine acalls_of (fn := Tryz.f84) Tryz.func84 rfl (by decide) (by show 1 ≤ 8; decide) ?_
      rw [Tryz.ntmps84]
      refine AWp.reg fun R1 hR1 => ?_
      simp only [nilV, k25, k26, cmpCells, aops_nil, aops_cons, aopsK, gstep, gdOf, aop, aPure, pval, lenVal, lenV, sliceV, appV, binV, rd, loV, hiV, noLoc, noLocs, fillV, chunks, splice, mkBox, aStore, aLoad, aCall_eq, callK, aAppend, V.cells, V.isCell, V.ofVal, V.ofCell, Value.oneCell', St.eval, St.put, dstOk, upd, entryE, env, locs, tst, k00, k01, k02, k03, k04, k05, k06, k07, k08, k09, k10, k11, k12, k13, k14, k15, k16, k17, k18, k19, k20, k21, k22, k23, k24, ↓reduceIte, reduceCtorEq, Nat.reduceLT, Nat.reduceLeDiff, Nat.reduceEqDiff, Nat.reduceAdd, Nat.reduceMul, Nat.reduceSub, Nat.reducePow, Nat.reduceMod, k27, Nat.zero_add, Nat.add_zero, k28, k29, k30, Bool.and_self, Bool.and_true, Bool.true_and, and_self, and_true, true_and, k31, k32, Nat.le_refl, Nat.zero_le, k33, k34]
      refine hR1 _ ?_; clear hR1 R1
      refine AWp.seq_k fun K2 hK2 => ?_
      refine AWp.reg fun R3 hR3 => ?_
      simp only [ty30, ty118, teq118, nilV, k25, k26, cmpCells, aops_nil, aops_cons, aopsK, gstep, gdOf, aop, aPure, pval, lenVal, lenV, sliceV, appV, binV, rd, loV, hiV, noLoc, noLocs, fillV, chunks, splice, mkBox, aStore, aLoad, aCall_eq, callK, aAppend, V.cells, V.isCell, V.ofVal, V.ofCell, Value.oneCell', St.eval, St.put, dstOk, upd, entryE, env, locs, tst, k00, k01, k02, k03, k04, k05, k06, k07, k08, k09, k10, k11, k12, k13, k14, k15, k16, k17, k18, k19, k20, k21, k22, k23, k24, ↓reduceIte, reduceCtorEq, Nat.reduceLT, Nat.reduceLeDiff, Nat.reduceEqDiff, Nat.reduceAdd, Nat.reduceMul, Nat.reduceSub, Nat.reducePow, Nat.reduceMod, k27, Nat.zero_add, Nat.add_zero, k28, k29, k30, Bool.and_self, Bool.and_true, Bool.true_and, and_self, and_true, true_and, k31, k32, Nat.le_refl, Nat.zero_le, k33, k34]
      refine hR3 _ ?_; clear hR3 R3
      refine AWp.cond (t := false) (by simp only [nilV, k25, k26, cmpCells, aops_nil, aops_cons, aopsK, gstep, gdOf, aop, aPure, pval, lenVal, lenV, sliceV, appV, binV, rd, loV, hiV, noLoc, noLocs, fillV, chunks, splice, mkBox, aStore, aLoad, aCall_eq, callK, aAppend, V.cells, V.isCell, V.ofVal, V.ofCell, Value.oneCell', St.eval, St.put, dstOk, upd, entryE, env, locs, tst, k00, k01, k02, k03, k04, k05, k06, k07, k08, k09, k10, k11, k12, k13, k14, k15, k16, k17, k18, k19, k20, k21, k22, k23, k24, ↓reduceIte, reduceCtorEq, Nat.reduceLT, Nat.reduceLeDiff, Nat.reduceEqDiff, Nat.reduceAdd, Nat.reduceMul, Nat.reduceSub, Nat.reducePow, Nat.reduceMod, k27, Nat.zero_add, Nat.add_zero, k28, k29, k30, Bool.and_self, Bool.and_true, Bool.true_and, and_self, and_true, true_and, k31, k32, Nat.le_refl, Nat.zero_le, k33, k34]) (fun h => by cases h) (fun _ => ?_)
      refine AWp.skip ?_
      refine hK2 _ ?_; clear hK2
      refine AWp.reg fun R4 hR4 => ?_
      simp only [ty30, ty118, teq118, nilV, k25, k26, cmpCells, aops_nil, aops_cons, aopsK, gstep, gdOf, aop, aPure, pval, lenVal, lenV, sliceV, appV, binV, rd, loV, hiV, noLoc, noLocs, fillV, chunks, splice, mkBox, aStore, aLoad, aCall_eq, callK, aAppend, V.cells, V.isCell, V.ofVal, V.ofCell, Value.oneCell', St.eval, St.put, dstOk, upd, entryE, env, locs, tst, k00, k01, k02, k03, k04, k05, k06, k07, k08, k09, k10, k11, k12, k13, k14, k15, k16, k17, k18, k19, k20, k21, k22, k23, k24, ↓reduceIte, reduceCtorEq, Nat.reduceLT, Nat.reduceLeDiff, Nat.reduceEqDiff, Nat.reduceAdd, Nat.reduceMul, Nat.reduceSub, Nat.reducePow, Nat.reduceMod, k27, Nat.zero_add, Nat.add_zero, k28, k29, k30, Bool.and_self, Bool.and_true, Bool.true_and, and_self, and_true, true_and, k31, k32, Nat.le_refl, Nat.zero_le, k33, k34]
      intro g hg
      refine hR4 _ ?_; clear hR4 R4
      refine AWp.ret ?_
      refine ret_intro (vs := [.own g 3 []]) rfl (Wk.own _ _ _) (own_drop hg _) ⟨rfl, rfl⟩
  | cons e es =>
    refine acalls_of (fn := Tryz.f84) Tryz.func84 rfl (by decide) (by show 1 ≤ 8; decide) ?_
    rw [Tryz.ntmps84]
    refine AWp.reg fun R1 hR1 => ?_
    simp only [nilV, k25, k26, cmpCells, aops_nil, aops_cons, aopsK, gstep, gdOf, aop, aPure, pval, lenVal, lenV, sliceV, appV, binV, rd, loV, hiV, noLoc, noLocs, fillV, chunks, splice, mkBox, aStore, aLoad, aCall_eq, callK, aAppend, V.cells, V.isCell, V.ofVal, V.ofCell, Value.oneCell', St.eval, St.put, dstOk, upd, entryE, env, locs, tst, k00, k01, k02, k03, k04, k05, k06, k07, k08, k09, k10, k11, k12, k13, k14, k15, k16, k17, k18, k19, k20, k21, k22, k23, k24, ↓reduceIte, reduceCtorEq, Nat.reduceLT, Nat.reduceLeDiff, Nat.reduceEqDiff, Nat.reduceAdd, Nat.reduceMul, Nat.reduceSub, Nat.reducePow, Nat.reduceMod, k27, Nat.zero_add, Nat.add_zero, k28, k29, k30, Bool.and_self, Bool.and_true, Bool.true_and, and_self, and_true, true_and, k31, k32, Nat.le_refl, Nat.zero_le, k33, k34]
    refine hR1 _ ?_; clear hR1 R1
    refine AWp.seq_k fun K2 hK2 => ?_
    refine AWp.reg fun R3 hR3 => ?_
    simp only [ty30, ty118, teq118, nilV, k25, k26, cmpCells, aops_nil, aops_cons, aopsK, gstep, gdOf, aop, aPure, pval, lenVal, lenV, sliceV, appV, binV, rd, loV, hiV, noLoc, noLocs, fillV, chunks, splice, mkBox, aStore, aLoad, aCall_eq, callK, aAppend, V.cells, V.isCell, V.ofVal, V.ofCell, Value.oneCell', St.eval, St.put, dstOk, upd, entryE, env, locs, tst, k00, k01, k02, k03, k04, k05, k06, k07, k08, k09, k10, k11, k12, k13, k14, k15, k16, k17, k18, k19, k20, k21, k22, k23, k24, ↓reduceIte, reduceCtorEq, Nat.reduceLT, Nat.reduceLeDiff, Nat.reduceEqDiff, Nat.reduceAdd, Nat.reduceMul, Nat.reduceSub, Nat.reducePow, Nat.reduceMod, k27, Nat.zero_add, Nat.add_zero, k28, k29, k30, Bool.and_self, Bool.and_true, Bool.true_and, and_self, and_true, true_and, k31, k32, Nat.le_refl, Nat.zero_le, k33, k34]
    refine hR3 _ ?_; clear hR3 R3
    refine AWp.cond (t := false) (by simp only [nilV, k25, k26, cmpCells, aops_nil, aops_cons, aopsK, gstep, gdOf, aop, aPure, pval, lenVal, lenV, sliceV, appV, binV, rd, loV, hiV, noLoc, noLocs, fillV, chunks, splice, mkBox, aStore, aLoad, aCall_eq, callK, aAppend, V.cells, V.isCell, V.ofVal, V.ofCell, Value.oneCell', St.eval, St.put, dstOk, upd, entryE, env, locs, tst, k00, k01, k02, k03, k04, k05, k06, k07, k08, k09, k10, k11, k12, k13, k14, k15, k16, k17, k18, k19, k20, k21, k22, k23, k24, ↓reduceIte, reduceCtorEq, Nat.reduceLT, Nat.reduceLeDiff, Nat.reduceEqDiff, Nat.reduceAdd, Nat.reduceMul, Nat.reduceSub, Nat.reducePow, Nat.reduceMod, k27, Nat.zero_add, Nat.add_zero, k28, k29, k30, Bool.and_self, Bool.and_true, Bool.true_and, and_self, and_true, true_and, k31, k32, Nat.le_refl, Nat.zero_le, k33, k34]) (fun h => by cases h) (fun _ => ?_)
    refine AWp.skip ?_
    refine hK2 _ ?_; clear hK2
    refine AWp.reg fun R4 hR4 => ?_
    simp only [ty30, ty118, teq118, nilV, k25, k26, cmpCells, aops_nil, aops_cons, aopsK, gstep, gdOf, aop, aPure, pval, lenVal, lenV, sliceV, appV, binV, rd, loV, hiV, noLoc, noLocs, fillV, chunks, splice, mkBox, aStore, aLoad, aCall_eq, callK, aAppend, V.cells, V.isCell, V.ofVal, V.ofCell, Value.oneCell', St.eval, St.put, dstOk, upd, entryE, env, locs, tst, k00, k01, k02, k03, k04, k05, k06, k07, k08, k09, k10, k11, k12, k13, k14, k15, k16, k17, k18, k19, k20, k21, k22, k23, k24, ↓reduceIte, reduceCtorEq, Nat.reduceLT, Nat.reduceLeDiff, Nat.reduceEqDiff, Nat.reduceAdd, Nat.reduceMul, Nat.reduceSub, Nat.reducePow, Nat.reduceMod, k27, Nat.zero_add, Nat.add_zero, k28, k29, k30, Bool.and_self, Bool.and_true, Bool.true_and, and_self, and_true, true_and, k31, k32, Nat.le_refl, Nat.zero_le, k33, k34]
    refine ⟨by simp only [List.length_cons] at hl ⊢; omega, by simp only [List.length_cons, maxLen] at hl ⊢; omega, fun g hg => ?_⟩
    refine hR4 _ ?_; clear hR4 R4
    refine AWp.ret ?_
    refine ret_intro (vs := [.own g 3 (e :: es)]) rfl (Wk.own _ _ _) (own_drop hg _) ⟨rfl, rfl⟩
end Go.Proofs.YtcckhbconihagaaGreatDoor
