/- Lists compared element by element. -/
import Derived.Test.YtcckhbconihagaaGreatDoorPlUse
set_option linter.unusedSimpArgs false
set_option linter.unusedVariables false
set_option maxRecDepth 100000
namespace Go.Proofs.YtcckhbconihagaaGreatDoor
open Go.Am Go.Pl
theorem f57_spec (la lb : List Term) (hc : ∀ a ∈ la, ∀ b, Gives Tryz.prog 101 [.agg a.v, .agg b.v] (vbool (same a b))) : Gives Tryz.prog 57 [.slice 14 (la.map Term.v), .slice 14 (lb.map Term.v)] (vbool (same la lb)) := by
  intro s
  refine acalls_of (fn := Tryz.f57) Tryz.func57 rfl (by decide) (by show 2 ≤ 27; decide) ?_
  rw [Tryz.ntmps57]
  refine AWp.reg fun R1 hR1 => ?_
  simp only [nilV, k25, k26, cmpCells, aops_nil, aops_cons, aopsK, gstep, gdOf, aop, aPure, pval, lenVal, lenV, sliceV, appV, binV, rd, loV, hiV, noLoc, noLocs, fillV, chunks, splice, mkBox, aStore, aLoad, aCall_eq, callK, aAppend, V.cells, V.isCell, V.ofVal, V.ofCell, Value.oneCell', St.eval, St.put, dstOk, upd, entryE, env, locs, tst, k00, k01, k02, k03, k04, k05, k06, k07, k08, k09, k10, k11, k12, k13, k14, k15, k16, k17, k18, k19, k20, k21, k22, k23, k24, ↓reduceIte, reduceCtorEq, Nat.reduceLT, Nat.reduceLeDiff, Nat.reduceEqDiff, Nat.reduceAdd, Nat.reduceMul, Nat.reduceSub, Nat.reducePow, Nat.reduceMod, k27, Nat.zero_add, Nat.add_zero, k28, k29, k30, Bool.and_self, Bool.and_true, Bool.true_and, and_self, and_true, true_and, k31, k32, Nat.le_refl, Nat.zero_le, k33, k34]
  refine hR1 _ ?_; clear hR1 R1
  refine AWp.seq_k fun K2 hK2 => ?_
  refine AWp.reg fun R3 hR3 => ?_
  simp only [ty3, ty31, ty49, nilV, k25, k26, cmpCells, aops_nil, aops_cons, aopsK, gstep, gdOf, aop, aPure, pval, lenVal, lenV, sliceV, appV, binV, rd, loV, hiV, noLoc, noLocs, fillV, chunks, splice, mkBox, aStore, aLoad, aCall_eq, callK, aAppend, V.cells, V.isCell, V.ofVal, V.ofCell, Value.oneCell', St.eval, St.put, dstOk, upd, entryE, env, locs, tst, k00, k01, k02, k03, k04, k05, k06, k07, k08, k09, k10, k11, k12, k13, k14, k15, k16, k17, k18, k19, k20, k21, k22, k23, k24, ↓reduceIte, reduceCtorEq, Nat.reduceLT, Nat.reduceLeDiff, Nat.reduceEqDiff, Nat.reduceAdd, Nat.reduceMul, Nat.reduceSub, Nat.reducePow, Nat.reduceMod, k27, Nat.zero_add, Nat.add_zero, k28, k29, k30, Bool.and_self, Bool.and_true, Bool.true_and, and_self, and_true, true_and, k31, k32, Nat.le_refl, Nat.zero_le, k33, k34]
  refine hR3 _ ?_; clear hR3 R3
  refine AWp.cond (t := ((la.length : Int) != lb.length)) (by simp only [nilV, k25, k26, cmpCells, aops_nil, aops_cons, aopsK, gstep, gdOf, aop, aPure, pval, lenVal, lenV, sliceV, appV, binV, rd, loV, hiV, noLoc, noLocs, fillV, chunks, splice, mkBox, aStore, aLoad, aCall_eq, callK, aAppend, V.cells, V.isCell, V.ofVal, V.ofCell, Value.oneCell', St.eval, St.put, dstOk, upd, entryE, env, locs, tst, k00, k01, k02, k03, k04, k05, k06, k07, k08, k09, k10, k11, k12, k13, k14, k15, k16, k17, k18, k19, k20, k21, k22, k23, k24, ↓reduceIte, reduceCtorEq, Nat.reduceLT, Nat.reduceLeDiff, Nat.reduceEqDiff, Nat.reduceAdd, Nat.reduceMul, Nat.reduceSub, Nat.reducePow, Nat.reduceMod, k27, Nat.zero_add, Nat.add_zero, k28, k29, k30, Bool.and_self, Bool.and_true, Bool.true_and, and_self, and_true, true_and, k31, k32, Nat.le_refl, Nat.zero_le, k33, k34]) (fun ht => ?_) (fun ht => ?_)
  · have hne : la.length ≠ lb.length := by have := bne_iff_ne.1 ht; omega
    refine AWp.reg fun R4 hR4 => ?_
    simp only [nilV, k25, k26, cmpCells, aops_nil, aops_cons, aopsK, gstep, gdOf, aop, aPure, pval, lenVal, lenV, sliceV, appV, binV, rd, loV, hiV, noLoc, noLocs, fillV, chunks, splice, mkBox, aStore, aLoad, aCall_eq, callK, aAppend, V.cells, V.isCell, V.ofVal, V.ofCell, Value.oneCell', St.eval, St.put, dstOk, upd, entryE, env, locs, tst, k00, k01, k02, k03, k04, k05, k06, k07, k08, k09, k10, k11, k12, k13, k14, k15, k16, k17, k18, k19, k20, k21, k22, k23, k24, ↓reduceIte, reduceCtorEq, Nat.reduceLT, Nat.reduceLeDiff, Nat.reduceEqDiff, Nat.reduceAdd, Nat.reduceMul, Nat.reduceSub, Nat.reducePow, Nat.reduceMod, k27, Nat.zero_add, Nat.add_zero, k28, k29, k30, Bool.and_self, Bool.and_true, Bool.true_and, and_self, and_true, true_and, k31, k32, Nat.le_refl, Nat.zero_le, k33, k34]
    refine hR4 _ ?_; clear hR4 R4
    refine AWp.ret ?_
    refine ret_intro (vs := [.base (.bool false)]) rfl (Wk.refl _) (Heap.le.refl _) ⟨?_, rfl⟩
    rw [same_false.2 (fun e => hne (by rw [e]))]; rfl
  · have hlen : la.length = lb.length := by have := (bne_eq_false_iff_eq).1 ht; omega
    refine AWp.skip ?_
    refine hK2 _ ?_; clear hK2
    refine AWp.seq_k fun K5 hK5 => ?_
    refine AWp.reg fun R6 hR6 => ?_
    simp only [nilV, k25, k26, cmpCells, aops_nil, aops_cons, aopsK, gstep, gdOf, aop, aPure, pval, lenVal, lenV, sliceV, appV, binV, rd, loV, hiV, noLoc, noLocs, fillV, chunks, splice, mkBox, aStore, aLoad, aCall_eq, callK, aAppend, V.cells, V.isCell, V.ofVal, V.ofCell, Value.oneCell', St.eval, St.put, dstOk, upd, entryE, env, locs, tst, k00, k01, k02, k03, k04, k05, k06, k07, k08, k09, k10, k11, k12, k13, k14, k15, k16, k17, k18, k19, k20, k21, k22, k23, k24, ↓reduceIte, reduceCtorEq, Nat.reduceLT, Nat.reduceLeDiff, Nat.reduceEqDiff, Nat.reduceAdd, Nat.reduceMul, Nat.reduceSub, Nat.reducePow, Nat.reduceMod, k27, Nat.zero_add, Nat.add_zero, k28, k29, k30, Bool.and_self, Bool.and_true, Bool.true_and, and_self, and_true, true_and, k31, k32, Nat.le_refl, Nat.zero_le, k33, k34]
    refine hR6 _ ?_; clear hR6 R6
    refine AWp.block ?_
    refine AWp.slen 0 (sz := 14) (es := la.map Term.v) (by simp only [nilV, k25, k26, cmpCells, aops_nil, aops_cons, aopsK, gstep, gdOf, aop, aPure, pval, lenVal, lenV, sliceV, appV, binV, rd, loV, hiV, noLoc, noLocs, fillV, chunks, splice, mkBox, aStore, aLoad, aCall_eq, callK, aAppend, V.cells, V.isCell, V.ofVal, V.ofCell, Value.oneCell', St.eval, St.put, dstOk, upd, entryE, env, locs, tst, k00, k01, k02, k03, k04, k05, k06, k07, k08, k09, k10, k11, k12, k13, k14, k15, k16, k17, k18, k19, k20, k21, k22, k23, k24, ↓reduceIte, reduceCtorEq, Nat.reduceLT, Nat.reduceLeDiff, Nat.reduceEqDiff, Nat.reduceAdd, Nat.reduceMul, Nat.reduceSub, Nat.reducePow, Nat.reduceMod, k27, Nat.zero_add, Nat.add_zero, k28, k29, k30, Bool.and_self, Bool.and_true, Bool.true_and, and_self, and_true, true_and, k31, k32, Nat.le_refl, Nat.zero_le, k33, k34]) fun hmax => ?_
    have hmx := maxLen_lt; rw [List.length_map] at hmax
    refine AWp.loopT (ι := Nat) (fun i => i ≤ la.length ∧ la.take i = lb.take i) (fun i => tst [(0, .slice 14 (la.map Term.v)), (1, .slice 14 (lb.map Term.v)), (5, vint i)] [] s 27) (fun i => la.length - i) 0 ⟨⟨Nat.zero_le _, by simp⟩, ?_⟩ ?_
    · refine le_tst ?_ ?_ ?_ (Heap.le.refl _) rfl
      · simp only [leE, nilV, k25, k26, cmpCells, aops_nil, aops_cons, aopsK, gstep, gdOf, aop, aPure, pval, lenVal, lenV, sliceV, appV, binV, rd, loV, hiV, noLoc, noLocs, fillV, chunks, splice, mkBox, aStore, aLoad, aCall_eq, callK, aAppend, V.cells, V.isCell, V.ofVal, V.ofCell, Value.oneCell', St.eval, St.put, dstOk, upd, entryE, env, locs, tst, k00, k01, k02, k03, k04, k05, k06, k07, k08, k09, k10, k11, k12, k13, k14, k15, k16, k17, k18, k19, k20, k21, k22, k23, k24, ↓reduceIte, reduceCtorEq, Nat.reduceLT, Nat.reduceLeDiff, Nat.reduceEqDiff, Nat.reduceAdd, Nat.reduceMul, Nat.reduceSub, Nat.reducePow, Nat.reduceMod, k27, Nat.zero_add, Nat.add_zero, k28, k29, k30, Bool.and_self, Bool.and_true, Bool.true_and, and_self, and_true, true_and, k31, k32, Nat.le_refl, Nat.zero_le, k33, k34]; simp
      · simp only [okL, and_self]
      · simp only [leB]
    · rintro i ⟨hi, hno⟩
      refine AWp.seq_k fun K7 hK7 => ?_
      refine AWp.reg fun R8 hR8 => ?_
      simp only [ty3, ty31, ty49, nilV, k25, k26, cmpCells, aops_nil, aops_cons, aopsK, gstep, gdOf, aop, aPure, pval, lenVal, lenV, sliceV, appV, binV, rd, loV, hiV, noLoc, noLocs, fillV, chunks, splice, mkBox, aStore, aLoad, aCall_eq, callK, aAppend, V.cells, V.isCell, V.ofVal, V.ofCell, Value.oneCell', St.eval, St.put, dstOk, upd, entryE, env, locs, tst, k00, k01, k02, k03, k04, k05, k06, k07, k08, k09, k10, k11, k12, k13, k14, k15, k16, k17, k18, k19, k20, k21, k22, k23, k24, ↓reduceIte, reduceCtorEq, Nat.reduceLT, Nat.reduceLeDiff, Nat.reduceEqDiff, Nat.reduceAdd, Nat.reduceMul, Nat.reduceSub, Nat.reducePow, Nat.reduceMod, k27, Nat.zero_add, Nat.add_zero, k28, k29, k30, Bool.and_self, Bool.and_true, Bool.true_and, and_self, and_true, true_and, k31, k32, Nat.le_refl, Nat.zero_le, k33, k34]
      refine hR8 _ ?_; clear hR8 R8
      refine AWp.cond (t := decide ((i:Int) < la.length)) (by simp only [nilV, k25, k26, cmpCells, aops_nil, aops_cons, aopsK, gstep, gdOf, aop, aPure, pval, lenVal, lenV, sliceV, appV, binV, rd, loV, hiV, noLoc, noLocs, fillV, chunks, splice, mkBox, aStore, aLoad, aCall_eq, callK, aAppend, V.cells, V.isCell, V.ofVal, V.ofCell, Value.oneCell', St.eval, St.put, dstOk, upd, entryE, env, locs, tst, k00, k01, k02, k03, k04, k05, k06, k07, k08, k09, k10, k11, k12, k13, k14, k15, k16, k17, k18, k19, k20, k21, k22, k23, k24, ↓reduceIte, reduceCtorEq, Nat.reduceLT, Nat.reduceLeDiff, Nat.reduceEqDiff, Nat.reduceAdd, Nat.reduceMul, Nat.reduceSub, Nat.reducePow, Nat.reduceMod, k27, Nat.zero_add, Nat.add_zero, k28, k29, k30, Bool.and_self, Bool.and_true, Bool.true_and, and_self, and_true, true_and, k31, k32, Nat.le_refl, Nat.zero_le, k33, k34]) (fun ht => ?_) (fun ht => ?_)
      · have hlt : i < la.length := lt_of_dec ht
        have hlt' : i < lb.length := by omega
        have ix0 : (0 ≤ (i : Int)) = True := by simp
        have ix1 : ((i : Int) < (la.length : Int)) = True := by simp [hlt]
        have ix2 : ((i : Int) < (lb.length : Int)) = True := by simp [hlt']
        refine AWp.skip ?_
        refine hK7 _ ?_; clear hK7
        refine AWp.seq_k fun K9 hK9 => ?_
        refine AWp.block ?_
        refine AWp.regL mixed [0, 1, 2, 3, 4, 5, 6, 7, 8, 9] (by decide +kernel) [] (by decide +kernel) fun R10 hR10 => ?_
        simp only [ix0, ix1, ix2, true_and, getD_map _ _ _ hlt, getD_map _ _ _ hlt', Term.v_eq, ty31, ty49, aopsL_nil, aopsL_cons, aopsLK, gstepL, dcond, List.filterMap_cons, List.filterMap_nil, List.contains_cons, List.contains_nil, Nat.reduceBEq, Bool.or_self, Bool.false_or, Bool.or_false, nilV, k25, k26, cmpCells, aops_nil, aops_cons, aopsK, gstep, gdOf, aop, aPure, pval, lenVal, lenV, sliceV, appV, binV, rd, loV, hiV, noLoc, noLocs, fillV, chunks, splice, mkBox, aStore, aLoad, aCall_eq, callK, aAppend, V.cells, V.isCell, V.ofVal, V.ofCell, Value.oneCell', St.eval, St.put, dstOk, upd, entryE, env, locs, tst, k00, k01, k02, k03, k04, k05, k06, k07, k08, k09, k10, k11, k12, k13, k14, k15, k16, k17, k18, k19, k20, k21, k22, k23, k24, ↓reduceIte, reduceCtorEq, Nat.reduceLT, Nat.reduceLeDiff, Nat.reduceEqDiff, Nat.reduceAdd, Nat.reduceMul, Nat.reduceSub, Nat.reducePow, Nat.reduceMod, k27, Nat.zero_add, Nat.add_zero, k28, k29, k30, Bool.and_self, Bool.and_true, Bool.true_and, and_self, and_true, true_and, k31, k32, Nat.le_refl, Nat.zero_le, k33, k34]
        rw [← Term.v_eq, ← Term.v_eq]
        refine (hc la[i] (List.getElem_mem hlt) lb[i] _).mono fun v' s' h => ?_
        rw [h.1, h.2]; clear h v' s'
        simp only [vbool, ix0, ix1, ix2, true_and, getD_map _ _ _ hlt, getD_map _ _ _ hlt', Term.v_eq, ty31, ty49, aopsL_nil, aopsL_cons, aopsLK, gstepL, dcond, List.filterMap_cons, List.filterMap_nil, List.contains_cons, List.contains_nil, Nat.reduceBEq, Bool.or_self, Bool.false_or, Bool.or_false, nilV, k25, k26, cmpCells, aops_nil, aops_cons, aopsK, gstep, gdOf, aop, aPure, pval, lenVal, lenV, sliceV, appV, binV, rd, loV, hiV, noLoc, noLocs, fillV, chunks, splice, mkBox, aStore, aLoad, aCall_eq, callK, aAppend, V.cells, V.isCell, V.ofVal, V.ofCell, Value.oneCell', St.eval, St.put, dstOk, upd, entryE, env, locs, tst, k00, k01, k02, k03, k04, k05, k06, k07, k08, k09, k10, k11, k12, k13, k14, k15, k16, k17, k18, k19, k20, k21, k22, k23, k24, ↓reduceIte, reduceCtorEq, Nat.reduceLT, Nat.reduceLeDiff, Nat.reduceEqDiff, Nat.reduceAdd, Nat.reduceMul, Nat.reduceSub, Nat.reducePow, Nat.reduceMod, k27, Nat.zero_add, Nat.add_zero, k28, k29, k30, Bool.and_self, Bool.and_true, Bool.true_and, and_self, and_true, true_and, k31, k32, Nat.le_refl, Nat.zero_le, k33, k34]
        refine hR10 _ ?_; clear hR10 R10
        refine AWp.cond (t := !same la[i] lb[i]) (by simp only [nilV, k25, k26, cmpCells, aops_nil, aops_cons, aopsK, gstep, gdOf, aop, aPure, pval, lenVal, lenV, sliceV, appV, binV, rd, loV, hiV, noLoc, noLocs, fillV, chunks, splice, mkBox, aStore, aLoad, aCall_eq, callK, aAppend, V.cells, V.isCell, V.ofVal, V.ofCell, Value.oneCell', St.eval, St.put, dstOk, upd, entryE, env, locs, tst, k00, k01, k02, k03, k04, k05, k06, k07, k08, k09, k10, k11, k12, k13, k14, k15, k16, k17, k18, k19, k20, k21, k22, k23, k24, ↓reduceIte, reduceCtorEq, Nat.reduceLT, Nat.reduceLeDiff, Nat.reduceEqDiff, Nat.reduceAdd, Nat.reduceMul, Nat.reduceSub, Nat.reducePow, Nat.reduceMod, k27, Nat.zero_add, Nat.add_zero, k28, k29, k30, Bool.and_self, Bool.and_true, Bool.true_and, and_self, and_true, true_and, k31, k32, Nat.le_refl, Nat.zero_le, k33, k34]) (fun ht => ?_) (fun ht => ?_)
        · have hne : la[i] ≠ lb[i] := fun e => by rw [e] at ht; simp [same_self] at ht
          refine AWp.reg fun R11 hR11 => ?_
          simp only [nilV, k25, k26, cmpCells, aops_nil, aops_cons, aopsK, gstep, gdOf, aop, aPure, pval, lenVal, lenV, sliceV, appV, binV, rd, loV, hiV, noLoc, noLocs, fillV, chunks, splice, mkBox, aStore, aLoad, aCall_eq, callK, aAppend, V.cells, V.isCell, V.ofVal, V.ofCell, Value.oneCell', St.eval, St.put, dstOk, upd, entryE, env, locs, tst, k00, k01, k02, k03, k04, k05, k06, k07, k08, k09, k10, k11, k12, k13, k14, k15, k16, k17, k18, k19, k20, k21, k22, k23, k24, ↓reduceIte, reduceCtorEq, Nat.reduceLT, Nat.reduceLeDiff, Nat.reduceEqDiff, Nat.reduceAdd, Nat.reduceMul, Nat.reduceSub, Nat.reducePow, Nat.reduceMod, k27, Nat.zero_add, Nat.add_zero, k28, k29, k30, Bool.and_self, Bool.and_true, Bool.true_and, and_self, and_true, true_and, k31, k32, Nat.le_refl, Nat.zero_le, k33, k34]
          refine hR11 _ ?_; clear hR11 R11
          refine AWp.ret ?_
          refine ret_intro (vs := [.base (.bool false)]) rfl (Wk.refl _) (Heap.le.refl _) ⟨?_, rfl⟩
          rw [same_false.2 (fun e => hne (by simp only [e]))]; rfl
        · have he : la[i] = lb[i] := same_iff.1 (by simpa using ht)
          refine AWp.skip ?_
          refine hK9 _ ?_; clear hK9
          refine AWp.reg1 fun R12 hR12 => ?_
          simp only [ty3, nilV, k25, k26, cmpCells, aops_nil, aops_cons, aopsK, gstep, gdOf, aop, aPure, pval, lenVal, lenV, sliceV, appV, binV, rd, loV, hiV, noLoc, noLocs, fillV, chunks, splice, mkBox, aStore, aLoad, aCall_eq, callK, aAppend, V.cells, V.isCell, V.ofVal, V.ofCell, Value.oneCell', St.eval, St.put, dstOk, upd, entryE, env, locs, tst, k00, k01, k02, k03, k04, k05, k06, k07, k08, k09, k10, k11, k12, k13, k14, k15, k16, k17, k18, k19, k20, k21, k22, k23, k24, ↓reduceIte, reduceCtorEq, Nat.reduceLT, Nat.reduceLeDiff, Nat.reduceEqDiff, Nat.reduceAdd, Nat.reduceMul, Nat.reduceSub, Nat.reducePow, Nat.reduceMod, k27, Nat.zero_add, Nat.add_zero, k28, k29, k30, Bool.and_self, Bool.and_true, Bool.true_and, and_self, and_true, true_and, k31, k32, Nat.le_refl, Nat.zero_le, k33, k34]
          refine hR12 _ ?_; clear hR12 R12
          refine ⟨i + 1, ⟨⟨hlt, take_succ_eq hno hlt hlt' he⟩, by omega⟩, ?_⟩
          refine le_tst ?_ ?_ ?_ (Heap.le.refl _) rfl
          · simp only [leE, nilV, k25, k26, cmpCells, aops_nil, aops_cons, aopsK, gstep, gdOf, aop, aPure, pval, lenVal, lenV, sliceV, appV, binV, rd, loV, hiV, noLoc, noLocs, fillV, chunks, splice, mkBox, aStore, aLoad, aCall_eq, callK, aAppend, V.cells, V.isCell, V.ofVal, V.ofCell, Value.oneCell', St.eval, St.put, dstOk, upd, entryE, env, locs, tst, k00, k01, k02, k03, k04, k05, k06, k07, k08, k09, k10, k11, k12, k13, k14, k15, k16, k17, k18, k19, k20, k21, k22, k23, k24, ↓reduceIte, reduceCtorEq, Nat.reduceLT, Nat.reduceLeDiff, Nat.reduceEqDiff, Nat.reduceAdd, Nat.reduceMul, Nat.reduceSub, Nat.reducePow, Nat.reduceMod, k27, Nat.zero_add, Nat.add_zero, k28, k29, k30, Bool.and_self, Bool.and_true, Bool.true_and, and_self, and_true, true_and, k31, k32, Nat.le_refl, Nat.zero_le, k33, k34]; rw [wrap_id (by omega) (by omega)]; simp
          · simp only [okL, and_self]
          · simp only [leB]
      · obtain rfl : i = la.length := eq_of_dec ht hi
        refine AWp.exit ?_
        simp only [thenQ, blockQ, ↓reduceIte, Nat.reduceEqDiff, Nat.one_ne_zero, Nat.zero_ne_one, Nat.succ_ne_zero, reduceCtorEq]
        refine hK5 _ ?_; clear hK5
        refine AWp.reg fun R13 hR13 => ?_
        simp only [nilV, k25, k26, cmpCells, aops_nil, aops_cons, aopsK, gstep, gdOf, aop, aPure, pval, lenVal, lenV, sliceV, appV, binV, rd, loV, hiV, noLoc, noLocs, fillV, chunks, splice, mkBox, aStore, aLoad, aCall_eq, callK, aAppend, V.cells, V.isCell, V.ofVal, V.ofCell, Value.oneCell', St.eval, St.put, dstOk, upd, entryE, env, locs, tst, k00, k01, k02, k03, k04, k05, k06, k07, k08, k09, k10, k11, k12, k13, k14, k15, k16, k17, k18, k19, k20, k21, k22, k23, k24, ↓reduceIte, reduceCtorEq, Nat.reduceLT, Nat.reduceLeDiff, Nat.reduceEqDiff, Nat.reduceAdd, Nat.reduceMul, Nat.reduceSub, Nat.reducePow, Nat.reduceMod, k27, Nat.zero_add, Nat.add_zero, k28, k29, k30, Bool.and_self, Bool.and_true, Bool.true_and, and_self, and_true, true_and, k31, k32, Nat.le_refl, Nat.zero_le, k33, k34]
        refine hR13 _ ?_; clear hR13 R13
        refine AWp.ret ?_
        refine ret_intro (vs := [.base (.bool true)]) rfl (Wk.refl _) (Heap.le.refl _) ⟨?_, rfl⟩
        rw [same_iff.2 (by rw [List.take_length] at hno; rw [hno, hlen, List.take_length])]; rfl
theorem f34_spec (la lb : List Query) (hc : ∀ a ∈ la, ∀ b, Gives Tryz.prog 32 [.agg a.v, .agg b.v] (vbool (same a b))) : Gives Tryz.prog 34 [.slice 5 (la.map Query.v), .slice 5 (lb.map Query.v)] (vbool (same la lb)) := by
  intro s
  refine acalls_of (fn := Tryz.f34) Tryz.func34 rfl (by decide) (by show 2 ≤ 27; decide) ?_
  rw [Tryz.ntmps34]
  refine AWp.reg fun R1 hR1 => ?_
  simp only [nilV, k25, k26, cmpCells, aops_nil, aops_cons, aopsK, gstep, gdOf, aop, aPure, pval, lenVal, lenV, sliceV, appV, binV, rd, loV, hiV, noLoc, noLocs, fillV, chunks, splice, mkBox, aStore, aLoad, aCall_eq, callK, aAppend, V.cells, V.isCell, V.ofVal, V.ofCell, Value.oneCell', St.eval, St.put, dstOk, upd, entryE, env, locs, tst, k00, k01, k02, k03, k04, k05, k06, k07, k08, k09, k10, k11, k12, k13, k14, k15, k16, k17, k18, k19, k20, k21, k22, k23, k24, ↓reduceIte, reduceCtorEq, Nat.reduceLT, Nat.reduceLeDiff, Nat.reduceEqDiff, Nat.reduceAdd, Nat.reduceMul, Nat.reduceSub, Nat.reducePow, Nat.reduceMod, k27, Nat.zero_add, Nat.add_zero, k28, k29, k30, Bool.and_self, Bool.and_true, Bool.true_and, and_self, and_true, true_and, k31, k32, Nat.le_refl, Nat.zero_le, k33, k34]
  refine hR1 _ ?_; clear hR1 R1
  refine AWp.seq_k fun K2 hK2 => ?_
  refine AWp.reg fun R3 hR3 => ?_
  simp only [ty3, ty33, ty47, nilV, k25, k26, cmpCells, aops_nil, aops_cons, aopsK, gstep, gdOf, aop, aPure, pval, lenVal, lenV, sliceV, appV, binV, rd, loV, hiV, noLoc, noLocs, fillV, chunks, splice, mkBox, aStore, aLoad, aCall_eq, callK, aAppend, V.cells, V.isCell, V.ofVal, V.ofCell, Value.oneCell', St.eval, St.put, dstOk, upd, entryE, env, locs, tst, k00, k01, k02, k03, k04, k05, k06, k07, k08, k09, k10, k11, k12, k13, k14, k15, k16, k17, k18, k19, k20, k21, k22, k23, k24, ↓reduceIte, reduceCtorEq, Nat.reduceLT, Nat.reduceLeDiff, Nat.reduceEqDiff, Nat.reduceAdd, Nat.reduceMul, Nat.reduceSub, Nat.reducePow, Nat.reduceMod, k27, Nat.zero_add, Nat.add_zero, k28, k29, k30, Bool.and_self, Bool.and_true, Bool.true_and, and_self, and_true, true_and, k31, k32, Nat.le_refl, Nat.zero_le, k33, k34]
  refine hR3 _ ?_; clear hR3 R3
  refine AWp.cond (t := ((la.length : Int) != lb.length)) (by simp only [nilV, k25, k26, cmpCells, aops_nil, aops_cons, aopsK, gstep, gdOf, aop, aPure, pval, lenVal, lenV, sliceV, appV, binV, rd, loV, hiV, noLoc, noLocs, fillV, chunks, splice, mkBox, aStore, aLoad, aCall_eq, callK, aAppend, V.cells, V.isCell, V.ofVal, V.ofCell, Value.oneCell', St.eval, St.put, dstOk, upd, entryE, env, locs, tst, k00, k01, k02, k03, k04, k05, k06, k07, k08, k09, k10, k11, k12, k13, k14, k15, k16, k17, k18, k19, k20, k21, k22, k23, k24, ↓reduceIte, reduceCtorEq, Nat.reduceLT, Nat.reduceLeDiff, Nat.reduceEqDiff, Nat.reduceAdd, Nat.reduceMul, Nat.reduceSub, Nat.reducePow, Nat.reduceMod, k27, Nat.zero_add, Nat.add_zero, k28, k29, k30, Bool.and_self, Bool.and_true, Bool.true_and, and_self, and_true, true_and, k31, k32, Nat.le_refl, Nat.zero_le, k33, k34]) (fun ht => ?_) (fun ht => ?_)
  · have hne : la.length ≠ lb.length := by have := bne_iff_ne.1 ht; omega
    refine AWp.reg fun R4 hR4 => ?_
    simp only [nilV, k25, k26, cmpCells, aops_nil, aops_cons, aopsK, gstep, gdOf, aop, aPure, pval, lenVal, lenV, sliceV, appV, binV, rd, loV, hiV, noLoc, noLocs, fillV, chunks, splice, mkBox, aStore, aLoad, aCall_eq, callK, aAppend, V.cells, V.isCell, V.ofVal, V.ofCell, Value.oneCell', St.eval, St.put, dstOk, upd, entryE, env, locs, tst, k00, k01, k02, k03, k04, k05, k06, k07, k08, k09, k10, k11, k12, k13, k14, k15, k16, k17, k18, k19, k20, k21, k22, k23, k24, ↓reduceIte, reduceCtorEq, Nat.reduceLT, Nat.reduceLeDiff, Nat.reduceEqDiff, Nat.reduceAdd, Nat.reduceMul, Nat.reduceSub, Nat.reducePow, Nat.reduceMod, k27, Nat.zero_add, Nat.add_zero, k28, k29, k30, Bool.and_self, Bool.and_true, Bool.true_and, and_self, and_true, true_and, k31, k32, Nat.le_refl, Nat.zero_le, k33, k34]
    refine hR4 _ ?_; clear hR4 R4
    refine AWp.ret ?_
    refine ret_intro (vs := [.base (.bool false)]) rfl (Wk.refl _) (Heap.le.refl _) ⟨?_, rfl⟩
    rw [same_false.2 (fun e => hne (by rw [e]))]; rfl
  · have hlen : la.length = lb.length := by have := (bne_eq_false_iff_eq).1 ht; omega
    refine AWp.skip ?_
    refine hK2 _ ?_; clear hK2
    refine AWp.seq_k fun K5 hK5 => ?_
    refine AWp.reg fun R6 hR6 => ?_
    simp only [nilV, k25, k26, cmpCells, aops_nil, aops_cons, aopsK, gstep, gdOf, aop, aPure, pval, lenVal, lenV, sliceV, appV, binV, rd, loV, hiV, noLoc, noLocs, fillV, chunks, splice, mkBox, aStore, aLoad, aCall_eq, callK, aAppend, V.cells, V.isCell, V.ofVal, V.ofCell, Value.oneCell', St.eval, St.put, dstOk, upd, entryE, env, locs, tst, k00, k01, k02, k03, k04, k05, k06, k07, k08, k09, k10, k11, k12, k13, k14, k15, k16, k17, k18, k19, k20, k21, k22, k23, k24, ↓reduceIte, reduceCtorEq, Nat.reduceLT, Nat.reduceLeDiff, Nat.reduceEqDiff, Nat.reduceAdd, Nat.reduceMul, Nat.reduceSub, Nat.reducePow, Nat.reduceMod, k27, Nat.zero_add, Nat.add_zero, k28, k29, k30, Bool.and_self, Bool.and_true, Bool.true_and, and_self, and_true, true_and, k31, k32, Nat.le_refl, Nat.zero_le, k33, k34]
    refine hR6 _ ?_; clear hR6 R6
    refine AWp.block ?_
    refine AWp.slen 0 (sz := 5) (es := la.map Query.v) (by simp only [nilV, k25, k26, cmpCells, aops_nil, aops_cons, aopsK, gstep, gdOf, aop, aPure, pval, lenVal, lenV, sliceV, appV, binV, rd, loV, hiV, noLoc, noLocs, fillV, chunks, splice, mkBox, aStore, aLoad, aCall_eq, callK, aAppend, V.cells, V.isCell, V.ofVal, V.ofCell, Value.oneCell', St.eval, St.put, dstOk, upd, entryE, env, locs, tst, k00, k01, k02, k03, k04, k05, k06, k07, k08, k09, k10, k11, k12, k13, k14, k15, k16, k17, k18, k19, k20, k21, k22, k23, k24, ↓reduceIte, reduceCtorEq, Nat.reduceLT, Nat.reduceLeDiff, Nat.reduceEqDiff, Nat.reduceAdd, Nat.reduceMul, Nat.reduceSub, Nat.reducePow, Nat.reduceMod, k27, Nat.zero_add, Nat.add_zero, k28, k29, k30, Bool.and_self, Bool.and_true, Bool.true_and, and_self, and_true, true_and, k31, k32, Nat.le_refl, Nat.zero_le, k33, k34]) fun hmax => ?_
    have hmx := maxLen_lt; rw [List.length_map] at hmax
    refine AWp.loopT (ι := Nat) (fun i => i ≤ la.length ∧ la.take i = lb.take i) (fun i => tst [(0, .slice 5 (la.map Query.v)), (1, .slice 5 (lb.map Query.v)), (5, vint i)] [] s 27) (fun i => la.length - i) 0 ⟨⟨Nat.zero_le _, by simp⟩, ?_⟩ ?_
    · refine le_tst ?_ ?_ ?_ (Heap.le.refl _) rfl
      · simp only [leE, nilV, k25, k26, cmpCells, aops_nil, aops_cons, aopsK, gstep, gdOf, aop, aPure, pval, lenVal, lenV, sliceV, appV, binV, rd, loV, hiV, noLoc, noLocs, fillV, chunks, splice, mkBox, aStore, aLoad, aCall_eq, callK, aAppend, V.cells, V.isCell, V.ofVal, V.ofCell, Value.oneCell', St.eval, St.put, dstOk, upd, entryE, env, locs, tst, k00, k01, k02, k03, k04, k05, k06, k07, k08, k09, k10, k11, k12, k13, k14, k15, k16, k17, k18, k19, k20, k21, k22, k23, k24, ↓reduceIte, reduceCtorEq, Nat.reduceLT, Nat.reduceLeDiff, Nat.reduceEqDiff, Nat.reduceAdd, Nat.reduceMul, Nat.reduceSub, Nat.reducePow, Nat.reduceMod, k27, Nat.zero_add, Nat.add_zero, k28, k29, k30, Bool.and_self, Bool.and_true, Bool.true_and, and_self, and_true, true_and, k31, k32, Nat.le_refl, Nat.zero_le, k33, k34]; simp
      · simp only [okL, and_self]
      · simp only [leB]
    · rintro i ⟨hi, hno⟩
      refine AWp.seq_k fun K7 hK7 => ?_
      refine AWp.reg fun R8 hR8 => ?_
      simp only [ty3, ty33, ty47, nilV, k25, k26, cmpCells, aops_nil, aops_cons, aopsK, gstep, gdOf, aop, aPure, pval, lenVal, lenV, sliceV, appV, binV, rd, loV, hiV, noLoc, noLocs, fillV, chunks, splice, mkBox, aStore, aLoad, aCall_eq, callK, aAppend, V.cells, V.isCell, V.ofVal, V.ofCell, Value.oneCell', St.eval, St.put, dstOk, upd, entryE, env, locs, tst, k00, k01, k02, k03, k04, k05, k06, k07, k08, k09, k10, k11, k12, k13, k14, k15, k16, k17, k18, k19, k20, k21, k22, k23, k24, ↓reduceIte, reduceCtorEq, Nat.reduceLT, Nat.reduceLeDiff, Nat.reduceEqDiff, Nat.reduceAdd, Nat.reduceMul, Nat.reduceSub, Nat.reducePow, Nat.reduceMod, k27, Nat.zero_add, Nat.add_zero, k28, k29, k30, Bool.and_self, Bool.and_true, Bool.true_and, and_self, and_true, true_and, k31, k32, Nat.le_refl, Nat.zero_le, k33, k34]
      refine hR8 _ ?_; clear hR8 R8
      refine AWp.cond (t := decide ((i:Int) < la.length)) (by simp only [nilV, k25, k26, cmpCells, aops_nil, aops_cons, aopsK, gstep, gdOf, aop, aPure, pval, lenVal, lenV, sliceV, appV, binV, rd, loV, hiV, noLoc, noLocs, fillV, chunks, splice, mkBox, aStore, aLoad, aCall_eq, callK, aAppend, V.cells, V.isCell, V.ofVal, V.ofCell, Value.oneCell', St.eval, St.put, dstOk, upd, entryE, env, locs, tst, k00, k01, k02, k03, k04, k05, k06, k07, k08, k09, k10, k11, k12, k13, k14, k15, k16, k17, k18, k19, k20, k21, k22, k23, k24, ↓reduceIte, reduceCtorEq, Nat.reduceLT, Nat.reduceLeDiff, Nat.reduceEqDiff, Nat.reduceAdd, Nat.reduceMul, Nat.reduceSub, Nat.reducePow, Nat.reduceMod, k27, Nat.zero_add, Nat.add_zero, k28, k29, k30, Bool.and_self, Bool.and_true, Bool.true_and, and_self, and_true, true_and, k31, k32, Nat.le_refl, Nat.zero_le, k33, k34]) (fun ht => ?_) (fun ht => ?_)
      · have hlt : i < la.length := lt_of_dec ht
        have hlt' : i < lb.length := by omega
        have ix0 : (0 ≤ (i : Int)) = True := by simp
        have ix1 : ((i : Int) < (la.length : Int)) = True := by simp [hlt]
        have ix2 : ((i : Int) < (lb.length : Int)) = True := by simp [hlt']
        refine AWp.skip ?_
        refine hK7 _ ?_; clear hK7
        refine AWp.seq_k fun K9 hK9 => ?_
        refine AWp.block ?_
        refine AWp.regL mixed [0, 1, 2, 3, 4, 5, 6, 7, 8, 9] (by decide +kernel) [] (by decide +kernel) fun R10 hR10 => ?_
        simp only [ix0, ix1, ix2, true_and, getD_map _ _ _ hlt, getD_map _ _ _ hlt', Query.v_eq, ty33, ty47, aopsL_nil, aopsL_cons, aopsLK, gstepL, dcond, List.filterMap_cons, List.filterMap_nil, List.contains_cons, List.contains_nil, Nat.reduceBEq, Bool.or_self, Bool.false_or, Bool.or_false, nilV, k25, k26, cmpCells, aops_nil, aops_cons, aopsK, gstep, gdOf, aop, aPure, pval, lenVal, lenV, sliceV, appV, binV, rd, loV, hiV, noLoc, noLocs, fillV, chunks, splice, mkBox, aStore, aLoad, aCall_eq, callK, aAppend, V.cells, V.isCell, V.ofVal, V.ofCell, Value.oneCell', St.eval, St.put, dstOk, upd, entryE, env, locs, tst, k00, k01, k02, k03, k04, k05, k06, k07, k08, k09, k10, k11, k12, k13, k14, k15, k16, k17, k18, k19, k20, k21, k22, k23, k24, ↓reduceIte, reduceCtorEq, Nat.reduceLT, Nat.reduceLeDiff, Nat.reduceEqDiff, Nat.reduceAdd, Nat.reduceMul, Nat.reduceSub, Nat.reducePow, Nat.reduceMod, k27, Nat.zero_add, Nat.add_zero, k28, k29, k30, Bool.and_self, Bool.and_true, Bool.true_and, and_self, and_true, true_and, k31, k32, Nat.le_refl, Nat.zero_le, k33, k34]
        rw [← Query.v_eq, ← Query.v_eq]
        refine (hc la[i] (List.getElem_mem hlt) lb[i] _).mono fun v' s' h => ?_
        rw [h.1, h.2]; clear h v' s'
        simp only [vbool, ix0, ix1, ix2, true_and, getD_map _ _ _ hlt, getD_map _ _ _ hlt', Query.v_eq, ty33, ty47, aopsL_nil, aopsL_cons, aopsLK, gstepL, dcond, List.filterMap_cons, List.filterMap_nil, List.contains_cons, List.contains_nil, Nat.reduceBEq, Bool.or_self, Bool.false_or, Bool.or_false, nilV, k25, k26, cmpCells, aops_nil, aops_cons, aopsK, gstep, gdOf, aop, aPure, pval, lenVal, lenV, sliceV, appV, binV, rd, loV, hiV, noLoc, noLocs, fillV, chunks, splice, mkBox, aStore, aLoad, aCall_eq, callK, aAppend, V.cells, V.isCell, V.ofVal, V.ofCell, Value.oneCell', St.eval, St.put, dstOk, upd, entryE, env, locs, tst, k00, k01, k02, k03, k04, k05, k06, k07, k08, k09, k10, k11, k12, k13, k14, k15, k16, k17, k18, k19, k20, k21, k22, k23, k24, ↓reduceIte, reduceCtorEq, Nat.reduceLT, Nat.reduceLeDiff, Nat.reduceEqDiff, Nat.reduceAdd, Nat.reduceMul, Nat.reduceSub, Nat.reducePow, Nat.reduceMod, k27, Nat.zero_add, Nat.add_zero, k28, k29, k30, Bool.and_self, Bool.and_true, Bool.true_and, and_self, and_true, true_and, k31, k32, Nat.le_refl, Nat.zero_le, k33, k34]
        refine hR10 _ ?_; clear hR10 R10
        refine AWp.cond (t := !same la[i] lb[i]) (by simp only [nilV, k25, k26, cmpCells, aops_nil, aops_cons, aopsK, gstep, gdOf, aop, aPure, pval, lenVal, lenV, sliceV, appV, binV, rd, loV, hiV, noLoc, noLocs, fillV, chunks, splice, mkBox, aStore, aLoad, aCall_eq, callK, aAppend, V.cells, V.isCell, V.ofVal, V.ofCell, Value.oneCell', St.eval, St.put, dstOk, upd, entryE, env, locs, tst, k00, k01, k02, k03, k04, k05, k06, k07, k08, k09, k10, k11, k12, k13, k14, k15, k16, k17, k18, k19, k20, k21, k22, k23, k24, ↓reduceIte, reduceCtorEq, Nat.reduceLT, Nat.reduceLeDiff, Nat.reduceEqDiff, Nat.reduceAdd, Nat.reduceMul, Nat.reduceSub, Nat.reducePow, Nat.reduceMod, k27, Nat.zero_add, Nat.add_zero, k28, k29, k30, Bool.and_self, Bool.and_true, Bool.true_and, and_self, and_true, true_and, k31, k32, Nat.le_refl, Nat.zero_le, k33, k34]) (fun ht => ?_) (fun ht => ?_)
        · have hne : la[i] ≠ lb[i] := fun e => by rw [e] at ht; simp [same_self] at ht
          refine AWp.reg fun R11 hR11 => ?_
          simp only [nilV, k25, k26, cmpCells, aops_nil, aops_cons, aopsK, gstep, gdOf, aop, aPure, pval, lenVal, lenV, sliceV, appV, binV, rd, loV, hiV, noLoc, noLocs, fillV, chunks, splice, mkBox, aStore, aLoad, aCall_eq, callK, aAppend, V.cells, V.isCell, V.ofVal, V.ofCell, Value.oneCell', St.eval, St.put, dstOk, upd, entryE, env, locs, tst, k00, k01, k02, k03, k04, k05, k06, k07, k08, k09, k10, k11, k12, k13, k14, k15, k16, k17, k18, k19, k20, k21, k22, k23, k24, ↓reduceIte, reduceCtorEq, Nat.reduceLT, Nat.reduceLeDiff, Nat.reduceEqDiff, Nat.reduceAdd, Nat.reduceMul, Nat.reduceSub, Nat.reducePow, Nat.reduceMod, k27, Nat.zero_add, Nat.add_zero, k28, k29, k30, Bool.and_self, Bool.and_true, Bool.true_and, and_self, and_true, true_and, k31, k32, Nat.le_refl, Nat.zero_le, k33, k34]
          refine hR11 _ ?_; clear hR11 R11
          refine AWp.ret ?_
          refine ret_intro (vs := [.base (.bool false)]) rfl (Wk.refl _) (Heap.le.refl _) ⟨?_, rfl⟩
          rw [same_false.2 (fun e => hne (by simp only [e]))]; rfl
        · have he : la[i] = lb[i] := same_iff.1 (by simpa using ht)
          refine AWp.skip ?_
          refine hK9 _ ?_; clear hK9
          refine AWp.reg1 fun R12 hR12 => ?_
          simp only [ty3, nilV, k25, k26, cmpCells, aops_nil, aops_cons, aopsK, gstep, gdOf, aop, aPure, pval, lenVal, lenV, sliceV, appV, binV, rd, loV, hiV, noLoc, noLocs, fillV, chunks, splice, mkBox, aStore, aLoad, aCall_eq, callK, aAppend, V.cells, V.isCell, V.ofVal, V.ofCell, Value.oneCell', St.eval, St.put, dstOk, upd, entryE, env, locs, tst, k00, k01, k02, k03, k04, k05, k06, k07, k08, k09, k10, k11, k12, k13, k14, k15, k16, k17, k18, k19, k20, k21, k22, k23, k24, ↓reduceIte, reduceCtorEq, Nat.reduceLT, Nat.reduceLeDiff, Nat.reduceEqDiff, Nat.reduceAdd, Nat.reduceMul, Nat.reduceSub, Nat.reducePow, Nat.reduceMod, k27, Nat.zero_add, Nat.add_zero, k28, k29, k30, Bool.and_self, Bool.and_true, Bool.true_and, and_self, and_true, true_and, k31, k32, Nat.le_refl, Nat.zero_le, k33, k34]
          refine hR12 _ ?_; clear hR12 R12
          refine ⟨i + 1, ⟨⟨hlt, take_succ_eq hno hlt hlt' he⟩, by omega⟩, ?_⟩
          refine le_tst ?_ ?_ ?_ (Heap.le.refl _) rfl
          · simp only [leE, nilV, k25, k26, cmpCells, aops_nil, aops_cons, aopsK, gstep, gdOf, aop, aPure, pval, lenVal, lenV, sliceV, appV, binV, rd, loV, hiV, noLoc, noLocs, fillV, chunks, splice, mkBox, aStore, aLoad, aCall_eq, callK, aAppend, V.cells, V.isCell, V.ofVal, V.ofCell, Value.oneCell', St.eval, St.put, dstOk, upd, entryE, env, locs, tst, k00, k01, k02, k03, k04, k05, k06, k07, k08, k09, k10, k11, k12, k13, k14, k15, k16, k17, k18, k19, k20, k21, k22, k23, k24, ↓reduceIte, reduceCtorEq, Nat.reduceLT, Nat.reduceLeDiff, Nat.reduceEqDiff, Nat.reduceAdd, Nat.reduceMul, Nat.reduceSub, Nat.reducePow, Nat.reduceMod, k27, Nat.zero_add, Nat.add_zero, k28, k29, k30, Bool.and_self, Bool.and_true, Bool.true_and, and_self, and_true, true_and, k31, k32, Nat.le_refl, Nat.zero_le, k33, k34]; rw [wrap_id (by omega) (by omega)]; simp
          · simp only [okL, and_self]
          · simp only [leB]
      · obtain rfl : i = la.length := eq_of_dec ht hi
        refine AWp.exit ?_
        simp only [thenQ, blockQ, ↓reduceIte, Nat.reduceEqDiff, Nat.one_ne_zero, Nat.zero_ne_one, Nat.succ_ne_zero, reduceCtorEq]
        refine hK5 _ ?_; clear hK5
        refine AWp.reg fun R13 hR13 => ?_
        simp only [nilV, k25, k26, cmpCells, aops_nil, aops_cons, aopsK, gstep, gdOf, aop, aPure, pval, lenVal, lenV, sliceV, appV, binV, rd, loV, hiV, noLoc, noLocs, fillV, chunks, splice, mkBox, aStore, aLoad, aCall_eq, callK, aAppend, V.cells, V.isCell, V.ofVal, V.ofCell, Value.oneCell', St.eval, St.put, dstOk, upd, entryE, env, locs, tst, k00, k01, k02, k03, k04, k05, k06, k07, k08, k09, k10, k11, k12, k13, k14, k15, k16, k17, k18, k19, k20, k21, k22, k23, k24, ↓reduceIte, reduceCtorEq, Nat.reduceLT, Nat.reduceLeDiff, Nat.reduceEqDiff, Nat.reduceAdd, Nat.reduceMul, Nat.reduceSub, Nat.reducePow, Nat.reduceMod, k27, Nat.zero_add, Nat.add_zero, k28, k29, k30, Bool.and_self, Bool.and_true, Bool.true_and, and_self, and_true, true_and, k31, k32, Nat.le_refl, Nat.zero_le, k33, k34]
        refine hR13 _ ?_; clear hR13 R13
        refine AWp.ret ?_
        refine ret_intro (vs := [.base (.bool true)]) rfl (Wk.refl _) (Heap.le.refl _) ⟨?_, rfl⟩
        rw [same_iff.2 (by rw [List.take_length] at hno; rw [hno, hlen, List.take_length])]; rfl
end Go.Proofs.YtcckhbconihagaaGreatDoor
/- Structs compared field by field. -/
set_option linter.unusedSimpArgs false
set_option linter.unusedVariables false
set_option maxRecDepth 100000
namespace Go.Proofs.YtcckhbconihagaaGreatDoor
open Go.Am Go.Pl
theorem Term.same_last (a b : Term) (h0 : (a.op == b.op) = true) (h1 : (a.neg == b.neg) = true) (h2 : (a.n == b.n) = true) (h3 : (a.frm == b.frm) = true) (h4 : (a.col == b.col) = true) (h5 : (a.name.toList == b.name.toList) = true) (h6 : (a.vk == b.vk && (a.vi == b.vi && a.vt.toList == b.vt.toList)) = true) (h7 : (a.coll == b.coll) = true) (h8 : (a.l == b.l) = true) (h9 : (a.r == b.r) = true) (h10 : (same a.args b.args) = true) : same a b = (same a.sub b.sub) := by
  cases a; cases b; simp only [beq_iff_eq, bytes_beq, bytes_eq, same_iff, Bool.and_eq_true] at *; try refine same_eq_of ?_
  try (rw [Bool.eq_iff_iff, same_iff, beq_iff_eq])
  simp only [Term.mk.injEq]; simp_all
theorem f101_spec (a b : Term) (h57 : Gives Tryz.prog 57 [.slice 14 (a.args.map Term.v), .slice 14 (b.args.map Term.v)] (vbool (same a.args b.args))) (h34 : Gives Tryz.prog 34 [.slice 5 (a.sub.map Query.v), .slice 5 (b.sub.map Query.v)] (vbool (same a.sub b.sub))) : Gives Tryz.prog 101 [.agg a.v, .agg b.v] (vbool (same a b)) := by
  intro s
  rw [Term.v_eq, Term.v_eq]
  refine acalls_of (fn := Tryz.f101) Tryz.func101 rfl (by decide) (by show 2 ≤ 87; decide) ?_
  rw [Tryz.ntmps101]
  refine AWp.reg fun R1 hR1 => ?_
  simp only [ty49, nilV, k25, k26, cmpCells, aops_nil, aops_cons, aopsK, gstep, gdOf, aop, aPure, pval, lenVal, lenV, sliceV, appV, binV, rd, loV, hiV, noLoc, noLocs, fillV, chunks, splice, mkBox, aStore, aLoad, aCall_eq, callK, aAppend, V.cells, V.isCell, V.ofVal, V.ofCell, Value.oneCell', St.eval, St.put, dstOk, upd, entryE, env, locs, tst, k00, k01, k02, k03, k04, k05, k06, k07, k08, k09, k10, k11, k12, k13, k14, k15, k16, k17, k18, k19, k20, k21, k22, k23, k24, ↓reduceIte, reduceCtorEq, Nat.reduceLT, Nat.reduceLeDiff, Nat.reduceEqDiff, Nat.reduceAdd, Nat.reduceMul, Nat.reduceSub, Nat.reducePow, Nat.reduceMod, k27, Nat.zero_add, Nat.add_zero, k28, k29, k30, Bool.and_self, Bool.and_true, Bool.true_and, and_self, and_true, true_and, k31, k32, Nat.le_refl, Nat.zero_le, k33, k34]
  refine hR1 _ ?_; clear hR1 R1
  refine AWp.reg fun R2 hR2 => ?_
  rcases (Bool.eq_false_or_eq_true (a.op == b.op)).symm with hc0 | hc0
  · simp only [hc0, ty3, ty4, ty9, ty31, ty33, ty41, ty44, ty45, ty46, ty47, ty49, teq44, List.append_eq, nilV, k25, k26, cmpCells, aops_nil, aops_cons, aopsK, gstep, gdOf, aop, aPure, pval, lenVal, lenV, sliceV, appV, binV, rd, loV, hiV, noLoc, noLocs, fillV, chunks, splice, mkBox, aStore, aLoad, aCall_eq, callK, aAppend, V.cells, V.isCell, V.ofVal, V.ofCell, Value.oneCell', St.eval, St.put, dstOk, upd, entryE, env, locs, tst, k00, k01, k02, k03, k04, k05, k06, k07, k08, k09, k10, k11, k12, k13, k14, k15, k16, k17, k18, k19, k20, k21, k22, k23, k24, ↓reduceIte, reduceCtorEq, Nat.reduceLT, Nat.reduceLeDiff, Nat.reduceEqDiff, Nat.reduceAdd, Nat.reduceMul, Nat.reduceSub, Nat.reducePow, Nat.reduceMod, k27, Nat.zero_add, Nat.add_zero, k28, k29, k30, Bool.and_self, Bool.and_true, Bool.true_and, and_self, and_true, true_and, k31, k32, Nat.le_refl, Nat.zero_le, k33, k34]
    refine hR2 _ ?_; clear hR2 R2
    refine AWp.ret ?_
    refine ret_intro (vs := [.base (.bool false)]) rfl (Wk.refl _) (Heap.le.refl _) ⟨?_, rfl⟩
    rw [same_of_imp (fun e => by rw [e]; simp only [beq_self_eq_true, same_self, Bool.and_self]) hc0]; rfl
  · rcases (Bool.eq_false_or_eq_true (a.neg == b.neg)).symm with hc1 | hc1
    · simp only [hc0, hc1, ty3, ty4, ty9, ty31, ty33, ty41, ty44, ty45, ty46, ty47, ty49, teq44, List.append_eq, nilV, k25, k26, cmpCells, aops_nil, aops_cons, aopsK, gstep, gdOf, aop, aPure, pval, lenVal, lenV, sliceV, appV, binV, rd, loV, hiV, noLoc, noLocs, fillV, chunks, splice, mkBox, aStore, aLoad, aCall_eq, callK, aAppend, V.cells, V.isCell, V.ofVal, V.ofCell, Value.oneCell', St.eval, St.put, dstOk, upd, entryE, env, locs, tst, k00, k01, k02, k03, k04, k05, k06, k07, k08, k09, k10, k11, k12, k13, k14, k15, k16, k17, k18, k19, k20, k21, k22, k23, k24, ↓reduceIte, reduceCtorEq, Nat.reduceLT, Nat.reduceLeDiff, Nat.reduceEqDiff, Nat.reduceAdd, Nat.reduceMul, Nat.reduceSub, Nat.reducePow, Nat.reduceMod, k27, Nat.zero_add, Nat.add_zero, k28, k29, k30, Bool.and_self, Bool.and_true, Bool.true_and, and_self, and_true, true_and, k31, k32, Nat.le_refl, Nat.zero_le, k33, k34]
      refine hR2 _ ?_; clear hR2 R2
      refine AWp.ret ?_
      refine ret_intro (vs := [.base (.bool false)]) rfl (Wk.refl _) (Heap.le.refl _) ⟨?_, rfl⟩
      rw [same_of_imp (fun e => by rw [e]; simp only [beq_self_eq_true, same_self, Bool.and_self]) hc1]; rfl
    · rcases (Bool.eq_false_or_eq_true (a.n == b.n)).symm with hc2 | hc2
      · simp only [hc0, hc1, hc2, ty3, ty4, ty9, ty31, ty33, ty41, ty44, ty45, ty46, ty47, ty49, teq44, List.append_eq, nilV, k25, k26, cmpCells, aops_nil, aops_cons, aopsK, gstep, gdOf, aop, aPure, pval, lenVal, lenV, sliceV, appV, binV, rd, loV, hiV, noLoc, noLocs, fillV, chunks, splice, mkBox, aStore, aLoad, aCall_eq, callK, aAppend, V.cells, V.isCell, V.ofVal, V.ofCell, Value.oneCell', St.eval, St.put, dstOk, upd, entryE, env, locs, tst, k00, k01, k02, k03, k04, k05, k06, k07, k08, k09, k10, k11, k12, k13, k14, k15, k16, k17, k18, k19, k20, k21, k22, k23, k24, ↓reduceIte, reduceCtorEq, Nat.reduceLT, Nat.reduceLeDiff, Nat.reduceEqDiff, Nat.reduceAdd, Nat.reduceMul, Nat.reduceSub, Nat.reducePow, Nat.reduceMod, k27, Nat.zero_add, Nat.add_zero, k28, k29, k30, Bool.and_self, Bool.and_true, Bool.true_and, and_self, and_true, true_and, k31, k32, Nat.le_refl, Nat.zero_le, k33, k34]
        refine hR2 _ ?_; clear hR2 R2
        refine AWp.ret ?_
        refine ret_intro (vs := [.base (.bool false)]) rfl (Wk.refl _) (Heap.le.refl _) ⟨?_, rfl⟩
        rw [same_of_imp (fun e => by rw [e]; simp only [beq_self_eq_true, same_self, Bool.and_self]) hc2]; rfl
      · rcases (Bool.eq_false_or_eq_true (a.frm == b.frm)).symm with hc3 | hc3
        · simp only [hc0, hc1, hc2, hc3, ty3, ty4, ty9, ty31, ty33, ty41, ty44, ty45, ty46, ty47, ty49, teq44, List.append_eq, nilV, k25, k26, cmpCells, aops_nil, aops_cons, aopsK, gstep, gdOf, aop, aPure, pval, lenVal, lenV, sliceV, appV, binV, rd, loV, hiV, noLoc, noLocs, fillV, chunks, splice, mkBox, aStore, aLoad, aCall_eq, callK, aAppend, V.cells, V.isCell, V.ofVal, V.ofCell, Value.oneCell', St.eval, St.put, dstOk, upd, entryE, env, locs, tst, k00, k01, k02, k03, k04, k05, k06, k07, k08, k09, k10, k11, k12, k13, k14, k15, k16, k17, k18, k19, k20, k21, k22, k23, k24, ↓reduceIte, reduceCtorEq, Nat.reduceLT, Nat.reduceLeDiff, Nat.reduceEqDiff, Nat.reduceAdd, Nat.reduceMul, Nat.reduceSub, Nat.reducePow, Nat.reduceMod, k27, Nat.zero_add, Nat.add_zero, k28, k29, k30, Bool.and_self, Bool.and_true, Bool.true_and, and_self, and_true, true_and, k31, k32, Nat.le_refl, Nat.zero_le, k33, k34]
          refine hR2 _ ?_; clear hR2 R2
          refine AWp.ret ?_
          refine ret_intro (vs := [.base (.bool false)]) rfl (Wk.refl _) (Heap.le.refl _) ⟨?_, rfl⟩
          rw [same_of_imp (fun e => by rw [e]; simp only [beq_self_eq_true, same_self, Bool.and_self]) hc3]; rfl
        · rcases (Bool.eq_false_or_eq_true (a.col == b.col)).symm with hc4 | hc4
          · simp only [hc0, hc1, hc2, hc3, hc4, ty3, ty4, ty9, ty31, ty33, ty41, ty44, ty45, ty46, ty47, ty49, teq44, List.append_eq, nilV, k25, k26, cmpCells, aops_nil, aops_cons, aopsK, gstep, gdOf, aop, aPure, pval, lenVal, lenV, sliceV, appV, binV, rd, loV, hiV, noLoc, noLocs, fillV, chunks, splice, mkBox, aStore, aLoad, aCall_eq, callK, aAppend, V.cells, V.isCell, V.ofVal, V.ofCell, Value.oneCell', St.eval, St.put, dstOk, upd, entryE, env, locs, tst, k00, k01, k02, k03, k04, k05, k06, k07, k08, k09, k10, k11, k12, k13, k14, k15, k16, k17, k18, k19, k20, k21, k22, k23, k24, ↓reduceIte, reduceCtorEq, Nat.reduceLT, Nat.reduceLeDiff, Nat.reduceEqDiff, Nat.reduceAdd, Nat.reduceMul, Nat.reduceSub, Nat.reducePow, Nat.reduceMod, k27, Nat.zero_add, Nat.add_zero, k28, k29, k30, Bool.and_self, Bool.and_true, Bool.true_and, and_self, and_true, true_and, k31, k32, Nat.le_refl, Nat.zero_le, k33, k34]
            refine hR2 _ ?_; clear hR2 R2
            refine AWp.ret ?_
            refine ret_intro (vs := [.base (.bool false)]) rfl (Wk.refl _) (Heap.le.refl _) ⟨?_, rfl⟩
            rw [same_of_imp (fun e => by rw [e]; simp only [beq_self_eq_true, same_self, Bool.and_self]) hc4]; rfl
          · rcases (Bool.eq_false_or_eq_true (a.name.toList == b.name.toList)).symm with hc5 | hc5
            · simp only [hc0, hc1, hc2, hc3, hc4, hc5, ty3, ty4, ty9, ty31, ty33, ty41, ty44, ty45, ty46, ty47, ty49, teq44, List.append_eq, nilV, k25, k26, cmpCells, aops_nil, aops_cons, aopsK, gstep, gdOf, aop, aPure, pval, lenVal, lenV, sliceV, appV, binV, rd, loV, hiV, noLoc, noLocs, fillV, chunks, splice, mkBox, aStore, aLoad, aCall_eq, callK, aAppend, V.cells, V.isCell, V.ofVal, V.ofCell, Value.oneCell', St.eval, St.put, dstOk, upd, entryE, env, locs, tst, k00, k01, k02, k03, k04, k05, k06, k07, k08, k09, k10, k11, k12, k13, k14, k15, k16, k17, k18, k19, k20, k21, k22, k23, k24, ↓reduceIte, reduceCtorEq, Nat.reduceLT, Nat.reduceLeDiff, Nat.reduceEqDiff, Nat.reduceAdd, Nat.reduceMul, Nat.reduceSub, Nat.reducePow, Nat.reduceMod, k27, Nat.zero_add, Nat.add_zero, k28, k29, k30, Bool.and_self, Bool.and_true, Bool.true_and, and_self, and_true, true_and, k31, k32, Nat.le_refl, Nat.zero_le, k33, k34]
              refine hR2 _ ?_; clear hR2 R2
              refine AWp.ret ?_
              refine ret_intro (vs := [.base (.bool false)]) rfl (Wk.refl _) (Heap.le.refl _) ⟨?_, rfl⟩
              rw [same_of_imp (fun e => by rw [e]; simp only [beq_self_eq_true, same_self, Bool.and_self]) hc5]; rfl
            · rcases (Bool.eq_false_or_eq_true (a.vk == b.vk && (a.vi == b.vi && a.vt.toList == b.vt.toList))).symm with hc6 | hc6
              · simp only [hc0, hc1, hc2, hc3, hc4, hc5, hc6, ty3, ty4, ty9, ty31, ty33, ty41, ty44, ty45, ty46, ty47, ty49, teq44, List.append_eq, nilV, k25, k26, cmpCells, aops_nil, aops_cons, aopsK, gstep, gdOf, aop, aPure, pval, lenVal, lenV, sliceV, appV, binV, rd, loV, hiV, noLoc, noLocs, fillV, chunks, splice, mkBox, aStore, aLoad, aCall_eq, callK, aAppend, V.cells, V.isCell, V.ofVal, V.ofCell, Value.oneCell', St.eval, St.put, dstOk, upd, entryE, env, locs, tst, k00, k01, k02, k03, k04, k05, k06, k07, k08, k09, k10, k11, k12, k13, k14, k15, k16, k17, k18, k19, k20, k21, k22, k23, k24, ↓reduceIte, reduceCtorEq, Nat.reduceLT, Nat.reduceLeDiff, Nat.reduceEqDiff, Nat.reduceAdd, Nat.reduceMul, Nat.reduceSub, Nat.reducePow, Nat.reduceMod, k27, Nat.zero_add, Nat.add_zero, k28, k29, k30, Bool.and_self, Bool.and_true, Bool.true_and, and_self, and_true, true_and, k31, k32, Nat.le_refl, Nat.zero_le, k33, k34]
                refine hR2 _ ?_; clear hR2 R2
                refine AWp.ret ?_
                refine ret_intro (vs := [.base (.bool false)]) rfl (Wk.refl _) (Heap.le.refl _) ⟨?_, rfl⟩
                rw [same_of_imp (fun e => by rw [e]; simp only [beq_self_eq_true, same_self, Bool.and_self]) hc6]; rfl
              · rcases (Bool.eq_false_or_eq_true (a.coll == b.coll)).symm with hc7 | hc7
                · simp only [hc0, hc1, hc2, hc3, hc4, hc5, hc6, hc7, ty3, ty4, ty9, ty31, ty33, ty41, ty44, ty45, ty46, ty47, ty49, teq44, List.append_eq, nilV, k25, k26, cmpCells, aops_nil, aops_cons, aopsK, gstep, gdOf, aop, aPure, pval, lenVal, lenV, sliceV, appV, binV, rd, loV, hiV, noLoc, noLocs, fillV, chunks, splice, mkBox, aStore, aLoad, aCall_eq, callK, aAppend, V.cells, V.isCell, V.ofVal, V.ofCell, Value.oneCell', St.eval, St.put, dstOk, upd, entryE, env, locs, tst, k00, k01, k02, k03, k04, k05, k06, k07, k08, k09, k10, k11, k12, k13, k14, k15, k16, k17, k18, k19, k20, k21, k22, k23, k24, ↓reduceIte, reduceCtorEq, Nat.reduceLT, Nat.reduceLeDiff, Nat.reduceEqDiff, Nat.reduceAdd, Nat.reduceMul, Nat.reduceSub, Nat.reducePow, Nat.reduceMod, k27, Nat.zero_add, Nat.add_zero, k28, k29, k30, Bool.and_self, Bool.and_true, Bool.true_and, and_self, and_true, true_and, k31, k32, Nat.le_refl, Nat.zero_le, k33, k34]
                  refine hR2 _ ?_; clear hR2 R2
                  refine AWp.ret ?_
                  refine ret_intro (vs := [.base (.bool false)]) rfl (Wk.refl _) (Heap.le.refl _) ⟨?_, rfl⟩
                  rw [same_of_imp (fun e => by rw [e]; simp only [beq_self_eq_true, same_self, Bool.and_self]) hc7]; rfl
                · rcases (Bool.eq_false_or_eq_true (a.l == b.l)).symm with hc8 | hc8
                  · simp only [hc0, hc1, hc2, hc3, hc4, hc5, hc6, hc7, hc8, ty3, ty4, ty9, ty31, ty33, ty41, ty44, ty45, ty46, ty47, ty49, teq44, List.append_eq, nilV, k25, k26, cmpCells, aops_nil, aops_cons, aopsK, gstep, gdOf, aop, aPure, pval, lenVal, lenV, sliceV, appV, binV, rd, loV, hiV, noLoc, noLocs, fillV, chunks, splice, mkBox, aStore, aLoad, aCall_eq, callK, aAppend, V.cells, V.isCell, V.ofVal, V.ofCell, Value.oneCell', St.eval, St.put, dstOk, upd, entryE, env, locs, tst, k00, k01, k02, k03, k04, k05, k06, k07, k08, k09, k10, k11, k12, k13, k14, k15, k16, k17, k18, k19, k20, k21, k22, k23, k24, ↓reduceIte, reduceCtorEq, Nat.reduceLT, Nat.reduceLeDiff, Nat.reduceEqDiff, Nat.reduceAdd, Nat.reduceMul, Nat.reduceSub, Nat.reducePow, Nat.reduceMod, k27, Nat.zero_add, Nat.add_zero, k28, k29, k30, Bool.and_self, Bool.and_true, Bool.true_and, and_self, and_true, true_and, k31, k32, Nat.le_refl, Nat.zero_le, k33, k34]
                    refine hR2 _ ?_; clear hR2 R2
                    refine AWp.ret ?_
                    refine ret_intro (vs := [.base (.bool false)]) rfl (Wk.refl _) (Heap.le.refl _) ⟨?_, rfl⟩
                    rw [same_of_imp (fun e => by rw [e]; simp only [beq_self_eq_true, same_self, Bool.and_self]) hc8]; rfl
                  · rcases (Bool.eq_false_or_eq_true (a.r == b.r)).symm with hc9 | hc9
                    · simp only [hc0, hc1, hc2, hc3, hc4, hc5, hc6, hc7, hc8, hc9, ty3, ty4, ty9, ty31, ty33, ty41, ty44, ty45, ty46, ty47, ty49, teq44, List.append_eq, nilV, k25, k26, cmpCells, aops_nil, aops_cons, aopsK, gstep, gdOf, aop, aPure, pval, lenVal, lenV, sliceV, appV, binV, rd, loV, hiV, noLoc, noLocs, fillV, chunks, splice, mkBox, aStore, aLoad, aCall_eq, callK, aAppend, V.cells, V.isCell, V.ofVal, V.ofCell, Value.oneCell', St.eval, St.put, dstOk, upd, entryE, env, locs, tst, k00, k01, k02, k03, k04, k05, k06, k07, k08, k09, k10, k11, k12, k13, k14, k15, k16, k17, k18, k19, k20, k21, k22, k23, k24, ↓reduceIte, reduceCtorEq, Nat.reduceLT, Nat.reduceLeDiff, Nat.reduceEqDiff, Nat.reduceAdd, Nat.reduceMul, Nat.reduceSub, Nat.reducePow, Nat.reduceMod, k27, Nat.zero_add, Nat.add_zero, k28, k29, k30, Bool.and_self, Bool.and_true, Bool.true_and, and_self, and_true, true_and, k31, k32, Nat.le_refl, Nat.zero_le, k33, k34]
                      refine hR2 _ ?_; clear hR2 R2
                      refine AWp.ret ?_
                      refine ret_intro (vs := [.base (.bool false)]) rfl (Wk.refl _) (Heap.le.refl _) ⟨?_, rfl⟩
                      rw [same_of_imp (fun e => by rw [e]; simp only [beq_self_eq_true, same_self, Bool.and_self]) hc9]; rfl
                    · rcases (Bool.eq_false_or_eq_true (same a.args b.args)).symm with hc10 | hc10
                      · simp only [hc0, hc1, hc2, hc3, hc4, hc5, hc6, hc7, hc8, hc9, hc10, ty3, ty4, ty9, ty31, ty33, ty41, ty44, ty45, ty46, ty47, ty49, teq44, List.append_eq, nilV, k25, k26, cmpCells, aops_nil, aops_cons, aopsK, gstep, gdOf, aop, aPure, pval, lenVal, lenV, sliceV, appV, binV, rd, loV, hiV, noLoc, noLocs, fillV, chunks, splice, mkBox, aStore, aLoad, aCall_eq, callK, aAppend, V.cells, V.isCell, V.ofVal, V.ofCell, Value.oneCell', St.eval, St.put, dstOk, upd, entryE, env, locs, tst, k00, k01, k02, k03, k04, k05, k06, k07, k08, k09, k10, k11, k12, k13, k14, k15, k16, k17, k18, k19, k20, k21, k22, k23, k24, ↓reduceIte, reduceCtorEq, Nat.reduceLT, Nat.reduceLeDiff, Nat.reduceEqDiff, Nat.reduceAdd, Nat.reduceMul, Nat.reduceSub, Nat.reducePow, Nat.reduceMod, k27, Nat.zero_add, Nat.add_zero, k28, k29, k30, Bool.and_self, Bool.and_true, Bool.true_and, and_self, and_true, true_and, k31, k32, Nat.le_refl, Nat.zero_le, k33, k34]
                        refine (h57 _).mono fun v' s' h => ?_
                        rw [h.1, h.2]; clear h v' s'
                        simp only [vbool, hc0, hc1, hc2, hc3, hc4, hc5, hc6, hc7, hc8, hc9, hc10, ty3, ty4, ty9, ty31, ty33, ty41, ty44, ty45, ty46, ty47, ty49, teq44, List.append_eq, nilV, k25, k26, cmpCells, aops_nil, aops_cons, aopsK, gstep, gdOf, aop, aPure, pval, lenVal, lenV, sliceV, appV, binV, rd, loV, hiV, noLoc, noLocs, fillV, chunks, splice, mkBox, aStore, aLoad, aCall_eq, callK, aAppend, V.cells, V.isCell, V.ofVal, V.ofCell, Value.oneCell', St.eval, St.put, dstOk, upd, entryE, env, locs, tst, k00, k01, k02, k03, k04, k05, k06, k07, k08, k09, k10, k11, k12, k13, k14, k15, k16, k17, k18, k19, k20, k21, k22, k23, k24, ↓reduceIte, reduceCtorEq, Nat.reduceLT, Nat.reduceLeDiff, Nat.reduceEqDiff, Nat.reduceAdd, Nat.reduceMul, Nat.reduceSub, Nat.reducePow, Nat.reduceMod, k27, Nat.zero_add, Nat.add_zero, k28, k29, k30, Bool.and_self, Bool.and_true, Bool.true_and, and_self, and_true, true_and, k31, k32, Nat.le_refl, Nat.zero_le, k33, k34]
                        refine hR2 _ ?_; clear hR2 R2
                        refine AWp.ret ?_
                        refine ret_intro (vs := [.base (.bool false)]) rfl (Wk.refl _) (Heap.le.refl _) ⟨?_, rfl⟩
                        rw [same_of_imp (fun e => by rw [e]; simp only [beq_self_eq_true, same_self, Bool.and_self]) hc10]; rfl
                      · simp only [hc0, hc1, hc2, hc3, hc4, hc5, hc6, hc7, hc8, hc9, hc10, ty3, ty4, ty9, ty31, ty33, ty41, ty44, ty45, ty46, ty47, ty49, teq44, List.append_eq, nilV, k25, k26, cmpCells, aops_nil, aops_cons, aopsK, gstep, gdOf, aop, aPure, pval, lenVal, lenV, sliceV, appV, binV, rd, loV, hiV, noLoc, noLocs, fillV, chunks, splice, mkBox, aStore, aLoad, aCall_eq, callK, aAppend, V.cells, V.isCell, V.ofVal, V.ofCell, Value.oneCell', St.eval, St.put, dstOk, upd, entryE, env, locs, tst, k00, k01, k02, k03, k04, k05, k06, k07, k08, k09, k10, k11, k12, k13, k14, k15, k16, k17, k18, k19, k20, k21, k22, k23, k24, ↓reduceIte, reduceCtorEq, Nat.reduceLT, Nat.reduceLeDiff, Nat.reduceEqDiff, Nat.reduceAdd, Nat.reduceMul, Nat.reduceSub, Nat.reducePow, Nat.reduceMod, k27, Nat.zero_add, Nat.add_zero, k28, k29, k30, Bool.and_self, Bool.and_true, Bool.true_and, and_self, and_true, true_and, k31, k32, Nat.le_refl, Nat.zero_le, k33, k34]
                        refine (h57 _).mono fun v' s' h => ?_
                        rw [h.1, h.2]; clear h v' s'
                        simp only [vbool, hc0, hc1, hc2, hc3, hc4, hc5, hc6, hc7, hc8, hc9, hc10, ty3, ty4, ty9, ty31, ty33, ty41, ty44, ty45, ty46, ty47, ty49, teq44, List.append_eq, nilV, k25, k26, cmpCells, aops_nil, aops_cons, aopsK, gstep, gdOf, aop, aPure, pval, lenVal, lenV, sliceV, appV, binV, rd, loV, hiV, noLoc, noLocs, fillV, chunks, splice, mkBox, aStore, aLoad, aCall_eq, callK, aAppend, V.cells, V.isCell, V.ofVal, V.ofCell, Value.oneCell', St.eval, St.put, dstOk, upd, entryE, env, locs, tst, k00, k01, k02, k03, k04, k05, k06, k07, k08, k09, k10, k11, k12, k13, k14, k15, k16, k17, k18, k19, k20, k21, k22, k23, k24, ↓reduceIte, reduceCtorEq, Nat.reduceLT, Nat.reduceLeDiff, Nat.reduceEqDiff, Nat.reduceAdd, Nat.reduceMul, Nat.reduceSub, Nat.reducePow, Nat.reduceMod, k27, Nat.zero_add, Nat.add_zero, k28, k29, k30, Bool.and_self, Bool.and_true, Bool.true_and, and_self, and_true, true_and, k31, k32, Nat.le_refl, Nat.zero_le, k33, k34]
                        refine (h34 _).mono fun v' s' h => ?_
                        rw [h.1, h.2]; clear h v' s'
                        simp only [vbool, hc0, hc1, hc2, hc3, hc4, hc5, hc6, hc7, hc8, hc9, hc10, ty3, ty4, ty9, ty31, ty33, ty41, ty44, ty45, ty46, ty47, ty49, teq44, List.append_eq, nilV, k25, k26, cmpCells, aops_nil, aops_cons, aopsK, gstep, gdOf, aop, aPure, pval, lenVal, lenV, sliceV, appV, binV, rd, loV, hiV, noLoc, noLocs, fillV, chunks, splice, mkBox, aStore, aLoad, aCall_eq, callK, aAppend, V.cells, V.isCell, V.ofVal, V.ofCell, Value.oneCell', St.eval, St.put, dstOk, upd, entryE, env, locs, tst, k00, k01, k02, k03, k04, k05, k06, k07, k08, k09, k10, k11, k12, k13, k14, k15, k16, k17, k18, k19, k20, k21, k22, k23, k24, ↓reduceIte, reduceCtorEq, Nat.reduceLT, Nat.reduceLeDiff, Nat.reduceEqDiff, Nat.reduceAdd, Nat.reduceMul, Nat.reduceSub, Nat.reducePow, Nat.reduceMod, k27, Nat.zero_add, Nat.add_zero, k28, k29, k30, Bool.and_self, Bool.and_true, Bool.true_and, and_self, and_true, true_and, k31, k32, Nat.le_refl, Nat.zero_le, k33, k34]
                        refine hR2 _ ?_; clear hR2 R2
                        refine AWp.ret ?_
                        refine ret_intro (vs := [.base (.bool (same a.sub b.sub))]) rfl (Wk.refl _) (Heap.le.refl _) ⟨?_, rfl⟩
                        rw [Term.same_last a b hc0 hc1 hc2 hc3 hc4 hc5 hc6 hc7 hc8 hc9 hc10]; rfl
end Go.Proofs.YtcckhbconihagaaGreatDoor
/- Sources and aggregates compared. -/
set_option linter.unusedSimpArgs false
set_option linter.unusedVariables false
set_option maxRecDepth 100000
namespace Go.Proofs.YtcckhbconihagaaGreatDoor
open Go.Am Go.Pl
theorem From.same_last (a b : From) (h0 : (a.join == b.join) = true) (h1 : (a.kind == b.kind) = true) (h2 : (a.name.toList == b.name.toList) = true) (h3 : (a.n == b.n) = true) (h4 : (a.width == b.width) = true) (h5 : (same a.sub b.sub) = true) : same a b = (same a.on b.on) := by
  cases a; cases b; simp only [beq_iff_eq, bytes_beq, bytes_eq, same_iff, Bool.and_eq_true] at *; try refine same_eq_of ?_
  try (rw [Bool.eq_iff_iff, same_iff, beq_iff_eq])
  simp only [From.mk.injEq]; simp_all
theorem f102_spec (a b : From) (h34 : Gives Tryz.prog 34 [.slice 5 (a.sub.map Query.v), .slice 5 (b.sub.map Query.v)] (vbool (same a.sub b.sub))) (h57 : Gives Tryz.prog 57 [.slice 14 (a.on.map Term.v), .slice 14 (b.on.map Term.v)] (vbool (same a.on b.on))) : Gives Tryz.prog 102 [.agg a.v, .agg b.v] (vbool (same a b)) := by
  intro s
  rw [From.v_eq, From.v_eq]
  refine acalls_of (fn := Tryz.f102) Tryz.func102 rfl (by decide) (by show 2 ≤ 52; decide) ?_
  rw [Tryz.ntmps102]
  refine AWp.reg fun R1 hR1 => ?_
  simp only [ty107, nilV, k25, k26, cmpCells, aops_nil, aops_cons, aopsK, gstep, gdOf, aop, aPure, pval, lenVal, lenV, sliceV, appV, binV, rd, loV, hiV, noLoc, noLocs, fillV, chunks, splice, mkBox, aStore, aLoad, aCall_eq, callK, aAppend, V.cells, V.isCell, V.ofVal, V.ofCell, Value.oneCell', St.eval, St.put, dstOk, upd, entryE, env, locs, tst, k00, k01, k02, k03, k04, k05, k06, k07, k08, k09, k10, k11, k12, k13, k14, k15, k16, k17, k18, k19, k20, k21, k22, k23, k24, ↓reduceIte, reduceCtorEq, Nat.reduceLT, Nat.reduceLeDiff, Nat.reduceEqDiff, Nat.reduceAdd, Nat.reduceMul, Nat.reduceSub, Nat.reducePow, Nat.reduceMod, k27, Nat.zero_add, Nat.add_zero, k28, k29, k30, Bool.and_self, Bool.and_true, Bool.true_and, and_self, and_true, true_and, k31, k32, Nat.le_refl, Nat.zero_le, k33, k34]
  refine hR1 _ ?_; clear hR1 R1
  refine AWp.reg fun R2 hR2 => ?_
  rcases (Bool.eq_false_or_eq_true (a.join == b.join)).symm with hc0 | hc0
  · simp only [hc0, ty3, ty9, ty31, ty33, ty47, ty49, ty104, ty105, ty107, List.append_eq, nilV, k25, k26, cmpCells, aops_nil, aops_cons, aopsK, gstep, gdOf, aop, aPure, pval, lenVal, lenV, sliceV, appV, binV, rd, loV, hiV, noLoc, noLocs, fillV, chunks, splice, mkBox, aStore, aLoad, aCall_eq, callK, aAppend, V.cells, V.isCell, V.ofVal, V.ofCell, Value.oneCell', St.eval, St.put, dstOk, upd, entryE, env, locs, tst, k00, k01, k02, k03, k04, k05, k06, k07, k08, k09, k10, k11, k12, k13, k14, k15, k16, k17, k18, k19, k20, k21, k22, k23, k24, ↓reduceIte, reduceCtorEq, Nat.reduceLT, Nat.reduceLeDiff, Nat.reduceEqDiff, Nat.reduceAdd, Nat.reduceMul, Nat.reduceSub, Nat.reducePow, Nat.reduceMod, k27, Nat.zero_add, Nat.add_zero, k28, k29, k30, Bool.and_self, Bool.and_true, Bool.true_and, and_self, and_true, true_and, k31, k32, Nat.le_refl, Nat.zero_le, k33, k34]
    refine hR2 _ ?_; clear hR2 R2
    refine AWp.ret ?_
    refine ret_intro (vs := [.base (.bool false)]) rfl (Wk.refl _) (Heap.le.refl _) ⟨?_, rfl⟩
    rw [same_of_imp (fun e => by rw [e]; simp only [beq_self_eq_true, same_self, Bool.and_self]) hc0]; rfl
  · rcases (Bool.eq_false_or_eq_true (a.kind == b.kind)).symm with hc1 | hc1
    · simp only [hc0, hc1, ty3, ty9, ty31, ty33, ty47, ty49, ty104, ty105, ty107, List.append_eq, nilV, k25, k26, cmpCells, aops_nil, aops_cons, aopsK, gstep, gdOf, aop, aPure, pval, lenVal, lenV, sliceV, appV, binV, rd, loV, hiV, noLoc, noLocs, fillV, chunks, splice, mkBox, aStore, aLoad, aCall_eq, callK, aAppend, V.cells, V.isCell, V.ofVal, V.ofCell, Value.oneCell', St.eval, St.put, dstOk, upd, entryE, env, locs, tst, k00, k01, k02, k03, k04, k05, k06, k07, k08, k09, k10, k11, k12, k13, k14, k15, k16, k17, k18, k19, k20, k21, k22, k23, k24, ↓reduceIte, reduceCtorEq, Nat.reduceLT, Nat.reduceLeDiff, Nat.reduceEqDiff, Nat.reduceAdd, Nat.reduceMul, Nat.reduceSub, Nat.reducePow, Nat.reduceMod, k27, Nat.zero_add, Nat.add_zero, k28, k29, k30, Bool.and_self, Bool.and_true, Bool.true_and, and_self, and_true, true_and, k31, k32, Nat.le_refl, Nat.zero_le, k33, k34]
      refine hR2 _ ?_; clear hR2 R2
      refine AWp.ret ?_
      refine ret_intro (vs := [.base (.bool false)]) rfl (Wk.refl _) (Heap.le.refl _) ⟨?_, rfl⟩
      rw [same_of_imp (fun e => by rw [e]; simp only [beq_self_eq_true, same_self, Bool.and_self]) hc1]; rfl
    · rcases (Bool.eq_false_or_eq_true (a.name.toList == b.name.toList)).symm with hc2 | hc2
      · simp only [hc0, hc1, hc2, ty3, ty9, ty31, ty33, ty47, ty49, ty104, ty105, ty107, List.append_eq, nilV, k25, k26, cmpCells, aops_nil, aops_cons, aopsK, gstep, gdOf, aop, aPure, pval, lenVal, lenV, sliceV, appV, binV, rd, loV, hiV, noLoc, noLocs, fillV, chunks, splice, mkBox, aStore, aLoad, aCall_eq, callK, aAppend, V.cells, V.isCell, V.ofVal, V.ofCell, Value.oneCell', St.eval, St.put, dstOk, upd, entryE, env, locs, tst, k00, k01, k02, k03, k04, k05, k06, k07, k08, k09, k10, k11, k12, k13, k14, k15, k16, k17, k18, k19, k20, k21, k22, k23, k24, ↓reduceIte, reduceCtorEq, Nat.reduceLT, Nat.reduceLeDiff, Nat.reduceEqDiff, Nat.reduceAdd, Nat.reduceMul, Nat.reduceSub, Nat.reducePow, Nat.reduceMod, k27, Nat.zero_add, Nat.add_zero, k28, k29, k30, Bool.and_self, Bool.and_true, Bool.true_and, and_self, and_true, true_and, k31, k32, Nat.le_refl, Nat.zero_le, k33, k34]
        refine hR2 _ ?_; clear hR2 R2
        refine AWp.ret ?_
        refine ret_intro (vs := [.base (.bool false)]) rfl (Wk.refl _) (Heap.le.refl _) ⟨?_, rfl⟩
        rw [same_of_imp (fun e => by rw [e]; simp only [beq_self_eq_true, same_self, Bool.and_self]) hc2]; rfl
      · rcases (Bool.eq_false_or_eq_true (a.n == b.n)).symm with hc3 | hc3
        · simp only [hc0, hc1, hc2, hc3, ty3, ty9, ty31, ty33, ty47, ty49, ty104, ty105, ty107, List.append_eq, nilV, k25, k26, cmpCells, aops_nil, aops_cons, aopsK, gstep, gdOf, aop, aPure, pval, lenVal, lenV, sliceV, appV, binV, rd, loV, hiV, noLoc, noLocs, fillV, chunks, splice, mkBox, aStore, aLoad, aCall_eq, callK, aAppend, V.cells, V.isCell, V.ofVal, V.ofCell, Value.oneCell', St.eval, St.put, dstOk, upd, entryE, env, locs, tst, k00, k01, k02, k03, k04, k05, k06, k07, k08, k09, k10, k11, k12, k13, k14, k15, k16, k17, k18, k19, k20, k21, k22, k23, k24, ↓reduceIte, reduceCtorEq, Nat.reduceLT, Nat.reduceLeDiff, Nat.reduceEqDiff, Nat.reduceAdd, Nat.reduceMul, Nat.reduceSub, Nat.reducePow, Nat.reduceMod, k27, Nat.zero_add, Nat.add_zero, k28, k29, k30, Bool.and_self, Bool.and_true, Bool.true_and, and_self, and_true, true_and, k31, k32, Nat.le_refl, Nat.zero_le, k33, k34]
          refine hR2 _ ?_; clear hR2 R2
          refine AWp.ret ?_
          refine ret_intro (vs := [.base (.bool false)]) rfl (Wk.refl _) (Heap.le.refl _) ⟨?_, rfl⟩
          rw [same_of_imp (fun e => by rw [e]; simp only [beq_self_eq_true, same_self, Bool.and_self]) hc3]; rfl
        · rcases (Bool.eq_false_or_eq_true (a.width == b.width)).symm with hc4 | hc4
          · simp only [hc0, hc1, hc2, hc3, hc4, ty3, ty9, ty31, ty33, ty47, ty49, ty104, ty105, ty107, List.append_eq, nilV, k25, k26, cmpCells, aops_nil, aops_cons, aopsK, gstep, gdOf, aop, aPure, pval, lenVal, lenV, sliceV, appV, binV, rd, loV, hiV, noLoc, noLocs, fillV, chunks, splice, mkBox, aStore, aLoad, aCall_eq, callK, aAppend, V.cells, V.isCell, V.ofVal, V.ofCell, Value.oneCell', St.eval, St.put, dstOk, upd, entryE, env, locs, tst, k00, k01, k02, k03, k04, k05, k06, k07, k08, k09, k10, k11, k12, k13, k14, k15, k16, k17, k18, k19, k20, k21, k22, k23, k24, ↓reduceIte, reduceCtorEq, Nat.reduceLT, Nat.reduceLeDiff, Nat.reduceEqDiff, Nat.reduceAdd, Nat.reduceMul, Nat.reduceSub, Nat.reducePow, Nat.reduceMod, k27, Nat.zero_add, Nat.add_zero, k28, k29, k30, Bool.and_self, Bool.and_true, Bool.true_and, and_self, and_true, true_and, k31, k32, Nat.le_refl, Nat.zero_le, k33, k34]
            refine hR2 _ ?_; clear hR2 R2
            refine AWp.ret ?_
            refine ret_intro (vs := [.base (.bool false)]) rfl (Wk.refl _) (Heap.le.refl _) ⟨?_, rfl⟩
            rw [same_of_imp (fun e => by rw [e]; simp only [beq_self_eq_true, same_self, Bool.and_self]) hc4]; rfl
          · rcases (Bool.eq_false_or_eq_true (same a.sub b.sub)).symm with hc5 | hc5
            · simp only [hc0, hc1, hc2, hc3, hc4, hc5, ty3, ty9, ty31, ty33, ty47, ty49, ty104, ty105, ty107, List.append_eq, nilV, k25, k26, cmpCells, aops_nil, aops_cons, aopsK, gstep, gdOf, aop, aPure, pval, lenVal, lenV, sliceV, appV, binV, rd, loV, hiV, noLoc, noLocs, fillV, chunks, splice, mkBox, aStore, aLoad, aCall_eq, callK, aAppend, V.cells, V.isCell, V.ofVal, V.ofCell, Value.oneCell', St.eval, St.put, dstOk, upd, entryE, env, locs, tst, k00, k01, k02, k03, k04, k05, k06, k07, k08, k09, k10, k11, k12, k13, k14, k15, k16, k17, k18, k19, k20, k21, k22, k23, k24, ↓reduceIte, reduceCtorEq, Nat.reduceLT, Nat.reduceLeDiff, Nat.reduceEqDiff, Nat.reduceAdd, Nat.reduceMul, Nat.reduceSub, Nat.reducePow, Nat.reduceMod, k27, Nat.zero_add, Nat.add_zero, k28, k29, k30, Bool.and_self, Bool.and_true, Bool.true_and, and_self, and_true, true_and, k31, k32, Nat.le_refl, Nat.zero_le, k33, k34]
              refine (h34 _).mono fun v' s' h => ?_
              rw [h.1, h.2]; clear h v' s'
              simp only [vbool, hc0, hc1, hc2, hc3, hc4, hc5, ty3, ty9, ty31, ty33, ty47, ty49, ty104, ty105, ty107, List.append_eq, nilV, k25, k26, cmpCells, aops_nil, aops_cons, aopsK, gstep, gdOf, aop, aPure, pval, lenVal, lenV, sliceV, appV, binV, rd, loV, hiV, noLoc, noLocs, fillV, chunks, splice, mkBox, aStore, aLoad, aCall_eq, callK, aAppend, V.cells, V.isCell, V.ofVal, V.ofCell, Value.oneCell', St.eval, St.put, dstOk, upd, entryE, env, locs, tst, k00, k01, k02, k03, k04, k05, k06, k07, k08, k09, k10, k11, k12, k13, k14, k15, k16, k17, k18, k19, k20, k21, k22, k23, k24, ↓reduceIte, reduceCtorEq, Nat.reduceLT, Nat.reduceLeDiff, Nat.reduceEqDiff, Nat.reduceAdd, Nat.reduceMul, Nat.reduceSub, Nat.reducePow, Nat.reduceMod, k27, Nat.zero_add, Nat.add_zero, k28, k29, k30, Bool.and_self, Bool.and_true, Bool.true_and, and_self, and_true, true_and, k31, k32, Nat.le_refl, Nat.zero_le, k33, k34]
              refine hR2 _ ?_; clear hR2 R2
              refine AWp.ret ?_
              refine ret_intro (vs := [.base (.bool false)]) rfl (Wk.refl _) (Heap.le.refl _) ⟨?_, rfl⟩
              rw [same_of_imp (fun e => by rw [e]; simp only [beq_self_eq_true, same_self, Bool.and_self]) hc5]; rfl
            · simp only [hc0, hc1, hc2, hc3, hc4, hc5, ty3, ty9, ty31, ty33, ty47, ty49, ty104, ty105, ty107, List.append_eq, nilV, k25, k26, cmpCells, aops_nil, aops_cons, aopsK, gstep, gdOf, aop, aPure, pval, lenVal, lenV, sliceV, appV, binV, rd, loV, hiV, noLoc, noLocs, fillV, chunks, splice, mkBox, aStore, aLoad, aCall_eq, callK, aAppend, V.cells, V.isCell, V.ofVal, V.ofCell, Value.oneCell', St.eval, St.put, dstOk, upd, entryE, env, locs, tst, k00, k01, k02, k03, k04, k05, k06, k07, k08, k09, k10, k11, k12, k13, k14, k15, k16, k17, k18, k19, k20, k21, k22, k23, k24, ↓reduceIte, reduceCtorEq, Nat.reduceLT, Nat.reduceLeDiff, Nat.reduceEqDiff, Nat.reduceAdd, Nat.reduceMul, Nat.reduceSub, Nat.reducePow, Nat.reduceMod, k27, Nat.zero_add, Nat.add_zero, k28, k29, k30, Bool.and_self, Bool.and_true, Bool.true_and, and_self, and_true, true_and, k31, k32, Nat.le_refl, Nat.zero_le, k33, k34]
              refine (h34 _).mono fun v' s' h => ?_
              rw [h.1, h.2]; clear h v' s'
              simp only [vbool, hc0, hc1, hc2, hc3, hc4, hc5, ty3, ty9, ty31, ty33, ty47, ty49, ty104, ty105, ty107, List.append_eq, nilV, k25, k26, cmpCells, aops_nil, aops_cons, aopsK, gstep, gdOf, aop, aPure, pval, lenVal, lenV, sliceV, appV, binV, rd, loV, hiV, noLoc, noLocs, fillV, chunks, splice, mkBox, aStore, aLoad, aCall_eq, callK, aAppend, V.cells, V.isCell, V.ofVal, V.ofCell, Value.oneCell', St.eval, St.put, dstOk, upd, entryE, env, locs, tst, k00, k01, k02, k03, k04, k05, k06, k07, k08, k09, k10, k11, k12, k13, k14, k15, k16, k17, k18, k19, k20, k21, k22, k23, k24, ↓reduceIte, reduceCtorEq, Nat.reduceLT, Nat.reduceLeDiff, Nat.reduceEqDiff, Nat.reduceAdd, Nat.reduceMul, Nat.reduceSub, Nat.reducePow, Nat.reduceMod, k27, Nat.zero_add, Nat.add_zero, k28, k29, k30, Bool.and_self, Bool.and_true, Bool.true_and, and_self, and_true, true_and, k31, k32, Nat.le_refl, Nat.zero_le, k33, k34]
              refine (h57 _).mono fun v' s' h => ?_
              rw [h.1, h.2]; clear h v' s'
              simp only [vbool, hc0, hc1, hc2, hc3, hc4, hc5, ty3, ty9, ty31, ty33, ty47, ty49, ty104, ty105, ty107, List.append_eq, nilV, k25, k26, cmpCells, aops_nil, aops_cons, aopsK, gstep, gdOf, aop, aPure, pval, lenVal, lenV, sliceV, appV, binV, rd, loV, hiV, noLoc, noLocs, fillV, chunks, splice, mkBox, aStore, aLoad, aCall_eq, callK, aAppend, V.cells, V.isCell, V.ofVal, V.ofCell, Value.oneCell', St.eval, St.put, dstOk, upd, entryE, env, locs, tst, k00, k01, k02, k03, k04, k05, k06, k07, k08, k09, k10, k11, k12, k13, k14, k15, k16, k17, k18, k19, k20, k21, k22, k23, k24, ↓reduceIte, reduceCtorEq, Nat.reduceLT, Nat.reduceLeDiff, Nat.reduceEqDiff, Nat.reduceAdd, Nat.reduceMul, Nat.reduceSub, Nat.reducePow, Nat.reduceMod, k27, Nat.zero_add, Nat.add_zero, k28, k29, k30, Bool.and_self, Bool.and_true, Bool.true_and, and_self, and_true, true_and, k31, k32, Nat.le_refl, Nat.zero_le, k33, k34]
              refine hR2 _ ?_; clear hR2 R2
              refine AWp.ret ?_
              refine ret_intro (vs := [.base (.bool (same a.on b.on))]) rfl (Wk.refl _) (Heap.le.refl _) ⟨?_, rfl⟩
              rw [From.same_last a b hc0 hc1 hc2 hc3 hc4 hc5]; rfl
theorem Agg.same_last (a b : Agg) (h0 : (a.name.toList == b.name.toList) = true) (h1 : (a.distinct == b.distinct) = true) (h2 : (a.star == b.star) = true) (h3 : (a.coll == b.coll) = true) : same a b = (same a.arg b.arg) := by
  cases a; cases b; simp only [beq_iff_eq, bytes_beq, bytes_eq, same_iff, Bool.and_eq_true] at *; try refine same_eq_of ?_
  try (rw [Bool.eq_iff_iff, same_iff, beq_iff_eq])
  simp only [Agg.mk.injEq]; simp_all
theorem f103_spec (a b : Agg) (h57 : Gives Tryz.prog 57 [.slice 14 (a.arg.map Term.v), .slice 14 (b.arg.map Term.v)] (vbool (same a.arg b.arg))) : Gives Tryz.prog 103 [.agg a.v, .agg b.v] (vbool (same a b)) := by
  intro s
  rw [Agg.v_eq, Agg.v_eq]
  refine acalls_of (fn := Tryz.f103) Tryz.func103 rfl (by decide) (by show 2 ≤ 38; decide) ?_
  rw [Tryz.ntmps103]
  refine AWp.reg fun R1 hR1 => ?_
  simp only [ty130, nilV, k25, k26, cmpCells, aops_nil, aops_cons, aopsK, gstep, gdOf, aop, aPure, pval, lenVal, lenV, sliceV, appV, binV, rd, loV, hiV, noLoc, noLocs, fillV, chunks, splice, mkBox, aStore, aLoad, aCall_eq, callK, aAppend, V.cells, V.isCell, V.ofVal, V.ofCell, Value.oneCell', St.eval, St.put, dstOk, upd, entryE, env, locs, tst, k00, k01, k02, k03, k04, k05, k06, k07, k08, k09, k10, k11, k12, k13, k14, k15, k16, k17, k18, k19, k20, k21, k22, k23, k24, ↓reduceIte, reduceCtorEq, Nat.reduceLT, Nat.reduceLeDiff, Nat.reduceEqDiff, Nat.reduceAdd, Nat.reduceMul, Nat.reduceSub, Nat.reducePow, Nat.reduceMod, k27, Nat.zero_add, Nat.add_zero, k28, k29, k30, Bool.and_self, Bool.and_true, Bool.true_and, and_self, and_true, true_and, k31, k32, Nat.le_refl, Nat.zero_le, k33, k34]
  refine hR1 _ ?_; clear hR1 R1
  refine AWp.reg fun R2 hR2 => ?_
  rcases (Bool.eq_false_or_eq_true (a.name.toList == b.name.toList)).symm with hc0 | hc0
  · simp only [hc0, ty4, ty9, ty31, ty45, ty49, ty130, List.append_eq, nilV, k25, k26, cmpCells, aops_nil, aops_cons, aopsK, gstep, gdOf, aop, aPure, pval, lenVal, lenV, sliceV, appV, binV, rd, loV, hiV, noLoc, noLocs, fillV, chunks, splice, mkBox, aStore, aLoad, aCall_eq, callK, aAppend, V.cells, V.isCell, V.ofVal, V.ofCell, Value.oneCell', St.eval, St.put, dstOk, upd, entryE, env, locs, tst, k00, k01, k02, k03, k04, k05, k06, k07, k08, k09, k10, k11, k12, k13, k14, k15, k16, k17, k18, k19, k20, k21, k22, k23, k24, ↓reduceIte, reduceCtorEq, Nat.reduceLT, Nat.reduceLeDiff, Nat.reduceEqDiff, Nat.reduceAdd, Nat.reduceMul, Nat.reduceSub, Nat.reducePow, Nat.reduceMod, k27, Nat.zero_add, Nat.add_zero, k28, k29, k30, Bool.and_self, Bool.and_true, Bool.true_and, and_self, and_true, true_and, k31, k32, Nat.le_refl, Nat.zero_le, k33, k34]
    refine hR2 _ ?_; clear hR2 R2
    refine AWp.ret ?_
    refine ret_intro (vs := [.base (.bool false)]) rfl (Wk.refl _) (Heap.le.refl _) ⟨?_, rfl⟩
    rw [same_of_imp (fun e => by rw [e]; simp only [beq_self_eq_true, same_self, Bool.and_self]) hc0]; rfl
  · rcases (Bool.eq_false_or_eq_true (a.distinct == b.distinct)).symm with hc1 | hc1
    · simp only [hc0, hc1, ty4, ty9, ty31, ty45, ty49, ty130, List.append_eq, nilV, k25, k26, cmpCells, aops_nil, aops_cons, aopsK, gstep, gdOf, aop, aPure, pval, lenVal, lenV, sliceV, appV, binV, rd, loV, hiV, noLoc, noLocs, fillV, chunks, splice, mkBox, aStore, aLoad, aCall_eq, callK, aAppend, V.cells, V.isCell, V.ofVal, V.ofCell, Value.oneCell', St.eval, St.put, dstOk, upd, entryE, env, locs, tst, k00, k01, k02, k03, k04, k05, k06, k07, k08, k09, k10, k11, k12, k13, k14, k15, k16, k17, k18, k19, k20, k21, k22, k23, k24, ↓reduceIte, reduceCtorEq, Nat.reduceLT, Nat.reduceLeDiff, Nat.reduceEqDiff, Nat.reduceAdd, Nat.reduceMul, Nat.reduceSub, Nat.reducePow, Nat.reduceMod, k27, Nat.zero_add, Nat.add_zero, k28, k29, k30, Bool.and_self, Bool.and_true, Bool.true_and, and_self, and_true, true_and, k31, k32, Nat.le_refl, Nat.zero_le, k33, k34]
      refine hR2 _ ?_; clear hR2 R2
      refine AWp.ret ?_
      refine ret_intro (vs := [.base (.bool false)]) rfl (Wk.refl _) (Heap.le.refl _) ⟨?_, rfl⟩
      rw [same_of_imp (fun e => by rw [e]; simp only [beq_self_eq_true, same_self, Bool.and_self]) hc1]; rfl
    · rcases (Bool.eq_false_or_eq_true (a.star == b.star)).symm with hc2 | hc2
      · simp only [hc0, hc1, hc2, ty4, ty9, ty31, ty45, ty49, ty130, List.append_eq, nilV, k25, k26, cmpCells, aops_nil, aops_cons, aopsK, gstep, gdOf, aop, aPure, pval, lenVal, lenV, sliceV, appV, binV, rd, loV, hiV, noLoc, noLocs, fillV, chunks, splice, mkBox, aStore, aLoad, aCall_eq, callK, aAppend, V.cells, V.isCell, V.ofVal, V.ofCell, Value.oneCell', St.eval, St.put, dstOk, upd, entryE, env, locs, tst, k00, k01, k02, k03, k04, k05, k06, k07, k08, k09, k10, k11, k12, k13, k14, k15, k16, k17, k18, k19, k20, k21, k22, k23, k24, ↓reduceIte, reduceCtorEq, Nat.reduceLT, Nat.reduceLeDiff, Nat.reduceEqDiff, Nat.reduceAdd, Nat.reduceMul, Nat.reduceSub, Nat.reducePow, Nat.reduceMod, k27, Nat.zero_add, Nat.add_zero, k28, k29, k30, Bool.and_self, Bool.and_true, Bool.true_and, and_self, and_true, true_and, k31, k32, Nat.le_refl, Nat.zero_le, k33, k34]
        refine hR2 _ ?_; clear hR2 R2
        refine AWp.ret ?_
        refine ret_intro (vs := [.base (.bool false)]) rfl (Wk.refl _) (Heap.le.refl _) ⟨?_, rfl⟩
        rw [same_of_imp (fun e => by rw [e]; simp only [beq_self_eq_true, same_self, Bool.and_self]) hc2]; rfl
      · rcases (Bool.eq_false_or_eq_true (a.coll == b.coll)).symm with hc3 | hc3
        · simp only [hc0, hc1, hc2, hc3, ty4, ty9, ty31, ty45, ty49, ty130, List.append_eq, nilV, k25, k26, cmpCells, aops_nil, aops_cons, aopsK, gstep, gdOf, aop, aPure, pval, lenVal, lenV, sliceV, appV, binV, rd, loV, hiV, noLoc, noLocs, fillV, chunks, splice, mkBox, aStore, aLoad, aCall_eq, callK, aAppend, V.cells, V.isCell, V.ofVal, V.ofCell, Value.oneCell', St.eval, St.put, dstOk, upd, entryE, env, locs, tst, k00, k01, k02, k03, k04, k05, k06, k07, k08, k09, k10, k11, k12, k13, k14, k15, k16, k17, k18, k19, k20, k21, k22, k23, k24, ↓reduceIte, reduceCtorEq, Nat.reduceLT, Nat.reduceLeDiff, Nat.reduceEqDiff, Nat.reduceAdd, Nat.reduceMul, Nat.reduceSub, Nat.reducePow, Nat.reduceMod, k27, Nat.zero_add, Nat.add_zero, k28, k29, k30, Bool.and_self, Bool.and_true, Bool.true_and, and_self, and_true, true_and, k31, k32, Nat.le_refl, Nat.zero_le, k33, k34]
          refine hR2 _ ?_; clear hR2 R2
          refine AWp.ret ?_
          refine ret_intro (vs := [.base (.bool false)]) rfl (Wk.refl _) (Heap.le.refl _) ⟨?_, rfl⟩
          rw [same_of_imp (fun e => by rw [e]; simp only [beq_self_eq_true, same_self, Bool.and_self]) hc3]; rfl
        · simp only [hc0, hc1, hc2, hc3, ty4, ty9, ty31, ty45, ty49, ty130, List.append_eq, nilV, k25, k26, cmpCells, aops_nil, aops_cons, aopsK, gstep, gdOf, aop, aPure, pval, lenVal, lenV, sliceV, appV, binV, rd, loV, hiV, noLoc, noLocs, fillV, chunks, splice, mkBox, aStore, aLoad, aCall_eq, callK, aAppend, V.cells, V.isCell, V.ofVal, V.ofCell, Value.oneCell', St.eval, St.put, dstOk, upd, entryE, env, locs, tst, k00, k01, k02, k03, k04, k05, k06, k07, k08, k09, k10, k11, k12, k13, k14, k15, k16, k17, k18, k19, k20, k21, k22, k23, k24, ↓reduceIte, reduceCtorEq, Nat.reduceLT, Nat.reduceLeDiff, Nat.reduceEqDiff, Nat.reduceAdd, Nat.reduceMul, Nat.reduceSub, Nat.reducePow, Nat.reduceMod, k27, Nat.zero_add, Nat.add_zero, k28, k29, k30, Bool.and_self, Bool.and_true, Bool.true_and, and_self, and_true, true_and, k31, k32, Nat.le_refl, Nat.zero_le, k33, k34]
          refine (h57 _).mono fun v' s' h => ?_
          rw [h.1, h.2]; clear h v' s'
          simp only [vbool, hc0, hc1, hc2, hc3, ty4, ty9, ty31, ty45, ty49, ty130, List.append_eq, nilV, k25, k26, cmpCells, aops_nil, aops_cons, aopsK, gstep, gdOf, aop, aPure, pval, lenVal, lenV, sliceV, appV, binV, rd, loV, hiV, noLoc, noLocs, fillV, chunks, splice, mkBox, aStore, aLoad, aCall_eq, callK, aAppend, V.cells, V.isCell, V.ofVal, V.ofCell, Value.oneCell', St.eval, St.put, dstOk, upd, entryE, env, locs, tst, k00, k01, k02, k03, k04, k05, k06, k07, k08, k09, k10, k11, k12, k13, k14, k15, k16, k17, k18, k19, k20, k21, k22, k23, k24, ↓reduceIte, reduceCtorEq, Nat.reduceLT, Nat.reduceLeDiff, Nat.reduceEqDiff, Nat.reduceAdd, Nat.reduceMul, Nat.reduceSub, Nat.reducePow, Nat.reduceMod, k27, Nat.zero_add, Nat.add_zero, k28, k29, k30, Bool.and_self, Bool.and_true, Bool.true_and, and_self, and_true, true_and, k31, k32, Nat.le_refl, Nat.zero_le, k33, k34]
          refine hR2 _ ?_; clear hR2 R2
          refine AWp.ret ?_
          refine ret_intro (vs := [.base (.bool (same a.arg b.arg))]) rfl (Wk.refl _) (Heap.le.refl _) ⟨?_, rfl⟩
          rw [Agg.same_last a b hc0 hc1 hc2 hc3]; rfl
end Go.Proofs.YtcckhbconihagaaGreatDoor
/- Texts and bounds compared. -/
set_option linter.unusedSimpArgs false
set_option linter.unusedVariables false
set_option maxRecDepth 100000
namespace Go.Proofs.YtcckhbconihagaaGreatDoor
open Go.Am Go.Pl
theorem f33_spec (la lb : List ByteArray) : Gives Tryz.prog 33 [vstrs la, vstrs lb] (vbool (same la lb)) := by
  intro s
  refine acalls_of (fn := Tryz.f33) Tryz.func33 rfl (by decide) (by show 2 ≤ 26; decide) ?_
  rw [Tryz.ntmps33]
  refine AWp.reg fun R1 hR1 => ?_
  simp only [nilV, k25, k26, cmpCells, aops_nil, aops_cons, aopsK, gstep, gdOf, aop, aPure, pval, lenVal, lenV, sliceV, appV, binV, rd, loV, hiV, noLoc, noLocs, fillV, chunks, splice, mkBox, aStore, aLoad, aCall_eq, callK, aAppend, V.cells, V.isCell, V.ofVal, V.ofCell, Value.oneCell', St.eval, St.put, dstOk, upd, entryE, env, locs, tst, k00, k01, k02, k03, k04, k05, k06, k07, k08, k09, k10, k11, k12, k13, k14, k15, k16, k17, k18, k19, k20, k21, k22, k23, k24, ↓reduceIte, reduceCtorEq, Nat.reduceLT, Nat.reduceLeDiff, Nat.reduceEqDiff, Nat.reduceAdd, Nat.reduceMul, Nat.reduceSub, Nat.reducePow, Nat.reduceMod, k27, Nat.zero_add, Nat.add_zero, k28, k29, k30, Bool.and_self, Bool.and_true, Bool.true_and, and_self, and_true, true_and, k31, k32, Nat.le_refl, Nat.zero_le, k33, k34]
  refine hR1 _ ?_; clear hR1 R1
  refine AWp.seq_k fun K2 hK2 => ?_
  refine AWp.reg fun R3 hR3 => ?_
  simp only [ty3, ty9, ty28, nilV, k25, k26, cmpCells, aops_nil, aops_cons, aopsK, gstep, gdOf, aop, aPure, pval, lenVal, lenV, sliceV, appV, binV, rd, loV, hiV, noLoc, noLocs, fillV, chunks, splice, mkBox, aStore, aLoad, aCall_eq, callK, aAppend, V.cells, V.isCell, V.ofVal, V.ofCell, Value.oneCell', St.eval, St.put, dstOk, upd, entryE, env, locs, tst, k00, k01, k02, k03, k04, k05, k06, k07, k08, k09, k10, k11, k12, k13, k14, k15, k16, k17, k18, k19, k20, k21, k22, k23, k24, ↓reduceIte, reduceCtorEq, Nat.reduceLT, Nat.reduceLeDiff, Nat.reduceEqDiff, Nat.reduceAdd, Nat.reduceMul, Nat.reduceSub, Nat.reducePow, Nat.reduceMod, k27, Nat.zero_add, Nat.add_zero, k28, k29, k30, Bool.and_self, Bool.and_true, Bool.true_and, and_self, and_true, true_and, k31, k32, Nat.le_refl, Nat.zero_le, k33, k34]
  refine hR3 _ ?_; clear hR3 R3
  refine AWp.cond (t := ((la.length : Int) != lb.length)) (by simp only [nilV, k25, k26, cmpCells, aops_nil, aops_cons, aopsK, gstep, gdOf, aop, aPure, pval, lenVal, lenV, sliceV, appV, binV, rd, loV, hiV, noLoc, noLocs, fillV, chunks, splice, mkBox, aStore, aLoad, aCall_eq, callK, aAppend, V.cells, V.isCell, V.ofVal, V.ofCell, Value.oneCell', St.eval, St.put, dstOk, upd, entryE, env, locs, tst, k00, k01, k02, k03, k04, k05, k06, k07, k08, k09, k10, k11, k12, k13, k14, k15, k16, k17, k18, k19, k20, k21, k22, k23, k24, ↓reduceIte, reduceCtorEq, Nat.reduceLT, Nat.reduceLeDiff, Nat.reduceEqDiff, Nat.reduceAdd, Nat.reduceMul, Nat.reduceSub, Nat.reducePow, Nat.reduceMod, k27, Nat.zero_add, Nat.add_zero, k28, k29, k30, Bool.and_self, Bool.and_true, Bool.true_and, and_self, and_true, true_and, k31, k32, Nat.le_refl, Nat.zero_le, k33, k34]) (fun ht => ?_) (fun ht => ?_)
  · have hne : la.length ≠ lb.length := by have := bne_iff_ne.1 ht; omega
    refine AWp.reg fun R4 hR4 => ?_
    simp only [nilV, k25, k26, cmpCells, aops_nil, aops_cons, aopsK, gstep, gdOf, aop, aPure, pval, lenVal, lenV, sliceV, appV, binV, rd, loV, hiV, noLoc, noLocs, fillV, chunks, splice, mkBox, aStore, aLoad, aCall_eq, callK, aAppend, V.cells, V.isCell, V.ofVal, V.ofCell, Value.oneCell', St.eval, St.put, dstOk, upd, entryE, env, locs, tst, k00, k01, k02, k03, k04, k05, k06, k07, k08, k09, k10, k11, k12, k13, k14, k15, k16, k17, k18, k19, k20, k21, k22, k23, k24, ↓reduceIte, reduceCtorEq, Nat.reduceLT, Nat.reduceLeDiff, Nat.reduceEqDiff, Nat.reduceAdd, Nat.reduceMul, Nat.reduceSub, Nat.reducePow, Nat.reduceMod, k27, Nat.zero_add, Nat.add_zero, k28, k29, k30, Bool.and_self, Bool.and_true, Bool.true_and, and_self, and_true, true_and, k31, k32, Nat.le_refl, Nat.zero_le, k33, k34]
    refine hR4 _ ?_; clear hR4 R4
    refine AWp.ret ?_
    refine ret_intro (vs := [.base (.bool false)]) rfl (Wk.refl _) (Heap.le.refl _) ⟨?_, rfl⟩
    rw [same_false.2 (fun e => hne (by rw [e]))]; rfl
  · have hlen : la.length = lb.length := by have := (bne_eq_false_iff_eq).1 ht; omega
    refine AWp.skip ?_
    refine hK2 _ ?_; clear hK2
    refine AWp.seq_k fun K5 hK5 => ?_
    refine AWp.reg fun R6 hR6 => ?_
    simp only [nilV, k25, k26, cmpCells, aops_nil, aops_cons, aopsK, gstep, gdOf, aop, aPure, pval, lenVal, lenV, sliceV, appV, binV, rd, loV, hiV, noLoc, noLocs, fillV, chunks, splice, mkBox, aStore, aLoad, aCall_eq, callK, aAppend, V.cells, V.isCell, V.ofVal, V.ofCell, Value.oneCell', St.eval, St.put, dstOk, upd, entryE, env, locs, tst, k00, k01, k02, k03, k04, k05, k06, k07, k08, k09, k10, k11, k12, k13, k14, k15, k16, k17, k18, k19, k20, k21, k22, k23, k24, ↓reduceIte, reduceCtorEq, Nat.reduceLT, Nat.reduceLeDiff, Nat.reduceEqDiff, Nat.reduceAdd, Nat.reduceMul, Nat.reduceSub, Nat.reducePow, Nat.reduceMod, k27, Nat.zero_add, Nat.add_zero, k28, k29, k30, Bool.and_self, Bool.and_true, Bool.true_and, and_self, and_true, true_and, k31, k32, Nat.le_refl, Nat.zero_le, k33, k34]
    refine hR6 _ ?_; clear hR6 R6
    refine AWp.block ?_
    refine AWp.slen 0 (sz := 1) (es := la.map (fun x => [vstr x])) (by simp only [nilV, k25, k26, cmpCells, aops_nil, aops_cons, aopsK, gstep, gdOf, aop, aPure, pval, lenVal, lenV, sliceV, appV, binV, rd, loV, hiV, noLoc, noLocs, fillV, chunks, splice, mkBox, aStore, aLoad, aCall_eq, callK, aAppend, V.cells, V.isCell, V.ofVal, V.ofCell, Value.oneCell', St.eval, St.put, dstOk, upd, entryE, env, locs, tst, k00, k01, k02, k03, k04, k05, k06, k07, k08, k09, k10, k11, k12, k13, k14, k15, k16, k17, k18, k19, k20, k21, k22, k23, k24, ↓reduceIte, reduceCtorEq, Nat.reduceLT, Nat.reduceLeDiff, Nat.reduceEqDiff, Nat.reduceAdd, Nat.reduceMul, Nat.reduceSub, Nat.reducePow, Nat.reduceMod, k27, Nat.zero_add, Nat.add_zero, k28, k29, k30, Bool.and_self, Bool.and_true, Bool.true_and, and_self, and_true, true_and, k31, k32, Nat.le_refl, Nat.zero_le, k33, k34]) fun hmax => ?_
    have hmx := maxLen_lt; rw [List.length_map] at hmax
    refine AWp.loopT (ι := Nat) (fun i => i ≤ la.length ∧ la.take i = lb.take i) (fun i => tst [(0, .slice 1 (la.map (fun x => [vstr x]))), (1, .slice 1 (lb.map (fun x => [vstr x]))), (5, vint i)] [] s 26) (fun i => la.length - i) 0 ⟨⟨Nat.zero_le _, by simp⟩, ?_⟩ ?_
    · refine le_tst ?_ ?_ ?_ (Heap.le.refl _) rfl
      · simp only [leE, nilV, k25, k26, cmpCells, aops_nil, aops_cons, aopsK, gstep, gdOf, aop, aPure, pval, lenVal, lenV, sliceV, appV, binV, rd, loV, hiV, noLoc, noLocs, fillV, chunks, splice, mkBox, aStore, aLoad, aCall_eq, callK, aAppend, V.cells, V.isCell, V.ofVal, V.ofCell, Value.oneCell', St.eval, St.put, dstOk, upd, entryE, env, locs, tst, k00, k01, k02, k03, k04, k05, k06, k07, k08, k09, k10, k11, k12, k13, k14, k15, k16, k17, k18, k19, k20, k21, k22, k23, k24, ↓reduceIte, reduceCtorEq, Nat.reduceLT, Nat.reduceLeDiff, Nat.reduceEqDiff, Nat.reduceAdd, Nat.reduceMul, Nat.reduceSub, Nat.reducePow, Nat.reduceMod, k27, Nat.zero_add, Nat.add_zero, k28, k29, k30, Bool.and_self, Bool.and_true, Bool.true_and, and_self, and_true, true_and, k31, k32, Nat.le_refl, Nat.zero_le, k33, k34]; simp
      · simp only [okL, and_self]
      · simp only [leB]
    · rintro i ⟨hi, hno⟩
      refine AWp.seq_k fun K7 hK7 => ?_
      refine AWp.reg fun R8 hR8 => ?_
      simp only [ty3, ty9, ty28, nilV, k25, k26, cmpCells, aops_nil, aops_cons, aopsK, gstep, gdOf, aop, aPure, pval, lenVal, lenV, sliceV, appV, binV, rd, loV, hiV, noLoc, noLocs, fillV, chunks, splice, mkBox, aStore, aLoad, aCall_eq, callK, aAppend, V.cells, V.isCell, V.ofVal, V.ofCell, Value.oneCell', St.eval, St.put, dstOk, upd, entryE, env, locs, tst, k00, k01, k02, k03, k04, k05, k06, k07, k08, k09, k10, k11, k12, k13, k14, k15, k16, k17, k18, k19, k20, k21, k22, k23, k24, ↓reduceIte, reduceCtorEq, Nat.reduceLT, Nat.reduceLeDiff, Nat.reduceEqDiff, Nat.reduceAdd, Nat.reduceMul, Nat.reduceSub, Nat.reducePow, Nat.reduceMod, k27, Nat.zero_add, Nat.add_zero, k28, k29, k30, Bool.and_self, Bool.and_true, Bool.true_and, and_self, and_true, true_and, k31, k32, Nat.le_refl, Nat.zero_le, k33, k34]
      refine hR8 _ ?_; clear hR8 R8
      refine AWp.cond (t := decide ((i:Int) < la.length)) (by simp only [nilV, k25, k26, cmpCells, aops_nil, aops_cons, aopsK, gstep, gdOf, aop, aPure, pval, lenVal, lenV, sliceV, appV, binV, rd, loV, hiV, noLoc, noLocs, fillV, chunks, splice, mkBox, aStore, aLoad, aCall_eq, callK, aAppend, V.cells, V.isCell, V.ofVal, V.ofCell, Value.oneCell', St.eval, St.put, dstOk, upd, entryE, env, locs, tst, k00, k01, k02, k03, k04, k05, k06, k07, k08, k09, k10, k11, k12, k13, k14, k15, k16, k17, k18, k19, k20, k21, k22, k23, k24, ↓reduceIte, reduceCtorEq, Nat.reduceLT, Nat.reduceLeDiff, Nat.reduceEqDiff, Nat.reduceAdd, Nat.reduceMul, Nat.reduceSub, Nat.reducePow, Nat.reduceMod, k27, Nat.zero_add, Nat.add_zero, k28, k29, k30, Bool.and_self, Bool.and_true, Bool.true_and, and_self, and_true, true_and, k31, k32, Nat.le_refl, Nat.zero_le, k33, k34]) (fun ht => ?_) (fun ht => ?_)
      · have hlt : i < la.length := lt_of_dec ht
        have hlt' : i < lb.length := by omega
        have ix0 : (0 ≤ (i : Int)) = True := by simp
        have ix1 : ((i : Int) < (la.length : Int)) = True := by simp [hlt]
        have ix2 : ((i : Int) < (lb.length : Int)) = True := by simp [hlt']
        refine AWp.skip ?_
        refine hK7 _ ?_; clear hK7
        refine AWp.seq_k fun K9 hK9 => ?_
        refine AWp.block ?_
        refine AWp.regL mixed [0, 1, 2, 3, 4, 5, 6, 7, 8] (by decide +kernel) [] (by decide +kernel) fun R10 hR10 => ?_
        simp only [ix0, ix1, ix2, true_and, getD_map _ _ _ hlt, getD_map _ _ _ hlt', ty9, ty28, aopsL_nil, aopsL_cons, aopsLK, gstepL, dcond, List.filterMap_cons, List.filterMap_nil, List.contains_cons, List.contains_nil, Nat.reduceBEq, Bool.or_self, Bool.false_or, Bool.or_false, nilV, k25, k26, cmpCells, aops_nil, aops_cons, aopsK, gstep, gdOf, aop, aPure, pval, lenVal, lenV, sliceV, appV, binV, rd, loV, hiV, noLoc, noLocs, fillV, chunks, splice, mkBox, aStore, aLoad, aCall_eq, callK, aAppend, V.cells, V.isCell, V.ofVal, V.ofCell, Value.oneCell', St.eval, St.put, dstOk, upd, entryE, env, locs, tst, k00, k01, k02, k03, k04, k05, k06, k07, k08, k09, k10, k11, k12, k13, k14, k15, k16, k17, k18, k19, k20, k21, k22, k23, k24, ↓reduceIte, reduceCtorEq, Nat.reduceLT, Nat.reduceLeDiff, Nat.reduceEqDiff, Nat.reduceAdd, Nat.reduceMul, Nat.reduceSub, Nat.reducePow, Nat.reduceMod, k27, Nat.zero_add, Nat.add_zero, k28, k29, k30, Bool.and_self, Bool.and_true, Bool.true_and, and_self, and_true, true_and, k31, k32, Nat.le_refl, Nat.zero_le, k33, k34]
        refine hR10 _ ?_; clear hR10 R10
        refine AWp.cond (t := !(la[i].toList == lb[i].toList)) (by simp only [nilV, k25, k26, cmpCells, aops_nil, aops_cons, aopsK, gstep, gdOf, aop, aPure, pval, lenVal, lenV, sliceV, appV, binV, rd, loV, hiV, noLoc, noLocs, fillV, chunks, splice, mkBox, aStore, aLoad, aCall_eq, callK, aAppend, V.cells, V.isCell, V.ofVal, V.ofCell, Value.oneCell', St.eval, St.put, dstOk, upd, entryE, env, locs, tst, k00, k01, k02, k03, k04, k05, k06, k07, k08, k09, k10, k11, k12, k13, k14, k15, k16, k17, k18, k19, k20, k21, k22, k23, k24, ↓reduceIte, reduceCtorEq, Nat.reduceLT, Nat.reduceLeDiff, Nat.reduceEqDiff, Nat.reduceAdd, Nat.reduceMul, Nat.reduceSub, Nat.reducePow, Nat.reduceMod, k27, Nat.zero_add, Nat.add_zero, k28, k29, k30, Bool.and_self, Bool.and_true, Bool.true_and, and_self, and_true, true_and, k31, k32, Nat.le_refl, Nat.zero_le, k33, k34]) (fun ht => ?_) (fun ht => ?_)
        · have hne : la[i] ≠ lb[i] := fun e => by rw [e] at ht; simp [same_self] at ht
          refine AWp.reg fun R11 hR11 => ?_
          simp only [nilV, k25, k26, cmpCells, aops_nil, aops_cons, aopsK, gstep, gdOf, aop, aPure, pval, lenVal, lenV, sliceV, appV, binV, rd, loV, hiV, noLoc, noLocs, fillV, chunks, splice, mkBox, aStore, aLoad, aCall_eq, callK, aAppend, V.cells, V.isCell, V.ofVal, V.ofCell, Value.oneCell', St.eval, St.put, dstOk, upd, entryE, env, locs, tst, k00, k01, k02, k03, k04, k05, k06, k07, k08, k09, k10, k11, k12, k13, k14, k15, k16, k17, k18, k19, k20, k21, k22, k23, k24, ↓reduceIte, reduceCtorEq, Nat.reduceLT, Nat.reduceLeDiff, Nat.reduceEqDiff, Nat.reduceAdd, Nat.reduceMul, Nat.reduceSub, Nat.reducePow, Nat.reduceMod, k27, Nat.zero_add, Nat.add_zero, k28, k29, k30, Bool.and_self, Bool.and_true, Bool.true_and, and_self, and_true, true_and, k31, k32, Nat.le_refl, Nat.zero_le, k33, k34]
          refine hR11 _ ?_; clear hR11 R11
          refine AWp.ret ?_
          refine ret_intro (vs := [.base (.bool false)]) rfl (Wk.refl _) (Heap.le.refl _) ⟨?_, rfl⟩
          rw [same_false.2 (fun e => hne (by simp only [e]))]; rfl
        · have he : la[i] = lb[i] := bytes_beq.1 (by simpa using ht)
          refine AWp.skip ?_
          refine hK9 _ ?_; clear hK9
          refine AWp.reg1 fun R12 hR12 => ?_
          simp only [ty3, nilV, k25, k26, cmpCells, aops_nil, aops_cons, aopsK, gstep, gdOf, aop, aPure, pval, lenVal, lenV, sliceV, appV, binV, rd, loV, hiV, noLoc, noLocs, fillV, chunks, splice, mkBox, aStore, aLoad, aCall_eq, callK, aAppend, V.cells, V.isCell, V.ofVal, V.ofCell, Value.oneCell', St.eval, St.put, dstOk, upd, entryE, env, locs, tst, k00, k01, k02, k03, k04, k05, k06, k07, k08, k09, k10, k11, k12, k13, k14, k15, k16, k17, k18, k19, k20, k21, k22, k23, k24, ↓reduceIte, reduceCtorEq, Nat.reduceLT, Nat.reduceLeDiff, Nat.reduceEqDiff, Nat.reduceAdd, Nat.reduceMul, Nat.reduceSub, Nat.reducePow, Nat.reduceMod, k27, Nat.zero_add, Nat.add_zero, k28, k29, k30, Bool.and_self, Bool.and_true, Bool.true_and, and_self, and_true, true_and, k31, k32, Nat.le_refl, Nat.zero_le, k33, k34]
          refine hR12 _ ?_; clear hR12 R12
          refine ⟨i + 1, ⟨⟨hlt, take_succ_eq hno hlt hlt' he⟩, by omega⟩, ?_⟩
          refine le_tst ?_ ?_ ?_ (Heap.le.refl _) rfl
          · simp only [leE, nilV, k25, k26, cmpCells, aops_nil, aops_cons, aopsK, gstep, gdOf, aop, aPure, pval, lenVal, lenV, sliceV, appV, binV, rd, loV, hiV, noLoc, noLocs, fillV, chunks, splice, mkBox, aStore, aLoad, aCall_eq, callK, aAppend, V.cells, V.isCell, V.ofVal, V.ofCell, Value.oneCell', St.eval, St.put, dstOk, upd, entryE, env, locs, tst, k00, k01, k02, k03, k04, k05, k06, k07, k08, k09, k10, k11, k12, k13, k14, k15, k16, k17, k18, k19, k20, k21, k22, k23, k24, ↓reduceIte, reduceCtorEq, Nat.reduceLT, Nat.reduceLeDiff, Nat.reduceEqDiff, Nat.reduceAdd, Nat.reduceMul, Nat.reduceSub, Nat.reducePow, Nat.reduceMod, k27, Nat.zero_add, Nat.add_zero, k28, k29, k30, Bool.and_self, Bool.and_true, Bool.true_and, and_self, and_true, true_and, k31, k32, Nat.le_refl, Nat.zero_le, k33, k34]; rw [wrap_id (by omega) (by omega)]; simp
          · simp only [okL, and_self]
          · simp only [leB]
      · obtain rfl : i = la.length := eq_of_dec ht hi
        refine AWp.exit ?_
        simp only [thenQ, blockQ, ↓reduceIte, Nat.reduceEqDiff, Nat.one_ne_zero, Nat.zero_ne_one, Nat.succ_ne_zero, reduceCtorEq]
        refine hK5 _ ?_; clear hK5
        refine AWp.reg fun R13 hR13 => ?_
        simp only [nilV, k25, k26, cmpCells, aops_nil, aops_cons, aopsK, gstep, gdOf, aop, aPure, pval, lenVal, lenV, sliceV, appV, binV, rd, loV, hiV, noLoc, noLocs, fillV, chunks, splice, mkBox, aStore, aLoad, aCall_eq, callK, aAppend, V.cells, V.isCell, V.ofVal, V.ofCell, Value.oneCell', St.eval, St.put, dstOk, upd, entryE, env, locs, tst, k00, k01, k02, k03, k04, k05, k06, k07, k08, k09, k10, k11, k12, k13, k14, k15, k16, k17, k18, k19, k20, k21, k22, k23, k24, ↓reduceIte, reduceCtorEq, Nat.reduceLT, Nat.reduceLeDiff, Nat.reduceEqDiff, Nat.reduceAdd, Nat.reduceMul, Nat.reduceSub, Nat.reducePow, Nat.reduceMod, k27, Nat.zero_add, Nat.add_zero, k28, k29, k30, Bool.and_self, Bool.and_true, Bool.true_and, and_self, and_true, true_and, k31, k32, Nat.le_refl, Nat.zero_le, k33, k34]
        refine hR13 _ ?_; clear hR13 R13
        refine AWp.ret ?_
        refine ret_intro (vs := [.base (.bool true)]) rfl (Wk.refl _) (Heap.le.refl _) ⟨?_, rfl⟩
        rw [same_iff.2 (by rw [List.take_length] at hno; rw [hno, hlen, List.take_length])]; rfl
theorem Bound.eq_of (x y : Bound) (h1 : x.term = y.term) (h2 : x.opn = y.opn) : x = y := by cases x; cases y; simp_all
theorem f143_spec (la lb : List Bound) (hc : ∀ a ∈ la, ∀ b, Gives Tryz.prog 101 [.agg a.term.v, .agg b.v] (vbool (same a.term b))) : Gives Tryz.prog 143 [.slice 15 (la.map Bound.v), .slice 15 (lb.map Bound.v)] (vbool (same la lb)) := by
  intro s
  refine acalls_of (fn := Tryz.f143) Tryz.func143 rfl (by decide) (by show 2 ≤ 42; decide) ?_
  rw [Tryz.ntmps143]
  refine AWp.reg fun R1 hR1 => ?_
  simp only [nilV, k25, k26, cmpCells, aops_nil, aops_cons, aopsK, gstep, gdOf, aop, aPure, pval, lenVal, lenV, sliceV, appV, binV, rd, loV, hiV, noLoc, noLocs, fillV, chunks, splice, mkBox, aStore, aLoad, aCall_eq, callK, aAppend, V.cells, V.isCell, V.ofVal, V.ofCell, Value.oneCell', St.eval, St.put, dstOk, upd, entryE, env, locs, tst, k00, k01, k02, k03, k04, k05, k06, k07, k08, k09, k10, k11, k12, k13, k14, k15, k16, k17, k18, k19, k20, k21, k22, k23, k24, ↓reduceIte, reduceCtorEq, Nat.reduceLT, Nat.reduceLeDiff, Nat.reduceEqDiff, Nat.reduceAdd, Nat.reduceMul, Nat.reduceSub, Nat.reducePow, Nat.reduceMod, k27, Nat.zero_add, Nat.add_zero, k28, k29, k30, Bool.and_self, Bool.and_true, Bool.true_and, and_self, and_true, true_and, k31, k32, Nat.le_refl, Nat.zero_le, k33, k34]
  refine hR1 _ ?_; clear hR1 R1
  refine AWp.seq_k fun K2 hK2 => ?_
  refine AWp.reg fun R3 hR3 => ?_
  simp only [ty3, ty64, ty132, nilV, k25, k26, cmpCells, aops_nil, aops_cons, aopsK, gstep, gdOf, aop, aPure, pval, lenVal, lenV, sliceV, appV, binV, rd, loV, hiV, noLoc, noLocs, fillV, chunks, splice, mkBox, aStore, aLoad, aCall_eq, callK, aAppend, V.cells, V.isCell, V.ofVal, V.ofCell, Value.oneCell', St.eval, St.put, dstOk, upd, entryE, env, locs, tst, k00, k01, k02, k03, k04, k05, k06, k07, k08, k09, k10, k11, k12, k13, k14, k15, k16, k17, k18, k19, k20, k21, k22, k23, k24, ↓reduceIte, reduceCtorEq, Nat.reduceLT, Nat.reduceLeDiff, Nat.reduceEqDiff, Nat.reduceAdd, Nat.reduceMul, Nat.reduceSub, Nat.reducePow, Nat.reduceMod, k27, Nat.zero_add, Nat.add_zero, k28, k29, k30, Bool.and_self, Bool.and_true, Bool.true_and, and_self, and_true, true_and, k31, k32, Nat.le_refl, Nat.zero_le, k33, k34]
  refine hR3 _ ?_; clear hR3 R3
  refine AWp.cond (t := ((la.length : Int) != lb.length)) (by simp only [nilV, k25, k26, cmpCells, aops_nil, aops_cons, aopsK, gstep, gdOf, aop, aPure, pval, lenVal, lenV, sliceV, appV, binV, rd, loV, hiV, noLoc, noLocs, fillV, chunks, splice, mkBox, aStore, aLoad, aCall_eq, callK, aAppend, V.cells, V.isCell, V.ofVal, V.ofCell, Value.oneCell', St.eval, St.put, dstOk, upd, entryE, env, locs, tst, k00, k01, k02, k03, k04, k05, k06, k07, k08, k09, k10, k11, k12, k13, k14, k15, k16, k17, k18, k19, k20, k21, k22, k23, k24, ↓reduceIte, reduceCtorEq, Nat.reduceLT, Nat.reduceLeDiff, Nat.reduceEqDiff, Nat.reduceAdd, Nat.reduceMul, Nat.reduceSub, Nat.reducePow, Nat.reduceMod, k27, Nat.zero_add, Nat.add_zero, k28, k29, k30, Bool.and_self, Bool.and_true, Bool.true_and, and_self, and_true, true_and, k31, k32, Nat.le_refl, Nat.zero_le, k33, k34]) (fun ht => ?_) (fun ht => ?_)
  · have hne : la.length ≠ lb.length := by have := bne_iff_ne.1 ht; omega
    refine AWp.reg fun R4 hR4 => ?_
    simp only [nilV, k25, k26, cmpCells, aops_nil, aops_cons, aopsK, gstep, gdOf, aop, aPure, pval, lenVal, lenV, sliceV, appV, binV, rd, loV, hiV, noLoc, noLocs, fillV, chunks, splice, mkBox, aStore, aLoad, aCall_eq, callK, aAppend, V.cells, V.isCell, V.ofVal, V.ofCell, Value.oneCell', St.eval, St.put, dstOk, upd, entryE, env, locs, tst, k00, k01, k02, k03, k04, k05, k06, k07, k08, k09, k10, k11, k12, k13, k14, k15, k16, k17, k18, k19, k20, k21, k22, k23, k24, ↓reduceIte, reduceCtorEq, Nat.reduceLT, Nat.reduceLeDiff, Nat.reduceEqDiff, Nat.reduceAdd, Nat.reduceMul, Nat.reduceSub, Nat.reducePow, Nat.reduceMod, k27, Nat.zero_add, Nat.add_zero, k28, k29, k30, Bool.and_self, Bool.and_true, Bool.true_and, and_self, and_true, true_and, k31, k32, Nat.le_refl, Nat.zero_le, k33, k34]
    refine hR4 _ ?_; clear hR4 R4
    refine AWp.ret ?_
    refine ret_intro (vs := [.base (.bool false)]) rfl (Wk.refl _) (Heap.le.refl _) ⟨?_, rfl⟩
    rw [same_false.2 (fun e => hne (by rw [e]))]; rfl
  · have hlen : la.length = lb.length := by have := (bne_eq_false_iff_eq).1 ht; omega
    refine AWp.skip ?_
    refine hK2 _ ?_; clear hK2
    refine AWp.seq_k fun K5 hK5 => ?_
    refine AWp.reg fun R6 hR6 => ?_
    simp only [nilV, k25, k26, cmpCells, aops_nil, aops_cons, aopsK, gstep, gdOf, aop, aPure, pval, lenVal, lenV, sliceV, appV, binV, rd, loV, hiV, noLoc, noLocs, fillV, chunks, splice, mkBox, aStore, aLoad, aCall_eq, callK, aAppend, V.cells, V.isCell, V.ofVal, V.ofCell, Value.oneCell', St.eval, St.put, dstOk, upd, entryE, env, locs, tst, k00, k01, k02, k03, k04, k05, k06, k07, k08, k09, k10, k11, k12, k13, k14, k15, k16, k17, k18, k19, k20, k21, k22, k23, k24, ↓reduceIte, reduceCtorEq, Nat.reduceLT, Nat.reduceLeDiff, Nat.reduceEqDiff, Nat.reduceAdd, Nat.reduceMul, Nat.reduceSub, Nat.reducePow, Nat.reduceMod, k27, Nat.zero_add, Nat.add_zero, k28, k29, k30, Bool.and_self, Bool.and_true, Bool.true_and, and_self, and_true, true_and, k31, k32, Nat.le_refl, Nat.zero_le, k33, k34]
    refine hR6 _ ?_; clear hR6 R6
    refine AWp.block ?_
    refine AWp.slen 0 (sz := 15) (es := la.map Bound.v) (by simp only [nilV, k25, k26, cmpCells, aops_nil, aops_cons, aopsK, gstep, gdOf, aop, aPure, pval, lenVal, lenV, sliceV, appV, binV, rd, loV, hiV, noLoc, noLocs, fillV, chunks, splice, mkBox, aStore, aLoad, aCall_eq, callK, aAppend, V.cells, V.isCell, V.ofVal, V.ofCell, Value.oneCell', St.eval, St.put, dstOk, upd, entryE, env, locs, tst, k00, k01, k02, k03, k04, k05, k06, k07, k08, k09, k10, k11, k12, k13, k14, k15, k16, k17, k18, k19, k20, k21, k22, k23, k24, ↓reduceIte, reduceCtorEq, Nat.reduceLT, Nat.reduceLeDiff, Nat.reduceEqDiff, Nat.reduceAdd, Nat.reduceMul, Nat.reduceSub, Nat.reducePow, Nat.reduceMod, k27, Nat.zero_add, Nat.add_zero, k28, k29, k30, Bool.and_self, Bool.and_true, Bool.true_and, and_self, and_true, true_and, k31, k32, Nat.le_refl, Nat.zero_le, k33, k34]) fun hmax => ?_
    have hmx := maxLen_lt; rw [List.length_map] at hmax
    refine AWp.loopT (ι := Nat) (fun i => i ≤ la.length ∧ la.take i = lb.take i) (fun i => tst [(0, .slice 15 (la.map Bound.v)), (1, .slice 15 (lb.map Bound.v)), (5, vint i)] [] s 42) (fun i => la.length - i) 0 ⟨⟨Nat.zero_le _, by simp⟩, ?_⟩ ?_
    · refine le_tst ?_ ?_ ?_ (Heap.le.refl _) rfl
      · simp only [leE, nilV, k25, k26, cmpCells, aops_nil, aops_cons, aopsK, gstep, gdOf, aop, aPure, pval, lenVal, lenV, sliceV, appV, binV, rd, loV, hiV, noLoc, noLocs, fillV, chunks, splice, mkBox, aStore, aLoad, aCall_eq, callK, aAppend, V.cells, V.isCell, V.ofVal, V.ofCell, Value.oneCell', St.eval, St.put, dstOk, upd, entryE, env, locs, tst, k00, k01, k02, k03, k04, k05, k06, k07, k08, k09, k10, k11, k12, k13, k14, k15, k16, k17, k18, k19, k20, k21, k22, k23, k24, ↓reduceIte, reduceCtorEq, Nat.reduceLT, Nat.reduceLeDiff, Nat.reduceEqDiff, Nat.reduceAdd, Nat.reduceMul, Nat.reduceSub, Nat.reducePow, Nat.reduceMod, k27, Nat.zero_add, Nat.add_zero, k28, k29, k30, Bool.and_self, Bool.and_true, Bool.true_and, and_self, and_true, true_and, k31, k32, Nat.le_refl, Nat.zero_le, k33, k34]; simp
      · simp only [okL, and_self]
      · simp only [leB]
    · rintro i ⟨hi, hno⟩
      refine AWp.seq_k fun K7 hK7 => ?_
      refine AWp.reg fun R8 hR8 => ?_
      simp only [ty3, ty64, ty132, nilV, k25, k26, cmpCells, aops_nil, aops_cons, aopsK, gstep, gdOf, aop, aPure, pval, lenVal, lenV, sliceV, appV, binV, rd, loV, hiV, noLoc, noLocs, fillV, chunks, splice, mkBox, aStore, aLoad, aCall_eq, callK, aAppend, V.cells, V.isCell, V.ofVal, V.ofCell, Value.oneCell', St.eval, St.put, dstOk, upd, entryE, env, locs, tst, k00, k01, k02, k03, k04, k05, k06, k07, k08, k09, k10, k11, k12, k13, k14, k15, k16, k17, k18, k19, k20, k21, k22, k23, k24, ↓reduceIte, reduceCtorEq, Nat.reduceLT, Nat.reduceLeDiff, Nat.reduceEqDiff, Nat.reduceAdd, Nat.reduceMul, Nat.reduceSub, Nat.reducePow, Nat.reduceMod, k27, Nat.zero_add, Nat.add_zero, k28, k29, k30, Bool.and_self, Bool.and_true, Bool.true_and, and_self, and_true, true_and, k31, k32, Nat.le_refl, Nat.zero_le, k33, k34]
      refine hR8 _ ?_; clear hR8 R8
      refine AWp.cond (t := decide ((i:Int) < la.length)) (by simp only [nilV, k25, k26, cmpCells, aops_nil, aops_cons, aopsK, gstep, gdOf, aop, aPure, pval, lenVal, lenV, sliceV, appV, binV, rd, loV, hiV, noLoc, noLocs, fillV, chunks, splice, mkBox, aStore, aLoad, aCall_eq, callK, aAppend, V.cells, V.isCell, V.ofVal, V.ofCell, Value.oneCell', St.eval, St.put, dstOk, upd, entryE, env, locs, tst, k00, k01, k02, k03, k04, k05, k06, k07, k08, k09, k10, k11, k12, k13, k14, k15, k16, k17, k18, k19, k20, k21, k22, k23, k24, ↓reduceIte, reduceCtorEq, Nat.reduceLT, Nat.reduceLeDiff, Nat.reduceEqDiff, Nat.reduceAdd, Nat.reduceMul, Nat.reduceSub, Nat.reducePow, Nat.reduceMod, k27, Nat.zero_add, Nat.add_zero, k28, k29, k30, Bool.and_self, Bool.and_true, Bool.true_and, and_self, and_true, true_and, k31, k32, Nat.le_refl, Nat.zero_le, k33, k34]) (fun ht => ?_) (fun ht => ?_)
      · have hlt : i < la.length := lt_of_dec ht
        have hlt' : i < lb.length := by omega
        have ix0 : (0 ≤ (i : Int)) = True := by simp
        have ix1 : ((i : Int) < (la.length : Int)) = True := by simp [hlt]
        have ix2 : ((i : Int) < (lb.length : Int)) = True := by simp [hlt']
        refine AWp.skip ?_
        refine hK7 _ ?_; clear hK7
        refine AWp.seq_k fun K9 hK9 => ?_
        refine AWp.block ?_
        refine AWp.regL mixed [0, 1, 2, 3, 4, 5, 6, 7, 8, 9, 10, 11, 12, 13, 14, 15, 16, 17, 18, 19, 20, 21, 22, 23, 24] (by decide +kernel) [] (by decide +kernel) fun R10 hR10 => ?_
        rcases (Bool.eq_false_or_eq_true (!(la[i].opn == lb[i].opn))) with hc0 | hc0
        · simp only [ix0, ix1, ix2, true_and, getD_map _ _ _ hlt, getD_map _ _ _ hlt', Bound.v_eq, Term.v_eq, hc0, ty4, ty49, ty64, ty132, List.append_eq, aopsL_nil, aopsL_cons, aopsLK, gstepL, dcond, List.filterMap_cons, List.filterMap_nil, List.contains_cons, List.contains_nil, Nat.reduceBEq, Bool.or_self, Bool.false_or, Bool.or_false, nilV, k25, k26, cmpCells, aops_nil, aops_cons, aopsK, gstep, gdOf, aop, aPure, pval, lenVal, lenV, sliceV, appV, binV, rd, loV, hiV, noLoc, noLocs, fillV, chunks, splice, mkBox, aStore, aLoad, aCall_eq, callK, aAppend, V.cells, V.isCell, V.ofVal, V.ofCell, Value.oneCell', St.eval, St.put, dstOk, upd, entryE, env, locs, tst, k00, k01, k02, k03, k04, k05, k06, k07, k08, k09, k10, k11, k12, k13, k14, k15, k16, k17, k18, k19, k20, k21, k22, k23, k24, ↓reduceIte, reduceCtorEq, Nat.reduceLT, Nat.reduceLeDiff, Nat.reduceEqDiff, Nat.reduceAdd, Nat.reduceMul, Nat.reduceSub, Nat.reducePow, Nat.reduceMod, k27, Nat.zero_add, Nat.add_zero, k28, k29, k30, Bool.and_self, Bool.and_true, Bool.true_and, and_self, and_true, true_and, k31, k32, Nat.le_refl, Nat.zero_le, k33, k34]
          refine hR10 _ ?_; clear hR10 R10
          refine AWp.cond (t := true) (by simp only [nilV, k25, k26, cmpCells, aops_nil, aops_cons, aopsK, gstep, gdOf, aop, aPure, pval, lenVal, lenV, sliceV, appV, binV, rd, loV, hiV, noLoc, noLocs, fillV, chunks, splice, mkBox, aStore, aLoad, aCall_eq, callK, aAppend, V.cells, V.isCell, V.ofVal, V.ofCell, Value.oneCell', St.eval, St.put, dstOk, upd, entryE, env, locs, tst, k00, k01, k02, k03, k04, k05, k06, k07, k08, k09, k10, k11, k12, k13, k14, k15, k16, k17, k18, k19, k20, k21, k22, k23, k24, ↓reduceIte, reduceCtorEq, Nat.reduceLT, Nat.reduceLeDiff, Nat.reduceEqDiff, Nat.reduceAdd, Nat.reduceMul, Nat.reduceSub, Nat.reducePow, Nat.reduceMod, k27, Nat.zero_add, Nat.add_zero, k28, k29, k30, Bool.and_self, Bool.and_true, Bool.true_and, and_self, and_true, true_and, k31, k32, Nat.le_refl, Nat.zero_le, k33, k34]) (fun _ => ?_) (fun h => by cases h)
          have hne : la[i] ≠ lb[i] := fun e => by rw [e] at hc0; simp [same_self] at hc0
          refine AWp.reg fun R11 hR11 => ?_
          simp only [nilV, k25, k26, cmpCells, aops_nil, aops_cons, aopsK, gstep, gdOf, aop, aPure, pval, lenVal, lenV, sliceV, appV, binV, rd, loV, hiV, noLoc, noLocs, fillV, chunks, splice, mkBox, aStore, aLoad, aCall_eq, callK, aAppend, V.cells, V.isCell, V.ofVal, V.ofCell, Value.oneCell', St.eval, St.put, dstOk, upd, entryE, env, locs, tst, k00, k01, k02, k03, k04, k05, k06, k07, k08, k09, k10, k11, k12, k13, k14, k15, k16, k17, k18, k19, k20, k21, k22, k23, k24, ↓reduceIte, reduceCtorEq, Nat.reduceLT, Nat.reduceLeDiff, Nat.reduceEqDiff, Nat.reduceAdd, Nat.reduceMul, Nat.reduceSub, Nat.reducePow, Nat.reduceMod, k27, Nat.zero_add, Nat.add_zero, k28, k29, k30, Bool.and_self, Bool.and_true, Bool.true_and, and_self, and_true, true_and, k31, k32, Nat.le_refl, Nat.zero_le, k33, k34]
          refine hR11 _ ?_; clear hR11 R11
          refine AWp.ret ?_
          refine ret_intro (vs := [.base (.bool false)]) rfl (Wk.refl _) (Heap.le.refl _) ⟨?_, rfl⟩
          rw [same_false.2 (fun e => hne (by simp only [e]))]; rfl
        · simp only [ix0, ix1, ix2, true_and, getD_map _ _ _ hlt, getD_map _ _ _ hlt', Bound.v_eq, Term.v_eq, hc0, ty4, ty49, ty64, ty132, List.append_eq, aopsL_nil, aopsL_cons, aopsLK, gstepL, dcond, List.filterMap_cons, List.filterMap_nil, List.contains_cons, List.contains_nil, Nat.reduceBEq, Bool.or_self, Bool.false_or, Bool.or_false, nilV, k25, k26, cmpCells, aops_nil, aops_cons, aopsK, gstep, gdOf, aop, aPure, pval, lenVal, lenV, sliceV, appV, binV, rd, loV, hiV, noLoc, noLocs, fillV, chunks, splice, mkBox, aStore, aLoad, aCall_eq, callK, aAppend, V.cells, V.isCell, V.ofVal, V.ofCell, Value.oneCell', St.eval, St.put, dstOk, upd, entryE, env, locs, tst, k00, k01, k02, k03, k04, k05, k06, k07, k08, k09, k10, k11, k12, k13, k14, k15, k16, k17, k18, k19, k20, k21, k22, k23, k24, ↓reduceIte, reduceCtorEq, Nat.reduceLT, Nat.reduceLeDiff, Nat.reduceEqDiff, Nat.reduceAdd, Nat.reduceMul, Nat.reduceSub, Nat.reducePow, Nat.reduceMod, k27, Nat.zero_add, Nat.add_zero, k28, k29, k30, Bool.and_self, Bool.and_true, Bool.true_and, and_self, and_true, true_and, k31, k32, Nat.le_refl, Nat.zero_le, k33, k34]
          rw [← Term.v_eq, ← Term.v_eq]
          refine (hc la[i] (List.getElem_mem hlt) lb[i].term _).mono fun v' s' h => ?_
          rw [h.1, h.2]; clear h v' s'
          simp only [vbool, ix0, ix1, ix2, true_and, getD_map _ _ _ hlt, getD_map _ _ _ hlt', Bound.v_eq, Term.v_eq, hc0, ty4, ty49, ty64, ty132, List.append_eq, aopsL_nil, aopsL_cons, aopsLK, gstepL, dcond, List.filterMap_cons, List.filterMap_nil, List.contains_cons, List.contains_nil, Nat.reduceBEq, Bool.or_self, Bool.false_or, Bool.or_false, nilV, k25, k26, cmpCells, aops_nil, aops_cons, aopsK, gstep, gdOf, aop, aPure, pval, lenVal, lenV, sliceV, appV, binV, rd, loV, hiV, noLoc, noLocs, fillV, chunks, splice, mkBox, aStore, aLoad, aCall_eq, callK, aAppend, V.cells, V.isCell, V.ofVal, V.ofCell, Value.oneCell', St.eval, St.put, dstOk, upd, entryE, env, locs, tst, k00, k01, k02, k03, k04, k05, k06, k07, k08, k09, k10, k11, k12, k13, k14, k15, k16, k17, k18, k19, k20, k21, k22, k23, k24, ↓reduceIte, reduceCtorEq, Nat.reduceLT, Nat.reduceLeDiff, Nat.reduceEqDiff, Nat.reduceAdd, Nat.reduceMul, Nat.reduceSub, Nat.reducePow, Nat.reduceMod, k27, Nat.zero_add, Nat.add_zero, k28, k29, k30, Bool.and_self, Bool.and_true, Bool.true_and, and_self, and_true, true_and, k31, k32, Nat.le_refl, Nat.zero_le, k33, k34]
          refine hR10 _ ?_; clear hR10 R10
          refine AWp.cond (t := !same la[i].term lb[i].term) (by simp only [nilV, k25, k26, cmpCells, aops_nil, aops_cons, aopsK, gstep, gdOf, aop, aPure, pval, lenVal, lenV, sliceV, appV, binV, rd, loV, hiV, noLoc, noLocs, fillV, chunks, splice, mkBox, aStore, aLoad, aCall_eq, callK, aAppend, V.cells, V.isCell, V.ofVal, V.ofCell, Value.oneCell', St.eval, St.put, dstOk, upd, entryE, env, locs, tst, k00, k01, k02, k03, k04, k05, k06, k07, k08, k09, k10, k11, k12, k13, k14, k15, k16, k17, k18, k19, k20, k21, k22, k23, k24, ↓reduceIte, reduceCtorEq, Nat.reduceLT, Nat.reduceLeDiff, Nat.reduceEqDiff, Nat.reduceAdd, Nat.reduceMul, Nat.reduceSub, Nat.reducePow, Nat.reduceMod, k27, Nat.zero_add, Nat.add_zero, k28, k29, k30, Bool.and_self, Bool.and_true, Bool.true_and, and_self, and_true, true_and, k31, k32, Nat.le_refl, Nat.zero_le, k33, k34]) (fun ht => ?_) (fun ht => ?_)
          · have hne : la[i] ≠ lb[i] := fun e => by rw [e] at ht; simp [same_self] at ht
            refine AWp.reg fun R11 hR11 => ?_
            simp only [nilV, k25, k26, cmpCells, aops_nil, aops_cons, aopsK, gstep, gdOf, aop, aPure, pval, lenVal, lenV, sliceV, appV, binV, rd, loV, hiV, noLoc, noLocs, fillV, chunks, splice, mkBox, aStore, aLoad, aCall_eq, callK, aAppend, V.cells, V.isCell, V.ofVal, V.ofCell, Value.oneCell', St.eval, St.put, dstOk, upd, entryE, env, locs, tst, k00, k01, k02, k03, k04, k05, k06, k07, k08, k09, k10, k11, k12, k13, k14, k15, k16, k17, k18, k19, k20, k21, k22, k23, k24, ↓reduceIte, reduceCtorEq, Nat.reduceLT, Nat.reduceLeDiff, Nat.reduceEqDiff, Nat.reduceAdd, Nat.reduceMul, Nat.reduceSub, Nat.reducePow, Nat.reduceMod, k27, Nat.zero_add, Nat.add_zero, k28, k29, k30, Bool.and_self, Bool.and_true, Bool.true_and, and_self, and_true, true_and, k31, k32, Nat.le_refl, Nat.zero_le, k33, k34]
            refine hR11 _ ?_; clear hR11 R11
            refine AWp.ret ?_
            refine ret_intro (vs := [.base (.bool false)]) rfl (Wk.refl _) (Heap.le.refl _) ⟨?_, rfl⟩
            rw [same_false.2 (fun e => hne (by simp only [e]))]; rfl
          · have he : la[i] = lb[i] := Bound.eq_of _ _ (same_iff.1 (by simpa using ht)) (by simpa using hc0)
            refine AWp.skip ?_
            refine hK9 _ ?_; clear hK9
            refine AWp.reg1 fun R12 hR12 => ?_
            simp only [ty3, nilV, k25, k26, cmpCells, aops_nil, aops_cons, aopsK, gstep, gdOf, aop, aPure, pval, lenVal, lenV, sliceV, appV, binV, rd, loV, hiV, noLoc, noLocs, fillV, chunks, splice, mkBox, aStore, aLoad, aCall_eq, callK, aAppend, V.cells, V.isCell, V.ofVal, V.ofCell, Value.oneCell', St.eval, St.put, dstOk, upd, entryE, env, locs, tst, k00, k01, k02, k03, k04, k05, k06, k07, k08, k09, k10, k11, k12, k13, k14, k15, k16, k17, k18, k19, k20, k21, k22, k23, k24, ↓reduceIte, reduceCtorEq, Nat.reduceLT, Nat.reduceLeDiff, Nat.reduceEqDiff, Nat.reduceAdd, Nat.reduceMul, Nat.reduceSub, Nat.reducePow, Nat.reduceMod, k27, Nat.zero_add, Nat.add_zero, k28, k29, k30, Bool.and_self, Bool.and_true, Bool.true_and, and_self, and_true, true_and, k31, k32, Nat.le_refl, Nat.zero_le, k33, k34]
            refine hR12 _ ?_; clear hR12 R12
            refine ⟨i + 1, ⟨⟨hlt, take_succ_eq hno hlt hlt' he⟩, by omega⟩, ?_⟩
            refine le_tst ?_ ?_ ?_ (Heap.le.refl _) rfl
            · simp only [leE, nilV, k25, k26, cmpCells, aops_nil, aops_cons, aopsK, gstep, gdOf, aop, aPure, pval, lenVal, lenV, sliceV, appV, binV, rd, loV, hiV, noLoc, noLocs, fillV, chunks, splice, mkBox, aStore, aLoad, aCall_eq, callK, aAppend, V.cells, V.isCell, V.ofVal, V.ofCell, Value.oneCell', St.eval, St.put, dstOk, upd, entryE, env, locs, tst, k00, k01, k02, k03, k04, k05, k06, k07, k08, k09, k10, k11, k12, k13, k14, k15, k16, k17, k18, k19, k20, k21, k22, k23, k24, ↓reduceIte, reduceCtorEq, Nat.reduceLT, Nat.reduceLeDiff, Nat.reduceEqDiff, Nat.reduceAdd, Nat.reduceMul, Nat.reduceSub, Nat.reducePow, Nat.reduceMod, k27, Nat.zero_add, Nat.add_zero, k28, k29, k30, Bool.and_self, Bool.and_true, Bool.true_and, and_self, and_true, true_and, k31, k32, Nat.le_refl, Nat.zero_le, k33, k34]; rw [wrap_id (by omega) (by omega)]; simp
            · simp only [okL, and_self]
            · simp only [leB]
      · obtain rfl : i = la.length := eq_of_dec ht hi
        refine AWp.exit ?_
        simp only [thenQ, blockQ, ↓reduceIte, Nat.reduceEqDiff, Nat.one_ne_zero, Nat.zero_ne_one, Nat.succ_ne_zero, reduceCtorEq]
        refine hK5 _ ?_; clear hK5
        refine AWp.reg fun R13 hR13 => ?_
        simp only [nilV, k25, k26, cmpCells, aops_nil, aops_cons, aopsK, gstep, gdOf, aop, aPure, pval, lenVal, lenV, sliceV, appV, binV, rd, loV, hiV, noLoc, noLocs, fillV, chunks, splice, mkBox, aStore, aLoad, aCall_eq, callK, aAppend, V.cells, V.isCell, V.ofVal, V.ofCell, Value.oneCell', St.eval, St.put, dstOk, upd, entryE, env, locs, tst, k00, k01, k02, k03, k04, k05, k06, k07, k08, k09, k10, k11, k12, k13, k14, k15, k16, k17, k18, k19, k20, k21, k22, k23, k24, ↓reduceIte, reduceCtorEq, Nat.reduceLT, Nat.reduceLeDiff, Nat.reduceEqDiff, Nat.reduceAdd, Nat.reduceMul, Nat.reduceSub, Nat.reducePow, Nat.reduceMod, k27, Nat.zero_add, Nat.add_zero, k28, k29, k30, Bool.and_self, Bool.and_true, Bool.true_and, and_self, and_true, true_and, k31, k32, Nat.le_refl, Nat.zero_le, k33, k34]
        refine hR13 _ ?_; clear hR13 R13
        refine AWp.ret ?_
        refine ret_intro (vs := [.base (.bool true)]) rfl (Wk.refl _) (Heap.le.refl _) ⟨?_, rfl⟩
        rw [same_iff.2 (by rw [List.take_length] at hno; rw [hno, hlen, List.take_length])]; rfl
end Go.Proofs.YtcckhbconihagaaGreatDoor
