/- stmt.Exprs and the head: their contracts. -/
import Derived.Test.YtdgoilofkgdaoaaGreatDoorS13
import Derived.Test.YtdgoilofkgdaoaaGreatDoorS4
import Derived.Test.YtdgoilofkgdaoaaGreatDoorS17
import Derived.Test.YtdgoilofkgdaoaaGreatDoorS6
import Derived.Test.YtdgoilofkgdaoaaGreatDoorS2
import Derived.Test.YtdgoilofkgdaoaaGreatDoorS3
set_option linter.unusedVariables false
set_option linter.unusedSimpArgs false
set_option linter.defProp false
set_option maxRecDepth 100000
set_option maxHeartbeats 4000000
namespace Go.Proofs.YtdgoilofkgdaoaaGreatDoor.Ex
open Go.Am Go.Ex Go.Proofs.YtdgoilofkgdaoaaGreatDoor
theorem expr_len (l : List XExpr) : l.length ≤ (l.map XExpr.w).sum := length_le_sum XExpr.w XExpr.w_pos l
theorem col_w (d : XColDef) : ((d.default ++ d.check).map XExpr.w).sum < XColDef.w d := by
 rw [XColDef.w_eq, List.map_append, List.sum_append]; omega
theorem cols_w : ∀ (l : List XColDef) (j : Nat), ((((l.take j).map fun d => d.default ++ d.check).flatten).map XExpr.w).sum ≤ (l.map XColDef.w).sum
 | [], j => by simp
 | d :: l, 0 => by simp
 | d :: l, j + 1 => by
  have h1 := cols_w l j
  have h2 := col_w d
  simp only [List.take_succ_cons, List.map_cons, List.flatten_cons, List.map_append, List.sum_append, List.sum_cons] at h1 h2 ⊢
  omega
theorem sets_w : ∀ l : List XSet, ((l.map XSet.expr).map XExpr.w).sum ≤ (l.map XSet.w).sum
 | [] => by simp
 | d :: l => by
  have h1 := sets_w l
  have h2 := d.w_eq
  simp only [List.map_cons, List.sum_cons] at h1 ⊢
  omega
theorem stExprs_w (x : XStmt) (j : Nat) : ((stExprs x j).map XExpr.w).sum < XStmt.w x := by
 have h1 := cols_w x.defs j
 have h2 := sets_w x.sets
 rw [XStmt.w_eq]
 unfold stExprs
 rw [List.map_append, List.map_append, List.sum_append, List.sum_append]
 omega
def n7 (x : XStmt) : Option (List XExpr) := need (XStmt.w x < 268435456) (some (stExprs x x.defs.length))
theorem n7_small {x : XStmt} {l : List XExpr} (h : n7 x = some l) : ∀ y ∈ l, XExpr.w y < 268435456 := by
 obtain ⟨hw, h⟩ := need_some h
 cases h
 intro y hy
 have h1 := mem_le_sum XExpr.w hy
 have h2 := stExprs_w x x.defs.length
 omega
theorem N7 (x : XStmt) (r : List XExpr) (h : n7 x = some r) : Gives Tryz.prog 7 [.agg x.v] (.func 16 [] [.elt [.slice 10 (List.map XExpr.v r)] 0]) := by
 obtain ⟨hw, h⟩ := need_some h
 cases h
 have e1 := x.w_eq
 have l1 := length_le_sum XSet.w XSet.w_pos x.sets
 have l2 := length_le_sum XColDef.w XColDef.w_pos x.defs
 have l3 := expr_len x.where_
 refine f7_walk x (by omega) (by omega) (by omega) fun i y hy => ?_
 have hm : y ∈ x.defs := List.mem_of_getElem? hy
 have k1 := expr_len (stExprs x i)
 have k2 := stExprs_w x i
 have k3 := expr_len (y.default ++ y.check)
 have k4 := col_w y
 have k5 := mem_le_sum XColDef.w hm
 have := c15 [stExprs x i, y.default, y.check] _ (s15_eq _ (by simp) (by simp only [List.flatten_cons, List.flatten_nil, List.length_append, List.length_nil] at k3 ⊢; omega))
 simp only [List.flatten_cons, List.flatten_nil, List.append_nil] at this
 rw [List.append_assoc]
 exact this
def n5 : Option Bool := some true
theorem N5 (r : Bool) (h : n5 = some r) : Gives Tryz.prog 5 [] (vbool r) := by cases h; exact head_ok
end Go.Proofs.YtdgoilofkgdaoaaGreatDoor.Ex
namespace Go.Proofs.YtdgoilofkgdaoaaGreatDoor.Ex
open Go.Am Go.Ex Go.Proofs.YtdgoilofkgdaoaaGreatDoor
def s11 (x0 : XStmt) : Option (Int) := (call (n7 x0) fun y2 => (call (foldC (fun (q5 : Int) (y8 : XExpr) => (call (s33 y8) fun y14 => (some ((mxI q5 y14))))) y2 0) fun q6 => (loopC (fun (u20 : Int × Int → Option (Int)) (q19 : Int × Int) => (way ((decide (q19.1 < (((x0.select.length : Nat) : Int))))) (need (0 ≤ q19.1 ∧ q19.1 < ((x0.select.length : Nat) : Int)) (call (s34 ((x0.select.getD q19.1.toNat XSelect.z))) fun y30 => (u20 ((IntKind.i64.wrap (q19.1 + 1)), (mxI q19.2 y30))))) (some q19.2))) manyC (0, q6))))
theorem c11 (x0 : XStmt) (r : Int) (h : s11 x0 = some r) : Gives Tryz.prog 11 [.agg x0.v] (vint r) := by
 intro s
 unfold s11 at h
 refine ac Tryz.func11 Tryz.ntmps11 ?_
 refine rg ?_
 refine rg ?_
 refine AWp.seq ?_
 refine rgD (N7 x0) h fun y2 hy2 h => ?_
 refine AWp.block ?_
 refine AWp.frz 1 (cs := x0.v) (ty := 31) (by first | rfl | simp only [am, seval, reduceCtorEq]) ?_
 refine AWp.weaken (st' := tst [(0, .agg x0.v), (1, .elt x0.v 0), (2, vint 0), (3, .loc 3 0), (7, .agg x0.v), (8, V.func 16 [] [.elt [.slice 10 (List.map XExpr.v y2)] 0])] [(3, ([vint 0], 3))] s 27) ?_ ?_
 ·refine le_tst ?_ ?_ ?_ (Heap.le.refl _) rfl
  · simp only [leE, St.frz, frzV, XStmt.vs, am, seval, reduceCtorEq] <;> simp
  · simp only [okL, keyIn, Nat.reduceBEq, Bool.or_true, Bool.true_or, Bool.or_false, and_self]
  · simp only [leB, St.frz, frzV, XStmt.vs, am, seval, reduceCtorEq] <;> (repeat' apply And.intro) <;> first | rfl | (simp only [XStmt.v_eq]; rfl) | simp [XStmt.v_eq]
 refine AWp.publish (t0 := 3) (x := ([vint 0], 3)) (by first | rfl | simp only [am, seval, reduceCtorEq]) fun e3 he3 => ?_
 change (s).box e3 = none at he3
 have ne3 : s.box e3 = none := by simpa only [setBox_ne, owns_box, ne_eq, not_false_eq_true] using he3
 refine AWp.weaken (st' := tst [(0, .agg x0.v), (1, .elt x0.v 0), (2, vint 0), (3, .ptr e3 0), (7, .agg x0.v), (8, V.func 16 [] [.elt [.slice 10 (List.map XExpr.v y2)] 0])] [] (s.setBox e3 ([vint 0], 3)) 27) ?_ ?_
 ·refine le_tst ?_ ?_ ?_ (Heap.le.refl _) rfl
  · simp only [leE, St.publish, substV, XStmt.vs, am, seval, reduceCtorEq] <;> simp
  · simp only [okL, keyIn, Nat.reduceBEq, Bool.or_true, Bool.true_or, Bool.or_false, and_self]
  · simp only [leB, St.publish, substV, XStmt.vs, am, seval, reduceCtorEq] <;> (repeat' apply And.intro) <;> first | rfl | (simp only [XStmt.v_eq]; rfl) | simp [XStmt.v_eq]
 refine AWp.weaken (st' := tst [(1, .elt x0.v 0), (3, .ptr e3 0), (8, V.func 16 [] [.elt [.slice 10 (List.map XExpr.v y2)] 0])] [] (s.setBox e3 ([vint 0], 3)) 27) ?_ ?_
 ·refine le_tst ?_ ?_ ?_ (Heap.le.refl _) rfl
  · simp only [leE, tst, XStmt.vs, am, seval, reduceCtorEq] <;> simp
  · simp only [okL, keyIn, Nat.reduceBEq, Bool.or_true, Bool.true_or, Bool.or_false, and_self]
  · simp only [leB, tst, XStmt.vs, am, seval, reduceCtorEq] <;> (repeat' apply And.intro) <;> first | rfl | (simp only [XStmt.v_eq]; rfl) | simp [XStmt.v_eq]
 obtain ⟨q6, hq6, h⟩ := call_some h
 refine AWp.rangeS (X := Int) (α := XExpr) (enc := fun x => .agg x.v) (xs := y2) (seq16 y2 (n7_small hy2)) hq6 (fun q5 => (s.setBox e3 ([vint q5], 3))) (some (.both (.op 0 (.op 1 (.op 2 (.op 3 (.op 4 .fin))))) (.op 1 (.both (.op 0 (.op 2 (.op 3 (.op 4 .fin)))) (.op 2 (.op 0 (.op 3 (.op 4 .fin)))))))) rfl rfl rfl (by show 9 < 27; decide) (by decide +kernel) (by decide +kernel) ?_ (fun D9 => ?_)
 ·rintro y8 w4 q7 h Z10 hZ10
  (try simp only [xm, Nat.reduceAdd, Nat.reduceLeDiff, seval, reduceCtorEq])
  refine hZ10 _ 4 y8.v 42 ?_ rfl rfl fun e11 he11 Z102 hZ102 => ?_
  · funext k; simp only [upd]; (repeat' split) <;> first | rfl | (simp_all; done)
  change ((s.setBox e3 ([vint w4], 3))).box e11 = none at he11
  have he11e3 : e11 ≠ e3 := fun hq => by rw [hq] at he11; simp only [setBox_same, setBox_ne, owns_box, reduceCtorEq, ne_eq, not_false_eq_true] at he11
  have ne11 : s.box e11 = none := by simpa only [setBox_ne, owns_box, ne_eq, not_false_eq_true, he11e3] using he11
  refine ⟨by decide +kernel, mixed, ?_⟩
  (try simp only [St.publish, substV, aopsO_op, aopsO_fin, aopsOK_eq, he11e3, he11e3.symm, xm, Nat.reduceAdd, Nat.reduceLeDiff, seval, reduceCtorEq])
  refine aopsO_both ?_ ?_
  ·(try simp only [St.publish, substV, aopsO_op, aopsO_fin, aopsOK_eq, he11e3, he11e3.symm, xm, Nat.reduceAdd, Nat.reduceLeDiff, seval, reduceCtorEq])
   obtain ⟨y14, hy14, h⟩ := call_some h
   refine goG (c33 y8 _ hy14) ?_
   (try simp only [St.publish, substV, aopsO_op, aopsO_fin, aopsOK_eq, he11e3, he11e3.symm, xm, Nat.reduceAdd, Nat.reduceLeDiff, seval, reduceCtorEq])
   obtain rfl := Option.some.inj h
   exact hZ102 _ (Heap.le.trans (b := ((s.setBox e3 ([vint ((mxI w4 y14))], 3)).setBox e11 (y8.v, 42))) (⟨fun k => .inl (by simp only [Heap.setBox, Heap.setOwn, owns_box, upd] <;> (repeat' split) <;> first | with_reducible rfl | (simp only [XStmt.v_eq, XExpr.v_eq]; done) | (simp_all; done) | (simp_all [XStmt.v_eq, XExpr.v_eq]; done)), fun _ => .inl (by first | (simp only [setBox_own]; done) | (simp only [setBox_own]; rfl) | rfl)⟩) (Heap.le.dropBox (by simp only [setBox_ne, owns_box, he11e3, he11e3.symm, ne_eq, not_false_eq_true, ne11]) _))
  ·(try simp only [St.publish, substV, aopsO_op, aopsO_fin, aopsOK_eq, he11e3, he11e3.symm, xm, Nat.reduceAdd, Nat.reduceLeDiff, seval, reduceCtorEq])
   refine aopsO_both ?_ ?_
   ·(try simp only [St.publish, substV, aopsO_op, aopsO_fin, aopsOK_eq, he11e3, he11e3.symm, xm, Nat.reduceAdd, Nat.reduceLeDiff, seval, reduceCtorEq])
    obtain ⟨y14, hy14, h⟩ := call_some h
    refine goG (c33 y8 _ hy14) ?_
    (try simp only [St.publish, substV, aopsO_op, aopsO_fin, aopsOK_eq, he11e3, he11e3.symm, xm, Nat.reduceAdd, Nat.reduceLeDiff, seval, reduceCtorEq])
    obtain rfl := Option.some.inj h
    exact hZ102 _ (Heap.le.trans (b := ((s.setBox e3 ([vint ((mxI w4 y14))], 3)).setBox e11 (y8.v, 42))) (⟨fun k => .inl (by simp only [Heap.setBox, Heap.setOwn, owns_box, upd] <;> (repeat' split) <;> first | with_reducible rfl | (simp only [XStmt.v_eq, XExpr.v_eq]; done) | (simp_all; done) | (simp_all [XStmt.v_eq, XExpr.v_eq]; done)), fun _ => .inl (by first | (simp only [setBox_own]; done) | (simp only [setBox_own]; rfl) | rfl)⟩) (Heap.le.dropBox (by simp only [setBox_ne, owns_box, he11e3, he11e3.symm, ne_eq, not_false_eq_true, ne11]) _))
   ·(try simp only [St.publish, substV, aopsO_op, aopsO_fin, aopsOK_eq, he11e3, he11e3.symm, xm, Nat.reduceAdd, Nat.reduceLeDiff, seval, reduceCtorEq])
    obtain ⟨y14, hy14, h⟩ := call_some h
    refine goG (c33 y8 _ hy14) ?_
    (try simp only [St.publish, substV, aopsO_op, aopsO_fin, aopsOK_eq, he11e3, he11e3.symm, xm, Nat.reduceAdd, Nat.reduceLeDiff, seval, reduceCtorEq])
    obtain rfl := Option.some.inj h
    exact hZ102 _ (Heap.le.trans (b := ((s.setBox e3 ([vint ((mxI w4 y14))], 3)).setBox e11 (y8.v, 42))) (⟨fun k => .inl (by simp only [Heap.setBox, Heap.setOwn, owns_box, upd] <;> (repeat' split) <;> first | with_reducible rfl | (simp only [XStmt.v_eq, XExpr.v_eq]; done) | (simp_all; done) | (simp_all [XStmt.v_eq, XExpr.v_eq]; done)), fun _ => .inl (by first | (simp only [setBox_own]; done) | (simp only [setBox_own]; rfl) | rfl)⟩) (Heap.le.dropBox (by simp only [setBox_ne, owns_box, he11e3, he11e3.symm, ne_eq, not_false_eq_true, ne11]) _))
 ·refine AWp.seq ?_
  refine AWp.reg fun Z16 hZ16 => ?_
  (try simp only [tstD, xm, Nat.reduceAdd, Nat.reduceLeDiff, seval, reduceCtorEq])
  refine hZ16 _ ?_; clear hZ16 Z16
  refine AWp.block ?_
  refine lp h (fun q19 => tstD [Go.Am.mark D9] [(3, .ptr e3 0), (15, .slice 5 (List.map XSelect.v x0.select)), (16, vint (((x0.select.length : Nat) : Int))), (17, vint q19.1)] [] (s.setBox e3 ([vint q19.2], 3)) 27) ?_ ?_
  ·refine St.le.to ?_
   refine le_tstD ?_ ?_ ?_ (Heap.le.refl _) rfl
   · simp only [leE, tstD, XStmt.vs, XExpr.vs, XSelect.vs, am, seval, reduceCtorEq] <;> simp
   · simp only [okL, keyIn, Nat.reduceBEq, Bool.or_true, Bool.true_or, Bool.or_false, and_self]
   · simp only [leB, tstD, XStmt.vs, XExpr.vs, XSelect.vs, am, seval, reduceCtorEq] <;> (repeat' apply And.intro) <;> first | rfl | (simp only [XStmt.v_eq, XExpr.v_eq, XSelect.v_eq]; rfl) | simp [XStmt.v_eq, XExpr.v_eq, XSelect.v_eq]
  ·rintro u20 ⟨v17, w18⟩ h
   (try dsimp only at h ⊢)
   refine AWp.reg fun Z21 hZ21 => ?_
   (try simp only [tstD, xm, Nat.reduceAdd, Nat.reduceLeDiff, seval, reduceCtorEq])
   refine hZ21 _ ?_; clear hZ21 Z21
   refine AWp.seq ?_
   refine ws h (fun hc23 h => ?_) fun hc23 h => ?_
   ·refine AWp.skip ?_
    refine AWp.seq ?_
    refine AWp.block ?_
    refine AWp.reg fun Z25 hZ25 => ?_
    obtain ⟨hn27, h⟩ := need_some h
    (try simp only [isT hn27.1, isT hn27.2, getD_enc XSelect.v XSelect.z hn27, tstD, xm, Nat.reduceAdd, Nat.reduceLeDiff, seval, reduceCtorEq])
    refine hZ25 _ ?_; clear hZ25 Z25
    refine AWp.regLS1 mixed 0 2 [0, 1, 2, 3, 4] [1, 2, 0, 3, 4] (by decide +kernel) [] (by decide +kernel) (by decide +kernel) (fun Z28 hZ28 => ?_) (fun Z28 hZ28 => ?_)
    ·(try simp only [tstD, addEdge_get, addE, aml, Nat.reduceBEq, xm, Nat.reduceAdd, Nat.reduceLeDiff, seval, reduceCtorEq])
     obtain ⟨y30, hy30, h⟩ := call_some h
     refine goG (c34 ((x0.select.getD v17.toNat XSelect.z)) _ hy30) ?_
     (try simp only [tstD, addEdge_get, addE, aml, Nat.reduceBEq, xm, Nat.reduceAdd, Nat.reduceLeDiff, seval, reduceCtorEq])
     refine hZ28 _ ?_; clear hZ28 Z28
     refine hL (s' := (s.setBox e3 ([vint ((mxI w18 y30))], 3))) ?_
     refine AWp.reg1 fun Z31 hZ31 => ?_
     (try simp only [tstD, xm, Nat.reduceAdd, Nat.reduceLeDiff, seval, reduceCtorEq])
     refine hZ31 _ ?_; clear hZ31 Z31
     refine ⟨((IntKind.i64.wrap (v17 + 1)), (mxI w18 y30)), h, ?_⟩
     refine St.le.to ?_
     refine le_tstD ?_ ?_ ?_ (Heap.le.refl _) rfl
     · simp only [leE, tstD, XStmt.vs, XExpr.vs, XSelect.vs, am, seval, reduceCtorEq] <;> simp
     · simp only [okL, keyIn, Nat.reduceBEq, Bool.or_true, Bool.true_or, Bool.or_false, and_self]
     · simp only [leB, tstD, XStmt.vs, XExpr.vs, XSelect.vs, am, seval, reduceCtorEq] <;> (repeat' apply And.intro) <;> first | rfl | (simp only [XStmt.v_eq, XExpr.v_eq, XSelect.v_eq]; rfl) | simp [XStmt.v_eq, XExpr.v_eq, XSelect.v_eq]
    ·(try simp only [tstD, addEdge_get, addE, aml, Nat.reduceBEq, xm, Nat.reduceAdd, Nat.reduceLeDiff, seval, reduceCtorEq])
     obtain ⟨y30, hy30, h⟩ := call_some h
     refine goG (c34 ((x0.select.getD v17.toNat XSelect.z)) _ hy30) ?_
     (try simp only [tstD, addEdge_get, addE, aml, Nat.reduceBEq, xm, Nat.reduceAdd, Nat.reduceLeDiff, seval, reduceCtorEq])
     refine hZ28 _ ?_; clear hZ28 Z28
     refine hL (s' := (s.setBox e3 ([vint ((mxI w18 y30))], 3))) ?_
     refine AWp.reg1 fun Z31 hZ31 => ?_
     (try simp only [tstD, xm, Nat.reduceAdd, Nat.reduceLeDiff, seval, reduceCtorEq])
     refine hZ31 _ ?_; clear hZ31 Z31
     refine ⟨((IntKind.i64.wrap (v17 + 1)), (mxI w18 y30)), h, ?_⟩
     refine St.le.to ?_
     refine le_tstD ?_ ?_ ?_ (Heap.le.refl _) rfl
     · simp only [leE, tstD, XStmt.vs, XExpr.vs, XSelect.vs, am, seval, reduceCtorEq] <;> simp
     · simp only [okL, keyIn, Nat.reduceBEq, Bool.or_true, Bool.true_or, Bool.or_false, and_self]
     · simp only [leB, tstD, XStmt.vs, XExpr.vs, XSelect.vs, am, seval, reduceCtorEq] <;> (repeat' apply And.intro) <;> first | rfl | (simp only [XStmt.v_eq, XExpr.v_eq, XSelect.v_eq]; rfl) | simp [XStmt.v_eq, XExpr.v_eq, XSelect.v_eq]
   ·refine AWp.exit ?_
    simp only [exq, seval]
    refine AWp.reg fun Z32 hZ32 => ?_
    (try simp only [tstD, xm, Nat.reduceAdd, Nat.reduceLeDiff, seval, reduceCtorEq])
    refine hZ32 _ ?_; clear hZ32 Z32
    refine AWp.ret ?_
    refine ⟨_, St.to.refl _, ?_⟩
    obtain rfl := Option.some.inj h
    refine ret_go (vs := [vint w18]) (v := vint w18) (by show resV Tryz.prog _ [.tmp 2] = _; simp only [resV, XStmt.vs, XExpr.vs, XSelect.vs, am, seval, reduceCtorEq]) (Wk.refl _) (Heap.le.trans (Heap.le.dropBox (by simp only [setBox_ne, owns_box, ne_eq, not_false_eq_true, ne3]) _) (Heap.le.refl _)) ⟨?_, rfl⟩
    rfl
def s4 (x0 : XStmt) (x1 : XStmt) : Option (Bool) := (join (fun (u3 : Bool → Option (Bool)) => (call n5 fun y5 => (way y5 (call (s9 x0 x1) fun y7 => (call (s10 x0 x1) fun y8 => (way ((y7 == y8)) (call (s9 x0 x0) fun y10 => (way y10 (call (s11 x0) fun y12 => (call (s12 x0) fun y13 => (u3 (y12 == y13)))) (u3 false))) (u3 false)))) (u3 false)))) (fun (q2 : Bool) => (some q2)))
theorem c4 (x0 : XStmt) (x1 : XStmt) (r : Bool) (h : s4 x0 x1 = some r) : Gives Tryz.prog 4 [.agg x0.v, .agg x1.v] (vbool r) := by
 intro s
 unfold s4 at h
 refine ac Tryz.func4 Tryz.ntmps4 ?_
 refine rg ?_
 refine jn h (fun q2 => tst [(4, vbool q2)] [] s 27) (fun u3 h => ?_) ?_
 ·refine AWp.regL1 mixed [0, 1, 2, 3, 5, 6, 4, 7, 8, 9, 10, 11, 12, 13, 14, 15, 16, 18, 17, 19, 20, 21, 22] (by decide +kernel) [100010, 100011, 100023] (by decide +kernel) fun Z4 hZ4 => ?_
  (try simp only [undef, Bool.not_true, Bool.not_false, aml, Nat.reduceBEq, xm, Nat.reduceAdd, Nat.reduceLeDiff, seval, reduceCtorEq])
  obtain ⟨y5, hy5, h⟩ := call_some h
  refine goG (N5  _ hy5) ?_
  (try simp only [undef, Bool.not_true, Bool.not_false, aml, Nat.reduceBEq, xm, Nat.reduceAdd, Nat.reduceLeDiff, seval, reduceCtorEq])
  refine gTSL h (by rfl) (fun hg6 h => ?_) (fun hg6 h => ?_)
  ·(try simp only [hg6, undef, Bool.not_true, Bool.not_false, aml, Nat.reduceBEq, xm, Nat.reduceAdd, Nat.reduceLeDiff, seval, reduceCtorEq])
   obtain ⟨y7, hy7, h⟩ := call_some h
   refine goG (c9 x0 x1 _ hy7) ?_
   (try simp only [hg6, undef, Bool.not_true, Bool.not_false, aml, Nat.reduceBEq, xm, Nat.reduceAdd, Nat.reduceLeDiff, seval, reduceCtorEq])
   obtain ⟨y8, hy8, h⟩ := call_some h
   refine goG (c10 x0 x1 _ hy8) ?_
   (try simp only [hg6, undef, Bool.not_true, Bool.not_false, aml, Nat.reduceBEq, xm, Nat.reduceAdd, Nat.reduceLeDiff, seval, reduceCtorEq])
   refine gTSL h (by rfl) (fun hg9 h => ?_) (fun hg9 h => ?_)
   ·(try simp only [hg6, hg9, undef, Bool.not_true, Bool.not_false, aml, Nat.reduceBEq, xm, Nat.reduceAdd, Nat.reduceLeDiff, seval, reduceCtorEq])
    obtain ⟨y10, hy10, h⟩ := call_some h
    refine goG (c9 x0 x0 _ hy10) ?_
    (try simp only [hg6, hg9, undef, Bool.not_true, Bool.not_false, aml, Nat.reduceBEq, xm, Nat.reduceAdd, Nat.reduceLeDiff, seval, reduceCtorEq])
    refine gTSL h (by rfl) (fun hg11 h => ?_) (fun hg11 h => ?_)
    ·(try simp only [hg6, hg9, hg11, undef, Bool.not_true, Bool.not_false, aml, Nat.reduceBEq, xm, Nat.reduceAdd, Nat.reduceLeDiff, seval, reduceCtorEq])
     obtain ⟨y12, hy12, h⟩ := call_some h
     refine goG (c11 x0 _ hy12) ?_
     (try simp only [hg6, hg9, hg11, undef, Bool.not_true, Bool.not_false, aml, Nat.reduceBEq, xm, Nat.reduceAdd, Nat.reduceLeDiff, seval, reduceCtorEq])
     obtain ⟨y13, hy13, h⟩ := call_some h
     refine goG (c12 x0 _ hy13) ?_
     (try simp only [hg6, hg9, hg11, undef, Bool.not_true, Bool.not_false, aml, Nat.reduceBEq, xm, Nat.reduceAdd, Nat.reduceLeDiff, seval, reduceCtorEq])
     refine hZ4 _ ?_; clear hZ4 Z4
     exact ⟨(y12 == y13), h, tleF ((And.intro hg6 <| And.intro hg9 <| hg11))⟩
    ·(try simp only [hg6, hg9, hg11, undef, Bool.not_true, Bool.not_false, aml, Nat.reduceBEq, xm, Nat.reduceAdd, Nat.reduceLeDiff, seval, reduceCtorEq])
     refine hZ4 _ ?_; clear hZ4 Z4
     exact ⟨false, h, tleF ((And.intro hg6 <| And.intro hg9 <| hg11))⟩
   ·(try simp only [hg6, hg9, undef, Bool.not_true, Bool.not_false, aml, Nat.reduceBEq, xm, Nat.reduceAdd, Nat.reduceLeDiff, seval, reduceCtorEq])
    refine hZ4 _ ?_; clear hZ4 Z4
    exact ⟨false, h, tleF ((And.intro hg6 <| hg9))⟩
  ·(try simp only [hg6, undef, Bool.not_true, Bool.not_false, aml, Nat.reduceBEq, xm, Nat.reduceAdd, Nat.reduceLeDiff, seval, reduceCtorEq])
   refine hZ4 _ ?_; clear hZ4 Z4
   exact ⟨false, h, tleF hg6⟩
 ·rintro v1 h
  cases h; exact AWp.ret (rtq [.tmp 4])
end Go.Proofs.YtdgoilofkgdaoaaGreatDoor.Ex
namespace Go.Proofs.YtdgoilofkgdaoaaGreatDoor.Ex
open Go.Am Go.Ex Go.Proofs.YtdgoilofkgdaoaaGreatDoor
theorem stExprs_next (x : XStmt) {j : Nat} (h : j < x.defs.length) : stExprs x (j + 1) = stExprs x j ++ (x.defs.getD j XColDef.z).default ++ (x.defs.getD j XColDef.z).check := by
 rw [stExprs_succ x h rfl, List.getD_eq_getElem?_getD, List.getElem?_eq_getElem h]; rfl
theorem sets_next (l : List XSet) {j : Nat} (h : j < l.length) : (l.take (j + 1)).map XSet.expr = (l.take j).map XSet.expr ++ [(l.getD j XSet.z).expr] := by
 rw [List.take_add_one, List.getElem?_eq_getElem h, List.map_append, List.getD_eq_getElem?_getD, List.getElem?_eq_getElem h]; rfl
theorem s6_eq (x : XStmt) (h : XStmt.w x < 268435456) : s6 x = some (stExprs x x.defs.length) := by
 have e1 := x.w_eq
 have l1 := length_le_sum XSet.w XSet.w_pos x.sets
 have l2 := length_le_sum XColDef.w XColDef.w_pos x.defs
 have l3 := expr_len x.where_
 unfold s6
 refine (loop_from (fun j : Nat => ((x.sets.take j).map XSet.expr, (j : Int))) x.sets.length (by omega) (by simp) (fun k j hj => ?_) (fun k => ?_)).trans ?_
 ·have ht : ((x.sets.take j).map XSet.expr).length ≤ x.sets.length := by simp; omega
  dsimp only
  rw [dec_lt hj, way_tt, need_t (by omega), need_t (by omega), Int.toNat_natCast, wrap_succ hj (by omega), sets_next _ hj]
 ·dsimp only; rw [dec_self, way_ff, way_ff]
 dsimp only
 rw [dec_self, way_ff, List.take_length, List.length_map, need_t (by omega)]
 refine (loop_from (fun j : Nat => (stExprs x j, (j : Int))) x.defs.length (by omega) (by simp [stExprs]) (fun k j hj => ?_) (fun k => ?_)).trans ?_
 ·have k1 := expr_len (stExprs x j)
  have k2 := stExprs_w x j
  have k3 := expr_len (stExprs x (j + 1))
  have k4 := stExprs_w x (j + 1)
  have k5 := congrArg List.length (stExprs_next x hj)
  rw [List.length_append, List.length_append] at k5
  dsimp only
  rw [dec_lt hj, way_tt, need_t (by omega), Int.toNat_natCast, need_t (by omega), need_t (by omega), List.length_append, need_t (by omega), wrap_succ hj (by omega), stExprs_next x hj]
 ·dsimp only; rw [dec_self, way_ff, way_ff]
 dsimp only
 rw [dec_self, way_ff]
theorem exprs_lt {x : XStmt} {j : Nat} {y : XExpr} (hy : y ∈ stExprs x j) : XExpr.w y < XStmt.w x := by
 have h1 := mem_le_sum XExpr.w hy
 have h2 := stExprs_w x j
 omega
theorem select_lt {x : XStmt} {y : XSelect} (hy : y ∈ x.select) : XSelect.w y < XStmt.w x := by
 have h1 := mem_le_sum XSelect.w hy
 have h2 := x.w_eq
 omega
def stPars (x : XStmt) : Int := most (most 0 ((stExprs x x.defs.length).map parsM.e)) (x.select.map parsM.q)
theorem s12_eq (x : XStmt) (h : XStmt.w x < 268435456) : s12 x = some (stPars x) := by
 have k1 := expr_len (stExprs x x.defs.length)
 have k2 := stExprs_w x x.defs.length
 have k3 := length_le_sum XSelect.w XSelect.w_pos x.select
 have k4 := x.w_eq
 unfold s12
 rw [s6_eq x h, call_of, refp_l _ _ (fun y hy => by have := exprs_lt hy; omega) (fun y hy => by have := select_lt hy; omega) (by omega) (by omega), call_of]
 rfl
theorem s11_eq (x : XStmt) (h : XStmt.w x < 268435456) : s11 x = some (stPars x) := by
 have k3 := length_le_sum XSelect.w XSelect.w_pos x.select
 have k4 := x.w_eq
 unfold s11
 rw [show n7 x = some (stExprs x x.defs.length) from need_t h, call_of, foldC_most s33 parsM.e _ _ (fun y hy => s33_eq y (by have := exprs_lt hy; omega)), call_of]
 refine (loop_from (fun j : Nat => ((j : Int), most (most 0 ((stExprs x x.defs.length).map parsM.e)) ((x.select.take j).map parsM.q))) x.select.length (by omega) (by simp [most]) (fun k j hj => ?_) (fun k => ?_)).trans ?_
 ·have hm := select_lt (getD_mem XSelect.z hj)
  dsimp only
  rw [dec_lt hj, way_tt, need_t (by omega), Int.toNat_natCast, s34_eq _ (by omega), call_of, wrap_succ hj (by omega), most_take parsM.q XSelect.z _ hj]
 ·dsimp only; rw [dec_self, way_ff, way_ff]
 dsimp only
 rw [dec_self, way_ff, List.take_length]
 rfl
theorem law_tells (a b : XStmt) (ha : XStmt.w a < 268435456) : s4 a b = some true := by
 have h1 : 2 * XStmt.w a < manyC := by unfold manyC; omega
 unfold s4
 rw [join_of]
 dsimp only
 rw [show n5 = some true from rfl, call_of, way_tt, s9_eq a b h1, call_of, s10_eq a b h1, call_of, beq_self_eq_true, way_tt, s9_eq a a h1, call_of, eqb_refl, way_tt, s11_eq a ha, call_of, s12_eq a ha, call_of, beq_self_eq_true]
theorem tells_ok (a b : XStmt) (ha : XStmt.w a < 268435456) : Gives Tryz.prog 4 [.agg a.v, .agg b.v] (vbool true) := c4 a b true (law_tells a b ha)
end Go.Proofs.YtdgoilofkgdaoaaGreatDoor.Ex
