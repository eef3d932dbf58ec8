/- What stmt.Exprs yields, where the range may be left. -/
import Derived.Test.YtdgoilofkgdaoaaGreatDoorE12
import Derived.Test.YtdgoilofkgdaoaaGreatDoorE15
import Derived.Test.YtdgoilofkgdaoaaGreatDoorE13
import Derived.Test.YtdgoilofkgdaoaaGreatDoorE4
import Derived.Test.YtdgoilofkgdaoaaGreatDoorE17
import Derived.Test.YtdgoilofkgdaoaaGreatDoorE3
import Derived.Test.YtdgoilofkgdaoaaGreatDoorE2
import Derived.Test.YtdgoilofkgdaoaaGreatDoorE6
set_option linter.unusedVariables false
set_option linter.unusedSimpArgs false
set_option maxRecDepth 100000
set_option maxHeartbeats 4000000
namespace Go.Proofs.YtdgoilofkgdaoaaGreatDoor.Ex
open Go.Am Go.Ex Go.Proofs.YtdgoilofkgdaoaaGreatDoor
theorem seq16S (l : List XExpr) (hl : ∀ x ∈ l, XExpr.w x < 268435456) (lo : Ghost) (yl : Nat) (rec : Loop) (s : Heap) (Hs : List XExpr → Heap → Prop) (R : Heap → Prop) (h0 : Hs [] s)
  (hY : ∀ pre x s, Hs pre s → (∃ suf, l = pre ++ x :: suf) → YieldOkS Tryz.prog lo yl rec [V.agg (XExpr.v x)] s (Hs (pre ++ [x])) R) : ACallsS Tryz.prog lo yl rec 16 ([yieldV yl] ++ [.elt [.slice 10 (List.map XExpr.v l)] 0]) s (Hs l) R := by
 refine acallsS_of (fn := Tryz.f16) Tryz.func16 rfl (by decide) (by show 2 ≤ 17; decide) rfl ?_
 rw [Tryz.ntmps16]
 refine AWpS.reg fun Z1 hZ1 => ?_
 simp only [List.cons_append, List.nil_append, ty28, am, seval, reduceCtorEq]
 refine hZ1 _ ?_; clear hZ1 Z1
 refine AWpS.block ?_
 refine AWpS.slen 5 (sz := 10) (es := l.map XExpr.v) (by simp only [am, seval, reduceCtorEq]) fun hmax => ?_
 have hmx := maxLen_lt; rw [List.length_map] at hmax
 refine AWpS.loopT (ι := Nat × Heap) (fun i => i.1 ≤ l.length ∧ Hs (l.take i.1) i.2) (fun i => tstO lo [(0, yieldV yl), (1, .elt [.slice 10 (List.map XExpr.v l)] 0), (5, .slice 10 (List.map XExpr.v l)), (6, vint l.length), (7, vint i.1)] [] i.2 17) (fun i => l.length - i.1) (0, s) ⟨⟨Nat.zero_le _, by simpa using h0⟩, ?_⟩ ?_
 ·refine le_tstO ?_ ?_ ?_ (Heap.le.refl _) rfl
  ·simp only [leE, yieldV, List.cons_append, List.nil_append, am, seval, reduceCtorEq] <;> simp
  ·simp only [okL, yieldV, keyIn, Nat.reduceBEq, Bool.or_true, Bool.true_or, Bool.or_false, and_self]
  ·simp only [leB, am, seval, reduceCtorEq]
 ·rintro ⟨i, s1⟩ ⟨hi, hH⟩
  simp only at hi hH ⊢
  refine AWpS.reg fun Z2 hZ2 => ?_
  simp only [ty3, tstO, am, seval, reduceCtorEq]
  refine hZ2 _ ?_; clear hZ2 Z2
  refine AWpS.seq_k fun K2 hK2 => ?_
  refine AWpS.cond (t := decide ((i:Int) < (l.length : Nat))) (by simp only [am, seval, reduceCtorEq]) (fun htj => ?_) (fun htj => ?_)
  ·have hlt : i < l.length := by have := of_decide_eq_true htj; omega
   have ix0 : (0 ≤ (i : Int)) = True := by simp
   have ix1 : ((i : Int) < ((l.length : Nat) : Int)) = True := by simp [hlt]
   obtain ⟨y, hy0⟩ : ∃ y, l[i] = y := ⟨_, rfl⟩
   have hgy : (List.map XExpr.v l).getD (i : Int).toNat [] = y.v := by rw [Int.toNat_natCast, List.getD_eq_getElem?_getD, List.getElem?_map, List.getElem?_eq_getElem hlt, hy0]; rfl
   refine AWpS.of (AWp.skip ?_)
   refine hK2 _ ?_; clear hK2
   refine AWpS.seq_k fun K3 hK3 => ?_
   refine AWpS.block ?_
   refine AWpS.reg fun Z3 hZ3 => ?_
   simp only [XExpr.vs, ix0, ix1, true_and, hgy, ty28, ty42, am, seval, reduceCtorEq]
   refine hZ3 _ ?_; clear hZ3 Z3
   refine AWpS.regY (N := Hs (l.take i ++ [y])) 3 rfl (by decide +kernel) fun Z4 hZ4 => ?_
   simp only [XExpr.vs, ty42, k12, k13, k14, am, seval, reduceCtorEq]
   refine (copied_ok y (hl y (hy0 ▸ List.getElem_mem hlt)) _).go ?_
   simp only [XExpr.vs, ty42, k12, k13, k14, am, seval, reduceCtorEq]
   refine ⟨[.agg y.v], rfl, ?_, ?_, ?_, hY _ y _ hH ⟨l.drop (i + 1), by rw [← hy0, ← List.drop_eq_getElem_cons hlt, List.take_append_drop]⟩, fun s2 hH2 => ?_, fun s2 => ?_⟩
   ·simp only [am, seval, reduceCtorEq]
   ·simp only [yieldV, am, seval, reduceCtorEq]
   ·simp only [am, seval, reduceCtorEq]
   rotate_left
   ·simp only [stopSt, Bool.not_false, ty4, k15, k16, k17, am, seval, reduceCtorEq]
    refine AWp.cond (t := true) (by simp only [am, seval, reduceCtorEq]) (fun _ => ?_) (fun h => by cases h)
    exact AWp.ret ⟨rfl, rfl, rfl⟩
   simp only [Bool.not_true, ty4, k15, k16, k17, am, seval, reduceCtorEq]
   refine hZ4 _ ?_; clear hZ4 Z4
   refine AWpS.cond (t := false) (by simp only [am, seval, reduceCtorEq]) (fun h => by cases h) (fun _ => ?_)
   refine AWpS.of (AWp.skip ?_)
   refine hK3 _ ?_; clear hK3
   refine AWpS.reg1 fun Z5 hZ5 => ?_
   simp only [ty3, am, seval, reduceCtorEq]
   refine hZ5 _ ?_; clear hZ5 Z5
   refine ⟨(i + 1, s2), ⟨⟨hlt, ?_⟩, by simp only; omega⟩, ?_⟩
   ·have e1 : l.take (i + 1) = l.take i ++ [y] := by rw [List.take_add_one, List.getElem?_eq_getElem hlt, hy0]; rfl
    simp only [e1]; exact hH2
   refine le_tstO ?_ ?_ ?_ (Heap.le.refl _) rfl
   ·simp only [leE, yieldV, tstO, am, seval, reduceCtorEq]
    have e2 : IntKind.i64.wrap ((i : Int) + 1) = ((i + 1 : Nat) : Int) := by
     rw [wrap_id (by omega) (by omega)]; simp
    first | (rw [e2]; done) | (rw [e2]; simp)
   ·simp only [okL, yieldV, keyIn, Nat.reduceBEq, Bool.or_true, Bool.true_or, Bool.or_false, and_self]
   ·simp only [leB, tstO, am, seval, reduceCtorEq]
  ·have hge : i = l.length := by have := of_decide_eq_false htj; omega
   refine AWpS.of (AWp.exit ?_)
   simp only [thenQ, blockQ, ↓reduceIte]
   refine ⟨s1, Heap.le.refl _, ?_⟩
   rw [hge, List.take_length] at hH; exact hH
end Go.Proofs.YtdgoilofkgdaoaaGreatDoor.Ex
namespace Go.Proofs.YtdgoilofkgdaoaaGreatDoor.Ex
open Go.Am Go.Ex Go.Proofs.YtdgoilofkgdaoaaGreatDoor
theorem expr_len (l : List XExpr) : l.length ≤ (l.map XExpr.w).sum := length_le_sum XExpr.w XExpr.w_pos l
theorem col_w (d : XColDef) : ((d.default ++ d.check).map XExpr.w).sum < XColDef.w d := by
 rw [XColDef.w_eq, List.map_append, List.sum_append]; omega
theorem cols_w : ∀ (l : List XColDef) (j : Nat), ((((l.take j).map fun d => d.default ++ d.check).flatten).map XExpr.w).sum ≤ (l.map XColDef.w).sum
 | [], j => by simp
 | d :: l, 0 => by simp
 | d :: l, j + 1 => by
  have h1 := cols_w l j
  have h2 := col_w d
  simp only [List.take_succ_cons, List.map_cons, List.flatten_cons, List.map_append, List.sum_append, List.sum_cons] at h1 h2 ⊢
  omega
theorem sets_w : ∀ l : List XSet, ((l.map XSet.expr).map XExpr.w).sum ≤ (l.map XSet.w).sum
 | [] => by simp
 | d :: l => by
  have h1 := sets_w l
  have h2 := d.w_eq
  simp only [List.map_cons, List.sum_cons] at h1 ⊢
  omega
theorem stExprs_w (x : XStmt) (j : Nat) : ((stExprs x j).map XExpr.w).sum < XStmt.w x := by
 have h1 := cols_w x.defs j
 have h2 := sets_w x.sets
 rw [XStmt.w_eq]
 unfold stExprs
 rw [List.map_append, List.map_append, List.sum_append, List.sum_append]
 omega
def n7 (x : XStmt) : Option (List XExpr) := need (XStmt.w x < 268435456) (some (stExprs x x.defs.length))
theorem n7_small {x : XStmt} {l : List XExpr} (h : n7 x = some l) : ∀ y ∈ l, XExpr.w y < 268435456 := by
 obtain ⟨hw, h⟩ := need_some h
 cases h
 intro y hy
 have h1 := mem_le_sum XExpr.w hy
 have h2 := stExprs_w x x.defs.length
 omega
theorem N7 (x : XStmt) (r : List XExpr) (h : n7 x = some r) : Gives Tryz.prog 7 [.agg x.v] (.func 16 [] [.elt [.slice 10 (List.map XExpr.v r)] 0]) := by
 obtain ⟨hw, h⟩ := need_some h
 cases h
 have e1 := x.w_eq
 have l1 := length_le_sum XSet.w XSet.w_pos x.sets
 have l2 := length_le_sum XColDef.w XColDef.w_pos x.defs
 have l3 := expr_len x.where_
 refine f7_walk x (by omega) (by omega) (by omega) fun i y hy => ?_
 have hm : y ∈ x.defs := List.mem_of_getElem? hy
 have k1 := expr_len (stExprs x i)
 have k2 := stExprs_w x i
 have k3 := expr_len (y.default ++ y.check)
 have k4 := col_w y
 have k5 := mem_le_sum XColDef.w hm
 have := c15 [stExprs x i, y.default, y.check] _ (s15_eq _ (by simp) (by simp only [List.flatten_cons, List.flatten_nil, List.length_append, List.length_nil] at k3 ⊢; omega))
 simp only [List.flatten_cons, List.flatten_nil, List.append_nil] at this
 rw [List.append_assoc]
 exact this
def n5 : Option Bool := some true
end Go.Proofs.YtdgoilofkgdaoaaGreatDoor.Ex
namespace Go.Proofs.YtdgoilofkgdaoaaGreatDoor.Ex
open Go.Am Go.Ex Go.Proofs.YtdgoilofkgdaoaaGreatDoor
theorem stExprs_next (x : XStmt) {j : Nat} (h : j < x.defs.length) : stExprs x (j + 1) = stExprs x j ++ (x.defs.getD j XColDef.z).default ++ (x.defs.getD j XColDef.z).check := by
 rw [stExprs_succ x h rfl, List.getD_eq_getElem?_getD, List.getElem?_eq_getElem h]; rfl
theorem sets_next (l : List XSet) {j : Nat} (h : j < l.length) : (l.take (j + 1)).map XSet.expr = (l.take j).map XSet.expr ++ [(l.getD j XSet.z).expr] := by
 rw [List.take_add_one, List.getElem?_eq_getElem h, List.map_append, List.getD_eq_getElem?_getD, List.getElem?_eq_getElem h]; rfl
theorem s6_eq (x : XStmt) (h : XStmt.w x < 268435456) : s6 x = some (stExprs x x.defs.length) := by
 have e1 := x.w_eq
 have l1 := length_le_sum XSet.w XSet.w_pos x.sets
 have l2 := length_le_sum XColDef.w XColDef.w_pos x.defs
 have l3 := expr_len x.where_
 unfold s6
 refine (loop_from (fun j : Nat => ((x.sets.take j).map XSet.expr, (j : Int))) x.sets.length (by omega) (by simp) (fun k j hj => ?_) (fun k => ?_)).trans ?_
 ·have ht : ((x.sets.take j).map XSet.expr).length ≤ x.sets.length := by simp; omega
  dsimp only
  rw [dec_lt hj, way_tt, need_t (by omega), need_t (by omega), Int.toNat_natCast, wrap_succ hj (by omega), sets_next _ hj]
 ·dsimp only; rw [dec_self, way_ff, way_ff]
 dsimp only
 rw [dec_self, way_ff, List.take_length, List.length_map, need_t (by omega)]
 refine (loop_from (fun j : Nat => (stExprs x j, (j : Int))) x.defs.length (by omega) (by simp [stExprs]) (fun k j hj => ?_) (fun k => ?_)).trans ?_
 ·have k1 := expr_len (stExprs x j)
  have k2 := stExprs_w x j
  have k3 := expr_len (stExprs x (j + 1))
  have k4 := stExprs_w x (j + 1)
  have k5 := congrArg List.length (stExprs_next x hj)
  rw [List.length_append, List.length_append] at k5
  dsimp only
  rw [dec_lt hj, way_tt, need_t (by omega), Int.toNat_natCast, need_t (by omega), need_t (by omega), List.length_append, need_t (by omega), wrap_succ hj (by omega), stExprs_next x hj]
 ·dsimp only; rw [dec_self, way_ff, way_ff]
 dsimp only
 rw [dec_self, way_ff]
end Go.Proofs.YtdgoilofkgdaoaaGreatDoor.Ex
namespace Go.Proofs.YtdgoilofkgdaoaaGreatDoor.Ex
open Go.Am Go.Ex Go.Proofs.YtdgoilofkgdaoaaGreatDoor
theorem le3 {s : Heap} {e4 e6 e7 : Nat} {X X' Y Y' Z : List V × TypeId} (h76 : e7 ≠ e6) (h74 : e7 ≠ e4) (hne : e6 ≠ e4) (h7 : s.box e7 = none) : (((((s.setBox e4 X).setBox e6 Y).setBox e7 Z).setBox e6 Y').setBox e4 X').le ((s.setBox e4 X').setBox e6 Y') :=
 ⟨fun k => by
  by_cases a : k = e7
  ·subst a; right; rw [setBox_ne h76, setBox_ne h74]; exact h7
  ·left
   by_cases b : k = e4
   ·subst b; rw [setBox_ne hne.symm, setBox_same, setBox_same]
   ·rw [setBox_ne b]
    by_cases c : k = e6
    ·subst c; rw [setBox_same, setBox_same]
    ·rw [setBox_ne c, setBox_ne c, setBox_ne b, setBox_ne a, setBox_ne c, setBox_ne b], fun g => .inl rfl⟩
theorem le2 {s : Heap} {e4 e6 e7 : Nat} {X Y Y' Z : List V × TypeId} (h76 : e7 ≠ e6) (h74 : e7 ≠ e4) (hne : e6 ≠ e4) (h7 : s.box e7 = none) : ((((s.setBox e4 X).setBox e6 Y).setBox e7 Z).setBox e6 Y').le ((s.setBox e4 X).setBox e6 Y') :=
 ⟨fun k => by
  by_cases a : k = e7
  ·subst a; right; rw [setBox_ne h76, setBox_ne h74]; exact h7
  ·left
   by_cases c : k = e6
   ·subst c; rw [setBox_same, setBox_same]
   ·rw [setBox_ne c, setBox_ne c, setBox_ne a, setBox_ne c], fun g => .inl rfl⟩
theorem law3 (x : XStmt) (n : Int) (hw : XStmt.w x < 268435456) : Gives Tryz.prog 3 [.agg x.v, vint n] (vbool true) := by
 intro s
 have h6 := c6 x _ (s6_eq x hw)
 have h7 := N7 x _ (show n7 x = some (stExprs x x.defs.length) from need_t hw)
 have hsm := n7_small (show n7 x = some (stExprs x x.defs.length) from need_t hw)
 have hlen : (stExprs x x.defs.length).length < 268435456 := by
  have k1 := expr_len (stExprs x x.defs.length)
  have k2 := stExprs_w x x.defs.length
  omega
 generalize stExprs x x.defs.length = l at h6 h7 hsm hlen
 refine acallsC_of (fn := Tryz.f3) Tryz.func3 rfl (by decide) (by show 2 ≤ 41; decide) rfl ?_
 rw [Tryz.ntmps3]
 refine AWp.reg fun Z1 hZ1 => ?_
 simp only [XStmt.vs, ty31, ty3, ty4, am, seval, reduceCtorEq]
 refine hZ1 _ ?_; clear hZ1 Z1
 refine AWp.seq_k fun K1 hK1 => ?_
 refine AWp.reg fun Z2 hZ2 => ?_
 simp only [ty4, am, seval, reduceCtorEq]
 refine goG head_ok ?_
 simp only [Bool.not_true, ty4, am, seval, reduceCtorEq]
 refine hZ2 _ ?_; clear hZ2 Z2
 refine AWp.cond (t := false) (by simp only [am, seval, reduceCtorEq]) (fun h => by cases h) (fun _ => ?_)
 refine AWp.skip ?_
 refine hK1 _ ?_; clear hK1
 refine AWp.reg fun Z3 hZ3 => ?_
 simp only [XStmt.vs, ty31, ty28, am, seval, reduceCtorEq]
 refine goG h6 ?_
 simp only [XStmt.vs, ty31, ty28, am, seval, reduceCtorEq]
 refine hZ3 _ ?_; clear hZ3 Z3
 refine AWp.reg fun Z4 hZ4 => ?_
 simp only [ty3, am, seval, reduceCtorEq]
 refine hZ4 _ ?_; clear hZ4 Z4
 refine AWp.seq_k fun K2 hK2 => ?_
 refine AWp.reg fun Z5 hZ5 => ?_
 simp only [XStmt.vs, ty31, ty28, am, seval, reduceCtorEq]
 refine goG h7 ?_
 simp only [XStmt.vs, ty31, ty28, am, seval, reduceCtorEq]
 refine hZ5 _ ?_; clear hZ5 Z5
 refine AWp.block ?_
 refine AWp.weaken (st' := tst [(3, .loc 3 0), (4, .loc 4 0), (5, .loc 5 0), (6, .loc 6 0), (13, .func 16 [] [.elt [.slice 10 (List.map XExpr.v l)] 0])] [(3, ([vint n], 3)), (4, ([vbool false], 4)), (5, ([.slice 10 (List.map XExpr.v l)], 28)), (6, ([vint 0], 3))] s 41) ?_ ?_
 ·refine le_tst ?_ ?_ ?_ (Heap.le.refl _) rfl
  ·simp only [leE, am, seval, reduceCtorEq] <;> simp
  ·simp only [okL, keyIn, Nat.reduceBEq, Bool.or_true, Bool.true_or, Bool.or_false, and_self]
  ·simp only [leB, am, seval, reduceCtorEq] <;> simp
 refine AWp.frz 3 (cs := [vint n]) (ty := 3) (by simp only [tst, am, seval, reduceCtorEq] <;> rfl) ?_
 refine AWp.frz 5 (cs := [.slice 10 (List.map XExpr.v l)]) (ty := 28) (by simp only [tst, St.frz, am, seval, reduceCtorEq] <;> rfl) ?_
 refine AWp.publish (t0 := 4) (x := ([vbool false], 4)) (by simp only [tst, St.frz, am, seval, reduceCtorEq] <;> rfl) fun e4 he4 => ?_
 refine AWp.publish (t0 := 6) (x := ([vint 0], 3)) (by simp only [tst, St.frz, St.publish, am, seval, reduceCtorEq] <;> rfl) fun e6 he6 => ?_
 change s.box e4 = none at he4
 change (s.setBox e4 ([vbool false], 4)).box e6 = none at he6
 have hne : e6 ≠ e4 := fun h => by rw [h, setBox_same] at he6; cases he6
 have he6' : s.box e6 = none := by rwa [setBox_ne hne] at he6
 refine AWp.weaken (st' := tst [(3, .elt [vint n] 0), (4, .ptr e4 0), (5, .elt [.slice 10 (List.map XExpr.v l)] 0), (6, .ptr e6 0), (13, .func 16 [] [.elt [.slice 10 (List.map XExpr.v l)] 0])] [] ((s.setBox e4 ([vbool false], 4)).setBox e6 ([vint 0], 3)) 41) ?_ ?_
 ·refine le_tst ?_ ?_ ?_ (Heap.le.refl _) rfl
  ·simp only [leE, tst, St.frz, frzV, St.publish, substV, am, seval, reduceCtorEq] <;> simp
  ·simp only [okL, keyIn, Nat.reduceBEq, Bool.or_true, Bool.true_or, Bool.or_false, and_self]
  ·simp only [leB, tst, St.frz, St.publish, am, seval, reduceCtorEq] <;> simp
 refine AWp.rangeFuncS (N := fun h => h = (s.setBox e4 ([vbool false], 4)).setBox e6 ([vint l.length], 3)) (R := fun h => ∃ i : Int, h = (s.setBox e4 ([vbool true], 4)).setBox e6 ([vint i], 3)) (caps := [.elt [.slice 10 (List.map XExpr.v l)] 0]) (f := 16) (by simp only [tst, am, seval, reduceCtorEq]) (by funext k; simp only [tst, locs]) (by simp only [tst]; decide) (by decide +kernel) (fun lo yl rec hround => ?_) (fun s' D hN => ?_) (fun s' D hR => ?_)
 ·refine seq16S l hsm lo yl rec _ (fun pre h => h = (s.setBox e4 ([vbool false], 4)).setBox e6 ([vint pre.length], 3)) _ rfl ?_
  rintro pre y h rfl ⟨suf, hl⟩
  refine hround _ _ _ ?_
  intro Z10 hZ10
  simp only [tst, ty42, XExpr.vs, am, seval, reduceCtorEq]
  refine hZ10 _ 7 y.v 42 ?_ rfl rfl fun F hF e7 he7 => ?_
  ·funext k; simp only [upd]; (repeat' split) <;> first | rfl | (simp_all; done)
  change ((s.setBox e4 ([vbool false], 4)).setBox e6 ([vint pre.length], 3)).box e7 = none at he7
  have h76 : e7 ≠ e6 := fun h => by rw [h, setBox_same] at he7; cases he7
  have h74 : e7 ≠ e4 := fun h => by rw [h, setBox_ne hne.symm, setBox_same] at he7; cases he7
  have hlt : pre.length < l.length := by rw [hl]; simp
  have hgy : (List.map XExpr.v l).getD ((pre.length : Nat) : Int).toNat [] = y.v := by rw [Int.toNat_natCast, List.getD_eq_getElem?_getD, List.getElem?_map, hl]; simp
  have ix0 : (0 ≤ ((pre.length : Nat) : Int)) = True := by simp
  have ix1 : (((pre.length : Nat) : Int) < ((l.length : Nat) : Int)) = True := by simp [hlt]
  have hge : decide (((pre.length : Nat) : Int) ≥ ((l.length : Nat) : Int)) = false := by simp; omega
  have hym : y ∈ l := by rw [hl]; simp
  have h8 := c8 y y _ (s8_eq y y (by have := hsm y hym; unfold manyC; omega))
  rw [eqb_refl] at h8
  refine AWpI.block ?_
  refine AWpI.seq_k fun K3 hK3 => ?_
  refine AWpI.seq_k fun K4 hK4 => ?_
  refine AWpI.regD hF mixed (by decide +kernel) [0, 1, 2, 3, 4, 5, 6, 7, 8, 9, 10, 11, 12] (by decide +kernel) [] (by decide +kernel) fun Z7 hZ7 => ?_
  simp only [St.publish, substV, setBox_same, setBox_ne h76, setBox_ne h74, setBox_ne h76.symm, setBox_ne h74.symm, setBox_ne hne, setBox_ne hne.symm, ty3, ty4, ty28, ty42, ix0, ix1, hge, hgy, XExpr.vs, true_and, ↓reduceIte, aml, Nat.reduceBEq, am, seval, reduceCtorEq]
  refine goG h8 ?_
  simp only [setBox_same, setBox_ne h76, setBox_ne h74, setBox_ne h76.symm, setBox_ne h74.symm, setBox_ne hne, setBox_ne hne.symm, ty3, ty4, ty28, ty42, ix0, ix1, hge, hgy, XExpr.vs, Bool.not_true, true_and, ↓reduceIte, aml, Nat.reduceBEq, am, seval, reduceCtorEq]
  refine hZ7 _ ?_; clear hZ7 Z7
  refine hK4 _ ?_; clear hK4
  refine AWpI.cond (t := false) (by simp only [am, seval, reduceCtorEq]) (fun h => by cases h) fun _ => AWpI.skip ?_
  refine hK3 _ ?_; clear hK3
  refine AWpI.reg hF (by decide +kernel) fun Z9 hZ9 => ?_
  simp only [setBox_same, setBox_ne h76, setBox_ne h74, setBox_ne h76.symm, setBox_ne h74.symm, setBox_ne hne, setBox_ne hne.symm, ty3, am, seval, reduceCtorEq]
  refine hZ9 _ ?_; clear hZ9 Z9
  refine AWpI.reg hF (by decide +kernel) fun Z10 hZ10 => ?_
  simp only [setBox_same, setBox_ne h76, setBox_ne h74, setBox_ne h76.symm, setBox_ne h74.symm, setBox_ne hne, setBox_ne hne.symm, ty3, am, seval, reduceCtorEq]
  refine hZ10 _ ?_; clear hZ10 Z10
  have e9 : IntKind.i64.wrap (((pre.length : Nat) : Int) + 1) = ((pre.length + 1 : Nat) : Int) := by rw [wrap_id (by omega) (by omega)]; simp
  have h7' : s.box e7 = none := by rw [setBox_ne h76, setBox_ne h74] at he7; exact he7
  refine AWpI.cond (t := (((pre.length + 1 : Nat) : Int) == n)) (by simp only [e9, am, seval, reduceCtorEq]) (fun ht => ?_) fun ht => ?_
  ·refine AWpI.reg hF (by decide +kernel) fun Z11 hZ11 => ?_
   simp only [ty4, am, seval, reduceCtorEq]
   refine goG head_ok ?_
   simp only [setBox_same, setBox_ne h76, setBox_ne h74, setBox_ne h76.symm, setBox_ne h74.symm, setBox_ne hne, setBox_ne hne.symm, ty4, am, seval, reduceCtorEq]
   refine hZ11 _ ?_; clear hZ11 Z11
   refine AWpI.ret ?_
   exact ⟨_, le3 h76 h74 hne h7', _, rfl⟩
  ·refine AWpI.skip ?_
   refine ⟨_, le2 h76 h74 hne h7', ?_⟩
   rw [e9]; simp
 ·simp only [blockQ, thenQ]
  refine hK2 _ ?_; clear hK2
  subst hN
  refine AWp.reg fun Z12 hZ12 => ?_
  simp only [tst, ty4, ty3, ty28, am, seval, reduceCtorEq]
  refine goG head_ok ?_
  simp only [tst, setBox_same, setBox_ne hne, setBox_ne hne.symm, beq_self_eq_true, ty4, ty3, ty28, am, seval, reduceCtorEq]
  refine hZ12 _ ?_; clear hZ12 Z12
  refine AWp.ret ?_
  exact ⟨e4, _, 4, _, vbool true, s, by simp only [am, seval, reduceCtorEq], setBox_same, ty4, rfl, (((Heap.le.refl s).setBox he4 _).setBox he6' _).setBox he4 _, rfl, rfl⟩
 ·simp only [blockQ, thenQ]
  obtain ⟨i, rfl⟩ := hR
  exact ⟨e4, [vbool true], 4, _, vbool true, s, rfl, by rw [setBox_ne hne.symm, setBox_same], ty4, rfl, ((Heap.le.refl s).setBox he4 _).setBox he6' _, rfl, rfl⟩
end Go.Proofs.YtdgoilofkgdaoaaGreatDoor.Ex
