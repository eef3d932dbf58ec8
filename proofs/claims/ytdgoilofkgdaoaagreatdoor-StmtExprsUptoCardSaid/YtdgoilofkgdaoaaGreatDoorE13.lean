/- stmt.Exprs: the walk. -/
import Derived.Test.YtdgoilofkgdaoaaGreatDoorE12
import Derived.Test.YtdgoilofkgdaoaaGreatDoorE2
import Derived.Test.YtdgoilofkgdaoaaGreatDoorE14
set_option linter.unusedVariables false
set_option linter.unusedSimpArgs false
set_option maxRecDepth 100000
set_option maxHeartbeats 4000000
namespace Go.Proofs.YtdgoilofkgdaoaaGreatDoor.Ex
open Go.Am Go.Ex Go.Proofs.YtdgoilofkgdaoaaGreatDoor
/-- What stands in the slice that grows. -/
structure Bx (s0 h : Heap) (a : Option Addr) (n cap : Nat) (rows : List (List V)) : Prop where
 num : rows.length = n
 len : ∀ r ∈ rows, r.length = 10
 le : h.le s0
 cs : ∃ tl, MutAt h a n cap (rows.flatten ++ tl) 42 10 ∧ ∀ b, a = some ⟨b, 0, none⟩ → s0.box b = none
theorem Bx.start (s0 : Heap) : Bx s0 s0 none 0 0 [] := ⟨rfl, by simp, Heap.le.refl _, [], .inl ⟨rfl, rfl, rfl, rfl⟩, by simp⟩
theorem Bx.push {s0 h : Heap} {a : Option Addr} {n cap : Nat} {rows : List (List V)} (hb : Bx s0 h a n cap rows) {xs : List (List V)} (hx : ∀ r ∈ xs, r.length = 10) {b' cap' : Nat} {cs' : List V}
  (hab : a = some ⟨b', 0, none⟩ ∨ h.box b' = none) (hl : cs'.length = cap' * 10) (ht : cs'.take ((n + xs.length) * 10) = rows.flatten ++ xs.flatten) (h1 : n + xs.length ≤ cap') (h2 : cap' ≤ maxLen) :
  ∃ tl, cs' = (rows ++ xs).flatten ++ tl ∧ Bx s0 (h.setBox b' (cs', 42)) (some ⟨b', 0, none⟩) (n + xs.length) cap' (rows ++ xs) := by
 have e : cs' = (rows ++ xs).flatten ++ cs'.drop ((n + xs.length) * 10) := by
  rw [List.flatten_append, ← ht, List.take_append_drop]
 obtain ⟨tl, hm, hf⟩ := hb.cs
 have h0 : s0.box b' = none := by
  rcases hab with ha | ha
  ·exact hf b' ha
  ·rcases hb.le.box b' with he | he
   ·exact he.trans ha
   ·exact he
 refine ⟨_, e, by rw [List.length_append, hb.num], fun r hr => ?_, hb.le.setBox h0 _, cs'.drop ((n + xs.length) * 10), .inr ⟨b', rfl, ?_, ?_, h1, h2⟩, fun b hb' => ?_⟩
 ·rcases List.mem_append.1 hr with hr | hr
  ·exact hb.len r hr
  ·exact hx r hr
 ·rw [setBox_same, ← e]
 ·rw [← e]; exact hl
 ·cases hb'; exact h0
theorem Bx.take {s0 h : Heap} {a : Option Addr} {n cap : Nat} {rows : List (List V)} (hb : Bx s0 h a n cap rows) {tl : List V} : (rows.flatten ++ tl).take (n * 10) = rows.flatten := by
 rw [← hb.num, ← flat_len hb.len, List.take_left]
theorem Bx.put {s0 h : Heap} {b n cap : Nat} {rows : List (List V)} {z y : List V} {tl : List V} (hb : Bx s0 (h.setBox b ((rows ++ [z]).flatten ++ tl, 42)) (some ⟨b, 0, none⟩) (n + 1) cap (rows ++ [z])) (hy : y.length = 10) :
  Bx s0 (h.setBox b ((rows ++ [y]).flatten ++ tl, 42)) (some ⟨b, 0, none⟩) (n + 1) cap (rows ++ [y]) := by
 obtain ⟨tl', hm, hf⟩ := hb.cs
 rcases hm with ⟨h1, _⟩ | ⟨b', hb', h1, h2, h3, h4⟩
 ·cases h1
 cases hb'
 rw [setBox_same] at h1
 have hz := hb.len z (by simp)
 have hfl : ((rows ++ [y]).flatten ++ tl).length = ((rows ++ [z]).flatten ++ tl).length := by simp [hy, hz]
 have h0 := hf b rfl
 refine ⟨by have := hb.num; simp at this ⊢; exact this, fun r hr => ?_, ?_, tl, .inr ⟨b, rfl, by rw [setBox_same], ?_, h3, h4⟩, hf⟩
 ·rcases List.mem_append.1 hr with hr | hr
  ·exact hb.len r (List.mem_append.2 (.inl hr))
  ·rw [List.mem_singleton.1 hr]; exact hy
 ·have := hb.le.setBox h0 ((rows ++ [y]).flatten ++ tl, 42)
  rwa [setBox_set] at this
 ·rw [hfl, ← h2]
  have := congrArg (fun q : Option (List V × TypeId) => q.map fun p => p.1.length) h1
  simpa using this
theorem Bx.spl {rows : List (List V)} {z y tl : List V} (hr : ∀ r ∈ rows ++ [z], r.length = 10) {n : Nat} (hn : rows.length = n) (hy : y.length = 10) : n * 10 + 10 ≤ ((rows ++ [z]).flatten ++ tl).length ∧ splice ((rows ++ [z]).flatten ++ tl) (n * 10) y = (rows ++ [y]).flatten ++ tl := by
 have hz := hr z (by simp)
 have hl := flat_len (sz := 10) (es := rows) (fun r h => hr r (List.mem_append.2 (.inl h)))
 subst hn
 refine ⟨by simp [hl, hz], ?_⟩
 have e1 : (rows ++ [z]).flatten ++ tl = rows.flatten ++ (z ++ tl) := by simp
 rw [e1]
 unfold splice
 rw [← hl, List.take_left, List.drop_append, List.drop_of_length_le (by omega : rows.flatten.length ≤ rows.flatten.length + y.length), List.nil_append]
 rw [show rows.flatten.length + y.length - rows.flatten.length = z.length by omega, List.drop_left]
 simp
theorem Bx.cap_le {s0 h : Heap} {a : Option Addr} {n cap : Nat} {rows : List (List V)} (hb : Bx s0 h a n cap rows) : n ≤ cap := by
 obtain ⟨tl, hm, hf⟩ := hb.cs
 rcases hm with ⟨_, rfl, rfl, _⟩ | ⟨b, _, _, _, h, _⟩
 ·exact Nat.le_refl _
 ·exact h
theorem AWp.settleBx {c : Code} {Q : Exit → St → Prop} {st : St} (t : Nat) {s0 : Heap} {a : Option Addr} {n cap : Nat} {rows : List (List V)} {lty : TypeId} (hB : Bx s0 st.s a n cap rows) (hl : st.loc t = some ([.base (.slice a n cap)], lty))
  (h : ∀ h', h'.le s0 → AWp Tryz.prog c Q { st with loc := upd st.loc t (some ([.slice 10 rows], lty)), s := h' }) : AWp Tryz.prog c Q st := by
 obtain ⟨tl, hm, hf⟩ := hB.cs
 rcases hm with ⟨rfl, rfl, rfl, _⟩ | ⟨b, rfl, h2, h3, h4, h5⟩
 ·obtain rfl : rows = [] := List.eq_nil_of_length_eq_zero hB.num
  exact AWp.wkB t [.slice 10 []] hl (by simp only [WkL, and_true]; exact fun G v h => by cases h; exact .slice0 _ _ _) (h st.s hB.le)
 ·have hn := hB.num
  subst hn
  exact AWp.settleB t 0 (x := frz b rows.length cap) ⟨hB.len, .inr ⟨b, cap, tl, rfl, h4, h5, hf b rfl, h2⟩⟩ hB.le hl rfl fun h' hle _ => h h' hle
end Go.Proofs.YtdgoilofkgdaoaaGreatDoor.Ex
namespace Go.Proofs.YtdgoilofkgdaoaaGreatDoor.Ex
open Go.Am Go.Ex Go.Proofs.YtdgoilofkgdaoaaGreatDoor
def setRows (x : XStmt) (i : Nat) : List (List V) := (x.sets.take i).map fun y => y.expr.v
theorem setRows_succ (x : XStmt) {i : Nat} (h : i < x.sets.length) {y : XSet} (hy : x.sets[i] = y) : setRows x (i + 1) = setRows x i ++ [y.expr.v] := by
 unfold setRows
 rw [List.take_add_one, List.getElem?_eq_getElem h, hy, List.map_append]; rfl
/-- A statement's expressions, its definitions taken so far. -/
def stExprs (x : XStmt) (j : Nat) : List XExpr := x.sets.map XSet.expr ++ x.where_ ++ ((x.defs.take j).map fun d => d.default ++ d.check).flatten
theorem stExprs_0 (x : XStmt) : (stExprs x 0).map XExpr.v = setRows x x.sets.length ++ x.where_.map XExpr.v := by
 simp [stExprs, setRows]
theorem stExprs_succ (x : XStmt) {i : Nat} (h : i < x.defs.length) {y : XColDef} (hy : x.defs[i] = y) : stExprs x (i + 1) = stExprs x i ++ y.default ++ y.check := by
 unfold stExprs
 rw [List.take_add_one, List.getElem?_eq_getElem h, hy]
 simp
theorem f7_walk (x : XStmt) (h1 : x.sets.length ≤ 268435456) (h2 : x.defs.length ≤ 268435456) (h3 : x.where_.length ≤ 268435456) (h15 : ∀ (i : Nat) (y : XColDef), x.defs[i]? = some y → GivesOwn Tryz.prog 15 [.slice 1 [[.slice 10 ((stExprs x i).map XExpr.v)], [.slice 10 (y.default.map XExpr.v)], [.slice 10 (y.check.map XExpr.v)]]] 42 10 ((stExprs x i ++ y.default ++ y.check).map XExpr.v)) : Gives Tryz.prog 7 [.agg x.v] (.func 16 [] [.elt [.slice 10 ((stExprs x x.defs.length).map XExpr.v)] 0]) := by
 intro s
 refine acalls_of (fn := Tryz.f7) Tryz.func7 rfl (by decide) (by show 1 ≤ 43; decide) ?_
 rw [Tryz.ntmps7]
 refine AWp.reg fun Z1 hZ1 => ?_
 simp only [XStmt.vs, ty31, am, seval, reduceCtorEq]
 refine hZ1 _ ?_; clear hZ1 Z1
 refine AWp.reg fun Z2 hZ2 => ?_
 simp only [XStmt.vs, ty28, am, seval, reduceCtorEq]
 refine hZ2 _ ?_; clear hZ2 Z2
 refine AWp.wkB 3 [.base (.slice none 0 0)] (by simp only [am, seval, reduceCtorEq] <;> rfl) (by simp only [WkL, am, seval, reduceCtorEq]; exact fun G v h => by cases h; exact .base _) ?_
 refine AWp.seq_k fun K1 hK1 => ?_
 refine AWp.reg fun Z3 hZ3 => ?_
 simp only [XStmt.vs, ty31, ty27, ty3, am, seval, reduceCtorEq]
 refine hZ3 _ ?_; clear hZ3 Z3
 refine AWp.block ?_
 refine AWp.loopT (ι := Nat × Heap × Option Addr × Nat) (fun i => i.1 ≤ x.sets.length ∧ Bx s i.2.1 i.2.2.1 i.1 i.2.2.2 (setRows x i.1)) (fun i => tst [(1, .loc 1 0), (2, .base .nilFunc), (3, .loc 3 0), (9, .slice 11 (List.map XSet.v x.sets)), (10, vint x.sets.length), (11, vint i.1)] [(1, (x.v, 31)), (3, ([.base (.slice i.2.2.1 i.1 i.2.2.2)], 28))] i.2.1 43) (fun i => x.sets.length - i.1) (0, s, none, 0) ⟨⟨Nat.zero_le _, Bx.start s⟩, ?_⟩ ?_
 ·refine le_tst ?_ ?_ ?_ (Heap.le.refl _) rfl
  ·simp only [leE, am, seval, reduceCtorEq] <;> simp
  ·simp only [okL, keyIn, Nat.reduceBEq, Bool.or_true, Bool.true_or, Bool.or_false, and_self]
  ·simp only [leB, am, seval, reduceCtorEq] <;> simp
 ·rintro ⟨i, h, a, cap⟩ ⟨hi, hB⟩
  simp only at hi hB ⊢
  refine AWp.reg fun Z4 hZ4 => ?_
  simp only [ty3, tst, am, seval, reduceCtorEq]
  refine hZ4 _ ?_; clear hZ4 Z4
  refine AWp.seq_k fun K2 hK2 => ?_
  refine AWp.cond (t := decide ((i:Int) < (x.sets.length : Nat))) (by simp only [am, seval, reduceCtorEq]) (fun ht => ?_) (fun ht => ?_)
  ·have hlt : i < x.sets.length := by have := of_decide_eq_true ht; omega
   have ix0 : (0 ≤ (i : Int)) = True := by simp
   have ix1 : ((i : Int) < ((x.sets.length : Nat) : Int)) = True := by simp [hlt]
   obtain ⟨y, hy0⟩ : ∃ y, x.sets[i] = y := ⟨_, rfl⟩
   have hgy : (List.map XSet.v x.sets).getD (i : Int).toNat [] = y.v := by rw [Int.toNat_natCast, List.getD_eq_getElem?_getD, List.getElem?_map, List.getElem?_eq_getElem hlt, hy0]; rfl
   refine AWp.skip ?_
   refine hK2 _ ?_; clear hK2
   refine AWp.seq_k fun K3 hK3 => ?_
   refine AWp.block ?_
   refine AWp.reg fun Z5 hZ5 => ?_
   simp only [XSet.vs, ix0, ix1, true_and, hgy, ty27, ty53, am, seval, reduceCtorEq]
   refine hZ5 _ ?_; clear hZ5 Z5
   refine AWp.regLT1 mixed 7 8 [0, 1, 2, 3, 4, 5, 6, 7, 8] [0, 1, 2, 3, 4, 5, 6, 8, 7] (by decide +kernel) [] [] (by decide +kernel) (by decide +kernel) (fun Z6 hZ6 => ?_) (fun Z6 hZ6 => ?_)
   ·simp only [addEdge_get, addE, XSet.vs, ty28, ty53, ty42, ty3, aml, Nat.reduceBEq, am, seval, reduceCtorEq]
    simp only [aAppendM, List.length_cons, List.length_nil, Nat.reduceAdd, Nat.reduceEqDiff, ↓reduceIte]
    obtain ⟨tl, hm, hf⟩ := hB.cs
    refine ⟨by omega, by unfold maxLen; omega, _, hm, fun b' cap' cs' q1 q2 q3 q4 q5 => ?_⟩
    rw [hB.take] at q3
    obtain ⟨tl2, rfl, hB2⟩ := hB.push (xs := [_]) (by simp) q1 q2 q3 q4 q5
    obtain ⟨e1, e2⟩ := Bx.spl (tl := tl2) hB2.len hB.num (y.expr.v_len)
    have e1 := isT e1
    have ix2 : ((i : Int) < ((i + 1 : Nat) : Int)) = True := isT (by omega)
    simp only [addEdge_get, addE, XSet.vs, XExpr.v_len, XExpr.v_all, ty28, ty53, ty42, ty3, setBox_same, setBox_set, ix0, ix2, e1, e2, Int.toNat_natCast, true_and, and_true, ↓reduceIte, aml, Nat.reduceBEq, am, seval, reduceCtorEq]
    refine hZ6 _ ?_; clear hZ6 Z6
    refine hK3 _ ?_; clear hK3
    refine AWp.reg1 fun Z7 hZ7 => ?_
    simp only [ty3, am, seval, reduceCtorEq]
    refine hZ7 _ ?_; clear hZ7 Z7
    refine ⟨(i + 1, h.setBox b' ((setRows x i ++ [y.expr.v]).flatten ++ tl2, 42), some ⟨b', 0, none⟩, cap'), ⟨⟨hlt, ?_⟩, by simp only; omega⟩, ?_⟩
    ·exact (setRows_succ x hlt hy0) ▸ Bx.put hB2 y.expr.v_len
    refine le_tst ?_ ?_ ?_ (Heap.le.refl _) rfl
    ·simp only [leE, am, seval, reduceCtorEq]
     have e9 : IntKind.i64.wrap ((i : Int) + 1) = ((i + 1 : Nat) : Int) := by rw [wrap_id (by omega) (by omega)]; simp
     first | (rw [e9]; done) | (rw [e9]; simp)
    ·simp only [okL, keyIn, Nat.reduceBEq, Bool.or_true, Bool.true_or, Bool.or_false, and_self]
    ·simp only [leB, am, seval, reduceCtorEq] <;> simp
   ·simp only [addEdge_get, addE, XSet.vs, ty28, ty53, ty42, ty3, aml, Nat.reduceBEq, am, seval, reduceCtorEq]
    simp only [aAppendM, List.length_cons, List.length_nil, Nat.reduceAdd, Nat.reduceEqDiff, ↓reduceIte]
    obtain ⟨tl, hm, hf⟩ := hB.cs
    refine ⟨by omega, by unfold maxLen; omega, _, hm, fun b' cap' cs' q1 q2 q3 q4 q5 => ?_⟩
    rw [hB.take] at q3
    obtain ⟨tl2, rfl, hB2⟩ := hB.push (xs := [_]) (by simp) q1 q2 q3 q4 q5
    obtain ⟨e1, e2⟩ := Bx.spl (tl := tl2) hB2.len hB.num (y.expr.v_len)
    have e1 := isT e1
    have ix2 : ((i : Int) < ((i + 1 : Nat) : Int)) = True := isT (by omega)
    simp only [addEdge_get, addE, XSet.vs, XExpr.v_len, XExpr.v_all, ty28, ty53, ty42, ty3, setBox_same, setBox_set, ix0, ix2, e1, e2, Int.toNat_natCast, true_and, and_true, ↓reduceIte, aml, Nat.reduceBEq, am, seval, reduceCtorEq]
    refine hZ6 _ ?_; clear hZ6 Z6
    refine hK3 _ ?_; clear hK3
    refine AWp.reg1 fun Z7 hZ7 => ?_
    simp only [ty3, am, seval, reduceCtorEq]
    refine hZ7 _ ?_; clear hZ7 Z7
    refine ⟨(i + 1, h.setBox b' ((setRows x i ++ [y.expr.v]).flatten ++ tl2, 42), some ⟨b', 0, none⟩, cap'), ⟨⟨hlt, ?_⟩, by simp only; omega⟩, ?_⟩
    ·exact (setRows_succ x hlt hy0) ▸ Bx.put hB2 y.expr.v_len
    refine le_tst ?_ ?_ ?_ (Heap.le.refl _) rfl
    ·simp only [leE, am, seval, reduceCtorEq]
     have e9 : IntKind.i64.wrap ((i : Int) + 1) = ((i + 1 : Nat) : Int) := by rw [wrap_id (by omega) (by omega)]; simp
     first | (rw [e9]; done) | (rw [e9]; simp)
    ·simp only [okL, keyIn, Nat.reduceBEq, Bool.or_true, Bool.true_or, Bool.or_false, and_self]
    ·simp only [leB, am, seval, reduceCtorEq] <;> simp
  ·have hge : i = x.sets.length := by have := of_decide_eq_false ht; omega
   subst hge
   refine AWp.exit ?_
   simp only [thenQ, blockQ, ↓reduceIte]
   refine hK1 _ ?_; clear hK1
   refine AWp.seq_cut (ι := Heap × Option Addr × Nat) (fun i => Bx s i.1 i.2.1 (x.sets.length + x.where_.length) i.2.2 (setRows x x.sets.length ++ x.where_.map XExpr.v)) (fun i => tst [(1, .loc 1 0), (2, .base .nilFunc), (3, .loc 3 0)] [(1, (x.v, 31)), (3, ([.base (.slice i.2.1 (x.sets.length + x.where_.length) i.2.2)], 28))] i.1 43) (AWp.reg1 fun Z8 hZ8 => ?_) ?_
   ·simp only [XStmt.vs, ty31, ty28, ty42, am, seval, reduceCtorEq]
    simp only [aAppendM, List.length_map]
    split
    ·rename_i hw
     have hcap := hB.cap_le
     refine ⟨hcap, ?_⟩
     simp only [XStmt.vs, ty31, ty28, am, seval, reduceCtorEq]
     refine hZ8 _ ?_; clear hZ8 Z8
     refine ⟨(h, a, cap), ?_, ?_⟩
     ·have : x.where_ = [] := List.eq_nil_of_length_eq_zero hw
      simpa [this] using hB
     ·refine le_tst ?_ ?_ ?_ (Heap.le.refl _) rfl
      ·simp only [leE, am, seval, reduceCtorEq] <;> simp
      ·simp only [okL, keyIn, Nat.reduceBEq, Bool.or_true, Bool.true_or, Bool.or_false, and_self]
      ·simp only [leB, hw, Nat.add_zero, am, seval, reduceCtorEq] <;> simp
    ·rename_i hw
     obtain ⟨tl, hm, hf⟩ := hB.cs
     refine ⟨by omega, by unfold maxLen; omega, _, hm, fun b' cap' cs' q1 q2 q3 q4 q5 => ?_⟩
     rw [hB.take] at q3
     obtain ⟨tl2, rfl, hB2⟩ := hB.push (xs := x.where_.map XExpr.v) (fun r hr => by obtain ⟨y, _, rfl⟩ := List.mem_map.1 hr; exact y.v_len) q1 q2 (by rw [List.length_map]; exact q3) (by rw [List.length_map]; exact q4) q5
     rw [List.length_map] at hB2
     simp only [XStmt.vs, ty31, ty28, am, seval, reduceCtorEq]
     refine hZ8 _ ?_; clear hZ8 Z8
     refine ⟨(h.setBox b' ((setRows x x.sets.length ++ x.where_.map XExpr.v).flatten ++ tl2, 42), some ⟨b', 0, none⟩, cap'), hB2, ?_⟩
     refine le_tst ?_ ?_ ?_ (Heap.le.refl _) rfl
     ·simp only [leE, am, seval, reduceCtorEq] <;> simp
     ·simp only [okL, keyIn, Nat.reduceBEq, Bool.or_true, Bool.true_or, Bool.or_false, and_self]
     ·simp only [leB, am, seval, reduceCtorEq] <;> simp
   ·rintro ⟨h, a, cap⟩ hB
    simp only at hB ⊢
    refine AWp.settleBx 3 (lty := 28) hB (by simp only [tst, am, seval, reduceCtorEq]) fun h' hle => ?_
    refine AWp.weaken (st' := tst [(1, .loc 1 0), (2, .base .nilFunc), (3, .loc 3 0)] [(1, (x.v, 31)), (3, ([.slice 10 ((stExprs x 0).map XExpr.v)], 28))] h' 43) ?_ ?_
    ·rw [stExprs_0]
     refine le_tst ?_ ?_ ?_ (Heap.le.refl _) rfl
     ·simp only [leE, tst, am, seval, reduceCtorEq] <;> simp
     ·simp only [okL, keyIn, Nat.reduceBEq, Bool.or_true, Bool.true_or, Bool.or_false, and_self]
     ·simp only [leB, tst, am, seval, reduceCtorEq] <;> simp
    refine AWp.seq_k fun K1 hK1 => ?_
    refine AWp.reg fun Z3 hZ3 => ?_
    simp only [XStmt.vs, tst, ty31, ty25, ty3, am, seval, reduceCtorEq]
    refine hZ3 _ ?_; clear hZ3 Z3
    refine AWp.block ?_
    refine AWp.loopT (ι := Nat × Heap) (fun i => i.1 ≤ x.defs.length ∧ i.2.le s) (fun i => tst [(2, .base .nilFunc), (3, .loc 3 0), (28, .slice 8 (List.map XColDef.v x.defs)), (29, vint x.defs.length), (30, vint i.1)] [(3, ([.slice 10 ((stExprs x i.1).map XExpr.v)], 28))] i.2 43) (fun i => x.defs.length - i.1) (0, h') ⟨⟨Nat.zero_le _, hle⟩, ?_⟩ ?_
    ·refine le_tst ?_ ?_ ?_ (Heap.le.refl _) rfl
     ·simp only [leE, am, seval, reduceCtorEq] <;> simp
     ·simp only [okL, keyIn, Nat.reduceBEq, Bool.or_true, Bool.true_or, Bool.or_false, and_self]
     ·simp only [leB, am, seval, reduceCtorEq] <;> simp
    ·rintro ⟨i, h⟩ ⟨hi, hle⟩
     simp only at hi hle ⊢
     refine AWp.reg fun Z4 hZ4 => ?_
     simp only [ty3, tst, am, seval, reduceCtorEq]
     refine hZ4 _ ?_; clear hZ4 Z4
     refine AWp.seq_k fun K2 hK2 => ?_
     refine AWp.cond (t := decide ((i:Int) < (x.defs.length : Nat))) (by simp only [am, seval, reduceCtorEq]) (fun ht => ?_) (fun ht => ?_)
     ·have hlt : i < x.defs.length := by have := of_decide_eq_true ht; omega
      have ix0 : (0 ≤ (i : Int)) = True := by simp
      have ix1 : ((i : Int) < ((x.defs.length : Nat) : Int)) = True := by simp [hlt]
      obtain ⟨y, hy0⟩ : ∃ y, x.defs[i] = y := ⟨_, rfl⟩
      have hgy : (List.map XColDef.v x.defs).getD (i : Int).toNat [] = y.v := by rw [Int.toNat_natCast, List.getD_eq_getElem?_getD, List.getElem?_map, List.getElem?_eq_getElem hlt, hy0]; rfl
      have h15 := h15 i y (by rw [List.getElem?_eq_getElem hlt, hy0])
      refine AWp.skip ?_
      refine hK2 _ ?_; clear hK2
      refine AWp.seq_k fun K3 hK3 => ?_
      refine AWp.block ?_
      refine AWp.reg fun Z5 hZ5 => ?_
      simp only [XColDef.vs, ix0, ix1, true_and, hgy, ty25, ty56, am, seval, reduceCtorEq]
      refine hZ5 _ ?_; clear hZ5 Z5
      refine AWp.reg1 fun Z6 hZ6 => ?_
      simp only [XColDef.vs, ty28, ty56, ty112, am, seval, reduceCtorEq]
      refine (h15 _).goOwn fun g hg => ?_
      simp only [XColDef.vs, ty28, ty56, ty112, am, seval, reduceCtorEq]
      refine hZ6 _ ?_; clear hZ6 Z6
      refine hK3 _ ?_; clear hK3
      refine AWp.wkB 3 [.slice 10 ((stExprs x i ++ y.default ++ y.check).map XExpr.v)] (by simp only [am, seval, reduceCtorEq] <;> rfl) (by simp only [WkL, and_true]; exact Wk.own _ _ _) ?_
      refine AWp.reg1 fun Z7 hZ7 => ?_
      simp only [ty3, am, seval, reduceCtorEq]
      refine hZ7 _ ?_; clear hZ7 Z7
      refine ⟨(i + 1, h.setOwn g (some (42, 10))), ⟨⟨hlt, hle.setOwn ((hle.own g).elim (fun e => e.trans hg) id) _⟩, by simp only; omega⟩, ?_⟩
      rw [stExprs_succ x hlt hy0]
      refine le_tst ?_ ?_ ?_ (Heap.le.refl _) rfl
      ·simp only [leE, am, seval, reduceCtorEq]
       have e9 : IntKind.i64.wrap ((i : Int) + 1) = ((i + 1 : Nat) : Int) := by rw [wrap_id (by omega) (by omega)]; simp
       first | (rw [e9]; done) | (rw [e9]; simp)
      ·simp only [okL, keyIn, Nat.reduceBEq, Bool.or_true, Bool.true_or, Bool.or_false, and_self]
      ·simp only [leB, am, seval, reduceCtorEq] <;> simp
     ·have hge : i = x.defs.length := by have := of_decide_eq_false ht; omega
      subst hge
      refine AWp.exit ?_
      simp only [thenQ, blockQ, ↓reduceIte]
      refine hK1 _ ?_; clear hK1
      refine AWp.frz 3 (cs := [.slice 10 ((stExprs x x.defs.length).map XExpr.v)]) (ty := 28) (by simp only [am, seval, reduceCtorEq] <;> rfl) ?_
      refine AWp.reg fun Z9 hZ9 => ?_
      simp only [St.frz, frzV, ty34, ty35, am, seval, reduceCtorEq]
      refine hZ9 _ ?_; clear hZ9 Z9
      refine AWp.ret ?_
      exact ret_intro (vs := [_]) rfl (Wk.refl _) hle ⟨rfl, rfl⟩
end Go.Proofs.YtdgoilofkgdaoaaGreatDoor.Ex
