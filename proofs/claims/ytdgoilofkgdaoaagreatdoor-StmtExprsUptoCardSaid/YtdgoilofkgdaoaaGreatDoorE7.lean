/- What slices.Values yields. -/
import Derived.Test.YtdgoilofkgdaoaaGreatDoorEAmSeq
import Derived.Test.YtdgoilofkgdaoaaGreatDoorEXData
import Derived.Test.YtdgoilofkgdaoaaGreatDoorEXTy
import Derived.Test.YtdgoilofkgdaoaaGreatDoorE9
import Derived.Shelf.Spec.SlicesGrow
set_option linter.unusedVariables false
set_option linter.unusedSimpArgs false
set_option maxRecDepth 100000
namespace Go.Proofs.YtdgoilofkgdaoaaGreatDoor.Ex
open Go.Am Go.Ex Go.Proofs.YtdgoilofkgdaoaaGreatDoor
theorem seq156 (l : List XExpr) : SeqOk Tryz.prog 156 [.elt [.slice 10 (List.map XExpr.v l)] 0] (fun x => V.agg (XExpr.v x)) l := by
 intro lo yl s Hs h0 hY
 refine acallsO_of (fn := Tryz.f156) Tryz.func156 rfl (by decide) (by show 2 ≤ 16; decide) ?_
 rw [Tryz.ntmps156]
 refine AWp.reg fun Z1 hZ1 => ?_
 simp only [List.cons_append, List.nil_append, ty28, am, seval, reduceCtorEq]
 refine hZ1 _ ?_; clear hZ1 Z1
 refine AWp.block ?_
 refine AWp.slen 5 (sz := 10) (es := l.map XExpr.v) (by simp only [am, seval, reduceCtorEq]) fun hmax => ?_
 have hmx := maxLen_lt; rw [List.length_map] at hmax
 refine AWp.loopT (ι := Nat × Heap) (fun i => i.1 ≤ l.length ∧ Hs (l.take i.1) i.2) (fun i => tstO lo [(0, yieldV yl), (1, .elt [.slice 10 (List.map XExpr.v l)] 0), (5, .slice 10 (List.map XExpr.v l)), (6, vint l.length), (7, vint i.1)] [] i.2 16) (fun i => l.length - i.1) (0, s) ⟨⟨Nat.zero_le _, by simpa using h0⟩, ?_⟩ ?_
 ·refine le_tstO ?_ ?_ ?_ (Heap.le.refl _) rfl
  ·simp only [leE, yieldV, List.cons_append, List.nil_append, am, seval, reduceCtorEq] <;> simp
  ·simp only [okL, yieldV, keyIn, Nat.reduceBEq, Bool.or_true, Bool.true_or, Bool.or_false, and_self]
  ·simp only [leB, am, seval, reduceCtorEq]
 ·rintro ⟨i, s1⟩ ⟨hi, hH⟩
  simp only at hi hH ⊢
  refine AWp.reg fun Z2 hZ2 => ?_
  simp only [ty3, tstO, am, seval, reduceCtorEq]
  refine hZ2 _ ?_; clear hZ2 Z2
  refine AWp.seq_k fun K2 hK2 => ?_
  refine AWp.cond (t := decide ((i:Int) < (l.length : Nat))) (by simp only [am, seval, reduceCtorEq]) (fun htj => ?_) (fun htj => ?_)
  ·have hlt : i < l.length := by have := of_decide_eq_true htj; omega
   have ix0 : (0 ≤ (i : Int)) = True := by simp
   have ix1 : ((i : Int) < ((l.length : Nat) : Int)) = True := by simp [hlt]
   obtain ⟨y, hy0⟩ : ∃ y, l[i] = y := ⟨_, rfl⟩
   have hgy : (List.map XExpr.v l).getD (i : Int).toNat [] = y.v := by rw [Int.toNat_natCast, List.getD_eq_getElem?_getD, List.getElem?_map, List.getElem?_eq_getElem hlt, hy0]; rfl
   refine AWp.skip ?_
   refine hK2 _ ?_; clear hK2
   refine AWp.seq_k fun K3 hK3 => ?_
   refine AWp.block ?_
   refine AWp.reg fun Z3 hZ3 => ?_
   simp only [XExpr.vs, ix0, ix1, true_and, hgy, ty28, ty42, am, seval, reduceCtorEq]
   refine hZ3 _ ?_; clear hZ3 Z3
   refine AWp.regY' 2 rfl (by decide +kernel) fun Z4 hZ4 => ?_
   simp only [XExpr.vs, ty42, k12, k13, k14, am, seval, reduceCtorEq]
   refine ⟨?_, ?_, yl, [.agg y.v], _, ?_, ?_, hY _ y _ hH ⟨l.drop (i + 1), by rw [← hy0, ← List.drop_eq_getElem_cons hlt, List.take_append_drop]⟩, ?_⟩
   ·simp only [gdOf, am, seval, reduceCtorEq]
   ·simp only [am, seval, reduceCtorEq]
   ·simp only [yieldV, am, seval, reduceCtorEq]
   ·simp only [am, seval, reduceCtorEq]
   rintro _ s2 ⟨rfl, hH2⟩
   simp only [Bool.not_true, ty4, k15, k16, k17, am, seval, reduceCtorEq]
   refine hZ4 _ ?_; clear hZ4 Z4
   refine AWp.cond (t := false) (by simp only [am, seval, reduceCtorEq]) (fun h => by cases h) (fun _ => ?_)
   refine AWp.skip ?_
   refine hK3 _ ?_; clear hK3
   refine AWp.reg1 fun Z5 hZ5 => ?_
   simp only [ty3, am, seval, reduceCtorEq]
   refine hZ5 _ ?_; clear hZ5 Z5
   refine ⟨(i + 1, s2), ⟨⟨hlt, ?_⟩, by simp only; omega⟩, ?_⟩
   ·have e1 : l.take (i + 1) = l.take i ++ [y] := by rw [List.take_add_one, List.getElem?_eq_getElem hlt, hy0]; rfl
    simp only [e1]; exact hH2
   refine le_tstO ?_ ?_ ?_ (Heap.le.refl _) rfl
   ·simp only [leE, yieldV, tstO, am, seval, reduceCtorEq]
    have e2 : IntKind.i64.wrap ((i : Int) + 1) = ((i + 1 : Nat) : Int) := by
     rw [wrap_id (by omega) (by omega)]; simp
    first | (rw [e2]; done) | (rw [e2]; simp)
   ·simp only [okL, yieldV, keyIn, Nat.reduceBEq, Bool.or_true, Bool.true_or, Bool.or_false, and_self]
   ·simp only [leB, tstO, am, seval, reduceCtorEq]
  ·have hge : i = l.length := by have := of_decide_eq_false htj; omega
   refine AWp.exit ?_
   simp only [thenQ, blockQ, ↓reduceIte]
   refine ⟨[], .tuple [], s1, rfl, Wk.refl _, Heap.le.refl _, ?_⟩
   rw [hge, List.take_length] at hH; exact hH
theorem seq157 (l : List XSelect) : SeqOk Tryz.prog 157 [.elt [.slice 5 (List.map XSelect.v l)] 0] (fun x => V.agg (XSelect.v x)) l := by
 intro lo yl s Hs h0 hY
 refine acallsO_of (fn := Tryz.f157) Tryz.func157 rfl (by decide) (by show 2 ≤ 16; decide) ?_
 rw [Tryz.ntmps157]
 refine AWp.reg fun Z1 hZ1 => ?_
 simp only [List.cons_append, List.nil_append, ty29, am, seval, reduceCtorEq]
 refine hZ1 _ ?_; clear hZ1 Z1
 refine AWp.block ?_
 refine AWp.slen 5 (sz := 5) (es := l.map XSelect.v) (by simp only [am, seval, reduceCtorEq]) fun hmax => ?_
 have hmx := maxLen_lt; rw [List.length_map] at hmax
 refine AWp.loopT (ι := Nat × Heap) (fun i => i.1 ≤ l.length ∧ Hs (l.take i.1) i.2) (fun i => tstO lo [(0, yieldV yl), (1, .elt [.slice 5 (List.map XSelect.v l)] 0), (5, .slice 5 (List.map XSelect.v l)), (6, vint l.length), (7, vint i.1)] [] i.2 16) (fun i => l.length - i.1) (0, s) ⟨⟨Nat.zero_le _, by simpa using h0⟩, ?_⟩ ?_
 ·refine le_tstO ?_ ?_ ?_ (Heap.le.refl _) rfl
  ·simp only [leE, yieldV, List.cons_append, List.nil_append, am, seval, reduceCtorEq] <;> simp
  ·simp only [okL, yieldV, keyIn, Nat.reduceBEq, Bool.or_true, Bool.true_or, Bool.or_false, and_self]
  ·simp only [leB, am, seval, reduceCtorEq]
 ·rintro ⟨i, s1⟩ ⟨hi, hH⟩
  simp only at hi hH ⊢
  refine AWp.reg fun Z2 hZ2 => ?_
  simp only [ty3, tstO, am, seval, reduceCtorEq]
  refine hZ2 _ ?_; clear hZ2 Z2
  refine AWp.seq_k fun K2 hK2 => ?_
  refine AWp.cond (t := decide ((i:Int) < (l.length : Nat))) (by simp only [am, seval, reduceCtorEq]) (fun htj => ?_) (fun htj => ?_)
  ·have hlt : i < l.length := by have := of_decide_eq_true htj; omega
   have ix0 : (0 ≤ (i : Int)) = True := by simp
   have ix1 : ((i : Int) < ((l.length : Nat) : Int)) = True := by simp [hlt]
   obtain ⟨y, hy0⟩ : ∃ y, l[i] = y := ⟨_, rfl⟩
   have hgy : (List.map XSelect.v l).getD (i : Int).toNat [] = y.v := by rw [Int.toNat_natCast, List.getD_eq_getElem?_getD, List.getElem?_map, List.getElem?_eq_getElem hlt, hy0]; rfl
   refine AWp.skip ?_
   refine hK2 _ ?_; clear hK2
   refine AWp.seq_k fun K3 hK3 => ?_
   refine AWp.block ?_
   refine AWp.reg fun Z3 hZ3 => ?_
   simp only [XSelect.vs, ix0, ix1, true_and, hgy, ty29, ty76, am, seval, reduceCtorEq]
   refine hZ3 _ ?_; clear hZ3 Z3
   refine AWp.regY' 2 rfl (by decide +kernel) fun Z4 hZ4 => ?_
   simp only [XSelect.vs, ty76, k12, k13, k14, am, seval, reduceCtorEq]
   refine ⟨?_, ?_, yl, [.agg y.v], _, ?_, ?_, hY _ y _ hH ⟨l.drop (i + 1), by rw [← hy0, ← List.drop_eq_getElem_cons hlt, List.take_append_drop]⟩, ?_⟩
   ·simp only [gdOf, am, seval, reduceCtorEq]
   ·simp only [am, seval, reduceCtorEq]
   ·simp only [yieldV, am, seval, reduceCtorEq]
   ·simp only [am, seval, reduceCtorEq]
   rintro _ s2 ⟨rfl, hH2⟩
   simp only [Bool.not_true, ty4, k15, k16, k17, am, seval, reduceCtorEq]
   refine hZ4 _ ?_; clear hZ4 Z4
   refine AWp.cond (t := false) (by simp only [am, seval, reduceCtorEq]) (fun h => by cases h) (fun _ => ?_)
   refine AWp.skip ?_
   refine hK3 _ ?_; clear hK3
   refine AWp.reg1 fun Z5 hZ5 => ?_
   simp only [ty3, am, seval, reduceCtorEq]
   refine hZ5 _ ?_; clear hZ5 Z5
   refine ⟨(i + 1, s2), ⟨⟨hlt, ?_⟩, by simp only; omega⟩, ?_⟩
   ·have e1 : l.take (i + 1) = l.take i ++ [y] := by rw [List.take_add_one, List.getElem?_eq_getElem hlt, hy0]; rfl
    simp only [e1]; exact hH2
   refine le_tstO ?_ ?_ ?_ (Heap.le.refl _) rfl
   ·simp only [leE, yieldV, tstO, am, seval, reduceCtorEq]
    have e2 : IntKind.i64.wrap ((i : Int) + 1) = ((i + 1 : Nat) : Int) := by
     rw [wrap_id (by omega) (by omega)]; simp
    first | (rw [e2]; done) | (rw [e2]; simp)
   ·simp only [okL, yieldV, keyIn, Nat.reduceBEq, Bool.or_true, Bool.true_or, Bool.or_false, and_self]
   ·simp only [leB, tstO, am, seval, reduceCtorEq]
  ·have hge : i = l.length := by have := of_decide_eq_false htj; omega
   refine AWp.exit ?_
   simp only [thenQ, blockQ, ↓reduceIte]
   refine ⟨[], .tuple [], s1, rfl, Wk.refl _, Heap.le.refl _, ?_⟩
   rw [hge, List.take_length] at hH; exact hH
end Go.Proofs.YtdgoilofkgdaoaaGreatDoor.Ex
namespace Go.Am
variable {P : Program}
theorem ACalls.ownNew {f : FuncId} {args : List V} {s : Heap} {e : TypeId} {sz : Nat} (hf : ∃ fn, P.funcs[f]? = some fn ∧ fn.body.isNone = false ∧ (fn.name == "runtime.NumGoroutine") = false)
  (h : ∀ G w (cargs : Array Value), HRel G s w → RepL G args cargs.toList → Calls P f cargs w fun e' w' => More w w' ∧ ((∃ a, e' = .returned (.slice a 0 0) ∧ ∀ b, blk (.slice a 0 0) = some b → w.heap.size ≤ b) ∨
   ∃ cap cur, e' = .returned (.slice (some ⟨w.heap.size, 0, none⟩) 0 (cap + 1)) ∧ w'.heap[w.heap.size]? = some (.cells cur e (0, 0)) ∧ cur.size = (cap + 1) * sz ∧ cap + 1 ≤ maxLen)) :
  ACalls P f args s fun v' s' => ∃ g, s.own g = none ∧ v' = .own g sz [] ∧ s' = s.setOwn g (some (e, sz)) := by
 refine ⟨hf, fun G w cargs hh hargs => (h G w cargs hh hargs).mono ?_⟩
 rintro e' w' ⟨hm, hr⟩
 have key : ∀ v : Value, OwnOk G w' e sz v → (∀ b, blk v = some b → w.heap.size ≤ b) → (∃ a cap, v = .slice a 0 cap) →
   ∃ G' s' v' cv, Ending.returned v = .returned cv ∧ Rep G' v' cv ∧ Ext G s w G' s' w' ∧ HRel G' s' w' ∧ ∃ g, s.own g = none ∧ v' = .own g sz [] ∧ s' = s.setOwn g (some (e, sz)) := fun v hv hb hs => by
  have ha : ARel ⟨0, [], noPan⟩ G (fun _ => none) { E := fun _ => .base undef, loc := fun _ => none, s := s, n := 0 } { tmps := #[], defers := [] } w' :=
   ⟨hh.more hm, rfl, Dfs.nil, (fun t => by
    have : (#[] : Array Value).getD t undef = undef := by simp [Array.getD]
    show LRep _ _ _ _ ((#[] : Array Value).getD t undef)
    rw [this]; exact Rep.base _), (fun t cs ty ht => by cases ht), fun t t' b h1 => absurd rfl h1⟩
  obtain ⟨G', g, e1, e2, e3, e4, e5⟩ := ARel.claimV ha (Ext.more hm) (e, sz) v hv hb (fun b hb' hf => by
   have := foot_lt' hh hf
   have := hb b hb'
   omega) (fun t b ht => absurd rfl ht)
  obtain ⟨a, cap, rfl⟩ := hs
  exact ⟨G', s.setOwn g (some (e, sz)), .own g sz [], _, rfl, Rep.own g sz [] _ (Rep.slice0 sz a cap) e2, e4, e5.hr, g, e1, rfl, rfl⟩
 rcases hr with ⟨a, rfl, hb⟩ | ⟨cap, cur, rfl, h1, h2, h3⟩
 ·exact key _ (.inl ⟨a, rfl⟩) hb ⟨a, 0, rfl⟩
 ·refine key _ (.inr ⟨w.heap.size, 0, cap, cur, rfl, h1, h2, Nat.zero_le _, h3, fun o _ => ?_⟩) (fun b hb => by simp [blk] at hb; omega) ⟨_, _, rfl⟩
  cases hx : G.F w.heap.size o with
  | none => rfl
  | some v => have := hh.frz_lt (b := w.heap.size) (o := o) (by rw [hx]; simp); omega
end Go.Am
namespace Go.Proofs.YtdgoilofkgdaoaaGreatDoor.Ex
open Go.Am Go.Ex Go.Proofs.YtdgoilofkgdaoaaGreatDoor Go.Shelf
def growRen : Ren := ⟨fun | 4 => 58 | n => n, fun | 22 => 28 | 25 => 42 | n => n, fun | n => n⟩
theorem growLays : Lays8.n4 Tryz.prog growRen := {
 mixed := by kernel_rfl
 f4 := ⟨Tryz.f58.name, by decide, Tryz.func58.trans (congrArg some (by kernel_rfl))⟩
 t0 := Tryz.underlying0
 a0 := Tryz.isAgg0
 z0 := Tryz.sizeOf0
 v0 := Tryz.zeroValue0
 t3 := Tryz.underlying3
 a3 := Tryz.isAgg3
 z3 := Tryz.sizeOf3
 v3 := Tryz.zeroValue3
 t4 := Tryz.underlying4
 a4 := Tryz.isAgg4
 z4 := Tryz.sizeOf4
 v4 := Tryz.zeroValue4
 t9 := Tryz.underlying9
 a9 := Tryz.isAgg9
 z9 := Tryz.sizeOf9
 v9 := Tryz.zeroValue9
 t20 := Tryz.underlying20
 a20 := Tryz.isAgg20
 z20 := Tryz.sizeOf20
 v20 := Tryz.zeroValue20
 t22 := Tryz.underlying28
 a22 := Tryz.isAgg28
 z22 := Tryz.sizeOf28
 v22 := Tryz.zeroValue28 }
theorem zeroCells_size (z : Array Value) (n : Nat) : (Builtin.zeroCells z n).size = n * z.size := by
 unfold Builtin.zeroCells; simp
theorem grow58 (n : Int) (h : 0 ≤ n ∧ n * 136 ≤ 140737488355328) : GivesOwn Tryz.prog 58 [.nil, vint n] 42 10 (List.map XExpr.v []) := fun s => by
 obtain ⟨i, u, z, hi, hu, hz, h1, h2, h3, h4, h5⟩ := tyOf_some ty42
 refine ACalls.ownNew ⟨_, Tryz.func58, rfl, by decide⟩ fun G w cargs hh hargs => ?_
 obtain ⟨v, l, e, k1, k2⟩ := RepL.uncons hargs
 obtain ⟨v', l', rfl, k3, k4⟩ := RepL.uncons k2
 obtain rfl := k4.nil_inv
 cases k1; cases k3
 obtain rfl : cargs = #[.slice none 0 0, .int .i64 n] := by rw [← Array.toList_inj]; exact e
 obtain ⟨m, rfl⟩ : ∃ m : Nat, n = (m : Int) := ⟨n.toNat, by omega⟩
 have hn : m * 136 ≤ 140737488355328 := by omega
 rcases Nat.eq_zero_or_pos m with rfl | hp
 ·refine (Any8.slices_Grow_room growLays none 0 0 0 w (by omega) (by omega) (by omega) (by omega)).mono ?_
  rintro e' w' ⟨rfl, rfl⟩
  exact ⟨⟨Nat.le_refl _, rfl, rfl, rfl, fun b hb => rfl⟩, .inl ⟨none, rfl, fun b hb => by simp [blk] at hb⟩⟩
 ·have hs : i.size = 10 := by rw [← h1]
  have hb : i.bytes = 136 := by rw [← h2]
  refine (Any8.slices_Grow_grow growLays i z hi hz (by omega) none 0 0 m [] w (by omega) (by omega) (by rw [hb]; omega) (by omega) (by simp) (fun _ => rfl) (fun a ha => by cases ha)).mono ?_
  rintro e' w' ⟨rfl, rfl⟩
  have hge := grownCap_ge w (0 + m) 0 (growRen.t 25)
  have hle := grownCap_le_maxLen w (0 + m) 0 (growRen.t 25) (by unfold maxLen; omega)
  obtain ⟨c, hc⟩ : ∃ c, grownCap w (0 + m) 0 (growRen.t 25) = c + 1 := ⟨grownCap w (0 + m) 0 (growRen.t 25) - 1, by omega⟩
  rw [hc] at hge hle ⊢
  have hzs : z.cells.size = 10 := by have := congrArg List.length h3; simpa using this.symm
  refine ⟨(More.drew w).trans (More.alloc _ _), .inr ⟨c, _, rfl, World.alloc_heap_new _ _, ?_, hle⟩⟩
  simp only [Array.size_append, zeroCells_size, hzs]
  simp only [List.size_toArray, List.length_nil]
  omega
end Go.Proofs.YtdgoilofkgdaoaaGreatDoor.Ex
