/- Functions told as partial functions. -/
import Derived.Test.YtopgndakadileaaGreatDoorSXNat
import Derived.Test.YtopgndakadileaaGreatDoorS9
import Derived.Test.YtopgndakadileaaGreatDoorS14
import Derived.Test.YtopgndakadileaaGreatDoorS10
import Derived.Test.YtopgndakadileaaGreatDoorSAmPanic
import Derived.Test.YtopgndakadileaaGreatDoorSXData
import Derived.Test.YtopgndakadileaaGreatDoorSXTy
import Derived.Test.YtopgndakadileaaGreatDoorSXScanC
import Derived.Test.YtopgndakadileaaGreatDoorS4
import Derived.Test.YtopgndakadileaaGreatDoorSAmDefer
import Derived.Test.YtopgndakadileaaGreatDoorSXB1
import Derived.Test.YtopgndakadileaaGreatDoorS1
import Derived.Test.YtopgndakadileaaGreatDoorS2
set_option linter.unusedVariables false
set_option linter.unusedSimpArgs false
set_option maxRecDepth 100000
set_option maxHeartbeats 4000000
namespace Go.Proofs.YtopgndakadileaaGreatDoor.Ex
open Go.Am Go.Ex Go.Proofs.YtopgndakadileaaGreatDoor
def s167_1 (x0 : (List XSelect)) : Option (Int) := (loopC (fun (u4 : Int → Option (Int)) (q3 : Int) => (way ((decide (q3 < (((x0.length : Nat) : Int))))) none (some (-1)))) manyC 0)
theorem c167_1 (x0 : (List XSelect)) (r : Int) (h : s167_1 x0 = some r) : Gives Tryz.prog 167 [.slice 5 (List.map XSelect.v x0), .func 103 [] []] (vint r) := by
  intro s
  unfold s167_1 at h
  refine acalls_of (fn := Tryz.f167) Tryz.func167 rfl (by decide) (by show 2 ≤ 19; decide) ?_
  rw [Tryz.ntmps167]
  refine rg ?_
  refine AWp.seq_k fun K1 hK1 => ?_
  refine rg ?_
  refine AWp.block ?_
  refine AWp.loopS (X := Int) (G := Unit) h (fun _ => True) (fun q3 _ => tst [(0, .slice 5 (List.map XSelect.v x0)), (1, .func 103 [] []), (7, vint (((x0.length : Nat) : Int))), (8, vint q3)] [] s 19) ?_ ?_
  · exact ⟨(), trivial, tle⟩
  · rintro u4 v2 h _ _
    refine rg ?_
    refine AWp.seq_k fun K5 hK5 => ?_
    refine wF h fun hc6 h => ?_
    refine AWp.exit ?_
    simp only [thenQ, blockQ, ↓reduceIte, Nat.reduceEqDiff, Nat.one_ne_zero, Nat.zero_ne_one, Nat.succ_ne_zero, reduceCtorEq]
    refine hK1 _ ?_; clear hK1
    refine rg ?_
    refine AWp.ret ?_
    obtain rfl := Option.some.inj h
    exact rtn [.tmp 4]
def s102_1 (x0 : (List XSelect)) : Option (Bool) := (call (s167_1 x0) fun y1 => (some ((decide (y1 ≥ 0)))))
theorem c102_1 (x0 : (List XSelect)) (r : Bool) (h : s102_1 x0 = some r) : Gives Tryz.prog 102 [.slice 5 (List.map XSelect.v x0), .func 103 [] []] (vbool r) := by
  intro s
  unfold s102_1 at h
  refine acalls_of (fn := Tryz.f102) Tryz.func102 rfl (by decide) (by show 2 ≤ 9; decide) ?_
  rw [Tryz.ntmps102]
  refine rg ?_
  obtain ⟨y1, hy1, h⟩ := call_some h
  refine rgC (c167_1 x0 _ hy1) ?_
  refine AWp.ret ?_
  obtain rfl := Option.some.inj h
  exact rtn [.tmp 4]
def s98 (x0 : Int) : Option (XShape × Bool) := (join (fun (u4 : Bool → Option (XShape × Bool)) => (way ((x0 == 1)) (u4 (x0 == 1)) (way ((x0 == 2)) (u4 (x0 == 2)) (u4 (x0 == 3))))) (fun (q3 : Bool) => (way q3 (some (((XShape.mk 0 0 false), true))) (way ((x0 == 27)) none (way ((x0 == 28)) none (way ((x0 == 4)) none (way ((x0 == 5)) none (way ((x0 == 6)) none (way ((x0 == 30)) none (way ((x0 == 31)) none (way ((x0 == 23)) none (way ((x0 == 24)) none (way ((x0 == 25)) none (way ((x0 == 26)) none (way ((x0 == 29)) none (way ((x0 == 32)) none (way ((decide (x0 ≥ 7))) (some (((XShape.mk 2 2 false), (decide (x0 ≤ 22))))) none)))))))))))))))))
theorem c98 (x0 : Int) (r : XShape × Bool) (h : s98 x0 = some r) : Gives Tryz.prog 98 [vint x0] (.tuple [.agg r.1.v, vbool r.2]) := by
  intro s
  unfold s98 at h
  refine acalls_of (fn := Tryz.f98) Tryz.func98 rfl (by decide) (by show 1 ≤ 46; decide) ?_
  rw [Tryz.ntmps98]
  refine rgF ((@XShape.v_eq)) ?_
  refine AWp.seq_k fun K1 hK1 => ?_
  refine rgF ((@XShape.v_eq)) ?_
  refine AWp.block ?_
  refine AWp.joinS (X := Bool) (G := Unit) h (fun _ => True) (fun q3 _ => tst [(0, vint x0), (2, .loc 2 0), (4, vint x0), (5, vbool q3)] [(2, ([vint 0, vint 0, vbool false], 139))] s 46) (fun u4 h => ?_) ?_
  · refine rgF ((@XShape.v_eq)) ?_
    refine ws h (fun hc5 h => ?_) fun hc5 h => ?_
    · refine AWp.skip ?_
      exact ⟨(x0 == 1), h, (), trivial, tleF (@XShape.v_eq)⟩
    · refine rgF ((@XShape.v_eq)) ?_
      refine ws h (fun hc6 h => ?_) fun hc6 h => ?_
      · refine AWp.skip ?_
        exact ⟨(x0 == 2), h, (), trivial, tleF (@XShape.v_eq)⟩
      · refine r1F ((@XShape.v_eq)) ?_
        exact ⟨(x0 == 3), h, (), trivial, tleF (@XShape.v_eq)⟩
  · rintro v2 h _ _
    refine ws h (fun hc7 h => ?_) fun hc7 h => ?_
    · refine rgF ((@XShape.v_eq)) ?_
      refine AWp.ret ?_
      obtain rfl := Option.some.inj h
      refine ret_go (vs := [.agg [vint 0, vint 0, vbool false], vbool true]) (v := .tuple [.agg ((XShape.mk 0 0 false)).v, vbool true]) (by show resV Tryz.prog _ [.cell 2 139, .tmp 3] = _; simp only [resV, ty139, XShape.v_eq, am, seval, reduceCtorEq]) (Wk.tuple ⟨Wk.agg (by rw [XShape.v_eq]; exact ⟨Wk.refl _, Wk.refl _, Wk.refl _, trivial⟩), Wk.refl _, trivial⟩) (Heap.le.refl _) ⟨?_, rfl⟩
      rfl
    · refine rgF ((@XShape.v_eq)) ?_
      refine wF h fun hc8 h => ?_
      refine rgF ((@XShape.v_eq)) ?_
      refine wF h fun hc9 h => ?_
      refine AWp.seq_k fun K10 hK10 => ?_
      refine rgF ((@XShape.v_eq)) ?_
      refine wF h fun hc11 h => ?_
      refine rgF ((@XShape.v_eq)) ?_
      refine wF h fun hc12 h => ?_
      refine rgF ((@XShape.v_eq)) ?_
      refine wF h fun hc13 h => ?_
      refine rgF ((@XShape.v_eq)) ?_
      refine wF h fun hc14 h => ?_
      refine r1F ((@XShape.v_eq)) ?_
      refine hK10 _ ?_; clear hK10
      refine wF h fun hc15 h => ?_
      refine AWp.seq_k fun K16 hK16 => ?_
      refine rgF ((@XShape.v_eq)) ?_
      refine wF h fun hc17 h => ?_
      refine r1F ((@XShape.v_eq)) ?_
      refine hK16 _ ?_; clear hK16
      refine wF h fun hc18 h => ?_
      refine rgF ((@XShape.v_eq)) ?_
      refine wF h fun hc19 h => ?_
      refine rgF ((@XShape.v_eq)) ?_
      refine wF h fun hc20 h => ?_
      refine rgF ((@XShape.v_eq)) ?_
      refine wF h fun hc21 h => ?_
      refine rgF ((@XShape.v_eq)) ?_
      refine wF h fun hc22 h => ?_
      refine AWp.skip ?_
      refine hK1 _ ?_; clear hK1
      refine AWp.reg fun Z23 hZ23 => ?_
      (try simp only [XShape.v_eq, undef, Bool.not_true, Bool.not_false, xm, Nat.reduceAdd, Nat.reduceLeDiff, seval, reduceCtorEq])
      refine gTS h (by rfl) (fun hg24 h => ?_) (fun _ h => by cases h)
      (try simp only [hg24, XShape.v_eq, undef, Bool.not_true, Bool.not_false, xm, Nat.reduceAdd, Nat.reduceLeDiff, seval, reduceCtorEq])
      refine hZ23 _ ?_; clear hZ23 Z23
      refine AWp.ret ?_
      obtain rfl := Option.some.inj h
      refine ret_go (vs := [.agg [vint 2, vint 2, vbool false], vbool ((decide (x0 ≤ 22)))]) (v := .tuple [.agg ((XShape.mk 2 2 false)).v, vbool ((decide (x0 ≤ 22)))]) (by show resV Tryz.prog _ [.cell 2 139, .tmp 3] = _; simp only [resV, ty139, XShape.v_eq, am, seval, reduceCtorEq]) (Wk.tuple ⟨Wk.agg (by rw [XShape.v_eq]; exact ⟨Wk.refl _, Wk.refl _, Wk.refl _, trivial⟩), Wk.refl _, trivial⟩) (Heap.le.refl _) ⟨?_, rfl⟩
      rfl
def s175_3 (x0 : ByteArray) (x1 : Int) : Option (Int) := (loopC (fun (u4 : Int → Option (Int)) (q3 : Int) => (join (fun (u8 : Bool → Option (Int)) => (way ((decide (q3 < (((x0.size : Nat) : Int))))) (need (0 ≤ q3 ∧ q3 < ((x0.size : Nat) : Int)) (call (s173 (((x0.data.toList.getD q3.toNat 0).toNat : Int))) fun y12 => (u8 y12))) (u8 false))) (fun (q7 : Bool) => (way q7 (u4 (IntKind.i64.wrap (q3 + 1))) (some q3))))) manyC x1)
theorem c175_3 (x0 : ByteArray) (x1 : Int) (r : Int) (h : s175_3 x0 x1 = some r) : Gives Tryz.prog 175 [vstr x0, vint x1, .func 173 [] []] (vint r) := by
  intro s
  unfold s175_3 at h
  refine acalls_of (fn := Tryz.f175) Tryz.func175 rfl (by decide) (by show 3 ≤ 21; decide) ?_
  rw [Tryz.ntmps175]
  refine rg ?_
  refine AWp.seq_k fun K1 hK1 => ?_
  refine AWp.block ?_
  refine AWp.loopS (X := Int) (G := Unit) h (fun _ => True) (fun q3 _ => tst [(0, vstr x0), (1, vint q3), (2, .func 173 [] [])] [] s 21) ?_ ?_
  · exact ⟨(), trivial, tle⟩
  · rintro u4 v2 h _ _
    refine AWp.seq_k fun K5 hK5 => ?_
    refine AWp.joinS (X := Bool) (G := Unit) h (fun _ => True) (fun q7 _ => tst [(0, vstr x0), (1, vint v2), (2, .func 173 [] []), (17, vbool q7)] [] s 21) (fun u8 h => ?_) ?_
    · refine AWp.reg1 fun Z9 hZ9 => ?_
      (try simp only [undef, Bool.not_true, Bool.not_false, xm, Nat.reduceAdd, Nat.reduceLeDiff, seval, reduceCtorEq])
      refine gTS h (by rfl) (fun hg10 h => ?_) (fun hg10 h => ?_)
      · obtain ⟨hn11, h⟩ := need_some h
        (try simp only [hg10, isT hn11.1, isT hn11.2, undef, Bool.not_true, Bool.not_false, xm, Nat.reduceAdd, Nat.reduceLeDiff, seval, reduceCtorEq])
        obtain ⟨y12, hy12, h⟩ := call_some h
        refine (c173 (((x0.data.toList.getD v2.toNat 0).toNat : Int)) _ hy12 _).go ?_
        (try simp only [hg10, isT hn11.1, isT hn11.2, undef, Bool.not_true, Bool.not_false, xm, Nat.reduceAdd, Nat.reduceLeDiff, seval, reduceCtorEq])
        refine hZ9 _ ?_; clear hZ9 Z9
        exact ⟨y12, h, (), trivial, tleF hg10⟩
      · (try simp only [hg10, undef, Bool.not_true, Bool.not_false, xm, Nat.reduceAdd, Nat.reduceLeDiff, seval, reduceCtorEq])
        refine hZ9 _ ?_; clear hZ9 Z9
        exact ⟨false, h, (), trivial, tleF hg10⟩
    · rintro v6 h _ _
      refine ws h (fun hc13 h => ?_) fun hc13 h => ?_
      · refine AWp.skip ?_
        refine hK5 _ ?_; clear hK5
        refine AWp.block ?_
        refine r1 ?_
        exact ⟨(IntKind.i64.wrap (v2 + 1)), h, (), trivial, tle⟩
      · refine AWp.exit ?_
        simp only [thenQ, blockQ, ↓reduceIte, Nat.reduceEqDiff, Nat.one_ne_zero, Nat.zero_ne_one, Nat.succ_ne_zero, reduceCtorEq]
        refine hK1 _ ?_; clear hK1
        refine rg ?_
        refine AWp.ret ?_
        obtain rfl := Option.some.inj h
        exact rtn [.tmp 6]
def s174 (x0 : ByteArray) : Option (ByteArray × Bool) := (call (n243 x0) fun y1 => (way (((((y1.size : Nat) : Int)) != (((x0.size : Nat) : Int)))) none (way ((x0.data.toList == ((ByteArray.mk #[])).data.toList)) none (call (s175_3 x0 0) fun y6 => (way ((decide (y6 < (((x0.size : Nat) : Int))))) none (need (((ByteArray.mk #[32])).size + y1.size ≤ maxLen) (need (((((ByteArray.mk #[32])) ++ y1)).size + ((ByteArray.mk #[32])).size ≤ maxLen) (call (n244 ((ByteArray.mk #[32, 65, 66, 79, 82, 84, 32, 65, 68, 68, 32, 65, 76, 76, 32, 65, 76, 84, 69, 82, 32, 65, 78, 68, 32, 65, 83, 32, 65, 83, 67, 32, 66, 69, 71, 73, 78, 32, 66, 69, 84, 87, 69, 69, 78, 32, 66, 89, 32, 67, 65, 83, 69, 32, 67, 65, 83, 84, 32, 67, 72, 69, 67, 75, 32, 67, 79, 76, 76, 65, 84, 69, 32, 67, 79, 76, 85, 77, 78, 32, 67, 79, 77, 77, 73, 84, 32, 67, 82, 69, 65, 84, 69, 32, 67, 82, 79, 83, 83, 32, 68, 69, 70, 65, 85, 76, 84, 32, 68, 69, 70, 69, 82, 82, 69, 68, 32, 68, 69, 76, 69, 84, 69, 32, 68, 69, 83, 67, 32, 68, 73, 83, 84, 73, 78, 67, 84, 32, 68, 82, 79, 80, 32, 69, 76, 83, 69, 32, 69, 78, 68, 32, 69, 88, 67, 69, 80, 84, 32, 69, 88, 67, 76, 85, 83, 73, 86, 69, 32, 69, 88, 73, 83, 84, 83, 32, 70, 82, 79, 77, 32, 71, 76, 79, 66, 32, 71, 82, 79, 85, 80, 32, 72, 65, 86, 73, 78, 71, 32, 73, 70, 32, 73, 71, 78, 79, 82, 69, 32, 73, 77, 77, 69, 68, 73, 65, 84, 69, 32, 73, 78, 32, 73, 78, 68, 69, 88, 32, 73, 78, 78, 69, 82, 32, 73, 78, 83, 69, 82, 84, 32, 73, 78, 84, 69, 82, 83, 69, 67, 84, 32, 73, 78, 84, 79, 32, 73, 83, 32, 74, 79, 73, 78, 32, 75, 69, 89, 32, 76, 69, 70, 84, 32, 76, 73, 75, 69, 32, 76, 73, 77, 73, 84, 32, 78, 79, 84, 32, 78, 85, 76, 76, 32, 79, 70, 70, 83, 69, 84, 32, 79, 78, 32, 79, 82, 32, 79, 82, 68, 69, 82, 32, 79, 85, 84, 69, 82, 32, 80, 82, 73, 77, 65, 82, 89, 32, 82, 69, 67, 85, 82, 83, 73, 86, 69, 32, 82, 69, 76, 69, 65, 83, 69, 32, 82, 69, 78, 65, 77, 69, 32, 82, 69, 80, 76, 65, 67, 69, 32, 82, 79, 76, 76, 66, 65, 67, 75, 32, 83, 65, 86, 69, 80, 79, 73, 78, 84, 32, 83, 69, 76, 69, 67, 84, 32, 83, 69, 84, 32, 84, 65, 66, 76, 69, 32, 84, 72, 69, 78, 32, 84, 79, 32, 84, 82, 65, 78, 83, 65, 67, 84, 73, 79, 78, 32, 85, 78, 73, 79, 78, 32, 85, 78, 73, 81, 85, 69, 32, 85, 80, 68, 65, 84, 69, 32, 85, 83, 73, 78, 71, 32, 86, 65, 76, 85, 69, 83, 32, 86, 73, 69, 87, 32, 87, 72, 69, 78, 32, 87, 72, 69, 82, 69, 32, 87, 73, 84, 72, 32])) ((((((ByteArray.mk #[32])) ++ y1)) ++ ((ByteArray.mk #[32]))))) fun y10 => (way ((!y10)) (some (((ByteArray.mk #[]), false))) none)))))))))
theorem c174 (x0 : ByteArray) (r : ByteArray × Bool) (h : s174 x0 = some r) : Gives Tryz.prog 174 [vstr x0] (.tuple [vstr r.1, vbool r.2]) := by
  intro s
  unfold s174 at h
  refine acalls_of (fn := Tryz.f174) Tryz.func174 rfl (by decide) (by show 1 ≤ 31; decide) ?_
  rw [Tryz.ntmps174]
  refine rg ?_
  obtain ⟨y1, hy1, h⟩ := call_some h
  refine rgC (N243 x0 _ hy1) ?_
  refine AWp.seq_k fun K2 hK2 => ?_
  refine AWp.reg fun Z3 hZ3 => ?_
  (try simp only [undef, Bool.not_true, Bool.not_false, xm, Nat.reduceAdd, Nat.reduceLeDiff, seval, reduceCtorEq])
  refine gFS h (by rfl) (fun _ h => by cases h) (fun hg4 h => ?_)
  (try simp only [hg4, undef, Bool.not_true, Bool.not_false, xm, Nat.reduceAdd, Nat.reduceLeDiff, seval, reduceCtorEq])
  refine gFS h (by rfl) (fun _ h => by cases h) (fun hg5 h => ?_)
  (try simp only [hg4, hg5, undef, Bool.not_true, Bool.not_false, xm, Nat.reduceAdd, Nat.reduceLeDiff, seval, reduceCtorEq])
  obtain ⟨y6, hy6, h⟩ := call_some h
  refine (c175_3 x0 0 _ hy6 _).go ?_
  (try simp only [hg4, hg5, undef, Bool.not_true, Bool.not_false, xm, Nat.reduceAdd, Nat.reduceLeDiff, seval, reduceCtorEq])
  refine gFS h (by rfl) (fun _ h => by cases h) (fun hg7 h => ?_)
  obtain ⟨hn8, h⟩ := need_some h
  obtain ⟨hn9, h⟩ := need_some h
  (try simp only [hg4, hg5, hg7, isT hn8, isT hn9, undef, Bool.not_true, Bool.not_false, xm, Nat.reduceAdd, Nat.reduceLeDiff, seval, reduceCtorEq])
  obtain ⟨y10, hy10, h⟩ := call_some h
  refine (N244 ((ByteArray.mk #[32, 65, 66, 79, 82, 84, 32, 65, 68, 68, 32, 65, 76, 76, 32, 65, 76, 84, 69, 82, 32, 65, 78, 68, 32, 65, 83, 32, 65, 83, 67, 32, 66, 69, 71, 73, 78, 32, 66, 69, 84, 87, 69, 69, 78, 32, 66, 89, 32, 67, 65, 83, 69, 32, 67, 65, 83, 84, 32, 67, 72, 69, 67, 75, 32, 67, 79, 76, 76, 65, 84, 69, 32, 67, 79, 76, 85, 77, 78, 32, 67, 79, 77, 77, 73, 84, 32, 67, 82, 69, 65, 84, 69, 32, 67, 82, 79, 83, 83, 32, 68, 69, 70, 65, 85, 76, 84, 32, 68, 69, 70, 69, 82, 82, 69, 68, 32, 68, 69, 76, 69, 84, 69, 32, 68, 69, 83, 67, 32, 68, 73, 83, 84, 73, 78, 67, 84, 32, 68, 82, 79, 80, 32, 69, 76, 83, 69, 32, 69, 78, 68, 32, 69, 88, 67, 69, 80, 84, 32, 69, 88, 67, 76, 85, 83, 73, 86, 69, 32, 69, 88, 73, 83, 84, 83, 32, 70, 82, 79, 77, 32, 71, 76, 79, 66, 32, 71, 82, 79, 85, 80, 32, 72, 65, 86, 73, 78, 71, 32, 73, 70, 32, 73, 71, 78, 79, 82, 69, 32, 73, 77, 77, 69, 68, 73, 65, 84, 69, 32, 73, 78, 32, 73, 78, 68, 69, 88, 32, 73, 78, 78, 69, 82, 32, 73, 78, 83, 69, 82, 84, 32, 73, 78, 84, 69, 82, 83, 69, 67, 84, 32, 73, 78, 84, 79, 32, 73, 83, 32, 74, 79, 73, 78, 32, 75, 69, 89, 32, 76, 69, 70, 84, 32, 76, 73, 75, 69, 32, 76, 73, 77, 73, 84, 32, 78, 79, 84, 32, 78, 85, 76, 76, 32, 79, 70, 70, 83, 69, 84, 32, 79, 78, 32, 79, 82, 32, 79, 82, 68, 69, 82, 32, 79, 85, 84, 69, 82, 32, 80, 82, 73, 77, 65, 82, 89, 32, 82, 69, 67, 85, 82, 83, 73, 86, 69, 32, 82, 69, 76, 69, 65, 83, 69, 32, 82, 69, 78, 65, 77, 69, 32, 82, 69, 80, 76, 65, 67, 69, 32, 82, 79, 76, 76, 66, 65, 67, 75, 32, 83, 65, 86, 69, 80, 79, 73, 78, 84, 32, 83, 69, 76, 69, 67, 84, 32, 83, 69, 84, 32, 84, 65, 66, 76, 69, 32, 84, 72, 69, 78, 32, 84, 79, 32, 84, 82, 65, 78, 83, 65, 67, 84, 73, 79, 78, 32, 85, 78, 73, 79, 78, 32, 85, 78, 73, 81, 85, 69, 32, 85, 80, 68, 65, 84, 69, 32, 85, 83, 73, 78, 71, 32, 86, 65, 76, 85, 69, 83, 32, 86, 73, 69, 87, 32, 87, 72, 69, 78, 32, 87, 72, 69, 82, 69, 32, 87, 73, 84, 72, 32])) ((((((ByteArray.mk #[32])) ++ y1)) ++ ((ByteArray.mk #[32])))) _ hy10 _).go ?_
  (try simp only [hg4, hg5, hg7, isT hn8, isT hn9, undef, Bool.not_true, Bool.not_false, xm, Nat.reduceAdd, Nat.reduceLeDiff, seval, reduceCtorEq])
  refine hZ3 _ ?_; clear hZ3 Z3
  refine wT h fun hc11 h => ?_
  refine rg ?_
  refine AWp.ret ?_
  obtain rfl := Option.some.inj h
  exact rtn [.tmp 2, .tmp 3]
def s176 (x0 : Int) : Option (Bool) := (call (s173 x0) fun y2 => (way y2 (some true) none))
theorem c176 (x0 : Int) (r : Bool) (h : s176 x0 = some r) : Gives Tryz.prog 176 [.base (.int .u8 x0)] (vbool r) := by
  intro s
  unfold s176 at h
  refine acalls_of (fn := Tryz.f176) Tryz.func176 rfl (by decide) (by show 1 ≤ 9; decide) ?_
  rw [Tryz.ntmps176]
  refine rg ?_
  refine AWp.reg fun Z1 hZ1 => ?_
  (try simp only [undef, Bool.not_true, Bool.not_false, xm, Nat.reduceAdd, Nat.reduceLeDiff, seval, reduceCtorEq])
  obtain ⟨y2, hy2, h⟩ := call_some h
  refine (c173 x0 _ hy2 _).go ?_
  (try simp only [undef, Bool.not_true, Bool.not_false, xm, Nat.reduceAdd, Nat.reduceLeDiff, seval, reduceCtorEq])
  refine gFS h (by rfl) (fun hg3 h => ?_) (fun _ h => by cases h)
  (try simp only [hg3, undef, Bool.not_true, Bool.not_false, xm, Nat.reduceAdd, Nat.reduceLeDiff, seval, reduceCtorEq])
  refine hZ1 _ ?_; clear hZ1 Z1
  refine AWp.ret ?_
  obtain rfl := Option.some.inj h
  exact rtn [.tmp 2]
def s175_4 (x0 : ByteArray) (x1 : Int) : Option (Int) := (loopC (fun (u4 : Int → Option (Int)) (q3 : Int) => (join (fun (u8 : Bool → Option (Int)) => (way ((decide (q3 < (((x0.size : Nat) : Int))))) (need (0 ≤ q3 ∧ q3 < ((x0.size : Nat) : Int)) (call (s176 (((x0.data.toList.getD q3.toNat 0).toNat : Int))) fun y12 => (u8 y12))) (u8 false))) (fun (q7 : Bool) => (way q7 (u4 (IntKind.i64.wrap (q3 + 1))) (some q3))))) manyC x1)
theorem c175_4 (x0 : ByteArray) (x1 : Int) (r : Int) (h : s175_4 x0 x1 = some r) : Gives Tryz.prog 175 [vstr x0, vint x1, .func 176 [] []] (vint r) := by
  intro s
  unfold s175_4 at h
  refine acalls_of (fn := Tryz.f175) Tryz.func175 rfl (by decide) (by show 3 ≤ 21; decide) ?_
  rw [Tryz.ntmps175]
  refine rg ?_
  refine AWp.seq_k fun K1 hK1 => ?_
  refine AWp.block ?_
  refine AWp.loopS (X := Int) (G := Unit) h (fun _ => True) (fun q3 _ => tst [(0, vstr x0), (1, vint q3), (2, .func 176 [] [])] [] s 21) ?_ ?_
  · exact ⟨(), trivial, tle⟩
  · rintro u4 v2 h _ _
    refine AWp.seq_k fun K5 hK5 => ?_
    refine AWp.joinS (X := Bool) (G := Unit) h (fun _ => True) (fun q7 _ => tst [(0, vstr x0), (1, vint v2), (2, .func 176 [] []), (17, vbool q7)] [] s 21) (fun u8 h => ?_) ?_
    · refine AWp.reg1 fun Z9 hZ9 => ?_
      (try simp only [undef, Bool.not_true, Bool.not_false, xm, Nat.reduceAdd, Nat.reduceLeDiff, seval, reduceCtorEq])
      refine gTS h (by rfl) (fun hg10 h => ?_) (fun hg10 h => ?_)
      · obtain ⟨hn11, h⟩ := need_some h
        (try simp only [hg10, isT hn11.1, isT hn11.2, undef, Bool.not_true, Bool.not_false, xm, Nat.reduceAdd, Nat.reduceLeDiff, seval, reduceCtorEq])
        obtain ⟨y12, hy12, h⟩ := call_some h
        refine (c176 (((x0.data.toList.getD v2.toNat 0).toNat : Int)) _ hy12 _).go ?_
        (try simp only [hg10, isT hn11.1, isT hn11.2, undef, Bool.not_true, Bool.not_false, xm, Nat.reduceAdd, Nat.reduceLeDiff, seval, reduceCtorEq])
        refine hZ9 _ ?_; clear hZ9 Z9
        exact ⟨y12, h, (), trivial, tleF hg10⟩
      · (try simp only [hg10, undef, Bool.not_true, Bool.not_false, xm, Nat.reduceAdd, Nat.reduceLeDiff, seval, reduceCtorEq])
        refine hZ9 _ ?_; clear hZ9 Z9
        exact ⟨false, h, (), trivial, tleF hg10⟩
    · rintro v6 h _ _
      refine ws h (fun hc13 h => ?_) fun hc13 h => ?_
      · refine AWp.skip ?_
        refine hK5 _ ?_; clear hK5
        refine AWp.block ?_
        refine r1 ?_
        exact ⟨(IntKind.i64.wrap (v2 + 1)), h, (), trivial, tle⟩
      · refine AWp.exit ?_
        simp only [thenQ, blockQ, ↓reduceIte, Nat.reduceEqDiff, Nat.one_ne_zero, Nat.zero_ne_one, Nat.succ_ne_zero, reduceCtorEq]
        refine hK1 _ ?_; clear hK1
        refine rg ?_
        refine AWp.ret ?_
        obtain rfl := Option.some.inj h
        exact rtn [.tmp 6]
def s112 (x0 : ByteArray) : Option (Bool) := (way ((x0.data.toList == ((ByteArray.mk #[])).data.toList)) none (way ((decide ((((x0.size : Nat) : Int)) > 32))) none (need (0 ≤ (0 : Int) ∧ (0 : Int) < ((x0.size : Nat) : Int)) (call (s173 (((x0.data.toList.getD 0 0).toNat : Int))) fun y6 => (way ((!y6)) none (call (s174 x0) fun y8 => (way ((!y8.2)) (call (s175_4 x0 0) fun y11 => (some ((y11 == (((x0.size : Nat) : Int)))))) none)))))))
theorem c112 (x0 : ByteArray) (r : Bool) (h : s112 x0 = some r) : Gives Tryz.prog 112 [vstr x0] (vbool r) := by
  intro s
  unfold s112 at h
  refine acalls_of (fn := Tryz.f112) Tryz.func112 rfl (by decide) (by show 1 ≤ 32; decide) ?_
  rw [Tryz.ntmps112]
  refine rg ?_
  refine AWp.seq_k fun K1 hK1 => ?_
  refine AWp.reg fun Z2 hZ2 => ?_
  (try simp only [undef, Bool.not_true, Bool.not_false, xm, Nat.reduceAdd, Nat.reduceLeDiff, seval, reduceCtorEq])
  refine gFS h (by rfl) (fun _ h => by cases h) (fun hg3 h => ?_)
  (try simp only [hg3, undef, Bool.not_true, Bool.not_false, xm, Nat.reduceAdd, Nat.reduceLeDiff, seval, reduceCtorEq])
  refine gFS h (by rfl) (fun _ h => by cases h) (fun hg4 h => ?_)
  obtain ⟨hn5, h⟩ := need_some h
  (try simp only [hg3, hg4, isT hn5.1, isT hn5.2, undef, Bool.not_true, Bool.not_false, xm, Nat.reduceAdd, Nat.reduceLeDiff, seval, reduceCtorEq])
  obtain ⟨y6, hy6, h⟩ := call_some h
  refine (c173 (((x0.data.toList.getD 0 0).toNat : Int)) _ hy6 _).go ?_
  (try simp only [hg3, hg4, isT hn5.1, isT hn5.2, undef, Bool.not_true, Bool.not_false, xm, Nat.reduceAdd, Nat.reduceLeDiff, seval, reduceCtorEq])
  refine hZ2 _ ?_; clear hZ2 Z2
  refine wF h fun hc7 h => ?_
  refine AWp.skip ?_
  refine hK1 _ ?_; clear hK1
  obtain ⟨y8, hy8, h⟩ := call_some h
  refine rgC (c174 x0 _ hy8) ?_
  refine AWp.reg fun Z9 hZ9 => ?_
  (try simp only [undef, Bool.not_true, Bool.not_false, xm, Nat.reduceAdd, Nat.reduceLeDiff, seval, reduceCtorEq])
  refine gTS h (by rfl) (fun hg10 h => ?_) (fun _ h => by cases h)
  (try simp only [hg10, undef, Bool.not_true, Bool.not_false, xm, Nat.reduceAdd, Nat.reduceLeDiff, seval, reduceCtorEq])
  obtain ⟨y11, hy11, h⟩ := call_some h
  refine (c175_4 x0 0 _ hy11 _).go ?_
  (try simp only [hg10, undef, Bool.not_true, Bool.not_false, xm, Nat.reduceAdd, Nat.reduceLeDiff, seval, reduceCtorEq])
  refine hZ9 _ ?_; clear hZ9 Z9
  refine AWp.ret ?_
  obtain rfl := Option.some.inj h
  exact rtn [.tmp 2]
def s150 (x0 : XValue) : Option (Bool) := (join (fun (u2 : Unit → Option (Bool)) => (way ((x0.kind == 0)) none (way ((x0.kind == 1)) (some ((x0.text.data.toList == ((ByteArray.mk #[])).data.toList))) none))) (fun (q1 : Unit) => (some false)))
theorem c150 (x0 : XValue) (r : Bool) (h : s150 x0 = some r) : Gives Tryz.prog 150 [.agg x0.v] (vbool r) := by
  intro s
  unfold s150 at h
  refine acalls_of (fn := Tryz.f150) Tryz.func150 rfl (by decide) (by show 1 ≤ 28; decide) ?_
  rw [Tryz.ntmps150]
  refine rgF ((@XValue.v_eq)) ?_
  refine AWp.joinS (X := Unit) (G := Unit) h (fun _ => True) (fun q1 _ => tst [] [] s 28) (fun u2 h => ?_) ?_
  · refine rgF ((@XValue.v_eq)) ?_
    refine AWp.block ?_
    refine AWp.seq_k fun K3 hK3 => ?_
    refine AWp.block ?_
    refine AWp.block ?_
    refine AWp.seq_k fun K4 hK4 => ?_
    refine AWp.block ?_
    refine AWp.seq_k fun K5 hK5 => ?_
    refine AWp.block ?_
    refine AWp.seq_k fun K6 hK6 => ?_
    refine AWp.seq_k fun K7 hK7 => ?_
    refine rgF ((@XValue.v_eq)) ?_
    refine wF h fun hc8 h => ?_
    refine AWp.skip ?_
    refine hK7 _ ?_; clear hK7
    refine AWp.seq_k fun K9 hK9 => ?_
    refine rgF ((@XValue.v_eq)) ?_
    refine wT h fun hc10 h => ?_
    refine AWp.exit ?_
    simp only [thenQ, blockQ, ↓reduceIte, Nat.reduceEqDiff, Nat.one_ne_zero, Nat.zero_ne_one, Nat.succ_ne_zero, reduceCtorEq]
    refine hK4 _ ?_; clear hK4
    refine AWp.seq_k fun K11 hK11 => ?_
    refine rgF ((@XValue.v_eq)) ?_
    refine AWp.ret ?_
    obtain rfl := Option.some.inj h
    exact rtnF (@XValue.v_eq) [.tmp 2]
  · rintro _ h _ _
    refine rgF ((@XValue.v_eq)) ?_
    refine AWp.ret ?_
    obtain rfl := Option.some.inj h
    exact rtnF (@XValue.v_eq) [.tmp 2]
def s99 (x0 : XExpr) : Option (Bool) := (join (fun (u7 : Bool × Bool × Bool × Bool × Bool → Option (Bool)) => (way ((x0.op == 1)) (call (s150 x0.v_) fun y10 => (way y10 (u7 ((x0.name.data.toList == ((ByteArray.mk #[])).data.toList), (x0.n == 0), ((((x0.sub.length : Nat) : Int)) == 0), (x0.table.data.toList == ((ByteArray.mk #[])).data.toList), (decide (x0.v_.int ≥ 0)))) none)) (way ((x0.op == 2)) (call (s112 x0.name) fun y13 => (way ((x0.table.data.toList == ((ByteArray.mk #[])).data.toList)) (u7 (y13, (x0.n == 0), ((((x0.sub.length : Nat) : Int)) == 0), true, ((x0.v_.kind == 0) && ((x0.v_.int == 0) && (x0.v_.text.data.toList == ByteArray.empty.data.toList))))) none)) (way ((x0.op == 3)) none (way ((x0.op == 27)) none (way ((x0.op == 28)) none (way ((x0.op == 26)) none (way ((x0.op == 29)) none (way ((x0.op == 30)) none (way ((x0.op == 31)) none (way ((x0.op == 32)) none (u7 ((x0.name.data.toList == ((ByteArray.mk #[])).data.toList), (x0.n == 0), ((((x0.sub.length : Nat) : Int)) == 0), (x0.table.data.toList == ((ByteArray.mk #[])).data.toList), ((x0.v_.kind == 0) && ((x0.v_.int == 0) && (x0.v_.text.data.toList == ByteArray.empty.data.toList)))))))))))))))) (fun (q6 : Bool × Bool × Bool × Bool × Bool) => (way q6.1 (way q6.2.1 (way q6.2.2.1 (way q6.2.2.2.1 (some q6.2.2.2.2) none) none) none) none)))
theorem c99 (x0 : XExpr) (r : Bool) (h : s99 x0 = some r) : Gives Tryz.prog 99 [.agg x0.v] (vbool r) := by
  intro s
  unfold s99 at h
  refine acalls_of (fn := Tryz.f99) Tryz.func99 rfl (by decide) (by show 1 ≤ 186; decide) ?_
  rw [Tryz.ntmps99]
  refine rg ?_
  refine rg ?_
  refine rg ?_
  refine rg ?_
  refine rg ?_
  refine rgF ((And.intro ((@XValue.v_eq)) <| And.intro teq25 <| XValue.v_eq)) ?_
  refine AWp.joinS (X := Bool × Bool × Bool × Bool × Bool) (G := Unit) h (fun _ => True) (fun q6 _ => tst [(3, vbool q6.1), (4, vbool q6.2.1), (5, vbool q6.2.2.1), (6, vbool q6.2.2.2.1), (7, vbool q6.2.2.2.2)] [] s 186) (fun u7 h => ?_) ?_
  · refine rgF ((@XValue.v_eq)) ?_
    refine AWp.block ?_
    refine rgF ((@XValue.v_eq)) ?_
    refine ws h (fun hc8 h => ?_) fun hc8 h => ?_
    · refine AWp.reg1 fun Z9 hZ9 => ?_
      (try simp only [XValue.v_eq, undef, Bool.not_true, Bool.not_false, xm, Nat.reduceAdd, Nat.reduceLeDiff, seval, reduceCtorEq])
      obtain ⟨y10, hy10, h⟩ := call_some h
      refine (c150 x0.v_ _ hy10 _).go ?_
      (try simp only [XValue.v_eq, undef, Bool.not_true, Bool.not_false, xm, Nat.reduceAdd, Nat.reduceLeDiff, seval, reduceCtorEq])
      refine gTS h (by rfl) (fun hg11 h => ?_) (fun _ h => by cases h)
      (try simp only [hg11, XValue.v_eq, undef, Bool.not_true, Bool.not_false, xm, Nat.reduceAdd, Nat.reduceLeDiff, seval, reduceCtorEq])
      refine hZ9 _ ?_; clear hZ9 Z9
      exact ⟨((x0.name.data.toList == ((ByteArray.mk #[])).data.toList), (x0.n == 0), ((((x0.sub.length : Nat) : Int)) == 0), (x0.table.data.toList == ((ByteArray.mk #[])).data.toList), (decide (x0.v_.int ≥ 0))), h, (), trivial, tleF ((And.intro (@XValue.v_eq) <| hg11))⟩
    · refine rgF ((@XValue.v_eq)) ?_
      refine ws h (fun hc12 h => ?_) fun hc12 h => ?_
      · obtain ⟨y13, hy13, h⟩ := call_some h
        refine rgFC ((@XValue.v_eq)) (c112 x0.name _ hy13) ?_
        refine AWp.reg1 fun Z14 hZ14 => ?_
        (try simp only [XValue.v_eq, undef, Bool.not_true, Bool.not_false, xm, Nat.reduceAdd, Nat.reduceLeDiff, seval, reduceCtorEq])
        refine gFS h (by rfl) (fun hg15 h => ?_) (fun _ h => by cases h)
        (try simp only [hg15, XValue.v_eq, undef, Bool.not_true, Bool.not_false, xm, Nat.reduceAdd, Nat.reduceLeDiff, seval, reduceCtorEq])
        refine hZ14 _ ?_; clear hZ14 Z14
        exact ⟨(y13, (x0.n == 0), ((((x0.sub.length : Nat) : Int)) == 0), true, ((x0.v_.kind == 0) && ((x0.v_.int == 0) && (x0.v_.text.data.toList == ByteArray.empty.data.toList)))), h, (), trivial, tleF ((And.intro (@XValue.v_eq) <| hg15))⟩
      · refine rgF ((@XValue.v_eq)) ?_
        refine wF h fun hc16 h => ?_
        refine AWp.seq_k fun K17 hK17 => ?_
        refine rgF ((@XValue.v_eq)) ?_
        refine wF h fun hc18 h => ?_
        refine r1F ((@XValue.v_eq)) ?_
        refine hK17 _ ?_; clear hK17
        refine wF h fun hc19 h => ?_
        refine rgF ((@XValue.v_eq)) ?_
        refine wF h fun hc20 h => ?_
        refine rgF ((@XValue.v_eq)) ?_
        refine wF h fun hc21 h => ?_
        refine rgF ((@XValue.v_eq)) ?_
        refine wF h fun hc22 h => ?_
        refine rgF ((@XValue.v_eq)) ?_
        refine wF h fun hc23 h => ?_
        refine rgF ((@XValue.v_eq)) ?_
        refine wF h fun hc24 h => ?_
        refine AWp.skip ?_
        exact ⟨((x0.name.data.toList == ((ByteArray.mk #[])).data.toList), (x0.n == 0), ((((x0.sub.length : Nat) : Int)) == 0), (x0.table.data.toList == ((ByteArray.mk #[])).data.toList), ((x0.v_.kind == 0) && ((x0.v_.int == 0) && (x0.v_.text.data.toList == ByteArray.empty.data.toList)))), h, (), trivial, tleF (@XValue.v_eq)⟩
  · rintro ⟨v1, v2, v3, v4, v5⟩ h _ _
    (try dsimp only at h ⊢)
    refine AWp.reg fun Z25 hZ25 => ?_
    (try simp only [XValue.v_eq, undef, Bool.not_true, Bool.not_false, xm, Nat.reduceAdd, Nat.reduceLeDiff, seval, reduceCtorEq])
    refine gTS h (by rfl) (fun hg26 h => ?_) (fun _ h => by cases h)
    (try simp only [hg26, XValue.v_eq, undef, Bool.not_true, Bool.not_false, xm, Nat.reduceAdd, Nat.reduceLeDiff, seval, reduceCtorEq])
    refine gTS h (by rfl) (fun hg27 h => ?_) (fun _ h => by cases h)
    (try simp only [hg26, hg27, XValue.v_eq, undef, Bool.not_true, Bool.not_false, xm, Nat.reduceAdd, Nat.reduceLeDiff, seval, reduceCtorEq])
    refine gTS h (by rfl) (fun hg28 h => ?_) (fun _ h => by cases h)
    (try simp only [hg26, hg27, hg28, XValue.v_eq, undef, Bool.not_true, Bool.not_false, xm, Nat.reduceAdd, Nat.reduceLeDiff, seval, reduceCtorEq])
    refine gTS h (by rfl) (fun hg29 h => ?_) (fun _ h => by cases h)
    (try simp only [hg26, hg27, hg28, hg29, XValue.v_eq, undef, Bool.not_true, Bool.not_false, xm, Nat.reduceAdd, Nat.reduceLeDiff, seval, reduceCtorEq])
    refine hZ25 _ ?_; clear hZ25 Z25
    refine AWp.ret ?_
    obtain rfl := Option.some.inj h
    exact rtnF (@XValue.v_eq) [.tmp 2]
structure F100_1_ where
  p100_1 : (List XExpr) → Option (Bool)
  p101 : XExpr → Option (Bool)
  p166_2 : (List XExpr) → Option (Int)
  p47 : XExpr → Option (Bool)
structure F100_1_.Ok (F : F100_1_) : Prop where
  p100_1 : ∀ (x0 : (List XExpr)) (r : Bool), F.p100_1 x0 = some r → Gives Tryz.prog 100 [.slice 10 (List.map XExpr.v x0), .func 101 [] []] (vbool r)
  p101 : ∀ (x0 : XExpr) (r : Bool), F.p101 x0 = some r → Gives Tryz.prog 101 [.agg x0.v] (vbool r)
  p166_2 : ∀ (x0 : (List XExpr)) (r : Int), F.p166_2 x0 = some r → Gives Tryz.prog 166 [.slice 10 (List.map XExpr.v x0), .func 101 [] []] (vint r)
  p47 : ∀ (x0 : XExpr) (r : Bool), F.p47 x0 = some r → Gives Tryz.prog 47 [.agg x0.v] (vbool r)
def b100_1 (F : F100_1_) (x0 : (List XExpr)) : Option (Bool) := (call (F.p166_2 x0) fun y1 => (some ((decide (y1 ≥ 0)))))
theorem d100_1 (F : F100_1_) (H : F.Ok) (x0 : (List XExpr)) (r : Bool) (h : b100_1 F x0 = some r) : Gives Tryz.prog 100 [.slice 10 (List.map XExpr.v x0), .func 101 [] []] (vbool r) := by
  intro s
  unfold b100_1 at h
  refine acalls_of (fn := Tryz.f100) Tryz.func100 rfl (by decide) (by show 2 ≤ 9; decide) ?_
  rw [Tryz.ntmps100]
  refine rg ?_
  obtain ⟨y1, hy1, h⟩ := call_some h
  refine rgC (H.p166_2 x0 _ hy1) ?_
  refine AWp.ret ?_
  obtain rfl := Option.some.inj h
  exact rtn [.tmp 4]
def b101 (F : F100_1_) (x0 : XExpr) : Option (Bool) := (call (F.p47 x0) fun y1 => (some ((!y1))))
theorem d101 (F : F100_1_) (H : F.Ok) (x0 : XExpr) (r : Bool) (h : b101 F x0 = some r) : Gives Tryz.prog 101 [.agg x0.v] (vbool r) := by
  intro s
  unfold b101 at h
  refine acalls_of (fn := Tryz.f101) Tryz.func101 rfl (by decide) (by show 1 ≤ 6; decide) ?_
  rw [Tryz.ntmps101]
  refine rg ?_
  obtain ⟨y1, hy1, h⟩ := call_some h
  refine rgC (H.p47 x0 _ hy1) ?_
  refine AWp.ret ?_
  obtain rfl := Option.some.inj h
  exact rtn [.tmp 2]
def b166_2 (F : F100_1_) (x0 : (List XExpr)) : Option (Int) := (loopC (fun (u4 : Int → Option (Int)) (q3 : Int) => (way ((decide (q3 < (((x0.length : Nat) : Int))))) (need (0 ≤ q3 ∧ q3 < ((x0.length : Nat) : Int)) (call (F.p101 ((x0.getD q3.toNat XExpr.z))) fun y10 => (way y10 none (u4 (IntKind.i64.wrap (q3 + 1)))))) (some (-1)))) manyC 0)
theorem d166_2 (F : F100_1_) (H : F.Ok) (x0 : (List XExpr)) (r : Int) (h : b166_2 F x0 = some r) : Gives Tryz.prog 166 [.slice 10 (List.map XExpr.v x0), .func 101 [] []] (vint r) := by
  intro s
  unfold b166_2 at h
  refine acalls_of (fn := Tryz.f166) Tryz.func166 rfl (by decide) (by show 2 ≤ 19; decide) ?_
  rw [Tryz.ntmps166]
  refine rg ?_
  refine AWp.seq_k fun K1 hK1 => ?_
  refine rg ?_
  refine AWp.block ?_
  refine AWp.loopS (X := Int) (G := Unit) h (fun _ => True) (fun q3 _ => tst [(0, .slice 10 (List.map XExpr.v x0)), (1, .func 101 [] []), (7, vint (((x0.length : Nat) : Int))), (8, vint q3)] [] s 19) ?_ ?_
  · exact ⟨(), trivial, tle⟩
  · rintro u4 v2 h _ _
    refine rg ?_
    refine AWp.seq_k fun K5 hK5 => ?_
    refine ws h (fun hc6 h => ?_) fun hc6 h => ?_
    · refine AWp.skip ?_
      refine hK5 _ ?_; clear hK5
      refine AWp.seq_k fun K7 hK7 => ?_
      refine AWp.block ?_
      refine rg ?_
      obtain ⟨hn9, h⟩ := need_some h
      obtain ⟨y10, hy10, h⟩ := call_some h
      refine rgFC ((And.intro ((isT hn9.1)) <| And.intro ((isT hn9.2)) <| (getD_enc XExpr.v XExpr.z hn9))) (H.p101 ((x0.getD v2.toNat XExpr.z)) _ hy10) ?_
      refine wF h fun hc11 h => ?_
      refine AWp.skip ?_
      refine hK7 _ ?_; clear hK7
      refine r1 ?_
      exact ⟨(IntKind.i64.wrap (v2 + 1)), h, (), trivial, tle⟩
    · refine AWp.exit ?_
      simp only [thenQ, blockQ, ↓reduceIte, Nat.reduceEqDiff, Nat.one_ne_zero, Nat.zero_ne_one, Nat.succ_ne_zero, reduceCtorEq]
      refine hK1 _ ?_; clear hK1
      refine rg ?_
      refine AWp.ret ?_
      obtain rfl := Option.some.inj h
      exact rtn [.tmp 4]
def b47 (F : F100_1_) (x0 : XExpr) : Option (Bool) := (call (s98 x0.op) fun y1 => (way ((!y1.2)) none (way ((decide ((((x0.args.length : Nat) : Int)) < y1.1.least))) none (way ((decide (y1.1.most ≥ 0))) (way ((decide ((((x0.args.length : Nat) : Int)) > y1.1.most))) none (way x0.not none (call (s99 x0) fun y9 => (way ((!y9)) none (call (F.p100_1 x0.args) fun y12 => (way ((!y12)) (call (s102_1 x0.sub) fun y14 => (some ((!y14)))) none)))))) none))))
theorem d47 (F : F100_1_) (H : F.Ok) (x0 : XExpr) (r : Bool) (h : b47 F x0 = some r) : Gives Tryz.prog 47 [.agg x0.v] (vbool r) := by
  intro s
  unfold b47 at h
  refine acalls_of (fn := Tryz.f47) Tryz.func47 rfl (by decide) (by show 1 ≤ 58; decide) ?_
  rw [Tryz.ntmps47]
  refine rg ?_
  obtain ⟨y1, hy1, h⟩ := call_some h
  refine rgC (c98 x0.op _ hy1) ?_
  refine AWp.seq_k fun K2 hK2 => ?_
  refine AWp.reg fun Z3 hZ3 => ?_
  (try simp only [undef, Bool.not_true, Bool.not_false, xm, Nat.reduceAdd, Nat.reduceLeDiff, seval, reduceCtorEq])
  refine gFS h (by rfl) (fun _ h => by cases h) (fun hg4 h => ?_)
  (try simp only [hg4, undef, Bool.not_true, Bool.not_false, xm, Nat.reduceAdd, Nat.reduceLeDiff, seval, reduceCtorEq])
  refine gFS h (by rfl) (fun _ h => by cases h) (fun hg5 h => ?_)
  (try simp only [hg4, hg5, undef, Bool.not_true, Bool.not_false, xm, Nat.reduceAdd, Nat.reduceLeDiff, seval, reduceCtorEq])
  refine gTS h (by rfl) (fun hg6 h => ?_) (fun _ h => by cases h)
  (try simp only [hg4, hg5, hg6, undef, Bool.not_true, Bool.not_false, xm, Nat.reduceAdd, Nat.reduceLeDiff, seval, reduceCtorEq])
  refine gFS h (by rfl) (fun _ h => by cases h) (fun hg7 h => ?_)
  (try simp only [hg4, hg5, hg6, hg7, undef, Bool.not_true, Bool.not_false, xm, Nat.reduceAdd, Nat.reduceLeDiff, seval, reduceCtorEq])
  refine gTS h (by rfl) (fun _ h => by cases h) (fun hg8 h => ?_)
  (try simp only [hg4, hg5, hg6, hg7, hg8, undef, Bool.not_true, Bool.not_false, xm, Nat.reduceAdd, Nat.reduceLeDiff, seval, reduceCtorEq])
  obtain ⟨y9, hy9, h⟩ := call_some h
  refine (c99 x0 _ hy9 _).go ?_
  (try simp only [hg4, hg5, hg6, hg7, hg8, undef, Bool.not_true, Bool.not_false, xm, Nat.reduceAdd, Nat.reduceLeDiff, seval, reduceCtorEq])
  refine hZ3 _ ?_; clear hZ3 Z3
  refine wF h fun hc10 h => ?_
  refine AWp.skip ?_
  refine hK2 _ ?_; clear hK2
  refine AWp.reg fun Z11 hZ11 => ?_
  (try simp only [undef, Bool.not_true, Bool.not_false, xm, Nat.reduceAdd, Nat.reduceLeDiff, seval, reduceCtorEq])
  obtain ⟨y12, hy12, h⟩ := call_some h
  refine (H.p100_1 x0.args _ hy12 _).go ?_
  (try simp only [undef, Bool.not_true, Bool.not_false, xm, Nat.reduceAdd, Nat.reduceLeDiff, seval, reduceCtorEq])
  refine gTS h (by rfl) (fun hg13 h => ?_) (fun _ h => by cases h)
  (try simp only [hg13, undef, Bool.not_true, Bool.not_false, xm, Nat.reduceAdd, Nat.reduceLeDiff, seval, reduceCtorEq])
  obtain ⟨y14, hy14, h⟩ := call_some h
  refine (c102_1 x0.sub _ hy14 _).go ?_
  (try simp only [hg13, undef, Bool.not_true, Bool.not_false, xm, Nat.reduceAdd, Nat.reduceLeDiff, seval, reduceCtorEq])
  refine hZ11 _ ?_; clear hZ11 Z11
  refine AWp.ret ?_
  obtain rfl := Option.some.inj h
  exact rtn [.tmp 2]
def F100_1_.fix : Nat → F100_1_
  | 0 => ⟨fun _ => none, fun _ => none, fun _ => none, fun _ => none⟩
  | n + 1 => ⟨b100_1 (F100_1_.fix n), b101 (F100_1_.fix n), b166_2 (F100_1_.fix n), b47 (F100_1_.fix n)⟩
theorem F100_1_.ok : ∀ n, F100_1_.Ok (F100_1_.fix n)
  | 0 => ⟨(fun _ _ h => by cases h), (fun _ _ h => by cases h), (fun _ _ h => by cases h), (fun _ _ h => by cases h)⟩
  | n + 1 => ⟨d100_1 _ (F100_1_.ok n), d101 _ (F100_1_.ok n), d166_2 _ (F100_1_.ok n), d47 _ (F100_1_.ok n)⟩
def s47 := (F100_1_.fix manyC).p47
theorem c47 : ∀ (x0 : XExpr) (r : Bool), s47 x0 = some r → Gives Tryz.prog 47 [.agg x0.v] (vbool r) := (F100_1_.ok manyC).p47
def s183_1 (x1 : Int) (m0 : XReader) : Option (ByteArray × XReader) := (join (fun (u4 : Bool → Option (ByteArray × XReader)) => (way ((decide (((IntKind.i64.wrap (m0.at_ + x1))) < (((m0.l.length : Nat) : Int))))) (need (0 ≤ ((IntKind.i64.wrap (m0.at_ + x1))) ∧ ((IntKind.i64.wrap (m0.at_ + x1))) < ((m0.l.length : Nat) : Int)) (u4 ((((m0.l.getD ((IntKind.i64.wrap (m0.at_ + x1))).toNat XToken.z)).kind) == 1))) (u4 false))) (fun (q3 : Bool) => (way q3 (need (0 ≤ ((IntKind.i64.wrap (m0.at_ + x1))) ∧ ((IntKind.i64.wrap (m0.at_ + x1))) < ((m0.l.length : Nat) : Int)) (call (s174 (((m0.l.getD ((IntKind.i64.wrap (m0.at_ + x1))).toNat XToken.z)).text)) fun y12 => (some ((y12.1, m0))))) (some (((ByteArray.mk #[]), m0))))))
theorem c183_1 (x1 : Int) (m0 : XReader) (r : ByteArray × XReader) (h : s183_1 x1 m0 = some r) : Gives1 Tryz.prog 183 (fun b0 => [.ptr b0 0, vint x1]) (vstr r.1) ([.slice 3 (List.map XToken.v m0.l), vint m0.at_, vint m0.params], 118) ([.slice 3 (List.map XToken.v r.2.l), vint r.2.at_, vint r.2.params], 118) := by
  refine gives1_of fun s b0 => ?_
  unfold s183_1 at h
  refine acalls_of (fn := Tryz.f183) Tryz.func183 rfl (by decide) (by show 2 ≤ 45; decide) ?_
  rw [Tryz.ntmps183]
  refine AWp.post ?_
  refine rg ?_
  refine AWp.seq_k fun K1 hK1 => ?_
  refine rg ?_
  refine AWp.joinS (X := Bool) (G := Unit) h (fun _ => True) (fun q3 _ => tst [(0, .ptr b0 0), (5, vint ((IntKind.i64.wrap (m0.at_ + x1)))), (31, vbool q3)] [] (s.setBox b0 ([.slice 3 (List.map XToken.v m0.l), vint m0.at_, vint m0.params], 118)) 45) (fun u4 h => ?_) ?_
  · refine AWp.reg1 fun Z5 hZ5 => ?_
    (try simp only [undef, Bool.not_true, Bool.not_false, xm, Nat.reduceAdd, Nat.reduceLeDiff, seval, reduceCtorEq])
    refine gTS h (by rfl) (fun hg6 h => ?_) (fun hg6 h => ?_)
    · obtain ⟨hn8, h⟩ := need_some h
      (try simp only [hg6, isT hn8.1, isT hn8.2, getD_enc XToken.v XToken.z hn8, undef, Bool.not_true, Bool.not_false, xm, Nat.reduceAdd, Nat.reduceLeDiff, seval, reduceCtorEq])
      refine hZ5 _ ?_; clear hZ5 Z5
      exact ⟨((((m0.l.getD ((IntKind.i64.wrap (m0.at_ + x1))).toNat XToken.z)).kind) == 1), h, (), trivial, tleF hg6⟩
    · (try simp only [hg6, undef, Bool.not_true, Bool.not_false, xm, Nat.reduceAdd, Nat.reduceLeDiff, seval, reduceCtorEq])
      refine hZ5 _ ?_; clear hZ5 Z5
      exact ⟨false, h, (), trivial, tleF hg6⟩
  · rintro v2 h _ _
    refine ws h (fun hc9 h => ?_) fun hc9 h => ?_
    · obtain ⟨hn11, h⟩ := need_some h
      obtain ⟨y12, hy12, h⟩ := call_some h
      refine rgFC ((And.intro ((isT hn11.1)) <| And.intro ((isT hn11.2)) <| (getD_enc XToken.v XToken.z hn11))) (c174 (((m0.l.getD ((IntKind.i64.wrap (m0.at_ + x1))).toNat XToken.z)).text) _ hy12) ?_
      refine rg ?_
      refine AWp.ret ?_
      obtain rfl := Option.some.inj h
      exact rtq [.tmp 4]
    · refine AWp.skip ?_
      refine hK1 _ ?_; clear hK1
      refine rg ?_
      refine AWp.ret ?_
      obtain rfl := Option.some.inj h
      exact rtq [.tmp 4]
def s119_1 (x1 : ByteArray) (m0 : XReader) : Option (Bool × XReader) := (call (s183_1 0 m0) fun y2 => (way ((y2.1.data.toList == x1.data.toList)) none (some ((false, y2.2)))))
theorem c119_1 (x1 : ByteArray) (m0 : XReader) (r : Bool × XReader) (h : s119_1 x1 m0 = some r) : Gives1 Tryz.prog 119 (fun b0 => [.ptr b0 0, vstr x1]) (vbool r.1) ([.slice 3 (List.map XToken.v m0.l), vint m0.at_, vint m0.params], 118) ([.slice 3 (List.map XToken.v r.2.l), vint r.2.at_, vint r.2.params], 118) := by
  refine gives1_of fun s b0 => ?_
  unfold s119_1 at h
  refine acalls_of (fn := Tryz.f119) Tryz.func119 rfl (by decide) (by show 2 ≤ 16; decide) ?_
  rw [Tryz.ntmps119]
  refine AWp.post ?_
  refine rg ?_
  refine AWp.seq_k fun K1 hK1 => ?_
  obtain ⟨y2, hy2, h⟩ := call_some h
  refine rgC (c183_1 0 m0 _ hy2) ?_
  refine hL (s' := (s.setBox b0 ([.slice 3 (List.map XToken.v y2.2.l), vint y2.2.at_, vint y2.2.params], 118))) ?_
  refine wF h fun hc3 h => ?_
  refine AWp.skip ?_
  refine hK1 _ ?_; clear hK1
  refine rg ?_
  refine AWp.ret ?_
  obtain rfl := Option.some.inj h
  exact rtq [.tmp 4]
def s139_1 (x1 : ByteArray) (m0 : XReader) : Option (Int × Int × XReader) := (join (fun (u5 : Bool × XReader → Option (Int × Int × XReader)) => (way ((x1.data.toList == ((ByteArray.mk #[111, 114])).data.toList)) (call (s183_1 0 m0) fun y8 => (u5 ((y8.1.data.toList == ((ByteArray.mk #[79, 82])).data.toList), y8.2))) (u5 (false, m0)))) (fun (q4 : Bool × XReader) => (way q4.1 none (join (fun (u14 : Bool × XReader → Option (Int × Int × XReader)) => (way ((x1.data.toList == ((ByteArray.mk #[97, 110, 100])).data.toList)) (call (s183_1 0 q4.2) fun y17 => (u14 ((y17.1.data.toList == ((ByteArray.mk #[65, 78, 68])).data.toList), y17.2))) (u14 (false, q4.2)))) (fun (q13 : Bool × XReader) => (way q13.1 none (join (fun (u22 : Bool → Option (Int × Int × XReader)) => (way ((decide (q13.2.at_ ≥ (((q13.2.l.length : Nat) : Int))))) (u22 true) (need (0 ≤ q13.2.at_ ∧ q13.2.at_ < ((q13.2.l.length : Nat) : Int)) (u22 ((((q13.2.l.getD q13.2.at_.toNat XToken.z)).kind) != 6))))) (fun (q21 : Bool) => (way q21 (some ((0, 0, q13.2))) (need (0 ≤ q13.2.at_ ∧ q13.2.at_ < ((q13.2.l.length : Nat) : Int)) (way ((x1.data.toList == ((ByteArray.mk #[108, 101, 115, 115])).data.toList)) none (way ((x1.data.toList == ((ByteArray.mk #[115, 117, 109])).data.toList)) (some (((signOf (((q13.2.l.getD q13.2.at_.toNat XToken.z)).text) [((ByteArray.mk #[43]), 7), ((ByteArray.mk #[45]), 8)]).1, (signOf (((q13.2.l.getD q13.2.at_.toNat XToken.z)).text) [((ByteArray.mk #[43]), 7), ((ByteArray.mk #[45]), 8)]).2, q13.2))) (way ((x1.data.toList == ((ByteArray.mk #[116, 105, 109, 101, 115])).data.toList)) (some (((signOf (((q13.2.l.getD q13.2.at_.toNat XToken.z)).text) [((ByteArray.mk #[42]), 9), ((ByteArray.mk #[47]), 10), ((ByteArray.mk #[37]), 11)]).1, (signOf (((q13.2.l.getD q13.2.at_.toNat XToken.z)).text) [((ByteArray.mk #[42]), 9), ((ByteArray.mk #[47]), 10), ((ByteArray.mk #[37]), 11)]).2, q13.2))) (way ((x1.data.toList == ((ByteArray.mk #[99, 104, 97, 105, 110])).data.toList)) (some (((signOf (((q13.2.l.getD q13.2.at_.toNat XToken.z)).text) [((ByteArray.mk #[124, 124]), 12)]).1, (signOf (((q13.2.l.getD q13.2.at_.toNat XToken.z)).text) [((ByteArray.mk #[124, 124]), 12)]).2, q13.2))) none))))))))))))))
theorem c139_1 (x1 : ByteArray) (m0 : XReader) (r : Int × Int × XReader) (h : s139_1 x1 m0 = some r) : Gives1 Tryz.prog 139 (fun b0 => [.ptr b0 0, vstr x1]) (.tuple [vint r.1, vint r.2.1]) ([.slice 3 (List.map XToken.v m0.l), vint m0.at_, vint m0.params], 118) ([.slice 3 (List.map XToken.v r.2.2.l), vint r.2.2.at_, vint r.2.2.params], 118) := by
  refine gives1_of fun s b0 => ?_
  unfold s139_1 at h
  refine acalls_of (fn := Tryz.f139) Tryz.func139 rfl (by decide) (by show 2 ≤ 105; decide) ?_
  rw [Tryz.ntmps139]
  refine AWp.post ?_
  refine rg ?_
  refine AWp.seq_k fun K1 hK1 => ?_
  refine AWp.joinS (X := Bool × XReader) (G := Unit) h (fun _ => True) (fun q4 _ => tst [(0, .ptr b0 0), (1, vstr x1), (13, vbool q4.1)] [] (s.setBox b0 ([.slice 3 (List.map XToken.v q4.2.l), vint q4.2.at_, vint q4.2.params], 118)) 105) (fun u5 h => ?_) ?_
  · refine AWp.reg1 fun Z6 hZ6 => ?_
    (try simp only [undef, Bool.not_true, Bool.not_false, xm, Nat.reduceAdd, Nat.reduceLeDiff, seval, reduceCtorEq])
    refine gTS h (by rfl) (fun hg7 h => ?_) (fun hg7 h => ?_)
    · (try simp only [hg7, undef, Bool.not_true, Bool.not_false, xm, Nat.reduceAdd, Nat.reduceLeDiff, seval, reduceCtorEq])
      obtain ⟨y8, hy8, h⟩ := call_some h
      refine (c183_1 0 m0 _ hy8 _ b0 (by first | exact setBox_same | (simp only [setBox_same, setBox_ne, ne_eq, not_false_eq_true]))).go ?_
      (try simp only [hg7, undef, Bool.not_true, Bool.not_false, xm, Nat.reduceAdd, Nat.reduceLeDiff, seval, reduceCtorEq])
      refine hZ6 _ ?_; clear hZ6 Z6
      exact ⟨((y8.1.data.toList == ((ByteArray.mk #[79, 82])).data.toList), y8.2), h, (), trivial, tleF hg7⟩
    · (try simp only [hg7, undef, Bool.not_true, Bool.not_false, xm, Nat.reduceAdd, Nat.reduceLeDiff, seval, reduceCtorEq])
      refine hZ6 _ ?_; clear hZ6 Z6
      exact ⟨(false, m0), h, (), trivial, tleF hg7⟩
  · rintro ⟨v2, w3⟩ h _ _
    (try dsimp only at h ⊢)
    refine wF h fun hc9 h => ?_
    refine AWp.skip ?_
    refine hK1 _ ?_; clear hK1
    refine AWp.seq_k fun K10 hK10 => ?_
    refine AWp.joinS (X := Bool × XReader) (G := Unit) h (fun _ => True) (fun q13 _ => tst [(0, .ptr b0 0), (1, vstr x1), (20, vbool q13.1)] [] (s.setBox b0 ([.slice 3 (List.map XToken.v q13.2.l), vint q13.2.at_, vint q13.2.params], 118)) 105) (fun u14 h => ?_) ?_
    · refine AWp.reg1 fun Z15 hZ15 => ?_
      (try simp only [undef, Bool.not_true, Bool.not_false, xm, Nat.reduceAdd, Nat.reduceLeDiff, seval, reduceCtorEq])
      refine gTS h (by rfl) (fun hg16 h => ?_) (fun hg16 h => ?_)
      · (try simp only [hg16, undef, Bool.not_true, Bool.not_false, xm, Nat.reduceAdd, Nat.reduceLeDiff, seval, reduceCtorEq])
        obtain ⟨y17, hy17, h⟩ := call_some h
        refine (c183_1 0 w3 _ hy17 _ b0 (by first | exact setBox_same | (simp only [setBox_same, setBox_ne, ne_eq, not_false_eq_true]))).go ?_
        (try simp only [hg16, undef, Bool.not_true, Bool.not_false, xm, Nat.reduceAdd, Nat.reduceLeDiff, seval, reduceCtorEq])
        refine hZ15 _ ?_; clear hZ15 Z15
        exact ⟨((y17.1.data.toList == ((ByteArray.mk #[65, 78, 68])).data.toList), y17.2), h, (), trivial, tleF hg16⟩
      · (try simp only [hg16, undef, Bool.not_true, Bool.not_false, xm, Nat.reduceAdd, Nat.reduceLeDiff, seval, reduceCtorEq])
        refine hZ15 _ ?_; clear hZ15 Z15
        exact ⟨(false, w3), h, (), trivial, tleF hg16⟩
    · rintro ⟨v11, w12⟩ h _ _
      (try dsimp only at h ⊢)
      refine wF h fun hc18 h => ?_
      refine AWp.skip ?_
      refine hK10 _ ?_; clear hK10
      refine AWp.seq_k fun K19 hK19 => ?_
      refine AWp.joinS (X := Bool) (G := Unit) h (fun _ => True) (fun q21 _ => tst [(0, .ptr b0 0), (1, vstr x1), (44, vbool q21)] [] (s.setBox b0 ([.slice 3 (List.map XToken.v w12.l), vint w12.at_, vint w12.params], 118)) 105) (fun u22 h => ?_) ?_
      · refine AWp.regL1 mixed [0, 1, 2, 3, 4, 5, 6, 7, 8, 9, 10, 11, 12, 13, 14, 15, 16, 17, 18, 19, 20, 21, 22, 23] (by decide +kernel) [] (by decide +kernel) fun Z23 hZ23 => ?_
        (try simp only [undef, Bool.not_true, Bool.not_false, aml, Nat.reduceBEq, xm, Nat.reduceAdd, Nat.reduceLeDiff, seval, reduceCtorEq])
        refine gFSL h (by rfl) (fun hg24 h => ?_) (fun hg24 h => ?_)
        · (try simp only [hg24, undef, Bool.not_true, Bool.not_false, aml, Nat.reduceBEq, xm, Nat.reduceAdd, Nat.reduceLeDiff, seval, reduceCtorEq])
          refine hZ23 _ ?_; clear hZ23 Z23
          exact ⟨true, h, (), trivial, tleF hg24⟩
        · obtain ⟨hn26, h⟩ := need_some h
          (try simp only [hg24, isT hn26.1, isT hn26.2, getD_enc XToken.v XToken.z hn26, undef, Bool.not_true, Bool.not_false, aml, Nat.reduceBEq, xm, Nat.reduceAdd, Nat.reduceLeDiff, seval, reduceCtorEq])
          refine hZ23 _ ?_; clear hZ23 Z23
          exact ⟨((((w12.l.getD w12.at_.toNat XToken.z)).kind) != 6), h, (), trivial, tleF hg24⟩
      · rintro v20 h _ _
        refine ws h (fun hc27 h => ?_) fun hc27 h => ?_
        · refine rg ?_
          refine AWp.ret ?_
          obtain rfl := Option.some.inj h
          exact rtq [.tmp 4, .tmp 5]
        · refine AWp.skip ?_
          refine hK19 _ ?_; clear hK19
          obtain ⟨hn29, h⟩ := need_some h
          refine rgLF [0, 1, 2, 3, 4, 5, 6, 7, 8, 9, 10, 11] [] ((And.intro ((isT hn29.1)) <| And.intro ((isT hn29.2)) <| (getD_enc XToken.v XToken.z hn29))) ?_
          refine AWp.seq_k fun K30 hK30 => ?_
          refine rg ?_
          refine AWp.block ?_
          refine rg ?_
          refine wF h fun hc31 h => ?_
          refine rg ?_
          refine ws h (fun hc32 h => ?_) fun hc32 h => ?_
          · refine AWp.reg fun Z33 hZ33 => ?_
            (try simp only [xm, Nat.reduceAdd, Nat.reduceLeDiff, seval, reduceCtorEq])
            refine (ofSign (((w12.l.getD w12.at_.toNat XToken.z)).text) [((ByteArray.mk #[43]), 7), ((ByteArray.mk #[45]), 8)] (by decide) _).go ?_
            (try simp only [xm, Nat.reduceAdd, Nat.reduceLeDiff, seval, reduceCtorEq])
            refine hZ33 _ ?_; clear hZ33 Z33
            refine AWp.ret ?_
            obtain rfl := Option.some.inj h
            exact rtq [.tmp 4, .tmp 5]
          · refine rg ?_
            refine ws h (fun hc34 h => ?_) fun hc34 h => ?_
            · refine AWp.reg fun Z35 hZ35 => ?_
              (try simp only [xm, Nat.reduceAdd, Nat.reduceLeDiff, seval, reduceCtorEq])
              refine (ofSign (((w12.l.getD w12.at_.toNat XToken.z)).text) [((ByteArray.mk #[42]), 9), ((ByteArray.mk #[47]), 10), ((ByteArray.mk #[37]), 11)] (by decide) _).go ?_
              (try simp only [xm, Nat.reduceAdd, Nat.reduceLeDiff, seval, reduceCtorEq])
              refine hZ35 _ ?_; clear hZ35 Z35
              refine AWp.ret ?_
              obtain rfl := Option.some.inj h
              exact rtq [.tmp 4, .tmp 5]
            · refine rg ?_
              refine wT h fun hc36 h => ?_
              refine AWp.reg fun Z37 hZ37 => ?_
              (try simp only [xm, Nat.reduceAdd, Nat.reduceLeDiff, seval, reduceCtorEq])
              refine (ofSign (((w12.l.getD w12.at_.toNat XToken.z)).text) [((ByteArray.mk #[124, 124]), 12)] (by decide) _).go ?_
              (try simp only [xm, Nat.reduceAdd, Nat.reduceLeDiff, seval, reduceCtorEq])
              refine hZ37 _ ?_; clear hZ37 Z37
              refine AWp.ret ?_
              obtain rfl := Option.some.inj h
              exact rtq [.tmp 4, .tmp 5]
def s251_1 (x1 : (List ByteArray)) (m0 : XReader) : Option (Bool × XReader) := (join (fun (u4 : Bool × XReader → Option (Bool × XReader)) => (way ((decide (m0.at_ < (((m0.l.length : Nat) : Int))))) (need (0 ≤ m0.at_ ∧ m0.at_ < ((m0.l.length : Nat) : Int)) (way (((((m0.l.getD m0.at_.toNat XToken.z)).kind) == 6)) (need (0 ≤ m0.at_ ∧ m0.at_ < ((m0.l.length : Nat) : Int)) (call (s289 x1 (((m0.l.getD m0.at_.toNat XToken.z)).text)) fun y12 => (u4 (y12, m0)))) (u4 (false, m0)))) (u4 (false, m0)))) (fun (q3 : Bool × XReader) => (some ((q3.1, q3.2)))))
theorem c251_1 (x1 : (List ByteArray)) (m0 : XReader) (r : Bool × XReader) (h : s251_1 x1 m0 = some r) : Gives1 Tryz.prog 251 (fun b0 => [.ptr b0 0, .slice 1 (List.map (fun x => [vstr x]) x1)]) (vbool r.1) ([.slice 3 (List.map XToken.v m0.l), vint m0.at_, vint m0.params], 118) ([.slice 3 (List.map XToken.v r.2.l), vint r.2.at_, vint r.2.params], 118) := by
  refine gives1_of fun s b0 => ?_
  unfold s251_1 at h
  refine acalls_of (fn := Tryz.f251) Tryz.func251 rfl (by decide) (by show 2 ≤ 44; decide) ?_
  rw [Tryz.ntmps251]
  refine AWp.post ?_
  refine rg ?_
  refine AWp.joinS (X := Bool × XReader) (G := Unit) h (fun _ => True) (fun q3 _ => tst [(4, vbool q3.1)] [] (s.setBox b0 ([.slice 3 (List.map XToken.v q3.2.l), vint q3.2.at_, vint q3.2.params], 118)) 44) (fun u4 h => ?_) ?_
  · refine AWp.regL1 mixed [0, 1, 2, 3, 4, 5, 6, 7, 8, 9, 10, 11, 12, 13, 14, 15, 16, 17, 18, 19, 20, 21, 22, 23, 24, 25, 26, 27, 28, 29, 30, 31, 32, 33, 34, 35, 36, 37, 38, 39] (by decide +kernel) [] (by decide +kernel) fun Z5 hZ5 => ?_
    (try simp only [undef, Bool.not_true, Bool.not_false, aml, Nat.reduceBEq, xm, Nat.reduceAdd, Nat.reduceLeDiff, seval, reduceCtorEq])
    refine gTSL h (by rfl) (fun hg6 h => ?_) (fun hg6 h => ?_)
    · obtain ⟨hn8, h⟩ := need_some h
      (try simp only [hg6, isT hn8.1, isT hn8.2, getD_enc XToken.v XToken.z hn8, undef, Bool.not_true, Bool.not_false, aml, Nat.reduceBEq, xm, Nat.reduceAdd, Nat.reduceLeDiff, seval, reduceCtorEq])
      refine gTSL h (by rfl) (fun hg9 h => ?_) (fun hg9 h => ?_)
      · obtain ⟨hn11, h⟩ := need_some h
        (try simp only [hg6, isT hn8.1, isT hn8.2, getD_enc XToken.v XToken.z hn8, hg9, isT hn11.1, isT hn11.2, getD_enc XToken.v XToken.z hn11, undef, Bool.not_true, Bool.not_false, aml, Nat.reduceBEq, xm, Nat.reduceAdd, Nat.reduceLeDiff, seval, reduceCtorEq])
        obtain ⟨y12, hy12, h⟩ := call_some h
        refine (c289 x1 (((m0.l.getD m0.at_.toNat XToken.z)).text) _ hy12 _).go ?_
        (try simp only [hg6, isT hn8.1, isT hn8.2, getD_enc XToken.v XToken.z hn8, hg9, isT hn11.1, isT hn11.2, getD_enc XToken.v XToken.z hn11, undef, Bool.not_true, Bool.not_false, aml, Nat.reduceBEq, xm, Nat.reduceAdd, Nat.reduceLeDiff, seval, reduceCtorEq])
        refine hZ5 _ ?_; clear hZ5 Z5
        exact ⟨(y12, m0), h, (), trivial, tleF ((And.intro hg6 <| hg9))⟩
      · (try simp only [hg6, isT hn8.1, isT hn8.2, getD_enc XToken.v XToken.z hn8, hg9, undef, Bool.not_true, Bool.not_false, aml, Nat.reduceBEq, xm, Nat.reduceAdd, Nat.reduceLeDiff, seval, reduceCtorEq])
        refine hZ5 _ ?_; clear hZ5 Z5
        exact ⟨(false, m0), h, (), trivial, tleF ((And.intro hg6 <| hg9))⟩
    · (try simp only [hg6, undef, Bool.not_true, Bool.not_false, aml, Nat.reduceBEq, xm, Nat.reduceAdd, Nat.reduceLeDiff, seval, reduceCtorEq])
      refine hZ5 _ ?_; clear hZ5 Z5
      exact ⟨(false, m0), h, (), trivial, tleF hg6⟩
  · rintro ⟨v1, w2⟩ h _ _
    (try dsimp only at h ⊢)
    refine AWp.ret ?_
    obtain rfl := Option.some.inj h
    exact rtq [.tmp 4]
def s189_1 (x1 : ByteArray) (m0 : XReader) : Option (Bool × XReader) := (call (s251_1 ([x1]) m0) fun y2 => (way y2.1 none (some ((false, y2.2)))))
theorem c189_1 (x1 : ByteArray) (m0 : XReader) (r : Bool × XReader) (h : s189_1 x1 m0 = some r) : Gives1 Tryz.prog 189 (fun b0 => [.ptr b0 0, vstr x1]) (vbool r.1) ([.slice 3 (List.map XToken.v m0.l), vint m0.at_, vint m0.params], 118) ([.slice 3 (List.map XToken.v r.2.l), vint r.2.at_, vint r.2.params], 118) := by
  refine gives1_of fun s b0 => ?_
  unfold s189_1 at h
  refine acalls_of (fn := Tryz.f189) Tryz.func189 rfl (by decide) (by show 2 ≤ 16; decide) ?_
  rw [Tryz.ntmps189]
  refine AWp.post ?_
  refine rg ?_
  refine AWp.seq_k fun K1 hK1 => ?_
  obtain ⟨y2, hy2, h⟩ := call_some h
  refine rgC (c251_1 ([x1]) m0 _ hy2) ?_
  refine hL (s' := (s.setBox b0 ([.slice 3 (List.map XToken.v y2.2.l), vint y2.2.at_, vint y2.2.params], 118))) ?_
  refine wF h fun hc3 h => ?_
  refine AWp.skip ?_
  refine hK1 _ ?_; clear hK1
  refine rg ?_
  refine AWp.ret ?_
  obtain rfl := Option.some.inj h
  exact rtq [.tmp 4]
def s252_1 (m0 : XReader) : Option (Bool × XReader) := (way ((decide (m0.at_ < (((m0.l.length : Nat) : Int))))) (need (0 ≤ m0.at_ ∧ m0.at_ < ((m0.l.length : Nat) : Int)) (way (((((m0.l.getD m0.at_.toNat XToken.z)).kind) == 1)) (need (0 ≤ m0.at_ ∧ m0.at_ < ((m0.l.length : Nat) : Int)) (call (s112 (((m0.l.getD m0.at_.toNat XToken.z)).text)) fun y8 => (some ((y8, m0))))) none)) none)
theorem c252_1 (m0 : XReader) (r : Bool × XReader) (h : s252_1 m0 = some r) : Gives1 Tryz.prog 252 (fun b0 => [.ptr b0 0]) (vbool r.1) ([.slice 3 (List.map XToken.v m0.l), vint m0.at_, vint m0.params], 118) ([.slice 3 (List.map XToken.v r.2.l), vint r.2.at_, vint r.2.params], 118) := by
  refine gives1_of fun s b0 => ?_
  unfold s252_1 at h
  refine acalls_of (fn := Tryz.f252) Tryz.func252 rfl (by decide) (by show 1 ≤ 41; decide) ?_
  rw [Tryz.ntmps252]
  refine AWp.post ?_
  refine rg ?_
  refine AWp.regL mixed [0, 1, 2, 3, 4, 5, 6, 7, 8, 9, 10, 11, 12, 13, 14, 15, 16, 17, 18, 19, 20, 21, 22, 23, 24, 25, 26, 27, 28, 29, 30, 31, 32, 33, 34, 35, 36, 37, 38] (by decide +kernel) [] (by decide +kernel) fun Z1 hZ1 => ?_
  (try simp only [undef, Bool.not_true, Bool.not_false, aml, Nat.reduceBEq, xm, Nat.reduceAdd, Nat.reduceLeDiff, seval, reduceCtorEq])
  refine gTSL h (by rfl) (fun hg2 h => ?_) (fun _ h => by cases h)
  obtain ⟨hn4, h⟩ := need_some h
  (try simp only [hg2, isT hn4.1, isT hn4.2, getD_enc XToken.v XToken.z hn4, undef, Bool.not_true, Bool.not_false, aml, Nat.reduceBEq, xm, Nat.reduceAdd, Nat.reduceLeDiff, seval, reduceCtorEq])
  refine gTSL h (by rfl) (fun hg5 h => ?_) (fun _ h => by cases h)
  obtain ⟨hn7, h⟩ := need_some h
  (try simp only [hg2, isT hn4.1, isT hn4.2, getD_enc XToken.v XToken.z hn4, hg5, isT hn7.1, isT hn7.2, getD_enc XToken.v XToken.z hn7, undef, Bool.not_true, Bool.not_false, aml, Nat.reduceBEq, xm, Nat.reduceAdd, Nat.reduceLeDiff, seval, reduceCtorEq])
  obtain ⟨y8, hy8, h⟩ := call_some h
  refine (c112 (((m0.l.getD m0.at_.toNat XToken.z)).text) _ hy8 _).go ?_
  (try simp only [hg2, isT hn4.1, isT hn4.2, getD_enc XToken.v XToken.z hn4, hg5, isT hn7.1, isT hn7.2, getD_enc XToken.v XToken.z hn7, undef, Bool.not_true, Bool.not_false, aml, Nat.reduceBEq, xm, Nat.reduceAdd, Nat.reduceLeDiff, seval, reduceCtorEq])
  refine hZ1 _ ?_; clear hZ1 Z1
  refine AWp.ret ?_
  obtain rfl := Option.some.inj h
  exact rtq [.tmp 2]
def s253_1 (m0 : XReader) : Option (ByteArray × XReader) := (need (0 ≤ ((IntKind.i64.wrap (((IntKind.i64.wrap (m0.at_ + 1))) - 1))) ∧ ((IntKind.i64.wrap (((IntKind.i64.wrap (m0.at_ + 1))) - 1))) < ((m0.l.length : Nat) : Int)) (some ((((m0.l.getD ((IntKind.i64.wrap (((IntKind.i64.wrap (m0.at_ + 1))) - 1))).toNat XToken.z)).text, (XReader.mk m0.l ((IntKind.i64.wrap (m0.at_ + 1))) m0.params)))))
theorem c253_1 (m0 : XReader) (r : ByteArray × XReader) (h : s253_1 m0 = some r) : Gives1 Tryz.prog 253 (fun b0 => [.ptr b0 0]) (vstr r.1) ([.slice 3 (List.map XToken.v m0.l), vint m0.at_, vint m0.params], 118) ([.slice 3 (List.map XToken.v r.2.l), vint r.2.at_, vint r.2.params], 118) := by
  refine gives1_of fun s b0 => ?_
  unfold s253_1 at h
  refine acalls_of (fn := Tryz.f253) Tryz.func253 rfl (by decide) (by show 1 ≤ 22; decide) ?_
  rw [Tryz.ntmps253]
  refine AWp.post ?_
  refine rg ?_
  refine rgF ((@XReader.v_eq)) ?_
  refine hL (s' := (s.setBox b0 ([.slice 3 (List.map XToken.v m0.l), vint ((IntKind.i64.wrap (m0.at_ + 1))), vint m0.params], 118))) ?_
  obtain ⟨hn2, h⟩ := need_some h
  refine rgLF [0, 1, 2, 3, 4, 5, 6, 7, 8, 9, 10, 11, 12] [] ((And.intro ((@XReader.v_eq)) <| And.intro ((isT hn2.1)) <| And.intro ((isT hn2.2)) <| (getD_enc XToken.v XToken.z hn2))) ?_
  refine AWp.ret ?_
  obtain rfl := Option.some.inj h
  exact rtqF (@XReader.v_eq) [.tmp 2]
end Go.Proofs.YtopgndakadileaaGreatDoor.Ex
namespace Go.Proofs.YtopgndakadileaaGreatDoor.Ex
open Go.Am Go.Ex Go.Proofs.YtopgndakadileaaGreatDoor
def s355 (x0 : ByteArray) (x1 : Int) (x2 : Int) : Option (Int × Unit) := (way ((x0.data.toList == ((ByteArray.mk #[])).data.toList)) none (way ((decide ((2 : Int) ≤ x1))) (way ((decide (x1 ≤ 36))) (way ((x2 == 0)) none (way ((decide (x2 < 0))) none (way ((decide (x2 > 64))) none (way ((x1 == 10)) (need (0 ≤ ((IntKind.u64.wrap x2))) (need (x0.size ≤ maxLen) (loopC (fun (u21 : Bool × Int × Int → Option (Int × Unit)) (q20 : Bool × Int × Int) => (way ((decide (q20.2.2 < (((((bytesI x0)).length : Nat) : Int))))) (need (0 ≤ q20.2.2 ∧ q20.2.2 < ((((bytesI x0)).length : Nat) : Int)) (way ((((((bytesI x0)).getD q20.2.2.toNat 0)) == 95)) none (way ((decide ((48 : Int) ≤ ((((bytesI x0)).getD q20.2.2.toNat 0))))) (way ((decide (((((bytesI x0)).getD q20.2.2.toNat 0)) ≤ 57))) (way ((decide (((IntKind.u8.wrap (((((bytesI x0)).getD q20.2.2.toNat 0)) - 48))) ≥ ((IntKind.u8.wrap x1))))) none (way ((decide (q20.2.1 ≥ 1844674407370955162))) none (way ((decide (((IntKind.u64.wrap (((IntKind.u64.wrap (q20.2.1 * ((IntKind.u64.wrap x1))))) + ((IntKind.u64.wrap ((IntKind.u8.wrap (((((bytesI x0)).getD q20.2.2.toNat 0)) - 48)))))))) < ((IntKind.u64.wrap (q20.2.1 * ((IntKind.u64.wrap x1)))))))) none (way ((decide (((IntKind.u64.wrap (((IntKind.u64.wrap (q20.2.1 * ((IntKind.u64.wrap x1))))) + ((IntKind.u64.wrap ((IntKind.u8.wrap (((((bytesI x0)).getD q20.2.2.toNat 0)) - 48)))))))) > ((IntKind.u64.wrap (((shlI .u64 (1 : Int) ((IntKind.u64.wrap x2)))) - 1)))))) none (u21 (q20.1, (IntKind.u64.wrap (((IntKind.u64.wrap (q20.2.1 * ((IntKind.u64.wrap x1))))) + ((IntKind.u64.wrap ((IntKind.u8.wrap (((((bytesI x0)).getD q20.2.2.toNat 0)) - 48))))))), (IntKind.i64.wrap (q20.2.2 + 1)))))))) none) none))) (way q20.1 none (some ((q20.2.1, ())))))) manyC (false, 0, 0)))) none)))) none) none))
theorem c355 (x0 : ByteArray) (x1 : Int) (x2 : Int) (r : Int × Unit) (h : s355 x0 x1 x2 = some r) : Gives Tryz.prog 355 [vstr x0, vint x1, vint x2] (.tuple [.base (.int .u64 r.1), .base .nilIface]) := by
  intro s
  unfold s355 at h
  refine acalls_of (fn := Tryz.f355) Tryz.func355 rfl (by decide) (by show 3 ≤ 172; decide) ?_
  rw [Tryz.ntmps355]
  refine rg ?_
  refine AWp.seq_k fun K1 hK1 => ?_
  refine rg ?_
  refine wF h fun hc2 h => ?_
  refine AWp.skip ?_
  refine hK1 _ ?_; clear hK1
  refine rg ?_
  refine rg ?_
  refine AWp.seq_k fun K3 hK3 => ?_
  refine AWp.block ?_
  refine AWp.reg fun Z4 hZ4 => ?_
  (try simp only [undef, Bool.not_true, Bool.not_false, xm, Nat.reduceAdd, Nat.reduceLeDiff, seval, reduceCtorEq])
  refine gTS h (by rfl) (fun hg5 h => ?_) (fun _ h => by cases h)
  (try simp only [hg5, undef, Bool.not_true, Bool.not_false, xm, Nat.reduceAdd, Nat.reduceLeDiff, seval, reduceCtorEq])
  refine hZ4 _ ?_; clear hZ4 Z4
  refine wT h fun hc6 h => ?_
  refine AWp.skip ?_
  refine hK3 _ ?_; clear hK3
  refine AWp.seq_k fun K7 hK7 => ?_
  refine rg ?_
  refine wF h fun hc8 h => ?_
  refine AWp.reg fun Z9 hZ9 => ?_
  (try simp only [undef, Bool.not_true, Bool.not_false, xm, Nat.reduceAdd, Nat.reduceLeDiff, seval, reduceCtorEq])
  refine gFS h (by rfl) (fun _ h => by cases h) (fun hg10 h => ?_)
  (try simp only [hg10, undef, Bool.not_true, Bool.not_false, xm, Nat.reduceAdd, Nat.reduceLeDiff, seval, reduceCtorEq])
  refine hZ9 _ ?_; clear hZ9 Z9
  refine wF h fun hc11 h => ?_
  refine AWp.skip ?_
  refine hK7 _ ?_; clear hK7
  refine rg ?_
  refine AWp.seq_k fun K12 hK12 => ?_
  refine rg ?_
  refine AWp.block ?_
  refine rg ?_
  refine wT h fun hc13 h => ?_
  refine r1 ?_
  refine hK12 _ ?_; clear hK12
  obtain ⟨hn14, h⟩ := need_some h
  refine rgF ((isT hn14)) ?_
  refine rg ?_
  refine rg ?_
  refine AWp.seq_k fun K15 hK15 => ?_
  obtain ⟨hn16, h⟩ := need_some h
  refine rgF ((isT hn16)) ?_
  refine AWp.block ?_
  refine AWp.loopS (X := Bool × Int × Int) (G := Unit) h (fun _ => True) (fun q20 _ => tst [(1, vint x1), (8, vbool ((x1 == 0))), (9, vstr x0), (10, .base (.int .u64 1844674407370955162)), (11, .base (.int .u64 ((IntKind.u64.wrap (((shlI .u64 (1 : Int) ((IntKind.u64.wrap x2)))) - 1))))), (12, vbool q20.1), (13, .base (.int .u64 q20.2.1)), (99, .slice 1 (List.map (fun x => [V.base (.int .u8 x)]) ((bytesI x0)))), (100, vint (((((bytesI x0)).length : Nat) : Int))), (101, vint q20.2.2)] [] s 172) ?_ ?_
  · exact ⟨(), trivial, tleF ((And.intro hg5 <| hg10))⟩
  · rintro u21 ⟨v17, v18, v19⟩ h _ _
    (try dsimp only at h ⊢)
    refine rg ?_
    refine AWp.seq_k fun K22 hK22 => ?_
    refine ws h (fun hc23 h => ?_) fun hc23 h => ?_
    · refine AWp.skip ?_
      refine hK22 _ ?_; clear hK22
      refine AWp.seq_k fun K24 hK24 => ?_
      refine AWp.block ?_
      obtain ⟨hn26, h⟩ := need_some h
      refine rgF ((And.intro ((isT hn26.1)) <| And.intro ((isT hn26.2)) <| (getD_enc (fun x => [V.base (.int .u8 x)]) 0 hn26))) ?_
      refine rg ?_
      refine AWp.seq_k fun K27 hK27 => ?_
      refine AWp.block ?_
      refine AWp.reg fun Z28 hZ28 => ?_
      (try simp only [undef, Bool.not_true, Bool.not_false, xm, Nat.reduceAdd, Nat.reduceLeDiff, seval, reduceCtorEq])
      refine gTS h (by rfl) (fun _ h => by cases h) (fun hg29 h => ?_)
      (try simp only [hg29, undef, Bool.not_true, Bool.not_false, xm, Nat.reduceAdd, Nat.reduceLeDiff, seval, reduceCtorEq])
      refine hZ28 _ ?_; clear hZ28 Z28
      refine AWp.cond (t := false) (by rfl) (fun hf => by cases hf) (fun _ => ?_)
      refine AWp.reg fun Z30 hZ30 => ?_
      (try simp only [undef, Bool.not_true, Bool.not_false, xm, Nat.reduceAdd, Nat.reduceLeDiff, seval, reduceCtorEq])
      refine gTS h (by rfl) (fun hg31 h => ?_) (fun _ h => by cases h)
      (try simp only [hg31, undef, Bool.not_true, Bool.not_false, xm, Nat.reduceAdd, Nat.reduceLeDiff, seval, reduceCtorEq])
      refine hZ30 _ ?_; clear hZ30 Z30
      refine wT h fun hc32 h => ?_
      refine r1 ?_
      refine hK27 _ ?_; clear hK27
      refine AWp.seq_k fun K33 hK33 => ?_
      refine rg ?_
      refine wF h fun hc34 h => ?_
      refine AWp.skip ?_
      refine hK33 _ ?_; clear hK33
      refine AWp.seq_k fun K35 hK35 => ?_
      refine rg ?_
      refine wF h fun hc36 h => ?_
      refine AWp.skip ?_
      refine hK35 _ ?_; clear hK35
      refine rg ?_
      refine rg ?_
      refine AWp.seq_k fun K37 hK37 => ?_
      refine AWp.reg fun Z38 hZ38 => ?_
      (try simp only [undef, Bool.not_true, Bool.not_false, xm, Nat.reduceAdd, Nat.reduceLeDiff, seval, reduceCtorEq])
      refine gFS h (by rfl) (fun _ h => by cases h) (fun hg39 h => ?_)
      (try simp only [hg39, undef, Bool.not_true, Bool.not_false, xm, Nat.reduceAdd, Nat.reduceLeDiff, seval, reduceCtorEq])
      refine hZ38 _ ?_; clear hZ38 Z38
      refine wF h fun hc40 h => ?_
      refine AWp.skip ?_
      refine hK37 _ ?_; clear hK37
      refine r1 ?_
      refine hK24 _ ?_; clear hK24
      refine r1 ?_
      exact ⟨(v17, (IntKind.u64.wrap (((IntKind.u64.wrap (v18 * ((IntKind.u64.wrap x1))))) + ((IntKind.u64.wrap ((IntKind.u8.wrap (((((bytesI x0)).getD v19.toNat 0)) - 48))))))), (IntKind.i64.wrap (v19 + 1))), h, (), trivial, tleF ((And.intro hg29 <| And.intro hg31 <| hg39))⟩
    · refine AWp.exit ?_
      simp only [thenQ, blockQ, ↓reduceIte, Nat.reduceEqDiff, Nat.one_ne_zero, Nat.zero_ne_one, Nat.succ_ne_zero, reduceCtorEq]
      refine hK15 _ ?_; clear hK15
      refine AWp.seq_k fun K41 hK41 => ?_
      refine AWp.reg fun Z42 hZ42 => ?_
      (try simp only [undef, Bool.not_true, Bool.not_false, xm, Nat.reduceAdd, Nat.reduceLeDiff, seval, reduceCtorEq])
      refine gTS h (by rfl) (fun _ h => by cases h) (fun hg43 h => ?_)
      (try simp only [hg43, undef, Bool.not_true, Bool.not_false, xm, Nat.reduceAdd, Nat.reduceLeDiff, seval, reduceCtorEq])
      refine hZ42 _ ?_; clear hZ42 Z42
      refine AWp.cond (t := false) (by rfl) (fun hf => by cases hf) (fun _ => ?_)
      refine AWp.skip ?_
      refine hK41 _ ?_; clear hK41
      refine rg ?_
      refine AWp.ret ?_
      obtain rfl := Option.some.inj h
      exact rtn [.tmp 6, .tmp 7]
def s350 (x0 : ByteArray) (x1 : Int) (x2 : Int) : Option (Int × Unit) := (call (s355 x0 x1 x2) fun y1 => (some ((y1.1, ()))))
theorem c350 (x0 : ByteArray) (x1 : Int) (x2 : Int) (r : Int × Unit) (h : s350 x0 x1 x2 = some r) : Gives Tryz.prog 350 [vstr x0, vint x1, vint x2] (.tuple [.base (.int .u64 r.1), .base .nilIface]) := by
  intro s
  unfold s350 at h
  refine acalls_of (fn := Tryz.f350) Tryz.func350 rfl (by decide) (by show 3 ≤ 26; decide) ?_
  rw [Tryz.ntmps350]
  refine rg ?_
  obtain ⟨y1, hy1, h⟩ := call_some h
  refine rgC (c355 x0 x1 x2 _ hy1) ?_
  refine AWp.seq_k fun K2 hK2 => ?_
  refine rgF ((Tryz.underlying196)) ?_
  refine AWp.cond (t := false) (by rfl) (fun hf => by cases hf) (fun _ => ?_)
  refine AWp.skip ?_
  refine hK2 _ ?_; clear hK2
  refine rg ?_
  refine AWp.ret ?_
  obtain rfl := Option.some.inj h
  exact rtn [.tmp 6, .tmp 7]
def s351 (x0 : Int) : Option (XValue) := (some ((XValue.mk 1 x0 ByteArray.empty)))
theorem c351 (x0 : Int) (r : XValue) (h : s351 x0 = some r) : Gives Tryz.prog 351 [vint x0] (.agg r.v) := by
  intro s
  unfold s351 at h
  refine acalls_of (fn := Tryz.f351) Tryz.func351 rfl (by decide) (by show 1 ≤ 5; decide) ?_
  rw [Tryz.ntmps351]
  refine rgF ((@XValue.v_eq)) ?_
  refine rgF ((@XValue.v_eq)) ?_
  refine AWp.ret ?_
  obtain rfl := Option.some.inj h
  refine ret_go (vs := [.agg [vint 1, vint x0, vstr ByteArray.empty]]) (v := .agg ((XValue.mk 1 x0 ByteArray.empty)).v) (by show resV Tryz.prog _ [.cell 2 25] = _; simp only [resV, ty25, XValue.v_eq, am, seval, reduceCtorEq]) (Wk.agg (by rw [XValue.v_eq]; exact ⟨Wk.refl _, Wk.refl _, Wk.refl _, trivial⟩)) (Heap.le.refl _) ⟨?_, rfl⟩
  rfl
def s345_1 (m0 : XReader) : Option (XValue × Bool × XReader) := (call (s183_1 0 m0) fun y2 => (way ((y2.1.data.toList == ((ByteArray.mk #[78, 85, 76, 76])).data.toList)) none (way ((decide (y2.2.at_ ≥ (((y2.2.l.length : Nat) : Int))))) none (need (0 ≤ y2.2.at_ ∧ y2.2.at_ < ((y2.2.l.length : Nat) : Int)) (way (((((y2.2.l.getD y2.2.at_.toNat XToken.z)).kind) == 2)) (call (s350 (((y2.2.l.getD y2.2.at_.toNat XToken.z)).text) 10 63) fun y10 => (call (s351 ((IntKind.i64.wrap y10.1))) fun y11 => (some ((y11, true, y2.2))))) (way (((((y2.2.l.getD y2.2.at_.toNat XToken.z)).kind) == 3)) none (way (((((y2.2.l.getD y2.2.at_.toNat XToken.z)).kind) == 4)) none (some (((XValue.mk 0 0 ByteArray.empty), false, y2.2))))))))))
theorem c345_1 (m0 : XReader) (r : XValue × Bool × XReader) (h : s345_1 m0 = some r) : Gives1 Tryz.prog 345 (fun b0 => [.ptr b0 0]) (.tuple [.agg r.1.v, vbool r.2.1]) ([.slice 3 (List.map XToken.v m0.l), vint m0.at_, vint m0.params], 118) ([.slice 3 (List.map XToken.v r.2.2.l), vint r.2.2.at_, vint r.2.2.params], 118) := by
  refine gives1_of fun s b0 => ?_
  unfold s345_1 at h
  refine acalls_of (fn := Tryz.f345) Tryz.func345 rfl (by decide) (by show 1 ≤ 74; decide) ?_
  rw [Tryz.ntmps345]
  refine AWp.post ?_
  refine rgF ((@XValue.v_eq)) ?_
  refine AWp.seq_k fun K1 hK1 => ?_
  obtain ⟨y2, hy2, h⟩ := call_some h
  refine rgFC ((@XValue.v_eq)) (c183_1 0 m0 _ hy2) ?_
  refine hL (s' := (s.setBox b0 ([.slice 3 (List.map XToken.v y2.2.l), vint y2.2.at_, vint y2.2.params], 118))) ?_
  refine wF h fun hc3 h => ?_
  refine AWp.skip ?_
  refine hK1 _ ?_; clear hK1
  refine AWp.seq_k fun K4 hK4 => ?_
  refine rgLF [0, 1, 2, 3, 4, 5, 6, 7, 8, 9] [] ((@XValue.v_eq)) ?_
  refine wF h fun hc5 h => ?_
  refine AWp.skip ?_
  refine hK4 _ ?_; clear hK4
  obtain ⟨hn7, h⟩ := need_some h
  refine rgLF [0, 1, 2, 3, 4, 5, 6, 7, 8, 9, 10, 11] [4] ((And.intro ((@XValue.v_eq)) <| And.intro ((isT hn7.1)) <| And.intro ((isT hn7.2)) <| (getD_enc XToken.v XToken.z hn7))) ?_
  refine AWp.seq_k fun K8 hK8 => ?_
  refine rgF ((@XValue.v_eq)) ?_
  refine AWp.block ?_
  refine rgF ((@XValue.v_eq)) ?_
  refine ws h (fun hc9 h => ?_) fun hc9 h => ?_
  · obtain ⟨y10, hy10, h⟩ := call_some h
    refine rgFC ((@XValue.v_eq)) (c350 (((y2.2.l.getD y2.2.at_.toNat XToken.z)).text) 10 63 _ hy10) ?_
    obtain ⟨y11, hy11, h⟩ := call_some h
    refine rgLFC [0, 1, 3, 4, 2, 5, 6] [2] ((And.intro ((@XValue.v_eq)) <| (Tryz.underlying196))) (c351 ((IntKind.i64.wrap y10.1)) _ hy11) ?_
    refine AWp.ret ?_
    refine ⟨_, St.to.refl _, ?_⟩
    obtain rfl := Option.some.inj h
    refine ret_go (vs := [.agg [vint y11.kind, vint y11.int, vstr y11.text], vbool true]) (v := .tuple [.agg y11.v, vbool true]) (by show resV Tryz.prog _ [.cell 2 25, .tmp 3] = _; simp only [resV, ty25, XValue.v_eq, XReader.vs, XToken.vs, am, seval, reduceCtorEq]) (Wk.tuple ⟨Wk.agg (by rw [XValue.v_eq]; exact ⟨Wk.refl _, Wk.refl _, Wk.refl _, trivial⟩), Wk.refl _, trivial⟩) (Heap.le.refl _) ⟨?_, rfl⟩
    rfl
  · refine rgF ((@XValue.v_eq)) ?_
    refine wF h fun hc12 h => ?_
    refine rgF ((@XValue.v_eq)) ?_
    refine wF h fun hc13 h => ?_
    refine AWp.skip ?_
    refine hK8 _ ?_; clear hK8
    refine rgF ((@XValue.v_eq)) ?_
    refine AWp.ret ?_
    refine ⟨_, St.to.refl _, ?_⟩
    obtain rfl := Option.some.inj h
    refine ret_go (vs := [.agg [vint 0, vint 0, vstr ByteArray.empty], vbool false]) (v := .tuple [.agg ((XValue.mk 0 0 ByteArray.empty)).v, vbool false]) (by show resV Tryz.prog _ [.cell 2 25, .tmp 3] = _; simp only [resV, ty25, XValue.v_eq, XReader.vs, XToken.vs, am, seval, reduceCtorEq]) (Wk.tuple ⟨Wk.agg (by rw [XValue.v_eq]; exact ⟨Wk.refl _, Wk.refl _, Wk.refl _, trivial⟩), Wk.refl _, trivial⟩) (Heap.le.refl _) ⟨?_, rfl⟩
    rfl
def s342_1 (m0 : XReader) : Option (PX (Int × XReader) (XExpr × XReader)) := (call (s345_1 m0) fun y2 => (way y2.2.1 (some (PX.ok (((XExpr.mk 1 false ByteArray.empty ByteArray.empty 0 y2.1 (([] : List XExpr)) (([] : List XSelect))), (XReader.mk y2.2.2.l ((IntKind.i64.wrap (y2.2.2.at_ + 1))) y2.2.2.params))))) (call (s183_1 0 y2.2.2) fun y5 => (way ((y5.1.data.toList == ((ByteArray.mk #[69, 88, 73, 83, 84, 83])).data.toList)) none (way ((y5.1.data.toList == ((ByteArray.mk #[67, 65, 83, 69])).data.toList)) none (way ((y5.1.data.toList == ((ByteArray.mk #[67, 65, 83, 84])).data.toList)) none (way ((y5.1.data.toList == ((ByteArray.mk #[82, 69, 80, 76, 65, 67, 69])).data.toList)) none (call (s252_1 y5.2) fun y11 => (way y11.1 (call (s253_1 y11.2) fun y13 => (call (s251_1 ([(ByteArray.mk #[40])]) y13.2) fun y15 => (way y15.1 none (call (s189_1 ((ByteArray.mk #[46])) y15.2) fun y18 => (way y18.1 none (some (PX.ok (((XExpr.mk 2 false ByteArray.empty y13.1 0 ((XValue.mk 0 0 ByteArray.empty)) (([] : List XExpr)) (([] : List XSelect))), y18.2))))))))) none)))))))))
theorem c342_1 (m0 : XReader) (r : PX (Int × XReader) (XExpr × XReader)) (h : s342_1 m0 = some r) : GivesP1 Tryz.prog 342 (fun b0 => [.ptr b0 0]) (wrongV 177) r (fun y => .agg y.1.v) ([.slice 3 (List.map XToken.v m0.l), vint m0.at_, vint m0.params], 118) (fun q => ([.slice 3 (List.map XToken.v q.2.l), vint q.2.at_, vint q.2.params], 118)) (fun y => ([.slice 3 (List.map XToken.v y.2.l), vint y.2.at_, vint y.2.params], 118)) := by
  refine givesP1_of fun s b0 pp hpp => ?_
  unfold s342_1 at h
  refine acallsP_of (fn := Tryz.f342) Tryz.func342 rfl (by decide) (by show 1 ≤ 138; decide) ?_
  rw [Tryz.ntmps342]
  refine AWp.post ?_
  refine rgF ((And.intro ((@XValue.v_eq)) <| (@XExpr.v_eq))) ?_
  refine AWp.seq_k fun K1 hK1 => ?_
  obtain ⟨y2, hy2, h⟩ := call_some h
  refine rgFC ((And.intro ((@XValue.v_eq)) <| (@XExpr.v_eq))) (c345_1 m0 _ hy2) ?_
  refine hL (s' := (s.setBox b0 ([.slice 3 (List.map XToken.v y2.2.2.l), vint y2.2.2.at_, vint y2.2.2.params], 118))) ?_
  refine rgF ((And.intro ((@XValue.v_eq)) <| (@XExpr.v_eq))) ?_
  refine ws h (fun hc3 h => ?_) fun hc3 h => ?_
  · refine rgF ((And.intro ((@XValue.v_eq)) <| And.intro ((@XExpr.v_eq)) <| (@XReader.v_eq))) ?_
    refine hL (s' := (s.setBox b0 ([.slice 3 (List.map XToken.v y2.2.2.l), vint ((IntKind.i64.wrap (y2.2.2.at_ + 1))), vint y2.2.2.params], 118))) ?_
    refine rgF ((And.intro ((@XValue.v_eq)) <| And.intro ((@XExpr.v_eq)) <| (@XReader.v_eq))) ?_
    refine AWp.ret ?_
    refine ⟨_, St.to.refl _, ?_⟩
    obtain rfl := Option.some.inj h
    refine ret_go (vs := [.agg [vint 1, vbool false, vstr ByteArray.empty, vstr ByteArray.empty, vint 0, vint y2.1.kind, vint y2.1.int, vstr y2.1.text, .nil, .nil]]) (v := .agg ((XExpr.mk 1 false ByteArray.empty ByteArray.empty 0 y2.1 (([] : List XExpr)) (([] : List XSelect)))).v) (by show resV Tryz.prog _ [.cell 2 29] = _; simp only [resV, ty29, XValue.v_eq, XExpr.v_eq, XReader.v_eq, am, seval, reduceCtorEq]) (Wk.agg (by rw [XExpr.v_eq]; exact ⟨Wk.refl _, Wk.refl _, Wk.refl _, Wk.refl _, Wk.refl _, Wk.refl _, Wk.refl _, Wk.refl _, Wk.nil _, Wk.nil _, trivial⟩)) (Heap.le.refl _) ⟨_, rfl, ?_, rfl⟩
    rfl
  · refine AWp.skip ?_
    refine hK1 _ ?_; clear hK1
    refine AWp.seq_k fun K4 hK4 => ?_
    obtain ⟨y5, hy5, h⟩ := call_some h
    refine rgFC ((And.intro ((@XValue.v_eq)) <| And.intro ((@XExpr.v_eq)) <| (@XReader.v_eq))) (c183_1 0 y2.2.2 _ hy5) ?_
    refine hL (s' := (s.setBox b0 ([.slice 3 (List.map XToken.v y5.2.l), vint y5.2.at_, vint y5.2.params], 118))) ?_
    refine AWp.block ?_
    refine rgF ((And.intro ((@XValue.v_eq)) <| And.intro ((@XExpr.v_eq)) <| (@XReader.v_eq))) ?_
    refine wF h fun hc6 h => ?_
    refine rgF ((And.intro ((@XValue.v_eq)) <| And.intro ((@XExpr.v_eq)) <| (@XReader.v_eq))) ?_
    refine wF h fun hc7 h => ?_
    refine rgF ((And.intro ((@XValue.v_eq)) <| And.intro ((@XExpr.v_eq)) <| (@XReader.v_eq))) ?_
    refine wF h fun hc8 h => ?_
    refine rgF ((And.intro ((@XValue.v_eq)) <| And.intro ((@XExpr.v_eq)) <| (@XReader.v_eq))) ?_
    refine wF h fun hc9 h => ?_
    refine AWp.skip ?_
    refine hK4 _ ?_; clear hK4
    refine AWp.seq_k fun K10 hK10 => ?_
    refine AWp.block ?_
    obtain ⟨y11, hy11, h⟩ := call_some h
    refine rgFC ((And.intro ((@XValue.v_eq)) <| And.intro ((@XExpr.v_eq)) <| (@XReader.v_eq))) (c252_1 y5.2 _ hy11) ?_
    refine hL (s' := (s.setBox b0 ([.slice 3 (List.map XToken.v y11.2.l), vint y11.2.at_, vint y11.2.params], 118))) ?_
    refine wT h fun hc12 h => ?_
    obtain ⟨y13, hy13, h⟩ := call_some h
    refine rgFC ((And.intro ((@XValue.v_eq)) <| And.intro ((@XExpr.v_eq)) <| (@XReader.v_eq))) (c253_1 y11.2 _ hy13) ?_
    refine hL (s' := (s.setBox b0 ([.slice 3 (List.map XToken.v y13.2.l), vint y13.2.at_, vint y13.2.params], 118))) ?_
    refine AWp.seq_k fun K14 hK14 => ?_
    obtain ⟨y15, hy15, h⟩ := call_some h
    refine rgFC ((And.intro ((@XValue.v_eq)) <| And.intro ((@XExpr.v_eq)) <| (@XReader.v_eq))) (c251_1 ([(ByteArray.mk #[40])]) y13.2 _ hy15) ?_
    refine hL (s' := (s.setBox b0 ([.slice 3 (List.map XToken.v y15.2.l), vint y15.2.at_, vint y15.2.params], 118))) ?_
    refine wF h fun hc16 h => ?_
    refine AWp.skip ?_
    refine hK14 _ ?_; clear hK14
    refine AWp.seq_k fun K17 hK17 => ?_
    obtain ⟨y18, hy18, h⟩ := call_some h
    refine rgFC ((And.intro ((@XValue.v_eq)) <| And.intro ((@XExpr.v_eq)) <| (@XReader.v_eq))) (c189_1 ((ByteArray.mk #[46])) y15.2 _ hy18) ?_
    refine hL (s' := (s.setBox b0 ([.slice 3 (List.map XToken.v y18.2.l), vint y18.2.at_, vint y18.2.params], 118))) ?_
    refine wF h fun hc19 h => ?_
    refine AWp.skip ?_
    refine hK17 _ ?_; clear hK17
    refine rgF ((And.intro ((@XValue.v_eq)) <| And.intro ((@XExpr.v_eq)) <| (@XReader.v_eq))) ?_
    refine AWp.ret ?_
    refine ⟨_, St.to.refl _, ?_⟩
    obtain rfl := Option.some.inj h
    refine ret_go (vs := [.agg [vint 2, vbool false, vstr ByteArray.empty, vstr y13.1, vint 0, vint 0, vint 0, vstr ByteArray.empty, .nil, .nil]]) (v := .agg ((XExpr.mk 2 false ByteArray.empty y13.1 0 ((XValue.mk 0 0 ByteArray.empty)) (([] : List XExpr)) (([] : List XSelect)))).v) (by show resV Tryz.prog _ [.cell 2 29] = _; simp only [resV, ty29, XValue.v_eq, XExpr.v_eq, XReader.v_eq, am, seval, reduceCtorEq]) (Wk.agg (by rw [XExpr.v_eq]; exact ⟨Wk.refl _, Wk.refl _, Wk.refl _, Wk.refl _, Wk.refl _, Wk.refl _, Wk.refl _, Wk.refl _, Wk.nil _, Wk.nil _, trivial⟩)) (Heap.le.refl _) ⟨_, rfl, ?_, rfl⟩
    rfl
def s339_1 (m0 : XReader) : Option (PX (Int × XReader) (XExpr × XReader)) := (call (s189_1 ((ByteArray.mk #[45])) m0) fun y2 => (way y2.1 none (call (s189_1 ((ByteArray.mk #[43])) y2.2) fun y4 => (way y4.1 none (callP (s342_1 y4.2) (fun q7 => (q7.1, q7.2)) fun y6 => (loopC (fun (u12 : XExpr × XReader → Option (PX (Int × XReader) (XExpr × XReader))) (q11 : XExpr × XReader) => (call (s119_1 ((ByteArray.mk #[67, 79, 76, 76, 65, 84, 69])) q11.2) fun y14 => (way y14.1 none (some (PX.ok ((q11.1, y14.2))))))) manyC (y6.1, y6.2)))))))
theorem c339_1 (m0 : XReader) (r : PX (Int × XReader) (XExpr × XReader)) (h : s339_1 m0 = some r) : GivesP1 Tryz.prog 339 (fun b0 => [.ptr b0 0]) (wrongV 177) r (fun y => .agg y.1.v) ([.slice 3 (List.map XToken.v m0.l), vint m0.at_, vint m0.params], 118) (fun q => ([.slice 3 (List.map XToken.v q.2.l), vint q.2.at_, vint q.2.params], 118)) (fun y => ([.slice 3 (List.map XToken.v y.2.l), vint y.2.at_, vint y.2.params], 118)) := by
  refine givesP1_of fun s b0 pp hpp => ?_
  unfold s339_1 at h
  refine acallsP_of (fn := Tryz.f339) Tryz.func339 rfl (by decide) (by show 1 ≤ 29; decide) ?_
  rw [Tryz.ntmps339]
  refine AWp.post ?_
  refine rgF ((And.intro ((@XValue.v_eq)) <| (@XExpr.v_eq))) ?_
  refine AWp.seq_k fun K1 hK1 => ?_
  refine AWp.block ?_
  obtain ⟨y2, hy2, h⟩ := call_some h
  refine rgFC ((And.intro ((@XValue.v_eq)) <| (@XExpr.v_eq))) (c189_1 ((ByteArray.mk #[45])) m0 _ hy2) ?_
  refine hL (s' := (s.setBox b0 ([.slice 3 (List.map XToken.v y2.2.l), vint y2.2.at_, vint y2.2.params], 118))) ?_
  refine wF h fun hc3 h => ?_
  obtain ⟨y4, hy4, h⟩ := call_some h
  refine rgFC ((And.intro ((@XValue.v_eq)) <| (@XExpr.v_eq))) (c189_1 ((ByteArray.mk #[43])) y2.2 _ hy4) ?_
  refine hL (s' := (s.setBox b0 ([.slice 3 (List.map XToken.v y4.2.l), vint y4.2.at_, vint y4.2.params], 118))) ?_
  refine wF h fun hc5 h => ?_
  refine AWp.skip ?_
  refine hK1 _ ?_; clear hK1
  refine rgFP ((And.intro ((@XValue.v_eq)) <| (@XExpr.v_eq))) hpp (c342_1 y4.2) h fun y6 hy6 h => ?_
  refine hL (s' := (s.setBox b0 ([.slice 3 (List.map XToken.v y6.2.l), vint y6.2.at_, vint y6.2.params], 118))) ?_
  refine AWp.seq_k fun K8 hK8 => ?_
  refine AWp.block ?_
  refine AWp.loopS (X := XExpr × XReader) (G := Unit) h (fun _ => True) (fun q11 _ => tstP pp [(0, .ptr b0 0), (2, .loc 2 0), (3, .loc 3 0)] [(2, ([vint 0, vbool false, vstr ByteArray.empty, vstr ByteArray.empty, vint 0, vint 0, vint 0, vstr ByteArray.empty, .nil, .nil], 29)), (3, ([vint q11.1.op, vbool q11.1.not, vstr q11.1.table, vstr q11.1.name, vint q11.1.n, vint q11.1.v_.kind, vint q11.1.v_.int, vstr q11.1.v_.text, .slice 10 (List.map XExpr.v q11.1.args), .slice 5 (List.map XSelect.v q11.1.sub)], 29))] (s.setBox b0 ([.slice 3 (List.map XToken.v q11.2.l), vint q11.2.at_, vint q11.2.params], 118)) 29) ?_ ?_
  · exact ⟨(), trivial, tlePF ((And.intro (@XValue.v_eq) <| @XExpr.v_eq))⟩
  · rintro u12 ⟨b9, w10⟩ h _ _
    (try dsimp only at h ⊢)
    refine AWp.seq_k fun K13 hK13 => ?_
    obtain ⟨y14, hy14, h⟩ := call_some h
    refine rgFC ((And.intro ((@XValue.v_eq)) <| (@XExpr.v_eq))) (c119_1 ((ByteArray.mk #[67, 79, 76, 76, 65, 84, 69])) w10 _ hy14) ?_
    refine hL (s' := (s.setBox b0 ([.slice 3 (List.map XToken.v y14.2.l), vint y14.2.at_, vint y14.2.params], 118))) ?_
    refine wF h fun hc15 h => ?_
    refine AWp.exit ?_
    simp only [thenQ, blockQ, ↓reduceIte, Nat.reduceEqDiff, Nat.one_ne_zero, Nat.zero_ne_one, Nat.succ_ne_zero, reduceCtorEq]
    refine hK8 _ ?_; clear hK8
    refine rgF ((And.intro ((@XValue.v_eq)) <| (@XExpr.v_eq))) ?_
    refine AWp.ret ?_
    refine ⟨_, St.to.refl _, ?_⟩
    obtain rfl := Option.some.inj h
    refine ret_go (vs := [.agg [vint b9.op, vbool b9.not, vstr b9.table, vstr b9.name, vint b9.n, vint b9.v_.kind, vint b9.v_.int, vstr b9.v_.text, .slice 10 (List.map XExpr.v b9.args), .slice 5 (List.map XSelect.v b9.sub)]]) (v := .agg b9.v) (by show resV Tryz.prog _ [.cell 2 29] = _; simp only [resV, ty29, XValue.v_eq, XExpr.v_eq, am, seval, reduceCtorEq]) (Wk.agg (by rw [XExpr.v_eq]; exact ⟨Wk.refl _, Wk.refl _, Wk.refl _, Wk.refl _, Wk.refl _, Wk.refl _, Wk.refl _, Wk.refl _, Wk.refl _, Wk.refl _, trivial⟩)) (Heap.le.refl _) ⟨_, rfl, ?_, rfl⟩
    rfl
def s73_6 (x1 : ByteArray) (m0 : XReader) : Option (PX (Int × XReader) (XExpr × XReader)) := (callP (s339_1 m0) (fun q2 => (q2.1, q2.2)) fun y1 => (loopC (fun (u7 : XExpr × XExpr × XReader → Option (PX (Int × XReader) (XExpr × XReader))) (q6 : XExpr × XExpr × XReader) => (call (s139_1 x1 q6.2.2) fun y8 => (way ((y8.2.1 == 0)) (some (PX.ok ((q6.2.1, y8.2.2)))) none))) manyC ((XExpr.mk 0 false ByteArray.empty ByteArray.empty 0 ((XValue.mk 0 0 ByteArray.empty)) (([] : List XExpr)) (([] : List XSelect))), y1.1, y1.2)))
theorem c73_6 (x1 : ByteArray) (m0 : XReader) (r : PX (Int × XReader) (XExpr × XReader)) (h : s73_6 x1 m0 = some r) : GivesP1 Tryz.prog 73 (fun b0 => [.ptr b0 0, vstr x1, .func 339 [.ptr b0 0] []]) (wrongV 177) r (fun y => .agg y.1.v) ([.slice 3 (List.map XToken.v m0.l), vint m0.at_, vint m0.params], 118) (fun q => ([.slice 3 (List.map XToken.v q.2.l), vint q.2.at_, vint q.2.params], 118)) (fun y => ([.slice 3 (List.map XToken.v y.2.l), vint y.2.at_, vint y.2.params], 118)) := by
  refine givesP1_of fun s b0 pp hpp => ?_
  unfold s73_6 at h
  refine acallsP_of (fn := Tryz.f73) Tryz.func73 rfl (by decide) (by show 3 ≤ 35; decide) ?_
  rw [Tryz.ntmps73]
  refine AWp.post ?_
  refine rgF ((And.intro ((@XValue.v_eq)) <| (@XExpr.v_eq))) ?_
  refine rgFP ((And.intro ((@XValue.v_eq)) <| (@XExpr.v_eq))) hpp (c339_1 m0) h fun y1 hy1 h => ?_
  refine hL (s' := (s.setBox b0 ([.slice 3 (List.map XToken.v y1.2.l), vint y1.2.at_, vint y1.2.params], 118))) ?_
  refine AWp.block ?_
  refine AWp.loopS (X := XExpr × XExpr × XReader) (G := Unit) h (fun _ => True) (fun q6 _ => tstP pp [(0, .ptr b0 0), (1, vstr x1), (2, .func 339 [.ptr b0 0] []), (6, .loc 6 0), (7, .loc 7 0)] [(6, ([vint q6.1.op, vbool q6.1.not, vstr q6.1.table, vstr q6.1.name, vint q6.1.n, vint q6.1.v_.kind, vint q6.1.v_.int, vstr q6.1.v_.text, .slice 10 (List.map XExpr.v q6.1.args), .slice 5 (List.map XSelect.v q6.1.sub)], 29)), (7, ([vint q6.2.1.op, vbool q6.2.1.not, vstr q6.2.1.table, vstr q6.2.1.name, vint q6.2.1.n, vint q6.2.1.v_.kind, vint q6.2.1.v_.int, vstr q6.2.1.v_.text, .slice 10 (List.map XExpr.v q6.2.1.args), .slice 5 (List.map XSelect.v q6.2.1.sub)], 29))] (s.setBox b0 ([.slice 3 (List.map XToken.v q6.2.2.l), vint q6.2.2.at_, vint q6.2.2.params], 118)) 35) ?_ ?_
  · refine ⟨(), trivial, ?_⟩
    refine St.to.wkB 6 [vint 0, vbool false, vstr ByteArray.empty, vstr ByteArray.empty, vint 0, vint 0, vint 0, vstr ByteArray.empty, .slice 10 (List.map XExpr.v ((([] : List XExpr)))), .slice 5 (List.map XSelect.v ((([] : List XSelect))))] (cs := [vint 0, vbool false, vstr ByteArray.empty, vstr ByteArray.empty, vint 0, vint 0, vint 0, vstr ByteArray.empty, .nil, .nil]) (ty := 29) (by first | rfl | (show some _ = some _; simp only [List.map_cons, List.map_nil, XExpr.v_eq]) | (show some _ = some _; simp only [List.nil_append, List.cons_append, List.map_append, List.map_cons, List.map_nil, XExpr.v_eq])) (⟨Wk.refl _, Wk.refl _, Wk.refl _, Wk.refl _, Wk.refl _, Wk.refl _, Wk.refl _, Wk.refl _, Wk.nil _, Wk.nil _, trivial⟩) ?_
    exact tlePF ((And.intro (@XValue.v_eq) <| @XExpr.v_eq))
  · rintro u7 ⟨b3, b4, w5⟩ h _ _
    (try dsimp only at h ⊢)
    refine AWp.block ?_
    obtain ⟨y8, hy8, h⟩ := call_some h
    refine rgFC ((And.intro ((@XValue.v_eq)) <| (@XExpr.v_eq))) (c139_1 x1 w5 _ hy8) ?_
    refine hL (s' := (s.setBox b0 ([.slice 3 (List.map XToken.v y8.2.2.l), vint y8.2.2.at_, vint y8.2.2.params], 118))) ?_
    refine AWp.seq_k fun K9 hK9 => ?_
    refine rgF ((And.intro ((@XValue.v_eq)) <| (@XExpr.v_eq))) ?_
    refine wT h fun hc10 h => ?_
    refine rgF ((And.intro ((@XValue.v_eq)) <| (@XExpr.v_eq))) ?_
    refine AWp.ret ?_
    refine ⟨_, St.to.refl _, ?_⟩
    obtain rfl := Option.some.inj h
    refine ret_go (vs := [.agg [vint b4.op, vbool b4.not, vstr b4.table, vstr b4.name, vint b4.n, vint b4.v_.kind, vint b4.v_.int, vstr b4.v_.text, .slice 10 (List.map XExpr.v b4.args), .slice 5 (List.map XSelect.v b4.sub)]]) (v := .agg b4.v) (by show resV Tryz.prog _ [.cell 6 29] = _; simp only [resV, ty29, XValue.v_eq, XExpr.v_eq, am, seval, reduceCtorEq]) (Wk.agg (by rw [XExpr.v_eq]; exact ⟨Wk.refl _, Wk.refl _, Wk.refl _, Wk.refl _, Wk.refl _, Wk.refl _, Wk.refl _, Wk.refl _, Wk.refl _, Wk.refl _, trivial⟩)) (Heap.le.refl _) ⟨_, rfl, ?_, rfl⟩
    rfl
def s332_1 (m0 : XReader) : Option (PX (Int × XReader) (XExpr × XReader)) := (callP (s73_6 ((ByteArray.mk #[99, 104, 97, 105, 110])) m0) (fun q2 => (q2.1, q2.2)) fun y1 => (some (PX.ok ((y1.1, y1.2)))))
theorem c332_1 (m0 : XReader) (r : PX (Int × XReader) (XExpr × XReader)) (h : s332_1 m0 = some r) : GivesP1 Tryz.prog 332 (fun b0 => [.ptr b0 0]) (wrongV 177) r (fun y => .agg y.1.v) ([.slice 3 (List.map XToken.v m0.l), vint m0.at_, vint m0.params], 118) (fun q => ([.slice 3 (List.map XToken.v q.2.l), vint q.2.at_, vint q.2.params], 118)) (fun y => ([.slice 3 (List.map XToken.v y.2.l), vint y.2.at_, vint y.2.params], 118)) := by
  refine givesP1_of fun s b0 pp hpp => ?_
  unfold s332_1 at h
  refine acallsP_of (fn := Tryz.f332) Tryz.func332 rfl (by decide) (by show 1 ≤ 7; decide) ?_
  rw [Tryz.ntmps332]
  refine AWp.post ?_
  refine rg ?_
  refine rgP hpp (c73_6 ((ByteArray.mk #[99, 104, 97, 105, 110])) m0) h fun y1 hy1 h => ?_
  refine hL (s' := (s.setBox b0 ([.slice 3 (List.map XToken.v y1.2.l), vint y1.2.at_, vint y1.2.params], 118))) ?_
  refine AWp.ret ?_
  obtain rfl := Option.some.inj h
  exact rtP [.cell 2 29]
def s73_5 (x1 : ByteArray) (m0 : XReader) : Option (PX (Int × XReader) (XExpr × XReader)) := (callP (s332_1 m0) (fun q2 => (q2.1, q2.2)) fun y1 => (loopC (fun (u7 : XExpr × XExpr × XReader → Option (PX (Int × XReader) (XExpr × XReader))) (q6 : XExpr × XExpr × XReader) => (call (s139_1 x1 q6.2.2) fun y8 => (way ((y8.2.1 == 0)) (some (PX.ok ((q6.2.1, y8.2.2)))) none))) manyC ((XExpr.mk 0 false ByteArray.empty ByteArray.empty 0 ((XValue.mk 0 0 ByteArray.empty)) (([] : List XExpr)) (([] : List XSelect))), y1.1, y1.2)))
theorem c73_5 (x1 : ByteArray) (m0 : XReader) (r : PX (Int × XReader) (XExpr × XReader)) (h : s73_5 x1 m0 = some r) : GivesP1 Tryz.prog 73 (fun b0 => [.ptr b0 0, vstr x1, .func 332 [.ptr b0 0] []]) (wrongV 177) r (fun y => .agg y.1.v) ([.slice 3 (List.map XToken.v m0.l), vint m0.at_, vint m0.params], 118) (fun q => ([.slice 3 (List.map XToken.v q.2.l), vint q.2.at_, vint q.2.params], 118)) (fun y => ([.slice 3 (List.map XToken.v y.2.l), vint y.2.at_, vint y.2.params], 118)) := by
  refine givesP1_of fun s b0 pp hpp => ?_
  unfold s73_5 at h
  refine acallsP_of (fn := Tryz.f73) Tryz.func73 rfl (by decide) (by show 3 ≤ 35; decide) ?_
  rw [Tryz.ntmps73]
  refine AWp.post ?_
  refine rgF ((And.intro ((@XValue.v_eq)) <| (@XExpr.v_eq))) ?_
  refine rgFP ((And.intro ((@XValue.v_eq)) <| (@XExpr.v_eq))) hpp (c332_1 m0) h fun y1 hy1 h => ?_
  refine hL (s' := (s.setBox b0 ([.slice 3 (List.map XToken.v y1.2.l), vint y1.2.at_, vint y1.2.params], 118))) ?_
  refine AWp.block ?_
  refine AWp.loopS (X := XExpr × XExpr × XReader) (G := Unit) h (fun _ => True) (fun q6 _ => tstP pp [(0, .ptr b0 0), (1, vstr x1), (2, .func 332 [.ptr b0 0] []), (6, .loc 6 0), (7, .loc 7 0)] [(6, ([vint q6.1.op, vbool q6.1.not, vstr q6.1.table, vstr q6.1.name, vint q6.1.n, vint q6.1.v_.kind, vint q6.1.v_.int, vstr q6.1.v_.text, .slice 10 (List.map XExpr.v q6.1.args), .slice 5 (List.map XSelect.v q6.1.sub)], 29)), (7, ([vint q6.2.1.op, vbool q6.2.1.not, vstr q6.2.1.table, vstr q6.2.1.name, vint q6.2.1.n, vint q6.2.1.v_.kind, vint q6.2.1.v_.int, vstr q6.2.1.v_.text, .slice 10 (List.map XExpr.v q6.2.1.args), .slice 5 (List.map XSelect.v q6.2.1.sub)], 29))] (s.setBox b0 ([.slice 3 (List.map XToken.v q6.2.2.l), vint q6.2.2.at_, vint q6.2.2.params], 118)) 35) ?_ ?_
  · refine ⟨(), trivial, ?_⟩
    refine St.to.wkB 6 [vint 0, vbool false, vstr ByteArray.empty, vstr ByteArray.empty, vint 0, vint 0, vint 0, vstr ByteArray.empty, .slice 10 (List.map XExpr.v ((([] : List XExpr)))), .slice 5 (List.map XSelect.v ((([] : List XSelect))))] (cs := [vint 0, vbool false, vstr ByteArray.empty, vstr ByteArray.empty, vint 0, vint 0, vint 0, vstr ByteArray.empty, .nil, .nil]) (ty := 29) (by first | rfl | (show some _ = some _; simp only [List.map_cons, List.map_nil, XExpr.v_eq]) | (show some _ = some _; simp only [List.nil_append, List.cons_append, List.map_append, List.map_cons, List.map_nil, XExpr.v_eq])) (⟨Wk.refl _, Wk.refl _, Wk.refl _, Wk.refl _, Wk.refl _, Wk.refl _, Wk.refl _, Wk.refl _, Wk.nil _, Wk.nil _, trivial⟩) ?_
    exact tlePF ((And.intro (@XValue.v_eq) <| @XExpr.v_eq))
  · rintro u7 ⟨b3, b4, w5⟩ h _ _
    (try dsimp only at h ⊢)
    refine AWp.block ?_
    obtain ⟨y8, hy8, h⟩ := call_some h
    refine rgFC ((And.intro ((@XValue.v_eq)) <| (@XExpr.v_eq))) (c139_1 x1 w5 _ hy8) ?_
    refine hL (s' := (s.setBox b0 ([.slice 3 (List.map XToken.v y8.2.2.l), vint y8.2.2.at_, vint y8.2.2.params], 118))) ?_
    refine AWp.seq_k fun K9 hK9 => ?_
    refine rgF ((And.intro ((@XValue.v_eq)) <| (@XExpr.v_eq))) ?_
    refine wT h fun hc10 h => ?_
    refine rgF ((And.intro ((@XValue.v_eq)) <| (@XExpr.v_eq))) ?_
    refine AWp.ret ?_
    refine ⟨_, St.to.refl _, ?_⟩
    obtain rfl := Option.some.inj h
    refine ret_go (vs := [.agg [vint b4.op, vbool b4.not, vstr b4.table, vstr b4.name, vint b4.n, vint b4.v_.kind, vint b4.v_.int, vstr b4.v_.text, .slice 10 (List.map XExpr.v b4.args), .slice 5 (List.map XSelect.v b4.sub)]]) (v := .agg b4.v) (by show resV Tryz.prog _ [.cell 6 29] = _; simp only [resV, ty29, XValue.v_eq, XExpr.v_eq, am, seval, reduceCtorEq]) (Wk.agg (by rw [XExpr.v_eq]; exact ⟨Wk.refl _, Wk.refl _, Wk.refl _, Wk.refl _, Wk.refl _, Wk.refl _, Wk.refl _, Wk.refl _, Wk.refl _, Wk.refl _, trivial⟩)) (Heap.le.refl _) ⟨_, rfl, ?_, rfl⟩
    rfl
def s320_1 (m0 : XReader) : Option (PX (Int × XReader) (XExpr × XReader)) := (callP (s73_5 ((ByteArray.mk #[116, 105, 109, 101, 115])) m0) (fun q2 => (q2.1, q2.2)) fun y1 => (some (PX.ok ((y1.1, y1.2)))))
theorem c320_1 (m0 : XReader) (r : PX (Int × XReader) (XExpr × XReader)) (h : s320_1 m0 = some r) : GivesP1 Tryz.prog 320 (fun b0 => [.ptr b0 0]) (wrongV 177) r (fun y => .agg y.1.v) ([.slice 3 (List.map XToken.v m0.l), vint m0.at_, vint m0.params], 118) (fun q => ([.slice 3 (List.map XToken.v q.2.l), vint q.2.at_, vint q.2.params], 118)) (fun y => ([.slice 3 (List.map XToken.v y.2.l), vint y.2.at_, vint y.2.params], 118)) := by
  refine givesP1_of fun s b0 pp hpp => ?_
  unfold s320_1 at h
  refine acallsP_of (fn := Tryz.f320) Tryz.func320 rfl (by decide) (by show 1 ≤ 7; decide) ?_
  rw [Tryz.ntmps320]
  refine AWp.post ?_
  refine rg ?_
  refine rgP hpp (c73_5 ((ByteArray.mk #[116, 105, 109, 101, 115])) m0) h fun y1 hy1 h => ?_
  refine hL (s' := (s.setBox b0 ([.slice 3 (List.map XToken.v y1.2.l), vint y1.2.at_, vint y1.2.params], 118))) ?_
  refine AWp.ret ?_
  obtain rfl := Option.some.inj h
  exact rtP [.cell 2 29]
def s73_4 (x1 : ByteArray) (m0 : XReader) : Option (PX (Int × XReader) (XExpr × XReader)) := (callP (s320_1 m0) (fun q2 => (q2.1, q2.2)) fun y1 => (loopC (fun (u7 : XExpr × XExpr × XReader → Option (PX (Int × XReader) (XExpr × XReader))) (q6 : XExpr × XExpr × XReader) => (call (s139_1 x1 q6.2.2) fun y8 => (way ((y8.2.1 == 0)) (some (PX.ok ((q6.2.1, y8.2.2)))) (callP (s320_1 ((XReader.mk y8.2.2.l ((IntKind.i64.wrap (y8.2.2.at_ + y8.2.1))) y8.2.2.params))) (fun q13 => (q13.1, q13.2)) fun y12 => (u7 (q6.1, (XExpr.mk y8.1 false ByteArray.empty ByteArray.empty 0 ((XValue.mk 0 0 ByteArray.empty)) ([q6.2.1, y12.1]) (([] : List XSelect))), y12.2)))))) manyC ((XExpr.mk 0 false ByteArray.empty ByteArray.empty 0 ((XValue.mk 0 0 ByteArray.empty)) (([] : List XExpr)) (([] : List XSelect))), y1.1, y1.2)))
theorem c73_4 (x1 : ByteArray) (m0 : XReader) (r : PX (Int × XReader) (XExpr × XReader)) (h : s73_4 x1 m0 = some r) : GivesP1 Tryz.prog 73 (fun b0 => [.ptr b0 0, vstr x1, .func 320 [.ptr b0 0] []]) (wrongV 177) r (fun y => .agg y.1.v) ([.slice 3 (List.map XToken.v m0.l), vint m0.at_, vint m0.params], 118) (fun q => ([.slice 3 (List.map XToken.v q.2.l), vint q.2.at_, vint q.2.params], 118)) (fun y => ([.slice 3 (List.map XToken.v y.2.l), vint y.2.at_, vint y.2.params], 118)) := by
  refine givesP1_of fun s b0 pp hpp => ?_
  unfold s73_4 at h
  refine acallsP_of (fn := Tryz.f73) Tryz.func73 rfl (by decide) (by show 3 ≤ 35; decide) ?_
  rw [Tryz.ntmps73]
  refine AWp.post ?_
  refine rgF ((And.intro ((@XValue.v_eq)) <| (@XExpr.v_eq))) ?_
  refine rgFP ((And.intro ((@XValue.v_eq)) <| (@XExpr.v_eq))) hpp (c320_1 m0) h fun y1 hy1 h => ?_
  refine hL (s' := (s.setBox b0 ([.slice 3 (List.map XToken.v y1.2.l), vint y1.2.at_, vint y1.2.params], 118))) ?_
  refine AWp.block ?_
  refine AWp.loopS (X := XExpr × XExpr × XReader) (G := Unit) h (fun _ => True) (fun q6 _ => tstP pp [(0, .ptr b0 0), (1, vstr x1), (2, .func 320 [.ptr b0 0] []), (6, .loc 6 0), (7, .loc 7 0)] [(6, ([vint q6.1.op, vbool q6.1.not, vstr q6.1.table, vstr q6.1.name, vint q6.1.n, vint q6.1.v_.kind, vint q6.1.v_.int, vstr q6.1.v_.text, .slice 10 (List.map XExpr.v q6.1.args), .slice 5 (List.map XSelect.v q6.1.sub)], 29)), (7, ([vint q6.2.1.op, vbool q6.2.1.not, vstr q6.2.1.table, vstr q6.2.1.name, vint q6.2.1.n, vint q6.2.1.v_.kind, vint q6.2.1.v_.int, vstr q6.2.1.v_.text, .slice 10 (List.map XExpr.v q6.2.1.args), .slice 5 (List.map XSelect.v q6.2.1.sub)], 29))] (s.setBox b0 ([.slice 3 (List.map XToken.v q6.2.2.l), vint q6.2.2.at_, vint q6.2.2.params], 118)) 35) ?_ ?_
  · refine ⟨(), trivial, ?_⟩
    refine St.to.wkB 6 [vint 0, vbool false, vstr ByteArray.empty, vstr ByteArray.empty, vint 0, vint 0, vint 0, vstr ByteArray.empty, .slice 10 (List.map XExpr.v ((([] : List XExpr)))), .slice 5 (List.map XSelect.v ((([] : List XSelect))))] (cs := [vint 0, vbool false, vstr ByteArray.empty, vstr ByteArray.empty, vint 0, vint 0, vint 0, vstr ByteArray.empty, .nil, .nil]) (ty := 29) (by first | rfl | (show some _ = some _; simp only [List.map_cons, List.map_nil, XExpr.v_eq]) | (show some _ = some _; simp only [List.nil_append, List.cons_append, List.map_append, List.map_cons, List.map_nil, XExpr.v_eq])) (⟨Wk.refl _, Wk.refl _, Wk.refl _, Wk.refl _, Wk.refl _, Wk.refl _, Wk.refl _, Wk.refl _, Wk.nil _, Wk.nil _, trivial⟩) ?_
    exact tlePF ((And.intro (@XValue.v_eq) <| @XExpr.v_eq))
  · rintro u7 ⟨b3, b4, w5⟩ h _ _
    (try dsimp only at h ⊢)
    refine AWp.block ?_
    obtain ⟨y8, hy8, h⟩ := call_some h
    refine rgFC ((And.intro ((@XValue.v_eq)) <| (@XExpr.v_eq))) (c139_1 x1 w5 _ hy8) ?_
    refine hL (s' := (s.setBox b0 ([.slice 3 (List.map XToken.v y8.2.2.l), vint y8.2.2.at_, vint y8.2.2.params], 118))) ?_
    refine AWp.seq_k fun K9 hK9 => ?_
    refine rgF ((And.intro ((@XValue.v_eq)) <| (@XExpr.v_eq))) ?_
    refine ws h (fun hc10 h => ?_) fun hc10 h => ?_
    · refine rgF ((And.intro ((@XValue.v_eq)) <| (@XExpr.v_eq))) ?_
      refine AWp.ret ?_
      refine ⟨_, St.to.refl _, ?_⟩
      obtain rfl := Option.some.inj h
      refine ret_go (vs := [.agg [vint b4.op, vbool b4.not, vstr b4.table, vstr b4.name, vint b4.n, vint b4.v_.kind, vint b4.v_.int, vstr b4.v_.text, .slice 10 (List.map XExpr.v b4.args), .slice 5 (List.map XSelect.v b4.sub)]]) (v := .agg b4.v) (by show resV Tryz.prog _ [.cell 6 29] = _; simp only [resV, ty29, XValue.v_eq, XExpr.v_eq, am, seval, reduceCtorEq]) (Wk.agg (by rw [XExpr.v_eq]; exact ⟨Wk.refl _, Wk.refl _, Wk.refl _, Wk.refl _, Wk.refl _, Wk.refl _, Wk.refl _, Wk.refl _, Wk.refl _, Wk.refl _, trivial⟩)) (Heap.le.refl _) ⟨_, rfl, ?_, rfl⟩
      rfl
    · refine AWp.skip ?_
      refine hK9 _ ?_; clear hK9
      refine rgF ((And.intro ((@XValue.v_eq)) <| And.intro ((@XExpr.v_eq)) <| (@XReader.v_eq))) ?_
      refine hL (s' := (s.setBox b0 ([.slice 3 (List.map XToken.v y8.2.2.l), vint ((IntKind.i64.wrap (y8.2.2.at_ + y8.2.1))), vint y8.2.2.params], 118))) ?_
      refine AWp.regL1 mixed [0, 1, 2, 3, 4, 5, 6] (by decide +kernel) [100030] (by decide +kernel) fun Z11 hZ11 => ?_
      (try simp only [XValue.v_eq, XExpr.v_eq, XReader.v_eq, aml, Nat.reduceBEq, xm, Nat.reduceAdd, Nat.reduceLeDiff, seval, reduceCtorEq])
      refine goP (g := (fun q13 => (q13.1, q13.2))) h (fun y12 hy12 => c320_1 ((XReader.mk y8.2.2.l ((IntKind.i64.wrap (y8.2.2.at_ + y8.2.1))) y8.2.2.params)) _ hy12 _ b0 (by first | exact setBox_same | (simp only [setBox_same, setBox_ne, ne_eq, not_false_eq_true]))) (fun q13 hq13 => ⟨_, Heap.le.trans (b := (s.setBox b0 ([.slice 3 (List.map XToken.v q13.2.l), vint q13.2.at_, vint q13.2.params], 118))) (⟨fun k => .inl (by simp only [Heap.setBox, Heap.setOwn, owns_box, upd] <;> (repeat' split) <;> first | with_reducible rfl | (simp only [XExpr.v_eq, XReader.v_eq]; done) | (simp_all; done) | (simp_all [XExpr.v_eq, XReader.v_eq]; done)), fun _ => .inl (by first | (simp only [setBox_own]; done) | (simp only [setBox_own]; rfl) | rfl)⟩) (Heap.le.refl _), by first | exact hpp _ hq13 | exact ⟨rfl, hpp _ hq13⟩⟩) (fun y12 hy12 h => ?_)
      (try simp only [XValue.v_eq, XExpr.v_eq, XReader.v_eq, aml, Nat.reduceBEq, xm, Nat.reduceAdd, Nat.reduceLeDiff, seval, reduceCtorEq])
      refine hZ11 _ ?_; clear hZ11 Z11
      refine ⟨(b3, (XExpr.mk y8.1 false ByteArray.empty ByteArray.empty 0 ((XValue.mk 0 0 ByteArray.empty)) ([b4, y12.1]) (([] : List XSelect))), y12.2), h, (), trivial, ?_⟩
      refine St.to.heapLe (s' := (s.setBox b0 ([.slice 3 (List.map XToken.v y12.2.l), vint y12.2.at_, vint y12.2.params], 118))) (⟨fun k => .inl (by simp only [Heap.setBox, Heap.setOwn, owns_box, upd] <;> (repeat' split) <;> first | with_reducible rfl | (simp only [XExpr.v_eq, XReader.v_eq]; done) | (simp_all; done) | (simp_all [XExpr.v_eq, XReader.v_eq]; done)), fun _ => .inl (by first | (simp only [setBox_own]; done) | (simp only [setBox_own]; rfl) | rfl)⟩) ?_
      refine St.to.wkB 7 [vint y8.1, vbool false, vstr ByteArray.empty, vstr ByteArray.empty, vint 0, vint 0, vint 0, vstr ByteArray.empty, .slice 10 (List.map XExpr.v (([b4, y12.1]))), .slice 5 (List.map XSelect.v ((([] : List XSelect))))] (cs := [vint y8.1, vbool false, vstr ByteArray.empty, vstr ByteArray.empty, vint 0, vint 0, vint 0, vstr ByteArray.empty, .slice 10 (List.map XExpr.v ([b4, y12.1])), .nil]) (ty := 29) (by first | rfl | (show some _ = some _; simp only [List.map_cons, List.map_nil, XExpr.v_eq, XReader.v_eq]) | (show some _ = some _; simp only [List.nil_append, List.cons_append, List.map_append, List.map_cons, List.map_nil, XExpr.v_eq, XReader.v_eq])) (⟨Wk.refl _, Wk.refl _, Wk.refl _, Wk.refl _, Wk.refl _, Wk.refl _, Wk.refl _, Wk.refl _, Wk.slice ⟨(by rw [XExpr.v_eq]; exact ⟨Wk.refl _, Wk.refl _, Wk.refl _, Wk.refl _, Wk.refl _, Wk.refl _, Wk.refl _, Wk.refl _, Wk.refl _, Wk.refl _, trivial⟩), WkL.refl _, trivial⟩, Wk.nil _, trivial⟩) ?_
      exact tlePF ((And.intro (@XValue.v_eq) <| And.intro (@XExpr.v_eq) <| @XReader.v_eq))
def s297_1 (m0 : XReader) : Option (PX (Int × XReader) (XExpr × XReader)) := (callP (s73_4 ((ByteArray.mk #[115, 117, 109])) m0) (fun q2 => (q2.1, q2.2)) fun y1 => (some (PX.ok ((y1.1, y1.2)))))
theorem c297_1 (m0 : XReader) (r : PX (Int × XReader) (XExpr × XReader)) (h : s297_1 m0 = some r) : GivesP1 Tryz.prog 297 (fun b0 => [.ptr b0 0]) (wrongV 177) r (fun y => .agg y.1.v) ([.slice 3 (List.map XToken.v m0.l), vint m0.at_, vint m0.params], 118) (fun q => ([.slice 3 (List.map XToken.v q.2.l), vint q.2.at_, vint q.2.params], 118)) (fun y => ([.slice 3 (List.map XToken.v y.2.l), vint y.2.at_, vint y.2.params], 118)) := by
  refine givesP1_of fun s b0 pp hpp => ?_
  unfold s297_1 at h
  refine acallsP_of (fn := Tryz.f297) Tryz.func297 rfl (by decide) (by show 1 ≤ 7; decide) ?_
  rw [Tryz.ntmps297]
  refine AWp.post ?_
  refine rg ?_
  refine rgP hpp (c73_4 ((ByteArray.mk #[115, 117, 109])) m0) h fun y1 hy1 h => ?_
  refine hL (s' := (s.setBox b0 ([.slice 3 (List.map XToken.v y1.2.l), vint y1.2.at_, vint y1.2.params], 118))) ?_
  refine AWp.ret ?_
  obtain rfl := Option.some.inj h
  exact rtP [.cell 2 29]
def s73_3 (x1 : ByteArray) (m0 : XReader) : Option (PX (Int × XReader) (XExpr × XReader)) := (callP (s297_1 m0) (fun q2 => (q2.1, q2.2)) fun y1 => (loopC (fun (u7 : XExpr × XExpr × XReader → Option (PX (Int × XReader) (XExpr × XReader))) (q6 : XExpr × XExpr × XReader) => (call (s139_1 x1 q6.2.2) fun y8 => (way ((y8.2.1 == 0)) (some (PX.ok ((q6.2.1, y8.2.2)))) none))) manyC ((XExpr.mk 0 false ByteArray.empty ByteArray.empty 0 ((XValue.mk 0 0 ByteArray.empty)) (([] : List XExpr)) (([] : List XSelect))), y1.1, y1.2)))
theorem c73_3 (x1 : ByteArray) (m0 : XReader) (r : PX (Int × XReader) (XExpr × XReader)) (h : s73_3 x1 m0 = some r) : GivesP1 Tryz.prog 73 (fun b0 => [.ptr b0 0, vstr x1, .func 297 [.ptr b0 0] []]) (wrongV 177) r (fun y => .agg y.1.v) ([.slice 3 (List.map XToken.v m0.l), vint m0.at_, vint m0.params], 118) (fun q => ([.slice 3 (List.map XToken.v q.2.l), vint q.2.at_, vint q.2.params], 118)) (fun y => ([.slice 3 (List.map XToken.v y.2.l), vint y.2.at_, vint y.2.params], 118)) := by
  refine givesP1_of fun s b0 pp hpp => ?_
  unfold s73_3 at h
  refine acallsP_of (fn := Tryz.f73) Tryz.func73 rfl (by decide) (by show 3 ≤ 35; decide) ?_
  rw [Tryz.ntmps73]
  refine AWp.post ?_
  refine rgF ((And.intro ((@XValue.v_eq)) <| (@XExpr.v_eq))) ?_
  refine rgFP ((And.intro ((@XValue.v_eq)) <| (@XExpr.v_eq))) hpp (c297_1 m0) h fun y1 hy1 h => ?_
  refine hL (s' := (s.setBox b0 ([.slice 3 (List.map XToken.v y1.2.l), vint y1.2.at_, vint y1.2.params], 118))) ?_
  refine AWp.block ?_
  refine AWp.loopS (X := XExpr × XExpr × XReader) (G := Unit) h (fun _ => True) (fun q6 _ => tstP pp [(0, .ptr b0 0), (1, vstr x1), (2, .func 297 [.ptr b0 0] []), (6, .loc 6 0), (7, .loc 7 0)] [(6, ([vint q6.1.op, vbool q6.1.not, vstr q6.1.table, vstr q6.1.name, vint q6.1.n, vint q6.1.v_.kind, vint q6.1.v_.int, vstr q6.1.v_.text, .slice 10 (List.map XExpr.v q6.1.args), .slice 5 (List.map XSelect.v q6.1.sub)], 29)), (7, ([vint q6.2.1.op, vbool q6.2.1.not, vstr q6.2.1.table, vstr q6.2.1.name, vint q6.2.1.n, vint q6.2.1.v_.kind, vint q6.2.1.v_.int, vstr q6.2.1.v_.text, .slice 10 (List.map XExpr.v q6.2.1.args), .slice 5 (List.map XSelect.v q6.2.1.sub)], 29))] (s.setBox b0 ([.slice 3 (List.map XToken.v q6.2.2.l), vint q6.2.2.at_, vint q6.2.2.params], 118)) 35) ?_ ?_
  · refine ⟨(), trivial, ?_⟩
    refine St.to.wkB 6 [vint 0, vbool false, vstr ByteArray.empty, vstr ByteArray.empty, vint 0, vint 0, vint 0, vstr ByteArray.empty, .slice 10 (List.map XExpr.v ((([] : List XExpr)))), .slice 5 (List.map XSelect.v ((([] : List XSelect))))] (cs := [vint 0, vbool false, vstr ByteArray.empty, vstr ByteArray.empty, vint 0, vint 0, vint 0, vstr ByteArray.empty, .nil, .nil]) (ty := 29) (by first | rfl | (show some _ = some _; simp only [List.map_cons, List.map_nil, XExpr.v_eq]) | (show some _ = some _; simp only [List.nil_append, List.cons_append, List.map_append, List.map_cons, List.map_nil, XExpr.v_eq])) (⟨Wk.refl _, Wk.refl _, Wk.refl _, Wk.refl _, Wk.refl _, Wk.refl _, Wk.refl _, Wk.refl _, Wk.nil _, Wk.nil _, trivial⟩) ?_
    exact tlePF ((And.intro (@XValue.v_eq) <| @XExpr.v_eq))
  · rintro u7 ⟨b3, b4, w5⟩ h _ _
    (try dsimp only at h ⊢)
    refine AWp.block ?_
    obtain ⟨y8, hy8, h⟩ := call_some h
    refine rgFC ((And.intro ((@XValue.v_eq)) <| (@XExpr.v_eq))) (c139_1 x1 w5 _ hy8) ?_
    refine hL (s' := (s.setBox b0 ([.slice 3 (List.map XToken.v y8.2.2.l), vint y8.2.2.at_, vint y8.2.2.params], 118))) ?_
    refine AWp.seq_k fun K9 hK9 => ?_
    refine rgF ((And.intro ((@XValue.v_eq)) <| (@XExpr.v_eq))) ?_
    refine wT h fun hc10 h => ?_
    refine rgF ((And.intro ((@XValue.v_eq)) <| (@XExpr.v_eq))) ?_
    refine AWp.ret ?_
    refine ⟨_, St.to.refl _, ?_⟩
    obtain rfl := Option.some.inj h
    refine ret_go (vs := [.agg [vint b4.op, vbool b4.not, vstr b4.table, vstr b4.name, vint b4.n, vint b4.v_.kind, vint b4.v_.int, vstr b4.v_.text, .slice 10 (List.map XExpr.v b4.args), .slice 5 (List.map XSelect.v b4.sub)]]) (v := .agg b4.v) (by show resV Tryz.prog _ [.cell 6 29] = _; simp only [resV, ty29, XValue.v_eq, XExpr.v_eq, am, seval, reduceCtorEq]) (Wk.agg (by rw [XExpr.v_eq]; exact ⟨Wk.refl _, Wk.refl _, Wk.refl _, Wk.refl _, Wk.refl _, Wk.refl _, Wk.refl _, Wk.refl _, Wk.refl _, Wk.refl _, trivial⟩)) (Heap.le.refl _) ⟨_, rfl, ?_, rfl⟩
    rfl
def s264_1 (m0 : XReader) : Option (PX (Int × XReader) (XExpr × XReader)) := (callP (s73_3 ((ByteArray.mk #[108, 101, 115, 115])) m0) (fun q2 => (q2.1, q2.2)) fun y1 => (some (PX.ok ((y1.1, y1.2)))))
theorem c264_1 (m0 : XReader) (r : PX (Int × XReader) (XExpr × XReader)) (h : s264_1 m0 = some r) : GivesP1 Tryz.prog 264 (fun b0 => [.ptr b0 0]) (wrongV 177) r (fun y => .agg y.1.v) ([.slice 3 (List.map XToken.v m0.l), vint m0.at_, vint m0.params], 118) (fun q => ([.slice 3 (List.map XToken.v q.2.l), vint q.2.at_, vint q.2.params], 118)) (fun y => ([.slice 3 (List.map XToken.v y.2.l), vint y.2.at_, vint y.2.params], 118)) := by
  refine givesP1_of fun s b0 pp hpp => ?_
  unfold s264_1 at h
  refine acallsP_of (fn := Tryz.f264) Tryz.func264 rfl (by decide) (by show 1 ≤ 7; decide) ?_
  rw [Tryz.ntmps264]
  refine AWp.post ?_
  refine rg ?_
  refine rgP hpp (c73_3 ((ByteArray.mk #[108, 101, 115, 115])) m0) h fun y1 hy1 h => ?_
  refine hL (s' := (s.setBox b0 ([.slice 3 (List.map XToken.v y1.2.l), vint y1.2.at_, vint y1.2.params], 118))) ?_
  refine AWp.ret ?_
  obtain rfl := Option.some.inj h
  exact rtP [.cell 2 29]
end Go.Proofs.YtopgndakadileaaGreatDoor.Ex
namespace Go.Proofs.YtopgndakadileaaGreatDoor.Ex
open Go.Am Go.Ex Go.Proofs.YtopgndakadileaaGreatDoor
def s210_1 (m0 : XReader) : Option (PX (Int × XReader) (XExpr × XReader)) := (callP (s264_1 m0) (fun q2 => (q2.1, q2.2)) fun y1 => (loopC (fun (u8 : XExpr × XReader × XExpr → Option (PX (Int × XReader) (XExpr × XReader))) (q7 : XExpr × XReader × XExpr) => (call (s251_1 ([(ByteArray.mk #[61]), (ByteArray.mk #[61, 61]), (ByteArray.mk #[60, 62]), (ByteArray.mk #[33, 61])]) q7.2.1) fun y12 => (way y12.1 none (call (s119_1 ((ByteArray.mk #[73, 83])) y12.2) fun y16 => (way y16.1 none (call (s119_1 ((ByteArray.mk #[78, 79, 84])) y16.2) fun y19 => (call (s119_1 ((ByteArray.mk #[76, 73, 75, 69])) y19.2) fun y21 => (way y21.1 none (call (s119_1 ((ByteArray.mk #[71, 76, 79, 66])) y21.2) fun y24 => (way y24.1 none (call (s119_1 ((ByteArray.mk #[66, 69, 84, 87, 69, 69, 78])) y24.2) fun y27 => (way y27.1 none (call (s119_1 ((ByteArray.mk #[73, 78])) y27.2) fun y30 => (way y30.1 none (way y19.1 none (some (PX.ok ((q7.2.2, y30.2))))))))))))))))))) manyC ((XExpr.mk 0 false ByteArray.empty ByteArray.empty 0 ((XValue.mk 0 0 ByteArray.empty)) (([] : List XExpr)) (([] : List XSelect))), y1.2, y1.1)))
theorem c210_1 (m0 : XReader) (r : PX (Int × XReader) (XExpr × XReader)) (h : s210_1 m0 = some r) : GivesP1 Tryz.prog 210 (fun b0 => [.ptr b0 0]) (wrongV 177) r (fun y => .agg y.1.v) ([.slice 3 (List.map XToken.v m0.l), vint m0.at_, vint m0.params], 118) (fun q => ([.slice 3 (List.map XToken.v q.2.l), vint q.2.at_, vint q.2.params], 118)) (fun y => ([.slice 3 (List.map XToken.v y.2.l), vint y.2.at_, vint y.2.params], 118)) := by
  refine givesP1_of fun s b0 pp hpp => ?_
  unfold s210_1 at h
  refine acallsP_of (fn := Tryz.f210) Tryz.func210 rfl (by decide) (by show 1 ≤ 75; decide) ?_
  rw [Tryz.ntmps210]
  refine AWp.post ?_
  refine rgF ((And.intro ((@XValue.v_eq)) <| (@XExpr.v_eq))) ?_
  refine rgFP ((And.intro ((@XValue.v_eq)) <| (@XExpr.v_eq))) hpp (c264_1 m0) h fun y1 hy1 h => ?_
  refine hL (s' := (s.setBox b0 ([.slice 3 (List.map XToken.v y1.2.l), vint y1.2.at_, vint y1.2.params], 118))) ?_
  refine AWp.block ?_
  refine AWp.publish (t0 := 3) (x := ([vint y1.1.op, vbool y1.1.not, vstr y1.1.table, vstr y1.1.name, vint y1.1.n, vint y1.1.v_.kind, vint y1.1.v_.int, vstr y1.1.v_.text, .slice 10 (List.map XExpr.v y1.1.args), .slice 5 (List.map XSelect.v y1.1.sub)], 29)) (by first | rfl | simp only [am, seval, reduceCtorEq]) fun e3 he3 => ?_
  change ((s.setBox b0 ([.slice 3 (List.map XToken.v y1.2.l), vint y1.2.at_, vint y1.2.params], 118))).box e3 = none at he3
  have he3b0 : e3 ≠ b0 := fun hq => by rw [hq] at he3; simp only [setBox_same, setBox_ne, owns_box, reduceCtorEq, ne_eq, not_false_eq_true] at he3
  have ne3 : s.box e3 = none := by simpa only [setBox_ne, owns_box, ne_eq, not_false_eq_true, he3b0] using he3
  refine AWp.weaken (st' := tstP pp [(0, .ptr b0 0), (1, .loc 1 0), (2, .loc 2 0), (3, .ptr e3 0), (9, .ptr b0 0), (10, .agg y1.1.v)] [(1, ([.ptr b0 0], 71)), (2, ([vint 0, vbool false, vstr ByteArray.empty, vstr ByteArray.empty, vint 0, vint 0, vint 0, vstr ByteArray.empty, .nil, .nil], 29))] ((s.setBox b0 ([.slice 3 (List.map XToken.v y1.2.l), vint y1.2.at_, vint y1.2.params], 118)).setBox e3 ([vint y1.1.op, vbool y1.1.not, vstr y1.1.table, vstr y1.1.name, vint y1.1.n, vint y1.1.v_.kind, vint y1.1.v_.int, vstr y1.1.v_.text, .slice 10 (List.map XExpr.v y1.1.args), .slice 5 (List.map XSelect.v y1.1.sub)], 29)) 75) ?_ ?_
  · refine le_tstP ?_ ?_ ?_ (Heap.le.refl _) rfl
    · simp only [leE, St.publish, substV, XValue.v_eq, XExpr.v_eq, am, seval, reduceCtorEq] <;> simp
    · simp only [okL, keyIn, Nat.reduceBEq, Bool.or_true, Bool.true_or, Bool.or_false, and_self]
    · simp only [leB, St.publish, substV, XValue.v_eq, XExpr.v_eq, am, seval, reduceCtorEq] <;> (repeat' apply And.intro) <;> first | rfl | (simp only [XExpr.v_eq]; rfl) | simp [XExpr.v_eq]
  refine AWp.frz 1 (cs := [.ptr b0 0]) (ty := 71) (by first | rfl | simp only [am, seval, reduceCtorEq]) ?_
  refine AWp.weaken (st' := tstP pp [(0, .ptr b0 0), (1, .elt [.ptr b0 0] 0), (2, .loc 2 0), (3, .ptr e3 0), (9, .ptr b0 0), (10, .agg y1.1.v)] [(2, ([vint 0, vbool false, vstr ByteArray.empty, vstr ByteArray.empty, vint 0, vint 0, vint 0, vstr ByteArray.empty, .nil, .nil], 29))] ((s.setBox b0 ([.slice 3 (List.map XToken.v y1.2.l), vint y1.2.at_, vint y1.2.params], 118)).setBox e3 ([vint y1.1.op, vbool y1.1.not, vstr y1.1.table, vstr y1.1.name, vint y1.1.n, vint y1.1.v_.kind, vint y1.1.v_.int, vstr y1.1.v_.text, .slice 10 (List.map XExpr.v y1.1.args), .slice 5 (List.map XSelect.v y1.1.sub)], 29)) 75) ?_ ?_
  · refine le_tstP ?_ ?_ ?_ (Heap.le.refl _) rfl
    · simp only [leE, St.frz, frzV, XValue.v_eq, XExpr.v_eq, am, seval, reduceCtorEq] <;> simp
    · simp only [okL, keyIn, Nat.reduceBEq, Bool.or_true, Bool.true_or, Bool.or_false, and_self]
    · simp only [leB, St.frz, frzV, XValue.v_eq, XExpr.v_eq, am, seval, reduceCtorEq] <;> (repeat' apply And.intro) <;> first | rfl | (simp only [XExpr.v_eq]; rfl) | simp [XExpr.v_eq]
  refine AWp.loopS (X := XExpr × XReader × XExpr) (G := Unit) h (fun _ => True) (fun q7 _ => tstP pp [(1, .elt [.ptr b0 0] 0), (2, .loc 2 0), (3, .ptr e3 0)] [(2, ([vint q7.1.op, vbool q7.1.not, vstr q7.1.table, vstr q7.1.name, vint q7.1.n, vint q7.1.v_.kind, vint q7.1.v_.int, vstr q7.1.v_.text, .slice 10 (List.map XExpr.v q7.1.args), .slice 5 (List.map XSelect.v q7.1.sub)], 29))] ((s.setBox b0 ([.slice 3 (List.map XToken.v q7.2.1.l), vint q7.2.1.at_, vint q7.2.1.params], 118)).setBox e3 ([vint q7.2.2.op, vbool q7.2.2.not, vstr q7.2.2.table, vstr q7.2.2.name, vint q7.2.2.n, vint q7.2.2.v_.kind, vint q7.2.2.v_.int, vstr q7.2.2.v_.text, .slice 10 (List.map XExpr.v q7.2.2.args), .slice 5 (List.map XSelect.v q7.2.2.sub)], 29)) 75) ?_ ?_
  · refine ⟨(), trivial, ?_⟩
    refine St.to.wkB 2 [vint 0, vbool false, vstr ByteArray.empty, vstr ByteArray.empty, vint 0, vint 0, vint 0, vstr ByteArray.empty, .slice 10 (List.map XExpr.v ((([] : List XExpr)))), .slice 5 (List.map XSelect.v ((([] : List XSelect))))] (cs := [vint 0, vbool false, vstr ByteArray.empty, vstr ByteArray.empty, vint 0, vint 0, vint 0, vstr ByteArray.empty, .nil, .nil]) (ty := 29) (by first | rfl | (show some _ = some _; simp only [List.map_cons, List.map_nil, XExpr.v_eq]) | (show some _ = some _; simp only [List.nil_append, List.cons_append, List.map_append, List.map_cons, List.map_nil, XExpr.v_eq])) (⟨Wk.refl _, Wk.refl _, Wk.refl _, Wk.refl _, Wk.refl _, Wk.refl _, Wk.refl _, Wk.refl _, Wk.nil _, Wk.nil _, trivial⟩) ?_
    exact tlePF ((And.intro (@XValue.v_eq) <| @XExpr.v_eq))
  · rintro u8 ⟨b4, w5, w6⟩ h _ _
    (try dsimp only at h ⊢)
    refine AWp.block ?_
    refine AWp.reg fun Z9 hZ9 => ?_
    (try simp only [XValue.v_eq, XExpr.v_eq, he3b0, he3b0.symm, xm, Nat.reduceAdd, Nat.reduceLeDiff, seval, reduceCtorEq])
    refine hZ9 _ ?_; clear hZ9 Z9
    refine AWp.seq_k fun K10 hK10 => ?_
    refine AWp.reg fun Z11 hZ11 => ?_
    (try simp only [XValue.v_eq, XExpr.v_eq, he3b0, he3b0.symm, xm, Nat.reduceAdd, Nat.reduceLeDiff, seval, reduceCtorEq])
    obtain ⟨y12, hy12, h⟩ := call_some h
    refine (c251_1 ([(ByteArray.mk #[61]), (ByteArray.mk #[61, 61]), (ByteArray.mk #[60, 62]), (ByteArray.mk #[33, 61])]) w5 _ hy12 _ b0 (by first | exact setBox_same | (simp only [setBox_same, setBox_ne, he3b0, he3b0.symm, ne_eq, not_false_eq_true]))).go ?_
    (try simp only [XValue.v_eq, XExpr.v_eq, he3b0, he3b0.symm, xm, Nat.reduceAdd, Nat.reduceLeDiff, seval, reduceCtorEq])
    refine hZ11 _ ?_; clear hZ11 Z11
    refine AWp.heapLe (s' := ((s.setBox b0 ([.slice 3 (List.map XToken.v y12.2.l), vint y12.2.at_, vint y12.2.params], 118)).setBox e3 ([vint w6.op, vbool w6.not, vstr w6.table, vstr w6.name, vint w6.n, vint w6.v_.kind, vint w6.v_.int, vstr w6.v_.text, .slice 10 (List.map XExpr.v w6.args), .slice 5 (List.map XSelect.v w6.sub)], 29))) (⟨fun k => .inl (by simp only [Heap.setBox, Heap.setOwn, owns_box, upd] <;> (repeat' split) <;> first | with_reducible rfl | (simp only [XExpr.v_eq]; done) | (simp_all; done) | (simp_all [XExpr.v_eq]; done)), fun _ => .inl (by first | (simp only [setBox_own]; done) | (simp only [setBox_own]; rfl) | rfl)⟩) ?_
    refine wF h fun hc13 h => ?_
    refine AWp.skip ?_
    refine hK10 _ ?_; clear hK10
    refine AWp.seq_k fun K14 hK14 => ?_
    refine AWp.reg fun Z15 hZ15 => ?_
    (try simp only [XValue.v_eq, XExpr.v_eq, he3b0, he3b0.symm, xm, Nat.reduceAdd, Nat.reduceLeDiff, seval, reduceCtorEq])
    obtain ⟨y16, hy16, h⟩ := call_some h
    refine (c119_1 ((ByteArray.mk #[73, 83])) y12.2 _ hy16 _ b0 (by first | exact setBox_same | (simp only [setBox_same, setBox_ne, he3b0, he3b0.symm, ne_eq, not_false_eq_true]))).go ?_
    (try simp only [XValue.v_eq, XExpr.v_eq, he3b0, he3b0.symm, xm, Nat.reduceAdd, Nat.reduceLeDiff, seval, reduceCtorEq])
    refine hZ15 _ ?_; clear hZ15 Z15
    refine AWp.heapLe (s' := ((s.setBox b0 ([.slice 3 (List.map XToken.v y16.2.l), vint y16.2.at_, vint y16.2.params], 118)).setBox e3 ([vint w6.op, vbool w6.not, vstr w6.table, vstr w6.name, vint w6.n, vint w6.v_.kind, vint w6.v_.int, vstr w6.v_.text, .slice 10 (List.map XExpr.v w6.args), .slice 5 (List.map XSelect.v w6.sub)], 29))) (⟨fun k => .inl (by simp only [Heap.setBox, Heap.setOwn, owns_box, upd] <;> (repeat' split) <;> first | with_reducible rfl | (simp only [XExpr.v_eq]; done) | (simp_all; done) | (simp_all [XExpr.v_eq]; done)), fun _ => .inl (by first | (simp only [setBox_own]; done) | (simp only [setBox_own]; rfl) | rfl)⟩) ?_
    refine wF h fun hc17 h => ?_
    refine AWp.skip ?_
    refine hK14 _ ?_; clear hK14
    refine AWp.reg fun Z18 hZ18 => ?_
    (try simp only [XValue.v_eq, XExpr.v_eq, he3b0, he3b0.symm, xm, Nat.reduceAdd, Nat.reduceLeDiff, seval, reduceCtorEq])
    obtain ⟨y19, hy19, h⟩ := call_some h
    refine (c119_1 ((ByteArray.mk #[78, 79, 84])) y16.2 _ hy19 _ b0 (by first | exact setBox_same | (simp only [setBox_same, setBox_ne, he3b0, he3b0.symm, ne_eq, not_false_eq_true]))).go ?_
    (try simp only [XValue.v_eq, XExpr.v_eq, he3b0, he3b0.symm, xm, Nat.reduceAdd, Nat.reduceLeDiff, seval, reduceCtorEq])
    refine hZ18 _ ?_; clear hZ18 Z18
    refine AWp.heapLe (s' := ((s.setBox b0 ([.slice 3 (List.map XToken.v y19.2.l), vint y19.2.at_, vint y19.2.params], 118)).setBox e3 ([vint w6.op, vbool w6.not, vstr w6.table, vstr w6.name, vint w6.n, vint w6.v_.kind, vint w6.v_.int, vstr w6.v_.text, .slice 10 (List.map XExpr.v w6.args), .slice 5 (List.map XSelect.v w6.sub)], 29))) (⟨fun k => .inl (by simp only [Heap.setBox, Heap.setOwn, owns_box, upd] <;> (repeat' split) <;> first | with_reducible rfl | (simp only [XExpr.v_eq]; done) | (simp_all; done) | (simp_all [XExpr.v_eq]; done)), fun _ => .inl (by first | (simp only [setBox_own]; done) | (simp only [setBox_own]; rfl) | rfl)⟩) ?_
    refine AWp.block ?_
    refine AWp.reg fun Z20 hZ20 => ?_
    (try simp only [XValue.v_eq, XExpr.v_eq, he3b0, he3b0.symm, xm, Nat.reduceAdd, Nat.reduceLeDiff, seval, reduceCtorEq])
    obtain ⟨y21, hy21, h⟩ := call_some h
    refine (c119_1 ((ByteArray.mk #[76, 73, 75, 69])) y19.2 _ hy21 _ b0 (by first | exact setBox_same | (simp only [setBox_same, setBox_ne, he3b0, he3b0.symm, ne_eq, not_false_eq_true]))).go ?_
    (try simp only [XValue.v_eq, XExpr.v_eq, he3b0, he3b0.symm, xm, Nat.reduceAdd, Nat.reduceLeDiff, seval, reduceCtorEq])
    refine hZ20 _ ?_; clear hZ20 Z20
    refine AWp.heapLe (s' := ((s.setBox b0 ([.slice 3 (List.map XToken.v y21.2.l), vint y21.2.at_, vint y21.2.params], 118)).setBox e3 ([vint w6.op, vbool w6.not, vstr w6.table, vstr w6.name, vint w6.n, vint w6.v_.kind, vint w6.v_.int, vstr w6.v_.text, .slice 10 (List.map XExpr.v w6.args), .slice 5 (List.map XSelect.v w6.sub)], 29))) (⟨fun k => .inl (by simp only [Heap.setBox, Heap.setOwn, owns_box, upd] <;> (repeat' split) <;> first | with_reducible rfl | (simp only [XExpr.v_eq]; done) | (simp_all; done) | (simp_all [XExpr.v_eq]; done)), fun _ => .inl (by first | (simp only [setBox_own]; done) | (simp only [setBox_own]; rfl) | rfl)⟩) ?_
    refine wF h fun hc22 h => ?_
    refine AWp.reg fun Z23 hZ23 => ?_
    (try simp only [XValue.v_eq, XExpr.v_eq, he3b0, he3b0.symm, xm, Nat.reduceAdd, Nat.reduceLeDiff, seval, reduceCtorEq])
    obtain ⟨y24, hy24, h⟩ := call_some h
    refine (c119_1 ((ByteArray.mk #[71, 76, 79, 66])) y21.2 _ hy24 _ b0 (by first | exact setBox_same | (simp only [setBox_same, setBox_ne, he3b0, he3b0.symm, ne_eq, not_false_eq_true]))).go ?_
    (try simp only [XValue.v_eq, XExpr.v_eq, he3b0, he3b0.symm, xm, Nat.reduceAdd, Nat.reduceLeDiff, seval, reduceCtorEq])
    refine hZ23 _ ?_; clear hZ23 Z23
    refine AWp.heapLe (s' := ((s.setBox b0 ([.slice 3 (List.map XToken.v y24.2.l), vint y24.2.at_, vint y24.2.params], 118)).setBox e3 ([vint w6.op, vbool w6.not, vstr w6.table, vstr w6.name, vint w6.n, vint w6.v_.kind, vint w6.v_.int, vstr w6.v_.text, .slice 10 (List.map XExpr.v w6.args), .slice 5 (List.map XSelect.v w6.sub)], 29))) (⟨fun k => .inl (by simp only [Heap.setBox, Heap.setOwn, owns_box, upd] <;> (repeat' split) <;> first | with_reducible rfl | (simp only [XExpr.v_eq]; done) | (simp_all; done) | (simp_all [XExpr.v_eq]; done)), fun _ => .inl (by first | (simp only [setBox_own]; done) | (simp only [setBox_own]; rfl) | rfl)⟩) ?_
    refine wF h fun hc25 h => ?_
    refine AWp.reg fun Z26 hZ26 => ?_
    (try simp only [XValue.v_eq, XExpr.v_eq, he3b0, he3b0.symm, xm, Nat.reduceAdd, Nat.reduceLeDiff, seval, reduceCtorEq])
    obtain ⟨y27, hy27, h⟩ := call_some h
    refine (c119_1 ((ByteArray.mk #[66, 69, 84, 87, 69, 69, 78])) y24.2 _ hy27 _ b0 (by first | exact setBox_same | (simp only [setBox_same, setBox_ne, he3b0, he3b0.symm, ne_eq, not_false_eq_true]))).go ?_
    (try simp only [XValue.v_eq, XExpr.v_eq, he3b0, he3b0.symm, xm, Nat.reduceAdd, Nat.reduceLeDiff, seval, reduceCtorEq])
    refine hZ26 _ ?_; clear hZ26 Z26
    refine AWp.heapLe (s' := ((s.setBox b0 ([.slice 3 (List.map XToken.v y27.2.l), vint y27.2.at_, vint y27.2.params], 118)).setBox e3 ([vint w6.op, vbool w6.not, vstr w6.table, vstr w6.name, vint w6.n, vint w6.v_.kind, vint w6.v_.int, vstr w6.v_.text, .slice 10 (List.map XExpr.v w6.args), .slice 5 (List.map XSelect.v w6.sub)], 29))) (⟨fun k => .inl (by simp only [Heap.setBox, Heap.setOwn, owns_box, upd] <;> (repeat' split) <;> first | with_reducible rfl | (simp only [XExpr.v_eq]; done) | (simp_all; done) | (simp_all [XExpr.v_eq]; done)), fun _ => .inl (by first | (simp only [setBox_own]; done) | (simp only [setBox_own]; rfl) | rfl)⟩) ?_
    refine wF h fun hc28 h => ?_
    refine AWp.reg fun Z29 hZ29 => ?_
    (try simp only [XValue.v_eq, XExpr.v_eq, he3b0, he3b0.symm, xm, Nat.reduceAdd, Nat.reduceLeDiff, seval, reduceCtorEq])
    obtain ⟨y30, hy30, h⟩ := call_some h
    refine (c119_1 ((ByteArray.mk #[73, 78])) y27.2 _ hy30 _ b0 (by first | exact setBox_same | (simp only [setBox_same, setBox_ne, he3b0, he3b0.symm, ne_eq, not_false_eq_true]))).go ?_
    (try simp only [XValue.v_eq, XExpr.v_eq, he3b0, he3b0.symm, xm, Nat.reduceAdd, Nat.reduceLeDiff, seval, reduceCtorEq])
    refine hZ29 _ ?_; clear hZ29 Z29
    refine AWp.heapLe (s' := ((s.setBox b0 ([.slice 3 (List.map XToken.v y30.2.l), vint y30.2.at_, vint y30.2.params], 118)).setBox e3 ([vint w6.op, vbool w6.not, vstr w6.table, vstr w6.name, vint w6.n, vint w6.v_.kind, vint w6.v_.int, vstr w6.v_.text, .slice 10 (List.map XExpr.v w6.args), .slice 5 (List.map XSelect.v w6.sub)], 29))) (⟨fun k => .inl (by simp only [Heap.setBox, Heap.setOwn, owns_box, upd] <;> (repeat' split) <;> first | with_reducible rfl | (simp only [XExpr.v_eq]; done) | (simp_all; done) | (simp_all [XExpr.v_eq]; done)), fun _ => .inl (by first | (simp only [setBox_own]; done) | (simp only [setBox_own]; rfl) | rfl)⟩) ?_
    refine wF h fun hc31 h => ?_
    refine AWp.reg fun Z32 hZ32 => ?_
    (try simp only [XValue.v_eq, XExpr.v_eq, he3b0, he3b0.symm, xm, Nat.reduceAdd, Nat.reduceLeDiff, seval, reduceCtorEq])
    refine hZ32 _ ?_; clear hZ32 Z32
    refine wF h fun hc33 h => ?_
    refine AWp.reg fun Z34 hZ34 => ?_
    (try simp only [XValue.v_eq, XExpr.v_eq, he3b0, he3b0.symm, xm, Nat.reduceAdd, Nat.reduceLeDiff, seval, reduceCtorEq])
    refine hZ34 _ ?_; clear hZ34 Z34
    refine AWp.ret ?_
    refine ⟨_, St.to.refl _, ?_⟩
    obtain rfl := Option.some.inj h
    refine ret_go (vs := [.agg [vint w6.op, vbool w6.not, vstr w6.table, vstr w6.name, vint w6.n, vint w6.v_.kind, vint w6.v_.int, vstr w6.v_.text, .slice 10 (List.map XExpr.v w6.args), .slice 5 (List.map XSelect.v w6.sub)]]) (v := .agg w6.v) (by show resV Tryz.prog _ [.cell 2 29] = _; simp only [resV, ty29, XValue.v_eq, XExpr.v_eq, am, seval, reduceCtorEq]) (Wk.agg (by rw [XExpr.v_eq]; exact ⟨Wk.refl _, Wk.refl _, Wk.refl _, Wk.refl _, Wk.refl _, Wk.refl _, Wk.refl _, Wk.refl _, Wk.refl _, Wk.refl _, trivial⟩)) (Heap.le.trans (Heap.le.dropBox (by simp only [setBox_ne, owns_box, he3b0, he3b0.symm, ne_eq, not_false_eq_true, ne3]) _) (Heap.le.refl _)) ⟨_, rfl, ?_, rfl⟩
    rfl
def s140_1 (m0 : XReader) : Option (PX (Int × XReader) (XExpr × XReader)) := (call (s183_1 0 m0) fun y3 => (way ((y3.1.data.toList == ((ByteArray.mk #[78, 79, 84])).data.toList)) none (call (s119_1 ((ByteArray.mk #[78, 79, 84])) y3.2) fun y5 => (way y5.1 none (callP (s210_1 y5.2) (fun q8 => (q8.1, q8.2)) fun y7 => (some (PX.ok ((y7.1, y7.2)))))))))
theorem c140_1 (m0 : XReader) (r : PX (Int × XReader) (XExpr × XReader)) (h : s140_1 m0 = some r) : GivesP1 Tryz.prog 140 (fun b0 => [.ptr b0 0]) (wrongV 177) r (fun y => .agg y.1.v) ([.slice 3 (List.map XToken.v m0.l), vint m0.at_, vint m0.params], 118) (fun q => ([.slice 3 (List.map XToken.v q.2.l), vint q.2.at_, vint q.2.params], 118)) (fun y => ([.slice 3 (List.map XToken.v y.2.l), vint y.2.at_, vint y.2.params], 118)) := by
  refine givesP1_of fun s b0 pp hpp => ?_
  unfold s140_1 at h
  refine acallsP_of (fn := Tryz.f140) Tryz.func140 rfl (by decide) (by show 1 ≤ 33; decide) ?_
  rw [Tryz.ntmps140]
  refine AWp.post ?_
  refine rgF ((And.intro ((@XValue.v_eq)) <| (@XExpr.v_eq))) ?_
  refine AWp.seq_k fun K1 hK1 => ?_
  refine AWp.block ?_
  refine AWp.reg fun Z2 hZ2 => ?_
  (try simp only [XValue.v_eq, XExpr.v_eq, undef, Bool.not_true, Bool.not_false, xm, Nat.reduceAdd, Nat.reduceLeDiff, seval, reduceCtorEq])
  obtain ⟨y3, hy3, h⟩ := call_some h
  refine (c183_1 0 m0 _ hy3 _ b0 (by first | exact setBox_same | (simp only [setBox_same, setBox_ne, ne_eq, not_false_eq_true]))).go ?_
  (try simp only [XValue.v_eq, XExpr.v_eq, undef, Bool.not_true, Bool.not_false, xm, Nat.reduceAdd, Nat.reduceLeDiff, seval, reduceCtorEq])
  refine gTS h (by rfl) (fun _ h => by cases h) (fun hg4 h => ?_)
  (try simp only [hg4, XValue.v_eq, XExpr.v_eq, undef, Bool.not_true, Bool.not_false, xm, Nat.reduceAdd, Nat.reduceLeDiff, seval, reduceCtorEq])
  refine hZ2 _ ?_; clear hZ2 Z2
  refine hL (s' := (s.setBox b0 ([.slice 3 (List.map XToken.v y3.2.l), vint y3.2.at_, vint y3.2.params], 118))) ?_
  refine AWp.cond (t := false) (by rfl) (fun hf => by cases hf) (fun _ => ?_)
  obtain ⟨y5, hy5, h⟩ := call_some h
  refine rgFC ((And.intro ((@XValue.v_eq)) <| (@XExpr.v_eq))) (c119_1 ((ByteArray.mk #[78, 79, 84])) y3.2 _ hy5) ?_
  refine hL (s' := (s.setBox b0 ([.slice 3 (List.map XToken.v y5.2.l), vint y5.2.at_, vint y5.2.params], 118))) ?_
  refine wF h fun hc6 h => ?_
  refine AWp.skip ?_
  refine hK1 _ ?_; clear hK1
  refine rgFP ((And.intro ((@XValue.v_eq)) <| (@XExpr.v_eq))) hpp (c210_1 y5.2) h fun y7 hy7 h => ?_
  refine hL (s' := (s.setBox b0 ([.slice 3 (List.map XToken.v y7.2.l), vint y7.2.at_, vint y7.2.params], 118))) ?_
  refine AWp.ret ?_
  refine ⟨_, St.to.refl _, ?_⟩
  obtain rfl := Option.some.inj h
  refine ret_go (vs := [.agg [vint y7.1.op, vbool y7.1.not, vstr y7.1.table, vstr y7.1.name, vint y7.1.n, vint y7.1.v_.kind, vint y7.1.v_.int, vstr y7.1.v_.text, .slice 10 (List.map XExpr.v y7.1.args), .slice 5 (List.map XSelect.v y7.1.sub)]]) (v := .agg y7.1.v) (by show resV Tryz.prog _ [.cell 2 29] = _; simp only [resV, ty29, XValue.v_eq, XExpr.v_eq, am, seval, reduceCtorEq]) (Wk.agg (by rw [XExpr.v_eq]; exact ⟨Wk.refl _, Wk.refl _, Wk.refl _, Wk.refl _, Wk.refl _, Wk.refl _, Wk.refl _, Wk.refl _, Wk.refl _, Wk.refl _, trivial⟩)) (Heap.le.refl _) ⟨_, rfl, ?_, rfl⟩
  rfl
def s73_2 (x1 : ByteArray) (m0 : XReader) : Option (PX (Int × XReader) (XExpr × XReader)) := (callP (s140_1 m0) (fun q2 => (q2.1, q2.2)) fun y1 => (loopC (fun (u7 : XExpr × XExpr × XReader → Option (PX (Int × XReader) (XExpr × XReader))) (q6 : XExpr × XExpr × XReader) => (call (s139_1 x1 q6.2.2) fun y8 => (way ((y8.2.1 == 0)) (some (PX.ok ((q6.2.1, y8.2.2)))) none))) manyC ((XExpr.mk 0 false ByteArray.empty ByteArray.empty 0 ((XValue.mk 0 0 ByteArray.empty)) (([] : List XExpr)) (([] : List XSelect))), y1.1, y1.2)))
theorem c73_2 (x1 : ByteArray) (m0 : XReader) (r : PX (Int × XReader) (XExpr × XReader)) (h : s73_2 x1 m0 = some r) : GivesP1 Tryz.prog 73 (fun b0 => [.ptr b0 0, vstr x1, .func 140 [.ptr b0 0] []]) (wrongV 177) r (fun y => .agg y.1.v) ([.slice 3 (List.map XToken.v m0.l), vint m0.at_, vint m0.params], 118) (fun q => ([.slice 3 (List.map XToken.v q.2.l), vint q.2.at_, vint q.2.params], 118)) (fun y => ([.slice 3 (List.map XToken.v y.2.l), vint y.2.at_, vint y.2.params], 118)) := by
  refine givesP1_of fun s b0 pp hpp => ?_
  unfold s73_2 at h
  refine acallsP_of (fn := Tryz.f73) Tryz.func73 rfl (by decide) (by show 3 ≤ 35; decide) ?_
  rw [Tryz.ntmps73]
  refine AWp.post ?_
  refine rgF ((And.intro ((@XValue.v_eq)) <| (@XExpr.v_eq))) ?_
  refine rgFP ((And.intro ((@XValue.v_eq)) <| (@XExpr.v_eq))) hpp (c140_1 m0) h fun y1 hy1 h => ?_
  refine hL (s' := (s.setBox b0 ([.slice 3 (List.map XToken.v y1.2.l), vint y1.2.at_, vint y1.2.params], 118))) ?_
  refine AWp.block ?_
  refine AWp.loopS (X := XExpr × XExpr × XReader) (G := Unit) h (fun _ => True) (fun q6 _ => tstP pp [(0, .ptr b0 0), (1, vstr x1), (2, .func 140 [.ptr b0 0] []), (6, .loc 6 0), (7, .loc 7 0)] [(6, ([vint q6.1.op, vbool q6.1.not, vstr q6.1.table, vstr q6.1.name, vint q6.1.n, vint q6.1.v_.kind, vint q6.1.v_.int, vstr q6.1.v_.text, .slice 10 (List.map XExpr.v q6.1.args), .slice 5 (List.map XSelect.v q6.1.sub)], 29)), (7, ([vint q6.2.1.op, vbool q6.2.1.not, vstr q6.2.1.table, vstr q6.2.1.name, vint q6.2.1.n, vint q6.2.1.v_.kind, vint q6.2.1.v_.int, vstr q6.2.1.v_.text, .slice 10 (List.map XExpr.v q6.2.1.args), .slice 5 (List.map XSelect.v q6.2.1.sub)], 29))] (s.setBox b0 ([.slice 3 (List.map XToken.v q6.2.2.l), vint q6.2.2.at_, vint q6.2.2.params], 118)) 35) ?_ ?_
  · refine ⟨(), trivial, ?_⟩
    refine St.to.wkB 6 [vint 0, vbool false, vstr ByteArray.empty, vstr ByteArray.empty, vint 0, vint 0, vint 0, vstr ByteArray.empty, .slice 10 (List.map XExpr.v ((([] : List XExpr)))), .slice 5 (List.map XSelect.v ((([] : List XSelect))))] (cs := [vint 0, vbool false, vstr ByteArray.empty, vstr ByteArray.empty, vint 0, vint 0, vint 0, vstr ByteArray.empty, .nil, .nil]) (ty := 29) (by first | rfl | (show some _ = some _; simp only [List.map_cons, List.map_nil, XExpr.v_eq]) | (show some _ = some _; simp only [List.nil_append, List.cons_append, List.map_append, List.map_cons, List.map_nil, XExpr.v_eq])) (⟨Wk.refl _, Wk.refl _, Wk.refl _, Wk.refl _, Wk.refl _, Wk.refl _, Wk.refl _, Wk.refl _, Wk.nil _, Wk.nil _, trivial⟩) ?_
    exact tlePF ((And.intro (@XValue.v_eq) <| @XExpr.v_eq))
  · rintro u7 ⟨b3, b4, w5⟩ h _ _
    (try dsimp only at h ⊢)
    refine AWp.block ?_
    obtain ⟨y8, hy8, h⟩ := call_some h
    refine rgFC ((And.intro ((@XValue.v_eq)) <| (@XExpr.v_eq))) (c139_1 x1 w5 _ hy8) ?_
    refine hL (s' := (s.setBox b0 ([.slice 3 (List.map XToken.v y8.2.2.l), vint y8.2.2.at_, vint y8.2.2.params], 118))) ?_
    refine AWp.seq_k fun K9 hK9 => ?_
    refine rgF ((And.intro ((@XValue.v_eq)) <| (@XExpr.v_eq))) ?_
    refine wT h fun hc10 h => ?_
    refine rgF ((And.intro ((@XValue.v_eq)) <| (@XExpr.v_eq))) ?_
    refine AWp.ret ?_
    refine ⟨_, St.to.refl _, ?_⟩
    obtain rfl := Option.some.inj h
    refine ret_go (vs := [.agg [vint b4.op, vbool b4.not, vstr b4.table, vstr b4.name, vint b4.n, vint b4.v_.kind, vint b4.v_.int, vstr b4.v_.text, .slice 10 (List.map XExpr.v b4.args), .slice 5 (List.map XSelect.v b4.sub)]]) (v := .agg b4.v) (by show resV Tryz.prog _ [.cell 6 29] = _; simp only [resV, ty29, XValue.v_eq, XExpr.v_eq, am, seval, reduceCtorEq]) (Wk.agg (by rw [XExpr.v_eq]; exact ⟨Wk.refl _, Wk.refl _, Wk.refl _, Wk.refl _, Wk.refl _, Wk.refl _, Wk.refl _, Wk.refl _, Wk.refl _, Wk.refl _, trivial⟩)) (Heap.le.refl _) ⟨_, rfl, ?_, rfl⟩
    rfl
def s74_1 (m0 : XReader) : Option (PX (Int × XReader) (XExpr × XReader)) := (callP (s73_2 ((ByteArray.mk #[97, 110, 100])) m0) (fun q2 => (q2.1, q2.2)) fun y1 => (some (PX.ok ((y1.1, y1.2)))))
theorem c74_1 (m0 : XReader) (r : PX (Int × XReader) (XExpr × XReader)) (h : s74_1 m0 = some r) : GivesP1 Tryz.prog 74 (fun b0 => [.ptr b0 0]) (wrongV 177) r (fun y => .agg y.1.v) ([.slice 3 (List.map XToken.v m0.l), vint m0.at_, vint m0.params], 118) (fun q => ([.slice 3 (List.map XToken.v q.2.l), vint q.2.at_, vint q.2.params], 118)) (fun y => ([.slice 3 (List.map XToken.v y.2.l), vint y.2.at_, vint y.2.params], 118)) := by
  refine givesP1_of fun s b0 pp hpp => ?_
  unfold s74_1 at h
  refine acallsP_of (fn := Tryz.f74) Tryz.func74 rfl (by decide) (by show 1 ≤ 7; decide) ?_
  rw [Tryz.ntmps74]
  refine AWp.post ?_
  refine rg ?_
  refine rgP hpp (c73_2 ((ByteArray.mk #[97, 110, 100])) m0) h fun y1 hy1 h => ?_
  refine hL (s' := (s.setBox b0 ([.slice 3 (List.map XToken.v y1.2.l), vint y1.2.at_, vint y1.2.params], 118))) ?_
  refine AWp.ret ?_
  obtain rfl := Option.some.inj h
  exact rtP [.cell 2 29]
def s73_1 (x1 : ByteArray) (m0 : XReader) : Option (PX (Int × XReader) (XExpr × XReader)) := (callP (s74_1 m0) (fun q2 => (q2.1, q2.2)) fun y1 => (loopC (fun (u7 : XExpr × XExpr × XReader → Option (PX (Int × XReader) (XExpr × XReader))) (q6 : XExpr × XExpr × XReader) => (call (s139_1 x1 q6.2.2) fun y8 => (way ((y8.2.1 == 0)) (some (PX.ok ((q6.2.1, y8.2.2)))) none))) manyC ((XExpr.mk 0 false ByteArray.empty ByteArray.empty 0 ((XValue.mk 0 0 ByteArray.empty)) (([] : List XExpr)) (([] : List XSelect))), y1.1, y1.2)))
theorem c73_1 (x1 : ByteArray) (m0 : XReader) (r : PX (Int × XReader) (XExpr × XReader)) (h : s73_1 x1 m0 = some r) : GivesP1 Tryz.prog 73 (fun b0 => [.ptr b0 0, vstr x1, .func 74 [.ptr b0 0] []]) (wrongV 177) r (fun y => .agg y.1.v) ([.slice 3 (List.map XToken.v m0.l), vint m0.at_, vint m0.params], 118) (fun q => ([.slice 3 (List.map XToken.v q.2.l), vint q.2.at_, vint q.2.params], 118)) (fun y => ([.slice 3 (List.map XToken.v y.2.l), vint y.2.at_, vint y.2.params], 118)) := by
  refine givesP1_of fun s b0 pp hpp => ?_
  unfold s73_1 at h
  refine acallsP_of (fn := Tryz.f73) Tryz.func73 rfl (by decide) (by show 3 ≤ 35; decide) ?_
  rw [Tryz.ntmps73]
  refine AWp.post ?_
  refine rgF ((And.intro ((@XValue.v_eq)) <| (@XExpr.v_eq))) ?_
  refine rgFP ((And.intro ((@XValue.v_eq)) <| (@XExpr.v_eq))) hpp (c74_1 m0) h fun y1 hy1 h => ?_
  refine hL (s' := (s.setBox b0 ([.slice 3 (List.map XToken.v y1.2.l), vint y1.2.at_, vint y1.2.params], 118))) ?_
  refine AWp.block ?_
  refine AWp.loopS (X := XExpr × XExpr × XReader) (G := Unit) h (fun _ => True) (fun q6 _ => tstP pp [(0, .ptr b0 0), (1, vstr x1), (2, .func 74 [.ptr b0 0] []), (6, .loc 6 0), (7, .loc 7 0)] [(6, ([vint q6.1.op, vbool q6.1.not, vstr q6.1.table, vstr q6.1.name, vint q6.1.n, vint q6.1.v_.kind, vint q6.1.v_.int, vstr q6.1.v_.text, .slice 10 (List.map XExpr.v q6.1.args), .slice 5 (List.map XSelect.v q6.1.sub)], 29)), (7, ([vint q6.2.1.op, vbool q6.2.1.not, vstr q6.2.1.table, vstr q6.2.1.name, vint q6.2.1.n, vint q6.2.1.v_.kind, vint q6.2.1.v_.int, vstr q6.2.1.v_.text, .slice 10 (List.map XExpr.v q6.2.1.args), .slice 5 (List.map XSelect.v q6.2.1.sub)], 29))] (s.setBox b0 ([.slice 3 (List.map XToken.v q6.2.2.l), vint q6.2.2.at_, vint q6.2.2.params], 118)) 35) ?_ ?_
  · refine ⟨(), trivial, ?_⟩
    refine St.to.wkB 6 [vint 0, vbool false, vstr ByteArray.empty, vstr ByteArray.empty, vint 0, vint 0, vint 0, vstr ByteArray.empty, .slice 10 (List.map XExpr.v ((([] : List XExpr)))), .slice 5 (List.map XSelect.v ((([] : List XSelect))))] (cs := [vint 0, vbool false, vstr ByteArray.empty, vstr ByteArray.empty, vint 0, vint 0, vint 0, vstr ByteArray.empty, .nil, .nil]) (ty := 29) (by first | rfl | (show some _ = some _; simp only [List.map_cons, List.map_nil, XExpr.v_eq]) | (show some _ = some _; simp only [List.nil_append, List.cons_append, List.map_append, List.map_cons, List.map_nil, XExpr.v_eq])) (⟨Wk.refl _, Wk.refl _, Wk.refl _, Wk.refl _, Wk.refl _, Wk.refl _, Wk.refl _, Wk.refl _, Wk.nil _, Wk.nil _, trivial⟩) ?_
    exact tlePF ((And.intro (@XValue.v_eq) <| @XExpr.v_eq))
  · rintro u7 ⟨b3, b4, w5⟩ h _ _
    (try dsimp only at h ⊢)
    refine AWp.block ?_
    obtain ⟨y8, hy8, h⟩ := call_some h
    refine rgFC ((And.intro ((@XValue.v_eq)) <| (@XExpr.v_eq))) (c139_1 x1 w5 _ hy8) ?_
    refine hL (s' := (s.setBox b0 ([.slice 3 (List.map XToken.v y8.2.2.l), vint y8.2.2.at_, vint y8.2.2.params], 118))) ?_
    refine AWp.seq_k fun K9 hK9 => ?_
    refine rgF ((And.intro ((@XValue.v_eq)) <| (@XExpr.v_eq))) ?_
    refine wT h fun hc10 h => ?_
    refine rgF ((And.intro ((@XValue.v_eq)) <| (@XExpr.v_eq))) ?_
    refine AWp.ret ?_
    refine ⟨_, St.to.refl _, ?_⟩
    obtain rfl := Option.some.inj h
    refine ret_go (vs := [.agg [vint b4.op, vbool b4.not, vstr b4.table, vstr b4.name, vint b4.n, vint b4.v_.kind, vint b4.v_.int, vstr b4.v_.text, .slice 10 (List.map XExpr.v b4.args), .slice 5 (List.map XSelect.v b4.sub)]]) (v := .agg b4.v) (by show resV Tryz.prog _ [.cell 6 29] = _; simp only [resV, ty29, XValue.v_eq, XExpr.v_eq, am, seval, reduceCtorEq]) (Wk.agg (by rw [XExpr.v_eq]; exact ⟨Wk.refl _, Wk.refl _, Wk.refl _, Wk.refl _, Wk.refl _, Wk.refl _, Wk.refl _, Wk.refl _, Wk.refl _, Wk.refl _, trivial⟩)) (Heap.le.refl _) ⟨_, rfl, ?_, rfl⟩
    rfl
def s37_1 (m0 : XReader) : Option (PX (Int × XReader) (XExpr × XReader)) := (callP (s73_1 ((ByteArray.mk #[111, 114])) m0) (fun q2 => (q2.1, q2.2)) fun y1 => (some (PX.ok ((y1.1, y1.2)))))
theorem c37_1 (m0 : XReader) (r : PX (Int × XReader) (XExpr × XReader)) (h : s37_1 m0 = some r) : GivesP1 Tryz.prog 37 (fun b0 => [.ptr b0 0]) (wrongV 177) r (fun y => .agg y.1.v) ([.slice 3 (List.map XToken.v m0.l), vint m0.at_, vint m0.params], 118) (fun q => ([.slice 3 (List.map XToken.v q.2.l), vint q.2.at_, vint q.2.params], 118)) (fun y => ([.slice 3 (List.map XToken.v y.2.l), vint y.2.at_, vint y.2.params], 118)) := by
  refine givesP1_of fun s b0 pp hpp => ?_
  unfold s37_1 at h
  refine acallsP_of (fn := Tryz.f37) Tryz.func37 rfl (by decide) (by show 1 ≤ 7; decide) ?_
  rw [Tryz.ntmps37]
  refine AWp.post ?_
  refine rg ?_
  refine rgP hpp (c73_1 ((ByteArray.mk #[111, 114])) m0) h fun y1 hy1 h => ?_
  refine hL (s' := (s.setBox b0 ([.slice 3 (List.map XToken.v y1.2.l), vint y1.2.at_, vint y1.2.params], 118))) ?_
  refine AWp.ret ?_
  obtain rfl := Option.some.inj h
  exact rtP [.cell 2 29]
def s36_1 (x0 : ByteArray) : Option (XExpr × Int × Int) := (call (s71 x0) fun y1 => (way ((y1.2.2 != 0)) none (call (takeS72 s37_1 y1.1 0 0) fun y5 => (way ((y5.2.2 != 0)) none (way ((decide (y5.2.1.at_ < (((y1.1.length : Nat) : Int))))) (way ((decide (y5.2.1.at_ < (((y1.1.length : Nat) : Int))))) (need (0 ≤ y5.2.1.at_ ∧ y5.2.1.at_ < ((y1.1.length : Nat) : Int)) (some (((XExpr.mk 0 false ByteArray.empty ByteArray.empty 0 ((XValue.mk 0 0 ByteArray.empty)) (([] : List XExpr)) (([] : List XSelect))), ((y1.1.getD y5.2.1.at_.toNat XToken.z)).at_, 260)))) none) (call (s27 y5.1) fun y20 => (way ((decide (y20 > 12))) none (some ((y5.1, 0, 0))))))))))
theorem c36_1 (x0 : ByteArray) (r : XExpr × Int × Int) (h : s36_1 x0 = some r) : Gives Tryz.prog 36 [vstr x0, .func 37 [] [], .func 27 [] []] (.tuple [.agg r.1.v, vint r.2.1, vint r.2.2]) := by
  intro s
  unfold s36_1 at h
  refine acalls_of (fn := Tryz.f36) Tryz.func36 rfl (by decide) (by show 3 ≤ 69; decide) ?_
  rw [Tryz.ntmps36]
  refine rg ?_
  refine rg ?_
  obtain ⟨y1, hy1, h⟩ := call_some h
  refine rgC (c71 x0 _ hy1) ?_
  refine AWp.seq_k fun K2 hK2 => ?_
  refine rg ?_
  refine wF h fun hc3 h => ?_
  refine AWp.skip ?_
  refine hK2 _ ?_; clear hK2
  refine AWp.reg fun Z4 hZ4 => ?_
  (try simp only [xm, Nat.reduceAdd, Nat.reduceLeDiff, seval, reduceCtorEq])
  obtain ⟨y5, hy5, h⟩ := call_some h
  refine (take72 (R := s37_1) c37_1 _ hy5 _).goNew fun e6 he6 => ?_
  change (s).box e6 = none at he6
  have ne6 : s.box e6 = none := by simpa only [setBox_ne, owns_box, ne_eq, not_false_eq_true] using he6
  (try simp only [xm, Nat.reduceAdd, Nat.reduceLeDiff, seval, reduceCtorEq])
  refine hZ4 _ ?_; clear hZ4 Z4
  refine AWp.seq_k fun K7 hK7 => ?_
  refine AWp.reg fun Z8 hZ8 => ?_
  (try simp only [undef, Bool.not_true, Bool.not_false, xm, Nat.reduceAdd, Nat.reduceLeDiff, seval, reduceCtorEq])
  refine gFS h (by rfl) (fun _ h => by cases h) (fun hg9 h => ?_)
  (try simp only [hg9, undef, Bool.not_true, Bool.not_false, xm, Nat.reduceAdd, Nat.reduceLeDiff, seval, reduceCtorEq])
  refine hZ8 _ ?_; clear hZ8 Z8
  refine ws h (fun hc10 h => ?_) fun hc10 h => ?_
  · refine AWp.seq_k fun K11 hK11 => ?_
    refine AWp.reg fun Z12 hZ12 => ?_
    (try simp only [xm, Nat.reduceAdd, Nat.reduceLeDiff, seval, reduceCtorEq])
    refine hZ12 _ ?_; clear hZ12 Z12
    refine wT h fun hc13 h => ?_
    refine AWp.regLT mixed 5 9 [0, 1, 2, 3, 4, 5, 6, 7, 8, 9, 10, 11] [0, 1, 2, 3, 4, 9, 5, 6, 7, 8, 10, 11] (by decide +kernel) [6, 100059] [6] (by decide +kernel) (by decide +kernel) (fun Z14 hZ14 => ?_) (fun Z14 hZ14 => ?_)
    · obtain ⟨hn17, h⟩ := need_some h
      (try simp only [isT hn17.1, isT hn17.2, getD_enc XToken.v XToken.z hn17, addEdge_get, addE, aml, Nat.reduceBEq, xm, Nat.reduceAdd, Nat.reduceLeDiff, seval, reduceCtorEq])
      refine hZ14 _ ?_; clear hZ14 Z14
      refine AWp.ret ?_
      obtain rfl := Option.some.inj h
      refine ret_go (vs := [.agg [vint 0, vbool false, vstr ByteArray.empty, vstr ByteArray.empty, vint 0, vint 0, vint 0, vstr ByteArray.empty, .nil, .nil], vint (((y1.1.getD y5.2.1.at_.toNat XToken.z)).at_), vint 260]) (v := .tuple [.agg ((XExpr.mk 0 false ByteArray.empty ByteArray.empty 0 ((XValue.mk 0 0 ByteArray.empty)) (([] : List XExpr)) (([] : List XSelect)))).v, vint (((y1.1.getD y5.2.1.at_.toNat XToken.z)).at_), vint 260]) (by show resV Tryz.prog _ [.cell 6 29, .tmp 7, .tmp 8] = _; simp only [resV, ty29, XExpr.vs, XReader.vs, XToken.vs, am, seval, reduceCtorEq]) (Wk.tuple ⟨Wk.agg (by rw [XExpr.v_eq]; exact ⟨Wk.refl _, Wk.refl _, Wk.refl _, Wk.refl _, Wk.refl _, Wk.refl _, Wk.refl _, Wk.refl _, Wk.nil _, Wk.nil _, trivial⟩), Wk.refl _, Wk.refl _, trivial⟩) (Heap.le.trans (Heap.le.dropBox (by simp only [setBox_ne, owns_box, ne_eq, not_false_eq_true, ne6]) _) (Heap.le.refl _)) ⟨?_, rfl⟩
      rfl
    · obtain ⟨hn17, h⟩ := need_some h
      (try simp only [isT hn17.1, isT hn17.2, getD_enc XToken.v XToken.z hn17, addEdge_get, addE, aml, Nat.reduceBEq, xm, Nat.reduceAdd, Nat.reduceLeDiff, seval, reduceCtorEq])
      refine hZ14 _ ?_; clear hZ14 Z14
      refine AWp.ret ?_
      obtain rfl := Option.some.inj h
      refine ret_go (vs := [.agg [vint 0, vbool false, vstr ByteArray.empty, vstr ByteArray.empty, vint 0, vint 0, vint 0, vstr ByteArray.empty, .nil, .nil], vint (((y1.1.getD y5.2.1.at_.toNat XToken.z)).at_), vint 260]) (v := .tuple [.agg ((XExpr.mk 0 false ByteArray.empty ByteArray.empty 0 ((XValue.mk 0 0 ByteArray.empty)) (([] : List XExpr)) (([] : List XSelect)))).v, vint (((y1.1.getD y5.2.1.at_.toNat XToken.z)).at_), vint 260]) (by show resV Tryz.prog _ [.cell 6 29, .tmp 7, .tmp 8] = _; simp only [resV, ty29, XExpr.vs, XReader.vs, XToken.vs, am, seval, reduceCtorEq]) (Wk.tuple ⟨Wk.agg (by rw [XExpr.v_eq]; exact ⟨Wk.refl _, Wk.refl _, Wk.refl _, Wk.refl _, Wk.refl _, Wk.refl _, Wk.refl _, Wk.refl _, Wk.nil _, Wk.nil _, trivial⟩), Wk.refl _, Wk.refl _, trivial⟩) (Heap.le.trans (Heap.le.dropBox (by simp only [setBox_ne, owns_box, ne_eq, not_false_eq_true, ne6]) _) (Heap.le.refl _)) ⟨?_, rfl⟩
      rfl
  · refine AWp.skip ?_
    refine hK7 _ ?_; clear hK7
    refine AWp.seq_k fun K18 hK18 => ?_
    refine AWp.reg fun Z19 hZ19 => ?_
    (try simp only [xm, Nat.reduceAdd, Nat.reduceLeDiff, seval, reduceCtorEq])
    obtain ⟨y20, hy20, h⟩ := call_some h
    refine (c27 y5.1 _ hy20 _).go ?_
    (try simp only [xm, Nat.reduceAdd, Nat.reduceLeDiff, seval, reduceCtorEq])
    refine hZ19 _ ?_; clear hZ19 Z19
    refine wF h fun hc21 h => ?_
    refine AWp.skip ?_
    refine hK18 _ ?_; clear hK18
    refine AWp.reg fun Z22 hZ22 => ?_
    (try simp only [xm, Nat.reduceAdd, Nat.reduceLeDiff, seval, reduceCtorEq])
    refine hZ22 _ ?_; clear hZ22 Z22
    refine AWp.ret ?_
    obtain rfl := Option.some.inj h
    refine ret_go (vs := [.agg y5.1.v, vint 0, vint 0]) (v := .tuple [.agg y5.1.v, vint 0, vint 0]) (by show resV Tryz.prog _ [.cell 6 29, .tmp 7, .tmp 8] = _; simp only [resV, ty29, XExpr.vs, XReader.vs, XToken.vs, am, seval, reduceCtorEq]) (Wk.tuple ⟨Wk.refl _, Wk.refl _, Wk.refl _, trivial⟩) (Heap.le.trans (Heap.le.dropBox (by simp only [setBox_ne, owns_box, ne_eq, not_false_eq_true, ne6]) _) (Heap.le.refl _)) ⟨?_, rfl⟩
    rfl
def s13 (x0 : ByteArray) : Option (XExpr × Int × Int) := (call (s36_1 x0) fun y1 => (some ((y1.1, y1.2.1, y1.2.2))))
theorem c13 (x0 : ByteArray) (r : XExpr × Int × Int) (h : s13 x0 = some r) : Gives Tryz.prog 13 [vstr x0] (.tuple [.agg r.1.v, vint r.2.1, vint r.2.2]) := by
  intro s
  unfold s13 at h
  refine acalls_of (fn := Tryz.f13) Tryz.func13 rfl (by decide) (by show 1 ≤ 10; decide) ?_
  rw [Tryz.ntmps13]
  refine rg ?_
  obtain ⟨y1, hy1, h⟩ := call_some h
  refine rgC (c36_1 x0 _ hy1) ?_
  refine AWp.ret ?_
  obtain rfl := Option.some.inj h
  exact rtn [.cell 2 29, .tmp 3, .tmp 4]
def s19 (x0 : XExpr) : Option (Int) := (call (s27 x0) fun y2 => (way ((decide (y2 > 12))) none (call (s47 x0) fun y4 => (way ((!y4)) none (some 0)))))
theorem c19 (x0 : XExpr) (r : Int) (h : s19 x0 = some r) : Gives Tryz.prog 19 [.agg x0.v] (vint r) := by
  intro s
  unfold s19 at h
  refine acalls_of (fn := Tryz.f19) Tryz.func19 rfl (by decide) (by show 1 ≤ 11; decide) ?_
  rw [Tryz.ntmps19]
  refine rg ?_
  refine AWp.seq_k fun K1 hK1 => ?_
  refine AWp.block ?_
  obtain ⟨y2, hy2, h⟩ := call_some h
  refine rgC (c27 x0 _ hy2) ?_
  refine wF h fun hc3 h => ?_
  obtain ⟨y4, hy4, h⟩ := call_some h
  refine rgC (c47 x0 _ hy4) ?_
  refine wF h fun hc5 h => ?_
  refine AWp.skip ?_
  refine hK1 _ ?_; clear hK1
  refine rg ?_
  refine AWp.ret ?_
  obtain rfl := Option.some.inj h
  exact rtn [.tmp 2]
def s82 (x0 : XValue) : Option (ByteArray × Int) := (call (s150 x0) fun y2 => (way ((!y2)) none (way ((x0.kind == 0)) none (way ((x0.kind == 1)) (call (n151 x0.int 10) fun y7 => (some ((y7, 0)))) none))))
theorem c82 (x0 : XValue) (r : ByteArray × Int) (h : s82 x0 = some r) : Gives Tryz.prog 82 [.agg x0.v] (.tuple [vstr r.1, vint r.2]) := by
  intro s
  unfold s82 at h
  refine acalls_of (fn := Tryz.f82) Tryz.func82 rfl (by decide) (by show 1 ≤ 49; decide) ?_
  rw [Tryz.ntmps82]
  refine rg ?_
  refine AWp.seq_k fun K1 hK1 => ?_
  obtain ⟨y2, hy2, h⟩ := call_some h
  refine rgC (c150 x0 _ hy2) ?_
  refine wF h fun hc3 h => ?_
  refine AWp.skip ?_
  refine hK1 _ ?_; clear hK1
  refine AWp.seq_k fun K4 hK4 => ?_
  refine rg ?_
  refine AWp.block ?_
  refine rg ?_
  refine wF h fun hc5 h => ?_
  refine rg ?_
  refine wT h fun hc6 h => ?_
  obtain ⟨y7, hy7, h⟩ := call_some h
  refine rgC (N151 x0.int 10 _ hy7) ?_
  refine AWp.ret ?_
  obtain rfl := Option.some.inj h
  exact rtn [.tmp 2, .tmp 3]
def s156 (x0 : XExpr) : Option (Bool) := (join (fun (u4 : Bool → Option (Bool)) => (way ((x0.op == 1)) (u4 (x0.op == 1)) (way ((x0.op == 2)) (u4 (x0.op == 2)) none))) (fun (q3 : Bool) => (way q3 (some true) none)))
theorem c156 (x0 : XExpr) (r : Bool) (h : s156 x0 = some r) : Gives Tryz.prog 156 [.agg x0.v] (vbool r) := by
  intro s
  unfold s156 at h
  refine acalls_of (fn := Tryz.f156) Tryz.func156 rfl (by decide) (by show 1 ≤ 18; decide) ?_
  rw [Tryz.ntmps156]
  refine rg ?_
  refine AWp.seq_k fun K1 hK1 => ?_
  refine rg ?_
  refine AWp.block ?_
  refine AWp.joinS (X := Bool) (G := Unit) h (fun _ => True) (fun q3 _ => tst [(1, .loc 1 0), (4, vint x0.op), (5, vbool q3)] [(1, (x0.v, 29))] s 18) (fun u4 h => ?_) ?_
  · refine rg ?_
    refine ws h (fun hc5 h => ?_) fun hc5 h => ?_
    · refine AWp.skip ?_
      exact ⟨(x0.op == 1), h, (), trivial, tle⟩
    · refine rg ?_
      refine wT h fun hc6 h => ?_
      refine AWp.skip ?_
      exact ⟨(x0.op == 2), h, (), trivial, tle⟩
  · rintro v2 h _ _
    refine wT h fun hc7 h => ?_
    refine rg ?_
    refine AWp.ret ?_
    obtain rfl := Option.some.inj h
    exact rtn [.tmp 2]
def s88 (x0 : Int) : Option (ByteArray) := (call (n157 ((ByteArray.mk #[43, 32, 45, 32, 42, 32, 47, 32, 37, 32, 124, 124, 32, 61, 32, 60, 62, 32, 60, 32, 60, 61, 32, 62, 32, 62, 61, 32, 73, 83, 32, 73, 83, 95, 78, 79, 84, 32, 65, 78, 68, 32, 79, 82, 32, 76, 73, 75, 69, 32, 71, 76, 79, 66])) ((ByteArray.mk #[32]))) fun y1 => (need (0 ≤ ((IntKind.i64.wrap (x0 - 7))) ∧ ((IntKind.i64.wrap (x0 - 7))) < ((y1.length : Nat) : Int)) (some ((y1.getD ((IntKind.i64.wrap (x0 - 7))).toNat ByteArray.empty)))))
theorem c88 (x0 : Int) (r : ByteArray) (h : s88 x0 = some r) : Gives Tryz.prog 88 [vint x0] (vstr r) := by
  intro s
  unfold s88 at h
  refine acalls_of (fn := Tryz.f88) Tryz.func88 rfl (by decide) (by show 1 ≤ 8; decide) ?_
  rw [Tryz.ntmps88]
  refine rg ?_
  obtain ⟨y1, hy1, h⟩ := call_some h
  obtain ⟨hn3, h⟩ := need_some h
  refine rgFC ((And.intro ((isT hn3.1)) <| And.intro ((isT hn3.2)) <| (getD_enc (fun x => [vstr x]) ByteArray.empty hn3))) (N157 ((ByteArray.mk #[43, 32, 45, 32, 42, 32, 47, 32, 37, 32, 124, 124, 32, 61, 32, 60, 62, 32, 60, 32, 60, 61, 32, 62, 32, 62, 61, 32, 73, 83, 32, 73, 83, 95, 78, 79, 84, 32, 65, 78, 68, 32, 79, 82, 32, 76, 73, 75, 69, 32, 71, 76, 79, 66])) ((ByteArray.mk #[32])) _ hy1) ?_
  refine AWp.ret ?_
  obtain rfl := Option.some.inj h
  exact rtn [.tmp 2]
structure F44_84 where
  p44 : XExpr → Option (ByteArray)
  p84 : XExpr → Option (ByteArray)
structure F44_84.Ok (F : F44_84) : Prop where
  p44 : ∀ (x0 : XExpr) (r : ByteArray), F.p44 x0 = some r → Gives Tryz.prog 44 [.agg x0.v] (vstr r)
  p84 : ∀ (x0 : XExpr) (r : ByteArray), F.p84 x0 = some r → Gives Tryz.prog 84 [.agg x0.v] (vstr r)
def b44 (F : F44_84) (x0 : XExpr) : Option (ByteArray) := (way ((x0.op == 1)) (call (s82 x0.v_) fun y3 => (some y3.1)) (way ((x0.op == 2)) (way ((!(x0.table.data.toList == ((ByteArray.mk #[])).data.toList))) none (some x0.name)) (way ((x0.op == 3)) none (way ((x0.op == 4)) none (way ((x0.op == 5)) none (way ((x0.op == 6)) none (way ((x0.op == 25)) none (way ((x0.op == 26)) none (way ((x0.op == 27)) none (way ((x0.op == 28)) none (way ((x0.op == 29)) none (way ((x0.op == 30)) none (way ((x0.op == 31)) none (way ((x0.op == 32)) none (way ((x0.op == 23)) none (way ((x0.op == 24)) none (need (0 ≤ (0 : Int) ∧ (0 : Int) < ((x0.args.length : Nat) : Int)) (need (0 ≤ (1 : Int) ∧ (1 : Int) < ((x0.args.length : Nat) : Int)) (call (F.p84 ((x0.args.getD 0 XExpr.z))) fun y29 => (need (y29.size + ((ByteArray.mk #[32])).size ≤ maxLen) (call (s88 x0.op) fun y31 => (call (n89 y31 ((ByteArray.mk #[95])) ((ByteArray.mk #[32]))) fun y32 => (need (((y29 ++ ((ByteArray.mk #[32])))).size + y32.size ≤ maxLen) (need (((((y29 ++ ((ByteArray.mk #[32])))) ++ y32)).size + ((ByteArray.mk #[32])).size ≤ maxLen) (call (F.p84 ((x0.args.getD 1 XExpr.z))) fun y35 => (need (((((((y29 ++ ((ByteArray.mk #[32])))) ++ y32)) ++ ((ByteArray.mk #[32])))).size + y35.size ≤ maxLen) (some ((((((((y29 ++ ((ByteArray.mk #[32])))) ++ y32)) ++ ((ByteArray.mk #[32])))) ++ y35)))))))))))))))))))))))))))))
theorem d44 (F : F44_84) (H : F.Ok) (x0 : XExpr) (r : ByteArray) (h : b44 F x0 = some r) : Gives Tryz.prog 44 [.agg x0.v] (vstr r) := by
  intro s
  unfold b44 at h
  refine acalls_of (fn := Tryz.f44) Tryz.func44 rfl (by decide) (by show 1 ≤ 236; decide) ?_
  rw [Tryz.ntmps44]
  refine rg ?_
  refine AWp.seq_k fun K1 hK1 => ?_
  refine rg ?_
  refine AWp.block ?_
  refine rg ?_
  refine ws h (fun hc2 h => ?_) fun hc2 h => ?_
  · obtain ⟨y3, hy3, h⟩ := call_some h
    refine rgC (c82 x0.v_ _ hy3) ?_
    refine rg ?_
    refine AWp.ret ?_
    obtain rfl := Option.some.inj h
    exact rtn [.tmp 2]
  · refine rg ?_
    refine ws h (fun hc4 h => ?_) fun hc4 h => ?_
    · refine AWp.seq_k fun K5 hK5 => ?_
      refine rg ?_
      refine wF h fun hc6 h => ?_
      refine AWp.skip ?_
      refine hK5 _ ?_; clear hK5
      refine rg ?_
      refine AWp.ret ?_
      obtain rfl := Option.some.inj h
      exact rtn [.tmp 2]
    · refine rg ?_
      refine wF h fun hc7 h => ?_
      refine rg ?_
      refine wF h fun hc8 h => ?_
      refine rg ?_
      refine wF h fun hc9 h => ?_
      refine rg ?_
      refine wF h fun hc10 h => ?_
      refine rg ?_
      refine wF h fun hc11 h => ?_
      refine rg ?_
      refine wF h fun hc12 h => ?_
      refine rg ?_
      refine wF h fun hc13 h => ?_
      refine rg ?_
      refine wF h fun hc14 h => ?_
      refine rg ?_
      refine wF h fun hc15 h => ?_
      refine rg ?_
      refine wF h fun hc16 h => ?_
      refine rg ?_
      refine wF h fun hc17 h => ?_
      refine rg ?_
      refine wF h fun hc18 h => ?_
      refine AWp.seq_k fun K19 hK19 => ?_
      refine rg ?_
      refine wF h fun hc20 h => ?_
      refine r1 ?_
      refine hK19 _ ?_; clear hK19
      refine wF h fun hc21 h => ?_
      refine AWp.skip ?_
      refine hK1 _ ?_; clear hK1
      refine AWp.regL mixed [0, 1, 2, 3, 6, 7, 12, 13, 14, 15, 4, 5, 8, 9, 10, 11, 16, 17, 18] (by decide +kernel) [100225, 100231, 100233] (by decide +kernel) fun Z22 hZ22 => ?_
      obtain ⟨hn24, h⟩ := need_some h
      have hg25 : (List.map XExpr.v x0.args).getD 0 [] = XExpr.v (x0.args.getD 0 XExpr.z) := getD_enc XExpr.v XExpr.z hn24
      obtain ⟨hn27, h⟩ := need_some h
      have hg28 : (List.map XExpr.v x0.args).getD 1 [] = XExpr.v (x0.args.getD 1 XExpr.z) := getD_enc XExpr.v XExpr.z hn27
      (try simp only [isT hn24.1, isT hn24.2, getD_enc XExpr.v XExpr.z hn24, hg25, isT hn27.1, isT hn27.2, getD_enc XExpr.v XExpr.z hn27, hg28, aml, Nat.reduceBEq, xm, Nat.reduceAdd, Nat.reduceLeDiff, seval, reduceCtorEq])
      obtain ⟨y29, hy29, h⟩ := call_some h
      refine (H.p84 ((x0.args.getD 0 XExpr.z)) _ hy29 _).go ?_
      obtain ⟨hn30, h⟩ := need_some h
      (try simp only [isT hn24.1, isT hn24.2, getD_enc XExpr.v XExpr.z hn24, hg25, isT hn27.1, isT hn27.2, getD_enc XExpr.v XExpr.z hn27, hg28, isT hn30, aml, Nat.reduceBEq, xm, Nat.reduceAdd, Nat.reduceLeDiff, seval, reduceCtorEq])
      obtain ⟨y31, hy31, h⟩ := call_some h
      refine (c88 x0.op _ hy31 _).go ?_
      (try simp only [isT hn24.1, isT hn24.2, getD_enc XExpr.v XExpr.z hn24, hg25, isT hn27.1, isT hn27.2, getD_enc XExpr.v XExpr.z hn27, hg28, isT hn30, aml, Nat.reduceBEq, xm, Nat.reduceAdd, Nat.reduceLeDiff, seval, reduceCtorEq])
      obtain ⟨y32, hy32, h⟩ := call_some h
      refine (N89 y31 ((ByteArray.mk #[95])) ((ByteArray.mk #[32])) _ hy32 _).go ?_
      obtain ⟨hn33, h⟩ := need_some h
      obtain ⟨hn34, h⟩ := need_some h
      (try simp only [isT hn24.1, isT hn24.2, getD_enc XExpr.v XExpr.z hn24, hg25, isT hn27.1, isT hn27.2, getD_enc XExpr.v XExpr.z hn27, hg28, isT hn30, isT hn33, isT hn34, aml, Nat.reduceBEq, xm, Nat.reduceAdd, Nat.reduceLeDiff, seval, reduceCtorEq])
      obtain ⟨y35, hy35, h⟩ := call_some h
      refine (H.p84 ((x0.args.getD 1 XExpr.z)) _ hy35 _).go ?_
      obtain ⟨hn36, h⟩ := need_some h
      (try simp only [isT hn24.1, isT hn24.2, getD_enc XExpr.v XExpr.z hn24, hg25, isT hn27.1, isT hn27.2, getD_enc XExpr.v XExpr.z hn27, hg28, isT hn30, isT hn33, isT hn34, isT hn36, aml, Nat.reduceBEq, xm, Nat.reduceAdd, Nat.reduceLeDiff, seval, reduceCtorEq])
      refine hZ22 _ ?_; clear hZ22 Z22
      refine AWp.ret ?_
      obtain rfl := Option.some.inj h
      exact rtn [.tmp 2]
def b84 (F : F44_84) (x0 : XExpr) : Option (ByteArray) := (call (s156 x0) fun y2 => (way y2 (call (F.p44 x0) fun y4 => (some y4)) none))
theorem d84 (F : F44_84) (H : F.Ok) (x0 : XExpr) (r : ByteArray) (h : b84 F x0 = some r) : Gives Tryz.prog 84 [.agg x0.v] (vstr r) := by
  intro s
  unfold b84 at h
  refine acalls_of (fn := Tryz.f84) Tryz.func84 rfl (by decide) (by show 1 ≤ 11; decide) ?_
  rw [Tryz.ntmps84]
  refine rg ?_
  refine AWp.seq_k fun K1 hK1 => ?_
  obtain ⟨y2, hy2, h⟩ := call_some h
  refine rgC (c156 x0 _ hy2) ?_
  refine wT h fun hc3 h => ?_
  obtain ⟨y4, hy4, h⟩ := call_some h
  refine rgC (H.p44 x0 _ hy4) ?_
  refine AWp.ret ?_
  obtain rfl := Option.some.inj h
  exact rtn [.tmp 2]
def F44_84.fix : Nat → F44_84
  | 0 => ⟨fun _ => none, fun _ => none⟩
  | n + 1 => ⟨b44 (F44_84.fix n), b84 (F44_84.fix n)⟩
theorem F44_84.ok : ∀ n, F44_84.Ok (F44_84.fix n)
  | 0 => ⟨(fun _ _ h => by cases h), (fun _ _ h => by cases h)⟩
  | n + 1 => ⟨d44 _ (F44_84.ok n), d84 _ (F44_84.ok n)⟩
def s44 := (F44_84.fix manyC).p44
theorem c44 : ∀ (x0 : XExpr) (r : ByteArray), s44 x0 = some r → Gives Tryz.prog 44 [.agg x0.v] (vstr r) := (F44_84.ok manyC).p44
def s17 (x0 : XExpr) : Option (ByteArray × Int) := (call (s19 x0) fun y2 => (way ((y2 != 0)) none (call (s44 x0) fun y4 => (some ((y4, 0))))))
theorem c17 (x0 : XExpr) (r : ByteArray × Int) (h : s17 x0 = some r) : Gives Tryz.prog 17 [.agg x0.v] (.tuple [vstr r.1, vint r.2]) := by
  intro s
  unfold s17 at h
  refine acalls_of (fn := Tryz.f17) Tryz.func17 rfl (by decide) (by show 1 ≤ 12; decide) ?_
  rw [Tryz.ntmps17]
  refine rg ?_
  refine AWp.seq_k fun K1 hK1 => ?_
  obtain ⟨y2, hy2, h⟩ := call_some h
  refine rgC (c19 x0 _ hy2) ?_
  refine rg ?_
  refine wF h fun hc3 h => ?_
  refine AWp.skip ?_
  refine hK1 _ ?_; clear hK1
  obtain ⟨y4, hy4, h⟩ := call_some h
  refine rgC (c44 x0 _ hy4) ?_
  refine AWp.ret ?_
  obtain rfl := Option.some.inj h
  exact rtn [.tmp 2, .tmp 3]
def s15  : Option (Bool) := (call (s13 ((ByteArray.mk #[97, 32, 43, 32, 49]))) fun y1 => (call (s17 y1.1) fun y2 => (call (s13 ((ByteArray.mk #[97, 32, 98]))) fun y3 => (way ((y1.2.2 == 0)) (way ((y2.2 == 0)) (way ((y2.1.data.toList == ((ByteArray.mk #[97, 32, 43, 32, 49])).data.toList)) (way ((y3.2.2 == 260)) (some ((y3.2.1 == 2))) none) none) none) none))))
theorem c15  (r : Bool) (h : s15  = some r) : Gives Tryz.prog 15 [] (vbool r) := by
  intro s
  unfold s15 at h
  refine acalls_of (fn := Tryz.f15) Tryz.func15 rfl (by decide) (by show 0 ≤ 42; decide) ?_
  rw [Tryz.ntmps15]
  refine rg ?_
  obtain ⟨y1, hy1, h⟩ := call_some h
  refine rgC (c13 ((ByteArray.mk #[97, 32, 43, 32, 49])) _ hy1) ?_
  obtain ⟨y2, hy2, h⟩ := call_some h
  refine rgC (c17 y1.1 _ hy2) ?_
  obtain ⟨y3, hy3, h⟩ := call_some h
  refine rgC (c13 ((ByteArray.mk #[97, 32, 98])) _ hy3) ?_
  refine AWp.reg fun Z4 hZ4 => ?_
  (try simp only [undef, Bool.not_true, Bool.not_false, xm, Nat.reduceAdd, Nat.reduceLeDiff, seval, reduceCtorEq])
  refine gTS h (by rfl) (fun hg5 h => ?_) (fun _ h => by cases h)
  (try simp only [hg5, undef, Bool.not_true, Bool.not_false, xm, Nat.reduceAdd, Nat.reduceLeDiff, seval, reduceCtorEq])
  refine gTS h (by rfl) (fun hg6 h => ?_) (fun _ h => by cases h)
  (try simp only [hg5, hg6, undef, Bool.not_true, Bool.not_false, xm, Nat.reduceAdd, Nat.reduceLeDiff, seval, reduceCtorEq])
  refine gTS h (by rfl) (fun hg7 h => ?_) (fun _ h => by cases h)
  (try simp only [hg5, hg6, hg7, undef, Bool.not_true, Bool.not_false, xm, Nat.reduceAdd, Nat.reduceLeDiff, seval, reduceCtorEq])
  refine gTS h (by rfl) (fun hg8 h => ?_) (fun _ h => by cases h)
  (try simp only [hg5, hg6, hg7, hg8, undef, Bool.not_true, Bool.not_false, xm, Nat.reduceAdd, Nat.reduceLeDiff, seval, reduceCtorEq])
  refine hZ4 _ ?_; clear hZ4 Z4
  refine AWp.ret ?_
  obtain rfl := Option.some.inj h
  exact rtn [.tmp 0]
end Go.Proofs.YtopgndakadileaaGreatDoor.Ex
namespace Go.Proofs.YtopgndakadileaaGreatDoor.Ex
open Go.Am Go.Ex Go.Proofs.YtopgndakadileaaGreatDoor
def s35 (x0 : XSelect) : Option (Int) := (call (s69 x0) fun y1 => (call (s70 x0) fun y2 => (call (s60 y1 y2) fun y3 => (some y3))))
theorem c35 (x0 : XSelect) (r : Int) (h : s35 x0 = some r) : Gives Tryz.prog 35 [.agg x0.v] (vint r) := by
  intro s
  unfold s35 at h
  refine acalls_of (fn := Tryz.f35) Tryz.func35 rfl (by decide) (by show 1 ≤ 8; decide) ?_
  rw [Tryz.ntmps35]
  refine rg ?_
  obtain ⟨y1, hy1, h⟩ := call_some h
  obtain ⟨y2, hy2, h⟩ := call_some h
  obtain ⟨y3, hy3, h⟩ := call_some h
  refine rgLCCC [0, 2, 1, 3, 4, 5] [100005] (c69 x0 _ hy1) (c70 x0 _ hy2) (c60 y1 y2 _ hy3) ?_
  refine AWp.ret ?_
  obtain rfl := Option.some.inj h
  exact rtn [.tmp 2]
def s10 (x0 : XSelect) (x1 : XSelect) : Option (Bool) := (join (fun (u3 : Bool → Option (Bool)) => (call s15 fun y5 => (way y5 (call (s31 x0 x1) fun y7 => (call (s25 x0 x1) fun y8 => (way ((y7 == y8)) (call (s31 x1 x1) fun y10 => (way y10 (call (s32 x0) fun y12 => (call (s33 x0) fun y13 => (way ((y12 == y13)) (call (s34 x0) fun y15 => (call (s35 x0) fun y16 => (u3 (y15 == y16)))) (u3 false)))) (u3 false))) (u3 false)))) (u3 false)))) (fun (q2 : Bool) => (some q2)))
theorem c10 (x0 : XSelect) (x1 : XSelect) (r : Bool) (h : s10 x0 x1 = some r) : Gives Tryz.prog 10 [.agg x0.v, .agg x1.v] (vbool r) := by
  intro s
  unfold s10 at h
  refine acalls_of (fn := Tryz.f10) Tryz.func10 rfl (by decide) (by show 2 ≤ 34; decide) ?_
  rw [Tryz.ntmps10]
  refine rg ?_
  refine AWp.joinS (X := Bool) (G := Unit) h (fun _ => True) (fun q2 _ => tst [(4, vbool q2)] [] s 34) (fun u3 h => ?_) ?_
  · refine AWp.regL1 mixed [0, 1, 2, 3, 5, 6, 4, 7, 8, 9, 10, 11, 12, 13, 14, 15, 16, 18, 17, 19, 20, 21, 22, 23, 25, 24, 26, 27, 28, 29] (by decide +kernel) [100010, 100011, 100023, 100030] (by decide +kernel) fun Z4 hZ4 => ?_
    (try simp only [undef, Bool.not_true, Bool.not_false, aml, Nat.reduceBEq, xm, Nat.reduceAdd, Nat.reduceLeDiff, seval, reduceCtorEq])
    obtain ⟨y5, hy5, h⟩ := call_some h
    refine (c15  _ hy5 _).go ?_
    (try simp only [undef, Bool.not_true, Bool.not_false, aml, Nat.reduceBEq, xm, Nat.reduceAdd, Nat.reduceLeDiff, seval, reduceCtorEq])
    refine gTSL h (by rfl) (fun hg6 h => ?_) (fun hg6 h => ?_)
    · (try simp only [hg6, undef, Bool.not_true, Bool.not_false, aml, Nat.reduceBEq, xm, Nat.reduceAdd, Nat.reduceLeDiff, seval, reduceCtorEq])
      obtain ⟨y7, hy7, h⟩ := call_some h
      refine (c31 x0 x1 _ hy7 _).go ?_
      (try simp only [hg6, undef, Bool.not_true, Bool.not_false, aml, Nat.reduceBEq, xm, Nat.reduceAdd, Nat.reduceLeDiff, seval, reduceCtorEq])
      obtain ⟨y8, hy8, h⟩ := call_some h
      refine (c25 x0 x1 _ hy8 _).go ?_
      (try simp only [hg6, undef, Bool.not_true, Bool.not_false, aml, Nat.reduceBEq, xm, Nat.reduceAdd, Nat.reduceLeDiff, seval, reduceCtorEq])
      refine gTSL h (by rfl) (fun hg9 h => ?_) (fun hg9 h => ?_)
      · (try simp only [hg6, hg9, undef, Bool.not_true, Bool.not_false, aml, Nat.reduceBEq, xm, Nat.reduceAdd, Nat.reduceLeDiff, seval, reduceCtorEq])
        obtain ⟨y10, hy10, h⟩ := call_some h
        refine (c31 x1 x1 _ hy10 _).go ?_
        (try simp only [hg6, hg9, undef, Bool.not_true, Bool.not_false, aml, Nat.reduceBEq, xm, Nat.reduceAdd, Nat.reduceLeDiff, seval, reduceCtorEq])
        refine gTSL h (by rfl) (fun hg11 h => ?_) (fun hg11 h => ?_)
        · (try simp only [hg6, hg9, hg11, undef, Bool.not_true, Bool.not_false, aml, Nat.reduceBEq, xm, Nat.reduceAdd, Nat.reduceLeDiff, seval, reduceCtorEq])
          obtain ⟨y12, hy12, h⟩ := call_some h
          refine (c32 x0 _ hy12 _).go ?_
          (try simp only [hg6, hg9, hg11, undef, Bool.not_true, Bool.not_false, aml, Nat.reduceBEq, xm, Nat.reduceAdd, Nat.reduceLeDiff, seval, reduceCtorEq])
          obtain ⟨y13, hy13, h⟩ := call_some h
          refine (c33 x0 _ hy13 _).go ?_
          (try simp only [hg6, hg9, hg11, undef, Bool.not_true, Bool.not_false, aml, Nat.reduceBEq, xm, Nat.reduceAdd, Nat.reduceLeDiff, seval, reduceCtorEq])
          refine gTSL h (by rfl) (fun hg14 h => ?_) (fun hg14 h => ?_)
          · (try simp only [hg6, hg9, hg11, hg14, undef, Bool.not_true, Bool.not_false, aml, Nat.reduceBEq, xm, Nat.reduceAdd, Nat.reduceLeDiff, seval, reduceCtorEq])
            obtain ⟨y15, hy15, h⟩ := call_some h
            refine (c34 x0 _ hy15 _).go ?_
            (try simp only [hg6, hg9, hg11, hg14, undef, Bool.not_true, Bool.not_false, aml, Nat.reduceBEq, xm, Nat.reduceAdd, Nat.reduceLeDiff, seval, reduceCtorEq])
            obtain ⟨y16, hy16, h⟩ := call_some h
            refine (c35 x0 _ hy16 _).go ?_
            (try simp only [hg6, hg9, hg11, hg14, undef, Bool.not_true, Bool.not_false, aml, Nat.reduceBEq, xm, Nat.reduceAdd, Nat.reduceLeDiff, seval, reduceCtorEq])
            refine hZ4 _ ?_; clear hZ4 Z4
            exact ⟨(y15 == y16), h, (), trivial, tleF ((And.intro hg6 <| And.intro hg9 <| And.intro hg11 <| hg14))⟩
          · (try simp only [hg6, hg9, hg11, hg14, undef, Bool.not_true, Bool.not_false, aml, Nat.reduceBEq, xm, Nat.reduceAdd, Nat.reduceLeDiff, seval, reduceCtorEq])
            refine hZ4 _ ?_; clear hZ4 Z4
            exact ⟨false, h, (), trivial, tleF ((And.intro hg6 <| And.intro hg9 <| And.intro hg11 <| hg14))⟩
        · (try simp only [hg6, hg9, hg11, undef, Bool.not_true, Bool.not_false, aml, Nat.reduceBEq, xm, Nat.reduceAdd, Nat.reduceLeDiff, seval, reduceCtorEq])
          refine hZ4 _ ?_; clear hZ4 Z4
          exact ⟨false, h, (), trivial, tleF ((And.intro hg6 <| And.intro hg9 <| hg11))⟩
      · (try simp only [hg6, hg9, undef, Bool.not_true, Bool.not_false, aml, Nat.reduceBEq, xm, Nat.reduceAdd, Nat.reduceLeDiff, seval, reduceCtorEq])
        refine hZ4 _ ?_; clear hZ4 Z4
        exact ⟨false, h, (), trivial, tleF ((And.intro hg6 <| hg9))⟩
    · (try simp only [hg6, undef, Bool.not_true, Bool.not_false, aml, Nat.reduceBEq, xm, Nat.reduceAdd, Nat.reduceLeDiff, seval, reduceCtorEq])
      refine hZ4 _ ?_; clear hZ4 Z4
      exact ⟨false, h, (), trivial, tleF hg6⟩
  · rintro v1 h _ _
    refine AWp.ret ?_
    obtain rfl := Option.some.inj h
    exact rtn [.tmp 4]
end Go.Proofs.YtopgndakadileaaGreatDoor.Ex
