/- Functions told as partial functions. -/
import Derived.Test.YtopgndakadileaaGreatDoorSXNat
import Derived.Test.YtopgndakadileaaGreatDoorS9
import Derived.Test.YtopgndakadileaaGreatDoorS14
import Derived.Test.YtopgndakadileaaGreatDoorS10
import Derived.Test.YtopgndakadileaaGreatDoorSAmPanic
import Derived.Test.YtopgndakadileaaGreatDoorSXData
import Derived.Test.YtopgndakadileaaGreatDoorSXTy
set_option linter.unusedVariables false
set_option linter.unusedSimpArgs false
set_option maxRecDepth 100000
set_option maxHeartbeats 4000000
namespace Go.Proofs.YtopgndakadileaaGreatDoor.Ex
open Go.Am Go.Ex Go.Proofs.YtopgndakadileaaGreatDoor
def s173 (x0 : Int) : Option (Bool) := (join (fun (u3 : Bool → Option (Bool)) => (way ((decide (x0 ≥ 97))) (way ((decide (x0 ≤ 122))) (u3 true) none) (way ((decide (x0 ≥ 65))) none (u3 (x0 == 95))))) (fun (q2 : Bool) => (some q2)))
theorem c173 (x0 : Int) (r : Bool) (h : s173 x0 = some r) : Gives Tryz.prog 173 [.base (.int .u8 x0)] (vbool r) := by
  intro s
  unfold s173 at h
  refine acalls_of (fn := Tryz.f173) Tryz.func173 rfl (by decide) (by show 1 ≤ 21; decide) ?_
  rw [Tryz.ntmps173]
  refine rg ?_
  refine AWp.joinS (X := Bool) (G := Unit) h (fun _ => True) (fun q2 _ => tst [(2, vbool q2)] [] s 21) (fun u3 h => ?_) ?_
  · refine AWp.reg1 fun Z4 hZ4 => ?_
    (try simp only [undef, Bool.not_true, Bool.not_false, xm, Nat.reduceAdd, Nat.reduceLeDiff, seval, reduceCtorEq])
    refine gTS h (by rfl) (fun hg5 h => ?_) (fun hg5 h => ?_)
    · (try simp only [hg5, undef, Bool.not_true, Bool.not_false, xm, Nat.reduceAdd, Nat.reduceLeDiff, seval, reduceCtorEq])
      refine gFS h (by rfl) (fun hg6 h => ?_) (fun _ h => by cases h)
      (try simp only [hg5, hg6, undef, Bool.not_true, Bool.not_false, xm, Nat.reduceAdd, Nat.reduceLeDiff, seval, reduceCtorEq])
      refine hZ4 _ ?_; clear hZ4 Z4
      exact ⟨true, h, (), trivial, tleF ((And.intro hg5 <| hg6))⟩
    · (try simp only [hg5, undef, Bool.not_true, Bool.not_false, xm, Nat.reduceAdd, Nat.reduceLeDiff, seval, reduceCtorEq])
      refine gTS h (by rfl) (fun _ h => by cases h) (fun hg7 h => ?_)
      (try simp only [hg5, hg7, undef, Bool.not_true, Bool.not_false, xm, Nat.reduceAdd, Nat.reduceLeDiff, seval, reduceCtorEq])
      refine hZ4 _ ?_; clear hZ4 Z4
      exact ⟨(x0 == 95), h, (), trivial, tleF ((And.intro hg5 <| hg7))⟩
  · rintro v1 h _ _
    refine AWp.ret ?_
    obtain rfl := Option.some.inj h
    exact rtn [.tmp 2]
def s177 (x0 : Int) : Option (Bool) := (join (fun (u3 : Bool → Option (Bool)) => (way ((decide (x0 ≥ 48))) (u3 (decide (x0 ≤ 57))) (u3 false))) (fun (q2 : Bool) => (some q2)))
theorem c177 (x0 : Int) (r : Bool) (h : s177 x0 = some r) : Gives Tryz.prog 177 [.base (.int .u8 x0)] (vbool r) := by
  intro s
  unfold s177 at h
  refine acalls_of (fn := Tryz.f177) Tryz.func177 rfl (by decide) (by show 1 ≤ 9; decide) ?_
  rw [Tryz.ntmps177]
  refine rg ?_
  refine AWp.joinS (X := Bool) (G := Unit) h (fun _ => True) (fun q2 _ => tst [(2, vbool q2)] [] s 9) (fun u3 h => ?_) ?_
  · refine AWp.reg1 fun Z4 hZ4 => ?_
    (try simp only [undef, Bool.not_true, Bool.not_false, xm, Nat.reduceAdd, Nat.reduceLeDiff, seval, reduceCtorEq])
    refine gTS h (by rfl) (fun hg5 h => ?_) (fun hg5 h => ?_)
    · (try simp only [hg5, undef, Bool.not_true, Bool.not_false, xm, Nat.reduceAdd, Nat.reduceLeDiff, seval, reduceCtorEq])
      refine hZ4 _ ?_; clear hZ4 Z4
      exact ⟨(decide (x0 ≤ 57)), h, (), trivial, tleF hg5⟩
    · (try simp only [hg5, undef, Bool.not_true, Bool.not_false, xm, Nat.reduceAdd, Nat.reduceLeDiff, seval, reduceCtorEq])
      refine hZ4 _ ?_; clear hZ4 Z4
      exact ⟨false, h, (), trivial, tleF hg5⟩
  · rintro v1 h _ _
    refine AWp.ret ?_
    obtain rfl := Option.some.inj h
    exact rtn [.tmp 2]
def s175_1 (x0 : ByteArray) (x1 : Int) : Option (Int) := (loopC (fun (u4 : Int → Option (Int)) (q3 : Int) => (join (fun (u8 : Bool → Option (Int)) => (way ((decide (q3 < (((x0.size : Nat) : Int))))) (need (0 ≤ q3 ∧ q3 < ((x0.size : Nat) : Int)) (call (s177 (((x0.data.toList.getD q3.toNat 0).toNat : Int))) fun y12 => (u8 y12))) (u8 false))) (fun (q7 : Bool) => (way q7 (u4 (IntKind.i64.wrap (q3 + 1))) (some q3))))) manyC x1)
theorem c175_1 (x0 : ByteArray) (x1 : Int) (r : Int) (h : s175_1 x0 x1 = some r) : Gives Tryz.prog 175 [vstr x0, vint x1, .func 177 [] []] (vint r) := by
  intro s
  unfold s175_1 at h
  refine acalls_of (fn := Tryz.f175) Tryz.func175 rfl (by decide) (by show 3 ≤ 21; decide) ?_
  rw [Tryz.ntmps175]
  refine rg ?_
  refine AWp.seq_k fun K1 hK1 => ?_
  refine AWp.block ?_
  refine AWp.loopS (X := Int) (G := Unit) h (fun _ => True) (fun q3 _ => tst [(0, vstr x0), (1, vint q3), (2, .func 177 [] [])] [] s 21) ?_ ?_
  · exact ⟨(), trivial, tle⟩
  · rintro u4 v2 h _ _
    refine AWp.seq_k fun K5 hK5 => ?_
    refine AWp.joinS (X := Bool) (G := Unit) h (fun _ => True) (fun q7 _ => tst [(0, vstr x0), (1, vint v2), (2, .func 177 [] []), (17, vbool q7)] [] s 21) (fun u8 h => ?_) ?_
    · refine AWp.reg1 fun Z9 hZ9 => ?_
      (try simp only [undef, Bool.not_true, Bool.not_false, xm, Nat.reduceAdd, Nat.reduceLeDiff, seval, reduceCtorEq])
      refine gTS h (by rfl) (fun hg10 h => ?_) (fun hg10 h => ?_)
      · obtain ⟨hn11, h⟩ := need_some h
        (try simp only [hg10, isT hn11.1, isT hn11.2, undef, Bool.not_true, Bool.not_false, xm, Nat.reduceAdd, Nat.reduceLeDiff, seval, reduceCtorEq])
        obtain ⟨y12, hy12, h⟩ := call_some h
        refine (c177 (((x0.data.toList.getD v2.toNat 0).toNat : Int)) _ hy12 _).go ?_
        (try simp only [hg10, isT hn11.1, isT hn11.2, undef, Bool.not_true, Bool.not_false, xm, Nat.reduceAdd, Nat.reduceLeDiff, seval, reduceCtorEq])
        refine hZ9 _ ?_; clear hZ9 Z9
        exact ⟨y12, h, (), trivial, tleF hg10⟩
      · (try simp only [hg10, undef, Bool.not_true, Bool.not_false, xm, Nat.reduceAdd, Nat.reduceLeDiff, seval, reduceCtorEq])
        refine hZ9 _ ?_; clear hZ9 Z9
        exact ⟨false, h, (), trivial, tleF hg10⟩
    · rintro v6 h _ _
      refine ws h (fun hc13 h => ?_) fun hc13 h => ?_
      · refine AWp.skip ?_
        refine hK5 _ ?_; clear hK5
        refine AWp.block ?_
        refine r1 ?_
        exact ⟨(IntKind.i64.wrap (v2 + 1)), h, (), trivial, tle⟩
      · refine AWp.exit ?_
        simp only [thenQ, blockQ, ↓reduceIte, Nat.reduceEqDiff, Nat.one_ne_zero, Nat.zero_ne_one, Nat.succ_ne_zero, reduceCtorEq]
        refine hK1 _ ?_; clear hK1
        refine rg ?_
        refine AWp.ret ?_
        obtain rfl := Option.some.inj h
        exact rtn [.tmp 6]
def s262 (x0 : Int) : Option (Bool) := (join (fun (u3 : Bool → Option (Bool)) => (call (s173 x0) fun y5 => (way y5 (u3 true) (call (s177 x0) fun y7 => (u3 y7))))) (fun (q2 : Bool) => (some q2)))
theorem c262 (x0 : Int) (r : Bool) (h : s262 x0 = some r) : Gives Tryz.prog 262 [.base (.int .u8 x0)] (vbool r) := by
  intro s
  unfold s262 at h
  refine acalls_of (fn := Tryz.f262) Tryz.func262 rfl (by decide) (by show 1 ≤ 9; decide) ?_
  rw [Tryz.ntmps262]
  refine rg ?_
  refine AWp.joinS (X := Bool) (G := Unit) h (fun _ => True) (fun q2 _ => tst [(2, vbool q2)] [] s 9) (fun u3 h => ?_) ?_
  · refine AWp.reg1 fun Z4 hZ4 => ?_
    (try simp only [undef, Bool.not_true, Bool.not_false, xm, Nat.reduceAdd, Nat.reduceLeDiff, seval, reduceCtorEq])
    obtain ⟨y5, hy5, h⟩ := call_some h
    refine (c173 x0 _ hy5 _).go ?_
    (try simp only [undef, Bool.not_true, Bool.not_false, xm, Nat.reduceAdd, Nat.reduceLeDiff, seval, reduceCtorEq])
    refine gFS h (by rfl) (fun hg6 h => ?_) (fun hg6 h => ?_)
    · (try simp only [hg6, undef, Bool.not_true, Bool.not_false, xm, Nat.reduceAdd, Nat.reduceLeDiff, seval, reduceCtorEq])
      refine hZ4 _ ?_; clear hZ4 Z4
      exact ⟨true, h, (), trivial, tleF hg6⟩
    · (try simp only [hg6, undef, Bool.not_true, Bool.not_false, xm, Nat.reduceAdd, Nat.reduceLeDiff, seval, reduceCtorEq])
      obtain ⟨y7, hy7, h⟩ := call_some h
      refine (c177 x0 _ hy7 _).go ?_
      (try simp only [hg6, undef, Bool.not_true, Bool.not_false, xm, Nat.reduceAdd, Nat.reduceLeDiff, seval, reduceCtorEq])
      refine hZ4 _ ?_; clear hZ4 Z4
      exact ⟨y7, h, (), trivial, tleF hg6⟩
  · rintro v1 h _ _
    refine AWp.ret ?_
    obtain rfl := Option.some.inj h
    exact rtn [.tmp 2]
def s175_2 (x0 : ByteArray) (x1 : Int) : Option (Int) := (loopC (fun (u4 : Int → Option (Int)) (q3 : Int) => (join (fun (u8 : Bool → Option (Int)) => (way ((decide (q3 < (((x0.size : Nat) : Int))))) (need (0 ≤ q3 ∧ q3 < ((x0.size : Nat) : Int)) (call (s262 (((x0.data.toList.getD q3.toNat 0).toNat : Int))) fun y12 => (u8 y12))) (u8 false))) (fun (q7 : Bool) => (way q7 (u4 (IntKind.i64.wrap (q3 + 1))) (some q3))))) manyC x1)
theorem c175_2 (x0 : ByteArray) (x1 : Int) (r : Int) (h : s175_2 x0 x1 = some r) : Gives Tryz.prog 175 [vstr x0, vint x1, .func 262 [] []] (vint r) := by
  intro s
  unfold s175_2 at h
  refine acalls_of (fn := Tryz.f175) Tryz.func175 rfl (by decide) (by show 3 ≤ 21; decide) ?_
  rw [Tryz.ntmps175]
  refine rg ?_
  refine AWp.seq_k fun K1 hK1 => ?_
  refine AWp.block ?_
  refine AWp.loopS (X := Int) (G := Unit) h (fun _ => True) (fun q3 _ => tst [(0, vstr x0), (1, vint q3), (2, .func 262 [] [])] [] s 21) ?_ ?_
  · exact ⟨(), trivial, tle⟩
  · rintro u4 v2 h _ _
    refine AWp.seq_k fun K5 hK5 => ?_
    refine AWp.joinS (X := Bool) (G := Unit) h (fun _ => True) (fun q7 _ => tst [(0, vstr x0), (1, vint v2), (2, .func 262 [] []), (17, vbool q7)] [] s 21) (fun u8 h => ?_) ?_
    · refine AWp.reg1 fun Z9 hZ9 => ?_
      (try simp only [undef, Bool.not_true, Bool.not_false, xm, Nat.reduceAdd, Nat.reduceLeDiff, seval, reduceCtorEq])
      refine gTS h (by rfl) (fun hg10 h => ?_) (fun hg10 h => ?_)
      · obtain ⟨hn11, h⟩ := need_some h
        (try simp only [hg10, isT hn11.1, isT hn11.2, undef, Bool.not_true, Bool.not_false, xm, Nat.reduceAdd, Nat.reduceLeDiff, seval, reduceCtorEq])
        obtain ⟨y12, hy12, h⟩ := call_some h
        refine (c262 (((x0.data.toList.getD v2.toNat 0).toNat : Int)) _ hy12 _).go ?_
        (try simp only [hg10, isT hn11.1, isT hn11.2, undef, Bool.not_true, Bool.not_false, xm, Nat.reduceAdd, Nat.reduceLeDiff, seval, reduceCtorEq])
        refine hZ9 _ ?_; clear hZ9 Z9
        exact ⟨y12, h, (), trivial, tleF hg10⟩
      · (try simp only [hg10, undef, Bool.not_true, Bool.not_false, xm, Nat.reduceAdd, Nat.reduceLeDiff, seval, reduceCtorEq])
        refine hZ9 _ ?_; clear hZ9 Z9
        exact ⟨false, h, (), trivial, tleF hg10⟩
    · rintro v6 h _ _
      refine ws h (fun hc13 h => ?_) fun hc13 h => ?_
      · refine AWp.skip ?_
        refine hK5 _ ?_; clear hK5
        refine AWp.block ?_
        refine r1 ?_
        exact ⟨(IntKind.i64.wrap (v2 + 1)), h, (), trivial, tle⟩
      · refine AWp.exit ?_
        simp only [thenQ, blockQ, ↓reduceIte, Nat.reduceEqDiff, Nat.one_ne_zero, Nat.zero_ne_one, Nat.succ_ne_zero, reduceCtorEq]
        refine hK1 _ ?_; clear hK1
        refine rg ?_
        refine AWp.ret ?_
        obtain rfl := Option.some.inj h
        exact rtn [.tmp 6]
def s206 (x0 : ByteArray) (x1 : Int) : Option (Int) := (join (fun (u3 : Int → Option (Int)) => (loopC (fun (u6 : Int → Option (Int)) (q5 : Int) => (way ((decide (q5 < (((x0.size : Nat) : Int))))) (need (0 ≤ q5 ∧ q5 < ((x0.size : Nat) : Int)) (join (fun (u12 : Bool → Option (Int)) => (way (((((x0.data.toList.getD q5.toNat 0).toNat : Int)) == 32)) (u12 true) (way (((((x0.data.toList.getD q5.toNat 0).toNat : Int)) == 9)) none (way (((((x0.data.toList.getD q5.toNat 0).toNat : Int)) == 10)) none (u12 ((((x0.data.toList.getD q5.toNat 0).toNat : Int)) == 13)))))) (fun (q11 : Bool) => (way q11 (u6 (IntKind.i64.wrap (q5 + 1))) (need (0 ≤ q5 ∧ q5 ≤ ((x0.size : Nat) : Int) ∧ ((x0.size : Nat) : Int) ≤ ((x0.size : Nat) : Int)) (call (n258 ((x0.extract q5.toNat ((x0.size : Nat) : Int).toNat)) ((ByteArray.mk #[45, 45]))) fun y19 => (way y19 none (u3 q5)))))))) (u3 q5))) manyC x1)) (fun (q2 : Int) => (some q2)))
theorem c206 (x0 : ByteArray) (x1 : Int) (r : Int) (h : s206 x0 x1 = some r) : Gives Tryz.prog 206 [vstr x0, vint x1] (vint r) := by
  intro s
  unfold s206 at h
  refine acalls_of (fn := Tryz.f206) Tryz.func206 rfl (by decide) (by show 2 ≤ 49; decide) ?_
  rw [Tryz.ntmps206]
  refine rg ?_
  refine AWp.scope ?_
  refine AWp.seq ?_
  refine AWp.label ?_
  show AWp _ _ _ _
  refine AWp.joinS (X := Int) (G := Unit) h (fun _ => True) (fun q2 _ => tst [(1, vint q2)] [] s 49) (fun u3 h => ?_) ?_
  · refine AWp.block ?_
    refine AWp.loopS (X := Int) (G := Unit) h (fun _ => True) (fun q5 _ => tst [(0, vstr x0), (1, vint q5)] [] s 49) ?_ ?_
    · exact ⟨(), trivial, tle⟩
    · rintro u6 v4 h _ _
      refine AWp.seq_k fun K7 hK7 => ?_
      refine rg ?_
      refine ws h (fun hc8 h => ?_) fun hc8 h => ?_
      · refine AWp.skip ?_
        refine hK7 _ ?_; clear hK7
        refine AWp.block ?_
        obtain ⟨hn9, h⟩ := need_some h
        refine rgF ((And.intro ((isT hn9.1)) <| (isT hn9.2))) ?_
        refine AWp.block ?_
        refine AWp.joinS (X := Bool) (G := Unit) h (fun _ => True) (fun q11 _ => tst [(0, vstr x0), (1, vint v4), (14, vbool q11)] [] s 49) (fun u12 h => ?_) ?_
        · refine AWp.reg1 fun Z13 hZ13 => ?_
          (try simp only [undef, Bool.not_true, Bool.not_false, xm, Nat.reduceAdd, Nat.reduceLeDiff, seval, reduceCtorEq])
          refine gFS h (by rfl) (fun hg14 h => ?_) (fun hg14 h => ?_)
          · (try simp only [hg14, undef, Bool.not_true, Bool.not_false, xm, Nat.reduceAdd, Nat.reduceLeDiff, seval, reduceCtorEq])
            refine hZ13 _ ?_; clear hZ13 Z13
            exact ⟨true, h, (), trivial, tleF hg14⟩
          · (try simp only [hg14, undef, Bool.not_true, Bool.not_false, xm, Nat.reduceAdd, Nat.reduceLeDiff, seval, reduceCtorEq])
            refine gFS h (by rfl) (fun _ h => by cases h) (fun hg15 h => ?_)
            (try simp only [hg14, hg15, undef, Bool.not_true, Bool.not_false, xm, Nat.reduceAdd, Nat.reduceLeDiff, seval, reduceCtorEq])
            refine gFS h (by rfl) (fun _ h => by cases h) (fun hg16 h => ?_)
            (try simp only [hg14, hg15, hg16, undef, Bool.not_true, Bool.not_false, xm, Nat.reduceAdd, Nat.reduceLeDiff, seval, reduceCtorEq])
            refine hZ13 _ ?_; clear hZ13 Z13
            exact ⟨((((x0.data.toList.getD v4.toNat 0).toNat : Int)) == 13), h, (), trivial, tleF ((And.intro hg14 <| And.intro hg15 <| hg16))⟩
        · rintro v10 h _ _
          refine ws h (fun hc17 h => ?_) fun hc17 h => ?_
          · refine r1 ?_
            exact ⟨(IntKind.i64.wrap (v4 + 1)), h, (), trivial, tle⟩
          · obtain ⟨hn18, h⟩ := need_some h
            obtain ⟨y19, hy19, h⟩ := call_some h
            refine rgFC ((And.intro ((isT hn18.1)) <| And.intro ((isT hn18.2.1)) <| (isT hn18.2.2))) (N258 ((x0.extract v4.toNat ((x0.size : Nat) : Int).toNat)) ((ByteArray.mk #[45, 45])) _ hy19) ?_
            refine wF h fun hc20 h => ?_
            refine AWp.exit ?_
            simp only [thenQ, blockQ, ↓reduceIte, Nat.reduceEqDiff, Nat.one_ne_zero, Nat.zero_ne_one, Nat.succ_ne_zero, reduceCtorEq]
            exact ⟨v4, h, (), trivial, tle⟩
      · refine AWp.exit ?_
        simp only [thenQ, blockQ, ↓reduceIte, Nat.reduceEqDiff, Nat.one_ne_zero, Nat.zero_ne_one, Nat.succ_ne_zero, reduceCtorEq]
        exact ⟨v4, h, (), trivial, tle⟩
  · rintro v1 h _ _
    refine rg ?_
    refine AWp.ret ?_
    obtain rfl := Option.some.inj h
    exact rtn [.tmp 4]
def s317 (x0 : (List ByteArray)) (x1 : ByteArray) : Option (Int) := (loopC (fun (u4 : Int → Option (Int)) (q3 : Int) => (way ((decide (q3 < (((x0.length : Nat) : Int))))) (need (0 ≤ q3 ∧ q3 < ((x0.length : Nat) : Int)) (way ((x1.data.toList == ((x0.getD q3.toNat ByteArray.empty)).data.toList)) none (u4 (IntKind.i64.wrap (q3 + 1))))) (some (-1)))) manyC 0)
theorem c317 (x0 : (List ByteArray)) (x1 : ByteArray) (r : Int) (h : s317 x0 x1 = some r) : Gives Tryz.prog 317 [.slice 1 (List.map (fun x => [vstr x]) x0), vstr x1] (vint r) := by
  intro s
  unfold s317 at h
  refine acalls_of (fn := Tryz.f317) Tryz.func317 rfl (by decide) (by show 2 ≤ 19; decide) ?_
  rw [Tryz.ntmps317]
  refine rg ?_
  refine AWp.seq_k fun K1 hK1 => ?_
  refine rg ?_
  refine AWp.block ?_
  refine AWp.loopS (X := Int) (G := Unit) h (fun _ => True) (fun q3 _ => tst [(0, .slice 1 (List.map (fun x => [vstr x]) x0)), (1, vstr x1), (7, vint (((x0.length : Nat) : Int))), (8, vint q3)] [] s 19) ?_ ?_
  · exact ⟨(), trivial, tle⟩
  · rintro u4 v2 h _ _
    refine rg ?_
    refine AWp.seq_k fun K5 hK5 => ?_
    refine ws h (fun hc6 h => ?_) fun hc6 h => ?_
    · refine AWp.skip ?_
      refine hK5 _ ?_; clear hK5
      refine AWp.seq_k fun K7 hK7 => ?_
      refine AWp.block ?_
      refine rg ?_
      obtain ⟨hn9, h⟩ := need_some h
      refine rgF ((And.intro ((isT hn9.1)) <| And.intro ((isT hn9.2)) <| (getD_enc (fun x => [vstr x]) ByteArray.empty hn9))) ?_
      refine wF h fun hc10 h => ?_
      refine AWp.skip ?_
      refine hK7 _ ?_; clear hK7
      refine r1 ?_
      exact ⟨(IntKind.i64.wrap (v2 + 1)), h, (), trivial, tle⟩
    · refine AWp.exit ?_
      simp only [thenQ, blockQ, ↓reduceIte, Nat.reduceEqDiff, Nat.one_ne_zero, Nat.zero_ne_one, Nat.succ_ne_zero, reduceCtorEq]
      refine hK1 _ ?_; clear hK1
      refine rg ?_
      refine AWp.ret ?_
      obtain rfl := Option.some.inj h
      exact rtn [.tmp 4]
def s289 (x0 : (List ByteArray)) (x1 : ByteArray) : Option (Bool) := (call (s317 x0 x1) fun y1 => (some ((decide (y1 ≥ 0)))))
theorem c289 (x0 : (List ByteArray)) (x1 : ByteArray) (r : Bool) (h : s289 x0 x1 = some r) : Gives Tryz.prog 289 [.slice 1 (List.map (fun x => [vstr x]) x0), vstr x1] (vbool r) := by
  intro s
  unfold s289 at h
  refine acalls_of (fn := Tryz.f289) Tryz.func289 rfl (by decide) (by show 2 ≤ 9; decide) ?_
  rw [Tryz.ntmps289]
  refine rg ?_
  obtain ⟨y1, hy1, h⟩ := call_some h
  refine rgC (c317 x0 x1 _ hy1) ?_
  refine AWp.ret ?_
  obtain rfl := Option.some.inj h
  exact rtn [.tmp 4]
def s263 (x0 : ByteArray) (x1 : Int) : Option (Int) := (way ((decide (((IntKind.i64.wrap (x1 + 2))) ≤ (((x0.size : Nat) : Int))))) (need (0 ≤ x1 ∧ x1 ≤ ((IntKind.i64.wrap (x1 + 2))) ∧ ((IntKind.i64.wrap (x1 + 2))) ≤ ((x0.size : Nat) : Int)) (call (s289 ([(ByteArray.mk #[124, 124]), (ByteArray.mk #[61, 61]), (ByteArray.mk #[60, 62]), (ByteArray.mk #[33, 61]), (ByteArray.mk #[60, 61]), (ByteArray.mk #[62, 61])]) ((x0.extract x1.toNat ((IntKind.i64.wrap (x1 + 2))).toNat))) fun y5 => (way y5 none (need (0 ≤ x1 ∧ x1 < ((x0.size : Nat) : Int)) (call (n259 ((ByteArray.mk #[40, 41, 44, 59, 46, 42, 43, 45, 47, 37, 61, 60, 62])) (((x0.data.toList.getD x1.toNat 0).toNat : Int))) fun y9 => (way ((decide (y9 ≥ 0))) (some 1) none)))))) none)
theorem c263 (x0 : ByteArray) (x1 : Int) (r : Int) (h : s263 x0 x1 = some r) : Gives Tryz.prog 263 [vstr x0, vint x1] (vint r) := by
  intro s
  unfold s263 at h
  refine acalls_of (fn := Tryz.f263) Tryz.func263 rfl (by decide) (by show 2 ≤ 24; decide) ?_
  rw [Tryz.ntmps263]
  refine rg ?_
  refine AWp.seq_k fun K1 hK1 => ?_
  refine AWp.reg fun Z2 hZ2 => ?_
  (try simp only [undef, Bool.not_true, Bool.not_false, xm, Nat.reduceAdd, Nat.reduceLeDiff, seval, reduceCtorEq])
  refine gTS h (by rfl) (fun hg3 h => ?_) (fun _ h => by cases h)
  obtain ⟨hn4, h⟩ := need_some h
  (try simp only [hg3, isT hn4.1, isT hn4.2.1, isT hn4.2.2, undef, Bool.not_true, Bool.not_false, xm, Nat.reduceAdd, Nat.reduceLeDiff, seval, reduceCtorEq])
  obtain ⟨y5, hy5, h⟩ := call_some h
  refine (c289 ([(ByteArray.mk #[124, 124]), (ByteArray.mk #[61, 61]), (ByteArray.mk #[60, 62]), (ByteArray.mk #[33, 61]), (ByteArray.mk #[60, 61]), (ByteArray.mk #[62, 61])]) ((x0.extract x1.toNat ((IntKind.i64.wrap (x1 + 2))).toNat)) _ hy5 _).go ?_
  (try simp only [hg3, isT hn4.1, isT hn4.2.1, isT hn4.2.2, undef, Bool.not_true, Bool.not_false, xm, Nat.reduceAdd, Nat.reduceLeDiff, seval, reduceCtorEq])
  refine hZ2 _ ?_; clear hZ2 Z2
  refine wF h fun hc6 h => ?_
  refine AWp.skip ?_
  refine hK1 _ ?_; clear hK1
  refine AWp.seq_k fun K7 hK7 => ?_
  obtain ⟨hn8, h⟩ := need_some h
  obtain ⟨y9, hy9, h⟩ := call_some h
  refine rgFC ((And.intro ((isT hn8.1)) <| (isT hn8.2))) (N259 ((ByteArray.mk #[40, 41, 44, 59, 46, 42, 43, 45, 47, 37, 61, 60, 62])) (((x0.data.toList.getD x1.toNat 0).toNat : Int)) _ hy9) ?_
  refine wT h fun hc10 h => ?_
  refine rg ?_
  refine AWp.ret ?_
  obtain rfl := Option.some.inj h
  exact rtn [.tmp 4]
def s207 (x0 : ByteArray) (x1 : Int) : Option (XToken × Int × Bool) := (join (fun (u5 : XToken × XToken × Int → Option (XToken × Int × Bool)) => (need (0 ≤ x1 ∧ x1 < ((x0.size : Nat) : Int)) (way (((((x0.data.toList.getD x1.toNat 0).toNat : Int)) == 39)) none (way (((((x0.data.toList.getD x1.toNat 0).toNat : Int)) == 120)) none (way (((((x0.data.toList.getD x1.toNat 0).toNat : Int)) == 88)) none (way (((((x0.data.toList.getD x1.toNat 0).toNat : Int)) == 63)) none (call (s173 (((x0.data.toList.getD x1.toNat 0).toNat : Int))) fun y12 => (way y12 (call (s175_2 x0 x1) fun y14 => (u5 ((XToken.mk 0 0 ByteArray.empty), (XToken.mk 1 x1 ByteArray.empty), y14))) (call (s177 (((x0.data.toList.getD x1.toNat 0).toNat : Int))) fun y15 => (way y15 (call (s175_1 x0 x1) fun y17 => (u5 ((XToken.mk 0 0 ByteArray.empty), (XToken.mk 2 x1 ByteArray.empty), y17))) (call (s263 x0 x1) fun y18 => (u5 ((XToken.mk 0 0 ByteArray.empty), (XToken.mk 6 x1 ByteArray.empty), (IntKind.i64.wrap (x1 + y18))))))))))))))) (fun (q4 : XToken × XToken × Int) => (need (0 ≤ x1 ∧ x1 ≤ q4.2.2 ∧ q4.2.2 ≤ ((x0.size : Nat) : Int)) (some (((XToken.mk q4.2.1.kind q4.2.1.at_ ((x0.extract x1.toNat q4.2.2.toNat))), q4.2.2, (decide (q4.2.2 > x1))))))))
theorem c207 (x0 : ByteArray) (x1 : Int) (r : XToken × Int × Bool) (h : s207 x0 x1 = some r) : Gives Tryz.prog 207 [vstr x0, vint x1] (.tuple [.agg r.1.v, vint r.2.1, vbool r.2.2]) := by
  intro s
  unfold s207 at h
  refine acalls_of (fn := Tryz.f207) Tryz.func207 rfl (by decide) (by show 2 ≤ 112; decide) ?_
  rw [Tryz.ntmps207]
  refine rgF ((@XToken.v_eq)) ?_
  refine rgF ((@XToken.v_eq)) ?_
  refine rgF ((@XToken.v_eq)) ?_
  refine AWp.joinS (X := XToken × XToken × Int) (G := Unit) h (fun _ => True) (fun q4 _ => tst [(0, vstr x0), (1, vint x1), (4, .loc 4 0), (7, .loc 7 0), (8, vint q4.2.2)] [(4, ([vint q4.1.kind, vint q4.1.at_, vstr q4.1.text], 121)), (7, ([vint q4.2.1.kind, vint q4.2.1.at_, vstr q4.2.1.text], 121))] s 112) (fun u5 h => ?_) ?_
  · obtain ⟨hn6, h⟩ := need_some h
    refine rgF ((And.intro ((@XToken.v_eq)) <| And.intro ((isT hn6.1)) <| (isT hn6.2))) ?_
    refine AWp.block ?_
    refine rgF ((@XToken.v_eq)) ?_
    refine wF h fun hc7 h => ?_
    refine AWp.reg fun Z8 hZ8 => ?_
    (try simp only [XToken.v_eq, undef, Bool.not_true, Bool.not_false, xm, Nat.reduceAdd, Nat.reduceLeDiff, seval, reduceCtorEq])
    refine gFS h (by rfl) (fun _ h => by cases h) (fun hg9 h => ?_)
    (try simp only [hg9, XToken.v_eq, undef, Bool.not_true, Bool.not_false, xm, Nat.reduceAdd, Nat.reduceLeDiff, seval, reduceCtorEq])
    refine gTS h (by rfl) (fun _ h => by cases h) (fun hg10 h => ?_)
    (try simp only [hg9, hg10, XToken.v_eq, undef, Bool.not_true, Bool.not_false, xm, Nat.reduceAdd, Nat.reduceLeDiff, seval, reduceCtorEq])
    refine hZ8 _ ?_; clear hZ8 Z8
    refine AWp.cond (t := false) (by rfl) (fun hf => by cases hf) (fun _ => ?_)
    refine rgF ((@XToken.v_eq)) ?_
    refine wF h fun hc11 h => ?_
    obtain ⟨y12, hy12, h⟩ := call_some h
    refine rgFC ((@XToken.v_eq)) (c173 (((x0.data.toList.getD x1.toNat 0).toNat : Int)) _ hy12) ?_
    refine ws h (fun hc13 h => ?_) fun hc13 h => ?_
    · refine rgF ((@XToken.v_eq)) ?_
      obtain ⟨y14, hy14, h⟩ := call_some h
      refine r1FC ((@XToken.v_eq)) (c175_2 x0 x1 _ hy14) ?_
      exact ⟨((XToken.mk 0 0 ByteArray.empty), (XToken.mk 1 x1 ByteArray.empty), y14), h, (), trivial, tleF ((And.intro (@XToken.v_eq) <| And.intro hg9 <| hg10))⟩
    · obtain ⟨y15, hy15, h⟩ := call_some h
      refine rgFC ((@XToken.v_eq)) (c177 (((x0.data.toList.getD x1.toNat 0).toNat : Int)) _ hy15) ?_
      refine ws h (fun hc16 h => ?_) fun hc16 h => ?_
      · refine rgF ((@XToken.v_eq)) ?_
        obtain ⟨y17, hy17, h⟩ := call_some h
        refine r1FC ((@XToken.v_eq)) (c175_1 x0 x1 _ hy17) ?_
        exact ⟨((XToken.mk 0 0 ByteArray.empty), (XToken.mk 2 x1 ByteArray.empty), y17), h, (), trivial, tleF ((And.intro (@XToken.v_eq) <| And.intro hg9 <| hg10))⟩
      · refine rgF ((@XToken.v_eq)) ?_
        obtain ⟨y18, hy18, h⟩ := call_some h
        refine r1FC ((@XToken.v_eq)) (c263 x0 x1 _ hy18) ?_
        exact ⟨((XToken.mk 0 0 ByteArray.empty), (XToken.mk 6 x1 ByteArray.empty), (IntKind.i64.wrap (x1 + y18))), h, (), trivial, tleF ((And.intro (@XToken.v_eq) <| And.intro hg9 <| hg10))⟩
  · rintro ⟨b1, b2, v3⟩ h _ _
    (try dsimp only at h ⊢)
    obtain ⟨hn19, h⟩ := need_some h
    refine rgF ((And.intro ((@XToken.v_eq)) <| And.intro ((isT hn19.1)) <| And.intro ((isT hn19.2.1)) <| (isT hn19.2.2))) ?_
    refine rgF ((@XToken.v_eq)) ?_
    refine AWp.ret ?_
    obtain rfl := Option.some.inj h
    refine ret_go (vs := [.agg [vint b2.kind, vint b2.at_, vstr ((x0.extract x1.toNat v3.toNat))], vint v3, vbool ((decide (v3 > x1)))]) (v := .tuple [.agg ((XToken.mk b2.kind b2.at_ ((x0.extract x1.toNat v3.toNat)))).v, vint v3, vbool ((decide (v3 > x1)))]) (by show resV Tryz.prog _ [.cell 4 121, .tmp 5, .tmp 6] = _; simp only [resV, ty121, XToken.v_eq, am, seval, reduceCtorEq]) (Wk.tuple ⟨Wk.agg (by rw [XToken.v_eq]; exact ⟨Wk.refl _, Wk.refl _, Wk.refl _, trivial⟩), Wk.refl _, Wk.refl _, trivial⟩) (Heap.le.refl _) ⟨?_, rfl⟩
    rfl
end Go.Proofs.YtopgndakadileaaGreatDoor.Ex
