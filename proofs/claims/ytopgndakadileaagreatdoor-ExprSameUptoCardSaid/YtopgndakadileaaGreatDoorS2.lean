/- Functions told as partial functions. -/
import Derived.Test.YtopgndakadileaaGreatDoorSXNat
import Derived.Test.YtopgndakadileaaGreatDoorS9
import Derived.Test.YtopgndakadileaaGreatDoorS14
import Derived.Test.YtopgndakadileaaGreatDoorS10
import Derived.Test.YtopgndakadileaaGreatDoorSAmPanic
import Derived.Test.YtopgndakadileaaGreatDoorSXData
import Derived.Test.YtopgndakadileaaGreatDoorSXTy
set_option linter.unusedVariables false
set_option linter.unusedSimpArgs false
set_option maxRecDepth 100000
set_option maxHeartbeats 4000000
namespace Go.Proofs.YtopgndakadileaaGreatDoor.Ex
open Go.Am Go.Ex Go.Proofs.YtopgndakadileaaGreatDoor
def s55 (x0 : (List ByteArray)) (x1 : (List ByteArray)) : Option (Bool) := (way (((((x0.length : Nat) : Int)) != (((x1.length : Nat) : Int)))) (some false) (loopC (fun (u6 : Int → Option (Bool)) (q5 : Int) => (way ((decide (q5 < (((x0.length : Nat) : Int))))) (need (0 ≤ q5 ∧ q5 < ((x0.length : Nat) : Int)) (need (0 ≤ q5 ∧ q5 < ((x1.length : Nat) : Int)) (way ((!(((x0.getD q5.toNat ByteArray.empty)).data.toList == ((x1.getD q5.toNat ByteArray.empty)).data.toList))) (some false) (u6 (IntKind.i64.wrap (q5 + 1)))))) (some true))) manyC 0))
theorem c55 (x0 : (List ByteArray)) (x1 : (List ByteArray)) (r : Bool) (h : s55 x0 x1 = some r) : Gives Tryz.prog 55 [.slice 1 (List.map (fun x => [vstr x]) x0), .slice 1 (List.map (fun x => [vstr x]) x1)] (vbool r) := by
  intro s
  unfold s55 at h
  refine acalls_of (fn := Tryz.f55) Tryz.func55 rfl (by decide) (by show 2 ≤ 26; decide) ?_
  rw [Tryz.ntmps55]
  refine rg ?_
  refine AWp.seq_k fun K1 hK1 => ?_
  refine rg ?_
  refine ws h (fun hc2 h => ?_) fun hc2 h => ?_
  · refine rg ?_
    refine AWp.ret ?_
    obtain rfl := Option.some.inj h
    exact rtn [.tmp 4]
  · refine AWp.skip ?_
    refine hK1 _ ?_; clear hK1
    refine AWp.seq_k fun K3 hK3 => ?_
    refine rg ?_
    refine AWp.block ?_
    refine AWp.loopS (X := Int) (G := Unit) h (fun _ => True) (fun q5 _ => tst [(0, .slice 1 (List.map (fun x => [vstr x]) x0)), (1, .slice 1 (List.map (fun x => [vstr x]) x1)), (5, vint q5)] [] s 26) ?_ ?_
    · exact ⟨(), trivial, tle⟩
    · rintro u6 v4 h _ _
      refine AWp.seq_k fun K7 hK7 => ?_
      refine rg ?_
      refine ws h (fun hc8 h => ?_) fun hc8 h => ?_
      · refine AWp.skip ?_
        refine hK7 _ ?_; clear hK7
        refine AWp.seq_k fun K9 hK9 => ?_
        refine AWp.block ?_
        obtain ⟨hn11, h⟩ := need_some h
        obtain ⟨hn13, h⟩ := need_some h
        refine rgLF [0, 1, 2, 3, 4, 5, 6, 7, 8] [] ((And.intro ((isT hn11.1)) <| And.intro ((isT hn11.2)) <| And.intro ((getD_enc (fun x => [vstr x]) ByteArray.empty hn11)) <| And.intro ((isT hn13.1)) <| And.intro ((isT hn13.2)) <| (getD_enc (fun x => [vstr x]) ByteArray.empty hn13))) ?_
        refine ws h (fun hc14 h => ?_) fun hc14 h => ?_
        · refine rg ?_
          refine AWp.ret ?_
          obtain rfl := Option.some.inj h
          exact rtn [.tmp 4]
        · refine AWp.skip ?_
          refine hK9 _ ?_; clear hK9
          refine r1 ?_
          exact ⟨(IntKind.i64.wrap (v4 + 1)), h, (), trivial, tle⟩
      · refine AWp.exit ?_
        simp only [thenQ, blockQ, ↓reduceIte, Nat.reduceEqDiff, Nat.one_ne_zero, Nat.zero_ne_one, Nat.succ_ne_zero, reduceCtorEq]
        refine hK3 _ ?_; clear hK3
        refine rg ?_
        refine AWp.ret ?_
        obtain rfl := Option.some.inj h
        exact rtn [.tmp 4]
structure F16_ where
  p16 : XExpr → XExpr → Option (Bool)
  p25 : XSelect → XSelect → Option (Bool)
  p42 : (List XExpr) → (List XExpr) → Option (Bool)
  p43 : (List XSelect) → (List XSelect) → Option (Bool)
  p56 : XPart → XPart → Option (Bool)
structure F16_.Ok (F : F16_) : Prop where
  p16 : ∀ (x0 : XExpr) (x1 : XExpr) (r : Bool), F.p16 x0 x1 = some r → Gives Tryz.prog 16 [.agg x0.v, .agg x1.v] (vbool r)
  p25 : ∀ (x0 : XSelect) (x1 : XSelect) (r : Bool), F.p25 x0 x1 = some r → Gives Tryz.prog 25 [.agg x0.v, .agg x1.v] (vbool r)
  p42 : ∀ (x0 : (List XExpr)) (x1 : (List XExpr)) (r : Bool), F.p42 x0 x1 = some r → Gives Tryz.prog 42 [.slice 10 (List.map XExpr.v x0), .slice 10 (List.map XExpr.v x1)] (vbool r)
  p43 : ∀ (x0 : (List XSelect)) (x1 : (List XSelect)) (r : Bool), F.p43 x0 x1 = some r → Gives Tryz.prog 43 [.slice 5 (List.map XSelect.v x0), .slice 5 (List.map XSelect.v x1)] (vbool r)
  p56 : ∀ (x0 : XPart) (x1 : XPart) (r : Bool), F.p56 x0 x1 = some r → Gives Tryz.prog 56 [.agg x0.v, .agg x1.v] (vbool r)
def b16 (F : F16_) (x0 : XExpr) (x1 : XExpr) : Option (Bool) := (join (fun (u3 : Bool → Option (Bool)) => (way ((x0.op == x1.op)) (way ((x0.not == x1.not)) (way ((x0.table.data.toList == x1.table.data.toList)) (way ((x0.name.data.toList == x1.name.data.toList)) (way ((x0.n == x1.n)) (way (((x0.v_.kind == x1.v_.kind) && ((x0.v_.int == x1.v_.int) && (x0.v_.text.data.toList == x1.v_.text.data.toList)))) (call (F.p42 x0.args x1.args) fun y11 => (way y11 (call (F.p43 x0.sub x1.sub) fun y13 => (u3 y13)) (u3 false))) (u3 false)) (u3 false)) (u3 false)) (u3 false)) (u3 false)) (u3 false))) (fun (q2 : Bool) => (some q2)))
theorem d16 (F : F16_) (H : F.Ok) (x0 : XExpr) (x1 : XExpr) (r : Bool) (h : b16 F x0 x1 = some r) : Gives Tryz.prog 16 [.agg x0.v, .agg x1.v] (vbool r) := by
  intro s
  unfold b16 at h
  refine acalls_of (fn := Tryz.f16) Tryz.func16 rfl (by decide) (by show 2 ≤ 59; decide) ?_
  rw [Tryz.ntmps16]
  refine rg ?_
  refine AWp.joinS (X := Bool) (G := Unit) h (fun _ => True) (fun q2 _ => tst [(4, vbool q2)] [] s 59) (fun u3 h => ?_) ?_
  · refine AWp.reg1 fun Z4 hZ4 => ?_
    (try simp only [undef, Bool.not_true, Bool.not_false, xm, Nat.reduceAdd, Nat.reduceLeDiff, seval, reduceCtorEq])
    refine gTS h (by rfl) (fun hg5 h => ?_) (fun hg5 h => ?_)
    · (try simp only [hg5, undef, Bool.not_true, Bool.not_false, xm, Nat.reduceAdd, Nat.reduceLeDiff, seval, reduceCtorEq])
      refine gTS h (by rfl) (fun hg6 h => ?_) (fun hg6 h => ?_)
      · (try simp only [hg5, hg6, undef, Bool.not_true, Bool.not_false, xm, Nat.reduceAdd, Nat.reduceLeDiff, seval, reduceCtorEq])
        refine gTS h (by rfl) (fun hg7 h => ?_) (fun hg7 h => ?_)
        · (try simp only [hg5, hg6, hg7, undef, Bool.not_true, Bool.not_false, xm, Nat.reduceAdd, Nat.reduceLeDiff, seval, reduceCtorEq])
          refine gTS h (by rfl) (fun hg8 h => ?_) (fun hg8 h => ?_)
          · (try simp only [hg5, hg6, hg7, hg8, undef, Bool.not_true, Bool.not_false, xm, Nat.reduceAdd, Nat.reduceLeDiff, seval, reduceCtorEq])
            refine gTS h (by rfl) (fun hg9 h => ?_) (fun hg9 h => ?_)
            · (try simp only [hg5, hg6, hg7, hg8, hg9, teq25, XValue.v_eq, undef, Bool.not_true, Bool.not_false, xm, Nat.reduceAdd, Nat.reduceLeDiff, seval, reduceCtorEq])
              refine gTS h (by rfl) (fun hg10 h => ?_) (fun hg10 h => ?_)
              · (try simp only [hg5, hg6, hg7, hg8, hg9, teq25, XValue.v_eq, hg10, undef, Bool.not_true, Bool.not_false, xm, Nat.reduceAdd, Nat.reduceLeDiff, seval, reduceCtorEq])
                obtain ⟨y11, hy11, h⟩ := call_some h
                refine (H.p42 x0.args x1.args _ hy11 _).go ?_
                (try simp only [hg5, hg6, hg7, hg8, hg9, teq25, XValue.v_eq, hg10, undef, Bool.not_true, Bool.not_false, xm, Nat.reduceAdd, Nat.reduceLeDiff, seval, reduceCtorEq])
                refine gTS h (by rfl) (fun hg12 h => ?_) (fun hg12 h => ?_)
                · (try simp only [hg5, hg6, hg7, hg8, hg9, teq25, XValue.v_eq, hg10, hg12, undef, Bool.not_true, Bool.not_false, xm, Nat.reduceAdd, Nat.reduceLeDiff, seval, reduceCtorEq])
                  obtain ⟨y13, hy13, h⟩ := call_some h
                  refine (H.p43 x0.sub x1.sub _ hy13 _).go ?_
                  (try simp only [hg5, hg6, hg7, hg8, hg9, teq25, XValue.v_eq, hg10, hg12, undef, Bool.not_true, Bool.not_false, xm, Nat.reduceAdd, Nat.reduceLeDiff, seval, reduceCtorEq])
                  refine hZ4 _ ?_; clear hZ4 Z4
                  exact ⟨y13, h, (), trivial, tleF ((And.intro (@XValue.v_eq) <| And.intro hg5 <| And.intro hg6 <| And.intro hg7 <| And.intro hg8 <| And.intro hg9 <| And.intro hg10 <| hg12))⟩
                · (try simp only [hg5, hg6, hg7, hg8, hg9, teq25, XValue.v_eq, hg10, hg12, undef, Bool.not_true, Bool.not_false, xm, Nat.reduceAdd, Nat.reduceLeDiff, seval, reduceCtorEq])
                  refine hZ4 _ ?_; clear hZ4 Z4
                  exact ⟨false, h, (), trivial, tleF ((And.intro (@XValue.v_eq) <| And.intro hg5 <| And.intro hg6 <| And.intro hg7 <| And.intro hg8 <| And.intro hg9 <| And.intro hg10 <| hg12))⟩
              · (try simp only [hg5, hg6, hg7, hg8, hg9, teq25, XValue.v_eq, hg10, undef, Bool.not_true, Bool.not_false, xm, Nat.reduceAdd, Nat.reduceLeDiff, seval, reduceCtorEq])
                refine hZ4 _ ?_; clear hZ4 Z4
                exact ⟨false, h, (), trivial, tleF ((And.intro (@XValue.v_eq) <| And.intro hg5 <| And.intro hg6 <| And.intro hg7 <| And.intro hg8 <| And.intro hg9 <| hg10))⟩
            · (try simp only [hg5, hg6, hg7, hg8, hg9, undef, Bool.not_true, Bool.not_false, xm, Nat.reduceAdd, Nat.reduceLeDiff, seval, reduceCtorEq])
              refine hZ4 _ ?_; clear hZ4 Z4
              exact ⟨false, h, (), trivial, tleF ((And.intro (@XValue.v_eq) <| And.intro hg5 <| And.intro hg6 <| And.intro hg7 <| And.intro hg8 <| hg9))⟩
          · (try simp only [hg5, hg6, hg7, hg8, undef, Bool.not_true, Bool.not_false, xm, Nat.reduceAdd, Nat.reduceLeDiff, seval, reduceCtorEq])
            refine hZ4 _ ?_; clear hZ4 Z4
            exact ⟨false, h, (), trivial, tleF ((And.intro (@XValue.v_eq) <| And.intro hg5 <| And.intro hg6 <| And.intro hg7 <| hg8))⟩
        · (try simp only [hg5, hg6, hg7, undef, Bool.not_true, Bool.not_false, xm, Nat.reduceAdd, Nat.reduceLeDiff, seval, reduceCtorEq])
          refine hZ4 _ ?_; clear hZ4 Z4
          exact ⟨false, h, (), trivial, tleF ((And.intro (@XValue.v_eq) <| And.intro hg5 <| And.intro hg6 <| hg7))⟩
      · (try simp only [hg5, hg6, undef, Bool.not_true, Bool.not_false, xm, Nat.reduceAdd, Nat.reduceLeDiff, seval, reduceCtorEq])
        refine hZ4 _ ?_; clear hZ4 Z4
        exact ⟨false, h, (), trivial, tleF ((And.intro (@XValue.v_eq) <| And.intro hg5 <| hg6))⟩
    · (try simp only [hg5, undef, Bool.not_true, Bool.not_false, xm, Nat.reduceAdd, Nat.reduceLeDiff, seval, reduceCtorEq])
      refine hZ4 _ ?_; clear hZ4 Z4
      exact ⟨false, h, (), trivial, tleF ((And.intro (@XValue.v_eq) <| hg5))⟩
  · rintro v1 h _ _
    refine AWp.ret ?_
    obtain rfl := Option.some.inj h
    exact rtnF (@XValue.v_eq) [.tmp 4]
def b25 (F : F16_) (x0 : XSelect) (x1 : XSelect) : Option (Bool) := (join (fun (u4 : Bool → Option (Bool)) => (way (((((x0.with_.length : Nat) : Int)) != (((x1.with_.length : Nat) : Int)))) (u4 true) (way (((((x0.parts.length : Nat) : Int)) != (((x1.parts.length : Nat) : Int)))) (u4 true) (way (((((x0.order.length : Nat) : Int)) != (((x1.order.length : Nat) : Int)))) (u4 true) (call (F.p42 x0.limit x1.limit) fun y9 => (way ((!y9)) (u4 true) (call (F.p42 x0.offset x1.offset) fun y11 => (u4 (!y11))))))))) (fun (q3 : Bool) => (way q3 (some false) (loopC (fun (u16 : Int → Option (Bool)) (q15 : Int) => (way ((decide (q15 < (((x0.with_.length : Nat) : Int))))) (need (0 ≤ q15 ∧ q15 < ((x0.with_.length : Nat) : Int)) (need (0 ≤ q15 ∧ q15 < ((x1.with_.length : Nat) : Int)) (join (fun (u26 : Bool → Option (Bool)) => (way ((!((((x0.with_.getD q15.toNat XCte.z)).name).data.toList == (((x1.with_.getD q15.toNat XCte.z)).name).data.toList))) (u26 true) (call (s55 (((x0.with_.getD q15.toNat XCte.z)).cols) (((x1.with_.getD q15.toNat XCte.z)).cols)) fun y29 => (way ((!y29)) (u26 true) (call (F.p43 (((x0.with_.getD q15.toNat XCte.z)).body) (((x1.with_.getD q15.toNat XCte.z)).body)) fun y31 => (u26 (!y31))))))) (fun (q25 : Bool) => (way q25 (some false) (u16 (IntKind.i64.wrap (q15 + 1)))))))) (loopC (fun (u36 : Int → Option (Bool)) (q35 : Int) => (way ((decide (q35 < (((x0.parts.length : Nat) : Int))))) (need (0 ≤ q35 ∧ q35 < ((x0.parts.length : Nat) : Int)) (need (0 ≤ q35 ∧ q35 < ((x1.parts.length : Nat) : Int)) (call (F.p56 ((x0.parts.getD q35.toNat XPart.z)) ((x1.parts.getD q35.toNat XPart.z))) fun y44 => (way ((!y44)) (some false) (u36 (IntKind.i64.wrap (q35 + 1))))))) (loopC (fun (u49 : Int → Option (Bool)) (q48 : Int) => (way ((decide (q48 < (((x0.order.length : Nat) : Int))))) (join (fun (u55 : Bool → Option (Bool)) => (need (0 ≤ q48 ∧ q48 < ((x0.order.length : Nat) : Int)) (need (0 ≤ q48 ∧ q48 < ((x1.order.length : Nat) : Int)) (way ((!((((x0.order.getD q48.toNat XSort.z)).desc_) == (((x1.order.getD q48.toNat XSort.z)).desc_)))) (u55 true) (need (0 ≤ q48 ∧ q48 < ((x0.order.length : Nat) : Int)) (need (0 ≤ q48 ∧ q48 < ((x1.order.length : Nat) : Int)) (call (F.p16 (((x0.order.getD q48.toNat XSort.z)).expr) (((x1.order.getD q48.toNat XSort.z)).expr)) fun y66 => (u55 (!y66))))))))) (fun (q54 : Bool) => (way q54 (some false) (u49 (IntKind.i64.wrap (q48 + 1)))))) (some true))) manyC 0))) manyC 0))) manyC 0))))
theorem d25 (F : F16_) (H : F.Ok) (x0 : XSelect) (x1 : XSelect) (r : Bool) (h : b25 F x0 x1 = some r) : Gives Tryz.prog 25 [.agg x0.v, .agg x1.v] (vbool r) := by
  intro s
  unfold b25 at h
  refine acalls_of (fn := Tryz.f25) Tryz.func25 rfl (by decide) (by show 2 ≤ 144; decide) ?_
  rw [Tryz.ntmps25]
  refine rg ?_
  refine AWp.seq_k fun K1 hK1 => ?_
  refine AWp.joinS (X := Bool) (G := Unit) h (fun _ => True) (fun q3 _ => tst [(2, .loc 2 0), (3, .loc 3 0), (50, vbool q3)] [(2, (x0.v, 48)), (3, (x1.v, 48))] s 144) (fun u4 h => ?_) ?_
  · refine AWp.reg1 fun Z5 hZ5 => ?_
    (try simp only [undef, Bool.not_true, Bool.not_false, xm, Nat.reduceAdd, Nat.reduceLeDiff, seval, reduceCtorEq])
    refine gFS h (by rfl) (fun hg6 h => ?_) (fun hg6 h => ?_)
    · (try simp only [hg6, undef, Bool.not_true, Bool.not_false, xm, Nat.reduceAdd, Nat.reduceLeDiff, seval, reduceCtorEq])
      refine hZ5 _ ?_; clear hZ5 Z5
      exact ⟨true, h, (), trivial, tleF hg6⟩
    · (try simp only [hg6, undef, Bool.not_true, Bool.not_false, xm, Nat.reduceAdd, Nat.reduceLeDiff, seval, reduceCtorEq])
      refine gFS h (by rfl) (fun hg7 h => ?_) (fun hg7 h => ?_)
      · (try simp only [hg6, hg7, undef, Bool.not_true, Bool.not_false, xm, Nat.reduceAdd, Nat.reduceLeDiff, seval, reduceCtorEq])
        refine hZ5 _ ?_; clear hZ5 Z5
        exact ⟨true, h, (), trivial, tleF ((And.intro hg6 <| hg7))⟩
      · (try simp only [hg6, hg7, undef, Bool.not_true, Bool.not_false, xm, Nat.reduceAdd, Nat.reduceLeDiff, seval, reduceCtorEq])
        refine gFS h (by rfl) (fun hg8 h => ?_) (fun hg8 h => ?_)
        · (try simp only [hg6, hg7, hg8, undef, Bool.not_true, Bool.not_false, xm, Nat.reduceAdd, Nat.reduceLeDiff, seval, reduceCtorEq])
          refine hZ5 _ ?_; clear hZ5 Z5
          exact ⟨true, h, (), trivial, tleF ((And.intro hg6 <| And.intro hg7 <| hg8))⟩
        · (try simp only [hg6, hg7, hg8, undef, Bool.not_true, Bool.not_false, xm, Nat.reduceAdd, Nat.reduceLeDiff, seval, reduceCtorEq])
          obtain ⟨y9, hy9, h⟩ := call_some h
          refine (H.p42 x0.limit x1.limit _ hy9 _).go ?_
          (try simp only [hg6, hg7, hg8, undef, Bool.not_true, Bool.not_false, xm, Nat.reduceAdd, Nat.reduceLeDiff, seval, reduceCtorEq])
          refine gFS h (by rfl) (fun hg10 h => ?_) (fun hg10 h => ?_)
          · (try simp only [hg6, hg7, hg8, hg10, undef, Bool.not_true, Bool.not_false, xm, Nat.reduceAdd, Nat.reduceLeDiff, seval, reduceCtorEq])
            refine hZ5 _ ?_; clear hZ5 Z5
            exact ⟨true, h, (), trivial, tleF ((And.intro hg6 <| And.intro hg7 <| And.intro hg8 <| hg10))⟩
          · (try simp only [hg6, hg7, hg8, hg10, undef, Bool.not_true, Bool.not_false, xm, Nat.reduceAdd, Nat.reduceLeDiff, seval, reduceCtorEq])
            obtain ⟨y11, hy11, h⟩ := call_some h
            refine (H.p42 x0.offset x1.offset _ hy11 _).go ?_
            (try simp only [hg6, hg7, hg8, hg10, undef, Bool.not_true, Bool.not_false, xm, Nat.reduceAdd, Nat.reduceLeDiff, seval, reduceCtorEq])
            refine hZ5 _ ?_; clear hZ5 Z5
            exact ⟨(!y11), h, (), trivial, tleF ((And.intro hg6 <| And.intro hg7 <| And.intro hg8 <| hg10))⟩
  · rintro v2 h _ _
    refine ws h (fun hc12 h => ?_) fun hc12 h => ?_
    · refine rg ?_
      refine AWp.ret ?_
      obtain rfl := Option.some.inj h
      exact rtn [.tmp 4]
    · refine AWp.skip ?_
      refine hK1 _ ?_; clear hK1
      refine AWp.seq_k fun K13 hK13 => ?_
      refine rg ?_
      refine AWp.block ?_
      refine AWp.loopS (X := Int) (G := Unit) h (fun _ => True) (fun q15 _ => tst [(2, .loc 2 0), (3, .loc 3 0), (5, vint q15)] [(2, (x0.v, 48)), (3, (x1.v, 48))] s 144) ?_ ?_
      · exact ⟨(), trivial, tle⟩
      · rintro u16 v14 h _ _
        refine AWp.seq_k fun K17 hK17 => ?_
        refine rg ?_
        refine ws h (fun hc18 h => ?_) fun hc18 h => ?_
        · refine AWp.skip ?_
          refine hK17 _ ?_; clear hK17
          refine AWp.seq_k fun K19 hK19 => ?_
          refine AWp.block ?_
          obtain ⟨hn21, h⟩ := need_some h
          obtain ⟨hn23, h⟩ := need_some h
          refine rgLF [0, 1, 2, 3, 4, 5, 6, 7, 8, 9, 10, 11, 12, 13] [6, 7, 100064, 100067] ((And.intro ((isT hn21.1)) <| And.intro ((isT hn21.2)) <| And.intro ((getD_enc XCte.v XCte.z hn21)) <| And.intro ((isT hn23.1)) <| And.intro ((isT hn23.2)) <| (getD_enc XCte.v XCte.z hn23))) ?_
          refine AWp.joinS (X := Bool) (G := Unit) h (fun _ => True) (fun q25 _ => tst [(2, .loc 2 0), (3, .loc 3 0), (5, vint v14), (88, vbool q25)] [(2, (x0.v, 48)), (3, (x1.v, 48))] s 144) (fun u26 h => ?_) ?_
          · refine AWp.reg1 fun Z27 hZ27 => ?_
            (try simp only [undef, Bool.not_true, Bool.not_false, xm, Nat.reduceAdd, Nat.reduceLeDiff, seval, reduceCtorEq])
            refine gFS h (by rfl) (fun hg28 h => ?_) (fun hg28 h => ?_)
            · (try simp only [hg28, undef, Bool.not_true, Bool.not_false, xm, Nat.reduceAdd, Nat.reduceLeDiff, seval, reduceCtorEq])
              refine hZ27 _ ?_; clear hZ27 Z27
              exact ⟨true, h, (), trivial, tleF hg28⟩
            · (try simp only [hg28, undef, Bool.not_true, Bool.not_false, xm, Nat.reduceAdd, Nat.reduceLeDiff, seval, reduceCtorEq])
              obtain ⟨y29, hy29, h⟩ := call_some h
              refine (c55 (((x0.with_.getD v14.toNat XCte.z)).cols) (((x1.with_.getD v14.toNat XCte.z)).cols) _ hy29 _).go ?_
              (try simp only [hg28, undef, Bool.not_true, Bool.not_false, xm, Nat.reduceAdd, Nat.reduceLeDiff, seval, reduceCtorEq])
              refine gFS h (by rfl) (fun hg30 h => ?_) (fun hg30 h => ?_)
              · (try simp only [hg28, hg30, undef, Bool.not_true, Bool.not_false, xm, Nat.reduceAdd, Nat.reduceLeDiff, seval, reduceCtorEq])
                refine hZ27 _ ?_; clear hZ27 Z27
                exact ⟨true, h, (), trivial, tleF ((And.intro hg28 <| hg30))⟩
              · (try simp only [hg28, hg30, undef, Bool.not_true, Bool.not_false, xm, Nat.reduceAdd, Nat.reduceLeDiff, seval, reduceCtorEq])
                obtain ⟨y31, hy31, h⟩ := call_some h
                refine (H.p43 (((x0.with_.getD v14.toNat XCte.z)).body) (((x1.with_.getD v14.toNat XCte.z)).body) _ hy31 _).go ?_
                (try simp only [hg28, hg30, undef, Bool.not_true, Bool.not_false, xm, Nat.reduceAdd, Nat.reduceLeDiff, seval, reduceCtorEq])
                refine hZ27 _ ?_; clear hZ27 Z27
                exact ⟨(!y31), h, (), trivial, tleF ((And.intro hg28 <| hg30))⟩
          · rintro v24 h _ _
            refine ws h (fun hc32 h => ?_) fun hc32 h => ?_
            · refine rg ?_
              refine AWp.ret ?_
              obtain rfl := Option.some.inj h
              exact rtn [.tmp 4]
            · refine AWp.skip ?_
              refine hK19 _ ?_; clear hK19
              refine r1 ?_
              exact ⟨(IntKind.i64.wrap (v14 + 1)), h, (), trivial, tle⟩
        · refine AWp.exit ?_
          simp only [thenQ, blockQ, ↓reduceIte, Nat.reduceEqDiff, Nat.one_ne_zero, Nat.zero_ne_one, Nat.succ_ne_zero, reduceCtorEq]
          refine hK13 _ ?_; clear hK13
          refine AWp.seq_k fun K33 hK33 => ?_
          refine rg ?_
          refine AWp.block ?_
          refine AWp.loopS (X := Int) (G := Unit) h (fun _ => True) (fun q35 _ => tst [(2, .loc 2 0), (3, .loc 3 0), (8, vint q35)] [(2, (x0.v, 48)), (3, (x1.v, 48))] s 144) ?_ ?_
          · exact ⟨(), trivial, tle⟩
          · rintro u36 v34 h _ _
            refine AWp.seq_k fun K37 hK37 => ?_
            refine rg ?_
            refine ws h (fun hc38 h => ?_) fun hc38 h => ?_
            · refine AWp.skip ?_
              refine hK37 _ ?_; clear hK37
              refine AWp.seq_k fun K39 hK39 => ?_
              refine AWp.block ?_
              obtain ⟨hn41, h⟩ := need_some h
              obtain ⟨hn43, h⟩ := need_some h
              obtain ⟨y44, hy44, h⟩ := call_some h
              refine rgLFC [0, 1, 2, 3, 4, 5, 6, 7, 8, 9, 10, 11] [] ((And.intro ((isT hn41.1)) <| And.intro ((isT hn41.2)) <| And.intro ((getD_enc XPart.v XPart.z hn41)) <| And.intro ((isT hn43.1)) <| And.intro ((isT hn43.2)) <| (getD_enc XPart.v XPart.z hn43))) (H.p56 ((x0.parts.getD v34.toNat XPart.z)) ((x1.parts.getD v34.toNat XPart.z)) _ hy44) ?_
              refine ws h (fun hc45 h => ?_) fun hc45 h => ?_
              · refine rg ?_
                refine AWp.ret ?_
                obtain rfl := Option.some.inj h
                exact rtn [.tmp 4]
              · refine AWp.skip ?_
                refine hK39 _ ?_; clear hK39
                refine r1 ?_
                exact ⟨(IntKind.i64.wrap (v34 + 1)), h, (), trivial, tle⟩
            · refine AWp.exit ?_
              simp only [thenQ, blockQ, ↓reduceIte, Nat.reduceEqDiff, Nat.one_ne_zero, Nat.zero_ne_one, Nat.succ_ne_zero, reduceCtorEq]
              refine hK33 _ ?_; clear hK33
              refine AWp.seq_k fun K46 hK46 => ?_
              refine rg ?_
              refine AWp.block ?_
              refine AWp.loopS (X := Int) (G := Unit) h (fun _ => True) (fun q48 _ => tst [(2, .loc 2 0), (3, .loc 3 0), (9, vint q48)] [(2, (x0.v, 48)), (3, (x1.v, 48))] s 144) ?_ ?_
              · exact ⟨(), trivial, tle⟩
              · rintro u49 v47 h _ _
                refine AWp.seq_k fun K50 hK50 => ?_
                refine rg ?_
                refine ws h (fun hc51 h => ?_) fun hc51 h => ?_
                · refine AWp.skip ?_
                  refine hK50 _ ?_; clear hK50
                  refine AWp.seq_k fun K52 hK52 => ?_
                  refine AWp.block ?_
                  refine AWp.joinS (X := Bool) (G := Unit) h (fun _ => True) (fun q54 _ => tst [(2, .loc 2 0), (3, .loc 3 0), (9, vint v47), (143, vbool q54)] [(2, (x0.v, 48)), (3, (x1.v, 48))] s 144) (fun u55 h => ?_) ?_
                  · refine AWp.regL1 mixed [0, 1, 2, 3, 4, 5, 6, 7, 8, 9, 10, 11, 12, 13, 14, 15, 16, 17, 18, 19, 20, 21, 22, 23, 24, 25, 26, 27, 28] (by decide +kernel) [] (by decide +kernel) fun Z56 hZ56 => ?_
                    obtain ⟨hn58, h⟩ := need_some h
                    obtain ⟨hn60, h⟩ := need_some h
                    (try simp only [isT hn58.1, isT hn58.2, getD_enc XSort.v XSort.z hn58, isT hn60.1, isT hn60.2, getD_enc XSort.v XSort.z hn60, undef, Bool.not_true, Bool.not_false, aml, Nat.reduceBEq, xm, Nat.reduceAdd, Nat.reduceLeDiff, seval, reduceCtorEq])
                    refine gFSL h (by rfl) (fun hg61 h => ?_) (fun hg61 h => ?_)
                    · (try simp only [isT hn58.1, isT hn58.2, getD_enc XSort.v XSort.z hn58, isT hn60.1, isT hn60.2, getD_enc XSort.v XSort.z hn60, hg61, undef, Bool.not_true, Bool.not_false, aml, Nat.reduceBEq, xm, Nat.reduceAdd, Nat.reduceLeDiff, seval, reduceCtorEq])
                      refine hZ56 _ ?_; clear hZ56 Z56
                      exact ⟨true, h, (), trivial, tleF hg61⟩
                    · obtain ⟨hn63, h⟩ := need_some h
                      obtain ⟨hn65, h⟩ := need_some h
                      (try simp only [isT hn58.1, isT hn58.2, getD_enc XSort.v XSort.z hn58, isT hn60.1, isT hn60.2, getD_enc XSort.v XSort.z hn60, hg61, isT hn63.1, isT hn63.2, getD_enc XSort.v XSort.z hn63, isT hn65.1, isT hn65.2, getD_enc XSort.v XSort.z hn65, undef, Bool.not_true, Bool.not_false, aml, Nat.reduceBEq, xm, Nat.reduceAdd, Nat.reduceLeDiff, seval, reduceCtorEq])
                      obtain ⟨y66, hy66, h⟩ := call_some h
                      refine (H.p16 (((x0.order.getD v47.toNat XSort.z)).expr) (((x1.order.getD v47.toNat XSort.z)).expr) _ hy66 _).go ?_
                      (try simp only [isT hn58.1, isT hn58.2, getD_enc XSort.v XSort.z hn58, isT hn60.1, isT hn60.2, getD_enc XSort.v XSort.z hn60, hg61, isT hn63.1, isT hn63.2, getD_enc XSort.v XSort.z hn63, isT hn65.1, isT hn65.2, getD_enc XSort.v XSort.z hn65, undef, Bool.not_true, Bool.not_false, aml, Nat.reduceBEq, xm, Nat.reduceAdd, Nat.reduceLeDiff, seval, reduceCtorEq])
                      refine hZ56 _ ?_; clear hZ56 Z56
                      exact ⟨(!y66), h, (), trivial, tleF hg61⟩
                  · rintro v53 h _ _
                    refine ws h (fun hc67 h => ?_) fun hc67 h => ?_
                    · refine rg ?_
                      refine AWp.ret ?_
                      obtain rfl := Option.some.inj h
                      exact rtn [.tmp 4]
                    · refine AWp.skip ?_
                      refine hK52 _ ?_; clear hK52
                      refine r1 ?_
                      exact ⟨(IntKind.i64.wrap (v47 + 1)), h, (), trivial, tle⟩
                · refine AWp.exit ?_
                  simp only [thenQ, blockQ, ↓reduceIte, Nat.reduceEqDiff, Nat.one_ne_zero, Nat.zero_ne_one, Nat.succ_ne_zero, reduceCtorEq]
                  refine hK46 _ ?_; clear hK46
                  refine rg ?_
                  refine AWp.ret ?_
                  obtain rfl := Option.some.inj h
                  exact rtn [.tmp 4]
def b42 (F : F16_) (x0 : (List XExpr)) (x1 : (List XExpr)) : Option (Bool) := (way (((((x0.length : Nat) : Int)) != (((x1.length : Nat) : Int)))) (some false) (loopC (fun (u6 : Int → Option (Bool)) (q5 : Int) => (way ((decide (q5 < (((x0.length : Nat) : Int))))) (need (0 ≤ q5 ∧ q5 < ((x0.length : Nat) : Int)) (need (0 ≤ q5 ∧ q5 < ((x1.length : Nat) : Int)) (call (F.p16 ((x0.getD q5.toNat XExpr.z)) ((x1.getD q5.toNat XExpr.z))) fun y14 => (way ((!y14)) (some false) (u6 (IntKind.i64.wrap (q5 + 1))))))) (some true))) manyC 0))
theorem d42 (F : F16_) (H : F.Ok) (x0 : (List XExpr)) (x1 : (List XExpr)) (r : Bool) (h : b42 F x0 x1 = some r) : Gives Tryz.prog 42 [.slice 10 (List.map XExpr.v x0), .slice 10 (List.map XExpr.v x1)] (vbool r) := by
  intro s
  unfold b42 at h
  refine acalls_of (fn := Tryz.f42) Tryz.func42 rfl (by decide) (by show 2 ≤ 27; decide) ?_
  rw [Tryz.ntmps42]
  refine rg ?_
  refine AWp.seq_k fun K1 hK1 => ?_
  refine rg ?_
  refine ws h (fun hc2 h => ?_) fun hc2 h => ?_
  · refine rg ?_
    refine AWp.ret ?_
    obtain rfl := Option.some.inj h
    exact rtn [.tmp 4]
  · refine AWp.skip ?_
    refine hK1 _ ?_; clear hK1
    refine AWp.seq_k fun K3 hK3 => ?_
    refine rg ?_
    refine AWp.block ?_
    refine AWp.loopS (X := Int) (G := Unit) h (fun _ => True) (fun q5 _ => tst [(0, .slice 10 (List.map XExpr.v x0)), (1, .slice 10 (List.map XExpr.v x1)), (5, vint q5)] [] s 27) ?_ ?_
    · exact ⟨(), trivial, tle⟩
    · rintro u6 v4 h _ _
      refine AWp.seq_k fun K7 hK7 => ?_
      refine rg ?_
      refine ws h (fun hc8 h => ?_) fun hc8 h => ?_
      · refine AWp.skip ?_
        refine hK7 _ ?_; clear hK7
        refine AWp.seq_k fun K9 hK9 => ?_
        refine AWp.block ?_
        obtain ⟨hn11, h⟩ := need_some h
        obtain ⟨hn13, h⟩ := need_some h
        obtain ⟨y14, hy14, h⟩ := call_some h
        refine rgLFC [0, 1, 2, 3, 4, 5, 6, 7, 8, 9] [] ((And.intro ((isT hn11.1)) <| And.intro ((isT hn11.2)) <| And.intro ((getD_enc XExpr.v XExpr.z hn11)) <| And.intro ((isT hn13.1)) <| And.intro ((isT hn13.2)) <| (getD_enc XExpr.v XExpr.z hn13))) (H.p16 ((x0.getD v4.toNat XExpr.z)) ((x1.getD v4.toNat XExpr.z)) _ hy14) ?_
        refine ws h (fun hc15 h => ?_) fun hc15 h => ?_
        · refine rg ?_
          refine AWp.ret ?_
          obtain rfl := Option.some.inj h
          exact rtn [.tmp 4]
        · refine AWp.skip ?_
          refine hK9 _ ?_; clear hK9
          refine r1 ?_
          exact ⟨(IntKind.i64.wrap (v4 + 1)), h, (), trivial, tle⟩
      · refine AWp.exit ?_
        simp only [thenQ, blockQ, ↓reduceIte, Nat.reduceEqDiff, Nat.one_ne_zero, Nat.zero_ne_one, Nat.succ_ne_zero, reduceCtorEq]
        refine hK3 _ ?_; clear hK3
        refine rg ?_
        refine AWp.ret ?_
        obtain rfl := Option.some.inj h
        exact rtn [.tmp 4]
def b43 (F : F16_) (x0 : (List XSelect)) (x1 : (List XSelect)) : Option (Bool) := (way (((((x0.length : Nat) : Int)) != (((x1.length : Nat) : Int)))) (some false) (loopC (fun (u6 : Int → Option (Bool)) (q5 : Int) => (way ((decide (q5 < (((x0.length : Nat) : Int))))) (need (0 ≤ q5 ∧ q5 < ((x0.length : Nat) : Int)) (need (0 ≤ q5 ∧ q5 < ((x1.length : Nat) : Int)) (call (F.p25 ((x0.getD q5.toNat XSelect.z)) ((x1.getD q5.toNat XSelect.z))) fun y14 => (way ((!y14)) (some false) (u6 (IntKind.i64.wrap (q5 + 1))))))) (some true))) manyC 0))
theorem d43 (F : F16_) (H : F.Ok) (x0 : (List XSelect)) (x1 : (List XSelect)) (r : Bool) (h : b43 F x0 x1 = some r) : Gives Tryz.prog 43 [.slice 5 (List.map XSelect.v x0), .slice 5 (List.map XSelect.v x1)] (vbool r) := by
  intro s
  unfold b43 at h
  refine acalls_of (fn := Tryz.f43) Tryz.func43 rfl (by decide) (by show 2 ≤ 27; decide) ?_
  rw [Tryz.ntmps43]
  refine rg ?_
  refine AWp.seq_k fun K1 hK1 => ?_
  refine rg ?_
  refine ws h (fun hc2 h => ?_) fun hc2 h => ?_
  · refine rg ?_
    refine AWp.ret ?_
    obtain rfl := Option.some.inj h
    exact rtn [.tmp 4]
  · refine AWp.skip ?_
    refine hK1 _ ?_; clear hK1
    refine AWp.seq_k fun K3 hK3 => ?_
    refine rg ?_
    refine AWp.block ?_
    refine AWp.loopS (X := Int) (G := Unit) h (fun _ => True) (fun q5 _ => tst [(0, .slice 5 (List.map XSelect.v x0)), (1, .slice 5 (List.map XSelect.v x1)), (5, vint q5)] [] s 27) ?_ ?_
    · exact ⟨(), trivial, tle⟩
    · rintro u6 v4 h _ _
      refine AWp.seq_k fun K7 hK7 => ?_
      refine rg ?_
      refine ws h (fun hc8 h => ?_) fun hc8 h => ?_
      · refine AWp.skip ?_
        refine hK7 _ ?_; clear hK7
        refine AWp.seq_k fun K9 hK9 => ?_
        refine AWp.block ?_
        obtain ⟨hn11, h⟩ := need_some h
        obtain ⟨hn13, h⟩ := need_some h
        obtain ⟨y14, hy14, h⟩ := call_some h
        refine rgLFC [0, 1, 2, 3, 4, 5, 6, 7, 8, 9] [] ((And.intro ((isT hn11.1)) <| And.intro ((isT hn11.2)) <| And.intro ((getD_enc XSelect.v XSelect.z hn11)) <| And.intro ((isT hn13.1)) <| And.intro ((isT hn13.2)) <| (getD_enc XSelect.v XSelect.z hn13))) (H.p25 ((x0.getD v4.toNat XSelect.z)) ((x1.getD v4.toNat XSelect.z)) _ hy14) ?_
        refine ws h (fun hc15 h => ?_) fun hc15 h => ?_
        · refine rg ?_
          refine AWp.ret ?_
          obtain rfl := Option.some.inj h
          exact rtn [.tmp 4]
        · refine AWp.skip ?_
          refine hK9 _ ?_; clear hK9
          refine r1 ?_
          exact ⟨(IntKind.i64.wrap (v4 + 1)), h, (), trivial, tle⟩
      · refine AWp.exit ?_
        simp only [thenQ, blockQ, ↓reduceIte, Nat.reduceEqDiff, Nat.one_ne_zero, Nat.zero_ne_one, Nat.succ_ne_zero, reduceCtorEq]
        refine hK3 _ ?_; clear hK3
        refine rg ?_
        refine AWp.ret ?_
        obtain rfl := Option.some.inj h
        exact rtn [.tmp 4]
def b56 (F : F16_) (x0 : XPart) (x1 : XPart) : Option (Bool) := (join (fun (u4 : Bool → Option (Bool)) => (way ((x0.comp != x1.comp)) (u4 true) (way ((!(x0.distinct == x1.distinct))) (u4 true) (way (((((x0.items.length : Nat) : Int)) != (((x1.items.length : Nat) : Int)))) (u4 true) (way (((((x0.from_.length : Nat) : Int)) != (((x1.from_.length : Nat) : Int)))) (u4 true) (u4 ((((x0.values.length : Nat) : Int)) != (((x1.values.length : Nat) : Int))))))))) (fun (q3 : Bool) => (way q3 (some false) (loopC (fun (u14 : Int → Option (Bool)) (q13 : Int) => (way ((decide (q13 < (((x0.items.length : Nat) : Int))))) (need (0 ≤ q13 ∧ q13 < ((x0.items.length : Nat) : Int)) (need (0 ≤ q13 ∧ q13 < ((x1.items.length : Nat) : Int)) (join (fun (u24 : Bool → Option (Bool)) => (way ((!((((x0.items.getD q13.toNat XItem.z)).star) == (((x1.items.getD q13.toNat XItem.z)).star)))) (u24 true) (way ((!((((x0.items.getD q13.toNat XItem.z)).table).data.toList == (((x1.items.getD q13.toNat XItem.z)).table).data.toList))) (u24 true) (way ((!((((x0.items.getD q13.toNat XItem.z)).as).data.toList == (((x1.items.getD q13.toNat XItem.z)).as).data.toList))) (u24 true) (call (F.p42 (((x0.items.getD q13.toNat XItem.z)).expr) (((x1.items.getD q13.toNat XItem.z)).expr)) fun y29 => (u24 (!y29))))))) (fun (q23 : Bool) => (way q23 (some false) (u14 (IntKind.i64.wrap (q13 + 1)))))))) (loopC (fun (u34 : Int → Option (Bool)) (q33 : Int) => (way ((decide (q33 < (((x0.from_.length : Nat) : Int))))) (need (0 ≤ q33 ∧ q33 < ((x0.from_.length : Nat) : Int)) (need (0 ≤ q33 ∧ q33 < ((x1.from_.length : Nat) : Int)) (join (fun (u44 : Bool → Option (Bool)) => (way (((((x0.from_.getD q33.toNat XSource.z)).join) != (((x1.from_.getD q33.toNat XSource.z)).join))) (u44 true) (way ((!((((x0.from_.getD q33.toNat XSource.z)).name).data.toList == (((x1.from_.getD q33.toNat XSource.z)).name).data.toList))) (u44 true) (way ((!((((x0.from_.getD q33.toNat XSource.z)).as).data.toList == (((x1.from_.getD q33.toNat XSource.z)).as).data.toList))) (u44 true) (call (F.p43 (((x0.from_.getD q33.toNat XSource.z)).sub) (((x1.from_.getD q33.toNat XSource.z)).sub)) fun y49 => (way ((!y49)) (u44 true) (call (F.p42 (((x0.from_.getD q33.toNat XSource.z)).on) (((x1.from_.getD q33.toNat XSource.z)).on)) fun y51 => (u44 (!y51))))))))) (fun (q43 : Bool) => (way q43 (some false) (u34 (IntKind.i64.wrap (q33 + 1)))))))) (loopC (fun (u56 : Int → Option (Bool)) (q55 : Int) => (way ((decide (q55 < (((x0.values.length : Nat) : Int))))) (need (0 ≤ q55 ∧ q55 < ((x0.values.length : Nat) : Int)) (need (0 ≤ q55 ∧ q55 < ((x1.values.length : Nat) : Int)) (call (F.p42 ((x0.values.getD q55.toNat ([]))) ((x1.values.getD q55.toNat ([])))) fun y64 => (way ((!y64)) (some false) (u56 (IntKind.i64.wrap (q55 + 1))))))) (join (fun (u68 : Bool → Option (Bool)) => (call (F.p42 x0.where_ x1.where_) fun y70 => (way y70 (call (F.p42 x0.group x1.group) fun y72 => (way y72 (call (F.p42 x0.having x1.having) fun y74 => (u68 y74)) (u68 false))) (u68 false)))) (fun (q67 : Bool) => (some q67))))) manyC 0))) manyC 0))) manyC 0))))
theorem d56 (F : F16_) (H : F.Ok) (x0 : XPart) (x1 : XPart) (r : Bool) (h : b56 F x0 x1 = some r) : Gives Tryz.prog 56 [.agg x0.v, .agg x1.v] (vbool r) := by
  intro s
  unfold b56 at h
  refine acalls_of (fn := Tryz.f56) Tryz.func56 rfl (by decide) (by show 2 ≤ 185; decide) ?_
  rw [Tryz.ntmps56]
  refine rg ?_
  refine AWp.seq_k fun K1 hK1 => ?_
  refine AWp.joinS (X := Bool) (G := Unit) h (fun _ => True) (fun q3 _ => tst [(2, .loc 2 0), (3, .loc 3 0), (50, vbool q3)] [(2, (x0.v, 65)), (3, (x1.v, 65))] s 185) (fun u4 h => ?_) ?_
  · refine AWp.reg1 fun Z5 hZ5 => ?_
    (try simp only [undef, Bool.not_true, Bool.not_false, xm, Nat.reduceAdd, Nat.reduceLeDiff, seval, reduceCtorEq])
    refine gFS h (by rfl) (fun hg6 h => ?_) (fun hg6 h => ?_)
    · (try simp only [hg6, undef, Bool.not_true, Bool.not_false, xm, Nat.reduceAdd, Nat.reduceLeDiff, seval, reduceCtorEq])
      refine hZ5 _ ?_; clear hZ5 Z5
      exact ⟨true, h, (), trivial, tleF hg6⟩
    · (try simp only [hg6, undef, Bool.not_true, Bool.not_false, xm, Nat.reduceAdd, Nat.reduceLeDiff, seval, reduceCtorEq])
      refine gFS h (by rfl) (fun hg7 h => ?_) (fun hg7 h => ?_)
      · (try simp only [hg6, hg7, undef, Bool.not_true, Bool.not_false, xm, Nat.reduceAdd, Nat.reduceLeDiff, seval, reduceCtorEq])
        refine hZ5 _ ?_; clear hZ5 Z5
        exact ⟨true, h, (), trivial, tleF ((And.intro hg6 <| hg7))⟩
      · (try simp only [hg6, hg7, undef, Bool.not_true, Bool.not_false, xm, Nat.reduceAdd, Nat.reduceLeDiff, seval, reduceCtorEq])
        refine gFS h (by rfl) (fun hg8 h => ?_) (fun hg8 h => ?_)
        · (try simp only [hg6, hg7, hg8, undef, Bool.not_true, Bool.not_false, xm, Nat.reduceAdd, Nat.reduceLeDiff, seval, reduceCtorEq])
          refine hZ5 _ ?_; clear hZ5 Z5
          exact ⟨true, h, (), trivial, tleF ((And.intro hg6 <| And.intro hg7 <| hg8))⟩
        · (try simp only [hg6, hg7, hg8, undef, Bool.not_true, Bool.not_false, xm, Nat.reduceAdd, Nat.reduceLeDiff, seval, reduceCtorEq])
          refine gFS h (by rfl) (fun hg9 h => ?_) (fun hg9 h => ?_)
          · (try simp only [hg6, hg7, hg8, hg9, undef, Bool.not_true, Bool.not_false, xm, Nat.reduceAdd, Nat.reduceLeDiff, seval, reduceCtorEq])
            refine hZ5 _ ?_; clear hZ5 Z5
            exact ⟨true, h, (), trivial, tleF ((And.intro hg6 <| And.intro hg7 <| And.intro hg8 <| hg9))⟩
          · (try simp only [hg6, hg7, hg8, hg9, undef, Bool.not_true, Bool.not_false, xm, Nat.reduceAdd, Nat.reduceLeDiff, seval, reduceCtorEq])
            refine hZ5 _ ?_; clear hZ5 Z5
            exact ⟨((((x0.values.length : Nat) : Int)) != (((x1.values.length : Nat) : Int))), h, (), trivial, tleF ((And.intro hg6 <| And.intro hg7 <| And.intro hg8 <| hg9))⟩
  · rintro v2 h _ _
    refine ws h (fun hc10 h => ?_) fun hc10 h => ?_
    · refine rg ?_
      refine AWp.ret ?_
      obtain rfl := Option.some.inj h
      exact rtn [.tmp 4]
    · refine AWp.skip ?_
      refine hK1 _ ?_; clear hK1
      refine AWp.seq_k fun K11 hK11 => ?_
      refine rg ?_
      refine AWp.block ?_
      refine AWp.loopS (X := Int) (G := Unit) h (fun _ => True) (fun q13 _ => tst [(2, .loc 2 0), (3, .loc 3 0), (5, vint q13)] [(2, (x0.v, 65)), (3, (x1.v, 65))] s 185) ?_ ?_
      · exact ⟨(), trivial, tle⟩
      · rintro u14 v12 h _ _
        refine AWp.seq_k fun K15 hK15 => ?_
        refine rg ?_
        refine ws h (fun hc16 h => ?_) fun hc16 h => ?_
        · refine AWp.skip ?_
          refine hK15 _ ?_; clear hK15
          refine AWp.seq_k fun K17 hK17 => ?_
          refine AWp.block ?_
          obtain ⟨hn19, h⟩ := need_some h
          obtain ⟨hn21, h⟩ := need_some h
          refine rgLF [0, 1, 2, 3, 4, 5, 6, 7, 8, 9, 10, 11, 12, 13] [6, 7, 100064, 100067] ((And.intro ((isT hn19.1)) <| And.intro ((isT hn19.2)) <| And.intro ((getD_enc XItem.v XItem.z hn19)) <| And.intro ((isT hn21.1)) <| And.intro ((isT hn21.2)) <| (getD_enc XItem.v XItem.z hn21))) ?_
          refine AWp.joinS (X := Bool) (G := Unit) h (fun _ => True) (fun q23 _ => tst [(2, .loc 2 0), (3, .loc 3 0), (5, vint v12), (94, vbool q23)] [(2, (x0.v, 65)), (3, (x1.v, 65))] s 185) (fun u24 h => ?_) ?_
          · refine AWp.reg1 fun Z25 hZ25 => ?_
            (try simp only [undef, Bool.not_true, Bool.not_false, xm, Nat.reduceAdd, Nat.reduceLeDiff, seval, reduceCtorEq])
            refine gFS h (by rfl) (fun hg26 h => ?_) (fun hg26 h => ?_)
            · (try simp only [hg26, undef, Bool.not_true, Bool.not_false, xm, Nat.reduceAdd, Nat.reduceLeDiff, seval, reduceCtorEq])
              refine hZ25 _ ?_; clear hZ25 Z25
              exact ⟨true, h, (), trivial, tleF hg26⟩
            · (try simp only [hg26, undef, Bool.not_true, Bool.not_false, xm, Nat.reduceAdd, Nat.reduceLeDiff, seval, reduceCtorEq])
              refine gFS h (by rfl) (fun hg27 h => ?_) (fun hg27 h => ?_)
              · (try simp only [hg26, hg27, undef, Bool.not_true, Bool.not_false, xm, Nat.reduceAdd, Nat.reduceLeDiff, seval, reduceCtorEq])
                refine hZ25 _ ?_; clear hZ25 Z25
                exact ⟨true, h, (), trivial, tleF ((And.intro hg26 <| hg27))⟩
              · (try simp only [hg26, hg27, undef, Bool.not_true, Bool.not_false, xm, Nat.reduceAdd, Nat.reduceLeDiff, seval, reduceCtorEq])
                refine gFS h (by rfl) (fun hg28 h => ?_) (fun hg28 h => ?_)
                · (try simp only [hg26, hg27, hg28, undef, Bool.not_true, Bool.not_false, xm, Nat.reduceAdd, Nat.reduceLeDiff, seval, reduceCtorEq])
                  refine hZ25 _ ?_; clear hZ25 Z25
                  exact ⟨true, h, (), trivial, tleF ((And.intro hg26 <| And.intro hg27 <| hg28))⟩
                · (try simp only [hg26, hg27, hg28, undef, Bool.not_true, Bool.not_false, xm, Nat.reduceAdd, Nat.reduceLeDiff, seval, reduceCtorEq])
                  obtain ⟨y29, hy29, h⟩ := call_some h
                  refine (H.p42 (((x0.items.getD v12.toNat XItem.z)).expr) (((x1.items.getD v12.toNat XItem.z)).expr) _ hy29 _).go ?_
                  (try simp only [hg26, hg27, hg28, undef, Bool.not_true, Bool.not_false, xm, Nat.reduceAdd, Nat.reduceLeDiff, seval, reduceCtorEq])
                  refine hZ25 _ ?_; clear hZ25 Z25
                  exact ⟨(!y29), h, (), trivial, tleF ((And.intro hg26 <| And.intro hg27 <| hg28))⟩
          · rintro v22 h _ _
            refine ws h (fun hc30 h => ?_) fun hc30 h => ?_
            · refine rg ?_
              refine AWp.ret ?_
              obtain rfl := Option.some.inj h
              exact rtn [.tmp 4]
            · refine AWp.skip ?_
              refine hK17 _ ?_; clear hK17
              refine r1 ?_
              exact ⟨(IntKind.i64.wrap (v12 + 1)), h, (), trivial, tle⟩
        · refine AWp.exit ?_
          simp only [thenQ, blockQ, ↓reduceIte, Nat.reduceEqDiff, Nat.one_ne_zero, Nat.zero_ne_one, Nat.succ_ne_zero, reduceCtorEq]
          refine hK11 _ ?_; clear hK11
          refine AWp.seq_k fun K31 hK31 => ?_
          refine rg ?_
          refine AWp.block ?_
          refine AWp.loopS (X := Int) (G := Unit) h (fun _ => True) (fun q33 _ => tst [(2, .loc 2 0), (3, .loc 3 0), (8, vint q33)] [(2, (x0.v, 65)), (3, (x1.v, 65))] s 185) ?_ ?_
          · exact ⟨(), trivial, tle⟩
          · rintro u34 v32 h _ _
            refine AWp.seq_k fun K35 hK35 => ?_
            refine rg ?_
            refine ws h (fun hc36 h => ?_) fun hc36 h => ?_
            · refine AWp.skip ?_
              refine hK35 _ ?_; clear hK35
              refine AWp.seq_k fun K37 hK37 => ?_
              refine AWp.block ?_
              obtain ⟨hn39, h⟩ := need_some h
              obtain ⟨hn41, h⟩ := need_some h
              refine rgLF [0, 1, 2, 3, 4, 5, 6, 7, 8, 9, 10, 11, 12, 13] [9, 10, 100108, 100111] ((And.intro ((isT hn39.1)) <| And.intro ((isT hn39.2)) <| And.intro ((getD_enc XSource.v XSource.z hn39)) <| And.intro ((isT hn41.1)) <| And.intro ((isT hn41.2)) <| (getD_enc XSource.v XSource.z hn41))) ?_
              refine AWp.joinS (X := Bool) (G := Unit) h (fun _ => True) (fun q43 _ => tst [(2, .loc 2 0), (3, .loc 3 0), (8, vint v32), (146, vbool q43)] [(2, (x0.v, 65)), (3, (x1.v, 65))] s 185) (fun u44 h => ?_) ?_
              · refine AWp.reg1 fun Z45 hZ45 => ?_
                (try simp only [undef, Bool.not_true, Bool.not_false, xm, Nat.reduceAdd, Nat.reduceLeDiff, seval, reduceCtorEq])
                refine gFS h (by rfl) (fun hg46 h => ?_) (fun hg46 h => ?_)
                · (try simp only [hg46, undef, Bool.not_true, Bool.not_false, xm, Nat.reduceAdd, Nat.reduceLeDiff, seval, reduceCtorEq])
                  refine hZ45 _ ?_; clear hZ45 Z45
                  exact ⟨true, h, (), trivial, tleF hg46⟩
                · (try simp only [hg46, undef, Bool.not_true, Bool.not_false, xm, Nat.reduceAdd, Nat.reduceLeDiff, seval, reduceCtorEq])
                  refine gFS h (by rfl) (fun hg47 h => ?_) (fun hg47 h => ?_)
                  · (try simp only [hg46, hg47, undef, Bool.not_true, Bool.not_false, xm, Nat.reduceAdd, Nat.reduceLeDiff, seval, reduceCtorEq])
                    refine hZ45 _ ?_; clear hZ45 Z45
                    exact ⟨true, h, (), trivial, tleF ((And.intro hg46 <| hg47))⟩
                  · (try simp only [hg46, hg47, undef, Bool.not_true, Bool.not_false, xm, Nat.reduceAdd, Nat.reduceLeDiff, seval, reduceCtorEq])
                    refine gFS h (by rfl) (fun hg48 h => ?_) (fun hg48 h => ?_)
                    · (try simp only [hg46, hg47, hg48, undef, Bool.not_true, Bool.not_false, xm, Nat.reduceAdd, Nat.reduceLeDiff, seval, reduceCtorEq])
                      refine hZ45 _ ?_; clear hZ45 Z45
                      exact ⟨true, h, (), trivial, tleF ((And.intro hg46 <| And.intro hg47 <| hg48))⟩
                    · (try simp only [hg46, hg47, hg48, undef, Bool.not_true, Bool.not_false, xm, Nat.reduceAdd, Nat.reduceLeDiff, seval, reduceCtorEq])
                      obtain ⟨y49, hy49, h⟩ := call_some h
                      refine (H.p43 (((x0.from_.getD v32.toNat XSource.z)).sub) (((x1.from_.getD v32.toNat XSource.z)).sub) _ hy49 _).go ?_
                      (try simp only [hg46, hg47, hg48, undef, Bool.not_true, Bool.not_false, xm, Nat.reduceAdd, Nat.reduceLeDiff, seval, reduceCtorEq])
                      refine gFS h (by rfl) (fun hg50 h => ?_) (fun hg50 h => ?_)
                      · (try simp only [hg46, hg47, hg48, hg50, undef, Bool.not_true, Bool.not_false, xm, Nat.reduceAdd, Nat.reduceLeDiff, seval, reduceCtorEq])
                        refine hZ45 _ ?_; clear hZ45 Z45
                        exact ⟨true, h, (), trivial, tleF ((And.intro hg46 <| And.intro hg47 <| And.intro hg48 <| hg50))⟩
                      · (try simp only [hg46, hg47, hg48, hg50, undef, Bool.not_true, Bool.not_false, xm, Nat.reduceAdd, Nat.reduceLeDiff, seval, reduceCtorEq])
                        obtain ⟨y51, hy51, h⟩ := call_some h
                        refine (H.p42 (((x0.from_.getD v32.toNat XSource.z)).on) (((x1.from_.getD v32.toNat XSource.z)).on) _ hy51 _).go ?_
                        (try simp only [hg46, hg47, hg48, hg50, undef, Bool.not_true, Bool.not_false, xm, Nat.reduceAdd, Nat.reduceLeDiff, seval, reduceCtorEq])
                        refine hZ45 _ ?_; clear hZ45 Z45
                        exact ⟨(!y51), h, (), trivial, tleF ((And.intro hg46 <| And.intro hg47 <| And.intro hg48 <| hg50))⟩
              · rintro v42 h _ _
                refine ws h (fun hc52 h => ?_) fun hc52 h => ?_
                · refine rg ?_
                  refine AWp.ret ?_
                  obtain rfl := Option.some.inj h
                  exact rtn [.tmp 4]
                · refine AWp.skip ?_
                  refine hK37 _ ?_; clear hK37
                  refine r1 ?_
                  exact ⟨(IntKind.i64.wrap (v32 + 1)), h, (), trivial, tle⟩
            · refine AWp.exit ?_
              simp only [thenQ, blockQ, ↓reduceIte, Nat.reduceEqDiff, Nat.one_ne_zero, Nat.zero_ne_one, Nat.succ_ne_zero, reduceCtorEq]
              refine hK31 _ ?_; clear hK31
              refine AWp.seq_k fun K53 hK53 => ?_
              refine rg ?_
              refine AWp.block ?_
              refine AWp.loopS (X := Int) (G := Unit) h (fun _ => True) (fun q55 _ => tst [(2, .loc 2 0), (3, .loc 3 0), (11, vint q55)] [(2, (x0.v, 65)), (3, (x1.v, 65))] s 185) ?_ ?_
              · exact ⟨(), trivial, tle⟩
              · rintro u56 v54 h _ _
                refine AWp.seq_k fun K57 hK57 => ?_
                refine rg ?_
                refine ws h (fun hc58 h => ?_) fun hc58 h => ?_
                · refine AWp.skip ?_
                  refine hK57 _ ?_; clear hK57
                  refine AWp.seq_k fun K59 hK59 => ?_
                  refine AWp.block ?_
                  obtain ⟨hn61, h⟩ := need_some h
                  obtain ⟨hn63, h⟩ := need_some h
                  obtain ⟨y64, hy64, h⟩ := call_some h
                  refine rgLFC [0, 1, 2, 3, 4, 5, 6, 7, 8, 9, 10, 11] [] ((And.intro ((isT hn61.1)) <| And.intro ((isT hn61.2)) <| And.intro ((getD_enc (fun x => [V.slice 10 (List.map XExpr.v x)]) ([]) hn61)) <| And.intro ((isT hn63.1)) <| And.intro ((isT hn63.2)) <| (getD_enc (fun x => [V.slice 10 (List.map XExpr.v x)]) ([]) hn63))) (H.p42 ((x0.values.getD v54.toNat ([]))) ((x1.values.getD v54.toNat ([]))) _ hy64) ?_
                  refine ws h (fun hc65 h => ?_) fun hc65 h => ?_
                  · refine rg ?_
                    refine AWp.ret ?_
                    obtain rfl := Option.some.inj h
                    exact rtn [.tmp 4]
                  · refine AWp.skip ?_
                    refine hK59 _ ?_; clear hK59
                    refine r1 ?_
                    exact ⟨(IntKind.i64.wrap (v54 + 1)), h, (), trivial, tle⟩
                · refine AWp.exit ?_
                  simp only [thenQ, blockQ, ↓reduceIte, Nat.reduceEqDiff, Nat.one_ne_zero, Nat.zero_ne_one, Nat.succ_ne_zero, reduceCtorEq]
                  refine hK53 _ ?_; clear hK53
                  refine AWp.joinS (X := Bool) (G := Unit) h (fun _ => True) (fun q67 _ => tst [(4, vbool q67)] [] s 185) (fun u68 h => ?_) ?_
                  · refine AWp.reg1 fun Z69 hZ69 => ?_
                    (try simp only [undef, Bool.not_true, Bool.not_false, xm, Nat.reduceAdd, Nat.reduceLeDiff, seval, reduceCtorEq])
                    obtain ⟨y70, hy70, h⟩ := call_some h
                    refine (H.p42 x0.where_ x1.where_ _ hy70 _).go ?_
                    (try simp only [undef, Bool.not_true, Bool.not_false, xm, Nat.reduceAdd, Nat.reduceLeDiff, seval, reduceCtorEq])
                    refine gTS h (by rfl) (fun hg71 h => ?_) (fun hg71 h => ?_)
                    · (try simp only [hg71, undef, Bool.not_true, Bool.not_false, xm, Nat.reduceAdd, Nat.reduceLeDiff, seval, reduceCtorEq])
                      obtain ⟨y72, hy72, h⟩ := call_some h
                      refine (H.p42 x0.group x1.group _ hy72 _).go ?_
                      (try simp only [hg71, undef, Bool.not_true, Bool.not_false, xm, Nat.reduceAdd, Nat.reduceLeDiff, seval, reduceCtorEq])
                      refine gTS h (by rfl) (fun hg73 h => ?_) (fun hg73 h => ?_)
                      · (try simp only [hg71, hg73, undef, Bool.not_true, Bool.not_false, xm, Nat.reduceAdd, Nat.reduceLeDiff, seval, reduceCtorEq])
                        obtain ⟨y74, hy74, h⟩ := call_some h
                        refine (H.p42 x0.having x1.having _ hy74 _).go ?_
                        (try simp only [hg71, hg73, undef, Bool.not_true, Bool.not_false, xm, Nat.reduceAdd, Nat.reduceLeDiff, seval, reduceCtorEq])
                        refine hZ69 _ ?_; clear hZ69 Z69
                        exact ⟨y74, h, (), trivial, tleF ((And.intro hg71 <| hg73))⟩
                      · (try simp only [hg71, hg73, undef, Bool.not_true, Bool.not_false, xm, Nat.reduceAdd, Nat.reduceLeDiff, seval, reduceCtorEq])
                        refine hZ69 _ ?_; clear hZ69 Z69
                        exact ⟨false, h, (), trivial, tleF ((And.intro hg71 <| hg73))⟩
                    · (try simp only [hg71, undef, Bool.not_true, Bool.not_false, xm, Nat.reduceAdd, Nat.reduceLeDiff, seval, reduceCtorEq])
                      refine hZ69 _ ?_; clear hZ69 Z69
                      exact ⟨false, h, (), trivial, tleF hg71⟩
                  · rintro v66 h _ _
                    refine AWp.ret ?_
                    obtain rfl := Option.some.inj h
                    exact rtn [.tmp 4]
def F16_.fix : Nat → F16_
  | 0 => ⟨fun _ _ => none, fun _ _ => none, fun _ _ => none, fun _ _ => none, fun _ _ => none⟩
  | n + 1 => ⟨b16 (F16_.fix n), b25 (F16_.fix n), b42 (F16_.fix n), b43 (F16_.fix n), b56 (F16_.fix n)⟩
theorem F16_.ok : ∀ n, F16_.Ok (F16_.fix n)
  | 0 => ⟨(fun _ _ _ h => by cases h), (fun _ _ _ h => by cases h), (fun _ _ _ h => by cases h), (fun _ _ _ h => by cases h), (fun _ _ _ h => by cases h)⟩
  | n + 1 => ⟨d16 _ (F16_.ok n), d25 _ (F16_.ok n), d42 _ (F16_.ok n), d43 _ (F16_.ok n), d56 _ (F16_.ok n)⟩
def s25 := (F16_.fix manyC).p25
theorem c25 : ∀ (x0 : XSelect) (x1 : XSelect) (r : Bool), s25 x0 x1 = some r → Gives Tryz.prog 25 [.agg x0.v, .agg x1.v] (vbool r) := (F16_.ok manyC).p25
end Go.Proofs.YtopgndakadileaaGreatDoor.Ex
namespace Go.Proofs.YtopgndakadileaaGreatDoor.Ex
open Go.Am Go.Ex Go.Proofs.YtopgndakadileaaGreatDoor
def s69 (x0 : XSelect) : Option ((List XExpr)) := (loopC (fun (u8 : (List XExpr) × Int → Option ((List XExpr))) (q7 : (List XExpr) × Int) => (way ((decide (q7.2 < (((x0.parts.length : Nat) : Int))))) (need (0 ≤ q7.2 ∧ q7.2 < ((x0.parts.length : Nat) : Int)) (loopC (fun (u20 : (List XExpr) × Int → Option ((List XExpr))) (q19 : (List XExpr) × Int) => (way ((decide (q19.2 < ((((((x0.parts.getD q7.2.toNat XPart.z)).items).length : Nat) : Int))))) (need (0 ≤ q19.2 ∧ q19.2 < (((((x0.parts.getD q7.2.toNat XPart.z)).items).length : Nat) : Int)) (need ((q19.1.length + ((((((x0.parts.getD q7.2.toNat XPart.z)).items).getD q19.2.toNat XItem.z)).expr).length) * 136 ≤ 140737488355328) (u20 ((q19.1 ++ ((((((x0.parts.getD q7.2.toNat XPart.z)).items).getD q19.2.toNat XItem.z)).expr)), (IntKind.i64.wrap (q19.2 + 1)))))) (loopC (fun (u36 : (List XExpr) × Int → Option ((List XExpr))) (q35 : (List XExpr) × Int) => (way ((decide (q35.2 < ((((((x0.parts.getD q7.2.toNat XPart.z)).from_).length : Nat) : Int))))) (need (0 ≤ q35.2 ∧ q35.2 < (((((x0.parts.getD q7.2.toNat XPart.z)).from_).length : Nat) : Int)) (need ((q35.1.length + ((((((x0.parts.getD q7.2.toNat XPart.z)).from_).getD q35.2.toNat XSource.z)).on).length) * 136 ≤ 140737488355328) (u36 ((q35.1 ++ ((((((x0.parts.getD q7.2.toNat XPart.z)).from_).getD q35.2.toNat XSource.z)).on)), (IntKind.i64.wrap (q35.2 + 1)))))) (need ((q35.1.length + (((x0.parts.getD q7.2.toNat XPart.z)).where_).length) * 136 ≤ 140737488355328) (need ((((q35.1 ++ (((x0.parts.getD q7.2.toNat XPart.z)).where_))).length + (((x0.parts.getD q7.2.toNat XPart.z)).group).length) * 136 ≤ 140737488355328) (need ((((((q35.1 ++ (((x0.parts.getD q7.2.toNat XPart.z)).where_))) ++ (((x0.parts.getD q7.2.toNat XPart.z)).group))).length + (((x0.parts.getD q7.2.toNat XPart.z)).having).length) * 136 ≤ 140737488355328) (loopC (fun (u63 : (List XExpr) × Int → Option ((List XExpr))) (q62 : (List XExpr) × Int) => (way ((decide (q62.2 < ((((((x0.parts.getD q7.2.toNat XPart.z)).values).length : Nat) : Int))))) (need (0 ≤ q62.2 ∧ q62.2 < (((((x0.parts.getD q7.2.toNat XPart.z)).values).length : Nat) : Int)) (need ((q62.1.length + (((((x0.parts.getD q7.2.toNat XPart.z)).values).getD q62.2.toNat ([]))).length) * 136 ≤ 140737488355328) (u63 ((q62.1 ++ (((((x0.parts.getD q7.2.toNat XPart.z)).values).getD q62.2.toNat ([])))), (IntKind.i64.wrap (q62.2 + 1)))))) (u8 (q62.1, (IntKind.i64.wrap (q7.2 + 1)))))) manyC ((((((q35.1 ++ (((x0.parts.getD q7.2.toNat XPart.z)).where_))) ++ (((x0.parts.getD q7.2.toNat XPart.z)).group))) ++ (((x0.parts.getD q7.2.toNat XPart.z)).having)), 0))))))) manyC (q19.1, 0)))) manyC (q7.1, 0))) (loopC (fun (u79 : (List XExpr) × Int → Option ((List XExpr))) (q78 : (List XExpr) × Int) => (way ((decide (q78.2 < (((x0.order.length : Nat) : Int))))) (need (0 ≤ q78.2 ∧ q78.2 < ((x0.order.length : Nat) : Int)) (need ((q78.1.length + 1) * 136 ≤ 140737488355328) (u79 ((q78.1 ++ ([((x0.order.getD q78.2.toNat XSort.z)).expr])), (IntKind.i64.wrap (q78.2 + 1)))))) (need ((q78.1.length + x0.limit.length) * 136 ≤ 140737488355328) (need ((((q78.1 ++ x0.limit)).length + x0.offset.length) * 136 ≤ 140737488355328) (some ((((q78.1 ++ x0.limit)) ++ x0.offset))))))) manyC (q7.1, 0)))) manyC (([] : List XExpr), 0))
theorem c69 (x0 : XSelect) (r : (List XExpr)) (h : s69 x0 = some r) : Gives Tryz.prog 69 [.agg x0.v] (.slice 10 (List.map XExpr.v r)) := by
  intro s
  unfold s69 at h
  refine acalls_of (fn := Tryz.f69) Tryz.func69 rfl (by decide) (by show 1 ≤ 102; decide) ?_
  rw [Tryz.ntmps69]
  refine rg ?_
  refine rg ?_
  refine AWp.seq_k fun K1 hK1 => ?_
  refine rg ?_
  refine AWp.block ?_
  refine AWp.adoptE 3 (29, 10) (.inl (by rfl)) fun g2 hg2 => ?_
  change (s).own g2 = none at hg2
  have fr3 : Fr s (List.map Prod.fst [(g2, (29, 10))]) := Fr.snoc (l := []) (Fr.nil s) hg2
  refine AWp.loopS (X := (List XExpr) × Int) (G := Nat) h (fun gq9 => Fr s (List.map Prod.fst [(gq9, (29, 10))])) (fun q7 gq9 => tst [(1, .loc 1 0), (3, .own gq9 10 (List.map XExpr.v q7.1)), (4, vint q7.2)] [(1, (x0.v, 48))] (owns s [(gq9, (29, 10))]) 102) ?_ ?_
  · exact ⟨g2, fr3, tle⟩
  · rintro u8 ⟨v4, v6⟩ h g5 hg5f
    (try dsimp only at h ⊢)
    refine AWp.seq_k fun K10 hK10 => ?_
    refine rg ?_
    refine ws h (fun hc11 h => ?_) fun hc11 h => ?_
    · refine AWp.skip ?_
      refine hK10 _ ?_; clear hK10
      refine AWp.seq_k fun K12 hK12 => ?_
      refine AWp.block ?_
      obtain ⟨hn14, h⟩ := need_some h
      refine rgF ((And.intro ((isT hn14.1)) <| And.intro ((isT hn14.2)) <| (getD_enc XPart.v XPart.z hn14))) ?_
      refine AWp.seq_k fun K15 hK15 => ?_
      refine rg ?_
      refine AWp.block ?_
      refine AWp.loopS (X := (List XExpr) × Int) (G := Nat) h (fun gq21 => Fr s (List.map Prod.fst [(gq21, (29, 10))])) (fun q19 gq21 => tst [(1, .loc 1 0), (3, .own gq21 10 (List.map XExpr.v q19.1)), (4, vint v6), (5, .loc 5 0), (6, vint q19.2)] [(1, (x0.v, 48)), (5, (((x0.parts.getD v6.toNat XPart.z)).v, 65))] (owns s [(gq21, (29, 10))]) 102) ?_ ?_
      · exact ⟨g5, hg5f, tle⟩
      · rintro u20 ⟨v16, v18⟩ h g17 hg17f
        (try dsimp only at h ⊢)
        refine AWp.seq_k fun K22 hK22 => ?_
        refine rg ?_
        refine ws h (fun hc23 h => ?_) fun hc23 h => ?_
        · refine AWp.skip ?_
          refine hK22 _ ?_; clear hK22
          refine AWp.seq_k fun K24 hK24 => ?_
          refine AWp.block ?_
          refine AWp.reg1 fun Z25 hZ25 => ?_
          obtain ⟨hn27, h⟩ := need_some h
          obtain ⟨hn28, h⟩ := need_some h
          (try simp only [isT hn27.1, isT hn27.2, getD_enc XItem.v XItem.z hn27, mapAppend, XExpr.snoc, XExpr.snoc', XExpr.eta, List.set_cons_zero, List.set_cons_succ, xa, Nat.reduceAdd, seval, reduceCtorEq])
          first | refine ⟨owns_at [(g17, (29, 10))] s hg17f.2 (by simp), by (try simp only [List.length_map]); exact hn28, by (try simp only [List.length_map]); exact app_ok hn28 (by decide), fun g29 hg29 => ?_⟩ | refine ⟨owns_at [(g17, (29, 10))] s hg17f.2 (by simp), by unfold maxLen; omega, fun g29 hg29 => ?_⟩ | refine ⟨owns_at [(g17, (29, 10))] s hg17f.2 (by simp), fun g29 hg29 => ?_⟩
          have fr30 : Fr s (List.map Prod.fst [(g29, (29, 10))]) := Fr.rep (a := []) (b := []) hg17f hg29
          (try simp only [isT hn27.1, isT hn27.2, getD_enc XItem.v XItem.z hn27, mapAppend, XExpr.snoc, XExpr.snoc', XExpr.eta, List.set_cons_zero, List.set_cons_succ, xa, Nat.reduceAdd, seval, reduceCtorEq])
          refine hZ25 _ ?_; clear hZ25 Z25
          refine hK24 _ ?_; clear hK24
          refine AWp.heapLe (s' := (owns s [(g29, (29, 10))])) (Fr.repLe (a := []) (b := []) hg17f hg29) ?_
          refine r1 ?_
          exact ⟨((v16 ++ ((((((x0.parts.getD v6.toNat XPart.z)).items).getD v18.toNat XItem.z)).expr)), (IntKind.i64.wrap (v18 + 1))), h, g29, fr30, tle⟩
        · refine AWp.exit ?_
          simp only [thenQ, blockQ, ↓reduceIte, Nat.reduceEqDiff, Nat.one_ne_zero, Nat.zero_ne_one, Nat.succ_ne_zero, reduceCtorEq]
          refine hK15 _ ?_; clear hK15
          refine AWp.seq_k fun K31 hK31 => ?_
          refine rg ?_
          refine AWp.block ?_
          refine AWp.loopS (X := (List XExpr) × Int) (G := Nat) h (fun gq37 => Fr s (List.map Prod.fst [(gq37, (29, 10))])) (fun q35 gq37 => tst [(1, .loc 1 0), (3, .own gq37 10 (List.map XExpr.v q35.1)), (4, vint v6), (5, .loc 5 0), (7, vint q35.2)] [(1, (x0.v, 48)), (5, (((x0.parts.getD v6.toNat XPart.z)).v, 65))] (owns s [(gq37, (29, 10))]) 102) ?_ ?_
          · exact ⟨g17, hg17f, tle⟩
          · rintro u36 ⟨v32, v34⟩ h g33 hg33f
            (try dsimp only at h ⊢)
            refine AWp.seq_k fun K38 hK38 => ?_
            refine rg ?_
            refine ws h (fun hc39 h => ?_) fun hc39 h => ?_
            · refine AWp.skip ?_
              refine hK38 _ ?_; clear hK38
              refine AWp.seq_k fun K40 hK40 => ?_
              refine AWp.block ?_
              refine AWp.reg1 fun Z41 hZ41 => ?_
              obtain ⟨hn43, h⟩ := need_some h
              obtain ⟨hn44, h⟩ := need_some h
              (try simp only [isT hn43.1, isT hn43.2, getD_enc XSource.v XSource.z hn43, mapAppend, XExpr.snoc, XExpr.snoc', XExpr.eta, List.set_cons_zero, List.set_cons_succ, xa, Nat.reduceAdd, seval, reduceCtorEq])
              first | refine ⟨owns_at [(g33, (29, 10))] s hg33f.2 (by simp), by (try simp only [List.length_map]); exact hn44, by (try simp only [List.length_map]); exact app_ok hn44 (by decide), fun g45 hg45 => ?_⟩ | refine ⟨owns_at [(g33, (29, 10))] s hg33f.2 (by simp), by unfold maxLen; omega, fun g45 hg45 => ?_⟩ | refine ⟨owns_at [(g33, (29, 10))] s hg33f.2 (by simp), fun g45 hg45 => ?_⟩
              have fr46 : Fr s (List.map Prod.fst [(g45, (29, 10))]) := Fr.rep (a := []) (b := []) hg33f hg45
              (try simp only [isT hn43.1, isT hn43.2, getD_enc XSource.v XSource.z hn43, mapAppend, XExpr.snoc, XExpr.snoc', XExpr.eta, List.set_cons_zero, List.set_cons_succ, xa, Nat.reduceAdd, seval, reduceCtorEq])
              refine hZ41 _ ?_; clear hZ41 Z41
              refine hK40 _ ?_; clear hK40
              refine AWp.heapLe (s' := (owns s [(g45, (29, 10))])) (Fr.repLe (a := []) (b := []) hg33f hg45) ?_
              refine r1 ?_
              exact ⟨((v32 ++ ((((((x0.parts.getD v6.toNat XPart.z)).from_).getD v34.toNat XSource.z)).on)), (IntKind.i64.wrap (v34 + 1))), h, g45, fr46, tle⟩
            · refine AWp.exit ?_
              simp only [thenQ, blockQ, ↓reduceIte, Nat.reduceEqDiff, Nat.one_ne_zero, Nat.zero_ne_one, Nat.succ_ne_zero, reduceCtorEq]
              refine hK31 _ ?_; clear hK31
              refine AWp.reg fun Z47 hZ47 => ?_
              obtain ⟨hn48, h⟩ := need_some h
              (try simp only [mapAppend, XExpr.snoc, XExpr.snoc', XExpr.eta, List.set_cons_zero, List.set_cons_succ, xa, Nat.reduceAdd, seval, reduceCtorEq])
              first | refine ⟨owns_at [(g33, (29, 10))] s hg33f.2 (by simp), by (try simp only [List.length_map]); exact hn48, by (try simp only [List.length_map]); exact app_ok hn48 (by decide), fun g49 hg49 => ?_⟩ | refine ⟨owns_at [(g33, (29, 10))] s hg33f.2 (by simp), by unfold maxLen; omega, fun g49 hg49 => ?_⟩ | refine ⟨owns_at [(g33, (29, 10))] s hg33f.2 (by simp), fun g49 hg49 => ?_⟩
              have fr50 : Fr s (List.map Prod.fst [(g49, (29, 10))]) := Fr.rep (a := []) (b := []) hg33f hg49
              (try simp only [mapAppend, XExpr.snoc, XExpr.snoc', XExpr.eta, List.set_cons_zero, List.set_cons_succ, xa, Nat.reduceAdd, seval, reduceCtorEq])
              refine hZ47 _ ?_; clear hZ47 Z47
              refine AWp.heapLe (s' := (owns s [(g49, (29, 10))])) (Fr.repLe (a := []) (b := []) hg33f hg49) ?_
              refine AWp.reg fun Z51 hZ51 => ?_
              obtain ⟨hn52, h⟩ := need_some h
              (try simp only [mapAppend, XExpr.snoc, XExpr.snoc', XExpr.eta, List.set_cons_zero, List.set_cons_succ, xa, Nat.reduceAdd, seval, reduceCtorEq])
              first | refine ⟨owns_at [(g49, (29, 10))] s fr50.2 (by simp), by (try simp only [List.length_map]); exact hn52, by (try simp only [List.length_map]); exact app_ok hn52 (by decide), fun g53 hg53 => ?_⟩ | refine ⟨owns_at [(g49, (29, 10))] s fr50.2 (by simp), by unfold maxLen; omega, fun g53 hg53 => ?_⟩ | refine ⟨owns_at [(g49, (29, 10))] s fr50.2 (by simp), fun g53 hg53 => ?_⟩
              have fr54 : Fr s (List.map Prod.fst [(g53, (29, 10))]) := Fr.rep (a := []) (b := []) fr50 hg53
              (try simp only [mapAppend, XExpr.snoc, XExpr.snoc', XExpr.eta, List.set_cons_zero, List.set_cons_succ, xa, Nat.reduceAdd, seval, reduceCtorEq])
              refine hZ51 _ ?_; clear hZ51 Z51
              refine AWp.heapLe (s' := (owns s [(g53, (29, 10))])) (Fr.repLe (a := []) (b := []) fr50 hg53) ?_
              refine AWp.reg fun Z55 hZ55 => ?_
              obtain ⟨hn56, h⟩ := need_some h
              (try simp only [mapAppend, XExpr.snoc, XExpr.snoc', XExpr.eta, List.set_cons_zero, List.set_cons_succ, xa, Nat.reduceAdd, seval, reduceCtorEq])
              first | refine ⟨owns_at [(g53, (29, 10))] s fr54.2 (by simp), by (try simp only [List.length_map]); exact hn56, by (try simp only [List.length_map]); exact app_ok hn56 (by decide), fun g57 hg57 => ?_⟩ | refine ⟨owns_at [(g53, (29, 10))] s fr54.2 (by simp), by unfold maxLen; omega, fun g57 hg57 => ?_⟩ | refine ⟨owns_at [(g53, (29, 10))] s fr54.2 (by simp), fun g57 hg57 => ?_⟩
              have fr58 : Fr s (List.map Prod.fst [(g57, (29, 10))]) := Fr.rep (a := []) (b := []) fr54 hg57
              (try simp only [mapAppend, XExpr.snoc, XExpr.snoc', XExpr.eta, List.set_cons_zero, List.set_cons_succ, xa, Nat.reduceAdd, seval, reduceCtorEq])
              refine hZ55 _ ?_; clear hZ55 Z55
              refine AWp.heapLe (s' := (owns s [(g57, (29, 10))])) (Fr.repLe (a := []) (b := []) fr54 hg57) ?_
              refine rg ?_
              refine AWp.block ?_
              refine AWp.loopS (X := (List XExpr) × Int) (G := Nat) h (fun gq64 => Fr s (List.map Prod.fst [(gq64, (29, 10))])) (fun q62 gq64 => tst [(1, .loc 1 0), (3, .own gq64 10 (List.map XExpr.v q62.1)), (4, vint v6), (5, .loc 5 0), (8, vint q62.2)] [(1, (x0.v, 48)), (5, (((x0.parts.getD v6.toNat XPart.z)).v, 65))] (owns s [(gq64, (29, 10))]) 102) ?_ ?_
              · exact ⟨g57, fr58, tle⟩
              · rintro u63 ⟨v59, v61⟩ h g60 hg60f
                (try dsimp only at h ⊢)
                refine AWp.seq_k fun K65 hK65 => ?_
                refine rg ?_
                refine ws h (fun hc66 h => ?_) fun hc66 h => ?_
                · refine AWp.skip ?_
                  refine hK65 _ ?_; clear hK65
                  refine AWp.seq_k fun K67 hK67 => ?_
                  refine AWp.block ?_
                  refine AWp.reg1 fun Z68 hZ68 => ?_
                  obtain ⟨hn70, h⟩ := need_some h
                  obtain ⟨hn71, h⟩ := need_some h
                  (try simp only [isT hn70.1, isT hn70.2, getD_enc (fun x => [V.slice 10 (List.map XExpr.v x)]) ([]) hn70, mapAppend, XExpr.snoc, XExpr.snoc', XExpr.eta, List.set_cons_zero, List.set_cons_succ, xa, Nat.reduceAdd, seval, reduceCtorEq])
                  first | refine ⟨owns_at [(g60, (29, 10))] s hg60f.2 (by simp), by (try simp only [List.length_map]); exact hn71, by (try simp only [List.length_map]); exact app_ok hn71 (by decide), fun g72 hg72 => ?_⟩ | refine ⟨owns_at [(g60, (29, 10))] s hg60f.2 (by simp), by unfold maxLen; omega, fun g72 hg72 => ?_⟩ | refine ⟨owns_at [(g60, (29, 10))] s hg60f.2 (by simp), fun g72 hg72 => ?_⟩
                  have fr73 : Fr s (List.map Prod.fst [(g72, (29, 10))]) := Fr.rep (a := []) (b := []) hg60f hg72
                  (try simp only [isT hn70.1, isT hn70.2, getD_enc (fun x => [V.slice 10 (List.map XExpr.v x)]) ([]) hn70, mapAppend, XExpr.snoc, XExpr.snoc', XExpr.eta, List.set_cons_zero, List.set_cons_succ, xa, Nat.reduceAdd, seval, reduceCtorEq])
                  refine hZ68 _ ?_; clear hZ68 Z68
                  refine hK67 _ ?_; clear hK67
                  refine AWp.heapLe (s' := (owns s [(g72, (29, 10))])) (Fr.repLe (a := []) (b := []) hg60f hg72) ?_
                  refine r1 ?_
                  exact ⟨((v59 ++ (((((x0.parts.getD v6.toNat XPart.z)).values).getD v61.toNat ([])))), (IntKind.i64.wrap (v61 + 1))), h, g72, fr73, tle⟩
                · refine AWp.exit ?_
                  simp only [thenQ, blockQ, ↓reduceIte, Nat.reduceEqDiff, Nat.one_ne_zero, Nat.zero_ne_one, Nat.succ_ne_zero, reduceCtorEq]
                  refine hK12 _ ?_; clear hK12
                  refine r1 ?_
                  exact ⟨(v59, (IntKind.i64.wrap (v6 + 1))), h, g60, hg60f, tle⟩
    · refine AWp.exit ?_
      simp only [thenQ, blockQ, ↓reduceIte, Nat.reduceEqDiff, Nat.one_ne_zero, Nat.zero_ne_one, Nat.succ_ne_zero, reduceCtorEq]
      refine hK1 _ ?_; clear hK1
      refine AWp.seq_k fun K74 hK74 => ?_
      refine rg ?_
      refine AWp.block ?_
      refine AWp.loopS (X := (List XExpr) × Int) (G := Nat) h (fun gq80 => Fr s (List.map Prod.fst [(gq80, (29, 10))])) (fun q78 gq80 => tst [(1, .loc 1 0), (3, .own gq80 10 (List.map XExpr.v q78.1)), (9, vint q78.2)] [(1, (x0.v, 48))] (owns s [(gq80, (29, 10))]) 102) ?_ ?_
      · exact ⟨g5, hg5f, tle⟩
      · rintro u79 ⟨v75, v77⟩ h g76 hg76f
        (try dsimp only at h ⊢)
        refine AWp.seq_k fun K81 hK81 => ?_
        refine rg ?_
        refine ws h (fun hc82 h => ?_) fun hc82 h => ?_
        · refine AWp.skip ?_
          refine hK81 _ ?_; clear hK81
          refine AWp.seq_k fun K83 hK83 => ?_
          refine AWp.block ?_
          refine AWp.reg1 fun Z84 hZ84 => ?_
          obtain ⟨hn86, h⟩ := need_some h
          obtain ⟨hn87, h⟩ := need_some h
          (try simp only [isT hn86.1, isT hn86.2, getD_enc XSort.v XSort.z hn86, mapAppend, XExpr.snoc, XExpr.snoc', XExpr.eta, List.set_cons_zero, List.set_cons_succ, xa, Nat.reduceAdd, seval, reduceCtorEq])
          first | refine ⟨owns_at [(g76, (29, 10))] s hg76f.2 (by simp), by (try simp only [List.length_map]); exact hn87, by (try simp only [List.length_map]); exact app_ok hn87 (by decide), fun g88 hg88 => ?_⟩ | refine ⟨owns_at [(g76, (29, 10))] s hg76f.2 (by simp), by unfold maxLen; omega, fun g88 hg88 => ?_⟩ | refine ⟨owns_at [(g76, (29, 10))] s hg76f.2 (by simp), fun g88 hg88 => ?_⟩
          have fr89 : Fr s (List.map Prod.fst [(g88, (29, 10))]) := Fr.rep (a := []) (b := []) hg76f hg88
          (try simp only [isT hn86.1, isT hn86.2, getD_enc XSort.v XSort.z hn86, mapAppend, XExpr.snoc, XExpr.snoc', XExpr.eta, List.set_cons_zero, List.set_cons_succ, xa, Nat.reduceAdd, seval, reduceCtorEq])
          refine hZ84 _ ?_; clear hZ84 Z84
          refine hK83 _ ?_; clear hK83
          refine AWp.heapLe (s' := (owns s [(g88, (29, 10))])) (Fr.repLe (a := []) (b := []) hg76f hg88) ?_
          refine r1 ?_
          exact ⟨((v75 ++ ([((x0.order.getD v77.toNat XSort.z)).expr])), (IntKind.i64.wrap (v77 + 1))), h, g88, fr89, tle⟩
        · refine AWp.exit ?_
          simp only [thenQ, blockQ, ↓reduceIte, Nat.reduceEqDiff, Nat.one_ne_zero, Nat.zero_ne_one, Nat.succ_ne_zero, reduceCtorEq]
          refine hK74 _ ?_; clear hK74
          refine AWp.reg fun Z90 hZ90 => ?_
          obtain ⟨hn91, h⟩ := need_some h
          (try simp only [mapAppend, XExpr.snoc, XExpr.snoc', XExpr.eta, List.set_cons_zero, List.set_cons_succ, xa, Nat.reduceAdd, seval, reduceCtorEq])
          first | refine ⟨owns_at [(g76, (29, 10))] s hg76f.2 (by simp), by (try simp only [List.length_map]); exact hn91, by (try simp only [List.length_map]); exact app_ok hn91 (by decide), fun g92 hg92 => ?_⟩ | refine ⟨owns_at [(g76, (29, 10))] s hg76f.2 (by simp), by unfold maxLen; omega, fun g92 hg92 => ?_⟩ | refine ⟨owns_at [(g76, (29, 10))] s hg76f.2 (by simp), fun g92 hg92 => ?_⟩
          have fr93 : Fr s (List.map Prod.fst [(g92, (29, 10))]) := Fr.rep (a := []) (b := []) hg76f hg92
          (try simp only [mapAppend, XExpr.snoc, XExpr.snoc', XExpr.eta, List.set_cons_zero, List.set_cons_succ, xa, Nat.reduceAdd, seval, reduceCtorEq])
          refine hZ90 _ ?_; clear hZ90 Z90
          refine AWp.heapLe (s' := (owns s [(g92, (29, 10))])) (Fr.repLe (a := []) (b := []) hg76f hg92) ?_
          refine AWp.reg fun Z94 hZ94 => ?_
          obtain ⟨hn95, h⟩ := need_some h
          (try simp only [mapAppend, XExpr.snoc, XExpr.snoc', XExpr.eta, List.set_cons_zero, List.set_cons_succ, xa, Nat.reduceAdd, seval, reduceCtorEq])
          first | refine ⟨owns_at [(g92, (29, 10))] s fr93.2 (by simp), by (try simp only [List.length_map]); exact hn95, by (try simp only [List.length_map]); exact app_ok hn95 (by decide), fun g96 hg96 => ?_⟩ | refine ⟨owns_at [(g92, (29, 10))] s fr93.2 (by simp), by unfold maxLen; omega, fun g96 hg96 => ?_⟩ | refine ⟨owns_at [(g92, (29, 10))] s fr93.2 (by simp), fun g96 hg96 => ?_⟩
          have fr97 : Fr s (List.map Prod.fst [(g96, (29, 10))]) := Fr.rep (a := []) (b := []) fr93 hg96
          (try simp only [mapAppend, XExpr.snoc, XExpr.snoc', XExpr.eta, List.set_cons_zero, List.set_cons_succ, xa, Nat.reduceAdd, seval, reduceCtorEq])
          refine hZ94 _ ?_; clear hZ94 Z94
          refine AWp.heapLe (s' := (owns s [(g96, (29, 10))])) (Fr.repLe (a := []) (b := []) fr93 hg96) ?_
          refine AWp.ret ?_
          obtain rfl := Option.some.inj h
          refine ret_go (vs := [.own g96 10 (List.map XExpr.v ((((v75 ++ x0.limit)) ++ x0.offset)))]) (v := .slice 10 (List.map XExpr.v ((((v75 ++ x0.limit)) ++ x0.offset)))) (by show resV Tryz.prog _ [.tmp 2] = _; simp only [resV, XExpr.vs, XSelect.vs, XPart.vs, XItem.vs, XSort.vs, XSource.vs, am, seval, reduceCtorEq]) (Wk.own _ _ _) (Fr.drop (l := [(g96, (29, 10))]) fr97) ⟨?_, rfl⟩
          rfl
def s70 (x0 : XSelect) : Option ((List XSelect)) := (loopC (fun (u8 : (List XSelect) × Int → Option ((List XSelect))) (q7 : (List XSelect) × Int) => (way ((decide (q7.2 < (((x0.with_.length : Nat) : Int))))) (need (0 ≤ q7.2 ∧ q7.2 < ((x0.with_.length : Nat) : Int)) (need ((q7.1.length + (((x0.with_.getD q7.2.toNat XCte.z)).body).length) * 120 ≤ 140737488355328) (u8 ((q7.1 ++ (((x0.with_.getD q7.2.toNat XCte.z)).body)), (IntKind.i64.wrap (q7.2 + 1)))))) (loopC (fun (u24 : (List XSelect) × Int → Option ((List XSelect))) (q23 : (List XSelect) × Int) => (way ((decide (q23.2 < (((x0.parts.length : Nat) : Int))))) (loopC (fun (u33 : (List XSelect) × Int → Option ((List XSelect))) (q32 : (List XSelect) × Int) => (need (0 ≤ q23.2 ∧ q23.2 < ((x0.parts.length : Nat) : Int)) (way ((decide (q32.2 < ((((((x0.parts.getD q23.2.toNat XPart.z)).from_).length : Nat) : Int))))) (need (0 ≤ q23.2 ∧ q23.2 < ((x0.parts.length : Nat) : Int)) (need (0 ≤ q32.2 ∧ q32.2 < (((((x0.parts.getD q23.2.toNat XPart.z)).from_).length : Nat) : Int)) (need ((q32.1.length + ((((((x0.parts.getD q23.2.toNat XPart.z)).from_).getD q32.2.toNat XSource.z)).sub).length) * 120 ≤ 140737488355328) (u33 ((q32.1 ++ ((((((x0.parts.getD q23.2.toNat XPart.z)).from_).getD q32.2.toNat XSource.z)).sub)), (IntKind.i64.wrap (q32.2 + 1))))))) (u24 (q32.1, (IntKind.i64.wrap (q23.2 + 1))))))) manyC (q23.1, 0)) (some q23.1))) manyC (q7.1, 0)))) manyC (([] : List XSelect), 0))
theorem c70 (x0 : XSelect) (r : (List XSelect)) (h : s70 x0 = some r) : Gives Tryz.prog 70 [.agg x0.v] (.slice 5 (List.map XSelect.v r)) := by
  intro s
  unfold s70 at h
  refine acalls_of (fn := Tryz.f70) Tryz.func70 rfl (by decide) (by show 1 ≤ 53; decide) ?_
  rw [Tryz.ntmps70]
  refine rg ?_
  refine rg ?_
  refine AWp.seq_k fun K1 hK1 => ?_
  refine rg ?_
  refine AWp.block ?_
  refine AWp.adoptE 3 (48, 5) (.inl (by rfl)) fun g2 hg2 => ?_
  change (s).own g2 = none at hg2
  have fr3 : Fr s (List.map Prod.fst [(g2, (48, 5))]) := Fr.snoc (l := []) (Fr.nil s) hg2
  refine AWp.loopS (X := (List XSelect) × Int) (G := Nat) h (fun gq9 => Fr s (List.map Prod.fst [(gq9, (48, 5))])) (fun q7 gq9 => tst [(1, .loc 1 0), (3, .own gq9 5 (List.map XSelect.v q7.1)), (4, vint q7.2)] [(1, (x0.v, 48))] (owns s [(gq9, (48, 5))]) 53) ?_ ?_
  · exact ⟨g2, fr3, tle⟩
  · rintro u8 ⟨v4, v6⟩ h g5 hg5f
    (try dsimp only at h ⊢)
    refine AWp.seq_k fun K10 hK10 => ?_
    refine rg ?_
    refine ws h (fun hc11 h => ?_) fun hc11 h => ?_
    · refine AWp.skip ?_
      refine hK10 _ ?_; clear hK10
      refine AWp.seq_k fun K12 hK12 => ?_
      refine AWp.block ?_
      refine AWp.reg1 fun Z13 hZ13 => ?_
      obtain ⟨hn15, h⟩ := need_some h
      obtain ⟨hn16, h⟩ := need_some h
      (try simp only [isT hn15.1, isT hn15.2, getD_enc XCte.v XCte.z hn15, mapAppend, XSelect.snoc, XSelect.snoc', XSelect.eta, List.set_cons_zero, List.set_cons_succ, xa, Nat.reduceAdd, seval, reduceCtorEq])
      first | refine ⟨owns_at [(g5, (48, 5))] s hg5f.2 (by simp), by (try simp only [List.length_map]); exact hn16, by (try simp only [List.length_map]); exact app_ok hn16 (by decide), fun g17 hg17 => ?_⟩ | refine ⟨owns_at [(g5, (48, 5))] s hg5f.2 (by simp), by unfold maxLen; omega, fun g17 hg17 => ?_⟩ | refine ⟨owns_at [(g5, (48, 5))] s hg5f.2 (by simp), fun g17 hg17 => ?_⟩
      have fr18 : Fr s (List.map Prod.fst [(g17, (48, 5))]) := Fr.rep (a := []) (b := []) hg5f hg17
      (try simp only [isT hn15.1, isT hn15.2, getD_enc XCte.v XCte.z hn15, mapAppend, XSelect.snoc, XSelect.snoc', XSelect.eta, List.set_cons_zero, List.set_cons_succ, xa, Nat.reduceAdd, seval, reduceCtorEq])
      refine hZ13 _ ?_; clear hZ13 Z13
      refine hK12 _ ?_; clear hK12
      refine AWp.heapLe (s' := (owns s [(g17, (48, 5))])) (Fr.repLe (a := []) (b := []) hg5f hg17) ?_
      refine r1 ?_
      exact ⟨((v4 ++ (((x0.with_.getD v6.toNat XCte.z)).body)), (IntKind.i64.wrap (v6 + 1))), h, g17, fr18, tle⟩
    · refine AWp.exit ?_
      simp only [thenQ, blockQ, ↓reduceIte, Nat.reduceEqDiff, Nat.one_ne_zero, Nat.zero_ne_one, Nat.succ_ne_zero, reduceCtorEq]
      refine hK1 _ ?_; clear hK1
      refine AWp.seq_k fun K19 hK19 => ?_
      refine rg ?_
      refine AWp.block ?_
      refine AWp.loopS (X := (List XSelect) × Int) (G := Nat) h (fun gq25 => Fr s (List.map Prod.fst [(gq25, (48, 5))])) (fun q23 gq25 => tst [(1, .loc 1 0), (3, .own gq25 5 (List.map XSelect.v q23.1)), (5, vint q23.2)] [(1, (x0.v, 48))] (owns s [(gq25, (48, 5))]) 53) ?_ ?_
      · exact ⟨g5, hg5f, tle⟩
      · rintro u24 ⟨v20, v22⟩ h g21 hg21f
        (try dsimp only at h ⊢)
        refine AWp.seq_k fun K26 hK26 => ?_
        refine rg ?_
        refine ws h (fun hc27 h => ?_) fun hc27 h => ?_
        · refine AWp.skip ?_
          refine hK26 _ ?_; clear hK26
          refine AWp.seq_k fun K28 hK28 => ?_
          refine AWp.block ?_
          refine rg ?_
          refine AWp.block ?_
          refine AWp.loopS (X := (List XSelect) × Int) (G := Nat) h (fun gq34 => Fr s (List.map Prod.fst [(gq34, (48, 5))])) (fun q32 gq34 => tst [(1, .loc 1 0), (3, .own gq34 5 (List.map XSelect.v q32.1)), (5, vint v22), (6, vint q32.2)] [(1, (x0.v, 48))] (owns s [(gq34, (48, 5))]) 53) ?_ ?_
          · exact ⟨g21, hg21f, tle⟩
          · rintro u33 ⟨v29, v31⟩ h g30 hg30f
            (try dsimp only at h ⊢)
            refine AWp.seq_k fun K35 hK35 => ?_
            obtain ⟨hn37, h⟩ := need_some h
            refine rgF ((And.intro ((isT hn37.1)) <| And.intro ((isT hn37.2)) <| (getD_enc XPart.v XPart.z hn37))) ?_
            refine ws h (fun hc38 h => ?_) fun hc38 h => ?_
            · refine AWp.skip ?_
              refine hK35 _ ?_; clear hK35
              refine AWp.seq_k fun K39 hK39 => ?_
              refine AWp.block ?_
              refine AWp.reg1 fun Z40 hZ40 => ?_
              obtain ⟨hn42, h⟩ := need_some h
              obtain ⟨hn44, h⟩ := need_some h
              obtain ⟨hn45, h⟩ := need_some h
              (try simp only [isT hn42.1, isT hn42.2, getD_enc XPart.v XPart.z hn42, isT hn44.1, isT hn44.2, getD_enc XSource.v XSource.z hn44, mapAppend, XSelect.snoc, XSelect.snoc', XSelect.eta, List.set_cons_zero, List.set_cons_succ, xa, Nat.reduceAdd, seval, reduceCtorEq])
              first | refine ⟨owns_at [(g30, (48, 5))] s hg30f.2 (by simp), by (try simp only [List.length_map]); exact hn45, by (try simp only [List.length_map]); exact app_ok hn45 (by decide), fun g46 hg46 => ?_⟩ | refine ⟨owns_at [(g30, (48, 5))] s hg30f.2 (by simp), by unfold maxLen; omega, fun g46 hg46 => ?_⟩ | refine ⟨owns_at [(g30, (48, 5))] s hg30f.2 (by simp), fun g46 hg46 => ?_⟩
              have fr47 : Fr s (List.map Prod.fst [(g46, (48, 5))]) := Fr.rep (a := []) (b := []) hg30f hg46
              (try simp only [isT hn42.1, isT hn42.2, getD_enc XPart.v XPart.z hn42, isT hn44.1, isT hn44.2, getD_enc XSource.v XSource.z hn44, mapAppend, XSelect.snoc, XSelect.snoc', XSelect.eta, List.set_cons_zero, List.set_cons_succ, xa, Nat.reduceAdd, seval, reduceCtorEq])
              refine hZ40 _ ?_; clear hZ40 Z40
              refine hK39 _ ?_; clear hK39
              refine AWp.heapLe (s' := (owns s [(g46, (48, 5))])) (Fr.repLe (a := []) (b := []) hg30f hg46) ?_
              refine r1 ?_
              exact ⟨((v29 ++ ((((((x0.parts.getD v22.toNat XPart.z)).from_).getD v31.toNat XSource.z)).sub)), (IntKind.i64.wrap (v31 + 1))), h, g46, fr47, tle⟩
            · refine AWp.exit ?_
              simp only [thenQ, blockQ, ↓reduceIte, Nat.reduceEqDiff, Nat.one_ne_zero, Nat.zero_ne_one, Nat.succ_ne_zero, reduceCtorEq]
              refine hK28 _ ?_; clear hK28
              refine r1 ?_
              exact ⟨(v29, (IntKind.i64.wrap (v22 + 1))), h, g30, hg30f, tle⟩
        · refine AWp.exit ?_
          simp only [thenQ, blockQ, ↓reduceIte, Nat.reduceEqDiff, Nat.one_ne_zero, Nat.zero_ne_one, Nat.succ_ne_zero, reduceCtorEq]
          refine hK19 _ ?_; clear hK19
          refine rg ?_
          refine AWp.ret ?_
          obtain rfl := Option.some.inj h
          refine ret_go (vs := [.own g21 5 (List.map XSelect.v v20)]) (v := .slice 5 (List.map XSelect.v v20)) (by show resV Tryz.prog _ [.tmp 2] = _; simp only [resV, XSelect.vs, XPart.vs, XCte.vs, XSource.vs, am, seval, reduceCtorEq]) (Wk.own _ _ _) (Fr.drop (l := [(g21, (48, 5))]) hg21f) ⟨?_, rfl⟩
          rfl
structure F28_33_59 where
  p28 : XExpr → Option (Int)
  p33 : XSelect → Option (Int)
  p59 : (List XExpr) → (List XSelect) → Option (Int)
structure F28_33_59.Ok (F : F28_33_59) : Prop where
  p28 : ∀ (x0 : XExpr) (r : Int), F.p28 x0 = some r → Gives Tryz.prog 28 [.agg x0.v] (vint r)
  p33 : ∀ (x0 : XSelect) (r : Int), F.p33 x0 = some r → Gives Tryz.prog 33 [.agg x0.v] (vint r)
  p59 : ∀ (x0 : (List XExpr)) (x1 : (List XSelect)) (r : Int), F.p59 x0 x1 = some r → Gives Tryz.prog 59 [.slice 10 (List.map XExpr.v x0), .slice 5 (List.map XSelect.v x1)] (vint r)
def b28 (F : F28_33_59) (x0 : XExpr) : Option (Int) := (call (F.p59 x0.args x0.sub) fun y1 => (some ((IntKind.i64.wrap ((1 : Int) + y1)))))
theorem d28 (F : F28_33_59) (H : F.Ok) (x0 : XExpr) (r : Int) (h : b28 F x0 = some r) : Gives Tryz.prog 28 [.agg x0.v] (vint r) := by
  intro s
  unfold b28 at h
  refine acalls_of (fn := Tryz.f28) Tryz.func28 rfl (by decide) (by show 1 ≤ 9; decide) ?_
  rw [Tryz.ntmps28]
  refine rg ?_
  obtain ⟨y1, hy1, h⟩ := call_some h
  refine rgC (H.p59 x0.args x0.sub _ hy1) ?_
  refine AWp.ret ?_
  obtain rfl := Option.some.inj h
  exact rtn [.tmp 2]
def b33 (F : F28_33_59) (x0 : XSelect) : Option (Int) := (call (s69 x0) fun y1 => (call (s70 x0) fun y2 => (call (F.p59 y1 y2) fun y3 => (some ((IntKind.i64.wrap ((1 : Int) + y3)))))))
theorem d33 (F : F28_33_59) (H : F.Ok) (x0 : XSelect) (r : Int) (h : b33 F x0 = some r) : Gives Tryz.prog 33 [.agg x0.v] (vint r) := by
  intro s
  unfold b33 at h
  refine acalls_of (fn := Tryz.f33) Tryz.func33 rfl (by decide) (by show 1 ≤ 9; decide) ?_
  rw [Tryz.ntmps33]
  refine rg ?_
  obtain ⟨y1, hy1, h⟩ := call_some h
  obtain ⟨y2, hy2, h⟩ := call_some h
  obtain ⟨y3, hy3, h⟩ := call_some h
  refine rgLCCC [0, 2, 1, 3, 4, 5, 6] [100005] (c69 x0 _ hy1) (c70 x0 _ hy2) (H.p59 y1 y2 _ hy3) ?_
  refine AWp.ret ?_
  obtain rfl := Option.some.inj h
  exact rtn [.tmp 2]
def b59 (F : F28_33_59) (x0 : (List XExpr)) (x1 : (List XSelect)) : Option (Int) := (loopC (fun (u5 : Int × Int → Option (Int)) (q4 : Int × Int) => (way ((decide (q4.2 < (((x0.length : Nat) : Int))))) (join (fun (u10 : Int → Option (Int)) => (need (0 ≤ q4.2 ∧ q4.2 < ((x0.length : Nat) : Int)) (call (F.p28 ((x0.getD q4.2.toNat XExpr.z))) fun y13 => (way ((decide (y13 > q4.1))) (u10 y13) (u10 q4.1))))) (fun (q9 : Int) => (u5 (q9, (IntKind.i64.wrap (q4.2 + 1)))))) (loopC (fun (u19 : Int × Int → Option (Int)) (q18 : Int × Int) => (way ((decide (q18.2 < (((x1.length : Nat) : Int))))) (join (fun (u24 : Int → Option (Int)) => (need (0 ≤ q18.2 ∧ q18.2 < ((x1.length : Nat) : Int)) (call (F.p33 ((x1.getD q18.2.toNat XSelect.z))) fun y27 => (way ((decide (y27 > q18.1))) (u24 y27) (u24 q18.1))))) (fun (q23 : Int) => (u19 (q23, (IntKind.i64.wrap (q18.2 + 1)))))) (some q18.1))) manyC (q4.1, 0)))) manyC (0, 0))
theorem d59 (F : F28_33_59) (H : F.Ok) (x0 : (List XExpr)) (x1 : (List XSelect)) (r : Int) (h : b59 F x0 x1 = some r) : Gives Tryz.prog 59 [.slice 10 (List.map XExpr.v x0), .slice 5 (List.map XSelect.v x1)] (vint r) := by
  intro s
  unfold b59 at h
  refine acalls_of (fn := Tryz.f59) Tryz.func59 rfl (by decide) (by show 2 ≤ 41; decide) ?_
  rw [Tryz.ntmps59]
  refine rg ?_
  refine rg ?_
  refine AWp.seq_k fun K1 hK1 => ?_
  refine rg ?_
  refine AWp.block ?_
  refine AWp.loopS (X := Int × Int) (G := Unit) h (fun _ => True) (fun q4 _ => tst [(0, .slice 10 (List.map XExpr.v x0)), (1, .slice 5 (List.map XSelect.v x1)), (5, vint q4.1), (6, vint q4.2)] [] s 41) ?_ ?_
  · exact ⟨(), trivial, tle⟩
  · rintro u5 ⟨v2, v3⟩ h _ _
    (try dsimp only at h ⊢)
    refine AWp.seq_k fun K6 hK6 => ?_
    refine rg ?_
    refine ws h (fun hc7 h => ?_) fun hc7 h => ?_
    · refine AWp.skip ?_
      refine hK6 _ ?_; clear hK6
      refine AWp.joinS (X := Int) (G := Unit) h (fun _ => True) (fun q9 _ => tst [(0, .slice 10 (List.map XExpr.v x0)), (1, .slice 5 (List.map XSelect.v x1)), (5, vint q9), (6, vint v3)] [] s 41) (fun u10 h => ?_) ?_
      · refine AWp.block ?_
        obtain ⟨hn12, h⟩ := need_some h
        obtain ⟨y13, hy13, h⟩ := call_some h
        refine rgFC ((And.intro ((isT hn12.1)) <| And.intro ((isT hn12.2)) <| (getD_enc XExpr.v XExpr.z hn12))) (H.p28 ((x0.getD v3.toNat XExpr.z)) _ hy13) ?_
        refine rg ?_
        refine ws h (fun hc14 h => ?_) fun hc14 h => ?_
        · refine r1 ?_
          exact ⟨y13, h, (), trivial, tle⟩
        · refine AWp.skip ?_
          exact ⟨v2, h, (), trivial, tle⟩
      · rintro v8 h _ _
        refine r1 ?_
        exact ⟨(v8, (IntKind.i64.wrap (v3 + 1))), h, (), trivial, tle⟩
    · refine AWp.exit ?_
      simp only [thenQ, blockQ, ↓reduceIte, Nat.reduceEqDiff, Nat.one_ne_zero, Nat.zero_ne_one, Nat.succ_ne_zero, reduceCtorEq]
      refine hK1 _ ?_; clear hK1
      refine AWp.seq_k fun K15 hK15 => ?_
      refine rg ?_
      refine AWp.block ?_
      refine AWp.loopS (X := Int × Int) (G := Unit) h (fun _ => True) (fun q18 _ => tst [(1, .slice 5 (List.map XSelect.v x1)), (5, vint q18.1), (8, vint q18.2)] [] s 41) ?_ ?_
      · exact ⟨(), trivial, tle⟩
      · rintro u19 ⟨v16, v17⟩ h _ _
        (try dsimp only at h ⊢)
        refine AWp.seq_k fun K20 hK20 => ?_
        refine rg ?_
        refine ws h (fun hc21 h => ?_) fun hc21 h => ?_
        · refine AWp.skip ?_
          refine hK20 _ ?_; clear hK20
          refine AWp.joinS (X := Int) (G := Unit) h (fun _ => True) (fun q23 _ => tst [(1, .slice 5 (List.map XSelect.v x1)), (5, vint q23), (8, vint v17)] [] s 41) (fun u24 h => ?_) ?_
          · refine AWp.block ?_
            obtain ⟨hn26, h⟩ := need_some h
            obtain ⟨y27, hy27, h⟩ := call_some h
            refine rgFC ((And.intro ((isT hn26.1)) <| And.intro ((isT hn26.2)) <| (getD_enc XSelect.v XSelect.z hn26))) (H.p33 ((x1.getD v17.toNat XSelect.z)) _ hy27) ?_
            refine rg ?_
            refine ws h (fun hc28 h => ?_) fun hc28 h => ?_
            · refine r1 ?_
              exact ⟨y27, h, (), trivial, tle⟩
            · refine AWp.skip ?_
              exact ⟨v16, h, (), trivial, tle⟩
          · rintro v22 h _ _
            refine r1 ?_
            exact ⟨(v22, (IntKind.i64.wrap (v17 + 1))), h, (), trivial, tle⟩
        · refine AWp.exit ?_
          simp only [thenQ, blockQ, ↓reduceIte, Nat.reduceEqDiff, Nat.one_ne_zero, Nat.zero_ne_one, Nat.succ_ne_zero, reduceCtorEq]
          refine hK15 _ ?_; clear hK15
          refine rg ?_
          refine AWp.ret ?_
          obtain rfl := Option.some.inj h
          exact rtn [.tmp 4]
def F28_33_59.fix : Nat → F28_33_59
  | 0 => ⟨fun _ => none, fun _ => none, fun _ _ => none⟩
  | n + 1 => ⟨b28 (F28_33_59.fix n), b33 (F28_33_59.fix n), b59 (F28_33_59.fix n)⟩
theorem F28_33_59.ok : ∀ n, F28_33_59.Ok (F28_33_59.fix n)
  | 0 => ⟨(fun _ _ h => by cases h), (fun _ _ h => by cases h), (fun _ _ _ h => by cases h)⟩
  | n + 1 => ⟨d28 _ (F28_33_59.ok n), d33 _ (F28_33_59.ok n), d59 _ (F28_33_59.ok n)⟩
def s33 := (F28_33_59.fix manyC).p33
theorem c33 : ∀ (x0 : XSelect) (r : Int), s33 x0 = some r → Gives Tryz.prog 33 [.agg x0.v] (vint r) := (F28_33_59.ok manyC).p33
structure F30_60 where
  p30 : XExpr → Option (Int)
  p60 : (List XExpr) → (List XSelect) → Option (Int)
structure F30_60.Ok (F : F30_60) : Prop where
  p30 : ∀ (x0 : XExpr) (r : Int), F.p30 x0 = some r → Gives Tryz.prog 30 [.agg x0.v] (vint r)
  p60 : ∀ (x0 : (List XExpr)) (x1 : (List XSelect)) (r : Int), F.p60 x0 x1 = some r → Gives Tryz.prog 60 [.slice 10 (List.map XExpr.v x0), .slice 5 (List.map XSelect.v x1)] (vint r)
def b30 (F : F30_60) (x0 : XExpr) : Option (Int) := (call (F.p60 x0.args x0.sub) fun y1 => (join (fun (u5 : Bool → Option (Int)) => (way ((x0.op == 3)) (u5 (decide (x0.n > y1))) (u5 false))) (fun (q4 : Bool) => (way q4 (some x0.n) (some y1)))))
theorem d30 (F : F30_60) (H : F.Ok) (x0 : XExpr) (r : Int) (h : b30 F x0 = some r) : Gives Tryz.prog 30 [.agg x0.v] (vint r) := by
  intro s
  unfold b30 at h
  refine acalls_of (fn := Tryz.f30) Tryz.func30 rfl (by decide) (by show 1 ≤ 21; decide) ?_
  rw [Tryz.ntmps30]
  refine rg ?_
  obtain ⟨y1, hy1, h⟩ := call_some h
  refine rgC (H.p60 x0.args x0.sub _ hy1) ?_
  refine AWp.seq_k fun K2 hK2 => ?_
  refine AWp.joinS (X := Bool) (G := Unit) h (fun _ => True) (fun q4 _ => tst [(1, .loc 1 0), (3, vint y1), (17, vbool q4)] [(1, (x0.v, 29))] s 21) (fun u5 h => ?_) ?_
  · refine AWp.reg1 fun Z6 hZ6 => ?_
    (try simp only [undef, Bool.not_true, Bool.not_false, xm, Nat.reduceAdd, Nat.reduceLeDiff, seval, reduceCtorEq])
    refine gTS h (by rfl) (fun hg7 h => ?_) (fun hg7 h => ?_)
    · (try simp only [hg7, undef, Bool.not_true, Bool.not_false, xm, Nat.reduceAdd, Nat.reduceLeDiff, seval, reduceCtorEq])
      refine hZ6 _ ?_; clear hZ6 Z6
      exact ⟨(decide (x0.n > y1)), h, (), trivial, tleF hg7⟩
    · (try simp only [hg7, undef, Bool.not_true, Bool.not_false, xm, Nat.reduceAdd, Nat.reduceLeDiff, seval, reduceCtorEq])
      refine hZ6 _ ?_; clear hZ6 Z6
      exact ⟨false, h, (), trivial, tleF hg7⟩
  · rintro v3 h _ _
    refine ws h (fun hc8 h => ?_) fun hc8 h => ?_
    · refine rg ?_
      refine AWp.ret ?_
      obtain rfl := Option.some.inj h
      exact rtn [.tmp 2]
    · refine AWp.skip ?_
      refine hK2 _ ?_; clear hK2
      refine rg ?_
      refine AWp.ret ?_
      obtain rfl := Option.some.inj h
      exact rtn [.tmp 2]
def b60 (F : F30_60) (x0 : (List XExpr)) (x1 : (List XSelect)) : Option (Int) := (loopC (fun (u5 : Int × Int → Option (Int)) (q4 : Int × Int) => (way ((decide (q4.2 < (((x0.length : Nat) : Int))))) (join (fun (u10 : Int → Option (Int)) => (need (0 ≤ q4.2 ∧ q4.2 < ((x0.length : Nat) : Int)) (call (F.p30 ((x0.getD q4.2.toNat XExpr.z))) fun y13 => (way ((decide (y13 > q4.1))) (u10 y13) (u10 q4.1))))) (fun (q9 : Int) => (u5 (q9, (IntKind.i64.wrap (q4.2 + 1)))))) (loopC (fun (u19 : Int × Int → Option (Int)) (q18 : Int × Int) => (way ((decide (q18.2 < (((x1.length : Nat) : Int))))) (join (fun (u24 : Int → Option (Int)) => (need (0 ≤ q18.2 ∧ q18.2 < ((x1.length : Nat) : Int)) (need (0 ≤ q18.2 ∧ q18.2 < ((x1.length : Nat) : Int)) (call (s69 ((x1.getD q18.2.toNat XSelect.z))) fun y29 => (call (s70 ((x1.getD q18.2.toNat XSelect.z))) fun y30 => (call (F.p60 y29 y30) fun y31 => (way ((decide (y31 > q18.1))) (u24 y31) (u24 q18.1)))))))) (fun (q23 : Int) => (u19 (q23, (IntKind.i64.wrap (q18.2 + 1)))))) (some q18.1))) manyC (q4.1, 0)))) manyC (0, 0))
theorem d60 (F : F30_60) (H : F.Ok) (x0 : (List XExpr)) (x1 : (List XSelect)) (r : Int) (h : b60 F x0 x1 = some r) : Gives Tryz.prog 60 [.slice 10 (List.map XExpr.v x0), .slice 5 (List.map XSelect.v x1)] (vint r) := by
  intro s
  unfold b60 at h
  refine acalls_of (fn := Tryz.f60) Tryz.func60 rfl (by decide) (by show 2 ≤ 47; decide) ?_
  rw [Tryz.ntmps60]
  refine rg ?_
  refine rg ?_
  refine AWp.seq_k fun K1 hK1 => ?_
  refine rg ?_
  refine AWp.block ?_
  refine AWp.loopS (X := Int × Int) (G := Unit) h (fun _ => True) (fun q4 _ => tst [(0, .slice 10 (List.map XExpr.v x0)), (1, .slice 5 (List.map XSelect.v x1)), (5, vint q4.1), (6, vint q4.2)] [] s 47) ?_ ?_
  · exact ⟨(), trivial, tle⟩
  · rintro u5 ⟨v2, v3⟩ h _ _
    (try dsimp only at h ⊢)
    refine AWp.seq_k fun K6 hK6 => ?_
    refine rg ?_
    refine ws h (fun hc7 h => ?_) fun hc7 h => ?_
    · refine AWp.skip ?_
      refine hK6 _ ?_; clear hK6
      refine AWp.joinS (X := Int) (G := Unit) h (fun _ => True) (fun q9 _ => tst [(0, .slice 10 (List.map XExpr.v x0)), (1, .slice 5 (List.map XSelect.v x1)), (5, vint q9), (6, vint v3)] [] s 47) (fun u10 h => ?_) ?_
      · refine AWp.block ?_
        obtain ⟨hn12, h⟩ := need_some h
        obtain ⟨y13, hy13, h⟩ := call_some h
        refine rgFC ((And.intro ((isT hn12.1)) <| And.intro ((isT hn12.2)) <| (getD_enc XExpr.v XExpr.z hn12))) (H.p30 ((x0.getD v3.toNat XExpr.z)) _ hy13) ?_
        refine rg ?_
        refine ws h (fun hc14 h => ?_) fun hc14 h => ?_
        · refine r1 ?_
          exact ⟨y13, h, (), trivial, tle⟩
        · refine AWp.skip ?_
          exact ⟨v2, h, (), trivial, tle⟩
      · rintro v8 h _ _
        refine r1 ?_
        exact ⟨(v8, (IntKind.i64.wrap (v3 + 1))), h, (), trivial, tle⟩
    · refine AWp.exit ?_
      simp only [thenQ, blockQ, ↓reduceIte, Nat.reduceEqDiff, Nat.one_ne_zero, Nat.zero_ne_one, Nat.succ_ne_zero, reduceCtorEq]
      refine hK1 _ ?_; clear hK1
      refine AWp.seq_k fun K15 hK15 => ?_
      refine rg ?_
      refine AWp.block ?_
      refine AWp.loopS (X := Int × Int) (G := Unit) h (fun _ => True) (fun q18 _ => tst [(1, .slice 5 (List.map XSelect.v x1)), (5, vint q18.1), (8, vint q18.2)] [] s 47) ?_ ?_
      · exact ⟨(), trivial, tle⟩
      · rintro u19 ⟨v16, v17⟩ h _ _
        (try dsimp only at h ⊢)
        refine AWp.seq_k fun K20 hK20 => ?_
        refine rg ?_
        refine ws h (fun hc21 h => ?_) fun hc21 h => ?_
        · refine AWp.skip ?_
          refine hK20 _ ?_; clear hK20
          refine AWp.joinS (X := Int) (G := Unit) h (fun _ => True) (fun q23 _ => tst [(1, .slice 5 (List.map XSelect.v x1)), (5, vint q23), (8, vint v17)] [] s 47) (fun u24 h => ?_) ?_
          · refine AWp.block ?_
            obtain ⟨hn26, h⟩ := need_some h
            obtain ⟨hn28, h⟩ := need_some h
            obtain ⟨y29, hy29, h⟩ := call_some h
            obtain ⟨y30, hy30, h⟩ := call_some h
            obtain ⟨y31, hy31, h⟩ := call_some h
            refine rgLFCCC [0, 1, 2, 3, 5, 6, 7, 8, 4, 9, 10, 11] [100039] ((And.intro ((isT hn26.1)) <| And.intro ((isT hn26.2)) <| And.intro ((getD_enc XSelect.v XSelect.z hn26)) <| And.intro ((isT hn28.1)) <| And.intro ((isT hn28.2)) <| (getD_enc XSelect.v XSelect.z hn28))) (c69 ((x1.getD v17.toNat XSelect.z)) _ hy29) (c70 ((x1.getD v17.toNat XSelect.z)) _ hy30) (H.p60 y29 y30 _ hy31) ?_
            refine rg ?_
            refine ws h (fun hc32 h => ?_) fun hc32 h => ?_
            · refine r1 ?_
              exact ⟨y31, h, (), trivial, tle⟩
            · refine AWp.skip ?_
              exact ⟨v16, h, (), trivial, tle⟩
          · rintro v22 h _ _
            refine r1 ?_
            exact ⟨(v22, (IntKind.i64.wrap (v17 + 1))), h, (), trivial, tle⟩
        · refine AWp.exit ?_
          simp only [thenQ, blockQ, ↓reduceIte, Nat.reduceEqDiff, Nat.one_ne_zero, Nat.zero_ne_one, Nat.succ_ne_zero, reduceCtorEq]
          refine hK15 _ ?_; clear hK15
          refine rg ?_
          refine AWp.ret ?_
          obtain rfl := Option.some.inj h
          exact rtn [.tmp 4]
def F30_60.fix : Nat → F30_60
  | 0 => ⟨fun _ => none, fun _ _ => none⟩
  | n + 1 => ⟨b30 (F30_60.fix n), b60 (F30_60.fix n)⟩
theorem F30_60.ok : ∀ n, F30_60.Ok (F30_60.fix n)
  | 0 => ⟨(fun _ _ h => by cases h), (fun _ _ _ h => by cases h)⟩
  | n + 1 => ⟨d30 _ (F30_60.ok n), d60 _ (F30_60.ok n)⟩
def s60 := (F30_60.fix manyC).p60
theorem c60 : ∀ (x0 : (List XExpr)) (x1 : (List XSelect)) (r : Int), s60 x0 x1 = some r → Gives Tryz.prog 60 [.slice 10 (List.map XExpr.v x0), .slice 5 (List.map XSelect.v x1)] (vint r) := (F30_60.ok manyC).p60
end Go.Proofs.YtopgndakadileaaGreatDoor.Ex
