/- Functions told as partial functions. -/
import Derived.Test.YtopgndakadileaaGreatDoorSXNat
import Derived.Test.YtopgndakadileaaGreatDoorS9
import Derived.Test.YtopgndakadileaaGreatDoorS14
import Derived.Test.YtopgndakadileaaGreatDoorS10
import Derived.Test.YtopgndakadileaaGreatDoorSAmPanic
import Derived.Test.YtopgndakadileaaGreatDoorSXData
import Derived.Test.YtopgndakadileaaGreatDoorSXTy
set_option linter.unusedVariables false
set_option linter.unusedSimpArgs false
set_option maxRecDepth 100000
set_option maxHeartbeats 4000000
namespace Go.Proofs.YtopgndakadileaaGreatDoor.Ex
open Go.Am Go.Ex Go.Proofs.YtopgndakadileaaGreatDoor
def s63 (x0 : (List ByteArray)) (x1 : (List ByteArray)) : Option (Bool) := (way (((((x0.length : Nat) : Int)) != (((x1.length : Nat) : Int)))) (some false) (loopC (fun (u6 : Int → Option (Bool)) (q5 : Int) => (way ((decide (q5 < (((x0.length : Nat) : Int))))) (need (0 ≤ q5 ∧ q5 < ((x0.length : Nat) : Int)) (need (0 ≤ q5 ∧ q5 < ((x1.length : Nat) : Int)) (way ((!(((x0.getD q5.toNat ByteArray.empty)).data.toList == ((x1.getD q5.toNat ByteArray.empty)).data.toList))) (some false) (u6 (IntKind.i64.wrap (q5 + 1)))))) (some true))) manyC 0))
theorem c63 (x0 : (List ByteArray)) (x1 : (List ByteArray)) (r : Bool) (h : s63 x0 x1 = some r) : Gives Tryz.prog 63 [.slice 1 (List.map (fun x => [vstr x]) x0), .slice 1 (List.map (fun x => [vstr x]) x1)] (vbool r) := by
  intro s
  unfold s63 at h
  refine acalls_of (fn := Tryz.f63) Tryz.func63 rfl (by decide) (by show 2 ≤ 26; decide) ?_
  rw [Tryz.ntmps63]
  refine rg ?_
  refine AWp.seq_k fun K1 hK1 => ?_
  refine rg ?_
  refine ws h (fun hc2 h => ?_) fun hc2 h => ?_
  · refine rg ?_
    refine AWp.ret ?_
    obtain rfl := Option.some.inj h
    exact rtn [.tmp 4]
  · refine AWp.skip ?_
    refine hK1 _ ?_; clear hK1
    refine AWp.seq_k fun K3 hK3 => ?_
    refine rg ?_
    refine AWp.block ?_
    refine AWp.loopS (X := Int) (G := Unit) h (fun _ => True) (fun q5 _ => tst [(0, .slice 1 (List.map (fun x => [vstr x]) x0)), (1, .slice 1 (List.map (fun x => [vstr x]) x1)), (12, vint (((x0.length : Nat) : Int))), (13, vint q5)] [] s 26) ?_ ?_
    · exact ⟨(), trivial, tle⟩
    · rintro u6 v4 h _ _
      refine rg ?_
      refine AWp.seq_k fun K7 hK7 => ?_
      refine ws h (fun hc8 h => ?_) fun hc8 h => ?_
      · refine AWp.skip ?_
        refine hK7 _ ?_; clear hK7
        refine AWp.seq_k fun K9 hK9 => ?_
        refine AWp.block ?_
        refine rg ?_
        obtain ⟨hn11, h⟩ := need_some h
        obtain ⟨hn13, h⟩ := need_some h
        refine rgLF [0, 1, 2, 3, 4, 5, 6, 7, 8] [] ((And.intro ((isT hn11.1)) <| And.intro ((isT hn11.2)) <| And.intro ((getD_enc (fun x => [vstr x]) ByteArray.empty hn11)) <| And.intro ((isT hn13.1)) <| And.intro ((isT hn13.2)) <| (getD_enc (fun x => [vstr x]) ByteArray.empty hn13))) ?_
        refine ws h (fun hc14 h => ?_) fun hc14 h => ?_
        · refine rg ?_
          refine AWp.ret ?_
          obtain rfl := Option.some.inj h
          exact rtn [.tmp 4]
        · refine AWp.skip ?_
          refine hK9 _ ?_; clear hK9
          refine r1 ?_
          exact ⟨(IntKind.i64.wrap (v4 + 1)), h, (), trivial, tle⟩
      · refine AWp.exit ?_
        simp only [thenQ, blockQ, ↓reduceIte, Nat.reduceEqDiff, Nat.one_ne_zero, Nat.zero_ne_one, Nat.succ_ne_zero, reduceCtorEq]
        refine hK3 _ ?_; clear hK3
        refine rg ?_
        refine AWp.ret ?_
        obtain rfl := Option.some.inj h
        exact rtn [.tmp 4]
structure F127_1_ where
  p127_1 : (List XItem) → (List XItem) → Option (Bool)
  p128 : XItem → XItem → Option (Bool)
  p129_1 : (List XSource) → (List XSource) → Option (Bool)
  p130 : XSource → XSource → Option (Bool)
  p131_1 : (List (List XExpr)) → (List (List XExpr)) → Option (Bool)
  p132 : (List XExpr) → (List XExpr) → Option (Bool)
  p26 : XExpr → XExpr → Option (Bool)
  p31 : XSelect → XSelect → Option (Bool)
  p57_1 : (List XExpr) → (List XExpr) → Option (Bool)
  p58_1 : (List XSelect) → (List XSelect) → Option (Bool)
  p61_1 : (List XCte) → (List XCte) → Option (Bool)
  p62 : XCte → XCte → Option (Bool)
  p64_1 : (List XPart) → (List XPart) → Option (Bool)
  p65 : XPart → XPart → Option (Bool)
  p66_1 : (List XSort) → (List XSort) → Option (Bool)
  p67 : XSort → XSort → Option (Bool)
structure F127_1_.Ok (F : F127_1_) : Prop where
  p127_1 : ∀ (x0 : (List XItem)) (x1 : (List XItem)) (r : Bool), F.p127_1 x0 x1 = some r → Gives Tryz.prog 127 [.slice 4 (List.map XItem.v x0), .slice 4 (List.map XItem.v x1), .func 128 [] []] (vbool r)
  p128 : ∀ (x0 : XItem) (x1 : XItem) (r : Bool), F.p128 x0 x1 = some r → Gives Tryz.prog 128 [.agg x0.v, .agg x1.v] (vbool r)
  p129_1 : ∀ (x0 : (List XSource)) (x1 : (List XSource)) (r : Bool), F.p129_1 x0 x1 = some r → Gives Tryz.prog 129 [.slice 5 (List.map XSource.v x0), .slice 5 (List.map XSource.v x1), .func 130 [] []] (vbool r)
  p130 : ∀ (x0 : XSource) (x1 : XSource) (r : Bool), F.p130 x0 x1 = some r → Gives Tryz.prog 130 [.agg x0.v, .agg x1.v] (vbool r)
  p131_1 : ∀ (x0 : (List (List XExpr))) (x1 : (List (List XExpr))) (r : Bool), F.p131_1 x0 x1 = some r → Gives Tryz.prog 131 [.slice 1 (List.map (fun x => [V.slice 10 (List.map XExpr.v x)]) x0), .slice 1 (List.map (fun x => [V.slice 10 (List.map XExpr.v x)]) x1), .func 132 [] []] (vbool r)
  p132 : ∀ (x0 : (List XExpr)) (x1 : (List XExpr)) (r : Bool), F.p132 x0 x1 = some r → Gives Tryz.prog 132 [.slice 10 (List.map XExpr.v x0), .slice 10 (List.map XExpr.v x1)] (vbool r)
  p26 : ∀ (x0 : XExpr) (x1 : XExpr) (r : Bool), F.p26 x0 x1 = some r → Gives Tryz.prog 26 [.agg x0.v, .agg x1.v] (vbool r)
  p31 : ∀ (x0 : XSelect) (x1 : XSelect) (r : Bool), F.p31 x0 x1 = some r → Gives Tryz.prog 31 [.agg x0.v, .agg x1.v] (vbool r)
  p57_1 : ∀ (x0 : (List XExpr)) (x1 : (List XExpr)) (r : Bool), F.p57_1 x0 x1 = some r → Gives Tryz.prog 57 [.slice 10 (List.map XExpr.v x0), .slice 10 (List.map XExpr.v x1), .func 26 [] []] (vbool r)
  p58_1 : ∀ (x0 : (List XSelect)) (x1 : (List XSelect)) (r : Bool), F.p58_1 x0 x1 = some r → Gives Tryz.prog 58 [.slice 5 (List.map XSelect.v x0), .slice 5 (List.map XSelect.v x1), .func 31 [] []] (vbool r)
  p61_1 : ∀ (x0 : (List XCte)) (x1 : (List XCte)) (r : Bool), F.p61_1 x0 x1 = some r → Gives Tryz.prog 61 [.slice 3 (List.map XCte.v x0), .slice 3 (List.map XCte.v x1), .func 62 [] []] (vbool r)
  p62 : ∀ (x0 : XCte) (x1 : XCte) (r : Bool), F.p62 x0 x1 = some r → Gives Tryz.prog 62 [.agg x0.v, .agg x1.v] (vbool r)
  p64_1 : ∀ (x0 : (List XPart)) (x1 : (List XPart)) (r : Bool), F.p64_1 x0 x1 = some r → Gives Tryz.prog 64 [.slice 8 (List.map XPart.v x0), .slice 8 (List.map XPart.v x1), .func 65 [] []] (vbool r)
  p65 : ∀ (x0 : XPart) (x1 : XPart) (r : Bool), F.p65 x0 x1 = some r → Gives Tryz.prog 65 [.agg x0.v, .agg x1.v] (vbool r)
  p66_1 : ∀ (x0 : (List XSort)) (x1 : (List XSort)) (r : Bool), F.p66_1 x0 x1 = some r → Gives Tryz.prog 66 [.slice 11 (List.map XSort.v x0), .slice 11 (List.map XSort.v x1), .func 67 [] []] (vbool r)
  p67 : ∀ (x0 : XSort) (x1 : XSort) (r : Bool), F.p67 x0 x1 = some r → Gives Tryz.prog 67 [.agg x0.v, .agg x1.v] (vbool r)
def b127_1 (F : F127_1_) (x0 : (List XItem)) (x1 : (List XItem)) : Option (Bool) := (way (((((x0.length : Nat) : Int)) != (((x1.length : Nat) : Int)))) (some false) (loopC (fun (u6 : Int → Option (Bool)) (q5 : Int) => (way ((decide (q5 < (((x0.length : Nat) : Int))))) (need (0 ≤ q5 ∧ q5 < ((x0.length : Nat) : Int)) (need (0 ≤ q5 ∧ q5 < ((x1.length : Nat) : Int)) (call (F.p128 ((x0.getD q5.toNat XItem.z)) ((x1.getD q5.toNat XItem.z))) fun y14 => (way ((!y14)) (some false) (u6 (IntKind.i64.wrap (q5 + 1))))))) (some true))) manyC 0))
theorem d127_1 (F : F127_1_) (H : F.Ok) (x0 : (List XItem)) (x1 : (List XItem)) (r : Bool) (h : b127_1 F x0 x1 = some r) : Gives Tryz.prog 127 [.slice 4 (List.map XItem.v x0), .slice 4 (List.map XItem.v x1), .func 128 [] []] (vbool r) := by
  intro s
  unfold b127_1 at h
  refine acalls_of (fn := Tryz.f127) Tryz.func127 rfl (by decide) (by show 3 ≤ 32; decide) ?_
  rw [Tryz.ntmps127]
  refine rg ?_
  refine AWp.seq_k fun K1 hK1 => ?_
  refine rg ?_
  refine ws h (fun hc2 h => ?_) fun hc2 h => ?_
  · refine rg ?_
    refine AWp.ret ?_
    obtain rfl := Option.some.inj h
    exact rtn [.tmp 6]
  · refine AWp.skip ?_
    refine hK1 _ ?_; clear hK1
    refine AWp.seq_k fun K3 hK3 => ?_
    refine rg ?_
    refine AWp.block ?_
    refine AWp.loopS (X := Int) (G := Unit) h (fun _ => True) (fun q5 _ => tst [(1, .slice 4 (List.map XItem.v x1)), (2, .func 128 [] []), (15, .slice 4 (List.map XItem.v x0)), (16, vint (((x0.length : Nat) : Int))), (17, vint q5)] [] s 32) ?_ ?_
    · exact ⟨(), trivial, tle⟩
    · rintro u6 v4 h _ _
      refine rg ?_
      refine AWp.seq_k fun K7 hK7 => ?_
      refine ws h (fun hc8 h => ?_) fun hc8 h => ?_
      · refine AWp.skip ?_
        refine hK7 _ ?_; clear hK7
        refine AWp.seq_k fun K9 hK9 => ?_
        refine AWp.block ?_
        obtain ⟨hn11, h⟩ := need_some h
        refine rgF ((And.intro ((isT hn11.1)) <| And.intro ((isT hn11.2)) <| (getD_enc XItem.v XItem.z hn11))) ?_
        obtain ⟨hn13, h⟩ := need_some h
        refine rgF ((And.intro ((isT hn13.1)) <| And.intro ((isT hn13.2)) <| (getD_enc XItem.v XItem.z hn13))) ?_
        obtain ⟨y14, hy14, h⟩ := call_some h
        refine rgC (H.p128 ((x0.getD v4.toNat XItem.z)) ((x1.getD v4.toNat XItem.z)) _ hy14) ?_
        refine ws h (fun hc15 h => ?_) fun hc15 h => ?_
        · refine rg ?_
          refine AWp.ret ?_
          obtain rfl := Option.some.inj h
          exact rtn [.tmp 6]
        · refine AWp.skip ?_
          refine hK9 _ ?_; clear hK9
          refine r1 ?_
          exact ⟨(IntKind.i64.wrap (v4 + 1)), h, (), trivial, tle⟩
      · refine AWp.exit ?_
        simp only [thenQ, blockQ, ↓reduceIte, Nat.reduceEqDiff, Nat.one_ne_zero, Nat.zero_ne_one, Nat.succ_ne_zero, reduceCtorEq]
        refine hK3 _ ?_; clear hK3
        refine rg ?_
        refine AWp.ret ?_
        obtain rfl := Option.some.inj h
        exact rtn [.tmp 6]
def b128 (F : F127_1_) (x0 : XItem) (x1 : XItem) : Option (Bool) := (join (fun (u3 : Bool → Option (Bool)) => (way ((x0.star == x1.star)) (way ((x0.table.data.toList == x1.table.data.toList)) (way ((x0.as.data.toList == x1.as.data.toList)) (call (F.p57_1 x0.expr x1.expr) fun y8 => (u3 y8)) (u3 false)) (u3 false)) (u3 false))) (fun (q2 : Bool) => (some q2)))
theorem d128 (F : F127_1_) (H : F.Ok) (x0 : XItem) (x1 : XItem) (r : Bool) (h : b128 F x0 x1 = some r) : Gives Tryz.prog 128 [.agg x0.v, .agg x1.v] (vbool r) := by
  intro s
  unfold b128 at h
  refine acalls_of (fn := Tryz.f128) Tryz.func128 rfl (by decide) (by show 2 ≤ 31; decide) ?_
  rw [Tryz.ntmps128]
  refine rg ?_
  refine AWp.joinS (X := Bool) (G := Unit) h (fun _ => True) (fun q2 _ => tst [(4, vbool q2)] [] s 31) (fun u3 h => ?_) ?_
  · refine AWp.reg1 fun Z4 hZ4 => ?_
    (try simp only [undef, Bool.not_true, Bool.not_false, xm, Nat.reduceAdd, Nat.reduceLeDiff, seval, reduceCtorEq])
    refine gTS h (by rfl) (fun hg5 h => ?_) (fun hg5 h => ?_)
    · (try simp only [hg5, undef, Bool.not_true, Bool.not_false, xm, Nat.reduceAdd, Nat.reduceLeDiff, seval, reduceCtorEq])
      refine gTS h (by rfl) (fun hg6 h => ?_) (fun hg6 h => ?_)
      · (try simp only [hg5, hg6, undef, Bool.not_true, Bool.not_false, xm, Nat.reduceAdd, Nat.reduceLeDiff, seval, reduceCtorEq])
        refine gTS h (by rfl) (fun hg7 h => ?_) (fun hg7 h => ?_)
        · (try simp only [hg5, hg6, hg7, undef, Bool.not_true, Bool.not_false, xm, Nat.reduceAdd, Nat.reduceLeDiff, seval, reduceCtorEq])
          obtain ⟨y8, hy8, h⟩ := call_some h
          refine (H.p57_1 x0.expr x1.expr _ hy8 _).go ?_
          (try simp only [hg5, hg6, hg7, undef, Bool.not_true, Bool.not_false, xm, Nat.reduceAdd, Nat.reduceLeDiff, seval, reduceCtorEq])
          refine hZ4 _ ?_; clear hZ4 Z4
          exact ⟨y8, h, (), trivial, tleF ((And.intro hg5 <| And.intro hg6 <| hg7))⟩
        · (try simp only [hg5, hg6, hg7, undef, Bool.not_true, Bool.not_false, xm, Nat.reduceAdd, Nat.reduceLeDiff, seval, reduceCtorEq])
          refine hZ4 _ ?_; clear hZ4 Z4
          exact ⟨false, h, (), trivial, tleF ((And.intro hg5 <| And.intro hg6 <| hg7))⟩
      · (try simp only [hg5, hg6, undef, Bool.not_true, Bool.not_false, xm, Nat.reduceAdd, Nat.reduceLeDiff, seval, reduceCtorEq])
        refine hZ4 _ ?_; clear hZ4 Z4
        exact ⟨false, h, (), trivial, tleF ((And.intro hg5 <| hg6))⟩
    · (try simp only [hg5, undef, Bool.not_true, Bool.not_false, xm, Nat.reduceAdd, Nat.reduceLeDiff, seval, reduceCtorEq])
      refine hZ4 _ ?_; clear hZ4 Z4
      exact ⟨false, h, (), trivial, tleF hg5⟩
  · rintro v1 h _ _
    refine AWp.ret ?_
    obtain rfl := Option.some.inj h
    exact rtn [.tmp 4]
def b129_1 (F : F127_1_) (x0 : (List XSource)) (x1 : (List XSource)) : Option (Bool) := (way (((((x0.length : Nat) : Int)) != (((x1.length : Nat) : Int)))) (some false) (loopC (fun (u6 : Int → Option (Bool)) (q5 : Int) => (way ((decide (q5 < (((x0.length : Nat) : Int))))) (need (0 ≤ q5 ∧ q5 < ((x0.length : Nat) : Int)) (need (0 ≤ q5 ∧ q5 < ((x1.length : Nat) : Int)) (call (F.p130 ((x0.getD q5.toNat XSource.z)) ((x1.getD q5.toNat XSource.z))) fun y14 => (way ((!y14)) (some false) (u6 (IntKind.i64.wrap (q5 + 1))))))) (some true))) manyC 0))
theorem d129_1 (F : F127_1_) (H : F.Ok) (x0 : (List XSource)) (x1 : (List XSource)) (r : Bool) (h : b129_1 F x0 x1 = some r) : Gives Tryz.prog 129 [.slice 5 (List.map XSource.v x0), .slice 5 (List.map XSource.v x1), .func 130 [] []] (vbool r) := by
  intro s
  unfold b129_1 at h
  refine acalls_of (fn := Tryz.f129) Tryz.func129 rfl (by decide) (by show 3 ≤ 32; decide) ?_
  rw [Tryz.ntmps129]
  refine rg ?_
  refine AWp.seq_k fun K1 hK1 => ?_
  refine rg ?_
  refine ws h (fun hc2 h => ?_) fun hc2 h => ?_
  · refine rg ?_
    refine AWp.ret ?_
    obtain rfl := Option.some.inj h
    exact rtn [.tmp 6]
  · refine AWp.skip ?_
    refine hK1 _ ?_; clear hK1
    refine AWp.seq_k fun K3 hK3 => ?_
    refine rg ?_
    refine AWp.block ?_
    refine AWp.loopS (X := Int) (G := Unit) h (fun _ => True) (fun q5 _ => tst [(1, .slice 5 (List.map XSource.v x1)), (2, .func 130 [] []), (15, .slice 5 (List.map XSource.v x0)), (16, vint (((x0.length : Nat) : Int))), (17, vint q5)] [] s 32) ?_ ?_
    · exact ⟨(), trivial, tle⟩
    · rintro u6 v4 h _ _
      refine rg ?_
      refine AWp.seq_k fun K7 hK7 => ?_
      refine ws h (fun hc8 h => ?_) fun hc8 h => ?_
      · refine AWp.skip ?_
        refine hK7 _ ?_; clear hK7
        refine AWp.seq_k fun K9 hK9 => ?_
        refine AWp.block ?_
        obtain ⟨hn11, h⟩ := need_some h
        refine rgF ((And.intro ((isT hn11.1)) <| And.intro ((isT hn11.2)) <| (getD_enc XSource.v XSource.z hn11))) ?_
        obtain ⟨hn13, h⟩ := need_some h
        refine rgF ((And.intro ((isT hn13.1)) <| And.intro ((isT hn13.2)) <| (getD_enc XSource.v XSource.z hn13))) ?_
        obtain ⟨y14, hy14, h⟩ := call_some h
        refine rgC (H.p130 ((x0.getD v4.toNat XSource.z)) ((x1.getD v4.toNat XSource.z)) _ hy14) ?_
        refine ws h (fun hc15 h => ?_) fun hc15 h => ?_
        · refine rg ?_
          refine AWp.ret ?_
          obtain rfl := Option.some.inj h
          exact rtn [.tmp 6]
        · refine AWp.skip ?_
          refine hK9 _ ?_; clear hK9
          refine r1 ?_
          exact ⟨(IntKind.i64.wrap (v4 + 1)), h, (), trivial, tle⟩
      · refine AWp.exit ?_
        simp only [thenQ, blockQ, ↓reduceIte, Nat.reduceEqDiff, Nat.one_ne_zero, Nat.zero_ne_one, Nat.succ_ne_zero, reduceCtorEq]
        refine hK3 _ ?_; clear hK3
        refine rg ?_
        refine AWp.ret ?_
        obtain rfl := Option.some.inj h
        exact rtn [.tmp 6]
def b130 (F : F127_1_) (x0 : XSource) (x1 : XSource) : Option (Bool) := (join (fun (u3 : Bool → Option (Bool)) => (way ((x0.join == x1.join)) (way ((x0.name.data.toList == x1.name.data.toList)) (way ((x0.as.data.toList == x1.as.data.toList)) (call (F.p58_1 x0.sub x1.sub) fun y8 => (way y8 (call (F.p57_1 x0.on x1.on) fun y10 => (u3 y10)) (u3 false))) (u3 false)) (u3 false)) (u3 false))) (fun (q2 : Bool) => (some q2)))
theorem d130 (F : F127_1_) (H : F.Ok) (x0 : XSource) (x1 : XSource) (r : Bool) (h : b130 F x0 x1 = some r) : Gives Tryz.prog 130 [.agg x0.v, .agg x1.v] (vbool r) := by
  intro s
  unfold b130 at h
  refine acalls_of (fn := Tryz.f130) Tryz.func130 rfl (by decide) (by show 2 ≤ 38; decide) ?_
  rw [Tryz.ntmps130]
  refine rg ?_
  refine AWp.joinS (X := Bool) (G := Unit) h (fun _ => True) (fun q2 _ => tst [(4, vbool q2)] [] s 38) (fun u3 h => ?_) ?_
  · refine AWp.reg1 fun Z4 hZ4 => ?_
    (try simp only [undef, Bool.not_true, Bool.not_false, xm, Nat.reduceAdd, Nat.reduceLeDiff, seval, reduceCtorEq])
    refine gTS h (by rfl) (fun hg5 h => ?_) (fun hg5 h => ?_)
    · (try simp only [hg5, undef, Bool.not_true, Bool.not_false, xm, Nat.reduceAdd, Nat.reduceLeDiff, seval, reduceCtorEq])
      refine gTS h (by rfl) (fun hg6 h => ?_) (fun hg6 h => ?_)
      · (try simp only [hg5, hg6, undef, Bool.not_true, Bool.not_false, xm, Nat.reduceAdd, Nat.reduceLeDiff, seval, reduceCtorEq])
        refine gTS h (by rfl) (fun hg7 h => ?_) (fun hg7 h => ?_)
        · (try simp only [hg5, hg6, hg7, undef, Bool.not_true, Bool.not_false, xm, Nat.reduceAdd, Nat.reduceLeDiff, seval, reduceCtorEq])
          obtain ⟨y8, hy8, h⟩ := call_some h
          refine (H.p58_1 x0.sub x1.sub _ hy8 _).go ?_
          (try simp only [hg5, hg6, hg7, undef, Bool.not_true, Bool.not_false, xm, Nat.reduceAdd, Nat.reduceLeDiff, seval, reduceCtorEq])
          refine gTS h (by rfl) (fun hg9 h => ?_) (fun hg9 h => ?_)
          · (try simp only [hg5, hg6, hg7, hg9, undef, Bool.not_true, Bool.not_false, xm, Nat.reduceAdd, Nat.reduceLeDiff, seval, reduceCtorEq])
            obtain ⟨y10, hy10, h⟩ := call_some h
            refine (H.p57_1 x0.on x1.on _ hy10 _).go ?_
            (try simp only [hg5, hg6, hg7, hg9, undef, Bool.not_true, Bool.not_false, xm, Nat.reduceAdd, Nat.reduceLeDiff, seval, reduceCtorEq])
            refine hZ4 _ ?_; clear hZ4 Z4
            exact ⟨y10, h, (), trivial, tleF ((And.intro hg5 <| And.intro hg6 <| And.intro hg7 <| hg9))⟩
          · (try simp only [hg5, hg6, hg7, hg9, undef, Bool.not_true, Bool.not_false, xm, Nat.reduceAdd, Nat.reduceLeDiff, seval, reduceCtorEq])
            refine hZ4 _ ?_; clear hZ4 Z4
            exact ⟨false, h, (), trivial, tleF ((And.intro hg5 <| And.intro hg6 <| And.intro hg7 <| hg9))⟩
        · (try simp only [hg5, hg6, hg7, undef, Bool.not_true, Bool.not_false, xm, Nat.reduceAdd, Nat.reduceLeDiff, seval, reduceCtorEq])
          refine hZ4 _ ?_; clear hZ4 Z4
          exact ⟨false, h, (), trivial, tleF ((And.intro hg5 <| And.intro hg6 <| hg7))⟩
      · (try simp only [hg5, hg6, undef, Bool.not_true, Bool.not_false, xm, Nat.reduceAdd, Nat.reduceLeDiff, seval, reduceCtorEq])
        refine hZ4 _ ?_; clear hZ4 Z4
        exact ⟨false, h, (), trivial, tleF ((And.intro hg5 <| hg6))⟩
    · (try simp only [hg5, undef, Bool.not_true, Bool.not_false, xm, Nat.reduceAdd, Nat.reduceLeDiff, seval, reduceCtorEq])
      refine hZ4 _ ?_; clear hZ4 Z4
      exact ⟨false, h, (), trivial, tleF hg5⟩
  · rintro v1 h _ _
    refine AWp.ret ?_
    obtain rfl := Option.some.inj h
    exact rtn [.tmp 4]
def b131_1 (F : F127_1_) (x0 : (List (List XExpr))) (x1 : (List (List XExpr))) : Option (Bool) := (way (((((x0.length : Nat) : Int)) != (((x1.length : Nat) : Int)))) (some false) (loopC (fun (u6 : Int → Option (Bool)) (q5 : Int) => (way ((decide (q5 < (((x0.length : Nat) : Int))))) (need (0 ≤ q5 ∧ q5 < ((x0.length : Nat) : Int)) (need (0 ≤ q5 ∧ q5 < ((x1.length : Nat) : Int)) (call (F.p132 ((x0.getD q5.toNat ([]))) ((x1.getD q5.toNat ([])))) fun y14 => (way ((!y14)) (some false) (u6 (IntKind.i64.wrap (q5 + 1))))))) (some true))) manyC 0))
theorem d131_1 (F : F127_1_) (H : F.Ok) (x0 : (List (List XExpr))) (x1 : (List (List XExpr))) (r : Bool) (h : b131_1 F x0 x1 = some r) : Gives Tryz.prog 131 [.slice 1 (List.map (fun x => [V.slice 10 (List.map XExpr.v x)]) x0), .slice 1 (List.map (fun x => [V.slice 10 (List.map XExpr.v x)]) x1), .func 132 [] []] (vbool r) := by
  intro s
  unfold b131_1 at h
  refine acalls_of (fn := Tryz.f131) Tryz.func131 rfl (by decide) (by show 3 ≤ 32; decide) ?_
  rw [Tryz.ntmps131]
  refine rg ?_
  refine AWp.seq_k fun K1 hK1 => ?_
  refine rg ?_
  refine ws h (fun hc2 h => ?_) fun hc2 h => ?_
  · refine rg ?_
    refine AWp.ret ?_
    obtain rfl := Option.some.inj h
    exact rtn [.tmp 6]
  · refine AWp.skip ?_
    refine hK1 _ ?_; clear hK1
    refine AWp.seq_k fun K3 hK3 => ?_
    refine rg ?_
    refine AWp.block ?_
    refine AWp.loopS (X := Int) (G := Unit) h (fun _ => True) (fun q5 _ => tst [(1, .slice 1 (List.map (fun x => [V.slice 10 (List.map XExpr.v x)]) x1)), (2, .func 132 [] []), (15, .slice 1 (List.map (fun x => [V.slice 10 (List.map XExpr.v x)]) x0)), (16, vint (((x0.length : Nat) : Int))), (17, vint q5)] [] s 32) ?_ ?_
    · exact ⟨(), trivial, tle⟩
    · rintro u6 v4 h _ _
      refine rg ?_
      refine AWp.seq_k fun K7 hK7 => ?_
      refine ws h (fun hc8 h => ?_) fun hc8 h => ?_
      · refine AWp.skip ?_
        refine hK7 _ ?_; clear hK7
        refine AWp.seq_k fun K9 hK9 => ?_
        refine AWp.block ?_
        obtain ⟨hn11, h⟩ := need_some h
        refine rgF ((And.intro ((isT hn11.1)) <| And.intro ((isT hn11.2)) <| (getD_enc (fun x => [V.slice 10 (List.map XExpr.v x)]) ([]) hn11))) ?_
        obtain ⟨hn13, h⟩ := need_some h
        refine rgF ((And.intro ((isT hn13.1)) <| And.intro ((isT hn13.2)) <| (getD_enc (fun x => [V.slice 10 (List.map XExpr.v x)]) ([]) hn13))) ?_
        obtain ⟨y14, hy14, h⟩ := call_some h
        refine rgC (H.p132 ((x0.getD v4.toNat ([]))) ((x1.getD v4.toNat ([]))) _ hy14) ?_
        refine ws h (fun hc15 h => ?_) fun hc15 h => ?_
        · refine rg ?_
          refine AWp.ret ?_
          obtain rfl := Option.some.inj h
          exact rtn [.tmp 6]
        · refine AWp.skip ?_
          refine hK9 _ ?_; clear hK9
          refine r1 ?_
          exact ⟨(IntKind.i64.wrap (v4 + 1)), h, (), trivial, tle⟩
      · refine AWp.exit ?_
        simp only [thenQ, blockQ, ↓reduceIte, Nat.reduceEqDiff, Nat.one_ne_zero, Nat.zero_ne_one, Nat.succ_ne_zero, reduceCtorEq]
        refine hK3 _ ?_; clear hK3
        refine rg ?_
        refine AWp.ret ?_
        obtain rfl := Option.some.inj h
        exact rtn [.tmp 6]
def b132 (F : F127_1_) (x0 : (List XExpr)) (x1 : (List XExpr)) : Option (Bool) := (call (F.p57_1 x0 x1) fun y1 => (some y1))
theorem d132 (F : F127_1_) (H : F.Ok) (x0 : (List XExpr)) (x1 : (List XExpr)) (r : Bool) (h : b132 F x0 x1 = some r) : Gives Tryz.prog 132 [.slice 10 (List.map XExpr.v x0), .slice 10 (List.map XExpr.v x1)] (vbool r) := by
  intro s
  unfold b132 at h
  refine acalls_of (fn := Tryz.f132) Tryz.func132 rfl (by decide) (by show 2 ≤ 8; decide) ?_
  rw [Tryz.ntmps132]
  refine rg ?_
  obtain ⟨y1, hy1, h⟩ := call_some h
  refine rgC (H.p57_1 x0 x1 _ hy1) ?_
  refine AWp.ret ?_
  obtain rfl := Option.some.inj h
  exact rtn [.tmp 4]
def b26 (F : F127_1_) (x0 : XExpr) (x1 : XExpr) : Option (Bool) := (join (fun (u3 : Bool → Option (Bool)) => (way ((x0.op == x1.op)) (way ((x0.not == x1.not)) (way ((x0.table.data.toList == x1.table.data.toList)) (way ((x0.name.data.toList == x1.name.data.toList)) (way ((x0.n == x1.n)) (way (((x0.v_.kind == x1.v_.kind) && ((x0.v_.int == x1.v_.int) && (x0.v_.text.data.toList == x1.v_.text.data.toList)))) (call (F.p57_1 x0.args x1.args) fun y11 => (way y11 (call (F.p58_1 x0.sub x1.sub) fun y13 => (u3 y13)) (u3 false))) (u3 false)) (u3 false)) (u3 false)) (u3 false)) (u3 false)) (u3 false))) (fun (q2 : Bool) => (some q2)))
theorem d26 (F : F127_1_) (H : F.Ok) (x0 : XExpr) (x1 : XExpr) (r : Bool) (h : b26 F x0 x1 = some r) : Gives Tryz.prog 26 [.agg x0.v, .agg x1.v] (vbool r) := by
  intro s
  unfold b26 at h
  refine acalls_of (fn := Tryz.f26) Tryz.func26 rfl (by decide) (by show 2 ≤ 59; decide) ?_
  rw [Tryz.ntmps26]
  refine rg ?_
  refine AWp.joinS (X := Bool) (G := Unit) h (fun _ => True) (fun q2 _ => tst [(4, vbool q2)] [] s 59) (fun u3 h => ?_) ?_
  · refine AWp.reg1 fun Z4 hZ4 => ?_
    (try simp only [undef, Bool.not_true, Bool.not_false, xm, Nat.reduceAdd, Nat.reduceLeDiff, seval, reduceCtorEq])
    refine gTS h (by rfl) (fun hg5 h => ?_) (fun hg5 h => ?_)
    · (try simp only [hg5, undef, Bool.not_true, Bool.not_false, xm, Nat.reduceAdd, Nat.reduceLeDiff, seval, reduceCtorEq])
      refine gTS h (by rfl) (fun hg6 h => ?_) (fun hg6 h => ?_)
      · (try simp only [hg5, hg6, undef, Bool.not_true, Bool.not_false, xm, Nat.reduceAdd, Nat.reduceLeDiff, seval, reduceCtorEq])
        refine gTS h (by rfl) (fun hg7 h => ?_) (fun hg7 h => ?_)
        · (try simp only [hg5, hg6, hg7, undef, Bool.not_true, Bool.not_false, xm, Nat.reduceAdd, Nat.reduceLeDiff, seval, reduceCtorEq])
          refine gTS h (by rfl) (fun hg8 h => ?_) (fun hg8 h => ?_)
          · (try simp only [hg5, hg6, hg7, hg8, undef, Bool.not_true, Bool.not_false, xm, Nat.reduceAdd, Nat.reduceLeDiff, seval, reduceCtorEq])
            refine gTS h (by rfl) (fun hg9 h => ?_) (fun hg9 h => ?_)
            · (try simp only [hg5, hg6, hg7, hg8, hg9, teq25, XValue.v_eq, undef, Bool.not_true, Bool.not_false, xm, Nat.reduceAdd, Nat.reduceLeDiff, seval, reduceCtorEq])
              refine gTS h (by rfl) (fun hg10 h => ?_) (fun hg10 h => ?_)
              · (try simp only [hg5, hg6, hg7, hg8, hg9, teq25, XValue.v_eq, hg10, undef, Bool.not_true, Bool.not_false, xm, Nat.reduceAdd, Nat.reduceLeDiff, seval, reduceCtorEq])
                obtain ⟨y11, hy11, h⟩ := call_some h
                refine (H.p57_1 x0.args x1.args _ hy11 _).go ?_
                (try simp only [hg5, hg6, hg7, hg8, hg9, teq25, XValue.v_eq, hg10, undef, Bool.not_true, Bool.not_false, xm, Nat.reduceAdd, Nat.reduceLeDiff, seval, reduceCtorEq])
                refine gTS h (by rfl) (fun hg12 h => ?_) (fun hg12 h => ?_)
                · (try simp only [hg5, hg6, hg7, hg8, hg9, teq25, XValue.v_eq, hg10, hg12, undef, Bool.not_true, Bool.not_false, xm, Nat.reduceAdd, Nat.reduceLeDiff, seval, reduceCtorEq])
                  obtain ⟨y13, hy13, h⟩ := call_some h
                  refine (H.p58_1 x0.sub x1.sub _ hy13 _).go ?_
                  (try simp only [hg5, hg6, hg7, hg8, hg9, teq25, XValue.v_eq, hg10, hg12, undef, Bool.not_true, Bool.not_false, xm, Nat.reduceAdd, Nat.reduceLeDiff, seval, reduceCtorEq])
                  refine hZ4 _ ?_; clear hZ4 Z4
                  exact ⟨y13, h, (), trivial, tleF ((And.intro (@XValue.v_eq) <| And.intro hg5 <| And.intro hg6 <| And.intro hg7 <| And.intro hg8 <| And.intro hg9 <| And.intro hg10 <| hg12))⟩
                · (try simp only [hg5, hg6, hg7, hg8, hg9, teq25, XValue.v_eq, hg10, hg12, undef, Bool.not_true, Bool.not_false, xm, Nat.reduceAdd, Nat.reduceLeDiff, seval, reduceCtorEq])
                  refine hZ4 _ ?_; clear hZ4 Z4
                  exact ⟨false, h, (), trivial, tleF ((And.intro (@XValue.v_eq) <| And.intro hg5 <| And.intro hg6 <| And.intro hg7 <| And.intro hg8 <| And.intro hg9 <| And.intro hg10 <| hg12))⟩
              · (try simp only [hg5, hg6, hg7, hg8, hg9, teq25, XValue.v_eq, hg10, undef, Bool.not_true, Bool.not_false, xm, Nat.reduceAdd, Nat.reduceLeDiff, seval, reduceCtorEq])
                refine hZ4 _ ?_; clear hZ4 Z4
                exact ⟨false, h, (), trivial, tleF ((And.intro (@XValue.v_eq) <| And.intro hg5 <| And.intro hg6 <| And.intro hg7 <| And.intro hg8 <| And.intro hg9 <| hg10))⟩
            · (try simp only [hg5, hg6, hg7, hg8, hg9, undef, Bool.not_true, Bool.not_false, xm, Nat.reduceAdd, Nat.reduceLeDiff, seval, reduceCtorEq])
              refine hZ4 _ ?_; clear hZ4 Z4
              exact ⟨false, h, (), trivial, tleF ((And.intro (@XValue.v_eq) <| And.intro hg5 <| And.intro hg6 <| And.intro hg7 <| And.intro hg8 <| hg9))⟩
          · (try simp only [hg5, hg6, hg7, hg8, undef, Bool.not_true, Bool.not_false, xm, Nat.reduceAdd, Nat.reduceLeDiff, seval, reduceCtorEq])
            refine hZ4 _ ?_; clear hZ4 Z4
            exact ⟨false, h, (), trivial, tleF ((And.intro (@XValue.v_eq) <| And.intro hg5 <| And.intro hg6 <| And.intro hg7 <| hg8))⟩
        · (try simp only [hg5, hg6, hg7, undef, Bool.not_true, Bool.not_false, xm, Nat.reduceAdd, Nat.reduceLeDiff, seval, reduceCtorEq])
          refine hZ4 _ ?_; clear hZ4 Z4
          exact ⟨false, h, (), trivial, tleF ((And.intro (@XValue.v_eq) <| And.intro hg5 <| And.intro hg6 <| hg7))⟩
      · (try simp only [hg5, hg6, undef, Bool.not_true, Bool.not_false, xm, Nat.reduceAdd, Nat.reduceLeDiff, seval, reduceCtorEq])
        refine hZ4 _ ?_; clear hZ4 Z4
        exact ⟨false, h, (), trivial, tleF ((And.intro (@XValue.v_eq) <| And.intro hg5 <| hg6))⟩
    · (try simp only [hg5, undef, Bool.not_true, Bool.not_false, xm, Nat.reduceAdd, Nat.reduceLeDiff, seval, reduceCtorEq])
      refine hZ4 _ ?_; clear hZ4 Z4
      exact ⟨false, h, (), trivial, tleF ((And.intro (@XValue.v_eq) <| hg5))⟩
  · rintro v1 h _ _
    refine AWp.ret ?_
    obtain rfl := Option.some.inj h
    exact rtnF (@XValue.v_eq) [.tmp 4]
def b31 (F : F127_1_) (x0 : XSelect) (x1 : XSelect) : Option (Bool) := (join (fun (u3 : Bool → Option (Bool)) => (call (F.p61_1 x0.with_ x1.with_) fun y5 => (way y5 (call (F.p64_1 x0.parts x1.parts) fun y7 => (way y7 (call (F.p66_1 x0.order x1.order) fun y9 => (way y9 (call (F.p57_1 x0.limit x1.limit) fun y11 => (way y11 (call (F.p57_1 x0.offset x1.offset) fun y13 => (u3 y13)) (u3 false))) (u3 false))) (u3 false))) (u3 false)))) (fun (q2 : Bool) => (some q2)))
theorem d31 (F : F127_1_) (H : F.Ok) (x0 : XSelect) (x1 : XSelect) (r : Bool) (h : b31 F x0 x1 = some r) : Gives Tryz.prog 31 [.agg x0.v, .agg x1.v] (vbool r) := by
  intro s
  unfold b31 at h
  refine acalls_of (fn := Tryz.f31) Tryz.func31 rfl (by decide) (by show 2 ≤ 38; decide) ?_
  rw [Tryz.ntmps31]
  refine rg ?_
  refine AWp.joinS (X := Bool) (G := Unit) h (fun _ => True) (fun q2 _ => tst [(4, vbool q2)] [] s 38) (fun u3 h => ?_) ?_
  · refine AWp.reg1 fun Z4 hZ4 => ?_
    (try simp only [undef, Bool.not_true, Bool.not_false, xm, Nat.reduceAdd, Nat.reduceLeDiff, seval, reduceCtorEq])
    obtain ⟨y5, hy5, h⟩ := call_some h
    refine (H.p61_1 x0.with_ x1.with_ _ hy5 _).go ?_
    (try simp only [undef, Bool.not_true, Bool.not_false, xm, Nat.reduceAdd, Nat.reduceLeDiff, seval, reduceCtorEq])
    refine gTS h (by rfl) (fun hg6 h => ?_) (fun hg6 h => ?_)
    · (try simp only [hg6, undef, Bool.not_true, Bool.not_false, xm, Nat.reduceAdd, Nat.reduceLeDiff, seval, reduceCtorEq])
      obtain ⟨y7, hy7, h⟩ := call_some h
      refine (H.p64_1 x0.parts x1.parts _ hy7 _).go ?_
      (try simp only [hg6, undef, Bool.not_true, Bool.not_false, xm, Nat.reduceAdd, Nat.reduceLeDiff, seval, reduceCtorEq])
      refine gTS h (by rfl) (fun hg8 h => ?_) (fun hg8 h => ?_)
      · (try simp only [hg6, hg8, undef, Bool.not_true, Bool.not_false, xm, Nat.reduceAdd, Nat.reduceLeDiff, seval, reduceCtorEq])
        obtain ⟨y9, hy9, h⟩ := call_some h
        refine (H.p66_1 x0.order x1.order _ hy9 _).go ?_
        (try simp only [hg6, hg8, undef, Bool.not_true, Bool.not_false, xm, Nat.reduceAdd, Nat.reduceLeDiff, seval, reduceCtorEq])
        refine gTS h (by rfl) (fun hg10 h => ?_) (fun hg10 h => ?_)
        · (try simp only [hg6, hg8, hg10, undef, Bool.not_true, Bool.not_false, xm, Nat.reduceAdd, Nat.reduceLeDiff, seval, reduceCtorEq])
          obtain ⟨y11, hy11, h⟩ := call_some h
          refine (H.p57_1 x0.limit x1.limit _ hy11 _).go ?_
          (try simp only [hg6, hg8, hg10, undef, Bool.not_true, Bool.not_false, xm, Nat.reduceAdd, Nat.reduceLeDiff, seval, reduceCtorEq])
          refine gTS h (by rfl) (fun hg12 h => ?_) (fun hg12 h => ?_)
          · (try simp only [hg6, hg8, hg10, hg12, undef, Bool.not_true, Bool.not_false, xm, Nat.reduceAdd, Nat.reduceLeDiff, seval, reduceCtorEq])
            obtain ⟨y13, hy13, h⟩ := call_some h
            refine (H.p57_1 x0.offset x1.offset _ hy13 _).go ?_
            (try simp only [hg6, hg8, hg10, hg12, undef, Bool.not_true, Bool.not_false, xm, Nat.reduceAdd, Nat.reduceLeDiff, seval, reduceCtorEq])
            refine hZ4 _ ?_; clear hZ4 Z4
            exact ⟨y13, h, (), trivial, tleF ((And.intro hg6 <| And.intro hg8 <| And.intro hg10 <| hg12))⟩
          · (try simp only [hg6, hg8, hg10, hg12, undef, Bool.not_true, Bool.not_false, xm, Nat.reduceAdd, Nat.reduceLeDiff, seval, reduceCtorEq])
            refine hZ4 _ ?_; clear hZ4 Z4
            exact ⟨false, h, (), trivial, tleF ((And.intro hg6 <| And.intro hg8 <| And.intro hg10 <| hg12))⟩
        · (try simp only [hg6, hg8, hg10, undef, Bool.not_true, Bool.not_false, xm, Nat.reduceAdd, Nat.reduceLeDiff, seval, reduceCtorEq])
          refine hZ4 _ ?_; clear hZ4 Z4
          exact ⟨false, h, (), trivial, tleF ((And.intro hg6 <| And.intro hg8 <| hg10))⟩
      · (try simp only [hg6, hg8, undef, Bool.not_true, Bool.not_false, xm, Nat.reduceAdd, Nat.reduceLeDiff, seval, reduceCtorEq])
        refine hZ4 _ ?_; clear hZ4 Z4
        exact ⟨false, h, (), trivial, tleF ((And.intro hg6 <| hg8))⟩
    · (try simp only [hg6, undef, Bool.not_true, Bool.not_false, xm, Nat.reduceAdd, Nat.reduceLeDiff, seval, reduceCtorEq])
      refine hZ4 _ ?_; clear hZ4 Z4
      exact ⟨false, h, (), trivial, tleF hg6⟩
  · rintro v1 h _ _
    refine AWp.ret ?_
    obtain rfl := Option.some.inj h
    exact rtn [.tmp 4]
def b57_1 (F : F127_1_) (x0 : (List XExpr)) (x1 : (List XExpr)) : Option (Bool) := (way (((((x0.length : Nat) : Int)) != (((x1.length : Nat) : Int)))) (some false) (loopC (fun (u6 : Int → Option (Bool)) (q5 : Int) => (way ((decide (q5 < (((x0.length : Nat) : Int))))) (need (0 ≤ q5 ∧ q5 < ((x0.length : Nat) : Int)) (need (0 ≤ q5 ∧ q5 < ((x1.length : Nat) : Int)) (call (F.p26 ((x0.getD q5.toNat XExpr.z)) ((x1.getD q5.toNat XExpr.z))) fun y14 => (way ((!y14)) (some false) (u6 (IntKind.i64.wrap (q5 + 1))))))) (some true))) manyC 0))
theorem d57_1 (F : F127_1_) (H : F.Ok) (x0 : (List XExpr)) (x1 : (List XExpr)) (r : Bool) (h : b57_1 F x0 x1 = some r) : Gives Tryz.prog 57 [.slice 10 (List.map XExpr.v x0), .slice 10 (List.map XExpr.v x1), .func 26 [] []] (vbool r) := by
  intro s
  unfold b57_1 at h
  refine acalls_of (fn := Tryz.f57) Tryz.func57 rfl (by decide) (by show 3 ≤ 32; decide) ?_
  rw [Tryz.ntmps57]
  refine rg ?_
  refine AWp.seq_k fun K1 hK1 => ?_
  refine rg ?_
  refine ws h (fun hc2 h => ?_) fun hc2 h => ?_
  · refine rg ?_
    refine AWp.ret ?_
    obtain rfl := Option.some.inj h
    exact rtn [.tmp 6]
  · refine AWp.skip ?_
    refine hK1 _ ?_; clear hK1
    refine AWp.seq_k fun K3 hK3 => ?_
    refine rg ?_
    refine AWp.block ?_
    refine AWp.loopS (X := Int) (G := Unit) h (fun _ => True) (fun q5 _ => tst [(1, .slice 10 (List.map XExpr.v x1)), (2, .func 26 [] []), (15, .slice 10 (List.map XExpr.v x0)), (16, vint (((x0.length : Nat) : Int))), (17, vint q5)] [] s 32) ?_ ?_
    · exact ⟨(), trivial, tle⟩
    · rintro u6 v4 h _ _
      refine rg ?_
      refine AWp.seq_k fun K7 hK7 => ?_
      refine ws h (fun hc8 h => ?_) fun hc8 h => ?_
      · refine AWp.skip ?_
        refine hK7 _ ?_; clear hK7
        refine AWp.seq_k fun K9 hK9 => ?_
        refine AWp.block ?_
        obtain ⟨hn11, h⟩ := need_some h
        refine rgF ((And.intro ((isT hn11.1)) <| And.intro ((isT hn11.2)) <| (getD_enc XExpr.v XExpr.z hn11))) ?_
        obtain ⟨hn13, h⟩ := need_some h
        refine rgF ((And.intro ((isT hn13.1)) <| And.intro ((isT hn13.2)) <| (getD_enc XExpr.v XExpr.z hn13))) ?_
        obtain ⟨y14, hy14, h⟩ := call_some h
        refine rgC (H.p26 ((x0.getD v4.toNat XExpr.z)) ((x1.getD v4.toNat XExpr.z)) _ hy14) ?_
        refine ws h (fun hc15 h => ?_) fun hc15 h => ?_
        · refine rg ?_
          refine AWp.ret ?_
          obtain rfl := Option.some.inj h
          exact rtn [.tmp 6]
        · refine AWp.skip ?_
          refine hK9 _ ?_; clear hK9
          refine r1 ?_
          exact ⟨(IntKind.i64.wrap (v4 + 1)), h, (), trivial, tle⟩
      · refine AWp.exit ?_
        simp only [thenQ, blockQ, ↓reduceIte, Nat.reduceEqDiff, Nat.one_ne_zero, Nat.zero_ne_one, Nat.succ_ne_zero, reduceCtorEq]
        refine hK3 _ ?_; clear hK3
        refine rg ?_
        refine AWp.ret ?_
        obtain rfl := Option.some.inj h
        exact rtn [.tmp 6]
def b58_1 (F : F127_1_) (x0 : (List XSelect)) (x1 : (List XSelect)) : Option (Bool) := (way (((((x0.length : Nat) : Int)) != (((x1.length : Nat) : Int)))) (some false) (loopC (fun (u6 : Int → Option (Bool)) (q5 : Int) => (way ((decide (q5 < (((x0.length : Nat) : Int))))) (need (0 ≤ q5 ∧ q5 < ((x0.length : Nat) : Int)) (need (0 ≤ q5 ∧ q5 < ((x1.length : Nat) : Int)) (call (F.p31 ((x0.getD q5.toNat XSelect.z)) ((x1.getD q5.toNat XSelect.z))) fun y14 => (way ((!y14)) (some false) (u6 (IntKind.i64.wrap (q5 + 1))))))) (some true))) manyC 0))
theorem d58_1 (F : F127_1_) (H : F.Ok) (x0 : (List XSelect)) (x1 : (List XSelect)) (r : Bool) (h : b58_1 F x0 x1 = some r) : Gives Tryz.prog 58 [.slice 5 (List.map XSelect.v x0), .slice 5 (List.map XSelect.v x1), .func 31 [] []] (vbool r) := by
  intro s
  unfold b58_1 at h
  refine acalls_of (fn := Tryz.f58) Tryz.func58 rfl (by decide) (by show 3 ≤ 32; decide) ?_
  rw [Tryz.ntmps58]
  refine rg ?_
  refine AWp.seq_k fun K1 hK1 => ?_
  refine rg ?_
  refine ws h (fun hc2 h => ?_) fun hc2 h => ?_
  · refine rg ?_
    refine AWp.ret ?_
    obtain rfl := Option.some.inj h
    exact rtn [.tmp 6]
  · refine AWp.skip ?_
    refine hK1 _ ?_; clear hK1
    refine AWp.seq_k fun K3 hK3 => ?_
    refine rg ?_
    refine AWp.block ?_
    refine AWp.loopS (X := Int) (G := Unit) h (fun _ => True) (fun q5 _ => tst [(1, .slice 5 (List.map XSelect.v x1)), (2, .func 31 [] []), (15, .slice 5 (List.map XSelect.v x0)), (16, vint (((x0.length : Nat) : Int))), (17, vint q5)] [] s 32) ?_ ?_
    · exact ⟨(), trivial, tle⟩
    · rintro u6 v4 h _ _
      refine rg ?_
      refine AWp.seq_k fun K7 hK7 => ?_
      refine ws h (fun hc8 h => ?_) fun hc8 h => ?_
      · refine AWp.skip ?_
        refine hK7 _ ?_; clear hK7
        refine AWp.seq_k fun K9 hK9 => ?_
        refine AWp.block ?_
        obtain ⟨hn11, h⟩ := need_some h
        refine rgF ((And.intro ((isT hn11.1)) <| And.intro ((isT hn11.2)) <| (getD_enc XSelect.v XSelect.z hn11))) ?_
        obtain ⟨hn13, h⟩ := need_some h
        refine rgF ((And.intro ((isT hn13.1)) <| And.intro ((isT hn13.2)) <| (getD_enc XSelect.v XSelect.z hn13))) ?_
        obtain ⟨y14, hy14, h⟩ := call_some h
        refine rgC (H.p31 ((x0.getD v4.toNat XSelect.z)) ((x1.getD v4.toNat XSelect.z)) _ hy14) ?_
        refine ws h (fun hc15 h => ?_) fun hc15 h => ?_
        · refine rg ?_
          refine AWp.ret ?_
          obtain rfl := Option.some.inj h
          exact rtn [.tmp 6]
        · refine AWp.skip ?_
          refine hK9 _ ?_; clear hK9
          refine r1 ?_
          exact ⟨(IntKind.i64.wrap (v4 + 1)), h, (), trivial, tle⟩
      · refine AWp.exit ?_
        simp only [thenQ, blockQ, ↓reduceIte, Nat.reduceEqDiff, Nat.one_ne_zero, Nat.zero_ne_one, Nat.succ_ne_zero, reduceCtorEq]
        refine hK3 _ ?_; clear hK3
        refine rg ?_
        refine AWp.ret ?_
        obtain rfl := Option.some.inj h
        exact rtn [.tmp 6]
def b61_1 (F : F127_1_) (x0 : (List XCte)) (x1 : (List XCte)) : Option (Bool) := (way (((((x0.length : Nat) : Int)) != (((x1.length : Nat) : Int)))) (some false) (loopC (fun (u6 : Int → Option (Bool)) (q5 : Int) => (way ((decide (q5 < (((x0.length : Nat) : Int))))) (need (0 ≤ q5 ∧ q5 < ((x0.length : Nat) : Int)) (need (0 ≤ q5 ∧ q5 < ((x1.length : Nat) : Int)) (call (F.p62 ((x0.getD q5.toNat XCte.z)) ((x1.getD q5.toNat XCte.z))) fun y14 => (way ((!y14)) (some false) (u6 (IntKind.i64.wrap (q5 + 1))))))) (some true))) manyC 0))
theorem d61_1 (F : F127_1_) (H : F.Ok) (x0 : (List XCte)) (x1 : (List XCte)) (r : Bool) (h : b61_1 F x0 x1 = some r) : Gives Tryz.prog 61 [.slice 3 (List.map XCte.v x0), .slice 3 (List.map XCte.v x1), .func 62 [] []] (vbool r) := by
  intro s
  unfold b61_1 at h
  refine acalls_of (fn := Tryz.f61) Tryz.func61 rfl (by decide) (by show 3 ≤ 32; decide) ?_
  rw [Tryz.ntmps61]
  refine rg ?_
  refine AWp.seq_k fun K1 hK1 => ?_
  refine rg ?_
  refine ws h (fun hc2 h => ?_) fun hc2 h => ?_
  · refine rg ?_
    refine AWp.ret ?_
    obtain rfl := Option.some.inj h
    exact rtn [.tmp 6]
  · refine AWp.skip ?_
    refine hK1 _ ?_; clear hK1
    refine AWp.seq_k fun K3 hK3 => ?_
    refine rg ?_
    refine AWp.block ?_
    refine AWp.loopS (X := Int) (G := Unit) h (fun _ => True) (fun q5 _ => tst [(1, .slice 3 (List.map XCte.v x1)), (2, .func 62 [] []), (15, .slice 3 (List.map XCte.v x0)), (16, vint (((x0.length : Nat) : Int))), (17, vint q5)] [] s 32) ?_ ?_
    · exact ⟨(), trivial, tle⟩
    · rintro u6 v4 h _ _
      refine rg ?_
      refine AWp.seq_k fun K7 hK7 => ?_
      refine ws h (fun hc8 h => ?_) fun hc8 h => ?_
      · refine AWp.skip ?_
        refine hK7 _ ?_; clear hK7
        refine AWp.seq_k fun K9 hK9 => ?_
        refine AWp.block ?_
        obtain ⟨hn11, h⟩ := need_some h
        refine rgF ((And.intro ((isT hn11.1)) <| And.intro ((isT hn11.2)) <| (getD_enc XCte.v XCte.z hn11))) ?_
        obtain ⟨hn13, h⟩ := need_some h
        refine rgF ((And.intro ((isT hn13.1)) <| And.intro ((isT hn13.2)) <| (getD_enc XCte.v XCte.z hn13))) ?_
        obtain ⟨y14, hy14, h⟩ := call_some h
        refine rgC (H.p62 ((x0.getD v4.toNat XCte.z)) ((x1.getD v4.toNat XCte.z)) _ hy14) ?_
        refine ws h (fun hc15 h => ?_) fun hc15 h => ?_
        · refine rg ?_
          refine AWp.ret ?_
          obtain rfl := Option.some.inj h
          exact rtn [.tmp 6]
        · refine AWp.skip ?_
          refine hK9 _ ?_; clear hK9
          refine r1 ?_
          exact ⟨(IntKind.i64.wrap (v4 + 1)), h, (), trivial, tle⟩
      · refine AWp.exit ?_
        simp only [thenQ, blockQ, ↓reduceIte, Nat.reduceEqDiff, Nat.one_ne_zero, Nat.zero_ne_one, Nat.succ_ne_zero, reduceCtorEq]
        refine hK3 _ ?_; clear hK3
        refine rg ?_
        refine AWp.ret ?_
        obtain rfl := Option.some.inj h
        exact rtn [.tmp 6]
def b62 (F : F127_1_) (x0 : XCte) (x1 : XCte) : Option (Bool) := (join (fun (u3 : Bool → Option (Bool)) => (way ((x0.name.data.toList == x1.name.data.toList)) (call (s63 x0.cols x1.cols) fun y6 => (way y6 (call (F.p58_1 x0.body x1.body) fun y8 => (u3 y8)) (u3 false))) (u3 false))) (fun (q2 : Bool) => (some q2)))
theorem d62 (F : F127_1_) (H : F.Ok) (x0 : XCte) (x1 : XCte) (r : Bool) (h : b62 F x0 x1 = some r) : Gives Tryz.prog 62 [.agg x0.v, .agg x1.v] (vbool r) := by
  intro s
  unfold b62 at h
  refine acalls_of (fn := Tryz.f62) Tryz.func62 rfl (by decide) (by show 2 ≤ 24; decide) ?_
  rw [Tryz.ntmps62]
  refine rg ?_
  refine AWp.joinS (X := Bool) (G := Unit) h (fun _ => True) (fun q2 _ => tst [(4, vbool q2)] [] s 24) (fun u3 h => ?_) ?_
  · refine AWp.reg1 fun Z4 hZ4 => ?_
    (try simp only [undef, Bool.not_true, Bool.not_false, xm, Nat.reduceAdd, Nat.reduceLeDiff, seval, reduceCtorEq])
    refine gTS h (by rfl) (fun hg5 h => ?_) (fun hg5 h => ?_)
    · (try simp only [hg5, undef, Bool.not_true, Bool.not_false, xm, Nat.reduceAdd, Nat.reduceLeDiff, seval, reduceCtorEq])
      obtain ⟨y6, hy6, h⟩ := call_some h
      refine (c63 x0.cols x1.cols _ hy6 _).go ?_
      (try simp only [hg5, undef, Bool.not_true, Bool.not_false, xm, Nat.reduceAdd, Nat.reduceLeDiff, seval, reduceCtorEq])
      refine gTS h (by rfl) (fun hg7 h => ?_) (fun hg7 h => ?_)
      · (try simp only [hg5, hg7, undef, Bool.not_true, Bool.not_false, xm, Nat.reduceAdd, Nat.reduceLeDiff, seval, reduceCtorEq])
        obtain ⟨y8, hy8, h⟩ := call_some h
        refine (H.p58_1 x0.body x1.body _ hy8 _).go ?_
        (try simp only [hg5, hg7, undef, Bool.not_true, Bool.not_false, xm, Nat.reduceAdd, Nat.reduceLeDiff, seval, reduceCtorEq])
        refine hZ4 _ ?_; clear hZ4 Z4
        exact ⟨y8, h, (), trivial, tleF ((And.intro hg5 <| hg7))⟩
      · (try simp only [hg5, hg7, undef, Bool.not_true, Bool.not_false, xm, Nat.reduceAdd, Nat.reduceLeDiff, seval, reduceCtorEq])
        refine hZ4 _ ?_; clear hZ4 Z4
        exact ⟨false, h, (), trivial, tleF ((And.intro hg5 <| hg7))⟩
    · (try simp only [hg5, undef, Bool.not_true, Bool.not_false, xm, Nat.reduceAdd, Nat.reduceLeDiff, seval, reduceCtorEq])
      refine hZ4 _ ?_; clear hZ4 Z4
      exact ⟨false, h, (), trivial, tleF hg5⟩
  · rintro v1 h _ _
    refine AWp.ret ?_
    obtain rfl := Option.some.inj h
    exact rtn [.tmp 4]
def b64_1 (F : F127_1_) (x0 : (List XPart)) (x1 : (List XPart)) : Option (Bool) := (way (((((x0.length : Nat) : Int)) != (((x1.length : Nat) : Int)))) (some false) (loopC (fun (u6 : Int → Option (Bool)) (q5 : Int) => (way ((decide (q5 < (((x0.length : Nat) : Int))))) (need (0 ≤ q5 ∧ q5 < ((x0.length : Nat) : Int)) (need (0 ≤ q5 ∧ q5 < ((x1.length : Nat) : Int)) (call (F.p65 ((x0.getD q5.toNat XPart.z)) ((x1.getD q5.toNat XPart.z))) fun y14 => (way ((!y14)) (some false) (u6 (IntKind.i64.wrap (q5 + 1))))))) (some true))) manyC 0))
theorem d64_1 (F : F127_1_) (H : F.Ok) (x0 : (List XPart)) (x1 : (List XPart)) (r : Bool) (h : b64_1 F x0 x1 = some r) : Gives Tryz.prog 64 [.slice 8 (List.map XPart.v x0), .slice 8 (List.map XPart.v x1), .func 65 [] []] (vbool r) := by
  intro s
  unfold b64_1 at h
  refine acalls_of (fn := Tryz.f64) Tryz.func64 rfl (by decide) (by show 3 ≤ 32; decide) ?_
  rw [Tryz.ntmps64]
  refine rg ?_
  refine AWp.seq_k fun K1 hK1 => ?_
  refine rg ?_
  refine ws h (fun hc2 h => ?_) fun hc2 h => ?_
  · refine rg ?_
    refine AWp.ret ?_
    obtain rfl := Option.some.inj h
    exact rtn [.tmp 6]
  · refine AWp.skip ?_
    refine hK1 _ ?_; clear hK1
    refine AWp.seq_k fun K3 hK3 => ?_
    refine rg ?_
    refine AWp.block ?_
    refine AWp.loopS (X := Int) (G := Unit) h (fun _ => True) (fun q5 _ => tst [(1, .slice 8 (List.map XPart.v x1)), (2, .func 65 [] []), (15, .slice 8 (List.map XPart.v x0)), (16, vint (((x0.length : Nat) : Int))), (17, vint q5)] [] s 32) ?_ ?_
    · exact ⟨(), trivial, tle⟩
    · rintro u6 v4 h _ _
      refine rg ?_
      refine AWp.seq_k fun K7 hK7 => ?_
      refine ws h (fun hc8 h => ?_) fun hc8 h => ?_
      · refine AWp.skip ?_
        refine hK7 _ ?_; clear hK7
        refine AWp.seq_k fun K9 hK9 => ?_
        refine AWp.block ?_
        obtain ⟨hn11, h⟩ := need_some h
        refine rgF ((And.intro ((isT hn11.1)) <| And.intro ((isT hn11.2)) <| (getD_enc XPart.v XPart.z hn11))) ?_
        obtain ⟨hn13, h⟩ := need_some h
        refine rgF ((And.intro ((isT hn13.1)) <| And.intro ((isT hn13.2)) <| (getD_enc XPart.v XPart.z hn13))) ?_
        obtain ⟨y14, hy14, h⟩ := call_some h
        refine rgC (H.p65 ((x0.getD v4.toNat XPart.z)) ((x1.getD v4.toNat XPart.z)) _ hy14) ?_
        refine ws h (fun hc15 h => ?_) fun hc15 h => ?_
        · refine rg ?_
          refine AWp.ret ?_
          obtain rfl := Option.some.inj h
          exact rtn [.tmp 6]
        · refine AWp.skip ?_
          refine hK9 _ ?_; clear hK9
          refine r1 ?_
          exact ⟨(IntKind.i64.wrap (v4 + 1)), h, (), trivial, tle⟩
      · refine AWp.exit ?_
        simp only [thenQ, blockQ, ↓reduceIte, Nat.reduceEqDiff, Nat.one_ne_zero, Nat.zero_ne_one, Nat.succ_ne_zero, reduceCtorEq]
        refine hK3 _ ?_; clear hK3
        refine rg ?_
        refine AWp.ret ?_
        obtain rfl := Option.some.inj h
        exact rtn [.tmp 6]
def b65 (F : F127_1_) (x0 : XPart) (x1 : XPart) : Option (Bool) := (join (fun (u3 : Bool → Option (Bool)) => (way ((x0.comp == x1.comp)) (way ((x0.distinct == x1.distinct)) (call (F.p127_1 x0.items x1.items) fun y7 => (way y7 (call (F.p129_1 x0.from_ x1.from_) fun y9 => (way y9 (call (F.p57_1 x0.where_ x1.where_) fun y11 => (way y11 (call (F.p57_1 x0.group x1.group) fun y13 => (way y13 (call (F.p57_1 x0.having x1.having) fun y15 => (way y15 (call (F.p131_1 x0.values x1.values) fun y17 => (u3 y17)) (u3 false))) (u3 false))) (u3 false))) (u3 false))) (u3 false))) (u3 false)) (u3 false))) (fun (q2 : Bool) => (some q2)))
theorem d65 (F : F127_1_) (H : F.Ok) (x0 : XPart) (x1 : XPart) (r : Bool) (h : b65 F x0 x1 = some r) : Gives Tryz.prog 65 [.agg x0.v, .agg x1.v] (vbool r) := by
  intro s
  unfold b65 at h
  refine acalls_of (fn := Tryz.f65) Tryz.func65 rfl (by decide) (by show 2 ≤ 59; decide) ?_
  rw [Tryz.ntmps65]
  refine rg ?_
  refine AWp.joinS (X := Bool) (G := Unit) h (fun _ => True) (fun q2 _ => tst [(4, vbool q2)] [] s 59) (fun u3 h => ?_) ?_
  · refine AWp.reg1 fun Z4 hZ4 => ?_
    (try simp only [undef, Bool.not_true, Bool.not_false, xm, Nat.reduceAdd, Nat.reduceLeDiff, seval, reduceCtorEq])
    refine gTS h (by rfl) (fun hg5 h => ?_) (fun hg5 h => ?_)
    · (try simp only [hg5, undef, Bool.not_true, Bool.not_false, xm, Nat.reduceAdd, Nat.reduceLeDiff, seval, reduceCtorEq])
      refine gTS h (by rfl) (fun hg6 h => ?_) (fun hg6 h => ?_)
      · (try simp only [hg5, hg6, undef, Bool.not_true, Bool.not_false, xm, Nat.reduceAdd, Nat.reduceLeDiff, seval, reduceCtorEq])
        obtain ⟨y7, hy7, h⟩ := call_some h
        refine (H.p127_1 x0.items x1.items _ hy7 _).go ?_
        (try simp only [hg5, hg6, undef, Bool.not_true, Bool.not_false, xm, Nat.reduceAdd, Nat.reduceLeDiff, seval, reduceCtorEq])
        refine gTS h (by rfl) (fun hg8 h => ?_) (fun hg8 h => ?_)
        · (try simp only [hg5, hg6, hg8, undef, Bool.not_true, Bool.not_false, xm, Nat.reduceAdd, Nat.reduceLeDiff, seval, reduceCtorEq])
          obtain ⟨y9, hy9, h⟩ := call_some h
          refine (H.p129_1 x0.from_ x1.from_ _ hy9 _).go ?_
          (try simp only [hg5, hg6, hg8, undef, Bool.not_true, Bool.not_false, xm, Nat.reduceAdd, Nat.reduceLeDiff, seval, reduceCtorEq])
          refine gTS h (by rfl) (fun hg10 h => ?_) (fun hg10 h => ?_)
          · (try simp only [hg5, hg6, hg8, hg10, undef, Bool.not_true, Bool.not_false, xm, Nat.reduceAdd, Nat.reduceLeDiff, seval, reduceCtorEq])
            obtain ⟨y11, hy11, h⟩ := call_some h
            refine (H.p57_1 x0.where_ x1.where_ _ hy11 _).go ?_
            (try simp only [hg5, hg6, hg8, hg10, undef, Bool.not_true, Bool.not_false, xm, Nat.reduceAdd, Nat.reduceLeDiff, seval, reduceCtorEq])
            refine gTS h (by rfl) (fun hg12 h => ?_) (fun hg12 h => ?_)
            · (try simp only [hg5, hg6, hg8, hg10, hg12, undef, Bool.not_true, Bool.not_false, xm, Nat.reduceAdd, Nat.reduceLeDiff, seval, reduceCtorEq])
              obtain ⟨y13, hy13, h⟩ := call_some h
              refine (H.p57_1 x0.group x1.group _ hy13 _).go ?_
              (try simp only [hg5, hg6, hg8, hg10, hg12, undef, Bool.not_true, Bool.not_false, xm, Nat.reduceAdd, Nat.reduceLeDiff, seval, reduceCtorEq])
              refine gTS h (by rfl) (fun hg14 h => ?_) (fun hg14 h => ?_)
              · (try simp only [hg5, hg6, hg8, hg10, hg12, hg14, undef, Bool.not_true, Bool.not_false, xm, Nat.reduceAdd, Nat.reduceLeDiff, seval, reduceCtorEq])
                obtain ⟨y15, hy15, h⟩ := call_some h
                refine (H.p57_1 x0.having x1.having _ hy15 _).go ?_
                (try simp only [hg5, hg6, hg8, hg10, hg12, hg14, undef, Bool.not_true, Bool.not_false, xm, Nat.reduceAdd, Nat.reduceLeDiff, seval, reduceCtorEq])
                refine gTS h (by rfl) (fun hg16 h => ?_) (fun hg16 h => ?_)
                · (try simp only [hg5, hg6, hg8, hg10, hg12, hg14, hg16, undef, Bool.not_true, Bool.not_false, xm, Nat.reduceAdd, Nat.reduceLeDiff, seval, reduceCtorEq])
                  obtain ⟨y17, hy17, h⟩ := call_some h
                  refine (H.p131_1 x0.values x1.values _ hy17 _).go ?_
                  (try simp only [hg5, hg6, hg8, hg10, hg12, hg14, hg16, undef, Bool.not_true, Bool.not_false, xm, Nat.reduceAdd, Nat.reduceLeDiff, seval, reduceCtorEq])
                  refine hZ4 _ ?_; clear hZ4 Z4
                  exact ⟨y17, h, (), trivial, tleF ((And.intro hg5 <| And.intro hg6 <| And.intro hg8 <| And.intro hg10 <| And.intro hg12 <| And.intro hg14 <| hg16))⟩
                · (try simp only [hg5, hg6, hg8, hg10, hg12, hg14, hg16, undef, Bool.not_true, Bool.not_false, xm, Nat.reduceAdd, Nat.reduceLeDiff, seval, reduceCtorEq])
                  refine hZ4 _ ?_; clear hZ4 Z4
                  exact ⟨false, h, (), trivial, tleF ((And.intro hg5 <| And.intro hg6 <| And.intro hg8 <| And.intro hg10 <| And.intro hg12 <| And.intro hg14 <| hg16))⟩
              · (try simp only [hg5, hg6, hg8, hg10, hg12, hg14, undef, Bool.not_true, Bool.not_false, xm, Nat.reduceAdd, Nat.reduceLeDiff, seval, reduceCtorEq])
                refine hZ4 _ ?_; clear hZ4 Z4
                exact ⟨false, h, (), trivial, tleF ((And.intro hg5 <| And.intro hg6 <| And.intro hg8 <| And.intro hg10 <| And.intro hg12 <| hg14))⟩
            · (try simp only [hg5, hg6, hg8, hg10, hg12, undef, Bool.not_true, Bool.not_false, xm, Nat.reduceAdd, Nat.reduceLeDiff, seval, reduceCtorEq])
              refine hZ4 _ ?_; clear hZ4 Z4
              exact ⟨false, h, (), trivial, tleF ((And.intro hg5 <| And.intro hg6 <| And.intro hg8 <| And.intro hg10 <| hg12))⟩
          · (try simp only [hg5, hg6, hg8, hg10, undef, Bool.not_true, Bool.not_false, xm, Nat.reduceAdd, Nat.reduceLeDiff, seval, reduceCtorEq])
            refine hZ4 _ ?_; clear hZ4 Z4
            exact ⟨false, h, (), trivial, tleF ((And.intro hg5 <| And.intro hg6 <| And.intro hg8 <| hg10))⟩
        · (try simp only [hg5, hg6, hg8, undef, Bool.not_true, Bool.not_false, xm, Nat.reduceAdd, Nat.reduceLeDiff, seval, reduceCtorEq])
          refine hZ4 _ ?_; clear hZ4 Z4
          exact ⟨false, h, (), trivial, tleF ((And.intro hg5 <| And.intro hg6 <| hg8))⟩
      · (try simp only [hg5, hg6, undef, Bool.not_true, Bool.not_false, xm, Nat.reduceAdd, Nat.reduceLeDiff, seval, reduceCtorEq])
        refine hZ4 _ ?_; clear hZ4 Z4
        exact ⟨false, h, (), trivial, tleF ((And.intro hg5 <| hg6))⟩
    · (try simp only [hg5, undef, Bool.not_true, Bool.not_false, xm, Nat.reduceAdd, Nat.reduceLeDiff, seval, reduceCtorEq])
      refine hZ4 _ ?_; clear hZ4 Z4
      exact ⟨false, h, (), trivial, tleF hg5⟩
  · rintro v1 h _ _
    refine AWp.ret ?_
    obtain rfl := Option.some.inj h
    exact rtn [.tmp 4]
def b66_1 (F : F127_1_) (x0 : (List XSort)) (x1 : (List XSort)) : Option (Bool) := (way (((((x0.length : Nat) : Int)) != (((x1.length : Nat) : Int)))) (some false) (loopC (fun (u6 : Int → Option (Bool)) (q5 : Int) => (way ((decide (q5 < (((x0.length : Nat) : Int))))) (need (0 ≤ q5 ∧ q5 < ((x0.length : Nat) : Int)) (need (0 ≤ q5 ∧ q5 < ((x1.length : Nat) : Int)) (call (F.p67 ((x0.getD q5.toNat XSort.z)) ((x1.getD q5.toNat XSort.z))) fun y14 => (way ((!y14)) (some false) (u6 (IntKind.i64.wrap (q5 + 1))))))) (some true))) manyC 0))
theorem d66_1 (F : F127_1_) (H : F.Ok) (x0 : (List XSort)) (x1 : (List XSort)) (r : Bool) (h : b66_1 F x0 x1 = some r) : Gives Tryz.prog 66 [.slice 11 (List.map XSort.v x0), .slice 11 (List.map XSort.v x1), .func 67 [] []] (vbool r) := by
  intro s
  unfold b66_1 at h
  refine acalls_of (fn := Tryz.f66) Tryz.func66 rfl (by decide) (by show 3 ≤ 32; decide) ?_
  rw [Tryz.ntmps66]
  refine rg ?_
  refine AWp.seq_k fun K1 hK1 => ?_
  refine rg ?_
  refine ws h (fun hc2 h => ?_) fun hc2 h => ?_
  · refine rg ?_
    refine AWp.ret ?_
    obtain rfl := Option.some.inj h
    exact rtn [.tmp 6]
  · refine AWp.skip ?_
    refine hK1 _ ?_; clear hK1
    refine AWp.seq_k fun K3 hK3 => ?_
    refine rg ?_
    refine AWp.block ?_
    refine AWp.loopS (X := Int) (G := Unit) h (fun _ => True) (fun q5 _ => tst [(1, .slice 11 (List.map XSort.v x1)), (2, .func 67 [] []), (15, .slice 11 (List.map XSort.v x0)), (16, vint (((x0.length : Nat) : Int))), (17, vint q5)] [] s 32) ?_ ?_
    · exact ⟨(), trivial, tle⟩
    · rintro u6 v4 h _ _
      refine rg ?_
      refine AWp.seq_k fun K7 hK7 => ?_
      refine ws h (fun hc8 h => ?_) fun hc8 h => ?_
      · refine AWp.skip ?_
        refine hK7 _ ?_; clear hK7
        refine AWp.seq_k fun K9 hK9 => ?_
        refine AWp.block ?_
        obtain ⟨hn11, h⟩ := need_some h
        refine rgF ((And.intro ((isT hn11.1)) <| And.intro ((isT hn11.2)) <| (getD_enc XSort.v XSort.z hn11))) ?_
        obtain ⟨hn13, h⟩ := need_some h
        refine rgF ((And.intro ((isT hn13.1)) <| And.intro ((isT hn13.2)) <| (getD_enc XSort.v XSort.z hn13))) ?_
        obtain ⟨y14, hy14, h⟩ := call_some h
        refine rgC (H.p67 ((x0.getD v4.toNat XSort.z)) ((x1.getD v4.toNat XSort.z)) _ hy14) ?_
        refine ws h (fun hc15 h => ?_) fun hc15 h => ?_
        · refine rg ?_
          refine AWp.ret ?_
          obtain rfl := Option.some.inj h
          exact rtn [.tmp 6]
        · refine AWp.skip ?_
          refine hK9 _ ?_; clear hK9
          refine r1 ?_
          exact ⟨(IntKind.i64.wrap (v4 + 1)), h, (), trivial, tle⟩
      · refine AWp.exit ?_
        simp only [thenQ, blockQ, ↓reduceIte, Nat.reduceEqDiff, Nat.one_ne_zero, Nat.zero_ne_one, Nat.succ_ne_zero, reduceCtorEq]
        refine hK3 _ ?_; clear hK3
        refine rg ?_
        refine AWp.ret ?_
        obtain rfl := Option.some.inj h
        exact rtn [.tmp 6]
def b67 (F : F127_1_) (x0 : XSort) (x1 : XSort) : Option (Bool) := (join (fun (u3 : Bool → Option (Bool)) => (way ((x0.desc_ == x1.desc_)) (call (F.p26 x0.expr x1.expr) fun y6 => (u3 y6)) (u3 false))) (fun (q2 : Bool) => (some q2)))
theorem d67 (F : F127_1_) (H : F.Ok) (x0 : XSort) (x1 : XSort) (r : Bool) (h : b67 F x0 x1 = some r) : Gives Tryz.prog 67 [.agg x0.v, .agg x1.v] (vbool r) := by
  intro s
  unfold b67 at h
  refine acalls_of (fn := Tryz.f67) Tryz.func67 rfl (by decide) (by show 2 ≤ 17; decide) ?_
  rw [Tryz.ntmps67]
  refine rg ?_
  refine AWp.joinS (X := Bool) (G := Unit) h (fun _ => True) (fun q2 _ => tst [(4, vbool q2)] [] s 17) (fun u3 h => ?_) ?_
  · refine AWp.reg1 fun Z4 hZ4 => ?_
    (try simp only [undef, Bool.not_true, Bool.not_false, xm, Nat.reduceAdd, Nat.reduceLeDiff, seval, reduceCtorEq])
    refine gTS h (by rfl) (fun hg5 h => ?_) (fun hg5 h => ?_)
    · (try simp only [hg5, undef, Bool.not_true, Bool.not_false, xm, Nat.reduceAdd, Nat.reduceLeDiff, seval, reduceCtorEq])
      obtain ⟨y6, hy6, h⟩ := call_some h
      refine (H.p26 x0.expr x1.expr _ hy6 _).go ?_
      (try simp only [hg5, undef, Bool.not_true, Bool.not_false, xm, Nat.reduceAdd, Nat.reduceLeDiff, seval, reduceCtorEq])
      refine hZ4 _ ?_; clear hZ4 Z4
      exact ⟨y6, h, (), trivial, tleF hg5⟩
    · (try simp only [hg5, undef, Bool.not_true, Bool.not_false, xm, Nat.reduceAdd, Nat.reduceLeDiff, seval, reduceCtorEq])
      refine hZ4 _ ?_; clear hZ4 Z4
      exact ⟨false, h, (), trivial, tleF hg5⟩
  · rintro v1 h _ _
    refine AWp.ret ?_
    obtain rfl := Option.some.inj h
    exact rtn [.tmp 4]
def F127_1_.fix : Nat → F127_1_
  | 0 => ⟨fun _ _ => none, fun _ _ => none, fun _ _ => none, fun _ _ => none, fun _ _ => none, fun _ _ => none, fun _ _ => none, fun _ _ => none, fun _ _ => none, fun _ _ => none, fun _ _ => none, fun _ _ => none, fun _ _ => none, fun _ _ => none, fun _ _ => none, fun _ _ => none⟩
  | n + 1 => ⟨b127_1 (F127_1_.fix n), b128 (F127_1_.fix n), b129_1 (F127_1_.fix n), b130 (F127_1_.fix n), b131_1 (F127_1_.fix n), b132 (F127_1_.fix n), b26 (F127_1_.fix n), b31 (F127_1_.fix n), b57_1 (F127_1_.fix n), b58_1 (F127_1_.fix n), b61_1 (F127_1_.fix n), b62 (F127_1_.fix n), b64_1 (F127_1_.fix n), b65 (F127_1_.fix n), b66_1 (F127_1_.fix n), b67 (F127_1_.fix n)⟩
theorem F127_1_.ok : ∀ n, F127_1_.Ok (F127_1_.fix n)
  | 0 => ⟨(fun _ _ _ h => by cases h), (fun _ _ _ h => by cases h), (fun _ _ _ h => by cases h), (fun _ _ _ h => by cases h), (fun _ _ _ h => by cases h), (fun _ _ _ h => by cases h), (fun _ _ _ h => by cases h), (fun _ _ _ h => by cases h), (fun _ _ _ h => by cases h), (fun _ _ _ h => by cases h), (fun _ _ _ h => by cases h), (fun _ _ _ h => by cases h), (fun _ _ _ h => by cases h), (fun _ _ _ h => by cases h), (fun _ _ _ h => by cases h), (fun _ _ _ h => by cases h)⟩
  | n + 1 => ⟨d127_1 _ (F127_1_.ok n), d128 _ (F127_1_.ok n), d129_1 _ (F127_1_.ok n), d130 _ (F127_1_.ok n), d131_1 _ (F127_1_.ok n), d132 _ (F127_1_.ok n), d26 _ (F127_1_.ok n), d31 _ (F127_1_.ok n), d57_1 _ (F127_1_.ok n), d58_1 _ (F127_1_.ok n), d61_1 _ (F127_1_.ok n), d62 _ (F127_1_.ok n), d64_1 _ (F127_1_.ok n), d65 _ (F127_1_.ok n), d66_1 _ (F127_1_.ok n), d67 _ (F127_1_.ok n)⟩
def s31 := (F127_1_.fix manyC).p31
theorem c31 : ∀ (x0 : XSelect) (x1 : XSelect) (r : Bool), s31 x0 x1 = some r → Gives Tryz.prog 31 [.agg x0.v, .agg x1.v] (vbool r) := (F127_1_.ok manyC).p31
end Go.Proofs.YtopgndakadileaaGreatDoor.Ex
namespace Go.Proofs.YtopgndakadileaaGreatDoor.Ex
open Go.Am Go.Ex Go.Proofs.YtopgndakadileaaGreatDoor
def s133 (x0 : (List (List XExpr))) : Option ((List XExpr)) := (loopC (fun (u5 : Int × Int → Option ((List XExpr))) (q4 : Int × Int) => (way ((decide (q4.2 < (((x0.length : Nat) : Int))))) (need (0 ≤ q4.2 ∧ q4.2 < ((x0.length : Nat) : Int)) (way ((decide (((IntKind.i64.wrap (q4.1 + (((((x0.getD q4.2.toNat ([]))).length : Nat) : Int))))) < 0))) none (u5 ((IntKind.i64.wrap (q4.1 + (((((x0.getD q4.2.toNat ([]))).length : Nat) : Int)))), (IntKind.i64.wrap (q4.2 + 1)))))) (need (0 ≤ q4.1 ∧ q4.1 * 136 ≤ 140737488355328) (loopC (fun (u21 : (List XExpr) × Int → Option ((List XExpr))) (q20 : (List XExpr) × Int) => (way ((decide (q20.2 < (((x0.length : Nat) : Int))))) (need (0 ≤ q20.2 ∧ q20.2 < ((x0.length : Nat) : Int)) (need ((q20.1.length + ((x0.getD q20.2.toNat ([]))).length) * 136 ≤ 140737488355328) (u21 ((q20.1 ++ ((x0.getD q20.2.toNat ([])))), (IntKind.i64.wrap (q20.2 + 1)))))) (some q20.1))) manyC (([] : List XExpr), 0))))) manyC (0, 0))
theorem c133 (x0 : (List (List XExpr))) (r : (List XExpr)) (h : s133 x0 = some r) : GivesOwn Tryz.prog 133 [.slice 1 (List.map (fun x => [V.slice 10 (List.map XExpr.v x)]) x0)] 29 10 (List.map XExpr.v r) := by
  intro s
  unfold s133 at h
  refine acalls_of (fn := Tryz.f133) Tryz.func133 rfl (by decide) (by show 1 ≤ 36; decide) ?_
  rw [Tryz.ntmps133]
  refine rg ?_
  refine rg ?_
  refine AWp.seq_k fun K1 hK1 => ?_
  refine rg ?_
  refine AWp.block ?_
  refine AWp.loopS (X := Int × Int) (G := Unit) h (fun _ => True) (fun q4 _ => tst [(0, .slice 1 (List.map (fun x => [V.slice 10 (List.map XExpr.v x)]) x0)), (3, vint q4.1), (9, .slice 1 (List.map (fun x => [V.slice 10 (List.map XExpr.v x)]) x0)), (10, vint (((x0.length : Nat) : Int))), (11, vint q4.2)] [] s 36) ?_ ?_
  · exact ⟨(), trivial, tle⟩
  · rintro u5 ⟨v2, v3⟩ h _ _
    (try dsimp only at h ⊢)
    refine rg ?_
    refine AWp.seq_k fun K6 hK6 => ?_
    refine ws h (fun hc7 h => ?_) fun hc7 h => ?_
    · refine AWp.skip ?_
      refine hK6 _ ?_; clear hK6
      refine AWp.seq_k fun K8 hK8 => ?_
      refine AWp.block ?_
      obtain ⟨hn10, h⟩ := need_some h
      refine rgF ((And.intro ((isT hn10.1)) <| And.intro ((isT hn10.2)) <| (getD_enc (fun x => [V.slice 10 (List.map XExpr.v x)]) ([]) hn10))) ?_
      refine rg ?_
      refine rg ?_
      refine ws h (fun hc11 h => ?_) fun hc11 h => ?_
      · cases h
      · refine AWp.skip ?_
        refine hK8 _ ?_; clear hK8
        refine r1 ?_
        exact ⟨((IntKind.i64.wrap (v2 + (((((x0.getD v3.toNat ([]))).length : Nat) : Int)))), (IntKind.i64.wrap (v3 + 1))), h, (), trivial, tle⟩
    · refine AWp.exit ?_
      simp only [thenQ, blockQ, ↓reduceIte, Nat.reduceEqDiff, Nat.one_ne_zero, Nat.zero_ne_one, Nat.succ_ne_zero, reduceCtorEq]
      refine hK1 _ ?_; clear hK1
      refine AWp.reg fun Z12 hZ12 => ?_
      (try simp only [mapAppend, XExpr.snoc, XExpr.snoc', XExpr.eta, List.set_cons_zero, List.set_cons_succ, xa, Nat.reduceAdd, seval, reduceCtorEq])
      obtain ⟨hn13, h⟩ := need_some h
      refine (grow202 v2 hn13 _).goOwn fun g14 hg14 => ?_
      change (s).own g14 = none at hg14
      have fr15 : Fr s (List.map Prod.fst [(g14, (29, 10))]) := Fr.snoc (l := []) (Fr.nil s) hg14
      (try simp only [mapAppend, XExpr.snoc, XExpr.snoc', XExpr.eta, List.set_cons_zero, List.set_cons_succ, xa, Nat.reduceAdd, seval, reduceCtorEq])
      refine hZ12 _ ?_; clear hZ12 Z12
      refine AWp.heapLe (s' := (owns s [(g14, (29, 10))])) (Heap.le.refl _) ?_
      refine AWp.seq_k fun K16 hK16 => ?_
      refine rg ?_
      refine AWp.block ?_
      refine AWp.loopS (X := (List XExpr) × Int) (G := Nat) h (fun gq22 => Fr s (List.map Prod.fst [(gq22, (29, 10))])) (fun q20 gq22 => tst [(6, .own gq22 10 (List.map XExpr.v q20.1)), (25, .slice 1 (List.map (fun x => [V.slice 10 (List.map XExpr.v x)]) x0)), (26, vint (((x0.length : Nat) : Int))), (27, vint q20.2)] [] (owns s [(gq22, (29, 10))]) 36) ?_ ?_
      · exact ⟨g14, fr15, tle⟩
      · rintro u21 ⟨v17, v19⟩ h g18 hg18f
        (try dsimp only at h ⊢)
        refine rg ?_
        refine AWp.seq_k fun K23 hK23 => ?_
        refine ws h (fun hc24 h => ?_) fun hc24 h => ?_
        · refine AWp.skip ?_
          refine hK23 _ ?_; clear hK23
          refine AWp.seq_k fun K25 hK25 => ?_
          refine AWp.block ?_
          obtain ⟨hn27, h⟩ := need_some h
          refine rgF ((And.intro ((isT hn27.1)) <| And.intro ((isT hn27.2)) <| (getD_enc (fun x => [V.slice 10 (List.map XExpr.v x)]) ([]) hn27))) ?_
          refine AWp.reg1 fun Z28 hZ28 => ?_
          obtain ⟨hn29, h⟩ := need_some h
          (try simp only [mapAppend, XExpr.snoc, XExpr.snoc', XExpr.eta, List.set_cons_zero, List.set_cons_succ, xa, Nat.reduceAdd, seval, reduceCtorEq])
          first | refine ⟨owns_at [(g18, (29, 10))] s hg18f.2 (by simp), by (try simp only [List.length_map]); exact hn29, by (try simp only [List.length_map]); exact app_ok hn29 (by decide), fun g30 hg30 => ?_⟩ | refine ⟨owns_at [(g18, (29, 10))] s hg18f.2 (by simp), by unfold maxLen; omega, fun g30 hg30 => ?_⟩ | refine ⟨owns_at [(g18, (29, 10))] s hg18f.2 (by simp), fun g30 hg30 => ?_⟩
          have fr31 : Fr s (List.map Prod.fst [(g30, (29, 10))]) := Fr.rep (a := []) (b := []) hg18f hg30
          (try simp only [mapAppend, XExpr.snoc, XExpr.snoc', XExpr.eta, List.set_cons_zero, List.set_cons_succ, xa, Nat.reduceAdd, seval, reduceCtorEq])
          refine hZ28 _ ?_; clear hZ28 Z28
          refine hK25 _ ?_; clear hK25
          refine AWp.heapLe (s' := (owns s [(g30, (29, 10))])) (Fr.repLe (a := []) (b := []) hg18f hg30) ?_
          refine r1 ?_
          exact ⟨((v17 ++ ((x0.getD v19.toNat ([])))), (IntKind.i64.wrap (v19 + 1))), h, g30, fr31, tle⟩
        · refine AWp.exit ?_
          simp only [thenQ, blockQ, ↓reduceIte, Nat.reduceEqDiff, Nat.one_ne_zero, Nat.zero_ne_one, Nat.succ_ne_zero, reduceCtorEq]
          refine hK16 _ ?_; clear hK16
          refine rg ?_
          refine AWp.ret ?_
          obtain rfl := Option.some.inj h
          refine ret_go (vs := [.own g18 10 (List.map XExpr.v v17)]) (v := .own g18 10 (List.map XExpr.v v17)) (by show resV Tryz.prog _ [.tmp 2] = _; simp only [resV, XExpr.vs, am, seval, reduceCtorEq]) (Wk.refl _) (Heap.le.refl _) ⟨g18, hg18f.1 _ (by simp), rfl, rfl⟩
def s134 (x0 : (List XExpr)) : Option ((List XExpr)) := (some x0)
theorem c134 (x0 : (List XExpr)) (r : (List XExpr)) (h : s134 x0 = some r) : Gives Tryz.prog 134 [.slice 10 (List.map XExpr.v x0)] (V.func 203 [] [.elt [.slice 10 (List.map XExpr.v r)] 0]) := by
  intro s
  unfold s134 at h
  refine acalls_of (fn := Tryz.f134) Tryz.func134 rfl (by decide) (by show 1 ≤ 4; decide) ?_
  rw [Tryz.ntmps134]
  refine rg ?_
  refine AWp.frz 1 (cs := [.slice 10 (List.map XExpr.v x0)]) (ty := 26) (by first | rfl | simp only [am, seval, reduceCtorEq]) ?_
  refine AWp.weaken (st' := tst [(0, .slice 10 (List.map XExpr.v x0)), (1, .elt [V.slice 10 (List.map XExpr.v x0)] 0)] [] s 4) ?_ ?_
  · refine le_tst ?_ ?_ ?_ (Heap.le.refl _) rfl
    · simp only [leE, St.frz, frzV, XExpr.vs, am, seval, reduceCtorEq] <;> simp
    · simp only [okL, keyIn, Nat.reduceBEq, Bool.or_true, Bool.true_or, Bool.or_false, and_self]
    · simp only [leB, St.frz, frzV, XExpr.vs, am, seval, reduceCtorEq] <;> (repeat' apply And.intro) <;> first | rfl | (simp only [XExpr.v_eq]; rfl) | simp [XExpr.v_eq]
  refine rg ?_
  refine AWp.ret ?_
  obtain rfl := Option.some.inj h
  exact rtn [.tmp 2]
def s135 (x0 : (List XSelect)) : Option ((List XSelect)) := (some x0)
theorem c135 (x0 : (List XSelect)) (r : (List XSelect)) (h : s135 x0 = some r) : Gives Tryz.prog 135 [.slice 5 (List.map XSelect.v x0)] (V.func 204 [] [.elt [.slice 5 (List.map XSelect.v r)] 0]) := by
  intro s
  unfold s135 at h
  refine acalls_of (fn := Tryz.f135) Tryz.func135 rfl (by decide) (by show 1 ≤ 4; decide) ?_
  rw [Tryz.ntmps135]
  refine rg ?_
  refine AWp.frz 1 (cs := [.slice 5 (List.map XSelect.v x0)]) (ty := 27) (by first | rfl | simp only [am, seval, reduceCtorEq]) ?_
  refine AWp.weaken (st' := tst [(0, .slice 5 (List.map XSelect.v x0)), (1, .elt [V.slice 5 (List.map XSelect.v x0)] 0)] [] s 4) ?_ ?_
  · refine le_tst ?_ ?_ ?_ (Heap.le.refl _) rfl
    · simp only [leE, St.frz, frzV, XSelect.vs, am, seval, reduceCtorEq] <;> simp
    · simp only [okL, keyIn, Nat.reduceBEq, Bool.or_true, Bool.true_or, Bool.or_false, and_self]
    · simp only [leB, St.frz, frzV, XSelect.vs, am, seval, reduceCtorEq] <;> (repeat' apply And.intro) <;> first | rfl | (simp only [XSelect.v_eq]; rfl) | simp [XSelect.v_eq]
  refine rg ?_
  refine AWp.ret ?_
  obtain rfl := Option.some.inj h
  exact rtn [.tmp 2]
def s68 (x0 : XSelect) : Option ((List XExpr) × (List XSelect)) := (loopC (fun (u8 : (List XSelect) × Int → Option ((List XExpr) × (List XSelect))) (q7 : (List XSelect) × Int) => (way ((decide (q7.2 < (((x0.with_.length : Nat) : Int))))) (need (0 ≤ q7.2 ∧ q7.2 < ((x0.with_.length : Nat) : Int)) (need ((q7.1.length + (((x0.with_.getD q7.2.toNat XCte.z)).body).length) * 120 ≤ 140737488355328) (u8 ((q7.1 ++ (((x0.with_.getD q7.2.toNat XCte.z)).body)), (IntKind.i64.wrap (q7.2 + 1)))))) (loopC (fun (u28 : (List XExpr) × (List XSelect) × Int → Option ((List XExpr) × (List XSelect))) (q27 : (List XExpr) × (List XSelect) × Int) => (way ((decide (q27.2.2 < (((x0.parts.length : Nat) : Int))))) (need (0 ≤ q27.2.2 ∧ q27.2.2 < ((x0.parts.length : Nat) : Int)) (loopC (fun (u41 : (List XExpr) × Int → Option ((List XExpr) × (List XSelect))) (q40 : (List XExpr) × Int) => (way ((decide (q40.2 < ((((((x0.parts.getD q27.2.2.toNat XPart.z)).items).length : Nat) : Int))))) (need (0 ≤ q40.2 ∧ q40.2 < (((((x0.parts.getD q27.2.2.toNat XPart.z)).items).length : Nat) : Int)) (need ((q40.1.length + ((((((x0.parts.getD q27.2.2.toNat XPart.z)).items).getD q40.2.toNat XItem.z)).expr).length) * 136 ≤ 140737488355328) (u41 ((q40.1 ++ ((((((x0.parts.getD q27.2.2.toNat XPart.z)).items).getD q40.2.toNat XItem.z)).expr)), (IntKind.i64.wrap (q40.2 + 1)))))) (loopC (fun (u59 : (List XExpr) × (List XSelect) × Int → Option ((List XExpr) × (List XSelect))) (q58 : (List XExpr) × (List XSelect) × Int) => (way ((decide (q58.2.2 < ((((((x0.parts.getD q27.2.2.toNat XPart.z)).from_).length : Nat) : Int))))) (need (0 ≤ q58.2.2 ∧ q58.2.2 < (((((x0.parts.getD q27.2.2.toNat XPart.z)).from_).length : Nat) : Int)) (need ((q58.1.length + ((((((x0.parts.getD q27.2.2.toNat XPart.z)).from_).getD q58.2.2.toNat XSource.z)).on).length) * 136 ≤ 140737488355328) (need ((q58.2.1.length + ((((((x0.parts.getD q27.2.2.toNat XPart.z)).from_).getD q58.2.2.toNat XSource.z)).sub).length) * 120 ≤ 140737488355328) (u59 ((q58.1 ++ ((((((x0.parts.getD q27.2.2.toNat XPart.z)).from_).getD q58.2.2.toNat XSource.z)).on)), (q58.2.1 ++ ((((((x0.parts.getD q27.2.2.toNat XPart.z)).from_).getD q58.2.2.toNat XSource.z)).sub)), (IntKind.i64.wrap (q58.2.2 + 1))))))) (call (s133 ([q58.1, ((x0.parts.getD q27.2.2.toNat XPart.z)).where_, ((x0.parts.getD q27.2.2.toNat XPart.z)).group, ((x0.parts.getD q27.2.2.toNat XPart.z)).having])) fun y75 => (loopC (fun (u84 : (List XExpr) × Int → Option ((List XExpr) × (List XSelect))) (q83 : (List XExpr) × Int) => (way ((decide (q83.2 < ((((((x0.parts.getD q27.2.2.toNat XPart.z)).values).length : Nat) : Int))))) (need (0 ≤ q83.2 ∧ q83.2 < (((((x0.parts.getD q27.2.2.toNat XPart.z)).values).length : Nat) : Int)) (need ((q83.1.length + (((((x0.parts.getD q27.2.2.toNat XPart.z)).values).getD q83.2.toNat ([]))).length) * 136 ≤ 140737488355328) (u84 ((q83.1 ++ (((((x0.parts.getD q27.2.2.toNat XPart.z)).values).getD q83.2.toNat ([])))), (IntKind.i64.wrap (q83.2 + 1)))))) (u28 (q83.1, q58.2.1, (IntKind.i64.wrap (q27.2.2 + 1)))))) manyC (y75, 0))))) manyC (q40.1, q27.2.1, 0)))) manyC (q27.1, 0))) (loopC (fun (u101 : (List XExpr) × Int → Option ((List XExpr) × (List XSelect))) (q100 : (List XExpr) × Int) => (way ((decide (q100.2 < (((x0.order.length : Nat) : Int))))) (need (0 ≤ q100.2 ∧ q100.2 < ((x0.order.length : Nat) : Int)) (need ((q100.1.length + 1) * 136 ≤ 140737488355328) (u101 ((q100.1 ++ ([((x0.order.getD q100.2.toNat XSort.z)).expr])), (IntKind.i64.wrap (q100.2 + 1)))))) (call (s133 ([q100.1, x0.limit, x0.offset])) fun y113 => (call (s134 y113) fun y117 => (call (s135 q27.2.1) fun y118 => (some ((y117, y118)))))))) manyC (q27.1, 0)))) manyC (([] : List XExpr), q7.1, 0)))) manyC (([] : List XSelect), 0))
theorem c68 (x0 : XSelect) (r : (List XExpr) × (List XSelect)) (h : s68 x0 = some r) : Gives Tryz.prog 68 [.agg x0.v] (.tuple [V.func 203 [] [.elt [.slice 10 (List.map XExpr.v r.1)] 0], V.func 204 [] [.elt [.slice 5 (List.map XSelect.v r.2)] 0]]) := by
  intro s
  unfold s68 at h
  refine acalls_of (fn := Tryz.f68) Tryz.func68 rfl (by decide) (by show 1 ≤ 110; decide) ?_
  rw [Tryz.ntmps68]
  refine rg ?_
  refine rg ?_
  refine rg ?_
  refine AWp.seq_k fun K1 hK1 => ?_
  refine rg ?_
  refine AWp.block ?_
  refine AWp.adoptE 5 (48, 5) (.inl (by rfl)) fun g2 hg2 => ?_
  change (s).own g2 = none at hg2
  have fr3 : Fr s (List.map Prod.fst [(g2, (48, 5))]) := Fr.snoc (l := []) (Fr.nil s) hg2
  refine AWp.loopS (X := (List XSelect) × Int) (G := Nat) h (fun gq9 => Fr s (List.map Prod.fst [(gq9, (48, 5))])) (fun q7 gq9 => tst [(1, .loc 1 0), (4, .nil), (5, .own gq9 5 (List.map XSelect.v q7.1)), (19, .slice 3 (List.map XCte.v x0.with_)), (20, vint (((x0.with_.length : Nat) : Int))), (21, vint q7.2)] [(1, (x0.v, 48))] (owns s [(gq9, (48, 5))]) 110) ?_ ?_
  · exact ⟨g2, fr3, tle⟩
  · rintro u8 ⟨v4, v6⟩ h g5 hg5f
    (try dsimp only at h ⊢)
    refine rg ?_
    refine AWp.seq_k fun K10 hK10 => ?_
    refine ws h (fun hc11 h => ?_) fun hc11 h => ?_
    · refine AWp.skip ?_
      refine hK10 _ ?_; clear hK10
      refine AWp.seq_k fun K12 hK12 => ?_
      refine AWp.block ?_
      obtain ⟨hn14, h⟩ := need_some h
      refine rgF ((And.intro ((isT hn14.1)) <| And.intro ((isT hn14.2)) <| (getD_enc XCte.v XCte.z hn14))) ?_
      refine AWp.reg1 fun Z15 hZ15 => ?_
      obtain ⟨hn16, h⟩ := need_some h
      (try simp only [mapAppend, XSelect.snoc, XSelect.snoc', XSelect.eta, XExpr.snoc, XExpr.snoc', XExpr.eta, List.set_cons_zero, List.set_cons_succ, xa, Nat.reduceAdd, seval, reduceCtorEq])
      first | refine ⟨owns_at [(g5, (48, 5))] s hg5f.2 (by simp), by (try simp only [List.length_map]); exact hn16, by (try simp only [List.length_map]); exact app_ok hn16 (by decide), fun g17 hg17 => ?_⟩ | refine ⟨owns_at [(g5, (48, 5))] s hg5f.2 (by simp), by unfold maxLen; omega, fun g17 hg17 => ?_⟩ | refine ⟨owns_at [(g5, (48, 5))] s hg5f.2 (by simp), fun g17 hg17 => ?_⟩
      have fr18 : Fr s (List.map Prod.fst [(g17, (48, 5))]) := Fr.rep (a := []) (b := []) hg5f hg17
      (try simp only [mapAppend, XSelect.snoc, XSelect.snoc', XSelect.eta, XExpr.snoc, XExpr.snoc', XExpr.eta, List.set_cons_zero, List.set_cons_succ, xa, Nat.reduceAdd, seval, reduceCtorEq])
      refine hZ15 _ ?_; clear hZ15 Z15
      refine hK12 _ ?_; clear hK12
      refine AWp.heapLe (s' := (owns s [(g17, (48, 5))])) (Fr.repLe (a := []) (b := []) hg5f hg17) ?_
      refine r1 ?_
      exact ⟨((v4 ++ (((x0.with_.getD v6.toNat XCte.z)).body)), (IntKind.i64.wrap (v6 + 1))), h, g17, fr18, tle⟩
    · refine AWp.exit ?_
      simp only [thenQ, blockQ, ↓reduceIte, Nat.reduceEqDiff, Nat.one_ne_zero, Nat.zero_ne_one, Nat.succ_ne_zero, reduceCtorEq]
      refine hK1 _ ?_; clear hK1
      refine AWp.seq_k fun K19 hK19 => ?_
      refine rg ?_
      refine AWp.block ?_
      refine AWp.adoptE 4 (29, 10) (.inl (by rfl)) fun g20 hg20 => ?_
      change ((owns s [(g5, (48, 5))])).own g20 = none at hg20
      have fr21 : Fr s (List.map Prod.fst [(g5, (48, 5)), (g20, (29, 10))]) := Fr.snoc (l := [(g5, (48, 5))]) hg5f hg20
      refine AWp.loopS (X := (List XExpr) × (List XSelect) × Int) (G := Nat × Nat) h (fun gq29 => Fr s (List.map Prod.fst [(gq29.1, (48, 5)), (gq29.2, (29, 10))])) (fun q27 gq29 => tst [(1, .loc 1 0), (4, .own gq29.2 10 (List.map XExpr.v q27.1)), (5, .own gq29.1 5 (List.map XSelect.v q27.2.1)), (31, .slice 8 (List.map XPart.v x0.parts)), (32, vint (((x0.parts.length : Nat) : Int))), (33, vint q27.2.2)] [(1, (x0.v, 48))] (owns s [(gq29.1, (48, 5)), (gq29.2, (29, 10))]) 110) ?_ ?_
      · exact ⟨(g5, g20), fr21, tle⟩
      · rintro u28 ⟨v22, v24, v26⟩ h ⟨g25, g23⟩ hg25f
        (try dsimp only at h ⊢)
        refine rg ?_
        refine AWp.seq_k fun K30 hK30 => ?_
        refine ws h (fun hc31 h => ?_) fun hc31 h => ?_
        · refine AWp.skip ?_
          refine hK30 _ ?_; clear hK30
          refine AWp.seq_k fun K32 hK32 => ?_
          refine AWp.block ?_
          obtain ⟨hn34, h⟩ := need_some h
          refine rgF ((And.intro ((isT hn34.1)) <| And.intro ((isT hn34.2)) <| (getD_enc XPart.v XPart.z hn34))) ?_
          refine AWp.seq_k fun K35 hK35 => ?_
          refine rg ?_
          refine AWp.block ?_
          refine AWp.loopS (X := (List XExpr) × Int) (G := Nat × Nat) h (fun gq42 => Fr s (List.map Prod.fst [(gq42.1, (48, 5)), (gq42.2, (29, 10))])) (fun q40 gq42 => tst [(1, .loc 1 0), (4, .own gq42.2 10 (List.map XExpr.v q40.1)), (5, .own gq42.1 5 (List.map XSelect.v v24)), (9, .loc 9 0), (31, .slice 8 (List.map XPart.v x0.parts)), (32, vint (((x0.parts.length : Nat) : Int))), (33, vint v26), (38, .slice 4 (List.map XItem.v (((x0.parts.getD v26.toNat XPart.z)).items))), (39, vint ((((((x0.parts.getD v26.toNat XPart.z)).items).length : Nat) : Int))), (40, vint q40.2)] [(1, (x0.v, 48)), (9, (((x0.parts.getD v26.toNat XPart.z)).v, 65))] (owns s [(gq42.1, (48, 5)), (gq42.2, (29, 10))]) 110) ?_ ?_
          · exact ⟨(g25, g23), hg25f, tle⟩
          · rintro u41 ⟨v36, v38⟩ h ⟨g39, g37⟩ hg39f
            (try dsimp only at h ⊢)
            refine rg ?_
            refine AWp.seq_k fun K43 hK43 => ?_
            refine ws h (fun hc44 h => ?_) fun hc44 h => ?_
            · refine AWp.skip ?_
              refine hK43 _ ?_; clear hK43
              refine AWp.seq_k fun K45 hK45 => ?_
              refine AWp.block ?_
              obtain ⟨hn47, h⟩ := need_some h
              refine rgF ((And.intro ((isT hn47.1)) <| And.intro ((isT hn47.2)) <| (getD_enc XItem.v XItem.z hn47))) ?_
              refine AWp.reg1 fun Z48 hZ48 => ?_
              obtain ⟨hn49, h⟩ := need_some h
              (try simp only [mapAppend, XSelect.snoc, XSelect.snoc', XSelect.eta, XExpr.snoc, XExpr.snoc', XExpr.eta, List.set_cons_zero, List.set_cons_succ, xa, Nat.reduceAdd, seval, reduceCtorEq])
              first | refine ⟨owns_at [(g39, (48, 5)), (g37, (29, 10))] s hg39f.2 (by simp), by (try simp only [List.length_map]); exact hn49, by (try simp only [List.length_map]); exact app_ok hn49 (by decide), fun g50 hg50 => ?_⟩ | refine ⟨owns_at [(g39, (48, 5)), (g37, (29, 10))] s hg39f.2 (by simp), by unfold maxLen; omega, fun g50 hg50 => ?_⟩ | refine ⟨owns_at [(g39, (48, 5)), (g37, (29, 10))] s hg39f.2 (by simp), fun g50 hg50 => ?_⟩
              have fr51 : Fr s (List.map Prod.fst [(g39, (48, 5)), (g50, (29, 10))]) := Fr.rep (a := [(g39, (48, 5))]) (b := []) hg39f hg50
              (try simp only [mapAppend, XSelect.snoc, XSelect.snoc', XSelect.eta, XExpr.snoc, XExpr.snoc', XExpr.eta, List.set_cons_zero, List.set_cons_succ, xa, Nat.reduceAdd, seval, reduceCtorEq])
              refine hZ48 _ ?_; clear hZ48 Z48
              refine hK45 _ ?_; clear hK45
              refine AWp.heapLe (s' := (owns s [(g39, (48, 5)), (g50, (29, 10))])) (Fr.repLe (a := [(g39, (48, 5))]) (b := []) hg39f hg50) ?_
              refine r1 ?_
              exact ⟨((v36 ++ ((((((x0.parts.getD v26.toNat XPart.z)).items).getD v38.toNat XItem.z)).expr)), (IntKind.i64.wrap (v38 + 1))), h, (g39, g50), fr51, tle⟩
            · refine AWp.exit ?_
              simp only [thenQ, blockQ, ↓reduceIte, Nat.reduceEqDiff, Nat.one_ne_zero, Nat.zero_ne_one, Nat.succ_ne_zero, reduceCtorEq]
              refine hK35 _ ?_; clear hK35
              refine AWp.seq_k fun K52 hK52 => ?_
              refine rg ?_
              refine AWp.block ?_
              refine AWp.loopS (X := (List XExpr) × (List XSelect) × Int) (G := Nat × Nat) h (fun gq60 => Fr s (List.map Prod.fst [(gq60.1, (48, 5)), (gq60.2, (29, 10))])) (fun q58 gq60 => tst [(1, .loc 1 0), (4, .own gq60.2 10 (List.map XExpr.v q58.1)), (5, .own gq60.1 5 (List.map XSelect.v q58.2.1)), (9, .loc 9 0), (31, .slice 8 (List.map XPart.v x0.parts)), (32, vint (((x0.parts.length : Nat) : Int))), (33, vint v26), (50, .slice 5 (List.map XSource.v (((x0.parts.getD v26.toNat XPart.z)).from_))), (51, vint ((((((x0.parts.getD v26.toNat XPart.z)).from_).length : Nat) : Int))), (52, vint q58.2.2)] [(1, (x0.v, 48)), (9, (((x0.parts.getD v26.toNat XPart.z)).v, 65))] (owns s [(gq60.1, (48, 5)), (gq60.2, (29, 10))]) 110) ?_ ?_
              · exact ⟨(g39, g37), hg39f, tle⟩
              · rintro u59 ⟨v53, v55, v57⟩ h ⟨g56, g54⟩ hg56f
                (try dsimp only at h ⊢)
                refine rg ?_
                refine AWp.seq_k fun K61 hK61 => ?_
                refine ws h (fun hc62 h => ?_) fun hc62 h => ?_
                · refine AWp.skip ?_
                  refine hK61 _ ?_; clear hK61
                  refine AWp.seq_k fun K63 hK63 => ?_
                  refine AWp.block ?_
                  obtain ⟨hn65, h⟩ := need_some h
                  refine rgF ((And.intro ((isT hn65.1)) <| And.intro ((isT hn65.2)) <| (getD_enc XSource.v XSource.z hn65))) ?_
                  refine AWp.reg fun Z66 hZ66 => ?_
                  obtain ⟨hn67, h⟩ := need_some h
                  (try simp only [mapAppend, XSelect.snoc, XSelect.snoc', XSelect.eta, XExpr.snoc, XExpr.snoc', XExpr.eta, List.set_cons_zero, List.set_cons_succ, xa, Nat.reduceAdd, seval, reduceCtorEq])
                  first | refine ⟨owns_at [(g56, (48, 5)), (g54, (29, 10))] s hg56f.2 (by simp), by (try simp only [List.length_map]); exact hn67, by (try simp only [List.length_map]); exact app_ok hn67 (by decide), fun g68 hg68 => ?_⟩ | refine ⟨owns_at [(g56, (48, 5)), (g54, (29, 10))] s hg56f.2 (by simp), by unfold maxLen; omega, fun g68 hg68 => ?_⟩ | refine ⟨owns_at [(g56, (48, 5)), (g54, (29, 10))] s hg56f.2 (by simp), fun g68 hg68 => ?_⟩
                  have fr69 : Fr s (List.map Prod.fst [(g56, (48, 5)), (g68, (29, 10))]) := Fr.rep (a := [(g56, (48, 5))]) (b := []) hg56f hg68
                  (try simp only [mapAppend, XSelect.snoc, XSelect.snoc', XSelect.eta, XExpr.snoc, XExpr.snoc', XExpr.eta, List.set_cons_zero, List.set_cons_succ, xa, Nat.reduceAdd, seval, reduceCtorEq])
                  refine hZ66 _ ?_; clear hZ66 Z66
                  refine AWp.heapLe (s' := (owns s [(g56, (48, 5)), (g68, (29, 10))])) (Fr.repLe (a := [(g56, (48, 5))]) (b := []) hg56f hg68) ?_
                  refine AWp.reg1 fun Z70 hZ70 => ?_
                  obtain ⟨hn71, h⟩ := need_some h
                  (try simp only [mapAppend, XSelect.snoc, XSelect.snoc', XSelect.eta, XExpr.snoc, XExpr.snoc', XExpr.eta, List.set_cons_zero, List.set_cons_succ, xa, Nat.reduceAdd, seval, reduceCtorEq])
                  first | refine ⟨owns_at [(g56, (48, 5)), (g68, (29, 10))] s fr69.2 (by simp), by (try simp only [List.length_map]); exact hn71, by (try simp only [List.length_map]); exact app_ok hn71 (by decide), fun g72 hg72 => ?_⟩ | refine ⟨owns_at [(g56, (48, 5)), (g68, (29, 10))] s fr69.2 (by simp), by unfold maxLen; omega, fun g72 hg72 => ?_⟩ | refine ⟨owns_at [(g56, (48, 5)), (g68, (29, 10))] s fr69.2 (by simp), fun g72 hg72 => ?_⟩
                  have fr73 : Fr s (List.map Prod.fst [(g72, (48, 5)), (g68, (29, 10))]) := Fr.rep (a := []) (b := [(g68, (29, 10))]) fr69 hg72
                  (try simp only [mapAppend, XSelect.snoc, XSelect.snoc', XSelect.eta, XExpr.snoc, XExpr.snoc', XExpr.eta, List.set_cons_zero, List.set_cons_succ, xa, Nat.reduceAdd, seval, reduceCtorEq])
                  refine hZ70 _ ?_; clear hZ70 Z70
                  refine hK63 _ ?_; clear hK63
                  refine AWp.heapLe (s' := (owns s [(g72, (48, 5)), (g68, (29, 10))])) (Fr.repLe (a := []) (b := [(g68, (29, 10))]) fr69 hg72) ?_
                  refine r1 ?_
                  exact ⟨((v53 ++ ((((((x0.parts.getD v26.toNat XPart.z)).from_).getD v57.toNat XSource.z)).on)), (v55 ++ ((((((x0.parts.getD v26.toNat XPart.z)).from_).getD v57.toNat XSource.z)).sub)), (IntKind.i64.wrap (v57 + 1))), h, (g72, g68), fr73, tle⟩
                · refine AWp.exit ?_
                  simp only [thenQ, blockQ, ↓reduceIte, Nat.reduceEqDiff, Nat.one_ne_zero, Nat.zero_ne_one, Nat.succ_ne_zero, reduceCtorEq]
                  refine hK52 _ ?_; clear hK52
                  refine AWp.reg fun Z74 hZ74 => ?_
                  (try simp only [mapAppend, XSelect.snoc, XSelect.snoc', XSelect.eta, XExpr.snoc, XExpr.snoc', XExpr.eta, List.set_cons_zero, List.set_cons_succ, xa, Nat.reduceAdd, seval, reduceCtorEq])
                  obtain ⟨y75, hy75, h⟩ := call_some h
                  refine ACallsP.wk (args' := [.slice 1 (List.map (fun x => [V.slice 10 (List.map XExpr.v x)]) ([v53, ((x0.parts.getD v26.toNat XPart.z)).where_, ((x0.parts.getD v26.toNat XPart.z)).group, ((x0.parts.getD v26.toNat XPart.z)).having]))]) ⟨Wk.slice ⟨⟨Wk.own _ _ _, trivial⟩, ⟨Wk.refl _, trivial⟩, ⟨Wk.refl _, trivial⟩, ⟨Wk.refl _, trivial⟩, trivial⟩, trivial⟩ ?_
                  refine (c133 ([v53, ((x0.parts.getD v26.toNat XPart.z)).where_, ((x0.parts.getD v26.toNat XPart.z)).group, ((x0.parts.getD v26.toNat XPart.z)).having]) _ hy75 _).goOwn fun g76 hg76 => ?_
                  change ((owns s [(g56, (48, 5)), (g54, (29, 10))])).own g76 = none at hg76
                  have fr77 : Fr s (List.map Prod.fst [(g56, (48, 5)), (g54, (29, 10)), (g76, (29, 10))]) := Fr.snoc (l := [(g56, (48, 5)), (g54, (29, 10))]) hg56f hg76
                  (try simp only [mapAppend, XSelect.snoc, XSelect.snoc', XSelect.eta, XExpr.snoc, XExpr.snoc', XExpr.eta, List.set_cons_zero, List.set_cons_succ, xa, Nat.reduceAdd, seval, reduceCtorEq])
                  refine hZ74 _ ?_; clear hZ74 Z74
                  refine AWp.heapLe (s' := (owns s [(g56, (48, 5)), (g54, (29, 10)), (g76, (29, 10))])) (Heap.le.refl _) ?_
                  refine rg ?_
                  refine AWp.block ?_
                  refine AWp.loopS (X := (List XExpr) × Int) (G := Nat × Nat × Nat) h (fun gq85 => Fr s (List.map Prod.fst [(gq85.1, (48, 5)), (gq85.2.1, (29, 10)), (gq85.2.2, (29, 10))])) (fun q83 gq85 => tst [(1, .loc 1 0), (4, .own gq85.2.2 10 (List.map XExpr.v q83.1)), (5, .own gq85.1 5 (List.map XSelect.v v55)), (31, .slice 8 (List.map XPart.v x0.parts)), (32, vint (((x0.parts.length : Nat) : Int))), (33, vint v26), (75, .slice 1 (List.map (fun x => [V.slice 10 (List.map XExpr.v x)]) (((x0.parts.getD v26.toNat XPart.z)).values))), (76, vint ((((((x0.parts.getD v26.toNat XPart.z)).values).length : Nat) : Int))), (77, vint q83.2)] [(1, (x0.v, 48))] (owns s [(gq85.1, (48, 5)), (gq85.2.1, (29, 10)), (gq85.2.2, (29, 10))]) 110) ?_ ?_
                  · exact ⟨(g56, g54, g76), fr77, tle⟩
                  · rintro u84 ⟨v78, v80⟩ h ⟨g81, g82, g79⟩ hg81f
                    (try dsimp only at h ⊢)
                    refine rg ?_
                    refine AWp.seq_k fun K86 hK86 => ?_
                    refine ws h (fun hc87 h => ?_) fun hc87 h => ?_
                    · refine AWp.skip ?_
                      refine hK86 _ ?_; clear hK86
                      refine AWp.seq_k fun K88 hK88 => ?_
                      refine AWp.block ?_
                      obtain ⟨hn90, h⟩ := need_some h
                      refine rgF ((And.intro ((isT hn90.1)) <| And.intro ((isT hn90.2)) <| (getD_enc (fun x => [V.slice 10 (List.map XExpr.v x)]) ([]) hn90))) ?_
                      refine AWp.reg1 fun Z91 hZ91 => ?_
                      obtain ⟨hn92, h⟩ := need_some h
                      (try simp only [mapAppend, XSelect.snoc, XSelect.snoc', XSelect.eta, XExpr.snoc, XExpr.snoc', XExpr.eta, List.set_cons_zero, List.set_cons_succ, xa, Nat.reduceAdd, seval, reduceCtorEq])
                      first | refine ⟨owns_at [(g81, (48, 5)), (g82, (29, 10)), (g79, (29, 10))] s hg81f.2 (by simp), by (try simp only [List.length_map]); exact hn92, by (try simp only [List.length_map]); exact app_ok hn92 (by decide), fun g93 hg93 => ?_⟩ | refine ⟨owns_at [(g81, (48, 5)), (g82, (29, 10)), (g79, (29, 10))] s hg81f.2 (by simp), by unfold maxLen; omega, fun g93 hg93 => ?_⟩ | refine ⟨owns_at [(g81, (48, 5)), (g82, (29, 10)), (g79, (29, 10))] s hg81f.2 (by simp), fun g93 hg93 => ?_⟩
                      have fr94 : Fr s (List.map Prod.fst [(g81, (48, 5)), (g82, (29, 10)), (g93, (29, 10))]) := Fr.rep (a := [(g81, (48, 5)), (g82, (29, 10))]) (b := []) hg81f hg93
                      (try simp only [mapAppend, XSelect.snoc, XSelect.snoc', XSelect.eta, XExpr.snoc, XExpr.snoc', XExpr.eta, List.set_cons_zero, List.set_cons_succ, xa, Nat.reduceAdd, seval, reduceCtorEq])
                      refine hZ91 _ ?_; clear hZ91 Z91
                      refine hK88 _ ?_; clear hK88
                      refine AWp.heapLe (s' := (owns s [(g81, (48, 5)), (g82, (29, 10)), (g93, (29, 10))])) (Fr.repLe (a := [(g81, (48, 5)), (g82, (29, 10))]) (b := []) hg81f hg93) ?_
                      refine r1 ?_
                      exact ⟨((v78 ++ (((((x0.parts.getD v26.toNat XPart.z)).values).getD v80.toNat ([])))), (IntKind.i64.wrap (v80 + 1))), h, (g81, g82, g93), fr94, tle⟩
                    · refine AWp.exit ?_
                      simp only [thenQ, blockQ, ↓reduceIte, Nat.reduceEqDiff, Nat.one_ne_zero, Nat.zero_ne_one, Nat.succ_ne_zero, reduceCtorEq]
                      refine hK32 _ ?_; clear hK32
                      refine r1 ?_
                      refine ⟨(v78, v55, (IntKind.i64.wrap (v26 + 1))), h, (g81, g79), (Fr.sub (l := [(g81, (48, 5)), (g82, (29, 10)), (g79, (29, 10))]) (l' := [(g81, (48, 5)), (g79, (29, 10))]) hg81f (by simp) (by have := (hg81f).2; simp at this ⊢; simp [this, eq_comm])).1, ?_⟩
                      refine St.to.heapLe (s' := (owns s [(g81, (48, 5)), (g79, (29, 10))])) ((Fr.sub (l := [(g81, (48, 5)), (g82, (29, 10)), (g79, (29, 10))]) (l' := [(g81, (48, 5)), (g79, (29, 10))]) hg81f (by simp) (by have := (hg81f).2; simp at this ⊢; simp [this, eq_comm])).2) ?_
                      exact tle
        · refine AWp.exit ?_
          simp only [thenQ, blockQ, ↓reduceIte, Nat.reduceEqDiff, Nat.one_ne_zero, Nat.zero_ne_one, Nat.succ_ne_zero, reduceCtorEq]
          refine hK19 _ ?_; clear hK19
          refine AWp.seq_k fun K95 hK95 => ?_
          refine rg ?_
          refine AWp.block ?_
          refine AWp.loopS (X := (List XExpr) × Int) (G := Nat × Nat) h (fun gq102 => Fr s (List.map Prod.fst [(gq102.1, (48, 5)), (gq102.2, (29, 10))])) (fun q100 gq102 => tst [(1, .loc 1 0), (4, .own gq102.2 10 (List.map XExpr.v q100.1)), (5, .own gq102.1 5 (List.map XSelect.v v24)), (87, .slice 11 (List.map XSort.v x0.order)), (88, vint (((x0.order.length : Nat) : Int))), (89, vint q100.2)] [(1, (x0.v, 48))] (owns s [(gq102.1, (48, 5)), (gq102.2, (29, 10))]) 110) ?_ ?_
          · exact ⟨(g25, g23), hg25f, tle⟩
          · rintro u101 ⟨v96, v98⟩ h ⟨g99, g97⟩ hg99f
            (try dsimp only at h ⊢)
            refine rg ?_
            refine AWp.seq_k fun K103 hK103 => ?_
            refine ws h (fun hc104 h => ?_) fun hc104 h => ?_
            · refine AWp.skip ?_
              refine hK103 _ ?_; clear hK103
              refine AWp.seq_k fun K105 hK105 => ?_
              refine AWp.block ?_
              obtain ⟨hn107, h⟩ := need_some h
              refine rgF ((And.intro ((isT hn107.1)) <| And.intro ((isT hn107.2)) <| (getD_enc XSort.v XSort.z hn107))) ?_
              refine AWp.reg1 fun Z108 hZ108 => ?_
              obtain ⟨hn109, h⟩ := need_some h
              (try simp only [mapAppend, XSelect.snoc, XSelect.snoc', XSelect.eta, XExpr.snoc, XExpr.snoc', XExpr.eta, List.set_cons_zero, List.set_cons_succ, xa, Nat.reduceAdd, seval, reduceCtorEq])
              first | refine ⟨owns_at [(g99, (48, 5)), (g97, (29, 10))] s hg99f.2 (by simp), by (try simp only [List.length_map]); exact hn109, by (try simp only [List.length_map]); exact app_ok hn109 (by decide), fun g110 hg110 => ?_⟩ | refine ⟨owns_at [(g99, (48, 5)), (g97, (29, 10))] s hg99f.2 (by simp), by unfold maxLen; omega, fun g110 hg110 => ?_⟩ | refine ⟨owns_at [(g99, (48, 5)), (g97, (29, 10))] s hg99f.2 (by simp), fun g110 hg110 => ?_⟩
              have fr111 : Fr s (List.map Prod.fst [(g99, (48, 5)), (g110, (29, 10))]) := Fr.rep (a := [(g99, (48, 5))]) (b := []) hg99f hg110
              (try simp only [mapAppend, XSelect.snoc, XSelect.snoc', XSelect.eta, XExpr.snoc, XExpr.snoc', XExpr.eta, List.set_cons_zero, List.set_cons_succ, xa, Nat.reduceAdd, seval, reduceCtorEq])
              refine hZ108 _ ?_; clear hZ108 Z108
              refine hK105 _ ?_; clear hK105
              refine AWp.heapLe (s' := (owns s [(g99, (48, 5)), (g110, (29, 10))])) (Fr.repLe (a := [(g99, (48, 5))]) (b := []) hg99f hg110) ?_
              refine r1 ?_
              exact ⟨((v96 ++ ([((x0.order.getD v98.toNat XSort.z)).expr])), (IntKind.i64.wrap (v98 + 1))), h, (g99, g110), fr111, tle⟩
            · refine AWp.exit ?_
              simp only [thenQ, blockQ, ↓reduceIte, Nat.reduceEqDiff, Nat.one_ne_zero, Nat.zero_ne_one, Nat.succ_ne_zero, reduceCtorEq]
              refine hK95 _ ?_; clear hK95
              refine AWp.reg fun Z112 hZ112 => ?_
              (try simp only [mapAppend, XSelect.snoc, XSelect.snoc', XSelect.eta, XExpr.snoc, XExpr.snoc', XExpr.eta, List.set_cons_zero, List.set_cons_succ, xa, Nat.reduceAdd, seval, reduceCtorEq])
              obtain ⟨y113, hy113, h⟩ := call_some h
              refine ACallsP.wk (args' := [.slice 1 (List.map (fun x => [V.slice 10 (List.map XExpr.v x)]) ([v96, x0.limit, x0.offset]))]) ⟨Wk.slice ⟨⟨Wk.own _ _ _, trivial⟩, ⟨Wk.refl _, trivial⟩, ⟨Wk.refl _, trivial⟩, trivial⟩, trivial⟩ ?_
              refine (c133 ([v96, x0.limit, x0.offset]) _ hy113 _).goOwn fun g114 hg114 => ?_
              change ((owns s [(g99, (48, 5)), (g97, (29, 10))])).own g114 = none at hg114
              have fr115 : Fr s (List.map Prod.fst [(g99, (48, 5)), (g97, (29, 10)), (g114, (29, 10))]) := Fr.snoc (l := [(g99, (48, 5)), (g97, (29, 10))]) hg99f hg114
              (try simp only [mapAppend, XSelect.snoc, XSelect.snoc', XSelect.eta, XExpr.snoc, XExpr.snoc', XExpr.eta, List.set_cons_zero, List.set_cons_succ, xa, Nat.reduceAdd, seval, reduceCtorEq])
              refine hZ112 _ ?_; clear hZ112 Z112
              refine AWp.heapLe (s' := (owns s [(g99, (48, 5)), (g97, (29, 10)), (g114, (29, 10))])) (Heap.le.refl _) ?_
              refine AWp.reg fun Z116 hZ116 => ?_
              (try simp only [mapAppend, XSelect.snoc, XSelect.snoc', XSelect.eta, XExpr.snoc, XExpr.snoc', XExpr.eta, List.set_cons_zero, List.set_cons_succ, xa, Nat.reduceAdd, seval, reduceCtorEq])
              obtain ⟨y117, hy117, h⟩ := call_some h
              refine ACallsP.wk (args' := [.slice 10 (List.map XExpr.v y113)]) ⟨Wk.own _ _ _, trivial⟩ ?_
              refine (c134 y113 _ hy117 _).go ?_
              (try simp only [mapAppend, XSelect.snoc, XSelect.snoc', XSelect.eta, XExpr.snoc, XExpr.snoc', XExpr.eta, List.set_cons_zero, List.set_cons_succ, xa, Nat.reduceAdd, seval, reduceCtorEq])
              obtain ⟨y118, hy118, h⟩ := call_some h
              refine ACallsP.wk (args' := [.slice 5 (List.map XSelect.v v24)]) ⟨Wk.own _ _ _, trivial⟩ ?_
              refine (c135 v24 _ hy118 _).go ?_
              (try simp only [mapAppend, XSelect.snoc, XSelect.snoc', XSelect.eta, XExpr.snoc, XExpr.snoc', XExpr.eta, List.set_cons_zero, List.set_cons_succ, xa, Nat.reduceAdd, seval, reduceCtorEq])
              refine hZ116 _ ?_; clear hZ116 Z116
              refine AWp.ret ?_
              obtain rfl := Option.some.inj h
              refine ret_go (vs := [V.func 203 [] [.elt [.slice 10 (List.map XExpr.v y117)] 0], V.func 204 [] [.elt [.slice 5 (List.map XSelect.v y118)] 0]]) (v := .tuple [V.func 203 [] [.elt [.slice 10 (List.map XExpr.v y117)] 0], V.func 204 [] [.elt [.slice 5 (List.map XSelect.v y118)] 0]]) (by show resV Tryz.prog _ [.tmp 2, .tmp 3] = _; simp only [resV, XExpr.vs, XSelect.vs, XPart.vs, XItem.vs, XCte.vs, XSort.vs, XSource.vs, am, seval, reduceCtorEq]) (Wk.tuple ⟨Wk.refl _, Wk.refl _, trivial⟩) (Fr.drop (l := [(g99, (48, 5)), (g97, (29, 10)), (g114, (29, 10))]) fr115) ⟨?_, rfl⟩
              rfl
structure F27_32 where
  p27 : XExpr → Option (Int)
  p32 : XSelect → Option (Int)
structure F27_32.Ok (F : F27_32) : Prop where
  p27 : ∀ (x0 : XExpr) (r : Int), F.p27 x0 = some r → Gives Tryz.prog 27 [.agg x0.v] (vint r)
  p32 : ∀ (x0 : XSelect) (r : Int), F.p32 x0 = some r → Gives Tryz.prog 32 [.agg x0.v] (vint r)
def b27 (F : F27_32) (x0 : XExpr) : Option (Int) := (loopC (fun (u5 : Int × Int → Option (Int)) (q4 : Int × Int) => (way ((decide (q4.2 < (((x0.args.length : Nat) : Int))))) (need (0 ≤ q4.2 ∧ q4.2 < ((x0.args.length : Nat) : Int)) (call (F.p27 ((x0.args.getD q4.2.toNat XExpr.z))) fun y11 => (u5 ((mxI q4.1 y11), (IntKind.i64.wrap (q4.2 + 1)))))) (loopC (fun (u16 : Int × Int → Option (Int)) (q15 : Int × Int) => (way ((decide (q15.2 < (((x0.sub.length : Nat) : Int))))) (need (0 ≤ q15.2 ∧ q15.2 < ((x0.sub.length : Nat) : Int)) (call (F.p32 ((x0.sub.getD q15.2.toNat XSelect.z))) fun y22 => (u16 ((mxI q15.1 y22), (IntKind.i64.wrap (q15.2 + 1)))))) (some ((IntKind.i64.wrap (q15.1 + 1)))))) manyC (q4.1, 0)))) manyC (0, 0))
theorem d27 (F : F27_32) (H : F.Ok) (x0 : XExpr) (r : Int) (h : b27 F x0 = some r) : Gives Tryz.prog 27 [.agg x0.v] (vint r) := by
  intro s
  unfold b27 at h
  refine acalls_of (fn := Tryz.f27) Tryz.func27 rfl (by decide) (by show 1 ≤ 34; decide) ?_
  rw [Tryz.ntmps27]
  refine rg ?_
  refine rg ?_
  refine AWp.seq_k fun K1 hK1 => ?_
  refine rg ?_
  refine AWp.block ?_
  refine AWp.loopS (X := Int × Int) (G := Unit) h (fun _ => True) (fun q4 _ => tst [(1, .loc 1 0), (3, vint q4.1), (9, .slice 10 (List.map XExpr.v x0.args)), (10, vint (((x0.args.length : Nat) : Int))), (11, vint q4.2)] [(1, (x0.v, 29))] s 34) ?_ ?_
  · exact ⟨(), trivial, tle⟩
  · rintro u5 ⟨v2, v3⟩ h _ _
    (try dsimp only at h ⊢)
    refine rg ?_
    refine AWp.seq_k fun K6 hK6 => ?_
    refine ws h (fun hc7 h => ?_) fun hc7 h => ?_
    · refine AWp.skip ?_
      refine hK6 _ ?_; clear hK6
      refine AWp.seq_k fun K8 hK8 => ?_
      refine AWp.block ?_
      obtain ⟨hn10, h⟩ := need_some h
      refine rgF ((And.intro ((isT hn10.1)) <| And.intro ((isT hn10.2)) <| (getD_enc XExpr.v XExpr.z hn10))) ?_
      obtain ⟨y11, hy11, h⟩ := call_some h
      refine r1C (H.p27 ((x0.args.getD v3.toNat XExpr.z)) _ hy11) ?_
      refine hK8 _ ?_; clear hK8
      refine r1 ?_
      exact ⟨((mxI v2 y11), (IntKind.i64.wrap (v3 + 1))), h, (), trivial, tle⟩
    · refine AWp.exit ?_
      simp only [thenQ, blockQ, ↓reduceIte, Nat.reduceEqDiff, Nat.one_ne_zero, Nat.zero_ne_one, Nat.succ_ne_zero, reduceCtorEq]
      refine hK1 _ ?_; clear hK1
      refine AWp.seq_k fun K12 hK12 => ?_
      refine rg ?_
      refine AWp.block ?_
      refine AWp.loopS (X := Int × Int) (G := Unit) h (fun _ => True) (fun q15 _ => tst [(3, vint q15.1), (21, .slice 5 (List.map XSelect.v x0.sub)), (22, vint (((x0.sub.length : Nat) : Int))), (23, vint q15.2)] [] s 34) ?_ ?_
      · exact ⟨(), trivial, tle⟩
      · rintro u16 ⟨v13, v14⟩ h _ _
        (try dsimp only at h ⊢)
        refine rg ?_
        refine AWp.seq_k fun K17 hK17 => ?_
        refine ws h (fun hc18 h => ?_) fun hc18 h => ?_
        · refine AWp.skip ?_
          refine hK17 _ ?_; clear hK17
          refine AWp.seq_k fun K19 hK19 => ?_
          refine AWp.block ?_
          obtain ⟨hn21, h⟩ := need_some h
          refine rgF ((And.intro ((isT hn21.1)) <| And.intro ((isT hn21.2)) <| (getD_enc XSelect.v XSelect.z hn21))) ?_
          obtain ⟨y22, hy22, h⟩ := call_some h
          refine r1C (H.p32 ((x0.sub.getD v14.toNat XSelect.z)) _ hy22) ?_
          refine hK19 _ ?_; clear hK19
          refine r1 ?_
          exact ⟨((mxI v13 y22), (IntKind.i64.wrap (v14 + 1))), h, (), trivial, tle⟩
        · refine AWp.exit ?_
          simp only [thenQ, blockQ, ↓reduceIte, Nat.reduceEqDiff, Nat.one_ne_zero, Nat.zero_ne_one, Nat.succ_ne_zero, reduceCtorEq]
          refine hK12 _ ?_; clear hK12
          refine rg ?_
          refine AWp.ret ?_
          obtain rfl := Option.some.inj h
          exact rtn [.tmp 2]
def b32 (F : F27_32) (x0 : XSelect) : Option (Int) := (call (s68 x0) fun y1 => (call (foldC (fun (q5 : Int) (y8 : XExpr) => (call (F.p27 y8) fun y14 => (some ((mxI q5 y14))))) y1.1 0) fun q6 => (call (foldC (fun (q18 : Int) (y21 : XSelect) => (call (F.p32 y21) fun y27 => (some ((mxI q18 y27))))) y1.2 q6) fun q19 => (some ((IntKind.i64.wrap (q19 + 1)))))))
theorem d32 (F : F27_32) (H : F.Ok) (x0 : XSelect) (r : Int) (h : b32 F x0 = some r) : Gives Tryz.prog 32 [.agg x0.v] (vint r) := by
  intro s
  unfold b32 at h
  refine acalls_of (fn := Tryz.f32) Tryz.func32 rfl (by decide) (by show 1 ≤ 27; decide) ?_
  rw [Tryz.ntmps32]
  refine rg ?_
  refine rg ?_
  obtain ⟨y1, hy1, h⟩ := call_some h
  refine rgC (c68 x0 _ hy1) ?_
  refine AWp.seq_k fun K2 hK2 => ?_
  refine rg ?_
  refine AWp.block ?_
  refine AWp.publish (t0 := 3) (x := ([vint 0], 3)) (by first | rfl | simp only [am, seval, reduceCtorEq]) fun e3 he3 => ?_
  change (s).box e3 = none at he3
  have ne3 : s.box e3 = none := by simpa only [setBox_ne, owns_box, ne_eq, not_false_eq_true] using he3
  refine AWp.weaken (st' := tst [(0, .agg x0.v), (1, .loc 1 0), (2, vint 0), (3, .ptr e3 0), (4, V.func 203 [] [.elt [.slice 10 (List.map XExpr.v y1.1)] 0]), (5, V.func 204 [] [.elt [.slice 5 (List.map XSelect.v y1.2)] 0]), (8, .tuple [V.func 203 [] [.elt [.slice 10 (List.map XExpr.v y1.1)] 0], V.func 204 [] [.elt [.slice 5 (List.map XSelect.v y1.2)] 0]]), (9, .agg x0.v), (10, .tuple [V.func 203 [] [.elt [.slice 10 (List.map XExpr.v y1.1)] 0], V.func 204 [] [.elt [.slice 5 (List.map XSelect.v y1.2)] 0]]), (11, V.func 203 [] [.elt [.slice 10 (List.map XExpr.v y1.1)] 0]), (12, V.func 204 [] [.elt [.slice 5 (List.map XSelect.v y1.2)] 0]), (13, V.func 203 [] [.elt [.slice 10 (List.map XExpr.v y1.1)] 0])] [(1, (x0.v, 48))] (s.setBox e3 ([vint 0], 3)) 27) ?_ ?_
  · refine le_tst ?_ ?_ ?_ (Heap.le.refl _) rfl
    · simp only [leE, St.publish, substV, XSelect.vs, am, seval, reduceCtorEq] <;> simp
    · simp only [okL, keyIn, Nat.reduceBEq, Bool.or_true, Bool.true_or, Bool.or_false, and_self]
    · simp only [leB, St.publish, substV, XSelect.vs, am, seval, reduceCtorEq] <;> (repeat' apply And.intro) <;> first | rfl | (simp only [XSelect.v_eq]; rfl) | simp [XSelect.v_eq]
  refine AWp.weaken (st' := tst [(3, .ptr e3 0), (5, V.func 204 [] [.elt [.slice 5 (List.map XSelect.v y1.2)] 0]), (13, V.func 203 [] [.elt [.slice 10 (List.map XExpr.v y1.1)] 0])] [] (s.setBox e3 ([vint 0], 3)) 27) ?_ ?_
  · refine le_tst ?_ ?_ ?_ (Heap.le.refl _) rfl
    · simp only [leE, tst, XSelect.vs, am, seval, reduceCtorEq] <;> simp
    · simp only [okL, keyIn, Nat.reduceBEq, Bool.or_true, Bool.true_or, Bool.or_false, and_self]
    · simp only [leB, tst, XSelect.vs, am, seval, reduceCtorEq] <;> (repeat' apply And.intro) <;> first | rfl | (simp only [XSelect.v_eq]; rfl) | simp [XSelect.v_eq]
  obtain ⟨q6, hq6, h⟩ := call_some h
  refine AWp.rangeS (X := Int) (α := XExpr) (enc := fun x => .agg x.v) (xs := y1.1) (seq203 y1.1) hq6 (fun q5 => (s.setBox e3 ([vint q5], 3))) (some (.both (.op 0 (.op 1 (.op 2 (.op 3 (.op 4 .fin))))) (.op 1 (.both (.op 0 (.op 2 (.op 3 (.op 4 .fin)))) (.op 2 (.op 0 (.op 3 (.op 4 .fin)))))))) rfl rfl rfl (by show 14 < 27; decide) (by decide +kernel) (by decide +kernel) ?_ (fun D9 => ?_)
  · rintro y8 w4 q7 h Z10 hZ10
    (try simp only [xm, Nat.reduceAdd, Nat.reduceLeDiff, seval, reduceCtorEq])
    refine hZ10 _ 6 y8.v 29 ?_ rfl rfl fun e11 he11 Z102 hZ102 => ?_
    · funext k; simp only [upd]; (repeat' split) <;> first | rfl | (simp_all; done)
    change ((s.setBox e3 ([vint w4], 3))).box e11 = none at he11
    have he11e3 : e11 ≠ e3 := fun hq => by rw [hq] at he11; simp only [setBox_same, setBox_ne, owns_box, reduceCtorEq, ne_eq, not_false_eq_true] at he11
    have ne11 : s.box e11 = none := by simpa only [setBox_ne, owns_box, ne_eq, not_false_eq_true, he11e3] using he11
    refine ⟨by decide +kernel, mixed, ?_⟩
    (try simp only [St.publish, substV, aopsO_op, aopsO_fin, aopsOK_eq, he11e3, he11e3.symm, xm, Nat.reduceAdd, Nat.reduceLeDiff, seval, reduceCtorEq])
    refine aopsO_both ?_ ?_
    · (try simp only [St.publish, substV, aopsO_op, aopsO_fin, aopsOK_eq, he11e3, he11e3.symm, xm, Nat.reduceAdd, Nat.reduceLeDiff, seval, reduceCtorEq])
      obtain ⟨y14, hy14, h⟩ := call_some h
      refine (H.p27 y8 _ hy14 _).go ?_
      (try simp only [St.publish, substV, aopsO_op, aopsO_fin, aopsOK_eq, he11e3, he11e3.symm, xm, Nat.reduceAdd, Nat.reduceLeDiff, seval, reduceCtorEq])
      obtain rfl := Option.some.inj h
      exact hZ102 _ (Heap.le.trans (b := ((s.setBox e3 ([vint ((mxI w4 y14))], 3)).setBox e11 (y8.v, 29))) (⟨fun k => .inl (by simp only [Heap.setBox, Heap.setOwn, owns_box, upd] <;> (repeat' split) <;> first | with_reducible rfl | (simp only [XExpr.v_eq, XSelect.v_eq]; done) | (simp_all; done) | (simp_all [XExpr.v_eq, XSelect.v_eq]; done)), fun _ => .inl (by first | (simp only [setBox_own]; done) | (simp only [setBox_own]; rfl) | rfl)⟩) (Heap.le.dropBox (by simp only [setBox_ne, owns_box, he11e3, he11e3.symm, ne_eq, not_false_eq_true, ne11]) _))
    · (try simp only [St.publish, substV, aopsO_op, aopsO_fin, aopsOK_eq, he11e3, he11e3.symm, xm, Nat.reduceAdd, Nat.reduceLeDiff, seval, reduceCtorEq])
      refine aopsO_both ?_ ?_
      · (try simp only [St.publish, substV, aopsO_op, aopsO_fin, aopsOK_eq, he11e3, he11e3.symm, xm, Nat.reduceAdd, Nat.reduceLeDiff, seval, reduceCtorEq])
        obtain ⟨y14, hy14, h⟩ := call_some h
        refine (H.p27 y8 _ hy14 _).go ?_
        (try simp only [St.publish, substV, aopsO_op, aopsO_fin, aopsOK_eq, he11e3, he11e3.symm, xm, Nat.reduceAdd, Nat.reduceLeDiff, seval, reduceCtorEq])
        obtain rfl := Option.some.inj h
        exact hZ102 _ (Heap.le.trans (b := ((s.setBox e3 ([vint ((mxI w4 y14))], 3)).setBox e11 (y8.v, 29))) (⟨fun k => .inl (by simp only [Heap.setBox, Heap.setOwn, owns_box, upd] <;> (repeat' split) <;> first | with_reducible rfl | (simp only [XExpr.v_eq, XSelect.v_eq]; done) | (simp_all; done) | (simp_all [XExpr.v_eq, XSelect.v_eq]; done)), fun _ => .inl (by first | (simp only [setBox_own]; done) | (simp only [setBox_own]; rfl) | rfl)⟩) (Heap.le.dropBox (by simp only [setBox_ne, owns_box, he11e3, he11e3.symm, ne_eq, not_false_eq_true, ne11]) _))
      · (try simp only [St.publish, substV, aopsO_op, aopsO_fin, aopsOK_eq, he11e3, he11e3.symm, xm, Nat.reduceAdd, Nat.reduceLeDiff, seval, reduceCtorEq])
        obtain ⟨y14, hy14, h⟩ := call_some h
        refine (H.p27 y8 _ hy14 _).go ?_
        (try simp only [St.publish, substV, aopsO_op, aopsO_fin, aopsOK_eq, he11e3, he11e3.symm, xm, Nat.reduceAdd, Nat.reduceLeDiff, seval, reduceCtorEq])
        obtain rfl := Option.some.inj h
        exact hZ102 _ (Heap.le.trans (b := ((s.setBox e3 ([vint ((mxI w4 y14))], 3)).setBox e11 (y8.v, 29))) (⟨fun k => .inl (by simp only [Heap.setBox, Heap.setOwn, owns_box, upd] <;> (repeat' split) <;> first | with_reducible rfl | (simp only [XExpr.v_eq, XSelect.v_eq]; done) | (simp_all; done) | (simp_all [XExpr.v_eq, XSelect.v_eq]; done)), fun _ => .inl (by first | (simp only [setBox_own]; done) | (simp only [setBox_own]; rfl) | rfl)⟩) (Heap.le.dropBox (by simp only [setBox_ne, owns_box, he11e3, he11e3.symm, ne_eq, not_false_eq_true, ne11]) _))
  · refine hK2 _ ?_; clear hK2
    refine AWp.seq_k fun K15 hK15 => ?_
    refine AWp.reg fun Z16 hZ16 => ?_
    (try simp only [tstD, xm, Nat.reduceAdd, Nat.reduceLeDiff, seval, reduceCtorEq])
    refine hZ16 _ ?_; clear hZ16 Z16
    refine AWp.block ?_
    refine AWp.weaken (st' := tstD [Go.Am.mark D9] [(3, .ptr e3 0), (19, V.func 204 [] [.elt [.slice 5 (List.map XSelect.v y1.2)] 0])] [] (s.setBox e3 ([vint q6], 3)) 27) ?_ ?_
    · refine le_tstD ?_ ?_ ?_ (Heap.le.refl _) rfl
      · simp only [leE, tstD, tstD, XExpr.vs, XSelect.vs, am, seval, reduceCtorEq] <;> simp
      · simp only [okL, keyIn, Nat.reduceBEq, Bool.or_true, Bool.true_or, Bool.or_false, and_self]
      · simp only [leB, tstD, tstD, XExpr.vs, XSelect.vs, am, seval, reduceCtorEq] <;> (repeat' apply And.intro) <;> first | rfl | (simp only [XExpr.v_eq, XSelect.v_eq]; rfl) | simp [XExpr.v_eq, XSelect.v_eq]
    obtain ⟨q19, hq19, h⟩ := call_some h
    refine AWp.rangeS (X := Int) (α := XSelect) (enc := fun x => .agg x.v) (xs := y1.2) (seq204 y1.2) hq19 (fun q18 => (s.setBox e3 ([vint q18], 3))) (some (.both (.op 0 (.op 1 (.op 2 (.op 3 (.op 4 .fin))))) (.op 1 (.both (.op 0 (.op 2 (.op 3 (.op 4 .fin)))) (.op 2 (.op 0 (.op 3 (.op 4 .fin)))))))) rfl rfl rfl (by show 20 < 27; decide) (by decide +kernel) (by decide +kernel) ?_ (fun D22 => ?_)
    · rintro y21 w17 q20 h Z23 hZ23
      (try simp only [tstD, xm, Nat.reduceAdd, Nat.reduceLeDiff, seval, reduceCtorEq])
      refine hZ23 _ 7 y21.v 48 ?_ rfl rfl fun e24 he24 Z232 hZ232 => ?_
      · funext k; simp only [upd]; (repeat' split) <;> first | rfl | (simp_all; done)
      change ((s.setBox e3 ([vint w17], 3))).box e24 = none at he24
      have he24e3 : e24 ≠ e3 := fun hq => by rw [hq] at he24; simp only [setBox_same, setBox_ne, owns_box, reduceCtorEq, ne_eq, not_false_eq_true] at he24
      have ne24 : s.box e24 = none := by simpa only [setBox_ne, owns_box, ne_eq, not_false_eq_true, he24e3] using he24
      refine ⟨by decide +kernel, mixed, ?_⟩
      (try simp only [tstD, St.publish, substV, aopsO_op, aopsO_fin, aopsOK_eq, he24e3, he24e3.symm, xm, Nat.reduceAdd, Nat.reduceLeDiff, seval, reduceCtorEq])
      refine aopsO_both ?_ ?_
      · (try simp only [tstD, St.publish, substV, aopsO_op, aopsO_fin, aopsOK_eq, he24e3, he24e3.symm, xm, Nat.reduceAdd, Nat.reduceLeDiff, seval, reduceCtorEq])
        obtain ⟨y27, hy27, h⟩ := call_some h
        refine (H.p32 y21 _ hy27 _).go ?_
        (try simp only [tstD, St.publish, substV, aopsO_op, aopsO_fin, aopsOK_eq, he24e3, he24e3.symm, xm, Nat.reduceAdd, Nat.reduceLeDiff, seval, reduceCtorEq])
        obtain rfl := Option.some.inj h
        exact hZ232 _ (Heap.le.trans (b := ((s.setBox e3 ([vint ((mxI w17 y27))], 3)).setBox e24 (y21.v, 48))) (⟨fun k => .inl (by simp only [Heap.setBox, Heap.setOwn, owns_box, upd] <;> (repeat' split) <;> first | with_reducible rfl | (simp only [XExpr.v_eq, XSelect.v_eq]; done) | (simp_all; done) | (simp_all [XExpr.v_eq, XSelect.v_eq]; done)), fun _ => .inl (by first | (simp only [setBox_own]; done) | (simp only [setBox_own]; rfl) | rfl)⟩) (Heap.le.dropBox (by simp only [setBox_ne, owns_box, he24e3, he24e3.symm, ne_eq, not_false_eq_true, ne24]) _))
      · (try simp only [tstD, St.publish, substV, aopsO_op, aopsO_fin, aopsOK_eq, he24e3, he24e3.symm, xm, Nat.reduceAdd, Nat.reduceLeDiff, seval, reduceCtorEq])
        refine aopsO_both ?_ ?_
        · (try simp only [tstD, St.publish, substV, aopsO_op, aopsO_fin, aopsOK_eq, he24e3, he24e3.symm, xm, Nat.reduceAdd, Nat.reduceLeDiff, seval, reduceCtorEq])
          obtain ⟨y27, hy27, h⟩ := call_some h
          refine (H.p32 y21 _ hy27 _).go ?_
          (try simp only [tstD, St.publish, substV, aopsO_op, aopsO_fin, aopsOK_eq, he24e3, he24e3.symm, xm, Nat.reduceAdd, Nat.reduceLeDiff, seval, reduceCtorEq])
          obtain rfl := Option.some.inj h
          exact hZ232 _ (Heap.le.trans (b := ((s.setBox e3 ([vint ((mxI w17 y27))], 3)).setBox e24 (y21.v, 48))) (⟨fun k => .inl (by simp only [Heap.setBox, Heap.setOwn, owns_box, upd] <;> (repeat' split) <;> first | with_reducible rfl | (simp only [XExpr.v_eq, XSelect.v_eq]; done) | (simp_all; done) | (simp_all [XExpr.v_eq, XSelect.v_eq]; done)), fun _ => .inl (by first | (simp only [setBox_own]; done) | (simp only [setBox_own]; rfl) | rfl)⟩) (Heap.le.dropBox (by simp only [setBox_ne, owns_box, he24e3, he24e3.symm, ne_eq, not_false_eq_true, ne24]) _))
        · (try simp only [tstD, St.publish, substV, aopsO_op, aopsO_fin, aopsOK_eq, he24e3, he24e3.symm, xm, Nat.reduceAdd, Nat.reduceLeDiff, seval, reduceCtorEq])
          obtain ⟨y27, hy27, h⟩ := call_some h
          refine (H.p32 y21 _ hy27 _).go ?_
          (try simp only [tstD, St.publish, substV, aopsO_op, aopsO_fin, aopsOK_eq, he24e3, he24e3.symm, xm, Nat.reduceAdd, Nat.reduceLeDiff, seval, reduceCtorEq])
          obtain rfl := Option.some.inj h
          exact hZ232 _ (Heap.le.trans (b := ((s.setBox e3 ([vint ((mxI w17 y27))], 3)).setBox e24 (y21.v, 48))) (⟨fun k => .inl (by simp only [Heap.setBox, Heap.setOwn, owns_box, upd] <;> (repeat' split) <;> first | with_reducible rfl | (simp only [XExpr.v_eq, XSelect.v_eq]; done) | (simp_all; done) | (simp_all [XExpr.v_eq, XSelect.v_eq]; done)), fun _ => .inl (by first | (simp only [setBox_own]; done) | (simp only [setBox_own]; rfl) | rfl)⟩) (Heap.le.dropBox (by simp only [setBox_ne, owns_box, he24e3, he24e3.symm, ne_eq, not_false_eq_true, ne24]) _))
    · refine hK15 _ ?_; clear hK15
      refine AWp.reg fun Z28 hZ28 => ?_
      (try simp only [tstD, xm, Nat.reduceAdd, Nat.reduceLeDiff, seval, reduceCtorEq])
      refine hZ28 _ ?_; clear hZ28 Z28
      refine AWp.ret ?_
      obtain rfl := Option.some.inj h
      refine ret_go (vs := [vint ((IntKind.i64.wrap (q19 + 1)))]) (v := vint ((IntKind.i64.wrap (q19 + 1)))) (by show resV Tryz.prog _ [.tmp 2] = _; simp only [resV, XExpr.vs, XSelect.vs, am, seval, reduceCtorEq]) (Wk.refl _) (Heap.le.trans (Heap.le.dropBox (by simp only [setBox_ne, owns_box, ne_eq, not_false_eq_true, ne3]) _) (Heap.le.refl _)) ⟨?_, rfl⟩
      rfl
def F27_32.fix : Nat → F27_32
  | 0 => ⟨fun _ => none, fun _ => none⟩
  | n + 1 => ⟨b27 (F27_32.fix n), b32 (F27_32.fix n)⟩
theorem F27_32.ok : ∀ n, F27_32.Ok (F27_32.fix n)
  | 0 => ⟨(fun _ _ h => by cases h), (fun _ _ h => by cases h)⟩
  | n + 1 => ⟨d27 _ (F27_32.ok n), d32 _ (F27_32.ok n)⟩
def s27 := (F27_32.fix manyC).p27
theorem c27 : ∀ (x0 : XExpr) (r : Int), s27 x0 = some r → Gives Tryz.prog 27 [.agg x0.v] (vint r) := (F27_32.ok manyC).p27
def s32 := (F27_32.fix manyC).p32
theorem c32 : ∀ (x0 : XSelect) (r : Int), s32 x0 = some r → Gives Tryz.prog 32 [.agg x0.v] (vint r) := (F27_32.ok manyC).p32
structure F29_34 where
  p29 : XExpr → Option (Int)
  p34 : XSelect → Option (Int)
structure F29_34.Ok (F : F29_34) : Prop where
  p29 : ∀ (x0 : XExpr) (r : Int), F.p29 x0 = some r → Gives Tryz.prog 29 [.agg x0.v] (vint r)
  p34 : ∀ (x0 : XSelect) (r : Int), F.p34 x0 = some r → Gives Tryz.prog 34 [.agg x0.v] (vint r)
def b29 (F : F29_34) (x0 : XExpr) : Option (Int) := (join (fun (u3 : Int → Option (Int)) => (way ((x0.op == 3)) (u3 (mxI 0 x0.n)) (u3 0))) (fun (q2 : Int) => (loopC (fun (u9 : Int × Int → Option (Int)) (q8 : Int × Int) => (way ((decide (q8.2 < (((x0.args.length : Nat) : Int))))) (need (0 ≤ q8.2 ∧ q8.2 < ((x0.args.length : Nat) : Int)) (call (F.p29 ((x0.args.getD q8.2.toNat XExpr.z))) fun y15 => (u9 ((mxI q8.1 y15), (IntKind.i64.wrap (q8.2 + 1)))))) (loopC (fun (u20 : Int × Int → Option (Int)) (q19 : Int × Int) => (way ((decide (q19.2 < (((x0.sub.length : Nat) : Int))))) (need (0 ≤ q19.2 ∧ q19.2 < ((x0.sub.length : Nat) : Int)) (call (F.p34 ((x0.sub.getD q19.2.toNat XSelect.z))) fun y26 => (u20 ((mxI q19.1 y26), (IntKind.i64.wrap (q19.2 + 1)))))) (some q19.1))) manyC (q8.1, 0)))) manyC (q2, 0))))
theorem d29 (F : F29_34) (H : F.Ok) (x0 : XExpr) (r : Int) (h : b29 F x0 = some r) : Gives Tryz.prog 29 [.agg x0.v] (vint r) := by
  intro s
  unfold b29 at h
  refine acalls_of (fn := Tryz.f29) Tryz.func29 rfl (by decide) (by show 1 ≤ 40; decide) ?_
  rw [Tryz.ntmps29]
  refine rg ?_
  refine rg ?_
  refine AWp.joinS (X := Int) (G := Unit) h (fun _ => True) (fun q2 _ => tst [(1, .loc 1 0), (3, vint q2)] [(1, (x0.v, 29))] s 40) (fun u3 h => ?_) ?_
  · refine rg ?_
    refine ws h (fun hc4 h => ?_) fun hc4 h => ?_
    · refine r1 ?_
      exact ⟨(mxI 0 x0.n), h, (), trivial, tle⟩
    · refine AWp.skip ?_
      exact ⟨0, h, (), trivial, tle⟩
  · rintro v1 h _ _
    refine AWp.seq_k fun K5 hK5 => ?_
    refine rg ?_
    refine AWp.block ?_
    refine AWp.loopS (X := Int × Int) (G := Unit) h (fun _ => True) (fun q8 _ => tst [(1, .loc 1 0), (3, vint q8.1), (16, .slice 10 (List.map XExpr.v x0.args)), (17, vint (((x0.args.length : Nat) : Int))), (18, vint q8.2)] [(1, (x0.v, 29))] s 40) ?_ ?_
    · exact ⟨(), trivial, tle⟩
    · rintro u9 ⟨v6, v7⟩ h _ _
      (try dsimp only at h ⊢)
      refine rg ?_
      refine AWp.seq_k fun K10 hK10 => ?_
      refine ws h (fun hc11 h => ?_) fun hc11 h => ?_
      · refine AWp.skip ?_
        refine hK10 _ ?_; clear hK10
        refine AWp.seq_k fun K12 hK12 => ?_
        refine AWp.block ?_
        obtain ⟨hn14, h⟩ := need_some h
        refine rgF ((And.intro ((isT hn14.1)) <| And.intro ((isT hn14.2)) <| (getD_enc XExpr.v XExpr.z hn14))) ?_
        obtain ⟨y15, hy15, h⟩ := call_some h
        refine r1C (H.p29 ((x0.args.getD v7.toNat XExpr.z)) _ hy15) ?_
        refine hK12 _ ?_; clear hK12
        refine r1 ?_
        exact ⟨((mxI v6 y15), (IntKind.i64.wrap (v7 + 1))), h, (), trivial, tle⟩
      · refine AWp.exit ?_
        simp only [thenQ, blockQ, ↓reduceIte, Nat.reduceEqDiff, Nat.one_ne_zero, Nat.zero_ne_one, Nat.succ_ne_zero, reduceCtorEq]
        refine hK5 _ ?_; clear hK5
        refine AWp.seq_k fun K16 hK16 => ?_
        refine rg ?_
        refine AWp.block ?_
        refine AWp.loopS (X := Int × Int) (G := Unit) h (fun _ => True) (fun q19 _ => tst [(3, vint q19.1), (28, .slice 5 (List.map XSelect.v x0.sub)), (29, vint (((x0.sub.length : Nat) : Int))), (30, vint q19.2)] [] s 40) ?_ ?_
        · exact ⟨(), trivial, tle⟩
        · rintro u20 ⟨v17, v18⟩ h _ _
          (try dsimp only at h ⊢)
          refine rg ?_
          refine AWp.seq_k fun K21 hK21 => ?_
          refine ws h (fun hc22 h => ?_) fun hc22 h => ?_
          · refine AWp.skip ?_
            refine hK21 _ ?_; clear hK21
            refine AWp.seq_k fun K23 hK23 => ?_
            refine AWp.block ?_
            obtain ⟨hn25, h⟩ := need_some h
            refine rgF ((And.intro ((isT hn25.1)) <| And.intro ((isT hn25.2)) <| (getD_enc XSelect.v XSelect.z hn25))) ?_
            obtain ⟨y26, hy26, h⟩ := call_some h
            refine r1C (H.p34 ((x0.sub.getD v18.toNat XSelect.z)) _ hy26) ?_
            refine hK23 _ ?_; clear hK23
            refine r1 ?_
            exact ⟨((mxI v17 y26), (IntKind.i64.wrap (v18 + 1))), h, (), trivial, tle⟩
          · refine AWp.exit ?_
            simp only [thenQ, blockQ, ↓reduceIte, Nat.reduceEqDiff, Nat.one_ne_zero, Nat.zero_ne_one, Nat.succ_ne_zero, reduceCtorEq]
            refine hK16 _ ?_; clear hK16
            refine rg ?_
            refine AWp.ret ?_
            obtain rfl := Option.some.inj h
            exact rtn [.tmp 2]
end Go.Proofs.YtopgndakadileaaGreatDoor.Ex
namespace Go.Proofs.YtopgndakadileaaGreatDoor.Ex
open Go.Am Go.Ex Go.Proofs.YtopgndakadileaaGreatDoor
def b34 (F : F29_34) (x0 : XSelect) : Option (Int) := (call (s68 x0) fun y1 => (call (foldC (fun (q5 : Int) (y8 : XExpr) => (call (F.p29 y8) fun y14 => (some ((mxI q5 y14))))) y1.1 0) fun q6 => (call (foldC (fun (q18 : Int) (y21 : XSelect) => (call (F.p34 y21) fun y27 => (some ((mxI q18 y27))))) y1.2 q6) fun q19 => (some q19))))
theorem d34 (F : F29_34) (H : F.Ok) (x0 : XSelect) (r : Int) (h : b34 F x0 = some r) : Gives Tryz.prog 34 [.agg x0.v] (vint r) := by
  intro s
  unfold b34 at h
  refine acalls_of (fn := Tryz.f34) Tryz.func34 rfl (by decide) (by show 1 ≤ 26; decide) ?_
  rw [Tryz.ntmps34]
  refine rg ?_
  refine rg ?_
  obtain ⟨y1, hy1, h⟩ := call_some h
  refine rgC (c68 x0 _ hy1) ?_
  refine AWp.seq_k fun K2 hK2 => ?_
  refine rg ?_
  refine AWp.block ?_
  refine AWp.publish (t0 := 3) (x := ([vint 0], 3)) (by first | rfl | simp only [am, seval, reduceCtorEq]) fun e3 he3 => ?_
  change (s).box e3 = none at he3
  have ne3 : s.box e3 = none := by simpa only [setBox_ne, owns_box, ne_eq, not_false_eq_true] using he3
  refine AWp.weaken (st' := tst [(0, .agg x0.v), (1, .loc 1 0), (2, vint 0), (3, .ptr e3 0), (4, V.func 203 [] [.elt [.slice 10 (List.map XExpr.v y1.1)] 0]), (5, V.func 204 [] [.elt [.slice 5 (List.map XSelect.v y1.2)] 0]), (8, .tuple [V.func 203 [] [.elt [.slice 10 (List.map XExpr.v y1.1)] 0], V.func 204 [] [.elt [.slice 5 (List.map XSelect.v y1.2)] 0]]), (9, .agg x0.v), (10, .tuple [V.func 203 [] [.elt [.slice 10 (List.map XExpr.v y1.1)] 0], V.func 204 [] [.elt [.slice 5 (List.map XSelect.v y1.2)] 0]]), (11, V.func 203 [] [.elt [.slice 10 (List.map XExpr.v y1.1)] 0]), (12, V.func 204 [] [.elt [.slice 5 (List.map XSelect.v y1.2)] 0]), (13, V.func 203 [] [.elt [.slice 10 (List.map XExpr.v y1.1)] 0])] [(1, (x0.v, 48))] (s.setBox e3 ([vint 0], 3)) 26) ?_ ?_
  · refine le_tst ?_ ?_ ?_ (Heap.le.refl _) rfl
    · simp only [leE, St.publish, substV, XSelect.vs, am, seval, reduceCtorEq] <;> simp
    · simp only [okL, keyIn, Nat.reduceBEq, Bool.or_true, Bool.true_or, Bool.or_false, and_self]
    · simp only [leB, St.publish, substV, XSelect.vs, am, seval, reduceCtorEq] <;> (repeat' apply And.intro) <;> first | rfl | (simp only [XSelect.v_eq]; rfl) | simp [XSelect.v_eq]
  refine AWp.weaken (st' := tst [(3, .ptr e3 0), (5, V.func 204 [] [.elt [.slice 5 (List.map XSelect.v y1.2)] 0]), (13, V.func 203 [] [.elt [.slice 10 (List.map XExpr.v y1.1)] 0])] [] (s.setBox e3 ([vint 0], 3)) 26) ?_ ?_
  · refine le_tst ?_ ?_ ?_ (Heap.le.refl _) rfl
    · simp only [leE, tst, XSelect.vs, am, seval, reduceCtorEq] <;> simp
    · simp only [okL, keyIn, Nat.reduceBEq, Bool.or_true, Bool.true_or, Bool.or_false, and_self]
    · simp only [leB, tst, XSelect.vs, am, seval, reduceCtorEq] <;> (repeat' apply And.intro) <;> first | rfl | (simp only [XSelect.v_eq]; rfl) | simp [XSelect.v_eq]
  obtain ⟨q6, hq6, h⟩ := call_some h
  refine AWp.rangeS (X := Int) (α := XExpr) (enc := fun x => .agg x.v) (xs := y1.1) (seq203 y1.1) hq6 (fun q5 => (s.setBox e3 ([vint q5], 3))) (some (.both (.op 0 (.op 1 (.op 2 (.op 3 (.op 4 .fin))))) (.op 1 (.both (.op 0 (.op 2 (.op 3 (.op 4 .fin)))) (.op 2 (.op 0 (.op 3 (.op 4 .fin)))))))) rfl rfl rfl (by show 14 < 26; decide) (by decide +kernel) (by decide +kernel) ?_ (fun D9 => ?_)
  · rintro y8 w4 q7 h Z10 hZ10
    (try simp only [xm, Nat.reduceAdd, Nat.reduceLeDiff, seval, reduceCtorEq])
    refine hZ10 _ 6 y8.v 29 ?_ rfl rfl fun e11 he11 Z102 hZ102 => ?_
    · funext k; simp only [upd]; (repeat' split) <;> first | rfl | (simp_all; done)
    change ((s.setBox e3 ([vint w4], 3))).box e11 = none at he11
    have he11e3 : e11 ≠ e3 := fun hq => by rw [hq] at he11; simp only [setBox_same, setBox_ne, owns_box, reduceCtorEq, ne_eq, not_false_eq_true] at he11
    have ne11 : s.box e11 = none := by simpa only [setBox_ne, owns_box, ne_eq, not_false_eq_true, he11e3] using he11
    refine ⟨by decide +kernel, mixed, ?_⟩
    (try simp only [St.publish, substV, aopsO_op, aopsO_fin, aopsOK_eq, he11e3, he11e3.symm, xm, Nat.reduceAdd, Nat.reduceLeDiff, seval, reduceCtorEq])
    refine aopsO_both ?_ ?_
    · (try simp only [St.publish, substV, aopsO_op, aopsO_fin, aopsOK_eq, he11e3, he11e3.symm, xm, Nat.reduceAdd, Nat.reduceLeDiff, seval, reduceCtorEq])
      obtain ⟨y14, hy14, h⟩ := call_some h
      refine (H.p29 y8 _ hy14 _).go ?_
      (try simp only [St.publish, substV, aopsO_op, aopsO_fin, aopsOK_eq, he11e3, he11e3.symm, xm, Nat.reduceAdd, Nat.reduceLeDiff, seval, reduceCtorEq])
      obtain rfl := Option.some.inj h
      exact hZ102 _ (Heap.le.trans (b := ((s.setBox e3 ([vint ((mxI w4 y14))], 3)).setBox e11 (y8.v, 29))) (⟨fun k => .inl (by simp only [Heap.setBox, Heap.setOwn, owns_box, upd] <;> (repeat' split) <;> first | with_reducible rfl | (simp only [XExpr.v_eq, XSelect.v_eq]; done) | (simp_all; done) | (simp_all [XExpr.v_eq, XSelect.v_eq]; done)), fun _ => .inl (by first | (simp only [setBox_own]; done) | (simp only [setBox_own]; rfl) | rfl)⟩) (Heap.le.dropBox (by simp only [setBox_ne, owns_box, he11e3, he11e3.symm, ne_eq, not_false_eq_true, ne11]) _))
    · (try simp only [St.publish, substV, aopsO_op, aopsO_fin, aopsOK_eq, he11e3, he11e3.symm, xm, Nat.reduceAdd, Nat.reduceLeDiff, seval, reduceCtorEq])
      refine aopsO_both ?_ ?_
      · (try simp only [St.publish, substV, aopsO_op, aopsO_fin, aopsOK_eq, he11e3, he11e3.symm, xm, Nat.reduceAdd, Nat.reduceLeDiff, seval, reduceCtorEq])
        obtain ⟨y14, hy14, h⟩ := call_some h
        refine (H.p29 y8 _ hy14 _).go ?_
        (try simp only [St.publish, substV, aopsO_op, aopsO_fin, aopsOK_eq, he11e3, he11e3.symm, xm, Nat.reduceAdd, Nat.reduceLeDiff, seval, reduceCtorEq])
        obtain rfl := Option.some.inj h
        exact hZ102 _ (Heap.le.trans (b := ((s.setBox e3 ([vint ((mxI w4 y14))], 3)).setBox e11 (y8.v, 29))) (⟨fun k => .inl (by simp only [Heap.setBox, Heap.setOwn, owns_box, upd] <;> (repeat' split) <;> first | with_reducible rfl | (simp only [XExpr.v_eq, XSelect.v_eq]; done) | (simp_all; done) | (simp_all [XExpr.v_eq, XSelect.v_eq]; done)), fun _ => .inl (by first | (simp only [setBox_own]; done) | (simp only [setBox_own]; rfl) | rfl)⟩) (Heap.le.dropBox (by simp only [setBox_ne, owns_box, he11e3, he11e3.symm, ne_eq, not_false_eq_true, ne11]) _))
      · (try simp only [St.publish, substV, aopsO_op, aopsO_fin, aopsOK_eq, he11e3, he11e3.symm, xm, Nat.reduceAdd, Nat.reduceLeDiff, seval, reduceCtorEq])
        obtain ⟨y14, hy14, h⟩ := call_some h
        refine (H.p29 y8 _ hy14 _).go ?_
        (try simp only [St.publish, substV, aopsO_op, aopsO_fin, aopsOK_eq, he11e3, he11e3.symm, xm, Nat.reduceAdd, Nat.reduceLeDiff, seval, reduceCtorEq])
        obtain rfl := Option.some.inj h
        exact hZ102 _ (Heap.le.trans (b := ((s.setBox e3 ([vint ((mxI w4 y14))], 3)).setBox e11 (y8.v, 29))) (⟨fun k => .inl (by simp only [Heap.setBox, Heap.setOwn, owns_box, upd] <;> (repeat' split) <;> first | with_reducible rfl | (simp only [XExpr.v_eq, XSelect.v_eq]; done) | (simp_all; done) | (simp_all [XExpr.v_eq, XSelect.v_eq]; done)), fun _ => .inl (by first | (simp only [setBox_own]; done) | (simp only [setBox_own]; rfl) | rfl)⟩) (Heap.le.dropBox (by simp only [setBox_ne, owns_box, he11e3, he11e3.symm, ne_eq, not_false_eq_true, ne11]) _))
  · refine hK2 _ ?_; clear hK2
    refine AWp.seq_k fun K15 hK15 => ?_
    refine AWp.reg fun Z16 hZ16 => ?_
    (try simp only [tstD, xm, Nat.reduceAdd, Nat.reduceLeDiff, seval, reduceCtorEq])
    refine hZ16 _ ?_; clear hZ16 Z16
    refine AWp.block ?_
    refine AWp.weaken (st' := tstD [Go.Am.mark D9] [(3, .ptr e3 0), (19, V.func 204 [] [.elt [.slice 5 (List.map XSelect.v y1.2)] 0])] [] (s.setBox e3 ([vint q6], 3)) 26) ?_ ?_
    · refine le_tstD ?_ ?_ ?_ (Heap.le.refl _) rfl
      · simp only [leE, tstD, tstD, XExpr.vs, XSelect.vs, am, seval, reduceCtorEq] <;> simp
      · simp only [okL, keyIn, Nat.reduceBEq, Bool.or_true, Bool.true_or, Bool.or_false, and_self]
      · simp only [leB, tstD, tstD, XExpr.vs, XSelect.vs, am, seval, reduceCtorEq] <;> (repeat' apply And.intro) <;> first | rfl | (simp only [XExpr.v_eq, XSelect.v_eq]; rfl) | simp [XExpr.v_eq, XSelect.v_eq]
    obtain ⟨q19, hq19, h⟩ := call_some h
    refine AWp.rangeS (X := Int) (α := XSelect) (enc := fun x => .agg x.v) (xs := y1.2) (seq204 y1.2) hq19 (fun q18 => (s.setBox e3 ([vint q18], 3))) (some (.both (.op 0 (.op 1 (.op 2 (.op 3 (.op 4 .fin))))) (.op 1 (.both (.op 0 (.op 2 (.op 3 (.op 4 .fin)))) (.op 2 (.op 0 (.op 3 (.op 4 .fin)))))))) rfl rfl rfl (by show 20 < 26; decide) (by decide +kernel) (by decide +kernel) ?_ (fun D22 => ?_)
    · rintro y21 w17 q20 h Z23 hZ23
      (try simp only [tstD, xm, Nat.reduceAdd, Nat.reduceLeDiff, seval, reduceCtorEq])
      refine hZ23 _ 7 y21.v 48 ?_ rfl rfl fun e24 he24 Z232 hZ232 => ?_
      · funext k; simp only [upd]; (repeat' split) <;> first | rfl | (simp_all; done)
      change ((s.setBox e3 ([vint w17], 3))).box e24 = none at he24
      have he24e3 : e24 ≠ e3 := fun hq => by rw [hq] at he24; simp only [setBox_same, setBox_ne, owns_box, reduceCtorEq, ne_eq, not_false_eq_true] at he24
      have ne24 : s.box e24 = none := by simpa only [setBox_ne, owns_box, ne_eq, not_false_eq_true, he24e3] using he24
      refine ⟨by decide +kernel, mixed, ?_⟩
      (try simp only [tstD, St.publish, substV, aopsO_op, aopsO_fin, aopsOK_eq, he24e3, he24e3.symm, xm, Nat.reduceAdd, Nat.reduceLeDiff, seval, reduceCtorEq])
      refine aopsO_both ?_ ?_
      · (try simp only [tstD, St.publish, substV, aopsO_op, aopsO_fin, aopsOK_eq, he24e3, he24e3.symm, xm, Nat.reduceAdd, Nat.reduceLeDiff, seval, reduceCtorEq])
        obtain ⟨y27, hy27, h⟩ := call_some h
        refine (H.p34 y21 _ hy27 _).go ?_
        (try simp only [tstD, St.publish, substV, aopsO_op, aopsO_fin, aopsOK_eq, he24e3, he24e3.symm, xm, Nat.reduceAdd, Nat.reduceLeDiff, seval, reduceCtorEq])
        obtain rfl := Option.some.inj h
        exact hZ232 _ (Heap.le.trans (b := ((s.setBox e3 ([vint ((mxI w17 y27))], 3)).setBox e24 (y21.v, 48))) (⟨fun k => .inl (by simp only [Heap.setBox, Heap.setOwn, owns_box, upd] <;> (repeat' split) <;> first | with_reducible rfl | (simp only [XExpr.v_eq, XSelect.v_eq]; done) | (simp_all; done) | (simp_all [XExpr.v_eq, XSelect.v_eq]; done)), fun _ => .inl (by first | (simp only [setBox_own]; done) | (simp only [setBox_own]; rfl) | rfl)⟩) (Heap.le.dropBox (by simp only [setBox_ne, owns_box, he24e3, he24e3.symm, ne_eq, not_false_eq_true, ne24]) _))
      · (try simp only [tstD, St.publish, substV, aopsO_op, aopsO_fin, aopsOK_eq, he24e3, he24e3.symm, xm, Nat.reduceAdd, Nat.reduceLeDiff, seval, reduceCtorEq])
        refine aopsO_both ?_ ?_
        · (try simp only [tstD, St.publish, substV, aopsO_op, aopsO_fin, aopsOK_eq, he24e3, he24e3.symm, xm, Nat.reduceAdd, Nat.reduceLeDiff, seval, reduceCtorEq])
          obtain ⟨y27, hy27, h⟩ := call_some h
          refine (H.p34 y21 _ hy27 _).go ?_
          (try simp only [tstD, St.publish, substV, aopsO_op, aopsO_fin, aopsOK_eq, he24e3, he24e3.symm, xm, Nat.reduceAdd, Nat.reduceLeDiff, seval, reduceCtorEq])
          obtain rfl := Option.some.inj h
          exact hZ232 _ (Heap.le.trans (b := ((s.setBox e3 ([vint ((mxI w17 y27))], 3)).setBox e24 (y21.v, 48))) (⟨fun k => .inl (by simp only [Heap.setBox, Heap.setOwn, owns_box, upd] <;> (repeat' split) <;> first | with_reducible rfl | (simp only [XExpr.v_eq, XSelect.v_eq]; done) | (simp_all; done) | (simp_all [XExpr.v_eq, XSelect.v_eq]; done)), fun _ => .inl (by first | (simp only [setBox_own]; done) | (simp only [setBox_own]; rfl) | rfl)⟩) (Heap.le.dropBox (by simp only [setBox_ne, owns_box, he24e3, he24e3.symm, ne_eq, not_false_eq_true, ne24]) _))
        · (try simp only [tstD, St.publish, substV, aopsO_op, aopsO_fin, aopsOK_eq, he24e3, he24e3.symm, xm, Nat.reduceAdd, Nat.reduceLeDiff, seval, reduceCtorEq])
          obtain ⟨y27, hy27, h⟩ := call_some h
          refine (H.p34 y21 _ hy27 _).go ?_
          (try simp only [tstD, St.publish, substV, aopsO_op, aopsO_fin, aopsOK_eq, he24e3, he24e3.symm, xm, Nat.reduceAdd, Nat.reduceLeDiff, seval, reduceCtorEq])
          obtain rfl := Option.some.inj h
          exact hZ232 _ (Heap.le.trans (b := ((s.setBox e3 ([vint ((mxI w17 y27))], 3)).setBox e24 (y21.v, 48))) (⟨fun k => .inl (by simp only [Heap.setBox, Heap.setOwn, owns_box, upd] <;> (repeat' split) <;> first | with_reducible rfl | (simp only [XExpr.v_eq, XSelect.v_eq]; done) | (simp_all; done) | (simp_all [XExpr.v_eq, XSelect.v_eq]; done)), fun _ => .inl (by first | (simp only [setBox_own]; done) | (simp only [setBox_own]; rfl) | rfl)⟩) (Heap.le.dropBox (by simp only [setBox_ne, owns_box, he24e3, he24e3.symm, ne_eq, not_false_eq_true, ne24]) _))
    · refine hK15 _ ?_; clear hK15
      refine AWp.reg fun Z28 hZ28 => ?_
      (try simp only [tstD, xm, Nat.reduceAdd, Nat.reduceLeDiff, seval, reduceCtorEq])
      refine hZ28 _ ?_; clear hZ28 Z28
      refine AWp.ret ?_
      obtain rfl := Option.some.inj h
      refine ret_go (vs := [vint q19]) (v := vint q19) (by show resV Tryz.prog _ [.tmp 2] = _; simp only [resV, XExpr.vs, XSelect.vs, am, seval, reduceCtorEq]) (Wk.refl _) (Heap.le.trans (Heap.le.dropBox (by simp only [setBox_ne, owns_box, ne_eq, not_false_eq_true, ne3]) _) (Heap.le.refl _)) ⟨?_, rfl⟩
      rfl
def F29_34.fix : Nat → F29_34
  | 0 => ⟨fun _ => none, fun _ => none⟩
  | n + 1 => ⟨b29 (F29_34.fix n), b34 (F29_34.fix n)⟩
theorem F29_34.ok : ∀ n, F29_34.Ok (F29_34.fix n)
  | 0 => ⟨(fun _ _ h => by cases h), (fun _ _ h => by cases h)⟩
  | n + 1 => ⟨d29 _ (F29_34.ok n), d34 _ (F29_34.ok n)⟩
def s34 := (F29_34.fix manyC).p34
theorem c34 : ∀ (x0 : XSelect) (r : Int), s34 x0 = some r → Gives Tryz.prog 34 [.agg x0.v] (vint r) := (F29_34.ok manyC).p34
end Go.Proofs.YtopgndakadileaaGreatDoor.Ex
