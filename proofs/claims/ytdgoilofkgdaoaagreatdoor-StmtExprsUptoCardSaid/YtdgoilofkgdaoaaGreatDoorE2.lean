/- Functions told as partial functions. -/
import Derived.Test.YtdgoilofkgdaoaaGreatDoorE6
import Derived.Test.YtdgoilofkgdaoaaGreatDoorE7
import Derived.Test.YtdgoilofkgdaoaaGreatDoorE1
set_option linter.defProp false
set_option linter.unusedVariables false
set_option linter.unusedSimpArgs false
set_option maxRecDepth 100000
set_option maxHeartbeats 4000000
namespace Go.Proofs.YtdgoilofkgdaoaaGreatDoor.Ex
open Go.Am Go.Ex Go.Proofs.YtdgoilofkgdaoaaGreatDoor
def b35 (F : F35_70) (x0 : (List XExpr)) (x1 : (List XSelect)) : Option (Int) := (loopC (fun (u5 : Int × Int → Option (Int)) (q4 : Int × Int) => (way ((decide (q4.2 < (((x0.length : Nat) : Int))))) (join (fun (u10 : Int → Option (Int)) => (need (0 ≤ q4.2 ∧ q4.2 < ((x0.length : Nat) : Int)) (call (F.p70 ((x0.getD q4.2.toNat XExpr.z))) fun y13 => (way ((decide (y13 > q4.1))) (u10 y13) (u10 q4.1))))) (fun (q9 : Int) => (u5 (q9, (IntKind.i64.wrap (q4.2 + 1)))))) (loopC (fun (u19 : Int × Int → Option (Int)) (q18 : Int × Int) => (way ((decide (q18.2 < (((x1.length : Nat) : Int))))) (join (fun (u24 : Int → Option (Int)) => (need (0 ≤ q18.2 ∧ q18.2 < ((x1.length : Nat) : Int)) (need (0 ≤ q18.2 ∧ q18.2 < ((x1.length : Nat) : Int)) (call (s71 ((x1.getD q18.2.toNat XSelect.z))) fun y29 => (call (s72 ((x1.getD q18.2.toNat XSelect.z))) fun y30 => (call (F.p35 y29 y30) fun y31 => (way ((decide (y31 > q18.1))) (u24 y31) (u24 q18.1)))))))) (fun (q23 : Int) => (u19 (q23, (IntKind.i64.wrap (q18.2 + 1)))))) (some q18.1))) manyC (q4.1, 0)))) manyC (0, 0))
theorem d35 (F : F35_70) (H : F.Ok) (x0 : (List XExpr)) (x1 : (List XSelect)) (r : Int) (h : b35 F x0 x1 = some r) : Gives Tryz.prog 35 [.slice 10 (List.map XExpr.v x0), .slice 5 (List.map XSelect.v x1)] (vint r) := by
 intro s
 unfold b35 at h
 refine ac Tryz.func35 Tryz.ntmps35 ?_
 refine rg ?_
 refine rg ?_
 refine AWp.seq ?_
 refine rg ?_
 refine AWp.block ?_
 refine lp h (fun q4 => tst [(0, .slice 10 (List.map XExpr.v x0)), (1, .slice 5 (List.map XSelect.v x1)), (5, vint q4.1), (6, vint q4.2)] [] s 47) ?_ ?_
 ·exact tle
 ·rintro u5 ⟨v2, v3⟩ h
  (try dsimp only at h ⊢)
  refine AWp.seq ?_
  refine rg ?_
  refine ws h (fun hc7 h => ?_) fun hc7 h => ?_
  ·refine AWp.skip ?_
   refine jn h (fun q9 => tst [(0, .slice 10 (List.map XExpr.v x0)), (1, .slice 5 (List.map XSelect.v x1)), (5, vint q9), (6, vint v3)] [] s 47) (fun u10 h => ?_) ?_
   ·refine AWp.block ?_
    obtain ⟨hn12, h⟩ := need_some h
    refine rgFD ((And.intro ((isT hn12.1)) <| And.intro ((isT hn12.2)) <| (getD_enc XExpr.v XExpr.z hn12))) (H.p70 ((x0.getD v3.toNat XExpr.z))) h fun y13 hy13 h => ?_
    refine rg ?_
    refine ws h (fun hc14 h => ?_) fun hc14 h => ?_
    ·refine r1 ?_
     exact ⟨y13, h, tle⟩
    ·refine AWp.skip ?_
     exact ⟨v2, h, tle⟩
   ·rintro v8 h
    refine r1 ?_
    exact ⟨(v8, (IntKind.i64.wrap (v3 + 1))), h, tle⟩
  ·refine AWp.exit ?_
   simp only [exq, seval]
   refine AWp.seq ?_
   refine rg ?_
   refine AWp.block ?_
   refine lp h (fun q18 => tst [(1, .slice 5 (List.map XSelect.v x1)), (5, vint q18.1), (8, vint q18.2)] [] s 47) ?_ ?_
   ·exact tle
   ·rintro u19 ⟨v16, v17⟩ h
    (try dsimp only at h ⊢)
    refine AWp.seq ?_
    refine rg ?_
    refine ws h (fun hc21 h => ?_) fun hc21 h => ?_
    ·refine AWp.skip ?_
     refine jn h (fun q23 => tst [(1, .slice 5 (List.map XSelect.v x1)), (5, vint q23), (8, vint v17)] [] s 47) (fun u24 h => ?_) ?_
     ·refine AWp.block ?_
      obtain ⟨hn26, h⟩ := need_some h
      obtain ⟨hn28, h⟩ := need_some h
      obtain ⟨y29, hy29, h⟩ := call_some h
      obtain ⟨y30, hy30, h⟩ := call_some h
      refine rgLFCCD [0, 1, 2, 3, 5, 6, 7, 8, 4, 9, 10, 11] [100039] ((And.intro ((isT hn26.1)) <| And.intro ((isT hn26.2)) <| And.intro ((getD_enc XSelect.v XSelect.z hn26)) <| And.intro ((isT hn28.1)) <| And.intro ((isT hn28.2)) <| (getD_enc XSelect.v XSelect.z hn28))) (c71 ((x1.getD v17.toNat XSelect.z)) _ hy29) (c72 ((x1.getD v17.toNat XSelect.z)) _ hy30) (H.p35 y29 y30) h fun y31 hy31 h => ?_
      refine rg ?_
      refine ws h (fun hc32 h => ?_) fun hc32 h => ?_
      ·refine r1 ?_
       exact ⟨y31, h, tle⟩
      ·refine AWp.skip ?_
       exact ⟨v16, h, tle⟩
     ·rintro v22 h
      refine r1 ?_
      exact ⟨(v22, (IntKind.i64.wrap (v17 + 1))), h, tle⟩
    ·refine AWp.exit ?_
     simp only [exq, seval]
     refine rg ?_
     cases h; exact AWp.ret (rtq [.tmp 4])
def b70 (F : F35_70) (x0 : XExpr) : Option (Int) := (call (F.p35 x0.args x0.sub) fun y1 => (join (fun (u5 : Bool → Option (Int)) => (way ((x0.op == 3)) (u5 (decide (x0.n > y1))) (u5 false))) (fun (q4 : Bool) => (way q4 (some x0.n) (some y1)))))
theorem d70 (F : F35_70) (H : F.Ok) (x0 : XExpr) (r : Int) (h : b70 F x0 = some r) : Gives Tryz.prog 70 [.agg x0.v] (vint r) := by
 intro s
 unfold b70 at h
 refine ac Tryz.func70 Tryz.ntmps70 ?_
 refine rg ?_
 refine rgD (H.p35 x0.args x0.sub) h fun y1 hy1 h => ?_
 refine AWp.seq ?_
 refine jn h (fun q4 => tst [(1, .loc 1 0), (3, vint y1), (17, vbool q4)] [(1, (x0.v, 42))] s 21) (fun u5 h => ?_) ?_
 ·refine wy h (fun hg6 h => ?_) fun hg6 h => ?_
  ·refine r1F hg6 ?_
   exact ⟨(decide (x0.n > y1)), h, tleF hg6⟩
  ·refine r1F hg6 ?_
   exact ⟨false, h, tleF hg6⟩
 ·rintro v3 h
  refine ws h (fun hc7 h => ?_) fun hc7 h => ?_
  ·refine rg ?_
   cases h; exact AWp.ret (rtq [.tmp 2])
  ·refine AWp.skip ?_
   refine rg ?_
   cases h; exact AWp.ret (rtq [.tmp 2])
def F35_70.fix : Nat → F35_70
  | 0 => ⟨fun _ _ => none, fun _ => none⟩
  | n + 1 => ⟨b35 (F35_70.fix n), b70 (F35_70.fix n)⟩
theorem F35_70.ok : ∀ n, F35_70.Ok (F35_70.fix n)
  | 0 => ⟨(fun _ _ _ h => by cases h), (fun _ _ h => by cases h)⟩
  | n + 1 => ⟨d35 _ (F35_70.ok n), d70 _ (F35_70.ok n)⟩
def s6 (x0 : XStmt) : Option ((List XExpr)) := (loopC (fun (u8 : (List XExpr) × Int → Option ((List XExpr))) (q7 : (List XExpr) × Int) => (way ((decide (q7.2 < (((x0.sets.length : Nat) : Int))))) (need (0 ≤ q7.2 ∧ q7.2 < ((x0.sets.length : Nat) : Int)) (need ((q7.1.length + 1) * 136 ≤ 140737488355328) (u8 ((q7.1 ++ ([((x0.sets.getD q7.2.toNat XSet.z)).expr])), (IntKind.i64.wrap (q7.2 + 1)))))) (need ((q7.1.length + x0.where_.length) * 136 ≤ 140737488355328) (loopC (fun (u28 : (List XExpr) × Int → Option ((List XExpr))) (q27 : (List XExpr) × Int) => (way ((decide (q27.2 < (((x0.defs.length : Nat) : Int))))) (need (0 ≤ q27.2 ∧ q27.2 < ((x0.defs.length : Nat) : Int)) (need ((q27.1.length + (((x0.defs.getD q27.2.toNat XColDef.z)).default).length) * 136 ≤ 140737488355328) (need (0 ≤ q27.2 ∧ q27.2 < ((x0.defs.length : Nat) : Int)) (need ((((q27.1 ++ (((x0.defs.getD q27.2.toNat XColDef.z)).default))).length + (((x0.defs.getD q27.2.toNat XColDef.z)).check).length) * 136 ≤ 140737488355328) (u28 ((((q27.1 ++ (((x0.defs.getD q27.2.toNat XColDef.z)).default))) ++ (((x0.defs.getD q27.2.toNat XColDef.z)).check)), (IntKind.i64.wrap (q27.2 + 1)))))))) (some q27.1))) manyC ((q7.1 ++ x0.where_), 0))))) manyC (([] : List XExpr), 0))
theorem c6 (x0 : XStmt) (r : (List XExpr)) (h : s6 x0 = some r) : Gives Tryz.prog 6 [.agg x0.v] (.slice 10 (List.map XExpr.v r)) := by
 intro s
 unfold s6 at h
 refine ac Tryz.func6 Tryz.ntmps6 ?_
 refine rg ?_
 refine rg ?_
 refine AWp.seq ?_
 refine rg ?_
 refine AWp.block ?_
 refine AWp.adoptE 3 (42, 10) (.inl (by rfl)) fun g2 hg2 => ?_
 change (s).own g2 = none at hg2
 have fr3 : Fr s (List.map Prod.fst [(g2, (42, 10))]) := Fr.snoc (l := []) (Fr.nil s) hg2
 refine AWp.loopS (X := (List XExpr) × Int) (G := Nat) h (fun gq9 => Fr s (List.map Prod.fst [(gq9, (42, 10))])) (fun q7 gq9 => tst [(1, .loc 1 0), (3, .own gq9 10 (List.map XExpr.v q7.1)), (4, vint q7.2)] [(1, (x0.v, 31))] (owns s [(gq9, (42, 10))]) 50) ?_ ?_
 ·exact ⟨g2, fr3, tle⟩
 ·rintro u8 ⟨v4, v6⟩ h g5 hg5f
  (try dsimp only at h ⊢)
  refine AWp.seq ?_
  refine rg ?_
  refine ws h (fun hc11 h => ?_) fun hc11 h => ?_
  ·refine AWp.skip ?_
   refine AWp.seq ?_
   refine AWp.block ?_
   refine AWp.reg1 fun Z13 hZ13 => ?_
   obtain ⟨hn15, h⟩ := need_some h
   obtain ⟨hn16, h⟩ := need_some h
   (try simp only [isT hn15.1, isT hn15.2, getD_enc XSet.v XSet.z hn15, xs, xa, Nat.reduceAdd, seval, reduceCtorEq])
   first | refine ap4 hg5f hn16 fun g17 hg17 => ?_ | refine ap3 hg5f hn16 fun g17 hg17 => ?_ | refine ap2 hg5f hn16 fun g17 hg17 => ?_
   have fr18 : Fr s (List.map Prod.fst [(g17, (42, 10))]) := Fr.rep (a := []) (b := []) hg5f hg17
   (try simp only [isT hn15.1, isT hn15.2, getD_enc XSet.v XSet.z hn15, xs, xa, Nat.reduceAdd, seval, reduceCtorEq])
   refine hZ13 _ ?_; clear hZ13 Z13
   refine hLO (Fr.repLe (a := []) (b := []) hg5f hg17) (s' := (owns s [(g17, (42, 10))])) ?_
   refine r1 ?_
   exact ⟨((v4 ++ ([((x0.sets.getD v6.toNat XSet.z)).expr])), (IntKind.i64.wrap (v6 + 1))), h, g17, fr18, tle⟩
  ·refine AWp.exit ?_
   simp only [exq, seval]
   refine AWp.reg fun Z19 hZ19 => ?_
   obtain ⟨hn20, h⟩ := need_some h
   (try simp only [xs, xa, Nat.reduceAdd, seval, reduceCtorEq])
   first | refine ap4 hg5f hn20 fun g21 hg21 => ?_ | refine ap3 hg5f hn20 fun g21 hg21 => ?_ | refine ap2 hg5f hn20 fun g21 hg21 => ?_
   have fr22 : Fr s (List.map Prod.fst [(g21, (42, 10))]) := Fr.rep (a := []) (b := []) hg5f hg21
   (try simp only [xs, xa, Nat.reduceAdd, seval, reduceCtorEq])
   refine hZ19 _ ?_; clear hZ19 Z19
   refine hLO (Fr.repLe (a := []) (b := []) hg5f hg21) (s' := (owns s [(g21, (42, 10))])) ?_
   refine AWp.seq ?_
   refine rg ?_
   refine AWp.block ?_
   refine AWp.loopS (X := (List XExpr) × Int) (G := Nat) h (fun gq29 => Fr s (List.map Prod.fst [(gq29, (42, 10))])) (fun q27 gq29 => tst [(1, .loc 1 0), (3, .own gq29 10 (List.map XExpr.v q27.1)), (5, vint q27.2)] [(1, (x0.v, 31))] (owns s [(gq29, (42, 10))]) 50) ?_ ?_
   ·exact ⟨g21, fr22, tle⟩
   ·rintro u28 ⟨v24, v26⟩ h g25 hg25f
    (try dsimp only at h ⊢)
    refine AWp.seq ?_
    refine rg ?_
    refine ws h (fun hc31 h => ?_) fun hc31 h => ?_
    ·refine AWp.skip ?_
     refine AWp.seq ?_
     refine AWp.block ?_
     refine AWp.reg fun Z33 hZ33 => ?_
     obtain ⟨hn35, h⟩ := need_some h
     obtain ⟨hn36, h⟩ := need_some h
     (try simp only [isT hn35.1, isT hn35.2, getD_enc XColDef.v XColDef.z hn35, xs, xa, Nat.reduceAdd, seval, reduceCtorEq])
     first | refine ap4 hg25f hn36 fun g37 hg37 => ?_ | refine ap3 hg25f hn36 fun g37 hg37 => ?_ | refine ap2 hg25f hn36 fun g37 hg37 => ?_
     have fr38 : Fr s (List.map Prod.fst [(g37, (42, 10))]) := Fr.rep (a := []) (b := []) hg25f hg37
     (try simp only [isT hn35.1, isT hn35.2, getD_enc XColDef.v XColDef.z hn35, xs, xa, Nat.reduceAdd, seval, reduceCtorEq])
     refine hZ33 _ ?_; clear hZ33 Z33
     refine hLO (Fr.repLe (a := []) (b := []) hg25f hg37) (s' := (owns s [(g37, (42, 10))])) ?_
     refine AWp.reg1 fun Z39 hZ39 => ?_
     obtain ⟨hn41, h⟩ := need_some h
     obtain ⟨hn42, h⟩ := need_some h
     (try simp only [isT hn41.1, isT hn41.2, getD_enc XColDef.v XColDef.z hn41, xs, xa, Nat.reduceAdd, seval, reduceCtorEq])
     first | refine ap4 fr38 hn42 fun g43 hg43 => ?_ | refine ap3 fr38 hn42 fun g43 hg43 => ?_ | refine ap2 fr38 hn42 fun g43 hg43 => ?_
     have fr44 : Fr s (List.map Prod.fst [(g43, (42, 10))]) := Fr.rep (a := []) (b := []) fr38 hg43
     (try simp only [isT hn41.1, isT hn41.2, getD_enc XColDef.v XColDef.z hn41, xs, xa, Nat.reduceAdd, seval, reduceCtorEq])
     refine hZ39 _ ?_; clear hZ39 Z39
     refine hLO (Fr.repLe (a := []) (b := []) fr38 hg43) (s' := (owns s [(g43, (42, 10))])) ?_
     refine r1 ?_
     exact ⟨((((v24 ++ (((x0.defs.getD v26.toNat XColDef.z)).default))) ++ (((x0.defs.getD v26.toNat XColDef.z)).check)), (IntKind.i64.wrap (v26 + 1))), h, g43, fr44, tle⟩
    ·refine AWp.exit ?_
     simp only [exq, seval]
     refine rg ?_
     cases h; exact AWp.ret (rtqO (Fr.drop (l := [(g25, (42, 10))]) hg25f) [.tmp 2])
def s15 (x0 : (List (List XExpr))) : Option ((List XExpr)) := (loopC (fun (u5 : Int × Int → Option ((List XExpr))) (q4 : Int × Int) => (way ((decide (q4.2 < (((x0.length : Nat) : Int))))) (need (0 ≤ q4.2 ∧ q4.2 < ((x0.length : Nat) : Int)) (way ((decide (((IntKind.i64.wrap (q4.1 + (((((x0.getD q4.2.toNat ([]))).length : Nat) : Int))))) < 0))) none (u5 ((IntKind.i64.wrap (q4.1 + (((((x0.getD q4.2.toNat ([]))).length : Nat) : Int)))), (IntKind.i64.wrap (q4.2 + 1)))))) (need (0 ≤ q4.1 ∧ q4.1 * 136 ≤ 140737488355328) (loopC (fun (u21 : (List XExpr) × Int → Option ((List XExpr))) (q20 : (List XExpr) × Int) => (way ((decide (q20.2 < (((x0.length : Nat) : Int))))) (need (0 ≤ q20.2 ∧ q20.2 < ((x0.length : Nat) : Int)) (need ((q20.1.length + ((x0.getD q20.2.toNat ([]))).length) * 136 ≤ 140737488355328) (u21 ((q20.1 ++ ((x0.getD q20.2.toNat ([])))), (IntKind.i64.wrap (q20.2 + 1)))))) (some q20.1))) manyC (([] : List XExpr), 0))))) manyC (0, 0))
theorem c15 (x0 : (List (List XExpr))) (r : (List XExpr)) (h : s15 x0 = some r) : GivesOwn Tryz.prog 15 [.slice 1 (List.map (fun x => [V.slice 10 (List.map XExpr.v x)]) x0)] 42 10 (List.map XExpr.v r) := by
 intro s
 unfold s15 at h
 refine ac Tryz.func15 Tryz.ntmps15 ?_
 refine rg ?_
 refine rg ?_
 refine AWp.seq ?_
 refine rg ?_
 refine AWp.block ?_
 refine lp h (fun q4 => tst [(0, .slice 1 (List.map (fun x => [V.slice 10 (List.map XExpr.v x)]) x0)), (3, vint q4.1), (9, .slice 1 (List.map (fun x => [V.slice 10 (List.map XExpr.v x)]) x0)), (10, vint (((x0.length : Nat) : Int))), (11, vint q4.2)] [] s 36) ?_ ?_
 ·exact tle
 ·rintro u5 ⟨v2, v3⟩ h
  (try dsimp only at h ⊢)
  refine rg ?_
  refine AWp.seq ?_
  refine ws h (fun hc7 h => ?_) fun hc7 h => ?_
  ·refine AWp.skip ?_
   refine AWp.seq ?_
   refine AWp.block ?_
   obtain ⟨hn10, h⟩ := need_some h
   refine rgF ((And.intro ((isT hn10.1)) <| And.intro ((isT hn10.2)) <| (getD_enc (fun x => [V.slice 10 (List.map XExpr.v x)]) ([]) hn10))) ?_
   refine rg ?_
   refine rg ?_
   refine ws h (fun hc11 h => ?_) fun hc11 h => ?_
   ·cases h
   ·refine AWp.skip ?_
    refine r1 ?_
    exact ⟨((IntKind.i64.wrap (v2 + (((((x0.getD v3.toNat ([]))).length : Nat) : Int)))), (IntKind.i64.wrap (v3 + 1))), h, tle⟩
  ·refine AWp.exit ?_
   simp only [exq, seval]
   refine AWp.reg fun Z12 hZ12 => ?_
   (try simp only [xs, xa, Nat.reduceAdd, seval, reduceCtorEq])
   obtain ⟨hn13, h⟩ := need_some h
   refine (grow58 v2 hn13 _).goOwn fun g14 hg14 => ?_
   change (s).own g14 = none at hg14
   have fr15 : Fr s (List.map Prod.fst [(g14, (42, 10))]) := Fr.snoc (l := []) (Fr.nil s) hg14
   (try simp only [xs, xa, Nat.reduceAdd, seval, reduceCtorEq])
   refine hZ12 _ ?_; clear hZ12 Z12
   refine hL (s' := (owns s [(g14, (42, 10))])) ?_
   refine AWp.seq ?_
   refine rg ?_
   refine AWp.block ?_
   refine AWp.loopS (X := (List XExpr) × Int) (G := Nat) h (fun gq22 => Fr s (List.map Prod.fst [(gq22, (42, 10))])) (fun q20 gq22 => tst [(6, .own gq22 10 (List.map XExpr.v q20.1)), (25, .slice 1 (List.map (fun x => [V.slice 10 (List.map XExpr.v x)]) x0)), (26, vint (((x0.length : Nat) : Int))), (27, vint q20.2)] [] (owns s [(gq22, (42, 10))]) 36) ?_ ?_
   ·exact ⟨g14, fr15, tle⟩
   ·rintro u21 ⟨v17, v19⟩ h g18 hg18f
    (try dsimp only at h ⊢)
    refine rg ?_
    refine AWp.seq ?_
    refine ws h (fun hc24 h => ?_) fun hc24 h => ?_
    ·refine AWp.skip ?_
     refine AWp.seq ?_
     refine AWp.block ?_
     obtain ⟨hn27, h⟩ := need_some h
     refine rgF ((And.intro ((isT hn27.1)) <| And.intro ((isT hn27.2)) <| (getD_enc (fun x => [V.slice 10 (List.map XExpr.v x)]) ([]) hn27))) ?_
     refine AWp.reg1 fun Z28 hZ28 => ?_
     obtain ⟨hn29, h⟩ := need_some h
     (try simp only [xs, xa, Nat.reduceAdd, seval, reduceCtorEq])
     first | refine ap4 hg18f hn29 fun g30 hg30 => ?_ | refine ap3 hg18f hn29 fun g30 hg30 => ?_ | refine ap2 hg18f hn29 fun g30 hg30 => ?_
     have fr31 : Fr s (List.map Prod.fst [(g30, (42, 10))]) := Fr.rep (a := []) (b := []) hg18f hg30
     (try simp only [xs, xa, Nat.reduceAdd, seval, reduceCtorEq])
     refine hZ28 _ ?_; clear hZ28 Z28
     refine hLO (Fr.repLe (a := []) (b := []) hg18f hg30) (s' := (owns s [(g30, (42, 10))])) ?_
     refine r1 ?_
     exact ⟨((v17 ++ ((x0.getD v19.toNat ([])))), (IntKind.i64.wrap (v19 + 1))), h, g30, fr31, tle⟩
    ·refine AWp.exit ?_
     simp only [exq, seval]
     refine rg ?_
     refine AWp.ret ?_
     refine ⟨_, St.to.refl _, ?_⟩
     obtain rfl := Option.some.inj h
     refine ret_go (vs := [.own g18 10 (List.map XExpr.v v17)]) (v := .own g18 10 (List.map XExpr.v v17)) (by show resV Tryz.prog _ [.tmp 2] = _; simp only [resV, XExpr.vs, am, seval, reduceCtorEq]) (Wk.refl _) (Heap.le.refl _) ⟨g18, hg18f.1 _ (by simp), rfl, rfl⟩
def s69 (x0 : XSelect) : Option ((List XExpr) × (List XSelect)) := (loopC (fun (u8 : (List XSelect) × Int → Option ((List XExpr) × (List XSelect))) (q7 : (List XSelect) × Int) => (way ((decide (q7.2 < (((x0.with_.length : Nat) : Int))))) (need (0 ≤ q7.2 ∧ q7.2 < ((x0.with_.length : Nat) : Int)) (need ((q7.1.length + (((x0.with_.getD q7.2.toNat XCte.z)).body).length) * 120 ≤ 140737488355328) (u8 ((q7.1 ++ (((x0.with_.getD q7.2.toNat XCte.z)).body)), (IntKind.i64.wrap (q7.2 + 1)))))) (loopC (fun (u28 : (List XExpr) × (List XSelect) × Int → Option ((List XExpr) × (List XSelect))) (q27 : (List XExpr) × (List XSelect) × Int) => (way ((decide (q27.2.2 < (((x0.parts.length : Nat) : Int))))) (need (0 ≤ q27.2.2 ∧ q27.2.2 < ((x0.parts.length : Nat) : Int)) (loopC (fun (u41 : (List XExpr) × Int → Option ((List XExpr) × (List XSelect))) (q40 : (List XExpr) × Int) => (way ((decide (q40.2 < ((((((x0.parts.getD q27.2.2.toNat XPart.z)).items).length : Nat) : Int))))) (need (0 ≤ q40.2 ∧ q40.2 < (((((x0.parts.getD q27.2.2.toNat XPart.z)).items).length : Nat) : Int)) (need ((q40.1.length + ((((((x0.parts.getD q27.2.2.toNat XPart.z)).items).getD q40.2.toNat XItem.z)).expr).length) * 136 ≤ 140737488355328) (u41 ((q40.1 ++ ((((((x0.parts.getD q27.2.2.toNat XPart.z)).items).getD q40.2.toNat XItem.z)).expr)), (IntKind.i64.wrap (q40.2 + 1)))))) (loopC (fun (u59 : (List XExpr) × (List XSelect) × Int → Option ((List XExpr) × (List XSelect))) (q58 : (List XExpr) × (List XSelect) × Int) => (way ((decide (q58.2.2 < ((((((x0.parts.getD q27.2.2.toNat XPart.z)).from_).length : Nat) : Int))))) (need (0 ≤ q58.2.2 ∧ q58.2.2 < (((((x0.parts.getD q27.2.2.toNat XPart.z)).from_).length : Nat) : Int)) (need ((q58.1.length + ((((((x0.parts.getD q27.2.2.toNat XPart.z)).from_).getD q58.2.2.toNat XSource.z)).on).length) * 136 ≤ 140737488355328) (need ((q58.2.1.length + ((((((x0.parts.getD q27.2.2.toNat XPart.z)).from_).getD q58.2.2.toNat XSource.z)).sub).length) * 120 ≤ 140737488355328) (u59 ((q58.1 ++ ((((((x0.parts.getD q27.2.2.toNat XPart.z)).from_).getD q58.2.2.toNat XSource.z)).on)), (q58.2.1 ++ ((((((x0.parts.getD q27.2.2.toNat XPart.z)).from_).getD q58.2.2.toNat XSource.z)).sub)), (IntKind.i64.wrap (q58.2.2 + 1))))))) (call (s15 ([q58.1, ((x0.parts.getD q27.2.2.toNat XPart.z)).where_, ((x0.parts.getD q27.2.2.toNat XPart.z)).group, ((x0.parts.getD q27.2.2.toNat XPart.z)).having])) fun y75 => (loopC (fun (u84 : (List XExpr) × Int → Option ((List XExpr) × (List XSelect))) (q83 : (List XExpr) × Int) => (way ((decide (q83.2 < ((((((x0.parts.getD q27.2.2.toNat XPart.z)).values).length : Nat) : Int))))) (need (0 ≤ q83.2 ∧ q83.2 < (((((x0.parts.getD q27.2.2.toNat XPart.z)).values).length : Nat) : Int)) (need ((q83.1.length + (((((x0.parts.getD q27.2.2.toNat XPart.z)).values).getD q83.2.toNat ([]))).length) * 136 ≤ 140737488355328) (u84 ((q83.1 ++ (((((x0.parts.getD q27.2.2.toNat XPart.z)).values).getD q83.2.toNat ([])))), (IntKind.i64.wrap (q83.2 + 1)))))) (u28 (q83.1, q58.2.1, (IntKind.i64.wrap (q27.2.2 + 1)))))) manyC (y75, 0))))) manyC (q40.1, q27.2.1, 0)))) manyC (q27.1, 0))) (loopC (fun (u101 : (List XExpr) × Int → Option ((List XExpr) × (List XSelect))) (q100 : (List XExpr) × Int) => (way ((decide (q100.2 < (((x0.order.length : Nat) : Int))))) (need (0 ≤ q100.2 ∧ q100.2 < ((x0.order.length : Nat) : Int)) (need ((q100.1.length + 1) * 136 ≤ 140737488355328) (u101 ((q100.1 ++ ([((x0.order.getD q100.2.toNat XSort.z)).expr])), (IntKind.i64.wrap (q100.2 + 1)))))) (call (s15 ([q100.1, x0.limit, x0.offset])) fun y113 => (call (s108 y113) fun y116 => (call (s109 q27.2.1) fun y117 => (some ((y116, y117)))))))) manyC (q27.1, 0)))) manyC (([] : List XExpr), q7.1, 0)))) manyC (([] : List XSelect), 0))
theorem c69 (x0 : XSelect) (r : (List XExpr) × (List XSelect)) (h : s69 x0 = some r) : Gives Tryz.prog 69 [.agg x0.v] (.tuple [V.func 156 [] [.elt [.slice 10 (List.map XExpr.v r.1)] 0], V.func 157 [] [.elt [.slice 5 (List.map XSelect.v r.2)] 0]]) := by
 intro s
 unfold s69 at h
 refine ac Tryz.func69 Tryz.ntmps69 ?_
 refine rg ?_
 refine rg ?_
 refine rg ?_
 refine AWp.seq ?_
 refine rg ?_
 refine AWp.block ?_
 refine AWp.adoptE 5 (76, 5) (.inl (by rfl)) fun g2 hg2 => ?_
 change (s).own g2 = none at hg2
 have fr3 : Fr s (List.map Prod.fst [(g2, (76, 5))]) := Fr.snoc (l := []) (Fr.nil s) hg2
 refine AWp.loopS (X := (List XSelect) × Int) (G := Nat) h (fun gq9 => Fr s (List.map Prod.fst [(gq9, (76, 5))])) (fun q7 gq9 => tst [(1, .loc 1 0), (4, .nil), (5, .own gq9 5 (List.map XSelect.v q7.1)), (19, .slice 3 (List.map XCte.v x0.with_)), (20, vint (((x0.with_.length : Nat) : Int))), (21, vint q7.2)] [(1, (x0.v, 76))] (owns s [(gq9, (76, 5))]) 110) ?_ ?_
 ·exact ⟨g2, fr3, tle⟩
 ·rintro u8 ⟨v4, v6⟩ h g5 hg5f
  (try dsimp only at h ⊢)
  refine rg ?_
  refine AWp.seq ?_
  refine ws h (fun hc11 h => ?_) fun hc11 h => ?_
  ·refine AWp.skip ?_
   refine AWp.seq ?_
   refine AWp.block ?_
   obtain ⟨hn14, h⟩ := need_some h
   refine rgF ((And.intro ((isT hn14.1)) <| And.intro ((isT hn14.2)) <| (getD_enc XCte.v XCte.z hn14))) ?_
   refine AWp.reg1 fun Z15 hZ15 => ?_
   obtain ⟨hn16, h⟩ := need_some h
   (try simp only [xs, xa, Nat.reduceAdd, seval, reduceCtorEq])
   first | refine ap4 hg5f hn16 fun g17 hg17 => ?_ | refine ap3 hg5f hn16 fun g17 hg17 => ?_ | refine ap2 hg5f hn16 fun g17 hg17 => ?_
   have fr18 : Fr s (List.map Prod.fst [(g17, (76, 5))]) := Fr.rep (a := []) (b := []) hg5f hg17
   (try simp only [xs, xa, Nat.reduceAdd, seval, reduceCtorEq])
   refine hZ15 _ ?_; clear hZ15 Z15
   refine hLO (Fr.repLe (a := []) (b := []) hg5f hg17) (s' := (owns s [(g17, (76, 5))])) ?_
   refine r1 ?_
   exact ⟨((v4 ++ (((x0.with_.getD v6.toNat XCte.z)).body)), (IntKind.i64.wrap (v6 + 1))), h, g17, fr18, tle⟩
  ·refine AWp.exit ?_
   simp only [exq, seval]
   refine AWp.seq ?_
   refine rg ?_
   refine AWp.block ?_
   refine AWp.adoptE 4 (42, 10) (.inl (by rfl)) fun g20 hg20 => ?_
   change ((owns s [(g5, (76, 5))])).own g20 = none at hg20
   have fr21 : Fr s (List.map Prod.fst [(g5, (76, 5)), (g20, (42, 10))]) := Fr.snoc (l := [(g5, (76, 5))]) hg5f hg20
   refine AWp.loopS (X := (List XExpr) × (List XSelect) × Int) (G := Nat × Nat) h (fun gq29 => Fr s (List.map Prod.fst [(gq29.1, (76, 5)), (gq29.2, (42, 10))])) (fun q27 gq29 => tst [(1, .loc 1 0), (4, .own gq29.2 10 (List.map XExpr.v q27.1)), (5, .own gq29.1 5 (List.map XSelect.v q27.2.1)), (31, .slice 8 (List.map XPart.v x0.parts)), (32, vint (((x0.parts.length : Nat) : Int))), (33, vint q27.2.2)] [(1, (x0.v, 76))] (owns s [(gq29.1, (76, 5)), (gq29.2, (42, 10))]) 110) ?_ ?_
   ·exact ⟨(g5, g20), fr21, tle⟩
   ·rintro u28 ⟨v22, v24, v26⟩ h ⟨g25, g23⟩ hg25f
    (try dsimp only at h ⊢)
    refine rg ?_
    refine AWp.seq ?_
    refine ws h (fun hc31 h => ?_) fun hc31 h => ?_
    ·refine AWp.skip ?_
     refine AWp.seq ?_
     refine AWp.block ?_
     obtain ⟨hn34, h⟩ := need_some h
     refine rgF ((And.intro ((isT hn34.1)) <| And.intro ((isT hn34.2)) <| (getD_enc XPart.v XPart.z hn34))) ?_
     refine AWp.seq ?_
     refine rg ?_
     refine AWp.block ?_
     refine AWp.loopS (X := (List XExpr) × Int) (G := Nat × Nat) h (fun gq42 => Fr s (List.map Prod.fst [(gq42.1, (76, 5)), (gq42.2, (42, 10))])) (fun q40 gq42 => tst [(1, .loc 1 0), (4, .own gq42.2 10 (List.map XExpr.v q40.1)), (5, .own gq42.1 5 (List.map XSelect.v v24)), (9, .loc 9 0), (31, .slice 8 (List.map XPart.v x0.parts)), (32, vint (((x0.parts.length : Nat) : Int))), (33, vint v26), (38, .slice 4 (List.map XItem.v (((x0.parts.getD v26.toNat XPart.z)).items))), (39, vint ((((((x0.parts.getD v26.toNat XPart.z)).items).length : Nat) : Int))), (40, vint q40.2)] [(1, (x0.v, 76)), (9, (((x0.parts.getD v26.toNat XPart.z)).v, 126))] (owns s [(gq42.1, (76, 5)), (gq42.2, (42, 10))]) 110) ?_ ?_
     ·exact ⟨(g25, g23), hg25f, tle⟩
     ·rintro u41 ⟨v36, v38⟩ h ⟨g39, g37⟩ hg39f
      (try dsimp only at h ⊢)
      refine rg ?_
      refine AWp.seq ?_
      refine ws h (fun hc44 h => ?_) fun hc44 h => ?_
      ·refine AWp.skip ?_
       refine AWp.seq ?_
       refine AWp.block ?_
       obtain ⟨hn47, h⟩ := need_some h
       refine rgF ((And.intro ((isT hn47.1)) <| And.intro ((isT hn47.2)) <| (getD_enc XItem.v XItem.z hn47))) ?_
       refine AWp.reg1 fun Z48 hZ48 => ?_
       obtain ⟨hn49, h⟩ := need_some h
       (try simp only [xs, xa, Nat.reduceAdd, seval, reduceCtorEq])
       first | refine ap4 hg39f hn49 fun g50 hg50 => ?_ | refine ap3 hg39f hn49 fun g50 hg50 => ?_ | refine ap2 hg39f hn49 fun g50 hg50 => ?_
       have fr51 : Fr s (List.map Prod.fst [(g39, (76, 5)), (g50, (42, 10))]) := Fr.rep (a := [(g39, (76, 5))]) (b := []) hg39f hg50
       (try simp only [xs, xa, Nat.reduceAdd, seval, reduceCtorEq])
       refine hZ48 _ ?_; clear hZ48 Z48
       refine hLO (Fr.repLe (a := [(g39, (76, 5))]) (b := []) hg39f hg50) (s' := (owns s [(g39, (76, 5)), (g50, (42, 10))])) ?_
       refine r1 ?_
       exact ⟨((v36 ++ ((((((x0.parts.getD v26.toNat XPart.z)).items).getD v38.toNat XItem.z)).expr)), (IntKind.i64.wrap (v38 + 1))), h, (g39, g50), fr51, tle⟩
      ·refine AWp.exit ?_
       simp only [exq, seval]
       refine AWp.seq ?_
       refine rg ?_
       refine AWp.block ?_
       refine AWp.loopS (X := (List XExpr) × (List XSelect) × Int) (G := Nat × Nat) h (fun gq60 => Fr s (List.map Prod.fst [(gq60.1, (76, 5)), (gq60.2, (42, 10))])) (fun q58 gq60 => tst [(1, .loc 1 0), (4, .own gq60.2 10 (List.map XExpr.v q58.1)), (5, .own gq60.1 5 (List.map XSelect.v q58.2.1)), (9, .loc 9 0), (31, .slice 8 (List.map XPart.v x0.parts)), (32, vint (((x0.parts.length : Nat) : Int))), (33, vint v26), (50, .slice 5 (List.map XSource.v (((x0.parts.getD v26.toNat XPart.z)).from_))), (51, vint ((((((x0.parts.getD v26.toNat XPart.z)).from_).length : Nat) : Int))), (52, vint q58.2.2)] [(1, (x0.v, 76)), (9, (((x0.parts.getD v26.toNat XPart.z)).v, 126))] (owns s [(gq60.1, (76, 5)), (gq60.2, (42, 10))]) 110) ?_ ?_
       ·exact ⟨(g39, g37), hg39f, tle⟩
       ·rintro u59 ⟨v53, v55, v57⟩ h ⟨g56, g54⟩ hg56f
        (try dsimp only at h ⊢)
        refine rg ?_
        refine AWp.seq ?_
        refine ws h (fun hc62 h => ?_) fun hc62 h => ?_
        ·refine AWp.skip ?_
         refine AWp.seq ?_
         refine AWp.block ?_
         obtain ⟨hn65, h⟩ := need_some h
         refine rgF ((And.intro ((isT hn65.1)) <| And.intro ((isT hn65.2)) <| (getD_enc XSource.v XSource.z hn65))) ?_
         refine AWp.reg fun Z66 hZ66 => ?_
         obtain ⟨hn67, h⟩ := need_some h
         (try simp only [xs, xa, Nat.reduceAdd, seval, reduceCtorEq])
         first | refine ap4 hg56f hn67 fun g68 hg68 => ?_ | refine ap3 hg56f hn67 fun g68 hg68 => ?_ | refine ap2 hg56f hn67 fun g68 hg68 => ?_
         have fr69 : Fr s (List.map Prod.fst [(g56, (76, 5)), (g68, (42, 10))]) := Fr.rep (a := [(g56, (76, 5))]) (b := []) hg56f hg68
         (try simp only [xs, xa, Nat.reduceAdd, seval, reduceCtorEq])
         refine hZ66 _ ?_; clear hZ66 Z66
         refine hLO (Fr.repLe (a := [(g56, (76, 5))]) (b := []) hg56f hg68) (s' := (owns s [(g56, (76, 5)), (g68, (42, 10))])) ?_
         refine AWp.reg1 fun Z70 hZ70 => ?_
         obtain ⟨hn71, h⟩ := need_some h
         (try simp only [xs, xa, Nat.reduceAdd, seval, reduceCtorEq])
         first | refine ap4 fr69 hn71 fun g72 hg72 => ?_ | refine ap3 fr69 hn71 fun g72 hg72 => ?_ | refine ap2 fr69 hn71 fun g72 hg72 => ?_
         have fr73 : Fr s (List.map Prod.fst [(g72, (76, 5)), (g68, (42, 10))]) := Fr.rep (a := []) (b := [(g68, (42, 10))]) fr69 hg72
         (try simp only [xs, xa, Nat.reduceAdd, seval, reduceCtorEq])
         refine hZ70 _ ?_; clear hZ70 Z70
         refine hLO (Fr.repLe (a := []) (b := [(g68, (42, 10))]) fr69 hg72) (s' := (owns s [(g72, (76, 5)), (g68, (42, 10))])) ?_
         refine r1 ?_
         exact ⟨((v53 ++ ((((((x0.parts.getD v26.toNat XPart.z)).from_).getD v57.toNat XSource.z)).on)), (v55 ++ ((((((x0.parts.getD v26.toNat XPart.z)).from_).getD v57.toNat XSource.z)).sub)), (IntKind.i64.wrap (v57 + 1))), h, (g72, g68), fr73, tle⟩
        ·refine AWp.exit ?_
         simp only [exq, seval]
         refine AWp.reg fun Z74 hZ74 => ?_
         (try simp only [xs, xa, Nat.reduceAdd, seval, reduceCtorEq])
         obtain ⟨y75, hy75, h⟩ := call_some h
         refine ACallsP.wk (args' := [.slice 1 (List.map (fun x => [V.slice 10 (List.map XExpr.v x)]) ([v53, ((x0.parts.getD v26.toNat XPart.z)).where_, ((x0.parts.getD v26.toNat XPart.z)).group, ((x0.parts.getD v26.toNat XPart.z)).having]))]) ⟨Wk.slice ⟨⟨Wk.own _ _ _, trivial⟩, ⟨Wk.refl _, trivial⟩, ⟨Wk.refl _, trivial⟩, ⟨Wk.refl _, trivial⟩, trivial⟩, trivial⟩ ?_
         refine (c15 ([v53, ((x0.parts.getD v26.toNat XPart.z)).where_, ((x0.parts.getD v26.toNat XPart.z)).group, ((x0.parts.getD v26.toNat XPart.z)).having]) _ hy75 _).goOwn fun g76 hg76 => ?_
         change ((owns s [(g56, (76, 5)), (g54, (42, 10))])).own g76 = none at hg76
         have fr77 : Fr s (List.map Prod.fst [(g56, (76, 5)), (g54, (42, 10)), (g76, (42, 10))]) := Fr.snoc (l := [(g56, (76, 5)), (g54, (42, 10))]) hg56f hg76
         (try simp only [xs, xa, Nat.reduceAdd, seval, reduceCtorEq])
         refine hZ74 _ ?_; clear hZ74 Z74
         refine hL (s' := (owns s [(g56, (76, 5)), (g54, (42, 10)), (g76, (42, 10))])) ?_
         refine rg ?_
         refine AWp.block ?_
         refine AWp.loopS (X := (List XExpr) × Int) (G := Nat × Nat × Nat) h (fun gq85 => Fr s (List.map Prod.fst [(gq85.1, (76, 5)), (gq85.2.1, (42, 10)), (gq85.2.2, (42, 10))])) (fun q83 gq85 => tst [(1, .loc 1 0), (4, .own gq85.2.2 10 (List.map XExpr.v q83.1)), (5, .own gq85.1 5 (List.map XSelect.v v55)), (31, .slice 8 (List.map XPart.v x0.parts)), (32, vint (((x0.parts.length : Nat) : Int))), (33, vint v26), (75, .slice 1 (List.map (fun x => [V.slice 10 (List.map XExpr.v x)]) (((x0.parts.getD v26.toNat XPart.z)).values))), (76, vint ((((((x0.parts.getD v26.toNat XPart.z)).values).length : Nat) : Int))), (77, vint q83.2)] [(1, (x0.v, 76))] (owns s [(gq85.1, (76, 5)), (gq85.2.1, (42, 10)), (gq85.2.2, (42, 10))]) 110) ?_ ?_
         ·exact ⟨(g56, g54, g76), fr77, tle⟩
         ·rintro u84 ⟨v78, v80⟩ h ⟨g81, g82, g79⟩ hg81f
          (try dsimp only at h ⊢)
          refine rg ?_
          refine AWp.seq ?_
          refine ws h (fun hc87 h => ?_) fun hc87 h => ?_
          ·refine AWp.skip ?_
           refine AWp.seq ?_
           refine AWp.block ?_
           obtain ⟨hn90, h⟩ := need_some h
           refine rgF ((And.intro ((isT hn90.1)) <| And.intro ((isT hn90.2)) <| (getD_enc (fun x => [V.slice 10 (List.map XExpr.v x)]) ([]) hn90))) ?_
           refine AWp.reg1 fun Z91 hZ91 => ?_
           obtain ⟨hn92, h⟩ := need_some h
           (try simp only [xs, xa, Nat.reduceAdd, seval, reduceCtorEq])
           first | refine ap4 hg81f hn92 fun g93 hg93 => ?_ | refine ap3 hg81f hn92 fun g93 hg93 => ?_ | refine ap2 hg81f hn92 fun g93 hg93 => ?_
           have fr94 : Fr s (List.map Prod.fst [(g81, (76, 5)), (g82, (42, 10)), (g93, (42, 10))]) := Fr.rep (a := [(g81, (76, 5)), (g82, (42, 10))]) (b := []) hg81f hg93
           (try simp only [xs, xa, Nat.reduceAdd, seval, reduceCtorEq])
           refine hZ91 _ ?_; clear hZ91 Z91
           refine hLO (Fr.repLe (a := [(g81, (76, 5)), (g82, (42, 10))]) (b := []) hg81f hg93) (s' := (owns s [(g81, (76, 5)), (g82, (42, 10)), (g93, (42, 10))])) ?_
           refine r1 ?_
           exact ⟨((v78 ++ (((((x0.parts.getD v26.toNat XPart.z)).values).getD v80.toNat ([])))), (IntKind.i64.wrap (v80 + 1))), h, (g81, g82, g93), fr94, tle⟩
          ·refine AWp.exit ?_
           simp only [exq, seval]
           refine r1 ?_
           refine ⟨(v78, v55, (IntKind.i64.wrap (v26 + 1))), h, (g81, g79), (Fr.sub (l := [(g81, (76, 5)), (g82, (42, 10)), (g79, (42, 10))]) (l' := [(g81, (76, 5)), (g79, (42, 10))]) hg81f (by simp) (by have := (hg81f).2; simp at this ⊢; simp [this, eq_comm])).1, ?_⟩
           refine St.to.heapLe (s' := (owns s [(g81, (76, 5)), (g79, (42, 10))])) ((Fr.sub (l := [(g81, (76, 5)), (g82, (42, 10)), (g79, (42, 10))]) (l' := [(g81, (76, 5)), (g79, (42, 10))]) hg81f (by simp) (by have := (hg81f).2; simp at this ⊢; simp [this, eq_comm])).2) ?_
           exact tle
    ·refine AWp.exit ?_
     simp only [exq, seval]
     refine AWp.seq ?_
     refine rg ?_
     refine AWp.block ?_
     refine AWp.loopS (X := (List XExpr) × Int) (G := Nat × Nat) h (fun gq102 => Fr s (List.map Prod.fst [(gq102.1, (76, 5)), (gq102.2, (42, 10))])) (fun q100 gq102 => tst [(1, .loc 1 0), (4, .own gq102.2 10 (List.map XExpr.v q100.1)), (5, .own gq102.1 5 (List.map XSelect.v v24)), (87, .slice 11 (List.map XSort.v x0.order)), (88, vint (((x0.order.length : Nat) : Int))), (89, vint q100.2)] [(1, (x0.v, 76))] (owns s [(gq102.1, (76, 5)), (gq102.2, (42, 10))]) 110) ?_ ?_
     ·exact ⟨(g25, g23), hg25f, tle⟩
     ·rintro u101 ⟨v96, v98⟩ h ⟨g99, g97⟩ hg99f
      (try dsimp only at h ⊢)
      refine rg ?_
      refine AWp.seq ?_
      refine ws h (fun hc104 h => ?_) fun hc104 h => ?_
      ·refine AWp.skip ?_
       refine AWp.seq ?_
       refine AWp.block ?_
       obtain ⟨hn107, h⟩ := need_some h
       refine rgF ((And.intro ((isT hn107.1)) <| And.intro ((isT hn107.2)) <| (getD_enc XSort.v XSort.z hn107))) ?_
       refine AWp.reg1 fun Z108 hZ108 => ?_
       obtain ⟨hn109, h⟩ := need_some h
       (try simp only [xs, xa, Nat.reduceAdd, seval, reduceCtorEq])
       first | refine ap4 hg99f hn109 fun g110 hg110 => ?_ | refine ap3 hg99f hn109 fun g110 hg110 => ?_ | refine ap2 hg99f hn109 fun g110 hg110 => ?_
       have fr111 : Fr s (List.map Prod.fst [(g99, (76, 5)), (g110, (42, 10))]) := Fr.rep (a := [(g99, (76, 5))]) (b := []) hg99f hg110
       (try simp only [xs, xa, Nat.reduceAdd, seval, reduceCtorEq])
       refine hZ108 _ ?_; clear hZ108 Z108
       refine hLO (Fr.repLe (a := [(g99, (76, 5))]) (b := []) hg99f hg110) (s' := (owns s [(g99, (76, 5)), (g110, (42, 10))])) ?_
       refine r1 ?_
       exact ⟨((v96 ++ ([((x0.order.getD v98.toNat XSort.z)).expr])), (IntKind.i64.wrap (v98 + 1))), h, (g99, g110), fr111, tle⟩
      ·refine AWp.exit ?_
       simp only [exq, seval]
       refine AWp.reg fun Z112 hZ112 => ?_
       (try simp only [xs, xa, Nat.reduceAdd, seval, reduceCtorEq])
       obtain ⟨y113, hy113, h⟩ := call_some h
       refine ACallsP.wk (args' := [.slice 1 (List.map (fun x => [V.slice 10 (List.map XExpr.v x)]) ([v96, x0.limit, x0.offset]))]) ⟨Wk.slice ⟨⟨Wk.own _ _ _, trivial⟩, ⟨Wk.refl _, trivial⟩, ⟨Wk.refl _, trivial⟩, trivial⟩, trivial⟩ ?_
       refine (c15 ([v96, x0.limit, x0.offset]) _ hy113 _).goOwn fun g114 hg114 => ?_
       change ((owns s [(g99, (76, 5)), (g97, (42, 10))])).own g114 = none at hg114
       have fr115 : Fr s (List.map Prod.fst [(g99, (76, 5)), (g97, (42, 10)), (g114, (42, 10))]) := Fr.snoc (l := [(g99, (76, 5)), (g97, (42, 10))]) hg99f hg114
       (try simp only [xs, xa, Nat.reduceAdd, seval, reduceCtorEq])
       refine hZ112 _ ?_; clear hZ112 Z112
       refine hL (s' := (owns s [(g99, (76, 5)), (g97, (42, 10)), (g114, (42, 10))])) ?_
       obtain ⟨y116, hy116, h⟩ := call_some h
       refine rgCD (c108 y113 _ hy116) (c109 v24) h fun y117 hy117 h => ?_
       cases h; exact AWp.ret (rtqO (Fr.drop (l := [(g99, (76, 5)), (g97, (42, 10)), (g114, (42, 10))]) fr115) [.tmp 2, .tmp 3])
structure F33_34 where
  p33 : XExpr → Option (Int)
  p34 : XSelect → Option (Int)
structure F33_34.Ok (F : F33_34) : Prop where
  p33 : ∀ (x0 : XExpr) (r : Int), F.p33 x0 = some r → Gives Tryz.prog 33 [.agg x0.v] (vint r)
  p34 : ∀ (x0 : XSelect) (r : Int), F.p34 x0 = some r → Gives Tryz.prog 34 [.agg x0.v] (vint r)
def b33 (F : F33_34) (x0 : XExpr) : Option (Int) := (join (fun (u3 : Int → Option (Int)) => (way ((x0.op == 3)) (u3 (mxI 0 x0.n)) (u3 0))) (fun (q2 : Int) => (loopC (fun (u9 : Int × Int → Option (Int)) (q8 : Int × Int) => (way ((decide (q8.2 < (((x0.args.length : Nat) : Int))))) (need (0 ≤ q8.2 ∧ q8.2 < ((x0.args.length : Nat) : Int)) (call (F.p33 ((x0.args.getD q8.2.toNat XExpr.z))) fun y15 => (u9 ((mxI q8.1 y15), (IntKind.i64.wrap (q8.2 + 1)))))) (loopC (fun (u20 : Int × Int → Option (Int)) (q19 : Int × Int) => (way ((decide (q19.2 < (((x0.sub.length : Nat) : Int))))) (need (0 ≤ q19.2 ∧ q19.2 < ((x0.sub.length : Nat) : Int)) (call (F.p34 ((x0.sub.getD q19.2.toNat XSelect.z))) fun y26 => (u20 ((mxI q19.1 y26), (IntKind.i64.wrap (q19.2 + 1)))))) (some q19.1))) manyC (q8.1, 0)))) manyC (q2, 0))))
theorem d33 (F : F33_34) (H : F.Ok) (x0 : XExpr) (r : Int) (h : b33 F x0 = some r) : Gives Tryz.prog 33 [.agg x0.v] (vint r) := by
 intro s
 unfold b33 at h
 refine ac Tryz.func33 Tryz.ntmps33 ?_
 refine rg ?_
 refine rg ?_
 refine jn h (fun q2 => tst [(1, .loc 1 0), (3, vint q2)] [(1, (x0.v, 42))] s 40) (fun u3 h => ?_) ?_
 ·refine rg ?_
  refine ws h (fun hc4 h => ?_) fun hc4 h => ?_
  ·refine r1 ?_
   exact ⟨(mxI 0 x0.n), h, tle⟩
  ·refine AWp.skip ?_
   exact ⟨0, h, tle⟩
 ·rintro v1 h
  refine AWp.seq ?_
  refine rg ?_
  refine AWp.block ?_
  refine lp h (fun q8 => tst [(1, .loc 1 0), (3, vint q8.1), (16, .slice 10 (List.map XExpr.v x0.args)), (17, vint (((x0.args.length : Nat) : Int))), (18, vint q8.2)] [(1, (x0.v, 42))] s 40) ?_ ?_
  ·exact tle
  ·rintro u9 ⟨v6, v7⟩ h
   (try dsimp only at h ⊢)
   refine rg ?_
   refine AWp.seq ?_
   refine ws h (fun hc11 h => ?_) fun hc11 h => ?_
   ·refine AWp.skip ?_
    refine AWp.seq ?_
    refine AWp.block ?_
    obtain ⟨hn14, h⟩ := need_some h
    refine rgF ((And.intro ((isT hn14.1)) <| And.intro ((isT hn14.2)) <| (getD_enc XExpr.v XExpr.z hn14))) ?_
    refine r1D (H.p33 ((x0.args.getD v7.toNat XExpr.z))) h fun y15 hy15 h => ?_
    refine r1 ?_
    exact ⟨((mxI v6 y15), (IntKind.i64.wrap (v7 + 1))), h, tle⟩
   ·refine AWp.exit ?_
    simp only [exq, seval]
    refine AWp.seq ?_
    refine rg ?_
    refine AWp.block ?_
    refine lp h (fun q19 => tst [(3, vint q19.1), (28, .slice 5 (List.map XSelect.v x0.sub)), (29, vint (((x0.sub.length : Nat) : Int))), (30, vint q19.2)] [] s 40) ?_ ?_
    ·exact tle
    ·rintro u20 ⟨v17, v18⟩ h
     (try dsimp only at h ⊢)
     refine rg ?_
     refine AWp.seq ?_
     refine ws h (fun hc22 h => ?_) fun hc22 h => ?_
     ·refine AWp.skip ?_
      refine AWp.seq ?_
      refine AWp.block ?_
      obtain ⟨hn25, h⟩ := need_some h
      refine rgF ((And.intro ((isT hn25.1)) <| And.intro ((isT hn25.2)) <| (getD_enc XSelect.v XSelect.z hn25))) ?_
      refine r1D (H.p34 ((x0.sub.getD v18.toNat XSelect.z))) h fun y26 hy26 h => ?_
      refine r1 ?_
      exact ⟨((mxI v17 y26), (IntKind.i64.wrap (v18 + 1))), h, tle⟩
     ·refine AWp.exit ?_
      simp only [exq, seval]
      refine rg ?_
      cases h; exact AWp.ret (rtq [.tmp 2])
end Go.Proofs.YtdgoilofkgdaoaaGreatDoor.Ex
namespace Go.Proofs.YtdgoilofkgdaoaaGreatDoor.Ex
open Go.Am Go.Ex Go.Proofs.YtdgoilofkgdaoaaGreatDoor
def b34 (F : F33_34) (x0 : XSelect) : Option (Int) := (call (s69 x0) fun y1 => (call (foldC (fun (q5 : Int) (y8 : XExpr) => (call (F.p33 y8) fun y14 => (some ((mxI q5 y14))))) y1.1 0) fun q6 => (call (foldC (fun (q18 : Int) (y21 : XSelect) => (call (F.p34 y21) fun y27 => (some ((mxI q18 y27))))) y1.2 q6) fun q19 => (some q19))))
theorem d34 (F : F33_34) (H : F.Ok) (x0 : XSelect) (r : Int) (h : b34 F x0 = some r) : Gives Tryz.prog 34 [.agg x0.v] (vint r) := by
 intro s
 unfold b34 at h
 refine ac Tryz.func34 Tryz.ntmps34 ?_
 refine rg ?_
 refine rg ?_
 refine rgD (c69 x0) h fun y1 hy1 h => ?_
 refine AWp.seq ?_
 refine rg ?_
 refine AWp.block ?_
 refine AWp.publish (t0 := 3) (x := ([vint 0], 3)) (by first | rfl | simp only [am, seval, reduceCtorEq]) fun e3 he3 => ?_
 change (s).box e3 = none at he3
 have ne3 : s.box e3 = none := by simpa only [setBox_ne, owns_box, ne_eq, not_false_eq_true] using he3
 refine AWp.weaken (st' := tst [(0, .agg x0.v), (1, .loc 1 0), (2, vint 0), (3, .ptr e3 0), (4, V.func 156 [] [.elt [.slice 10 (List.map XExpr.v y1.1)] 0]), (5, V.func 157 [] [.elt [.slice 5 (List.map XSelect.v y1.2)] 0]), (8, .tuple [V.func 156 [] [.elt [.slice 10 (List.map XExpr.v y1.1)] 0], V.func 157 [] [.elt [.slice 5 (List.map XSelect.v y1.2)] 0]]), (9, .agg x0.v), (10, .tuple [V.func 156 [] [.elt [.slice 10 (List.map XExpr.v y1.1)] 0], V.func 157 [] [.elt [.slice 5 (List.map XSelect.v y1.2)] 0]]), (11, V.func 156 [] [.elt [.slice 10 (List.map XExpr.v y1.1)] 0]), (12, V.func 157 [] [.elt [.slice 5 (List.map XSelect.v y1.2)] 0]), (13, V.func 156 [] [.elt [.slice 10 (List.map XExpr.v y1.1)] 0])] [(1, (x0.v, 76))] (s.setBox e3 ([vint 0], 3)) 26) ?_ ?_
 ·refine le_tst ?_ ?_ ?_ (Heap.le.refl _) rfl
  · simp only [leE, St.publish, substV, XSelect.vs, am, seval, reduceCtorEq] <;> simp
  · simp only [okL, keyIn, Nat.reduceBEq, Bool.or_true, Bool.true_or, Bool.or_false, and_self]
  · simp only [leB, St.publish, substV, XSelect.vs, am, seval, reduceCtorEq] <;> (repeat' apply And.intro) <;> first | rfl | (simp only [XSelect.v_eq]; rfl) | simp [XSelect.v_eq]
 refine AWp.weaken (st' := tst [(3, .ptr e3 0), (5, V.func 157 [] [.elt [.slice 5 (List.map XSelect.v y1.2)] 0]), (13, V.func 156 [] [.elt [.slice 10 (List.map XExpr.v y1.1)] 0])] [] (s.setBox e3 ([vint 0], 3)) 26) ?_ ?_
 ·refine le_tst ?_ ?_ ?_ (Heap.le.refl _) rfl
  · simp only [leE, tst, XSelect.vs, am, seval, reduceCtorEq] <;> simp
  · simp only [okL, keyIn, Nat.reduceBEq, Bool.or_true, Bool.true_or, Bool.or_false, and_self]
  · simp only [leB, tst, XSelect.vs, am, seval, reduceCtorEq] <;> (repeat' apply And.intro) <;> first | rfl | (simp only [XSelect.v_eq]; rfl) | simp [XSelect.v_eq]
 obtain ⟨q6, hq6, h⟩ := call_some h
 refine AWp.rangeS (X := Int) (α := XExpr) (enc := fun x => .agg x.v) (xs := y1.1) (seq156 y1.1) hq6 (fun q5 => (s.setBox e3 ([vint q5], 3))) (some (.both (.op 0 (.op 1 (.op 2 (.op 3 (.op 4 .fin))))) (.op 1 (.both (.op 0 (.op 2 (.op 3 (.op 4 .fin)))) (.op 2 (.op 0 (.op 3 (.op 4 .fin)))))))) rfl rfl rfl (by show 14 < 26; decide) (by decide +kernel) (by decide +kernel) ?_ (fun D9 => ?_)
 ·rintro y8 w4 q7 h Z10 hZ10
  (try simp only [xm, Nat.reduceAdd, Nat.reduceLeDiff, seval, reduceCtorEq])
  refine hZ10 _ 6 y8.v 42 ?_ rfl rfl fun e11 he11 Z102 hZ102 => ?_
  · funext k; simp only [upd]; (repeat' split) <;> first | rfl | (simp_all; done)
  change ((s.setBox e3 ([vint w4], 3))).box e11 = none at he11
  have he11e3 : e11 ≠ e3 := fun hq => by rw [hq] at he11; simp only [setBox_same, setBox_ne, owns_box, reduceCtorEq, ne_eq, not_false_eq_true] at he11
  have ne11 : s.box e11 = none := by simpa only [setBox_ne, owns_box, ne_eq, not_false_eq_true, he11e3] using he11
  refine ⟨by decide +kernel, mixed, ?_⟩
  (try simp only [St.publish, substV, aopsO_op, aopsO_fin, aopsOK_eq, he11e3, he11e3.symm, xm, Nat.reduceAdd, Nat.reduceLeDiff, seval, reduceCtorEq])
  refine aopsO_both ?_ ?_
  ·(try simp only [St.publish, substV, aopsO_op, aopsO_fin, aopsOK_eq, he11e3, he11e3.symm, xm, Nat.reduceAdd, Nat.reduceLeDiff, seval, reduceCtorEq])
   obtain ⟨y14, hy14, h⟩ := call_some h
   refine goG (H.p33 y8 _ hy14) ?_
   (try simp only [St.publish, substV, aopsO_op, aopsO_fin, aopsOK_eq, he11e3, he11e3.symm, xm, Nat.reduceAdd, Nat.reduceLeDiff, seval, reduceCtorEq])
   obtain rfl := Option.some.inj h
   exact hZ102 _ (Heap.le.trans (b := ((s.setBox e3 ([vint ((mxI w4 y14))], 3)).setBox e11 (y8.v, 42))) (⟨fun k => .inl (by simp only [Heap.setBox, Heap.setOwn, owns_box, upd] <;> (repeat' split) <;> first | with_reducible rfl | (simp only [XExpr.v_eq, XSelect.v_eq]; done) | (simp_all; done) | (simp_all [XExpr.v_eq, XSelect.v_eq]; done)), fun _ => .inl (by first | (simp only [setBox_own]; done) | (simp only [setBox_own]; rfl) | rfl)⟩) (Heap.le.dropBox (by simp only [setBox_ne, owns_box, he11e3, he11e3.symm, ne_eq, not_false_eq_true, ne11]) _))
  ·(try simp only [St.publish, substV, aopsO_op, aopsO_fin, aopsOK_eq, he11e3, he11e3.symm, xm, Nat.reduceAdd, Nat.reduceLeDiff, seval, reduceCtorEq])
   refine aopsO_both ?_ ?_
   ·(try simp only [St.publish, substV, aopsO_op, aopsO_fin, aopsOK_eq, he11e3, he11e3.symm, xm, Nat.reduceAdd, Nat.reduceLeDiff, seval, reduceCtorEq])
    obtain ⟨y14, hy14, h⟩ := call_some h
    refine goG (H.p33 y8 _ hy14) ?_
    (try simp only [St.publish, substV, aopsO_op, aopsO_fin, aopsOK_eq, he11e3, he11e3.symm, xm, Nat.reduceAdd, Nat.reduceLeDiff, seval, reduceCtorEq])
    obtain rfl := Option.some.inj h
    exact hZ102 _ (Heap.le.trans (b := ((s.setBox e3 ([vint ((mxI w4 y14))], 3)).setBox e11 (y8.v, 42))) (⟨fun k => .inl (by simp only [Heap.setBox, Heap.setOwn, owns_box, upd] <;> (repeat' split) <;> first | with_reducible rfl | (simp only [XExpr.v_eq, XSelect.v_eq]; done) | (simp_all; done) | (simp_all [XExpr.v_eq, XSelect.v_eq]; done)), fun _ => .inl (by first | (simp only [setBox_own]; done) | (simp only [setBox_own]; rfl) | rfl)⟩) (Heap.le.dropBox (by simp only [setBox_ne, owns_box, he11e3, he11e3.symm, ne_eq, not_false_eq_true, ne11]) _))
   ·(try simp only [St.publish, substV, aopsO_op, aopsO_fin, aopsOK_eq, he11e3, he11e3.symm, xm, Nat.reduceAdd, Nat.reduceLeDiff, seval, reduceCtorEq])
    obtain ⟨y14, hy14, h⟩ := call_some h
    refine goG (H.p33 y8 _ hy14) ?_
    (try simp only [St.publish, substV, aopsO_op, aopsO_fin, aopsOK_eq, he11e3, he11e3.symm, xm, Nat.reduceAdd, Nat.reduceLeDiff, seval, reduceCtorEq])
    obtain rfl := Option.some.inj h
    exact hZ102 _ (Heap.le.trans (b := ((s.setBox e3 ([vint ((mxI w4 y14))], 3)).setBox e11 (y8.v, 42))) (⟨fun k => .inl (by simp only [Heap.setBox, Heap.setOwn, owns_box, upd] <;> (repeat' split) <;> first | with_reducible rfl | (simp only [XExpr.v_eq, XSelect.v_eq]; done) | (simp_all; done) | (simp_all [XExpr.v_eq, XSelect.v_eq]; done)), fun _ => .inl (by first | (simp only [setBox_own]; done) | (simp only [setBox_own]; rfl) | rfl)⟩) (Heap.le.dropBox (by simp only [setBox_ne, owns_box, he11e3, he11e3.symm, ne_eq, not_false_eq_true, ne11]) _))
 ·refine AWp.seq ?_
  refine AWp.reg fun Z16 hZ16 => ?_
  (try simp only [tstD, xm, Nat.reduceAdd, Nat.reduceLeDiff, seval, reduceCtorEq])
  refine hZ16 _ ?_; clear hZ16 Z16
  refine AWp.block ?_
  refine AWp.weaken (st' := tstD [Go.Am.mark D9] [(3, .ptr e3 0), (19, V.func 157 [] [.elt [.slice 5 (List.map XSelect.v y1.2)] 0])] [] (s.setBox e3 ([vint q6], 3)) 26) ?_ ?_
  ·refine le_tstD ?_ ?_ ?_ (Heap.le.refl _) rfl
   · simp only [leE, tstD, tstD, XExpr.vs, XSelect.vs, am, seval, reduceCtorEq] <;> simp
   · simp only [okL, keyIn, Nat.reduceBEq, Bool.or_true, Bool.true_or, Bool.or_false, and_self]
   · simp only [leB, tstD, tstD, XExpr.vs, XSelect.vs, am, seval, reduceCtorEq] <;> (repeat' apply And.intro) <;> first | rfl | (simp only [XExpr.v_eq, XSelect.v_eq]; rfl) | simp [XExpr.v_eq, XSelect.v_eq]
  obtain ⟨q19, hq19, h⟩ := call_some h
  refine AWp.rangeS (X := Int) (α := XSelect) (enc := fun x => .agg x.v) (xs := y1.2) (seq157 y1.2) hq19 (fun q18 => (s.setBox e3 ([vint q18], 3))) (some (.both (.op 0 (.op 1 (.op 2 (.op 3 (.op 4 .fin))))) (.op 1 (.both (.op 0 (.op 2 (.op 3 (.op 4 .fin)))) (.op 2 (.op 0 (.op 3 (.op 4 .fin)))))))) rfl rfl rfl (by show 20 < 26; decide) (by decide +kernel) (by decide +kernel) ?_ (fun D22 => ?_)
  ·rintro y21 w17 q20 h Z23 hZ23
   (try simp only [tstD, xm, Nat.reduceAdd, Nat.reduceLeDiff, seval, reduceCtorEq])
   refine hZ23 _ 7 y21.v 76 ?_ rfl rfl fun e24 he24 Z232 hZ232 => ?_
   · funext k; simp only [upd]; (repeat' split) <;> first | rfl | (simp_all; done)
   change ((s.setBox e3 ([vint w17], 3))).box e24 = none at he24
   have he24e3 : e24 ≠ e3 := fun hq => by rw [hq] at he24; simp only [setBox_same, setBox_ne, owns_box, reduceCtorEq, ne_eq, not_false_eq_true] at he24
   have ne24 : s.box e24 = none := by simpa only [setBox_ne, owns_box, ne_eq, not_false_eq_true, he24e3] using he24
   refine ⟨by decide +kernel, mixed, ?_⟩
   (try simp only [tstD, St.publish, substV, aopsO_op, aopsO_fin, aopsOK_eq, he24e3, he24e3.symm, xm, Nat.reduceAdd, Nat.reduceLeDiff, seval, reduceCtorEq])
   refine aopsO_both ?_ ?_
   ·(try simp only [tstD, St.publish, substV, aopsO_op, aopsO_fin, aopsOK_eq, he24e3, he24e3.symm, xm, Nat.reduceAdd, Nat.reduceLeDiff, seval, reduceCtorEq])
    obtain ⟨y27, hy27, h⟩ := call_some h
    refine goG (H.p34 y21 _ hy27) ?_
    (try simp only [tstD, St.publish, substV, aopsO_op, aopsO_fin, aopsOK_eq, he24e3, he24e3.symm, xm, Nat.reduceAdd, Nat.reduceLeDiff, seval, reduceCtorEq])
    obtain rfl := Option.some.inj h
    exact hZ232 _ (Heap.le.trans (b := ((s.setBox e3 ([vint ((mxI w17 y27))], 3)).setBox e24 (y21.v, 76))) (⟨fun k => .inl (by simp only [Heap.setBox, Heap.setOwn, owns_box, upd] <;> (repeat' split) <;> first | with_reducible rfl | (simp only [XExpr.v_eq, XSelect.v_eq]; done) | (simp_all; done) | (simp_all [XExpr.v_eq, XSelect.v_eq]; done)), fun _ => .inl (by first | (simp only [setBox_own]; done) | (simp only [setBox_own]; rfl) | rfl)⟩) (Heap.le.dropBox (by simp only [setBox_ne, owns_box, he24e3, he24e3.symm, ne_eq, not_false_eq_true, ne24]) _))
   ·(try simp only [tstD, St.publish, substV, aopsO_op, aopsO_fin, aopsOK_eq, he24e3, he24e3.symm, xm, Nat.reduceAdd, Nat.reduceLeDiff, seval, reduceCtorEq])
    refine aopsO_both ?_ ?_
    ·(try simp only [tstD, St.publish, substV, aopsO_op, aopsO_fin, aopsOK_eq, he24e3, he24e3.symm, xm, Nat.reduceAdd, Nat.reduceLeDiff, seval, reduceCtorEq])
     obtain ⟨y27, hy27, h⟩ := call_some h
     refine goG (H.p34 y21 _ hy27) ?_
     (try simp only [tstD, St.publish, substV, aopsO_op, aopsO_fin, aopsOK_eq, he24e3, he24e3.symm, xm, Nat.reduceAdd, Nat.reduceLeDiff, seval, reduceCtorEq])
     obtain rfl := Option.some.inj h
     exact hZ232 _ (Heap.le.trans (b := ((s.setBox e3 ([vint ((mxI w17 y27))], 3)).setBox e24 (y21.v, 76))) (⟨fun k => .inl (by simp only [Heap.setBox, Heap.setOwn, owns_box, upd] <;> (repeat' split) <;> first | with_reducible rfl | (simp only [XExpr.v_eq, XSelect.v_eq]; done) | (simp_all; done) | (simp_all [XExpr.v_eq, XSelect.v_eq]; done)), fun _ => .inl (by first | (simp only [setBox_own]; done) | (simp only [setBox_own]; rfl) | rfl)⟩) (Heap.le.dropBox (by simp only [setBox_ne, owns_box, he24e3, he24e3.symm, ne_eq, not_false_eq_true, ne24]) _))
    ·(try simp only [tstD, St.publish, substV, aopsO_op, aopsO_fin, aopsOK_eq, he24e3, he24e3.symm, xm, Nat.reduceAdd, Nat.reduceLeDiff, seval, reduceCtorEq])
     obtain ⟨y27, hy27, h⟩ := call_some h
     refine goG (H.p34 y21 _ hy27) ?_
     (try simp only [tstD, St.publish, substV, aopsO_op, aopsO_fin, aopsOK_eq, he24e3, he24e3.symm, xm, Nat.reduceAdd, Nat.reduceLeDiff, seval, reduceCtorEq])
     obtain rfl := Option.some.inj h
     exact hZ232 _ (Heap.le.trans (b := ((s.setBox e3 ([vint ((mxI w17 y27))], 3)).setBox e24 (y21.v, 76))) (⟨fun k => .inl (by simp only [Heap.setBox, Heap.setOwn, owns_box, upd] <;> (repeat' split) <;> first | with_reducible rfl | (simp only [XExpr.v_eq, XSelect.v_eq]; done) | (simp_all; done) | (simp_all [XExpr.v_eq, XSelect.v_eq]; done)), fun _ => .inl (by first | (simp only [setBox_own]; done) | (simp only [setBox_own]; rfl) | rfl)⟩) (Heap.le.dropBox (by simp only [setBox_ne, owns_box, he24e3, he24e3.symm, ne_eq, not_false_eq_true, ne24]) _))
  ·refine AWp.reg fun Z28 hZ28 => ?_
   (try simp only [tstD, xm, Nat.reduceAdd, Nat.reduceLeDiff, seval, reduceCtorEq])
   refine hZ28 _ ?_; clear hZ28 Z28
   refine AWp.ret ?_
   refine ⟨_, St.to.refl _, ?_⟩
   obtain rfl := Option.some.inj h
   refine ret_go (vs := [vint q19]) (v := vint q19) (by show resV Tryz.prog _ [.tmp 2] = _; simp only [resV, XExpr.vs, XSelect.vs, am, seval, reduceCtorEq]) (Wk.refl _) (Heap.le.trans (Heap.le.dropBox (by simp only [setBox_ne, owns_box, ne_eq, not_false_eq_true, ne3]) _) (Heap.le.refl _)) ⟨?_, rfl⟩
   rfl
def F33_34.fix : Nat → F33_34
  | 0 => ⟨fun _ => none, fun _ => none⟩
  | n + 1 => ⟨b33 (F33_34.fix n), b34 (F33_34.fix n)⟩
theorem F33_34.ok : ∀ n, F33_34.Ok (F33_34.fix n)
  | 0 => ⟨(fun _ _ h => by cases h), (fun _ _ h => by cases h)⟩
  | n + 1 => ⟨d33 _ (F33_34.ok n), d34 _ (F33_34.ok n)⟩
end Go.Proofs.YtdgoilofkgdaoaaGreatDoor.Ex
