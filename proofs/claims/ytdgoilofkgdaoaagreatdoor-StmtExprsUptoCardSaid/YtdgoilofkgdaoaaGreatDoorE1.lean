/- Functions told as partial functions. -/
import Derived.Test.YtdgoilofkgdaoaaGreatDoorE6
import Derived.Test.YtdgoilofkgdaoaaGreatDoorE7
set_option linter.defProp false
set_option linter.unusedVariables false
set_option linter.unusedSimpArgs false
set_option maxRecDepth 100000
set_option maxHeartbeats 4000000
namespace Go.Proofs.YtdgoilofkgdaoaaGreatDoor.Ex
open Go.Am Go.Ex Go.Proofs.YtdgoilofkgdaoaaGreatDoor
def s30 (x0 : (List ByteArray)) (x1 : (List ByteArray)) : Option (Bool) := (way (((((x0.length : Nat) : Int)) != (((x1.length : Nat) : Int)))) (some false) (loopC (fun (u6 : Int → Option (Bool)) (q5 : Int) => (way ((decide (q5 < (((x0.length : Nat) : Int))))) (need (0 ≤ q5 ∧ q5 < ((x0.length : Nat) : Int)) (need (0 ≤ q5 ∧ q5 < ((x1.length : Nat) : Int)) (way ((!(((x0.getD q5.toNat ByteArray.empty)).data.toList == ((x1.getD q5.toNat ByteArray.empty)).data.toList))) (some false) (u6 (IntKind.i64.wrap (q5 + 1)))))) (some true))) manyC 0))
theorem c30 (x0 : (List ByteArray)) (x1 : (List ByteArray)) (r : Bool) (h : s30 x0 x1 = some r) : Gives Tryz.prog 30 [.slice 1 (List.map (fun x => [vstr x]) x0), .slice 1 (List.map (fun x => [vstr x]) x1)] (vbool r) := by
 intro s
 unfold s30 at h
 refine ac Tryz.func30 Tryz.ntmps30 ?_
 refine rg ?_
 refine AWp.seq ?_
 refine rg ?_
 refine ws h (fun hc2 h => ?_) fun hc2 h => ?_
 ·refine rg ?_
  cases h; exact AWp.ret (rtq [.tmp 4])
 ·refine AWp.skip ?_
  refine AWp.seq ?_
  refine rg ?_
  refine AWp.block ?_
  refine lp h (fun q5 => tst [(0, .slice 1 (List.map (fun x => [vstr x]) x0)), (1, .slice 1 (List.map (fun x => [vstr x]) x1)), (5, vint q5)] [] s 26) ?_ ?_
  ·exact tle
  ·rintro u6 v4 h
   refine AWp.seq ?_
   refine rg ?_
   refine ws h (fun hc8 h => ?_) fun hc8 h => ?_
   ·refine AWp.skip ?_
    refine AWp.seq ?_
    refine AWp.block ?_
    obtain ⟨hn11, h⟩ := need_some h
    obtain ⟨hn13, h⟩ := need_some h
    refine rgLF [0, 1, 2, 3, 4, 5, 6, 7, 8] [] ((And.intro ((isT hn11.1)) <| And.intro ((isT hn11.2)) <| And.intro ((getD_enc (fun x => [vstr x]) ByteArray.empty hn11)) <| And.intro ((isT hn13.1)) <| And.intro ((isT hn13.2)) <| (getD_enc (fun x => [vstr x]) ByteArray.empty hn13))) ?_
    refine ws h (fun hc14 h => ?_) fun hc14 h => ?_
    ·refine rg ?_
     cases h; exact AWp.ret (rtq [.tmp 4])
    ·refine AWp.skip ?_
     refine r1 ?_
     exact ⟨(IntKind.i64.wrap (v4 + 1)), h, tle⟩
   ·refine AWp.exit ?_
    simp only [exq, seval]
    refine rg ?_
    cases h; exact AWp.ret (rtq [.tmp 4])
structure F101_ where
  p101 : XPart → XPart → Option (Bool)
  p18 : (List XExpr) → (List XExpr) → Option (Bool)
  p19 : (List XSelect) → (List XSelect) → Option (Bool)
  p62 : XSelect → XSelect → Option (Bool)
  p8 : XExpr → XExpr → Option (Bool)
structure F101_.Ok (F : F101_) : Prop where
  p101 : ∀ (x0 : XPart) (x1 : XPart) (r : Bool), F.p101 x0 x1 = some r → Gives Tryz.prog 101 [.agg x0.v, .agg x1.v] (vbool r)
  p18 : ∀ (x0 : (List XExpr)) (x1 : (List XExpr)) (r : Bool), F.p18 x0 x1 = some r → Gives Tryz.prog 18 [.slice 10 (List.map XExpr.v x0), .slice 10 (List.map XExpr.v x1)] (vbool r)
  p19 : ∀ (x0 : (List XSelect)) (x1 : (List XSelect)) (r : Bool), F.p19 x0 x1 = some r → Gives Tryz.prog 19 [.slice 5 (List.map XSelect.v x0), .slice 5 (List.map XSelect.v x1)] (vbool r)
  p62 : ∀ (x0 : XSelect) (x1 : XSelect) (r : Bool), F.p62 x0 x1 = some r → Gives Tryz.prog 62 [.agg x0.v, .agg x1.v] (vbool r)
  p8 : ∀ (x0 : XExpr) (x1 : XExpr) (r : Bool), F.p8 x0 x1 = some r → Gives Tryz.prog 8 [.agg x0.v, .agg x1.v] (vbool r)
def b101 (F : F101_) (x0 : XPart) (x1 : XPart) : Option (Bool) := (join (fun (u4 : Bool → Option (Bool)) => (way ((x0.comp != x1.comp)) (u4 true) (way ((!(x0.distinct == x1.distinct))) (u4 true) (way (((((x0.items.length : Nat) : Int)) != (((x1.items.length : Nat) : Int)))) (u4 true) (way (((((x0.from_.length : Nat) : Int)) != (((x1.from_.length : Nat) : Int)))) (u4 true) (u4 ((((x0.values.length : Nat) : Int)) != (((x1.values.length : Nat) : Int))))))))) (fun (q3 : Bool) => (way q3 (some false) (loopC (fun (u13 : Int → Option (Bool)) (q12 : Int) => (way ((decide (q12 < (((x0.items.length : Nat) : Int))))) (need (0 ≤ q12 ∧ q12 < ((x0.items.length : Nat) : Int)) (need (0 ≤ q12 ∧ q12 < ((x1.items.length : Nat) : Int)) (join (fun (u23 : Bool → Option (Bool)) => (way ((!((((x0.items.getD q12.toNat XItem.z)).star) == (((x1.items.getD q12.toNat XItem.z)).star)))) (u23 true) (way ((!((((x0.items.getD q12.toNat XItem.z)).table).data.toList == (((x1.items.getD q12.toNat XItem.z)).table).data.toList))) (u23 true) (way ((!((((x0.items.getD q12.toNat XItem.z)).as).data.toList == (((x1.items.getD q12.toNat XItem.z)).as).data.toList))) (u23 true) (call (F.p18 (((x0.items.getD q12.toNat XItem.z)).expr) (((x1.items.getD q12.toNat XItem.z)).expr)) fun y27 => (u23 (!y27))))))) (fun (q22 : Bool) => (way q22 (some false) (u13 (IntKind.i64.wrap (q12 + 1)))))))) (loopC (fun (u32 : Int → Option (Bool)) (q31 : Int) => (way ((decide (q31 < (((x0.from_.length : Nat) : Int))))) (need (0 ≤ q31 ∧ q31 < ((x0.from_.length : Nat) : Int)) (need (0 ≤ q31 ∧ q31 < ((x1.from_.length : Nat) : Int)) (join (fun (u42 : Bool → Option (Bool)) => (way (((((x0.from_.getD q31.toNat XSource.z)).join) != (((x1.from_.getD q31.toNat XSource.z)).join))) (u42 true) (way ((!((((x0.from_.getD q31.toNat XSource.z)).name).data.toList == (((x1.from_.getD q31.toNat XSource.z)).name).data.toList))) (u42 true) (way ((!((((x0.from_.getD q31.toNat XSource.z)).as).data.toList == (((x1.from_.getD q31.toNat XSource.z)).as).data.toList))) (u42 true) (call (F.p19 (((x0.from_.getD q31.toNat XSource.z)).sub) (((x1.from_.getD q31.toNat XSource.z)).sub)) fun y46 => (way ((!y46)) (u42 true) (call (F.p18 (((x0.from_.getD q31.toNat XSource.z)).on) (((x1.from_.getD q31.toNat XSource.z)).on)) fun y48 => (u42 (!y48))))))))) (fun (q41 : Bool) => (way q41 (some false) (u32 (IntKind.i64.wrap (q31 + 1)))))))) (loopC (fun (u53 : Int → Option (Bool)) (q52 : Int) => (way ((decide (q52 < (((x0.values.length : Nat) : Int))))) (need (0 ≤ q52 ∧ q52 < ((x0.values.length : Nat) : Int)) (need (0 ≤ q52 ∧ q52 < ((x1.values.length : Nat) : Int)) (call (F.p18 ((x0.values.getD q52.toNat ([]))) ((x1.values.getD q52.toNat ([])))) fun y61 => (way ((!y61)) (some false) (u53 (IntKind.i64.wrap (q52 + 1))))))) (join (fun (u65 : Bool → Option (Bool)) => (call (F.p18 x0.where_ x1.where_) fun y66 => (way y66 (call (F.p18 x0.group x1.group) fun y68 => (way y68 (call (F.p18 x0.having x1.having) fun y70 => (u65 y70)) (u65 false))) (u65 false)))) (fun (q64 : Bool) => (some q64))))) manyC 0))) manyC 0))) manyC 0))))
theorem d101 (F : F101_) (H : F.Ok) (x0 : XPart) (x1 : XPart) (r : Bool) (h : b101 F x0 x1 = some r) : Gives Tryz.prog 101 [.agg x0.v, .agg x1.v] (vbool r) := by
 intro s
 unfold b101 at h
 refine ac Tryz.func101 Tryz.ntmps101 ?_
 refine rg ?_
 refine AWp.seq ?_
 refine jn h (fun q3 => tst [(2, .loc 2 0), (3, .loc 3 0), (50, vbool q3)] [(2, (x0.v, 126)), (3, (x1.v, 126))] s 185) (fun u4 h => ?_) ?_
 ·refine wy h (fun hg5 h => ?_) fun hg5 h => ?_
  ·refine r1F hg5 ?_
   exact ⟨true, h, tleF hg5⟩
  ·refine wy h (fun hg6 h => ?_) fun hg6 h => ?_
   ·refine r1F ((And.intro hg5 <| hg6)) ?_
    exact ⟨true, h, tleF ((And.intro hg5 <| hg6))⟩
   ·refine wy h (fun hg7 h => ?_) fun hg7 h => ?_
    ·refine r1F ((And.intro hg5 <| And.intro hg6 <| hg7)) ?_
     exact ⟨true, h, tleF ((And.intro hg5 <| And.intro hg6 <| hg7))⟩
    ·refine wy h (fun hg8 h => ?_) fun hg8 h => ?_
     ·refine r1F ((And.intro hg5 <| And.intro hg6 <| And.intro hg7 <| hg8)) ?_
      exact ⟨true, h, tleF ((And.intro hg5 <| And.intro hg6 <| And.intro hg7 <| hg8))⟩
     ·refine r1F ((And.intro hg5 <| And.intro hg6 <| And.intro hg7 <| hg8)) ?_
      exact ⟨((((x0.values.length : Nat) : Int)) != (((x1.values.length : Nat) : Int))), h, tleF ((And.intro hg5 <| And.intro hg6 <| And.intro hg7 <| hg8))⟩
 ·rintro v2 h
  refine ws h (fun hc9 h => ?_) fun hc9 h => ?_
  ·refine rg ?_
   cases h; exact AWp.ret (rtq [.tmp 4])
  ·refine AWp.skip ?_
   refine AWp.seq ?_
   refine rg ?_
   refine AWp.block ?_
   refine lp h (fun q12 => tst [(2, .loc 2 0), (3, .loc 3 0), (5, vint q12)] [(2, (x0.v, 126)), (3, (x1.v, 126))] s 185) ?_ ?_
   ·exact tle
   ·rintro u13 v11 h
    refine AWp.seq ?_
    refine rg ?_
    refine ws h (fun hc15 h => ?_) fun hc15 h => ?_
    ·refine AWp.skip ?_
     refine AWp.seq ?_
     refine AWp.block ?_
     obtain ⟨hn18, h⟩ := need_some h
     obtain ⟨hn20, h⟩ := need_some h
     refine rgLF [0, 1, 2, 3, 4, 5, 6, 7, 8, 9, 10, 11, 12, 13] [6, 7, 100064, 100067] ((And.intro ((isT hn18.1)) <| And.intro ((isT hn18.2)) <| And.intro ((getD_enc XItem.v XItem.z hn18)) <| And.intro ((isT hn20.1)) <| And.intro ((isT hn20.2)) <| (getD_enc XItem.v XItem.z hn20))) ?_
     refine jn h (fun q22 => tst [(2, .loc 2 0), (3, .loc 3 0), (5, vint v11), (94, vbool q22)] [(2, (x0.v, 126)), (3, (x1.v, 126))] s 185) (fun u23 h => ?_) ?_
     ·refine wy h (fun hg24 h => ?_) fun hg24 h => ?_
      ·refine r1F hg24 ?_
       exact ⟨true, h, tleF hg24⟩
      ·refine wy h (fun hg25 h => ?_) fun hg25 h => ?_
       ·refine r1F ((And.intro hg24 <| hg25)) ?_
        exact ⟨true, h, tleF ((And.intro hg24 <| hg25))⟩
       ·refine wy h (fun hg26 h => ?_) fun hg26 h => ?_
        ·refine r1F ((And.intro hg24 <| And.intro hg25 <| hg26)) ?_
         exact ⟨true, h, tleF ((And.intro hg24 <| And.intro hg25 <| hg26))⟩
        ·refine r1FD ((And.intro hg24 <| And.intro hg25 <| hg26)) (H.p18 (((x0.items.getD v11.toNat XItem.z)).expr) (((x1.items.getD v11.toNat XItem.z)).expr)) h fun y27 hy27 h => ?_
         exact ⟨(!y27), h, tleF ((And.intro hg24 <| And.intro hg25 <| hg26))⟩
     ·rintro v21 h
      refine ws h (fun hc28 h => ?_) fun hc28 h => ?_
      ·refine rg ?_
       cases h; exact AWp.ret (rtq [.tmp 4])
      ·refine AWp.skip ?_
       refine r1 ?_
       exact ⟨(IntKind.i64.wrap (v11 + 1)), h, tle⟩
    ·refine AWp.exit ?_
     simp only [exq, seval]
     refine AWp.seq ?_
     refine rg ?_
     refine AWp.block ?_
     refine lp h (fun q31 => tst [(2, .loc 2 0), (3, .loc 3 0), (8, vint q31)] [(2, (x0.v, 126)), (3, (x1.v, 126))] s 185) ?_ ?_
     ·exact tle
     ·rintro u32 v30 h
      refine AWp.seq ?_
      refine rg ?_
      refine ws h (fun hc34 h => ?_) fun hc34 h => ?_
      ·refine AWp.skip ?_
       refine AWp.seq ?_
       refine AWp.block ?_
       obtain ⟨hn37, h⟩ := need_some h
       obtain ⟨hn39, h⟩ := need_some h
       refine rgLF [0, 1, 2, 3, 4, 5, 6, 7, 8, 9, 10, 11, 12, 13] [9, 10, 100108, 100111] ((And.intro ((isT hn37.1)) <| And.intro ((isT hn37.2)) <| And.intro ((getD_enc XSource.v XSource.z hn37)) <| And.intro ((isT hn39.1)) <| And.intro ((isT hn39.2)) <| (getD_enc XSource.v XSource.z hn39))) ?_
       refine jn h (fun q41 => tst [(2, .loc 2 0), (3, .loc 3 0), (8, vint v30), (146, vbool q41)] [(2, (x0.v, 126)), (3, (x1.v, 126))] s 185) (fun u42 h => ?_) ?_
       ·refine wy h (fun hg43 h => ?_) fun hg43 h => ?_
        ·refine r1F hg43 ?_
         exact ⟨true, h, tleF hg43⟩
        ·refine wy h (fun hg44 h => ?_) fun hg44 h => ?_
         ·refine r1F ((And.intro hg43 <| hg44)) ?_
          exact ⟨true, h, tleF ((And.intro hg43 <| hg44))⟩
         ·refine wy h (fun hg45 h => ?_) fun hg45 h => ?_
          ·refine r1F ((And.intro hg43 <| And.intro hg44 <| hg45)) ?_
           exact ⟨true, h, tleF ((And.intro hg43 <| And.intro hg44 <| hg45))⟩
          ·obtain ⟨y46, hy46, h⟩ := call_some h
           refine wy h (fun hg47 h => ?_) fun hg47 h => ?_
           ·refine r1FC ((And.intro hg43 <| And.intro hg44 <| And.intro hg45 <| hg47)) (H.p19 (((x0.from_.getD v30.toNat XSource.z)).sub) (((x1.from_.getD v30.toNat XSource.z)).sub) _ hy46) ?_
            exact ⟨true, h, tleF ((And.intro hg43 <| And.intro hg44 <| And.intro hg45 <| hg47))⟩
           ·refine r1FCD ((And.intro hg43 <| And.intro hg44 <| And.intro hg45 <| hg47)) (H.p19 (((x0.from_.getD v30.toNat XSource.z)).sub) (((x1.from_.getD v30.toNat XSource.z)).sub) _ hy46) (H.p18 (((x0.from_.getD v30.toNat XSource.z)).on) (((x1.from_.getD v30.toNat XSource.z)).on)) h fun y48 hy48 h => ?_
            exact ⟨(!y48), h, tleF ((And.intro hg43 <| And.intro hg44 <| And.intro hg45 <| hg47))⟩
       ·rintro v40 h
        refine ws h (fun hc49 h => ?_) fun hc49 h => ?_
        ·refine rg ?_
         cases h; exact AWp.ret (rtq [.tmp 4])
        ·refine AWp.skip ?_
         refine r1 ?_
         exact ⟨(IntKind.i64.wrap (v30 + 1)), h, tle⟩
      ·refine AWp.exit ?_
       simp only [exq, seval]
       refine AWp.seq ?_
       refine rg ?_
       refine AWp.block ?_
       refine lp h (fun q52 => tst [(2, .loc 2 0), (3, .loc 3 0), (11, vint q52)] [(2, (x0.v, 126)), (3, (x1.v, 126))] s 185) ?_ ?_
       ·exact tle
       ·rintro u53 v51 h
        refine AWp.seq ?_
        refine rg ?_
        refine ws h (fun hc55 h => ?_) fun hc55 h => ?_
        ·refine AWp.skip ?_
         refine AWp.seq ?_
         refine AWp.block ?_
         obtain ⟨hn58, h⟩ := need_some h
         obtain ⟨hn60, h⟩ := need_some h
         refine rgLFD [0, 1, 2, 3, 4, 5, 6, 7, 8, 9, 10, 11] [] ((And.intro ((isT hn58.1)) <| And.intro ((isT hn58.2)) <| And.intro ((getD_enc (fun x => [V.slice 10 (List.map XExpr.v x)]) ([]) hn58)) <| And.intro ((isT hn60.1)) <| And.intro ((isT hn60.2)) <| (getD_enc (fun x => [V.slice 10 (List.map XExpr.v x)]) ([]) hn60))) (H.p18 ((x0.values.getD v51.toNat ([]))) ((x1.values.getD v51.toNat ([])))) h fun y61 hy61 h => ?_
         refine ws h (fun hc62 h => ?_) fun hc62 h => ?_
         ·refine rg ?_
          cases h; exact AWp.ret (rtq [.tmp 4])
         ·refine AWp.skip ?_
          refine r1 ?_
          exact ⟨(IntKind.i64.wrap (v51 + 1)), h, tle⟩
        ·refine AWp.exit ?_
         simp only [exq, seval]
         refine jn h (fun q64 => tst [(4, vbool q64)] [] s 185) (fun u65 h => ?_) ?_
         ·obtain ⟨y66, hy66, h⟩ := call_some h
          refine wy h (fun hg67 h => ?_) fun hg67 h => ?_
          ·obtain ⟨y68, hy68, h⟩ := call_some h
           refine wy h (fun hg69 h => ?_) fun hg69 h => ?_
           ·refine r1FCCD ((And.intro hg67 <| hg69)) (H.p18 x0.where_ x1.where_ _ hy66) (H.p18 x0.group x1.group _ hy68) (H.p18 x0.having x1.having) h fun y70 hy70 h => ?_
            exact ⟨y70, h, tleF ((And.intro hg67 <| hg69))⟩
           ·refine r1FCC ((And.intro hg67 <| hg69)) (H.p18 x0.where_ x1.where_ _ hy66) (H.p18 x0.group x1.group _ hy68) ?_
            exact ⟨false, h, tleF ((And.intro hg67 <| hg69))⟩
          ·refine r1FC hg67 (H.p18 x0.where_ x1.where_ _ hy66) ?_
           exact ⟨false, h, tleF hg67⟩
         ·rintro v63 h
          cases h; exact AWp.ret (rtq [.tmp 4])
def b18 (F : F101_) (x0 : (List XExpr)) (x1 : (List XExpr)) : Option (Bool) := (way (((((x0.length : Nat) : Int)) != (((x1.length : Nat) : Int)))) (some false) (loopC (fun (u6 : Int → Option (Bool)) (q5 : Int) => (way ((decide (q5 < (((x0.length : Nat) : Int))))) (need (0 ≤ q5 ∧ q5 < ((x0.length : Nat) : Int)) (need (0 ≤ q5 ∧ q5 < ((x1.length : Nat) : Int)) (call (F.p8 ((x0.getD q5.toNat XExpr.z)) ((x1.getD q5.toNat XExpr.z))) fun y14 => (way ((!y14)) (some false) (u6 (IntKind.i64.wrap (q5 + 1))))))) (some true))) manyC 0))
theorem d18 (F : F101_) (H : F.Ok) (x0 : (List XExpr)) (x1 : (List XExpr)) (r : Bool) (h : b18 F x0 x1 = some r) : Gives Tryz.prog 18 [.slice 10 (List.map XExpr.v x0), .slice 10 (List.map XExpr.v x1)] (vbool r) := by
 intro s
 unfold b18 at h
 refine ac Tryz.func18 Tryz.ntmps18 ?_
 refine rg ?_
 refine AWp.seq ?_
 refine rg ?_
 refine ws h (fun hc2 h => ?_) fun hc2 h => ?_
 ·refine rg ?_
  cases h; exact AWp.ret (rtq [.tmp 4])
 ·refine AWp.skip ?_
  refine AWp.seq ?_
  refine rg ?_
  refine AWp.block ?_
  refine lp h (fun q5 => tst [(0, .slice 10 (List.map XExpr.v x0)), (1, .slice 10 (List.map XExpr.v x1)), (5, vint q5)] [] s 27) ?_ ?_
  ·exact tle
  ·rintro u6 v4 h
   refine AWp.seq ?_
   refine rg ?_
   refine ws h (fun hc8 h => ?_) fun hc8 h => ?_
   ·refine AWp.skip ?_
    refine AWp.seq ?_
    refine AWp.block ?_
    obtain ⟨hn11, h⟩ := need_some h
    obtain ⟨hn13, h⟩ := need_some h
    refine rgLFD [0, 1, 2, 3, 4, 5, 6, 7, 8, 9] [] ((And.intro ((isT hn11.1)) <| And.intro ((isT hn11.2)) <| And.intro ((getD_enc XExpr.v XExpr.z hn11)) <| And.intro ((isT hn13.1)) <| And.intro ((isT hn13.2)) <| (getD_enc XExpr.v XExpr.z hn13))) (H.p8 ((x0.getD v4.toNat XExpr.z)) ((x1.getD v4.toNat XExpr.z))) h fun y14 hy14 h => ?_
    refine ws h (fun hc15 h => ?_) fun hc15 h => ?_
    ·refine rg ?_
     cases h; exact AWp.ret (rtq [.tmp 4])
    ·refine AWp.skip ?_
     refine r1 ?_
     exact ⟨(IntKind.i64.wrap (v4 + 1)), h, tle⟩
   ·refine AWp.exit ?_
    simp only [exq, seval]
    refine rg ?_
    cases h; exact AWp.ret (rtq [.tmp 4])
def b19 (F : F101_) (x0 : (List XSelect)) (x1 : (List XSelect)) : Option (Bool) := (way (((((x0.length : Nat) : Int)) != (((x1.length : Nat) : Int)))) (some false) (loopC (fun (u6 : Int → Option (Bool)) (q5 : Int) => (way ((decide (q5 < (((x0.length : Nat) : Int))))) (need (0 ≤ q5 ∧ q5 < ((x0.length : Nat) : Int)) (need (0 ≤ q5 ∧ q5 < ((x1.length : Nat) : Int)) (call (F.p62 ((x0.getD q5.toNat XSelect.z)) ((x1.getD q5.toNat XSelect.z))) fun y14 => (way ((!y14)) (some false) (u6 (IntKind.i64.wrap (q5 + 1))))))) (some true))) manyC 0))
theorem d19 (F : F101_) (H : F.Ok) (x0 : (List XSelect)) (x1 : (List XSelect)) (r : Bool) (h : b19 F x0 x1 = some r) : Gives Tryz.prog 19 [.slice 5 (List.map XSelect.v x0), .slice 5 (List.map XSelect.v x1)] (vbool r) := by
 intro s
 unfold b19 at h
 refine ac Tryz.func19 Tryz.ntmps19 ?_
 refine rg ?_
 refine AWp.seq ?_
 refine rg ?_
 refine ws h (fun hc2 h => ?_) fun hc2 h => ?_
 ·refine rg ?_
  cases h; exact AWp.ret (rtq [.tmp 4])
 ·refine AWp.skip ?_
  refine AWp.seq ?_
  refine rg ?_
  refine AWp.block ?_
  refine lp h (fun q5 => tst [(0, .slice 5 (List.map XSelect.v x0)), (1, .slice 5 (List.map XSelect.v x1)), (5, vint q5)] [] s 27) ?_ ?_
  ·exact tle
  ·rintro u6 v4 h
   refine AWp.seq ?_
   refine rg ?_
   refine ws h (fun hc8 h => ?_) fun hc8 h => ?_
   ·refine AWp.skip ?_
    refine AWp.seq ?_
    refine AWp.block ?_
    obtain ⟨hn11, h⟩ := need_some h
    obtain ⟨hn13, h⟩ := need_some h
    refine rgLFD [0, 1, 2, 3, 4, 5, 6, 7, 8, 9] [] ((And.intro ((isT hn11.1)) <| And.intro ((isT hn11.2)) <| And.intro ((getD_enc XSelect.v XSelect.z hn11)) <| And.intro ((isT hn13.1)) <| And.intro ((isT hn13.2)) <| (getD_enc XSelect.v XSelect.z hn13))) (H.p62 ((x0.getD v4.toNat XSelect.z)) ((x1.getD v4.toNat XSelect.z))) h fun y14 hy14 h => ?_
    refine ws h (fun hc15 h => ?_) fun hc15 h => ?_
    ·refine rg ?_
     cases h; exact AWp.ret (rtq [.tmp 4])
    ·refine AWp.skip ?_
     refine r1 ?_
     exact ⟨(IntKind.i64.wrap (v4 + 1)), h, tle⟩
   ·refine AWp.exit ?_
    simp only [exq, seval]
    refine rg ?_
    cases h; exact AWp.ret (rtq [.tmp 4])
def b62 (F : F101_) (x0 : XSelect) (x1 : XSelect) : Option (Bool) := (join (fun (u4 : Bool → Option (Bool)) => (way (((((x0.with_.length : Nat) : Int)) != (((x1.with_.length : Nat) : Int)))) (u4 true) (way (((((x0.parts.length : Nat) : Int)) != (((x1.parts.length : Nat) : Int)))) (u4 true) (way (((((x0.order.length : Nat) : Int)) != (((x1.order.length : Nat) : Int)))) (u4 true) (call (F.p18 x0.limit x1.limit) fun y8 => (way ((!y8)) (u4 true) (call (F.p18 x0.offset x1.offset) fun y10 => (u4 (!y10))))))))) (fun (q3 : Bool) => (way q3 (some false) (loopC (fun (u15 : Int → Option (Bool)) (q14 : Int) => (way ((decide (q14 < (((x0.with_.length : Nat) : Int))))) (need (0 ≤ q14 ∧ q14 < ((x0.with_.length : Nat) : Int)) (need (0 ≤ q14 ∧ q14 < ((x1.with_.length : Nat) : Int)) (join (fun (u25 : Bool → Option (Bool)) => (way ((!((((x0.with_.getD q14.toNat XCte.z)).name).data.toList == (((x1.with_.getD q14.toNat XCte.z)).name).data.toList))) (u25 true) (call (s30 (((x0.with_.getD q14.toNat XCte.z)).cols) (((x1.with_.getD q14.toNat XCte.z)).cols)) fun y27 => (way ((!y27)) (u25 true) (call (F.p19 (((x0.with_.getD q14.toNat XCte.z)).body) (((x1.with_.getD q14.toNat XCte.z)).body)) fun y29 => (u25 (!y29))))))) (fun (q24 : Bool) => (way q24 (some false) (u15 (IntKind.i64.wrap (q14 + 1)))))))) (loopC (fun (u34 : Int → Option (Bool)) (q33 : Int) => (way ((decide (q33 < (((x0.parts.length : Nat) : Int))))) (need (0 ≤ q33 ∧ q33 < ((x0.parts.length : Nat) : Int)) (need (0 ≤ q33 ∧ q33 < ((x1.parts.length : Nat) : Int)) (call (F.p101 ((x0.parts.getD q33.toNat XPart.z)) ((x1.parts.getD q33.toNat XPart.z))) fun y42 => (way ((!y42)) (some false) (u34 (IntKind.i64.wrap (q33 + 1))))))) (loopC (fun (u47 : Int → Option (Bool)) (q46 : Int) => (way ((decide (q46 < (((x0.order.length : Nat) : Int))))) (join (fun (u53 : Bool → Option (Bool)) => (need (0 ≤ q46 ∧ q46 < ((x0.order.length : Nat) : Int)) (need (0 ≤ q46 ∧ q46 < ((x1.order.length : Nat) : Int)) (way ((!((((x0.order.getD q46.toNat XSort.z)).desc_) == (((x1.order.getD q46.toNat XSort.z)).desc_)))) (u53 true) (need (0 ≤ q46 ∧ q46 < ((x0.order.length : Nat) : Int)) (need (0 ≤ q46 ∧ q46 < ((x1.order.length : Nat) : Int)) (call (F.p8 (((x0.order.getD q46.toNat XSort.z)).expr) (((x1.order.getD q46.toNat XSort.z)).expr)) fun y63 => (u53 (!y63))))))))) (fun (q52 : Bool) => (way q52 (some false) (u47 (IntKind.i64.wrap (q46 + 1)))))) (some true))) manyC 0))) manyC 0))) manyC 0))))
theorem d62 (F : F101_) (H : F.Ok) (x0 : XSelect) (x1 : XSelect) (r : Bool) (h : b62 F x0 x1 = some r) : Gives Tryz.prog 62 [.agg x0.v, .agg x1.v] (vbool r) := by
 intro s
 unfold b62 at h
 refine ac Tryz.func62 Tryz.ntmps62 ?_
 refine rg ?_
 refine AWp.seq ?_
 refine jn h (fun q3 => tst [(2, .loc 2 0), (3, .loc 3 0), (50, vbool q3)] [(2, (x0.v, 76)), (3, (x1.v, 76))] s 144) (fun u4 h => ?_) ?_
 ·refine wy h (fun hg5 h => ?_) fun hg5 h => ?_
  ·refine r1F hg5 ?_
   exact ⟨true, h, tleF hg5⟩
  ·refine wy h (fun hg6 h => ?_) fun hg6 h => ?_
   ·refine r1F ((And.intro hg5 <| hg6)) ?_
    exact ⟨true, h, tleF ((And.intro hg5 <| hg6))⟩
   ·refine wy h (fun hg7 h => ?_) fun hg7 h => ?_
    ·refine r1F ((And.intro hg5 <| And.intro hg6 <| hg7)) ?_
     exact ⟨true, h, tleF ((And.intro hg5 <| And.intro hg6 <| hg7))⟩
    ·obtain ⟨y8, hy8, h⟩ := call_some h
     refine wy h (fun hg9 h => ?_) fun hg9 h => ?_
     ·refine r1FC ((And.intro hg5 <| And.intro hg6 <| And.intro hg7 <| hg9)) (H.p18 x0.limit x1.limit _ hy8) ?_
      exact ⟨true, h, tleF ((And.intro hg5 <| And.intro hg6 <| And.intro hg7 <| hg9))⟩
     ·refine r1FCD ((And.intro hg5 <| And.intro hg6 <| And.intro hg7 <| hg9)) (H.p18 x0.limit x1.limit _ hy8) (H.p18 x0.offset x1.offset) h fun y10 hy10 h => ?_
      exact ⟨(!y10), h, tleF ((And.intro hg5 <| And.intro hg6 <| And.intro hg7 <| hg9))⟩
 ·rintro v2 h
  refine ws h (fun hc11 h => ?_) fun hc11 h => ?_
  ·refine rg ?_
   cases h; exact AWp.ret (rtq [.tmp 4])
  ·refine AWp.skip ?_
   refine AWp.seq ?_
   refine rg ?_
   refine AWp.block ?_
   refine lp h (fun q14 => tst [(2, .loc 2 0), (3, .loc 3 0), (5, vint q14)] [(2, (x0.v, 76)), (3, (x1.v, 76))] s 144) ?_ ?_
   ·exact tle
   ·rintro u15 v13 h
    refine AWp.seq ?_
    refine rg ?_
    refine ws h (fun hc17 h => ?_) fun hc17 h => ?_
    ·refine AWp.skip ?_
     refine AWp.seq ?_
     refine AWp.block ?_
     obtain ⟨hn20, h⟩ := need_some h
     obtain ⟨hn22, h⟩ := need_some h
     refine rgLF [0, 1, 2, 3, 4, 5, 6, 7, 8, 9, 10, 11, 12, 13] [6, 7, 100064, 100067] ((And.intro ((isT hn20.1)) <| And.intro ((isT hn20.2)) <| And.intro ((getD_enc XCte.v XCte.z hn20)) <| And.intro ((isT hn22.1)) <| And.intro ((isT hn22.2)) <| (getD_enc XCte.v XCte.z hn22))) ?_
     refine jn h (fun q24 => tst [(2, .loc 2 0), (3, .loc 3 0), (5, vint v13), (88, vbool q24)] [(2, (x0.v, 76)), (3, (x1.v, 76))] s 144) (fun u25 h => ?_) ?_
     ·refine wy h (fun hg26 h => ?_) fun hg26 h => ?_
      ·refine r1F hg26 ?_
       exact ⟨true, h, tleF hg26⟩
      ·obtain ⟨y27, hy27, h⟩ := call_some h
       refine wy h (fun hg28 h => ?_) fun hg28 h => ?_
       ·refine r1FC ((And.intro hg26 <| hg28)) (c30 (((x0.with_.getD v13.toNat XCte.z)).cols) (((x1.with_.getD v13.toNat XCte.z)).cols) _ hy27) ?_
        exact ⟨true, h, tleF ((And.intro hg26 <| hg28))⟩
       ·refine r1FCD ((And.intro hg26 <| hg28)) (c30 (((x0.with_.getD v13.toNat XCte.z)).cols) (((x1.with_.getD v13.toNat XCte.z)).cols) _ hy27) (H.p19 (((x0.with_.getD v13.toNat XCte.z)).body) (((x1.with_.getD v13.toNat XCte.z)).body)) h fun y29 hy29 h => ?_
        exact ⟨(!y29), h, tleF ((And.intro hg26 <| hg28))⟩
     ·rintro v23 h
      refine ws h (fun hc30 h => ?_) fun hc30 h => ?_
      ·refine rg ?_
       cases h; exact AWp.ret (rtq [.tmp 4])
      ·refine AWp.skip ?_
       refine r1 ?_
       exact ⟨(IntKind.i64.wrap (v13 + 1)), h, tle⟩
    ·refine AWp.exit ?_
     simp only [exq, seval]
     refine AWp.seq ?_
     refine rg ?_
     refine AWp.block ?_
     refine lp h (fun q33 => tst [(2, .loc 2 0), (3, .loc 3 0), (8, vint q33)] [(2, (x0.v, 76)), (3, (x1.v, 76))] s 144) ?_ ?_
     ·exact tle
     ·rintro u34 v32 h
      refine AWp.seq ?_
      refine rg ?_
      refine ws h (fun hc36 h => ?_) fun hc36 h => ?_
      ·refine AWp.skip ?_
       refine AWp.seq ?_
       refine AWp.block ?_
       obtain ⟨hn39, h⟩ := need_some h
       obtain ⟨hn41, h⟩ := need_some h
       refine rgLFD [0, 1, 2, 3, 4, 5, 6, 7, 8, 9, 10, 11] [] ((And.intro ((isT hn39.1)) <| And.intro ((isT hn39.2)) <| And.intro ((getD_enc XPart.v XPart.z hn39)) <| And.intro ((isT hn41.1)) <| And.intro ((isT hn41.2)) <| (getD_enc XPart.v XPart.z hn41))) (H.p101 ((x0.parts.getD v32.toNat XPart.z)) ((x1.parts.getD v32.toNat XPart.z))) h fun y42 hy42 h => ?_
       refine ws h (fun hc43 h => ?_) fun hc43 h => ?_
       ·refine rg ?_
        cases h; exact AWp.ret (rtq [.tmp 4])
       ·refine AWp.skip ?_
        refine r1 ?_
        exact ⟨(IntKind.i64.wrap (v32 + 1)), h, tle⟩
      ·refine AWp.exit ?_
       simp only [exq, seval]
       refine AWp.seq ?_
       refine rg ?_
       refine AWp.block ?_
       refine lp h (fun q46 => tst [(2, .loc 2 0), (3, .loc 3 0), (9, vint q46)] [(2, (x0.v, 76)), (3, (x1.v, 76))] s 144) ?_ ?_
       ·exact tle
       ·rintro u47 v45 h
        refine AWp.seq ?_
        refine rg ?_
        refine ws h (fun hc49 h => ?_) fun hc49 h => ?_
        ·refine AWp.skip ?_
         refine AWp.seq ?_
         refine AWp.block ?_
         refine jn h (fun q52 => tst [(2, .loc 2 0), (3, .loc 3 0), (9, vint v45), (143, vbool q52)] [(2, (x0.v, 76)), (3, (x1.v, 76))] s 144) (fun u53 h => ?_) ?_
         ·obtain ⟨hn55, h⟩ := need_some h
          obtain ⟨hn57, h⟩ := need_some h
          refine wy h (fun hg58 h => ?_) fun hg58 h => ?_
          ·refine r1LF [0, 1, 2, 3, 4, 5, 6, 7, 8, 9, 10, 11, 12, 13, 14, 15, 16, 17, 18, 19, 20, 21, 22, 23, 24, 25, 26, 27, 28] [] ((And.intro ((isT hn55.1)) <| And.intro ((isT hn55.2)) <| And.intro ((getD_enc XSort.v XSort.z hn55)) <| And.intro ((isT hn57.1)) <| And.intro ((isT hn57.2)) <| And.intro ((getD_enc XSort.v XSort.z hn57)) <| hg58)) ?_
           exact ⟨true, h, tleF hg58⟩
          ·obtain ⟨hn60, h⟩ := need_some h
           obtain ⟨hn62, h⟩ := need_some h
           refine r1LFD [0, 1, 2, 3, 4, 5, 6, 7, 8, 9, 10, 11, 12, 13, 14, 15, 16, 17, 18, 19, 20, 21, 22, 23, 24, 25, 26, 27, 28] [] ((And.intro ((isT hn55.1)) <| And.intro ((isT hn55.2)) <| And.intro ((getD_enc XSort.v XSort.z hn55)) <| And.intro ((isT hn57.1)) <| And.intro ((isT hn57.2)) <| And.intro ((getD_enc XSort.v XSort.z hn57)) <| And.intro hg58 <| And.intro ((isT hn60.1)) <| And.intro ((isT hn60.2)) <| And.intro ((getD_enc XSort.v XSort.z hn60)) <| And.intro ((isT hn62.1)) <| And.intro ((isT hn62.2)) <| (getD_enc XSort.v XSort.z hn62))) (H.p8 (((x0.order.getD v45.toNat XSort.z)).expr) (((x1.order.getD v45.toNat XSort.z)).expr)) h fun y63 hy63 h => ?_
           exact ⟨(!y63), h, tleF hg58⟩
         ·rintro v51 h
          refine ws h (fun hc64 h => ?_) fun hc64 h => ?_
          ·refine rg ?_
           cases h; exact AWp.ret (rtq [.tmp 4])
          ·refine AWp.skip ?_
           refine r1 ?_
           exact ⟨(IntKind.i64.wrap (v45 + 1)), h, tle⟩
        ·refine AWp.exit ?_
         simp only [exq, seval]
         refine rg ?_
         cases h; exact AWp.ret (rtq [.tmp 4])
def b8 (F : F101_) (x0 : XExpr) (x1 : XExpr) : Option (Bool) := (join (fun (u3 : Bool → Option (Bool)) => (way ((x0.op == x1.op)) (way ((x0.not == x1.not)) (way ((x0.table.data.toList == x1.table.data.toList)) (way ((x0.name.data.toList == x1.name.data.toList)) (way ((x0.n == x1.n)) (way (((x0.v_.kind == x1.v_.kind) && ((x0.v_.int == x1.v_.int) && (x0.v_.text.data.toList == x1.v_.text.data.toList)))) (call (F.p18 x0.args x1.args) fun y10 => (way y10 (call (F.p19 x0.sub x1.sub) fun y12 => (u3 y12)) (u3 false))) (u3 false)) (u3 false)) (u3 false)) (u3 false)) (u3 false)) (u3 false))) (fun (q2 : Bool) => (some q2)))
theorem d8 (F : F101_) (H : F.Ok) (x0 : XExpr) (x1 : XExpr) (r : Bool) (h : b8 F x0 x1 = some r) : Gives Tryz.prog 8 [.agg x0.v, .agg x1.v] (vbool r) := by
 intro s
 unfold b8 at h
 refine ac Tryz.func8 Tryz.ntmps8 ?_
 refine rg ?_
 refine jn h (fun q2 => tst [(4, vbool q2)] [] s 59) (fun u3 h => ?_) ?_
 ·refine wy h (fun hg4 h => ?_) fun hg4 h => ?_
  ·refine wy h (fun hg5 h => ?_) fun hg5 h => ?_
   ·refine wy h (fun hg6 h => ?_) fun hg6 h => ?_
    ·refine wy h (fun hg7 h => ?_) fun hg7 h => ?_
     ·refine wy h (fun hg8 h => ?_) fun hg8 h => ?_
      ·refine wy h (fun hg9 h => ?_) fun hg9 h => ?_
       ·obtain ⟨y10, hy10, h⟩ := call_some h
        refine wy h (fun hg11 h => ?_) fun hg11 h => ?_
        ·refine r1FCD ((And.intro ((@XValue.v_eq)) <| And.intro hg4 <| And.intro hg5 <| And.intro hg6 <| And.intro hg7 <| And.intro hg8 <| And.intro teq40 <| And.intro XValue.v_eq <| And.intro hg9 <| hg11)) (H.p18 x0.args x1.args _ hy10) (H.p19 x0.sub x1.sub) h fun y12 hy12 h => ?_
         exact ⟨y12, h, tleF ((And.intro (@XValue.v_eq) <| And.intro hg4 <| And.intro hg5 <| And.intro hg6 <| And.intro hg7 <| And.intro hg8 <| And.intro hg9 <| hg11))⟩
        ·refine r1FC ((And.intro ((@XValue.v_eq)) <| And.intro hg4 <| And.intro hg5 <| And.intro hg6 <| And.intro hg7 <| And.intro hg8 <| And.intro teq40 <| And.intro XValue.v_eq <| And.intro hg9 <| hg11)) (H.p18 x0.args x1.args _ hy10) ?_
         exact ⟨false, h, tleF ((And.intro (@XValue.v_eq) <| And.intro hg4 <| And.intro hg5 <| And.intro hg6 <| And.intro hg7 <| And.intro hg8 <| And.intro hg9 <| hg11))⟩
       ·refine r1F ((And.intro ((@XValue.v_eq)) <| And.intro hg4 <| And.intro hg5 <| And.intro hg6 <| And.intro hg7 <| And.intro hg8 <| And.intro teq40 <| And.intro XValue.v_eq <| hg9)) ?_
        exact ⟨false, h, tleF ((And.intro (@XValue.v_eq) <| And.intro hg4 <| And.intro hg5 <| And.intro hg6 <| And.intro hg7 <| And.intro hg8 <| hg9))⟩
      ·refine r1F ((And.intro ((@XValue.v_eq)) <| And.intro hg4 <| And.intro hg5 <| And.intro hg6 <| And.intro hg7 <| hg8)) ?_
       exact ⟨false, h, tleF ((And.intro (@XValue.v_eq) <| And.intro hg4 <| And.intro hg5 <| And.intro hg6 <| And.intro hg7 <| hg8))⟩
     ·refine r1F ((And.intro ((@XValue.v_eq)) <| And.intro hg4 <| And.intro hg5 <| And.intro hg6 <| hg7)) ?_
      exact ⟨false, h, tleF ((And.intro (@XValue.v_eq) <| And.intro hg4 <| And.intro hg5 <| And.intro hg6 <| hg7))⟩
    ·refine r1F ((And.intro ((@XValue.v_eq)) <| And.intro hg4 <| And.intro hg5 <| hg6)) ?_
     exact ⟨false, h, tleF ((And.intro (@XValue.v_eq) <| And.intro hg4 <| And.intro hg5 <| hg6))⟩
   ·refine r1F ((And.intro ((@XValue.v_eq)) <| And.intro hg4 <| hg5)) ?_
    exact ⟨false, h, tleF ((And.intro (@XValue.v_eq) <| And.intro hg4 <| hg5))⟩
  ·refine r1F ((And.intro ((@XValue.v_eq)) <| hg4)) ?_
   exact ⟨false, h, tleF ((And.intro (@XValue.v_eq) <| hg4))⟩
 ·rintro v1 h
  cases h; exact AWp.ret (rtqF (@XValue.v_eq) [.tmp 4])
def F101_.fix : Nat → F101_
  | 0 => ⟨fun _ _ => none, fun _ _ => none, fun _ _ => none, fun _ _ => none, fun _ _ => none⟩
  | n + 1 => ⟨b101 (F101_.fix n), b18 (F101_.fix n), b19 (F101_.fix n), b62 (F101_.fix n), b8 (F101_.fix n)⟩
theorem F101_.ok : ∀ n, F101_.Ok (F101_.fix n)
  | 0 => ⟨(fun _ _ _ h => by cases h), (fun _ _ _ h => by cases h), (fun _ _ _ h => by cases h), (fun _ _ _ h => by cases h), (fun _ _ _ h => by cases h)⟩
  | n + 1 => ⟨d101 _ (F101_.ok n), d18 _ (F101_.ok n), d19 _ (F101_.ok n), d62 _ (F101_.ok n), d8 _ (F101_.ok n)⟩
def s8 := (F101_.fix manyC).p8
def c8 := (F101_.ok manyC).p8
def s20 (x0 : (List ByteArray)) (x1 : (List ByteArray)) : Option (Bool) := (way (((((x0.length : Nat) : Int)) != (((x1.length : Nat) : Int)))) (some false) (loopC (fun (u6 : Int → Option (Bool)) (q5 : Int) => (way ((decide (q5 < (((x0.length : Nat) : Int))))) (need (0 ≤ q5 ∧ q5 < ((x0.length : Nat) : Int)) (need (0 ≤ q5 ∧ q5 < ((x1.length : Nat) : Int)) (way ((!(((x0.getD q5.toNat ByteArray.empty)).data.toList == ((x1.getD q5.toNat ByteArray.empty)).data.toList))) (some false) (u6 (IntKind.i64.wrap (q5 + 1)))))) (some true))) manyC 0))
theorem c20 (x0 : (List ByteArray)) (x1 : (List ByteArray)) (r : Bool) (h : s20 x0 x1 = some r) : Gives Tryz.prog 20 [.slice 1 (List.map (fun x => [vstr x]) x0), .slice 1 (List.map (fun x => [vstr x]) x1)] (vbool r) := by
 intro s
 unfold s20 at h
 refine ac Tryz.func20 Tryz.ntmps20 ?_
 refine rg ?_
 refine AWp.seq ?_
 refine rg ?_
 refine ws h (fun hc2 h => ?_) fun hc2 h => ?_
 ·refine rg ?_
  cases h; exact AWp.ret (rtq [.tmp 4])
 ·refine AWp.skip ?_
  refine AWp.seq ?_
  refine rg ?_
  refine AWp.block ?_
  refine lp h (fun q5 => tst [(0, .slice 1 (List.map (fun x => [vstr x]) x0)), (1, .slice 1 (List.map (fun x => [vstr x]) x1)), (12, vint (((x0.length : Nat) : Int))), (13, vint q5)] [] s 26) ?_ ?_
  ·exact tle
  ·rintro u6 v4 h
   refine rg ?_
   refine AWp.seq ?_
   refine ws h (fun hc8 h => ?_) fun hc8 h => ?_
   ·refine AWp.skip ?_
    refine AWp.seq ?_
    refine AWp.block ?_
    refine rg ?_
    obtain ⟨hn11, h⟩ := need_some h
    obtain ⟨hn13, h⟩ := need_some h
    refine rgLF [0, 1, 2, 3, 4, 5, 6, 7, 8] [] ((And.intro ((isT hn11.1)) <| And.intro ((isT hn11.2)) <| And.intro ((getD_enc (fun x => [vstr x]) ByteArray.empty hn11)) <| And.intro ((isT hn13.1)) <| And.intro ((isT hn13.2)) <| (getD_enc (fun x => [vstr x]) ByteArray.empty hn13))) ?_
    refine ws h (fun hc14 h => ?_) fun hc14 h => ?_
    ·refine rg ?_
     cases h; exact AWp.ret (rtq [.tmp 4])
    ·refine AWp.skip ?_
     refine r1 ?_
     exact ⟨(IntKind.i64.wrap (v4 + 1)), h, tle⟩
   ·refine AWp.exit ?_
    simp only [exq, seval]
    refine rg ?_
    cases h; exact AWp.ret (rtq [.tmp 4])
structure F102_1_ where
  p102_1 : (List XItem) → (List XItem) → Option (Bool)
  p103 : XItem → XItem → Option (Bool)
  p104_1 : (List XSource) → (List XSource) → Option (Bool)
  p105 : XSource → XSource → Option (Bool)
  p106_1 : (List (List XExpr)) → (List (List XExpr)) → Option (Bool)
  p107 : (List XExpr) → (List XExpr) → Option (Bool)
  p26 : XExpr → XExpr → Option (Bool)
  p27_1 : (List XExpr) → (List XExpr) → Option (Bool)
  p28_1 : (List XSelect) → (List XSelect) → Option (Bool)
  p29 : XSelect → XSelect → Option (Bool)
  p63_1 : (List XCte) → (List XCte) → Option (Bool)
  p64 : XCte → XCte → Option (Bool)
  p65_1 : (List XPart) → (List XPart) → Option (Bool)
  p66 : XPart → XPart → Option (Bool)
  p67_1 : (List XSort) → (List XSort) → Option (Bool)
  p68 : XSort → XSort → Option (Bool)
structure F102_1_.Ok (F : F102_1_) : Prop where
  p102_1 : ∀ (x0 : (List XItem)) (x1 : (List XItem)) (r : Bool), F.p102_1 x0 x1 = some r → Gives Tryz.prog 102 [.slice 4 (List.map XItem.v x0), .slice 4 (List.map XItem.v x1), .func 103 [] []] (vbool r)
  p103 : ∀ (x0 : XItem) (x1 : XItem) (r : Bool), F.p103 x0 x1 = some r → Gives Tryz.prog 103 [.agg x0.v, .agg x1.v] (vbool r)
  p104_1 : ∀ (x0 : (List XSource)) (x1 : (List XSource)) (r : Bool), F.p104_1 x0 x1 = some r → Gives Tryz.prog 104 [.slice 5 (List.map XSource.v x0), .slice 5 (List.map XSource.v x1), .func 105 [] []] (vbool r)
  p105 : ∀ (x0 : XSource) (x1 : XSource) (r : Bool), F.p105 x0 x1 = some r → Gives Tryz.prog 105 [.agg x0.v, .agg x1.v] (vbool r)
  p106_1 : ∀ (x0 : (List (List XExpr))) (x1 : (List (List XExpr))) (r : Bool), F.p106_1 x0 x1 = some r → Gives Tryz.prog 106 [.slice 1 (List.map (fun x => [V.slice 10 (List.map XExpr.v x)]) x0), .slice 1 (List.map (fun x => [V.slice 10 (List.map XExpr.v x)]) x1), .func 107 [] []] (vbool r)
  p107 : ∀ (x0 : (List XExpr)) (x1 : (List XExpr)) (r : Bool), F.p107 x0 x1 = some r → Gives Tryz.prog 107 [.slice 10 (List.map XExpr.v x0), .slice 10 (List.map XExpr.v x1)] (vbool r)
  p26 : ∀ (x0 : XExpr) (x1 : XExpr) (r : Bool), F.p26 x0 x1 = some r → Gives Tryz.prog 26 [.agg x0.v, .agg x1.v] (vbool r)
  p27_1 : ∀ (x0 : (List XExpr)) (x1 : (List XExpr)) (r : Bool), F.p27_1 x0 x1 = some r → Gives Tryz.prog 27 [.slice 10 (List.map XExpr.v x0), .slice 10 (List.map XExpr.v x1), .func 26 [] []] (vbool r)
  p28_1 : ∀ (x0 : (List XSelect)) (x1 : (List XSelect)) (r : Bool), F.p28_1 x0 x1 = some r → Gives Tryz.prog 28 [.slice 5 (List.map XSelect.v x0), .slice 5 (List.map XSelect.v x1), .func 29 [] []] (vbool r)
  p29 : ∀ (x0 : XSelect) (x1 : XSelect) (r : Bool), F.p29 x0 x1 = some r → Gives Tryz.prog 29 [.agg x0.v, .agg x1.v] (vbool r)
  p63_1 : ∀ (x0 : (List XCte)) (x1 : (List XCte)) (r : Bool), F.p63_1 x0 x1 = some r → Gives Tryz.prog 63 [.slice 3 (List.map XCte.v x0), .slice 3 (List.map XCte.v x1), .func 64 [] []] (vbool r)
  p64 : ∀ (x0 : XCte) (x1 : XCte) (r : Bool), F.p64 x0 x1 = some r → Gives Tryz.prog 64 [.agg x0.v, .agg x1.v] (vbool r)
  p65_1 : ∀ (x0 : (List XPart)) (x1 : (List XPart)) (r : Bool), F.p65_1 x0 x1 = some r → Gives Tryz.prog 65 [.slice 8 (List.map XPart.v x0), .slice 8 (List.map XPart.v x1), .func 66 [] []] (vbool r)
  p66 : ∀ (x0 : XPart) (x1 : XPart) (r : Bool), F.p66 x0 x1 = some r → Gives Tryz.prog 66 [.agg x0.v, .agg x1.v] (vbool r)
  p67_1 : ∀ (x0 : (List XSort)) (x1 : (List XSort)) (r : Bool), F.p67_1 x0 x1 = some r → Gives Tryz.prog 67 [.slice 11 (List.map XSort.v x0), .slice 11 (List.map XSort.v x1), .func 68 [] []] (vbool r)
  p68 : ∀ (x0 : XSort) (x1 : XSort) (r : Bool), F.p68 x0 x1 = some r → Gives Tryz.prog 68 [.agg x0.v, .agg x1.v] (vbool r)
def b102_1 (F : F102_1_) (x0 : (List XItem)) (x1 : (List XItem)) : Option (Bool) := (way (((((x0.length : Nat) : Int)) != (((x1.length : Nat) : Int)))) (some false) (loopC (fun (u6 : Int → Option (Bool)) (q5 : Int) => (way ((decide (q5 < (((x0.length : Nat) : Int))))) (need (0 ≤ q5 ∧ q5 < ((x0.length : Nat) : Int)) (need (0 ≤ q5 ∧ q5 < ((x1.length : Nat) : Int)) (call (F.p103 ((x0.getD q5.toNat XItem.z)) ((x1.getD q5.toNat XItem.z))) fun y14 => (way ((!y14)) (some false) (u6 (IntKind.i64.wrap (q5 + 1))))))) (some true))) manyC 0))
theorem d102_1 (F : F102_1_) (H : F.Ok) (x0 : (List XItem)) (x1 : (List XItem)) (r : Bool) (h : b102_1 F x0 x1 = some r) : Gives Tryz.prog 102 [.slice 4 (List.map XItem.v x0), .slice 4 (List.map XItem.v x1), .func 103 [] []] (vbool r) := by
 intro s
 unfold b102_1 at h
 refine ac Tryz.func102 Tryz.ntmps102 ?_
 refine rg ?_
 refine AWp.seq ?_
 refine rg ?_
 refine ws h (fun hc2 h => ?_) fun hc2 h => ?_
 ·refine rg ?_
  cases h; exact AWp.ret (rtq [.tmp 6])
 ·refine AWp.skip ?_
  refine AWp.seq ?_
  refine rg ?_
  refine AWp.block ?_
  refine lp h (fun q5 => tst [(1, .slice 4 (List.map XItem.v x1)), (2, .func 103 [] []), (15, .slice 4 (List.map XItem.v x0)), (16, vint (((x0.length : Nat) : Int))), (17, vint q5)] [] s 32) ?_ ?_
  ·exact tle
  ·rintro u6 v4 h
   refine rg ?_
   refine AWp.seq ?_
   refine ws h (fun hc8 h => ?_) fun hc8 h => ?_
   ·refine AWp.skip ?_
    refine AWp.seq ?_
    refine AWp.block ?_
    obtain ⟨hn11, h⟩ := need_some h
    refine rgF ((And.intro ((isT hn11.1)) <| And.intro ((isT hn11.2)) <| (getD_enc XItem.v XItem.z hn11))) ?_
    obtain ⟨hn13, h⟩ := need_some h
    refine rgF ((And.intro ((isT hn13.1)) <| And.intro ((isT hn13.2)) <| (getD_enc XItem.v XItem.z hn13))) ?_
    refine rgD (H.p103 ((x0.getD v4.toNat XItem.z)) ((x1.getD v4.toNat XItem.z))) h fun y14 hy14 h => ?_
    refine ws h (fun hc15 h => ?_) fun hc15 h => ?_
    ·refine rg ?_
     cases h; exact AWp.ret (rtq [.tmp 6])
    ·refine AWp.skip ?_
     refine r1 ?_
     exact ⟨(IntKind.i64.wrap (v4 + 1)), h, tle⟩
   ·refine AWp.exit ?_
    simp only [exq, seval]
    refine rg ?_
    cases h; exact AWp.ret (rtq [.tmp 6])
def b103 (F : F102_1_) (x0 : XItem) (x1 : XItem) : Option (Bool) := (join (fun (u3 : Bool → Option (Bool)) => (way ((x0.star == x1.star)) (way ((x0.table.data.toList == x1.table.data.toList)) (way ((x0.as.data.toList == x1.as.data.toList)) (call (F.p27_1 x0.expr x1.expr) fun y7 => (u3 y7)) (u3 false)) (u3 false)) (u3 false))) (fun (q2 : Bool) => (some q2)))
theorem d103 (F : F102_1_) (H : F.Ok) (x0 : XItem) (x1 : XItem) (r : Bool) (h : b103 F x0 x1 = some r) : Gives Tryz.prog 103 [.agg x0.v, .agg x1.v] (vbool r) := by
 intro s
 unfold b103 at h
 refine ac Tryz.func103 Tryz.ntmps103 ?_
 refine rg ?_
 refine jn h (fun q2 => tst [(4, vbool q2)] [] s 31) (fun u3 h => ?_) ?_
 ·refine wy h (fun hg4 h => ?_) fun hg4 h => ?_
  ·refine wy h (fun hg5 h => ?_) fun hg5 h => ?_
   ·refine wy h (fun hg6 h => ?_) fun hg6 h => ?_
    ·refine r1FD ((And.intro hg4 <| And.intro hg5 <| hg6)) (H.p27_1 x0.expr x1.expr) h fun y7 hy7 h => ?_
     exact ⟨y7, h, tleF ((And.intro hg4 <| And.intro hg5 <| hg6))⟩
    ·refine r1F ((And.intro hg4 <| And.intro hg5 <| hg6)) ?_
     exact ⟨false, h, tleF ((And.intro hg4 <| And.intro hg5 <| hg6))⟩
   ·refine r1F ((And.intro hg4 <| hg5)) ?_
    exact ⟨false, h, tleF ((And.intro hg4 <| hg5))⟩
  ·refine r1F hg4 ?_
   exact ⟨false, h, tleF hg4⟩
 ·rintro v1 h
  cases h; exact AWp.ret (rtq [.tmp 4])
end Go.Proofs.YtdgoilofkgdaoaaGreatDoor.Ex
namespace Go.Proofs.YtdgoilofkgdaoaaGreatDoor.Ex
open Go.Am Go.Ex Go.Proofs.YtdgoilofkgdaoaaGreatDoor
def b104_1 (F : F102_1_) (x0 : (List XSource)) (x1 : (List XSource)) : Option (Bool) := (way (((((x0.length : Nat) : Int)) != (((x1.length : Nat) : Int)))) (some false) (loopC (fun (u6 : Int → Option (Bool)) (q5 : Int) => (way ((decide (q5 < (((x0.length : Nat) : Int))))) (need (0 ≤ q5 ∧ q5 < ((x0.length : Nat) : Int)) (need (0 ≤ q5 ∧ q5 < ((x1.length : Nat) : Int)) (call (F.p105 ((x0.getD q5.toNat XSource.z)) ((x1.getD q5.toNat XSource.z))) fun y14 => (way ((!y14)) (some false) (u6 (IntKind.i64.wrap (q5 + 1))))))) (some true))) manyC 0))
theorem d104_1 (F : F102_1_) (H : F.Ok) (x0 : (List XSource)) (x1 : (List XSource)) (r : Bool) (h : b104_1 F x0 x1 = some r) : Gives Tryz.prog 104 [.slice 5 (List.map XSource.v x0), .slice 5 (List.map XSource.v x1), .func 105 [] []] (vbool r) := by
 intro s
 unfold b104_1 at h
 refine ac Tryz.func104 Tryz.ntmps104 ?_
 refine rg ?_
 refine AWp.seq ?_
 refine rg ?_
 refine ws h (fun hc2 h => ?_) fun hc2 h => ?_
 ·refine rg ?_
  cases h; exact AWp.ret (rtq [.tmp 6])
 ·refine AWp.skip ?_
  refine AWp.seq ?_
  refine rg ?_
  refine AWp.block ?_
  refine lp h (fun q5 => tst [(1, .slice 5 (List.map XSource.v x1)), (2, .func 105 [] []), (15, .slice 5 (List.map XSource.v x0)), (16, vint (((x0.length : Nat) : Int))), (17, vint q5)] [] s 32) ?_ ?_
  ·exact tle
  ·rintro u6 v4 h
   refine rg ?_
   refine AWp.seq ?_
   refine ws h (fun hc8 h => ?_) fun hc8 h => ?_
   ·refine AWp.skip ?_
    refine AWp.seq ?_
    refine AWp.block ?_
    obtain ⟨hn11, h⟩ := need_some h
    refine rgF ((And.intro ((isT hn11.1)) <| And.intro ((isT hn11.2)) <| (getD_enc XSource.v XSource.z hn11))) ?_
    obtain ⟨hn13, h⟩ := need_some h
    refine rgF ((And.intro ((isT hn13.1)) <| And.intro ((isT hn13.2)) <| (getD_enc XSource.v XSource.z hn13))) ?_
    refine rgD (H.p105 ((x0.getD v4.toNat XSource.z)) ((x1.getD v4.toNat XSource.z))) h fun y14 hy14 h => ?_
    refine ws h (fun hc15 h => ?_) fun hc15 h => ?_
    ·refine rg ?_
     cases h; exact AWp.ret (rtq [.tmp 6])
    ·refine AWp.skip ?_
     refine r1 ?_
     exact ⟨(IntKind.i64.wrap (v4 + 1)), h, tle⟩
   ·refine AWp.exit ?_
    simp only [exq, seval]
    refine rg ?_
    cases h; exact AWp.ret (rtq [.tmp 6])
def b105 (F : F102_1_) (x0 : XSource) (x1 : XSource) : Option (Bool) := (join (fun (u3 : Bool → Option (Bool)) => (way ((x0.join == x1.join)) (way ((x0.name.data.toList == x1.name.data.toList)) (way ((x0.as.data.toList == x1.as.data.toList)) (call (F.p28_1 x0.sub x1.sub) fun y7 => (way y7 (call (F.p27_1 x0.on x1.on) fun y9 => (u3 y9)) (u3 false))) (u3 false)) (u3 false)) (u3 false))) (fun (q2 : Bool) => (some q2)))
theorem d105 (F : F102_1_) (H : F.Ok) (x0 : XSource) (x1 : XSource) (r : Bool) (h : b105 F x0 x1 = some r) : Gives Tryz.prog 105 [.agg x0.v, .agg x1.v] (vbool r) := by
 intro s
 unfold b105 at h
 refine ac Tryz.func105 Tryz.ntmps105 ?_
 refine rg ?_
 refine jn h (fun q2 => tst [(4, vbool q2)] [] s 38) (fun u3 h => ?_) ?_
 ·refine wy h (fun hg4 h => ?_) fun hg4 h => ?_
  ·refine wy h (fun hg5 h => ?_) fun hg5 h => ?_
   ·refine wy h (fun hg6 h => ?_) fun hg6 h => ?_
    ·obtain ⟨y7, hy7, h⟩ := call_some h
     refine wy h (fun hg8 h => ?_) fun hg8 h => ?_
     ·refine r1FCD ((And.intro hg4 <| And.intro hg5 <| And.intro hg6 <| hg8)) (H.p28_1 x0.sub x1.sub _ hy7) (H.p27_1 x0.on x1.on) h fun y9 hy9 h => ?_
      exact ⟨y9, h, tleF ((And.intro hg4 <| And.intro hg5 <| And.intro hg6 <| hg8))⟩
     ·refine r1FC ((And.intro hg4 <| And.intro hg5 <| And.intro hg6 <| hg8)) (H.p28_1 x0.sub x1.sub _ hy7) ?_
      exact ⟨false, h, tleF ((And.intro hg4 <| And.intro hg5 <| And.intro hg6 <| hg8))⟩
    ·refine r1F ((And.intro hg4 <| And.intro hg5 <| hg6)) ?_
     exact ⟨false, h, tleF ((And.intro hg4 <| And.intro hg5 <| hg6))⟩
   ·refine r1F ((And.intro hg4 <| hg5)) ?_
    exact ⟨false, h, tleF ((And.intro hg4 <| hg5))⟩
  ·refine r1F hg4 ?_
   exact ⟨false, h, tleF hg4⟩
 ·rintro v1 h
  cases h; exact AWp.ret (rtq [.tmp 4])
def b106_1 (F : F102_1_) (x0 : (List (List XExpr))) (x1 : (List (List XExpr))) : Option (Bool) := (way (((((x0.length : Nat) : Int)) != (((x1.length : Nat) : Int)))) (some false) (loopC (fun (u6 : Int → Option (Bool)) (q5 : Int) => (way ((decide (q5 < (((x0.length : Nat) : Int))))) (need (0 ≤ q5 ∧ q5 < ((x0.length : Nat) : Int)) (need (0 ≤ q5 ∧ q5 < ((x1.length : Nat) : Int)) (call (F.p107 ((x0.getD q5.toNat ([]))) ((x1.getD q5.toNat ([])))) fun y14 => (way ((!y14)) (some false) (u6 (IntKind.i64.wrap (q5 + 1))))))) (some true))) manyC 0))
theorem d106_1 (F : F102_1_) (H : F.Ok) (x0 : (List (List XExpr))) (x1 : (List (List XExpr))) (r : Bool) (h : b106_1 F x0 x1 = some r) : Gives Tryz.prog 106 [.slice 1 (List.map (fun x => [V.slice 10 (List.map XExpr.v x)]) x0), .slice 1 (List.map (fun x => [V.slice 10 (List.map XExpr.v x)]) x1), .func 107 [] []] (vbool r) := by
 intro s
 unfold b106_1 at h
 refine ac Tryz.func106 Tryz.ntmps106 ?_
 refine rg ?_
 refine AWp.seq ?_
 refine rg ?_
 refine ws h (fun hc2 h => ?_) fun hc2 h => ?_
 ·refine rg ?_
  cases h; exact AWp.ret (rtq [.tmp 6])
 ·refine AWp.skip ?_
  refine AWp.seq ?_
  refine rg ?_
  refine AWp.block ?_
  refine lp h (fun q5 => tst [(1, .slice 1 (List.map (fun x => [V.slice 10 (List.map XExpr.v x)]) x1)), (2, .func 107 [] []), (15, .slice 1 (List.map (fun x => [V.slice 10 (List.map XExpr.v x)]) x0)), (16, vint (((x0.length : Nat) : Int))), (17, vint q5)] [] s 32) ?_ ?_
  ·exact tle
  ·rintro u6 v4 h
   refine rg ?_
   refine AWp.seq ?_
   refine ws h (fun hc8 h => ?_) fun hc8 h => ?_
   ·refine AWp.skip ?_
    refine AWp.seq ?_
    refine AWp.block ?_
    obtain ⟨hn11, h⟩ := need_some h
    refine rgF ((And.intro ((isT hn11.1)) <| And.intro ((isT hn11.2)) <| (getD_enc (fun x => [V.slice 10 (List.map XExpr.v x)]) ([]) hn11))) ?_
    obtain ⟨hn13, h⟩ := need_some h
    refine rgF ((And.intro ((isT hn13.1)) <| And.intro ((isT hn13.2)) <| (getD_enc (fun x => [V.slice 10 (List.map XExpr.v x)]) ([]) hn13))) ?_
    refine rgD (H.p107 ((x0.getD v4.toNat ([]))) ((x1.getD v4.toNat ([])))) h fun y14 hy14 h => ?_
    refine ws h (fun hc15 h => ?_) fun hc15 h => ?_
    ·refine rg ?_
     cases h; exact AWp.ret (rtq [.tmp 6])
    ·refine AWp.skip ?_
     refine r1 ?_
     exact ⟨(IntKind.i64.wrap (v4 + 1)), h, tle⟩
   ·refine AWp.exit ?_
    simp only [exq, seval]
    refine rg ?_
    cases h; exact AWp.ret (rtq [.tmp 6])
def b107 (F : F102_1_) (x0 : (List XExpr)) (x1 : (List XExpr)) : Option (Bool) := (call (F.p27_1 x0 x1) fun y1 => (some y1))
theorem d107 (F : F102_1_) (H : F.Ok) (x0 : (List XExpr)) (x1 : (List XExpr)) (r : Bool) (h : b107 F x0 x1 = some r) : Gives Tryz.prog 107 [.slice 10 (List.map XExpr.v x0), .slice 10 (List.map XExpr.v x1)] (vbool r) := by
 intro s
 unfold b107 at h
 refine ac Tryz.func107 Tryz.ntmps107 ?_
 refine rg ?_
 refine rgD (H.p27_1 x0 x1) h fun y1 hy1 h => ?_
 cases h; exact AWp.ret (rtq [.tmp 4])
def b26 (F : F102_1_) (x0 : XExpr) (x1 : XExpr) : Option (Bool) := (join (fun (u3 : Bool → Option (Bool)) => (way ((x0.op == x1.op)) (way ((x0.not == x1.not)) (way ((x0.table.data.toList == x1.table.data.toList)) (way ((x0.name.data.toList == x1.name.data.toList)) (way ((x0.n == x1.n)) (way (((x0.v_.kind == x1.v_.kind) && ((x0.v_.int == x1.v_.int) && (x0.v_.text.data.toList == x1.v_.text.data.toList)))) (call (F.p27_1 x0.args x1.args) fun y10 => (way y10 (call (F.p28_1 x0.sub x1.sub) fun y12 => (u3 y12)) (u3 false))) (u3 false)) (u3 false)) (u3 false)) (u3 false)) (u3 false)) (u3 false))) (fun (q2 : Bool) => (some q2)))
theorem d26 (F : F102_1_) (H : F.Ok) (x0 : XExpr) (x1 : XExpr) (r : Bool) (h : b26 F x0 x1 = some r) : Gives Tryz.prog 26 [.agg x0.v, .agg x1.v] (vbool r) := by
 intro s
 unfold b26 at h
 refine ac Tryz.func26 Tryz.ntmps26 ?_
 refine rg ?_
 refine jn h (fun q2 => tst [(4, vbool q2)] [] s 59) (fun u3 h => ?_) ?_
 ·refine wy h (fun hg4 h => ?_) fun hg4 h => ?_
  ·refine wy h (fun hg5 h => ?_) fun hg5 h => ?_
   ·refine wy h (fun hg6 h => ?_) fun hg6 h => ?_
    ·refine wy h (fun hg7 h => ?_) fun hg7 h => ?_
     ·refine wy h (fun hg8 h => ?_) fun hg8 h => ?_
      ·refine wy h (fun hg9 h => ?_) fun hg9 h => ?_
       ·obtain ⟨y10, hy10, h⟩ := call_some h
        refine wy h (fun hg11 h => ?_) fun hg11 h => ?_
        ·refine r1FCD ((And.intro ((@XValue.v_eq)) <| And.intro hg4 <| And.intro hg5 <| And.intro hg6 <| And.intro hg7 <| And.intro hg8 <| And.intro teq40 <| And.intro XValue.v_eq <| And.intro hg9 <| hg11)) (H.p27_1 x0.args x1.args _ hy10) (H.p28_1 x0.sub x1.sub) h fun y12 hy12 h => ?_
         exact ⟨y12, h, tleF ((And.intro (@XValue.v_eq) <| And.intro hg4 <| And.intro hg5 <| And.intro hg6 <| And.intro hg7 <| And.intro hg8 <| And.intro hg9 <| hg11))⟩
        ·refine r1FC ((And.intro ((@XValue.v_eq)) <| And.intro hg4 <| And.intro hg5 <| And.intro hg6 <| And.intro hg7 <| And.intro hg8 <| And.intro teq40 <| And.intro XValue.v_eq <| And.intro hg9 <| hg11)) (H.p27_1 x0.args x1.args _ hy10) ?_
         exact ⟨false, h, tleF ((And.intro (@XValue.v_eq) <| And.intro hg4 <| And.intro hg5 <| And.intro hg6 <| And.intro hg7 <| And.intro hg8 <| And.intro hg9 <| hg11))⟩
       ·refine r1F ((And.intro ((@XValue.v_eq)) <| And.intro hg4 <| And.intro hg5 <| And.intro hg6 <| And.intro hg7 <| And.intro hg8 <| And.intro teq40 <| And.intro XValue.v_eq <| hg9)) ?_
        exact ⟨false, h, tleF ((And.intro (@XValue.v_eq) <| And.intro hg4 <| And.intro hg5 <| And.intro hg6 <| And.intro hg7 <| And.intro hg8 <| hg9))⟩
      ·refine r1F ((And.intro ((@XValue.v_eq)) <| And.intro hg4 <| And.intro hg5 <| And.intro hg6 <| And.intro hg7 <| hg8)) ?_
       exact ⟨false, h, tleF ((And.intro (@XValue.v_eq) <| And.intro hg4 <| And.intro hg5 <| And.intro hg6 <| And.intro hg7 <| hg8))⟩
     ·refine r1F ((And.intro ((@XValue.v_eq)) <| And.intro hg4 <| And.intro hg5 <| And.intro hg6 <| hg7)) ?_
      exact ⟨false, h, tleF ((And.intro (@XValue.v_eq) <| And.intro hg4 <| And.intro hg5 <| And.intro hg6 <| hg7))⟩
    ·refine r1F ((And.intro ((@XValue.v_eq)) <| And.intro hg4 <| And.intro hg5 <| hg6)) ?_
     exact ⟨false, h, tleF ((And.intro (@XValue.v_eq) <| And.intro hg4 <| And.intro hg5 <| hg6))⟩
   ·refine r1F ((And.intro ((@XValue.v_eq)) <| And.intro hg4 <| hg5)) ?_
    exact ⟨false, h, tleF ((And.intro (@XValue.v_eq) <| And.intro hg4 <| hg5))⟩
  ·refine r1F ((And.intro ((@XValue.v_eq)) <| hg4)) ?_
   exact ⟨false, h, tleF ((And.intro (@XValue.v_eq) <| hg4))⟩
 ·rintro v1 h
  cases h; exact AWp.ret (rtqF (@XValue.v_eq) [.tmp 4])
def b27_1 (F : F102_1_) (x0 : (List XExpr)) (x1 : (List XExpr)) : Option (Bool) := (way (((((x0.length : Nat) : Int)) != (((x1.length : Nat) : Int)))) (some false) (loopC (fun (u6 : Int → Option (Bool)) (q5 : Int) => (way ((decide (q5 < (((x0.length : Nat) : Int))))) (need (0 ≤ q5 ∧ q5 < ((x0.length : Nat) : Int)) (need (0 ≤ q5 ∧ q5 < ((x1.length : Nat) : Int)) (call (F.p26 ((x0.getD q5.toNat XExpr.z)) ((x1.getD q5.toNat XExpr.z))) fun y14 => (way ((!y14)) (some false) (u6 (IntKind.i64.wrap (q5 + 1))))))) (some true))) manyC 0))
theorem d27_1 (F : F102_1_) (H : F.Ok) (x0 : (List XExpr)) (x1 : (List XExpr)) (r : Bool) (h : b27_1 F x0 x1 = some r) : Gives Tryz.prog 27 [.slice 10 (List.map XExpr.v x0), .slice 10 (List.map XExpr.v x1), .func 26 [] []] (vbool r) := by
 intro s
 unfold b27_1 at h
 refine ac Tryz.func27 Tryz.ntmps27 ?_
 refine rg ?_
 refine AWp.seq ?_
 refine rg ?_
 refine ws h (fun hc2 h => ?_) fun hc2 h => ?_
 ·refine rg ?_
  cases h; exact AWp.ret (rtq [.tmp 6])
 ·refine AWp.skip ?_
  refine AWp.seq ?_
  refine rg ?_
  refine AWp.block ?_
  refine lp h (fun q5 => tst [(1, .slice 10 (List.map XExpr.v x1)), (2, .func 26 [] []), (15, .slice 10 (List.map XExpr.v x0)), (16, vint (((x0.length : Nat) : Int))), (17, vint q5)] [] s 32) ?_ ?_
  ·exact tle
  ·rintro u6 v4 h
   refine rg ?_
   refine AWp.seq ?_
   refine ws h (fun hc8 h => ?_) fun hc8 h => ?_
   ·refine AWp.skip ?_
    refine AWp.seq ?_
    refine AWp.block ?_
    obtain ⟨hn11, h⟩ := need_some h
    refine rgF ((And.intro ((isT hn11.1)) <| And.intro ((isT hn11.2)) <| (getD_enc XExpr.v XExpr.z hn11))) ?_
    obtain ⟨hn13, h⟩ := need_some h
    refine rgF ((And.intro ((isT hn13.1)) <| And.intro ((isT hn13.2)) <| (getD_enc XExpr.v XExpr.z hn13))) ?_
    refine rgD (H.p26 ((x0.getD v4.toNat XExpr.z)) ((x1.getD v4.toNat XExpr.z))) h fun y14 hy14 h => ?_
    refine ws h (fun hc15 h => ?_) fun hc15 h => ?_
    ·refine rg ?_
     cases h; exact AWp.ret (rtq [.tmp 6])
    ·refine AWp.skip ?_
     refine r1 ?_
     exact ⟨(IntKind.i64.wrap (v4 + 1)), h, tle⟩
   ·refine AWp.exit ?_
    simp only [exq, seval]
    refine rg ?_
    cases h; exact AWp.ret (rtq [.tmp 6])
def b28_1 (F : F102_1_) (x0 : (List XSelect)) (x1 : (List XSelect)) : Option (Bool) := (way (((((x0.length : Nat) : Int)) != (((x1.length : Nat) : Int)))) (some false) (loopC (fun (u6 : Int → Option (Bool)) (q5 : Int) => (way ((decide (q5 < (((x0.length : Nat) : Int))))) (need (0 ≤ q5 ∧ q5 < ((x0.length : Nat) : Int)) (need (0 ≤ q5 ∧ q5 < ((x1.length : Nat) : Int)) (call (F.p29 ((x0.getD q5.toNat XSelect.z)) ((x1.getD q5.toNat XSelect.z))) fun y14 => (way ((!y14)) (some false) (u6 (IntKind.i64.wrap (q5 + 1))))))) (some true))) manyC 0))
theorem d28_1 (F : F102_1_) (H : F.Ok) (x0 : (List XSelect)) (x1 : (List XSelect)) (r : Bool) (h : b28_1 F x0 x1 = some r) : Gives Tryz.prog 28 [.slice 5 (List.map XSelect.v x0), .slice 5 (List.map XSelect.v x1), .func 29 [] []] (vbool r) := by
 intro s
 unfold b28_1 at h
 refine ac Tryz.func28 Tryz.ntmps28 ?_
 refine rg ?_
 refine AWp.seq ?_
 refine rg ?_
 refine ws h (fun hc2 h => ?_) fun hc2 h => ?_
 ·refine rg ?_
  cases h; exact AWp.ret (rtq [.tmp 6])
 ·refine AWp.skip ?_
  refine AWp.seq ?_
  refine rg ?_
  refine AWp.block ?_
  refine lp h (fun q5 => tst [(1, .slice 5 (List.map XSelect.v x1)), (2, .func 29 [] []), (15, .slice 5 (List.map XSelect.v x0)), (16, vint (((x0.length : Nat) : Int))), (17, vint q5)] [] s 32) ?_ ?_
  ·exact tle
  ·rintro u6 v4 h
   refine rg ?_
   refine AWp.seq ?_
   refine ws h (fun hc8 h => ?_) fun hc8 h => ?_
   ·refine AWp.skip ?_
    refine AWp.seq ?_
    refine AWp.block ?_
    obtain ⟨hn11, h⟩ := need_some h
    refine rgF ((And.intro ((isT hn11.1)) <| And.intro ((isT hn11.2)) <| (getD_enc XSelect.v XSelect.z hn11))) ?_
    obtain ⟨hn13, h⟩ := need_some h
    refine rgF ((And.intro ((isT hn13.1)) <| And.intro ((isT hn13.2)) <| (getD_enc XSelect.v XSelect.z hn13))) ?_
    refine rgD (H.p29 ((x0.getD v4.toNat XSelect.z)) ((x1.getD v4.toNat XSelect.z))) h fun y14 hy14 h => ?_
    refine ws h (fun hc15 h => ?_) fun hc15 h => ?_
    ·refine rg ?_
     cases h; exact AWp.ret (rtq [.tmp 6])
    ·refine AWp.skip ?_
     refine r1 ?_
     exact ⟨(IntKind.i64.wrap (v4 + 1)), h, tle⟩
   ·refine AWp.exit ?_
    simp only [exq, seval]
    refine rg ?_
    cases h; exact AWp.ret (rtq [.tmp 6])
def b29 (F : F102_1_) (x0 : XSelect) (x1 : XSelect) : Option (Bool) := (join (fun (u3 : Bool → Option (Bool)) => (call (F.p63_1 x0.with_ x1.with_) fun y5 => (way y5 (call (F.p65_1 x0.parts x1.parts) fun y7 => (way y7 (call (F.p67_1 x0.order x1.order) fun y9 => (way y9 (call (F.p27_1 x0.limit x1.limit) fun y11 => (way y11 (call (F.p27_1 x0.offset x1.offset) fun y13 => (u3 y13)) (u3 false))) (u3 false))) (u3 false))) (u3 false)))) (fun (q2 : Bool) => (some q2)))
theorem d29 (F : F102_1_) (H : F.Ok) (x0 : XSelect) (x1 : XSelect) (r : Bool) (h : b29 F x0 x1 = some r) : Gives Tryz.prog 29 [.agg x0.v, .agg x1.v] (vbool r) := by
 intro s
 unfold b29 at h
 refine ac Tryz.func29 Tryz.ntmps29 ?_
 refine rg ?_
 refine jn h (fun q2 => tst [(4, vbool q2)] [] s 38) (fun u3 h => ?_) ?_
 ·refine AWp.reg1 fun Z4 hZ4 => ?_
  (try simp only [undef, Bool.not_true, Bool.not_false, xm, Nat.reduceAdd, Nat.reduceLeDiff, seval, reduceCtorEq])
  obtain ⟨y5, hy5, h⟩ := call_some h
  refine goG (H.p63_1 x0.with_ x1.with_ _ hy5) ?_
  (try simp only [undef, Bool.not_true, Bool.not_false, xm, Nat.reduceAdd, Nat.reduceLeDiff, seval, reduceCtorEq])
  refine gTS h (by rfl) (fun hg6 h => ?_) (fun hg6 h => ?_)
  ·(try simp only [hg6, undef, Bool.not_true, Bool.not_false, xm, Nat.reduceAdd, Nat.reduceLeDiff, seval, reduceCtorEq])
   obtain ⟨y7, hy7, h⟩ := call_some h
   refine goG (H.p65_1 x0.parts x1.parts _ hy7) ?_
   (try simp only [hg6, undef, Bool.not_true, Bool.not_false, xm, Nat.reduceAdd, Nat.reduceLeDiff, seval, reduceCtorEq])
   refine gTS h (by rfl) (fun hg8 h => ?_) (fun hg8 h => ?_)
   ·(try simp only [hg6, hg8, undef, Bool.not_true, Bool.not_false, xm, Nat.reduceAdd, Nat.reduceLeDiff, seval, reduceCtorEq])
    obtain ⟨y9, hy9, h⟩ := call_some h
    refine goG (H.p67_1 x0.order x1.order _ hy9) ?_
    (try simp only [hg6, hg8, undef, Bool.not_true, Bool.not_false, xm, Nat.reduceAdd, Nat.reduceLeDiff, seval, reduceCtorEq])
    refine gTS h (by rfl) (fun hg10 h => ?_) (fun hg10 h => ?_)
    ·(try simp only [hg6, hg8, hg10, undef, Bool.not_true, Bool.not_false, xm, Nat.reduceAdd, Nat.reduceLeDiff, seval, reduceCtorEq])
     obtain ⟨y11, hy11, h⟩ := call_some h
     refine goG (H.p27_1 x0.limit x1.limit _ hy11) ?_
     (try simp only [hg6, hg8, hg10, undef, Bool.not_true, Bool.not_false, xm, Nat.reduceAdd, Nat.reduceLeDiff, seval, reduceCtorEq])
     refine gTS h (by rfl) (fun hg12 h => ?_) (fun hg12 h => ?_)
     ·(try simp only [hg6, hg8, hg10, hg12, undef, Bool.not_true, Bool.not_false, xm, Nat.reduceAdd, Nat.reduceLeDiff, seval, reduceCtorEq])
      obtain ⟨y13, hy13, h⟩ := call_some h
      refine goG (H.p27_1 x0.offset x1.offset _ hy13) ?_
      (try simp only [hg6, hg8, hg10, hg12, undef, Bool.not_true, Bool.not_false, xm, Nat.reduceAdd, Nat.reduceLeDiff, seval, reduceCtorEq])
      refine hZ4 _ ?_; clear hZ4 Z4
      exact ⟨y13, h, tleF ((And.intro hg6 <| And.intro hg8 <| And.intro hg10 <| hg12))⟩
     ·(try simp only [hg6, hg8, hg10, hg12, undef, Bool.not_true, Bool.not_false, xm, Nat.reduceAdd, Nat.reduceLeDiff, seval, reduceCtorEq])
      refine hZ4 _ ?_; clear hZ4 Z4
      exact ⟨false, h, tleF ((And.intro hg6 <| And.intro hg8 <| And.intro hg10 <| hg12))⟩
    ·(try simp only [hg6, hg8, hg10, undef, Bool.not_true, Bool.not_false, xm, Nat.reduceAdd, Nat.reduceLeDiff, seval, reduceCtorEq])
     refine hZ4 _ ?_; clear hZ4 Z4
     exact ⟨false, h, tleF ((And.intro hg6 <| And.intro hg8 <| hg10))⟩
   ·(try simp only [hg6, hg8, undef, Bool.not_true, Bool.not_false, xm, Nat.reduceAdd, Nat.reduceLeDiff, seval, reduceCtorEq])
    refine hZ4 _ ?_; clear hZ4 Z4
    exact ⟨false, h, tleF ((And.intro hg6 <| hg8))⟩
  ·(try simp only [hg6, undef, Bool.not_true, Bool.not_false, xm, Nat.reduceAdd, Nat.reduceLeDiff, seval, reduceCtorEq])
   refine hZ4 _ ?_; clear hZ4 Z4
   exact ⟨false, h, tleF hg6⟩
 ·rintro v1 h
  cases h; exact AWp.ret (rtq [.tmp 4])
def b63_1 (F : F102_1_) (x0 : (List XCte)) (x1 : (List XCte)) : Option (Bool) := (way (((((x0.length : Nat) : Int)) != (((x1.length : Nat) : Int)))) (some false) (loopC (fun (u6 : Int → Option (Bool)) (q5 : Int) => (way ((decide (q5 < (((x0.length : Nat) : Int))))) (need (0 ≤ q5 ∧ q5 < ((x0.length : Nat) : Int)) (need (0 ≤ q5 ∧ q5 < ((x1.length : Nat) : Int)) (call (F.p64 ((x0.getD q5.toNat XCte.z)) ((x1.getD q5.toNat XCte.z))) fun y14 => (way ((!y14)) (some false) (u6 (IntKind.i64.wrap (q5 + 1))))))) (some true))) manyC 0))
theorem d63_1 (F : F102_1_) (H : F.Ok) (x0 : (List XCte)) (x1 : (List XCte)) (r : Bool) (h : b63_1 F x0 x1 = some r) : Gives Tryz.prog 63 [.slice 3 (List.map XCte.v x0), .slice 3 (List.map XCte.v x1), .func 64 [] []] (vbool r) := by
 intro s
 unfold b63_1 at h
 refine ac Tryz.func63 Tryz.ntmps63 ?_
 refine rg ?_
 refine AWp.seq ?_
 refine rg ?_
 refine ws h (fun hc2 h => ?_) fun hc2 h => ?_
 ·refine rg ?_
  cases h; exact AWp.ret (rtq [.tmp 6])
 ·refine AWp.skip ?_
  refine AWp.seq ?_
  refine rg ?_
  refine AWp.block ?_
  refine lp h (fun q5 => tst [(1, .slice 3 (List.map XCte.v x1)), (2, .func 64 [] []), (15, .slice 3 (List.map XCte.v x0)), (16, vint (((x0.length : Nat) : Int))), (17, vint q5)] [] s 32) ?_ ?_
  ·exact tle
  ·rintro u6 v4 h
   refine rg ?_
   refine AWp.seq ?_
   refine ws h (fun hc8 h => ?_) fun hc8 h => ?_
   ·refine AWp.skip ?_
    refine AWp.seq ?_
    refine AWp.block ?_
    obtain ⟨hn11, h⟩ := need_some h
    refine rgF ((And.intro ((isT hn11.1)) <| And.intro ((isT hn11.2)) <| (getD_enc XCte.v XCte.z hn11))) ?_
    obtain ⟨hn13, h⟩ := need_some h
    refine rgF ((And.intro ((isT hn13.1)) <| And.intro ((isT hn13.2)) <| (getD_enc XCte.v XCte.z hn13))) ?_
    refine rgD (H.p64 ((x0.getD v4.toNat XCte.z)) ((x1.getD v4.toNat XCte.z))) h fun y14 hy14 h => ?_
    refine ws h (fun hc15 h => ?_) fun hc15 h => ?_
    ·refine rg ?_
     cases h; exact AWp.ret (rtq [.tmp 6])
    ·refine AWp.skip ?_
     refine r1 ?_
     exact ⟨(IntKind.i64.wrap (v4 + 1)), h, tle⟩
   ·refine AWp.exit ?_
    simp only [exq, seval]
    refine rg ?_
    cases h; exact AWp.ret (rtq [.tmp 6])
def b64 (F : F102_1_) (x0 : XCte) (x1 : XCte) : Option (Bool) := (join (fun (u3 : Bool → Option (Bool)) => (way ((x0.name.data.toList == x1.name.data.toList)) (call (s20 x0.cols x1.cols) fun y5 => (way y5 (call (F.p28_1 x0.body x1.body) fun y7 => (u3 y7)) (u3 false))) (u3 false))) (fun (q2 : Bool) => (some q2)))
theorem d64 (F : F102_1_) (H : F.Ok) (x0 : XCte) (x1 : XCte) (r : Bool) (h : b64 F x0 x1 = some r) : Gives Tryz.prog 64 [.agg x0.v, .agg x1.v] (vbool r) := by
 intro s
 unfold b64 at h
 refine ac Tryz.func64 Tryz.ntmps64 ?_
 refine rg ?_
 refine jn h (fun q2 => tst [(4, vbool q2)] [] s 24) (fun u3 h => ?_) ?_
 ·refine wy h (fun hg4 h => ?_) fun hg4 h => ?_
  ·obtain ⟨y5, hy5, h⟩ := call_some h
   refine wy h (fun hg6 h => ?_) fun hg6 h => ?_
   ·refine r1FCD ((And.intro hg4 <| hg6)) (c20 x0.cols x1.cols _ hy5) (H.p28_1 x0.body x1.body) h fun y7 hy7 h => ?_
    exact ⟨y7, h, tleF ((And.intro hg4 <| hg6))⟩
   ·refine r1FC ((And.intro hg4 <| hg6)) (c20 x0.cols x1.cols _ hy5) ?_
    exact ⟨false, h, tleF ((And.intro hg4 <| hg6))⟩
  ·refine r1F hg4 ?_
   exact ⟨false, h, tleF hg4⟩
 ·rintro v1 h
  cases h; exact AWp.ret (rtq [.tmp 4])
def b65_1 (F : F102_1_) (x0 : (List XPart)) (x1 : (List XPart)) : Option (Bool) := (way (((((x0.length : Nat) : Int)) != (((x1.length : Nat) : Int)))) (some false) (loopC (fun (u6 : Int → Option (Bool)) (q5 : Int) => (way ((decide (q5 < (((x0.length : Nat) : Int))))) (need (0 ≤ q5 ∧ q5 < ((x0.length : Nat) : Int)) (need (0 ≤ q5 ∧ q5 < ((x1.length : Nat) : Int)) (call (F.p66 ((x0.getD q5.toNat XPart.z)) ((x1.getD q5.toNat XPart.z))) fun y14 => (way ((!y14)) (some false) (u6 (IntKind.i64.wrap (q5 + 1))))))) (some true))) manyC 0))
theorem d65_1 (F : F102_1_) (H : F.Ok) (x0 : (List XPart)) (x1 : (List XPart)) (r : Bool) (h : b65_1 F x0 x1 = some r) : Gives Tryz.prog 65 [.slice 8 (List.map XPart.v x0), .slice 8 (List.map XPart.v x1), .func 66 [] []] (vbool r) := by
 intro s
 unfold b65_1 at h
 refine ac Tryz.func65 Tryz.ntmps65 ?_
 refine rg ?_
 refine AWp.seq ?_
 refine rg ?_
 refine ws h (fun hc2 h => ?_) fun hc2 h => ?_
 ·refine rg ?_
  cases h; exact AWp.ret (rtq [.tmp 6])
 ·refine AWp.skip ?_
  refine AWp.seq ?_
  refine rg ?_
  refine AWp.block ?_
  refine lp h (fun q5 => tst [(1, .slice 8 (List.map XPart.v x1)), (2, .func 66 [] []), (15, .slice 8 (List.map XPart.v x0)), (16, vint (((x0.length : Nat) : Int))), (17, vint q5)] [] s 32) ?_ ?_
  ·exact tle
  ·rintro u6 v4 h
   refine rg ?_
   refine AWp.seq ?_
   refine ws h (fun hc8 h => ?_) fun hc8 h => ?_
   ·refine AWp.skip ?_
    refine AWp.seq ?_
    refine AWp.block ?_
    obtain ⟨hn11, h⟩ := need_some h
    refine rgF ((And.intro ((isT hn11.1)) <| And.intro ((isT hn11.2)) <| (getD_enc XPart.v XPart.z hn11))) ?_
    obtain ⟨hn13, h⟩ := need_some h
    refine rgF ((And.intro ((isT hn13.1)) <| And.intro ((isT hn13.2)) <| (getD_enc XPart.v XPart.z hn13))) ?_
    refine rgD (H.p66 ((x0.getD v4.toNat XPart.z)) ((x1.getD v4.toNat XPart.z))) h fun y14 hy14 h => ?_
    refine ws h (fun hc15 h => ?_) fun hc15 h => ?_
    ·refine rg ?_
     cases h; exact AWp.ret (rtq [.tmp 6])
    ·refine AWp.skip ?_
     refine r1 ?_
     exact ⟨(IntKind.i64.wrap (v4 + 1)), h, tle⟩
   ·refine AWp.exit ?_
    simp only [exq, seval]
    refine rg ?_
    cases h; exact AWp.ret (rtq [.tmp 6])
def b66 (F : F102_1_) (x0 : XPart) (x1 : XPart) : Option (Bool) := (join (fun (u3 : Bool → Option (Bool)) => (way ((x0.comp == x1.comp)) (way ((x0.distinct == x1.distinct)) (call (F.p102_1 x0.items x1.items) fun y7 => (way y7 (call (F.p104_1 x0.from_ x1.from_) fun y9 => (way y9 (call (F.p27_1 x0.where_ x1.where_) fun y11 => (way y11 (call (F.p27_1 x0.group x1.group) fun y13 => (way y13 (call (F.p27_1 x0.having x1.having) fun y15 => (way y15 (call (F.p106_1 x0.values x1.values) fun y17 => (u3 y17)) (u3 false))) (u3 false))) (u3 false))) (u3 false))) (u3 false))) (u3 false)) (u3 false))) (fun (q2 : Bool) => (some q2)))
theorem d66 (F : F102_1_) (H : F.Ok) (x0 : XPart) (x1 : XPart) (r : Bool) (h : b66 F x0 x1 = some r) : Gives Tryz.prog 66 [.agg x0.v, .agg x1.v] (vbool r) := by
 intro s
 unfold b66 at h
 refine ac Tryz.func66 Tryz.ntmps66 ?_
 refine rg ?_
 refine jn h (fun q2 => tst [(4, vbool q2)] [] s 59) (fun u3 h => ?_) ?_
 ·refine AWp.reg1 fun Z4 hZ4 => ?_
  (try simp only [undef, Bool.not_true, Bool.not_false, xm, Nat.reduceAdd, Nat.reduceLeDiff, seval, reduceCtorEq])
  refine gTS h (by rfl) (fun hg5 h => ?_) (fun hg5 h => ?_)
  ·(try simp only [hg5, undef, Bool.not_true, Bool.not_false, xm, Nat.reduceAdd, Nat.reduceLeDiff, seval, reduceCtorEq])
   refine gTS h (by rfl) (fun hg6 h => ?_) (fun hg6 h => ?_)
   ·(try simp only [hg5, hg6, undef, Bool.not_true, Bool.not_false, xm, Nat.reduceAdd, Nat.reduceLeDiff, seval, reduceCtorEq])
    obtain ⟨y7, hy7, h⟩ := call_some h
    refine goG (H.p102_1 x0.items x1.items _ hy7) ?_
    (try simp only [hg5, hg6, undef, Bool.not_true, Bool.not_false, xm, Nat.reduceAdd, Nat.reduceLeDiff, seval, reduceCtorEq])
    refine gTS h (by rfl) (fun hg8 h => ?_) (fun hg8 h => ?_)
    ·(try simp only [hg5, hg6, hg8, undef, Bool.not_true, Bool.not_false, xm, Nat.reduceAdd, Nat.reduceLeDiff, seval, reduceCtorEq])
     obtain ⟨y9, hy9, h⟩ := call_some h
     refine goG (H.p104_1 x0.from_ x1.from_ _ hy9) ?_
     (try simp only [hg5, hg6, hg8, undef, Bool.not_true, Bool.not_false, xm, Nat.reduceAdd, Nat.reduceLeDiff, seval, reduceCtorEq])
     refine gTS h (by rfl) (fun hg10 h => ?_) (fun hg10 h => ?_)
     ·(try simp only [hg5, hg6, hg8, hg10, undef, Bool.not_true, Bool.not_false, xm, Nat.reduceAdd, Nat.reduceLeDiff, seval, reduceCtorEq])
      obtain ⟨y11, hy11, h⟩ := call_some h
      refine goG (H.p27_1 x0.where_ x1.where_ _ hy11) ?_
      (try simp only [hg5, hg6, hg8, hg10, undef, Bool.not_true, Bool.not_false, xm, Nat.reduceAdd, Nat.reduceLeDiff, seval, reduceCtorEq])
      refine gTS h (by rfl) (fun hg12 h => ?_) (fun hg12 h => ?_)
      ·(try simp only [hg5, hg6, hg8, hg10, hg12, undef, Bool.not_true, Bool.not_false, xm, Nat.reduceAdd, Nat.reduceLeDiff, seval, reduceCtorEq])
       obtain ⟨y13, hy13, h⟩ := call_some h
       refine goG (H.p27_1 x0.group x1.group _ hy13) ?_
       (try simp only [hg5, hg6, hg8, hg10, hg12, undef, Bool.not_true, Bool.not_false, xm, Nat.reduceAdd, Nat.reduceLeDiff, seval, reduceCtorEq])
       refine gTS h (by rfl) (fun hg14 h => ?_) (fun hg14 h => ?_)
       ·(try simp only [hg5, hg6, hg8, hg10, hg12, hg14, undef, Bool.not_true, Bool.not_false, xm, Nat.reduceAdd, Nat.reduceLeDiff, seval, reduceCtorEq])
        obtain ⟨y15, hy15, h⟩ := call_some h
        refine goG (H.p27_1 x0.having x1.having _ hy15) ?_
        (try simp only [hg5, hg6, hg8, hg10, hg12, hg14, undef, Bool.not_true, Bool.not_false, xm, Nat.reduceAdd, Nat.reduceLeDiff, seval, reduceCtorEq])
        refine gTS h (by rfl) (fun hg16 h => ?_) (fun hg16 h => ?_)
        ·(try simp only [hg5, hg6, hg8, hg10, hg12, hg14, hg16, undef, Bool.not_true, Bool.not_false, xm, Nat.reduceAdd, Nat.reduceLeDiff, seval, reduceCtorEq])
         obtain ⟨y17, hy17, h⟩ := call_some h
         refine goG (H.p106_1 x0.values x1.values _ hy17) ?_
         (try simp only [hg5, hg6, hg8, hg10, hg12, hg14, hg16, undef, Bool.not_true, Bool.not_false, xm, Nat.reduceAdd, Nat.reduceLeDiff, seval, reduceCtorEq])
         refine hZ4 _ ?_; clear hZ4 Z4
         exact ⟨y17, h, tleF ((And.intro hg5 <| And.intro hg6 <| And.intro hg8 <| And.intro hg10 <| And.intro hg12 <| And.intro hg14 <| hg16))⟩
        ·(try simp only [hg5, hg6, hg8, hg10, hg12, hg14, hg16, undef, Bool.not_true, Bool.not_false, xm, Nat.reduceAdd, Nat.reduceLeDiff, seval, reduceCtorEq])
         refine hZ4 _ ?_; clear hZ4 Z4
         exact ⟨false, h, tleF ((And.intro hg5 <| And.intro hg6 <| And.intro hg8 <| And.intro hg10 <| And.intro hg12 <| And.intro hg14 <| hg16))⟩
       ·(try simp only [hg5, hg6, hg8, hg10, hg12, hg14, undef, Bool.not_true, Bool.not_false, xm, Nat.reduceAdd, Nat.reduceLeDiff, seval, reduceCtorEq])
        refine hZ4 _ ?_; clear hZ4 Z4
        exact ⟨false, h, tleF ((And.intro hg5 <| And.intro hg6 <| And.intro hg8 <| And.intro hg10 <| And.intro hg12 <| hg14))⟩
      ·(try simp only [hg5, hg6, hg8, hg10, hg12, undef, Bool.not_true, Bool.not_false, xm, Nat.reduceAdd, Nat.reduceLeDiff, seval, reduceCtorEq])
       refine hZ4 _ ?_; clear hZ4 Z4
       exact ⟨false, h, tleF ((And.intro hg5 <| And.intro hg6 <| And.intro hg8 <| And.intro hg10 <| hg12))⟩
     ·(try simp only [hg5, hg6, hg8, hg10, undef, Bool.not_true, Bool.not_false, xm, Nat.reduceAdd, Nat.reduceLeDiff, seval, reduceCtorEq])
      refine hZ4 _ ?_; clear hZ4 Z4
      exact ⟨false, h, tleF ((And.intro hg5 <| And.intro hg6 <| And.intro hg8 <| hg10))⟩
    ·(try simp only [hg5, hg6, hg8, undef, Bool.not_true, Bool.not_false, xm, Nat.reduceAdd, Nat.reduceLeDiff, seval, reduceCtorEq])
     refine hZ4 _ ?_; clear hZ4 Z4
     exact ⟨false, h, tleF ((And.intro hg5 <| And.intro hg6 <| hg8))⟩
   ·(try simp only [hg5, hg6, undef, Bool.not_true, Bool.not_false, xm, Nat.reduceAdd, Nat.reduceLeDiff, seval, reduceCtorEq])
    refine hZ4 _ ?_; clear hZ4 Z4
    exact ⟨false, h, tleF ((And.intro hg5 <| hg6))⟩
  ·(try simp only [hg5, undef, Bool.not_true, Bool.not_false, xm, Nat.reduceAdd, Nat.reduceLeDiff, seval, reduceCtorEq])
   refine hZ4 _ ?_; clear hZ4 Z4
   exact ⟨false, h, tleF hg5⟩
 ·rintro v1 h
  cases h; exact AWp.ret (rtq [.tmp 4])
def b67_1 (F : F102_1_) (x0 : (List XSort)) (x1 : (List XSort)) : Option (Bool) := (way (((((x0.length : Nat) : Int)) != (((x1.length : Nat) : Int)))) (some false) (loopC (fun (u6 : Int → Option (Bool)) (q5 : Int) => (way ((decide (q5 < (((x0.length : Nat) : Int))))) (need (0 ≤ q5 ∧ q5 < ((x0.length : Nat) : Int)) (need (0 ≤ q5 ∧ q5 < ((x1.length : Nat) : Int)) (call (F.p68 ((x0.getD q5.toNat XSort.z)) ((x1.getD q5.toNat XSort.z))) fun y14 => (way ((!y14)) (some false) (u6 (IntKind.i64.wrap (q5 + 1))))))) (some true))) manyC 0))
theorem d67_1 (F : F102_1_) (H : F.Ok) (x0 : (List XSort)) (x1 : (List XSort)) (r : Bool) (h : b67_1 F x0 x1 = some r) : Gives Tryz.prog 67 [.slice 11 (List.map XSort.v x0), .slice 11 (List.map XSort.v x1), .func 68 [] []] (vbool r) := by
 intro s
 unfold b67_1 at h
 refine ac Tryz.func67 Tryz.ntmps67 ?_
 refine rg ?_
 refine AWp.seq ?_
 refine rg ?_
 refine ws h (fun hc2 h => ?_) fun hc2 h => ?_
 ·refine rg ?_
  cases h; exact AWp.ret (rtq [.tmp 6])
 ·refine AWp.skip ?_
  refine AWp.seq ?_
  refine rg ?_
  refine AWp.block ?_
  refine lp h (fun q5 => tst [(1, .slice 11 (List.map XSort.v x1)), (2, .func 68 [] []), (15, .slice 11 (List.map XSort.v x0)), (16, vint (((x0.length : Nat) : Int))), (17, vint q5)] [] s 32) ?_ ?_
  ·exact tle
  ·rintro u6 v4 h
   refine rg ?_
   refine AWp.seq ?_
   refine ws h (fun hc8 h => ?_) fun hc8 h => ?_
   ·refine AWp.skip ?_
    refine AWp.seq ?_
    refine AWp.block ?_
    obtain ⟨hn11, h⟩ := need_some h
    refine rgF ((And.intro ((isT hn11.1)) <| And.intro ((isT hn11.2)) <| (getD_enc XSort.v XSort.z hn11))) ?_
    obtain ⟨hn13, h⟩ := need_some h
    refine rgF ((And.intro ((isT hn13.1)) <| And.intro ((isT hn13.2)) <| (getD_enc XSort.v XSort.z hn13))) ?_
    refine rgD (H.p68 ((x0.getD v4.toNat XSort.z)) ((x1.getD v4.toNat XSort.z))) h fun y14 hy14 h => ?_
    refine ws h (fun hc15 h => ?_) fun hc15 h => ?_
    ·refine rg ?_
     cases h; exact AWp.ret (rtq [.tmp 6])
    ·refine AWp.skip ?_
     refine r1 ?_
     exact ⟨(IntKind.i64.wrap (v4 + 1)), h, tle⟩
   ·refine AWp.exit ?_
    simp only [exq, seval]
    refine rg ?_
    cases h; exact AWp.ret (rtq [.tmp 6])
def b68 (F : F102_1_) (x0 : XSort) (x1 : XSort) : Option (Bool) := (join (fun (u3 : Bool → Option (Bool)) => (way ((x0.desc_ == x1.desc_)) (call (F.p26 x0.expr x1.expr) fun y5 => (u3 y5)) (u3 false))) (fun (q2 : Bool) => (some q2)))
theorem d68 (F : F102_1_) (H : F.Ok) (x0 : XSort) (x1 : XSort) (r : Bool) (h : b68 F x0 x1 = some r) : Gives Tryz.prog 68 [.agg x0.v, .agg x1.v] (vbool r) := by
 intro s
 unfold b68 at h
 refine ac Tryz.func68 Tryz.ntmps68 ?_
 refine rg ?_
 refine jn h (fun q2 => tst [(4, vbool q2)] [] s 17) (fun u3 h => ?_) ?_
 ·refine wy h (fun hg4 h => ?_) fun hg4 h => ?_
  ·refine r1FD hg4 (H.p26 x0.expr x1.expr) h fun y5 hy5 h => ?_
   exact ⟨y5, h, tleF hg4⟩
  ·refine r1F hg4 ?_
   exact ⟨false, h, tleF hg4⟩
 ·rintro v1 h
  cases h; exact AWp.ret (rtq [.tmp 4])
def F102_1_.fix : Nat → F102_1_
  | 0 => ⟨fun _ _ => none, fun _ _ => none, fun _ _ => none, fun _ _ => none, fun _ _ => none, fun _ _ => none, fun _ _ => none, fun _ _ => none, fun _ _ => none, fun _ _ => none, fun _ _ => none, fun _ _ => none, fun _ _ => none, fun _ _ => none, fun _ _ => none, fun _ _ => none⟩
  | n + 1 => ⟨b102_1 (F102_1_.fix n), b103 (F102_1_.fix n), b104_1 (F102_1_.fix n), b105 (F102_1_.fix n), b106_1 (F102_1_.fix n), b107 (F102_1_.fix n), b26 (F102_1_.fix n), b27_1 (F102_1_.fix n), b28_1 (F102_1_.fix n), b29 (F102_1_.fix n), b63_1 (F102_1_.fix n), b64 (F102_1_.fix n), b65_1 (F102_1_.fix n), b66 (F102_1_.fix n), b67_1 (F102_1_.fix n), b68 (F102_1_.fix n)⟩
theorem F102_1_.ok : ∀ n, F102_1_.Ok (F102_1_.fix n)
  | 0 => ⟨(fun _ _ _ h => by cases h), (fun _ _ _ h => by cases h), (fun _ _ _ h => by cases h), (fun _ _ _ h => by cases h), (fun _ _ _ h => by cases h), (fun _ _ _ h => by cases h), (fun _ _ _ h => by cases h), (fun _ _ _ h => by cases h), (fun _ _ _ h => by cases h), (fun _ _ _ h => by cases h), (fun _ _ _ h => by cases h), (fun _ _ _ h => by cases h), (fun _ _ _ h => by cases h), (fun _ _ _ h => by cases h), (fun _ _ _ h => by cases h), (fun _ _ _ h => by cases h)⟩
  | n + 1 => ⟨d102_1 _ (F102_1_.ok n), d103 _ (F102_1_.ok n), d104_1 _ (F102_1_.ok n), d105 _ (F102_1_.ok n), d106_1 _ (F102_1_.ok n), d107 _ (F102_1_.ok n), d26 _ (F102_1_.ok n), d27_1 _ (F102_1_.ok n), d28_1 _ (F102_1_.ok n), d29 _ (F102_1_.ok n), d63_1 _ (F102_1_.ok n), d64 _ (F102_1_.ok n), d65_1 _ (F102_1_.ok n), d66 _ (F102_1_.ok n), d67_1 _ (F102_1_.ok n), d68 _ (F102_1_.ok n)⟩
def s108 (x0 : (List XExpr)) : Option ((List XExpr)) := (some x0)
theorem c108 (x0 : (List XExpr)) (r : (List XExpr)) (h : s108 x0 = some r) : Gives Tryz.prog 108 [.slice 10 (List.map XExpr.v x0)] (V.func 156 [] [.elt [.slice 10 (List.map XExpr.v r)] 0]) := by
 intro s
 unfold s108 at h
 refine ac Tryz.func108 Tryz.ntmps108 ?_
 refine rg ?_
 refine AWp.frz 1 (cs := [.slice 10 (List.map XExpr.v x0)]) (ty := 28) (by first | rfl | simp only [am, seval, reduceCtorEq]) ?_
 refine AWp.weaken (st' := tst [(0, .slice 10 (List.map XExpr.v x0)), (1, .elt [V.slice 10 (List.map XExpr.v x0)] 0)] [] s 4) ?_ ?_
 ·refine le_tst ?_ ?_ ?_ (Heap.le.refl _) rfl
  · simp only [leE, St.frz, frzV, XExpr.vs, am, seval, reduceCtorEq] <;> simp
  · simp only [okL, keyIn, Nat.reduceBEq, Bool.or_true, Bool.true_or, Bool.or_false, and_self]
  · simp only [leB, St.frz, frzV, XExpr.vs, am, seval, reduceCtorEq] <;> (repeat' apply And.intro) <;> first | rfl | (simp only [XExpr.v_eq]; rfl) | simp [XExpr.v_eq]
 refine rg ?_
 cases h; exact AWp.ret (rtq [.tmp 2])
def s109 (x0 : (List XSelect)) : Option ((List XSelect)) := (some x0)
theorem c109 (x0 : (List XSelect)) (r : (List XSelect)) (h : s109 x0 = some r) : Gives Tryz.prog 109 [.slice 5 (List.map XSelect.v x0)] (V.func 157 [] [.elt [.slice 5 (List.map XSelect.v r)] 0]) := by
 intro s
 unfold s109 at h
 refine ac Tryz.func109 Tryz.ntmps109 ?_
 refine rg ?_
 refine AWp.frz 1 (cs := [.slice 5 (List.map XSelect.v x0)]) (ty := 29) (by first | rfl | simp only [am, seval, reduceCtorEq]) ?_
 refine AWp.weaken (st' := tst [(0, .slice 5 (List.map XSelect.v x0)), (1, .elt [V.slice 5 (List.map XSelect.v x0)] 0)] [] s 4) ?_ ?_
 ·refine le_tst ?_ ?_ ?_ (Heap.le.refl _) rfl
  · simp only [leE, St.frz, frzV, XSelect.vs, am, seval, reduceCtorEq] <;> simp
  · simp only [okL, keyIn, Nat.reduceBEq, Bool.or_true, Bool.true_or, Bool.or_false, and_self]
  · simp only [leB, St.frz, frzV, XSelect.vs, am, seval, reduceCtorEq] <;> (repeat' apply And.intro) <;> first | rfl | (simp only [XSelect.v_eq]; rfl) | simp [XSelect.v_eq]
 refine rg ?_
 cases h; exact AWp.ret (rtq [.tmp 2])
def s71 (x0 : XSelect) : Option ((List XExpr)) := (loopC (fun (u8 : (List XExpr) × Int → Option ((List XExpr))) (q7 : (List XExpr) × Int) => (way ((decide (q7.2 < (((x0.parts.length : Nat) : Int))))) (need (0 ≤ q7.2 ∧ q7.2 < ((x0.parts.length : Nat) : Int)) (loopC (fun (u20 : (List XExpr) × Int → Option ((List XExpr))) (q19 : (List XExpr) × Int) => (way ((decide (q19.2 < ((((((x0.parts.getD q7.2.toNat XPart.z)).items).length : Nat) : Int))))) (need (0 ≤ q19.2 ∧ q19.2 < (((((x0.parts.getD q7.2.toNat XPart.z)).items).length : Nat) : Int)) (need ((q19.1.length + ((((((x0.parts.getD q7.2.toNat XPart.z)).items).getD q19.2.toNat XItem.z)).expr).length) * 136 ≤ 140737488355328) (u20 ((q19.1 ++ ((((((x0.parts.getD q7.2.toNat XPart.z)).items).getD q19.2.toNat XItem.z)).expr)), (IntKind.i64.wrap (q19.2 + 1)))))) (loopC (fun (u36 : (List XExpr) × Int → Option ((List XExpr))) (q35 : (List XExpr) × Int) => (way ((decide (q35.2 < ((((((x0.parts.getD q7.2.toNat XPart.z)).from_).length : Nat) : Int))))) (need (0 ≤ q35.2 ∧ q35.2 < (((((x0.parts.getD q7.2.toNat XPart.z)).from_).length : Nat) : Int)) (need ((q35.1.length + ((((((x0.parts.getD q7.2.toNat XPart.z)).from_).getD q35.2.toNat XSource.z)).on).length) * 136 ≤ 140737488355328) (u36 ((q35.1 ++ ((((((x0.parts.getD q7.2.toNat XPart.z)).from_).getD q35.2.toNat XSource.z)).on)), (IntKind.i64.wrap (q35.2 + 1)))))) (need ((q35.1.length + (((x0.parts.getD q7.2.toNat XPart.z)).where_).length) * 136 ≤ 140737488355328) (need ((((q35.1 ++ (((x0.parts.getD q7.2.toNat XPart.z)).where_))).length + (((x0.parts.getD q7.2.toNat XPart.z)).group).length) * 136 ≤ 140737488355328) (need ((((((q35.1 ++ (((x0.parts.getD q7.2.toNat XPart.z)).where_))) ++ (((x0.parts.getD q7.2.toNat XPart.z)).group))).length + (((x0.parts.getD q7.2.toNat XPart.z)).having).length) * 136 ≤ 140737488355328) (loopC (fun (u63 : (List XExpr) × Int → Option ((List XExpr))) (q62 : (List XExpr) × Int) => (way ((decide (q62.2 < ((((((x0.parts.getD q7.2.toNat XPart.z)).values).length : Nat) : Int))))) (need (0 ≤ q62.2 ∧ q62.2 < (((((x0.parts.getD q7.2.toNat XPart.z)).values).length : Nat) : Int)) (need ((q62.1.length + (((((x0.parts.getD q7.2.toNat XPart.z)).values).getD q62.2.toNat ([]))).length) * 136 ≤ 140737488355328) (u63 ((q62.1 ++ (((((x0.parts.getD q7.2.toNat XPart.z)).values).getD q62.2.toNat ([])))), (IntKind.i64.wrap (q62.2 + 1)))))) (u8 (q62.1, (IntKind.i64.wrap (q7.2 + 1)))))) manyC ((((((q35.1 ++ (((x0.parts.getD q7.2.toNat XPart.z)).where_))) ++ (((x0.parts.getD q7.2.toNat XPart.z)).group))) ++ (((x0.parts.getD q7.2.toNat XPart.z)).having)), 0))))))) manyC (q19.1, 0)))) manyC (q7.1, 0))) (loopC (fun (u79 : (List XExpr) × Int → Option ((List XExpr))) (q78 : (List XExpr) × Int) => (way ((decide (q78.2 < (((x0.order.length : Nat) : Int))))) (need (0 ≤ q78.2 ∧ q78.2 < ((x0.order.length : Nat) : Int)) (need ((q78.1.length + 1) * 136 ≤ 140737488355328) (u79 ((q78.1 ++ ([((x0.order.getD q78.2.toNat XSort.z)).expr])), (IntKind.i64.wrap (q78.2 + 1)))))) (need ((q78.1.length + x0.limit.length) * 136 ≤ 140737488355328) (need ((((q78.1 ++ x0.limit)).length + x0.offset.length) * 136 ≤ 140737488355328) (some ((((q78.1 ++ x0.limit)) ++ x0.offset))))))) manyC (q7.1, 0)))) manyC (([] : List XExpr), 0))
theorem c71 (x0 : XSelect) (r : (List XExpr)) (h : s71 x0 = some r) : Gives Tryz.prog 71 [.agg x0.v] (.slice 10 (List.map XExpr.v r)) := by
 intro s
 unfold s71 at h
 refine ac Tryz.func71 Tryz.ntmps71 ?_
 refine rg ?_
 refine rg ?_
 refine AWp.seq ?_
 refine rg ?_
 refine AWp.block ?_
 refine AWp.adoptE 3 (42, 10) (.inl (by rfl)) fun g2 hg2 => ?_
 change (s).own g2 = none at hg2
 have fr3 : Fr s (List.map Prod.fst [(g2, (42, 10))]) := Fr.snoc (l := []) (Fr.nil s) hg2
 refine AWp.loopS (X := (List XExpr) × Int) (G := Nat) h (fun gq9 => Fr s (List.map Prod.fst [(gq9, (42, 10))])) (fun q7 gq9 => tst [(1, .loc 1 0), (3, .own gq9 10 (List.map XExpr.v q7.1)), (4, vint q7.2)] [(1, (x0.v, 76))] (owns s [(gq9, (42, 10))]) 102) ?_ ?_
 ·exact ⟨g2, fr3, tle⟩
 ·rintro u8 ⟨v4, v6⟩ h g5 hg5f
  (try dsimp only at h ⊢)
  refine AWp.seq ?_
  refine rg ?_
  refine ws h (fun hc11 h => ?_) fun hc11 h => ?_
  ·refine AWp.skip ?_
   refine AWp.seq ?_
   refine AWp.block ?_
   obtain ⟨hn14, h⟩ := need_some h
   refine rgF ((And.intro ((isT hn14.1)) <| And.intro ((isT hn14.2)) <| (getD_enc XPart.v XPart.z hn14))) ?_
   refine AWp.seq ?_
   refine rg ?_
   refine AWp.block ?_
   refine AWp.loopS (X := (List XExpr) × Int) (G := Nat) h (fun gq21 => Fr s (List.map Prod.fst [(gq21, (42, 10))])) (fun q19 gq21 => tst [(1, .loc 1 0), (3, .own gq21 10 (List.map XExpr.v q19.1)), (4, vint v6), (5, .loc 5 0), (6, vint q19.2)] [(1, (x0.v, 76)), (5, (((x0.parts.getD v6.toNat XPart.z)).v, 126))] (owns s [(gq21, (42, 10))]) 102) ?_ ?_
   ·exact ⟨g5, hg5f, tle⟩
   ·rintro u20 ⟨v16, v18⟩ h g17 hg17f
    (try dsimp only at h ⊢)
    refine AWp.seq ?_
    refine rg ?_
    refine ws h (fun hc23 h => ?_) fun hc23 h => ?_
    ·refine AWp.skip ?_
     refine AWp.seq ?_
     refine AWp.block ?_
     refine AWp.reg1 fun Z25 hZ25 => ?_
     obtain ⟨hn27, h⟩ := need_some h
     obtain ⟨hn28, h⟩ := need_some h
     (try simp only [isT hn27.1, isT hn27.2, getD_enc XItem.v XItem.z hn27, xs, xa, Nat.reduceAdd, seval, reduceCtorEq])
     first | refine ap4 hg17f hn28 fun g29 hg29 => ?_ | refine ap3 hg17f hn28 fun g29 hg29 => ?_ | refine ap2 hg17f hn28 fun g29 hg29 => ?_
     have fr30 : Fr s (List.map Prod.fst [(g29, (42, 10))]) := Fr.rep (a := []) (b := []) hg17f hg29
     (try simp only [isT hn27.1, isT hn27.2, getD_enc XItem.v XItem.z hn27, xs, xa, Nat.reduceAdd, seval, reduceCtorEq])
     refine hZ25 _ ?_; clear hZ25 Z25
     refine hLO (Fr.repLe (a := []) (b := []) hg17f hg29) (s' := (owns s [(g29, (42, 10))])) ?_
     refine r1 ?_
     exact ⟨((v16 ++ ((((((x0.parts.getD v6.toNat XPart.z)).items).getD v18.toNat XItem.z)).expr)), (IntKind.i64.wrap (v18 + 1))), h, g29, fr30, tle⟩
    ·refine AWp.exit ?_
     simp only [exq, seval]
     refine AWp.seq ?_
     refine rg ?_
     refine AWp.block ?_
     refine AWp.loopS (X := (List XExpr) × Int) (G := Nat) h (fun gq37 => Fr s (List.map Prod.fst [(gq37, (42, 10))])) (fun q35 gq37 => tst [(1, .loc 1 0), (3, .own gq37 10 (List.map XExpr.v q35.1)), (4, vint v6), (5, .loc 5 0), (7, vint q35.2)] [(1, (x0.v, 76)), (5, (((x0.parts.getD v6.toNat XPart.z)).v, 126))] (owns s [(gq37, (42, 10))]) 102) ?_ ?_
     ·exact ⟨g17, hg17f, tle⟩
     ·rintro u36 ⟨v32, v34⟩ h g33 hg33f
      (try dsimp only at h ⊢)
      refine AWp.seq ?_
      refine rg ?_
      refine ws h (fun hc39 h => ?_) fun hc39 h => ?_
      ·refine AWp.skip ?_
       refine AWp.seq ?_
       refine AWp.block ?_
       refine AWp.reg1 fun Z41 hZ41 => ?_
       obtain ⟨hn43, h⟩ := need_some h
       obtain ⟨hn44, h⟩ := need_some h
       (try simp only [isT hn43.1, isT hn43.2, getD_enc XSource.v XSource.z hn43, xs, xa, Nat.reduceAdd, seval, reduceCtorEq])
       first | refine ap4 hg33f hn44 fun g45 hg45 => ?_ | refine ap3 hg33f hn44 fun g45 hg45 => ?_ | refine ap2 hg33f hn44 fun g45 hg45 => ?_
       have fr46 : Fr s (List.map Prod.fst [(g45, (42, 10))]) := Fr.rep (a := []) (b := []) hg33f hg45
       (try simp only [isT hn43.1, isT hn43.2, getD_enc XSource.v XSource.z hn43, xs, xa, Nat.reduceAdd, seval, reduceCtorEq])
       refine hZ41 _ ?_; clear hZ41 Z41
       refine hLO (Fr.repLe (a := []) (b := []) hg33f hg45) (s' := (owns s [(g45, (42, 10))])) ?_
       refine r1 ?_
       exact ⟨((v32 ++ ((((((x0.parts.getD v6.toNat XPart.z)).from_).getD v34.toNat XSource.z)).on)), (IntKind.i64.wrap (v34 + 1))), h, g45, fr46, tle⟩
      ·refine AWp.exit ?_
       simp only [exq, seval]
       refine AWp.reg fun Z47 hZ47 => ?_
       obtain ⟨hn48, h⟩ := need_some h
       (try simp only [xs, xa, Nat.reduceAdd, seval, reduceCtorEq])
       first | refine ap4 hg33f hn48 fun g49 hg49 => ?_ | refine ap3 hg33f hn48 fun g49 hg49 => ?_ | refine ap2 hg33f hn48 fun g49 hg49 => ?_
       have fr50 : Fr s (List.map Prod.fst [(g49, (42, 10))]) := Fr.rep (a := []) (b := []) hg33f hg49
       (try simp only [xs, xa, Nat.reduceAdd, seval, reduceCtorEq])
       refine hZ47 _ ?_; clear hZ47 Z47
       refine hLO (Fr.repLe (a := []) (b := []) hg33f hg49) (s' := (owns s [(g49, (42, 10))])) ?_
       refine AWp.reg fun Z51 hZ51 => ?_
       obtain ⟨hn52, h⟩ := need_some h
       (try simp only [xs, xa, Nat.reduceAdd, seval, reduceCtorEq])
       first | refine ap4 fr50 hn52 fun g53 hg53 => ?_ | refine ap3 fr50 hn52 fun g53 hg53 => ?_ | refine ap2 fr50 hn52 fun g53 hg53 => ?_
       have fr54 : Fr s (List.map Prod.fst [(g53, (42, 10))]) := Fr.rep (a := []) (b := []) fr50 hg53
       (try simp only [xs, xa, Nat.reduceAdd, seval, reduceCtorEq])
       refine hZ51 _ ?_; clear hZ51 Z51
       refine hLO (Fr.repLe (a := []) (b := []) fr50 hg53) (s' := (owns s [(g53, (42, 10))])) ?_
       refine AWp.reg fun Z55 hZ55 => ?_
       obtain ⟨hn56, h⟩ := need_some h
       (try simp only [xs, xa, Nat.reduceAdd, seval, reduceCtorEq])
       first | refine ap4 fr54 hn56 fun g57 hg57 => ?_ | refine ap3 fr54 hn56 fun g57 hg57 => ?_ | refine ap2 fr54 hn56 fun g57 hg57 => ?_
       have fr58 : Fr s (List.map Prod.fst [(g57, (42, 10))]) := Fr.rep (a := []) (b := []) fr54 hg57
       (try simp only [xs, xa, Nat.reduceAdd, seval, reduceCtorEq])
       refine hZ55 _ ?_; clear hZ55 Z55
       refine hLO (Fr.repLe (a := []) (b := []) fr54 hg57) (s' := (owns s [(g57, (42, 10))])) ?_
       refine rg ?_
       refine AWp.block ?_
       refine AWp.loopS (X := (List XExpr) × Int) (G := Nat) h (fun gq64 => Fr s (List.map Prod.fst [(gq64, (42, 10))])) (fun q62 gq64 => tst [(1, .loc 1 0), (3, .own gq64 10 (List.map XExpr.v q62.1)), (4, vint v6), (5, .loc 5 0), (8, vint q62.2)] [(1, (x0.v, 76)), (5, (((x0.parts.getD v6.toNat XPart.z)).v, 126))] (owns s [(gq64, (42, 10))]) 102) ?_ ?_
       ·exact ⟨g57, fr58, tle⟩
       ·rintro u63 ⟨v59, v61⟩ h g60 hg60f
        (try dsimp only at h ⊢)
        refine AWp.seq ?_
        refine rg ?_
        refine ws h (fun hc66 h => ?_) fun hc66 h => ?_
        ·refine AWp.skip ?_
         refine AWp.seq ?_
         refine AWp.block ?_
         refine AWp.reg1 fun Z68 hZ68 => ?_
         obtain ⟨hn70, h⟩ := need_some h
         obtain ⟨hn71, h⟩ := need_some h
         (try simp only [isT hn70.1, isT hn70.2, getD_enc (fun x => [V.slice 10 (List.map XExpr.v x)]) ([]) hn70, xs, xa, Nat.reduceAdd, seval, reduceCtorEq])
         first | refine ap4 hg60f hn71 fun g72 hg72 => ?_ | refine ap3 hg60f hn71 fun g72 hg72 => ?_ | refine ap2 hg60f hn71 fun g72 hg72 => ?_
         have fr73 : Fr s (List.map Prod.fst [(g72, (42, 10))]) := Fr.rep (a := []) (b := []) hg60f hg72
         (try simp only [isT hn70.1, isT hn70.2, getD_enc (fun x => [V.slice 10 (List.map XExpr.v x)]) ([]) hn70, xs, xa, Nat.reduceAdd, seval, reduceCtorEq])
         refine hZ68 _ ?_; clear hZ68 Z68
         refine hLO (Fr.repLe (a := []) (b := []) hg60f hg72) (s' := (owns s [(g72, (42, 10))])) ?_
         refine r1 ?_
         exact ⟨((v59 ++ (((((x0.parts.getD v6.toNat XPart.z)).values).getD v61.toNat ([])))), (IntKind.i64.wrap (v61 + 1))), h, g72, fr73, tle⟩
        ·refine AWp.exit ?_
         simp only [exq, seval]
         refine r1 ?_
         exact ⟨(v59, (IntKind.i64.wrap (v6 + 1))), h, g60, hg60f, tle⟩
  ·refine AWp.exit ?_
   simp only [exq, seval]
   refine AWp.seq ?_
   refine rg ?_
   refine AWp.block ?_
   refine AWp.loopS (X := (List XExpr) × Int) (G := Nat) h (fun gq80 => Fr s (List.map Prod.fst [(gq80, (42, 10))])) (fun q78 gq80 => tst [(1, .loc 1 0), (3, .own gq80 10 (List.map XExpr.v q78.1)), (9, vint q78.2)] [(1, (x0.v, 76))] (owns s [(gq80, (42, 10))]) 102) ?_ ?_
   ·exact ⟨g5, hg5f, tle⟩
   ·rintro u79 ⟨v75, v77⟩ h g76 hg76f
    (try dsimp only at h ⊢)
    refine AWp.seq ?_
    refine rg ?_
    refine ws h (fun hc82 h => ?_) fun hc82 h => ?_
    ·refine AWp.skip ?_
     refine AWp.seq ?_
     refine AWp.block ?_
     refine AWp.reg1 fun Z84 hZ84 => ?_
     obtain ⟨hn86, h⟩ := need_some h
     obtain ⟨hn87, h⟩ := need_some h
     (try simp only [isT hn86.1, isT hn86.2, getD_enc XSort.v XSort.z hn86, xs, xa, Nat.reduceAdd, seval, reduceCtorEq])
     first | refine ap4 hg76f hn87 fun g88 hg88 => ?_ | refine ap3 hg76f hn87 fun g88 hg88 => ?_ | refine ap2 hg76f hn87 fun g88 hg88 => ?_
     have fr89 : Fr s (List.map Prod.fst [(g88, (42, 10))]) := Fr.rep (a := []) (b := []) hg76f hg88
     (try simp only [isT hn86.1, isT hn86.2, getD_enc XSort.v XSort.z hn86, xs, xa, Nat.reduceAdd, seval, reduceCtorEq])
     refine hZ84 _ ?_; clear hZ84 Z84
     refine hLO (Fr.repLe (a := []) (b := []) hg76f hg88) (s' := (owns s [(g88, (42, 10))])) ?_
     refine r1 ?_
     exact ⟨((v75 ++ ([((x0.order.getD v77.toNat XSort.z)).expr])), (IntKind.i64.wrap (v77 + 1))), h, g88, fr89, tle⟩
    ·refine AWp.exit ?_
     simp only [exq, seval]
     refine AWp.reg fun Z90 hZ90 => ?_
     obtain ⟨hn91, h⟩ := need_some h
     (try simp only [xs, xa, Nat.reduceAdd, seval, reduceCtorEq])
     first | refine ap4 hg76f hn91 fun g92 hg92 => ?_ | refine ap3 hg76f hn91 fun g92 hg92 => ?_ | refine ap2 hg76f hn91 fun g92 hg92 => ?_
     have fr93 : Fr s (List.map Prod.fst [(g92, (42, 10))]) := Fr.rep (a := []) (b := []) hg76f hg92
     (try simp only [xs, xa, Nat.reduceAdd, seval, reduceCtorEq])
     refine hZ90 _ ?_; clear hZ90 Z90
     refine hLO (Fr.repLe (a := []) (b := []) hg76f hg92) (s' := (owns s [(g92, (42, 10))])) ?_
     refine AWp.reg fun Z94 hZ94 => ?_
     obtain ⟨hn95, h⟩ := need_some h
     (try simp only [xs, xa, Nat.reduceAdd, seval, reduceCtorEq])
     first | refine ap4 fr93 hn95 fun g96 hg96 => ?_ | refine ap3 fr93 hn95 fun g96 hg96 => ?_ | refine ap2 fr93 hn95 fun g96 hg96 => ?_
     have fr97 : Fr s (List.map Prod.fst [(g96, (42, 10))]) := Fr.rep (a := []) (b := []) fr93 hg96
     (try simp only [xs, xa, Nat.reduceAdd, seval, reduceCtorEq])
     refine hZ94 _ ?_; clear hZ94 Z94
     refine hLO (Fr.repLe (a := []) (b := []) fr93 hg96) (s' := (owns s [(g96, (42, 10))])) ?_
     cases h; exact AWp.ret (rtqO (Fr.drop (l := [(g96, (42, 10))]) fr97) [.tmp 2])
def s72 (x0 : XSelect) : Option ((List XSelect)) := (loopC (fun (u8 : (List XSelect) × Int → Option ((List XSelect))) (q7 : (List XSelect) × Int) => (way ((decide (q7.2 < (((x0.with_.length : Nat) : Int))))) (need (0 ≤ q7.2 ∧ q7.2 < ((x0.with_.length : Nat) : Int)) (need ((q7.1.length + (((x0.with_.getD q7.2.toNat XCte.z)).body).length) * 120 ≤ 140737488355328) (u8 ((q7.1 ++ (((x0.with_.getD q7.2.toNat XCte.z)).body)), (IntKind.i64.wrap (q7.2 + 1)))))) (loopC (fun (u24 : (List XSelect) × Int → Option ((List XSelect))) (q23 : (List XSelect) × Int) => (way ((decide (q23.2 < (((x0.parts.length : Nat) : Int))))) (loopC (fun (u33 : (List XSelect) × Int → Option ((List XSelect))) (q32 : (List XSelect) × Int) => (need (0 ≤ q23.2 ∧ q23.2 < ((x0.parts.length : Nat) : Int)) (way ((decide (q32.2 < ((((((x0.parts.getD q23.2.toNat XPart.z)).from_).length : Nat) : Int))))) (need (0 ≤ q23.2 ∧ q23.2 < ((x0.parts.length : Nat) : Int)) (need (0 ≤ q32.2 ∧ q32.2 < (((((x0.parts.getD q23.2.toNat XPart.z)).from_).length : Nat) : Int)) (need ((q32.1.length + ((((((x0.parts.getD q23.2.toNat XPart.z)).from_).getD q32.2.toNat XSource.z)).sub).length) * 120 ≤ 140737488355328) (u33 ((q32.1 ++ ((((((x0.parts.getD q23.2.toNat XPart.z)).from_).getD q32.2.toNat XSource.z)).sub)), (IntKind.i64.wrap (q32.2 + 1))))))) (u24 (q32.1, (IntKind.i64.wrap (q23.2 + 1))))))) manyC (q23.1, 0)) (some q23.1))) manyC (q7.1, 0)))) manyC (([] : List XSelect), 0))
theorem c72 (x0 : XSelect) (r : (List XSelect)) (h : s72 x0 = some r) : Gives Tryz.prog 72 [.agg x0.v] (.slice 5 (List.map XSelect.v r)) := by
 intro s
 unfold s72 at h
 refine ac Tryz.func72 Tryz.ntmps72 ?_
 refine rg ?_
 refine rg ?_
 refine AWp.seq ?_
 refine rg ?_
 refine AWp.block ?_
 refine AWp.adoptE 3 (76, 5) (.inl (by rfl)) fun g2 hg2 => ?_
 change (s).own g2 = none at hg2
 have fr3 : Fr s (List.map Prod.fst [(g2, (76, 5))]) := Fr.snoc (l := []) (Fr.nil s) hg2
 refine AWp.loopS (X := (List XSelect) × Int) (G := Nat) h (fun gq9 => Fr s (List.map Prod.fst [(gq9, (76, 5))])) (fun q7 gq9 => tst [(1, .loc 1 0), (3, .own gq9 5 (List.map XSelect.v q7.1)), (4, vint q7.2)] [(1, (x0.v, 76))] (owns s [(gq9, (76, 5))]) 53) ?_ ?_
 ·exact ⟨g2, fr3, tle⟩
 ·rintro u8 ⟨v4, v6⟩ h g5 hg5f
  (try dsimp only at h ⊢)
  refine AWp.seq ?_
  refine rg ?_
  refine ws h (fun hc11 h => ?_) fun hc11 h => ?_
  ·refine AWp.skip ?_
   refine AWp.seq ?_
   refine AWp.block ?_
   refine AWp.reg1 fun Z13 hZ13 => ?_
   obtain ⟨hn15, h⟩ := need_some h
   obtain ⟨hn16, h⟩ := need_some h
   (try simp only [isT hn15.1, isT hn15.2, getD_enc XCte.v XCte.z hn15, xs, xa, Nat.reduceAdd, seval, reduceCtorEq])
   first | refine ap4 hg5f hn16 fun g17 hg17 => ?_ | refine ap3 hg5f hn16 fun g17 hg17 => ?_ | refine ap2 hg5f hn16 fun g17 hg17 => ?_
   have fr18 : Fr s (List.map Prod.fst [(g17, (76, 5))]) := Fr.rep (a := []) (b := []) hg5f hg17
   (try simp only [isT hn15.1, isT hn15.2, getD_enc XCte.v XCte.z hn15, xs, xa, Nat.reduceAdd, seval, reduceCtorEq])
   refine hZ13 _ ?_; clear hZ13 Z13
   refine hLO (Fr.repLe (a := []) (b := []) hg5f hg17) (s' := (owns s [(g17, (76, 5))])) ?_
   refine r1 ?_
   exact ⟨((v4 ++ (((x0.with_.getD v6.toNat XCte.z)).body)), (IntKind.i64.wrap (v6 + 1))), h, g17, fr18, tle⟩
  ·refine AWp.exit ?_
   simp only [exq, seval]
   refine AWp.seq ?_
   refine rg ?_
   refine AWp.block ?_
   refine AWp.loopS (X := (List XSelect) × Int) (G := Nat) h (fun gq25 => Fr s (List.map Prod.fst [(gq25, (76, 5))])) (fun q23 gq25 => tst [(1, .loc 1 0), (3, .own gq25 5 (List.map XSelect.v q23.1)), (5, vint q23.2)] [(1, (x0.v, 76))] (owns s [(gq25, (76, 5))]) 53) ?_ ?_
   ·exact ⟨g5, hg5f, tle⟩
   ·rintro u24 ⟨v20, v22⟩ h g21 hg21f
    (try dsimp only at h ⊢)
    refine AWp.seq ?_
    refine rg ?_
    refine ws h (fun hc27 h => ?_) fun hc27 h => ?_
    ·refine AWp.skip ?_
     refine AWp.seq ?_
     refine AWp.block ?_
     refine rg ?_
     refine AWp.block ?_
     refine AWp.loopS (X := (List XSelect) × Int) (G := Nat) h (fun gq34 => Fr s (List.map Prod.fst [(gq34, (76, 5))])) (fun q32 gq34 => tst [(1, .loc 1 0), (3, .own gq34 5 (List.map XSelect.v q32.1)), (5, vint v22), (6, vint q32.2)] [(1, (x0.v, 76))] (owns s [(gq34, (76, 5))]) 53) ?_ ?_
     ·exact ⟨g21, hg21f, tle⟩
     ·rintro u33 ⟨v29, v31⟩ h g30 hg30f
      (try dsimp only at h ⊢)
      refine AWp.seq ?_
      obtain ⟨hn37, h⟩ := need_some h
      refine rgF ((And.intro ((isT hn37.1)) <| And.intro ((isT hn37.2)) <| (getD_enc XPart.v XPart.z hn37))) ?_
      refine ws h (fun hc38 h => ?_) fun hc38 h => ?_
      ·refine AWp.skip ?_
       refine AWp.seq ?_
       refine AWp.block ?_
       refine AWp.reg1 fun Z40 hZ40 => ?_
       obtain ⟨hn42, h⟩ := need_some h
       obtain ⟨hn44, h⟩ := need_some h
       obtain ⟨hn45, h⟩ := need_some h
       (try simp only [isT hn42.1, isT hn42.2, getD_enc XPart.v XPart.z hn42, isT hn44.1, isT hn44.2, getD_enc XSource.v XSource.z hn44, xs, xa, Nat.reduceAdd, seval, reduceCtorEq])
       first | refine ap4 hg30f hn45 fun g46 hg46 => ?_ | refine ap3 hg30f hn45 fun g46 hg46 => ?_ | refine ap2 hg30f hn45 fun g46 hg46 => ?_
       have fr47 : Fr s (List.map Prod.fst [(g46, (76, 5))]) := Fr.rep (a := []) (b := []) hg30f hg46
       (try simp only [isT hn42.1, isT hn42.2, getD_enc XPart.v XPart.z hn42, isT hn44.1, isT hn44.2, getD_enc XSource.v XSource.z hn44, xs, xa, Nat.reduceAdd, seval, reduceCtorEq])
       refine hZ40 _ ?_; clear hZ40 Z40
       refine hLO (Fr.repLe (a := []) (b := []) hg30f hg46) (s' := (owns s [(g46, (76, 5))])) ?_
       refine r1 ?_
       exact ⟨((v29 ++ ((((((x0.parts.getD v22.toNat XPart.z)).from_).getD v31.toNat XSource.z)).sub)), (IntKind.i64.wrap (v31 + 1))), h, g46, fr47, tle⟩
      ·refine AWp.exit ?_
       simp only [exq, seval]
       refine r1 ?_
       exact ⟨(v29, (IntKind.i64.wrap (v22 + 1))), h, g30, hg30f, tle⟩
    ·refine AWp.exit ?_
     simp only [exq, seval]
     refine rg ?_
     cases h; exact AWp.ret (rtqO (Fr.drop (l := [(g21, (76, 5))]) hg21f) [.tmp 2])
structure F35_70 where
  p35 : (List XExpr) → (List XSelect) → Option (Int)
  p70 : XExpr → Option (Int)
structure F35_70.Ok (F : F35_70) : Prop where
  p35 : ∀ (x0 : (List XExpr)) (x1 : (List XSelect)) (r : Int), F.p35 x0 x1 = some r → Gives Tryz.prog 35 [.slice 10 (List.map XExpr.v x0), .slice 5 (List.map XSelect.v x1)] (vint r)
  p70 : ∀ (x0 : XExpr) (r : Int), F.p70 x0 = some r → Gives Tryz.prog 70 [.agg x0.v] (vint r)
end Go.Proofs.YtdgoilofkgdaoaaGreatDoor.Ex
