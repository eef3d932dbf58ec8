/- slices.Clone of an index' keys: the same keys. -/
import Derived.Test.YtdomhnkffghmlaaGreatDoorS6
import Derived.Test.YtdomhnkffghmlaaGreatDoorS10
import Derived.Test.YtdomhnkffghmlaaGreatDoorSXData
import Derived.Test.YtdomhnkffghmlaaGreatDoorSAmSeq
import Derived.Test.YtdomhnkffghmlaaGreatDoorS9
set_option linter.unusedVariables false
set_option linter.unusedSimpArgs false
set_option maxRecDepth 100000
set_option maxHeartbeats 4000000
set_option linter.defProp false
namespace Go.Proofs.YtdomhnkffghmlaaGreatDoor.Ex
open Go.Am Go.Ex Go.Proofs.YtdomhnkffghmlaaGreatDoor
theorem own_drop {s : Heap} {g : Nat} (hg : s.own g = none) (x : Option (TypeId × Nat)) : (s.setOwn g x).le s := (Heap.le.refl s).setOwn hg x
theorem delset_le {s : Heap} {b : Nat} (h : s.box b = none) (x : List V × TypeId) : ((s.setBox b x).delBox b).le s :=
 ⟨fun j => by
  by_cases e : j = b
  ·subst e; exact .inr h
  ·exact .inl (by simp only [Heap.delBox, Heap.setBox, upd_other _ _ _ _ e]), fun _ => .inl rfl⟩
theorem clone18 (s : Heap) (es : List (List V)) (hs : ∀ r ∈ es, r.length = 3) (hl : es.length ≤ 268435456) : ACalls Tryz.prog 18 [.slice 3 es] s fun v s' => v = .slice 3 es ∧ s' = s := by
 cases es with
 | nil =>
  refine ACalls.empty fun a cap => ?_
  cases a with
  | none =>
   refine acalls_of (fn := Tryz.f18) Tryz.func18 rfl (by decide) (by show 1 ≤ 8; decide) ?_
   rw [Tryz.ntmps18]
   refine AWp.reg fun R1 hR1 => ?_
   simp only [am, seval, reduceCtorEq]
   refine hR1 _ ?_; clear hR1 R1
   refine AWp.seq_k fun K2 hK2 => ?_
   refine AWp.reg fun R3 hR3 => ?_
   simp only [ty28, ty62, am, seval, reduceCtorEq]
   refine hR3 _ ?_; clear hR3 R3
   refine AWp.cond (t := true) (by simp only [am, seval, reduceCtorEq]) (fun _ => ?_) (fun h => by cases h)
   refine AWp.reg fun R4 hR4 => ?_
   simp only [am, seval, reduceCtorEq]
   refine hR4 _ ?_; clear hR4 R4
   refine AWp.ret ?_
   exact ret_intro (vs := [.nil]) rfl (Wk.nil 3) (Heap.le.refl _) ⟨rfl, rfl⟩
  | some ad =>
   refine acalls_of (fn := Tryz.f18) Tryz.func18 rfl (by decide) (by show 1 ≤ 8; decide) ?_
   rw [Tryz.ntmps18]
   refine AWp.reg fun R1 hR1 => ?_
   simp only [am, seval, reduceCtorEq]
   refine hR1 _ ?_; clear hR1 R1
   refine AWp.seq_k fun K2 hK2 => ?_
   refine AWp.reg fun R3 hR3 => ?_
   simp only [ty28, ty62, am, seval, reduceCtorEq]
   refine hR3 _ ?_; clear hR3 R3
   refine AWp.cond (t := false) (by simp only [am, seval, reduceCtorEq]) (fun h => by cases h) (fun _ => ?_)
   refine AWp.skip ?_
   refine hK2 _ ?_; clear hK2
   refine AWp.reg fun R4 hR4 => ?_
   simp only [ty28, ty62, am, seval, reduceCtorEq]
   intro g hg
   refine hR4 _ ?_; clear hR4 R4
   refine AWp.ret ?_
   exact ret_intro (vs := [.own g 3 []]) rfl (Wk.own _ _ _) (own_drop hg _) ⟨rfl, rfl⟩
 | cons r es =>
   refine acalls_of (fn := Tryz.f18) Tryz.func18 rfl (by decide) (by show 1 ≤ 8; decide) ?_
   rw [Tryz.ntmps18]
   refine AWp.reg fun R1 hR1 => ?_
   simp only [am, seval, reduceCtorEq]
   refine hR1 _ ?_; clear hR1 R1
   refine AWp.seq_k fun K2 hK2 => ?_
   refine AWp.reg fun R3 hR3 => ?_
   simp only [ty28, ty62, am, seval, reduceCtorEq]
   refine hR3 _ ?_; clear hR3 R3
   refine AWp.cond (t := false) (by simp only [am, seval, reduceCtorEq]) (fun h => by cases h) (fun _ => ?_)
   refine AWp.skip ?_
   refine hK2 _ ?_; clear hK2
   refine AWp.regX 2 rfl (by decide +kernel) fun R4 hR4 => ?_
   simp only [ty28, ty62, k12, k13, k14, am, seval, reduceCtorEq]
   refine ⟨by simp only [gdOf, am, seval, reduceCtorEq], _, append_box rfl ty28 rfl ty62 (by decide) (es := r :: es) (.inl (by simp only [am, seval, reduceCtorEq])) (by simp only [am, seval, reduceCtorEq]) (by simp) (by simp only [List.length_cons] at hl ⊢; omega) (by simp only [List.length_cons, maxLen] at hl ⊢; omega) (by simp only [am, seval, reduceCtorEq]), ?_⟩
   rintro _ ⟨b, cap, tl, h1, h2, h3, h4, h5, rfl⟩
   change s.box b = none at h1
   simp only [k15, k16, k17, am, seval, reduceCtorEq]
   refine hR4 _ ?_; clear hR4 R4
   refine AWp.freezeE 2 b (es := r :: es) (tl := tl) (upd_same _ _ _) rfl hs h2 h3 ?_
   refine AWp.ret ?_
   exact ret_intro (vs := [.slice 3 (r :: es)]) rfl (Wk.refl _) (delset_le h1 _) ⟨rfl, rfl⟩
def n18 (x : List XKey) : Option (List XKey) := need (x.length ≤ 268435456) (some x)
theorem N18 (x : List XKey) (r : List XKey) (h : n18 x = some r) : Gives Tryz.prog 18 [.slice 3 (List.map XKey.v x)] (.slice 3 (List.map XKey.v r)) := by
 obtain ⟨hn, h⟩ := need_some h
 cases h
 intro s
 exact clone18 s (x.map XKey.v) (fun r hr => by obtain ⟨y, _, rfl⟩ := List.mem_map.1 hr; exact y.v_len) (by simpa using hn)
end Go.Proofs.YtdomhnkffghmlaaGreatDoor.Ex
namespace Go.Proofs.YtdomhnkffghmlaaGreatDoor.Ex
open Go.Am Go.Ex Go.Proofs.YtdomhnkffghmlaaGreatDoor
def s10 (x0 : ByteArray) (x1 : Int) : Option (ByteArray) := (way ((x1 == 2)) (loopC (fun (u6 : ByteArray → Option (ByteArray)) (q5 : ByteArray) => (join (fun (u10 : Bool → Option (ByteArray)) => (way ((decide ((((q5.size : Nat) : Int)) > 0))) (need (0 ≤ ((IntKind.i64.wrap ((((q5.size : Nat) : Int)) - 1))) ∧ ((IntKind.i64.wrap ((((q5.size : Nat) : Int)) - 1))) < ((q5.size : Nat) : Int)) (u10 ((((q5.data.toList.getD ((IntKind.i64.wrap ((((q5.size : Nat) : Int)) - 1))).toNat 0).toNat : Int)) == 32))) (u10 false))) (fun (q9 : Bool) => (way q9 (need (0 ≤ (0 : Int) ∧ (0 : Int) ≤ ((IntKind.i64.wrap ((((q5.size : Nat) : Int)) - 1))) ∧ ((IntKind.i64.wrap ((((q5.size : Nat) : Int)) - 1))) ≤ ((q5.size : Nat) : Int)) (u6 (q5.extract 0 ((IntKind.i64.wrap ((((q5.size : Nat) : Int)) - 1))).toNat))) (some q5))))) manyC x0) (way ((x1 != 1)) (some x0) (loopC (fun (u24 : (List Int) × Int → Option (ByteArray)) (q23 : (List Int) × Int) => (way ((decide (q23.2 < (((x0.size : Nat) : Int))))) (need (0 ≤ q23.2 ∧ q23.2 < ((x0.size : Nat) : Int)) (join (fun (u33 : Int → Option (ByteArray)) => (join (fun (u38 : Bool → Option (ByteArray)) => (way ((decide ((((x0.data.toList.getD q23.2.toNat 0).toNat : Int)) ≥ 65))) (u38 (decide ((((x0.data.toList.getD q23.2.toNat 0).toNat : Int)) ≤ 90))) (u38 false))) (fun (q37 : Bool) => (way q37 (u33 (IntKind.u8.wrap (((IntKind.u8.wrap ((((x0.data.toList.getD q23.2.toNat 0).toNat : Int)) - 65))) + 97))) (u33 ((x0.data.toList.getD q23.2.toNat 0).toNat : Int)))))) (fun (q32 : Int) => (need ((q23.1.length + 1) * 1 ≤ 140737488355328) (u24 ((q23.1 ++ ([q32])), (IntKind.i64.wrap (q23.2 + 1)))))))) (need (bytesOk q23.1 = true) (some ((ByteArray.mk (toBytes q23.1).toArray)))))) manyC (([] : List Int), 0))))
theorem c10 (x0 : ByteArray) (x1 : Int) (r : ByteArray) (h : s10 x0 x1 = some r) : Gives Tryz.prog 10 [vstr x0, vint x1] (vstr r) := by
 intro s
 unfold s10 at h
 refine ac Tryz.func10 Tryz.ntmps10 ?_
 refine rg ?_
 refine AWp.seq ?_
 refine rg ?_
 refine ws h (fun hc2 h => ?_) fun hc2 h => ?_
 ·refine AWp.seq ?_
  refine AWp.block ?_
  refine lp h (fun q5 => tst [(0, vstr q5)] [] s 54) ?_ ?_
  ·exact tle
  ·rintro u6 v4 h
   refine AWp.seq ?_
   refine jn h (fun q9 => tst [(0, vstr v4), (20, vbool q9)] [] s 54) (fun u10 h => ?_) ?_
   ·refine wy h (fun hg11 h => ?_) fun hg11 h => ?_
    ·obtain ⟨hn12, h⟩ := need_some h
     refine r1F ((And.intro hg11 <| And.intro ((isT hn12.1)) <| (isT hn12.2))) ?_
     exact ⟨((((v4.data.toList.getD ((IntKind.i64.wrap ((((v4.size : Nat) : Int)) - 1))).toNat 0).toNat : Int)) == 32), h, tleF hg11⟩
    ·refine r1F hg11 ?_
     exact ⟨false, h, tleF hg11⟩
   ·rintro v8 h
    refine ws h (fun hc13 h => ?_) fun hc13 h => ?_
    ·refine AWp.skip ?_
     refine AWp.block ?_
     obtain ⟨hn14, h⟩ := need_some h
     refine r1F ((And.intro ((isT hn14.1)) <| And.intro ((isT hn14.2.1)) <| (isT hn14.2.2))) ?_
     exact ⟨(v4.extract 0 ((IntKind.i64.wrap ((((v4.size : Nat) : Int)) - 1))).toNat), h, tle⟩
    ·refine AWp.exit ?_
     simp only [exq, seval]
     refine rg ?_
     cases h; exact AWp.ret (rtq [.tmp 4])
 ·refine AWp.skip ?_
  refine AWp.seq ?_
  refine rg ?_
  refine ws h (fun hc16 h => ?_) fun hc16 h => ?_
  ·refine rg ?_
   cases h; exact AWp.ret (rtq [.tmp 4])
  ·refine AWp.skip ?_
   refine rg ?_
   refine AWp.seq ?_
   refine rg ?_
   refine AWp.block ?_
   refine AWp.adoptE 5 (5, 1) (.inl (by rfl)) fun g18 hg18 => ?_
   change (s).own g18 = none at hg18
   have fr19 : Fr s (List.map Prod.fst [(g18, (5, 1))]) := Fr.snoc (l := []) (Fr.nil s) hg18
   refine AWp.loopS (X := (List Int) × Int) (G := Nat) h (fun gq25 => Fr s (List.map Prod.fst [(gq25, (5, 1))])) (fun q23 gq25 => tst [(0, vstr x0), (5, .own gq25 1 (List.map (fun x => [V.base (.int .u8 x)]) q23.1)), (6, vint q23.2)] [] (owns s [(gq25, (5, 1))]) 54) ?_ ?_
   ·exact ⟨g18, fr19, tle⟩
   ·rintro u24 ⟨v20, v22⟩ h g21 hg21f
    (try dsimp only at h ⊢)
    refine AWp.seq ?_
    refine rg ?_
    refine ws h (fun hc27 h => ?_) fun hc27 h => ?_
    ·refine AWp.skip ?_
     refine AWp.seq ?_
     refine AWp.block ?_
     obtain ⟨hn29, h⟩ := need_some h
     refine rgF ((And.intro ((isT hn29.1)) <| (isT hn29.2))) ?_
     refine AWp.joinS (X := Int) (G := Nat) h (fun gq34 => Fr s (List.map Prod.fst [(gq34, (5, 1))])) (fun q32 gq34 => tst [(0, vstr x0), (5, .own gq34 1 (List.map (fun x => [V.base (.int .u8 x)]) v20)), (6, vint v22), (7, .base (.int .u8 q32))] [] (owns s [(gq34, (5, 1))]) 54) (fun u33 h => ?_) ?_
     ·refine AWp.joinS (X := Bool) (G := Nat) h (fun gq39 => Fr s (List.map Prod.fst [(gq39, (5, 1))])) (fun q37 gq39 => tst [(0, vstr x0), (5, .own gq39 1 (List.map (fun x => [V.base (.int .u8 x)]) v20)), (6, vint v22), (7, .base (.int .u8 (((x0.data.toList.getD v22.toNat 0).toNat : Int)))), (44, vbool q37)] [] (owns s [(gq39, (5, 1))]) 54) (fun u38 h => ?_) ?_
      ·refine wy h (fun hg40 h => ?_) fun hg40 h => ?_
       ·refine r1F hg40 ?_
        exact ⟨(decide ((((x0.data.toList.getD v22.toNat 0).toNat : Int)) ≤ 90)), h, g21, hg21f, tleF hg40⟩
       ·refine r1F hg40 ?_
        exact ⟨false, h, g21, hg21f, tleF hg40⟩
      ·rintro v35 h g36 hg36f
       refine ws h (fun hc41 h => ?_) fun hc41 h => ?_
       ·refine r1 ?_
        exact ⟨(IntKind.u8.wrap (((IntKind.u8.wrap ((((x0.data.toList.getD v22.toNat 0).toNat : Int)) - 65))) + 97)), h, g36, hg36f, tle⟩
       ·refine AWp.skip ?_
        exact ⟨((x0.data.toList.getD v22.toNat 0).toNat : Int), h, g36, hg36f, tle⟩
     ·rintro v30 h g31 hg31f
      refine AWp.reg1 fun Z42 hZ42 => ?_
      obtain ⟨hn43, h⟩ := need_some h
      (try simp only [xs, xa, Nat.reduceAdd, seval, reduceCtorEq])
      first | refine ap4 hg31f hn43 fun g44 hg44 => ?_ | refine ap3 hg31f hn43 fun g44 hg44 => ?_ | refine ap2 hg31f hn43 fun g44 hg44 => ?_
      have fr45 : Fr s (List.map Prod.fst [(g44, (5, 1))]) := Fr.rep (a := []) (b := []) hg31f hg44
      (try simp only [xs, xa, Nat.reduceAdd, seval, reduceCtorEq])
      refine hZ42 _ ?_; clear hZ42 Z42
      refine hLO (Fr.repLe (a := []) (b := []) hg31f hg44) (s' := (owns s [(g44, (5, 1))])) ?_
      refine r1 ?_
      exact ⟨((v20 ++ ([v30])), (IntKind.i64.wrap (v22 + 1))), h, g44, fr45, tle⟩
    ·refine AWp.exit ?_
     simp only [exq, seval]
     refine AWp.regX 1 rfl (by decide +kernel) fun Z46 hZ46 => ?_
     obtain ⟨hn47, h⟩ := need_some h
     (try simp only [k12, k13, k14, xs, xa, Nat.reduceAdd, seval, reduceCtorEq])
     refine ⟨by simp only [gdOf, am, seval, reduceCtorEq], _, conv_string (e := 5) (l := (toBytes v20)) rfl (by kernel_rfl) (by kernel_rfl) (by kernel_rfl) (by simp only [bytes_enc hn47, am, seval, reduceCtorEq]) (by simp only [am, seval, reduceCtorEq]), ?_⟩
     rintro _ rfl
     (try simp only [k15, k16, k17, xs, xa, Nat.reduceAdd, seval, reduceCtorEq])
     refine hZ46 _ ?_; clear hZ46 Z46
     cases h; exact AWp.ret (rtqO (Fr.drop (l := [(g21, (5, 1))]) hg21f) [.tmp 4])
def s56 (x0 : Int) : Option (Int) := (join (fun (u4 : Bool → Option (Int)) => (way ((decide (x0 ≥ 65))) (u4 (decide (x0 ≤ 90))) (u4 false))) (fun (q3 : Bool) => (way q3 (some ((IntKind.u8.wrap (x0 + 32)))) (some x0))))
theorem c56 (x0 : Int) (r : Int) (h : s56 x0 = some r) : Gives Tryz.prog 56 [.base (.int .u8 x0)] (.base (.int .u8 r)) := by
 intro s
 unfold s56 at h
 refine ac Tryz.func56 Tryz.ntmps56 ?_
 refine rg ?_
 refine AWp.seq ?_
 refine jn h (fun q3 => tst [(0, .base (.int .u8 x0)), (8, vbool q3)] [] s 12) (fun u4 h => ?_) ?_
 ·refine wy h (fun hg5 h => ?_) fun hg5 h => ?_
  ·refine r1F hg5 ?_
   exact ⟨(decide (x0 ≤ 90)), h, tleF hg5⟩
  ·refine r1F hg5 ?_
   exact ⟨false, h, tleF hg5⟩
 ·rintro v2 h
  refine ws h (fun hc6 h => ?_) fun hc6 h => ?_
  ·refine rg ?_
   cases h; exact AWp.ret (rtq [.tmp 2])
  ·refine AWp.skip ?_
   refine rg ?_
   cases h; exact AWp.ret (rtq [.tmp 2])
def s130 (x0 : Int) : Option (Bool) := (some ((x0 != x0)))
theorem c130 (x0 : Int) (r : Bool) (h : s130 x0 = some r) : Gives Tryz.prog 130 [.base (.int .u8 x0)] (vbool r) := by
 intro s
 unfold s130 at h
 refine ac Tryz.func130 Tryz.ntmps130 ?_
 refine rg ?_
 refine rg ?_
 cases h; exact AWp.ret (rtq [.tmp 2])
def s58 (x0 : Int) (x1 : Int) : Option (Int) := (call (s130 x0) fun y1 => (call (s130 x1) fun y2 => (way y1 (way y2 (some 0) (some (-1))) (way y2 (some 1) (way ((decide (x0 < x1))) (some (-1)) (way ((decide (x0 > x1))) (some 1) (some 0)))))))
theorem c58 (x0 : Int) (x1 : Int) (r : Int) (h : s58 x0 x1 = some r) : Gives Tryz.prog 58 [.base (.int .u8 x0), .base (.int .u8 x1)] (vint r) := by
 intro s
 unfold s58 at h
 refine ac Tryz.func58 Tryz.ntmps58 ?_
 refine rg ?_
 refine rgD (c130 x0) h fun y1 hy1 h => ?_
 refine rgD (c130 x1) h fun y2 hy2 h => ?_
 refine AWp.seq ?_
 refine rg ?_
 refine ws h (fun hc4 h => ?_) fun hc4 h => ?_
 ·refine AWp.seq ?_
  refine rg ?_
  refine ws h (fun hc6 h => ?_) fun hc6 h => ?_
  ·refine rg ?_
   cases h; exact AWp.ret (rtq [.tmp 4])
  ·refine AWp.skip ?_
   refine rg ?_
   cases h; exact AWp.ret (rtq [.tmp 4])
 ·refine AWp.skip ?_
  refine AWp.seq ?_
  refine rg ?_
  refine ws h (fun hc8 h => ?_) fun hc8 h => ?_
  ·refine rg ?_
   cases h; exact AWp.ret (rtq [.tmp 4])
  ·refine AWp.skip ?_
   refine AWp.seq ?_
   refine rg ?_
   refine ws h (fun hc10 h => ?_) fun hc10 h => ?_
   ·refine rg ?_
    cases h; exact AWp.ret (rtq [.tmp 4])
   ·refine AWp.skip ?_
    refine AWp.seq ?_
    refine rg ?_
    refine ws h (fun hc12 h => ?_) fun hc12 h => ?_
    ·refine rg ?_
     cases h; exact AWp.ret (rtq [.tmp 4])
    ·refine AWp.skip ?_
     refine rg ?_
     cases h; exact AWp.ret (rtq [.tmp 4])
def s131 (x0 : Int) : Option (Bool) := (some ((x0 != x0)))
theorem c131 (x0 : Int) (r : Bool) (h : s131 x0 = some r) : Gives Tryz.prog 131 [vint x0] (vbool r) := by
 intro s
 unfold s131 at h
 refine ac Tryz.func131 Tryz.ntmps131 ?_
 refine rg ?_
 refine rg ?_
 cases h; exact AWp.ret (rtq [.tmp 2])
def s59 (x0 : Int) (x1 : Int) : Option (Int) := (call (s131 x0) fun y1 => (call (s131 x1) fun y2 => (way y1 (way y2 (some 0) (some (-1))) (way y2 (some 1) (way ((decide (x0 < x1))) (some (-1)) (way ((decide (x0 > x1))) (some 1) (some 0)))))))
theorem c59 (x0 : Int) (x1 : Int) (r : Int) (h : s59 x0 x1 = some r) : Gives Tryz.prog 59 [vint x0, vint x1] (vint r) := by
 intro s
 unfold s59 at h
 refine ac Tryz.func59 Tryz.ntmps59 ?_
 refine rg ?_
 refine rgD (c131 x0) h fun y1 hy1 h => ?_
 refine rgD (c131 x1) h fun y2 hy2 h => ?_
 refine AWp.seq ?_
 refine rg ?_
 refine ws h (fun hc4 h => ?_) fun hc4 h => ?_
 ·refine AWp.seq ?_
  refine rg ?_
  refine ws h (fun hc6 h => ?_) fun hc6 h => ?_
  ·refine rg ?_
   cases h; exact AWp.ret (rtq [.tmp 4])
  ·refine AWp.skip ?_
   refine rg ?_
   cases h; exact AWp.ret (rtq [.tmp 4])
 ·refine AWp.skip ?_
  refine AWp.seq ?_
  refine rg ?_
  refine ws h (fun hc8 h => ?_) fun hc8 h => ?_
  ·refine rg ?_
   cases h; exact AWp.ret (rtq [.tmp 4])
  ·refine AWp.skip ?_
   refine AWp.seq ?_
   refine rg ?_
   refine ws h (fun hc10 h => ?_) fun hc10 h => ?_
   ·refine rg ?_
    cases h; exact AWp.ret (rtq [.tmp 4])
   ·refine AWp.skip ?_
    refine AWp.seq ?_
    refine rg ?_
    refine ws h (fun hc12 h => ?_) fun hc12 h => ?_
    ·refine rg ?_
     cases h; exact AWp.ret (rtq [.tmp 4])
    ·refine AWp.skip ?_
     refine rg ?_
     cases h; exact AWp.ret (rtq [.tmp 4])
def s28_1 (x0 : ByteArray) (x1 : ByteArray) : Option (Int) := (join (fun (u4 : ByteArray × ByteArray → Option (Int)) => (u4 (x0, x1))) (fun (q3 : ByteArray × ByteArray) => (loopC (fun (u9 : Int → Option (Int)) (q8 : Int) => (way ((decide (q8 < ((mnI (((q3.1.size : Nat) : Int)) (((q3.2.size : Nat) : Int))))))) (need (0 ≤ q8 ∧ q8 < ((q3.1.size : Nat) : Int)) (need (0 ≤ q8 ∧ q8 < ((q3.2.size : Nat) : Int)) (call (s56 (((q3.1.data.toList.getD q8.toNat 0).toNat : Int))) fun y15 => (call (s56 (((q3.2.data.toList.getD q8.toNat 0).toNat : Int))) fun y16 => (call (s58 y15 y16) fun y17 => (way ((y17 != 0)) (some y17) (u9 (IntKind.i64.wrap (q8 + 1))))))))) (call (s59 (((q3.1.size : Nat) : Int)) (((q3.2.size : Nat) : Int))) fun y19 => (some y19)))) manyC 0)))
theorem c28_1 (x0 : ByteArray) (x1 : ByteArray) (r : Int) (h : s28_1 x0 x1 = some r) : Gives Tryz.prog 28 [vstr x0, vstr x1, vint 1] (vint r) := by
 intro s
 unfold s28_1 at h
 refine ac Tryz.func28 Tryz.ntmps28 ?_
 refine rg ?_
 refine rg ?_
 refine jn h (fun q3 => tst [(0, vstr q3.1), (1, vstr q3.2), (7, .func 56 [] [])] [] s 47) (fun u4 h => ?_) ?_
 ·refine rg ?_
  refine AWp.block ?_
  have hd5 : ((1 : Int) == 1) = true := by decide
  refine rgF hd5 ?_
  refine AWp.cond (t := true) (by rfl) (fun _ => ?_) (fun hf => by cases hf)
  refine r1 ?_
  exact ⟨(x0, x1), h, tle⟩
 ·rintro ⟨v1, v2⟩ h
  (try dsimp only at h ⊢)
  refine AWp.seq ?_
  refine rg ?_
  refine AWp.block ?_
  refine lp h (fun q8 => tst [(0, vstr v1), (1, vstr v2), (7, .func 56 [] []), (23, vint ((mnI (((v1.size : Nat) : Int)) (((v2.size : Nat) : Int))))), (24, vint q8)] [] s 47) ?_ ?_
  ·exact tle
  ·rintro u9 v7 h
   refine rg ?_
   refine AWp.seq ?_
   refine ws h (fun hc11 h => ?_) fun hc11 h => ?_
   ·refine AWp.skip ?_
    refine AWp.seq ?_
    refine AWp.block ?_
    refine rg ?_
    obtain ⟨hn13, h⟩ := need_some h
    obtain ⟨hn14, h⟩ := need_some h
    obtain ⟨y15, hy15, h⟩ := call_some h
    obtain ⟨y16, hy16, h⟩ := call_some h
    refine rgLFCCD [0, 1, 2, 3, 5, 6, 7, 8, 4, 9, 10, 11] [] ((And.intro ((isT hn13.1)) <| And.intro ((isT hn13.2)) <| And.intro ((isT hn14.1)) <| (isT hn14.2))) (c56 (((v1.data.toList.getD v7.toNat 0).toNat : Int)) _ hy15) (c56 (((v2.data.toList.getD v7.toNat 0).toNat : Int)) _ hy16) (c58 y15 y16) h fun y17 hy17 h => ?_
    refine rg ?_
    refine ws h (fun hc18 h => ?_) fun hc18 h => ?_
    ·refine rg ?_
     cases h; exact AWp.ret (rtq [.tmp 6])
    ·refine AWp.skip ?_
     refine r1 ?_
     exact ⟨(IntKind.i64.wrap (v7 + 1)), h, tle⟩
   ·refine AWp.exit ?_
    simp only [exq, seval]
    refine rgD (c59 (((v1.size : Nat) : Int)) (((v2.size : Nat) : Int))) h fun y19 hy19 h => ?_
    cases h; exact AWp.ret (rtq [.tmp 6])
def s19_1 (x0 : ByteArray) (x1 : ByteArray) : Option (Bool) := (call (s28_1 x0 x1) fun y1 => (some ((y1 == 0))))
theorem c19_1 (x0 : ByteArray) (x1 : ByteArray) (r : Bool) (h : s19_1 x0 x1 = some r) : Gives Tryz.prog 19 [vstr x0, vstr x1, vint 1] (vbool r) := by
 intro s
 unfold s19_1 at h
 refine ac Tryz.func19 Tryz.ntmps19 ?_
 refine rg ?_
 refine rgD (c28_1 x0 x1) h fun y1 hy1 h => ?_
 cases h; exact AWp.ret (rtq [.tmp 6])
def s13 (x0 : ByteArray) (x1 : ByteArray) : Option (Bool) := (call (s19_1 x0 x1) fun y1 => (some y1))
theorem c13 (x0 : ByteArray) (x1 : ByteArray) (r : Bool) (h : s13 x0 x1 = some r) : Gives Tryz.prog 13 [vstr x0, vstr x1] (vbool r) := by
 intro s
 unfold s13 at h
 refine ac Tryz.func13 Tryz.ntmps13 ?_
 refine rg ?_
 refine rgD (c19_1 x0 x1) h fun y1 hy1 h => ?_
 cases h; exact AWp.ret (rtq [.tmp 4])
def s12_1 (x0 : XColDef) (x1 : ByteArray) : Option (Bool) := (call (s13 x0.name x1) fun y1 => (some y1))
theorem c12_1 (x0 : XColDef) (x1 : ByteArray) (r : Bool) (h : s12_1 x0 x1 = some r) : Gives Tryz.prog 12 [.agg x0.v, .elt [vstr x1] 0] (vbool r) := by
 intro s
 unfold s12_1 at h
 refine ac Tryz.func12 Tryz.ntmps12 ?_
 refine rg ?_
 refine rgD (c13 x0.name x1) h fun y1 hy1 h => ?_
 cases h; exact AWp.ret (rtq [.tmp 3])
def s11_1 (x0 : (List XColDef)) (x1_0 : ByteArray) : Option (Int) := (loopC (fun (u4 : Int → Option (Int)) (q3 : Int) => (way ((decide (q3 < (((x0.length : Nat) : Int))))) (need (0 ≤ q3 ∧ q3 < ((x0.length : Nat) : Int)) (call (s12_1 ((x0.getD q3.toNat XColDef.z)) x1_0) fun y10 => (way y10 (some q3) (u4 (IntKind.i64.wrap (q3 + 1)))))) (some (-1)))) manyC 0)
theorem c11_1 (x0 : (List XColDef)) (x1_0 : ByteArray) (r : Int) (h : s11_1 x0 x1_0 = some r) : Gives Tryz.prog 11 [.slice 8 (List.map XColDef.v x0), .func 12 [] [.elt [vstr x1_0] 0]] (vint r) := by
 intro s
 unfold s11_1 at h
 refine ac Tryz.func11 Tryz.ntmps11 ?_
 refine rg ?_
 refine AWp.seq ?_
 refine rg ?_
 refine AWp.block ?_
 refine lp h (fun q3 => tst [(0, .slice 8 (List.map XColDef.v x0)), (1, .func 12 [] [.elt [vstr x1_0] 0]), (7, vint (((x0.length : Nat) : Int))), (8, vint q3)] [] s 19) ?_ ?_
 ·exact tle
 ·rintro u4 v2 h
  refine rg ?_
  refine AWp.seq ?_
  refine ws h (fun hc6 h => ?_) fun hc6 h => ?_
  ·refine AWp.skip ?_
   refine AWp.seq ?_
   refine AWp.block ?_
   refine rg ?_
   obtain ⟨hn9, h⟩ := need_some h
   refine rgFD ((And.intro ((isT hn9.1)) <| And.intro ((isT hn9.2)) <| (getD_enc XColDef.v XColDef.z hn9))) (c12_1 ((x0.getD v2.toNat XColDef.z)) x1_0) h fun y10 hy10 h => ?_
   refine ws h (fun hc11 h => ?_) fun hc11 h => ?_
   ·refine rg ?_
    cases h; exact AWp.ret (rtq [.tmp 4])
   ·refine AWp.skip ?_
    refine r1 ?_
    exact ⟨(IntKind.i64.wrap (v2 + 1)), h, tle⟩
  ·refine AWp.exit ?_
   simp only [exq, seval]
   refine rg ?_
   cases h; exact AWp.ret (rtq [.tmp 4])
def s4 (x0 : ByteArray) (x1 : ByteArray) : Option (Bool) := (call (s10 x0 1) fun y1 => (call (s10 x1 1) fun y2 => (some ((y1.data.toList == y2.data.toList)))))
theorem c4 (x0 : ByteArray) (x1 : ByteArray) (r : Bool) (h : s4 x0 x1 = some r) : Gives Tryz.prog 4 [vstr x0, vstr x1] (vbool r) := by
 intro s
 unfold s4 at h
 refine ac Tryz.func4 Tryz.ntmps4 ?_
 refine rg ?_
 obtain ⟨y1, hy1, h⟩ := call_some h
 refine rgCD (c10 x0 1 _ hy1) (c10 x1 1) h fun y2 hy2 h => ?_
 cases h; exact AWp.ret (rtq [.tmp 4])
def s5 (x0 : XTable) (x1 : ByteArray) : Option (Int) := (call (s11_1 x0.cols x1) fun y1 => (some y1))
theorem c5 (x0 : XTable) (x1 : ByteArray) (r : Int) (h : s5 x0 x1 = some r) : Gives Tryz.prog 5 [.agg x0.v, vstr x1] (vint r) := by
 intro s
 unfold s5 at h
 refine ac Tryz.func5 Tryz.ntmps5 ?_
 refine rg ?_
 refine AWp.frz 3 (cs := [vstr x1]) (ty := 9) (by first | rfl | simp only [am, seval, reduceCtorEq]) ?_
 refine AWp.weaken (st' := tst [(0, .agg x0.v), (1, vstr x1), (2, .loc 2 0), (3, .elt [vstr x1] 0), (4, vint 0)] [(2, (x0.v, 34))] s 9) ?_ ?_
 ·refine le_tst ?_ ?_ ?_ (Heap.le.refl _) rfl
  · simp only [leE, St.frz, frzV, XTable.vs, am, seval, reduceCtorEq] <;> simp
  · simp only [okL, keyIn, Nat.reduceBEq, Bool.or_true, Bool.true_or, Bool.or_false, and_self]
  · simp only [leB, St.frz, frzV, XTable.vs, am, seval, reduceCtorEq] <;> (repeat' apply And.intro) <;> first | rfl | (simp only [XTable.v_eq]; rfl) | simp [XTable.v_eq]
 refine rgD (c11_1 x0.cols x1) h fun y1 hy1 h => ?_
 cases h; exact AWp.ret (rtq [.tmp 4])
def s6 (x0 : XTable) (x1 : ByteArray) : Option (Int) := (loopC (fun (u4 : Int → Option (Int)) (q3 : Int) => (way ((decide (q3 < (((x0.cols.length : Nat) : Int))))) (need (0 ≤ q3 ∧ q3 < ((x0.cols.length : Nat) : Int)) (call (s4 (((x0.cols.getD q3.toNat XColDef.z)).name) x1) fun y10 => (way y10 (some q3) (u4 (IntKind.i64.wrap (q3 + 1)))))) (some (-1)))) manyC 0)
theorem c6 (x0 : XTable) (x1 : ByteArray) (r : Int) (h : s6 x0 x1 = some r) : Gives Tryz.prog 6 [.agg x0.v, vstr x1] (vint r) := by
 intro s
 unfold s6 at h
 refine ac Tryz.func6 Tryz.ntmps6 ?_
 refine rg ?_
 refine AWp.seq ?_
 refine rg ?_
 refine AWp.block ?_
 refine lp h (fun q3 => tst [(1, vstr x1), (2, .loc 2 0), (5, vint q3)] [(2, (x0.v, 34))] s 22) ?_ ?_
 ·exact tle
 ·rintro u4 v2 h
  refine AWp.seq ?_
  refine rg ?_
  refine ws h (fun hc6 h => ?_) fun hc6 h => ?_
  ·refine AWp.skip ?_
   refine AWp.seq ?_
   refine AWp.block ?_
   obtain ⟨hn9, h⟩ := need_some h
   refine rgFD ((And.intro ((isT hn9.1)) <| And.intro ((isT hn9.2)) <| (getD_enc XColDef.v XColDef.z hn9))) (c4 (((x0.cols.getD v2.toNat XColDef.z)).name) x1) h fun y10 hy10 h => ?_
   refine ws h (fun hc11 h => ?_) fun hc11 h => ?_
   ·refine rg ?_
    cases h; exact AWp.ret (rtq [.tmp 4])
   ·refine AWp.skip ?_
    refine r1 ?_
    exact ⟨(IntKind.i64.wrap (v2 + 1)), h, tle⟩
  ·refine AWp.exit ?_
   simp only [exq, seval]
   refine rg ?_
   cases h; exact AWp.ret (rtq [.tmp 4])
def s8 (x0 : (List XIndex)) (x1 : (List XIndex)) : Option (Bool) := (way (((((x0.length : Nat) : Int)) != (((x1.length : Nat) : Int)))) (some false) (loopC (fun (u6 : Int → Option (Bool)) (q5 : Int) => (way ((decide (q5 < (((x0.length : Nat) : Int))))) (need (0 ≤ q5 ∧ q5 < ((x0.length : Nat) : Int)) (need (0 ≤ q5 ∧ q5 < ((x1.length : Nat) : Int)) (join (fun (u17 : Bool → Option (Bool)) => (way ((!((((x0.getD q5.toNat XIndex.z)).name).data.toList == (((x1.getD q5.toNat XIndex.z)).name).data.toList))) (u17 true) (way ((!((((x0.getD q5.toNat XIndex.z)).table).data.toList == (((x1.getD q5.toNat XIndex.z)).table).data.toList))) (u17 true) (way ((!((((x0.getD q5.toNat XIndex.z)).unique) == (((x1.getD q5.toNat XIndex.z)).unique)))) (u17 true) (way ((!((((x0.getD q5.toNat XIndex.z)).auto) == (((x1.getD q5.toNat XIndex.z)).auto)))) (u17 true) (u17 (((((((x0.getD q5.toNat XIndex.z)).keys).length : Nat) : Int)) != ((((((x1.getD q5.toNat XIndex.z)).keys).length : Nat) : Int))))))))) (fun (q16 : Bool) => (way q16 (some false) (loopC (fun (u25 : Int → Option (Bool)) (q24 : Int) => (way ((decide (q24 < ((((((x0.getD q5.toNat XIndex.z)).keys).length : Nat) : Int))))) (need (0 ≤ q24 ∧ q24 < (((((x0.getD q5.toNat XIndex.z)).keys).length : Nat) : Int)) (need (0 ≤ q24 ∧ q24 < (((((x1.getD q5.toNat XIndex.z)).keys).length : Nat) : Int)) (way ((!(((((((((x0.getD q5.toNat XIndex.z)).keys).getD q24.toNat XKey.z)).col) == ((((((x1.getD q5.toNat XIndex.z)).keys).getD q24.toNat XKey.z)).col)) && ((((((((x0.getD q5.toNat XIndex.z)).keys).getD q24.toNat XKey.z)).coll) == ((((((x1.getD q5.toNat XIndex.z)).keys).getD q24.toNat XKey.z)).coll)) && (((((((x0.getD q5.toNat XIndex.z)).keys).getD q24.toNat XKey.z)).desc_) == ((((((x1.getD q5.toNat XIndex.z)).keys).getD q24.toNat XKey.z)).desc_))))))) (some false) (u25 (IntKind.i64.wrap (q24 + 1)))))) (u6 (IntKind.i64.wrap (q5 + 1))))) manyC 0)))))) (some true))) manyC 0))
theorem c8 (x0 : (List XIndex)) (x1 : (List XIndex)) (r : Bool) (h : s8 x0 x1 = some r) : Gives Tryz.prog 8 [.slice 5 (List.map XIndex.v x0), .slice 5 (List.map XIndex.v x1)] (vbool r) := by
 intro s
 unfold s8 at h
 refine ac Tryz.func8 Tryz.ntmps8 ?_
 refine rg ?_
 refine AWp.seq ?_
 refine rg ?_
 refine ws h (fun hc2 h => ?_) fun hc2 h => ?_
 ·refine rg ?_
  cases h; exact AWp.ret (rtq [.tmp 4])
 ·refine AWp.skip ?_
  refine AWp.seq ?_
  refine rg ?_
  refine AWp.block ?_
  refine lp h (fun q5 => tst [(0, .slice 5 (List.map XIndex.v x0)), (1, .slice 5 (List.map XIndex.v x1)), (5, vint q5)] [] s 81) ?_ ?_
  ·exact tle
  ·rintro u6 v4 h
   refine AWp.seq ?_
   refine rg ?_
   refine ws h (fun hc8 h => ?_) fun hc8 h => ?_
   ·refine AWp.skip ?_
    refine AWp.seq ?_
    refine AWp.block ?_
    obtain ⟨hn11, h⟩ := need_some h
    obtain ⟨hn13, h⟩ := need_some h
    refine rgLF [0, 1, 2, 3, 4, 5, 6, 7, 8, 9, 10, 11] [6, 7, 100027] ((And.intro ((isT hn11.1)) <| And.intro ((isT hn11.2)) <| And.intro ((getD_enc XIndex.v XIndex.z hn11)) <| And.intro ((isT hn13.1)) <| And.intro ((isT hn13.2)) <| (getD_enc XIndex.v XIndex.z hn13))) ?_
    refine AWp.seq ?_
    refine jn h (fun q16 => tst [(0, .slice 5 (List.map XIndex.v x0)), (1, .slice 5 (List.map XIndex.v x1)), (5, vint v4), (6, .loc 6 0), (7, .loc 7 0), (62, vbool q16)] [(6, (((x0.getD v4.toNat XIndex.z)).v, 30)), (7, (((x1.getD v4.toNat XIndex.z)).v, 30))] s 81) (fun u17 h => ?_) ?_
    ·refine wy h (fun hg18 h => ?_) fun hg18 h => ?_
     ·refine r1F hg18 ?_
      exact ⟨true, h, tleF hg18⟩
     ·refine wy h (fun hg19 h => ?_) fun hg19 h => ?_
      ·refine r1F ((And.intro hg18 <| hg19)) ?_
       exact ⟨true, h, tleF ((And.intro hg18 <| hg19))⟩
      ·refine wy h (fun hg20 h => ?_) fun hg20 h => ?_
       ·refine r1F ((And.intro hg18 <| And.intro hg19 <| hg20)) ?_
        exact ⟨true, h, tleF ((And.intro hg18 <| And.intro hg19 <| hg20))⟩
       ·refine wy h (fun hg21 h => ?_) fun hg21 h => ?_
        ·refine r1F ((And.intro hg18 <| And.intro hg19 <| And.intro hg20 <| hg21)) ?_
         exact ⟨true, h, tleF ((And.intro hg18 <| And.intro hg19 <| And.intro hg20 <| hg21))⟩
        ·refine r1F ((And.intro hg18 <| And.intro hg19 <| And.intro hg20 <| hg21)) ?_
         exact ⟨(((((((x0.getD v4.toNat XIndex.z)).keys).length : Nat) : Int)) != ((((((x1.getD v4.toNat XIndex.z)).keys).length : Nat) : Int))), h, tleF ((And.intro hg18 <| And.intro hg19 <| And.intro hg20 <| hg21))⟩
    ·rintro v15 h
     refine ws h (fun hc22 h => ?_) fun hc22 h => ?_
     ·refine rg ?_
      cases h; exact AWp.ret (rtq [.tmp 4])
     ·refine AWp.skip ?_
      refine rg ?_
      refine AWp.block ?_
      refine lp h (fun q24 => tst [(0, .slice 5 (List.map XIndex.v x0)), (1, .slice 5 (List.map XIndex.v x1)), (5, vint v4), (6, .loc 6 0), (7, .loc 7 0), (8, vint q24)] [(6, (((x0.getD v4.toNat XIndex.z)).v, 30)), (7, (((x1.getD v4.toNat XIndex.z)).v, 30))] s 81) ?_ ?_
      ·exact tle
      ·rintro u25 v23 h
       refine AWp.seq ?_
       refine rg ?_
       refine ws h (fun hc27 h => ?_) fun hc27 h => ?_
       ·refine AWp.skip ?_
        refine AWp.seq ?_
        refine AWp.block ?_
        obtain ⟨hn30, h⟩ := need_some h
        obtain ⟨hn32, h⟩ := need_some h
        refine rgLF [0, 1, 2, 3, 4, 5, 6, 7, 8, 9, 10] [] ((And.intro ((@XKey.v_eq)) <| And.intro ((isT hn30.1)) <| And.intro ((isT hn30.2)) <| And.intro ((getD_enc XKey.v XKey.z hn30)) <| And.intro ((isT hn32.1)) <| And.intro ((isT hn32.2)) <| And.intro ((getD_enc XKey.v XKey.z hn32)) <| And.intro teq62 <| XKey.v_eq)) ?_
        refine ws h (fun hc33 h => ?_) fun hc33 h => ?_
        ·refine rgF ((@XKey.v_eq)) ?_
         cases h; exact AWp.ret (rtqF (@XKey.v_eq) [.tmp 4])
        ·refine AWp.skip ?_
         refine r1F ((@XKey.v_eq)) ?_
         exact ⟨(IntKind.i64.wrap (v23 + 1)), h, tleF (@XKey.v_eq)⟩
       ·refine AWp.exit ?_
        simp only [exq, seval]
        refine r1F ((@XKey.v_eq)) ?_
        exact ⟨(IntKind.i64.wrap (v4 + 1)), h, tleF (@XKey.v_eq)⟩
   ·refine AWp.exit ?_
    simp only [exq, seval]
    refine rgF ((@XKey.v_eq)) ?_
    cases h; exact AWp.ret (rtqF (@XKey.v_eq) [.tmp 4])
def s9 (x0 : XSchema) (x1 : ByteArray) : Option ((List XIndex)) := (loopC (fun (u8 : (List XIndex) × Int → Option ((List XIndex))) (q7 : (List XIndex) × Int) => (way ((decide (q7.2 < (((x0.indexes.length : Nat) : Int))))) (join (fun (u15 : (List XIndex) → Option ((List XIndex))) => (need (0 ≤ q7.2 ∧ q7.2 < ((x0.indexes.length : Nat) : Int)) (call (s13 (((x0.indexes.getD q7.2.toNat XIndex.z)).table) x1) fun y19 => (way y19 (call (n18 (((x0.indexes.getD q7.2.toNat XIndex.z)).keys)) fun y21 => (need ((q7.1.length + 1) * 64 ≤ 140737488355328) (u15 (q7.1 ++ ([(XIndex.mk (((x0.indexes.getD q7.2.toNat XIndex.z)).name) (((x0.indexes.getD q7.2.toNat XIndex.z)).table) y21 (((x0.indexes.getD q7.2.toNat XIndex.z)).unique) (((x0.indexes.getD q7.2.toNat XIndex.z)).auto))]))))) (u15 q7.1))))) (fun (q14 : (List XIndex)) => (u8 (q14, (IntKind.i64.wrap (q7.2 + 1)))))) (some q7.1))) manyC (([] : List XIndex), 0))
theorem c9 (x0 : XSchema) (x1 : ByteArray) (r : (List XIndex)) (h : s9 x0 x1 = some r) : Gives Tryz.prog 9 [.agg x0.v, vstr x1] (.slice 5 (List.map XIndex.v r)) := by
 intro s
 unfold s9 at h
 refine ac Tryz.func9 Tryz.ntmps9 ?_
 refine rg ?_
 refine rg ?_
 refine AWp.seq ?_
 refine rgF ((@XIndex.v_eq)) ?_
 refine AWp.block ?_
 refine AWp.adoptE 5 (30, 5) (.inl (by rfl)) fun g2 hg2 => ?_
 change (s).own g2 = none at hg2
 have fr3 : Fr s (List.map Prod.fst [(g2, (30, 5))]) := Fr.snoc (l := []) (Fr.nil s) hg2
 refine AWp.loopS (X := (List XIndex) × Int) (G := Nat) h (fun gq9 => Fr s (List.map Prod.fst [(gq9, (30, 5))])) (fun q7 gq9 => tst [(1, vstr x1), (5, .own gq9 5 (List.map XIndex.v q7.1)), (9, .slice 5 (List.map XIndex.v x0.indexes)), (10, vint (((x0.indexes.length : Nat) : Int))), (11, vint q7.2)] [] (owns s [(gq9, (30, 5))]) 29) ?_ ?_
 ·exact ⟨g2, fr3, tleF (@XIndex.v_eq)⟩
 ·rintro u8 ⟨v4, v6⟩ h g5 hg5f
  (try dsimp only at h ⊢)
  refine rgF ((@XIndex.v_eq)) ?_
  refine AWp.seq ?_
  refine ws h (fun hc11 h => ?_) fun hc11 h => ?_
  ·refine AWp.skip ?_
   refine AWp.joinS (X := (List XIndex)) (G := Nat) h (fun gq16 => Fr s (List.map Prod.fst [(gq16, (30, 5))])) (fun q14 gq16 => tst [(1, vstr x1), (5, .own gq16 5 (List.map XIndex.v q14)), (9, .slice 5 (List.map XIndex.v x0.indexes)), (10, vint (((x0.indexes.length : Nat) : Int))), (11, vint v6)] [] (owns s [(gq16, (30, 5))]) 29) (fun u15 h => ?_) ?_
   ·refine AWp.block ?_
    obtain ⟨hn18, h⟩ := need_some h
    refine rgF ((And.intro ((@XIndex.v_eq)) <| And.intro ((isT hn18.1)) <| And.intro ((isT hn18.2)) <| (getD_enc XIndex.v XIndex.z hn18))) ?_
    refine rgFD ((@XIndex.v_eq)) (c13 (((x0.indexes.getD v6.toNat XIndex.z)).table) x1) h fun y19 hy19 h => ?_
    refine ws h (fun hc20 h => ?_) fun hc20 h => ?_
    ·refine rgFD ((@XIndex.v_eq)) (N18 (((x0.indexes.getD v6.toNat XIndex.z)).keys)) h fun y21 hy21 h => ?_
     refine AWp.reg1 fun Z22 hZ22 => ?_
     obtain ⟨hn23, h⟩ := need_some h
     (try simp only [XIndex.v_eq, xs, xa, Nat.reduceAdd, seval, reduceCtorEq])
     first | refine ap4 hg5f hn23 fun g24 hg24 => ?_ | refine ap3 hg5f hn23 fun g24 hg24 => ?_ | refine ap2 hg5f hn23 fun g24 hg24 => ?_
     have fr25 : Fr s (List.map Prod.fst [(g24, (30, 5))]) := Fr.rep (a := []) (b := []) hg5f hg24
     (try simp only [XIndex.v_eq, xs, xa, Nat.reduceAdd, seval, reduceCtorEq])
     refine hZ22 _ ?_; clear hZ22 Z22
     refine ⟨(v4 ++ ([(XIndex.mk (((x0.indexes.getD v6.toNat XIndex.z)).name) (((x0.indexes.getD v6.toNat XIndex.z)).table) y21 (((x0.indexes.getD v6.toNat XIndex.z)).unique) (((x0.indexes.getD v6.toNat XIndex.z)).auto))])), h, g24, fr25, ?_⟩
     refine St.to.heapLe (s' := (owns s [(g24, (30, 5))])) (Fr.repLe (a := []) (b := []) hg5f hg24) ?_
     exact tleF (@XIndex.v_eq)
    ·refine AWp.skip ?_
     exact ⟨v4, h, g5, hg5f, tleF (@XIndex.v_eq)⟩
   ·rintro v12 h g13 hg13f
    refine r1F ((@XIndex.v_eq)) ?_
    exact ⟨(v12, (IntKind.i64.wrap (v6 + 1))), h, g13, hg13f, tleF (@XIndex.v_eq)⟩
  ·refine AWp.exit ?_
   simp only [exq, seval]
   refine rgF ((@XIndex.v_eq)) ?_
   cases h; exact AWp.ret (rtqFO (@XIndex.v_eq) (Fr.drop (l := [(g5, (30, 5))]) hg5f) [.tmp 4])
end Go.Proofs.YtdomhnkffghmlaaGreatDoor.Ex
namespace Go.Proofs.YtdomhnkffghmlaaGreatDoor.Ex
open Go.Am Go.Ex Go.Proofs.YtdomhnkffghmlaaGreatDoor
/-- A loop over places: each round ends it, or goes on. -/
theorem loop_ind {α : Type} {n : Nat} (hn : n ≤ 4611686018427387000) {b : (Int → Option α) → Int → Option α} (Q : Option α → Prop) (I : Nat → Prop)
  (hb : ∀ k (i : Nat), i < n → I i → Q (b k (i : Int)) ∨ (b k (i : Int) = k ((i + 1 : Nat) : Int) ∧ I (i + 1))) (he : ∀ k, I n → Q (b k (n : Int))) (h0 : I 0) : Q (loopC b manyC 0) := by
 have key : ∀ d i m : Nat, i + d = n → d < m → I i → Q (loopC b m (i : Int)) := by
  intro d
  induction d with
  | zero =>
   intro i m hi hm hI
   obtain rfl : i = n := by omega
   cases m with
   | zero => omega
   | succ m => rw [loopC_succ]; exact he _ hI
  | succ d ih =>
   intro i m hi hm hI
   cases m with
   | zero => omega
   | succ m =>
    rw [loopC_succ]
    rcases hb (loopC b m) i (by omega) hI with h | ⟨h, h'⟩
    ·exact h
    ·rw [h]; exact ih (i + 1) m (by omega) (by omega) h'
 exact key n 0 manyC (by omega) (by unfold manyC; omega) h0
/-- A loop that gathers. -/
theorem loop_acc {α β R : Type} (l : List α) (z : α) (hn : l.length ≤ 4611686018427387000) {b : (List β × Int → Option R) → List β × Int → Option R} {N : List β → Option R} (f : α → List β) (hf : ∀ x ∈ l, (f x).length ≤ 1)
  (hb : ∀ k (acc : List β) (i : Nat), i < l.length → acc.length ≤ i → b k (acc, (i : Int)) = k (acc ++ f (l.getD i z), ((i + 1 : Nat) : Int))) (he : ∀ k acc, b k (acc, (l.length : Int)) = N acc) : loopC b manyC ([], 0) = N (l.flatMap f) := by
 have key : ∀ d i m acc, i + d = l.length → d < m → acc.length ≤ i → loopC b m (acc, (i : Int)) = N (acc ++ (l.drop i).flatMap f) := by
  intro d
  induction d with
  | zero =>
   intro i m acc hi hm ha
   obtain rfl : i = l.length := by omega
   cases m with
   | zero => omega
   | succ m => rw [loopC_succ, he, List.drop_length]; simp
  | succ d ih =>
   intro i m acc hi hm ha
   cases m with
   | zero => omega
   | succ m =>
    have hi' : i < l.length := by omega
    have hg : l.getD i z = l[i] := by rw [List.getD_eq_getElem?_getD, List.getElem?_eq_getElem hi', Option.getD_some]
    have := hf l[i] (List.getElem_mem hi')
    rw [loopC_succ, hb _ acc i hi' ha, ih (i + 1) m _ (by omega) (by omega) (by rw [List.length_append, hg]; omega), List.drop_eq_getElem_cons hi', List.flatMap_cons, List.append_assoc, hg]
 have := key l.length 0 manyC [] (by omega) (by unfold manyC; omega) (Nat.zero_le _)
 rw [List.drop_zero, List.nil_append] at this
 exact this
/-- A byte in small letters. -/
def lwN (k : Nat) : Nat := if 65 ≤ k ∧ k ≤ 90 then k + 32 else k
def lowB (c : UInt8) : UInt8 := UInt8.ofNat (lwN c.toNat)
def low (x : ByteArray) : List UInt8 := x.data.toList.map lowB
theorem s56_eq (c : UInt8) : s56 ((c.toNat : Nat) : Int) = some (((lowB c).toNat : Nat) : Int) := by
 have : ∀ k : Fin 256, s56 ((k.val : Nat) : Int) = some (((UInt8.ofNat (lwN k.val)).toNat : Nat) : Int) := by decide +kernel
 exact this ⟨c.toNat, c.toNat_lt⟩
theorem s58_eq (x y : Int) : ∃ z, s58 x y = some z ∧ (z == 0) = (x == y) := by
 unfold s58 s130
 simp only [call_of, bne_self_eq_false, way_ff]
 by_cases h1 : x < y
 ·refine ⟨-1, by rw [show decide (x < y) = true by simpa using h1]; rfl, ?_⟩
  rw [show (x == y) = false by simp; omega]; rfl
 ·rw [show decide (x < y) = false by simpa using h1, way_ff]
  by_cases h2 : x > y
  ·refine ⟨1, by rw [show decide (x > y) = true by simpa using h2]; rfl, ?_⟩
   rw [show (x == y) = false by simp; omega]; rfl
  ·refine ⟨0, by rw [show decide (x > y) = false by simpa using h2]; rfl, ?_⟩
   rw [show (x == y) = true by simp; omega]; rfl
theorem s59_eq (x y : Int) : ∃ z, s59 x y = some z ∧ (z == 0) = (x == y) := s58_eq x y
theorem size_len (x : ByteArray) : x.data.toList.length = x.size := by rw [Array.length_toList]; rfl
/-- Texts compared without case. -/
theorem s28_eq (a b : ByteArray) (ha : a.size ≤ 4611686018427387000) : ∃ z, s28_1 a b = some z ∧ (z == 0) = decide (low a = low b) := by
 unfold s28_1
 rw [join_of]
 dsimp only
 have hmn : mnI ((a.size : Nat) : Int) ((b.size : Nat) : Int) = ((min a.size b.size : Nat) : Int) := by unfold mnI; split <;> omega
 simp only [hmn]
 have hget : ∀ (x : ByteArray) (i : Nat), i < x.size → (low x)[i]? = some (lowB (x.data.toList.getD i 0)) := by
  intro x i hi
  have hi' : i < x.data.toList.length := by rw [size_len]; exact hi
  unfold low
  rw [List.getElem?_map, List.getD_eq_getElem?_getD, List.getElem?_eq_getElem hi']
  rfl
 have hlen : ∀ x : ByteArray, (low x).length = x.size := fun x => by unfold low; rw [List.length_map, size_len]
 refine loop_ind (n := min a.size b.size) (by omega) (fun o => ∃ z, o = some z ∧ (z == 0) = decide (low a = low b)) (fun i => ∀ j, j < i → lowB (a.data.toList.getD j 0) = lowB (b.data.toList.getD j 0)) (fun k i hi hI => ?_) (fun k hI => ?_) (fun j hj => by omega)
 ·have h1 : i < a.size := by omega
  have h2 : i < b.size := by omega
  rw [show decide ((i : Int) < ((min a.size b.size : Nat) : Int)) = true by simp; omega, way_tt, need_t (by omega), need_t (by omega), Int.toNat_natCast, s56_eq, call_of, s56_eq, call_of]
  obtain ⟨z, e1, e2⟩ := s58_eq (((lowB (a.data.toList.getD i 0)).toNat : Nat) : Int) (((lowB (b.data.toList.getD i 0)).toNat : Nat) : Int)
  rw [e1, call_of]
  by_cases he : lowB (a.data.toList.getD i 0) = lowB (b.data.toList.getD i 0)
  ·refine .inr ⟨?_, fun j hj => ?_⟩
   ·have : (z == 0) = true := by rw [e2, he]; simp
    rw [bne, this]
    show way false _ _ = _
    rw [way_ff, wrap_succ hi (by omega)]
   ·by_cases hji : j = i
    ·subst hji; exact he
    ·exact hI j (by omega)
  ·refine .inl ⟨z, ?_, ?_⟩
   ·have : (z == 0) = false := by
     rw [e2]
     simp only [beq_eq_false_iff_ne, ne_eq]
     intro h
     exact he (UInt8.toNat_inj.1 (by omega))
    rw [bne, this]
    rfl
   ·rw [e2]
    have hne : low a ≠ low b := by
     intro h
     have := hget a i h1
     rw [h, hget b i h2] at this
     injection this with this
     exact he this.symm
    rw [decide_eq_false hne]
    simp only [beq_eq_false_iff_ne, ne_eq]
    intro h
    exact he (UInt8.toNat_inj.1 (by omega))
 ·rw [show decide (((min a.size b.size : Nat) : Int) < ((min a.size b.size : Nat) : Int)) = false by simp, way_ff]
  obtain ⟨z, e1, e2⟩ := s59_eq ((a.size : Nat) : Int) ((b.size : Nat) : Int)
  rw [e1, call_of]
  refine ⟨z, rfl, ?_⟩
  rw [e2]
  by_cases hs : a.size = b.size
  ·have : low a = low b := by
    refine List.ext_getElem? fun j => ?_
    by_cases hj : j < a.size
    ·rw [hget a j hj, hget b j (by omega), hI j (by omega)]
    ·rw [List.getElem?_eq_none (by rw [hlen]; omega), List.getElem?_eq_none (by rw [hlen]; omega)]
   rw [decide_eq_true this]
   simp; omega
  ·have : low a ≠ low b := fun h => hs (by rw [← hlen a, h, hlen])
   rw [decide_eq_false this]
   simp; omega
def eqN (a b : ByteArray) : Bool := decide (low a = low b)
theorem s13_eq (a b : ByteArray) (ha : a.size ≤ 4611686018427387000) : s13 a b = some (eqN a b) := by
 obtain ⟨z, e1, e2⟩ := s28_eq a b ha
 unfold s13 s19_1
 rw [e1, call_of, e2]
 rfl
def toI (s : List UInt8) : List Int := s.map fun c => ((c.toNat : Nat) : Int)
theorem toBytes_toI (s : List UInt8) : toBytes (toI s) = s := by
 unfold toBytes toI
 rw [List.map_map]
 conv => rhs; rw [← List.map_id s]
 refine List.map_congr_left fun c _ => ?_
 simp
theorem bytesOk_toI (s : List UInt8) : bytesOk (toI s) = true := by
 unfold bytesOk toI
 rw [List.all_map, List.all_eq_true]
 intro c _
 have := c.toNat_lt
 simp
 omega
theorem low_way {R : Type} (c : UInt8) (K : Int → Option R) : (join (fun (u38 : Bool → Option R) => (way ((decide ((((c.toNat : Nat) : Int)) ≥ 65))) (u38 (decide ((((c.toNat : Nat) : Int)) ≤ 90))) (u38 false))) (fun (q37 : Bool) => (way q37 (K (IntKind.u8.wrap (((IntKind.u8.wrap ((((c.toNat : Nat) : Int)) - 65))) + 97))) (K ((c.toNat : Nat) : Int))))) = K (((lowB c).toNat : Nat) : Int) := by
 have : ∀ k : Fin 256, (if 65 ≤ k.val ∧ k.val ≤ 90 then IntKind.u8.wrap (((IntKind.u8.wrap ((((k.val : Nat) : Int)) - 65))) + 97) else ((k.val : Nat) : Int)) = (((UInt8.ofNat (lwN k.val)).toNat : Nat) : Int) := by decide +kernel
 have e := this ⟨c.toNat, c.toNat_lt⟩
 simp only at e
 unfold lowB
 rw [← e]
 simp only [join_of]
 by_cases h1 : 65 ≤ c.toNat
 ·have d1 : decide ((((c.toNat : Nat) : Int)) ≥ 65) = true := by simp; omega
  by_cases h2 : c.toNat ≤ 90
  ·have d2 : decide ((((c.toNat : Nat) : Int)) ≤ 90) = true := by simp; omega
   rw [d1, way_tt, d2, way_tt, if_pos ⟨h1, h2⟩]
  ·have d2 : decide ((((c.toNat : Nat) : Int)) ≤ 90) = false := by simp; omega
   rw [d1, way_tt, d2, way_ff, if_neg (fun h => h2 h.2)]
 ·have d1 : decide ((((c.toNat : Nat) : Int)) ≥ 65) = false := by simp; omega
  rw [d1, way_ff, way_ff, if_neg (fun h => h1 h.1)]
theorem s10_eq (x : ByteArray) (hx : x.size ≤ 140737488355328) : s10 x 1 = some (ByteArray.mk (low x).toArray) := by
 unfold s10
 rw [show ((1 : Int) == 2) = false from rfl, way_ff, show ((1 : Int) != 1) = false from rfl, way_ff]
 have hl := size_len x
 refine (loop_acc x.data.toList 0 (by omega) (fun c => [(((lowB c).toNat : Nat) : Int)]) (fun _ _ => Nat.le_refl _) (N := fun acc => need (bytesOk acc = true) (some ((ByteArray.mk (toBytes acc).toArray)))) (fun k acc i hi ha => ?_) (fun k acc => ?_)).trans ?_
 ·dsimp only
  rw [show decide ((i : Int) < ((x.size : Nat) : Int)) = true by simp; omega, way_tt, need_t (by omega)]
  simp only [Int.toNat_natCast]
  exact (low_way (x.data.toList.getD i 0) (fun q32 => need ((acc.length + 1) * 1 ≤ 140737488355328) (k (acc ++ [q32], IntKind.i64.wrap ((i : Int) + 1))))).trans (by rw [need_t (by omega), wrap_succ hi (by omega)])
 ·dsimp only
  rw [show decide ((((x.data.toList.length : Nat) : Int)) < ((x.size : Nat) : Int)) = false by rw [hl]; simp, way_ff]
 ·have e : x.data.toList.flatMap (fun c => [(((lowB c).toNat : Nat) : Int)]) = toI (low x) := by
   have : ∀ l : List UInt8, l.flatMap (fun c => [(((lowB c).toNat : Nat) : Int)]) = toI (l.map lowB) := by
    intro l
    induction l with
    | nil => rfl
    | cons c l ih => rw [List.flatMap_cons, ih]; rfl
   exact this _
  rw [e, need_t (bytesOk_toI _), toBytes_toI]
theorem s4_eq (a b : ByteArray) (ha : a.size ≤ 140737488355328) (hb : b.size ≤ 140737488355328) : s4 a b = some (eqN a b) := by
 unfold s4
 rw [s10_eq a ha, call_of, s10_eq b hb, call_of]
 unfold eqN
 congr 1
 rw [Bool.eq_iff_iff]
 simp
/-- The first that is so. -/
theorem loop_find {n : Nat} (hn : n ≤ 4611686018427387000) (p : Nat → Bool) {b : (Int → Option Int) → Int → Option Int}
  (hb : ∀ k (i : Nat), i < n → b k (i : Int) = if p i = true then some (i : Int) else k ((i + 1 : Nat) : Int)) (he : ∀ k, b k (n : Int) = some (-1)) : loopC b manyC 0 = some (match (List.range n).find? p with | some i => (i : Int) | none => -1) := by
 refine loop_ind hn (fun o => o = some (match (List.range n).find? p with | some i => (i : Int) | none => -1)) (fun i => ∀ j, j < i → p j = false) (fun k i hi hI => ?_) (fun k hI => ?_) (fun j hj => by omega)
 ·rw [hb k i hi]
  cases hp : p i with
  | true =>
   refine .inl ?_
   rw [if_pos rfl]
   have : (List.range n).find? p = some i := by
    rw [List.find?_range_eq_some]
    exact ⟨hp, List.mem_range.2 hi, fun j hj => by simp [hI j hj]⟩
   rw [this]
  | false =>
   refine .inr ⟨if_neg (by simp), fun j hj => ?_⟩
   by_cases hji : j = i
   ·subst hji; exact hp
   ·exact hI j (by omega)
 ·rw [he]
  have : (List.range n).find? p = none := by
   rw [List.find?_eq_none]
   intro j hj
   rw [List.mem_range] at hj
   simp [hI j hj]
  rw [this]
/-- A column's place, by the program and by the document. -/
theorem col_eq (t : XTable) (c : ByteArray) (hl : t.cols.length ≤ 4611686018427387000) (hc : c.size ≤ 140737488355328) (hs : ∀ x ∈ t.cols, x.name.size ≤ 140737488355328) : ∃ z, s5 t c = some z ∧ s6 t c = some z := by
 have hm : ∀ i, i < t.cols.length → (t.cols.getD i XColDef.z) ∈ t.cols := fun i hi => by
  rw [List.getD_eq_getElem?_getD, List.getElem?_eq_getElem hi, Option.getD_some]
  exact List.getElem_mem hi
 have e1 : s11_1 t.cols c = some (match (List.range t.cols.length).find? (fun i => eqN (t.cols.getD i XColDef.z).name c) with | some i => (i : Int) | none => -1) := by
  unfold s11_1
  refine loop_find hl _ (fun k i hi => ?_) (fun k => ?_)
  ·rw [show decide ((i : Int) < ((t.cols.length : Nat) : Int)) = true by simp; omega, way_tt, need_t (by omega), Int.toNat_natCast]
   unfold s12_1
   have := hs _ (hm i hi)
   rw [s13_eq _ _ (by omega), call_of, call_of, way_if, wrap_succ hi hl]
  ·rw [show decide (((t.cols.length : Nat) : Int) < ((t.cols.length : Nat) : Int)) = false by simp, way_ff]
 have e2 : s6 t c = some (match (List.range t.cols.length).find? (fun i => eqN (t.cols.getD i XColDef.z).name c) with | some i => (i : Int) | none => -1) := by
  unfold s6
  refine loop_find hl _ (fun k i hi => ?_) (fun k => ?_)
  ·rw [show decide ((i : Int) < ((t.cols.length : Nat) : Int)) = true by simp; omega, way_tt, need_t (by omega), Int.toNat_natCast, s4_eq _ _ (hs _ (hm i hi)) hc, call_of, way_if, wrap_succ hi hl]
  ·rw [show decide (((t.cols.length : Nat) : Int) < ((t.cols.length : Nat) : Int)) = false by simp, way_ff]
 refine ⟨_, ?_, e2⟩
 unfold s5
 rw [e1, call_of]
/-- A table's indexes. -/
def pick (l : List XIndex) (t : ByteArray) : List XIndex := l.flatMap fun x => if eqN x.table t then [x] else []
theorem getD_mem {α : Type} {l : List α} {z : α} {i : Nat} (hi : i < l.length) : l.getD i z ∈ l := by
 rw [List.getD_eq_getElem?_getD, List.getElem?_eq_getElem hi, Option.getD_some]
 exact List.getElem_mem hi
theorem s9_eq (s : XSchema) (t : ByteArray) (hl : s.indexes.length ≤ 1000000000) (ht : t.size ≤ 140737488355328) (hs : ∀ x ∈ s.indexes, x.table.size ≤ 140737488355328 ∧ x.keys.length ≤ 268435456) : s9 s t = some (pick s.indexes t) := by
 unfold s9
 refine loop_acc s.indexes XIndex.z (by omega) (fun x => if eqN x.table t then [x] else []) (fun x _ => by split <;> simp) (N := fun acc => some acc) (fun k acc i hi ha => ?_) (fun k acc => ?_)
 ·dsimp only
  obtain ⟨h1, h2⟩ := hs _ (getD_mem (z := XIndex.z) hi)
  rw [show decide ((i : Int) < ((s.indexes.length : Nat) : Int)) = true by simp; omega, way_tt, join_of, need_t (by omega), Int.toNat_natCast, s13_eq _ _ (by omega), call_of]
  cases eqN (s.indexes.getD i XIndex.z).table t with
  | true =>
   rw [way_tt]
   unfold n18
   rw [need_t h2, call_of, need_t (by omega), wrap_succ hi (by omega), if_pos rfl]
  | false => rw [way_ff, wrap_succ hi (by omega), if_neg (by simp), List.append_nil]
 ·dsimp only
  rw [show decide (((s.indexes.length : Nat) : Int) < ((s.indexes.length : Nat) : Int)) = false by simp, way_ff]
/-- A list of indexes is the same as itself. -/
theorem s8_self (l : List XIndex) (hl : l.length ≤ 1000000000) (hs : ∀ x ∈ l, x.keys.length ≤ 268435456) : s8 l l = some true := by
 unfold s8
 rw [show ((((l.length : Nat) : Int)) != (((l.length : Nat) : Int))) = false by simp, way_ff]
 refine loop_ind (n := l.length) (by omega) (fun o => o = some true) (fun _ => True) (fun k i hi _ => .inr ⟨?_, trivial⟩) (fun k _ => ?_) trivial
 ·have h2 := hs _ (getD_mem (z := XIndex.z) hi)
  rw [show decide ((i : Int) < ((l.length : Nat) : Int)) = true by simp; omega, way_tt, need_t (by omega), need_t (by omega), Int.toNat_natCast, join_of]
  simp only [beq_self_eq_true, Bool.not_true, way_ff, bne_self_eq_false]
  generalize l.getD i XIndex.z = x at h2 ⊢
  refine loop_ind (n := x.keys.length) (by omega) (fun o => o = k ((i + 1 : Nat) : Int)) (fun _ => True) (fun k2 j hj _ => .inr ⟨?_, trivial⟩) (fun k2 _ => ?_) trivial
  ·rw [show decide ((j : Int) < ((x.keys.length : Nat) : Int)) = true by simp; omega, way_tt, need_t (by omega), need_t (by omega)]
   simp only [beq_self_eq_true, Bool.and_self, Bool.not_true, way_ff]
   rw [wrap_succ hj (by omega)]
  ·rw [show decide (((x.keys.length : Nat) : Int) < ((x.keys.length : Nat) : Int)) = false by simp, way_ff, wrap_succ hi (by omega)]
 ·rw [show decide (((l.length : Nat) : Int) < ((l.length : Nat) : Int)) = false by simp, way_ff]
end Go.Proofs.YtdomhnkffghmlaaGreatDoor.Ex
