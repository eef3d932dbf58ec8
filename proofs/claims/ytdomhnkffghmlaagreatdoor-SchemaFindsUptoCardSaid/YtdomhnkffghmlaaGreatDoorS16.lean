/- Functions told as partial functions. -/
import Derived.Test.YtdomhnkffghmlaaGreatDoorS10
import Derived.Test.YtdomhnkffghmlaaGreatDoorS15
import Derived.Test.YtdomhnkffghmlaaGreatDoorSXN7
import Derived.Test.YtdomhnkffghmlaaGreatDoorS9
set_option linter.defProp false
set_option linter.unusedVariables false
set_option linter.unusedSimpArgs false
set_option maxRecDepth 100000
set_option maxHeartbeats 4000000
namespace Go.Proofs.YtdomhnkffghmlaaGreatDoor.Ex
open Go.Am Go.Ex Go.Proofs.YtdomhnkffghmlaaGreatDoor
def s3 (x0 : XSchema) (x1 : ByteArray) (x2 : ByteArray) : Option (Bool) := (loopC (fun (u8 : (List XIndex) × Int → Option (Bool)) (q7 : (List XIndex) × Int) => (way ((decide (q7.2 < (((x0.indexes.length : Nat) : Int))))) (join (fun (u15 : (List XIndex) → Option (Bool)) => (need (0 ≤ q7.2 ∧ q7.2 < ((x0.indexes.length : Nat) : Int)) (call (s4 (((x0.indexes.getD q7.2.toNat XIndex.z)).table) x1) fun y19 => (way y19 (need (0 ≤ q7.2 ∧ q7.2 < ((x0.indexes.length : Nat) : Int)) (need ((q7.1.length + 1) * 64 ≤ 140737488355328) (u15 (q7.1 ++ ([(x0.indexes.getD q7.2.toNat XIndex.z)]))))) (u15 q7.1))))) (fun (q14 : (List XIndex)) => (u8 (q14, (IntKind.i64.wrap (q7.2 + 1)))))) (loopC (fun (u31 : Int → Option (Bool)) (q30 : Int) => (way ((decide (q30 < (((x0.tables.length : Nat) : Int))))) (need (0 ≤ q30 ∧ q30 < ((x0.tables.length : Nat) : Int)) (need (0 ≤ q30 ∧ q30 < ((x0.tables.length : Nat) : Int)) (call (s5 ((x0.tables.getD q30.toNat XTable.z)) x2) fun y40 => (call (s6 ((x0.tables.getD q30.toNat XTable.z)) x2) fun y41 => (way ((y40 != y41)) (some false) (u31 (IntKind.i64.wrap (q30 + 1)))))))) (join (fun (u46 : Bool → Option (Bool)) => (call n7 fun y48 => (way y48 (call (s9 x0 x1) fun y50 => (call (s8 y50 q7.1) fun y51 => (u46 y51))) (u46 false)))) (fun (q45 : Bool) => (some q45))))) manyC 0))) manyC (([] : List XIndex), 0))
theorem c3 (x0 : XSchema) (x1 : ByteArray) (x2 : ByteArray) (r : Bool) (h : s3 x0 x1 x2 = some r) : Gives Tryz.prog 3 [.agg x0.v, vstr x1, vstr x2] (vbool r) := by
 intro s
 unfold s3 at h
 refine ac Tryz.func3 Tryz.ntmps3 ?_
 refine rg ?_
 refine rg ?_
 refine AWp.seq ?_
 refine rg ?_
 refine AWp.block ?_
 refine AWp.adoptE 7 (30, 5) (.inl (by rfl)) fun g2 hg2 => ?_
 change (s).own g2 = none at hg2
 have fr3 : Fr s (List.map Prod.fst [(g2, (30, 5))]) := Fr.snoc (l := []) (Fr.nil s) hg2
 refine AWp.loopS (X := (List XIndex) × Int) (G := Nat) h (fun gq9 => Fr s (List.map Prod.fst [(gq9, (30, 5))])) (fun q7 gq9 => tst [(1, vstr x1), (2, vstr x2), (3, .loc 3 0), (7, .own gq9 5 (List.map XIndex.v q7.1)), (8, vint q7.2)] [(3, (x0.v, 26))] (owns s [(gq9, (30, 5))]) 63) ?_ ?_
 ·exact ⟨g2, fr3, tle⟩
 ·rintro u8 ⟨v4, v6⟩ h g5 hg5f
  (try dsimp only at h ⊢)
  refine AWp.seq ?_
  refine rg ?_
  refine ws h (fun hc11 h => ?_) fun hc11 h => ?_
  ·refine AWp.skip ?_
   refine AWp.joinS (X := (List XIndex)) (G := Nat) h (fun gq16 => Fr s (List.map Prod.fst [(gq16, (30, 5))])) (fun q14 gq16 => tst [(1, vstr x1), (2, vstr x2), (3, .loc 3 0), (7, .own gq16 5 (List.map XIndex.v q14)), (8, vint v6)] [(3, (x0.v, 26))] (owns s [(gq16, (30, 5))]) 63) (fun u15 h => ?_) ?_
   ·refine AWp.block ?_
    obtain ⟨hn18, h⟩ := need_some h
    refine rgFD ((And.intro ((isT hn18.1)) <| And.intro ((isT hn18.2)) <| (getD_enc XIndex.v XIndex.z hn18))) (c4 (((x0.indexes.getD v6.toNat XIndex.z)).table) x1) h fun y19 hy19 h => ?_
    refine ws h (fun hc20 h => ?_) fun hc20 h => ?_
    ·refine AWp.reg1 fun Z21 hZ21 => ?_
     obtain ⟨hn23, h⟩ := need_some h
     obtain ⟨hn24, h⟩ := need_some h
     (try simp only [isT hn23.1, isT hn23.2, getD_enc XIndex.v XIndex.z hn23, xs, xa, Nat.reduceAdd, seval, reduceCtorEq])
     first | refine ap4 hg5f hn24 fun g25 hg25 => ?_ | refine ap3 hg5f hn24 fun g25 hg25 => ?_ | refine ap2 hg5f hn24 fun g25 hg25 => ?_
     have fr26 : Fr s (List.map Prod.fst [(g25, (30, 5))]) := Fr.rep (a := []) (b := []) hg5f hg25
     (try simp only [isT hn23.1, isT hn23.2, getD_enc XIndex.v XIndex.z hn23, xs, xa, Nat.reduceAdd, seval, reduceCtorEq])
     refine hZ21 _ ?_; clear hZ21 Z21
     refine ⟨(v4 ++ ([(x0.indexes.getD v6.toNat XIndex.z)])), h, g25, fr26, ?_⟩
     refine St.to.heapLe (s' := (owns s [(g25, (30, 5))])) (Fr.repLe (a := []) (b := []) hg5f hg25) ?_
     exact tle
    ·refine AWp.skip ?_
     exact ⟨v4, h, g5, hg5f, tle⟩
   ·rintro v12 h g13 hg13f
    refine r1 ?_
    exact ⟨(v12, (IntKind.i64.wrap (v6 + 1))), h, g13, hg13f, tle⟩
  ·refine AWp.exit ?_
   simp only [exq, seval]
   refine AWp.seq ?_
   refine rg ?_
   refine AWp.block ?_
   refine AWp.loopS (X := Int) (G := Nat) h (fun gq32 => Fr s (List.map Prod.fst [(gq32, (30, 5))])) (fun q30 gq32 => tst [(1, vstr x1), (2, vstr x2), (3, .loc 3 0), (7, .own gq32 5 (List.map XIndex.v v4)), (9, vint q30)] [(3, (x0.v, 26))] (owns s [(gq32, (30, 5))]) 63) ?_ ?_
   ·exact ⟨g5, hg5f, tle⟩
   ·rintro u31 v28 h g29 hg29f
    refine AWp.seq ?_
    refine rg ?_
    refine ws h (fun hc34 h => ?_) fun hc34 h => ?_
    ·refine AWp.skip ?_
     refine AWp.seq ?_
     refine AWp.block ?_
     obtain ⟨hn37, h⟩ := need_some h
     obtain ⟨hn39, h⟩ := need_some h
     obtain ⟨y40, hy40, h⟩ := call_some h
     refine rgLFCD [0, 1, 2, 3, 4, 5, 7, 8, 9, 10, 11, 12, 6, 13, 14] [100048, 100051] ((And.intro ((isT hn37.1)) <| And.intro ((isT hn37.2)) <| And.intro ((getD_enc XTable.v XTable.z hn37)) <| And.intro ((isT hn39.1)) <| And.intro ((isT hn39.2)) <| (getD_enc XTable.v XTable.z hn39))) (c5 ((x0.tables.getD v28.toNat XTable.z)) x2 _ hy40) (c6 ((x0.tables.getD v28.toNat XTable.z)) x2) h fun y41 hy41 h => ?_
     refine ws h (fun hc42 h => ?_) fun hc42 h => ?_
     ·refine rg ?_
      cases h; exact AWp.ret (rtqO (Fr.drop (l := [(g29, (30, 5))]) hg29f) [.tmp 6])
     ·refine AWp.skip ?_
      refine r1 ?_
      exact ⟨(IntKind.i64.wrap (v28 + 1)), h, g29, hg29f, tle⟩
    ·refine AWp.exit ?_
     simp only [exq, seval]
     refine AWp.joinS (X := Bool) (G := Nat) h (fun gq47 => Fr s (List.map Prod.fst [(gq47, (30, 5))])) (fun q45 gq47 => tst [(6, vbool q45)] [] (owns s [(gq47, (30, 5))]) 63) (fun u46 h => ?_) ?_
     ·obtain ⟨y48, hy48, h⟩ := call_some h
      refine wy h (fun hg49 h => ?_) fun hg49 h => ?_
      ·obtain ⟨y50, hy50, h⟩ := call_some h
       refine r1FCCD hg49 (N7 _ hy48) (c9 x0 x1 _ hy50) (c8 y50 v4) h fun y51 hy51 h => ?_
       exact ⟨y51, h, g29, hg29f, tleF hg49⟩
      ·refine r1FC hg49 (N7 _ hy48) ?_
       exact ⟨false, h, g29, hg29f, tleF hg49⟩
     ·rintro v43 h g44 hg44f
      cases h; exact AWp.ret (rtqO (Fr.drop (l := [(g44, (30, 5))]) hg44f) [.tmp 6] (h3 := fun hO => (show (owns s [(g44, (30, 5))]).leW s from leA (o := fun g => hO.own g))))
end Go.Proofs.YtdomhnkffghmlaaGreatDoor.Ex
namespace Go.Proofs.YtdomhnkffghmlaaGreatDoor.Ex
open Go.Am Go.Ex Go.Proofs.YtdomhnkffghmlaaGreatDoor
theorem pick_mem {l : List XIndex} {t : ByteArray} {x : XIndex} (h : x ∈ pick l t) : x ∈ l := by
 unfold pick at h
 rw [List.mem_flatMap] at h
 obtain ⟨y, hy, hx⟩ := h
 split at hx
 ·rw [List.mem_singleton] at hx; rw [hx]; exact hy
 ·cases hx
theorem pick_len (t : ByteArray) : ∀ l : List XIndex, (pick l t).length ≤ l.length
 | [] => Nat.le_refl _
 | x :: l => by
  have := pick_len t l
  unfold pick at *
  rw [List.flatMap_cons, List.length_append, List.length_cons]
  split
  ·rw [List.length_singleton]; omega
  ·rw [List.length_nil]; omega
theorem law_finds (s : XSchema) (t c : ByteArray) (hw : XSchema.w s < 268435456) (ht : t.size < 268435456) (hc : c.size < 268435456) : s3 s t c = some true := by
 rw [XSchema.w_eq] at hw
 have i1 := length_le_sum XIndex.w XIndex.w_pos s.indexes
 have i2 := length_le_sum XTable.w XTable.w_pos s.tables
 have hidx : ∀ x ∈ s.indexes, x.table.size < 268435456 ∧ x.keys.length < 268435456 := by
  intro x hx
  have h1 := mem_le_sum XIndex.w hx
  have h2 := length_le_sum XKey.w XKey.w_pos x.keys
  have h3 := XIndex.w_eq x
  omega
 have hcol : ∀ x ∈ s.tables, x.cols.length < 268435456 ∧ ∀ y ∈ x.cols, y.name.size < 268435456 := by
  intro x hx
  have h1 := mem_le_sum XTable.w hx
  have h2 := length_le_sum XColDef.w XColDef.w_pos x.cols
  have h3 := XTable.w_eq x
  refine ⟨by omega, fun y hy => ?_⟩
  have h4 := mem_le_sum XColDef.w hy
  have h5 := XColDef.w_eq y
  omega
 have hpl := pick_len t s.indexes
 unfold s3
 refine (loop_acc s.indexes XIndex.z (by omega) (fun x => if eqN x.table t then [x] else []) (fun x _ => by split <;> simp) (N := fun acc => (loopC (fun (u31 : Int → Option (Bool)) (q30 : Int) => (way ((decide (q30 < (((s.tables.length : Nat) : Int))))) (need (0 ≤ q30 ∧ q30 < ((s.tables.length : Nat) : Int)) (need (0 ≤ q30 ∧ q30 < ((s.tables.length : Nat) : Int)) (call (s5 ((s.tables.getD q30.toNat XTable.z)) c) fun y40 => (call (s6 ((s.tables.getD q30.toNat XTable.z)) c) fun y41 => (way ((y40 != y41)) (some false) (u31 (IntKind.i64.wrap (q30 + 1)))))))) (join (fun (u46 : Bool → Option (Bool)) => (call n7 fun y48 => (way y48 (call (s9 s t) fun y50 => (call (s8 y50 acc) fun y51 => (u46 y51))) (u46 false)))) (fun (q45 : Bool) => (some q45))))) manyC 0)) (fun k acc i hi ha => ?_) (fun k acc => ?_)).trans ?_
 ·dsimp only
  obtain ⟨h1, h2⟩ := hidx _ (getD_mem (z := XIndex.z) hi)
  rw [show decide ((i : Int) < ((s.indexes.length : Nat) : Int)) = true by simp; omega, way_tt, join_of, need_t (by omega), Int.toNat_natCast, s4_eq _ _ (by omega) (by omega), call_of]
  cases eqN (s.indexes.getD i XIndex.z).table t with
  | true => rw [way_tt, need_t (by omega), need_t (by omega), wrap_succ hi (by omega), if_pos rfl]
  | false => rw [way_ff, wrap_succ hi (by omega), if_neg (by simp), List.append_nil]
 ·dsimp only
  rw [show decide (((s.indexes.length : Nat) : Int) < ((s.indexes.length : Nat) : Int)) = false by simp, way_ff]
 ·show loopC _ manyC 0 = some true
  refine loop_ind (n := s.tables.length) (by omega) (fun o => o = some true) (fun _ => True) (fun k i hi _ => .inr ⟨?_, trivial⟩) (fun k _ => ?_) trivial
  ·obtain ⟨h1, h2⟩ := hcol _ (getD_mem (z := XTable.z) hi)
   obtain ⟨z, e1, e2⟩ := col_eq (s.tables.getD i XTable.z) c (by omega) (by omega) (fun y hy => by have := h2 y hy; omega)
   rw [show decide ((i : Int) < ((s.tables.length : Nat) : Int)) = true by simp; omega, way_tt, need_t (by omega), need_t (by omega), Int.toNat_natCast, e1, call_of, e2, call_of, bne_self_eq_false, way_ff, wrap_succ hi (by omega)]
  ·rw [show decide (((s.tables.length : Nat) : Int) < ((s.tables.length : Nat) : Int)) = false by simp, way_ff, join_of]
   rw [show n7 = some true from rfl, call_of, way_tt, s9_eq s t (by omega) (by omega) (fun x hx => by have := hidx x hx; omega), call_of]
   have hp : s.indexes.flatMap (fun x => if eqN x.table t then [x] else []) = pick s.indexes t := rfl
   rw [hp, s8_self (pick s.indexes t) (by omega) (fun x hx => by have := hidx x (pick_mem hx); omega), call_of]
theorem finds_ok (s : XSchema) (t c : ByteArray) (hw : XSchema.w s < 268435456) (ht : t.size < 268435456) (hc : c.size < 268435456) : Gives Tryz.prog 3 [.agg s.v, vstr t, vstr c] (vbool true) := c3 s t c true (law_finds s t c hw ht hc)
end Go.Proofs.YtdomhnkffghmlaaGreatDoor.Ex
