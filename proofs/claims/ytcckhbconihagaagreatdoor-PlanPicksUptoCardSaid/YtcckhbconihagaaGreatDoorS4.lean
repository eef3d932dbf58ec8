/- plan's has and what it asks. -/
import Derived.Test.YtcckhbconihagaaGreatDoorS5
import Derived.Test.YtcckhbconihagaaGreatDoorS6
import Derived.Test.YtcckhbconihagaaGreatDoorS11
import Derived.Test.YtcckhbconihagaaGreatDoorS2
import Derived.Test.YtcckhbconihagaaGreatDoorSAmAuto
import Derived.Test.YtcckhbconihagaaGreatDoorS12
import Derived.Test.YtcckhbconihagaaGreatDoorS8
set_option linter.unusedSimpArgs false
set_option linter.unusedVariables false
set_option maxRecDepth 100000
namespace Go.Proofs.YtcckhbconihagaaGreatDoor
open Go.Am Go.Pl
theorem Term.v_all (t : Term) : t.v.all V.isCell = true := by rw [Term.v_eq]; rfl
theorem Term.v_take (t : Term) : t.v.take 14 = t.v := List.take_of_length_le (by rw [Term.v_len]; exact Nat.le_refl _)
theorem Term.v_take' (t : Term) : (t.v.drop 0).take 14 = t.v := by rw [List.drop_zero]; exact Term.v_take t
theorem Said.v_len (t : Said) : t.v.length = 17 := by rw [Said.v_eq]; rfl
theorem Said.v_all (t : Said) : t.v.all V.isCell = true := by rw [Said.v_eq]; rfl
theorem Said.v_take (t : Said) : t.v.take 17 = t.v := List.take_of_length_le (by rw [Said.v_len]; exact Nat.le_refl _)
theorem Said.v_take' (t : Said) : (t.v.drop 0).take 17 = t.v := by rw [List.drop_zero]; exact Said.v_take t
theorem Said.v_op (t : Said) : t.v[0]? = some (vint t.op) := by rw [Said.v_eq]; rfl
theorem Said.v_col (t : Said) : t.v[1]? = some (vint t.col) := by rw [Said.v_eq]; rfl
theorem Said.v_coll (t : Said) : t.v[2]? = some (vint t.coll) := by rw [Said.v_eq]; rfl
theorem Said.v_fin (t : Said) : (t.v.drop 3).take 14 = t.fin.v := by rw [Said.v]; exact Term.v_take _
theorem Arm.v_all (a : Arm) : a.v.all V.isCell = true := by rw [Arm.v_eq]; rfl
theorem Sch.v_all {sc : Schema} (h : sc.views.isCell = true) : sc.v.all V.isCell = true := by
  rw [Schema.v_eq]; show (true && (true && (sc.views.isCell && true))) = true; rw [h]; rfl
theorem Table.v_all (t : Table) : t.v.all V.isCell = true := rfl
theorem Table.v_len (t : Table) : t.v.length = 3 := rfl
theorem Table.v_take (t : Table) : t.v.take 3 = t.v := rfl
/-- A planner's cells. -/
abbrev pv (sc : Schema) (a : Arm) : List V := sc.v ++ a.v
theorem Sch.v_len (sc : Schema) : sc.v.length = 3 := rfl
theorem pv_len (sc : Schema) (a : Arm) : (sc.v ++ a.v).length = 16 := by rw [List.length_append, Arm.v_len, Sch.v_len]
theorem pv_all {sc : Schema} {a : Arm} (h : sc.views.isCell = true) : (sc.v ++ a.v).all V.isCell = true := by rw [List.all_append, Sch.v_all h, Arm.v_all]; rfl
theorem pv_take (sc : Schema) (a : Arm) : (sc.v ++ a.v).take 16 = sc.v ++ a.v := List.take_of_length_le (by rw [pv_len]; exact Nat.le_refl _)
theorem pv_take' (sc : Schema) (a : Arm) : ((sc.v ++ a.v).drop 0).take 16 = sc.v ++ a.v := by rw [List.drop_zero]; exact pv_take sc a
theorem pv_arm (sc : Schema) (a : Arm) : ((sc.v ++ a.v).drop 3).take 13 = a.v := by rw [List.drop_append_of_le_length (by rw [Sch.v_len]; exact Nat.le_refl _), List.drop_of_length_le (by rw [Sch.v_len]; exact Nat.le_refl _), List.nil_append]; exact List.take_of_length_le (by rw [Arm.v_len]; exact Nat.le_refl _)
theorem pv_sch (sc : Schema) (a : Arm) : ((sc.v ++ a.v).drop 0).take 3 = sc.v := by rw [List.drop_zero, List.take_append_of_le_length (by rw [Sch.v_len]; exact Nat.le_refl _)]; exact List.take_of_length_le (by rw [Sch.v_len]; exact Nat.le_refl _)
theorem pv_sch' (sc : Schema) (a : Arm) : (sc.v ++ a.v).take 3 = sc.v := pv_sch sc a
theorem pv_tab (sc : Schema) (a : Arm) : (sc.v ++ a.v)[0]? = some (.slice 3 (sc.tables.map Table.v)) := rfl
theorem pv_idx (sc : Schema) (a : Arm) : (sc.v ++ a.v)[1]? = some (.slice 5 (sc.indexes.map Index.v)) := rfl
theorem pv_at (sc : Schema) (a : Arm) (i : Nat) : (sc.v ++ a.v)[i + 3]? = a.v[i]? := by rw [List.getElem?_append_right (by rw [Sch.v_len]; omega), Sch.v_len]; congr 1
theorem pv_frm (sc : Schema) (a : Arm) : (sc.v ++ a.v)[7]? = some (.slice 7 (a.frm.map From.v)) := by rw [pv_at sc a 4, Arm.v_eq]; rfl
theorem pv_whr (sc : Schema) (a : Arm) : (sc.v ++ a.v)[8]? = some (.slice 14 (a.whr.map Term.v)) := by rw [pv_at sc a 5, Arm.v_eq]; rfl
theorem pv_steps (sc : Schema) (a : Arm) : (sc.v ++ a.v)[15]? = some (.slice 7 (a.steps.map Step.v)) := by rw [pv_at sc a 12, Arm.v_eq]; rfl
set_option linter.defProp false
def tvs := And.intro @Term.v_len <| And.intro @Term.v_all <| And.intro @Term.v_take <| And.intro @Term.v_take' <| True.intro
def svs := And.intro @Said.v_len <| And.intro @Said.v_all <| And.intro @Said.v_take <| And.intro @Said.v_take' <| And.intro @Said.v_op <| And.intro @Said.v_col <| And.intro @Said.v_coll <| And.intro @Said.v_fin <| True.intro
def pvs := And.intro @pv_len <| And.intro @pv_take <| And.intro @pv_take' <| And.intro @pv_arm <| And.intro @pv_sch <| And.intro @pv_idx <| And.intro @pv_tab <| And.intro @pv_frm <| And.intro @pv_whr <| And.intro @pv_steps <| True.intro
theorem src_at (a : Arm) {k : Int} (h0 : 0 ≤ k) (h1 : k < ((a.frm.length : Nat) : Int)) : (a.frm.map From.v).getD k.toNat [] = (a.src k).v := src_get a k h0 h1
noncomputable def hasP (ops : List Int) (is : Said → Bool) (t : Term) (x : Said) : Bool := ops.any (x.op == ·) && (is x && same x.fin t)
theorem has_eq (a : Arm) (k : Int) (ops ahead : List Int) (t : Term) (is : Said → Bool) : has a k ops ahead t is = (within t ahead && (usable a k).any (hasP ops is t)) := rfl
structure UOk (a : Arm) (k : Int) : Prop where
  w : ∀ t ∈ usableTerms a k, t.w ≤ 274945015808
  len : (usableTerms a k).length ≤ 274911461376
  wlen : (a.whr ++ a.frm.flatMap innerOn).length ≤ 274911461376
  f : a.frm.length ≤ 550024249344
theorem f129_spec (i : Index) (name table : ByteArray) : Gives Tryz.prog 129 [.agg i.v, .elt [vstr name] 0, .elt [vstr table] 0] (vbool (i.name.toList == name.toList && i.table.toList == table.toList)) := by
 intro s
 refine acalls_of (fn := Tryz.f129) Tryz.func129 rfl (by decide) (by show 3 ≤ 15; decide) ?_
 rw [Tryz.ntmps129]
 refine AWp.reg fun R1 hR1 => ?_
 simp only [Index.v_eq, ty147, am, seval, reduceCtorEq]
 refine hR1 _ ?_; clear hR1 R1
 refine AWp.reg fun R2 hR2 => ?_
 simp only [Index.v_eq, ty9, ty147, undef, am, seval, reduceCtorEq]
 refine gT (fun hg1_4 => ?_) (fun hg1_4 => ?_)
 ·simp only [Index.v_eq, hg1_4, ty9, ty147, undef, am, seval, reduceCtorEq]
  refine hR2 _ ?_; clear hR2 R2
  refine AWp.ret ?_
  refine ret_intro (by show resV Tryz.prog _ [.tmp 4] = _; simp only [resV, am, seval, reduceCtorEq]; rfl) (Wk.refl _) (Heap.le.refl _) ⟨?_, rfl⟩
  rw [hg1_4]; rfl
 ·simp only [Index.v_eq, hg1_4, ty9, ty147, undef, am, seval, reduceCtorEq]
  refine hR2 _ ?_; clear hR2 R2
  refine AWp.ret ?_
  refine ret_intro (by show resV Tryz.prog _ [.tmp 4] = _; simp only [resV, am, seval, reduceCtorEq]; rfl) (Wk.refl _) (Heap.le.refl _) ⟨?_, rfl⟩
  rw [hg1_4]; rfl
theorem f79_spec (sc : Schema) (hs1 : sc.views.isCell = true) (a : Arm) (table name : ByteArray) : Gives Tryz.prog 79 [.agg (sc.v ++ a.v), vstr table, vstr name] (vint (sc.index table name)) := by
 intro s
 refine acalls_of (fn := Tryz.f79) Tryz.func79 rfl (by decide) (by show 3 ≤ 12; decide) ?_
 rw [Tryz.ntmps79]
 refine AWp.reg fun R1 hR1 => ?_
 simp only [pv_all hs1, pvs, ty9, ty77, am, seval, reduceCtorEq]
 refine hR1 _ ?_; clear hR1 R1
 refine AWp.frz 4 (cs := [vstr table]) (ty := 9) (by simp only [am, seval, reduceCtorEq]) ?_
 refine AWp.weaken (st' := tst [(3, .loc 3 0), (4, .elt [vstr table] 0), (5, .loc 5 0)] [(3, (sc.v ++ a.v, 77)), (5, ([vstr name], 9))] (s) 12) ?_ ?_
 ·refine le_tst ?_ ?_ ?_ (Heap.le.refl _) rfl
  ·simp only [leE, St.frz, frzV, am, seval, reduceCtorEq]
  ·simp only [oks, Nat.reduceBEq]
  ·simp only [leB, St.frz, am, seval, reduceCtorEq]
 refine AWp.frz 5 (cs := [vstr name]) (ty := 9) (by simp only [am, seval, reduceCtorEq]) ?_
 refine AWp.weaken (st' := tst [(3, .loc 3 0), (4, .elt [vstr table] 0), (5, .elt [vstr name] 0)] [(3, (sc.v ++ a.v, 77))] (s) 12) ?_ ?_
 ·refine le_tst ?_ ?_ ?_ (Heap.le.refl _) rfl
  ·simp only [leE, St.frz, frzV, am, seval, reduceCtorEq]
  ·simp only [oks, Nat.reduceBEq]
  ·simp only [leB, St.frz, am, seval, reduceCtorEq]
 refine AWp.reg fun R2 hR2 => ?_
 simp only [pv_all hs1, pvs, ty23, ty26, ty77, ty147, am, seval, reduceCtorEq]
 refine (f128_spec _ sc.indexes (fun i => i.name.toList == name.toList && i.table.toList == table.toList) 129 [.elt [vstr name] 0, .elt [vstr table] 0] (fun i _ => f129_spec i name table _)).mono fun v' s' h => ?_
 rw [h.1, h.2]; clear h v' s'
 simp only [pv_all hs1, pvs, ty23, ty26, ty77, ty147, am, seval, reduceCtorEq]
 refine hR2 _ ?_; clear hR2 R2
 refine AWp.ret ?_
 refine ret_intro (by show resV Tryz.prog _ [.tmp 6] = _; simp only [resV, am, seval, reduceCtorEq]; rfl) (Wk.refl _) (Heap.le.refl _) ⟨?_, rfl⟩
 rfl
theorem f127_spec (t : Table) (x : Said) : Gives Tryz.prog 127 [.agg x.v, .elt t.v 0] (vbool (rowid t.pk x)) := by
 intro s
 refine acalls_of (fn := Tryz.f127) Tryz.func127 rfl (by decide) (by show 2 ≤ 19; decide) ?_
 rw [Tryz.ntmps127]
 refine AWp.reg fun R1 hR1 => ?_
 simp only [svs, Table.v_eq, ty197, am, seval, reduceCtorEq]
 refine hR1 _ ?_; clear hR1 R1
 refine AWp.reg fun R2 hR2 => ?_
 simp only [svs, Table.v_eq, ty3, ty137, ty197, undef, am, seval, reduceCtorEq]
 refine gF (fun hg1_3 => ?_) (fun hg1_3 => ?_)
 ·simp only [svs, Table.v_eq, hg1_3, ty3, ty137, ty197, undef, am, seval, reduceCtorEq]
  refine gT (fun hg1_9 => ?_) (fun hg1_9 => ?_)
  ·simp only [svs, Table.v_eq, hg1_3, hg1_9, ty3, ty137, ty197, undef, am, seval, reduceCtorEq]
   refine hR2 _ ?_; clear hR2 R2
   refine AWp.ret ?_
   refine ret_intro (by show resV Tryz.prog _ [.tmp 3] = _; simp only [resV, am, seval, reduceCtorEq]; rfl) (Wk.refl _) (Heap.le.refl _) ⟨?_, rfl⟩
   simp only [rowid, oneV, hg1_3, hg1_9, Bool.true_or, Bool.false_or, Bool.true_and, Bool.false_and]
  ·simp only [svs, Table.v_eq, hg1_3, hg1_9, ty3, ty137, ty197, undef, am, seval, reduceCtorEq]
   refine hR2 _ ?_; clear hR2 R2
   refine AWp.ret ?_
   refine ret_intro (by show resV Tryz.prog _ [.tmp 3] = _; simp only [resV, am, seval, reduceCtorEq]; rfl) (Wk.refl _) (Heap.le.refl _) ⟨?_, rfl⟩
   simp only [rowid, oneV, hg1_3, hg1_9, Bool.true_or, Bool.false_or, Bool.true_and, Bool.false_and]
 ·simp only [svs, Table.v_eq, hg1_3, ty3, ty137, ty197, undef, am, seval, reduceCtorEq]
  refine hR2 _ ?_; clear hR2 R2
  refine AWp.ret ?_
  refine ret_intro (by show resV Tryz.prog _ [.tmp 3] = _; simp only [resV, am, seval, reduceCtorEq]; rfl) (Wk.refl _) (Heap.le.refl _) ⟨?_, rfl⟩
  simp only [rowid, oneV, hg1_3, Bool.true_or, Bool.false_or, Bool.true_and, Bool.false_and]
theorem f78_spec (sc : Schema) (hs : SchOk sc) (a : Arm) (k : Int) (hk0 : 0 ≤ k) (hk1 : k < ((a.frm.length : Nat) : Int)) (hnm : (a.src k).name.size ≤ 2^62) : Gives Tryz.prog 78 [.agg (sc.v ++ a.v), vint k] (.func 127 [] [.elt (sc.table (a.src k).name).v 0]) := by
 have hs1 := hs.1
 have ix0 : (0 ≤ k) = True := by simp [hk0]
 have ix1 : (k < ((a.frm.length : Nat) : Int)) = True := by simp [hk1]
 have hgd : (a.frm.map From.v).getD k.toNat [] = (a.src k).v := src_get a k hk0 hk1
 intro s
 refine acalls_of (fn := Tryz.f78) Tryz.func78 rfl (by decide) (by show 2 ≤ 21; decide) ?_
 rw [Tryz.ntmps78]
 refine AWp.reg fun R1 hR1 => ?_
 simp only [pv_all hs1, pvs, ty77, am, seval, reduceCtorEq]
 refine hR1 _ ?_; clear hR1 R1
 refine AWp.regL mixed [0, 1, 2, 3, 4, 5, 6, 7, 8, 13, 9, 10, 11, 12, 14, 15] (by decide +kernel) [5, 99999] (by decide +kernel) fun R2 hR2 => ?_
 simp only [pv_all hs1, pvs, ix0, ix1, true_and, hgd, From.v_eq, Table.v_all, Table.v_len, Table.v_take, ty9, ty26, ty72, ty75, ty77, ty107, ty137, aml, Nat.reduceBEq, am, seval, reduceCtorEq]
 refine (f76_spec sc hs (a.src k).name hnm _).mono fun v' s' h => ?_
 rw [h.1, h.2]; clear h v' s'
 simp only [pv_all hs1, pvs, ix0, ix1, true_and, hgd, From.v_eq, Table.v_all, Table.v_len, Table.v_take, ty9, ty26, ty72, ty75, ty77, ty107, ty137, aml, Nat.reduceBEq, am, seval, reduceCtorEq]
 refine hR2 _ ?_; clear hR2 R2
 refine AWp.frz 5 (cs := (sc.table (a.src k).name).v) (ty := 137) (by simp only [am, seval, reduceCtorEq]) ?_
 refine AWp.weaken (st' := tst [(5, .elt (sc.table (a.src k).name).v 0)] [] (s) 21) ?_ ?_
 ·refine le_tst ?_ ?_ ?_ (Heap.le.refl _) rfl
  ·simp only [leE, St.frz, frzV, am, seval, reduceCtorEq]
  ·simp only [oks, Nat.reduceBEq]
  ·simp only [leB, St.frz, am, seval, reduceCtorEq]
 refine AWp.reg fun R3 hR3 => ?_
 simp only [Table.v_eq, am, seval, reduceCtorEq]
 refine hR3 _ ?_; clear hR3 R3
 refine AWp.ret ?_
 refine ret_intro (by show resV Tryz.prog _ [.tmp 4] = _; simp only [resV, am, seval, reduceCtorEq]; rfl) (Wk.refl _) (Heap.le.refl _) ⟨?_, rfl⟩
 rfl
theorem f130_spec (k : Sorted) (x : Said) : Gives Tryz.prog 130 [.agg x.v, .elt k.v 0] (vbool (keyed k x)) := by
 intro s
 refine acalls_of (fn := Tryz.f130) Tryz.func130 rfl (by decide) (by show 2 ≤ 16; decide) ?_
 rw [Tryz.ntmps130]
 refine AWp.reg fun R1 hR1 => ?_
 simp only [svs, Sorted.v_eq, ty197, am, seval, reduceCtorEq]
 refine hR1 _ ?_; clear hR1 R1
 refine AWp.reg fun R2 hR2 => ?_
 simp only [svs, Sorted.v_eq, ty3, ty45, ty149, ty197, undef, am, seval, reduceCtorEq]
 refine gT (fun hg1_5 => ?_) (fun hg1_5 => ?_)
 ·simp only [svs, Sorted.v_eq, hg1_5, ty3, ty45, ty149, ty197, undef, am, seval, reduceCtorEq]
  refine hR2 _ ?_; clear hR2 R2
  refine AWp.ret ?_
  refine ret_intro (by show resV Tryz.prog _ [.tmp 3] = _; simp only [resV, am, seval, reduceCtorEq]; rfl) (Wk.refl _) (Heap.le.refl _) ⟨?_, rfl⟩
  simp only [keyed, oneV, hg1_5, Bool.true_and, Bool.false_and]
 ·simp only [svs, Sorted.v_eq, hg1_5, ty3, ty45, ty149, ty197, undef, am, seval, reduceCtorEq]
  refine hR2 _ ?_; clear hR2 R2
  refine AWp.ret ?_
  refine ret_intro (by show resV Tryz.prog _ [.tmp 3] = _; simp only [resV, am, seval, reduceCtorEq]; rfl) (Wk.refl _) (Heap.le.refl _) ⟨?_, rfl⟩
  simp only [keyed, oneV, hg1_5, Bool.true_and, Bool.false_and]
theorem f80_spec (k : Sorted) : Gives Tryz.prog 80 [.agg k.v] (.func 130 [] [.elt k.v 0]) := by
 intro s
 refine acalls_of (fn := Tryz.f80) Tryz.func80 rfl (by decide) (by show 1 ≤ 4; decide) ?_
 rw [Tryz.ntmps80]
 refine AWp.reg fun R1 hR1 => ?_
 simp only [Sorted.v_eq, ty149, am, seval, reduceCtorEq]
 refine hR1 _ ?_; clear hR1 R1
 refine AWp.frz 1 (cs := k.v) (ty := 149) (by simp only [Sorted.v_eq, am, seval, reduceCtorEq]) ?_
 refine AWp.weaken (st' := tst [(1, .elt k.v 0)] [] (s) 4) ?_ ?_
 ·refine le_tst ?_ ?_ ?_ (Heap.le.refl _) rfl
  ·simp only [leE, St.frz, frzV, Sorted.v_eq, am, seval, reduceCtorEq]
  ·simp only [oks, Nat.reduceBEq]
  ·simp only [leB, St.frz, Sorted.v_eq, am, seval, reduceCtorEq]
 refine AWp.reg fun R2 hR2 => ?_
 simp only [Sorted.v_eq, am, seval, reduceCtorEq]
 refine hR2 _ ?_; clear hR2 R2
 refine AWp.ret ?_
 refine ret_intro (by show resV Tryz.prog _ [.tmp 2] = _; simp only [resV, am, seval, reduceCtorEq]; rfl) (Wk.refl _) (Heap.le.refl _) ⟨?_, rfl⟩
 rfl
theorem f125_spec (ops : List Int) (is : Said → Bool) (t : Term) (kf : FuncId) (cap : List V) (his : ∀ x, Gives Tryz.prog kf ([] ++ [.agg x.v] ++ cap) (vbool (is x))) (x : Said) : Gives Tryz.prog 125 [.agg x.v, .elt [vints ops] 0, .elt [.func kf [] cap] 0, .elt t.v 0] (vbool (hasP ops is t x)) := by
 intro s
 refine acalls_of (fn := Tryz.f125) Tryz.func125 rfl (by decide) (by show 4 ≤ 21; decide) ?_
 rw [Tryz.ntmps125]
 refine AWp.reg fun R1 hR1 => ?_
 simp only [svs, tvs, ty197, am, seval, reduceCtorEq]
 refine hR1 _ ?_; clear hR1 R1
 refine AWp.reg fun R2 hR2 => ?_
 simp only [svs, tvs, ty41, ty49, ty140, ty142, ty197, undef, am, seval, reduceCtorEq]
 refine (f126_spec ops x.op _).mono fun v' s' h => ?_
 rw [h.1, h.2]; clear h v' s'
 simp only [svs, tvs, ty41, ty49, ty140, ty142, ty197, undef, am, seval, reduceCtorEq]
 refine gT (fun hg1_4 => ?_) (fun hg1_4 => ?_)
 ·simp only [svs, tvs, hg1_4, ty41, ty49, ty140, ty142, ty197, undef, am, seval, reduceCtorEq]
  refine (his x _).mono fun v' s' h => ?_
  rw [h.1, h.2]; clear h v' s'
  simp only [svs, tvs, hg1_4, ty41, ty49, ty140, ty142, ty197, undef, am, seval, reduceCtorEq]
  refine gT (fun hg1_9 => ?_) (fun hg1_9 => ?_)
  ·simp only [svs, tvs, hg1_4, hg1_9, ty41, ty49, ty140, ty142, ty197, undef, am, seval, reduceCtorEq]
   refine (eqv_term x.fin t _).mono fun v' s' h => ?_
   rw [h.1, h.2]; clear h v' s'
   simp only [svs, tvs, hg1_4, hg1_9, ty41, ty49, ty140, ty142, ty197, undef, am, seval, reduceCtorEq]
   refine hR2 _ ?_; clear hR2 R2
   refine AWp.ret ?_
   refine ret_intro (by show resV Tryz.prog _ [.tmp 5] = _; simp only [resV, am, seval, reduceCtorEq]; rfl) (Wk.refl _) (Heap.le.refl _) ⟨?_, rfl⟩
   simp only [hasP, oneV, hg1_4, hg1_9, Bool.true_and, Bool.false_and]
  ·simp only [svs, tvs, hg1_4, hg1_9, ty41, ty49, ty140, ty142, ty197, undef, am, seval, reduceCtorEq]
   refine hR2 _ ?_; clear hR2 R2
   refine AWp.ret ?_
   refine ret_intro (by show resV Tryz.prog _ [.tmp 5] = _; simp only [resV, am, seval, reduceCtorEq]; rfl) (Wk.refl _) (Heap.le.refl _) ⟨?_, rfl⟩
   simp only [hasP, oneV, hg1_4, hg1_9, Bool.true_and, Bool.false_and]
 ·simp only [svs, tvs, hg1_4, ty41, ty49, ty140, ty142, ty197, undef, am, seval, reduceCtorEq]
  refine hR2 _ ?_; clear hR2 R2
  refine AWp.ret ?_
  refine ret_intro (by show resV Tryz.prog _ [.tmp 5] = _; simp only [resV, am, seval, reduceCtorEq]; rfl) (Wk.refl _) (Heap.le.refl _) ⟨?_, rfl⟩
  simp only [hasP, oneV, hg1_4, Bool.true_and, Bool.false_and]
theorem f77_spec (sc : Schema) (hs1 : sc.views.isCell = true) (a : Arm) (k : Int) (hk0 : 0 ≤ k) (hk1 : k < ((a.frm.length : Nat) : Int)) (hu : UOk a k) (ops ahead : List Int) (t : Term) (hw : t.w ≤ 274945015808) (is : Said → Bool) (kf : FuncId) (cap : List V) (his : ∀ x, Gives Tryz.prog kf ([] ++ [.agg x.v] ++ cap) (vbool (is x))) : Gives Tryz.prog 77 [.agg (sc.v ++ a.v), vint k, vints ops, vints ahead, .agg t.v, .func kf [] cap] (vbool (has a k ops ahead t is)) := by
 intro s
 refine acalls_of (fn := Tryz.f77) Tryz.func77 rfl (by decide) (by show 6 ≤ 24; decide) ?_
 rw [Tryz.ntmps77]
 refine AWp.reg fun R1 hR1 => ?_
 simp only [pv_all hs1, pvs, tvs, ty41, ty49, ty77, ty140, ty142, am, seval, reduceCtorEq]
 refine hR1 _ ?_; clear hR1 R1
 refine AWp.frz 8 (cs := [vints ops]) (ty := 140) (by simp only [am, seval, reduceCtorEq]) ?_
 refine AWp.weaken (st' := tst [(1, vint k), (3, vints ahead), (6, .loc 6 0), (8, .elt [vints ops] 0), (10, .loc 10 0), (11, .loc 11 0)] [(6, (sc.v ++ a.v, 77)), (10, (t.v, 49)), (11, ([.func kf [] cap], 142))] (s) 24) ?_ ?_
 ·refine le_tst ?_ ?_ ?_ (Heap.le.refl _) rfl
  ·simp only [leE, St.frz, frzV, am, seval, reduceCtorEq]
  ·simp only [oks, Nat.reduceBEq]
  ·simp only [leB, St.frz, am, seval, reduceCtorEq]
 refine AWp.frz 11 (cs := [.func kf [] cap]) (ty := 142) (by simp only [am, seval, reduceCtorEq]) ?_
 refine AWp.weaken (st' := tst [(1, vint k), (3, vints ahead), (6, .loc 6 0), (8, .elt [vints ops] 0), (10, .loc 10 0), (11, .elt [.func kf [] cap] 0)] [(6, (sc.v ++ a.v, 77)), (10, (t.v, 49))] (s) 24) ?_ ?_
 ·refine le_tst ?_ ?_ ?_ (Heap.le.refl _) rfl
  ·simp only [leE, St.frz, frzV, am, seval, reduceCtorEq]
  ·simp only [oks, Nat.reduceBEq]
  ·simp only [leB, St.frz, am, seval, reduceCtorEq]
 refine AWp.frz 10 (cs := t.v) (ty := 49) (by simp only [am, seval, reduceCtorEq]) ?_
 refine AWp.weaken (st' := tst [(1, vint k), (3, vints ahead), (6, .loc 6 0), (8, .elt [vints ops] 0), (10, .elt t.v 0), (11, .elt [.func kf [] cap] 0)] [(6, (sc.v ++ a.v, 77))] (s) 24) ?_ ?_
 ·refine le_tst ?_ ?_ ?_ (Heap.le.refl _) rfl
  ·simp only [leE, St.frz, frzV, am, seval, reduceCtorEq]
  ·simp only [oks, Nat.reduceBEq]
  ·simp only [leB, St.frz, am, seval, reduceCtorEq]
 refine AWp.reg fun R2 hR2 => ?_
 simp only [pv_all hs1, pvs, tvs, ty49, ty75, ty77, undef, am, seval, reduceCtorEq]
 refine (f50_spec t hw ahead _).mono fun v' s' h => ?_
 rw [h.1, h.2]; clear h v' s'
 simp only [pv_all hs1, pvs, tvs, ty49, ty75, ty77, undef, am, seval, reduceCtorEq]
 refine gT (fun hg1_3 => ?_) (fun hg1_3 => ?_)
 ·simp only [pv_all hs1, pvs, tvs, hg1_3, ty49, ty75, ty77, undef, am, seval, reduceCtorEq]
  refine (f124_spec a k hk0 hk1 hu.w hu.len hu.wlen hu.f _).mono fun v' s' h => ?_
  rw [h.1, h.2]; clear h v' s'
  simp only [pv_all hs1, pvs, tvs, hg1_3, ty49, ty75, ty77, undef, am, seval, reduceCtorEq]
  refine (f123_spec _ (usable a k) (hasP ops is t) 125 [.elt [vints ops] 0, .elt [.func kf [] cap] 0, .elt t.v 0] (fun x _ => f125_spec ops is t kf cap (fun x => his x) x _)).mono fun v' s' h => ?_
  rw [h.1, h.2]; clear h v' s'
  simp only [pv_all hs1, pvs, tvs, hg1_3, ty49, ty75, ty77, undef, am, seval, reduceCtorEq]
  refine hR2 _ ?_; clear hR2 R2
  refine AWp.ret ?_
  refine ret_intro (by show resV Tryz.prog _ [.tmp 12] = _; simp only [resV, am, seval, reduceCtorEq]; rfl) (Wk.refl _) (Heap.le.refl _) ⟨?_, rfl⟩
  simp only [oneV]; rw [has_eq, hg1_3]; rfl
 ·simp only [pv_all hs1, pvs, tvs, hg1_3, ty49, ty75, ty77, undef, am, seval, reduceCtorEq]
  refine hR2 _ ?_; clear hR2 R2
  refine AWp.ret ?_
  refine ret_intro (by show resV Tryz.prog _ [.tmp 12] = _; simp only [resV, am, seval, reduceCtorEq]; rfl) (Wk.refl _) (Heap.le.refl _) ⟨?_, rfl⟩
  simp only [oneV]; rw [has_eq, hg1_3]; rfl
end Go.Proofs.YtcckhbconihagaaGreatDoor
set_option linter.unusedSimpArgs false
set_option linter.unusedVariables false
set_option maxRecDepth 100000
namespace Go.Proofs.YtcckhbconihagaaGreatDoor
open Go.Am Go.Pl
theorem Bound.v_all (b : Bound) : b.v.all V.isCell = true := by rw [Bound.v_eq, List.all_append, Term.v_all]; rfl
theorem Bound.v_opn (b : Bound) : b.v[14]? = some (vbool b.opn) := by rw [Bound.v_eq, List.getElem?_append_right (by rw [Term.v_len]; exact Nat.le_refl _), Term.v_len]; rfl
theorem Bound.v_term (b : Bound) : (b.v.drop 0).take 14 = b.term.v := by rw [Bound.v_eq, List.drop_zero, List.take_append_of_le_length (by rw [Term.v_len]; exact Nat.le_refl _)]; exact Term.v_take _
theorem Bound.v_term' (b : Bound) : b.v.take 14 = b.term.v := Bound.v_term b
theorem f81_spec (sc : Schema) (hs1 : sc.views.isCell = true) (a : Arm) (k : Int) (hk0 : 0 ≤ k) (hk1 : k < ((a.frm.length : Nat) : Int)) (hu : UOk a k) (l : List Bound) (hlw : ∀ b ∈ l, b.w ≤ 274945015808) (ahead : List Int) (opn closed : Int) (keys : List Sorted) : Gives Tryz.prog 81 [.agg (sc.v ++ a.v), vint k, .slice 15 (l.map Bound.v), vints ahead, vint opn, vint closed, .slice 3 (keys.map Sorted.v)] (vbool (bounded a k l ahead opn closed keys)) := by
 intro s
 refine acalls_of (fn := Tryz.f81) Tryz.func81 rfl (by decide) (by show 7 ≤ 47; decide) ?_
 rw [Tryz.ntmps81]
 refine AWp.reg fun R1 hR1 => ?_
 simp only [pv_all hs1, pvs, ty77, am, seval, reduceCtorEq]
 refine hR1 _ ?_; clear hR1 R1
 refine AWp.seq_k fun K2 hK2 => ?_
 refine AWp.reg fun R3 hR3 => ?_
 simp only [ty3, ty64, ty132, am, seval, reduceCtorEq]
 refine hR3 _ ?_; clear hR3 R3
 refine AWp.condK fun C1 C2 hC1 hC2 => ?_
 simp only [condP, am, seval, reduceCtorEq]
 refine ⟨fun hc18 => hC1 ?_, fun hc18 => hC2 ?_⟩ <;> clear hC1 hC2 C1 C2
 ·obtain rfl : l = [] := List.eq_nil_of_length_eq_zero (by have := eq_of_beq hc18; omega)
  refine AWp.reg fun R4 hR4 => ?_
  simp only [am, seval, reduceCtorEq]
  refine hR4 _ ?_; clear hR4 R4
  refine AWp.ret ?_
  refine ret_intro (by show resV Tryz.prog _ [.tmp 14] = _; simp only [resV, am, seval, reduceCtorEq]; rfl) (Wk.refl _) (Heap.le.refl _) ⟨?_, rfl⟩
  simp only [bounded, oneV]
 ·refine AWp.skip ?_
  refine hK2 _ ?_; clear hK2
  refine AWp.seq_k fun K5 hK5 => ?_
  refine AWp.reg fun R6 hR6 => ?_
  simp only [ty3, ty64, ty132, ty145, ty149, undef, am, seval, reduceCtorEq]
  refine gF (fun hg3_3 => ?_) (fun hg3_3 => ?_)
  ·simp only [hg3_3, ty3, ty64, ty132, ty145, ty149, undef, am, seval, reduceCtorEq]
   refine hR6 _ ?_; clear hR6 R6
   refine AWp.condK fun C1 C2 hC1 hC2 => ?_
   simp only [condP, am, seval, reduceCtorEq]
   refine ⟨fun hc26 => hC1 ?_, fun hc26 => hC2 ?_⟩ <;> clear hC1 hC2 C1 C2
   ·obtain rfl : keys = [] := List.eq_nil_of_length_eq_zero (by have := eq_of_beq hc26; omega)
    refine AWp.reg fun R7 hR7 => ?_
    simp only [am, seval, reduceCtorEq]
    refine hR7 _ ?_; clear hR7 R7
    refine AWp.ret ?_
    refine ret_intro (by show resV Tryz.prog _ [.tmp 14] = _; simp only [resV, am, seval, reduceCtorEq]; rfl) (Wk.refl _) (Heap.le.refl _) ⟨?_, rfl⟩
    match l, hc18 with
    | [], h => simp at h
    | [_], _ => simp only [bounded, oneV]
    | _ :: _ :: _, _ => simp only [bounded, oneV]
   ·obtain ⟨b, rfl⟩ : ∃ b, l = [b] := by
     match l, hc18, hg3_3 with
     | [], h, _ => simp at h
     | [b], _, _ => exact ⟨b, rfl⟩
     | _ :: _ :: _, _, h => simp at h; omega
    obtain ⟨q, ks, rfl⟩ : ∃ q ks, keys = q :: ks := by
     match keys, hc26 with
     | [], h => simp at h
     | q :: ks, _ => exact ⟨q, ks, rfl⟩
    have hb := hlw b (by simp)
    have ixa : ((0 : Int) ≤ 0) = True := by simp
    have ixb : ((0 : Int) < ((1 : Nat) : Int)) = True := by simp
    have ixc : ((0 : Int) < ((ks.length + 1 : Nat) : Int)) = True := by simp <;> omega
    refine AWp.skip ?_
    refine hK5 _ ?_; clear hK5
    refine AWp.reg fun R8 hR8 => ?_
    simp only [am, seval, reduceCtorEq]
    refine hR8 _ ?_; clear hR8 R8
    refine AWp.seq_k fun K9 hK9 => ?_
    refine AWp.reg fun R10 hR10 => ?_
    simp only [pv_all hs1, pvs, Bound.v_len, Bound.v_all, Bound.v_opn, Bound.v_term, Bound.v_term', ixa, ixb, ixc, true_and, Int.toNat_zero, Sorted.v_eq, ty4, ty64, ty132, am, seval, reduceCtorEq]
    refine hR10 _ ?_; clear hR10 R10
    refine AWp.condK fun C1 C2 hC1 hC2 => ?_
    simp only [condP, hc18, hg3_3, am, seval, reduceCtorEq]
    refine ⟨fun hc31 => hC1 ?_, fun hc31 => hC2 ?_⟩ <;> clear hC1 hC2 C1 C2
    ·refine AWp.reg1 fun R11 hR11 => ?_
     simp only [am, seval, reduceCtorEq]
     refine hR11 _ ?_; clear hR11 R11
     refine hK9 _ ?_; clear hK9
     refine AWp.regL mixed [0, 1, 2, 3, 4, 5, 6, 7, 8, 9, 10, 11, 12, 13, 14] (by decide +kernel) [99999] (by decide +kernel) fun R12 hR12 => ?_
     simp only [pv_all hs1, pvs, Bound.v_len, Bound.v_all, Bound.v_opn, Bound.v_term, Bound.v_term', ixa, ixb, ixc, true_and, Int.toNat_zero, Sorted.v_eq, ty41, ty49, ty64, ty77, ty132, ty140, ty145, ty149, aml, Nat.reduceBEq, am, seval, reduceCtorEq]
     rw [← Sorted.v_eq]
     refine (f80_spec q _).mono fun v' s' h => ?_
     rw [h.1, h.2]; clear h v' s'
     simp only [pv_all hs1, pvs, Bound.v_len, Bound.v_all, Bound.v_opn, Bound.v_term, Bound.v_term', ixa, ixb, ixc, true_and, Int.toNat_zero, Sorted.v_eq, ty41, ty49, ty64, ty77, ty132, ty140, ty145, ty149, aml, Nat.reduceBEq, am, seval, reduceCtorEq]
     refine (f77_spec sc hs1 a k hk0 hk1 hu [opn] ahead b.term (by have := Bound.w_eq b; omega) (keyed q) 130 [.elt q.v 0] (fun x => f130_spec q x) _).mono fun v' s' h => ?_
     rw [h.1, h.2]; clear h v' s'
     simp only [pv_all hs1, pvs, Bound.v_len, Bound.v_all, Bound.v_opn, Bound.v_term, Bound.v_term', ixa, ixb, ixc, true_and, Int.toNat_zero, Sorted.v_eq, ty41, ty49, ty64, ty77, ty132, ty140, ty145, ty149, aml, Nat.reduceBEq, am, seval, reduceCtorEq]
     refine hR12 _ ?_; clear hR12 R12
     refine AWp.ret ?_
     refine ret_intro (by show resV Tryz.prog _ [.tmp 14] = _; simp only [resV, am, seval, reduceCtorEq]; rfl) (Wk.refl _) (Heap.le.refl _) ⟨?_, rfl⟩
     simp only [bounded, oneV, hc31, ↓reduceIte, Bool.false_eq_true]
    ·refine AWp.skip ?_
     refine hK9 _ ?_; clear hK9
     refine AWp.regL mixed [0, 1, 2, 3, 4, 5, 6, 7, 8, 9, 10, 11, 12, 13, 14] (by decide +kernel) [99999] (by decide +kernel) fun R13 hR13 => ?_
     simp only [pv_all hs1, pvs, Bound.v_len, Bound.v_all, Bound.v_opn, Bound.v_term, Bound.v_term', ixa, ixb, ixc, true_and, Int.toNat_zero, Sorted.v_eq, ty41, ty49, ty64, ty77, ty132, ty140, ty145, ty149, aml, Nat.reduceBEq, am, seval, reduceCtorEq]
     rw [← Sorted.v_eq]
     refine (f80_spec q _).mono fun v' s' h => ?_
     rw [h.1, h.2]; clear h v' s'
     simp only [pv_all hs1, pvs, Bound.v_len, Bound.v_all, Bound.v_opn, Bound.v_term, Bound.v_term', ixa, ixb, ixc, true_and, Int.toNat_zero, Sorted.v_eq, ty41, ty49, ty64, ty77, ty132, ty140, ty145, ty149, aml, Nat.reduceBEq, am, seval, reduceCtorEq]
     refine (f77_spec sc hs1 a k hk0 hk1 hu [closed] ahead b.term (by have := Bound.w_eq b; omega) (keyed q) 130 [.elt q.v 0] (fun x => f130_spec q x) _).mono fun v' s' h => ?_
     rw [h.1, h.2]; clear h v' s'
     simp only [pv_all hs1, pvs, Bound.v_len, Bound.v_all, Bound.v_opn, Bound.v_term, Bound.v_term', ixa, ixb, ixc, true_and, Int.toNat_zero, Sorted.v_eq, ty41, ty49, ty64, ty77, ty132, ty140, ty145, ty149, aml, Nat.reduceBEq, am, seval, reduceCtorEq]
     refine hR13 _ ?_; clear hR13 R13
     refine AWp.ret ?_
     refine ret_intro (by show resV Tryz.prog _ [.tmp 14] = _; simp only [resV, am, seval, reduceCtorEq]; rfl) (Wk.refl _) (Heap.le.refl _) ⟨?_, rfl⟩
     simp only [bounded, oneV, hc31, ↓reduceIte, Bool.false_eq_true]
  ·simp only [hg3_3, ty3, ty64, ty132, ty145, ty149, undef, am, seval, reduceCtorEq]
   refine hR6 _ ?_; clear hR6 R6
   refine AWp.cond (t := true) (by simp only [am, seval, reduceCtorEq]) (fun _ => ?_) (fun h => by cases h)
   refine AWp.reg fun R7 hR7 => ?_
   simp only [am, seval, reduceCtorEq]
   refine hR7 _ ?_; clear hR7 R7
   refine AWp.ret ?_
   refine ret_intro (by show resV Tryz.prog _ [.tmp 14] = _; simp only [resV, am, seval, reduceCtorEq]; rfl) (Wk.refl _) (Heap.le.refl _) ⟨?_, rfl⟩
   match l, hc18, hg3_3 with
   | [], h, _ => simp at h
   | [_], _, h => simp at h
   | _ :: _ :: _, _, _ => simp only [bounded, oneV]
end Go.Proofs.YtcckhbconihagaaGreatDoor
set_option linter.unusedSimpArgs false
set_option linter.unusedVariables false
set_option maxRecDepth 100000
namespace Go.Proofs.YtcckhbconihagaaGreatDoor
open Go.Am Go.Pl
structure XOk (x : Path) : Prop where
  eq : ∀ e ∈ x.eq, e.w ≤ 274945015808
  low : ∀ e ∈ x.low, e.w ≤ 274945015808
  high : ∀ e ∈ x.high, e.w ≤ 274945015808
  len : x.eq.length ≤ 274945015808 ∧ x.low.length ≤ 274945015808 ∧ x.high.length ≤ 274945015808
theorem index_lt {sc : Schema} {t n : ByteArray} {N : Int} (hN : sc.index t n = N) (h : decide (N < 0) = false) : 0 ≤ N ∧ N < ((sc.indexes.length : Nat) : Int) := by
  rw [← hN] at h ⊢
  unfold Schema.index at h ⊢
  refine idx_lt _ _ ?_
  rw [← idx_ge]; simp at h ⊢; omega
theorem eqs_step {a : Arm} {k : Int} {ahead : List Int} {l : List Term} {ks : List Sorted} {i : Nat} (h1 : i < l.length) (h2 : i < ks.length) (h : (!has a k [13] ahead l[i] (keyed ks[i])) = false) : eqs a k ahead (l.drop i) (ks.drop i) = eqs a k ahead (l.drop (i + 1)) (ks.drop (i + 1)) := by
  rw [List.drop_eq_getElem_cons h1, List.drop_eq_getElem_cons h2]
  simp only [eqs]
  rw [Bool.not_eq_false'] at h
  rw [h, Bool.true_and]
theorem eqs_false {a : Arm} {k : Int} {ahead : List Int} {l : List Term} {ks : List Sorted} {i : Nat} (h1 : i < l.length) (h2 : i < ks.length) (h : (!has a k [13] ahead l[i] (keyed ks[i])) = true) : eqs a k ahead (l.drop i) (ks.drop i) = false := by
  rw [List.drop_eq_getElem_cons h1, List.drop_eq_getElem_cons h2]
  simp only [eqs]
  rw [Bool.not_eq_true'] at h
  rw [h, Bool.false_and]
theorem f49_spec (sc : Schema) (hs : SchOk sc) (a : Arm) (k : Int) (hk0 : 0 ≤ k) (hk1 : k < ((a.frm.length : Nat) : Int)) (hu : UOk a k) (hnm : (a.src k).name.size ≤ 2^62) (x : Path) (hx : XOk x) (ahead : List Int) : Gives Tryz.prog 49 [.agg (sc.v ++ a.v), vint k, .agg x.v, vints ahead] (vbool (pathOk sc a k x ahead)) := by
 have hs1 := hs.1
 have ix0 : (0 ≤ k) = True := by simp [hk0]
 have ix1 : (k < ((a.frm.length : Nat) : Int)) = True := by simp [hk1]
 have hgd : (a.frm.map From.v).getD k.toNat [] = (a.src k).v := src_get a k hk0 hk1
 have hxl := hx.len
 have hwr1 : IntKind.i64.wrap (((x.eq.length : Nat) : Int) + ((x.low.length : Nat) : Int)) = ((x.eq.length : Nat) : Int) + ((x.low.length : Nat) : Int) := wrap_id (by omega) (by omega)
 have hwr2 : IntKind.i64.wrap (((x.eq.length : Nat) : Int) + ((x.low.length : Nat) : Int) + ((x.high.length : Nat) : Int)) = ((x.eq.length : Nat) : Int) + ((x.low.length : Nat) : Int) + ((x.high.length : Nat) : Int) := wrap_id (by omega) (by omega)
 have hwr3 : IntKind.i64.wrap (((x.low.length : Nat) : Int) + ((x.high.length : Nat) : Int)) = ((x.low.length : Nat) : Int) + ((x.high.length : Nat) : Int) := wrap_id (by omega) (by omega)
 obtain ⟨N, hN⟩ : ∃ N, sc.index (sc.table (a.src k).name).name x.index = N := ⟨_, rfl⟩
 obtain ⟨J, hJ⟩ : ∃ J, sc.indexes.getD N.toNat zindex = J := ⟨_, rfl⟩
 have hK : sc.keys N = J.keys := by unfold Schema.keys; rw [hJ]
 intro s
 refine acalls_of (fn := Tryz.f49) Tryz.func49 rfl (by decide) (by show 4 ≤ 174; decide) ?_
 rw [Tryz.ntmps49]
 refine AWp.reg fun R1 hR1 => ?_
 simp only [pv_all hs1, pvs, Path.v_eq, ty66, ty77, am, seval, reduceCtorEq]
 refine hR1 _ ?_; clear hR1 R1
 refine AWp.reg fun R2 hR2 => ?_
 simp only [pv_all hs1, pvs, ix0, ix1, true_and, hgd, From.v_eq, ty72, ty75, ty77, ty107, am, seval, reduceCtorEq]
 refine hR2 _ ?_; clear hR2 R2
 refine AWp.reg fun R3 hR3 => ?_
 simp only [pv_all hs1, pvs, From.v_eq, Table.v_all, Table.v_len, Table.v_take, ty9, ty26, ty77, ty107, ty137, am, seval, reduceCtorEq]
 refine (f76_spec sc hs (a.src k).name hnm _).mono fun v' s' h => ?_
 rw [h.1, h.2]; clear h v' s'
 simp only [pv_all hs1, pvs, From.v_eq, Table.v_all, Table.v_len, Table.v_take, ty9, ty26, ty77, ty107, ty137, am, seval, reduceCtorEq]
 refine hR3 _ ?_; clear hR3 R3
 refine AWp.seq_k fun K4 hK4 => ?_
 refine AWp.seq_cut (ι := Unit) (fun _ => True) (fun _ => tst [(1, vint k), (3, vints ahead), (4, .loc 4 0), (6, .loc 6 0), (10, .loc 10 0), (43, vbool ((x.kind != 0) && (((a.src k).kind != 0) || !sc.hasTable (a.src k).name)))] [(4, (sc.v ++ a.v, 77)), (6, (x.v, 66)), (10, ((sc.table (a.src k).name).v, 137))] s 174) ?_ ?_
 ·refine AWp.reg1 fun R5 hR5 => ?_
  simp only [Path.v_eq, From.v_eq, ty63, ty66, ty105, ty107, undef, am, seval, reduceCtorEq]
  refine gT (fun hg3_3 => ?_) (fun hg3_3 => ?_)
  ·simp only [Path.v_eq, From.v_eq, hg3_3, ty63, ty66, ty105, ty107, undef, am, seval, reduceCtorEq]
   refine gF (fun hg3_7 => ?_) (fun hg3_7 => ?_)
   ·simp only [Path.v_eq, From.v_eq, hg3_3, hg3_7, ty63, ty66, ty105, ty107, undef, am, seval, reduceCtorEq]
    refine hR5 _ ?_; clear hR5 R5
    refine ⟨(), trivial, ?_⟩
    refine le_tst ?_ ?_ ?_ (Heap.le.refl _) rfl
    ·simp only [leE, hg3_3, hg3_7, Path.v_eq, bo, Bool.not_true, Bool.not_false, ↓reduceIte, Bool.false_eq_true, am, seval, reduceCtorEq]
    ·simp only [oks, Nat.reduceBEq]
    ·simp only [leB, hg3_3, hg3_7, Path.v_eq, bo, Bool.not_true, Bool.not_false, ↓reduceIte, Bool.false_eq_true, am, seval, reduceCtorEq]
   ·simp only [Path.v_eq, From.v_eq, hg3_3, hg3_7, ty63, ty66, ty105, ty107, undef, am, seval, reduceCtorEq]
    refine hR5 _ ?_; clear hR5 R5
    refine ⟨(), trivial, ?_⟩
    refine le_tst ?_ ?_ ?_ (Heap.le.refl _) rfl
    ·simp only [leE, hg3_3, hg3_7, Path.v_eq, bo, Bool.not_true, Bool.not_false, ↓reduceIte, Bool.false_eq_true, am, seval, reduceCtorEq]
    ·simp only [oks, Nat.reduceBEq]
    ·simp only [leB, hg3_3, hg3_7, Path.v_eq, bo, Bool.not_true, Bool.not_false, ↓reduceIte, Bool.false_eq_true, am, seval, reduceCtorEq]
  ·simp only [Path.v_eq, From.v_eq, hg3_3, ty63, ty66, ty105, ty107, undef, am, seval, reduceCtorEq]
   refine hR5 _ ?_; clear hR5 R5
   refine ⟨(), trivial, ?_⟩
   refine le_tst ?_ ?_ ?_ (Heap.le.refl _) rfl
   ·simp only [leE, hg3_3, Path.v_eq, bo, Bool.not_true, Bool.not_false, ↓reduceIte, Bool.false_eq_true, am, seval, reduceCtorEq]
   ·simp only [oks, Nat.reduceBEq]
   ·simp only [leB, hg3_3, Path.v_eq, bo, Bool.not_true, Bool.not_false, ↓reduceIte, Bool.false_eq_true, am, seval, reduceCtorEq]
 ·rintro ⟨⟩ _
  refine AWp.condK fun C1 C2 hC1 hC2 => ?_
  simp only [condP, am, seval, reduceCtorEq]
  refine ⟨fun hc43 => hC1 ?_, fun hc43 => hC2 ?_⟩ <;> clear hC1 hC2 C1 C2
  ·refine AWp.reg fun R6 hR6 => ?_
   simp only [am, seval, reduceCtorEq]
   refine hR6 _ ?_; clear hR6 R6
   refine AWp.ret ?_
   refine ret_intro (by show resV Tryz.prog _ [.tmp 8] = _; simp only [resV, am, seval, reduceCtorEq]; rfl) (Wk.refl _) (Heap.le.refl _) ⟨?_, rfl⟩
   simp only [pathOk, rowidOk, indexOk, noName, hN, hK, oneV, hc43, bo, Bool.not_true, Bool.not_false, ↓reduceIte, Bool.false_eq_true]
  ·refine AWp.skip ?_
   refine hK4 _ ?_; clear hK4
   refine AWp.reg fun R7 hR7 => ?_
   simp only [ty41, ty140, am, seval, reduceCtorEq]
   refine hR7 _ ?_; clear hR7 R7
   refine AWp.seq_k fun K8 hK8 => ?_
   refine AWp.reg fun R9 hR9 => ?_
   simp only [Path.v_eq, ty63, ty66, am, seval, reduceCtorEq]
   refine hR9 _ ?_; clear hR9 R9
   refine AWp.block ?_
   refine AWp.reg fun R10 hR10 => ?_
   simp only [ty63, am, seval, reduceCtorEq]
   refine hR10 _ ?_; clear hR10 R10
   refine AWp.condK fun C1 C2 hC1 hC2 => ?_
   simp only [condP, hc43, am, seval, reduceCtorEq]
   refine ⟨fun hc47 => hC1 ?_, fun hc47 => hC2 ?_⟩ <;> clear hC1 hC2 C1 C2
   ·refine AWp.reg fun R11 hR11 => ?_
    simp only [Path.v_eq, hwr1, hwr2, ty3, ty9, ty31, ty49, ty64, ty66, ty132, undef, am, seval, reduceCtorEq]
    refine gT (fun hg8_3 => ?_) (fun hg8_3 => ?_)
    ·simp only [Path.v_eq, hwr1, hwr2, hg8_3, ty3, ty9, ty31, ty49, ty64, ty66, ty132, undef, am, seval, reduceCtorEq]
     refine hR11 _ ?_; clear hR11 R11
     refine AWp.ret ?_
     refine ret_intro (by show resV Tryz.prog _ [.tmp 8] = _; simp only [resV, am, seval, reduceCtorEq]; rfl) (Wk.refl _) (Heap.le.refl _) ⟨?_, rfl⟩
     simp only [pathOk, rowidOk, indexOk, noName, hN, hK, oneV, hc43, hc47, hg8_3, bo, Bool.not_true, Bool.not_false, ↓reduceIte, Bool.false_eq_true]
    ·simp only [Path.v_eq, hwr1, hwr2, hg8_3, ty3, ty9, ty31, ty49, ty64, ty66, ty132, undef, am, seval, reduceCtorEq]
     refine hR11 _ ?_; clear hR11 R11
     refine AWp.ret ?_
     refine ret_intro (by show resV Tryz.prog _ [.tmp 8] = _; simp only [resV, am, seval, reduceCtorEq]; rfl) (Wk.refl _) (Heap.le.refl _) ⟨?_, rfl⟩
     simp only [pathOk, rowidOk, indexOk, noName, hN, hK, oneV, hc43, hc47, hg8_3, bo, Bool.not_true, Bool.not_false, ↓reduceIte, Bool.false_eq_true]
   ·refine AWp.reg fun R12 hR12 => ?_
    simp only [ty63, am, seval, reduceCtorEq]
    refine hR12 _ ?_; clear hR12 R12
    refine AWp.condK fun C1 C2 hC1 hC2 => ?_
    simp only [condP, hc43, hc47, am, seval, reduceCtorEq]
    refine ⟨fun hc66 => hC1 ?_, fun hc66 => hC2 ?_⟩ <;> clear hC1 hC2 C1 C2
    ·refine AWp.regL mixed [0, 1, 2, 3, 4, 5, 6, 7, 8, 9, 10, 11, 12, 13, 14, 15, 16, 17, 18, 19, 20, 21, 22, 23, 24, 25, 26, 27, 28, 29, 30, 31, 32, 33] (by decide +kernel) [99999] (by decide +kernel) fun R13 hR13 => ?_
     simp only [pv_all hs1, pvs, Path.v_eq, hwr3, ty3, ty9, ty31, ty49, ty64, ty66, ty77, ty132, List.append_eq, undef, aml, Nat.reduceBEq, am, seval, reduceCtorEq]
     refine gTL (fun hg10_3 => ?_) (fun hg10_3 => ?_)
     ·simp only [pv_all hs1, pvs, Path.v_eq, hwr3, hg10_3, ty3, ty9, ty31, ty49, ty64, ty66, ty77, ty132, List.append_eq, undef, aml, Nat.reduceBEq, am, seval, reduceCtorEq]
      refine gTL (fun hg10_9 => ?_) (fun hg10_9 => ?_)
      ·have he1 : 0 < x.eq.length := by have := eq_of_beq hg10_9; omega
       have ixa : ((0 : Int) ≤ 0) = True := by simp
       have ixe : ((0 : Int) < ((x.eq.length : Nat) : Int)) = True := by simp [he1]
       have hge : (x.eq.map Term.v).getD 0 [] = (x.eq.getD 0 zterm).v := by simp [List.getD_eq_getElem?_getD, he1]
       have hwe : (x.eq.getD 0 zterm).w ≤ 274945015808 := hx.eq _ (by simp [List.getD_eq_getElem?_getD, he1])
       simp only [pv_all hs1, pvs, Path.v_eq, hwr3, hg10_3, hg10_9, ixa, ixe, true_and, Int.toNat_zero, hge, tvs, ty3, ty9, ty31, ty49, ty64, ty66, ty77, ty132, List.append_eq, undef, aml, Nat.reduceBEq, am, seval, reduceCtorEq]
       refine gTL (fun hg10_19 => ?_) (fun hg10_19 => ?_)
       ·simp only [pv_all hs1, pvs, Path.v_eq, hwr3, hg10_3, hg10_9, ixa, ixe, true_and, Int.toNat_zero, hge, tvs, hg10_19, ty3, ty9, ty31, ty49, ty64, ty66, ty77, ty132, List.append_eq, undef, aml, Nat.reduceBEq, am, seval, reduceCtorEq]
        refine (f78_spec sc hs a k hk0 hk1 hnm _).mono fun v' s' h => ?_
        rw [h.1, h.2]; clear h v' s'
        simp only [pv_all hs1, pvs, Path.v_eq, hwr3, hg10_3, hg10_9, ixa, ixe, true_and, Int.toNat_zero, hge, tvs, hg10_19, ty3, ty9, ty31, ty49, ty64, ty66, ty77, ty132, List.append_eq, undef, aml, Nat.reduceBEq, am, seval, reduceCtorEq]
        refine (f77_spec sc hs1 a k hk0 hk1 hu [13] ahead (x.eq.getD 0 zterm) hwe (rowid (sc.table (a.src k).name).pk) 127 [.elt (sc.table (a.src k).name).v 0] (fun y => f127_spec _ y) _).mono fun v' s' h => ?_
        rw [h.1, h.2]; clear h v' s'
        simp only [pv_all hs1, pvs, Path.v_eq, hwr3, hg10_3, hg10_9, ixa, ixe, true_and, Int.toNat_zero, hge, tvs, hg10_19, ty3, ty9, ty31, ty49, ty64, ty66, ty77, ty132, List.append_eq, undef, aml, Nat.reduceBEq, am, seval, reduceCtorEq]
        refine hR13 _ ?_; clear hR13 R13
        refine AWp.ret ?_
        refine ret_intro (by show resV Tryz.prog _ [.tmp 8] = _; simp only [resV, am, seval, reduceCtorEq]; rfl) (Wk.refl _) (Heap.le.refl _) ⟨?_, rfl⟩
        simp only [pathOk, rowidOk, indexOk, noName, hN, hK, oneV, hc43, hc47, hc66, hg10_3, hg10_9, hg10_19, bo, Bool.not_true, Bool.not_false, ↓reduceIte, Bool.false_eq_true]
       ·simp only [pv_all hs1, pvs, Path.v_eq, hwr3, hg10_3, hg10_9, ixa, ixe, true_and, Int.toNat_zero, hge, tvs, hg10_19, ty3, ty9, ty31, ty49, ty64, ty66, ty77, ty132, List.append_eq, undef, aml, Nat.reduceBEq, am, seval, reduceCtorEq]
        refine hR13 _ ?_; clear hR13 R13
        refine AWp.ret ?_
        refine ret_intro (by show resV Tryz.prog _ [.tmp 8] = _; simp only [resV, am, seval, reduceCtorEq]; rfl) (Wk.refl _) (Heap.le.refl _) ⟨?_, rfl⟩
        simp only [pathOk, rowidOk, indexOk, noName, hN, hK, oneV, hc43, hc47, hc66, hg10_3, hg10_9, hg10_19, bo, Bool.not_true, Bool.not_false, ↓reduceIte, Bool.false_eq_true]
      ·simp only [pv_all hs1, pvs, Path.v_eq, hwr3, hg10_3, hg10_9, ty3, ty9, ty31, ty49, ty64, ty66, ty77, ty132, List.append_eq, undef, aml, Nat.reduceBEq, am, seval, reduceCtorEq]
       refine hR13 _ ?_; clear hR13 R13
       refine AWp.ret ?_
       refine ret_intro (by show resV Tryz.prog _ [.tmp 8] = _; simp only [resV, am, seval, reduceCtorEq]; rfl) (Wk.refl _) (Heap.le.refl _) ⟨?_, rfl⟩
       simp only [pathOk, rowidOk, indexOk, noName, hN, hK, oneV, hc43, hc47, hc66, hg10_3, hg10_9, bo, Bool.not_true, Bool.not_false, ↓reduceIte, Bool.false_eq_true]
     ·simp only [pv_all hs1, pvs, Path.v_eq, hwr3, hg10_3, ty3, ty9, ty31, ty49, ty64, ty66, ty77, ty132, List.append_eq, undef, aml, Nat.reduceBEq, am, seval, reduceCtorEq]
      refine hR13 _ ?_; clear hR13 R13
      refine AWp.ret ?_
      refine ret_intro (by show resV Tryz.prog _ [.tmp 8] = _; simp only [resV, am, seval, reduceCtorEq]; rfl) (Wk.refl _) (Heap.le.refl _) ⟨?_, rfl⟩
      simp only [pathOk, rowidOk, indexOk, noName, hN, hK, oneV, hc43, hc47, hc66, hg10_3, bo, Bool.not_true, Bool.not_false, ↓reduceIte, Bool.false_eq_true]
    ·refine AWp.reg fun R14 hR14 => ?_
     simp only [ty63, am, seval, reduceCtorEq]
     refine hR14 _ ?_; clear hR14 R14
     refine AWp.condK fun C1 C2 hC1 hC2 => ?_
     simp only [condP, hc43, hc47, hc66, am, seval, reduceCtorEq]
     refine ⟨fun hc101 => hC1 ?_, fun hc101 => hC2 ?_⟩ <;> clear hC1 hC2 C1 C2
     ·refine AWp.reg fun R15 hR15 => ?_
      simp only [pv_all hs1, pvs, Path.v_eq, Table.v_eq, ty9, ty66, ty77, ty137, am, seval, reduceCtorEq]
      refine (f79_spec sc hs1 a (sc.table (a.src k).name).name x.index _).mono fun v' s' h => ?_
      rw [h.1, h.2]; clear h v' s'
      simp only [hN, pv_all hs1, pvs, Path.v_eq, Table.v_eq, ty9, ty66, ty77, ty137, am, seval, reduceCtorEq]
      refine hR15 _ ?_; clear hR15 R15
      refine AWp.seq_k fun K16 hK16 => ?_
      refine AWp.regL mixed [0, 1, 2, 3, 4, 5, 6, 7, 8, 9, 10, 11, 12, 13, 14, 15] (by decide +kernel) [] (by decide +kernel) fun R17 hR17 => ?_
      simp only [pv_all hs1, pvs, Path.v_eq, ty3, ty23, ty26, ty31, ty49, ty66, ty77, ty145, ty147, ty149, undef, aml, Nat.reduceBEq, am, seval, reduceCtorEq]
      refine gFL (fun hg13_2 => ?_) (fun hg13_2 => ?_)
      ·obtain ⟨hn0, hn1⟩ := index_lt hN hg13_2
       have ixn0 : (0 ≤ N) = True := by simp [hn0]
       have ixn1 : (N < ((sc.indexes.length : Nat) : Int)) = True := by simp [hn1]
       have hgi : (sc.indexes.map Index.v).getD N.toNat [] = J.v := by rw [← hJ]; simp [List.getD_eq_getElem?_getD, show N.toNat < sc.indexes.length by omega]
       simp only [pv_all hs1, pvs, Path.v_eq, hg13_2, ixn0, ixn1, true_and, hgi, Index.v_eq, ty3, ty23, ty26, ty31, ty49, ty66, ty77, ty145, ty147, ty149, undef, aml, Nat.reduceBEq, am, seval, reduceCtorEq]
       refine hR17 _ ?_; clear hR17 R17
       refine AWp.condK fun C1 C2 hC1 hC2 => ?_
       simp only [condP, hc43, hc47, hc66, hc101, hg13_2, am, seval, reduceCtorEq]
       refine ⟨fun hc124 => hC1 ?_, fun hc124 => hC2 ?_⟩ <;> clear hC1 hC2 C1 C2
       ·refine AWp.reg fun R18 hR18 => ?_
        simp only [am, seval, reduceCtorEq]
        refine hR18 _ ?_; clear hR18 R18
        refine AWp.ret ?_
        refine ret_intro (by show resV Tryz.prog _ [.tmp 8] = _; simp only [resV, am, seval, reduceCtorEq]; rfl) (Wk.refl _) (Heap.le.refl _) ⟨?_, rfl⟩
        simp only [pathOk, rowidOk, indexOk, noName, hN, hK, oneV, hc43, hc47, hc66, hc101, hg13_2, hc124, bo, Bool.not_true, Bool.not_false, ↓reduceIte, Bool.false_eq_true]
       ·have hle : x.eq.length ≤ J.keys.length := by have := of_decide_eq_false hc124; omega
        refine AWp.skip ?_
        refine hK16 _ ?_; clear hK16
        refine AWp.reg fun R19 hR19 => ?_
        simp only [pv_all hs1, pvs, Path.v_eq, ixn0, ixn1, true_and, hgi, Index.v_eq, ty23, ty26, ty77, ty145, ty147, ty149, am, seval, reduceCtorEq]
        refine hR19 _ ?_; clear hR19 R19
        refine AWp.seq_k fun K20 hK20 => ?_
        refine AWp.reg fun R21 hR21 => ?_
        simp only [Path.v_eq, ty31, ty49, ty66, am, seval, reduceCtorEq]
        refine hR21 _ ?_; clear hR21 R21
        refine AWp.block ?_
        refine AWp.slen 133 (sz := 14) (es := x.eq.map Term.v) (by simp only [am, seval, reduceCtorEq]) fun hmax => ?_
        have hmx := maxLen_lt; rw [List.length_map] at hmax
        refine AWp.loopT (ι := Nat) (fun i => i ≤ x.eq.length ∧ eqs a k ahead x.eq J.keys = eqs a k ahead (x.eq.drop i) (J.keys.drop i)) (fun i => tst [(1, vint k), (3, vints ahead), (4, .loc 4 0), (6, .loc 6 0), (12, .slice 1 [[vint 13]]), (14, .slice 3 (J.keys.map Sorted.v)), (133, .slice 14 (x.eq.map Term.v)), (134, vint x.eq.length), (135, vint i)] [(4, (sc.v ++ a.v, 77)), (6, (x.v, 66))] s 174) (fun i => x.eq.length - i) 0 ⟨⟨Nat.zero_le _, rfl⟩, ?_⟩ ?_
        ·refine le_tst ?_ ?_ ?_ (Heap.le.refl _) rfl
         ·simp only [leE, Path.v_eq, am, seval, reduceCtorEq] <;> simp
         ·simp only [oks, Nat.reduceBEq]
         ·simp only [leB, Path.v_eq, am, seval, reduceCtorEq]
        ·rintro i ⟨hi_, hinv⟩
         refine AWp.reg fun R22 hR22 => ?_
         simp only [ty3, am, seval, reduceCtorEq]
         refine hR22 _ ?_; clear hR22 R22
         refine AWp.seq_k fun K23 hK23 => ?_
         refine AWp.cond (t := decide ((i:Int) < (x.eq.length : Nat))) (by simp only [am, seval, reduceCtorEq]) (fun ht_ => ?_) (fun ht_ => ?_)
         ·have hlt_ : i < x.eq.length := lt_of_dec ht_
          have ix0_ : (0 ≤ (i : Int)) = True := by simp
          have ix1_ : ((i : Int) < ((x.eq.length : Nat) : Int)) = True := by simp [hlt_]
          have hltk : i < J.keys.length := by omega
          have ixk : (((i : Nat) : Int) < ((J.keys.length : Nat) : Int)) = True := by simp [hltk]
          refine AWp.skip ?_
          refine hK23 _ ?_; clear hK23
          refine AWp.seq_k fun K24 hK24 => ?_
          refine AWp.block ?_
          refine AWp.reg fun R25 hR25 => ?_
          simp only [tvs, ix0_, ix1_, true_and, getD_map _ _ _ hlt_, ty31, ty49, am, seval, reduceCtorEq]
          refine hR25 _ ?_; clear hR25 R25
          refine AWp.regL mixed [0, 1, 2, 3, 4, 5, 6, 7, 8, 9, 10, 11] (by decide +kernel) [99999] (by decide +kernel) fun R26 hR26 => ?_
          simp only [pv_all hs1, pvs, tvs, ix0_, ixk, true_and, getD_map _ _ _ hltk, Sorted.v_eq, ty49, ty77, ty145, ty149, aml, Nat.reduceBEq, am, seval, reduceCtorEq]
          rw [← Sorted.v_eq]
          refine (f80_spec _ _).mono fun v' s' h => ?_
          rw [h.1, h.2]; clear h v' s'
          simp only [pv_all hs1, pvs, tvs, ix0_, ixk, true_and, getD_map _ _ _ hltk, Sorted.v_eq, ty49, ty77, ty145, ty149, aml, Nat.reduceBEq, am, seval, reduceCtorEq]
          simp only [← Sorted.v_eq]
          refine (f77_spec sc hs1 a k hk0 hk1 hu [13] ahead x.eq[i] (hx.eq _ (List.getElem_mem hlt_)) (keyed J.keys[i]) 130 [.elt J.keys[i].v 0] (fun y => f130_spec J.keys[i] y) _).mono fun v' s' h => ?_
          rw [h.1, h.2]; clear h v' s'
          simp only [pv_all hs1, pvs, tvs, ix0_, ixk, true_and, getD_map _ _ _ hltk, Sorted.v_eq, ty49, ty77, ty145, ty149, aml, Nat.reduceBEq, am, seval, reduceCtorEq]
          refine hR26 _ ?_; clear hR26 R26
          refine AWp.condK fun C1 C2 hC1 hC2 => ?_
          simp only [condP, hc43, hc47, hc66, hc101, hg13_2, hc124, am, seval, reduceCtorEq]
          refine ⟨fun hc151 => hC1 ?_, fun hc151 => hC2 ?_⟩ <;> clear hC1 hC2 C1 C2
          ·refine AWp.reg fun R27 hR27 => ?_
           simp only [am, seval, reduceCtorEq]
           refine hR27 _ ?_; clear hR27 R27
           refine AWp.ret ?_
           refine ret_intro (by show resV Tryz.prog _ [.tmp 8] = _; simp only [resV, am, seval, reduceCtorEq]; rfl) (Wk.refl _) (Heap.le.refl _) ⟨?_, rfl⟩
           simp only [pathOk, rowidOk, indexOk, noName, hN, hK, oneV, hinv, eqs_false hlt_ hltk hc151, hc43, hc47, hc66, hc101, hg13_2, hc124, hc151, bo, Bool.not_true, Bool.not_false, ↓reduceIte, Bool.false_eq_true]
          ·refine AWp.skip ?_
           refine hK24 _ ?_; clear hK24
           refine AWp.reg1 fun R28 hR28 => ?_
           simp only [ty3, am, seval, reduceCtorEq]
           refine hR28 _ ?_; clear hR28 R28
           refine ⟨i + 1, ⟨⟨hlt_, by rw [hinv, eqs_step hlt_ hltk hc151]⟩, by omega⟩, ?_⟩
           refine le_tst ?_ ?_ ?_ (Heap.le.refl _) rfl
           ·simp only [leE, Path.v_eq, am, seval, reduceCtorEq]; rw [wrap_id (by omega) (by omega)]; simp
           ·simp only [oks, Nat.reduceBEq]
           ·simp only [leB, Path.v_eq, am, seval, reduceCtorEq]
         ·obtain rfl : i = x.eq.length := eq_of_dec ht_ hi_
          have heqs : eqs a k ahead x.eq J.keys = true := by rw [hinv, List.drop_length]; simp only [eqs]
          have hsl1 : (0 ≤ ((x.eq.length : Nat) : Int)) = True := by simp
          have hsl2 : (((x.eq.length : Nat) : Int) ≤ ((J.keys.length : Nat) : Int)) = True := by simp [hle]
          have hsl3 : (((J.keys.length : Nat) : Int) ≤ ((J.keys.length : Nat) : Int)) = True := by simp
          have hslv : List.take ((((J.keys.length : Nat) : Int).toNat) - (((x.eq.length : Nat) : Int).toNat)) (List.drop (((x.eq.length : Nat) : Int).toNat) (J.keys.map Sorted.v)) = (J.keys.drop x.eq.length).map Sorted.v := by
           rw [Int.toNat_natCast, Int.toNat_natCast, List.map_drop, List.take_of_length_le (by simp)]
          refine AWp.exit ?_
          simp only [exq, seval]
          refine hK20 _ ?_; clear hK20
          refine AWp.reg fun R29 hR29 => ?_
          simp only [Path.v_eq, hsl1, hsl2, hsl3, true_and, hslv, ty31, ty49, ty66, ty145, ty149, am, seval, reduceCtorEq]
          refine hR29 _ ?_; clear hR29 R29
          refine AWp.reg fun R30 hR30 => ?_
          simp only [pv_all hs1, pvs, Path.v_eq, ty64, ty66, ty77, ty132, undef, am, seval, reduceCtorEq]
          refine (f81_spec sc hs1 a k hk0 hk1 hu x.low hx.low ahead 17 18 (J.keys.drop x.eq.length) _).mono fun v' s' h => ?_
          rw [h.1, h.2]; clear h v' s'
          simp only [pv_all hs1, pvs, Path.v_eq, ty64, ty66, ty77, ty132, undef, am, seval, reduceCtorEq]
          refine gT (fun hg23_7 => ?_) (fun hg23_7 => ?_)
          ·simp only [pv_all hs1, pvs, Path.v_eq, hg23_7, ty64, ty66, ty77, ty132, undef, am, seval, reduceCtorEq]
           refine (f81_spec sc hs1 a k hk0 hk1 hu x.high hx.high ahead 15 16 (J.keys.drop x.eq.length) _).mono fun v' s' h => ?_
           rw [h.1, h.2]; clear h v' s'
           simp only [pv_all hs1, pvs, Path.v_eq, hg23_7, ty64, ty66, ty77, ty132, undef, am, seval, reduceCtorEq]
           refine hR30 _ ?_; clear hR30 R30
           refine AWp.ret ?_
           refine ret_intro (by show resV Tryz.prog _ [.tmp 8] = _; simp only [resV, am, seval, reduceCtorEq]; rfl) (Wk.refl _) (Heap.le.refl _) ⟨?_, rfl⟩
           simp only [pathOk, rowidOk, indexOk, noName, hN, hK, oneV, hc43, hc47, hc66, hc101, hg13_2, hc124, hg23_7, heqs, bo, Bool.not_true, Bool.not_false, ↓reduceIte, Bool.false_eq_true]
          ·simp only [pv_all hs1, pvs, Path.v_eq, hg23_7, ty64, ty66, ty77, ty132, undef, am, seval, reduceCtorEq]
           refine hR30 _ ?_; clear hR30 R30
           refine AWp.ret ?_
           refine ret_intro (by show resV Tryz.prog _ [.tmp 8] = _; simp only [resV, am, seval, reduceCtorEq]; rfl) (Wk.refl _) (Heap.le.refl _) ⟨?_, rfl⟩
           simp only [pathOk, rowidOk, indexOk, noName, hN, hK, oneV, hc43, hc47, hc66, hc101, hg13_2, hc124, hg23_7, heqs, bo, Bool.not_true, Bool.not_false, ↓reduceIte, Bool.false_eq_true]
      ·simp only [pv_all hs1, pvs, Path.v_eq, hg13_2, ty3, ty23, ty26, ty31, ty49, ty66, ty77, ty145, ty147, ty149, undef, aml, Nat.reduceBEq, am, seval, reduceCtorEq]
       refine hR17 _ ?_; clear hR17 R17
       refine AWp.cond (t := true) (by simp only [am, seval, reduceCtorEq]) (fun _ => ?_) (fun h => by cases h)
       refine AWp.reg fun R18 hR18 => ?_
       simp only [am, seval, reduceCtorEq]
       refine hR18 _ ?_; clear hR18 R18
       refine AWp.ret ?_
       refine ret_intro (by show resV Tryz.prog _ [.tmp 8] = _; simp only [resV, am, seval, reduceCtorEq]; rfl) (Wk.refl _) (Heap.le.refl _) ⟨?_, rfl⟩
       simp only [pathOk, rowidOk, indexOk, noName, hN, hK, oneV, hc43, hc47, hc66, hc101, hg13_2, bo, Bool.not_true, Bool.not_false, ↓reduceIte, Bool.false_eq_true]
     ·refine AWp.skip ?_
      refine hK8 _ ?_; clear hK8
      refine AWp.reg fun R19 hR19 => ?_
      simp only [am, seval, reduceCtorEq]
      refine hR19 _ ?_; clear hR19 R19
      refine AWp.ret ?_
      refine ret_intro (by show resV Tryz.prog _ [.tmp 8] = _; simp only [resV, am, seval, reduceCtorEq]; rfl) (Wk.refl _) (Heap.le.refl _) ⟨?_, rfl⟩
      simp only [pathOk, rowidOk, indexOk, noName, hN, hK, oneV, hc43, hc47, hc66, hc101, bo, Bool.not_true, Bool.not_false, ↓reduceIte, Bool.false_eq_true]
end Go.Proofs.YtcckhbconihagaaGreatDoor
set_option linter.unusedSimpArgs false
set_option linter.unusedVariables false
set_option maxRecDepth 100000
namespace Go.Proofs.YtcckhbconihagaaGreatDoor
open Go.Am Go.Pl
theorem Step.v_all (t : Step) : t.v.all V.isCell = true := by rw [Step.v_eq]; rfl
theorem Step.v_take (t : Step) : t.v.take 7 = t.v := List.take_of_length_le (by rw [Step.v_len]; exact Nat.le_refl _)
theorem Step.v_frm (t : Step) : t.v[0]? = some (vint t.frm) := by rw [Step.v_eq]; rfl
theorem Step.v_path (t : Step) : (t.v.drop 1).take 5 = t.path.v := by rw [Step.v_eq]; rfl
theorem Step.v_whr (t : Step) : t.v[6]? = some (vints t.whr) := by rw [Step.v_eq]; rfl
structure MSt where
  i : Nat
  g1 : Nat
  g2 : Nat
  ahead : List Int
  met : List Int
structure MIn where
  j : Nat
  g3 : Nat
  g4 : Nat
  met : List Int
/-- What is asked of an arm. -/
structure PArm (a : Arm) : Prop where
  whr : ∀ t ∈ a.whr, t.w ≤ 274945015808
  on : ∀ k : Int, 0 ≤ k → k < ((a.frm.length : Nat) : Int) → ∀ t ∈ (a.src k).on, t.w ≤ 274945015808
  u : ∀ k : Int, 0 ≤ k → k < ((a.frm.length : Nat) : Int) → UOk a k
  nm : ∀ k : Int, 0 ≤ k → k < ((a.frm.length : Nat) : Int) → (a.src k).name.size ≤ 2^62
  path : ∀ x ∈ a.steps, XOk x.path
  whl : ∀ x ∈ a.steps, x.whr.length ≤ 274945015808
  steps : a.steps.length ≤ 274945015808
  sum : (a.steps.map fun x => x.whr.length).sum ≤ 274945015808
theorem own_fresh2 {s : Heap} {g1 g2 g3 : Nat} {x y : TypeId × Nat} (h : ((s.setOwn g1 (some x)).setOwn g2 (some y)).own g3 = none) : (s.setOwn g1 (some x)).own g3 = none := own_fresh h
theorem own_under2 {s : Heap} {g1 g2 g3 : Nat} {x y : TypeId × Nat} (h1 : s.own g1 = none) (h2 : (s.setOwn g1 (some x)).own g2 = none) (h3 : ((s.setOwn g1 (some x)).setOwn g2 (some y)).own g3 = none) : (s.setOwn g3 (some x)).own g2 = none := by
  have hne : g2 ≠ g3 := fun e => by subst e; rw [own_same] at h3; cases h3
  simp only [Heap.setOwn, upd_other _ _ _ _ hne]
  exact own_fresh h2
theorem own_swap {s : Heap} {g1 g2 g3 : Nat} {x y : TypeId × Nat} (h1 : s.own g1 = none) (h2 : (s.setOwn g1 (some x)).own g2 = none) (h3 : ((s.setOwn g1 (some x)).setOwn g2 (some y)).own g3 = none) :
    ((((s.setOwn g1 (some x)).setOwn g2 (some y)).setOwn g1 none).setOwn g3 (some x)).le ((s.setOwn g3 (some x)).setOwn g2 (some y)) := by
  have hne2 : g2 ≠ g1 := own_ne h2
  have hne : g2 ≠ g3 := fun e => by subst e; rw [own_same] at h3; cases h3
  refine ⟨fun b => .inl rfl, fun k => .inl ?_⟩
  simp only [Heap.setOwn, upd]
  by_cases e3 : k = g3
  · subst e3; simp [hne.symm]
  · by_cases e2 : k = g2
    · subst e2; simp [e3, hne2]
    · by_cases e1 : k = g1
      · subst e1; simp [e3, e2, h1]
      · simp [e3, e2, e1]
theorem own_top {s : Heap} {g3 g4 g5 : Nat} {x y : TypeId × Nat} (h4 : (s.setOwn g3 (some x)).own g4 = none) (h5 : ((s.setOwn g3 (some x)).setOwn g4 (some y)).own g5 = none) :
    ((((s.setOwn g3 (some x)).setOwn g4 (some y)).setOwn g4 none).setOwn g5 (some y)).le ((s.setOwn g3 (some x)).setOwn g5 (some y)) := by
  refine ⟨fun b => .inl rfl, fun k => .inl ?_⟩
  simp only [Heap.setOwn] at h4 ⊢
  by_cases e5 : k = g5
  · subst e5; simp only [upd_same]
  · by_cases e4 : k = g4
    · subst e4; rw [upd_other _ _ _ _ e5, upd_other _ _ _ _ e5, upd_same, h4]
    · simp only [upd_other _ _ _ _ e5, upd_other _ _ _ _ e4]
theorem own_drop2' {s : Heap} {g1 g2 : Nat} {x y : TypeId × Nat} (h1 : s.own g1 = none) (h2 : (s.setOwn g1 (some x)).own g2 = none) : ((s.setOwn g1 (some x)).setOwn g2 (some y)).le s := (own_drop h2 _).trans (own_drop h1 _)
theorem f21_all (sc : Schema) (hs : SchOk sc) (a : Arm) (ha : PArm a) : Gives Tryz.prog 21 [.agg (sc.v ++ a.v)] (vbool (armOk sc a)) := by
 have hs1 := hs.1
 intro s
 refine acalls_of (fn := Tryz.f21) Tryz.func21 rfl (by decide) (by show 1 ≤ 113; decide) ?_
 rw [Tryz.ntmps21]
 refine AWp.reg fun R1 hR1 => ?_
 simp only [pv_all hs1, pvs, ty77, am, seval, reduceCtorEq]
 refine hR1 _ ?_; clear hR1 R1
 refine AWp.reg fun R2 hR2 => ?_
 simp only [am, seval, reduceCtorEq]
 refine hR2 _ ?_; clear hR2 R2
 refine AWp.reg fun R3 hR3 => ?_
 simp only [am, seval, reduceCtorEq]
 refine hR3 _ ?_; clear hR3 R3
 refine AWp.seq_k fun K4 hK4 => ?_
 refine AWp.reg fun R5 hR5 => ?_
 simp only [pv_all hs1, pvs, ty68, ty69, ty75, ty77, am, seval, reduceCtorEq]
 refine hR5 _ ?_; clear hR5 R5
 refine AWp.block ?_
 refine AWp.adoptE 3 (3, 1) (.inl (by simp only [am, seval, reduceCtorEq])) fun g1 hg1 => ?_
 change s.own g1 = none at hg1
 refine AWp.adoptE 4 (3, 1) (.inl (by simp only [am, seval, reduceCtorEq])) fun g2 hg2 => ?_
 change (s.setOwn g1 (some (3, 1))).own g2 = none at hg2
 refine AWp.loopT (ι := MSt) (fun q => q.i ≤ a.steps.length ∧ s.own q.g1 = none ∧ (s.setOwn q.g1 (some (3, 1))).own q.g2 = none ∧ stepsOk sc a [] [] a.steps = stepsOk sc a q.ahead q.met (a.steps.drop q.i) ∧ q.ahead.length = q.i ∧ q.met.length + ((a.steps.drop q.i).map fun x => x.whr.length).sum ≤ 274945015808) (fun q => tst [(1, .loc 1 0), (3, .own q.g1 1 (q.ahead.map (fun x => [vint x]))), (4, .own q.g2 1 (q.met.map (fun x => [vint x]))), (11, .slice 7 (a.steps.map Step.v)), (12, vint a.steps.length), (13, vint q.i)] [(1, (sc.v ++ a.v, 77))] ((s.setOwn q.g1 (some (3, 1))).setOwn q.g2 (some (3, 1))) 113) (fun q => a.steps.length - q.i) ⟨0, g1, g2, [], []⟩ ⟨⟨Nat.zero_le _, hg1, hg2, rfl, rfl, by simpa using ha.sum⟩, ?_⟩ ?_
 ·refine le_tst ?_ ?_ ?_ (Heap.le.refl _) rfl
  ·simp only [leE, am, seval, reduceCtorEq] <;> simp
  ·simp only [oks, Nat.reduceBEq]
  ·simp only [leB, am, seval, reduceCtorEq]
 ·rintro ⟨i, g1, g2, ahead, met⟩ ⟨hi, hg1, hg2, hinv, hal, hml⟩
  simp only at hi hg1 hg2 hinv hal hml ⊢
  have hsl := ha.steps
  refine AWp.reg fun R6 hR6 => ?_
  simp only [ty3, am, seval, reduceCtorEq]
  refine hR6 _ ?_; clear hR6 R6
  refine AWp.seq_k fun K7 hK7 => ?_
  refine AWp.cond (t := decide ((i:Int) < (a.steps.length : Nat))) (by simp only [am, seval, reduceCtorEq]) (fun ht => ?_) (fun ht => ?_)
  ·have hlt : i < a.steps.length := lt_of_dec ht
   have ix0 : (0 ≤ (i : Int)) = True := by simp
   have ix1 : ((i : Int) < ((a.steps.length : Nat) : Int)) = True := by simp [hlt]
   obtain ⟨x, hx⟩ : ∃ x, a.steps[i] = x := ⟨_, rfl⟩
   have hxm : x ∈ a.steps := by rw [← hx]; exact List.getElem_mem hlt
   have hdrop : a.steps.drop i = x :: a.steps.drop (i + 1) := by rw [List.drop_eq_getElem_cons hlt, hx]
   have hgs : (a.steps.map Step.v).getD (i : Int).toNat [] = x.v := by rw [getD_map _ _ _ hlt, hx]
   refine AWp.skip ?_
   refine hK7 _ ?_; clear hK7
   refine AWp.seq_k fun K8 hK8 => ?_
   refine AWp.block ?_
   refine AWp.reg fun R9 hR9 => ?_
   simp only [ix0, ix1, true_and, hgs, Step.v_len, Step.v_all, Step.v_take, Step.v_frm, Step.v_path, Step.v_whr, ty68, ty69, am, seval, reduceCtorEq]
   refine hR9 _ ?_; clear hR9 R9
   refine AWp.seq_k fun K10 hK10 => ?_
   refine AWp.seq_cut (ι := Unit) (fun _ => True) (fun _ => tst [(1, .loc 1 0), (3, .own g1 1 (ahead.map (fun x => [vint x]))), (4, .own g2 1 (met.map (fun x => [vint x]))), (6, .loc 6 0), (11, .slice 7 (a.steps.map Step.v)), (12, vint a.steps.length), (13, vint i), (52, vbool (stepBad sc a ahead x))] [(1, (sc.v ++ a.v, 77)), (6, (x.v, 68))] ((s.setOwn g1 (some (3, 1))).setOwn g2 (some (3, 1))) 113) ?_ ?_
   ·refine AWp.reg1 fun R11 hR11 => ?_
    simp only [pv_all hs1, pvs, Step.v_len, Step.v_all, Step.v_take, Step.v_frm, Step.v_path, Step.v_whr, ty3, ty66, ty68, ty72, ty75, ty77, ty107, List.append_eq, undef, am, seval, reduceCtorEq]
    refine gF (fun hg6_3 => ?_) (fun hg6_3 => ?_)
    ·simp only [pv_all hs1, pvs, Step.v_len, Step.v_all, Step.v_take, Step.v_frm, Step.v_path, Step.v_whr, hg6_3, ty3, ty66, ty68, ty72, ty75, ty77, ty107, List.append_eq, undef, am, seval, reduceCtorEq]
     refine gF (fun hg6_12 => ?_) (fun hg6_12 => ?_)
     ·have hk0 : 0 ≤ x.frm := by have := of_decide_eq_false hg6_3; omega
      have hk1 : x.frm < ((a.frm.length : Nat) : Int) := by have := of_decide_eq_false hg6_12; omega
      simp only [pv_all hs1, pvs, Step.v_len, Step.v_all, Step.v_take, Step.v_frm, Step.v_path, Step.v_whr, hg6_3, hg6_12, ty3, ty66, ty68, ty72, ty75, ty77, ty107, List.append_eq, undef, am, seval, reduceCtorEq]
      refine ((f47_spec ahead x.frm _).own1).mono fun v' s' h => ?_
      rw [h.1, h.2]; clear h v' s'
      simp only [pv_all hs1, pvs, Step.v_len, Step.v_all, Step.v_take, Step.v_frm, Step.v_path, Step.v_whr, hg6_3, hg6_12, ty3, ty66, ty68, ty72, ty75, ty77, ty107, List.append_eq, undef, am, seval, reduceCtorEq]
      refine gF (fun hg6_18 => ?_) (fun hg6_18 => ?_)
      ·simp only [pv_all hs1, pvs, Step.v_len, Step.v_all, Step.v_take, Step.v_frm, Step.v_path, Step.v_whr, hg6_3, hg6_12, hg6_18, ty3, ty66, ty68, ty72, ty75, ty77, ty107, List.append_eq, undef, am, seval, reduceCtorEq]
       refine ((f48_spec (.slice 3 (sc.tables.map Table.v)) (.slice 5 (sc.indexes.map Index.v)) sc.views rfl rfl hs.1 a x.frm hk0 hk1 ahead (by omega) (ha.on x.frm hk0 hk1) _).own3).mono fun v' s' h => ?_
       rw [h.1, h.2]; clear h v' s'
       simp only [pv_all hs1, pvs, Step.v_len, Step.v_all, Step.v_take, Step.v_frm, Step.v_path, Step.v_whr, hg6_3, hg6_12, hg6_18, ty3, ty66, ty68, ty72, ty75, ty77, ty107, List.append_eq, undef, am, seval, reduceCtorEq]
       refine gF (fun hg6_26 => ?_) (fun hg6_26 => ?_)
       ·simp only [pv_all hs1, pvs, Step.v_len, Step.v_all, Step.v_take, Step.v_frm, Step.v_path, Step.v_whr, hg6_3, hg6_12, hg6_18, hg6_26, ty3, ty66, ty68, ty72, ty75, ty77, ty107, List.append_eq, undef, am, seval, reduceCtorEq]
        refine ((f49_spec sc hs a x.frm hk0 hk1 (ha.u x.frm hk0 hk1) (ha.nm x.frm hk0 hk1) x.path (ha.path x hxm) ahead _).own4).mono fun v' s' h => ?_
        rw [h.1, h.2]; clear h v' s'
        simp only [pv_all hs1, pvs, Step.v_len, Step.v_all, Step.v_take, Step.v_frm, Step.v_path, Step.v_whr, hg6_3, hg6_12, hg6_18, hg6_26, ty3, ty66, ty68, ty72, ty75, ty77, ty107, List.append_eq, undef, am, seval, reduceCtorEq]
        refine hR11 _ ?_; clear hR11 R11
        refine ⟨(), trivial, ?_⟩
        refine le_tst ?_ ?_ ?_ (Heap.le.refl _) rfl
        ·simp only [leE, stepBad, hg6_3, hg6_12, hg6_18, hg6_26, bo, Bool.not_true, Bool.not_false, ↓reduceIte, Bool.false_eq_true, am, seval, reduceCtorEq]
        ·simp only [oks, Nat.reduceBEq]
        ·simp only [leB, stepBad, hg6_3, hg6_12, hg6_18, hg6_26, bo, Bool.not_true, Bool.not_false, ↓reduceIte, Bool.false_eq_true, am, seval, reduceCtorEq]
       ·simp only [pv_all hs1, pvs, Step.v_len, Step.v_all, Step.v_take, Step.v_frm, Step.v_path, Step.v_whr, hg6_3, hg6_12, hg6_18, hg6_26, ty3, ty66, ty68, ty72, ty75, ty77, ty107, List.append_eq, undef, am, seval, reduceCtorEq]
        refine hR11 _ ?_; clear hR11 R11
        refine ⟨(), trivial, ?_⟩
        refine le_tst ?_ ?_ ?_ (Heap.le.refl _) rfl
        ·simp only [leE, stepBad, hg6_3, hg6_12, hg6_18, hg6_26, bo, Bool.not_true, Bool.not_false, ↓reduceIte, Bool.false_eq_true, am, seval, reduceCtorEq]
        ·simp only [oks, Nat.reduceBEq]
        ·simp only [leB, stepBad, hg6_3, hg6_12, hg6_18, hg6_26, bo, Bool.not_true, Bool.not_false, ↓reduceIte, Bool.false_eq_true, am, seval, reduceCtorEq]
      ·simp only [pv_all hs1, pvs, Step.v_len, Step.v_all, Step.v_take, Step.v_frm, Step.v_path, Step.v_whr, hg6_3, hg6_12, hg6_18, ty3, ty66, ty68, ty72, ty75, ty77, ty107, List.append_eq, undef, am, seval, reduceCtorEq]
       refine hR11 _ ?_; clear hR11 R11
       refine ⟨(), trivial, ?_⟩
       refine le_tst ?_ ?_ ?_ (Heap.le.refl _) rfl
       ·simp only [leE, stepBad, hg6_3, hg6_12, hg6_18, bo, Bool.not_true, Bool.not_false, ↓reduceIte, Bool.false_eq_true, am, seval, reduceCtorEq]
       ·simp only [oks, Nat.reduceBEq]
       ·simp only [leB, stepBad, hg6_3, hg6_12, hg6_18, bo, Bool.not_true, Bool.not_false, ↓reduceIte, Bool.false_eq_true, am, seval, reduceCtorEq]
     ·simp only [pv_all hs1, pvs, Step.v_len, Step.v_all, Step.v_take, Step.v_frm, Step.v_path, Step.v_whr, hg6_3, hg6_12, ty3, ty66, ty68, ty72, ty75, ty77, ty107, List.append_eq, undef, am, seval, reduceCtorEq]
      refine hR11 _ ?_; clear hR11 R11
      refine ⟨(), trivial, ?_⟩
      refine le_tst ?_ ?_ ?_ (Heap.le.refl _) rfl
      ·simp only [leE, stepBad, hg6_3, hg6_12, bo, Bool.not_true, Bool.not_false, ↓reduceIte, Bool.false_eq_true, am, seval, reduceCtorEq]
      ·simp only [oks, Nat.reduceBEq]
      ·simp only [leB, stepBad, hg6_3, hg6_12, bo, Bool.not_true, Bool.not_false, ↓reduceIte, Bool.false_eq_true, am, seval, reduceCtorEq]
    ·simp only [pv_all hs1, pvs, Step.v_len, Step.v_all, Step.v_take, Step.v_frm, Step.v_path, Step.v_whr, hg6_3, ty3, ty66, ty68, ty72, ty75, ty77, ty107, List.append_eq, undef, am, seval, reduceCtorEq]
     refine hR11 _ ?_; clear hR11 R11
     refine ⟨(), trivial, ?_⟩
     refine le_tst ?_ ?_ ?_ (Heap.le.refl _) rfl
     ·simp only [leE, stepBad, hg6_3, bo, Bool.not_true, Bool.not_false, ↓reduceIte, Bool.false_eq_true, am, seval, reduceCtorEq]
     ·simp only [oks, Nat.reduceBEq]
     ·simp only [leB, stepBad, hg6_3, bo, Bool.not_true, Bool.not_false, ↓reduceIte, Bool.false_eq_true, am, seval, reduceCtorEq]
   ·rintro ⟨⟩ _
    refine AWp.cond (t := stepBad sc a ahead x) (by simp only [am, seval, reduceCtorEq]) (fun hx6 => ?_) (fun hx6 => ?_)
    ·refine AWp.reg fun R12 hR12 => ?_
     simp only [am, seval, reduceCtorEq]
     refine hR12 _ ?_; clear hR12 R12
     refine AWp.ret ?_
     refine ret_intro (by show resV Tryz.prog _ [.tmp 2] = _; simp only [resV, am, seval, reduceCtorEq]; rfl) (Wk.refl _) (own_drop2' hg1 hg2) ⟨?_, rfl⟩
     simp only [oneV, armOk]; rw [hinv, hdrop]; simp only [stepsOk]; rw [hx6]; simp only [↓reduceIte]
    ·refine AWp.skip ?_
     refine hK10 _ ?_; clear hK10
     refine AWp.reg fun R13 hR13 => ?_
     simp only [Step.v_len, Step.v_all, Step.v_take, Step.v_frm, Step.v_path, Step.v_whr, ty3, ty50, ty68, am, seval, reduceCtorEq]
     refine ⟨own_under hg2 _, by omega, by unfold maxLen; omega, fun g3 hg3 => ?_⟩
     refine hR13 _ ?_; clear hR13 R13
     refine AWp.reg fun R14 hR14 => ?_
     simp only [Step.v_len, Step.v_all, Step.v_take, Step.v_frm, Step.v_path, Step.v_whr, ty3, ty50, ty68, am, seval, reduceCtorEq]
     refine hR14 _ ?_; clear hR14 R14
     refine AWp.block ?_
     refine AWp.loopT (ι := MIn) (fun q => q.j ≤ x.whr.length ∧ s.own q.g3 = none ∧ (s.setOwn q.g3 (some (3, 1))).own q.g4 = none ∧ whereOk a (ahead ++ [x.frm]) met x.whr = whereOk a (ahead ++ [x.frm]) q.met (x.whr.drop q.j) ∧ q.met.length = met.length + q.j) (fun q => tst [(1, .loc 1 0), (3, .own q.g3 1 ((ahead ++ [x.frm]).map (fun x => [vint x]))), (4, .own q.g4 1 (q.met.map (fun x => [vint x]))), (11, .slice 7 (a.steps.map Step.v)), (12, vint a.steps.length), (13, vint i), (59, vints x.whr), (60, vint x.whr.length), (61, vint q.j)] [(1, (sc.v ++ a.v, 77))] ((s.setOwn q.g3 (some (3, 1))).setOwn q.g4 (some (3, 1))) 113) (fun q => x.whr.length - q.j) ⟨0, g3, g2, met⟩ ⟨⟨Nat.zero_le _, own_fresh (own_fresh2 hg3), own_under2 hg1 hg2 hg3, rfl, by simp⟩, ?_⟩ ?_
     ·refine le_tst ?_ ?_ ?_ (own_swap hg1 hg2 hg3) rfl
      ·simp only [leE, am, seval, reduceCtorEq]; rw [List.map_append]; simp
      ·simp only [oks, Nat.reduceBEq]
      ·simp only [leB, am, seval, reduceCtorEq]
     ·clear hg3 g3
      rintro ⟨j, g3, g4, met'⟩ ⟨hij, hg3, hg4, hinvj, hmj⟩
      simp only at hij hg3 hg4 hinvj hmj ⊢
      have hxl : x.whr.length ≤ 274945015808 := by have := ha.whl x hxm; omega
      have hmm : met'.length ≤ 549890031616 := by rw [hdrop] at hml; simp only [List.map_cons, List.sum_cons] at hml; omega
      refine AWp.reg fun R15 hR15 => ?_
      simp only [ty3, am, seval, reduceCtorEq]
      refine hR15 _ ?_; clear hR15 R15
      refine AWp.seq_k fun K16 hK16 => ?_
      refine AWp.cond (t := decide ((j:Int) < (x.whr.length : Nat))) (by simp only [am, seval, reduceCtorEq]) (fun htj => ?_) (fun htj => ?_)
      ·have hltj : j < x.whr.length := lt_of_dec htj
       have ix0j : (0 ≤ (j : Int)) = True := by simp
       have ix1j : ((j : Int) < ((x.whr.length : Nat) : Int)) = True := by simp [hltj]
       obtain ⟨y, hy⟩ : ∃ y, x.whr[j] = y := ⟨_, rfl⟩
       have hgy0 : (x.whr.map fun x => [vint x]).getD (j : Int).toNat [] = [vint y] := by rw [getD_map _ _ _ hltj, hy]
       refine AWp.skip ?_
       refine hK16 _ ?_; clear hK16
       refine AWp.seq_k fun K17 hK17 => ?_
       refine AWp.block ?_
       refine AWp.reg fun R18 hR18 => ?_
       simp only [ix0j, ix1j, true_and, hgy0, ty3, ty50, am, seval, reduceCtorEq]
       refine hR18 _ ?_; clear hR18 R18
       refine AWp.seq_k fun K19 hK19 => ?_
       refine AWp.seq_cut (ι := Unit) (fun _ => True) (fun _ => tst [(1, .loc 1 0), (3, .own g3 1 ((ahead ++ [x.frm]).map (fun x => [vint x]))), (4, .own g4 1 (met'.map (fun x => [vint x]))), (8, vint y), (11, .slice 7 (a.steps.map Step.v)), (12, vint a.steps.length), (13, vint i), (59, vints x.whr), (60, vint x.whr.length), (61, vint j), (90, vbool (whereBad a (ahead ++ [x.frm]) met' y))] [(1, (sc.v ++ a.v, 77))] ((s.setOwn g3 (some (3, 1))).setOwn g4 (some (3, 1))) 113) ?_ ?_
       ·refine AWp.reg1 fun R20 hR20 => ?_
        simp only [pv_all hs1, pvs, tvs, ty3, ty31, ty49, ty75, ty77, List.append_eq, undef, am, seval, reduceCtorEq]
        refine gF (fun hg12_2 => ?_) (fun hg12_2 => ?_)
        ·simp only [pv_all hs1, pvs, tvs, hg12_2, ty3, ty31, ty49, ty75, ty77, List.append_eq, undef, am, seval, reduceCtorEq]
         refine gF (fun hg12_10 => ?_) (fun hg12_10 => ?_)
         ·simp only [pv_all hs1, pvs, tvs, hg12_2, hg12_10, ty3, ty31, ty49, ty75, ty77, List.append_eq, undef, am, seval, reduceCtorEq]
          refine ((f47_spec met' y _).own1).mono fun v' s' h => ?_
          rw [h.1, h.2]; clear h v' s'
          simp only [pv_all hs1, pvs, tvs, hg12_2, hg12_10, ty3, ty31, ty49, ty75, ty77, List.append_eq, undef, am, seval, reduceCtorEq]
          refine gF (fun hg12_15 => ?_) (fun hg12_15 => ?_)
          ·have hk0 : 0 ≤ y := by have := of_decide_eq_false hg12_2; omega
           have hk1 : y < ((a.whr.length : Nat) : Int) := by have := of_decide_eq_false hg12_10; omega
           have ixy0 : (0 ≤ y) = True := by simp [hk0]
           have ixy1 : (y < ((a.whr.length : Nat) : Int)) = True := by simp [hk1]
           have hgy : (a.whr.map Term.v).getD y.toNat [] = (a.whr.getD y.toNat zterm).v := by simp [List.getD_eq_getElem?_getD, show y.toNat < a.whr.length by omega]
           have hwy : (a.whr.getD y.toNat zterm).w ≤ 274945015808 := ha.whr _ (by simp [List.getD_eq_getElem?_getD, show y.toNat < a.whr.length by omega])
           simp only [pv_all hs1, pvs, tvs, hg12_2, hg12_10, hg12_15, ixy0, ixy1, true_and, hgy, ty3, ty31, ty49, ty75, ty77, List.append_eq, undef, am, seval, reduceCtorEq]
           refine ((f50_spec (a.whr.getD y.toNat zterm) hwy (ahead ++ [x.frm]) _).own2).mono fun v' s' h => ?_
           rw [h.1, h.2]; clear h v' s'
           simp only [pv_all hs1, pvs, tvs, hg12_2, hg12_10, hg12_15, ixy0, ixy1, true_and, hgy, ty3, ty31, ty49, ty75, ty77, List.append_eq, undef, am, seval, reduceCtorEq]
           refine hR20 _ ?_; clear hR20 R20
           refine ⟨(), trivial, ?_⟩
           refine le_tst ?_ ?_ ?_ (Heap.le.refl _) rfl
           ·simp only [leE, whereBad, hg12_2, hg12_10, hg12_15, bo, Bool.not_true, Bool.not_false, ↓reduceIte, Bool.false_eq_true, am, seval, reduceCtorEq]
           ·simp only [oks, Nat.reduceBEq]
           ·simp only [leB, whereBad, hg12_2, hg12_10, hg12_15, bo, Bool.not_true, Bool.not_false, ↓reduceIte, Bool.false_eq_true, am, seval, reduceCtorEq]
          ·simp only [pv_all hs1, pvs, tvs, hg12_2, hg12_10, hg12_15, ty3, ty31, ty49, ty75, ty77, List.append_eq, undef, am, seval, reduceCtorEq]
           refine hR20 _ ?_; clear hR20 R20
           refine ⟨(), trivial, ?_⟩
           refine le_tst ?_ ?_ ?_ (Heap.le.refl _) rfl
           ·simp only [leE, whereBad, hg12_2, hg12_10, hg12_15, bo, Bool.not_true, Bool.not_false, ↓reduceIte, Bool.false_eq_true, am, seval, reduceCtorEq]
           ·simp only [oks, Nat.reduceBEq]
           ·simp only [leB, whereBad, hg12_2, hg12_10, hg12_15, bo, Bool.not_true, Bool.not_false, ↓reduceIte, Bool.false_eq_true, am, seval, reduceCtorEq]
         ·simp only [pv_all hs1, pvs, tvs, hg12_2, hg12_10, ty3, ty31, ty49, ty75, ty77, List.append_eq, undef, am, seval, reduceCtorEq]
          refine hR20 _ ?_; clear hR20 R20
          refine ⟨(), trivial, ?_⟩
          refine le_tst ?_ ?_ ?_ (Heap.le.refl _) rfl
          ·simp only [leE, whereBad, hg12_2, hg12_10, bo, Bool.not_true, Bool.not_false, ↓reduceIte, Bool.false_eq_true, am, seval, reduceCtorEq]
          ·simp only [oks, Nat.reduceBEq]
          ·simp only [leB, whereBad, hg12_2, hg12_10, bo, Bool.not_true, Bool.not_false, ↓reduceIte, Bool.false_eq_true, am, seval, reduceCtorEq]
        ·simp only [pv_all hs1, pvs, tvs, hg12_2, ty3, ty31, ty49, ty75, ty77, List.append_eq, undef, am, seval, reduceCtorEq]
         refine hR20 _ ?_; clear hR20 R20
         refine ⟨(), trivial, ?_⟩
         refine le_tst ?_ ?_ ?_ (Heap.le.refl _) rfl
         ·simp only [leE, whereBad, hg12_2, bo, Bool.not_true, Bool.not_false, ↓reduceIte, Bool.false_eq_true, am, seval, reduceCtorEq]
         ·simp only [oks, Nat.reduceBEq]
         ·simp only [leB, whereBad, hg12_2, bo, Bool.not_true, Bool.not_false, ↓reduceIte, Bool.false_eq_true, am, seval, reduceCtorEq]
       ·rintro ⟨⟩ _
        refine AWp.cond (t := whereBad a (ahead ++ [x.frm]) met' y) (by simp only [am, seval, reduceCtorEq]) (fun hy12 => ?_) (fun hy12 => ?_)
        ·refine AWp.reg fun R21 hR21 => ?_
         simp only [am, seval, reduceCtorEq]
         refine hR21 _ ?_; clear hR21 R21
         refine AWp.ret ?_
         refine ret_intro (by show resV Tryz.prog _ [.tmp 2] = _; simp only [resV, am, seval, reduceCtorEq]; rfl) (Wk.refl _) (own_drop2' hg3 hg4) ⟨?_, rfl⟩
         simp only [oneV, armOk]; rw [hinv, hdrop]; simp only [stepsOk]; rw [hx6, hinvj, List.drop_eq_getElem_cons hltj, hy]; simp only [whereOk]; rw [hy12]; simp only [↓reduceIte, Bool.false_eq_true]
        ·refine AWp.skip ?_
         refine hK19 _ ?_; clear hK19
         refine AWp.reg1 fun R22 hR22 => ?_
         simp only [ty3, ty50, am, seval, reduceCtorEq]
         refine ⟨own_same _ _ _, by omega, by unfold maxLen; omega, fun g5 hg5 => ?_⟩
         refine hR22 _ ?_; clear hR22 R22
         refine hK17 _ ?_; clear hK17
         refine AWp.reg1 fun R23 hR23 => ?_
         simp only [ty3, am, seval, reduceCtorEq]
         refine hR23 _ ?_; clear hR23 R23
         refine ⟨⟨j + 1, g3, g5, met' ++ [y]⟩, ⟨⟨hltj, hg3, own_fresh hg5, ?_, by rw [List.length_append]; simp; omega⟩, by simp only; omega⟩, ?_⟩
         ·simp only; rw [hinvj, List.drop_eq_getElem_cons hltj, hy]; simp only [whereOk]; rw [hy12, if_neg (by decide)]
         refine le_tst ?_ ?_ ?_ (own_top hg4 hg5) rfl
         ·simp only [leE, am, seval, reduceCtorEq]; rw [wrap_id (by omega) (by omega), List.map_append]; simp
         ·simp only [oks, Nat.reduceBEq]
         ·simp only [leB, am, seval, reduceCtorEq]
      ·obtain rfl : j = x.whr.length := eq_of_dec htj hij
       refine AWp.exit ?_
       simp only [exq, seval]
       refine hK8 _ ?_; clear hK8
       refine AWp.reg1 fun R24 hR24 => ?_
       simp only [ty3, am, seval, reduceCtorEq]
       refine hR24 _ ?_; clear hR24 R24
       refine ⟨⟨i + 1, g3, g4, ahead ++ [x.frm], met'⟩, ⟨⟨hlt, hg3, hg4, ?_, by rw [List.length_append]; simp; omega, ?_⟩, by simp only; omega⟩, ?_⟩
       ·simp only; rw [hinv, hdrop]; simp only [stepsOk]; rw [hx6, hinvj]; simp only [List.drop_length, whereOk, Bool.false_eq_true, ↓reduceIte]
       ·simp only; rw [hdrop] at hml; simp only [List.map_cons, List.sum_cons] at hml; omega
       refine le_tst ?_ ?_ ?_ (Heap.le.refl _) rfl
       ·simp only [leE, am, seval, reduceCtorEq]; rw [wrap_id (by omega) (by omega)]; simp
       ·simp only [oks, Nat.reduceBEq]
       ·simp only [leB, am, seval, reduceCtorEq]
  ·obtain rfl : i = a.steps.length := eq_of_dec ht hi
   refine AWp.exit ?_
   simp only [exq, seval]
   refine hK4 _ ?_; clear hK4
   refine AWp.reg fun R25 hR25 => ?_
   simp only [pv_all hs1, pvs, ty3, ty31, ty49, ty50, ty72, ty75, ty77, ty107, undef, am, seval, reduceCtorEq]
   refine gT (fun hg17_7 => ?_) (fun hg17_7 => ?_)
   ·simp only [pv_all hs1, pvs, hg17_7, ty3, ty31, ty49, ty50, ty72, ty75, ty77, ty107, undef, am, seval, reduceCtorEq]
    refine hR25 _ ?_; clear hR25 R25
    refine AWp.ret ?_
    refine ret_intro (by show resV Tryz.prog _ [.tmp 2] = _; simp only [resV, am, seval, reduceCtorEq]; rfl) (Wk.refl _) (own_drop2' hg1 hg2) ⟨?_, rfl⟩
    simp only [oneV, armOk]; rw [hinv, List.drop_length]; simp only [stepsOk, hg17_7, bo, Bool.not_true, Bool.not_false, ↓reduceIte, Bool.false_eq_true]
   ·simp only [pv_all hs1, pvs, hg17_7, ty3, ty31, ty49, ty50, ty72, ty75, ty77, ty107, undef, am, seval, reduceCtorEq]
    refine hR25 _ ?_; clear hR25 R25
    refine AWp.ret ?_
    refine ret_intro (by show resV Tryz.prog _ [.tmp 2] = _; simp only [resV, am, seval, reduceCtorEq]; rfl) (Wk.refl _) (own_drop2' hg1 hg2) ⟨?_, rfl⟩
    simp only [oneV, armOk]; rw [hinv, List.drop_length]; simp only [stepsOk, hg17_7, bo, Bool.not_true, Bool.not_false, ↓reduceIte, Bool.false_eq_true]
end Go.Proofs.YtcckhbconihagaaGreatDoor
set_option linter.unusedSimpArgs false
set_option linter.unusedVariables false
set_option maxRecDepth 100000
namespace Go.Proofs.YtcckhbconihagaaGreatDoor
open Go.Am Go.Pl
noncomputable def okA (sc : Schema) (a : Arm) : Bool := (((a.steps.length : Nat) : Int) == 0) || armOk sc a
noncomputable def okS (sc : Schema) (a : Arm) : Option Bool := if a.w ≤ 137455730688 then some (okA sc a) else none
theorem mem_w {α : Type} (f : α → Nat) : ∀ (l : List α) (x : α), x ∈ l → f x ≤ (l.map f).sum
  | y :: l, x, h => by
    rcases List.mem_cons.1 h with rfl | h
    · simp only [List.map_cons, List.sum_cons]; omega
    · have := mem_w f l x h; simp only [List.map_cons, List.sum_cons]; omega
theorem src_mem {a : Arm} {k : Int} (h0 : 0 ≤ k) (h1 : k < ((a.frm.length : Nat) : Int)) : a.src k ∈ a.frm := by
  have h : k.toNat < a.frm.length := by omega
  simp [Arm.src, List.getD_eq_getElem?_getD, h]
theorem flat_len {α β : Type} (f : α → List β) (w : α → Nat) (h : ∀ x, (f x).length ≤ w x) : ∀ l : List α, (l.flatMap f).length ≤ (l.map w).sum
  | [] => by simp
  | x :: l => by
    have h1 := h x; have h2 := flat_len f w h l
    simp only [List.flatMap_cons, List.length_append, List.map_cons, List.sum_cons]; omega
theorem inner_len (f : From) : (innerOn f).length ≤ f.w := by
  have := len_le Term.w_pos f.on
  rw [From.w_eq]
  unfold innerOn
  split
  · omega
  · simp
theorem parm_of {a : Arm} (h : a.w ≤ 137455730688) : PArm a := by
  rw [Arm.w_eq] at h
  have l1 := len_le Term.w_pos a.whr
  have l2 := len_le From.w_pos a.frm
  have l3 := len_le Step.w_pos a.steps
  have hon : ∀ k : Int, 0 ≤ k → k < ((a.frm.length : Nat) : Int) → ∀ t ∈ (a.src k).on, t.w ≤ 137455730688 := fun k h0 h1 t ht => by
    have e1 := mem_w From.w a.frm _ (src_mem h0 h1)
    have e2 := mem_w Term.w _ t ht
    rw [From.w_eq] at e1; omega
  have hstep : ∀ x ∈ a.steps, x.w ≤ 137455730688 := fun x hx => by have := mem_w Step.w a.steps x hx; omega
  have hin : (a.frm.flatMap innerOn).length ≤ 137455730688 := by have := flat_len innerOn From.w inner_len a.frm; omega
  have hall : (a.whr ++ a.frm.flatMap innerOn).length ≤ 274911461376 := by rw [List.length_append]; omega
  refine ⟨fun t ht => ?_, fun k h0 h1 t ht => ?_, fun k h0 h1 => ⟨fun t ht => ?_, ?_, hall, by omega⟩, fun k h0 h1 => ?_, fun x hx => ⟨fun e he => ?_, fun e he => ?_, fun e he => ?_, ?_⟩, fun x hx => ?_, by omega, ?_⟩
  · have := mem_w Term.w a.whr t ht; omega
  · have := hon k h0 h1 t ht; omega
  · unfold usableTerms at ht
    split at ht
    · have := hon k h0 h1 t ht; omega
    · rcases List.mem_append.1 ht with ht | ht
      · have := mem_w Term.w a.whr t ht; omega
      · obtain ⟨f, hf, ht⟩ := List.mem_flatMap.1 ht
        have e1 := mem_w From.w a.frm f hf
        unfold innerOn at ht
        split at ht
        · have e2 := mem_w Term.w _ t ht
          rw [From.w_eq] at e1; omega
        · cases ht
  · unfold usableTerms
    split
    · have e1 := mem_w From.w a.frm _ (src_mem h0 h1)
      have e2 := len_le Term.w_pos (a.src k).on
      rw [From.w_eq] at e1; omega
    · exact hall
  · have e1 := mem_w From.w a.frm _ (src_mem h0 h1)
    rw [From.w_eq] at e1; omega
  · have e1 := hstep x hx; rw [Step.w_eq] at e1
    have := mem_w Term.w x.eq e he; omega
  · have e1 := hstep x hx; rw [Step.w_eq] at e1
    have := mem_w Bound.w x.low e he; omega
  · have e1 := hstep x hx; rw [Step.w_eq] at e1
    have := mem_w Bound.w x.high e he; omega
  · have e1 := hstep x hx; rw [Step.w_eq] at e1
    have := len_le Term.w_pos x.eq; have := len_le Bound.w_pos x.low; have := len_le Bound.w_pos x.high
    simp only [Step.path]; omega
  · have e1 := hstep x hx; rw [Step.w_eq] at e1; omega
  · have : ∀ l : List Step, (l.map fun x => x.whr.length).sum ≤ (l.map Step.w).sum := fun l => by
      induction l with
      | nil => simp
      | cons x l ih => have := Step.w_eq x; simp only [List.map_cons, List.sum_cons]; omega
    have := this a.steps; omega
theorem f20_all {s0 s : Heap} {bb bs : Nat} (sc : Schema) (hs : SchOk sc) (b : Bool) (hH : HM s0 bb bs sc.v (some b) s) (a : Arm) (c : Bool) (hc : okS sc a = some c) : ACalls Tryz.prog 20 ([] ++ [.agg a.v] ++ [.ptr bb 0, .ptr bs 0]) s fun v s' => v = .agg a.v ∧ HM s0 bb bs sc.v (some (b && c)) s' := by
 have hs1 := hs.1
 have hbb := hH.bb; have hbs := hH.bs
 have haw : a.w ≤ 137455730688 := by
  unfold okS at hc
  split at hc
  ·assumption
  ·cases hc
 have hc : c = okA sc a := by unfold okS at hc; rw [if_pos haw] at hc; exact (Option.some.inj hc).symm
 have hcall := f21_all sc hs a (parm_of haw)
 rw [Arm.v_eq, Schema.v_eq] at hcall; simp only [List.cons_append, List.nil_append] at hcall
 refine acalls_of (fn := Tryz.f20) Tryz.func20 rfl (by decide) (by show 3 ≤ 19; decide) ?_
 rw [Tryz.ntmps20]
 refine AWp.reg fun R1 hR1 => ?_
 simp only [Arm.v_eq, Schema.v_eq, hbb, hbs, hs1, ty75, am, seval, reduceCtorEq]
 refine hR1 _ ?_; clear hR1 R1
 refine AWp.reg fun R2 hR2 => ?_
 simp only [Arm.v_eq, Schema.v_eq, hbb, hbs, hs1, ty3, ty4, ty26, ty68, ty69, ty75, ty77, undef, am, seval, reduceCtorEq]
 refine gT (fun hg1_1 => ?_) (fun hg1_1 => ?_)
 ·simp only [Arm.v_eq, Schema.v_eq, hbb, hbs, hs1, hg1_1, ty3, ty4, ty26, ty68, ty69, ty75, ty77, undef, am, seval, reduceCtorEq]
  refine gF (fun hg1_6 => ?_) (fun hg1_6 => ?_)
  ·simp only [Arm.v_eq, Schema.v_eq, hbb, hbs, hs1, hg1_1, hg1_6, ty3, ty4, ty26, ty68, ty69, ty75, ty77, undef, am, seval, reduceCtorEq]
   refine (hcall _).mono fun v' s' h => ?_
   rw [h.1, h.2]; clear h v' s'
   simp only [Arm.v_eq, Schema.v_eq, hbb, hbs, hs1, hg1_1, hg1_6, ty3, ty4, ty26, ty68, ty69, ty75, ty77, undef, am, seval, reduceCtorEq]
   refine hR2 _ ?_; clear hR2 R2
   refine AWp.reg fun R3 hR3 => ?_
   simp only [Arm.v_eq, Schema.v_eq, hbb, hbs, hs1, ty75, am, seval, reduceCtorEq]
   refine hR3 _ ?_; clear hR3 R3
   refine AWp.ret ?_
   refine ret_intro (by show resV Tryz.prog _ [.cell 4 75] = _; simp only [resV, ty75, am, seval, reduceCtorEq]; rfl) (Wk.refl _) (Heap.le.refl _) ⟨?_, ?_⟩
   ·simp only [oneV]; rw [Arm.v_eq]
   ·have e := HM.put hH hbb (b && c)
    simp only [hc, okA, hg1_1, hg1_6, bo, Bool.not_true, Bool.not_false, ↓reduceIte, Bool.false_eq_true] at e ⊢
    exact e
  ·simp only [Arm.v_eq, Schema.v_eq, hbb, hbs, hs1, hg1_1, hg1_6, ty3, ty4, ty26, ty68, ty69, ty75, ty77, undef, am, seval, reduceCtorEq]
   refine hR2 _ ?_; clear hR2 R2
   refine AWp.reg fun R3 hR3 => ?_
   simp only [Arm.v_eq, Schema.v_eq, hbb, hbs, hs1, ty75, am, seval, reduceCtorEq]
   refine hR3 _ ?_; clear hR3 R3
   refine AWp.ret ?_
   refine ret_intro (by show resV Tryz.prog _ [.cell 4 75] = _; simp only [resV, ty75, am, seval, reduceCtorEq]; rfl) (Wk.refl _) (Heap.le.refl _) ⟨?_, ?_⟩
   ·simp only [oneV]; rw [Arm.v_eq]
   ·have e := HM.put hH hbb (b && c)
    simp only [hc, okA, hg1_1, hg1_6, bo, Bool.not_true, Bool.not_false, ↓reduceIte, Bool.false_eq_true] at e ⊢
    exact e
 ·simp only [Arm.v_eq, Schema.v_eq, hbb, hbs, hs1, hg1_1, ty3, ty4, ty26, ty68, ty69, ty75, ty77, undef, am, seval, reduceCtorEq]
  refine hR2 _ ?_; clear hR2 R2
  refine AWp.reg fun R3 hR3 => ?_
  simp only [Arm.v_eq, Schema.v_eq, hbb, hbs, hs1, ty75, am, seval, reduceCtorEq]
  refine hR3 _ ?_; clear hR3 R3
  refine AWp.ret ?_
  refine ret_intro (by show resV Tryz.prog _ [.cell 4 75] = _; simp only [resV, ty75, am, seval, reduceCtorEq]; rfl) (Wk.refl _) (Heap.le.refl _) ⟨?_, ?_⟩
  ·simp only [oneV]; rw [Arm.v_eq]
  ·have e := HM.put hH hbb (b && c)
   simp only [hc, okA, hg1_1, bo, Bool.not_true, Bool.not_false, ↓reduceIte, Bool.false_eq_true] at e ⊢
   exact e
theorem vis_all (sc : Schema) (hs : SchOk sc) (s0 : Heap) (bb bs : Nat) : Vis (HM s0 bb bs sc.v) (kfa (okS sc)) mff (.func 20 [] [.ptr bb 0, .ptr bs 0]) (.base .nilFunc) (fun s => s ≠ none) where
  hac := rfl
  hfc := rfl
  hgf := fun s t d h => h
  hga := fun s a h => by
    cases s with
    | none => exact absurd rfl h
    | some b => simp
  hfv := .inl ⟨rfl, fun s t d => rfl⟩
  hF := fun k a c e => by cases e
  hav := .inr ⟨20, [], [.ptr bb 0, .ptr bs 0], rfl, fun σ0 a hg s hH => by
    cases σ0 with
    | none => exact absurd rfl hg
    | some b =>
      cases hc : okS sc a with
      | none => simp [kfa, hc] at hg
      | some c =>
        have e : (kfa (okS sc) (some b) a).1 = some (b && c) := by simp [kfa, hc]
        rw [e]
        exact f20_all sc hs b hH a c hc⟩
/-- **plan.May.** -/
noncomputable def mayR (sc : Schema) (r : Resolved) : Bool := (cResolved r).all (okA sc)
theorem f9_all (sc : Schema) (hs : SchOk sc) (r : Resolved) (hw : r.w ≤ 137455730688) : Gives Tryz.prog 9 [.agg sc.v, .agg r.v] (vint (if mayR sc r then 0 else 340)) := by
  have e : (wResolved (kfa (okS sc)) mff r (some true)).1 = some (mayR sc r) := by
    rw [kwResolved (kfa (okS sc)) mff (fun s a => rfl) (fun s t d => rfl)]
    simp only
    rw [kfold (okS sc) (okA sc) _ true fun a ha => ?_]
    · rw [Bool.true_and]; rfl
    · have := cwResolved r a ha
      unfold okS; rw [if_pos (by omega)]
  exact f9_gen (.slice 3 (sc.tables.map Table.v)) (.slice 5 (sc.indexes.map Index.v)) sc.views rfl rfl hs.1 _ _ (vis_all sc hs) r (by omega) _ e
end Go.Proofs.YtcckhbconihagaaGreatDoor
