/- plan's has and what it asks. -/
import Derived.Test.YtcckhbconihagaaGreatDoorV4
import Derived.Test.YtcckhbconihagaaGreatDoorV5
import Derived.Test.YtcckhbconihagaaGreatDoorV10
import Derived.Test.YtcckhbconihagaaGreatDoorV1
import Derived.Test.YtcckhbconihagaaGreatDoorVAmAuto
import Derived.Test.YtcckhbconihagaaGreatDoorV7
import Derived.Test.YtcckhbconihagaaGreatDoorV11
set_option linter.unusedSimpArgs false
set_option linter.unusedVariables false
set_option maxRecDepth 100000
namespace Go.Proofs.YtcckhbconihagaaGreatDoor
open Go.Am Go.Pl
theorem Term.v_all (t : Term) : t.v.all V.isCell = true := by rw [Term.v_eq]; rfl
theorem Term.v_take (t : Term) : t.v.take 14 = t.v := List.take_of_length_le (by rw [Term.v_len]; exact Nat.le_refl _)
theorem Term.v_take' (t : Term) : (t.v.drop 0).take 14 = t.v := by rw [List.drop_zero]; exact Term.v_take t
theorem Said.v_len (t : Said) : t.v.length = 17 := by rw [Said.v_eq]; rfl
theorem Said.v_all (t : Said) : t.v.all V.isCell = true := by rw [Said.v_eq]; rfl
theorem Said.v_take (t : Said) : t.v.take 17 = t.v := List.take_of_length_le (by rw [Said.v_len]; exact Nat.le_refl _)
theorem Said.v_take' (t : Said) : (t.v.drop 0).take 17 = t.v := by rw [List.drop_zero]; exact Said.v_take t
theorem Said.v_op (t : Said) : t.v[0]? = some (vint t.op) := by rw [Said.v_eq]; rfl
theorem Said.v_col (t : Said) : t.v[1]? = some (vint t.col) := by rw [Said.v_eq]; rfl
theorem Said.v_coll (t : Said) : t.v[2]? = some (vint t.coll) := by rw [Said.v_eq]; rfl
theorem Said.v_fin (t : Said) : (t.v.drop 3).take 14 = t.fin.v := by rw [Said.v]; exact Term.v_take _
theorem Arm.v_all (a : Arm) : a.v.all V.isCell = true := by rw [Arm.v_eq]; rfl
theorem Sch.v_all {sc : Schema} (h : sc.views.isCell = true) : sc.v.all V.isCell = true := by
 rw [Schema.v_eq]; show (true && (true && (sc.views.isCell && true))) = true; rw [h]; rfl
theorem Table.v_all (t : Table) : t.v.all V.isCell = true := rfl
theorem Table.v_len (t : Table) : t.v.length = 3 := rfl
theorem Table.v_take (t : Table) : t.v.take 3 = t.v := rfl
theorem Sch.v_len (sc : Schema) : sc.v.length = 3 := rfl
theorem pv_len (sc : Schema) (a : Arm) : (sc.v ++ a.v).length = 16 := by rw [List.length_append, Arm.v_len, Sch.v_len]
theorem pv_all {sc : Schema} {a : Arm} (h : sc.views.isCell = true) : (sc.v ++ a.v).all V.isCell = true := by rw [List.all_append, Sch.v_all h, Arm.v_all]; rfl
theorem pv_take (sc : Schema) (a : Arm) : (sc.v ++ a.v).take 16 = sc.v ++ a.v := List.take_of_length_le (by rw [pv_len]; exact Nat.le_refl _)
theorem pv_take' (sc : Schema) (a : Arm) : ((sc.v ++ a.v).drop 0).take 16 = sc.v ++ a.v := by rw [List.drop_zero]; exact pv_take sc a
theorem pv_arm (sc : Schema) (a : Arm) : ((sc.v ++ a.v).drop 3).take 13 = a.v := by rw [List.drop_append_of_le_length (by rw [Sch.v_len]; exact Nat.le_refl _), List.drop_of_length_le (by rw [Sch.v_len]; exact Nat.le_refl _), List.nil_append]; exact List.take_of_length_le (by rw [Arm.v_len]; exact Nat.le_refl _)
theorem pv_sch (sc : Schema) (a : Arm) : ((sc.v ++ a.v).drop 0).take 3 = sc.v := by rw [List.drop_zero, List.take_append_of_le_length (by rw [Sch.v_len]; exact Nat.le_refl _)]; exact List.take_of_length_le (by rw [Sch.v_len]; exact Nat.le_refl _)
theorem pv_tab (sc : Schema) (a : Arm) : (sc.v ++ a.v)[0]? = some (.slice 3 (sc.tables.map Table.v)) := rfl
theorem pv_idx (sc : Schema) (a : Arm) : (sc.v ++ a.v)[1]? = some (.slice 5 (sc.indexes.map Index.v)) := rfl
theorem pv_at (sc : Schema) (a : Arm) (i : Nat) : (sc.v ++ a.v)[i + 3]? = a.v[i]? := by rw [List.getElem?_append_right (by rw [Sch.v_len]; omega), Sch.v_len]; congr 1
theorem pv_frm (sc : Schema) (a : Arm) : (sc.v ++ a.v)[7]? = some (.slice 7 (a.frm.map From.v)) := by rw [pv_at sc a 4, Arm.v_eq]; rfl
theorem pv_whr (sc : Schema) (a : Arm) : (sc.v ++ a.v)[8]? = some (.slice 14 (a.whr.map Term.v)) := by rw [pv_at sc a 5, Arm.v_eq]; rfl
theorem pv_steps (sc : Schema) (a : Arm) : (sc.v ++ a.v)[15]? = some (.slice 7 (a.steps.map Step.v)) := by rw [pv_at sc a 12, Arm.v_eq]; rfl
set_option linter.defProp false
def tvs := And.intro @Term.v_len <| And.intro @Term.v_all <| And.intro @Term.v_take <| And.intro @Term.v_take' <| True.intro
def svs := And.intro @Said.v_len <| And.intro @Said.v_all <| And.intro @Said.v_take <| And.intro @Said.v_take' <| And.intro @Said.v_op <| And.intro @Said.v_col <| And.intro @Said.v_coll <| And.intro @Said.v_fin <| True.intro
def pvs := And.intro @pv_len <| And.intro @pv_take <| And.intro @pv_take' <| And.intro @pv_arm <| And.intro @pv_sch <| And.intro @pv_idx <| And.intro @pv_tab <| And.intro @pv_frm <| And.intro @pv_whr <| And.intro @pv_steps <| True.intro
theorem src_at (a : Arm) {k : Int} (h0 : 0 ≤ k) (h1 : k < ((a.frm.length : Nat) : Int)) : (a.frm.map From.v).getD k.toNat [] = (a.src k).v := src_get a k h0 h1
structure UOk (a : Arm) (k : Int) : Prop where
 w : ∀ t ∈ usableTerms a k, t.w ≤ 274945015808
 len : (usableTerms a k).length ≤ 274911461376
 wlen : (a.whr ++ a.frm.flatMap innerOn).length ≤ 274911461376
 f : a.frm.length ≤ 550024249344
theorem f129_spec (i : Index) (name table : ByteArray) : Gives Tryz.prog 129 [.agg i.v, .elt [vstr name] 0, .elt [vstr table] 0] (vbool (i.name.toList == name.toList && i.table.toList == table.toList)) := by
 intro s; refine acalls_of (fn := Tryz.f129) Tryz.func129 rfl (by decide) (by show 3 ≤ 15; decide) ?_; rw [Tryz.ntmps129]; refine rg fun Z z' => ?_; simp only [Index.v_eq, amt, seval, reduceCtorEq]; refine z' _ ?_; clear z' Z; refine rg fun Z z' => ?_; simp only [Index.v_eq, undef, amt, seval, reduceCtorEq]; refine gT (fun hg1_4 => ?_) (fun hg1_4 => ?_)
 ·simp only [Index.v_eq, hg1_4, undef, amt, seval, reduceCtorEq]; refine z' _ ?_; clear z' Z; refine AWp.ret ?_; refine rt (by show resV Tryz.prog _ [.tmp 4] = _; simp only [resV, am, seval, reduceCtorEq]; rfl) ⟨?_, rfl⟩; rw [hg1_4]; rfl
 ·simp only [Index.v_eq, hg1_4, undef, amt, seval, reduceCtorEq]; refine z' _ ?_; clear z' Z; refine AWp.ret ?_; refine rt (by show resV Tryz.prog _ [.tmp 4] = _; simp only [resV, am, seval, reduceCtorEq]; rfl) ⟨?_, rfl⟩; rw [hg1_4]; rfl
theorem f79_spec (sc : Schema) (hs1 : sc.views.isCell = true) (a : Arm) (table name : ByteArray) : Gives Tryz.prog 79 [.agg (sc.v ++ a.v), vstr table, vstr name] (vint (sc.index table name)) := by
 intro s; refine acalls_of (fn := Tryz.f79) Tryz.func79 rfl (by decide) (by show 3 ≤ 12; decide) ?_; rw [Tryz.ntmps79]; refine rg fun Z z' => ?_; simp only [pv_all hs1, pvs, amt, seval, reduceCtorEq]; refine z' _ ?_; clear z' Z; refine AWp.frz 4 (cs := [vstr table]) (ty := 9) (by simp only [am, seval, reduceCtorEq]) ?_; refine AWp.weaken (st' := tst [(3, .loc 3 0), (4, .elt [vstr table] 0), (5, .loc 5 0)] [(3, (sc.v ++ a.v, 77)), (5, ([vstr name], 9))] (s) 12) ?_ ?_
 ·refine lt0 ?_ ?_ ?_
  ·simp only [leE, St.frz, frzV, am, seval, reduceCtorEq]
  ·simp only [oks, Nat.reduceBEq]
  ·simp only [leB, St.frz, am, seval, reduceCtorEq]
 refine AWp.frz 5 (cs := [vstr name]) (ty := 9) (by simp only [am, seval, reduceCtorEq]) ?_; refine AWp.weaken (st' := tst [(3, .loc 3 0), (4, .elt [vstr table] 0), (5, .elt [vstr name] 0)] [(3, (sc.v ++ a.v, 77))] (s) 12) ?_ ?_
 ·refine lt0 ?_ ?_ ?_
  ·simp only [leE, St.frz, frzV, am, seval, reduceCtorEq]
  ·simp only [oks, Nat.reduceBEq]
  ·simp only [leB, St.frz, am, seval, reduceCtorEq]
 refine rg fun Z z' => ?_; simp only [pv_all hs1, pvs, amt, seval, reduceCtorEq]; refine (f128_spec _ sc.indexes (fun i => i.name.toList == name.toList && i.table.toList == table.toList) 129 [.elt [vstr name] 0, .elt [vstr table] 0] (fun i _ => f129_spec i name table _)).go ?_; simp only [pv_all hs1, pvs, amt, seval, reduceCtorEq]; refine z' _ ?_; clear z' Z; refine AWp.ret ?_; refine rt (by show resV Tryz.prog _ [.tmp 6] = _; simp only [resV, am, seval, reduceCtorEq]; rfl) ⟨?_, rfl⟩; rfl
theorem f127_spec (t : Table) (x : Said) : Gives Tryz.prog 127 [.agg x.v, .elt t.v 0] (vbool (rowid t.pk x)) := by
 intro s; refine acalls_of (fn := Tryz.f127) Tryz.func127 rfl (by decide) (by show 2 ≤ 19; decide) ?_; rw [Tryz.ntmps127]; refine rg fun Z z' => ?_; simp only [svs, Table.v_eq, amt, seval, reduceCtorEq]; refine z' _ ?_; clear z' Z; refine rg fun Z z' => ?_; simp only [svs, Table.v_eq, undef, amt, seval, reduceCtorEq]; refine gF (fun hg1_3 => ?_) (fun hg1_3 => ?_)
 ·simp only [svs, Table.v_eq, hg1_3, undef, amt, seval, reduceCtorEq]; refine gT (fun hg1_9 => ?_) (fun hg1_9 => ?_)
  ·simp only [svs, Table.v_eq, hg1_3, hg1_9, undef, amt, seval, reduceCtorEq]; refine z' _ ?_; clear z' Z; refine AWp.ret ?_; refine rt (by show resV Tryz.prog _ [.tmp 3] = _; simp only [resV, am, seval, reduceCtorEq]; rfl) ⟨?_, rfl⟩; simp only [rowid, oneV, hg1_3, hg1_9, Bool.true_or, Bool.false_or, Bool.true_and, Bool.false_and]
  ·simp only [svs, Table.v_eq, hg1_3, hg1_9, undef, amt, seval, reduceCtorEq]; refine z' _ ?_; clear z' Z; refine AWp.ret ?_; refine rt (by show resV Tryz.prog _ [.tmp 3] = _; simp only [resV, am, seval, reduceCtorEq]; rfl) ⟨?_, rfl⟩; simp only [rowid, oneV, hg1_3, hg1_9, Bool.true_or, Bool.false_or, Bool.true_and, Bool.false_and]
 ·simp only [svs, Table.v_eq, hg1_3, undef, amt, seval, reduceCtorEq]; refine z' _ ?_; clear z' Z; refine AWp.ret ?_; refine rt (by show resV Tryz.prog _ [.tmp 3] = _; simp only [resV, am, seval, reduceCtorEq]; rfl) ⟨?_, rfl⟩; simp only [rowid, oneV, hg1_3, Bool.true_or, Bool.false_or, Bool.true_and, Bool.false_and]
theorem f78_spec (sc : Schema) (hs : SchOk sc) (a : Arm) (k : Int) (hk0 : 0 ≤ k) (hk1 : k < ((a.frm.length : Nat) : Int)) (hnm : (a.src k).name.size ≤ 2^62) : Gives Tryz.prog 78 [.agg (sc.v ++ a.v), vint k] (.func 127 [] [.elt (sc.table (a.src k).name).v 0]) := by
 have hs1 := hs.1; have ix0 : (0 ≤ k) = True := by simp [hk0]
 have ix1 : (k < ((a.frm.length : Nat) : Int)) = True := by simp [hk1]
 have hgd : (a.frm.map From.v).getD k.toNat [] = (a.src k).v := src_get a k hk0 hk1; intro s; refine acalls_of (fn := Tryz.f78) Tryz.func78 rfl (by decide) (by show 2 ≤ 21; decide) ?_; rw [Tryz.ntmps78]; refine rg fun Z z' => ?_; simp only [pv_all hs1, pvs, amt, seval, reduceCtorEq]; refine z' _ ?_; clear z' Z; refine AWp.regL mixed [0, 1, 2, 3, 4, 5, 6, 7, 8, 13, 9, 10, 11, 12, 14, 15] (by decide +kernel) [5, 99999] (by decide +kernel) fun Z z' => ?_; simp only [pv_all hs1, pvs, ix0, ix1, true_and, hgd, From.v_eq, Table.v_all, Table.v_len, Table.v_take, aml, Nat.reduceBEq, amt, seval, reduceCtorEq]; refine (f76_spec sc hs (a.src k).name hnm _).go ?_; simp only [pv_all hs1, pvs, ix0, ix1, true_and, hgd, From.v_eq, Table.v_all, Table.v_len, Table.v_take, aml, Nat.reduceBEq, amt, seval, reduceCtorEq]; refine z' _ ?_; clear z' Z; refine AWp.frz 5 (cs := (sc.table (a.src k).name).v) (ty := 137) (by simp only [am, seval, reduceCtorEq]) ?_; refine AWp.weaken (st' := tst [(5, .elt (sc.table (a.src k).name).v 0)] [] (s) 21) ?_ ?_
 ·refine lt0 ?_ ?_ ?_
  ·simp only [leE, St.frz, frzV, am, seval, reduceCtorEq]
  ·simp only [oks, Nat.reduceBEq]
  ·simp only [leB, St.frz, am, seval, reduceCtorEq]
 refine rg fun Z z' => ?_; simp only [Table.v_eq, am, seval, reduceCtorEq]; refine z' _ ?_; clear z' Z; refine AWp.ret ?_; refine rt (by show resV Tryz.prog _ [.tmp 4] = _; simp only [resV, am, seval, reduceCtorEq]; rfl) ⟨?_, rfl⟩; rfl
theorem f130_spec (k : Sorted) (x : Said) : Gives Tryz.prog 130 [.agg x.v, .elt k.v 0] (vbool (keyed k x)) := by
 intro s; refine acalls_of (fn := Tryz.f130) Tryz.func130 rfl (by decide) (by show 2 ≤ 16; decide) ?_; rw [Tryz.ntmps130]; refine rg fun Z z' => ?_; simp only [svs, Sorted.v_eq, amt, seval, reduceCtorEq]; refine z' _ ?_; clear z' Z; refine rg fun Z z' => ?_; simp only [svs, Sorted.v_eq, undef, amt, seval, reduceCtorEq]; refine gT (fun hg1_5 => ?_) (fun hg1_5 => ?_)
 ·simp only [svs, Sorted.v_eq, hg1_5, undef, amt, seval, reduceCtorEq]; refine z' _ ?_; clear z' Z; refine AWp.ret ?_; refine rt (by show resV Tryz.prog _ [.tmp 3] = _; simp only [resV, am, seval, reduceCtorEq]; rfl) ⟨?_, rfl⟩; simp only [keyed, oneV, hg1_5, Bool.true_and, Bool.false_and]
 ·simp only [svs, Sorted.v_eq, hg1_5, undef, amt, seval, reduceCtorEq]; refine z' _ ?_; clear z' Z; refine AWp.ret ?_; refine rt (by show resV Tryz.prog _ [.tmp 3] = _; simp only [resV, am, seval, reduceCtorEq]; rfl) ⟨?_, rfl⟩; simp only [keyed, oneV, hg1_5, Bool.true_and, Bool.false_and]
theorem f80_spec (k : Sorted) : Gives Tryz.prog 80 [.agg k.v] (.func 130 [] [.elt k.v 0]) := by
 intro s; refine acalls_of (fn := Tryz.f80) Tryz.func80 rfl (by decide) (by show 1 ≤ 4; decide) ?_; rw [Tryz.ntmps80]; refine rg fun Z z' => ?_; simp only [Sorted.v_eq, amt, seval, reduceCtorEq]; refine z' _ ?_; clear z' Z; refine AWp.frz 1 (cs := k.v) (ty := 149) (by simp only [Sorted.v_eq, am, seval, reduceCtorEq]) ?_; refine AWp.weaken (st' := tst [(1, .elt k.v 0)] [] (s) 4) ?_ ?_
 ·refine lt0 ?_ ?_ ?_
  ·simp only [leE, St.frz, frzV, Sorted.v_eq, am, seval, reduceCtorEq]
  ·simp only [oks, Nat.reduceBEq]
  ·simp only [leB, St.frz, Sorted.v_eq, am, seval, reduceCtorEq]
 refine rg fun Z z' => ?_; simp only [Sorted.v_eq, am, seval, reduceCtorEq]; refine z' _ ?_; clear z' Z; refine AWp.ret ?_; refine rt (by show resV Tryz.prog _ [.tmp 2] = _; simp only [resV, am, seval, reduceCtorEq]; rfl) ⟨?_, rfl⟩; rfl
theorem Bound.v_all (b : Bound) : b.v.all V.isCell = true := by rw [Bound.v_eq, List.all_append, Term.v_all]; rfl
theorem Bound.v_opn (b : Bound) : b.v[14]? = some (vbool b.opn) := by rw [Bound.v_eq, List.getElem?_append_right (by rw [Term.v_len]; exact Nat.le_refl _), Term.v_len]; rfl
theorem Bound.v_term (b : Bound) : (b.v.drop 0).take 14 = b.term.v := by rw [Bound.v_eq, List.drop_zero, List.take_append_of_le_length (by rw [Term.v_len]; exact Nat.le_refl _)]; exact Term.v_take _
theorem Bound.v_term' (b : Bound) : b.v.take 14 = b.term.v := Bound.v_term b
structure XOk (x : Path) : Prop where
 eq : ∀ e ∈ x.eq, e.w ≤ 274945015808
 low : ∀ e ∈ x.low, e.w ≤ 274945015808
 high : ∀ e ∈ x.high, e.w ≤ 274945015808
 len : x.eq.length ≤ 274945015808 ∧ x.low.length ≤ 274945015808 ∧ x.high.length ≤ 274945015808
theorem index_lt {sc : Schema} {t n : ByteArray} {N : Int} (hN : sc.index t n = N) (h : decide (N < 0) = false) : 0 ≤ N ∧ N < ((sc.indexes.length : Nat) : Int) := by
 rw [← hN] at h ⊢
 unfold Schema.index at h ⊢
 refine idx_lt _ _ ?_
 rw [← idx_ge]; simp at h ⊢; omega
theorem eqs_step {a : Arm} {k : Int} {ahead : List Int} {l : List Term} {ks : List Sorted} {i : Nat} (h1 : i < l.length) (h2 : i < ks.length) (h : (!has a k [13] ahead l[i] (keyed ks[i])) = false) : eqs a k ahead (l.drop i) (ks.drop i) = eqs a k ahead (l.drop (i + 1)) (ks.drop (i + 1)) := by
 rw [List.drop_eq_getElem_cons h1, List.drop_eq_getElem_cons h2]
 simp only [eqs]
 rw [Bool.not_eq_false'] at h
 rw [h, Bool.true_and]
theorem eqs_false {a : Arm} {k : Int} {ahead : List Int} {l : List Term} {ks : List Sorted} {i : Nat} (h1 : i < l.length) (h2 : i < ks.length) (h : (!has a k [13] ahead l[i] (keyed ks[i])) = true) : eqs a k ahead (l.drop i) (ks.drop i) = false := by
 rw [List.drop_eq_getElem_cons h1, List.drop_eq_getElem_cons h2]
 simp only [eqs]
 rw [Bool.not_eq_true'] at h
 rw [h, Bool.false_and]
theorem Step.v_all (t : Step) : t.v.all V.isCell = true := by rw [Step.v_eq]; rfl
theorem Step.v_take (t : Step) : t.v.take 7 = t.v := List.take_of_length_le (by rw [Step.v_len]; exact Nat.le_refl _)
theorem Step.v_frm (t : Step) : t.v[0]? = some (vint t.frm) := by rw [Step.v_eq]; rfl
theorem Step.v_path (t : Step) : (t.v.drop 1).take 5 = t.path.v := by rw [Step.v_eq]; rfl
theorem Step.v_whr (t : Step) : t.v[6]? = some (vints t.whr) := by rw [Step.v_eq]; rfl
/-- What is asked of an arm. -/
structure PArm (a : Arm) : Prop where
 whr : ∀ t ∈ a.whr, t.w ≤ 274945015808
 on : ∀ k : Int, 0 ≤ k → k < ((a.frm.length : Nat) : Int) → ∀ t ∈ (a.src k).on, t.w ≤ 274945015808
 u : ∀ k : Int, 0 ≤ k → k < ((a.frm.length : Nat) : Int) → UOk a k
 nm : ∀ k : Int, 0 ≤ k → k < ((a.frm.length : Nat) : Int) → (a.src k).name.size ≤ 2^62
 path : ∀ x ∈ a.steps, XOk x.path
 whl : ∀ x ∈ a.steps, x.whr.length ≤ 274945015808
 steps : a.steps.length ≤ 274945015808
 sum : (a.steps.map fun x => x.whr.length).sum ≤ 274945015808
theorem f21_none (sc : Schema) (hs1 : sc.views.isCell = true) (a : Arm) (hf : a.frm = []) (hs0 : 0 < a.steps.length) : Gives Tryz.prog 21 [.agg (sc.v ++ a.v)] (vbool false) := by
 intro s; refine acalls_of (fn := Tryz.f21) Tryz.func21 rfl (by decide) (by show 1 ≤ 113; decide) ?_; rw [Tryz.ntmps21]; refine rg fun Z z' => ?_; simp only [pv_all hs1, pvs, amt, seval, reduceCtorEq]; refine z' _ ?_; clear z' Z; refine rg fun Z z' => ?_; simp only [am, seval, reduceCtorEq]; refine z' _ ?_; clear z' Z; refine rg fun Z z' => ?_; simp only [am, seval, reduceCtorEq]; refine z' _ ?_; clear z' Z; refine AWp.seq_k fun K4 hK4 => ?_; refine rg fun Z z' => ?_; simp only [pv_all hs1, pvs, Arm.v_len, Arm.v_all, amt, seval, reduceCtorEq]; refine z' _ ?_; clear z' Z; refine AWp.block ?_; refine AWp.loop (fun _ st => st = _) 0 rfl ?_; rintro _ _ rfl; obtain ⟨x, hx⟩ : ∃ x, a.steps[0] = x := ⟨_, rfl⟩; have hg0 : (a.steps.map Step.v).getD (0 : Int).toNat [] = x.v := by rw [← hx]; exact getD_map Step.v a.steps 0 hs0
 have hg0b : (a.steps.map Step.v).getD 0 [] = x.v := hg0; have ixa0 : ((0:Int) ≤ 0) = True := by simp
 have ixa1 : ((0:Int) < ((a.steps.length : Nat) : Int)) = True := by simp [hs0]
 have hlen : decide ((0:Int) < ((a.steps.length : Nat) : Int)) = true := decide_eq_true (by omega); refine rg fun Z z' => ?_; simp only [hlen, amt, seval, reduceCtorEq]; refine z' _ ?_; clear z' Z; refine AWp.seq_k fun K7 hK7 => ?_; refine cT (by simp only [am, seval, reduceCtorEq]) ?_; refine AWp.skip ?_; refine hK7 _ ?_; clear hK7; refine AWp.seq_k fun K8 hK8 => ?_; refine AWp.block ?_; refine rg fun Z z' => ?_; simp only [Step.v_len, Step.v_all, Step.v_take, Step.v_frm, Step.v_path, Step.v_whr, ixa0, ixa1, true_and, hg0, hg0b, amt, seval, reduceCtorEq]; refine z' _ ?_; clear z' Z; refine AWp.seq_k fun K10 hK10 => ?_; refine rg fun Z z' => ?_; simp only [pv_all hs1, pvs, Step.v_len, Step.v_all, Step.v_take, Step.v_frm, Step.v_path, Step.v_whr, undef, amt, seval, reduceCtorEq]; refine gF (fun hg6_3 => ?_) (fun hg6_3 => ?_)
 ·have hge : decide (x.frm ≥ ((a.frm.length : Nat) : Int)) = true := by have := of_decide_eq_false hg6_3; rw [hf]; exact decide_eq_true (by simp; omega)
  simp only [pv_all hs1, pvs, Step.v_len, Step.v_all, Step.v_take, Step.v_frm, Step.v_path, Step.v_whr, hg6_3, hge, undef, amt, seval, reduceCtorEq]; refine z' _ ?_; clear z' Z; refine cT (by simp only [hg6_3, am, seval, reduceCtorEq]) ?_; refine rg fun Z z' => ?_; simp only [am, seval, reduceCtorEq]; refine z' _ ?_; clear z' Z; refine AWp.ret ?_; refine rt (by show resV Tryz.prog _ [.tmp 2] = _; simp only [resV, am, seval, reduceCtorEq]; rfl) ⟨?_, rfl⟩; rfl
 ·simp only [pv_all hs1, pvs, Step.v_len, Step.v_all, Step.v_take, Step.v_frm, Step.v_path, Step.v_whr, hg6_3, undef, amt, seval, reduceCtorEq]; refine z' _ ?_; clear z' Z; refine cT (by simp only [hg6_3, am, seval, reduceCtorEq]) ?_; refine rg fun Z z' => ?_; simp only [am, seval, reduceCtorEq]; refine z' _ ?_; clear z' Z; refine AWp.ret ?_; refine rt (by show resV Tryz.prog _ [.tmp 2] = _; simp only [resV, am, seval, reduceCtorEq]; rfl) ⟨?_, rfl⟩; rfl
def okN (a : Arm) : Option Bool := if ((a.steps.length : Nat) : Int) == 0 then some true else if ((a.frm.length : Nat) : Int) == 0 then some false else none
def scN : Schema := ⟨[], [], .nil⟩
theorem f20_none {s0 s : Heap} {bb bs : Nat} (b : Bool) (hH : HM s0 bb bs scN.v (some b) s) (a : Arm) (c : Bool) (hc : okN a = some c) : ACalls Tryz.prog 20 ([] ++ [.agg a.v] ++ [.ptr bb 0, .ptr bs 0]) s fun v s' => v = .agg a.v ∧ HM s0 bb bs scN.v (some (b && c)) s' := by
 have hc0 := hc; have hs1 : scN.views.isCell = true := rfl; have hbb := hH.bb; have hbs := hH.bs; have hc : ∀ d, (((a.steps.length : Nat) : Int) == 0) = d → c = d := fun d hd => by
  unfold okN at hc; rw [hd] at hc; cases d with
  | true => exact (Option.some.inj hc).symm
  | false =>
   rw [if_neg (by decide)] at hc; split at hc
   ·exact (Option.some.inj hc).symm
   ·cases hc
 have hcall : (((a.steps.length : Nat) : Int) == 0) = false → Gives Tryz.prog 21 [.agg (scN.v ++ a.v)] (vbool false) := fun h => by
  have h0 : 0 < a.steps.length := by have := (beq_eq_false_iff_ne).1 h; omega
  by_cases hf : a.frm = []
  ·exact f21_none scN rfl a hf h0
  ·exfalso; have hfl := List.length_pos_iff.2 hf; unfold okN at hc0; rw [h, if_neg (by decide), if_neg (by rw [beq_iff_eq]; omega)] at hc0; cases hc0
 rw [Arm.v_eq, Schema.v_eq] at hcall; simp only [List.cons_append, List.nil_append] at hcall; refine acalls_of (fn := Tryz.f20) Tryz.func20 rfl (by decide) (by show 3 ≤ 19; decide) ?_; rw [Tryz.ntmps20]; refine rg fun Z z' => ?_; simp only [Arm.v_eq, Schema.v_eq, hbb, hbs, hs1, amt, seval, reduceCtorEq]; refine z' _ ?_; clear z' Z; refine rg fun Z z' => ?_; simp only [Arm.v_eq, Schema.v_eq, hbb, hbs, hs1, undef, amt, seval, reduceCtorEq]; refine gT (fun hg1_1 => ?_) (fun hg1_1 => ?_)
 ·simp only [Arm.v_eq, Schema.v_eq, hbb, hbs, hs1, hg1_1, undef, amt, seval, reduceCtorEq]; refine gF (fun hg1_6 => ?_) (fun hg1_6 => ?_)
  ·simp only [Arm.v_eq, Schema.v_eq, hbb, hbs, hs1, hg1_1, hg1_6, undef, amt, seval, reduceCtorEq]; refine (hcall hg1_6 _).go ?_; simp only [Arm.v_eq, Schema.v_eq, hbb, hbs, hs1, hg1_1, hg1_6, undef, amt, seval, reduceCtorEq]; refine z' _ ?_; clear z' Z; refine rg fun Z z' => ?_; simp only [Arm.v_eq, Schema.v_eq, hbb, hbs, hs1, amt, seval, reduceCtorEq]; refine z' _ ?_; clear z' Z; refine AWp.ret ?_; refine rt (by show resV Tryz.prog _ [.cell 4 75] = _; simp only [resV, amt, seval, reduceCtorEq]; rfl) ⟨?_, ?_⟩
   ·simp only [oneV]; rw [Arm.v_eq]
   ·have e := HM.put hH hbb (b && c); have e2 := hc _ hg1_6; subst e2; simp only [hg1_1, hg1_6, bo, Bool.not_true, Bool.not_false, ↓reduceIte, Bool.false_eq_true] at e ⊢; exact e
  ·simp only [Arm.v_eq, Schema.v_eq, hbb, hbs, hs1, hg1_1, hg1_6, undef, amt, seval, reduceCtorEq]; refine z' _ ?_; clear z' Z; refine rg fun Z z' => ?_; simp only [Arm.v_eq, Schema.v_eq, hbb, hbs, hs1, amt, seval, reduceCtorEq]; refine z' _ ?_; clear z' Z; refine AWp.ret ?_; refine rt (by show resV Tryz.prog _ [.cell 4 75] = _; simp only [resV, amt, seval, reduceCtorEq]; rfl) ⟨?_, ?_⟩
   ·simp only [oneV]; rw [Arm.v_eq]
   ·have e := HM.put hH hbb (b && c); have e2 := hc _ hg1_6; subst e2; simp only [hg1_1, hg1_6, bo, Bool.not_true, Bool.not_false, ↓reduceIte, Bool.false_eq_true] at e ⊢; exact e
 ·simp only [Arm.v_eq, Schema.v_eq, hbb, hbs, hs1, hg1_1, undef, amt, seval, reduceCtorEq]; refine z' _ ?_; clear z' Z; refine rg fun Z z' => ?_; simp only [Arm.v_eq, Schema.v_eq, hbb, hbs, hs1, amt, seval, reduceCtorEq]; refine z' _ ?_; clear z' Z; refine AWp.ret ?_; refine rt (by show resV Tryz.prog _ [.cell 4 75] = _; simp only [resV, amt, seval, reduceCtorEq]; rfl) ⟨?_, ?_⟩
  ·simp only [oneV]; rw [Arm.v_eq]
  ·have e := HM.put hH hbb (b && c); simp only [hg1_1, bo, Bool.not_true, Bool.not_false, ↓reduceIte, Bool.false_eq_true] at e ⊢; exact e
theorem vis_none (s0 : Heap) (bb bs : Nat) : Vis (HM s0 bb bs scN.v) (kfa okN) mff (.func 20 [] [.ptr bb 0, .ptr bs 0]) (.base .nilFunc) (fun s => s ≠ none) where
 hac := rfl
 hfc := rfl
 hgf := fun s t d h => h
 hga := fun s a h => by
  cases s with
  | none => exact absurd rfl h
  | some b => simp
 hfv := .inl ⟨rfl, fun s t d => rfl⟩
 hF := fun k a c e => by cases e
 hav := .inr ⟨20, [], [.ptr bb 0, .ptr bs 0], rfl, fun σ0 a hg s hH => by
  cases σ0 with
  | none => exact absurd rfl hg
  | some b =>
   cases hc : okN a with
   | none => simp [kfa, hc] at hg
   | some c =>
    have e : (kfa okN (some b) a).1 = some (b && c) := by simp [kfa, hc]
    rw [e]
    exact f20_none b hH a c hc⟩
end Go.Proofs.YtcckhbconihagaaGreatDoor
