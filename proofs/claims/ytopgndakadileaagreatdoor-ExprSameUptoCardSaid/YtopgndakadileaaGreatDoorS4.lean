/- take: lets something be read; a panic becomes an error. -/
import Derived.Test.YtopgndakadileaaGreatDoorSAmDefer
import Derived.Test.YtopgndakadileaaGreatDoorSAmPanic
import Derived.Test.YtopgndakadileaaGreatDoorSXData
import Derived.Test.YtopgndakadileaaGreatDoorSXTy
import Derived.Test.YtopgndakadileaaGreatDoorS9
set_option linter.unusedVariables false
set_option linter.unusedSimpArgs false
set_option maxRecDepth 100000
set_option maxHeartbeats 4000000
namespace Go.Proofs.YtopgndakadileaaGreatDoor.Ex
open Go.Am Go.Ex Go.Proofs.YtopgndakadileaaGreatDoor
def takeS72 (R : XReader → Option (PX (Int × XReader) (XExpr × XReader))) (l : List XToken) (a p : Int) : Option (XExpr × XReader × Int) := (R (XReader.mk l (mnI (mxI a 0) ((l.length : Nat) : Int)) p)).bind fun r => match r with
  | .ok y => some (y.1, y.2, 0)
  | .bad q => some (XExpr.z, XReader.mk q.2.l q.1 q.2.params, 260)
theorem drec72 {G : Ghost} {s : Heap} {w : World} {b8 b9 b10 b19 : Nat} (h89 : b8 ≠ b9) (h8a : b8 ≠ b10) (h8b : b8 ≠ b19) (h9a : b9 ≠ b10) (h9b : b9 ≠ b19) (hab : b10 ≠ b19) {m : XReader} {er n : Int} (hh : HRel G ((((s.setBox b8 ([.base (.int .i64 0), .base (.bool false), .base (.string ByteArray.empty), .base (.string ByteArray.empty), .base (.int .i64 0), .base (.int .i64 0), .base (.int .i64 0), .base (.string ByteArray.empty), .nil, .nil], 29)).setBox b9 ([.ptr b19 0], 71)).setBox b10 ([vint er], 30)).setBox b19 ([.slice 3 (List.map XToken.v m.l), vint m.at_, vint m.params], 118)) w) :
    CallsDIn Fence.wide 0 Tryz.prog 138 #[ptrV b8, ptrV b10, ptrV b9] (.panicking [{ v := wrongV 177 n, recovered := false }]) w fun en u' w' => (∃ v, en = .returned v) ∧ u' = .panicking [{ v := wrongV 177 n, recovered := true }] ∧ ∃ G', Ext G ((((s.setBox b8 ([.base (.int .i64 0), .base (.bool false), .base (.string ByteArray.empty), .base (.string ByteArray.empty), .base (.int .i64 0), .base (.int .i64 0), .base (.int .i64 0), .base (.string ByteArray.empty), .nil, .nil], 29)).setBox b9 ([.ptr b19 0], 71)).setBox b10 ([vint er], 30)).setBox b19 ([.slice 3 (List.map XToken.v m.l), vint m.at_, vint m.params], 118)) w G' ((((s.setBox b8 ([.base (.int .i64 0), .base (.bool false), .base (.string ByteArray.empty), .base (.string ByteArray.empty), .base (.int .i64 0), .base (.int .i64 0), .base (.int .i64 0), .base (.string ByteArray.empty), .nil, .nil], 29)).setBox b9 ([.ptr b19 0], 71)).setBox b10 ([vint 260], 30)).setBox b19 ([.slice 3 (List.map XToken.v m.l), vint n, vint m.params], 118)) w' ∧ HRel G' ((((s.setBox b8 ([.base (.int .i64 0), .base (.bool false), .base (.string ByteArray.empty), .base (.string ByteArray.empty), .base (.int .i64 0), .base (.int .i64 0), .base (.int .i64 0), .base (.string ByteArray.empty), .nil, .nil], 29)).setBox b9 ([.ptr b19 0], 71)).setBox b10 ([vint 260], 30)).setBox b19 ([.slice 3 (List.map XToken.v m.l), vint n, vint m.params], 118)) w' := by
  refine callsD_am (fn := Tryz.f138) (args := [.ptr b8 0, .ptr b10 0, .ptr b9 0]) (rv := wrongV 177 n) Tryz.func138 rfl rfl rfl rfl rfl rfl rfl rfl (fun c₀ cs hu => .inl (by simp [recoverD, hu])) hh (RepL.cons (.ptr b8 0) (RepL.cons (.ptr b10 0) (RepL.cons (.ptr b9 0) (RepL.nil G)))) (by show 3 ≤ 24; decide) (by rw [Tryz.ntmps138]; decide) (by rw [Tryz.ntmps138]; decide) ?_
  rw [Tryz.ntmps138]
  refine AWp.reg fun Z1 hZ1 => ?_
  simp only [Tryz.underlying20, wrongV, ty20, am, seval, reduceCtorEq]
  refine hZ1 _ ?_; clear hZ1 Z1
  refine AWp.cond (t := true) (by simp only [am, seval, reduceCtorEq]) (fun _ => ?_) (fun hf => by cases hf)
  refine AWp.reg fun Z1 hZ1 => ?_
  simp only [ty177, am, seval, reduceCtorEq]
  refine hZ1 _ ?_; clear hZ1 Z1
  refine AWp.seq_k fun K hK => ?_
  refine AWp.reg fun Z1 hZ1 => ?_
  simp only [am, seval, reduceCtorEq]
  refine hZ1 _ ?_; clear hZ1 Z1
  refine AWp.cond (t := false) (by simp only [Bool.not_true, am, seval, reduceCtorEq]) (fun hf => by cases hf) (fun _ => ?_)
  refine AWp.skip ?_
  refine hK _ ?_; clear hK
  refine AWp.reg fun Z1 hZ1 => ?_
  simp only [ty29, am, seval, reduceCtorEq]
  refine hZ1 _ ?_; clear hZ1 Z1
  refine AWp.reg fun Z1 hZ1 => ?_
  simp only [ty29, ty30, setBox_same, setBox_ne, owns_box, ne_eq, not_false_eq_true, h89, h89.symm, h8a, h8a.symm, h8b, h8b.symm, h9a, h9a.symm, h9b, h9b.symm, hab, hab.symm, List.length_cons, List.length_nil, Nat.reduceAdd, am, seval, reduceCtorEq]
  refine hZ1 _ ?_; clear hZ1 Z1
  refine AWp.reg1 fun Z1 hZ1 => ?_
  simp only [ty177, ty118, ty71, ty3, setBox_same, setBox_ne, owns_box, ne_eq, not_false_eq_true, h89, h89.symm, h8a, h8a.symm, h8b, h8b.symm, h9a, h9a.symm, h9b, h9b.symm, hab, hab.symm, List.length_cons, List.length_nil, Nat.reduceAdd, am, seval, reduceCtorEq]
  refine hZ1 _ ?_; clear hZ1 Z1
  refine ⟨.inl rfl, rfl, ⟨fun k => .inl ?_, fun _ => .inl rfl⟩⟩
  simp only [Heap.setBox, upd] <;> (repeat' split) <;> first | with_reducible rfl | (simp_all; done) | (simp_all [XExpr.z, XExpr.v_eq]; done)
theorem dret72 {G : Ghost} {s : Heap} {w : World} {b8 b9 b10 : Nat} (hh : HRel G s w) : CallsDIn Fence.wide 0 Tryz.prog 138 #[ptrV b8, ptrV b10, ptrV b9] .returning w fun en u' w' => (∃ v, en = .returned v) ∧ u' = .returning ∧ ∃ G', Ext G s w G' s w' ∧ HRel G' s w' := by
  refine callsD_am (fn := Tryz.f138) (args := [.ptr b8 0, .ptr b10 0, .ptr b9 0]) (rv := .nilIface) Tryz.func138 rfl rfl rfl rfl rfl rfl rfl rfl (fun c₀ cs hu => .inr ⟨by simp [recoverD, hu], rfl, rfl⟩) hh (RepL.cons (.ptr b8 0) (RepL.cons (.ptr b10 0) (RepL.cons (.ptr b9 0) (RepL.nil G)))) (by show 3 ≤ 24; decide) (by rw [Tryz.ntmps138]; decide) (by rw [Tryz.ntmps138]; decide) ?_
  rw [Tryz.ntmps138]
  refine AWp.reg fun Z1 hZ1 => ?_
  simp only [Tryz.underlying20, ty20, am, seval, reduceCtorEq]
  refine hZ1 _ ?_; clear hZ1 Z1
  refine AWp.cond (t := false) (by simp only [am, seval, reduceCtorEq]) (fun hf => by cases hf) (fun _ => ?_)
  exact AWp.skip ⟨.inl rfl, rfl, Heap.le.refl _⟩
theorem take72 {l : List XToken} {a p : Int} {k : FuncId} {R : XReader → Option (PX (Int × XReader) (XExpr × XReader))} (hR : ∀ m r, R m = some r → GivesP1 Tryz.prog k (fun b0 => [.ptr b0 0]) (wrongV 177) r (fun y => .agg y.1.v) ([.slice 3 (List.map XToken.v m.l), vint m.at_, vint m.params], 118) (fun q => ([.slice 3 (List.map XToken.v q.2.l), vint q.2.at_, vint q.2.params], 118)) (fun y => ([.slice 3 (List.map XToken.v y.2.l), vint y.2.at_, vint y.2.params], 118)))
    (y : XExpr × XReader × Int) (hy : takeS72 R l a p = some y) (s : Heap) : ACalls Tryz.prog 72 [.slice 3 (List.map XToken.v l), vint a, vint p, .func k [] []] s fun v' s' => ∃ b, s.box b = none ∧ v' = .tuple [.agg y.1.v, .ptr b 0, vint y.2.2] ∧ s' = s.setBox b ([.slice 3 (List.map XToken.v y.2.1.l), vint y.2.1.at_, vint y.2.1.params], 118) := by
  unfold takeS72 at hy
  obtain ⟨r, hr, hy⟩ := Option.bind_eq_some_iff.1 hy
  have hc := hR _ r hr
  refine gcalls_of (fn := Tryz.f72) Tryz.func72 rfl (by decide) (by show 4 ≤ 25; decide) ?_
  rw [Tryz.ntmps72]
  refine GWp.seqA (fun st' => st'.le (tst [(0, .slice 3 (List.map XToken.v l)), (1, vint a), (2, vint p), (3, .func k [] []), (8, .loc 8 0), (9, .loc 9 0), (10, .loc 10 0)] [(8, ([.base (.int .i64 0), .base (.bool false), .base (.string ByteArray.empty), .base (.string ByteArray.empty), .base (.int .i64 0), .base (.int .i64 0), .base (.int .i64 0), .base (.string ByteArray.empty), .nil, .nil], 29)), (9, ([.base (.pointer none)], 71)), (10, ([vint 0], 30))] s 25)) rfl ?_ ?_
  · refine AWp.reg1 fun Z1 hZ1 => ?_
    simp only [ty29, ty71, ty30, am, seval, reduceCtorEq]
    refine hZ1 _ ⟨rfl, ?_⟩
    refine le_tst ?_ ?_ ?_ (Heap.le.refl _) rfl
    · simp only [leE, am, seval, reduceCtorEq] <;> simp
    · simp only [okL, keyIn, Nat.reduceBEq, Bool.or_true, Bool.true_or, Bool.or_false, and_self]
    · simp only [leB, am, seval, reduceCtorEq] <;> simp
  intro st1 hle1
  refine GWp.weaken hle1 ?_; clear hle1 st1
  refine GWp.publish (t0 := 8) (x := ([.base (.int .i64 0), .base (.bool false), .base (.string ByteArray.empty), .base (.string ByteArray.empty), .base (.int .i64 0), .base (.int .i64 0), .base (.int .i64 0), .base (.string ByteArray.empty), .nil, .nil], 29)) (by simp only [am, seval, reduceCtorEq]) fun b8 n8 => ?_
  refine GWp.weaken (st' := tst [(0, .slice 3 (List.map XToken.v l)), (1, vint a), (2, vint p), (3, .func k [] []), (8, .ptr b8 0), (9, .loc 9 0), (10, .loc 10 0)] [(9, ([.base (.pointer none)], 71)), (10, ([vint 0], 30))] (s.setBox b8 ([.base (.int .i64 0), .base (.bool false), .base (.string ByteArray.empty), .base (.string ByteArray.empty), .base (.int .i64 0), .base (.int .i64 0), .base (.int .i64 0), .base (.string ByteArray.empty), .nil, .nil], 29)) 25) ?_ ?_
  · refine le_tst ?_ ?_ ?_ (Heap.le.refl _) rfl
    · simp only [leE, St.publish, substV, am, seval, reduceCtorEq] <;> simp
    · simp only [okL, keyIn, Nat.reduceBEq, Bool.or_true, Bool.true_or, Bool.or_false, and_self]
    · simp only [leB, St.publish, substV, am, seval, reduceCtorEq] <;> simp
  refine GWp.publish (t0 := 9) (x := ([.base (.pointer none)], 71)) (by simp only [am, seval, reduceCtorEq]) fun b9 n9 => ?_
  refine GWp.weaken (st' := tst [(0, .slice 3 (List.map XToken.v l)), (1, vint a), (2, vint p), (3, .func k [] []), (8, .ptr b8 0), (9, .ptr b9 0), (10, .loc 10 0)] [(10, ([vint 0], 30))] ((s.setBox b8 ([.base (.int .i64 0), .base (.bool false), .base (.string ByteArray.empty), .base (.string ByteArray.empty), .base (.int .i64 0), .base (.int .i64 0), .base (.int .i64 0), .base (.string ByteArray.empty), .nil, .nil], 29)).setBox b9 ([.base (.pointer none)], 71)) 25) ?_ ?_
  · refine le_tst ?_ ?_ ?_ (Heap.le.refl _) rfl
    · simp only [leE, St.publish, substV, am, seval, reduceCtorEq] <;> simp
    · simp only [okL, keyIn, Nat.reduceBEq, Bool.or_true, Bool.true_or, Bool.or_false, and_self]
    · simp only [leB, St.publish, substV, am, seval, reduceCtorEq] <;> simp
  refine GWp.publish (t0 := 10) (x := ([vint 0], 30)) (by simp only [am, seval, reduceCtorEq]) fun b10 n10 => ?_
  refine GWp.weaken (st' := tst [(0, .slice 3 (List.map XToken.v l)), (1, vint a), (2, vint p), (3, .func k [] []), (8, .ptr b8 0), (9, .ptr b9 0), (10, .ptr b10 0)] [] (((s.setBox b8 ([.base (.int .i64 0), .base (.bool false), .base (.string ByteArray.empty), .base (.string ByteArray.empty), .base (.int .i64 0), .base (.int .i64 0), .base (.int .i64 0), .base (.string ByteArray.empty), .nil, .nil], 29)).setBox b9 ([.base (.pointer none)], 71)).setBox b10 ([vint 0], 30)) 25) ?_ ?_
  · refine le_tst ?_ ?_ ?_ (Heap.le.refl _) rfl
    · simp only [leE, St.publish, substV, am, seval, reduceCtorEq] <;> simp
    · simp only [okL, keyIn, Nat.reduceBEq, Bool.or_true, Bool.true_or, Bool.or_false, and_self]
    · simp only [leB, St.publish, substV, am, seval, reduceCtorEq] <;> simp
  change s.box b8 = none at n8
  change (s.setBox b8 _).box b9 = none at n9
  change ((s.setBox b8 _).setBox b9 _).box b10 = none at n10
  have h89 : b8 ≠ b9 := fun e => by subst e; rw [setBox_same] at n9; cases n9
  rw [setBox_ne h89.symm] at n9
  have h9a : b9 ≠ b10 := fun e => by subst e; rw [setBox_same] at n10; cases n10
  rw [setBox_ne h9a.symm] at n10
  have h8a : b8 ≠ b10 := fun e => by subst e; rw [setBox_same] at n10; cases n10
  rw [setBox_ne h8a.symm] at n10
  refine GWp.seqA (fun st' => ∃ b19, s.box b19 = none ∧ b8 ≠ b19 ∧ b9 ≠ b19 ∧ b10 ≠ b19 ∧ st'.le (tst [(3, .func k [] []), (8, .ptr b8 0), (9, .ptr b9 0), (10, .ptr b10 0)] [] ((((s.setBox b8 ([.base (.int .i64 0), .base (.bool false), .base (.string ByteArray.empty), .base (.string ByteArray.empty), .base (.int .i64 0), .base (.int .i64 0), .base (.int .i64 0), .base (.string ByteArray.empty), .nil, .nil], 29)).setBox b9 ([.ptr b19 0], 71)).setBox b10 ([vint 0], 30)).setBox b19 ([.slice 3 (List.map XToken.v (XReader.mk l (mnI (mxI a 0) ((l.length : Nat) : Int)) p).l), vint (XReader.mk l (mnI (mxI a 0) ((l.length : Nat) : Int)) p).at_, vint (XReader.mk l (mnI (mxI a 0) ((l.length : Nat) : Int)) p).params], 118)) 25)) rfl ?_ ?_
  · refine AWp.regX1 8 rfl (by decide +kernel) fun Z1 hZ1 => ?_
    simp only [ty118, ty3, ty72, k12, k13, k14, am, seval, reduceCtorEq]
    refine ⟨by simp only [gdOf, am, seval, reduceCtorEq], _, box_heap (d := 19) rfl rfl (by simp only [am, seval, reduceCtorEq]) (by show 19 < 25; decide) (by simp only [am, seval, reduceCtorEq]), ?_⟩
    rintro _ ⟨b19, n19, rfl⟩
    change (((s.setBox b8 _).setBox b9 _).setBox b10 _).box b19 = none at n19
    have hab : b10 ≠ b19 := fun e => by subst e; rw [setBox_same] at n19; cases n19
    rw [setBox_ne hab.symm] at n19
    have h9b : b9 ≠ b19 := fun e => by subst e; rw [setBox_same] at n19; cases n19
    rw [setBox_ne h9b.symm] at n19
    have h8b : b8 ≠ b19 := fun e => by subst e; rw [setBox_same] at n19; cases n19
    rw [setBox_ne h8b.symm] at n19
    simp only [St.publish, substV, ty71, k15, k16, k17, setBox_same, setBox_ne, ne_eq, not_false_eq_true, h89, h89.symm, h8a, h8a.symm, h8b, h8b.symm, h9a, h9a.symm, h9b, h9b.symm, hab, hab.symm, am, seval, reduceCtorEq]
    refine hZ1 _ ⟨rfl, b19, n19, h8b, h9b, hab, ?_⟩
    refine le_tst ?_ ?_ ?_ ⟨fun k => .inl ?_, fun _ => .inl rfl⟩ rfl
    · simp only [leE, am, seval, reduceCtorEq] <;> simp
    · simp only [okL, keyIn, Nat.reduceBEq, Bool.or_true, Bool.true_or, Bool.or_false, and_self]
    · simp only [leB, am, seval, reduceCtorEq] <;> simp
    · simp only [Heap.setBox, upd] <;> (repeat' split) <;> first | with_reducible rfl | (simp_all; done)
  rintro st2 ⟨b19, n19, h8b, h9b, hab, hle2⟩
  refine GWp.weaken hle2 ?_; clear hle2 st2
  refine GWp.defer (bs := [b8, b10, b9]) (fun v s' => ∃ q, r = .bad q ∧ v = wrongV 177 q.1 ∧ s' = ((((s.setBox b8 ([.base (.int .i64 0), .base (.bool false), .base (.string ByteArray.empty), .base (.string ByteArray.empty), .base (.int .i64 0), .base (.int .i64 0), .base (.int .i64 0), .base (.string ByteArray.empty), .nil, .nil], 29)).setBox b9 ([.ptr b19 0], 71)).setBox b10 ([vint 0], 30)).setBox b19 ([.slice 3 (List.map XToken.v q.2.l), vint q.2.at_, vint q.2.params], 118))) rfl rfl rfl rfl rfl rfl (by simp only [am, seval, reduceCtorEq]) rfl (by show 20 < 25; decide) rfl fun e ac w ht hp hin => ?_
  obtain ⟨G0, be0, hX0, hR0⟩ := hin
  refine wp_seq (wp_mono (wp_region_framedT [(8, ptrV b8), (9, ptrV b9), (10, ptrV b10)] [8, 9, 10] rfl (Q := fun x st' => x = .normal ∧ st'.ds = [] ∧ ∃ y', r = .ok y' ∧ st'.s.le ((((s.setBox b8 (y'.1.v, 29)).setBox b9 ([.ptr b19 0], 71)).setBox b10 ([vint 0], 30)).setBox b19 ([.slice 3 (List.map XToken.v y'.2.l), vint y'.2.at_, vint y'.2.params], 118))) mixed (.both (.op 0 (.both (.op 1 (.both (.op 2 (.both (.op 3 (.op 4 (.op 5 (.op 6 .fin)))) (.op 4 (.op 3 (.op 5 (.op 6 .fin)))))) (.op 3 (.op 2 (.op 4 (.op 5 (.op 6 .fin))))))) (.op 3 (.op 1 (.op 2 (.op 4 (.op 5 (.op 6 .fin)))))))) (.both (.op 1 (.both (.op 0 (.both (.op 2 (.both (.op 3 (.op 4 (.op 5 (.op 6 .fin)))) (.op 4 (.op 3 (.op 5 (.op 6 .fin)))))) (.op 3 (.op 2 (.op 4 (.op 5 (.op 6 .fin))))))) (.op 3 (.op 0 (.op 2 (.op 4 (.op 5 (.op 6 .fin)))))))) (.op 3 (.both (.op 0 (.op 1 (.op 2 (.op 4 (.op 5 (.op 6 .fin)))))) (.op 1 (.op 0 (.op 2 (.op 4 (.op 5 (.op 6 .fin)))))))))) (by decide +kernel) (by decide +kernel) ?_ ⟨G0, be0, hX0, hR0⟩ (fun Z1 hZ1 => ?_)) fun x a' w' hq => ?_)
  · intro t ht
    simp only [List.mem_cons, List.not_mem_nil, or_false] at ht
    rcases ht with rfl | rfl | rfl
    · exact ptr_tmp hR0 (by simp only [am, seval, reduceCtorEq])
    · exact ptr_tmp hR0 (by simp only [am, seval, reduceCtorEq])
    · exact ptr_tmp hR0 (by simp only [am, seval, reduceCtorEq])
  ·
    (try simp only [aopsO_op, aopsO_fin, aopsOK_eq, ty71, ty29, ty30, XExpr.vs, setBox_same, setBox_ne, ne_eq, not_false_eq_true, h89, h89.symm, h8a, h8a.symm, h8b, h8b.symm, h9a, h9a.symm, h9b, h9b.symm, hab, hab.symm, List.take_zero, List.nil_append, List.append_nil, Nat.zero_add, List.drop_succ_cons, List.drop_nil, List.drop_zero, List.length_cons, List.length_nil, Nat.reduceAdd, Nat.reduceLeDiff, am, seval, reduceCtorEq])
    refine aopsO_both ?_ ?_
    ·
      (try simp only [aopsO_op, aopsO_fin, aopsOK_eq, ty71, ty29, ty30, XExpr.vs, setBox_same, setBox_ne, ne_eq, not_false_eq_true, h89, h89.symm, h8a, h8a.symm, h8b, h8b.symm, h9a, h9a.symm, h9b, h9b.symm, hab, hab.symm, List.take_zero, List.nil_append, List.append_nil, Nat.zero_add, List.drop_succ_cons, List.drop_nil, List.drop_zero, List.length_cons, List.length_nil, Nat.reduceAdd, Nat.reduceLeDiff, am, seval, reduceCtorEq])
      refine aopsO_both ?_ ?_
      ·
        (try simp only [aopsO_op, aopsO_fin, aopsOK_eq, ty71, ty29, ty30, XExpr.vs, setBox_same, setBox_ne, ne_eq, not_false_eq_true, h89, h89.symm, h8a, h8a.symm, h8b, h8b.symm, h9a, h9a.symm, h9b, h9b.symm, hab, hab.symm, List.take_zero, List.nil_append, List.append_nil, Nat.zero_add, List.drop_succ_cons, List.drop_nil, List.drop_zero, List.length_cons, List.length_nil, Nat.reduceAdd, Nat.reduceLeDiff, am, seval, reduceCtorEq])
        refine aopsO_both ?_ ?_
        ·
          (try simp only [aopsO_op, aopsO_fin, aopsOK_eq, ty71, ty29, ty30, XExpr.vs, setBox_same, setBox_ne, ne_eq, not_false_eq_true, h89, h89.symm, h8a, h8a.symm, h8b, h8b.symm, h9a, h9a.symm, h9b, h9b.symm, hab, hab.symm, List.take_zero, List.nil_append, List.append_nil, Nat.zero_add, List.drop_succ_cons, List.drop_nil, List.drop_zero, List.length_cons, List.length_nil, Nat.reduceAdd, Nat.reduceLeDiff, am, seval, reduceCtorEq])
          refine (hc _ b19 (by simp only [setBox_same, setBox_ne, ne_eq, not_false_eq_true, h89, h89.symm, h8a, h8a.symm, h8b, h8b.symm, h9a, h9a.symm, h9b, h9b.symm, hab, hab.symm])).mono ?_ ?_
          · rintro _ _ ⟨q, hq, rfl, rfl⟩; exact ⟨_, Heap.le.refl _, q, hq, rfl, setBox_set⟩
          rintro _ _ ⟨y', hy', rfl, rfl⟩
          (try simp only [aopsO_op, aopsO_fin, aopsOK_eq, ty71, ty29, ty30, XExpr.vs, setBox_same, setBox_ne, ne_eq, not_false_eq_true, h89, h89.symm, h8a, h8a.symm, h8b, h8b.symm, h9a, h9a.symm, h9b, h9b.symm, hab, hab.symm, List.take_zero, List.nil_append, List.append_nil, Nat.zero_add, List.drop_succ_cons, List.drop_nil, List.drop_zero, List.length_cons, List.length_nil, Nat.reduceAdd, Nat.reduceLeDiff, am, seval, reduceCtorEq])
          refine aopsO_both ?_ ?_
          ·
            (try simp only [aopsO_op, aopsO_fin, aopsOK_eq, ty71, ty29, ty30, XExpr.vs, setBox_same, setBox_ne, ne_eq, not_false_eq_true, h89, h89.symm, h8a, h8a.symm, h8b, h8b.symm, h9a, h9a.symm, h9b, h9b.symm, hab, hab.symm, List.take_zero, List.nil_append, List.append_nil, Nat.zero_add, List.drop_succ_cons, List.drop_nil, List.drop_zero, List.length_cons, List.length_nil, Nat.reduceAdd, Nat.reduceLeDiff, am, seval, reduceCtorEq])
            refine hZ1 _ ⟨rfl, rfl, y', hy', ⟨fun k => .inl ?_, fun _ => .inl rfl⟩⟩
            simp only [Heap.setBox, upd] <;> (repeat' split) <;> first | with_reducible rfl | (simp_all; done)
          ·
            (try simp only [aopsO_op, aopsO_fin, aopsOK_eq, ty71, ty29, ty30, XExpr.vs, setBox_same, setBox_ne, ne_eq, not_false_eq_true, h89, h89.symm, h8a, h8a.symm, h8b, h8b.symm, h9a, h9a.symm, h9b, h9b.symm, hab, hab.symm, List.take_zero, List.nil_append, List.append_nil, Nat.zero_add, List.drop_succ_cons, List.drop_nil, List.drop_zero, List.length_cons, List.length_nil, Nat.reduceAdd, Nat.reduceLeDiff, am, seval, reduceCtorEq])
            refine hZ1 _ ⟨rfl, rfl, y', hy', ⟨fun k => .inl ?_, fun _ => .inl rfl⟩⟩
            simp only [Heap.setBox, upd] <;> (repeat' split) <;> first | with_reducible rfl | (simp_all; done)
        ·
          (try simp only [aopsO_op, aopsO_fin, aopsOK_eq, ty71, ty29, ty30, XExpr.vs, setBox_same, setBox_ne, ne_eq, not_false_eq_true, h89, h89.symm, h8a, h8a.symm, h8b, h8b.symm, h9a, h9a.symm, h9b, h9b.symm, hab, hab.symm, List.take_zero, List.nil_append, List.append_nil, Nat.zero_add, List.drop_succ_cons, List.drop_nil, List.drop_zero, List.length_cons, List.length_nil, Nat.reduceAdd, Nat.reduceLeDiff, am, seval, reduceCtorEq])
          refine (hc _ b19 (by simp only [setBox_same, setBox_ne, ne_eq, not_false_eq_true, h89, h89.symm, h8a, h8a.symm, h8b, h8b.symm, h9a, h9a.symm, h9b, h9b.symm, hab, hab.symm])).mono ?_ ?_
          · rintro _ _ ⟨q, hq, rfl, rfl⟩; exact ⟨_, Heap.le.refl _, q, hq, rfl, setBox_set⟩
          rintro _ _ ⟨y', hy', rfl, rfl⟩
          (try simp only [aopsO_op, aopsO_fin, aopsOK_eq, ty71, ty29, ty30, XExpr.vs, setBox_same, setBox_ne, ne_eq, not_false_eq_true, h89, h89.symm, h8a, h8a.symm, h8b, h8b.symm, h9a, h9a.symm, h9b, h9b.symm, hab, hab.symm, List.take_zero, List.nil_append, List.append_nil, Nat.zero_add, List.drop_succ_cons, List.drop_nil, List.drop_zero, List.length_cons, List.length_nil, Nat.reduceAdd, Nat.reduceLeDiff, am, seval, reduceCtorEq])
          refine hZ1 _ ⟨rfl, rfl, y', hy', ⟨fun k => .inl ?_, fun _ => .inl rfl⟩⟩
          simp only [Heap.setBox, upd] <;> (repeat' split) <;> first | with_reducible rfl | (simp_all; done)
      ·
        (try simp only [aopsO_op, aopsO_fin, aopsOK_eq, ty71, ty29, ty30, XExpr.vs, setBox_same, setBox_ne, ne_eq, not_false_eq_true, h89, h89.symm, h8a, h8a.symm, h8b, h8b.symm, h9a, h9a.symm, h9b, h9b.symm, hab, hab.symm, List.take_zero, List.nil_append, List.append_nil, Nat.zero_add, List.drop_succ_cons, List.drop_nil, List.drop_zero, List.length_cons, List.length_nil, Nat.reduceAdd, Nat.reduceLeDiff, am, seval, reduceCtorEq])
        refine (hc _ b19 (by simp only [setBox_same, setBox_ne, ne_eq, not_false_eq_true, h89, h89.symm, h8a, h8a.symm, h8b, h8b.symm, h9a, h9a.symm, h9b, h9b.symm, hab, hab.symm])).mono ?_ ?_
        · rintro _ _ ⟨q, hq, rfl, rfl⟩; exact ⟨_, Heap.le.refl _, q, hq, rfl, setBox_set⟩
        rintro _ _ ⟨y', hy', rfl, rfl⟩
        (try simp only [aopsO_op, aopsO_fin, aopsOK_eq, ty71, ty29, ty30, XExpr.vs, setBox_same, setBox_ne, ne_eq, not_false_eq_true, h89, h89.symm, h8a, h8a.symm, h8b, h8b.symm, h9a, h9a.symm, h9b, h9b.symm, hab, hab.symm, List.take_zero, List.nil_append, List.append_nil, Nat.zero_add, List.drop_succ_cons, List.drop_nil, List.drop_zero, List.length_cons, List.length_nil, Nat.reduceAdd, Nat.reduceLeDiff, am, seval, reduceCtorEq])
        refine hZ1 _ ⟨rfl, rfl, y', hy', ⟨fun k => .inl ?_, fun _ => .inl rfl⟩⟩
        simp only [Heap.setBox, upd] <;> (repeat' split) <;> first | with_reducible rfl | (simp_all; done)
    ·
      (try simp only [aopsO_op, aopsO_fin, aopsOK_eq, ty71, ty29, ty30, XExpr.vs, setBox_same, setBox_ne, ne_eq, not_false_eq_true, h89, h89.symm, h8a, h8a.symm, h8b, h8b.symm, h9a, h9a.symm, h9b, h9b.symm, hab, hab.symm, List.take_zero, List.nil_append, List.append_nil, Nat.zero_add, List.drop_succ_cons, List.drop_nil, List.drop_zero, List.length_cons, List.length_nil, Nat.reduceAdd, Nat.reduceLeDiff, am, seval, reduceCtorEq])
      refine aopsO_both ?_ ?_
      ·
        (try simp only [aopsO_op, aopsO_fin, aopsOK_eq, ty71, ty29, ty30, XExpr.vs, setBox_same, setBox_ne, ne_eq, not_false_eq_true, h89, h89.symm, h8a, h8a.symm, h8b, h8b.symm, h9a, h9a.symm, h9b, h9b.symm, hab, hab.symm, List.take_zero, List.nil_append, List.append_nil, Nat.zero_add, List.drop_succ_cons, List.drop_nil, List.drop_zero, List.length_cons, List.length_nil, Nat.reduceAdd, Nat.reduceLeDiff, am, seval, reduceCtorEq])
        refine aopsO_both ?_ ?_
        ·
          (try simp only [aopsO_op, aopsO_fin, aopsOK_eq, ty71, ty29, ty30, XExpr.vs, setBox_same, setBox_ne, ne_eq, not_false_eq_true, h89, h89.symm, h8a, h8a.symm, h8b, h8b.symm, h9a, h9a.symm, h9b, h9b.symm, hab, hab.symm, List.take_zero, List.nil_append, List.append_nil, Nat.zero_add, List.drop_succ_cons, List.drop_nil, List.drop_zero, List.length_cons, List.length_nil, Nat.reduceAdd, Nat.reduceLeDiff, am, seval, reduceCtorEq])
          refine aopsO_both ?_ ?_
          ·
            (try simp only [aopsO_op, aopsO_fin, aopsOK_eq, ty71, ty29, ty30, XExpr.vs, setBox_same, setBox_ne, ne_eq, not_false_eq_true, h89, h89.symm, h8a, h8a.symm, h8b, h8b.symm, h9a, h9a.symm, h9b, h9b.symm, hab, hab.symm, List.take_zero, List.nil_append, List.append_nil, Nat.zero_add, List.drop_succ_cons, List.drop_nil, List.drop_zero, List.length_cons, List.length_nil, Nat.reduceAdd, Nat.reduceLeDiff, am, seval, reduceCtorEq])
            refine (hc _ b19 (by simp only [setBox_same, setBox_ne, ne_eq, not_false_eq_true, h89, h89.symm, h8a, h8a.symm, h8b, h8b.symm, h9a, h9a.symm, h9b, h9b.symm, hab, hab.symm])).mono ?_ ?_
            · rintro _ _ ⟨q, hq, rfl, rfl⟩; exact ⟨_, Heap.le.refl _, q, hq, rfl, setBox_set⟩
            rintro _ _ ⟨y', hy', rfl, rfl⟩
            (try simp only [aopsO_op, aopsO_fin, aopsOK_eq, ty71, ty29, ty30, XExpr.vs, setBox_same, setBox_ne, ne_eq, not_false_eq_true, h89, h89.symm, h8a, h8a.symm, h8b, h8b.symm, h9a, h9a.symm, h9b, h9b.symm, hab, hab.symm, List.take_zero, List.nil_append, List.append_nil, Nat.zero_add, List.drop_succ_cons, List.drop_nil, List.drop_zero, List.length_cons, List.length_nil, Nat.reduceAdd, Nat.reduceLeDiff, am, seval, reduceCtorEq])
            refine aopsO_both ?_ ?_
            ·
              (try simp only [aopsO_op, aopsO_fin, aopsOK_eq, ty71, ty29, ty30, XExpr.vs, setBox_same, setBox_ne, ne_eq, not_false_eq_true, h89, h89.symm, h8a, h8a.symm, h8b, h8b.symm, h9a, h9a.symm, h9b, h9b.symm, hab, hab.symm, List.take_zero, List.nil_append, List.append_nil, Nat.zero_add, List.drop_succ_cons, List.drop_nil, List.drop_zero, List.length_cons, List.length_nil, Nat.reduceAdd, Nat.reduceLeDiff, am, seval, reduceCtorEq])
              refine hZ1 _ ⟨rfl, rfl, y', hy', ⟨fun k => .inl ?_, fun _ => .inl rfl⟩⟩
              simp only [Heap.setBox, upd] <;> (repeat' split) <;> first | with_reducible rfl | (simp_all; done)
            ·
              (try simp only [aopsO_op, aopsO_fin, aopsOK_eq, ty71, ty29, ty30, XExpr.vs, setBox_same, setBox_ne, ne_eq, not_false_eq_true, h89, h89.symm, h8a, h8a.symm, h8b, h8b.symm, h9a, h9a.symm, h9b, h9b.symm, hab, hab.symm, List.take_zero, List.nil_append, List.append_nil, Nat.zero_add, List.drop_succ_cons, List.drop_nil, List.drop_zero, List.length_cons, List.length_nil, Nat.reduceAdd, Nat.reduceLeDiff, am, seval, reduceCtorEq])
              refine hZ1 _ ⟨rfl, rfl, y', hy', ⟨fun k => .inl ?_, fun _ => .inl rfl⟩⟩
              simp only [Heap.setBox, upd] <;> (repeat' split) <;> first | with_reducible rfl | (simp_all; done)
          ·
            (try simp only [aopsO_op, aopsO_fin, aopsOK_eq, ty71, ty29, ty30, XExpr.vs, setBox_same, setBox_ne, ne_eq, not_false_eq_true, h89, h89.symm, h8a, h8a.symm, h8b, h8b.symm, h9a, h9a.symm, h9b, h9b.symm, hab, hab.symm, List.take_zero, List.nil_append, List.append_nil, Nat.zero_add, List.drop_succ_cons, List.drop_nil, List.drop_zero, List.length_cons, List.length_nil, Nat.reduceAdd, Nat.reduceLeDiff, am, seval, reduceCtorEq])
            refine (hc _ b19 (by simp only [setBox_same, setBox_ne, ne_eq, not_false_eq_true, h89, h89.symm, h8a, h8a.symm, h8b, h8b.symm, h9a, h9a.symm, h9b, h9b.symm, hab, hab.symm])).mono ?_ ?_
            · rintro _ _ ⟨q, hq, rfl, rfl⟩; exact ⟨_, Heap.le.refl _, q, hq, rfl, setBox_set⟩
            rintro _ _ ⟨y', hy', rfl, rfl⟩
            (try simp only [aopsO_op, aopsO_fin, aopsOK_eq, ty71, ty29, ty30, XExpr.vs, setBox_same, setBox_ne, ne_eq, not_false_eq_true, h89, h89.symm, h8a, h8a.symm, h8b, h8b.symm, h9a, h9a.symm, h9b, h9b.symm, hab, hab.symm, List.take_zero, List.nil_append, List.append_nil, Nat.zero_add, List.drop_succ_cons, List.drop_nil, List.drop_zero, List.length_cons, List.length_nil, Nat.reduceAdd, Nat.reduceLeDiff, am, seval, reduceCtorEq])
            refine hZ1 _ ⟨rfl, rfl, y', hy', ⟨fun k => .inl ?_, fun _ => .inl rfl⟩⟩
            simp only [Heap.setBox, upd] <;> (repeat' split) <;> first | with_reducible rfl | (simp_all; done)
        ·
          (try simp only [aopsO_op, aopsO_fin, aopsOK_eq, ty71, ty29, ty30, XExpr.vs, setBox_same, setBox_ne, ne_eq, not_false_eq_true, h89, h89.symm, h8a, h8a.symm, h8b, h8b.symm, h9a, h9a.symm, h9b, h9b.symm, hab, hab.symm, List.take_zero, List.nil_append, List.append_nil, Nat.zero_add, List.drop_succ_cons, List.drop_nil, List.drop_zero, List.length_cons, List.length_nil, Nat.reduceAdd, Nat.reduceLeDiff, am, seval, reduceCtorEq])
          refine (hc _ b19 (by simp only [setBox_same, setBox_ne, ne_eq, not_false_eq_true, h89, h89.symm, h8a, h8a.symm, h8b, h8b.symm, h9a, h9a.symm, h9b, h9b.symm, hab, hab.symm])).mono ?_ ?_
          · rintro _ _ ⟨q, hq, rfl, rfl⟩; exact ⟨_, Heap.le.refl _, q, hq, rfl, setBox_set⟩
          rintro _ _ ⟨y', hy', rfl, rfl⟩
          (try simp only [aopsO_op, aopsO_fin, aopsOK_eq, ty71, ty29, ty30, XExpr.vs, setBox_same, setBox_ne, ne_eq, not_false_eq_true, h89, h89.symm, h8a, h8a.symm, h8b, h8b.symm, h9a, h9a.symm, h9b, h9b.symm, hab, hab.symm, List.take_zero, List.nil_append, List.append_nil, Nat.zero_add, List.drop_succ_cons, List.drop_nil, List.drop_zero, List.length_cons, List.length_nil, Nat.reduceAdd, Nat.reduceLeDiff, am, seval, reduceCtorEq])
          refine hZ1 _ ⟨rfl, rfl, y', hy', ⟨fun k => .inl ?_, fun _ => .inl rfl⟩⟩
          simp only [Heap.setBox, upd] <;> (repeat' split) <;> first | with_reducible rfl | (simp_all; done)
      ·
        (try simp only [aopsO_op, aopsO_fin, aopsOK_eq, ty71, ty29, ty30, XExpr.vs, setBox_same, setBox_ne, ne_eq, not_false_eq_true, h89, h89.symm, h8a, h8a.symm, h8b, h8b.symm, h9a, h9a.symm, h9b, h9b.symm, hab, hab.symm, List.take_zero, List.nil_append, List.append_nil, Nat.zero_add, List.drop_succ_cons, List.drop_nil, List.drop_zero, List.length_cons, List.length_nil, Nat.reduceAdd, Nat.reduceLeDiff, am, seval, reduceCtorEq])
        refine aopsO_both ?_ ?_
        ·
          (try simp only [aopsO_op, aopsO_fin, aopsOK_eq, ty71, ty29, ty30, XExpr.vs, setBox_same, setBox_ne, ne_eq, not_false_eq_true, h89, h89.symm, h8a, h8a.symm, h8b, h8b.symm, h9a, h9a.symm, h9b, h9b.symm, hab, hab.symm, List.take_zero, List.nil_append, List.append_nil, Nat.zero_add, List.drop_succ_cons, List.drop_nil, List.drop_zero, List.length_cons, List.length_nil, Nat.reduceAdd, Nat.reduceLeDiff, am, seval, reduceCtorEq])
          refine (hc _ b19 (by simp only [setBox_same, setBox_ne, ne_eq, not_false_eq_true, h89, h89.symm, h8a, h8a.symm, h8b, h8b.symm, h9a, h9a.symm, h9b, h9b.symm, hab, hab.symm])).mono ?_ ?_
          · rintro _ _ ⟨q, hq, rfl, rfl⟩; exact ⟨_, Heap.le.refl _, q, hq, rfl, setBox_set⟩
          rintro _ _ ⟨y', hy', rfl, rfl⟩
          (try simp only [aopsO_op, aopsO_fin, aopsOK_eq, ty71, ty29, ty30, XExpr.vs, setBox_same, setBox_ne, ne_eq, not_false_eq_true, h89, h89.symm, h8a, h8a.symm, h8b, h8b.symm, h9a, h9a.symm, h9b, h9b.symm, hab, hab.symm, List.take_zero, List.nil_append, List.append_nil, Nat.zero_add, List.drop_succ_cons, List.drop_nil, List.drop_zero, List.length_cons, List.length_nil, Nat.reduceAdd, Nat.reduceLeDiff, am, seval, reduceCtorEq])
          refine hZ1 _ ⟨rfl, rfl, y', hy', ⟨fun k => .inl ?_, fun _ => .inl rfl⟩⟩
          simp only [Heap.setBox, upd] <;> (repeat' split) <;> first | with_reducible rfl | (simp_all; done)
        ·
          (try simp only [aopsO_op, aopsO_fin, aopsOK_eq, ty71, ty29, ty30, XExpr.vs, setBox_same, setBox_ne, ne_eq, not_false_eq_true, h89, h89.symm, h8a, h8a.symm, h8b, h8b.symm, h9a, h9a.symm, h9b, h9b.symm, hab, hab.symm, List.take_zero, List.nil_append, List.append_nil, Nat.zero_add, List.drop_succ_cons, List.drop_nil, List.drop_zero, List.length_cons, List.length_nil, Nat.reduceAdd, Nat.reduceLeDiff, am, seval, reduceCtorEq])
          refine (hc _ b19 (by simp only [setBox_same, setBox_ne, ne_eq, not_false_eq_true, h89, h89.symm, h8a, h8a.symm, h8b, h8b.symm, h9a, h9a.symm, h9b, h9b.symm, hab, hab.symm])).mono ?_ ?_
          · rintro _ _ ⟨q, hq, rfl, rfl⟩; exact ⟨_, Heap.le.refl _, q, hq, rfl, setBox_set⟩
          rintro _ _ ⟨y', hy', rfl, rfl⟩
          (try simp only [aopsO_op, aopsO_fin, aopsOK_eq, ty71, ty29, ty30, XExpr.vs, setBox_same, setBox_ne, ne_eq, not_false_eq_true, h89, h89.symm, h8a, h8a.symm, h8b, h8b.symm, h9a, h9a.symm, h9b, h9b.symm, hab, hab.symm, List.take_zero, List.nil_append, List.append_nil, Nat.zero_add, List.drop_succ_cons, List.drop_nil, List.drop_zero, List.length_cons, List.length_nil, Nat.reduceAdd, Nat.reduceLeDiff, am, seval, reduceCtorEq])
          refine hZ1 _ ⟨rfl, rfl, y', hy', ⟨fun k => .inl ?_, fun _ => .inl rfl⟩⟩
          simp only [Heap.setBox, upd] <;> (repeat' split) <;> first | with_reducible rfl | (simp_all; done)
  have e0 : (Tryz.f72).results = #[.cell 8 29, .cell 9 71, .cell 10 30] := rfl
  have hinv : ∀ w, (invoke (.fn (.func 138) #[ptrV b8, ptrV b10, ptrV b9]) #[]).run Tryz.prog w = .ok (.enter 138 #[ptrV b8, ptrV b10, ptrV b9]) w := fun w => by
    simp [invoke, callFunc, Tryz.func138, Tryz.f138]
  have hend : ∀ (z : List V) (m : XReader) (er : Int) (G' : Ghost) (w'' : World), z.length = 10 → Wk (.agg z) (.agg y.1.v) → y.2 = (m, er) → HRel G' ((((s.setBox b8 (z, 29)).setBox b9 ([.ptr b19 0], 71)).setBox b10 ([vint er], 30)).setBox b19 ([.slice 3 (List.map XToken.v m.l), vint m.at_, vint m.params], 118)) w'' → Ext e.G e.s e.w G' ((((s.setBox b8 (z, 29)).setBox b9 ([.ptr b19 0], 71)).setBox b10 ([vint er], 30)).setBox b19 ([.slice 3 (List.map XToken.v m.l), vint m.at_, vint m.params], 118)) w'' →
      (∀ t ∈ [(8, ptrV b8), (9, ptrV b9), (10, ptrV b10)], a'.tmps.getD t.1 undef = t.2) → ∃ v, (results Tryz.f72 a'.tmps).run Tryz.prog w'' = .ok v w'' ∧ ∃ G' s' v' cv, Ending.returned v = .returned cv ∧ Rep G' v' cv ∧ Ext e.G e.s e.w G' s' w'' ∧ HRel G' s' w'' ∧ ∃ b, s.box b = none ∧ v' = .tuple [.agg y.1.v, .ptr b 0, vint y.2.2] ∧ s' = s.setBox b ([.slice 3 (List.map XToken.v y.2.1.l), vint y.2.1.at_, vint y.2.1.params], 118) := by
    intro z m er G' w'' hz hwk hy2 hH hX hF
    obtain ⟨c1, r1, p1⟩ := cell_res (P := Tryz.prog) (t := 29) (v := .agg z) (cs := z) (ty := 29) hH (hF (8, ptrV b8) (by simp)) (b := b8) (by simp only [setBox_same, setBox_ne, ne_eq, not_false_eq_true, h89, h89.symm, h8a, h8a.symm, h8b, h8b.symm, h9a, h9a.symm, h9b, h9b.symm, hab, hab.symm]) ty29 (by simp [rd, hz, List.take_of_length_le (show z.length ≤ 10 by omega)])
    obtain ⟨c2, r2, p2⟩ := cell_res (P := Tryz.prog) (t := 71) (v := .ptr b19 0) (cs := [.ptr b19 0]) (ty := 71) hH (hF (9, ptrV b9) (by simp)) (b := b9) (by simp only [setBox_same, setBox_ne, ne_eq, not_false_eq_true, h89, h89.symm, h8a, h8a.symm, h8b, h8b.symm, h9a, h9a.symm, h9b, h9b.symm, hab, hab.symm]) ty71 rfl
    obtain ⟨c3, r3, p3⟩ := cell_res (P := Tryz.prog) (t := 30) (v := vint er) (cs := [vint er]) (ty := 30) hH (hF (10, ptrV b10) (by simp)) (b := b10) (by simp only [setBox_same, setBox_ne, ne_eq, not_false_eq_true, h89, h89.symm, h8a, h8a.symm, h8b, h8b.symm, h9a, h9a.symm, h9b, h9b.symm, hab, hab.symm]) ty30 rfl
    have hle : ((((s.setBox b8 (z, 29)).setBox b9 ([.ptr b19 0], 71)).setBox b10 ([vint er], 30)).setBox b19 ([.slice 3 (List.map XToken.v m.l), vint m.at_, vint m.params], 118)).le (s.setBox b19 ([.slice 3 (List.map XToken.v m.l), vint m.at_, vint m.params], 118)) := by
      refine Heap.le.bx ?_ _ _
      exact Heap.le.trans (Heap.le.dropBox (by simp only [setBox_ne, ne_eq, not_false_eq_true, h89, h89.symm, h8a, h8a.symm, h8b, h8b.symm, h9a, h9a.symm, h9b, h9b.symm, hab, hab.symm, n10]) _) (Heap.le.trans (Heap.le.dropBox (by simp only [setBox_ne, ne_eq, not_false_eq_true, h89, h89.symm, h8a, h8a.symm, h8b, h8b.symm, h9a, h9a.symm, h9b, h9b.symm, hab, hab.symm, n9]) _) (Heap.le.dropBox n8 _))
    refine ⟨_, results3 e0 r1 r2 r3, G', _, .tuple [.agg y.1.v, .ptr b19 0, vint y.2.2], _, rfl, ?_, hX.weaken hle, hH.weaken hle, b19, n19, rfl, by rw [hy2]⟩
    rw [hy2]
    exact RepL.tuple (ccs := #[c1, c2, c3]) (RepL.cons (hwk _ _ p1) (RepL.cons p2 (RepL.cons p3 (RepL.nil G'))))
  rcases hq with ⟨⟨st', ⟨rfl, hds, y', hy', hle⟩, G', be, hX, hR1⟩ | ⟨v, G', s', rfl, hd, hX, hH, q, hq, rfl, rfl⟩, hF⟩
  · refine wp_ret ?_
    show LeavesInM Fence.wide 0 Tryz.prog _ a'.tmps _ a'.defers .returning w'
    have hd : a'.defers = [{ target := .fn (.func 138) #[ptrV b8, ptrV b10, ptrV b9], args := #[] }] := by rw [show a'.defers = st'.ds ++ _ from hR1.df.eq, hds]; rfl
    rw [hd]
    subst hy'
    cases hy
    refine ⟨by simp, .inr ⟨fun h => by simp [Fence.wide] at h, _, _, 138, _, rfl, hinv w', fun _ _ => trivial, (dret72 (hR1.hr.weaken hle)).mono ?_⟩⟩
    rintro en u' w'' ⟨⟨v, rfl⟩, rfl, G'', hX2, hH2⟩
    exact hend _ _ _ G'' w'' (by simp only [XExpr.vs]) (Wk.refl _) rfl hH2 ((hX.weaken hle).trans hX2) (hF (.inl rfl))
  · show LeavesInM Fence.wide 0 Tryz.prog _ a'.tmps _ a'.defers (.panicking _) w'
    rw [hd]
    subst hq
    cases hy
    refine ⟨by simp, .inr ⟨fun h => by simp [Fence.wide] at h, _, _, 138, _, rfl, hinv w', fun _ _ => trivial, (drec72 h89 h8a h8b h9a h9b hab hH).mono ?_⟩⟩
    rintro en u' w'' ⟨⟨v, rfl⟩, rfl, G'', hX2, hH2⟩
    exact hend _ (XReader.mk q.2.l q.1 q.2.params) 260 G'' w'' rfl (Wk.agg (by rw [XExpr.v_eq]; exact ⟨Wk.refl _, Wk.refl _, Wk.refl _, Wk.refl _, Wk.refl _, Wk.refl _, Wk.refl _, Wk.refl _, Wk.nil _, Wk.nil _, trivial⟩)) rfl hH2 (hX.trans hX2) (hF (.inr ⟨_, rfl⟩))
end Go.Proofs.YtopgndakadileaaGreatDoor.Ex
