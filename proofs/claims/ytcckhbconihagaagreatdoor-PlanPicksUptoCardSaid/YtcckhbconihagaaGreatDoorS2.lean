/- resolve's comparisons: slices.Equal, slices.EqualFunc. -/
import Derived.Test.YtcckhbconihagaaGreatDoorS1
import Derived.Test.YtcckhbconihagaaGreatDoorSAmAuto
set_option linter.unusedSimpArgs false
set_option linter.unusedVariables false
set_option maxRecDepth 100000
namespace Go.Proofs.YtcckhbconihagaaGreatDoor
open Go.Am Go.Pl
theorem f41_spec (la lb : List ByteArray) : Gives Tryz.prog 41 [.slice 1 (la.map (fun x => [vstr x])), .slice 1 (lb.map (fun x => [vstr x]))] (vbool (same la lb)) := by
 intro s
 refine acalls_of (fn := Tryz.f41) Tryz.func41 rfl (by decide) (by show 2 ≤ 26; decide) ?_
 rw [Tryz.ntmps41]
 refine AWp.reg fun R1 hR1 => ?_
 simp only [am, seval, reduceCtorEq]
 refine hR1 _ ?_; clear hR1 R1
 refine AWp.seq_k fun K2 hK2 => ?_
 refine AWp.reg fun R3 hR3 => ?_
 simp only [ty3, ty9, ty28, am, seval, reduceCtorEq]
 refine hR3 _ ?_; clear hR3 R3
 refine AWp.cond (t := ((la.length : Int) != lb.length)) (by simp only [am, seval, reduceCtorEq]) (fun ht => ?_) (fun ht => ?_)
 ·have hne : la.length ≠ lb.length := by have := bne_iff_ne.1 ht; omega
  refine AWp.reg fun R4 hR4 => ?_
  simp only [am, seval, reduceCtorEq]
  refine hR4 _ ?_; clear hR4 R4
  refine AWp.ret ?_
  refine ret_intro (vs := [.base (.bool false)]) rfl (Wk.refl _) (Heap.le.refl _) ⟨?_, rfl⟩
  rw [same_false.2 (fun e => hne (by rw [e]))]; rfl
 ·have hlen : la.length = lb.length := by have := (bne_eq_false_iff_eq).1 ht; omega
  refine AWp.skip ?_
  refine hK2 _ ?_; clear hK2
  refine AWp.seq_k fun K5 hK5 => ?_
  refine AWp.reg fun R6 hR6 => ?_
  simp only [ty9, ty28, am, seval, reduceCtorEq]
  refine hR6 _ ?_; clear hR6 R6
  refine AWp.block ?_
  refine AWp.slen 0 (sz := 1) (es := la.map (fun x => [vstr x])) (by simp only [am, seval, reduceCtorEq]) fun hmax => ?_
  have hmx := maxLen_lt; rw [List.length_map] at hmax
  refine AWp.loopT (ι := Nat) (fun i => i ≤ la.length ∧ la.take i = lb.take i) (fun i => tst [(0, .slice 1 (la.map (fun x => [vstr x]))), (1, .slice 1 (lb.map (fun x => [vstr x]))), (11, .slice 1 (la.map (fun x => [vstr x]))), (12, vint la.length), (13, vint i)] [] s 26) (fun i => la.length - i) 0 ⟨⟨Nat.zero_le _, by simp⟩, ?_⟩ ?_
  ·refine le_tst ?_ ?_ ?_ (Heap.le.refl _) rfl
   ·simp only [leE, am, seval, reduceCtorEq] <;> simp
   ·simp only [okL, and_self]
   ·simp only [leB]
  ·rintro i ⟨hi, hno⟩
   refine AWp.reg fun R7 hR7 => ?_
   simp only [ty3, am, seval, reduceCtorEq]
   refine hR7 _ ?_; clear hR7 R7
   refine AWp.seq_k fun K8 hK8 => ?_
   refine AWp.cond (t := decide ((i:Int) < la.length)) (by simp only [am, seval, reduceCtorEq]) (fun ht => ?_) (fun ht => ?_)
   ·have hlt : i < la.length := lt_of_dec ht
    have hlt' : i < lb.length := by omega
    have ix0 : (0 ≤ (i : Int)) = True := by simp
    have ix1 : ((i : Int) < (la.length : Int)) = True := by simp [hlt]
    have ix2 : ((i : Int) < (lb.length : Int)) = True := by simp [hlt']
    refine AWp.skip ?_
    refine hK8 _ ?_; clear hK8
    refine AWp.seq_k fun K9 hK9 => ?_
    refine AWp.block ?_
    refine AWp.reg fun R10 hR10 => ?_
    simp only [am, seval, reduceCtorEq]
    refine hR10 _ ?_; clear hR10 R10
    refine AWp.regL mixed [0, 1, 2, 3, 4, 5, 6, 7, 8] (by decide +kernel) [] (by decide +kernel) fun R11 hR11 => ?_
    simp only [ix0, ix1, ix2, true_and, getD_map _ _ _ hlt, getD_map _ _ _ hlt', ty9, ty28, aml, Nat.reduceBEq, am, seval, reduceCtorEq]
    refine hR11 _ ?_; clear hR11 R11
    refine AWp.cond (t := !(la[i].toList == lb[i].toList)) (by simp only [am, seval, reduceCtorEq]) (fun ht => ?_) (fun ht => ?_)
    ·have hne : la[i] ≠ lb[i] := fun e => by rw [e] at ht; simp [same_self] at ht
     refine AWp.reg fun R12 hR12 => ?_
     simp only [am, seval, reduceCtorEq]
     refine hR12 _ ?_; clear hR12 R12
     refine AWp.ret ?_
     refine ret_intro (vs := [.base (.bool false)]) rfl (Wk.refl _) (Heap.le.refl _) ⟨?_, rfl⟩
     rw [same_false.2 (fun e => hne (by simp only [e]))]; rfl
    ·have he : la[i] = lb[i] := bytes_beq.1 (by simpa using ht)
     refine AWp.skip ?_
     refine hK9 _ ?_; clear hK9
     refine AWp.reg1 fun R13 hR13 => ?_
     simp only [ty3, am, seval, reduceCtorEq]
     refine hR13 _ ?_; clear hR13 R13
     refine ⟨i + 1, ⟨⟨hlt, take_succ_eq hno hlt hlt' he⟩, by omega⟩, ?_⟩
     refine le_tst ?_ ?_ ?_ (Heap.le.refl _) rfl
     ·simp only [leE, am, seval, reduceCtorEq]; rw [wrap_id (by omega) (by omega)]; simp
     ·simp only [okL, and_self]
     ·simp only [leB]
   ·obtain rfl : i = la.length := eq_of_dec ht hi
    refine AWp.exit ?_
    simp only [exq, seval]
    refine hK5 _ ?_; clear hK5
    refine AWp.reg fun R14 hR14 => ?_
    simp only [am, seval, reduceCtorEq]
    refine hR14 _ ?_; clear hR14 R14
    refine AWp.ret ?_
    refine ret_intro (vs := [.base (.bool true)]) rfl (Wk.refl _) (Heap.le.refl _) ⟨?_, rfl⟩
    rw [same_iff.2 (by rw [List.take_length] at hno; rw [hno, hlen, List.take_length])]; rfl
theorem f65_spec (la lb : List Sorted) : Gives Tryz.prog 65 [.slice 3 (la.map Sorted.v), .slice 3 (lb.map Sorted.v)] (vbool (same la lb)) := by
 intro s
 refine acalls_of (fn := Tryz.f65) Tryz.func65 rfl (by decide) (by show 2 ≤ 26; decide) ?_
 rw [Tryz.ntmps65]
 refine AWp.reg fun R1 hR1 => ?_
 simp only [am, seval, reduceCtorEq]
 refine hR1 _ ?_; clear hR1 R1
 refine AWp.seq_k fun K2 hK2 => ?_
 refine AWp.reg fun R3 hR3 => ?_
 simp only [ty3, ty30, ty118, teq118, am, seval, reduceCtorEq]
 refine hR3 _ ?_; clear hR3 R3
 refine AWp.cond (t := ((la.length : Int) != lb.length)) (by simp only [am, seval, reduceCtorEq]) (fun ht => ?_) (fun ht => ?_)
 ·have hne : la.length ≠ lb.length := by have := bne_iff_ne.1 ht; omega
  refine AWp.reg fun R4 hR4 => ?_
  simp only [am, seval, reduceCtorEq]
  refine hR4 _ ?_; clear hR4 R4
  refine AWp.ret ?_
  refine ret_intro (vs := [.base (.bool false)]) rfl (Wk.refl _) (Heap.le.refl _) ⟨?_, rfl⟩
  rw [same_false.2 (fun e => hne (by rw [e]))]; rfl
 ·have hlen : la.length = lb.length := by have := (bne_eq_false_iff_eq).1 ht; omega
  refine AWp.skip ?_
  refine hK2 _ ?_; clear hK2
  refine AWp.seq_k fun K5 hK5 => ?_
  refine AWp.reg fun R6 hR6 => ?_
  simp only [ty30, ty118, teq118, am, seval, reduceCtorEq]
  refine hR6 _ ?_; clear hR6 R6
  refine AWp.block ?_
  refine AWp.slen 0 (sz := 3) (es := la.map Sorted.v) (by simp only [am, seval, reduceCtorEq]) fun hmax => ?_
  have hmx := maxLen_lt; rw [List.length_map] at hmax
  refine AWp.loopT (ι := Nat) (fun i => i ≤ la.length ∧ la.take i = lb.take i) (fun i => tst [(0, .slice 3 (la.map Sorted.v)), (1, .slice 3 (lb.map Sorted.v)), (11, .slice 3 (la.map Sorted.v)), (12, vint la.length), (13, vint i)] [] s 26) (fun i => la.length - i) 0 ⟨⟨Nat.zero_le _, by simp⟩, ?_⟩ ?_
  ·refine le_tst ?_ ?_ ?_ (Heap.le.refl _) rfl
   ·simp only [leE, am, seval, reduceCtorEq] <;> simp
   ·simp only [okL, and_self]
   ·simp only [leB]
  ·rintro i ⟨hi, hno⟩
   refine AWp.reg fun R7 hR7 => ?_
   simp only [ty3, am, seval, reduceCtorEq]
   refine hR7 _ ?_; clear hR7 R7
   refine AWp.seq_k fun K8 hK8 => ?_
   refine AWp.cond (t := decide ((i:Int) < la.length)) (by simp only [am, seval, reduceCtorEq]) (fun ht => ?_) (fun ht => ?_)
   ·have hlt : i < la.length := lt_of_dec ht
    have hlt' : i < lb.length := by omega
    have ix0 : (0 ≤ (i : Int)) = True := by simp
    have ix1 : ((i : Int) < (la.length : Int)) = True := by simp [hlt]
    have ix2 : ((i : Int) < (lb.length : Int)) = True := by simp [hlt']
    refine AWp.skip ?_
    refine hK8 _ ?_; clear hK8
    refine AWp.seq_k fun K9 hK9 => ?_
    refine AWp.block ?_
    refine AWp.reg fun R10 hR10 => ?_
    simp only [am, seval, reduceCtorEq]
    refine hR10 _ ?_; clear hR10 R10
    refine AWp.regL mixed [0, 1, 2, 3, 4, 5, 6, 7, 8] (by decide +kernel) [] (by decide +kernel) fun R11 hR11 => ?_
    simp only [ix0, ix1, ix2, true_and, getD_map _ _ _ hlt, getD_map _ _ _ hlt', Sorted.v_eq, ty30, ty118, teq118, aml, Nat.reduceBEq, am, seval, reduceCtorEq]
    refine hR11 _ ?_; clear hR11 R11
    refine AWp.cond (t := !(la[i].col == lb[i].col && (la[i].coll == lb[i].coll && la[i].desc == lb[i].desc))) (by simp only [am, seval, reduceCtorEq]) (fun ht => ?_) (fun ht => ?_)
    ·have hne : la[i] ≠ lb[i] := fun e => by rw [e] at ht; simp [same_self] at ht
     refine AWp.reg fun R12 hR12 => ?_
     simp only [am, seval, reduceCtorEq]
     refine hR12 _ ?_; clear hR12 R12
     refine AWp.ret ?_
     refine ret_intro (vs := [.base (.bool false)]) rfl (Wk.refl _) (Heap.le.refl _) ⟨?_, rfl⟩
     rw [same_false.2 (fun e => hne (by simp only [e]))]; rfl
    ·have he : la[i] = lb[i] := Sorted.eq_of _ _ ht
     refine AWp.skip ?_
     refine hK9 _ ?_; clear hK9
     refine AWp.reg1 fun R13 hR13 => ?_
     simp only [ty3, am, seval, reduceCtorEq]
     refine hR13 _ ?_; clear hR13 R13
     refine ⟨i + 1, ⟨⟨hlt, take_succ_eq hno hlt hlt' he⟩, by omega⟩, ?_⟩
     refine le_tst ?_ ?_ ?_ (Heap.le.refl _) rfl
     ·simp only [leE, am, seval, reduceCtorEq]; rw [wrap_id (by omega) (by omega)]; simp
     ·simp only [okL, and_self]
     ·simp only [leB]
   ·obtain rfl : i = la.length := eq_of_dec ht hi
    refine AWp.exit ?_
    simp only [exq, seval]
    refine hK5 _ ?_; clear hK5
    refine AWp.reg fun R14 hR14 => ?_
    simp only [am, seval, reduceCtorEq]
    refine hR14 _ ?_; clear hR14 R14
    refine AWp.ret ?_
    refine ret_intro (vs := [.base (.bool true)]) rfl (Wk.refl _) (Heap.le.refl _) ⟨?_, rfl⟩
    rw [same_iff.2 (by rw [List.take_length] at hno; rw [hno, hlen, List.take_length])]; rfl
theorem f113_spec (la lb : List Int) : Gives Tryz.prog 113 [.slice 1 (la.map (fun x => [vint x])), .slice 1 (lb.map (fun x => [vint x]))] (vbool (same la lb)) := by
 intro s
 refine acalls_of (fn := Tryz.f113) Tryz.func113 rfl (by decide) (by show 2 ≤ 26; decide) ?_
 rw [Tryz.ntmps113]
 refine AWp.reg fun R1 hR1 => ?_
 simp only [am, seval, reduceCtorEq]
 refine hR1 _ ?_; clear hR1 R1
 refine AWp.seq_k fun K2 hK2 => ?_
 refine AWp.reg fun R3 hR3 => ?_
 simp only [ty3, ty50, am, seval, reduceCtorEq]
 refine hR3 _ ?_; clear hR3 R3
 refine AWp.cond (t := ((la.length : Int) != lb.length)) (by simp only [am, seval, reduceCtorEq]) (fun ht => ?_) (fun ht => ?_)
 ·have hne : la.length ≠ lb.length := by have := bne_iff_ne.1 ht; omega
  refine AWp.reg fun R4 hR4 => ?_
  simp only [am, seval, reduceCtorEq]
  refine hR4 _ ?_; clear hR4 R4
  refine AWp.ret ?_
  refine ret_intro (vs := [.base (.bool false)]) rfl (Wk.refl _) (Heap.le.refl _) ⟨?_, rfl⟩
  rw [same_false.2 (fun e => hne (by rw [e]))]; rfl
 ·have hlen : la.length = lb.length := by have := (bne_eq_false_iff_eq).1 ht; omega
  refine AWp.skip ?_
  refine hK2 _ ?_; clear hK2
  refine AWp.seq_k fun K5 hK5 => ?_
  refine AWp.reg fun R6 hR6 => ?_
  simp only [ty3, ty50, am, seval, reduceCtorEq]
  refine hR6 _ ?_; clear hR6 R6
  refine AWp.block ?_
  refine AWp.slen 0 (sz := 1) (es := la.map (fun x => [vint x])) (by simp only [am, seval, reduceCtorEq]) fun hmax => ?_
  have hmx := maxLen_lt; rw [List.length_map] at hmax
  refine AWp.loopT (ι := Nat) (fun i => i ≤ la.length ∧ la.take i = lb.take i) (fun i => tst [(0, .slice 1 (la.map (fun x => [vint x]))), (1, .slice 1 (lb.map (fun x => [vint x]))), (11, .slice 1 (la.map (fun x => [vint x]))), (12, vint la.length), (13, vint i)] [] s 26) (fun i => la.length - i) 0 ⟨⟨Nat.zero_le _, by simp⟩, ?_⟩ ?_
  ·refine le_tst ?_ ?_ ?_ (Heap.le.refl _) rfl
   ·simp only [leE, am, seval, reduceCtorEq] <;> simp
   ·simp only [okL, and_self]
   ·simp only [leB]
  ·rintro i ⟨hi, hno⟩
   refine AWp.reg fun R7 hR7 => ?_
   simp only [ty3, am, seval, reduceCtorEq]
   refine hR7 _ ?_; clear hR7 R7
   refine AWp.seq_k fun K8 hK8 => ?_
   refine AWp.cond (t := decide ((i:Int) < la.length)) (by simp only [am, seval, reduceCtorEq]) (fun ht => ?_) (fun ht => ?_)
   ·have hlt : i < la.length := lt_of_dec ht
    have hlt' : i < lb.length := by omega
    have ix0 : (0 ≤ (i : Int)) = True := by simp
    have ix1 : ((i : Int) < (la.length : Int)) = True := by simp [hlt]
    have ix2 : ((i : Int) < (lb.length : Int)) = True := by simp [hlt']
    refine AWp.skip ?_
    refine hK8 _ ?_; clear hK8
    refine AWp.seq_k fun K9 hK9 => ?_
    refine AWp.block ?_
    refine AWp.reg fun R10 hR10 => ?_
    simp only [am, seval, reduceCtorEq]
    refine hR10 _ ?_; clear hR10 R10
    refine AWp.regL mixed [0, 1, 2, 3, 4, 5, 6, 7, 8] (by decide +kernel) [] (by decide +kernel) fun R11 hR11 => ?_
    simp only [ix0, ix1, ix2, true_and, getD_map _ _ _ hlt, getD_map _ _ _ hlt', ty3, ty50, aml, Nat.reduceBEq, am, seval, reduceCtorEq]
    refine hR11 _ ?_; clear hR11 R11
    refine AWp.cond (t := (la[i] != lb[i])) (by simp only [am, seval, reduceCtorEq]) (fun ht => ?_) (fun ht => ?_)
    ·have hne : la[i] ≠ lb[i] := fun e => by rw [e] at ht; simp [same_self] at ht
     refine AWp.reg fun R12 hR12 => ?_
     simp only [am, seval, reduceCtorEq]
     refine hR12 _ ?_; clear hR12 R12
     refine AWp.ret ?_
     refine ret_intro (vs := [.base (.bool false)]) rfl (Wk.refl _) (Heap.le.refl _) ⟨?_, rfl⟩
     rw [same_false.2 (fun e => hne (by simp only [e]))]; rfl
    ·have he : la[i] = lb[i] := bne_eq_false_iff_eq.1 ht
     refine AWp.skip ?_
     refine hK9 _ ?_; clear hK9
     refine AWp.reg1 fun R13 hR13 => ?_
     simp only [ty3, am, seval, reduceCtorEq]
     refine hR13 _ ?_; clear hR13 R13
     refine ⟨i + 1, ⟨⟨hlt, take_succ_eq hno hlt hlt' he⟩, by omega⟩, ?_⟩
     refine le_tst ?_ ?_ ?_ (Heap.le.refl _) rfl
     ·simp only [leE, am, seval, reduceCtorEq]; rw [wrap_id (by omega) (by omega)]; simp
     ·simp only [okL, and_self]
     ·simp only [leB]
   ·obtain rfl : i = la.length := eq_of_dec ht hi
    refine AWp.exit ?_
    simp only [exq, seval]
    refine hK5 _ ?_; clear hK5
    refine AWp.reg fun R14 hR14 => ?_
    simp only [am, seval, reduceCtorEq]
    refine hR14 _ ?_; clear hR14 R14
    refine AWp.ret ?_
    refine ret_intro (vs := [.base (.bool true)]) rfl (Wk.refl _) (Heap.le.refl _) ⟨?_, rfl⟩
    rw [same_iff.2 (by rw [List.take_length] at hno; rw [hno, hlen, List.take_length])]; rfl
theorem f115_spec (la lb : List Term) (hc : ∀ a ∈ la, ∀ b, Gives Tryz.prog 116 [.agg a.v, .agg b.v] (vbool (same a b))) : Gives Tryz.prog 115 [.slice 14 (la.map Term.v), .slice 14 (lb.map Term.v), .func 116 [] []] (vbool (same la lb)) := by
 intro s
 refine acalls_of (fn := Tryz.f115) Tryz.func115 rfl (by decide) (by show 3 ≤ 32; decide) ?_
 rw [Tryz.ntmps115]
 refine AWp.reg fun R1 hR1 => ?_
 simp only [am, seval, reduceCtorEq]
 refine hR1 _ ?_; clear hR1 R1
 refine AWp.seq_k fun K2 hK2 => ?_
 refine AWp.reg fun R3 hR3 => ?_
 simp only [ty3, ty31, ty49, am, seval, reduceCtorEq]
 refine hR3 _ ?_; clear hR3 R3
 refine AWp.cond (t := ((la.length : Int) != lb.length)) (by simp only [am, seval, reduceCtorEq]) (fun ht => ?_) (fun ht => ?_)
 ·have hne : la.length ≠ lb.length := by have := bne_iff_ne.1 ht; omega
  refine AWp.reg fun R4 hR4 => ?_
  simp only [am, seval, reduceCtorEq]
  refine hR4 _ ?_; clear hR4 R4
  refine AWp.ret ?_
  refine ret_intro (vs := [.base (.bool false)]) rfl (Wk.refl _) (Heap.le.refl _) ⟨?_, rfl⟩
  rw [same_false.2 (fun e => hne (by rw [e]))]; rfl
 ·have hlen : la.length = lb.length := by have := (bne_eq_false_iff_eq).1 ht; omega
  refine AWp.skip ?_
  refine hK2 _ ?_; clear hK2
  refine AWp.seq_k fun K5 hK5 => ?_
  refine AWp.reg fun R6 hR6 => ?_
  simp only [ty31, ty49, am, seval, reduceCtorEq]
  refine hR6 _ ?_; clear hR6 R6
  refine AWp.block ?_
  refine AWp.slen 0 (sz := 14) (es := la.map Term.v) (by simp only [am, seval, reduceCtorEq]) fun hmax => ?_
  have hmx := maxLen_lt; rw [List.length_map] at hmax
  refine AWp.loopT (ι := Nat) (fun i => i ≤ la.length ∧ la.take i = lb.take i) (fun i => tst [(0, .slice 14 (la.map Term.v)), (1, .slice 14 (lb.map Term.v)), (2, .func 116 [] []), (15, .slice 14 (la.map Term.v)), (16, vint la.length), (17, vint i)] [] s 32) (fun i => la.length - i) 0 ⟨⟨Nat.zero_le _, by simp⟩, ?_⟩ ?_
  ·refine le_tst ?_ ?_ ?_ (Heap.le.refl _) rfl
   ·simp only [leE, am, seval, reduceCtorEq] <;> simp
   ·simp only [okL, and_self]
   ·simp only [leB]
  ·rintro i ⟨hi, hno⟩
   refine AWp.reg fun R7 hR7 => ?_
   simp only [ty3, am, seval, reduceCtorEq]
   refine hR7 _ ?_; clear hR7 R7
   refine AWp.seq_k fun K8 hK8 => ?_
   refine AWp.cond (t := decide ((i:Int) < la.length)) (by simp only [am, seval, reduceCtorEq]) (fun ht => ?_) (fun ht => ?_)
   ·have hlt : i < la.length := lt_of_dec ht
    have hlt' : i < lb.length := by omega
    have ix0 : (0 ≤ (i : Int)) = True := by simp
    have ix1 : ((i : Int) < (la.length : Int)) = True := by simp [hlt]
    have ix2 : ((i : Int) < (lb.length : Int)) = True := by simp [hlt']
    refine AWp.skip ?_
    refine hK8 _ ?_; clear hK8
    refine AWp.seq_k fun K9 hK9 => ?_
    refine AWp.block ?_
    refine AWp.reg fun R10 hR10 => ?_
    simp only [ix0, ix1, ix2, true_and, getD_map _ _ _ hlt, getD_map _ _ _ hlt', Term.v_eq, ty31, ty49, am, seval, reduceCtorEq]
    refine hR10 _ ?_; clear hR10 R10
    refine AWp.reg fun R11 hR11 => ?_
    simp only [ix0, ix1, ix2, true_and, getD_map _ _ _ hlt, getD_map _ _ _ hlt', Term.v_eq, ty31, ty49, am, seval, reduceCtorEq]
    refine hR11 _ ?_; clear hR11 R11
    refine AWp.reg fun R12 hR12 => ?_
    simp only [Term.v_eq, ty49, am, seval, reduceCtorEq]
    rw [← Term.v_eq, ← Term.v_eq]
    refine (hc la[i] (List.getElem_mem hlt) lb[i] _).mono fun v' s' h => ?_
    rw [h.1, h.2]; clear h v' s'
    simp only [vbool, Term.v_eq, ty49, am, seval, reduceCtorEq]
    refine hR12 _ ?_; clear hR12 R12
    refine AWp.cond (t := !same la[i] lb[i]) (by simp only [am, seval, reduceCtorEq]) (fun ht => ?_) (fun ht => ?_)
    ·have hne : la[i] ≠ lb[i] := fun e => by rw [e] at ht; simp [same_self] at ht
     refine AWp.reg fun R13 hR13 => ?_
     simp only [am, seval, reduceCtorEq]
     refine hR13 _ ?_; clear hR13 R13
     refine AWp.ret ?_
     refine ret_intro (vs := [.base (.bool false)]) rfl (Wk.refl _) (Heap.le.refl _) ⟨?_, rfl⟩
     rw [same_false.2 (fun e => hne (by simp only [e]))]; rfl
    ·have he : la[i] = lb[i] := same_iff.1 (by simpa using ht)
     refine AWp.skip ?_
     refine hK9 _ ?_; clear hK9
     refine AWp.reg1 fun R14 hR14 => ?_
     simp only [ty3, am, seval, reduceCtorEq]
     refine hR14 _ ?_; clear hR14 R14
     refine ⟨i + 1, ⟨⟨hlt, take_succ_eq hno hlt hlt' he⟩, by omega⟩, ?_⟩
     refine le_tst ?_ ?_ ?_ (Heap.le.refl _) rfl
     ·simp only [leE, am, seval, reduceCtorEq]; rw [wrap_id (by omega) (by omega)]; simp
     ·simp only [okL, and_self]
     ·simp only [leB]
   ·obtain rfl : i = la.length := eq_of_dec ht hi
    refine AWp.exit ?_
    simp only [exq, seval]
    refine hK5 _ ?_; clear hK5
    refine AWp.reg fun R15 hR15 => ?_
    simp only [am, seval, reduceCtorEq]
    refine hR15 _ ?_; clear hR15 R15
    refine AWp.ret ?_
    refine ret_intro (vs := [.base (.bool true)]) rfl (Wk.refl _) (Heap.le.refl _) ⟨?_, rfl⟩
    rw [same_iff.2 (by rw [List.take_length] at hno; rw [hno, hlen, List.take_length])]; rfl
theorem f42_spec (la lb : List Query) (hc : ∀ a ∈ la, ∀ b, Gives Tryz.prog 38 [.agg a.v, .agg b.v] (vbool (same a b))) : Gives Tryz.prog 42 [.slice 5 (la.map Query.v), .slice 5 (lb.map Query.v), .func 38 [] []] (vbool (same la lb)) := by
 intro s
 refine acalls_of (fn := Tryz.f42) Tryz.func42 rfl (by decide) (by show 3 ≤ 32; decide) ?_
 rw [Tryz.ntmps42]
 refine AWp.reg fun R1 hR1 => ?_
 simp only [am, seval, reduceCtorEq]
 refine hR1 _ ?_; clear hR1 R1
 refine AWp.seq_k fun K2 hK2 => ?_
 refine AWp.reg fun R3 hR3 => ?_
 simp only [ty3, ty33, ty47, am, seval, reduceCtorEq]
 refine hR3 _ ?_; clear hR3 R3
 refine AWp.cond (t := ((la.length : Int) != lb.length)) (by simp only [am, seval, reduceCtorEq]) (fun ht => ?_) (fun ht => ?_)
 ·have hne : la.length ≠ lb.length := by have := bne_iff_ne.1 ht; omega
  refine AWp.reg fun R4 hR4 => ?_
  simp only [am, seval, reduceCtorEq]
  refine hR4 _ ?_; clear hR4 R4
  refine AWp.ret ?_
  refine ret_intro (vs := [.base (.bool false)]) rfl (Wk.refl _) (Heap.le.refl _) ⟨?_, rfl⟩
  rw [same_false.2 (fun e => hne (by rw [e]))]; rfl
 ·have hlen : la.length = lb.length := by have := (bne_eq_false_iff_eq).1 ht; omega
  refine AWp.skip ?_
  refine hK2 _ ?_; clear hK2
  refine AWp.seq_k fun K5 hK5 => ?_
  refine AWp.reg fun R6 hR6 => ?_
  simp only [ty33, ty47, am, seval, reduceCtorEq]
  refine hR6 _ ?_; clear hR6 R6
  refine AWp.block ?_
  refine AWp.slen 0 (sz := 5) (es := la.map Query.v) (by simp only [am, seval, reduceCtorEq]) fun hmax => ?_
  have hmx := maxLen_lt; rw [List.length_map] at hmax
  refine AWp.loopT (ι := Nat) (fun i => i ≤ la.length ∧ la.take i = lb.take i) (fun i => tst [(0, .slice 5 (la.map Query.v)), (1, .slice 5 (lb.map Query.v)), (2, .func 38 [] []), (15, .slice 5 (la.map Query.v)), (16, vint la.length), (17, vint i)] [] s 32) (fun i => la.length - i) 0 ⟨⟨Nat.zero_le _, by simp⟩, ?_⟩ ?_
  ·refine le_tst ?_ ?_ ?_ (Heap.le.refl _) rfl
   ·simp only [leE, am, seval, reduceCtorEq] <;> simp
   ·simp only [okL, and_self]
   ·simp only [leB]
  ·rintro i ⟨hi, hno⟩
   refine AWp.reg fun R7 hR7 => ?_
   simp only [ty3, am, seval, reduceCtorEq]
   refine hR7 _ ?_; clear hR7 R7
   refine AWp.seq_k fun K8 hK8 => ?_
   refine AWp.cond (t := decide ((i:Int) < la.length)) (by simp only [am, seval, reduceCtorEq]) (fun ht => ?_) (fun ht => ?_)
   ·have hlt : i < la.length := lt_of_dec ht
    have hlt' : i < lb.length := by omega
    have ix0 : (0 ≤ (i : Int)) = True := by simp
    have ix1 : ((i : Int) < (la.length : Int)) = True := by simp [hlt]
    have ix2 : ((i : Int) < (lb.length : Int)) = True := by simp [hlt']
    refine AWp.skip ?_
    refine hK8 _ ?_; clear hK8
    refine AWp.seq_k fun K9 hK9 => ?_
    refine AWp.block ?_
    refine AWp.reg fun R10 hR10 => ?_
    simp only [ix0, ix1, ix2, true_and, getD_map _ _ _ hlt, getD_map _ _ _ hlt', Query.v_eq, ty33, ty47, am, seval, reduceCtorEq]
    refine hR10 _ ?_; clear hR10 R10
    refine AWp.reg fun R11 hR11 => ?_
    simp only [ix0, ix1, ix2, true_and, getD_map _ _ _ hlt, getD_map _ _ _ hlt', Query.v_eq, ty33, ty47, am, seval, reduceCtorEq]
    refine hR11 _ ?_; clear hR11 R11
    refine AWp.reg fun R12 hR12 => ?_
    simp only [Query.v_eq, ty33, am, seval, reduceCtorEq]
    rw [← Query.v_eq, ← Query.v_eq]
    refine (hc la[i] (List.getElem_mem hlt) lb[i] _).mono fun v' s' h => ?_
    rw [h.1, h.2]; clear h v' s'
    simp only [vbool, Query.v_eq, ty33, am, seval, reduceCtorEq]
    refine hR12 _ ?_; clear hR12 R12
    refine AWp.cond (t := !same la[i] lb[i]) (by simp only [am, seval, reduceCtorEq]) (fun ht => ?_) (fun ht => ?_)
    ·have hne : la[i] ≠ lb[i] := fun e => by rw [e] at ht; simp [same_self] at ht
     refine AWp.reg fun R13 hR13 => ?_
     simp only [am, seval, reduceCtorEq]
     refine hR13 _ ?_; clear hR13 R13
     refine AWp.ret ?_
     refine ret_intro (vs := [.base (.bool false)]) rfl (Wk.refl _) (Heap.le.refl _) ⟨?_, rfl⟩
     rw [same_false.2 (fun e => hne (by simp only [e]))]; rfl
    ·have he : la[i] = lb[i] := same_iff.1 (by simpa using ht)
     refine AWp.skip ?_
     refine hK9 _ ?_; clear hK9
     refine AWp.reg1 fun R14 hR14 => ?_
     simp only [ty3, am, seval, reduceCtorEq]
     refine hR14 _ ?_; clear hR14 R14
     refine ⟨i + 1, ⟨⟨hlt, take_succ_eq hno hlt hlt' he⟩, by omega⟩, ?_⟩
     refine le_tst ?_ ?_ ?_ (Heap.le.refl _) rfl
     ·simp only [leE, am, seval, reduceCtorEq]; rw [wrap_id (by omega) (by omega)]; simp
     ·simp only [okL, and_self]
     ·simp only [leB]
   ·obtain rfl : i = la.length := eq_of_dec ht hi
    refine AWp.exit ?_
    simp only [exq, seval]
    refine hK5 _ ?_; clear hK5
    refine AWp.reg fun R15 hR15 => ?_
    simp only [am, seval, reduceCtorEq]
    refine hR15 _ ?_; clear hR15 R15
    refine AWp.ret ?_
    refine ret_intro (vs := [.base (.bool true)]) rfl (Wk.refl _) (Heap.le.refl _) ⟨?_, rfl⟩
    rw [same_iff.2 (by rw [List.take_length] at hno; rw [hno, hlen, List.take_length])]; rfl
end Go.Proofs.YtcckhbconihagaaGreatDoor
set_option linter.unusedSimpArgs false
set_option linter.unusedVariables false
set_option maxRecDepth 100000
namespace Go.Proofs.YtcckhbconihagaaGreatDoor
open Go.Am Go.Pl
theorem Bound.v_flat (b : Bound) : b.v = [vint b.term.op, vbool b.term.neg, vint b.term.n, vint b.term.frm, vint b.term.col, vstr b.term.name, vint b.term.vk, vint b.term.vi, vstr b.term.vt, vint b.term.coll, vint b.term.l, vint b.term.r, .slice 14 (b.term.args.map Term.v), .slice 5 (b.term.sub.map Query.v), vbool b.opn] := by rw [Bound.v_eq, Term.v_eq]; rfl
theorem f63_spec (la lb : List Arm) (hc : ∀ a ∈ la, ∀ b, Gives Tryz.prog 64 [.agg a.v, .agg b.v] (vbool (same a b))) : Gives Tryz.prog 63 [.slice 13 (la.map Arm.v), .slice 13 (lb.map Arm.v), .func 64 [] []] (vbool (same la lb)) := by
 intro s
 refine acalls_of (fn := Tryz.f63) Tryz.func63 rfl (by decide) (by show 3 ≤ 32; decide) ?_
 rw [Tryz.ntmps63]
 refine AWp.reg fun R1 hR1 => ?_
 simp only [am, seval, reduceCtorEq]
 refine hR1 _ ?_; clear hR1 R1
 refine AWp.seq_k fun K2 hK2 => ?_
 refine AWp.reg fun R3 hR3 => ?_
 simp only [ty3, ty29, ty75, am, seval, reduceCtorEq]
 refine hR3 _ ?_; clear hR3 R3
 refine AWp.cond (t := ((la.length : Int) != lb.length)) (by simp only [am, seval, reduceCtorEq]) (fun ht => ?_) (fun ht => ?_)
 ·have hne : la.length ≠ lb.length := by have := bne_iff_ne.1 ht; omega
  refine AWp.reg fun R4 hR4 => ?_
  simp only [am, seval, reduceCtorEq]
  refine hR4 _ ?_; clear hR4 R4
  refine AWp.ret ?_
  refine ret_intro (vs := [.base (.bool false)]) rfl (Wk.refl _) (Heap.le.refl _) ⟨?_, rfl⟩
  rw [same_false.2 (fun e => hne (by rw [e]))]; rfl
 ·have hlen : la.length = lb.length := by have := (bne_eq_false_iff_eq).1 ht; omega
  refine AWp.skip ?_
  refine hK2 _ ?_; clear hK2
  refine AWp.seq_k fun K5 hK5 => ?_
  refine AWp.reg fun R6 hR6 => ?_
  simp only [ty29, ty75, am, seval, reduceCtorEq]
  refine hR6 _ ?_; clear hR6 R6
  refine AWp.block ?_
  refine AWp.slen 0 (sz := 13) (es := la.map Arm.v) (by simp only [am, seval, reduceCtorEq]) fun hmax => ?_
  have hmx := maxLen_lt; rw [List.length_map] at hmax
  refine AWp.loopT (ι := Nat) (fun i => i ≤ la.length ∧ la.take i = lb.take i) (fun i => tst [(0, .slice 13 (la.map Arm.v)), (1, .slice 13 (lb.map Arm.v)), (2, .func 64 [] []), (15, .slice 13 (la.map Arm.v)), (16, vint la.length), (17, vint i)] [] s 32) (fun i => la.length - i) 0 ⟨⟨Nat.zero_le _, by simp⟩, ?_⟩ ?_
  ·refine le_tst ?_ ?_ ?_ (Heap.le.refl _) rfl
   ·simp only [leE, am, seval, reduceCtorEq] <;> simp
   ·simp only [okL, and_self]
   ·simp only [leB]
  ·rintro i ⟨hi, hno⟩
   refine AWp.reg fun R7 hR7 => ?_
   simp only [ty3, am, seval, reduceCtorEq]
   refine hR7 _ ?_; clear hR7 R7
   refine AWp.seq_k fun K8 hK8 => ?_
   refine AWp.cond (t := decide ((i:Int) < la.length)) (by simp only [am, seval, reduceCtorEq]) (fun ht => ?_) (fun ht => ?_)
   ·have hlt : i < la.length := lt_of_dec ht
    have hlt' : i < lb.length := by omega
    have ix0 : (0 ≤ (i : Int)) = True := by simp
    have ix1 : ((i : Int) < (la.length : Int)) = True := by simp [hlt]
    have ix2 : ((i : Int) < (lb.length : Int)) = True := by simp [hlt']
    refine AWp.skip ?_
    refine hK8 _ ?_; clear hK8
    refine AWp.seq_k fun K9 hK9 => ?_
    refine AWp.block ?_
    refine AWp.reg fun R10 hR10 => ?_
    simp only [ix0, ix1, ix2, true_and, getD_map _ _ _ hlt, getD_map _ _ _ hlt', Arm.v_eq, ty29, ty75, am, seval, reduceCtorEq]
    refine hR10 _ ?_; clear hR10 R10
    refine AWp.reg fun R11 hR11 => ?_
    simp only [ix0, ix1, ix2, true_and, getD_map _ _ _ hlt, getD_map _ _ _ hlt', Arm.v_eq, ty29, ty75, am, seval, reduceCtorEq]
    refine hR11 _ ?_; clear hR11 R11
    refine AWp.reg fun R12 hR12 => ?_
    simp only [Arm.v_eq, ty75, am, seval, reduceCtorEq]
    rw [← Arm.v_eq, ← Arm.v_eq]
    refine (hc la[i] (List.getElem_mem hlt) lb[i] _).mono fun v' s' h => ?_
    rw [h.1, h.2]; clear h v' s'
    simp only [vbool, Arm.v_eq, ty75, am, seval, reduceCtorEq]
    refine hR12 _ ?_; clear hR12 R12
    refine AWp.cond (t := !same la[i] lb[i]) (by simp only [am, seval, reduceCtorEq]) (fun ht => ?_) (fun ht => ?_)
    ·have hne : la[i] ≠ lb[i] := fun e => by rw [e] at ht; simp [same_self] at ht
     refine AWp.reg fun R13 hR13 => ?_
     simp only [am, seval, reduceCtorEq]
     refine hR13 _ ?_; clear hR13 R13
     refine AWp.ret ?_
     refine ret_intro (vs := [.base (.bool false)]) rfl (Wk.refl _) (Heap.le.refl _) ⟨?_, rfl⟩
     rw [same_false.2 (fun e => hne (by simp only [e]))]; rfl
    ·have he : la[i] = lb[i] := same_iff.1 (by simpa using ht)
     refine AWp.skip ?_
     refine hK9 _ ?_; clear hK9
     refine AWp.reg1 fun R14 hR14 => ?_
     simp only [ty3, am, seval, reduceCtorEq]
     refine hR14 _ ?_; clear hR14 R14
     refine ⟨i + 1, ⟨⟨hlt, take_succ_eq hno hlt hlt' he⟩, by omega⟩, ?_⟩
     refine le_tst ?_ ?_ ?_ (Heap.le.refl _) rfl
     ·simp only [leE, am, seval, reduceCtorEq]; rw [wrap_id (by omega) (by omega)]; simp
     ·simp only [okL, and_self]
     ·simp only [leB]
   ·obtain rfl : i = la.length := eq_of_dec ht hi
    refine AWp.exit ?_
    simp only [exq, seval]
    refine hK5 _ ?_; clear hK5
    refine AWp.reg fun R15 hR15 => ?_
    simp only [am, seval, reduceCtorEq]
    refine hR15 _ ?_; clear hR15 R15
    refine AWp.ret ?_
    refine ret_intro (vs := [.base (.bool true)]) rfl (Wk.refl _) (Heap.le.refl _) ⟨?_, rfl⟩
    rw [same_iff.2 (by rw [List.take_length] at hno; rw [hno, hlen, List.take_length])]; rfl
theorem f107_spec (la lb : List From) (hc : ∀ a ∈ la, ∀ b, Gives Tryz.prog 108 [.agg a.v, .agg b.v] (vbool (same a b))) : Gives Tryz.prog 107 [.slice 7 (la.map From.v), .slice 7 (lb.map From.v), .func 108 [] []] (vbool (same la lb)) := by
 intro s
 refine acalls_of (fn := Tryz.f107) Tryz.func107 rfl (by decide) (by show 3 ≤ 32; decide) ?_
 rw [Tryz.ntmps107]
 refine AWp.reg fun R1 hR1 => ?_
 simp only [am, seval, reduceCtorEq]
 refine hR1 _ ?_; clear hR1 R1
 refine AWp.seq_k fun K2 hK2 => ?_
 refine AWp.reg fun R3 hR3 => ?_
 simp only [ty3, ty72, ty107, am, seval, reduceCtorEq]
 refine hR3 _ ?_; clear hR3 R3
 refine AWp.cond (t := ((la.length : Int) != lb.length)) (by simp only [am, seval, reduceCtorEq]) (fun ht => ?_) (fun ht => ?_)
 ·have hne : la.length ≠ lb.length := by have := bne_iff_ne.1 ht; omega
  refine AWp.reg fun R4 hR4 => ?_
  simp only [am, seval, reduceCtorEq]
  refine hR4 _ ?_; clear hR4 R4
  refine AWp.ret ?_
  refine ret_intro (vs := [.base (.bool false)]) rfl (Wk.refl _) (Heap.le.refl _) ⟨?_, rfl⟩
  rw [same_false.2 (fun e => hne (by rw [e]))]; rfl
 ·have hlen : la.length = lb.length := by have := (bne_eq_false_iff_eq).1 ht; omega
  refine AWp.skip ?_
  refine hK2 _ ?_; clear hK2
  refine AWp.seq_k fun K5 hK5 => ?_
  refine AWp.reg fun R6 hR6 => ?_
  simp only [ty72, ty107, am, seval, reduceCtorEq]
  refine hR6 _ ?_; clear hR6 R6
  refine AWp.block ?_
  refine AWp.slen 0 (sz := 7) (es := la.map From.v) (by simp only [am, seval, reduceCtorEq]) fun hmax => ?_
  have hmx := maxLen_lt; rw [List.length_map] at hmax
  refine AWp.loopT (ι := Nat) (fun i => i ≤ la.length ∧ la.take i = lb.take i) (fun i => tst [(0, .slice 7 (la.map From.v)), (1, .slice 7 (lb.map From.v)), (2, .func 108 [] []), (15, .slice 7 (la.map From.v)), (16, vint la.length), (17, vint i)] [] s 32) (fun i => la.length - i) 0 ⟨⟨Nat.zero_le _, by simp⟩, ?_⟩ ?_
  ·refine le_tst ?_ ?_ ?_ (Heap.le.refl _) rfl
   ·simp only [leE, am, seval, reduceCtorEq] <;> simp
   ·simp only [okL, and_self]
   ·simp only [leB]
  ·rintro i ⟨hi, hno⟩
   refine AWp.reg fun R7 hR7 => ?_
   simp only [ty3, am, seval, reduceCtorEq]
   refine hR7 _ ?_; clear hR7 R7
   refine AWp.seq_k fun K8 hK8 => ?_
   refine AWp.cond (t := decide ((i:Int) < la.length)) (by simp only [am, seval, reduceCtorEq]) (fun ht => ?_) (fun ht => ?_)
   ·have hlt : i < la.length := lt_of_dec ht
    have hlt' : i < lb.length := by omega
    have ix0 : (0 ≤ (i : Int)) = True := by simp
    have ix1 : ((i : Int) < (la.length : Int)) = True := by simp [hlt]
    have ix2 : ((i : Int) < (lb.length : Int)) = True := by simp [hlt']
    refine AWp.skip ?_
    refine hK8 _ ?_; clear hK8
    refine AWp.seq_k fun K9 hK9 => ?_
    refine AWp.block ?_
    refine AWp.reg fun R10 hR10 => ?_
    simp only [ix0, ix1, ix2, true_and, getD_map _ _ _ hlt, getD_map _ _ _ hlt', From.v_eq, ty72, ty107, am, seval, reduceCtorEq]
    refine hR10 _ ?_; clear hR10 R10
    refine AWp.reg fun R11 hR11 => ?_
    simp only [ix0, ix1, ix2, true_and, getD_map _ _ _ hlt, getD_map _ _ _ hlt', From.v_eq, ty72, ty107, am, seval, reduceCtorEq]
    refine hR11 _ ?_; clear hR11 R11
    refine AWp.reg fun R12 hR12 => ?_
    simp only [From.v_eq, ty107, am, seval, reduceCtorEq]
    rw [← From.v_eq, ← From.v_eq]
    refine (hc la[i] (List.getElem_mem hlt) lb[i] _).mono fun v' s' h => ?_
    rw [h.1, h.2]; clear h v' s'
    simp only [vbool, From.v_eq, ty107, am, seval, reduceCtorEq]
    refine hR12 _ ?_; clear hR12 R12
    refine AWp.cond (t := !same la[i] lb[i]) (by simp only [am, seval, reduceCtorEq]) (fun ht => ?_) (fun ht => ?_)
    ·have hne : la[i] ≠ lb[i] := fun e => by rw [e] at ht; simp [same_self] at ht
     refine AWp.reg fun R13 hR13 => ?_
     simp only [am, seval, reduceCtorEq]
     refine hR13 _ ?_; clear hR13 R13
     refine AWp.ret ?_
     refine ret_intro (vs := [.base (.bool false)]) rfl (Wk.refl _) (Heap.le.refl _) ⟨?_, rfl⟩
     rw [same_false.2 (fun e => hne (by simp only [e]))]; rfl
    ·have he : la[i] = lb[i] := same_iff.1 (by simpa using ht)
     refine AWp.skip ?_
     refine hK9 _ ?_; clear hK9
     refine AWp.reg1 fun R14 hR14 => ?_
     simp only [ty3, am, seval, reduceCtorEq]
     refine hR14 _ ?_; clear hR14 R14
     refine ⟨i + 1, ⟨⟨hlt, take_succ_eq hno hlt hlt' he⟩, by omega⟩, ?_⟩
     refine le_tst ?_ ?_ ?_ (Heap.le.refl _) rfl
     ·simp only [leE, am, seval, reduceCtorEq]; rw [wrap_id (by omega) (by omega)]; simp
     ·simp only [okL, and_self]
     ·simp only [leB]
   ·obtain rfl : i = la.length := eq_of_dec ht hi
    refine AWp.exit ?_
    simp only [exq, seval]
    refine hK5 _ ?_; clear hK5
    refine AWp.reg fun R15 hR15 => ?_
    simp only [am, seval, reduceCtorEq]
    refine hR15 _ ?_; clear hR15 R15
    refine AWp.ret ?_
    refine ret_intro (vs := [.base (.bool true)]) rfl (Wk.refl _) (Heap.le.refl _) ⟨?_, rfl⟩
    rw [same_iff.2 (by rw [List.take_length] at hno; rw [hno, hlen, List.take_length])]; rfl
theorem f109_spec (la lb : List Agg) (hc : ∀ a ∈ la, ∀ b, Gives Tryz.prog 110 [.agg a.v, .agg b.v] (vbool (same a b))) : Gives Tryz.prog 109 [.slice 5 (la.map Agg.v), .slice 5 (lb.map Agg.v), .func 110 [] []] (vbool (same la lb)) := by
 intro s
 refine acalls_of (fn := Tryz.f109) Tryz.func109 rfl (by decide) (by show 3 ≤ 32; decide) ?_
 rw [Tryz.ntmps109]
 refine AWp.reg fun R1 hR1 => ?_
 simp only [am, seval, reduceCtorEq]
 refine hR1 _ ?_; clear hR1 R1
 refine AWp.seq_k fun K2 hK2 => ?_
 refine AWp.reg fun R3 hR3 => ?_
 simp only [ty3, ty73, ty130, am, seval, reduceCtorEq]
 refine hR3 _ ?_; clear hR3 R3
 refine AWp.cond (t := ((la.length : Int) != lb.length)) (by simp only [am, seval, reduceCtorEq]) (fun ht => ?_) (fun ht => ?_)
 ·have hne : la.length ≠ lb.length := by have := bne_iff_ne.1 ht; omega
  refine AWp.reg fun R4 hR4 => ?_
  simp only [am, seval, reduceCtorEq]
  refine hR4 _ ?_; clear hR4 R4
  refine AWp.ret ?_
  refine ret_intro (vs := [.base (.bool false)]) rfl (Wk.refl _) (Heap.le.refl _) ⟨?_, rfl⟩
  rw [same_false.2 (fun e => hne (by rw [e]))]; rfl
 ·have hlen : la.length = lb.length := by have := (bne_eq_false_iff_eq).1 ht; omega
  refine AWp.skip ?_
  refine hK2 _ ?_; clear hK2
  refine AWp.seq_k fun K5 hK5 => ?_
  refine AWp.reg fun R6 hR6 => ?_
  simp only [ty73, ty130, am, seval, reduceCtorEq]
  refine hR6 _ ?_; clear hR6 R6
  refine AWp.block ?_
  refine AWp.slen 0 (sz := 5) (es := la.map Agg.v) (by simp only [am, seval, reduceCtorEq]) fun hmax => ?_
  have hmx := maxLen_lt; rw [List.length_map] at hmax
  refine AWp.loopT (ι := Nat) (fun i => i ≤ la.length ∧ la.take i = lb.take i) (fun i => tst [(0, .slice 5 (la.map Agg.v)), (1, .slice 5 (lb.map Agg.v)), (2, .func 110 [] []), (15, .slice 5 (la.map Agg.v)), (16, vint la.length), (17, vint i)] [] s 32) (fun i => la.length - i) 0 ⟨⟨Nat.zero_le _, by simp⟩, ?_⟩ ?_
  ·refine le_tst ?_ ?_ ?_ (Heap.le.refl _) rfl
   ·simp only [leE, am, seval, reduceCtorEq] <;> simp
   ·simp only [okL, and_self]
   ·simp only [leB]
  ·rintro i ⟨hi, hno⟩
   refine AWp.reg fun R7 hR7 => ?_
   simp only [ty3, am, seval, reduceCtorEq]
   refine hR7 _ ?_; clear hR7 R7
   refine AWp.seq_k fun K8 hK8 => ?_
   refine AWp.cond (t := decide ((i:Int) < la.length)) (by simp only [am, seval, reduceCtorEq]) (fun ht => ?_) (fun ht => ?_)
   ·have hlt : i < la.length := lt_of_dec ht
    have hlt' : i < lb.length := by omega
    have ix0 : (0 ≤ (i : Int)) = True := by simp
    have ix1 : ((i : Int) < (la.length : Int)) = True := by simp [hlt]
    have ix2 : ((i : Int) < (lb.length : Int)) = True := by simp [hlt']
    refine AWp.skip ?_
    refine hK8 _ ?_; clear hK8
    refine AWp.seq_k fun K9 hK9 => ?_
    refine AWp.block ?_
    refine AWp.reg fun R10 hR10 => ?_
    simp only [ix0, ix1, ix2, true_and, getD_map _ _ _ hlt, getD_map _ _ _ hlt', Agg.v_eq, ty73, ty130, am, seval, reduceCtorEq]
    refine hR10 _ ?_; clear hR10 R10
    refine AWp.reg fun R11 hR11 => ?_
    simp only [ix0, ix1, ix2, true_and, getD_map _ _ _ hlt, getD_map _ _ _ hlt', Agg.v_eq, ty73, ty130, am, seval, reduceCtorEq]
    refine hR11 _ ?_; clear hR11 R11
    refine AWp.reg fun R12 hR12 => ?_
    simp only [Agg.v_eq, ty130, am, seval, reduceCtorEq]
    rw [← Agg.v_eq, ← Agg.v_eq]
    refine (hc la[i] (List.getElem_mem hlt) lb[i] _).mono fun v' s' h => ?_
    rw [h.1, h.2]; clear h v' s'
    simp only [vbool, Agg.v_eq, ty130, am, seval, reduceCtorEq]
    refine hR12 _ ?_; clear hR12 R12
    refine AWp.cond (t := !same la[i] lb[i]) (by simp only [am, seval, reduceCtorEq]) (fun ht => ?_) (fun ht => ?_)
    ·have hne : la[i] ≠ lb[i] := fun e => by rw [e] at ht; simp [same_self] at ht
     refine AWp.reg fun R13 hR13 => ?_
     simp only [am, seval, reduceCtorEq]
     refine hR13 _ ?_; clear hR13 R13
     refine AWp.ret ?_
     refine ret_intro (vs := [.base (.bool false)]) rfl (Wk.refl _) (Heap.le.refl _) ⟨?_, rfl⟩
     rw [same_false.2 (fun e => hne (by simp only [e]))]; rfl
    ·have he : la[i] = lb[i] := same_iff.1 (by simpa using ht)
     refine AWp.skip ?_
     refine hK9 _ ?_; clear hK9
     refine AWp.reg1 fun R14 hR14 => ?_
     simp only [ty3, am, seval, reduceCtorEq]
     refine hR14 _ ?_; clear hR14 R14
     refine ⟨i + 1, ⟨⟨hlt, take_succ_eq hno hlt hlt' he⟩, by omega⟩, ?_⟩
     refine le_tst ?_ ?_ ?_ (Heap.le.refl _) rfl
     ·simp only [leE, am, seval, reduceCtorEq]; rw [wrap_id (by omega) (by omega)]; simp
     ·simp only [okL, and_self]
     ·simp only [leB]
   ·obtain rfl : i = la.length := eq_of_dec ht hi
    refine AWp.exit ?_
    simp only [exq, seval]
    refine hK5 _ ?_; clear hK5
    refine AWp.reg fun R15 hR15 => ?_
    simp only [am, seval, reduceCtorEq]
    refine hR15 _ ?_; clear hR15 R15
    refine AWp.ret ?_
    refine ret_intro (vs := [.base (.bool true)]) rfl (Wk.refl _) (Heap.le.refl _) ⟨?_, rfl⟩
    rw [same_iff.2 (by rw [List.take_length] at hno; rw [hno, hlen, List.take_length])]; rfl
theorem f111_spec (la lb : List Step) (hc : ∀ a ∈ la, ∀ b, Gives Tryz.prog 112 [.agg a.v, .agg b.v] (vbool (same a b))) : Gives Tryz.prog 111 [.slice 7 (la.map Step.v), .slice 7 (lb.map Step.v), .func 112 [] []] (vbool (same la lb)) := by
 intro s
 refine acalls_of (fn := Tryz.f111) Tryz.func111 rfl (by decide) (by show 3 ≤ 32; decide) ?_
 rw [Tryz.ntmps111]
 refine AWp.reg fun R1 hR1 => ?_
 simp only [am, seval, reduceCtorEq]
 refine hR1 _ ?_; clear hR1 R1
 refine AWp.seq_k fun K2 hK2 => ?_
 refine AWp.reg fun R3 hR3 => ?_
 simp only [ty3, ty68, ty69, am, seval, reduceCtorEq]
 refine hR3 _ ?_; clear hR3 R3
 refine AWp.cond (t := ((la.length : Int) != lb.length)) (by simp only [am, seval, reduceCtorEq]) (fun ht => ?_) (fun ht => ?_)
 ·have hne : la.length ≠ lb.length := by have := bne_iff_ne.1 ht; omega
  refine AWp.reg fun R4 hR4 => ?_
  simp only [am, seval, reduceCtorEq]
  refine hR4 _ ?_; clear hR4 R4
  refine AWp.ret ?_
  refine ret_intro (vs := [.base (.bool false)]) rfl (Wk.refl _) (Heap.le.refl _) ⟨?_, rfl⟩
  rw [same_false.2 (fun e => hne (by rw [e]))]; rfl
 ·have hlen : la.length = lb.length := by have := (bne_eq_false_iff_eq).1 ht; omega
  refine AWp.skip ?_
  refine hK2 _ ?_; clear hK2
  refine AWp.seq_k fun K5 hK5 => ?_
  refine AWp.reg fun R6 hR6 => ?_
  simp only [ty68, ty69, am, seval, reduceCtorEq]
  refine hR6 _ ?_; clear hR6 R6
  refine AWp.block ?_
  refine AWp.slen 0 (sz := 7) (es := la.map Step.v) (by simp only [am, seval, reduceCtorEq]) fun hmax => ?_
  have hmx := maxLen_lt; rw [List.length_map] at hmax
  refine AWp.loopT (ι := Nat) (fun i => i ≤ la.length ∧ la.take i = lb.take i) (fun i => tst [(0, .slice 7 (la.map Step.v)), (1, .slice 7 (lb.map Step.v)), (2, .func 112 [] []), (15, .slice 7 (la.map Step.v)), (16, vint la.length), (17, vint i)] [] s 32) (fun i => la.length - i) 0 ⟨⟨Nat.zero_le _, by simp⟩, ?_⟩ ?_
  ·refine le_tst ?_ ?_ ?_ (Heap.le.refl _) rfl
   ·simp only [leE, am, seval, reduceCtorEq] <;> simp
   ·simp only [okL, and_self]
   ·simp only [leB]
  ·rintro i ⟨hi, hno⟩
   refine AWp.reg fun R7 hR7 => ?_
   simp only [ty3, am, seval, reduceCtorEq]
   refine hR7 _ ?_; clear hR7 R7
   refine AWp.seq_k fun K8 hK8 => ?_
   refine AWp.cond (t := decide ((i:Int) < la.length)) (by simp only [am, seval, reduceCtorEq]) (fun ht => ?_) (fun ht => ?_)
   ·have hlt : i < la.length := lt_of_dec ht
    have hlt' : i < lb.length := by omega
    have ix0 : (0 ≤ (i : Int)) = True := by simp
    have ix1 : ((i : Int) < (la.length : Int)) = True := by simp [hlt]
    have ix2 : ((i : Int) < (lb.length : Int)) = True := by simp [hlt']
    refine AWp.skip ?_
    refine hK8 _ ?_; clear hK8
    refine AWp.seq_k fun K9 hK9 => ?_
    refine AWp.block ?_
    refine AWp.reg fun R10 hR10 => ?_
    simp only [ix0, ix1, ix2, true_and, getD_map _ _ _ hlt, getD_map _ _ _ hlt', Step.v_eq, ty68, ty69, am, seval, reduceCtorEq]
    refine hR10 _ ?_; clear hR10 R10
    refine AWp.reg fun R11 hR11 => ?_
    simp only [ix0, ix1, ix2, true_and, getD_map _ _ _ hlt, getD_map _ _ _ hlt', Step.v_eq, ty68, ty69, am, seval, reduceCtorEq]
    refine hR11 _ ?_; clear hR11 R11
    refine AWp.reg fun R12 hR12 => ?_
    simp only [Step.v_eq, ty68, am, seval, reduceCtorEq]
    rw [← Step.v_eq, ← Step.v_eq]
    refine (hc la[i] (List.getElem_mem hlt) lb[i] _).mono fun v' s' h => ?_
    rw [h.1, h.2]; clear h v' s'
    simp only [vbool, Step.v_eq, ty68, am, seval, reduceCtorEq]
    refine hR12 _ ?_; clear hR12 R12
    refine AWp.cond (t := !same la[i] lb[i]) (by simp only [am, seval, reduceCtorEq]) (fun ht => ?_) (fun ht => ?_)
    ·have hne : la[i] ≠ lb[i] := fun e => by rw [e] at ht; simp [same_self] at ht
     refine AWp.reg fun R13 hR13 => ?_
     simp only [am, seval, reduceCtorEq]
     refine hR13 _ ?_; clear hR13 R13
     refine AWp.ret ?_
     refine ret_intro (vs := [.base (.bool false)]) rfl (Wk.refl _) (Heap.le.refl _) ⟨?_, rfl⟩
     rw [same_false.2 (fun e => hne (by simp only [e]))]; rfl
    ·have he : la[i] = lb[i] := same_iff.1 (by simpa using ht)
     refine AWp.skip ?_
     refine hK9 _ ?_; clear hK9
     refine AWp.reg1 fun R14 hR14 => ?_
     simp only [ty3, am, seval, reduceCtorEq]
     refine hR14 _ ?_; clear hR14 R14
     refine ⟨i + 1, ⟨⟨hlt, take_succ_eq hno hlt hlt' he⟩, by omega⟩, ?_⟩
     refine le_tst ?_ ?_ ?_ (Heap.le.refl _) rfl
     ·simp only [leE, am, seval, reduceCtorEq]; rw [wrap_id (by omega) (by omega)]; simp
     ·simp only [okL, and_self]
     ·simp only [leB]
   ·obtain rfl : i = la.length := eq_of_dec ht hi
    refine AWp.exit ?_
    simp only [exq, seval]
    refine hK5 _ ?_; clear hK5
    refine AWp.reg fun R15 hR15 => ?_
    simp only [am, seval, reduceCtorEq]
    refine hR15 _ ?_; clear hR15 R15
    refine AWp.ret ?_
    refine ret_intro (vs := [.base (.bool true)]) rfl (Wk.refl _) (Heap.le.refl _) ⟨?_, rfl⟩
    rw [same_iff.2 (by rw [List.take_length] at hno; rw [hno, hlen, List.take_length])]; rfl
theorem f145_spec (la lb : List Bound) (hc : ∀ a ∈ la, ∀ b, Gives Tryz.prog 146 [.agg a.v, .agg b.v] (vbool (same a b))) : Gives Tryz.prog 145 [.slice 15 (la.map Bound.v), .slice 15 (lb.map Bound.v), .func 146 [] []] (vbool (same la lb)) := by
 intro s
 refine acalls_of (fn := Tryz.f145) Tryz.func145 rfl (by decide) (by show 3 ≤ 32; decide) ?_
 rw [Tryz.ntmps145]
 refine AWp.reg fun R1 hR1 => ?_
 simp only [am, seval, reduceCtorEq]
 refine hR1 _ ?_; clear hR1 R1
 refine AWp.seq_k fun K2 hK2 => ?_
 refine AWp.reg fun R3 hR3 => ?_
 simp only [ty3, ty64, ty132, am, seval, reduceCtorEq]
 refine hR3 _ ?_; clear hR3 R3
 refine AWp.cond (t := ((la.length : Int) != lb.length)) (by simp only [am, seval, reduceCtorEq]) (fun ht => ?_) (fun ht => ?_)
 ·have hne : la.length ≠ lb.length := by have := bne_iff_ne.1 ht; omega
  refine AWp.reg fun R4 hR4 => ?_
  simp only [am, seval, reduceCtorEq]
  refine hR4 _ ?_; clear hR4 R4
  refine AWp.ret ?_
  refine ret_intro (vs := [.base (.bool false)]) rfl (Wk.refl _) (Heap.le.refl _) ⟨?_, rfl⟩
  rw [same_false.2 (fun e => hne (by rw [e]))]; rfl
 ·have hlen : la.length = lb.length := by have := (bne_eq_false_iff_eq).1 ht; omega
  refine AWp.skip ?_
  refine hK2 _ ?_; clear hK2
  refine AWp.seq_k fun K5 hK5 => ?_
  refine AWp.reg fun R6 hR6 => ?_
  simp only [ty64, ty132, am, seval, reduceCtorEq]
  refine hR6 _ ?_; clear hR6 R6
  refine AWp.block ?_
  refine AWp.slen 0 (sz := 15) (es := la.map Bound.v) (by simp only [am, seval, reduceCtorEq]) fun hmax => ?_
  have hmx := maxLen_lt; rw [List.length_map] at hmax
  refine AWp.loopT (ι := Nat) (fun i => i ≤ la.length ∧ la.take i = lb.take i) (fun i => tst [(0, .slice 15 (la.map Bound.v)), (1, .slice 15 (lb.map Bound.v)), (2, .func 146 [] []), (15, .slice 15 (la.map Bound.v)), (16, vint la.length), (17, vint i)] [] s 32) (fun i => la.length - i) 0 ⟨⟨Nat.zero_le _, by simp⟩, ?_⟩ ?_
  ·refine le_tst ?_ ?_ ?_ (Heap.le.refl _) rfl
   ·simp only [leE, am, seval, reduceCtorEq] <;> simp
   ·simp only [okL, and_self]
   ·simp only [leB]
  ·rintro i ⟨hi, hno⟩
   refine AWp.reg fun R7 hR7 => ?_
   simp only [ty3, am, seval, reduceCtorEq]
   refine hR7 _ ?_; clear hR7 R7
   refine AWp.seq_k fun K8 hK8 => ?_
   refine AWp.cond (t := decide ((i:Int) < la.length)) (by simp only [am, seval, reduceCtorEq]) (fun ht => ?_) (fun ht => ?_)
   ·have hlt : i < la.length := lt_of_dec ht
    have hlt' : i < lb.length := by omega
    have ix0 : (0 ≤ (i : Int)) = True := by simp
    have ix1 : ((i : Int) < (la.length : Int)) = True := by simp [hlt]
    have ix2 : ((i : Int) < (lb.length : Int)) = True := by simp [hlt']
    refine AWp.skip ?_
    refine hK8 _ ?_; clear hK8
    refine AWp.seq_k fun K9 hK9 => ?_
    refine AWp.block ?_
    refine AWp.reg fun R10 hR10 => ?_
    simp only [ix0, ix1, ix2, true_and, getD_map _ _ _ hlt, getD_map _ _ _ hlt', Bound.v_flat, ty64, ty132, am, seval, reduceCtorEq]
    refine hR10 _ ?_; clear hR10 R10
    refine AWp.reg fun R11 hR11 => ?_
    simp only [ix0, ix1, ix2, true_and, getD_map _ _ _ hlt, getD_map _ _ _ hlt', Bound.v_flat, ty64, ty132, am, seval, reduceCtorEq]
    refine hR11 _ ?_; clear hR11 R11
    refine AWp.reg fun R12 hR12 => ?_
    simp only [Bound.v_flat, ty132, am, seval, reduceCtorEq]
    rw [← Bound.v_flat, ← Bound.v_flat]
    refine (hc la[i] (List.getElem_mem hlt) lb[i] _).mono fun v' s' h => ?_
    rw [h.1, h.2]; clear h v' s'
    simp only [vbool, Bound.v_flat, ty132, am, seval, reduceCtorEq]
    refine hR12 _ ?_; clear hR12 R12
    refine AWp.cond (t := !same la[i] lb[i]) (by simp only [am, seval, reduceCtorEq]) (fun ht => ?_) (fun ht => ?_)
    ·have hne : la[i] ≠ lb[i] := fun e => by rw [e] at ht; simp [same_self] at ht
     refine AWp.reg fun R13 hR13 => ?_
     simp only [am, seval, reduceCtorEq]
     refine hR13 _ ?_; clear hR13 R13
     refine AWp.ret ?_
     refine ret_intro (vs := [.base (.bool false)]) rfl (Wk.refl _) (Heap.le.refl _) ⟨?_, rfl⟩
     rw [same_false.2 (fun e => hne (by simp only [e]))]; rfl
    ·have he : la[i] = lb[i] := same_iff.1 (by simpa using ht)
     refine AWp.skip ?_
     refine hK9 _ ?_; clear hK9
     refine AWp.reg1 fun R14 hR14 => ?_
     simp only [ty3, am, seval, reduceCtorEq]
     refine hR14 _ ?_; clear hR14 R14
     refine ⟨i + 1, ⟨⟨hlt, take_succ_eq hno hlt hlt' he⟩, by omega⟩, ?_⟩
     refine le_tst ?_ ?_ ?_ (Heap.le.refl _) rfl
     ·simp only [leE, am, seval, reduceCtorEq]; rw [wrap_id (by omega) (by omega)]; simp
     ·simp only [okL, and_self]
     ·simp only [leB]
   ·obtain rfl : i = la.length := eq_of_dec ht hi
    refine AWp.exit ?_
    simp only [exq, seval]
    refine hK5 _ ?_; clear hK5
    refine AWp.reg fun R15 hR15 => ?_
    simp only [am, seval, reduceCtorEq]
    refine hR15 _ ?_; clear hR15 R15
    refine AWp.ret ?_
    refine ret_intro (vs := [.base (.bool true)]) rfl (Wk.refl _) (Heap.le.refl _) ⟨?_, rfl⟩
    rw [same_iff.2 (by rw [List.take_length] at hno; rw [hno, hlen, List.take_length])]; rfl
theorem f106_spec (la lb : List (List Term)) (hc : ∀ a ∈ la, ∀ b, Gives Tryz.prog 66 [.slice 14 (a.map Term.v), .slice 14 (b.map Term.v)] (vbool (same a b))) : Gives Tryz.prog 106 [.slice 1 (la.map fun l => [.slice 14 (l.map Term.v)]), .slice 1 (lb.map fun l => [.slice 14 (l.map Term.v)]), .func 66 [] []] (vbool (same la lb)) := by
 intro s
 refine acalls_of (fn := Tryz.f106) Tryz.func106 rfl (by decide) (by show 3 ≤ 32; decide) ?_
 rw [Tryz.ntmps106]
 refine AWp.reg fun R1 hR1 => ?_
 simp only [am, seval, reduceCtorEq]
 refine hR1 _ ?_; clear hR1 R1
 refine AWp.seq_k fun K2 hK2 => ?_
 refine AWp.reg fun R3 hR3 => ?_
 simp only [ty3, ty31, ty71, am, seval, reduceCtorEq]
 refine hR3 _ ?_; clear hR3 R3
 refine AWp.cond (t := ((la.length : Int) != lb.length)) (by simp only [am, seval, reduceCtorEq]) (fun ht => ?_) (fun ht => ?_)
 ·have hne : la.length ≠ lb.length := by have := bne_iff_ne.1 ht; omega
  refine AWp.reg fun R4 hR4 => ?_
  simp only [am, seval, reduceCtorEq]
  refine hR4 _ ?_; clear hR4 R4
  refine AWp.ret ?_
  refine ret_intro (vs := [.base (.bool false)]) rfl (Wk.refl _) (Heap.le.refl _) ⟨?_, rfl⟩
  rw [same_false.2 (fun e => hne (by rw [e]))]; rfl
 ·have hlen : la.length = lb.length := by have := (bne_eq_false_iff_eq).1 ht; omega
  refine AWp.skip ?_
  refine hK2 _ ?_; clear hK2
  refine AWp.seq_k fun K5 hK5 => ?_
  refine AWp.reg fun R6 hR6 => ?_
  simp only [ty31, ty71, am, seval, reduceCtorEq]
  refine hR6 _ ?_; clear hR6 R6
  refine AWp.block ?_
  refine AWp.slen 0 (sz := 1) (es := la.map (fun l => [.slice 14 (l.map Term.v)])) (by simp only [am, seval, reduceCtorEq]) fun hmax => ?_
  have hmx := maxLen_lt; rw [List.length_map] at hmax
  refine AWp.loopT (ι := Nat) (fun i => i ≤ la.length ∧ la.take i = lb.take i) (fun i => tst [(0, .slice 1 (la.map (fun l => [.slice 14 (l.map Term.v)]))), (1, .slice 1 (lb.map (fun l => [.slice 14 (l.map Term.v)]))), (2, .func 66 [] []), (15, .slice 1 (la.map (fun l => [.slice 14 (l.map Term.v)]))), (16, vint la.length), (17, vint i)] [] s 32) (fun i => la.length - i) 0 ⟨⟨Nat.zero_le _, by simp⟩, ?_⟩ ?_
  ·refine le_tst ?_ ?_ ?_ (Heap.le.refl _) rfl
   ·simp only [leE, am, seval, reduceCtorEq] <;> simp
   ·simp only [okL, and_self]
   ·simp only [leB]
  ·rintro i ⟨hi, hno⟩
   refine AWp.reg fun R7 hR7 => ?_
   simp only [ty3, am, seval, reduceCtorEq]
   refine hR7 _ ?_; clear hR7 R7
   refine AWp.seq_k fun K8 hK8 => ?_
   refine AWp.cond (t := decide ((i:Int) < la.length)) (by simp only [am, seval, reduceCtorEq]) (fun ht => ?_) (fun ht => ?_)
   ·have hlt : i < la.length := lt_of_dec ht
    have hlt' : i < lb.length := by omega
    have ix0 : (0 ≤ (i : Int)) = True := by simp
    have ix1 : ((i : Int) < (la.length : Int)) = True := by simp [hlt]
    have ix2 : ((i : Int) < (lb.length : Int)) = True := by simp [hlt']
    refine AWp.skip ?_
    refine hK8 _ ?_; clear hK8
    refine AWp.seq_k fun K9 hK9 => ?_
    refine AWp.block ?_
    refine AWp.reg fun R10 hR10 => ?_
    simp only [ix0, ix1, ix2, true_and, getD_map _ _ _ hlt, getD_map _ _ _ hlt', ty31, ty49, ty71, am, seval, reduceCtorEq]
    refine hR10 _ ?_; clear hR10 R10
    refine AWp.reg fun R11 hR11 => ?_
    simp only [ix0, ix1, ix2, true_and, getD_map _ _ _ hlt, getD_map _ _ _ hlt', ty31, ty49, ty71, am, seval, reduceCtorEq]
    refine hR11 _ ?_; clear hR11 R11
    refine AWp.reg fun R12 hR12 => ?_
    simp only [am, seval, reduceCtorEq]
    refine (hc la[i] (List.getElem_mem hlt) lb[i] _).mono fun v' s' h => ?_
    rw [h.1, h.2]; clear h v' s'
    simp only [vbool, am, seval, reduceCtorEq]
    refine hR12 _ ?_; clear hR12 R12
    refine AWp.cond (t := !same la[i] lb[i]) (by simp only [am, seval, reduceCtorEq]) (fun ht => ?_) (fun ht => ?_)
    ·have hne : la[i] ≠ lb[i] := fun e => by rw [e] at ht; simp [same_self] at ht
     refine AWp.reg fun R13 hR13 => ?_
     simp only [am, seval, reduceCtorEq]
     refine hR13 _ ?_; clear hR13 R13
     refine AWp.ret ?_
     refine ret_intro (vs := [.base (.bool false)]) rfl (Wk.refl _) (Heap.le.refl _) ⟨?_, rfl⟩
     rw [same_false.2 (fun e => hne (by simp only [e]))]; rfl
    ·have he : la[i] = lb[i] := same_iff.1 (by simpa using ht)
     refine AWp.skip ?_
     refine hK9 _ ?_; clear hK9
     refine AWp.reg1 fun R14 hR14 => ?_
     simp only [ty3, am, seval, reduceCtorEq]
     refine hR14 _ ?_; clear hR14 R14
     refine ⟨i + 1, ⟨⟨hlt, take_succ_eq hno hlt hlt' he⟩, by omega⟩, ?_⟩
     refine le_tst ?_ ?_ ?_ (Heap.le.refl _) rfl
     ·simp only [leE, am, seval, reduceCtorEq]; rw [wrap_id (by omega) (by omega)]; simp
     ·simp only [okL, and_self]
     ·simp only [leB]
   ·obtain rfl : i = la.length := eq_of_dec ht hi
    refine AWp.exit ?_
    simp only [exq, seval]
    refine hK5 _ ?_; clear hK5
    refine AWp.reg fun R15 hR15 => ?_
    simp only [am, seval, reduceCtorEq]
    refine hR15 _ ?_; clear hR15 R15
    refine AWp.ret ?_
    refine ret_intro (vs := [.base (.bool true)]) rfl (Wk.refl _) (Heap.le.refl _) ⟨?_, rfl⟩
    rw [same_iff.2 (by rw [List.take_length] at hno; rw [hno, hlen, List.take_length])]; rfl
theorem f66_spec (la lb : List Term) (h : Gives Tryz.prog 115 [.slice 14 (la.map Term.v), .slice 14 (lb.map Term.v), .func 116 [] []] (vbool (same la lb))) : Gives Tryz.prog 66 [.slice 14 (la.map Term.v), .slice 14 (lb.map Term.v)] (vbool (same la lb)) := by
 intro s
 refine acalls_of (fn := Tryz.f66) Tryz.func66 rfl (by decide) (by show 2 ≤ 8; decide) ?_
 rw [Tryz.ntmps66]
 refine AWp.reg fun R1 hR1 => ?_
 simp only [am, seval, reduceCtorEq]
 refine hR1 _ ?_; clear hR1 R1
 refine AWp.reg fun R2 hR2 => ?_
 simp only [am, seval, reduceCtorEq]
 refine (h _).mono fun v' s' h => ?_
 rw [h.1, h.2]; clear h v' s'
 simp only [am, seval, reduceCtorEq]
 refine hR2 _ ?_; clear hR2 R2
 refine AWp.ret ?_
 exact ret_intro (vs := [vbool (same la lb)]) rfl (Wk.refl _) (Heap.le.refl _) ⟨rfl, rfl⟩
theorem f114_spec (la lb : List Bound) (h : Gives Tryz.prog 145 [.slice 15 (la.map Bound.v), .slice 15 (lb.map Bound.v), .func 146 [] []] (vbool (same la lb))) : Gives Tryz.prog 114 [.slice 15 (la.map Bound.v), .slice 15 (lb.map Bound.v)] (vbool (same la lb)) := by
 intro s
 refine acalls_of (fn := Tryz.f114) Tryz.func114 rfl (by decide) (by show 2 ≤ 8; decide) ?_
 rw [Tryz.ntmps114]
 refine AWp.reg fun R1 hR1 => ?_
 simp only [am, seval, reduceCtorEq]
 refine hR1 _ ?_; clear hR1 R1
 refine AWp.reg fun R2 hR2 => ?_
 simp only [am, seval, reduceCtorEq]
 refine (h _).mono fun v' s' h => ?_
 rw [h.1, h.2]; clear h v' s'
 simp only [am, seval, reduceCtorEq]
 refine hR2 _ ?_; clear hR2 R2
 refine AWp.ret ?_
 exact ret_intro (vs := [vbool (same la lb)]) rfl (Wk.refl _) (Heap.le.refl _) ⟨rfl, rfl⟩
end Go.Proofs.YtcckhbconihagaaGreatDoor
set_option linter.unusedSimpArgs false
set_option linter.unusedVariables false
set_option maxRecDepth 100000
namespace Go.Proofs.YtcckhbconihagaaGreatDoor
open Go.Am Go.Pl
theorem Term.same_last' (a b : Term) (h0 : (a.op == b.op) = true) (h1 : (a.neg == b.neg) = true) (h2 : (a.n == b.n) = true) (h3 : (a.frm == b.frm) = true) (h4 : (a.col == b.col) = true) (h5 : (a.name.toList == b.name.toList) = true) (h6 : (a.vk == b.vk && (a.vi == b.vi && a.vt.toList == b.vt.toList)) = true) (h7 : (a.coll == b.coll) = true) (h8 : (a.l == b.l) = true) (h9 : (a.r == b.r) = true) (h10 : (same a.args b.args) = true) : same a b = (same a.sub b.sub) := by
  cases a; cases b; simp only [beq_iff_eq, bytes_beq, bytes_eq, same_iff, Bool.and_eq_true] at *; try refine same_eq_of ?_
  try (rw [Bool.eq_iff_iff, same_iff, beq_iff_eq])
  simp only [Term.mk.injEq]; simp_all
theorem f116_spec (a b : Term) (h115 : Gives Tryz.prog 115 [.slice 14 (a.args.map Term.v), .slice 14 (b.args.map Term.v), .func 116 [] []] (vbool (same a.args b.args))) (h42 : Gives Tryz.prog 42 [.slice 5 (a.sub.map Query.v), .slice 5 (b.sub.map Query.v), .func 38 [] []] (vbool (same a.sub b.sub))) : Gives Tryz.prog 116 [.agg a.v, .agg b.v] (vbool (same a b)) := by
 intro s
 rw [Term.v_eq, Term.v_eq]
 refine acalls_of (fn := Tryz.f116) Tryz.func116 rfl (by decide) (by show 2 ≤ 87; decide) ?_
 rw [Tryz.ntmps116]
 refine AWp.reg fun R1 hR1 => ?_
 simp only [ty49, am, seval, reduceCtorEq]
 refine hR1 _ ?_; clear hR1 R1
 refine AWp.reg fun R2 hR2 => ?_
 rcases (Bool.eq_false_or_eq_true (a.op == b.op)).symm with hc0 | hc0
 ·simp only [hc0, ty3, ty4, ty9, ty31, ty33, ty41, ty44, ty45, ty46, ty47, ty49, teq44, List.append_eq, am, seval, reduceCtorEq]
  refine hR2 _ ?_; clear hR2 R2
  refine AWp.ret ?_
  refine ret_intro (vs := [.base (.bool false)]) rfl (Wk.refl _) (Heap.le.refl _) ⟨?_, rfl⟩
  rw [same_of_imp (fun e => by rw [e]; simp only [beq_self_eq_true, same_self, Bool.and_self]) hc0]; rfl
 ·rcases (Bool.eq_false_or_eq_true (a.neg == b.neg)).symm with hc1 | hc1
  ·simp only [hc0, hc1, ty3, ty4, ty9, ty31, ty33, ty41, ty44, ty45, ty46, ty47, ty49, teq44, List.append_eq, am, seval, reduceCtorEq]
   refine hR2 _ ?_; clear hR2 R2
   refine AWp.ret ?_
   refine ret_intro (vs := [.base (.bool false)]) rfl (Wk.refl _) (Heap.le.refl _) ⟨?_, rfl⟩
   rw [same_of_imp (fun e => by rw [e]; simp only [beq_self_eq_true, same_self, Bool.and_self]) hc1]; rfl
  ·rcases (Bool.eq_false_or_eq_true (a.n == b.n)).symm with hc2 | hc2
   ·simp only [hc0, hc1, hc2, ty3, ty4, ty9, ty31, ty33, ty41, ty44, ty45, ty46, ty47, ty49, teq44, List.append_eq, am, seval, reduceCtorEq]
    refine hR2 _ ?_; clear hR2 R2
    refine AWp.ret ?_
    refine ret_intro (vs := [.base (.bool false)]) rfl (Wk.refl _) (Heap.le.refl _) ⟨?_, rfl⟩
    rw [same_of_imp (fun e => by rw [e]; simp only [beq_self_eq_true, same_self, Bool.and_self]) hc2]; rfl
   ·rcases (Bool.eq_false_or_eq_true (a.frm == b.frm)).symm with hc3 | hc3
    ·simp only [hc0, hc1, hc2, hc3, ty3, ty4, ty9, ty31, ty33, ty41, ty44, ty45, ty46, ty47, ty49, teq44, List.append_eq, am, seval, reduceCtorEq]
     refine hR2 _ ?_; clear hR2 R2
     refine AWp.ret ?_
     refine ret_intro (vs := [.base (.bool false)]) rfl (Wk.refl _) (Heap.le.refl _) ⟨?_, rfl⟩
     rw [same_of_imp (fun e => by rw [e]; simp only [beq_self_eq_true, same_self, Bool.and_self]) hc3]; rfl
    ·rcases (Bool.eq_false_or_eq_true (a.col == b.col)).symm with hc4 | hc4
     ·simp only [hc0, hc1, hc2, hc3, hc4, ty3, ty4, ty9, ty31, ty33, ty41, ty44, ty45, ty46, ty47, ty49, teq44, List.append_eq, am, seval, reduceCtorEq]
      refine hR2 _ ?_; clear hR2 R2
      refine AWp.ret ?_
      refine ret_intro (vs := [.base (.bool false)]) rfl (Wk.refl _) (Heap.le.refl _) ⟨?_, rfl⟩
      rw [same_of_imp (fun e => by rw [e]; simp only [beq_self_eq_true, same_self, Bool.and_self]) hc4]; rfl
     ·rcases (Bool.eq_false_or_eq_true (a.name.toList == b.name.toList)).symm with hc5 | hc5
      ·simp only [hc0, hc1, hc2, hc3, hc4, hc5, ty3, ty4, ty9, ty31, ty33, ty41, ty44, ty45, ty46, ty47, ty49, teq44, List.append_eq, am, seval, reduceCtorEq]
       refine hR2 _ ?_; clear hR2 R2
       refine AWp.ret ?_
       refine ret_intro (vs := [.base (.bool false)]) rfl (Wk.refl _) (Heap.le.refl _) ⟨?_, rfl⟩
       rw [same_of_imp (fun e => by rw [e]; simp only [beq_self_eq_true, same_self, Bool.and_self]) hc5]; rfl
      ·rcases (Bool.eq_false_or_eq_true (a.vk == b.vk && (a.vi == b.vi && a.vt.toList == b.vt.toList))).symm with hc6 | hc6
       ·simp only [hc0, hc1, hc2, hc3, hc4, hc5, hc6, ty3, ty4, ty9, ty31, ty33, ty41, ty44, ty45, ty46, ty47, ty49, teq44, List.append_eq, am, seval, reduceCtorEq]
        refine hR2 _ ?_; clear hR2 R2
        refine AWp.ret ?_
        refine ret_intro (vs := [.base (.bool false)]) rfl (Wk.refl _) (Heap.le.refl _) ⟨?_, rfl⟩
        rw [same_of_imp (fun e => by rw [e]; simp only [beq_self_eq_true, same_self, Bool.and_self]) hc6]; rfl
       ·rcases (Bool.eq_false_or_eq_true (a.coll == b.coll)).symm with hc7 | hc7
        ·simp only [hc0, hc1, hc2, hc3, hc4, hc5, hc6, hc7, ty3, ty4, ty9, ty31, ty33, ty41, ty44, ty45, ty46, ty47, ty49, teq44, List.append_eq, am, seval, reduceCtorEq]
         refine hR2 _ ?_; clear hR2 R2
         refine AWp.ret ?_
         refine ret_intro (vs := [.base (.bool false)]) rfl (Wk.refl _) (Heap.le.refl _) ⟨?_, rfl⟩
         rw [same_of_imp (fun e => by rw [e]; simp only [beq_self_eq_true, same_self, Bool.and_self]) hc7]; rfl
        ·rcases (Bool.eq_false_or_eq_true (a.l == b.l)).symm with hc8 | hc8
         ·simp only [hc0, hc1, hc2, hc3, hc4, hc5, hc6, hc7, hc8, ty3, ty4, ty9, ty31, ty33, ty41, ty44, ty45, ty46, ty47, ty49, teq44, List.append_eq, am, seval, reduceCtorEq]
          refine hR2 _ ?_; clear hR2 R2
          refine AWp.ret ?_
          refine ret_intro (vs := [.base (.bool false)]) rfl (Wk.refl _) (Heap.le.refl _) ⟨?_, rfl⟩
          rw [same_of_imp (fun e => by rw [e]; simp only [beq_self_eq_true, same_self, Bool.and_self]) hc8]; rfl
         ·rcases (Bool.eq_false_or_eq_true (a.r == b.r)).symm with hc9 | hc9
          ·simp only [hc0, hc1, hc2, hc3, hc4, hc5, hc6, hc7, hc8, hc9, ty3, ty4, ty9, ty31, ty33, ty41, ty44, ty45, ty46, ty47, ty49, teq44, List.append_eq, am, seval, reduceCtorEq]
           refine hR2 _ ?_; clear hR2 R2
           refine AWp.ret ?_
           refine ret_intro (vs := [.base (.bool false)]) rfl (Wk.refl _) (Heap.le.refl _) ⟨?_, rfl⟩
           rw [same_of_imp (fun e => by rw [e]; simp only [beq_self_eq_true, same_self, Bool.and_self]) hc9]; rfl
          ·rcases (Bool.eq_false_or_eq_true (same a.args b.args)).symm with hc10 | hc10
           ·simp only [hc0, hc1, hc2, hc3, hc4, hc5, hc6, hc7, hc8, hc9, hc10, ty3, ty4, ty9, ty31, ty33, ty41, ty44, ty45, ty46, ty47, ty49, teq44, List.append_eq, am, seval, reduceCtorEq]
            refine (h115 _).mono fun v' s' h => ?_
            rw [h.1, h.2]; clear h v' s'
            simp only [vbool, hc0, hc1, hc2, hc3, hc4, hc5, hc6, hc7, hc8, hc9, hc10, ty3, ty4, ty9, ty31, ty33, ty41, ty44, ty45, ty46, ty47, ty49, teq44, List.append_eq, am, seval, reduceCtorEq]
            refine hR2 _ ?_; clear hR2 R2
            refine AWp.ret ?_
            refine ret_intro (vs := [.base (.bool false)]) rfl (Wk.refl _) (Heap.le.refl _) ⟨?_, rfl⟩
            rw [same_of_imp (fun e => by rw [e]; simp only [beq_self_eq_true, same_self, Bool.and_self]) hc10]; rfl
           ·simp only [hc0, hc1, hc2, hc3, hc4, hc5, hc6, hc7, hc8, hc9, hc10, ty3, ty4, ty9, ty31, ty33, ty41, ty44, ty45, ty46, ty47, ty49, teq44, List.append_eq, am, seval, reduceCtorEq]
            refine (h115 _).mono fun v' s' h => ?_
            rw [h.1, h.2]; clear h v' s'
            simp only [vbool, hc0, hc1, hc2, hc3, hc4, hc5, hc6, hc7, hc8, hc9, hc10, ty3, ty4, ty9, ty31, ty33, ty41, ty44, ty45, ty46, ty47, ty49, teq44, List.append_eq, am, seval, reduceCtorEq]
            refine (h42 _).mono fun v' s' h => ?_
            rw [h.1, h.2]; clear h v' s'
            simp only [vbool, hc0, hc1, hc2, hc3, hc4, hc5, hc6, hc7, hc8, hc9, hc10, ty3, ty4, ty9, ty31, ty33, ty41, ty44, ty45, ty46, ty47, ty49, teq44, List.append_eq, am, seval, reduceCtorEq]
            refine hR2 _ ?_; clear hR2 R2
            refine AWp.ret ?_
            refine ret_intro (vs := [.base (.bool (same a.sub b.sub))]) rfl (Wk.refl _) (Heap.le.refl _) ⟨?_, rfl⟩
            rw [Term.same_last' a b hc0 hc1 hc2 hc3 hc4 hc5 hc6 hc7 hc8 hc9 hc10]; rfl
theorem Query.same_last' (a b : Query) (h0 : (same a.names b.names) = true) (h1 : (same a.arms b.arms) = true) (h2 : (same a.order b.order) = true) (h3 : (same a.limit b.limit) = true) : same a b = (same a.offset b.offset) := by
  cases a; cases b; simp only [beq_iff_eq, bytes_beq, bytes_eq, same_iff, Bool.and_eq_true] at *; try refine same_eq_of ?_
  try (rw [Bool.eq_iff_iff, same_iff, beq_iff_eq])
  simp only [Query.mk.injEq]; simp_all
theorem f38_spec (a b : Query) (h63 : Gives Tryz.prog 63 [.slice 13 (a.arms.map Arm.v), .slice 13 (b.arms.map Arm.v), .func 64 [] []] (vbool (same a.arms b.arms))) (h1 : Gives Tryz.prog 66 [.slice 14 (a.limit.map Term.v), .slice 14 (b.limit.map Term.v)] (vbool (same a.limit b.limit))) (h2 : Gives Tryz.prog 66 [.slice 14 (a.offset.map Term.v), .slice 14 (b.offset.map Term.v)] (vbool (same a.offset b.offset))) : Gives Tryz.prog 38 [.agg a.v, .agg b.v] (vbool (same a b)) := by
 intro s
 rw [Query.v_eq, Query.v_eq]
 refine acalls_of (fn := Tryz.f38) Tryz.func38 rfl (by decide) (by show 2 ≤ 38; decide) ?_
 rw [Tryz.ntmps38]
 refine AWp.reg fun R1 hR1 => ?_
 simp only [ty33, am, seval, reduceCtorEq]
 refine hR1 _ ?_; clear hR1 R1
 refine AWp.reg fun R2 hR2 => ?_
 rcases (Bool.eq_false_or_eq_true (same a.names b.names)).symm with hc0 | hc0
 ·simp only [hc0, ty9, ty28, ty29, ty30, ty31, ty33, ty49, ty75, ty118, teq118, List.append_eq, am, seval, reduceCtorEq]
  refine (f41_spec a.names b.names _).mono fun v' s' h => ?_
  rw [h.1, h.2]; clear h v' s'
  simp only [vbool, hc0, ty9, ty28, ty29, ty30, ty31, ty33, ty49, ty75, ty118, teq118, List.append_eq, am, seval, reduceCtorEq]
  refine hR2 _ ?_; clear hR2 R2
  refine AWp.ret ?_
  refine ret_intro (vs := [.base (.bool false)]) rfl (Wk.refl _) (Heap.le.refl _) ⟨?_, rfl⟩
  rw [same_of_imp (fun e => by rw [e]; simp only [beq_self_eq_true, same_self, Bool.and_self]) hc0]; rfl
 ·rcases (Bool.eq_false_or_eq_true (same a.arms b.arms)).symm with hc1 | hc1
  ·simp only [hc0, hc1, ty9, ty28, ty29, ty30, ty31, ty33, ty49, ty75, ty118, teq118, List.append_eq, am, seval, reduceCtorEq]
   refine (f41_spec a.names b.names _).mono fun v' s' h => ?_
   rw [h.1, h.2]; clear h v' s'
   simp only [vbool, hc0, hc1, ty9, ty28, ty29, ty30, ty31, ty33, ty49, ty75, ty118, teq118, List.append_eq, am, seval, reduceCtorEq]
   refine (h63 _).mono fun v' s' h => ?_
   rw [h.1, h.2]; clear h v' s'
   simp only [vbool, hc0, hc1, ty9, ty28, ty29, ty30, ty31, ty33, ty49, ty75, ty118, teq118, List.append_eq, am, seval, reduceCtorEq]
   refine hR2 _ ?_; clear hR2 R2
   refine AWp.ret ?_
   refine ret_intro (vs := [.base (.bool false)]) rfl (Wk.refl _) (Heap.le.refl _) ⟨?_, rfl⟩
   rw [same_of_imp (fun e => by rw [e]; simp only [beq_self_eq_true, same_self, Bool.and_self]) hc1]; rfl
  ·rcases (Bool.eq_false_or_eq_true (same a.order b.order)).symm with hc2 | hc2
   ·simp only [hc0, hc1, hc2, ty9, ty28, ty29, ty30, ty31, ty33, ty49, ty75, ty118, teq118, List.append_eq, am, seval, reduceCtorEq]
    refine (f41_spec a.names b.names _).mono fun v' s' h => ?_
    rw [h.1, h.2]; clear h v' s'
    simp only [vbool, hc0, hc1, hc2, ty9, ty28, ty29, ty30, ty31, ty33, ty49, ty75, ty118, teq118, List.append_eq, am, seval, reduceCtorEq]
    refine (h63 _).mono fun v' s' h => ?_
    rw [h.1, h.2]; clear h v' s'
    simp only [vbool, hc0, hc1, hc2, ty9, ty28, ty29, ty30, ty31, ty33, ty49, ty75, ty118, teq118, List.append_eq, am, seval, reduceCtorEq]
    refine (f65_spec a.order b.order _).mono fun v' s' h => ?_
    rw [h.1, h.2]; clear h v' s'
    simp only [vbool, hc0, hc1, hc2, ty9, ty28, ty29, ty30, ty31, ty33, ty49, ty75, ty118, teq118, List.append_eq, am, seval, reduceCtorEq]
    refine hR2 _ ?_; clear hR2 R2
    refine AWp.ret ?_
    refine ret_intro (vs := [.base (.bool false)]) rfl (Wk.refl _) (Heap.le.refl _) ⟨?_, rfl⟩
    rw [same_of_imp (fun e => by rw [e]; simp only [beq_self_eq_true, same_self, Bool.and_self]) hc2]; rfl
   ·rcases (Bool.eq_false_or_eq_true (same a.limit b.limit)).symm with hc3 | hc3
    ·simp only [hc0, hc1, hc2, hc3, ty9, ty28, ty29, ty30, ty31, ty33, ty49, ty75, ty118, teq118, List.append_eq, am, seval, reduceCtorEq]
     refine (f41_spec a.names b.names _).mono fun v' s' h => ?_
     rw [h.1, h.2]; clear h v' s'
     simp only [vbool, hc0, hc1, hc2, hc3, ty9, ty28, ty29, ty30, ty31, ty33, ty49, ty75, ty118, teq118, List.append_eq, am, seval, reduceCtorEq]
     refine (h63 _).mono fun v' s' h => ?_
     rw [h.1, h.2]; clear h v' s'
     simp only [vbool, hc0, hc1, hc2, hc3, ty9, ty28, ty29, ty30, ty31, ty33, ty49, ty75, ty118, teq118, List.append_eq, am, seval, reduceCtorEq]
     refine (f65_spec a.order b.order _).mono fun v' s' h => ?_
     rw [h.1, h.2]; clear h v' s'
     simp only [vbool, hc0, hc1, hc2, hc3, ty9, ty28, ty29, ty30, ty31, ty33, ty49, ty75, ty118, teq118, List.append_eq, am, seval, reduceCtorEq]
     refine (h1 _).mono fun v' s' h => ?_
     rw [h.1, h.2]; clear h v' s'
     simp only [vbool, hc0, hc1, hc2, hc3, ty9, ty28, ty29, ty30, ty31, ty33, ty49, ty75, ty118, teq118, List.append_eq, am, seval, reduceCtorEq]
     refine hR2 _ ?_; clear hR2 R2
     refine AWp.ret ?_
     refine ret_intro (vs := [.base (.bool false)]) rfl (Wk.refl _) (Heap.le.refl _) ⟨?_, rfl⟩
     rw [same_of_imp (fun e => by rw [e]; simp only [beq_self_eq_true, same_self, Bool.and_self]) hc3]; rfl
    ·simp only [hc0, hc1, hc2, hc3, ty9, ty28, ty29, ty30, ty31, ty33, ty49, ty75, ty118, teq118, List.append_eq, am, seval, reduceCtorEq]
     refine (f41_spec a.names b.names _).mono fun v' s' h => ?_
     rw [h.1, h.2]; clear h v' s'
     simp only [vbool, hc0, hc1, hc2, hc3, ty9, ty28, ty29, ty30, ty31, ty33, ty49, ty75, ty118, teq118, List.append_eq, am, seval, reduceCtorEq]
     refine (h63 _).mono fun v' s' h => ?_
     rw [h.1, h.2]; clear h v' s'
     simp only [vbool, hc0, hc1, hc2, hc3, ty9, ty28, ty29, ty30, ty31, ty33, ty49, ty75, ty118, teq118, List.append_eq, am, seval, reduceCtorEq]
     refine (f65_spec a.order b.order _).mono fun v' s' h => ?_
     rw [h.1, h.2]; clear h v' s'
     simp only [vbool, hc0, hc1, hc2, hc3, ty9, ty28, ty29, ty30, ty31, ty33, ty49, ty75, ty118, teq118, List.append_eq, am, seval, reduceCtorEq]
     refine (h1 _).mono fun v' s' h => ?_
     rw [h.1, h.2]; clear h v' s'
     simp only [vbool, hc0, hc1, hc2, hc3, ty9, ty28, ty29, ty30, ty31, ty33, ty49, ty75, ty118, teq118, List.append_eq, am, seval, reduceCtorEq]
     refine (h2 _).mono fun v' s' h => ?_
     rw [h.1, h.2]; clear h v' s'
     simp only [vbool, hc0, hc1, hc2, hc3, ty9, ty28, ty29, ty30, ty31, ty33, ty49, ty75, ty118, teq118, List.append_eq, am, seval, reduceCtorEq]
     refine hR2 _ ?_; clear hR2 R2
     refine AWp.ret ?_
     refine ret_intro (vs := [.base (.bool (same a.offset b.offset))]) rfl (Wk.refl _) (Heap.le.refl _) ⟨?_, rfl⟩
     rw [Query.same_last' a b hc0 hc1 hc2 hc3]; rfl
theorem From.same_last' (a b : From) (h0 : (a.join == b.join) = true) (h1 : (a.kind == b.kind) = true) (h2 : (a.name.toList == b.name.toList) = true) (h3 : (a.n == b.n) = true) (h4 : (a.width == b.width) = true) (h5 : (same a.sub b.sub) = true) : same a b = (same a.on b.on) := by
  cases a; cases b; simp only [beq_iff_eq, bytes_beq, bytes_eq, same_iff, Bool.and_eq_true] at *; try refine same_eq_of ?_
  try (rw [Bool.eq_iff_iff, same_iff, beq_iff_eq])
  simp only [From.mk.injEq]; simp_all
theorem f108_spec (a b : From) (h42 : Gives Tryz.prog 42 [.slice 5 (a.sub.map Query.v), .slice 5 (b.sub.map Query.v), .func 38 [] []] (vbool (same a.sub b.sub))) (h66 : Gives Tryz.prog 66 [.slice 14 (a.on.map Term.v), .slice 14 (b.on.map Term.v)] (vbool (same a.on b.on))) : Gives Tryz.prog 108 [.agg a.v, .agg b.v] (vbool (same a b)) := by
 intro s
 rw [From.v_eq, From.v_eq]
 refine acalls_of (fn := Tryz.f108) Tryz.func108 rfl (by decide) (by show 2 ≤ 52; decide) ?_
 rw [Tryz.ntmps108]
 refine AWp.reg fun R1 hR1 => ?_
 simp only [ty107, am, seval, reduceCtorEq]
 refine hR1 _ ?_; clear hR1 R1
 refine AWp.reg fun R2 hR2 => ?_
 rcases (Bool.eq_false_or_eq_true (a.join == b.join)).symm with hc0 | hc0
 ·simp only [hc0, ty3, ty9, ty31, ty33, ty47, ty49, ty104, ty105, ty107, List.append_eq, am, seval, reduceCtorEq]
  refine hR2 _ ?_; clear hR2 R2
  refine AWp.ret ?_
  refine ret_intro (vs := [.base (.bool false)]) rfl (Wk.refl _) (Heap.le.refl _) ⟨?_, rfl⟩
  rw [same_of_imp (fun e => by rw [e]; simp only [beq_self_eq_true, same_self, Bool.and_self]) hc0]; rfl
 ·rcases (Bool.eq_false_or_eq_true (a.kind == b.kind)).symm with hc1 | hc1
  ·simp only [hc0, hc1, ty3, ty9, ty31, ty33, ty47, ty49, ty104, ty105, ty107, List.append_eq, am, seval, reduceCtorEq]
   refine hR2 _ ?_; clear hR2 R2
   refine AWp.ret ?_
   refine ret_intro (vs := [.base (.bool false)]) rfl (Wk.refl _) (Heap.le.refl _) ⟨?_, rfl⟩
   rw [same_of_imp (fun e => by rw [e]; simp only [beq_self_eq_true, same_self, Bool.and_self]) hc1]; rfl
  ·rcases (Bool.eq_false_or_eq_true (a.name.toList == b.name.toList)).symm with hc2 | hc2
   ·simp only [hc0, hc1, hc2, ty3, ty9, ty31, ty33, ty47, ty49, ty104, ty105, ty107, List.append_eq, am, seval, reduceCtorEq]
    refine hR2 _ ?_; clear hR2 R2
    refine AWp.ret ?_
    refine ret_intro (vs := [.base (.bool false)]) rfl (Wk.refl _) (Heap.le.refl _) ⟨?_, rfl⟩
    rw [same_of_imp (fun e => by rw [e]; simp only [beq_self_eq_true, same_self, Bool.and_self]) hc2]; rfl
   ·rcases (Bool.eq_false_or_eq_true (a.n == b.n)).symm with hc3 | hc3
    ·simp only [hc0, hc1, hc2, hc3, ty3, ty9, ty31, ty33, ty47, ty49, ty104, ty105, ty107, List.append_eq, am, seval, reduceCtorEq]
     refine hR2 _ ?_; clear hR2 R2
     refine AWp.ret ?_
     refine ret_intro (vs := [.base (.bool false)]) rfl (Wk.refl _) (Heap.le.refl _) ⟨?_, rfl⟩
     rw [same_of_imp (fun e => by rw [e]; simp only [beq_self_eq_true, same_self, Bool.and_self]) hc3]; rfl
    ·rcases (Bool.eq_false_or_eq_true (a.width == b.width)).symm with hc4 | hc4
     ·simp only [hc0, hc1, hc2, hc3, hc4, ty3, ty9, ty31, ty33, ty47, ty49, ty104, ty105, ty107, List.append_eq, am, seval, reduceCtorEq]
      refine hR2 _ ?_; clear hR2 R2
      refine AWp.ret ?_
      refine ret_intro (vs := [.base (.bool false)]) rfl (Wk.refl _) (Heap.le.refl _) ⟨?_, rfl⟩
      rw [same_of_imp (fun e => by rw [e]; simp only [beq_self_eq_true, same_self, Bool.and_self]) hc4]; rfl
     ·rcases (Bool.eq_false_or_eq_true (same a.sub b.sub)).symm with hc5 | hc5
      ·simp only [hc0, hc1, hc2, hc3, hc4, hc5, ty3, ty9, ty31, ty33, ty47, ty49, ty104, ty105, ty107, List.append_eq, am, seval, reduceCtorEq]
       refine (h42 _).mono fun v' s' h => ?_
       rw [h.1, h.2]; clear h v' s'
       simp only [vbool, hc0, hc1, hc2, hc3, hc4, hc5, ty3, ty9, ty31, ty33, ty47, ty49, ty104, ty105, ty107, List.append_eq, am, seval, reduceCtorEq]
       refine hR2 _ ?_; clear hR2 R2
       refine AWp.ret ?_
       refine ret_intro (vs := [.base (.bool false)]) rfl (Wk.refl _) (Heap.le.refl _) ⟨?_, rfl⟩
       rw [same_of_imp (fun e => by rw [e]; simp only [beq_self_eq_true, same_self, Bool.and_self]) hc5]; rfl
      ·simp only [hc0, hc1, hc2, hc3, hc4, hc5, ty3, ty9, ty31, ty33, ty47, ty49, ty104, ty105, ty107, List.append_eq, am, seval, reduceCtorEq]
       refine (h42 _).mono fun v' s' h => ?_
       rw [h.1, h.2]; clear h v' s'
       simp only [vbool, hc0, hc1, hc2, hc3, hc4, hc5, ty3, ty9, ty31, ty33, ty47, ty49, ty104, ty105, ty107, List.append_eq, am, seval, reduceCtorEq]
       refine (h66 _).mono fun v' s' h => ?_
       rw [h.1, h.2]; clear h v' s'
       simp only [vbool, hc0, hc1, hc2, hc3, hc4, hc5, ty3, ty9, ty31, ty33, ty47, ty49, ty104, ty105, ty107, List.append_eq, am, seval, reduceCtorEq]
       refine hR2 _ ?_; clear hR2 R2
       refine AWp.ret ?_
       refine ret_intro (vs := [.base (.bool (same a.on b.on))]) rfl (Wk.refl _) (Heap.le.refl _) ⟨?_, rfl⟩
       rw [From.same_last' a b hc0 hc1 hc2 hc3 hc4 hc5]; rfl
theorem Agg.same_last' (a b : Agg) (h0 : (a.name.toList == b.name.toList) = true) (h1 : (a.distinct == b.distinct) = true) (h2 : (a.star == b.star) = true) (h3 : (a.coll == b.coll) = true) : same a b = (same a.arg b.arg) := by
  cases a; cases b; simp only [beq_iff_eq, bytes_beq, bytes_eq, same_iff, Bool.and_eq_true] at *; try refine same_eq_of ?_
  try (rw [Bool.eq_iff_iff, same_iff, beq_iff_eq])
  simp only [Agg.mk.injEq]; simp_all
theorem f110_spec (a b : Agg) (h66 : Gives Tryz.prog 66 [.slice 14 (a.arg.map Term.v), .slice 14 (b.arg.map Term.v)] (vbool (same a.arg b.arg))) : Gives Tryz.prog 110 [.agg a.v, .agg b.v] (vbool (same a b)) := by
 intro s
 rw [Agg.v_eq, Agg.v_eq]
 refine acalls_of (fn := Tryz.f110) Tryz.func110 rfl (by decide) (by show 2 ≤ 38; decide) ?_
 rw [Tryz.ntmps110]
 refine AWp.reg fun R1 hR1 => ?_
 simp only [ty130, am, seval, reduceCtorEq]
 refine hR1 _ ?_; clear hR1 R1
 refine AWp.reg fun R2 hR2 => ?_
 rcases (Bool.eq_false_or_eq_true (a.name.toList == b.name.toList)).symm with hc0 | hc0
 ·simp only [hc0, ty4, ty9, ty31, ty45, ty49, ty130, List.append_eq, am, seval, reduceCtorEq]
  refine hR2 _ ?_; clear hR2 R2
  refine AWp.ret ?_
  refine ret_intro (vs := [.base (.bool false)]) rfl (Wk.refl _) (Heap.le.refl _) ⟨?_, rfl⟩
  rw [same_of_imp (fun e => by rw [e]; simp only [beq_self_eq_true, same_self, Bool.and_self]) hc0]; rfl
 ·rcases (Bool.eq_false_or_eq_true (a.distinct == b.distinct)).symm with hc1 | hc1
  ·simp only [hc0, hc1, ty4, ty9, ty31, ty45, ty49, ty130, List.append_eq, am, seval, reduceCtorEq]
   refine hR2 _ ?_; clear hR2 R2
   refine AWp.ret ?_
   refine ret_intro (vs := [.base (.bool false)]) rfl (Wk.refl _) (Heap.le.refl _) ⟨?_, rfl⟩
   rw [same_of_imp (fun e => by rw [e]; simp only [beq_self_eq_true, same_self, Bool.and_self]) hc1]; rfl
  ·rcases (Bool.eq_false_or_eq_true (a.star == b.star)).symm with hc2 | hc2
   ·simp only [hc0, hc1, hc2, ty4, ty9, ty31, ty45, ty49, ty130, List.append_eq, am, seval, reduceCtorEq]
    refine hR2 _ ?_; clear hR2 R2
    refine AWp.ret ?_
    refine ret_intro (vs := [.base (.bool false)]) rfl (Wk.refl _) (Heap.le.refl _) ⟨?_, rfl⟩
    rw [same_of_imp (fun e => by rw [e]; simp only [beq_self_eq_true, same_self, Bool.and_self]) hc2]; rfl
   ·rcases (Bool.eq_false_or_eq_true (a.coll == b.coll)).symm with hc3 | hc3
    ·simp only [hc0, hc1, hc2, hc3, ty4, ty9, ty31, ty45, ty49, ty130, List.append_eq, am, seval, reduceCtorEq]
     refine hR2 _ ?_; clear hR2 R2
     refine AWp.ret ?_
     refine ret_intro (vs := [.base (.bool false)]) rfl (Wk.refl _) (Heap.le.refl _) ⟨?_, rfl⟩
     rw [same_of_imp (fun e => by rw [e]; simp only [beq_self_eq_true, same_self, Bool.and_self]) hc3]; rfl
    ·simp only [hc0, hc1, hc2, hc3, ty4, ty9, ty31, ty45, ty49, ty130, List.append_eq, am, seval, reduceCtorEq]
     refine (h66 _).mono fun v' s' h => ?_
     rw [h.1, h.2]; clear h v' s'
     simp only [vbool, hc0, hc1, hc2, hc3, ty4, ty9, ty31, ty45, ty49, ty130, List.append_eq, am, seval, reduceCtorEq]
     refine hR2 _ ?_; clear hR2 R2
     refine AWp.ret ?_
     refine ret_intro (vs := [.base (.bool (same a.arg b.arg))]) rfl (Wk.refl _) (Heap.le.refl _) ⟨?_, rfl⟩
     rw [Agg.same_last' a b hc0 hc1 hc2 hc3]; rfl
theorem Step.same_last' (a b : Step) (h0 : (a.frm == b.frm) = true) (h1 : (same a.whr b.whr) = true) (h2 : (a.kind == b.kind) = true) (h3 : (a.index.toList == b.index.toList) = true) (h4 : (same a.eq b.eq) = true) (h5 : (same a.low b.low) = true) : same a b = (same a.high b.high) := by
  cases a; cases b; simp only [beq_iff_eq, bytes_beq, bytes_eq, same_iff, Bool.and_eq_true] at *; try refine same_eq_of ?_
  try (rw [Bool.eq_iff_iff, same_iff, beq_iff_eq])
  simp only [Step.mk.injEq]; simp_all
theorem f112_spec (a b : Step) (h66 : Gives Tryz.prog 66 [.slice 14 (a.eq.map Term.v), .slice 14 (b.eq.map Term.v)] (vbool (same a.eq b.eq))) (hl : Gives Tryz.prog 114 [.slice 15 (a.low.map Bound.v), .slice 15 (b.low.map Bound.v)] (vbool (same a.low b.low))) (hh : Gives Tryz.prog 114 [.slice 15 (a.high.map Bound.v), .slice 15 (b.high.map Bound.v)] (vbool (same a.high b.high))) : Gives Tryz.prog 112 [.agg a.v, .agg b.v] (vbool (same a b)) := by
 intro s
 rw [Step.v_eq, Step.v_eq]
 refine acalls_of (fn := Tryz.f112) Tryz.func112 rfl (by decide) (by show 2 ≤ 62; decide) ?_
 rw [Tryz.ntmps112]
 refine AWp.reg fun R1 hR1 => ?_
 simp only [ty68, am, seval, reduceCtorEq]
 refine hR1 _ ?_; clear hR1 R1
 refine AWp.reg fun R2 hR2 => ?_
 rcases (Bool.eq_false_or_eq_true (a.frm == b.frm)).symm with hc0 | hc0
 ·simp only [hc0, ty3, ty9, ty31, ty49, ty50, ty63, ty64, ty66, ty68, ty132, List.append_eq, am, seval, reduceCtorEq]
  refine hR2 _ ?_; clear hR2 R2
  refine AWp.ret ?_
  refine ret_intro (vs := [.base (.bool false)]) rfl (Wk.refl _) (Heap.le.refl _) ⟨?_, rfl⟩
  rw [same_of_imp (fun e => by rw [e]; simp only [beq_self_eq_true, same_self, Bool.and_self]) hc0]; rfl
 ·rcases (Bool.eq_false_or_eq_true (same a.whr b.whr)).symm with hc1 | hc1
  ·simp only [hc0, hc1, ty3, ty9, ty31, ty49, ty50, ty63, ty64, ty66, ty68, ty132, List.append_eq, am, seval, reduceCtorEq]
   refine (f113_spec a.whr b.whr _).mono fun v' s' h => ?_
   rw [h.1, h.2]; clear h v' s'
   simp only [vbool, hc0, hc1, ty3, ty9, ty31, ty49, ty50, ty63, ty64, ty66, ty68, ty132, List.append_eq, am, seval, reduceCtorEq]
   refine hR2 _ ?_; clear hR2 R2
   refine AWp.ret ?_
   refine ret_intro (vs := [.base (.bool false)]) rfl (Wk.refl _) (Heap.le.refl _) ⟨?_, rfl⟩
   rw [same_of_imp (fun e => by rw [e]; simp only [beq_self_eq_true, same_self, Bool.and_self]) hc1]; rfl
  ·rcases (Bool.eq_false_or_eq_true (a.kind == b.kind)).symm with hc2 | hc2
   ·simp only [hc0, hc1, hc2, ty3, ty9, ty31, ty49, ty50, ty63, ty64, ty66, ty68, ty132, List.append_eq, am, seval, reduceCtorEq]
    refine (f113_spec a.whr b.whr _).mono fun v' s' h => ?_
    rw [h.1, h.2]; clear h v' s'
    simp only [vbool, hc0, hc1, hc2, ty3, ty9, ty31, ty49, ty50, ty63, ty64, ty66, ty68, ty132, List.append_eq, am, seval, reduceCtorEq]
    refine hR2 _ ?_; clear hR2 R2
    refine AWp.ret ?_
    refine ret_intro (vs := [.base (.bool false)]) rfl (Wk.refl _) (Heap.le.refl _) ⟨?_, rfl⟩
    rw [same_of_imp (fun e => by rw [e]; simp only [beq_self_eq_true, same_self, Bool.and_self]) hc2]; rfl
   ·rcases (Bool.eq_false_or_eq_true (a.index.toList == b.index.toList)).symm with hc3 | hc3
    ·simp only [hc0, hc1, hc2, hc3, ty3, ty9, ty31, ty49, ty50, ty63, ty64, ty66, ty68, ty132, List.append_eq, am, seval, reduceCtorEq]
     refine (f113_spec a.whr b.whr _).mono fun v' s' h => ?_
     rw [h.1, h.2]; clear h v' s'
     simp only [vbool, hc0, hc1, hc2, hc3, ty3, ty9, ty31, ty49, ty50, ty63, ty64, ty66, ty68, ty132, List.append_eq, am, seval, reduceCtorEq]
     refine hR2 _ ?_; clear hR2 R2
     refine AWp.ret ?_
     refine ret_intro (vs := [.base (.bool false)]) rfl (Wk.refl _) (Heap.le.refl _) ⟨?_, rfl⟩
     rw [same_of_imp (fun e => by rw [e]; simp only [beq_self_eq_true, same_self, Bool.and_self]) hc3]; rfl
    ·rcases (Bool.eq_false_or_eq_true (same a.eq b.eq)).symm with hc4 | hc4
     ·simp only [hc0, hc1, hc2, hc3, hc4, ty3, ty9, ty31, ty49, ty50, ty63, ty64, ty66, ty68, ty132, List.append_eq, am, seval, reduceCtorEq]
      refine (f113_spec a.whr b.whr _).mono fun v' s' h => ?_
      rw [h.1, h.2]; clear h v' s'
      simp only [vbool, hc0, hc1, hc2, hc3, hc4, ty3, ty9, ty31, ty49, ty50, ty63, ty64, ty66, ty68, ty132, List.append_eq, am, seval, reduceCtorEq]
      refine (h66 _).mono fun v' s' h => ?_
      rw [h.1, h.2]; clear h v' s'
      simp only [vbool, hc0, hc1, hc2, hc3, hc4, ty3, ty9, ty31, ty49, ty50, ty63, ty64, ty66, ty68, ty132, List.append_eq, am, seval, reduceCtorEq]
      refine hR2 _ ?_; clear hR2 R2
      refine AWp.ret ?_
      refine ret_intro (vs := [.base (.bool false)]) rfl (Wk.refl _) (Heap.le.refl _) ⟨?_, rfl⟩
      rw [same_of_imp (fun e => by rw [e]; simp only [beq_self_eq_true, same_self, Bool.and_self]) hc4]; rfl
     ·rcases (Bool.eq_false_or_eq_true (same a.low b.low)).symm with hc5 | hc5
      ·simp only [hc0, hc1, hc2, hc3, hc4, hc5, ty3, ty9, ty31, ty49, ty50, ty63, ty64, ty66, ty68, ty132, List.append_eq, am, seval, reduceCtorEq]
       refine (f113_spec a.whr b.whr _).mono fun v' s' h => ?_
       rw [h.1, h.2]; clear h v' s'
       simp only [vbool, hc0, hc1, hc2, hc3, hc4, hc5, ty3, ty9, ty31, ty49, ty50, ty63, ty64, ty66, ty68, ty132, List.append_eq, am, seval, reduceCtorEq]
       refine (h66 _).mono fun v' s' h => ?_
       rw [h.1, h.2]; clear h v' s'
       simp only [vbool, hc0, hc1, hc2, hc3, hc4, hc5, ty3, ty9, ty31, ty49, ty50, ty63, ty64, ty66, ty68, ty132, List.append_eq, am, seval, reduceCtorEq]
       refine (hl _).mono fun v' s' h => ?_
       rw [h.1, h.2]; clear h v' s'
       simp only [vbool, hc0, hc1, hc2, hc3, hc4, hc5, ty3, ty9, ty31, ty49, ty50, ty63, ty64, ty66, ty68, ty132, List.append_eq, am, seval, reduceCtorEq]
       refine hR2 _ ?_; clear hR2 R2
       refine AWp.ret ?_
       refine ret_intro (vs := [.base (.bool false)]) rfl (Wk.refl _) (Heap.le.refl _) ⟨?_, rfl⟩
       rw [same_of_imp (fun e => by rw [e]; simp only [beq_self_eq_true, same_self, Bool.and_self]) hc5]; rfl
      ·simp only [hc0, hc1, hc2, hc3, hc4, hc5, ty3, ty9, ty31, ty49, ty50, ty63, ty64, ty66, ty68, ty132, List.append_eq, am, seval, reduceCtorEq]
       refine (f113_spec a.whr b.whr _).mono fun v' s' h => ?_
       rw [h.1, h.2]; clear h v' s'
       simp only [vbool, hc0, hc1, hc2, hc3, hc4, hc5, ty3, ty9, ty31, ty49, ty50, ty63, ty64, ty66, ty68, ty132, List.append_eq, am, seval, reduceCtorEq]
       refine (h66 _).mono fun v' s' h => ?_
       rw [h.1, h.2]; clear h v' s'
       simp only [vbool, hc0, hc1, hc2, hc3, hc4, hc5, ty3, ty9, ty31, ty49, ty50, ty63, ty64, ty66, ty68, ty132, List.append_eq, am, seval, reduceCtorEq]
       refine (hl _).mono fun v' s' h => ?_
       rw [h.1, h.2]; clear h v' s'
       simp only [vbool, hc0, hc1, hc2, hc3, hc4, hc5, ty3, ty9, ty31, ty49, ty50, ty63, ty64, ty66, ty68, ty132, List.append_eq, am, seval, reduceCtorEq]
       refine (hh _).mono fun v' s' h => ?_
       rw [h.1, h.2]; clear h v' s'
       simp only [vbool, hc0, hc1, hc2, hc3, hc4, hc5, ty3, ty9, ty31, ty49, ty50, ty63, ty64, ty66, ty68, ty132, List.append_eq, am, seval, reduceCtorEq]
       refine hR2 _ ?_; clear hR2 R2
       refine AWp.ret ?_
       refine ret_intro (vs := [.base (.bool (same a.high b.high))]) rfl (Wk.refl _) (Heap.le.refl _) ⟨?_, rfl⟩
       rw [Step.same_last' a b hc0 hc1 hc2 hc3 hc4 hc5]; rfl
theorem Bound.same_last' (a b : Bound) (h0 : (a.opn == b.opn) = true) : same a b = (same a.term b.term) := by
  cases a; cases b; simp only [beq_iff_eq, bytes_beq, bytes_eq, same_iff, Bool.and_eq_true] at *; try refine same_eq_of ?_
  try (rw [Bool.eq_iff_iff, same_iff, beq_iff_eq])
  simp only [Bound.mk.injEq]; simp_all
theorem f146_spec (a b : Bound) (h116 : Gives Tryz.prog 116 [.agg a.term.v, .agg b.term.v] (vbool (same a.term b.term))) : Gives Tryz.prog 146 [.agg a.v, .agg b.v] (vbool (same a b)) := by
 intro s
 rw [Bound.v_flat, Bound.v_flat]
 refine acalls_of (fn := Tryz.f146) Tryz.func146 rfl (by decide) (by show 2 ≤ 17; decide) ?_
 rw [Tryz.ntmps146]
 refine AWp.reg fun R1 hR1 => ?_
 simp only [ty132, am, seval, reduceCtorEq]
 refine hR1 _ ?_; clear hR1 R1
 refine AWp.reg fun R2 hR2 => ?_
 rcases (Bool.eq_false_or_eq_true (a.opn == b.opn)).symm with hc0 | hc0
 ·simp only [hc0, ty4, ty49, ty132, am, seval, reduceCtorEq]
  refine hR2 _ ?_; clear hR2 R2
  refine AWp.ret ?_
  refine ret_intro (vs := [.base (.bool false)]) rfl (Wk.refl _) (Heap.le.refl _) ⟨?_, rfl⟩
  rw [same_of_imp (fun e => by rw [e]; simp only [beq_self_eq_true, same_self, Bool.and_self]) hc0]; rfl
 ·simp only [hc0, ty4, ty49, ty132, am, seval, reduceCtorEq]
  rw [← Term.v_eq, ← Term.v_eq]
  refine (h116 _).mono fun v' s' h => ?_
  rw [h.1, h.2]; clear h v' s'
  simp only [vbool, hc0, ty4, ty49, ty132, am, seval, reduceCtorEq]
  refine hR2 _ ?_; clear hR2 R2
  refine AWp.ret ?_
  refine ret_intro (vs := [.base (.bool (same a.term b.term))]) rfl (Wk.refl _) (Heap.le.refl _) ⟨?_, rfl⟩
  rw [Bound.same_last' a b hc0]; rfl
end Go.Proofs.YtcckhbconihagaaGreatDoor
set_option linter.unusedSimpArgs false
set_option linter.unusedVariables false
set_option maxRecDepth 100000
namespace Go.Proofs.YtcckhbconihagaaGreatDoor
open Go.Am Go.Pl
theorem Arm.same_last' (a b : Arm) (h0 : (a.comp == b.comp) = true) (h1 : (a.distinct == b.distinct) = true) (h2 : (a.values == b.values) = true) (h3 : (a.grouped == b.grouped) = true) (h4 : (same a.rows b.rows) = true) (h5 : (same a.whr b.whr) = true) (h6 : (same a.group b.group) = true) (h7 : (same a.having b.having) = true) (h8 : (same a.out b.out) = true) (h9 : (same a.extra b.extra) = true) (h10 : (same a.frm b.frm) = true) (h11 : (same a.aggs b.aggs) = true) : same a b = (same a.steps b.steps) := by
  cases a; cases b; simp only [beq_iff_eq, bytes_beq, bytes_eq, same_iff, Bool.and_eq_true] at *; try refine same_eq_of ?_
  try (rw [Bool.eq_iff_iff, same_iff, beq_iff_eq])
  simp only [Arm.mk.injEq]; simp_all
set_option maxHeartbeats 1000000 in
theorem f64_spec (a b : Arm) (h106 : Gives Tryz.prog 106 [.slice 1 (a.rows.map fun l => [.slice 14 (l.map Term.v)]), .slice 1 (b.rows.map fun l => [.slice 14 (l.map Term.v)]), .func 66 [] []] (vbool (same a.rows b.rows))) (h_whr : Gives Tryz.prog 66 [.slice 14 (a.whr.map Term.v), .slice 14 (b.whr.map Term.v)] (vbool (same a.whr b.whr))) (h_group : Gives Tryz.prog 66 [.slice 14 (a.group.map Term.v), .slice 14 (b.group.map Term.v)] (vbool (same a.group b.group))) (h_having : Gives Tryz.prog 66 [.slice 14 (a.having.map Term.v), .slice 14 (b.having.map Term.v)] (vbool (same a.having b.having))) (h_out : Gives Tryz.prog 66 [.slice 14 (a.out.map Term.v), .slice 14 (b.out.map Term.v)] (vbool (same a.out b.out))) (h_extra : Gives Tryz.prog 66 [.slice 14 (a.extra.map Term.v), .slice 14 (b.extra.map Term.v)] (vbool (same a.extra b.extra))) (h107 : Gives Tryz.prog 107 [.slice 7 (a.frm.map From.v), .slice 7 (b.frm.map From.v), .func 108 [] []] (vbool (same a.frm b.frm))) (h109 : Gives Tryz.prog 109 [.slice 5 (a.aggs.map Agg.v), .slice 5 (b.aggs.map Agg.v), .func 110 [] []] (vbool (same a.aggs b.aggs))) (h111 : Gives Tryz.prog 111 [.slice 7 (a.steps.map Step.v), .slice 7 (b.steps.map Step.v), .func 112 [] []] (vbool (same a.steps b.steps))) : Gives Tryz.prog 64 [.agg a.v, .agg b.v] (vbool (same a b)) := by
 intro s
 rw [Arm.v_eq, Arm.v_eq]
 refine acalls_of (fn := Tryz.f64) Tryz.func64 rfl (by decide) (by show 2 ≤ 94; decide) ?_
 rw [Tryz.ntmps64]
 refine AWp.reg fun R1 hR1 => ?_
 simp only [ty75, am, seval, reduceCtorEq]
 refine hR1 _ ?_; clear hR1 R1
 refine AWp.reg fun R2 hR2 => ?_
 rcases (Bool.eq_false_or_eq_true (a.comp == b.comp)).symm with hc0 | hc0
 ·simp only [hc0, ty4, ty31, ty49, ty68, ty69, ty70, ty71, ty72, ty73, ty75, ty107, ty130, List.append_eq, am, seval, reduceCtorEq]
  refine hR2 _ ?_; clear hR2 R2
  refine AWp.ret ?_
  refine ret_intro (vs := [.base (.bool false)]) rfl (Wk.refl _) (Heap.le.refl _) ⟨?_, rfl⟩
  rw [same_of_imp (fun e => by rw [e]; simp only [beq_self_eq_true, same_self, Bool.and_self]) hc0]; rfl
 ·rcases (Bool.eq_false_or_eq_true (a.distinct == b.distinct)).symm with hc1 | hc1
  ·simp only [hc0, hc1, ty4, ty31, ty49, ty68, ty69, ty70, ty71, ty72, ty73, ty75, ty107, ty130, List.append_eq, am, seval, reduceCtorEq]
   refine hR2 _ ?_; clear hR2 R2
   refine AWp.ret ?_
   refine ret_intro (vs := [.base (.bool false)]) rfl (Wk.refl _) (Heap.le.refl _) ⟨?_, rfl⟩
   rw [same_of_imp (fun e => by rw [e]; simp only [beq_self_eq_true, same_self, Bool.and_self]) hc1]; rfl
  ·rcases (Bool.eq_false_or_eq_true (a.values == b.values)).symm with hc2 | hc2
   ·simp only [hc0, hc1, hc2, ty4, ty31, ty49, ty68, ty69, ty70, ty71, ty72, ty73, ty75, ty107, ty130, List.append_eq, am, seval, reduceCtorEq]
    refine hR2 _ ?_; clear hR2 R2
    refine AWp.ret ?_
    refine ret_intro (vs := [.base (.bool false)]) rfl (Wk.refl _) (Heap.le.refl _) ⟨?_, rfl⟩
    rw [same_of_imp (fun e => by rw [e]; simp only [beq_self_eq_true, same_self, Bool.and_self]) hc2]; rfl
   ·rcases (Bool.eq_false_or_eq_true (a.grouped == b.grouped)).symm with hc3 | hc3
    ·simp only [hc0, hc1, hc2, hc3, ty4, ty31, ty49, ty68, ty69, ty70, ty71, ty72, ty73, ty75, ty107, ty130, List.append_eq, am, seval, reduceCtorEq]
     refine hR2 _ ?_; clear hR2 R2
     refine AWp.ret ?_
     refine ret_intro (vs := [.base (.bool false)]) rfl (Wk.refl _) (Heap.le.refl _) ⟨?_, rfl⟩
     rw [same_of_imp (fun e => by rw [e]; simp only [beq_self_eq_true, same_self, Bool.and_self]) hc3]; rfl
    ·rcases (Bool.eq_false_or_eq_true (same a.rows b.rows)).symm with hc4 | hc4
     ·simp only [hc0, hc1, hc2, hc3, hc4, ty4, ty31, ty49, ty68, ty69, ty70, ty71, ty72, ty73, ty75, ty107, ty130, List.append_eq, am, seval, reduceCtorEq]
      refine (h106 _).mono fun v' s' h => ?_
      rw [h.1, h.2]; clear h v' s'
      simp only [vbool, hc0, hc1, hc2, hc3, hc4, ty4, ty31, ty49, ty68, ty69, ty70, ty71, ty72, ty73, ty75, ty107, ty130, List.append_eq, am, seval, reduceCtorEq]
      refine hR2 _ ?_; clear hR2 R2
      refine AWp.ret ?_
      refine ret_intro (vs := [.base (.bool false)]) rfl (Wk.refl _) (Heap.le.refl _) ⟨?_, rfl⟩
      rw [same_of_imp (fun e => by rw [e]; simp only [beq_self_eq_true, same_self, Bool.and_self]) hc4]; rfl
     ·rcases (Bool.eq_false_or_eq_true (same a.whr b.whr)).symm with hc5 | hc5
      ·simp only [hc0, hc1, hc2, hc3, hc4, hc5, ty4, ty31, ty49, ty68, ty69, ty70, ty71, ty72, ty73, ty75, ty107, ty130, List.append_eq, am, seval, reduceCtorEq]
       refine (h106 _).mono fun v' s' h => ?_
       rw [h.1, h.2]; clear h v' s'
       simp only [vbool, hc0, hc1, hc2, hc3, hc4, hc5, ty4, ty31, ty49, ty68, ty69, ty70, ty71, ty72, ty73, ty75, ty107, ty130, List.append_eq, am, seval, reduceCtorEq]
       refine (h_whr _).mono fun v' s' h => ?_
       rw [h.1, h.2]; clear h v' s'
       simp only [vbool, hc0, hc1, hc2, hc3, hc4, hc5, ty4, ty31, ty49, ty68, ty69, ty70, ty71, ty72, ty73, ty75, ty107, ty130, List.append_eq, am, seval, reduceCtorEq]
       refine hR2 _ ?_; clear hR2 R2
       refine AWp.ret ?_
       refine ret_intro (vs := [.base (.bool false)]) rfl (Wk.refl _) (Heap.le.refl _) ⟨?_, rfl⟩
       rw [same_of_imp (fun e => by rw [e]; simp only [beq_self_eq_true, same_self, Bool.and_self]) hc5]; rfl
      ·rcases (Bool.eq_false_or_eq_true (same a.group b.group)).symm with hc6 | hc6
       ·simp only [hc0, hc1, hc2, hc3, hc4, hc5, hc6, ty4, ty31, ty49, ty68, ty69, ty70, ty71, ty72, ty73, ty75, ty107, ty130, List.append_eq, am, seval, reduceCtorEq]
        refine (h106 _).mono fun v' s' h => ?_
        rw [h.1, h.2]; clear h v' s'
        simp only [vbool, hc0, hc1, hc2, hc3, hc4, hc5, hc6, ty4, ty31, ty49, ty68, ty69, ty70, ty71, ty72, ty73, ty75, ty107, ty130, List.append_eq, am, seval, reduceCtorEq]
        refine (h_whr _).mono fun v' s' h => ?_
        rw [h.1, h.2]; clear h v' s'
        simp only [vbool, hc0, hc1, hc2, hc3, hc4, hc5, hc6, ty4, ty31, ty49, ty68, ty69, ty70, ty71, ty72, ty73, ty75, ty107, ty130, List.append_eq, am, seval, reduceCtorEq]
        refine (h_group _).mono fun v' s' h => ?_
        rw [h.1, h.2]; clear h v' s'
        simp only [vbool, hc0, hc1, hc2, hc3, hc4, hc5, hc6, ty4, ty31, ty49, ty68, ty69, ty70, ty71, ty72, ty73, ty75, ty107, ty130, List.append_eq, am, seval, reduceCtorEq]
        refine hR2 _ ?_; clear hR2 R2
        refine AWp.ret ?_
        refine ret_intro (vs := [.base (.bool false)]) rfl (Wk.refl _) (Heap.le.refl _) ⟨?_, rfl⟩
        rw [same_of_imp (fun e => by rw [e]; simp only [beq_self_eq_true, same_self, Bool.and_self]) hc6]; rfl
       ·rcases (Bool.eq_false_or_eq_true (same a.having b.having)).symm with hc7 | hc7
        ·simp only [hc0, hc1, hc2, hc3, hc4, hc5, hc6, hc7, ty4, ty31, ty49, ty68, ty69, ty70, ty71, ty72, ty73, ty75, ty107, ty130, List.append_eq, am, seval, reduceCtorEq]
         refine (h106 _).mono fun v' s' h => ?_
         rw [h.1, h.2]; clear h v' s'
         simp only [vbool, hc0, hc1, hc2, hc3, hc4, hc5, hc6, hc7, ty4, ty31, ty49, ty68, ty69, ty70, ty71, ty72, ty73, ty75, ty107, ty130, List.append_eq, am, seval, reduceCtorEq]
         refine (h_whr _).mono fun v' s' h => ?_
         rw [h.1, h.2]; clear h v' s'
         simp only [vbool, hc0, hc1, hc2, hc3, hc4, hc5, hc6, hc7, ty4, ty31, ty49, ty68, ty69, ty70, ty71, ty72, ty73, ty75, ty107, ty130, List.append_eq, am, seval, reduceCtorEq]
         refine (h_group _).mono fun v' s' h => ?_
         rw [h.1, h.2]; clear h v' s'
         simp only [vbool, hc0, hc1, hc2, hc3, hc4, hc5, hc6, hc7, ty4, ty31, ty49, ty68, ty69, ty70, ty71, ty72, ty73, ty75, ty107, ty130, List.append_eq, am, seval, reduceCtorEq]
         refine (h_having _).mono fun v' s' h => ?_
         rw [h.1, h.2]; clear h v' s'
         simp only [vbool, hc0, hc1, hc2, hc3, hc4, hc5, hc6, hc7, ty4, ty31, ty49, ty68, ty69, ty70, ty71, ty72, ty73, ty75, ty107, ty130, List.append_eq, am, seval, reduceCtorEq]
         refine hR2 _ ?_; clear hR2 R2
         refine AWp.ret ?_
         refine ret_intro (vs := [.base (.bool false)]) rfl (Wk.refl _) (Heap.le.refl _) ⟨?_, rfl⟩
         rw [same_of_imp (fun e => by rw [e]; simp only [beq_self_eq_true, same_self, Bool.and_self]) hc7]; rfl
        ·rcases (Bool.eq_false_or_eq_true (same a.out b.out)).symm with hc8 | hc8
         ·simp only [hc0, hc1, hc2, hc3, hc4, hc5, hc6, hc7, hc8, ty4, ty31, ty49, ty68, ty69, ty70, ty71, ty72, ty73, ty75, ty107, ty130, List.append_eq, am, seval, reduceCtorEq]
          refine (h106 _).mono fun v' s' h => ?_
          rw [h.1, h.2]; clear h v' s'
          simp only [vbool, hc0, hc1, hc2, hc3, hc4, hc5, hc6, hc7, hc8, ty4, ty31, ty49, ty68, ty69, ty70, ty71, ty72, ty73, ty75, ty107, ty130, List.append_eq, am, seval, reduceCtorEq]
          refine (h_whr _).mono fun v' s' h => ?_
          rw [h.1, h.2]; clear h v' s'
          simp only [vbool, hc0, hc1, hc2, hc3, hc4, hc5, hc6, hc7, hc8, ty4, ty31, ty49, ty68, ty69, ty70, ty71, ty72, ty73, ty75, ty107, ty130, List.append_eq, am, seval, reduceCtorEq]
          refine (h_group _).mono fun v' s' h => ?_
          rw [h.1, h.2]; clear h v' s'
          simp only [vbool, hc0, hc1, hc2, hc3, hc4, hc5, hc6, hc7, hc8, ty4, ty31, ty49, ty68, ty69, ty70, ty71, ty72, ty73, ty75, ty107, ty130, List.append_eq, am, seval, reduceCtorEq]
          refine (h_having _).mono fun v' s' h => ?_
          rw [h.1, h.2]; clear h v' s'
          simp only [vbool, hc0, hc1, hc2, hc3, hc4, hc5, hc6, hc7, hc8, ty4, ty31, ty49, ty68, ty69, ty70, ty71, ty72, ty73, ty75, ty107, ty130, List.append_eq, am, seval, reduceCtorEq]
          refine (h_out _).mono fun v' s' h => ?_
          rw [h.1, h.2]; clear h v' s'
          simp only [vbool, hc0, hc1, hc2, hc3, hc4, hc5, hc6, hc7, hc8, ty4, ty31, ty49, ty68, ty69, ty70, ty71, ty72, ty73, ty75, ty107, ty130, List.append_eq, am, seval, reduceCtorEq]
          refine hR2 _ ?_; clear hR2 R2
          refine AWp.ret ?_
          refine ret_intro (vs := [.base (.bool false)]) rfl (Wk.refl _) (Heap.le.refl _) ⟨?_, rfl⟩
          rw [same_of_imp (fun e => by rw [e]; simp only [beq_self_eq_true, same_self, Bool.and_self]) hc8]; rfl
         ·rcases (Bool.eq_false_or_eq_true (same a.extra b.extra)).symm with hc9 | hc9
          ·simp only [hc0, hc1, hc2, hc3, hc4, hc5, hc6, hc7, hc8, hc9, ty4, ty31, ty49, ty68, ty69, ty70, ty71, ty72, ty73, ty75, ty107, ty130, List.append_eq, am, seval, reduceCtorEq]
           refine (h106 _).mono fun v' s' h => ?_
           rw [h.1, h.2]; clear h v' s'
           simp only [vbool, hc0, hc1, hc2, hc3, hc4, hc5, hc6, hc7, hc8, hc9, ty4, ty31, ty49, ty68, ty69, ty70, ty71, ty72, ty73, ty75, ty107, ty130, List.append_eq, am, seval, reduceCtorEq]
           refine (h_whr _).mono fun v' s' h => ?_
           rw [h.1, h.2]; clear h v' s'
           simp only [vbool, hc0, hc1, hc2, hc3, hc4, hc5, hc6, hc7, hc8, hc9, ty4, ty31, ty49, ty68, ty69, ty70, ty71, ty72, ty73, ty75, ty107, ty130, List.append_eq, am, seval, reduceCtorEq]
           refine (h_group _).mono fun v' s' h => ?_
           rw [h.1, h.2]; clear h v' s'
           simp only [vbool, hc0, hc1, hc2, hc3, hc4, hc5, hc6, hc7, hc8, hc9, ty4, ty31, ty49, ty68, ty69, ty70, ty71, ty72, ty73, ty75, ty107, ty130, List.append_eq, am, seval, reduceCtorEq]
           refine (h_having _).mono fun v' s' h => ?_
           rw [h.1, h.2]; clear h v' s'
           simp only [vbool, hc0, hc1, hc2, hc3, hc4, hc5, hc6, hc7, hc8, hc9, ty4, ty31, ty49, ty68, ty69, ty70, ty71, ty72, ty73, ty75, ty107, ty130, List.append_eq, am, seval, reduceCtorEq]
           refine (h_out _).mono fun v' s' h => ?_
           rw [h.1, h.2]; clear h v' s'
           simp only [vbool, hc0, hc1, hc2, hc3, hc4, hc5, hc6, hc7, hc8, hc9, ty4, ty31, ty49, ty68, ty69, ty70, ty71, ty72, ty73, ty75, ty107, ty130, List.append_eq, am, seval, reduceCtorEq]
           refine (h_extra _).mono fun v' s' h => ?_
           rw [h.1, h.2]; clear h v' s'
           simp only [vbool, hc0, hc1, hc2, hc3, hc4, hc5, hc6, hc7, hc8, hc9, ty4, ty31, ty49, ty68, ty69, ty70, ty71, ty72, ty73, ty75, ty107, ty130, List.append_eq, am, seval, reduceCtorEq]
           refine hR2 _ ?_; clear hR2 R2
           refine AWp.ret ?_
           refine ret_intro (vs := [.base (.bool false)]) rfl (Wk.refl _) (Heap.le.refl _) ⟨?_, rfl⟩
           rw [same_of_imp (fun e => by rw [e]; simp only [beq_self_eq_true, same_self, Bool.and_self]) hc9]; rfl
          ·rcases (Bool.eq_false_or_eq_true (same a.frm b.frm)).symm with hc10 | hc10
           ·simp only [hc0, hc1, hc2, hc3, hc4, hc5, hc6, hc7, hc8, hc9, hc10, ty4, ty31, ty49, ty68, ty69, ty70, ty71, ty72, ty73, ty75, ty107, ty130, List.append_eq, am, seval, reduceCtorEq]
            refine (h106 _).mono fun v' s' h => ?_
            rw [h.1, h.2]; clear h v' s'
            simp only [vbool, hc0, hc1, hc2, hc3, hc4, hc5, hc6, hc7, hc8, hc9, hc10, ty4, ty31, ty49, ty68, ty69, ty70, ty71, ty72, ty73, ty75, ty107, ty130, List.append_eq, am, seval, reduceCtorEq]
            refine (h_whr _).mono fun v' s' h => ?_
            rw [h.1, h.2]; clear h v' s'
            simp only [vbool, hc0, hc1, hc2, hc3, hc4, hc5, hc6, hc7, hc8, hc9, hc10, ty4, ty31, ty49, ty68, ty69, ty70, ty71, ty72, ty73, ty75, ty107, ty130, List.append_eq, am, seval, reduceCtorEq]
            refine (h_group _).mono fun v' s' h => ?_
            rw [h.1, h.2]; clear h v' s'
            simp only [vbool, hc0, hc1, hc2, hc3, hc4, hc5, hc6, hc7, hc8, hc9, hc10, ty4, ty31, ty49, ty68, ty69, ty70, ty71, ty72, ty73, ty75, ty107, ty130, List.append_eq, am, seval, reduceCtorEq]
            refine (h_having _).mono fun v' s' h => ?_
            rw [h.1, h.2]; clear h v' s'
            simp only [vbool, hc0, hc1, hc2, hc3, hc4, hc5, hc6, hc7, hc8, hc9, hc10, ty4, ty31, ty49, ty68, ty69, ty70, ty71, ty72, ty73, ty75, ty107, ty130, List.append_eq, am, seval, reduceCtorEq]
            refine (h_out _).mono fun v' s' h => ?_
            rw [h.1, h.2]; clear h v' s'
            simp only [vbool, hc0, hc1, hc2, hc3, hc4, hc5, hc6, hc7, hc8, hc9, hc10, ty4, ty31, ty49, ty68, ty69, ty70, ty71, ty72, ty73, ty75, ty107, ty130, List.append_eq, am, seval, reduceCtorEq]
            refine (h_extra _).mono fun v' s' h => ?_
            rw [h.1, h.2]; clear h v' s'
            simp only [vbool, hc0, hc1, hc2, hc3, hc4, hc5, hc6, hc7, hc8, hc9, hc10, ty4, ty31, ty49, ty68, ty69, ty70, ty71, ty72, ty73, ty75, ty107, ty130, List.append_eq, am, seval, reduceCtorEq]
            refine (h107 _).mono fun v' s' h => ?_
            rw [h.1, h.2]; clear h v' s'
            simp only [vbool, hc0, hc1, hc2, hc3, hc4, hc5, hc6, hc7, hc8, hc9, hc10, ty4, ty31, ty49, ty68, ty69, ty70, ty71, ty72, ty73, ty75, ty107, ty130, List.append_eq, am, seval, reduceCtorEq]
            refine hR2 _ ?_; clear hR2 R2
            refine AWp.ret ?_
            refine ret_intro (vs := [.base (.bool false)]) rfl (Wk.refl _) (Heap.le.refl _) ⟨?_, rfl⟩
            rw [same_of_imp (fun e => by rw [e]; simp only [beq_self_eq_true, same_self, Bool.and_self]) hc10]; rfl
           ·rcases (Bool.eq_false_or_eq_true (same a.aggs b.aggs)).symm with hc11 | hc11
            ·simp only [hc0, hc1, hc2, hc3, hc4, hc5, hc6, hc7, hc8, hc9, hc10, hc11, ty4, ty31, ty49, ty68, ty69, ty70, ty71, ty72, ty73, ty75, ty107, ty130, List.append_eq, am, seval, reduceCtorEq]
             refine (h106 _).mono fun v' s' h => ?_
             rw [h.1, h.2]; clear h v' s'
             simp only [vbool, hc0, hc1, hc2, hc3, hc4, hc5, hc6, hc7, hc8, hc9, hc10, hc11, ty4, ty31, ty49, ty68, ty69, ty70, ty71, ty72, ty73, ty75, ty107, ty130, List.append_eq, am, seval, reduceCtorEq]
             refine (h_whr _).mono fun v' s' h => ?_
             rw [h.1, h.2]; clear h v' s'
             simp only [vbool, hc0, hc1, hc2, hc3, hc4, hc5, hc6, hc7, hc8, hc9, hc10, hc11, ty4, ty31, ty49, ty68, ty69, ty70, ty71, ty72, ty73, ty75, ty107, ty130, List.append_eq, am, seval, reduceCtorEq]
             refine (h_group _).mono fun v' s' h => ?_
             rw [h.1, h.2]; clear h v' s'
             simp only [vbool, hc0, hc1, hc2, hc3, hc4, hc5, hc6, hc7, hc8, hc9, hc10, hc11, ty4, ty31, ty49, ty68, ty69, ty70, ty71, ty72, ty73, ty75, ty107, ty130, List.append_eq, am, seval, reduceCtorEq]
             refine (h_having _).mono fun v' s' h => ?_
             rw [h.1, h.2]; clear h v' s'
             simp only [vbool, hc0, hc1, hc2, hc3, hc4, hc5, hc6, hc7, hc8, hc9, hc10, hc11, ty4, ty31, ty49, ty68, ty69, ty70, ty71, ty72, ty73, ty75, ty107, ty130, List.append_eq, am, seval, reduceCtorEq]
             refine (h_out _).mono fun v' s' h => ?_
             rw [h.1, h.2]; clear h v' s'
             simp only [vbool, hc0, hc1, hc2, hc3, hc4, hc5, hc6, hc7, hc8, hc9, hc10, hc11, ty4, ty31, ty49, ty68, ty69, ty70, ty71, ty72, ty73, ty75, ty107, ty130, List.append_eq, am, seval, reduceCtorEq]
             refine (h_extra _).mono fun v' s' h => ?_
             rw [h.1, h.2]; clear h v' s'
             simp only [vbool, hc0, hc1, hc2, hc3, hc4, hc5, hc6, hc7, hc8, hc9, hc10, hc11, ty4, ty31, ty49, ty68, ty69, ty70, ty71, ty72, ty73, ty75, ty107, ty130, List.append_eq, am, seval, reduceCtorEq]
             refine (h107 _).mono fun v' s' h => ?_
             rw [h.1, h.2]; clear h v' s'
             simp only [vbool, hc0, hc1, hc2, hc3, hc4, hc5, hc6, hc7, hc8, hc9, hc10, hc11, ty4, ty31, ty49, ty68, ty69, ty70, ty71, ty72, ty73, ty75, ty107, ty130, List.append_eq, am, seval, reduceCtorEq]
             refine (h109 _).mono fun v' s' h => ?_
             rw [h.1, h.2]; clear h v' s'
             simp only [vbool, hc0, hc1, hc2, hc3, hc4, hc5, hc6, hc7, hc8, hc9, hc10, hc11, ty4, ty31, ty49, ty68, ty69, ty70, ty71, ty72, ty73, ty75, ty107, ty130, List.append_eq, am, seval, reduceCtorEq]
             refine hR2 _ ?_; clear hR2 R2
             refine AWp.ret ?_
             refine ret_intro (vs := [.base (.bool false)]) rfl (Wk.refl _) (Heap.le.refl _) ⟨?_, rfl⟩
             rw [same_of_imp (fun e => by rw [e]; simp only [beq_self_eq_true, same_self, Bool.and_self]) hc11]; rfl
            ·simp only [hc0, hc1, hc2, hc3, hc4, hc5, hc6, hc7, hc8, hc9, hc10, hc11, ty4, ty31, ty49, ty68, ty69, ty70, ty71, ty72, ty73, ty75, ty107, ty130, List.append_eq, am, seval, reduceCtorEq]
             refine (h106 _).mono fun v' s' h => ?_
             rw [h.1, h.2]; clear h v' s'
             simp only [vbool, hc0, hc1, hc2, hc3, hc4, hc5, hc6, hc7, hc8, hc9, hc10, hc11, ty4, ty31, ty49, ty68, ty69, ty70, ty71, ty72, ty73, ty75, ty107, ty130, List.append_eq, am, seval, reduceCtorEq]
             refine (h_whr _).mono fun v' s' h => ?_
             rw [h.1, h.2]; clear h v' s'
             simp only [vbool, hc0, hc1, hc2, hc3, hc4, hc5, hc6, hc7, hc8, hc9, hc10, hc11, ty4, ty31, ty49, ty68, ty69, ty70, ty71, ty72, ty73, ty75, ty107, ty130, List.append_eq, am, seval, reduceCtorEq]
             refine (h_group _).mono fun v' s' h => ?_
             rw [h.1, h.2]; clear h v' s'
             simp only [vbool, hc0, hc1, hc2, hc3, hc4, hc5, hc6, hc7, hc8, hc9, hc10, hc11, ty4, ty31, ty49, ty68, ty69, ty70, ty71, ty72, ty73, ty75, ty107, ty130, List.append_eq, am, seval, reduceCtorEq]
             refine (h_having _).mono fun v' s' h => ?_
             rw [h.1, h.2]; clear h v' s'
             simp only [vbool, hc0, hc1, hc2, hc3, hc4, hc5, hc6, hc7, hc8, hc9, hc10, hc11, ty4, ty31, ty49, ty68, ty69, ty70, ty71, ty72, ty73, ty75, ty107, ty130, List.append_eq, am, seval, reduceCtorEq]
             refine (h_out _).mono fun v' s' h => ?_
             rw [h.1, h.2]; clear h v' s'
             simp only [vbool, hc0, hc1, hc2, hc3, hc4, hc5, hc6, hc7, hc8, hc9, hc10, hc11, ty4, ty31, ty49, ty68, ty69, ty70, ty71, ty72, ty73, ty75, ty107, ty130, List.append_eq, am, seval, reduceCtorEq]
             refine (h_extra _).mono fun v' s' h => ?_
             rw [h.1, h.2]; clear h v' s'
             simp only [vbool, hc0, hc1, hc2, hc3, hc4, hc5, hc6, hc7, hc8, hc9, hc10, hc11, ty4, ty31, ty49, ty68, ty69, ty70, ty71, ty72, ty73, ty75, ty107, ty130, List.append_eq, am, seval, reduceCtorEq]
             refine (h107 _).mono fun v' s' h => ?_
             rw [h.1, h.2]; clear h v' s'
             simp only [vbool, hc0, hc1, hc2, hc3, hc4, hc5, hc6, hc7, hc8, hc9, hc10, hc11, ty4, ty31, ty49, ty68, ty69, ty70, ty71, ty72, ty73, ty75, ty107, ty130, List.append_eq, am, seval, reduceCtorEq]
             refine (h109 _).mono fun v' s' h => ?_
             rw [h.1, h.2]; clear h v' s'
             simp only [vbool, hc0, hc1, hc2, hc3, hc4, hc5, hc6, hc7, hc8, hc9, hc10, hc11, ty4, ty31, ty49, ty68, ty69, ty70, ty71, ty72, ty73, ty75, ty107, ty130, List.append_eq, am, seval, reduceCtorEq]
             refine (h111 _).mono fun v' s' h => ?_
             rw [h.1, h.2]; clear h v' s'
             simp only [vbool, hc0, hc1, hc2, hc3, hc4, hc5, hc6, hc7, hc8, hc9, hc10, hc11, ty4, ty31, ty49, ty68, ty69, ty70, ty71, ty72, ty73, ty75, ty107, ty130, List.append_eq, am, seval, reduceCtorEq]
             refine hR2 _ ?_; clear hR2 R2
             refine AWp.ret ?_
             refine ret_intro (vs := [.base (.bool (same a.steps b.steps))]) rfl (Wk.refl _) (Heap.le.refl _) ⟨?_, rfl⟩
             rw [Arm.same_last' a b hc0 hc1 hc2 hc3 hc4 hc5 hc6 hc7 hc8 hc9 hc10 hc11]; rfl
end Go.Proofs.YtcckhbconihagaaGreatDoor
namespace Go.Proofs.YtcckhbconihagaaGreatDoor
open Go.Am Go.Pl
theorem eqv_all : ∀ n : Nat, (∀ t : Term, t.w ≤ n → ∀ b : Term, Gives Tryz.prog 116 [.agg t.v, .agg b.v] (vbool (same t b))) ∧ (∀ q : Query, q.w ≤ n → ∀ b : Query, Gives Tryz.prog 38 [.agg q.v, .agg b.v] (vbool (same q b))) ∧
    (∀ a : Arm, a.w ≤ n → ∀ b : Arm, Gives Tryz.prog 64 [.agg a.v, .agg b.v] (vbool (same a b)))
  | 0 => ⟨fun t h => by rw [Term.w_eq] at h; omega, fun t h => by rw [Query.w_eq] at h; omega, fun t h => by rw [Arm.w_eq] at h; omega⟩
  | n + 1 => by
    obtain ⟨i1, i2, i3⟩ := eqv_all n
    have T0 : ∀ l : List Term, (l.map Term.w).sum ≤ n → ∀ y : List Term, Gives Tryz.prog 115 [.slice 14 (l.map Term.v), .slice 14 (y.map Term.v), .func 116 [] []] (vbool (same l y)) := fun l h y =>
      f115_spec l y fun a ha b => i1 a (by have := le_sum Term.w l a ha; omega) b
    have T : ∀ l : List Term, (l.map Term.w).sum ≤ n → ∀ y : List Term, Gives Tryz.prog 66 [.slice 14 (l.map Term.v), .slice 14 (y.map Term.v)] (vbool (same l y)) := fun l h y =>
      f66_spec l y (T0 l h y)
    have Q : ∀ l : List Query, (l.map Query.w).sum ≤ n → ∀ y : List Query, Gives Tryz.prog 42 [.slice 5 (l.map Query.v), .slice 5 (y.map Query.v), .func 38 [] []] (vbool (same l y)) := fun l h y =>
      f42_spec l y fun a ha b => i2 a (by have := le_sum Query.w l a ha; omega) b
    refine ⟨fun t h b => ?_, fun q h b => ?_, fun a h b => ?_⟩
    · rw [Term.w_eq] at h
      exact f116_spec t b (T0 _ (by omega) _) (Q _ (by omega) _)
    · rw [Query.w_eq] at h
      exact f38_spec q b (f63_spec _ _ fun x hx y => i3 x (by have := le_sum Arm.w _ x hx; omega) y) (T _ (by omega) _) (T _ (by omega) _)
    · rw [Arm.w_eq] at h
      refine f64_spec a b (f106_spec _ _ fun x hx y => T x ?_ y) (T _ (by omega) _) (T _ (by omega) _) (T _ (by omega) _) (T _ (by omega) _) (T _ (by omega) _) (f107_spec _ _ fun x hx y => ?_) (f109_spec _ _ fun x hx y => ?_) (f111_spec _ _ fun x hx y => ?_)
      · have := le_sum (fun l => 1 + (l.map Term.w).sum) _ x hx; omega
      · have := le_sum From.w _ x hx
        rw [From.w_eq] at this
        exact f108_spec x y (Q _ (by omega) _) (T _ (by omega) _)
      · have := le_sum Agg.w _ x hx
        rw [Agg.w_eq] at this
        exact f110_spec x y (T _ (by omega) _)
      · have := le_sum Step.w _ x hx
        rw [Step.w_eq] at this
        have B : ∀ l : List Bound, (l.map Bound.w).sum ≤ n → ∀ y : List Bound, Gives Tryz.prog 114 [.slice 15 (l.map Bound.v), .slice 15 (y.map Bound.v)] (vbool (same l y)) := fun l h y =>
          f114_spec l y (f145_spec l y fun a ha b => f146_spec a b (i1 a.term (by have := le_sum Bound.w l a ha; rw [Bound.w_eq] at this; omega) b.term))
        exact f112_spec x y (T _ (by omega) _) (B _ (by omega) _) (B _ (by omega) _)
theorem eqv_term (a b : Term) : Gives Tryz.prog 116 [.agg a.v, .agg b.v] (vbool (same a b)) := (eqv_all a.w).1 a (Nat.le_refl _) b
theorem eqv_query (a b : Query) : Gives Tryz.prog 38 [.agg a.v, .agg b.v] (vbool (same a b)) := (eqv_all a.w).2.1 a (Nat.le_refl _) b
theorem eqv_queries (l y : List Query) : Gives Tryz.prog 42 [.slice 5 (l.map Query.v), .slice 5 (y.map Query.v), .func 38 [] []] (vbool (same l y)) := f42_spec l y fun a _ b => eqv_query a b
end Go.Proofs.YtcckhbconihagaaGreatDoor
set_option linter.unusedSimpArgs false
set_option linter.unusedVariables false
set_option maxRecDepth 100000
namespace Go.Proofs.YtcckhbconihagaaGreatDoor
open Go.Am Go.Pl
theorem With.v_flat (x : With) : x.v = [vstr x.name, vstrs x.names, vstrs x.query.names, .slice 13 (x.query.arms.map Arm.v), .slice 3 (x.query.order.map Sorted.v), .slice 14 (x.query.limit.map Term.v), .slice 14 (x.query.offset.map Term.v), .slice 5 (x.step.map Query.v), vbool x.all] := by rw [With.v_eq, Query.v_eq]; rfl
theorem With.same_eq (a b : With) : same a b = (a.name.toList == b.name.toList && (a.all == b.all && (same a.names b.names && (same a.query b.query && same a.step b.step)))) := by
  rw [Bool.eq_iff_iff, same_iff]
  cases a; cases b
  simp only [With.mk.injEq, Bool.and_eq_true, bytes_beq, bytes_eq, same_iff, beq_iff_eq]
  grind
theorem Resolved.same_eq (a b : Resolved) : same a b = (same a.query b.query && same a.withs b.withs) := by
  rw [Bool.eq_iff_iff, same_iff]
  cases a; cases b
  simp only [Resolved.mk.injEq, Bool.and_eq_true, same_iff]
  grind
theorem f40_spec (a b : With) : Gives Tryz.prog 40 [.agg a.v, .agg b.v] (vbool (same a b)) := by
 intro s
 refine acalls_of (fn := Tryz.f40) Tryz.func40 rfl (by decide) (by show 2 ≤ 38; decide) ?_
 rw [Tryz.ntmps40]
 refine AWp.reg fun R1 hR1 => ?_
 simp only [With.v_flat, ty62, am, seval, reduceCtorEq]
 refine hR1 _ ?_; clear hR1 R1
 refine AWp.reg fun R2 hR2 => ?_
 simp only [With.v_flat, ty4, ty9, ty28, ty33, ty47, ty62, List.append_eq, undef, am, seval, reduceCtorEq]
 refine gT (fun hg1_5 => ?_) (fun hg1_5 => ?_)
 ·simp only [With.v_flat, hg1_5, ty4, ty9, ty28, ty33, ty47, ty62, List.append_eq, undef, am, seval, reduceCtorEq]
  refine gT (fun hg1_12 => ?_) (fun hg1_12 => ?_)
  ·simp only [With.v_flat, hg1_5, hg1_12, ty4, ty9, ty28, ty33, ty47, ty62, List.append_eq, undef, am, seval, reduceCtorEq]
   refine (f41_spec a.names b.names _).mono fun v' s' h => ?_
   rw [h.1, h.2]; clear h v' s'
   simp only [With.v_flat, hg1_5, hg1_12, ty4, ty9, ty28, ty33, ty47, ty62, List.append_eq, undef, am, seval, reduceCtorEq]
   refine gT (fun hg1_19 => ?_) (fun hg1_19 => ?_)
   ·simp only [With.v_flat, hg1_5, hg1_12, hg1_19, ty4, ty9, ty28, ty33, ty47, ty62, List.append_eq, undef, am, seval, reduceCtorEq]
    rw [← Query.v_eq, ← Query.v_eq]
    refine (eqv_query a.query b.query _).mono fun v' s' h => ?_
    rw [h.1, h.2]; clear h v' s'
    simp only [With.v_flat, hg1_5, hg1_12, hg1_19, ty4, ty9, ty28, ty33, ty47, ty62, List.append_eq, undef, am, seval, reduceCtorEq]
    refine gT (fun hg1_26 => ?_) (fun hg1_26 => ?_)
    ·simp only [With.v_flat, hg1_5, hg1_12, hg1_19, hg1_26, ty4, ty9, ty28, ty33, ty47, ty62, List.append_eq, undef, am, seval, reduceCtorEq]
     refine (eqv_queries a.step b.step _).mono fun v' s' h => ?_
     rw [h.1, h.2]; clear h v' s'
     simp only [With.v_flat, hg1_5, hg1_12, hg1_19, hg1_26, ty4, ty9, ty28, ty33, ty47, ty62, List.append_eq, undef, am, seval, reduceCtorEq]
     refine hR2 _ ?_; clear hR2 R2
     refine AWp.ret ?_
     refine ret_intro (by show resV Tryz.prog _ [.tmp 4] = _; simp only [resV, am, seval, reduceCtorEq]; rfl) (Wk.refl _) (Heap.le.refl _) ⟨?_, rfl⟩
     simp only [oneV, With.same_eq, hg1_5, hg1_12, hg1_19, hg1_26, bo, Bool.not_true, Bool.not_false, ↓reduceIte, Bool.false_eq_true]
    ·simp only [With.v_flat, hg1_5, hg1_12, hg1_19, hg1_26, ty4, ty9, ty28, ty33, ty47, ty62, List.append_eq, undef, am, seval, reduceCtorEq]
     refine hR2 _ ?_; clear hR2 R2
     refine AWp.ret ?_
     refine ret_intro (by show resV Tryz.prog _ [.tmp 4] = _; simp only [resV, am, seval, reduceCtorEq]; rfl) (Wk.refl _) (Heap.le.refl _) ⟨?_, rfl⟩
     simp only [oneV, With.same_eq, hg1_5, hg1_12, hg1_19, hg1_26, bo, Bool.not_true, Bool.not_false, ↓reduceIte, Bool.false_eq_true]
   ·simp only [With.v_flat, hg1_5, hg1_12, hg1_19, ty4, ty9, ty28, ty33, ty47, ty62, List.append_eq, undef, am, seval, reduceCtorEq]
    refine hR2 _ ?_; clear hR2 R2
    refine AWp.ret ?_
    refine ret_intro (by show resV Tryz.prog _ [.tmp 4] = _; simp only [resV, am, seval, reduceCtorEq]; rfl) (Wk.refl _) (Heap.le.refl _) ⟨?_, rfl⟩
    simp only [oneV, With.same_eq, hg1_5, hg1_12, hg1_19, bo, Bool.not_true, Bool.not_false, ↓reduceIte, Bool.false_eq_true]
  ·simp only [With.v_flat, hg1_5, hg1_12, ty4, ty9, ty28, ty33, ty47, ty62, List.append_eq, undef, am, seval, reduceCtorEq]
   refine hR2 _ ?_; clear hR2 R2
   refine AWp.ret ?_
   refine ret_intro (by show resV Tryz.prog _ [.tmp 4] = _; simp only [resV, am, seval, reduceCtorEq]; rfl) (Wk.refl _) (Heap.le.refl _) ⟨?_, rfl⟩
   simp only [oneV, With.same_eq, hg1_5, hg1_12, bo, Bool.not_true, Bool.not_false, ↓reduceIte, Bool.false_eq_true]
 ·simp only [With.v_flat, hg1_5, ty4, ty9, ty28, ty33, ty47, ty62, List.append_eq, undef, am, seval, reduceCtorEq]
  refine hR2 _ ?_; clear hR2 R2
  refine AWp.ret ?_
  refine ret_intro (by show resV Tryz.prog _ [.tmp 4] = _; simp only [resV, am, seval, reduceCtorEq]; rfl) (Wk.refl _) (Heap.le.refl _) ⟨?_, rfl⟩
  simp only [oneV, With.same_eq, hg1_5, bo, Bool.not_true, Bool.not_false, ↓reduceIte, Bool.false_eq_true]
theorem f39_spec (la lb : List With) (hc : ∀ a ∈ la, ∀ b, Gives Tryz.prog 40 [.agg a.v, .agg b.v] (vbool (same a b))) : Gives Tryz.prog 39 [.slice 9 (la.map With.v), .slice 9 (lb.map With.v), .func 40 [] []] (vbool (same la lb)) := by
 intro s
 refine acalls_of (fn := Tryz.f39) Tryz.func39 rfl (by decide) (by show 3 ≤ 32; decide) ?_
 rw [Tryz.ntmps39]
 refine AWp.reg fun R1 hR1 => ?_
 simp only [am, seval, reduceCtorEq]
 refine hR1 _ ?_; clear hR1 R1
 refine AWp.seq_k fun K2 hK2 => ?_
 refine AWp.reg fun R3 hR3 => ?_
 simp only [ty3, ty27, ty62, am, seval, reduceCtorEq]
 refine hR3 _ ?_; clear hR3 R3
 refine AWp.cond (t := ((la.length : Int) != lb.length)) (by simp only [am, seval, reduceCtorEq]) (fun ht => ?_) (fun ht => ?_)
 ·have hne : la.length ≠ lb.length := by have := bne_iff_ne.1 ht; omega
  refine AWp.reg fun R4 hR4 => ?_
  simp only [am, seval, reduceCtorEq]
  refine hR4 _ ?_; clear hR4 R4
  refine AWp.ret ?_
  refine ret_intro (vs := [.base (.bool false)]) rfl (Wk.refl _) (Heap.le.refl _) ⟨?_, rfl⟩
  rw [same_false.2 (fun e => hne (by rw [e]))]; rfl
 ·have hlen : la.length = lb.length := by have := (bne_eq_false_iff_eq).1 ht; omega
  refine AWp.skip ?_
  refine hK2 _ ?_; clear hK2
  refine AWp.seq_k fun K5 hK5 => ?_
  refine AWp.reg fun R6 hR6 => ?_
  simp only [ty27, ty62, am, seval, reduceCtorEq]
  refine hR6 _ ?_; clear hR6 R6
  refine AWp.block ?_
  refine AWp.slen 0 (sz := 9) (es := la.map With.v) (by simp only [am, seval, reduceCtorEq]) fun hmax => ?_
  have hmx := maxLen_lt; rw [List.length_map] at hmax
  refine AWp.loopT (ι := Nat) (fun i => i ≤ la.length ∧ la.take i = lb.take i) (fun i => tst [(0, .slice 9 (la.map With.v)), (1, .slice 9 (lb.map With.v)), (2, .func 40 [] []), (15, .slice 9 (la.map With.v)), (16, vint la.length), (17, vint i)] [] s 32) (fun i => la.length - i) 0 ⟨⟨Nat.zero_le _, by simp⟩, ?_⟩ ?_
  ·refine le_tst ?_ ?_ ?_ (Heap.le.refl _) rfl
   ·simp only [leE, am, seval, reduceCtorEq] <;> simp
   ·simp only [okL, and_self]
   ·simp only [leB]
  ·rintro i ⟨hi, hno⟩
   refine AWp.reg fun R7 hR7 => ?_
   simp only [ty3, am, seval, reduceCtorEq]
   refine hR7 _ ?_; clear hR7 R7
   refine AWp.seq_k fun K8 hK8 => ?_
   refine AWp.cond (t := decide ((i:Int) < la.length)) (by simp only [am, seval, reduceCtorEq]) (fun ht => ?_) (fun ht => ?_)
   ·have hlt : i < la.length := lt_of_dec ht
    have hlt' : i < lb.length := by omega
    have ix0 : (0 ≤ (i : Int)) = True := by simp
    have ix1 : ((i : Int) < (la.length : Int)) = True := by simp [hlt]
    have ix2 : ((i : Int) < (lb.length : Int)) = True := by simp [hlt']
    refine AWp.skip ?_
    refine hK8 _ ?_; clear hK8
    refine AWp.seq_k fun K9 hK9 => ?_
    refine AWp.block ?_
    refine AWp.reg fun R10 hR10 => ?_
    simp only [ix0, ix1, ix2, true_and, getD_map _ _ _ hlt, getD_map _ _ _ hlt', With.v_flat, ty27, ty62, am, seval, reduceCtorEq]
    refine hR10 _ ?_; clear hR10 R10
    refine AWp.reg fun R11 hR11 => ?_
    simp only [ix0, ix1, ix2, true_and, getD_map _ _ _ hlt, getD_map _ _ _ hlt', With.v_flat, ty27, ty62, am, seval, reduceCtorEq]
    refine hR11 _ ?_; clear hR11 R11
    refine AWp.reg fun R12 hR12 => ?_
    simp only [With.v_flat, ty62, am, seval, reduceCtorEq]
    rw [← With.v_flat, ← With.v_flat]
    refine (hc la[i] (List.getElem_mem hlt) lb[i] _).mono fun v' s' h => ?_
    rw [h.1, h.2]; clear h v' s'
    simp only [vbool, With.v_flat, ty62, am, seval, reduceCtorEq]
    refine hR12 _ ?_; clear hR12 R12
    refine AWp.cond (t := !same la[i] lb[i]) (by simp only [am, seval, reduceCtorEq]) (fun ht => ?_) (fun ht => ?_)
    ·have hne : la[i] ≠ lb[i] := fun e => by rw [e] at ht; simp [same_self] at ht
     refine AWp.reg fun R13 hR13 => ?_
     simp only [am, seval, reduceCtorEq]
     refine hR13 _ ?_; clear hR13 R13
     refine AWp.ret ?_
     refine ret_intro (vs := [.base (.bool false)]) rfl (Wk.refl _) (Heap.le.refl _) ⟨?_, rfl⟩
     rw [same_false.2 (fun e => hne (by simp only [e]))]; rfl
    ·have he : la[i] = lb[i] := same_iff.1 (by simpa using ht)
     refine AWp.skip ?_
     refine hK9 _ ?_; clear hK9
     refine AWp.reg1 fun R14 hR14 => ?_
     simp only [ty3, am, seval, reduceCtorEq]
     refine hR14 _ ?_; clear hR14 R14
     refine ⟨i + 1, ⟨⟨hlt, take_succ_eq hno hlt hlt' he⟩, by omega⟩, ?_⟩
     refine le_tst ?_ ?_ ?_ (Heap.le.refl _) rfl
     ·simp only [leE, am, seval, reduceCtorEq]; rw [wrap_id (by omega) (by omega)]; simp
     ·simp only [okL, and_self]
     ·simp only [leB]
   ·obtain rfl : i = la.length := eq_of_dec ht hi
    refine AWp.exit ?_
    simp only [exq, seval]
    refine hK5 _ ?_; clear hK5
    refine AWp.reg fun R15 hR15 => ?_
    simp only [am, seval, reduceCtorEq]
    refine hR15 _ ?_; clear hR15 R15
    refine AWp.ret ?_
    refine ret_intro (vs := [.base (.bool true)]) rfl (Wk.refl _) (Heap.le.refl _) ⟨?_, rfl⟩
    rw [same_iff.2 (by rw [List.take_length] at hno; rw [hno, hlen, List.take_length])]; rfl
theorem f17_spec (a b : Resolved) : Gives Tryz.prog 17 [.agg a.v, .agg b.v] (vbool (same a b)) := by
 have hrv := Resolved.v_eq a
 rw [Query.v_eq] at hrv
 simp only [List.cons_append, List.nil_append] at hrv
 have hqv := Resolved.v_eq b
 rw [Query.v_eq] at hqv
 simp only [List.cons_append, List.nil_append] at hqv
 intro s
 refine acalls_of (fn := Tryz.f17) Tryz.func17 rfl (by decide) (by show 2 ≤ 17; decide) ?_
 rw [Tryz.ntmps17]
 refine AWp.reg fun R1 hR1 => ?_
 simp only [hrv, hqv, ty35, am, seval, reduceCtorEq]
 refine hR1 _ ?_; clear hR1 R1
 refine AWp.reg fun R2 hR2 => ?_
 simp only [hrv, hqv, ty27, ty33, ty35, ty62, undef, am, seval, reduceCtorEq]
 rw [← Query.v_eq, ← Query.v_eq]
 refine (eqv_query a.query b.query _).mono fun v' s' h => ?_
 rw [h.1, h.2]; clear h v' s'
 simp only [hrv, hqv, ty27, ty33, ty35, ty62, undef, am, seval, reduceCtorEq]
 refine gT (fun hg1_5 => ?_) (fun hg1_5 => ?_)
 ·simp only [hrv, hqv, hg1_5, ty27, ty33, ty35, ty62, undef, am, seval, reduceCtorEq]
  refine (f39_spec a.withs b.withs (fun x _ y => f40_spec x y) _).mono fun v' s' h => ?_
  rw [h.1, h.2]; clear h v' s'
  simp only [hrv, hqv, hg1_5, ty27, ty33, ty35, ty62, undef, am, seval, reduceCtorEq]
  refine hR2 _ ?_; clear hR2 R2
  refine AWp.ret ?_
  refine ret_intro (by show resV Tryz.prog _ [.tmp 4] = _; simp only [resV, am, seval, reduceCtorEq]; rfl) (Wk.refl _) (Heap.le.refl _) ⟨?_, rfl⟩
  simp only [oneV, Resolved.same_eq, hg1_5, bo, Bool.not_true, Bool.not_false, ↓reduceIte, Bool.false_eq_true]
 ·simp only [hrv, hqv, hg1_5, ty27, ty33, ty35, ty62, undef, am, seval, reduceCtorEq]
  refine hR2 _ ?_; clear hR2 R2
  refine AWp.ret ?_
  refine ret_intro (by show resV Tryz.prog _ [.tmp 4] = _; simp only [resV, am, seval, reduceCtorEq]; rfl) (Wk.refl _) (Heap.le.refl _) ⟨?_, rfl⟩
  simp only [oneV, Resolved.same_eq, hg1_5, bo, Bool.not_true, Bool.not_false, ↓reduceIte, Bool.false_eq_true]
end Go.Proofs.YtcckhbconihagaaGreatDoor
