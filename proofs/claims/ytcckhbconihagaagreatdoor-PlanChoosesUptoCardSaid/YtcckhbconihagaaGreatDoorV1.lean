/- Lists compared element by element. -/
import Derived.Test.YtcckhbconihagaaGreatDoorVPlUse
set_option linter.unusedSimpArgs false
set_option linter.unusedVariables false
set_option maxRecDepth 100000
namespace Go.Proofs.YtcckhbconihagaaGreatDoor
open Go.Am Go.Pl
theorem f57_spec (la lb : List Term) (hc : ∀ a ∈ la, ∀ b, Gives Tryz.prog 101 [.agg a.v, .agg b.v] (vbool (same a b))) : Gives Tryz.prog 57 [.slice 14 (la.map Term.v), .slice 14 (lb.map Term.v)] (vbool (same la lb)) := by
 intro s; refine acalls_of (fn := Tryz.f57) Tryz.func57 rfl (by decide) (by show 2 ≤ 27; decide) ?_; rw [Tryz.ntmps57]; refine rg fun Z z' => ?_; simp only [am, seval, reduceCtorEq]; refine z' _ ?_; clear z' Z; refine AWp.seq_k fun K2 hK2 => ?_; refine rg fun Z z' => ?_; simp only [amt, seval, reduceCtorEq]; refine z' _ ?_; clear z' Z; refine AWp.cond (t := ((la.length : Int) != lb.length)) (by simp only [am, seval, reduceCtorEq]) (fun ht => ?_) (fun ht => ?_)
 ·have hne : la.length ≠ lb.length := by have := bne_iff_ne.1 ht; omega
  refine rg fun Z z' => ?_; simp only [am, seval, reduceCtorEq]; refine z' _ ?_; clear z' Z; refine AWp.ret ?_; refine rt (vs := [.base (.bool false)]) rfl ⟨?_, rfl⟩; rw [same_false.2 (fun e => hne (by rw [e]))]; rfl
 ·have hlen : la.length = lb.length := by have := (bne_eq_false_iff_eq).1 ht; omega
  refine AWp.skip ?_; refine hK2 _ ?_; clear hK2; refine AWp.seq_k fun K5 hK5 => ?_; refine rg fun Z z' => ?_; simp only [am, seval, reduceCtorEq]; refine z' _ ?_; clear z' Z; refine AWp.block ?_; refine AWp.slen 0 (sz := 14) (es := la.map Term.v) (by simp only [am, seval, reduceCtorEq]) fun hmax => ?_; have hmx := maxLen_lt; rw [List.length_map] at hmax; refine AWp.loopT (ι := Nat) (fun i => i ≤ la.length ∧ la.take i = lb.take i) (fun i => tst [(0, .slice 14 (la.map Term.v)), (1, .slice 14 (lb.map Term.v)), (5, vint i)] [] s 27) (fun i => la.length - i) 0 ⟨⟨Nat.zero_le _, by simp⟩, ?_⟩ ?_
  ·refine lt0 ?_ ?_ ?_
   ·simp only [leE, am, seval, reduceCtorEq] <;> simp
   ·simp only [okL, and_self]
   ·simp only [leB]
  ·rintro i ⟨hi, hno⟩; refine AWp.seq_k fun K7 hK7 => ?_; refine rg fun Z z' => ?_; simp only [amt, seval, reduceCtorEq]; refine z' _ ?_; clear z' Z; refine AWp.cond (t := decide ((i:Int) < la.length)) (by simp only [am, seval, reduceCtorEq]) (fun ht => ?_) (fun ht => ?_)
   ·have hlt : i < la.length := lt_of_dec ht; have hlt' : i < lb.length := by omega
    have ix0 : (0 ≤ (i : Int)) = True := by simp
    have ix1 : ((i : Int) < (la.length : Int)) = True := by simp [hlt]
    have ix2 : ((i : Int) < (lb.length : Int)) = True := by simp [hlt']
    refine AWp.skip ?_; refine hK7 _ ?_; clear hK7; refine AWp.seq_k fun K9 hK9 => ?_; refine AWp.block ?_; refine AWp.regL mixed [0, 1, 2, 3, 4, 5, 6, 7, 8, 9] (by decide +kernel) [99999] (by decide +kernel) fun Z z' => ?_; simp only [ix0, ix1, ix2, true_and, getD_map _ _ _ hlt, getD_map _ _ _ hlt', Term.v_eq, aml, Nat.reduceBEq, amt, seval, reduceCtorEq]; rw [← Term.v_eq, ← Term.v_eq]; refine (hc la[i] (List.getElem_mem hlt) lb[i] _).go ?_; simp only [vbool, ix0, ix1, ix2, true_and, getD_map _ _ _ hlt, getD_map _ _ _ hlt', Term.v_eq, aml, Nat.reduceBEq, amt, seval, reduceCtorEq]; refine z' _ ?_; clear z' Z; refine AWp.cond (t := !same la[i] lb[i]) (by simp only [am, seval, reduceCtorEq]) (fun ht => ?_) (fun ht => ?_)
    ·have hne : la[i] ≠ lb[i] := fun e => by rw [e] at ht; simp [same_self] at ht
     refine rg fun Z z' => ?_; simp only [am, seval, reduceCtorEq]; refine z' _ ?_; clear z' Z; refine AWp.ret ?_; refine rt (vs := [.base (.bool false)]) rfl ⟨?_, rfl⟩; rw [same_false.2 (fun e => hne (by simp only [e]))]; rfl
    ·have he : la[i] = lb[i] := same_iff.1 (by simpa using ht); refine AWp.skip ?_; refine hK9 _ ?_; clear hK9; refine rg1 fun Z z' => ?_; simp only [amt, seval, reduceCtorEq]; refine z' _ ?_; clear z' Z; refine ⟨i + 1, ⟨⟨hlt, take_succ_eq hno hlt hlt' he⟩, by omega⟩, ?_⟩; refine lt0 ?_ ?_ ?_
     ·simp only [leE, am, seval, reduceCtorEq]; rw [wrap_id (by omega) (by omega)]; simp
     ·simp only [okL, and_self]
     ·simp only [leB]
   ·obtain rfl : i = la.length := eq_of_dec ht hi; refine AWp.exit ?_; simp only [exq, seval]; refine hK5 _ ?_; clear hK5; refine rg fun Z z' => ?_; simp only [am, seval, reduceCtorEq]; refine z' _ ?_; clear z' Z; refine AWp.ret ?_; refine rt (vs := [.base (.bool true)]) rfl ⟨?_, rfl⟩; rw [same_iff.2 (by rw [List.take_length] at hno; rw [hno, hlen, List.take_length])]; rfl
theorem f34_spec (la lb : List Query) (hc : ∀ a ∈ la, ∀ b, Gives Tryz.prog 32 [.agg a.v, .agg b.v] (vbool (same a b))) : Gives Tryz.prog 34 [.slice 5 (la.map Query.v), .slice 5 (lb.map Query.v)] (vbool (same la lb)) := by
 intro s; refine acalls_of (fn := Tryz.f34) Tryz.func34 rfl (by decide) (by show 2 ≤ 27; decide) ?_; rw [Tryz.ntmps34]; refine rg fun Z z' => ?_; simp only [am, seval, reduceCtorEq]; refine z' _ ?_; clear z' Z; refine AWp.seq_k fun K2 hK2 => ?_; refine rg fun Z z' => ?_; simp only [amt, seval, reduceCtorEq]; refine z' _ ?_; clear z' Z; refine AWp.cond (t := ((la.length : Int) != lb.length)) (by simp only [am, seval, reduceCtorEq]) (fun ht => ?_) (fun ht => ?_)
 ·have hne : la.length ≠ lb.length := by have := bne_iff_ne.1 ht; omega
  refine rg fun Z z' => ?_; simp only [am, seval, reduceCtorEq]; refine z' _ ?_; clear z' Z; refine AWp.ret ?_; refine rt (vs := [.base (.bool false)]) rfl ⟨?_, rfl⟩; rw [same_false.2 (fun e => hne (by rw [e]))]; rfl
 ·have hlen : la.length = lb.length := by have := (bne_eq_false_iff_eq).1 ht; omega
  refine AWp.skip ?_; refine hK2 _ ?_; clear hK2; refine AWp.seq_k fun K5 hK5 => ?_; refine rg fun Z z' => ?_; simp only [am, seval, reduceCtorEq]; refine z' _ ?_; clear z' Z; refine AWp.block ?_; refine AWp.slen 0 (sz := 5) (es := la.map Query.v) (by simp only [am, seval, reduceCtorEq]) fun hmax => ?_; have hmx := maxLen_lt; rw [List.length_map] at hmax; refine AWp.loopT (ι := Nat) (fun i => i ≤ la.length ∧ la.take i = lb.take i) (fun i => tst [(0, .slice 5 (la.map Query.v)), (1, .slice 5 (lb.map Query.v)), (5, vint i)] [] s 27) (fun i => la.length - i) 0 ⟨⟨Nat.zero_le _, by simp⟩, ?_⟩ ?_
  ·refine lt0 ?_ ?_ ?_
   ·simp only [leE, am, seval, reduceCtorEq] <;> simp
   ·simp only [okL, and_self]
   ·simp only [leB]
  ·rintro i ⟨hi, hno⟩; refine AWp.seq_k fun K7 hK7 => ?_; refine rg fun Z z' => ?_; simp only [amt, seval, reduceCtorEq]; refine z' _ ?_; clear z' Z; refine AWp.cond (t := decide ((i:Int) < la.length)) (by simp only [am, seval, reduceCtorEq]) (fun ht => ?_) (fun ht => ?_)
   ·have hlt : i < la.length := lt_of_dec ht; have hlt' : i < lb.length := by omega
    have ix0 : (0 ≤ (i : Int)) = True := by simp
    have ix1 : ((i : Int) < (la.length : Int)) = True := by simp [hlt]
    have ix2 : ((i : Int) < (lb.length : Int)) = True := by simp [hlt']
    refine AWp.skip ?_; refine hK7 _ ?_; clear hK7; refine AWp.seq_k fun K9 hK9 => ?_; refine AWp.block ?_; refine AWp.regL mixed [0, 1, 2, 3, 4, 5, 6, 7, 8, 9] (by decide +kernel) [99999] (by decide +kernel) fun Z z' => ?_; simp only [ix0, ix1, ix2, true_and, getD_map _ _ _ hlt, getD_map _ _ _ hlt', Query.v_eq, aml, Nat.reduceBEq, amt, seval, reduceCtorEq]; rw [← Query.v_eq, ← Query.v_eq]; refine (hc la[i] (List.getElem_mem hlt) lb[i] _).go ?_; simp only [vbool, ix0, ix1, ix2, true_and, getD_map _ _ _ hlt, getD_map _ _ _ hlt', Query.v_eq, aml, Nat.reduceBEq, amt, seval, reduceCtorEq]; refine z' _ ?_; clear z' Z; refine AWp.cond (t := !same la[i] lb[i]) (by simp only [am, seval, reduceCtorEq]) (fun ht => ?_) (fun ht => ?_)
    ·have hne : la[i] ≠ lb[i] := fun e => by rw [e] at ht; simp [same_self] at ht
     refine rg fun Z z' => ?_; simp only [am, seval, reduceCtorEq]; refine z' _ ?_; clear z' Z; refine AWp.ret ?_; refine rt (vs := [.base (.bool false)]) rfl ⟨?_, rfl⟩; rw [same_false.2 (fun e => hne (by simp only [e]))]; rfl
    ·have he : la[i] = lb[i] := same_iff.1 (by simpa using ht); refine AWp.skip ?_; refine hK9 _ ?_; clear hK9; refine rg1 fun Z z' => ?_; simp only [amt, seval, reduceCtorEq]; refine z' _ ?_; clear z' Z; refine ⟨i + 1, ⟨⟨hlt, take_succ_eq hno hlt hlt' he⟩, by omega⟩, ?_⟩; refine lt0 ?_ ?_ ?_
     ·simp only [leE, am, seval, reduceCtorEq]; rw [wrap_id (by omega) (by omega)]; simp
     ·simp only [okL, and_self]
     ·simp only [leB]
   ·obtain rfl : i = la.length := eq_of_dec ht hi; refine AWp.exit ?_; simp only [exq, seval]; refine hK5 _ ?_; clear hK5; refine rg fun Z z' => ?_; simp only [am, seval, reduceCtorEq]; refine z' _ ?_; clear z' Z; refine AWp.ret ?_; refine rt (vs := [.base (.bool true)]) rfl ⟨?_, rfl⟩; rw [same_iff.2 (by rw [List.take_length] at hno; rw [hno, hlen, List.take_length])]; rfl
theorem Term.same_last (a b : Term) (h0 : (a.op == b.op) = true) (h1 : (a.neg == b.neg) = true) (h2 : (a.n == b.n) = true) (h3 : (a.frm == b.frm) = true) (h4 : (a.col == b.col) = true) (h5 : (a.name.toList == b.name.toList) = true) (h6 : (a.vk == b.vk && (a.vi == b.vi && a.vt.toList == b.vt.toList)) = true) (h7 : (a.coll == b.coll) = true) (h8 : (a.l == b.l) = true) (h9 : (a.r == b.r) = true) (h10 : (same a.args b.args) = true) : same a b = (same a.sub b.sub) := by
 cases a; cases b; simp only [beq_iff_eq, bytes_beq, bytes_eq, same_iff, Bool.and_eq_true] at *; try refine same_eq_of ?_
 try (rw [Bool.eq_iff_iff, same_iff, beq_iff_eq])
 simp only [Term.mk.injEq]; simp_all
theorem f101_spec (a b : Term) (h57 : Gives Tryz.prog 57 [.slice 14 (a.args.map Term.v), .slice 14 (b.args.map Term.v)] (vbool (same a.args b.args))) (h34 : Gives Tryz.prog 34 [.slice 5 (a.sub.map Query.v), .slice 5 (b.sub.map Query.v)] (vbool (same a.sub b.sub))) : Gives Tryz.prog 101 [.agg a.v, .agg b.v] (vbool (same a b)) := by
 intro s; rw [Term.v_eq, Term.v_eq]; refine acalls_of (fn := Tryz.f101) Tryz.func101 rfl (by decide) (by show 2 ≤ 87; decide) ?_; rw [Tryz.ntmps101]; refine rg fun Z z' => ?_; simp only [amt, seval, reduceCtorEq]; refine z' _ ?_; clear z' Z; refine rg fun Z z' => ?_; rcases (Bool.eq_false_or_eq_true (a.op == b.op)).symm with hc0 | hc0
 ·simp only [hc0, teq44, amt, seval, reduceCtorEq]; refine z' _ ?_; clear z' Z; refine AWp.ret ?_; refine rt (vs := [.base (.bool false)]) rfl ⟨?_, rfl⟩; rw [same_of_imp (fun e => by rw [e]; simp only [beq_self_eq_true, same_self, Bool.and_self]) hc0]; rfl
 ·rcases (Bool.eq_false_or_eq_true (a.neg == b.neg)).symm with hc1 | hc1
  ·simp only [hc0, hc1, teq44, amt, seval, reduceCtorEq]; refine z' _ ?_; clear z' Z; refine AWp.ret ?_; refine rt (vs := [.base (.bool false)]) rfl ⟨?_, rfl⟩; rw [same_of_imp (fun e => by rw [e]; simp only [beq_self_eq_true, same_self, Bool.and_self]) hc1]; rfl
  ·rcases (Bool.eq_false_or_eq_true (a.n == b.n)).symm with hc2 | hc2
   ·simp only [hc0, hc1, hc2, teq44, amt, seval, reduceCtorEq]; refine z' _ ?_; clear z' Z; refine AWp.ret ?_; refine rt (vs := [.base (.bool false)]) rfl ⟨?_, rfl⟩; rw [same_of_imp (fun e => by rw [e]; simp only [beq_self_eq_true, same_self, Bool.and_self]) hc2]; rfl
   ·rcases (Bool.eq_false_or_eq_true (a.frm == b.frm)).symm with hc3 | hc3
    ·simp only [hc0, hc1, hc2, hc3, teq44, amt, seval, reduceCtorEq]; refine z' _ ?_; clear z' Z; refine AWp.ret ?_; refine rt (vs := [.base (.bool false)]) rfl ⟨?_, rfl⟩; rw [same_of_imp (fun e => by rw [e]; simp only [beq_self_eq_true, same_self, Bool.and_self]) hc3]; rfl
    ·rcases (Bool.eq_false_or_eq_true (a.col == b.col)).symm with hc4 | hc4
     ·simp only [hc0, hc1, hc2, hc3, hc4, teq44, amt, seval, reduceCtorEq]; refine z' _ ?_; clear z' Z; refine AWp.ret ?_; refine rt (vs := [.base (.bool false)]) rfl ⟨?_, rfl⟩; rw [same_of_imp (fun e => by rw [e]; simp only [beq_self_eq_true, same_self, Bool.and_self]) hc4]; rfl
     ·rcases (Bool.eq_false_or_eq_true (a.name.toList == b.name.toList)).symm with hc5 | hc5
      ·simp only [hc0, hc1, hc2, hc3, hc4, hc5, teq44, amt, seval, reduceCtorEq]; refine z' _ ?_; clear z' Z; refine AWp.ret ?_; refine rt (vs := [.base (.bool false)]) rfl ⟨?_, rfl⟩; rw [same_of_imp (fun e => by rw [e]; simp only [beq_self_eq_true, same_self, Bool.and_self]) hc5]; rfl
      ·rcases (Bool.eq_false_or_eq_true (a.vk == b.vk && (a.vi == b.vi && a.vt.toList == b.vt.toList))).symm with hc6 | hc6
       ·simp only [hc0, hc1, hc2, hc3, hc4, hc5, hc6, teq44, amt, seval, reduceCtorEq]; refine z' _ ?_; clear z' Z; refine AWp.ret ?_; refine rt (vs := [.base (.bool false)]) rfl ⟨?_, rfl⟩; rw [same_of_imp (fun e => by rw [e]; simp only [beq_self_eq_true, same_self, Bool.and_self]) hc6]; rfl
       ·rcases (Bool.eq_false_or_eq_true (a.coll == b.coll)).symm with hc7 | hc7
        ·simp only [hc0, hc1, hc2, hc3, hc4, hc5, hc6, hc7, teq44, amt, seval, reduceCtorEq]; refine z' _ ?_; clear z' Z; refine AWp.ret ?_; refine rt (vs := [.base (.bool false)]) rfl ⟨?_, rfl⟩; rw [same_of_imp (fun e => by rw [e]; simp only [beq_self_eq_true, same_self, Bool.and_self]) hc7]; rfl
        ·rcases (Bool.eq_false_or_eq_true (a.l == b.l)).symm with hc8 | hc8
         ·simp only [hc0, hc1, hc2, hc3, hc4, hc5, hc6, hc7, hc8, teq44, amt, seval, reduceCtorEq]; refine z' _ ?_; clear z' Z; refine AWp.ret ?_; refine rt (vs := [.base (.bool false)]) rfl ⟨?_, rfl⟩; rw [same_of_imp (fun e => by rw [e]; simp only [beq_self_eq_true, same_self, Bool.and_self]) hc8]; rfl
         ·rcases (Bool.eq_false_or_eq_true (a.r == b.r)).symm with hc9 | hc9
          ·simp only [hc0, hc1, hc2, hc3, hc4, hc5, hc6, hc7, hc8, hc9, teq44, amt, seval, reduceCtorEq]; refine z' _ ?_; clear z' Z; refine AWp.ret ?_; refine rt (vs := [.base (.bool false)]) rfl ⟨?_, rfl⟩; rw [same_of_imp (fun e => by rw [e]; simp only [beq_self_eq_true, same_self, Bool.and_self]) hc9]; rfl
          ·rcases (Bool.eq_false_or_eq_true (same a.args b.args)).symm with hc10 | hc10
           ·simp only [hc0, hc1, hc2, hc3, hc4, hc5, hc6, hc7, hc8, hc9, hc10, teq44, amt, seval, reduceCtorEq]; refine (h57 _).go ?_; simp only [vbool, hc0, hc1, hc2, hc3, hc4, hc5, hc6, hc7, hc8, hc9, hc10, teq44, amt, seval, reduceCtorEq]; refine z' _ ?_; clear z' Z; refine AWp.ret ?_; refine rt (vs := [.base (.bool false)]) rfl ⟨?_, rfl⟩; rw [same_of_imp (fun e => by rw [e]; simp only [beq_self_eq_true, same_self, Bool.and_self]) hc10]; rfl
           ·simp only [hc0, hc1, hc2, hc3, hc4, hc5, hc6, hc7, hc8, hc9, hc10, teq44, amt, seval, reduceCtorEq]; refine (h57 _).go ?_; simp only [vbool, hc0, hc1, hc2, hc3, hc4, hc5, hc6, hc7, hc8, hc9, hc10, teq44, amt, seval, reduceCtorEq]; refine (h34 _).go ?_; simp only [vbool, hc0, hc1, hc2, hc3, hc4, hc5, hc6, hc7, hc8, hc9, hc10, teq44, amt, seval, reduceCtorEq]; refine z' _ ?_; clear z' Z; refine AWp.ret ?_; refine rt (vs := [.base (.bool (same a.sub b.sub))]) rfl ⟨?_, rfl⟩; rw [Term.same_last a b hc0 hc1 hc2 hc3 hc4 hc5 hc6 hc7 hc8 hc9 hc10]; rfl
theorem From.same_last (a b : From) (h0 : (a.join == b.join) = true) (h1 : (a.kind == b.kind) = true) (h2 : (a.name.toList == b.name.toList) = true) (h3 : (a.n == b.n) = true) (h4 : (a.width == b.width) = true) (h5 : (same a.sub b.sub) = true) : same a b = (same a.on b.on) := by
 cases a; cases b; simp only [beq_iff_eq, bytes_beq, bytes_eq, same_iff, Bool.and_eq_true] at *; try refine same_eq_of ?_
 try (rw [Bool.eq_iff_iff, same_iff, beq_iff_eq])
 simp only [From.mk.injEq]; simp_all
theorem f102_spec (a b : From) (h34 : Gives Tryz.prog 34 [.slice 5 (a.sub.map Query.v), .slice 5 (b.sub.map Query.v)] (vbool (same a.sub b.sub))) (h57 : Gives Tryz.prog 57 [.slice 14 (a.on.map Term.v), .slice 14 (b.on.map Term.v)] (vbool (same a.on b.on))) : Gives Tryz.prog 102 [.agg a.v, .agg b.v] (vbool (same a b)) := by
 intro s; rw [From.v_eq, From.v_eq]; refine acalls_of (fn := Tryz.f102) Tryz.func102 rfl (by decide) (by show 2 ≤ 52; decide) ?_; rw [Tryz.ntmps102]; refine rg fun Z z' => ?_; simp only [amt, seval, reduceCtorEq]; refine z' _ ?_; clear z' Z; refine rg fun Z z' => ?_; rcases (Bool.eq_false_or_eq_true (a.join == b.join)).symm with hc0 | hc0
 ·simp only [hc0, amt, seval, reduceCtorEq]; refine z' _ ?_; clear z' Z; refine AWp.ret ?_; refine rt (vs := [.base (.bool false)]) rfl ⟨?_, rfl⟩; rw [same_of_imp (fun e => by rw [e]; simp only [beq_self_eq_true, same_self, Bool.and_self]) hc0]; rfl
 ·rcases (Bool.eq_false_or_eq_true (a.kind == b.kind)).symm with hc1 | hc1
  ·simp only [hc0, hc1, amt, seval, reduceCtorEq]; refine z' _ ?_; clear z' Z; refine AWp.ret ?_; refine rt (vs := [.base (.bool false)]) rfl ⟨?_, rfl⟩; rw [same_of_imp (fun e => by rw [e]; simp only [beq_self_eq_true, same_self, Bool.and_self]) hc1]; rfl
  ·rcases (Bool.eq_false_or_eq_true (a.name.toList == b.name.toList)).symm with hc2 | hc2
   ·simp only [hc0, hc1, hc2, amt, seval, reduceCtorEq]; refine z' _ ?_; clear z' Z; refine AWp.ret ?_; refine rt (vs := [.base (.bool false)]) rfl ⟨?_, rfl⟩; rw [same_of_imp (fun e => by rw [e]; simp only [beq_self_eq_true, same_self, Bool.and_self]) hc2]; rfl
   ·rcases (Bool.eq_false_or_eq_true (a.n == b.n)).symm with hc3 | hc3
    ·simp only [hc0, hc1, hc2, hc3, amt, seval, reduceCtorEq]; refine z' _ ?_; clear z' Z; refine AWp.ret ?_; refine rt (vs := [.base (.bool false)]) rfl ⟨?_, rfl⟩; rw [same_of_imp (fun e => by rw [e]; simp only [beq_self_eq_true, same_self, Bool.and_self]) hc3]; rfl
    ·rcases (Bool.eq_false_or_eq_true (a.width == b.width)).symm with hc4 | hc4
     ·simp only [hc0, hc1, hc2, hc3, hc4, amt, seval, reduceCtorEq]; refine z' _ ?_; clear z' Z; refine AWp.ret ?_; refine rt (vs := [.base (.bool false)]) rfl ⟨?_, rfl⟩; rw [same_of_imp (fun e => by rw [e]; simp only [beq_self_eq_true, same_self, Bool.and_self]) hc4]; rfl
     ·rcases (Bool.eq_false_or_eq_true (same a.sub b.sub)).symm with hc5 | hc5
      ·simp only [hc0, hc1, hc2, hc3, hc4, hc5, amt, seval, reduceCtorEq]; refine (h34 _).go ?_; simp only [vbool, hc0, hc1, hc2, hc3, hc4, hc5, amt, seval, reduceCtorEq]; refine z' _ ?_; clear z' Z; refine AWp.ret ?_; refine rt (vs := [.base (.bool false)]) rfl ⟨?_, rfl⟩; rw [same_of_imp (fun e => by rw [e]; simp only [beq_self_eq_true, same_self, Bool.and_self]) hc5]; rfl
      ·simp only [hc0, hc1, hc2, hc3, hc4, hc5, amt, seval, reduceCtorEq]; refine (h34 _).go ?_; simp only [vbool, hc0, hc1, hc2, hc3, hc4, hc5, amt, seval, reduceCtorEq]; refine (h57 _).go ?_; simp only [vbool, hc0, hc1, hc2, hc3, hc4, hc5, amt, seval, reduceCtorEq]; refine z' _ ?_; clear z' Z; refine AWp.ret ?_; refine rt (vs := [.base (.bool (same a.on b.on))]) rfl ⟨?_, rfl⟩; rw [From.same_last a b hc0 hc1 hc2 hc3 hc4 hc5]; rfl
theorem Agg.same_last (a b : Agg) (h0 : (a.name.toList == b.name.toList) = true) (h1 : (a.distinct == b.distinct) = true) (h2 : (a.star == b.star) = true) (h3 : (a.coll == b.coll) = true) : same a b = (same a.arg b.arg) := by
 cases a; cases b; simp only [beq_iff_eq, bytes_beq, bytes_eq, same_iff, Bool.and_eq_true] at *; try refine same_eq_of ?_
 try (rw [Bool.eq_iff_iff, same_iff, beq_iff_eq])
 simp only [Agg.mk.injEq]; simp_all
theorem f103_spec (a b : Agg) (h57 : Gives Tryz.prog 57 [.slice 14 (a.arg.map Term.v), .slice 14 (b.arg.map Term.v)] (vbool (same a.arg b.arg))) : Gives Tryz.prog 103 [.agg a.v, .agg b.v] (vbool (same a b)) := by
 intro s; rw [Agg.v_eq, Agg.v_eq]; refine acalls_of (fn := Tryz.f103) Tryz.func103 rfl (by decide) (by show 2 ≤ 38; decide) ?_; rw [Tryz.ntmps103]; refine rg fun Z z' => ?_; simp only [amt, seval, reduceCtorEq]; refine z' _ ?_; clear z' Z; refine rg fun Z z' => ?_; rcases (Bool.eq_false_or_eq_true (a.name.toList == b.name.toList)).symm with hc0 | hc0
 ·simp only [hc0, amt, seval, reduceCtorEq]; refine z' _ ?_; clear z' Z; refine AWp.ret ?_; refine rt (vs := [.base (.bool false)]) rfl ⟨?_, rfl⟩; rw [same_of_imp (fun e => by rw [e]; simp only [beq_self_eq_true, same_self, Bool.and_self]) hc0]; rfl
 ·rcases (Bool.eq_false_or_eq_true (a.distinct == b.distinct)).symm with hc1 | hc1
  ·simp only [hc0, hc1, amt, seval, reduceCtorEq]; refine z' _ ?_; clear z' Z; refine AWp.ret ?_; refine rt (vs := [.base (.bool false)]) rfl ⟨?_, rfl⟩; rw [same_of_imp (fun e => by rw [e]; simp only [beq_self_eq_true, same_self, Bool.and_self]) hc1]; rfl
  ·rcases (Bool.eq_false_or_eq_true (a.star == b.star)).symm with hc2 | hc2
   ·simp only [hc0, hc1, hc2, amt, seval, reduceCtorEq]; refine z' _ ?_; clear z' Z; refine AWp.ret ?_; refine rt (vs := [.base (.bool false)]) rfl ⟨?_, rfl⟩; rw [same_of_imp (fun e => by rw [e]; simp only [beq_self_eq_true, same_self, Bool.and_self]) hc2]; rfl
   ·rcases (Bool.eq_false_or_eq_true (a.coll == b.coll)).symm with hc3 | hc3
    ·simp only [hc0, hc1, hc2, hc3, amt, seval, reduceCtorEq]; refine z' _ ?_; clear z' Z; refine AWp.ret ?_; refine rt (vs := [.base (.bool false)]) rfl ⟨?_, rfl⟩; rw [same_of_imp (fun e => by rw [e]; simp only [beq_self_eq_true, same_self, Bool.and_self]) hc3]; rfl
    ·simp only [hc0, hc1, hc2, hc3, amt, seval, reduceCtorEq]; refine (h57 _).go ?_; simp only [vbool, hc0, hc1, hc2, hc3, amt, seval, reduceCtorEq]; refine z' _ ?_; clear z' Z; refine AWp.ret ?_; refine rt (vs := [.base (.bool (same a.arg b.arg))]) rfl ⟨?_, rfl⟩; rw [Agg.same_last a b hc0 hc1 hc2 hc3]; rfl
theorem f33_spec (la lb : List ByteArray) : Gives Tryz.prog 33 [vstrs la, vstrs lb] (vbool (same la lb)) := by
 intro s; refine acalls_of (fn := Tryz.f33) Tryz.func33 rfl (by decide) (by show 2 ≤ 26; decide) ?_; rw [Tryz.ntmps33]; refine rg fun Z z' => ?_; simp only [am, seval, reduceCtorEq]; refine z' _ ?_; clear z' Z; refine AWp.seq_k fun K2 hK2 => ?_; refine rg fun Z z' => ?_; simp only [amt, seval, reduceCtorEq]; refine z' _ ?_; clear z' Z; refine AWp.cond (t := ((la.length : Int) != lb.length)) (by simp only [am, seval, reduceCtorEq]) (fun ht => ?_) (fun ht => ?_)
 ·have hne : la.length ≠ lb.length := by have := bne_iff_ne.1 ht; omega
  refine rg fun Z z' => ?_; simp only [am, seval, reduceCtorEq]; refine z' _ ?_; clear z' Z; refine AWp.ret ?_; refine rt (vs := [.base (.bool false)]) rfl ⟨?_, rfl⟩; rw [same_false.2 (fun e => hne (by rw [e]))]; rfl
 ·have hlen : la.length = lb.length := by have := (bne_eq_false_iff_eq).1 ht; omega
  refine AWp.skip ?_; refine hK2 _ ?_; clear hK2; refine AWp.seq_k fun K5 hK5 => ?_; refine rg fun Z z' => ?_; simp only [am, seval, reduceCtorEq]; refine z' _ ?_; clear z' Z; refine AWp.block ?_; refine AWp.slen 0 (sz := 1) (es := la.map (fun x => [vstr x])) (by simp only [am, seval, reduceCtorEq]) fun hmax => ?_; have hmx := maxLen_lt; rw [List.length_map] at hmax; refine AWp.loopT (ι := Nat) (fun i => i ≤ la.length ∧ la.take i = lb.take i) (fun i => tst [(0, .slice 1 (la.map (fun x => [vstr x]))), (1, .slice 1 (lb.map (fun x => [vstr x]))), (5, vint i)] [] s 26) (fun i => la.length - i) 0 ⟨⟨Nat.zero_le _, by simp⟩, ?_⟩ ?_
  ·refine lt0 ?_ ?_ ?_
   ·simp only [leE, am, seval, reduceCtorEq] <;> simp
   ·simp only [okL, and_self]
   ·simp only [leB]
  ·rintro i ⟨hi, hno⟩; refine AWp.seq_k fun K7 hK7 => ?_; refine rg fun Z z' => ?_; simp only [amt, seval, reduceCtorEq]; refine z' _ ?_; clear z' Z; refine AWp.cond (t := decide ((i:Int) < la.length)) (by simp only [am, seval, reduceCtorEq]) (fun ht => ?_) (fun ht => ?_)
   ·have hlt : i < la.length := lt_of_dec ht; have hlt' : i < lb.length := by omega
    have ix0 : (0 ≤ (i : Int)) = True := by simp
    have ix1 : ((i : Int) < (la.length : Int)) = True := by simp [hlt]
    have ix2 : ((i : Int) < (lb.length : Int)) = True := by simp [hlt']
    refine AWp.skip ?_; refine hK7 _ ?_; clear hK7; refine AWp.seq_k fun K9 hK9 => ?_; refine AWp.block ?_; refine AWp.regL mixed [0, 1, 2, 3, 4, 5, 6, 7, 8] (by decide +kernel) [] (by decide +kernel) fun Z z' => ?_; simp only [ix0, ix1, ix2, true_and, getD_map _ _ _ hlt, getD_map _ _ _ hlt', aml, Nat.reduceBEq, amt, seval, reduceCtorEq]; refine z' _ ?_; clear z' Z; refine AWp.cond (t := !(la[i].toList == lb[i].toList)) (by simp only [am, seval, reduceCtorEq]) (fun ht => ?_) (fun ht => ?_)
    ·have hne : la[i] ≠ lb[i] := fun e => by rw [e] at ht; simp [same_self] at ht
     refine rg fun Z z' => ?_; simp only [am, seval, reduceCtorEq]; refine z' _ ?_; clear z' Z; refine AWp.ret ?_; refine rt (vs := [.base (.bool false)]) rfl ⟨?_, rfl⟩; rw [same_false.2 (fun e => hne (by simp only [e]))]; rfl
    ·have he : la[i] = lb[i] := bytes_beq.1 (by simpa using ht); refine AWp.skip ?_; refine hK9 _ ?_; clear hK9; refine rg1 fun Z z' => ?_; simp only [amt, seval, reduceCtorEq]; refine z' _ ?_; clear z' Z; refine ⟨i + 1, ⟨⟨hlt, take_succ_eq hno hlt hlt' he⟩, by omega⟩, ?_⟩; refine lt0 ?_ ?_ ?_
     ·simp only [leE, am, seval, reduceCtorEq]; rw [wrap_id (by omega) (by omega)]; simp
     ·simp only [okL, and_self]
     ·simp only [leB]
   ·obtain rfl : i = la.length := eq_of_dec ht hi; refine AWp.exit ?_; simp only [exq, seval]; refine hK5 _ ?_; clear hK5; refine rg fun Z z' => ?_; simp only [am, seval, reduceCtorEq]; refine z' _ ?_; clear z' Z; refine AWp.ret ?_; refine rt (vs := [.base (.bool true)]) rfl ⟨?_, rfl⟩; rw [same_iff.2 (by rw [List.take_length] at hno; rw [hno, hlen, List.take_length])]; rfl
theorem Bound.eq_of (x y : Bound) (h1 : x.term = y.term) (h2 : x.opn = y.opn) : x = y := by cases x; cases y; simp_all
theorem f143_spec (la lb : List Bound) (hc : ∀ a ∈ la, ∀ b, Gives Tryz.prog 101 [.agg a.term.v, .agg b.v] (vbool (same a.term b))) : Gives Tryz.prog 143 [.slice 15 (la.map Bound.v), .slice 15 (lb.map Bound.v)] (vbool (same la lb)) := by
 intro s; refine acalls_of (fn := Tryz.f143) Tryz.func143 rfl (by decide) (by show 2 ≤ 42; decide) ?_; rw [Tryz.ntmps143]; refine rg fun Z z' => ?_; simp only [am, seval, reduceCtorEq]; refine z' _ ?_; clear z' Z; refine AWp.seq_k fun K2 hK2 => ?_; refine rg fun Z z' => ?_; simp only [amt, seval, reduceCtorEq]; refine z' _ ?_; clear z' Z; refine AWp.cond (t := ((la.length : Int) != lb.length)) (by simp only [am, seval, reduceCtorEq]) (fun ht => ?_) (fun ht => ?_)
 ·have hne : la.length ≠ lb.length := by have := bne_iff_ne.1 ht; omega
  refine rg fun Z z' => ?_; simp only [am, seval, reduceCtorEq]; refine z' _ ?_; clear z' Z; refine AWp.ret ?_; refine rt (vs := [.base (.bool false)]) rfl ⟨?_, rfl⟩; rw [same_false.2 (fun e => hne (by rw [e]))]; rfl
 ·have hlen : la.length = lb.length := by have := (bne_eq_false_iff_eq).1 ht; omega
  refine AWp.skip ?_; refine hK2 _ ?_; clear hK2; refine AWp.seq_k fun K5 hK5 => ?_; refine rg fun Z z' => ?_; simp only [am, seval, reduceCtorEq]; refine z' _ ?_; clear z' Z; refine AWp.block ?_; refine AWp.slen 0 (sz := 15) (es := la.map Bound.v) (by simp only [am, seval, reduceCtorEq]) fun hmax => ?_; have hmx := maxLen_lt; rw [List.length_map] at hmax; refine AWp.loopT (ι := Nat) (fun i => i ≤ la.length ∧ la.take i = lb.take i) (fun i => tst [(0, .slice 15 (la.map Bound.v)), (1, .slice 15 (lb.map Bound.v)), (5, vint i)] [] s 42) (fun i => la.length - i) 0 ⟨⟨Nat.zero_le _, by simp⟩, ?_⟩ ?_
  ·refine lt0 ?_ ?_ ?_
   ·simp only [leE, am, seval, reduceCtorEq] <;> simp
   ·simp only [okL, and_self]
   ·simp only [leB]
  ·rintro i ⟨hi, hno⟩; refine AWp.seq_k fun K7 hK7 => ?_; refine rg fun Z z' => ?_; simp only [amt, seval, reduceCtorEq]; refine z' _ ?_; clear z' Z; refine AWp.cond (t := decide ((i:Int) < la.length)) (by simp only [am, seval, reduceCtorEq]) (fun ht => ?_) (fun ht => ?_)
   ·have hlt : i < la.length := lt_of_dec ht; have hlt' : i < lb.length := by omega
    have ix0 : (0 ≤ (i : Int)) = True := by simp
    have ix1 : ((i : Int) < (la.length : Int)) = True := by simp [hlt]
    have ix2 : ((i : Int) < (lb.length : Int)) = True := by simp [hlt']
    refine AWp.skip ?_; refine hK7 _ ?_; clear hK7; refine AWp.seq_k fun K9 hK9 => ?_; refine AWp.block ?_; refine AWp.regL mixed [0, 1, 2, 3, 4, 5, 6, 7, 8, 9, 10, 11, 12, 13, 14, 15, 16, 17, 18, 19, 20, 21, 22, 23, 24] (by decide +kernel) [99999] (by decide +kernel) fun Z z' => ?_; rcases (Bool.eq_false_or_eq_true (!(la[i].opn == lb[i].opn))) with hc0 | hc0
    ·simp only [ix0, ix1, ix2, true_and, getD_map _ _ _ hlt, getD_map _ _ _ hlt', Bound.v_eq, Term.v_eq, hc0, aml, Nat.reduceBEq, amt, seval, reduceCtorEq]; refine z' _ ?_; clear z' Z; refine cT (by simp only [am, seval, reduceCtorEq]) ?_; have hne : la[i] ≠ lb[i] := fun e => by rw [e] at hc0; simp [same_self] at hc0
     refine rg fun Z z' => ?_; simp only [am, seval, reduceCtorEq]; refine z' _ ?_; clear z' Z; refine AWp.ret ?_; refine rt (vs := [.base (.bool false)]) rfl ⟨?_, rfl⟩; rw [same_false.2 (fun e => hne (by simp only [e]))]; rfl
    ·simp only [ix0, ix1, ix2, true_and, getD_map _ _ _ hlt, getD_map _ _ _ hlt', Bound.v_eq, Term.v_eq, hc0, aml, Nat.reduceBEq, amt, seval, reduceCtorEq]; rw [← Term.v_eq, ← Term.v_eq]; refine (hc la[i] (List.getElem_mem hlt) lb[i].term _).go ?_; simp only [vbool, ix0, ix1, ix2, true_and, getD_map _ _ _ hlt, getD_map _ _ _ hlt', Bound.v_eq, Term.v_eq, hc0, aml, Nat.reduceBEq, amt, seval, reduceCtorEq]; refine z' _ ?_; clear z' Z; refine AWp.cond (t := !same la[i].term lb[i].term) (by simp only [am, seval, reduceCtorEq]) (fun ht => ?_) (fun ht => ?_)
     ·have hne : la[i] ≠ lb[i] := fun e => by rw [e] at ht; simp [same_self] at ht
      refine rg fun Z z' => ?_; simp only [am, seval, reduceCtorEq]; refine z' _ ?_; clear z' Z; refine AWp.ret ?_; refine rt (vs := [.base (.bool false)]) rfl ⟨?_, rfl⟩; rw [same_false.2 (fun e => hne (by simp only [e]))]; rfl
     ·have he : la[i] = lb[i] := Bound.eq_of _ _ (same_iff.1 (by simpa using ht)) (by simpa using hc0); refine AWp.skip ?_; refine hK9 _ ?_; clear hK9; refine rg1 fun Z z' => ?_; simp only [amt, seval, reduceCtorEq]; refine z' _ ?_; clear z' Z; refine ⟨i + 1, ⟨⟨hlt, take_succ_eq hno hlt hlt' he⟩, by omega⟩, ?_⟩; refine lt0 ?_ ?_ ?_
      ·simp only [leE, am, seval, reduceCtorEq]; rw [wrap_id (by omega) (by omega)]; simp
      ·simp only [okL, and_self]
      ·simp only [leB]
   ·obtain rfl : i = la.length := eq_of_dec ht hi; refine AWp.exit ?_; simp only [exq, seval]; refine hK5 _ ?_; clear hK5; refine rg fun Z z' => ?_; simp only [am, seval, reduceCtorEq]; refine z' _ ?_; clear z' Z; refine AWp.ret ?_; refine rt (vs := [.base (.bool true)]) rfl ⟨?_, rfl⟩; rw [same_iff.2 (by rw [List.take_length] at hno; rw [hno, hlen, List.take_length])]; rfl
theorem Sorted.eq_of (x y : Sorted) (h : (!(x.col == y.col && (x.coll == y.coll && x.desc == y.desc))) = false) : x = y := by cases x; cases y; simp_all
theorem f32_spec (a b : Query) (h57 : ∀ x y : List Term, x = a.limit ∨ x = a.offset → Gives Tryz.prog 57 [.slice 14 (x.map Term.v), .slice 14 (y.map Term.v)] (vbool (same x y))) (h58 : ∀ x ∈ a.arms, ∀ y, Gives Tryz.prog 58 [.agg x.v, .agg y.v] (vbool (same x y))) : Gives Tryz.prog 32 [.agg a.v, .agg b.v] (vbool (same a b)) := by
 intro s; rw [Query.v_eq, Query.v_eq]; refine acalls_of (fn := Tryz.f32) Tryz.func32 rfl (by decide) (by show 2 ≤ 84; decide) ?_; rw [Tryz.ntmps32]; refine rg fun Z z' => ?_; simp only [amt, seval, reduceCtorEq]; refine z' _ ?_; clear z' Z; refine AWp.seq_k fun K2 hK2 => ?_; refine rg fun Z z' => ?_; rcases (Bool.eq_false_or_eq_true (((a.arms.length : Int) != b.arms.length))) with hc0 | hc0
 ·simp only [hc0, teq118, amt, seval, reduceCtorEq]; refine z' _ ?_; clear z' Z; refine cT (by simp only [am, seval, reduceCtorEq]) ?_; have hf : (!((a.arms.length : Int) != b.arms.length)) = false := by rw [hc0]; rfl
  refine rg fun Z z' => ?_; simp only [am, seval, reduceCtorEq]; refine z' _ ?_; clear z' Z; refine AWp.ret ?_; refine rt (vs := [.base (.bool false)]) rfl ⟨?_, rfl⟩; rw [same_of_imp (fun e => by rw [e]; simp [same_self]) hf]; rfl
 ·rcases (Bool.eq_false_or_eq_true (((a.order.length : Int) != b.order.length))) with hc1 | hc1
  ·simp only [hc0, hc1, teq118, amt, seval, reduceCtorEq]; refine z' _ ?_; clear z' Z; refine cT (by simp only [am, seval, reduceCtorEq]) ?_; have hf : (!((a.order.length : Int) != b.order.length)) = false := by rw [hc1]; rfl
   refine rg fun Z z' => ?_; simp only [am, seval, reduceCtorEq]; refine z' _ ?_; clear z' Z; refine AWp.ret ?_; refine rt (vs := [.base (.bool false)]) rfl ⟨?_, rfl⟩; rw [same_of_imp (fun e => by rw [e]; simp [same_self]) hf]; rfl
  ·rcases (Bool.eq_false_or_eq_true ((!same a.names b.names))) with hc2 | hc2
   ·simp only [hc0, hc1, hc2, teq118, amt, seval, reduceCtorEq]; refine (f33_spec a.names b.names _).go ?_; simp only [vbool, hc0, hc1, hc2, teq118, amt, seval, reduceCtorEq]; refine z' _ ?_; clear z' Z; refine cT (by simp only [am, seval, reduceCtorEq]) ?_; have hf : (!(!same a.names b.names)) = false := by rw [hc2]; rfl
    refine rg fun Z z' => ?_; simp only [am, seval, reduceCtorEq]; refine z' _ ?_; clear z' Z; refine AWp.ret ?_; refine rt (vs := [.base (.bool false)]) rfl ⟨?_, rfl⟩; rw [same_of_imp (fun e => by rw [e]; simp [same_self]) hf]; rfl
   ·rcases (Bool.eq_false_or_eq_true ((!same a.limit b.limit))) with hc3 | hc3
    ·simp only [hc0, hc1, hc2, hc3, teq118, amt, seval, reduceCtorEq]; refine (f33_spec a.names b.names _).go ?_; simp only [vbool, hc0, hc1, hc2, hc3, teq118, amt, seval, reduceCtorEq]; refine (h57 a.limit b.limit (.inl rfl) _).go ?_; simp only [vbool, hc0, hc1, hc2, hc3, teq118, amt, seval, reduceCtorEq]; refine z' _ ?_; clear z' Z; refine cT (by simp only [am, seval, reduceCtorEq]) ?_; have hf : (!(!same a.limit b.limit)) = false := by rw [hc3]; rfl
     refine rg fun Z z' => ?_; simp only [am, seval, reduceCtorEq]; refine z' _ ?_; clear z' Z; refine AWp.ret ?_; refine rt (vs := [.base (.bool false)]) rfl ⟨?_, rfl⟩; rw [same_of_imp (fun e => by rw [e]; simp [same_self]) hf]; rfl
    ·simp only [hc0, hc1, hc2, hc3, teq118, amt, seval, reduceCtorEq]; refine (f33_spec a.names b.names _).go ?_; simp only [vbool, hc0, hc1, hc2, hc3, teq118, amt, seval, reduceCtorEq]; refine (h57 a.limit b.limit (.inl rfl) _).go ?_; simp only [vbool, hc0, hc1, hc2, hc3, teq118, amt, seval, reduceCtorEq]; refine (h57 a.offset b.offset (.inr rfl) _).go ?_; simp only [vbool, hc0, hc1, hc2, hc3, teq118, amt, seval, reduceCtorEq]; refine z' _ ?_; clear z' Z; refine AWp.cond (t := (!same a.offset b.offset)) (by simp only [am, seval, reduceCtorEq]) (fun ht => ?_) (fun ht => ?_)
     ·have hf : (!(!same a.offset b.offset)) = false := by rw [ht]; rfl
      refine rg fun Z z' => ?_; simp only [am, seval, reduceCtorEq]; refine z' _ ?_; clear z' Z; refine AWp.ret ?_; refine rt (vs := [.base (.bool false)]) rfl ⟨?_, rfl⟩; rw [same_of_imp (fun e => by rw [e]; simp [same_self]) hf]; rfl
     ·have hc4 := ht; have hl_arms : a.arms.length = b.arms.length := by have := bne_eq_false_iff_eq.1 hc0; omega
      have hl_order : a.order.length = b.order.length := by have := bne_eq_false_iff_eq.1 hc1; omega
      refine AWp.skip ?_; refine hK2 _ ?_; clear hK2; refine AWp.seq_k fun K5 hK5 => ?_; refine rg fun Z z' => ?_; simp only [am, seval, reduceCtorEq]; refine z' _ ?_; clear z' Z; refine AWp.block ?_; refine AWp.loopT (ι := Nat) (fun i => i ≤ a.order.length ∧ a.order.take i = b.order.take i) (fun i => tst [(2, .loc 2 0), (3, .loc 3 0), (5, vint i)] [(2, (Query.v a, 33)), (3, (Query.v b, 33))] s 84) (fun i => a.order.length - i) 0 ⟨⟨Nat.zero_le _, by simp⟩, ?_⟩ ?_
      ·refine lt0 ?_ ?_ ?_
       ·simp only [leE, am, seval, reduceCtorEq] <;> simp
       ·simp only [okL, keyIn]; decide
       ·simp only [leB, Query.v_eq, am, seval, reduceCtorEq]
      ·rintro i ⟨hi, hno⟩; rw [Query.v_eq, Query.v_eq]; refine AWp.seq_k fun K7 hK7 => ?_; refine rg fun Z z' => ?_; simp only [teq118, amt, seval, reduceCtorEq]; refine z' _ ?_; clear z' Z; refine AWp.slen 49 (sz := 3) (es := a.order.map Sorted.v) (by simp only [am, seval, reduceCtorEq]) fun hmax => ?_; have hmx := maxLen_lt; rw [List.length_map] at hmax; refine AWp.cond (t := decide ((i:Int) < a.order.length)) (by simp only [am, seval, reduceCtorEq]) (fun ht => ?_) (fun ht => ?_)
       ·have hlt : i < a.order.length := lt_of_dec ht; have hlt' : i < b.order.length := by omega
        have ix0 : (0 ≤ (i : Int)) = True := by simp
        have ix1 : ((i : Int) < (a.order.length : Int)) = True := by simp [hlt]
        have ix2 : ((i : Int) < (b.order.length : Int)) = True := by simp [hlt']
        refine AWp.skip ?_; refine hK7 _ ?_; clear hK7; refine AWp.seq_k fun K9 hK9 => ?_; refine AWp.block ?_; refine AWp.regL mixed [0, 1, 2, 3, 4, 5, 6, 7, 8, 9, 10] (by decide +kernel) [] (by decide +kernel) fun Z z' => ?_; simp only [ix0, ix1, ix2, true_and, getD_map _ _ _ hlt, getD_map _ _ _ hlt', Sorted.v_eq, teq118, aml, Nat.reduceBEq, amt, seval, reduceCtorEq]; refine z' _ ?_; clear z' Z; refine AWp.cond (t := !(a.order[i].col == b.order[i].col && (a.order[i].coll == b.order[i].coll && a.order[i].desc == b.order[i].desc))) (by simp only [am, seval, reduceCtorEq]) (fun ht => ?_) (fun ht => ?_)
        ·have hne : a.order[i] ≠ b.order[i] := fun e => by rw [e] at ht; simp [same_self] at ht
         refine rg fun Z z' => ?_; simp only [am, seval, reduceCtorEq]; refine z' _ ?_; clear z' Z; refine AWp.ret ?_; refine rt (vs := [.base (.bool false)]) rfl ⟨?_, rfl⟩; rw [same_false.2 (fun e => by subst e; exact hne rfl)]; rfl
        ·have he : a.order[i] = b.order[i] := Sorted.eq_of _ _ ht; refine AWp.skip ?_; refine hK9 _ ?_; clear hK9; refine rg1 fun Z z' => ?_; simp only [amt, seval, reduceCtorEq]; refine z' _ ?_; clear z' Z; refine ⟨i + 1, ⟨⟨hlt, take_succ_eq hno hlt hlt' he⟩, by omega⟩, ?_⟩; refine lt0 ?_ ?_ ?_
         ·simp only [leE, am, seval, reduceCtorEq]; rw [wrap_id (by omega) (by omega)]; simp
         ·simp only [okL, keyIn]; decide
         ·simp only [leB, Query.v_eq, am, seval, reduceCtorEq]
       ·obtain rfl : i = a.order.length := eq_of_dec ht hi; have he_order : a.order = b.order := by rw [List.take_length] at hno; rw [hno, hl_order, List.take_length]
        refine AWp.exit ?_; simp only [exq, seval]; refine hK5 _ ?_; clear hK5; refine AWp.seq_k fun K13 hK13 => ?_; refine rg fun Z z' => ?_; simp only [am, seval, reduceCtorEq]; refine z' _ ?_; clear z' Z; refine AWp.block ?_; refine AWp.loopT (ι := Nat) (fun i => i ≤ a.arms.length ∧ a.arms.take i = b.arms.take i) (fun i => tst [(2, .loc 2 0), (3, .loc 3 0), (6, vint i)] [(2, (Query.v a, 33)), (3, (Query.v b, 33))] s 84) (fun i => a.arms.length - i) 0 ⟨⟨Nat.zero_le _, by simp⟩, ?_⟩ ?_
        ·refine lt0 ?_ ?_ ?_
         ·simp only [leE, am, seval, reduceCtorEq] <;> simp
         ·simp only [okL, keyIn]; decide
         ·simp only [leB, Query.v_eq, am, seval, reduceCtorEq]
        ·rintro i ⟨hi, hno⟩; rw [Query.v_eq, Query.v_eq]; refine AWp.seq_k fun K15 hK15 => ?_; refine rg fun Z z' => ?_; simp only [amt, seval, reduceCtorEq]; refine z' _ ?_; clear z' Z; refine AWp.slen 67 (sz := 13) (es := a.arms.map Arm.v) (by simp only [am, seval, reduceCtorEq]) fun hmax => ?_; have hmx := maxLen_lt; rw [List.length_map] at hmax; refine AWp.cond (t := decide ((i:Int) < a.arms.length)) (by simp only [am, seval, reduceCtorEq]) (fun ht => ?_) (fun ht => ?_)
         ·have hlt : i < a.arms.length := lt_of_dec ht; have hlt' : i < b.arms.length := by omega
          have ix0 : (0 ≤ (i : Int)) = True := by simp
          have ix1 : ((i : Int) < (a.arms.length : Int)) = True := by simp [hlt]
          have ix2 : ((i : Int) < (b.arms.length : Int)) = True := by simp [hlt']
          refine AWp.skip ?_; refine hK15 _ ?_; clear hK15; refine AWp.seq_k fun K17 hK17 => ?_; refine AWp.block ?_; refine AWp.regL mixed [0, 1, 2, 3, 4, 5, 6, 7, 8, 9, 10, 11] (by decide +kernel) [99999] (by decide +kernel) fun Z z' => ?_; simp only [ix0, ix1, ix2, true_and, getD_map _ _ _ hlt, getD_map _ _ _ hlt', Arm.v_eq, aml, Nat.reduceBEq, amt, seval, reduceCtorEq]; rw [← Arm.v_eq, ← Arm.v_eq]; refine (h58 a.arms[i] (List.getElem_mem hlt) b.arms[i] _).go ?_; simp only [vbool, ix0, ix1, ix2, true_and, getD_map _ _ _ hlt, getD_map _ _ _ hlt', Arm.v_eq, aml, Nat.reduceBEq, amt, seval, reduceCtorEq]; refine z' _ ?_; clear z' Z; refine AWp.cond (t := !same a.arms[i] b.arms[i]) (by simp only [am, seval, reduceCtorEq]) (fun ht => ?_) (fun ht => ?_)
          ·have hne : a.arms[i] ≠ b.arms[i] := fun e => by rw [e] at ht; simp [same_self] at ht
           refine rg fun Z z' => ?_; simp only [am, seval, reduceCtorEq]; refine z' _ ?_; clear z' Z; refine AWp.ret ?_; refine rt (vs := [.base (.bool false)]) rfl ⟨?_, rfl⟩; rw [same_false.2 (fun e => by subst e; exact hne rfl)]; rfl
          ·have he : a.arms[i] = b.arms[i] := same_iff.1 (by simpa using ht); refine AWp.skip ?_; refine hK17 _ ?_; clear hK17; refine rg1 fun Z z' => ?_; simp only [amt, seval, reduceCtorEq]; refine z' _ ?_; clear z' Z; refine ⟨i + 1, ⟨⟨hlt, take_succ_eq hno hlt hlt' he⟩, by omega⟩, ?_⟩; refine lt0 ?_ ?_ ?_
           ·simp only [leE, am, seval, reduceCtorEq]; rw [wrap_id (by omega) (by omega)]; simp
           ·simp only [okL, keyIn]; decide
           ·simp only [leB, Query.v_eq, am, seval, reduceCtorEq]
         ·obtain rfl : i = a.arms.length := eq_of_dec ht hi; have he_arms : a.arms = b.arms := by rw [List.take_length] at hno; rw [hno, hl_arms, List.take_length]
          refine AWp.exit ?_; simp only [exq, seval]; refine hK13 _ ?_; clear hK13; refine rg fun Z z' => ?_; simp only [am, seval, reduceCtorEq]; refine z' _ ?_; clear z' Z; refine AWp.ret ?_; refine rt (vs := [.base (.bool true)]) rfl ⟨?_, rfl⟩; rw [same_iff.2 ?_]; · rfl
          cases a; cases b; simp only [bne_eq_false_iff_eq, Bool.not_eq_false', same_iff, beq_iff_eq, bytes_eq] at *; simp_all
theorem int_eq_of {x y : Int} (h : (x != y) = false) : x = y := bne_eq_false_iff_eq.1 h
theorem f104_spec (a b : Step) (h57 : Gives Tryz.prog 57 [.slice 14 (a.eq.map Term.v), .slice 14 (b.eq.map Term.v)] (vbool (same a.eq b.eq))) (hl : Gives Tryz.prog 143 [.slice 15 (a.low.map Bound.v), .slice 15 (b.low.map Bound.v)] (vbool (same a.low b.low))) (hh : Gives Tryz.prog 143 [.slice 15 (a.high.map Bound.v), .slice 15 (b.high.map Bound.v)] (vbool (same a.high b.high))) : Gives Tryz.prog 104 [.agg a.v, .agg b.v] (vbool (same a b)) := by
 intro s; rw [Step.v_eq, Step.v_eq]; refine acalls_of (fn := Tryz.f104) Tryz.func104 rfl (by decide) (by show 2 ≤ 81; decide) ?_; rw [Tryz.ntmps104]; refine rg fun Z z' => ?_; simp only [amt, seval, reduceCtorEq]; refine z' _ ?_; clear z' Z; refine AWp.seq_k fun K2 hK2 => ?_; refine rg fun Z z' => ?_; rcases (Bool.eq_false_or_eq_true ((a.frm != b.frm))) with hc0 | hc0
 ·simp only [hc0, amt, seval, reduceCtorEq]; refine z' _ ?_; clear z' Z; refine cT (by simp only [am, seval, reduceCtorEq]) ?_; have hf : (!(a.frm != b.frm)) = false := by rw [hc0]; rfl
  refine rg fun Z z' => ?_; simp only [am, seval, reduceCtorEq]; refine z' _ ?_; clear z' Z; refine AWp.ret ?_; refine rt (vs := [.base (.bool false)]) rfl ⟨?_, rfl⟩; rw [same_of_imp (fun e => by rw [e]; simp [same_self]) hf]; rfl
 ·rcases (Bool.eq_false_or_eq_true (((a.whr.length : Int) != b.whr.length))) with hc1 | hc1
  ·simp only [hc0, hc1, amt, seval, reduceCtorEq]; refine z' _ ?_; clear z' Z; refine cT (by simp only [am, seval, reduceCtorEq]) ?_; have hf : (!((a.whr.length : Int) != b.whr.length)) = false := by rw [hc1]; rfl
   refine rg fun Z z' => ?_; simp only [am, seval, reduceCtorEq]; refine z' _ ?_; clear z' Z; refine AWp.ret ?_; refine rt (vs := [.base (.bool false)]) rfl ⟨?_, rfl⟩; rw [same_of_imp (fun e => by rw [e]; simp [same_self]) hf]; rfl
  ·rcases (Bool.eq_false_or_eq_true ((a.kind != b.kind))) with hc2 | hc2
   ·simp only [hc0, hc1, hc2, amt, seval, reduceCtorEq]; refine z' _ ?_; clear z' Z; refine cT (by simp only [am, seval, reduceCtorEq]) ?_; have hf : (!(a.kind != b.kind)) = false := by rw [hc2]; rfl
    refine rg fun Z z' => ?_; simp only [am, seval, reduceCtorEq]; refine z' _ ?_; clear z' Z; refine AWp.ret ?_; refine rt (vs := [.base (.bool false)]) rfl ⟨?_, rfl⟩; rw [same_of_imp (fun e => by rw [e]; simp [same_self]) hf]; rfl
   ·simp only [hc0, hc1, hc2, amt, seval, reduceCtorEq]; refine z' _ ?_; clear z' Z; refine AWp.cond (t := (!(a.index.toList == b.index.toList))) (by simp only [am, seval, reduceCtorEq]) (fun ht => ?_) (fun ht => ?_)
    ·have hf : (!(!(a.index.toList == b.index.toList))) = false := by rw [ht]; rfl
     refine rg fun Z z' => ?_; simp only [am, seval, reduceCtorEq]; refine z' _ ?_; clear z' Z; refine AWp.ret ?_; refine rt (vs := [.base (.bool false)]) rfl ⟨?_, rfl⟩; rw [same_of_imp (fun e => by rw [e]; simp [same_self]) hf]; rfl
    ·have hc3 := ht; have hl_whr : a.whr.length = b.whr.length := by have := bne_eq_false_iff_eq.1 hc1; omega
     refine AWp.skip ?_; refine hK2 _ ?_; clear hK2; refine AWp.seq_k fun K5 hK5 => ?_; refine rg fun Z z' => ?_; simp only [am, seval, reduceCtorEq]; refine z' _ ?_; clear z' Z; refine AWp.block ?_; refine AWp.loopT (ι := Nat) (fun i => i ≤ a.whr.length ∧ a.whr.take i = b.whr.take i) (fun i => tst [(2, .loc 2 0), (3, .loc 3 0), (5, vint i)] [(2, (Step.v a, 68)), (3, (Step.v b, 68))] s 81) (fun i => a.whr.length - i) 0 ⟨⟨Nat.zero_le _, by simp⟩, ?_⟩ ?_
     ·refine lt0 ?_ ?_ ?_
      ·simp only [leE, am, seval, reduceCtorEq] <;> simp
      ·simp only [okL, keyIn]; decide
      ·simp only [leB, Step.v_eq, am, seval, reduceCtorEq]
     ·rintro i ⟨hi, hno⟩; rw [Step.v_eq, Step.v_eq]; refine AWp.seq_k fun K7 hK7 => ?_; refine rg fun Z z' => ?_; simp only [amt, seval, reduceCtorEq]; refine z' _ ?_; clear z' Z; refine AWp.slen 40 (sz := 1) (es := a.whr.map (fun x => [vint x])) (by simp only [am, seval, reduceCtorEq]) fun hmax => ?_; have hmx := maxLen_lt; rw [List.length_map] at hmax; refine AWp.cond (t := decide ((i:Int) < a.whr.length)) (by simp only [am, seval, reduceCtorEq]) (fun ht => ?_) (fun ht => ?_)
      ·have hlt : i < a.whr.length := lt_of_dec ht; have hlt' : i < b.whr.length := by omega
       have ix0 : (0 ≤ (i : Int)) = True := by simp
       have ix1 : ((i : Int) < (a.whr.length : Int)) = True := by simp [hlt]
       have ix2 : ((i : Int) < (b.whr.length : Int)) = True := by simp [hlt']
       refine AWp.skip ?_; refine hK7 _ ?_; clear hK7; refine AWp.seq_k fun K9 hK9 => ?_; refine AWp.block ?_; refine AWp.regL mixed [0, 1, 2, 3, 4, 5, 6, 7, 8, 9, 10] (by decide +kernel) [] (by decide +kernel) fun Z z' => ?_; simp only [ix0, ix1, ix2, true_and, getD_map _ _ _ hlt, getD_map _ _ _ hlt', aml, Nat.reduceBEq, amt, seval, reduceCtorEq]; refine z' _ ?_; clear z' Z; refine AWp.cond (t := (a.whr[i] != b.whr[i])) (by simp only [am, seval, reduceCtorEq]) (fun ht => ?_) (fun ht => ?_)
       ·have hne : a.whr[i] ≠ b.whr[i] := fun e => by rw [e] at ht; simp [same_self] at ht
        refine rg fun Z z' => ?_; simp only [am, seval, reduceCtorEq]; refine z' _ ?_; clear z' Z; refine AWp.ret ?_; refine rt (vs := [.base (.bool false)]) rfl ⟨?_, rfl⟩; rw [same_false.2 (fun e => by subst e; exact hne rfl)]; rfl
       ·have he : a.whr[i] = b.whr[i] := int_eq_of ht; refine AWp.skip ?_; refine hK9 _ ?_; clear hK9; refine rg1 fun Z z' => ?_; simp only [amt, seval, reduceCtorEq]; refine z' _ ?_; clear z' Z; refine ⟨i + 1, ⟨⟨hlt, take_succ_eq hno hlt hlt' he⟩, by omega⟩, ?_⟩; refine lt0 ?_ ?_ ?_
        ·simp only [leE, am, seval, reduceCtorEq]; rw [wrap_id (by omega) (by omega)]; simp
        ·simp only [okL, keyIn]; decide
        ·simp only [leB, Step.v_eq, am, seval, reduceCtorEq]
      ·obtain rfl : i = a.whr.length := eq_of_dec ht hi; have he_whr : a.whr = b.whr := by rw [List.take_length] at hno; rw [hno, hl_whr, List.take_length]
       refine AWp.exit ?_; simp only [exq, seval]; refine hK5 _ ?_; clear hK5; refine rg fun Z z' => ?_; rcases (Bool.eq_false_or_eq_true (same a.eq b.eq)).symm with hd0 | hd0
       ·simp only [hd0, amt, seval, reduceCtorEq]; refine (h57 _).go ?_; simp only [vbool, hd0, amt, seval, reduceCtorEq]; refine z' _ ?_; clear z' Z; refine AWp.ret ?_; refine rt (vs := [.base (.bool false)]) rfl ⟨?_, rfl⟩; rw [same_of_imp (fun e => by rw [e]; simp [same_self]) hd0]; rfl
       ·rcases (Bool.eq_false_or_eq_true (same a.low b.low)).symm with hd1 | hd1
        ·simp only [hd0, hd1, amt, seval, reduceCtorEq]; refine (h57 _).go ?_; simp only [vbool, hd0, hd1, amt, seval, reduceCtorEq]; refine (hl _).go ?_; simp only [vbool, hd0, hd1, amt, seval, reduceCtorEq]; refine z' _ ?_; clear z' Z; refine AWp.ret ?_; refine rt (vs := [.base (.bool false)]) rfl ⟨?_, rfl⟩; rw [same_of_imp (fun e => by rw [e]; simp [same_self]) hd1]; rfl
        ·simp only [hd0, hd1, amt, seval, reduceCtorEq]; refine (h57 _).go ?_; simp only [vbool, hd0, hd1, amt, seval, reduceCtorEq]; refine (hl _).go ?_; simp only [vbool, hd0, hd1, amt, seval, reduceCtorEq]; refine (hh _).go ?_; simp only [vbool, hd0, hd1, amt, seval, reduceCtorEq]; refine z' _ ?_; clear z' Z; refine AWp.ret ?_; refine rt (vs := [.base (.bool (same a.high b.high))]) rfl ⟨?_, rfl⟩; have key : same a b = same a.high b.high := by cases a; cases b; simp only [bne_eq_false_iff_eq, Bool.not_eq_false', same_iff, beq_iff_eq, bytes_eq] at *; refine same_eq_of ?_; simp_all
         rw [key]; rfl
theorem f58_spec (a b : Arm) (hrows : ∀ x ∈ a.rows, ∀ y, Gives Tryz.prog 57 [.slice 14 (x.map Term.v), .slice 14 (y.map Term.v)] (vbool (same x y))) (hfrm : ∀ x ∈ a.frm, ∀ y, Gives Tryz.prog 102 [.agg x.v, .agg y.v] (vbool (same x y))) (haggs : ∀ x ∈ a.aggs, ∀ y, Gives Tryz.prog 103 [.agg x.v, .agg y.v] (vbool (same x y))) (hsteps : ∀ x ∈ a.steps, ∀ y, Gives Tryz.prog 104 [.agg x.v, .agg y.v] (vbool (same x y))) (h57 : ∀ x y : List Term, x ∈ [a.whr, a.group, a.having, a.out, a.extra] → Gives Tryz.prog 57 [.slice 14 (x.map Term.v), .slice 14 (y.map Term.v)] (vbool (same x y))) : Gives Tryz.prog 58 [.agg a.v, .agg b.v] (vbool (same a b)) := by
 intro s; rw [Arm.v_eq, Arm.v_eq]; refine acalls_of (fn := Tryz.f58) Tryz.func58 rfl (by decide) (by show 2 ≤ 180; decide) ?_; rw [Tryz.ntmps58]; refine rg fun Z z' => ?_; simp only [amt, seval, reduceCtorEq]; refine z' _ ?_; clear z' Z; refine AWp.seq_k fun K2 hK2 => ?_; refine rg fun Z z' => ?_; rcases (Bool.eq_false_or_eq_true ((a.comp != b.comp))) with hc0 | hc0
 ·simp only [hc0, amt, seval, reduceCtorEq]; refine z' _ ?_; clear z' Z; refine cT (by simp only [am, seval, reduceCtorEq]) ?_; have hf : (!(a.comp != b.comp)) = false := by rw [hc0]; rfl
  refine rg fun Z z' => ?_; simp only [am, seval, reduceCtorEq]; refine z' _ ?_; clear z' Z; refine AWp.ret ?_; refine rt (vs := [.base (.bool false)]) rfl ⟨?_, rfl⟩; rw [same_of_imp (fun e => by rw [e]; simp [same_self]) hf]; rfl
 ·rcases (Bool.eq_false_or_eq_true ((!(a.distinct == b.distinct)))) with hc1 | hc1
  ·simp only [hc0, hc1, amt, seval, reduceCtorEq]; refine z' _ ?_; clear z' Z; refine cT (by simp only [am, seval, reduceCtorEq]) ?_; have hf : (!(!(a.distinct == b.distinct))) = false := by rw [hc1]; rfl
   refine rg fun Z z' => ?_; simp only [am, seval, reduceCtorEq]; refine z' _ ?_; clear z' Z; refine AWp.ret ?_; refine rt (vs := [.base (.bool false)]) rfl ⟨?_, rfl⟩; rw [same_of_imp (fun e => by rw [e]; simp [same_self]) hf]; rfl
  ·rcases (Bool.eq_false_or_eq_true ((!(a.values == b.values)))) with hc2 | hc2
   ·simp only [hc0, hc1, hc2, amt, seval, reduceCtorEq]; refine z' _ ?_; clear z' Z; refine cT (by simp only [am, seval, reduceCtorEq]) ?_; have hf : (!(!(a.values == b.values))) = false := by rw [hc2]; rfl
    refine rg fun Z z' => ?_; simp only [am, seval, reduceCtorEq]; refine z' _ ?_; clear z' Z; refine AWp.ret ?_; refine rt (vs := [.base (.bool false)]) rfl ⟨?_, rfl⟩; rw [same_of_imp (fun e => by rw [e]; simp [same_self]) hf]; rfl
   ·rcases (Bool.eq_false_or_eq_true ((!(a.grouped == b.grouped)))) with hc3 | hc3
    ·simp only [hc0, hc1, hc2, hc3, amt, seval, reduceCtorEq]; refine z' _ ?_; clear z' Z; refine cT (by simp only [am, seval, reduceCtorEq]) ?_; have hf : (!(!(a.grouped == b.grouped))) = false := by rw [hc3]; rfl
     refine rg fun Z z' => ?_; simp only [am, seval, reduceCtorEq]; refine z' _ ?_; clear z' Z; refine AWp.ret ?_; refine rt (vs := [.base (.bool false)]) rfl ⟨?_, rfl⟩; rw [same_of_imp (fun e => by rw [e]; simp [same_self]) hf]; rfl
    ·rcases (Bool.eq_false_or_eq_true (((a.rows.length : Int) != b.rows.length))) with hc4 | hc4
     ·simp only [hc0, hc1, hc2, hc3, hc4, amt, seval, reduceCtorEq]; refine z' _ ?_; clear z' Z; refine cT (by simp only [am, seval, reduceCtorEq]) ?_; have hf : (!((a.rows.length : Int) != b.rows.length)) = false := by rw [hc4]; rfl
      refine rg fun Z z' => ?_; simp only [am, seval, reduceCtorEq]; refine z' _ ?_; clear z' Z; refine AWp.ret ?_; refine rt (vs := [.base (.bool false)]) rfl ⟨?_, rfl⟩; rw [same_of_imp (fun e => by rw [e]; simp [same_self]) hf]; rfl
     ·rcases (Bool.eq_false_or_eq_true (((a.frm.length : Int) != b.frm.length))) with hc5 | hc5
      ·simp only [hc0, hc1, hc2, hc3, hc4, hc5, amt, seval, reduceCtorEq]; refine z' _ ?_; clear z' Z; refine cT (by simp only [am, seval, reduceCtorEq]) ?_; have hf : (!((a.frm.length : Int) != b.frm.length)) = false := by rw [hc5]; rfl
       refine rg fun Z z' => ?_; simp only [am, seval, reduceCtorEq]; refine z' _ ?_; clear z' Z; refine AWp.ret ?_; refine rt (vs := [.base (.bool false)]) rfl ⟨?_, rfl⟩; rw [same_of_imp (fun e => by rw [e]; simp [same_self]) hf]; rfl
      ·rcases (Bool.eq_false_or_eq_true (((a.aggs.length : Int) != b.aggs.length))) with hc6 | hc6
       ·simp only [hc0, hc1, hc2, hc3, hc4, hc5, hc6, amt, seval, reduceCtorEq]; refine z' _ ?_; clear z' Z; refine cT (by simp only [am, seval, reduceCtorEq]) ?_; have hf : (!((a.aggs.length : Int) != b.aggs.length)) = false := by rw [hc6]; rfl
        refine rg fun Z z' => ?_; simp only [am, seval, reduceCtorEq]; refine z' _ ?_; clear z' Z; refine AWp.ret ?_; refine rt (vs := [.base (.bool false)]) rfl ⟨?_, rfl⟩; rw [same_of_imp (fun e => by rw [e]; simp [same_self]) hf]; rfl
       ·simp only [hc0, hc1, hc2, hc3, hc4, hc5, hc6, amt, seval, reduceCtorEq]; refine z' _ ?_; clear z' Z; refine AWp.cond (t := ((a.steps.length : Int) != b.steps.length)) (by simp only [am, seval, reduceCtorEq]) (fun ht => ?_) (fun ht => ?_)
        ·have hf : (!((a.steps.length : Int) != b.steps.length)) = false := by rw [ht]; rfl
         refine rg fun Z z' => ?_; simp only [am, seval, reduceCtorEq]; refine z' _ ?_; clear z' Z; refine AWp.ret ?_; refine rt (vs := [.base (.bool false)]) rfl ⟨?_, rfl⟩; rw [same_of_imp (fun e => by rw [e]; simp [same_self]) hf]; rfl
        ·have hc7 := ht; have hl_rows : a.rows.length = b.rows.length := by have := bne_eq_false_iff_eq.1 hc4; omega
         have hl_frm : a.frm.length = b.frm.length := by have := bne_eq_false_iff_eq.1 hc5; omega
         have hl_aggs : a.aggs.length = b.aggs.length := by have := bne_eq_false_iff_eq.1 hc6; omega
         have hl_steps : a.steps.length = b.steps.length := by have := bne_eq_false_iff_eq.1 hc7; omega
         refine AWp.skip ?_; refine hK2 _ ?_; clear hK2; refine AWp.seq_k fun K5 hK5 => ?_; refine rg fun Z z' => ?_; simp only [am, seval, reduceCtorEq]; refine z' _ ?_; clear z' Z; refine AWp.block ?_; refine AWp.loopT (ι := Nat) (fun i => i ≤ a.rows.length ∧ a.rows.take i = b.rows.take i) (fun i => tst [(2, .loc 2 0), (3, .loc 3 0), (5, vint i)] [(2, (Arm.v a, 75)), (3, (Arm.v b, 75))] s 180) (fun i => a.rows.length - i) 0 ⟨⟨Nat.zero_le _, by simp⟩, ?_⟩ ?_
         ·refine lt0 ?_ ?_ ?_
          ·simp only [leE, am, seval, reduceCtorEq] <;> simp
          ·simp only [okL, keyIn]; decide
          ·simp only [leB, Arm.v_eq, am, seval, reduceCtorEq]
         ·rintro i ⟨hi, hno⟩; rw [Arm.v_eq, Arm.v_eq]; refine AWp.seq_k fun K7 hK7 => ?_; refine rg fun Z z' => ?_; simp only [amt, seval, reduceCtorEq]; refine z' _ ?_; clear z' Z; refine AWp.slen 73 (sz := 1) (es := a.rows.map (fun l => [.slice 14 (l.map Term.v)])) (by simp only [am, seval, reduceCtorEq]) fun hmax => ?_; have hmx := maxLen_lt; rw [List.length_map] at hmax; refine AWp.cond (t := decide ((i:Int) < a.rows.length)) (by simp only [am, seval, reduceCtorEq]) (fun ht => ?_) (fun ht => ?_)
          ·have hlt : i < a.rows.length := lt_of_dec ht; have hlt' : i < b.rows.length := by omega
           have ix0 : (0 ≤ (i : Int)) = True := by simp
           have ix1 : ((i : Int) < (a.rows.length : Int)) = True := by simp [hlt]
           have ix2 : ((i : Int) < (b.rows.length : Int)) = True := by simp [hlt']
           refine AWp.skip ?_; refine hK7 _ ?_; clear hK7; refine AWp.seq_k fun K9 hK9 => ?_; refine AWp.block ?_; refine AWp.regL mixed [0, 1, 2, 3, 4, 5, 6, 7, 8, 9, 10, 11] (by decide +kernel) [99999] (by decide +kernel) fun Z z' => ?_; simp only [ix0, ix1, ix2, true_and, getD_map _ _ _ hlt, getD_map _ _ _ hlt', aml, Nat.reduceBEq, amt, seval, reduceCtorEq]; skip; refine (hrows a.rows[i] (List.getElem_mem hlt) b.rows[i] _).go ?_; simp only [vbool, ix0, ix1, ix2, true_and, getD_map _ _ _ hlt, getD_map _ _ _ hlt', aml, Nat.reduceBEq, amt, seval, reduceCtorEq]; refine z' _ ?_; clear z' Z; refine AWp.cond (t := !same a.rows[i] b.rows[i]) (by simp only [am, seval, reduceCtorEq]) (fun ht => ?_) (fun ht => ?_)
           ·have hne : a.rows[i] ≠ b.rows[i] := fun e => by rw [e] at ht; simp [same_self] at ht
            refine rg fun Z z' => ?_; simp only [am, seval, reduceCtorEq]; refine z' _ ?_; clear z' Z; refine AWp.ret ?_; refine rt (vs := [.base (.bool false)]) rfl ⟨?_, rfl⟩; rw [same_false.2 (fun e => by subst e; exact hne rfl)]; rfl
           ·have he : a.rows[i] = b.rows[i] := same_iff.1 (by simpa using ht); refine AWp.skip ?_; refine hK9 _ ?_; clear hK9; refine rg1 fun Z z' => ?_; simp only [amt, seval, reduceCtorEq]; refine z' _ ?_; clear z' Z; refine ⟨i + 1, ⟨⟨hlt, take_succ_eq hno hlt hlt' he⟩, by omega⟩, ?_⟩; refine lt0 ?_ ?_ ?_
            ·simp only [leE, am, seval, reduceCtorEq]; rw [wrap_id (by omega) (by omega)]; simp
            ·simp only [okL, keyIn]; decide
            ·simp only [leB, Arm.v_eq, am, seval, reduceCtorEq]
          ·obtain rfl : i = a.rows.length := eq_of_dec ht hi; have he_rows : a.rows = b.rows := by rw [List.take_length] at hno; rw [hno, hl_rows, List.take_length]
           refine AWp.exit ?_; simp only [exq, seval]; refine hK5 _ ?_; clear hK5; refine AWp.seq_k fun K13 hK13 => ?_; refine rg fun Z z' => ?_; simp only [am, seval, reduceCtorEq]; refine z' _ ?_; clear z' Z; refine AWp.block ?_; refine AWp.loopT (ι := Nat) (fun i => i ≤ a.frm.length ∧ a.frm.take i = b.frm.take i) (fun i => tst [(2, .loc 2 0), (3, .loc 3 0), (6, vint i)] [(2, (Arm.v a, 75)), (3, (Arm.v b, 75))] s 180) (fun i => a.frm.length - i) 0 ⟨⟨Nat.zero_le _, by simp⟩, ?_⟩ ?_
           ·refine lt0 ?_ ?_ ?_
            ·simp only [leE, am, seval, reduceCtorEq] <;> simp
            ·simp only [okL, keyIn]; decide
            ·simp only [leB, Arm.v_eq, am, seval, reduceCtorEq]
           ·rintro i ⟨hi, hno⟩; rw [Arm.v_eq, Arm.v_eq]; refine AWp.seq_k fun K15 hK15 => ?_; refine rg fun Z z' => ?_; simp only [amt, seval, reduceCtorEq]; refine z' _ ?_; clear z' Z; refine AWp.slen 92 (sz := 7) (es := a.frm.map From.v) (by simp only [am, seval, reduceCtorEq]) fun hmax => ?_; have hmx := maxLen_lt; rw [List.length_map] at hmax; refine AWp.cond (t := decide ((i:Int) < a.frm.length)) (by simp only [am, seval, reduceCtorEq]) (fun ht => ?_) (fun ht => ?_)
            ·have hlt : i < a.frm.length := lt_of_dec ht; have hlt' : i < b.frm.length := by omega
             have ix0 : (0 ≤ (i : Int)) = True := by simp
             have ix1 : ((i : Int) < (a.frm.length : Int)) = True := by simp [hlt]
             have ix2 : ((i : Int) < (b.frm.length : Int)) = True := by simp [hlt']
             refine AWp.skip ?_; refine hK15 _ ?_; clear hK15; refine AWp.seq_k fun K17 hK17 => ?_; refine AWp.block ?_; refine AWp.regL mixed [0, 1, 2, 3, 4, 5, 6, 7, 8, 9, 10, 11] (by decide +kernel) [99999] (by decide +kernel) fun Z z' => ?_; simp only [ix0, ix1, ix2, true_and, getD_map _ _ _ hlt, getD_map _ _ _ hlt', From.v_eq, aml, Nat.reduceBEq, amt, seval, reduceCtorEq]; rw [← From.v_eq, ← From.v_eq]; refine (hfrm a.frm[i] (List.getElem_mem hlt) b.frm[i] _).go ?_; simp only [vbool, ix0, ix1, ix2, true_and, getD_map _ _ _ hlt, getD_map _ _ _ hlt', From.v_eq, aml, Nat.reduceBEq, amt, seval, reduceCtorEq]; refine z' _ ?_; clear z' Z; refine AWp.cond (t := !same a.frm[i] b.frm[i]) (by simp only [am, seval, reduceCtorEq]) (fun ht => ?_) (fun ht => ?_)
             ·have hne : a.frm[i] ≠ b.frm[i] := fun e => by rw [e] at ht; simp [same_self] at ht
              refine rg fun Z z' => ?_; simp only [am, seval, reduceCtorEq]; refine z' _ ?_; clear z' Z; refine AWp.ret ?_; refine rt (vs := [.base (.bool false)]) rfl ⟨?_, rfl⟩; rw [same_false.2 (fun e => by subst e; exact hne rfl)]; rfl
             ·have he : a.frm[i] = b.frm[i] := same_iff.1 (by simpa using ht); refine AWp.skip ?_; refine hK17 _ ?_; clear hK17; refine rg1 fun Z z' => ?_; simp only [amt, seval, reduceCtorEq]; refine z' _ ?_; clear z' Z; refine ⟨i + 1, ⟨⟨hlt, take_succ_eq hno hlt hlt' he⟩, by omega⟩, ?_⟩; refine lt0 ?_ ?_ ?_
              ·simp only [leE, am, seval, reduceCtorEq]; rw [wrap_id (by omega) (by omega)]; simp
              ·simp only [okL, keyIn]; decide
              ·simp only [leB, Arm.v_eq, am, seval, reduceCtorEq]
            ·obtain rfl : i = a.frm.length := eq_of_dec ht hi; have he_frm : a.frm = b.frm := by rw [List.take_length] at hno; rw [hno, hl_frm, List.take_length]
             refine AWp.exit ?_; simp only [exq, seval]; refine hK13 _ ?_; clear hK13; refine AWp.seq_k fun K21 hK21 => ?_; refine rg fun Z z' => ?_; simp only [am, seval, reduceCtorEq]; refine z' _ ?_; clear z' Z; refine AWp.block ?_; refine AWp.loopT (ι := Nat) (fun i => i ≤ a.aggs.length ∧ a.aggs.take i = b.aggs.take i) (fun i => tst [(2, .loc 2 0), (3, .loc 3 0), (7, vint i)] [(2, (Arm.v a, 75)), (3, (Arm.v b, 75))] s 180) (fun i => a.aggs.length - i) 0 ⟨⟨Nat.zero_le _, by simp⟩, ?_⟩ ?_
             ·refine lt0 ?_ ?_ ?_
              ·simp only [leE, am, seval, reduceCtorEq] <;> simp
              ·simp only [okL, keyIn]; decide
              ·simp only [leB, Arm.v_eq, am, seval, reduceCtorEq]
             ·rintro i ⟨hi, hno⟩; rw [Arm.v_eq, Arm.v_eq]; refine AWp.seq_k fun K23 hK23 => ?_; refine rg fun Z z' => ?_; simp only [amt, seval, reduceCtorEq]; refine z' _ ?_; clear z' Z; refine AWp.slen 111 (sz := 5) (es := a.aggs.map Agg.v) (by simp only [am, seval, reduceCtorEq]) fun hmax => ?_; have hmx := maxLen_lt; rw [List.length_map] at hmax; refine AWp.cond (t := decide ((i:Int) < a.aggs.length)) (by simp only [am, seval, reduceCtorEq]) (fun ht => ?_) (fun ht => ?_)
              ·have hlt : i < a.aggs.length := lt_of_dec ht; have hlt' : i < b.aggs.length := by omega
               have ix0 : (0 ≤ (i : Int)) = True := by simp
               have ix1 : ((i : Int) < (a.aggs.length : Int)) = True := by simp [hlt]
               have ix2 : ((i : Int) < (b.aggs.length : Int)) = True := by simp [hlt']
               refine AWp.skip ?_; refine hK23 _ ?_; clear hK23; refine AWp.seq_k fun K25 hK25 => ?_; refine AWp.block ?_; refine AWp.regL mixed [0, 1, 2, 3, 4, 5, 6, 7, 8, 9, 10, 11] (by decide +kernel) [99999] (by decide +kernel) fun Z z' => ?_; simp only [ix0, ix1, ix2, true_and, getD_map _ _ _ hlt, getD_map _ _ _ hlt', Agg.v_eq, aml, Nat.reduceBEq, amt, seval, reduceCtorEq]; rw [← Agg.v_eq, ← Agg.v_eq]; refine (haggs a.aggs[i] (List.getElem_mem hlt) b.aggs[i] _).go ?_; simp only [vbool, ix0, ix1, ix2, true_and, getD_map _ _ _ hlt, getD_map _ _ _ hlt', Agg.v_eq, aml, Nat.reduceBEq, amt, seval, reduceCtorEq]; refine z' _ ?_; clear z' Z; refine AWp.cond (t := !same a.aggs[i] b.aggs[i]) (by simp only [am, seval, reduceCtorEq]) (fun ht => ?_) (fun ht => ?_)
               ·have hne : a.aggs[i] ≠ b.aggs[i] := fun e => by rw [e] at ht; simp [same_self] at ht
                refine rg fun Z z' => ?_; simp only [am, seval, reduceCtorEq]; refine z' _ ?_; clear z' Z; refine AWp.ret ?_; refine rt (vs := [.base (.bool false)]) rfl ⟨?_, rfl⟩; rw [same_false.2 (fun e => by subst e; exact hne rfl)]; rfl
               ·have he : a.aggs[i] = b.aggs[i] := same_iff.1 (by simpa using ht); refine AWp.skip ?_; refine hK25 _ ?_; clear hK25; refine rg1 fun Z z' => ?_; simp only [amt, seval, reduceCtorEq]; refine z' _ ?_; clear z' Z; refine ⟨i + 1, ⟨⟨hlt, take_succ_eq hno hlt hlt' he⟩, by omega⟩, ?_⟩; refine lt0 ?_ ?_ ?_
                ·simp only [leE, am, seval, reduceCtorEq]; rw [wrap_id (by omega) (by omega)]; simp
                ·simp only [okL, keyIn]; decide
                ·simp only [leB, Arm.v_eq, am, seval, reduceCtorEq]
              ·obtain rfl : i = a.aggs.length := eq_of_dec ht hi; have he_aggs : a.aggs = b.aggs := by rw [List.take_length] at hno; rw [hno, hl_aggs, List.take_length]
               refine AWp.exit ?_; simp only [exq, seval]; refine hK21 _ ?_; clear hK21; refine AWp.seq_k fun K29 hK29 => ?_; refine rg fun Z z' => ?_; simp only [am, seval, reduceCtorEq]; refine z' _ ?_; clear z' Z; refine AWp.block ?_; refine AWp.loopT (ι := Nat) (fun i => i ≤ a.steps.length ∧ a.steps.take i = b.steps.take i) (fun i => tst [(2, .loc 2 0), (3, .loc 3 0), (8, vint i)] [(2, (Arm.v a, 75)), (3, (Arm.v b, 75))] s 180) (fun i => a.steps.length - i) 0 ⟨⟨Nat.zero_le _, by simp⟩, ?_⟩ ?_
               ·refine lt0 ?_ ?_ ?_
                ·simp only [leE, am, seval, reduceCtorEq] <;> simp
                ·simp only [okL, keyIn]; decide
                ·simp only [leB, Arm.v_eq, am, seval, reduceCtorEq]
               ·rintro i ⟨hi, hno⟩; rw [Arm.v_eq, Arm.v_eq]; refine AWp.seq_k fun K31 hK31 => ?_; refine rg fun Z z' => ?_; simp only [amt, seval, reduceCtorEq]; refine z' _ ?_; clear z' Z; refine AWp.slen 130 (sz := 7) (es := a.steps.map Step.v) (by simp only [am, seval, reduceCtorEq]) fun hmax => ?_; have hmx := maxLen_lt; rw [List.length_map] at hmax; refine AWp.cond (t := decide ((i:Int) < a.steps.length)) (by simp only [am, seval, reduceCtorEq]) (fun ht => ?_) (fun ht => ?_)
                ·have hlt : i < a.steps.length := lt_of_dec ht; have hlt' : i < b.steps.length := by omega
                 have ix0 : (0 ≤ (i : Int)) = True := by simp
                 have ix1 : ((i : Int) < (a.steps.length : Int)) = True := by simp [hlt]
                 have ix2 : ((i : Int) < (b.steps.length : Int)) = True := by simp [hlt']
                 refine AWp.skip ?_; refine hK31 _ ?_; clear hK31; refine AWp.seq_k fun K33 hK33 => ?_; refine AWp.block ?_; refine AWp.regL mixed [0, 1, 2, 3, 4, 5, 6, 7, 8, 9, 10, 11] (by decide +kernel) [99999] (by decide +kernel) fun Z z' => ?_; simp only [ix0, ix1, ix2, true_and, getD_map _ _ _ hlt, getD_map _ _ _ hlt', Step.v_eq, aml, Nat.reduceBEq, amt, seval, reduceCtorEq]; rw [← Step.v_eq, ← Step.v_eq]; refine (hsteps a.steps[i] (List.getElem_mem hlt) b.steps[i] _).go ?_; simp only [vbool, ix0, ix1, ix2, true_and, getD_map _ _ _ hlt, getD_map _ _ _ hlt', Step.v_eq, aml, Nat.reduceBEq, amt, seval, reduceCtorEq]; refine z' _ ?_; clear z' Z; refine AWp.cond (t := !same a.steps[i] b.steps[i]) (by simp only [am, seval, reduceCtorEq]) (fun ht => ?_) (fun ht => ?_)
                 ·have hne : a.steps[i] ≠ b.steps[i] := fun e => by rw [e] at ht; simp [same_self] at ht
                  refine rg fun Z z' => ?_; simp only [am, seval, reduceCtorEq]; refine z' _ ?_; clear z' Z; refine AWp.ret ?_; refine rt (vs := [.base (.bool false)]) rfl ⟨?_, rfl⟩; rw [same_false.2 (fun e => by subst e; exact hne rfl)]; rfl
                 ·have he : a.steps[i] = b.steps[i] := same_iff.1 (by simpa using ht); refine AWp.skip ?_; refine hK33 _ ?_; clear hK33; refine rg1 fun Z z' => ?_; simp only [amt, seval, reduceCtorEq]; refine z' _ ?_; clear z' Z; refine ⟨i + 1, ⟨⟨hlt, take_succ_eq hno hlt hlt' he⟩, by omega⟩, ?_⟩; refine lt0 ?_ ?_ ?_
                  ·simp only [leE, am, seval, reduceCtorEq]; rw [wrap_id (by omega) (by omega)]; simp
                  ·simp only [okL, keyIn]; decide
                  ·simp only [leB, Arm.v_eq, am, seval, reduceCtorEq]
                ·obtain rfl : i = a.steps.length := eq_of_dec ht hi; have he_steps : a.steps = b.steps := by rw [List.take_length] at hno; rw [hno, hl_steps, List.take_length]
                 refine AWp.exit ?_; simp only [exq, seval]; refine hK29 _ ?_; clear hK29; refine rg fun Z z' => ?_; rcases (Bool.eq_false_or_eq_true (same a.whr b.whr)).symm with hd0 | hd0
                 ·simp only [hd0, amt, seval, reduceCtorEq]; refine (h57 a.whr b.whr (by simp) _).go ?_; simp only [vbool, hd0, amt, seval, reduceCtorEq]; refine z' _ ?_; clear z' Z; refine AWp.ret ?_; refine rt (vs := [.base (.bool false)]) rfl ⟨?_, rfl⟩; rw [same_of_imp (fun e => by rw [e]; simp [same_self]) hd0]; rfl
                 ·rcases (Bool.eq_false_or_eq_true (same a.group b.group)).symm with hd1 | hd1
                  ·simp only [hd0, hd1, amt, seval, reduceCtorEq]; refine (h57 a.whr b.whr (by simp) _).go ?_; simp only [vbool, hd0, hd1, amt, seval, reduceCtorEq]; refine (h57 a.group b.group (by simp) _).go ?_; simp only [vbool, hd0, hd1, amt, seval, reduceCtorEq]; refine z' _ ?_; clear z' Z; refine AWp.ret ?_; refine rt (vs := [.base (.bool false)]) rfl ⟨?_, rfl⟩; rw [same_of_imp (fun e => by rw [e]; simp [same_self]) hd1]; rfl
                  ·rcases (Bool.eq_false_or_eq_true (same a.having b.having)).symm with hd2 | hd2
                   ·simp only [hd0, hd1, hd2, amt, seval, reduceCtorEq]; refine (h57 a.whr b.whr (by simp) _).go ?_; simp only [vbool, hd0, hd1, hd2, amt, seval, reduceCtorEq]; refine (h57 a.group b.group (by simp) _).go ?_; simp only [vbool, hd0, hd1, hd2, amt, seval, reduceCtorEq]; refine (h57 a.having b.having (by simp) _).go ?_; simp only [vbool, hd0, hd1, hd2, amt, seval, reduceCtorEq]; refine z' _ ?_; clear z' Z; refine AWp.ret ?_; refine rt (vs := [.base (.bool false)]) rfl ⟨?_, rfl⟩; rw [same_of_imp (fun e => by rw [e]; simp [same_self]) hd2]; rfl
                   ·rcases (Bool.eq_false_or_eq_true (same a.out b.out)).symm with hd3 | hd3
                    ·simp only [hd0, hd1, hd2, hd3, amt, seval, reduceCtorEq]; refine (h57 a.whr b.whr (by simp) _).go ?_; simp only [vbool, hd0, hd1, hd2, hd3, amt, seval, reduceCtorEq]; refine (h57 a.group b.group (by simp) _).go ?_; simp only [vbool, hd0, hd1, hd2, hd3, amt, seval, reduceCtorEq]; refine (h57 a.having b.having (by simp) _).go ?_; simp only [vbool, hd0, hd1, hd2, hd3, amt, seval, reduceCtorEq]; refine (h57 a.out b.out (by simp) _).go ?_; simp only [vbool, hd0, hd1, hd2, hd3, amt, seval, reduceCtorEq]; refine z' _ ?_; clear z' Z; refine AWp.ret ?_; refine rt (vs := [.base (.bool false)]) rfl ⟨?_, rfl⟩; rw [same_of_imp (fun e => by rw [e]; simp [same_self]) hd3]; rfl
                    ·simp only [hd0, hd1, hd2, hd3, amt, seval, reduceCtorEq]; refine (h57 a.whr b.whr (by simp) _).go ?_; simp only [vbool, hd0, hd1, hd2, hd3, amt, seval, reduceCtorEq]; refine (h57 a.group b.group (by simp) _).go ?_; simp only [vbool, hd0, hd1, hd2, hd3, amt, seval, reduceCtorEq]; refine (h57 a.having b.having (by simp) _).go ?_; simp only [vbool, hd0, hd1, hd2, hd3, amt, seval, reduceCtorEq]; refine (h57 a.out b.out (by simp) _).go ?_; simp only [vbool, hd0, hd1, hd2, hd3, amt, seval, reduceCtorEq]; refine (h57 a.extra b.extra (by simp) _).go ?_; simp only [vbool, hd0, hd1, hd2, hd3, amt, seval, reduceCtorEq]; refine z' _ ?_; clear z' Z; refine AWp.ret ?_; refine rt (vs := [.base (.bool (same a.extra b.extra))]) rfl ⟨?_, rfl⟩; have key : same a b = same a.extra b.extra := by cases a; cases b; simp only [bne_eq_false_iff_eq, Bool.not_eq_false', same_iff, beq_iff_eq, bytes_eq] at *; refine same_eq_of ?_; simp_all
                     rw [key]; rfl
theorem le_sum {α : Type} (f : α → Nat) : ∀ (l : List α) (x : α), x ∈ l → f x ≤ (l.map f).sum
 | y :: l, x, h => by
  rw [List.map_cons, List.sum_cons]
  rcases List.mem_cons.1 h with rfl | h
  ·omega
  ·have := le_sum f l x h; omega
theorem same_all : ∀ n : Nat, (∀ t : Term, t.w ≤ n → ∀ b : Term, Gives Tryz.prog 101 [.agg t.v, .agg b.v] (vbool (same t b))) ∧ (∀ q : Query, q.w ≤ n → ∀ b : Query, Gives Tryz.prog 32 [.agg q.v, .agg b.v] (vbool (same q b))) ∧
  (∀ a : Arm, a.w ≤ n → ∀ b : Arm, Gives Tryz.prog 58 [.agg a.v, .agg b.v] (vbool (same a b)))
 | 0 => ⟨fun t h => by rw [Term.w_eq] at h; omega, fun t h => by rw [Query.w_eq] at h; omega, fun t h => by rw [Arm.w_eq] at h; omega⟩
 | n + 1 => by
  obtain ⟨i1, i2, i3⟩ := same_all n
  have T : ∀ l : List Term, (l.map Term.w).sum ≤ n → ∀ y : List Term, Gives Tryz.prog 57 [.slice 14 (l.map Term.v), .slice 14 (y.map Term.v)] (vbool (same l y)) := fun l h y =>
   f57_spec l y fun a ha b => i1 a (by have := le_sum Term.w l a ha; omega) b
  have Q : ∀ l : List Query, (l.map Query.w).sum ≤ n → ∀ y : List Query, Gives Tryz.prog 34 [.slice 5 (l.map Query.v), .slice 5 (y.map Query.v)] (vbool (same l y)) := fun l h y =>
   f34_spec l y fun a ha b => i2 a (by have := le_sum Query.w l a ha; omega) b
  refine ⟨fun t h b => ?_, fun q h b => ?_, fun a h b => ?_⟩
  ·rw [Term.w_eq] at h
   exact f101_spec t b (T _ (by omega) _) (Q _ (by omega) _)
  ·rw [Query.w_eq] at h
   refine f32_spec q b (fun x y hx => T x (by rcases hx with rfl | rfl <;> omega) y) fun x hx y => i3 x (by have := le_sum Arm.w _ x hx; omega) y
  ·rw [Arm.w_eq] at h
   refine f58_spec a b (fun x hx y => T x ?_ y) (fun x hx y => ?_) (fun x hx y => ?_) (fun x hx y => ?_) fun x y hx => T x ?_ y
   ·have := le_sum (fun l => 1 + (l.map Term.w).sum) _ x hx; omega
   ·have := le_sum From.w _ x hx
    rw [From.w_eq] at this
    exact f102_spec x y (Q _ (by omega) _) (T _ (by omega) _)
   ·have := le_sum Agg.w _ x hx
    rw [Agg.w_eq] at this
    exact f103_spec x y (T _ (by omega) _)
   ·have := le_sum Step.w _ x hx
    rw [Step.w_eq] at this
    have B : ∀ l : List Bound, (l.map Bound.w).sum ≤ n → ∀ y : List Bound, Gives Tryz.prog 143 [.slice 15 (l.map Bound.v), .slice 15 (y.map Bound.v)] (vbool (same l y)) := fun l h y =>
     f143_spec l y fun a ha b => i1 a.term (by have := le_sum Bound.w l a ha; rw [Bound.w_eq] at this; omega) b
    exact f104_spec x y (T _ (by omega) _) (B _ (by omega) _) (B _ (by omega) _)
   ·simp only [List.mem_cons, List.not_mem_nil, or_false] at hx
    rcases hx with rfl | rfl | rfl | rfl | rfl <;> omega
theorem same_queries (l y : List Query) : Gives Tryz.prog 34 [.slice 5 (l.map Query.v), .slice 5 (y.map Query.v)] (vbool (same l y)) := f34_spec l y fun a _ b => (same_all a.w).2.1 a (Nat.le_refl _) b
theorem same_query (a b : Query) : Gives Tryz.prog 32 [.agg a.v, .agg b.v] (vbool (same a b)) := (same_all a.w).2.1 a (Nat.le_refl _) b
theorem same_term (a b : Term) : Gives Tryz.prog 101 [.agg a.v, .agg b.v] (vbool (same a b)) := (same_all a.w).1 a (Nat.le_refl _) b
end Go.Proofs.YtcckhbconihagaaGreatDoor
