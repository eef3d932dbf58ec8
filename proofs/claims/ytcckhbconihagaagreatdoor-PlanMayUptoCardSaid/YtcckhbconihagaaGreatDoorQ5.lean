/- What the reference asks of terms: In, Within, Selects, Turn, Side, Says. -/
import Derived.Test.YtcckhbconihagaaGreatDoorQ7
import Derived.Test.YtcckhbconihagaaGreatDoorQ4
set_option linter.unusedSimpArgs false
set_option linter.unusedVariables false
set_option maxRecDepth 100000
namespace Go.Proofs.YtcckhbconihagaaGreatDoor
open Go.Am Go.Pl
theorem beq_symm {x y : Int} : (x == y) = (y == x) := by rw [Bool.eq_iff_iff, beq_iff_eq, beq_iff_eq]; exact eq_comm
theorem any_at {α : Type} {p : α → Bool} {l : List α} {i : Nat} (h : i < l.length) (hp : p l[i] = true) : l.any p = true := List.any_eq_true.2 ⟨l[i], List.getElem_mem h, hp⟩
theorem any_end {α : Type} {p : α → Bool} {l : List α} (h : (l.take l.length).any p = false) : l.any p = false := by rwa [List.take_length] at h
theorem Term.v_drop (t : Term) : t.v.drop 14 = [] := List.drop_of_length_le (by rw [Term.v_len]; exact Nat.le_refl _)
theorem Term.v_op (t : Term) : t.v[0]? = some (vint t.op) := by rw [Term.v_eq]; rfl
theorem Term.v_neg (t : Term) : t.v[1]? = some (vbool t.neg) := by rw [Term.v_eq]; rfl
theorem Term.v_n (t : Term) : t.v[2]? = some (vint t.n) := by rw [Term.v_eq]; rfl
theorem Term.v_frm (t : Term) : t.v[3]? = some (vint t.frm) := by rw [Term.v_eq]; rfl
theorem Term.v_col (t : Term) : t.v[4]? = some (vint t.col) := by rw [Term.v_eq]; rfl
theorem Term.v_coll (t : Term) : t.v[9]? = some (vint t.coll) := by rw [Term.v_eq]; rfl
theorem Term.v_l (t : Term) : t.v[10]? = some (vint t.l) := by rw [Term.v_eq]; rfl
theorem Term.v_r (t : Term) : t.v[11]? = some (vint t.r) := by rw [Term.v_eq]; rfl
theorem Term.v_args (t : Term) : t.v[12]? = some (.slice 14 (t.args.map Term.v)) := by rw [Term.v_eq]; rfl
theorem Term.v_sub (t : Term) : t.v[13]? = some (.slice 5 (t.sub.map Query.v)) := by rw [Term.v_eq]; rfl
theorem reach_one (t : Term) (hw : t.w ≤ 2^28) : Gives Tryz.prog 12 [.slice 14 [t.v], vint 0] (vints (reachT t)) := by
  have := (reach_all t.w (by omega)).1 [t] 0 (by simp) (by omega)
  rw [hTerms, hTerms, List.append_nil] at this
  exact this
def hold3 (x y : Int) : Bool := (x == 1) || ((x == 2) && (y != 1)) || ((x == 0) && (y == 0))
def hold4 (x y : Int) : Bool := (x == 2) && (y != 2) && (y != 0)
theorem endOk_ref (x y : Int) : endOk x y = (hold3 x y && !hold4 x y) := by
  unfold endOk end1 end2 hold3 hold4
  have hx : x = 1 ∨ x = 2 ∨ x = 0 ∨ ((x == 1) = false ∧ (x == 2) = false ∧ (x == 0) = false) := by simp only [beq_eq_false_iff_ne]; omega
  have hy : y = 1 ∨ y = 2 ∨ y = 0 ∨ ((y == 1) = false ∧ (y == 2) = false ∧ (y == 0) = false) := by simp only [beq_eq_false_iff_ne]; omega
  rcases hx with rfl | rfl | rfl | ⟨a, b, c⟩ <;> rcases hy with rfl | rfl | rfl | ⟨d, e, f⟩ <;> first | rfl | (simp only [bne, *]; rfl)
theorem endOk_of {x y : Int} (h3 : hold3 x y = true) (h4 : hold4 x y = false) : endOk x y = true := by rw [endOk_ref, h3, h4]; rfl
theorem endOk_h3 {x y : Int} (h3 : hold3 x y = false) : endOk x y = false := by rw [endOk_ref, h3]; rfl
theorem endOk_h4 {x y : Int} (h4 : hold4 x y = true) : endOk x y = false := by rw [endOk_ref, h4, Bool.not_true, Bool.and_false]
theorem endT_same {o : Term} {x y : Int} (h9 : end1 x y = false) (h3 : hold3 x y = true) (h4 : hold4 x y = false) : endT o x y = o := by
  have h := endOk_of h3 h4
  unfold endOk at h
  rw [h9, Bool.false_or] at h
  simp only [endT, h9, h, ↓reduceIte, Bool.false_eq_true]
theorem side_bad {k op coll : Int} {c o : Term} {x y : Int} (h : sideBad k c o = true) : side k op coll c o x y = [] := by unfold side; rw [h]; rfl
theorem side_no {k op coll : Int} {c o : Term} {x y : Int} (h : endOk x y = false) : side k op coll c o x y = [] := by unfold side; rw [h]; split <;> rfl
theorem side_yes {k op coll : Int} {c o : Term} {x y : Int} (h : sideBad k c o = false) (h2 : endOk x y = true) : side k op coll c o x y = [⟨op, c.col, coll, endT o x y⟩] := by unfold side; rw [h, h2]; rfl
def refBad (t : Term) : Bool := t.neg || (((t.args.length : Nat) : Int) != 2) || ((t.op != 13) && (t.op != 15) && (t.op != 16) && (t.op != 17) && (t.op != 18))
theorem refBad_eq (t : Term) : refBad t = saysBad t := by
  have e : ((t.op != 13) && (t.op != 15) && (t.op != 16) && (t.op != 17) && (t.op != 18)) = ((t.op != 13) && (decide (t.op < 15) || decide (t.op > 18))) := by
    rw [Bool.eq_iff_iff]
    simp only [Bool.and_eq_true, Bool.or_eq_true, bne_iff_ne, decide_eq_true_eq]
    omega
  unfold refBad saysBad
  rw [e, Bool.or_assoc, Bool.or_assoc]
  congr 1
  exact Bool.or_comm _ _
theorem refBad_len {t : Term} (h : refBad t = false) : t.args.length = 2 := by
  unfold refBad at h
  simp only [Bool.or_eq_false_iff] at h
  have := bne_eq_false_iff_eq.1 h.1.2; omega
theorem f86_spec (l : List Int) (n : Int) : Gives Tryz.prog 86 [vints l, vint n] (vbool (l.any (n == ·))) := by
 intro s
 refine acalls_of (fn := Tryz.f86) Tryz.func86 rfl (by decide) (by show 2 ≤ 18; decide) ?_
 rw [Tryz.ntmps86]
 refine AWp.reg fun R1 hR1 => ?_
 simp only [am, seval, reduceCtorEq]
 refine hR1 _ ?_; clear hR1 R1
 refine AWp.seq_k fun K2 hK2 => ?_
 refine AWp.reg fun R3 hR3 => ?_
 simp only [am, seval, reduceCtorEq]
 refine hR3 _ ?_; clear hR3 R3
 refine AWp.block ?_
 refine AWp.slen 0 (sz := 1) (es := l.map (fun x => [vint x])) (by simp only [am, seval, reduceCtorEq]) fun hmax => ?_
 have hmx := maxLen_lt; (try rw [List.length_map] at hmax)
 refine AWp.loopT (ι := Nat) (fun i => i ≤ l.length ∧ (l.take i).any (n == ·) = false) (fun i => tst [(0, vints l), (1, vint n), (5, vint i)] [] s 18) (fun i => l.length - i) 0 ⟨⟨Nat.zero_le _, by simp⟩, ?_⟩ ?_
 ·refine le_tst ?_ ?_ ?_ (Heap.le.refl _) rfl
  ·simp only [leE, am, seval, reduceCtorEq] <;> simp
  ·simp only [oks, Nat.reduceBEq]
  ·simp only [leB, am, seval, reduceCtorEq]
 ·rintro i ⟨hi, hno⟩
  refine AWp.seq_k fun K4 hK4 => ?_
  refine AWp.reg fun R5 hR5 => ?_
  simp only [ty3, ty50, am, seval, reduceCtorEq]
  refine hR5 _ ?_; clear hR5 R5
  refine AWp.cond (t := decide ((i:Int) < (l.length : Nat))) (by simp only [am, seval, reduceCtorEq]) (fun ht => ?_) (fun ht => ?_)
  ·have hlt : i < l.length := lt_of_dec ht
   have ix0 : (0 ≤ (i : Int)) = True := by simp
   have ix1 : ((i : Int) < ((l.length : Nat) : Int)) = True := by simp [hlt]
   refine AWp.skip ?_
   refine hK4 _ ?_; clear hK4
   refine AWp.seq_k fun K6 hK6 => ?_
   refine AWp.block ?_
   refine AWp.reg fun R7 hR7 => ?_
   simp only [ix0, ix1, true_and, getD_map _ _ _ hlt, ty3, ty50, am, seval, reduceCtorEq]
   refine hR7 _ ?_; clear hR7 R7
   refine AWp.condK fun C1 C2 hC1 hC2 => ?_
   simp only [condP, am, seval, reduceCtorEq]
   refine ⟨fun hc17 => hC1 ?_, fun hc17 => hC2 ?_⟩ <;> clear hC1 hC2 C1 C2
   ·refine AWp.reg fun R8 hR8 => ?_
    simp only [am, seval, reduceCtorEq]
    refine hR8 _ ?_; clear hR8 R8
    refine AWp.ret ?_
    refine ret_intro (by show resV Tryz.prog _ [.tmp 4] = _; simp only [resV, am, seval, reduceCtorEq]; rfl) (Wk.refl _) (Heap.le.refl _) ⟨?_, rfl⟩
    simp only [oneV]; rw [any_at hlt (p := (n == ·)) (by rw [beq_symm]; exact hc17)]
   ·refine AWp.skip ?_
    refine hK6 _ ?_; clear hK6
    refine AWp.reg1 fun R9 hR9 => ?_
    simp only [ty3, am, seval, reduceCtorEq]
    refine hR9 _ ?_; clear hR9 R9
    refine ⟨i + 1, ⟨⟨hlt, any_take_succ hlt hno (by rw [beq_symm]; exact hc17)⟩, by omega⟩, ?_⟩
    refine le_tst ?_ ?_ ?_ (Heap.le.refl _) rfl
    ·simp only [leE, am, seval, reduceCtorEq]; rw [wrap_id (by omega) (by omega)]; simp
    ·simp only [oks, Nat.reduceBEq]
    ·simp only [leB, am, seval, reduceCtorEq]
  ·obtain rfl : i = l.length := eq_of_dec ht hi
   refine AWp.exit ?_
   simp only [exq, seval]
   refine hK2 _ ?_; clear hK2
   refine AWp.reg fun R10 hR10 => ?_
   simp only [am, seval, reduceCtorEq]
   refine hR10 _ ?_; clear hR10 R10
   refine AWp.ret ?_
   refine ret_intro (by show resV Tryz.prog _ [.tmp 4] = _; simp only [resV, am, seval, reduceCtorEq]; rfl) (Wk.refl _) (Heap.le.refl _) ⟨?_, rfl⟩
   simp only [oneV]; rw [any_end hno]
theorem f89_spec (t : Term) (hw : t.w ≤ 2^28) (l : List Int) : Gives Tryz.prog 89 [.agg t.v, vints l] (vbool (within t l)) := by
 have hC := reach_one t hw
 obtain ⟨C, hR⟩ : ∃ C, reachT t = C := ⟨_, rfl⟩
 rw [hR] at hC
 intro s
 refine acalls_of (fn := Tryz.f89) Tryz.func89 rfl (by decide) (by show 2 ≤ 23; decide) ?_
 rw [Tryz.ntmps89]
 refine AWp.reg fun R1 hR1 => ?_
 simp only [tvs, ty49, am, seval, reduceCtorEq]
 refine hR1 _ ?_; clear hR1 R1
 refine AWp.reg fun R2 hR2 => ?_
 simp only [tvs, ty31, ty49, am, seval, reduceCtorEq]
 refine (hC _).mono fun v' s' h => ?_
 rw [h.1, h.2]; clear h v' s'
 simp only [tvs, ty31, ty49, am, seval, reduceCtorEq]
 refine hR2 _ ?_; clear hR2 R2
 refine AWp.seq_k fun K3 hK3 => ?_
 refine AWp.reg fun R4 hR4 => ?_
 simp only [am, seval, reduceCtorEq]
 refine hR4 _ ?_; clear hR4 R4
 refine AWp.block ?_
 refine AWp.slen 5 (sz := 1) (es := C.map (fun x => [vint x])) (by simp only [am, seval, reduceCtorEq]) fun hmax => ?_
 have hmx := maxLen_lt; (try rw [List.length_map] at hmax)
 refine AWp.loopT (ι := Nat) (fun i => i ≤ C.length ∧ (C.take i).any (fun k => !(l.any (k == ·))) = false) (fun i => tst [(1, vints l), (5, vints C), (6, vint i)] [] s 23) (fun i => C.length - i) 0 ⟨⟨Nat.zero_le _, by simp⟩, ?_⟩ ?_
 ·refine le_tst ?_ ?_ ?_ (Heap.le.refl _) rfl
  ·simp only [leE, am, seval, reduceCtorEq] <;> simp
  ·simp only [oks, Nat.reduceBEq]
  ·simp only [leB, am, seval, reduceCtorEq]
 ·rintro i ⟨hi, hno⟩
  refine AWp.seq_k fun K5 hK5 => ?_
  refine AWp.reg fun R6 hR6 => ?_
  simp only [ty3, ty50, am, seval, reduceCtorEq]
  refine hR6 _ ?_; clear hR6 R6
  refine AWp.cond (t := decide ((i:Int) < (C.length : Nat))) (by simp only [am, seval, reduceCtorEq]) (fun ht => ?_) (fun ht => ?_)
  ·have hlt : i < C.length := lt_of_dec ht
   have ix0 : (0 ≤ (i : Int)) = True := by simp
   have ix1 : ((i : Int) < ((C.length : Nat) : Int)) = True := by simp [hlt]
   refine AWp.skip ?_
   refine hK5 _ ?_; clear hK5
   refine AWp.seq_k fun K7 hK7 => ?_
   refine AWp.block ?_
   refine AWp.reg fun R8 hR8 => ?_
   simp only [ix0, ix1, true_and, getD_map _ _ _ hlt, ty3, ty50, am, seval, reduceCtorEq]
   refine (f86_spec l C[i] _).mono fun v' s' h => ?_
   rw [h.1, h.2]; clear h v' s'
   simp only [ix0, ix1, true_and, getD_map _ _ _ hlt, ty3, ty50, am, seval, reduceCtorEq]
   refine hR8 _ ?_; clear hR8 R8
   refine AWp.condK fun C1 C2 hC1 hC2 => ?_
   simp only [condP, am, seval, reduceCtorEq]
   refine ⟨fun hc22 => hC1 ?_, fun hc22 => hC2 ?_⟩ <;> clear hC1 hC2 C1 C2
   ·refine AWp.reg fun R9 hR9 => ?_
    simp only [am, seval, reduceCtorEq]
    refine hR9 _ ?_; clear hR9 R9
    refine AWp.ret ?_
    refine ret_intro (by show resV Tryz.prog _ [.tmp 4] = _; simp only [resV, am, seval, reduceCtorEq]; rfl) (Wk.refl _) (Heap.le.refl _) ⟨?_, rfl⟩
    simp only [oneV, within]; rw [hR, any_at hlt (p := fun k => !(l.any (k == ·))) hc22]; rfl
   ·refine AWp.skip ?_
    refine hK7 _ ?_; clear hK7
    refine AWp.reg1 fun R10 hR10 => ?_
    simp only [ty3, am, seval, reduceCtorEq]
    refine hR10 _ ?_; clear hR10 R10
    refine ⟨i + 1, ⟨⟨hlt, any_take_succ hlt hno hc22⟩, by omega⟩, ?_⟩
    refine le_tst ?_ ?_ ?_ (Heap.le.refl _) rfl
    ·simp only [leE, am, seval, reduceCtorEq]; rw [wrap_id (by omega) (by omega)]; simp
    ·simp only [oks, Nat.reduceBEq]
    ·simp only [leB, am, seval, reduceCtorEq]
  ·obtain rfl : i = C.length := eq_of_dec ht hi
   refine AWp.exit ?_
   simp only [exq, seval]
   refine hK3 _ ?_; clear hK3
   refine AWp.reg fun R11 hR11 => ?_
   simp only [am, seval, reduceCtorEq]
   refine hR11 _ ?_; clear hR11 R11
   refine AWp.ret ?_
   refine ret_intro (by show resV Tryz.prog _ [.tmp 4] = _; simp only [resV, am, seval, reduceCtorEq]; rfl) (Wk.refl _) (Heap.le.refl _) ⟨?_, rfl⟩
   simp only [oneV, within]; rw [hR, any_end hno]; rfl
theorem f167_spec (t : Term) (hw : t.args.length ≤ 2^40) (h : ∀ a ∈ t.args, Gives Tryz.prog 167 [.agg a.v] (vbool (selects a))) : Gives Tryz.prog 167 [.agg t.v] (vbool (selects t)) := by
 intro s
 refine acalls_of (fn := Tryz.f167) Tryz.func167 rfl (by decide) (by show 1 ≤ 21; decide) ?_
 rw [Tryz.ntmps167]
 refine AWp.reg fun R1 hR1 => ?_
 simp only [tvs, Term.v_args, Term.v_sub, ty49, am, seval, reduceCtorEq]
 refine hR1 _ ?_; clear hR1 R1
 refine AWp.seq_k fun K2 hK2 => ?_
 refine AWp.reg fun R3 hR3 => ?_
 simp only [tvs, Term.v_args, Term.v_sub, ty3, ty33, ty47, ty49, am, seval, reduceCtorEq]
 refine hR3 _ ?_; clear hR3 R3
 refine AWp.condK fun C1 C2 hC1 hC2 => ?_
 simp only [condP, am, seval, reduceCtorEq]
 refine ⟨fun hc7 => hC1 ?_, fun hc7 => hC2 ?_⟩ <;> clear hC1 hC2 C1 C2
 ·refine AWp.reg fun R4 hR4 => ?_
  simp only [tvs, Term.v_args, Term.v_sub, am, seval, reduceCtorEq]
  refine hR4 _ ?_; clear hR4 R4
  refine AWp.ret ?_
  refine ret_intro (by show resV Tryz.prog _ [.tmp 2] = _; simp only [resV, am, seval, reduceCtorEq]; rfl) (Wk.refl _) (Heap.le.refl _) ⟨?_, rfl⟩
  simp only [oneV]; rw [selects_eq, hc7, Bool.true_or]
 ·refine AWp.skip ?_
  refine hK2 _ ?_; clear hK2
  refine AWp.seq_k fun K5 hK5 => ?_
  refine AWp.reg fun R6 hR6 => ?_
  simp only [tvs, Term.v_args, Term.v_sub, am, seval, reduceCtorEq]
  refine hR6 _ ?_; clear hR6 R6
  refine AWp.block ?_
  refine AWp.loopT (ι := Nat) (fun i => i ≤ t.args.length ∧ (t.args.take i).any selects = false) (fun i => tst [(1, .loc 1 0), (3, vint i)] [(1, (t.v, 49))] s 21) (fun i => t.args.length - i) 0 ⟨⟨Nat.zero_le _, by simp⟩, ?_⟩ ?_
  ·refine le_tst ?_ ?_ ?_ (Heap.le.refl _) rfl
   ·simp only [leE, am, seval, reduceCtorEq] <;> simp
   ·simp only [oks, Nat.reduceBEq]
   ·simp only [leB, am, seval, reduceCtorEq]
  ·rintro i ⟨hi, hno⟩
   refine AWp.seq_k fun K7 hK7 => ?_
   refine AWp.reg fun R8 hR8 => ?_
   simp only [tvs, Term.v_args, Term.v_sub, ty3, ty31, ty49, am, seval, reduceCtorEq]
   refine hR8 _ ?_; clear hR8 R8
   refine AWp.cond (t := decide ((i:Int) < (t.args.length : Nat))) (by simp only [am, seval, reduceCtorEq]) (fun ht => ?_) (fun ht => ?_)
   ·have hlt : i < t.args.length := lt_of_dec ht
    have ix0 : (0 ≤ (i : Int)) = True := by simp
    have ix1 : ((i : Int) < ((t.args.length : Nat) : Int)) = True := by simp [hlt]
    refine AWp.skip ?_
    refine hK7 _ ?_; clear hK7
    refine AWp.seq_k fun K9 hK9 => ?_
    refine AWp.block ?_
    refine AWp.reg fun R10 hR10 => ?_
    simp only [tvs, Term.v_args, Term.v_sub, ix0, ix1, true_and, getD_map _ _ _ hlt, ty31, ty49, am, seval, reduceCtorEq]
    refine (h t.args[i] (List.getElem_mem hlt) _).mono fun v' s' h => ?_
    rw [h.1, h.2]; clear h v' s'
    simp only [tvs, Term.v_args, Term.v_sub, ix0, ix1, true_and, getD_map _ _ _ hlt, ty31, ty49, am, seval, reduceCtorEq]
    refine hR10 _ ?_; clear hR10 R10
    refine AWp.condK fun C1 C2 hC1 hC2 => ?_
    simp only [condP, hc7, am, seval, reduceCtorEq]
    refine ⟨fun hc20 => hC1 ?_, fun hc20 => hC2 ?_⟩ <;> clear hC1 hC2 C1 C2
    ·refine AWp.reg fun R11 hR11 => ?_
     simp only [tvs, Term.v_args, Term.v_sub, am, seval, reduceCtorEq]
     refine hR11 _ ?_; clear hR11 R11
     refine AWp.ret ?_
     refine ret_intro (by show resV Tryz.prog _ [.tmp 2] = _; simp only [resV, am, seval, reduceCtorEq]; rfl) (Wk.refl _) (Heap.le.refl _) ⟨?_, rfl⟩
     simp only [oneV]; rw [selects_eq, any_at hlt hc20, Bool.or_true]
    ·refine AWp.skip ?_
     refine hK9 _ ?_; clear hK9
     refine AWp.reg1 fun R12 hR12 => ?_
     simp only [tvs, Term.v_args, Term.v_sub, ty3, am, seval, reduceCtorEq]
     refine hR12 _ ?_; clear hR12 R12
     refine ⟨i + 1, ⟨⟨hlt, any_take_succ hlt hno hc20⟩, by omega⟩, ?_⟩
     refine le_tst ?_ ?_ ?_ (Heap.le.refl _) rfl
     ·simp only [leE, am, seval, reduceCtorEq]; rw [wrap_id (by omega) (by omega)]; simp
     ·simp only [oks, Nat.reduceBEq]
     ·simp only [leB, am, seval, reduceCtorEq]
   ·obtain rfl : i = t.args.length := eq_of_dec ht hi
    refine AWp.exit ?_
    simp only [exq, seval]
    refine hK5 _ ?_; clear hK5
    refine AWp.reg fun R13 hR13 => ?_
    simp only [tvs, Term.v_args, Term.v_sub, am, seval, reduceCtorEq]
    refine hR13 _ ?_; clear hR13 R13
    refine AWp.ret ?_
    refine ret_intro (by show resV Tryz.prog _ [.tmp 2] = _; simp only [resV, am, seval, reduceCtorEq]; rfl) (Wk.refl _) (Heap.le.refl _) ⟨?_, rfl⟩
    simp only [oneV]; rw [selects_eq, hc7, any_end hno]; rfl
theorem selR_all : ∀ n : Nat, n ≤ 2^30 → ∀ t : Term, t.w ≤ n → Gives Tryz.prog 167 [.agg t.v] (vbool (selects t))
  | 0, _, t, h => by rw [Term.w_eq] at h; omega
  | n + 1, hn, t, h => by
    have hl := len_le Term.w_pos t.args
    rw [Term.w_eq] at h
    exact f167_spec t (by omega) fun a ha => selR_all n (by omega) a (by have := mem_w Term.w t.args a ha; omega)
theorem selR (t : Term) (hw : t.w ≤ 2^30) : Gives Tryz.prog 167 [.agg t.v] (vbool (selects t)) := selR_all t.w hw t (Nat.le_refl _)
theorem f159_spec (op : Int) : Gives Tryz.prog 159 [vint op] (vint (turned op)) := by
 intro s
 refine acalls_of (fn := Tryz.f159) Tryz.func159 rfl (by decide) (by show 1 ≤ 15; decide) ?_
 rw [Tryz.ntmps159]
 refine AWp.reg fun R1 hR1 => ?_
 simp only [am, seval, reduceCtorEq]
 refine hR1 _ ?_; clear hR1 R1
 refine AWp.seq_k fun K2 hK2 => ?_
 refine AWp.reg fun R3 hR3 => ?_
 simp only [am, seval, reduceCtorEq]
 refine hR3 _ ?_; clear hR3 R3
 refine AWp.block ?_
 refine AWp.seq_k fun K4 hK4 => ?_
 refine AWp.reg fun R5 hR5 => ?_
 simp only [ty41, am, seval, reduceCtorEq]
 refine hR5 _ ?_; clear hR5 R5
 refine AWp.condK fun C1 C2 hC1 hC2 => ?_
 simp only [condP, am, seval, reduceCtorEq]
 refine ⟨fun h15 => hC1 ?_, fun h15 => hC2 ?_⟩ <;> clear hC1 hC2 C1 C2
 ·refine AWp.skip ?_
  refine hK4 _ ?_; clear hK4
  refine AWp.cond (t := true) (by simp only [h15, am, seval, reduceCtorEq]) (fun _ => ?_) (fun h => by cases h)
  refine AWp.reg fun R6 hR6 => ?_
  simp only [h15, ty41, am, seval, reduceCtorEq]
  refine hR6 _ ?_; clear hR6 R6
  refine AWp.ret ?_
  refine ret_intro (by show resV Tryz.prog _ [.tmp 2] = _; simp only [resV, am, seval, reduceCtorEq]; rfl) (Wk.refl _) (Heap.le.refl _) ⟨?_, rfl⟩
  (try obtain rfl := eq_of_beq h15); simp only [oneV, turned, h15, ↓reduceIte, Bool.false_eq_true]; try rfl
 ·refine AWp.reg1 fun R7 hR7 => ?_
  simp only [h15, ty41, am, seval, reduceCtorEq]
  refine hR7 _ ?_; clear hR7 R7
  refine hK4 _ ?_; clear hK4
  refine AWp.condK fun C1 C2 hC1 hC2 => ?_
  simp only [condP, h15, am, seval, reduceCtorEq]
  refine ⟨fun h16 => hC1 ?_, fun h16 => hC2 ?_⟩ <;> clear hC1 hC2 C1 C2
  ·refine AWp.reg fun R8 hR8 => ?_
   simp only [h15, h16, ty41, am, seval, reduceCtorEq]
   refine hR8 _ ?_; clear hR8 R8
   refine AWp.ret ?_
   refine ret_intro (by show resV Tryz.prog _ [.tmp 2] = _; simp only [resV, am, seval, reduceCtorEq]; rfl) (Wk.refl _) (Heap.le.refl _) ⟨?_, rfl⟩
   (try obtain rfl := eq_of_beq h16); simp only [oneV, turned, h15, h16, ↓reduceIte, Bool.false_eq_true]; try rfl
  ·refine AWp.seq_k fun K9 hK9 => ?_
   refine AWp.reg fun R10 hR10 => ?_
   simp only [h15, h16, ty41, am, seval, reduceCtorEq]
   refine hR10 _ ?_; clear hR10 R10
   refine AWp.condK fun C1 C2 hC1 hC2 => ?_
   simp only [condP, h15, h16, am, seval, reduceCtorEq]
   refine ⟨fun h17 => hC1 ?_, fun h17 => hC2 ?_⟩ <;> clear hC1 hC2 C1 C2
   ·refine AWp.skip ?_
    refine hK9 _ ?_; clear hK9
    refine AWp.cond (t := true) (by simp only [h15, h16, h17, am, seval, reduceCtorEq]) (fun _ => ?_) (fun h => by cases h)
    refine AWp.reg fun R11 hR11 => ?_
    simp only [h15, h16, h17, ty41, am, seval, reduceCtorEq]
    refine hR11 _ ?_; clear hR11 R11
    refine AWp.ret ?_
    refine ret_intro (by show resV Tryz.prog _ [.tmp 2] = _; simp only [resV, am, seval, reduceCtorEq]; rfl) (Wk.refl _) (Heap.le.refl _) ⟨?_, rfl⟩
    (try obtain rfl := eq_of_beq h17); simp only [oneV, turned, h15, h16, h17, ↓reduceIte, Bool.false_eq_true]; try rfl
   ·refine AWp.reg1 fun R12 hR12 => ?_
    simp only [h15, h16, h17, ty41, am, seval, reduceCtorEq]
    refine hR12 _ ?_; clear hR12 R12
    refine hK9 _ ?_; clear hK9
    refine AWp.condK fun C1 C2 hC1 hC2 => ?_
    simp only [condP, h15, h16, h17, am, seval, reduceCtorEq]
    refine ⟨fun h18 => hC1 ?_, fun h18 => hC2 ?_⟩ <;> clear hC1 hC2 C1 C2
    ·refine AWp.reg fun R13 hR13 => ?_
     simp only [h15, h16, h17, h18, ty41, am, seval, reduceCtorEq]
     refine hR13 _ ?_; clear hR13 R13
     refine AWp.ret ?_
     refine ret_intro (by show resV Tryz.prog _ [.tmp 2] = _; simp only [resV, am, seval, reduceCtorEq]; rfl) (Wk.refl _) (Heap.le.refl _) ⟨?_, rfl⟩
     (try obtain rfl := eq_of_beq h18); simp only [oneV, turned, h15, h16, h17, h18, ↓reduceIte, Bool.false_eq_true]; try rfl
    ·refine AWp.skip ?_
     refine hK2 _ ?_; clear hK2
     refine AWp.reg fun R14 hR14 => ?_
     simp only [h15, h16, h17, h18, am, seval, reduceCtorEq]
     refine hR14 _ ?_; clear hR14 R14
     refine AWp.ret ?_
     refine ret_intro (by show resV Tryz.prog _ [.tmp 2] = _; simp only [resV, am, seval, reduceCtorEq]; rfl) (Wk.refl _) (Heap.le.refl _) ⟨?_, rfl⟩
     (try obtain rfl := eq_of_beq h18); simp only [oneV, turned, h15, h16, h17, h18, ↓reduceIte, Bool.false_eq_true]; try rfl
theorem f158_spec (s : Heap) (g : Nat) (hg : s.own g = none) (out : List Said) (hl : out.length ≤ 2^30) (k op coll : Int) (c o : Term) (how : o.w ≤ 2^28) (x y : Int) : ACalls Tryz.prog 158 [.own g 17 (out.map Said.v), vint k, vint op, vint coll, .agg c.v, .agg o.v, vint x, vint y] (s.setOwn g (some (185, 17))) fun v s' => ∃ g', s.own g' = none ∧ v = .own g' 17 ((out ++ side k op coll c o x y).map Said.v) ∧ s' = s.setOwn g' (some (185, 17)) := by
 have ho := reach_one o how
 refine acalls_of (fn := Tryz.f158) Tryz.func158 rfl (by decide) (by show 8 ≤ 108; decide) ?_
 rw [Tryz.ntmps158]
 refine AWp.reg fun R1 hR1 => ?_
 simp only [tvs, ty49, am, seval, reduceCtorEq]
 refine hR1 _ ?_; clear hR1 R1
 refine AWp.seq_k fun K2 hK2 => ?_
 refine AWp.seq_cut (ι := Unit) (fun _ => True) (fun _ => tst [(0, .own g 17 (out.map Said.v)), (1, vint k), (2, vint op), (3, vint coll), (6, vint x), (7, vint y), (12, .loc 12 0), (13, .loc 13 0), (47, vbool (sideBad k c o))] [(12, (c.v, 49)), (13, (o.v, 49))] (s.setOwn g (some (185, 17))) 108) ?_ ?_
 ·refine AWp.reg1 fun R3 hR3 => ?_
  simp only [tvs, Term.v_op, Term.v_neg, Term.v_n, Term.v_frm, ty3, ty4, ty31, ty41, ty49, List.append_eq, undef, am, seval, reduceCtorEq]
  refine gF (fun hg1_3 => ?_) (fun hg1_3 => ?_)
  ·simp only [tvs, Term.v_op, Term.v_neg, Term.v_n, Term.v_frm, hg1_3, ty3, ty4, ty31, ty41, ty49, List.append_eq, undef, am, seval, reduceCtorEq]
   refine gF (fun hg1_7 => ?_) (fun hg1_7 => ?_)
   ·simp only [tvs, Term.v_op, Term.v_neg, Term.v_n, Term.v_frm, hg1_3, hg1_7, ty3, ty4, ty31, ty41, ty49, List.append_eq, undef, am, seval, reduceCtorEq]
    refine gF (fun hg1_12 => ?_) (fun hg1_12 => ?_)
    ·simp only [tvs, Term.v_op, Term.v_neg, Term.v_n, Term.v_frm, hg1_3, hg1_7, hg1_12, ty3, ty4, ty31, ty41, ty49, List.append_eq, undef, am, seval, reduceCtorEq]
     refine gF (fun hg1_18 => ?_) (fun hg1_18 => ?_)
     ·simp only [tvs, Term.v_op, Term.v_neg, Term.v_n, Term.v_frm, hg1_3, hg1_7, hg1_12, hg1_18, ty3, ty4, ty31, ty41, ty49, List.append_eq, undef, am, seval, reduceCtorEq]
      refine (ho _).mono fun v' s' h => ?_
      rw [h.1, h.2]; clear h v' s'
      simp only [tvs, Term.v_op, Term.v_neg, Term.v_n, Term.v_frm, hg1_3, hg1_7, hg1_12, hg1_18, ty3, ty4, ty31, ty41, ty49, List.append_eq, undef, am, seval, reduceCtorEq]
      refine (f86_spec _ k _).mono fun v' s' h => ?_
      rw [h.1, h.2]; clear h v' s'
      simp only [tvs, Term.v_op, Term.v_neg, Term.v_n, Term.v_frm, hg1_3, hg1_7, hg1_12, hg1_18, ty3, ty4, ty31, ty41, ty49, List.append_eq, undef, am, seval, reduceCtorEq]
      refine gF (fun hg1_25 => ?_) (fun hg1_25 => ?_)
      ·simp only [tvs, Term.v_op, Term.v_neg, Term.v_n, Term.v_frm, hg1_3, hg1_7, hg1_12, hg1_18, hg1_25, ty3, ty4, ty31, ty41, ty49, List.append_eq, undef, am, seval, reduceCtorEq]
       refine (selR o (by omega) _).mono fun v' s' h => ?_
       rw [h.1, h.2]; clear h v' s'
       simp only [tvs, Term.v_op, Term.v_neg, Term.v_n, Term.v_frm, hg1_3, hg1_7, hg1_12, hg1_18, hg1_25, ty3, ty4, ty31, ty41, ty49, List.append_eq, undef, am, seval, reduceCtorEq]
       refine hR3 _ ?_; clear hR3 R3
       refine ⟨(), trivial, ?_⟩
       refine le_tst ?_ ?_ ?_ (Heap.le.refl _) rfl
       ·simp only [leE, sideBad, hg1_3, hg1_7, hg1_12, hg1_18, hg1_25, bo, Bool.not_true, Bool.not_false, ↓reduceIte, Bool.false_eq_true, am, seval, reduceCtorEq]
       ·simp only [oks, Nat.reduceBEq]
       ·simp only [leB, sideBad, hg1_3, hg1_7, hg1_12, hg1_18, hg1_25, bo, Bool.not_true, Bool.not_false, ↓reduceIte, Bool.false_eq_true, am, seval, reduceCtorEq]
      ·simp only [tvs, Term.v_op, Term.v_neg, Term.v_n, Term.v_frm, hg1_3, hg1_7, hg1_12, hg1_18, hg1_25, ty3, ty4, ty31, ty41, ty49, List.append_eq, undef, am, seval, reduceCtorEq]
       refine hR3 _ ?_; clear hR3 R3
       refine ⟨(), trivial, ?_⟩
       refine le_tst ?_ ?_ ?_ (Heap.le.refl _) rfl
       ·simp only [leE, sideBad, hg1_3, hg1_7, hg1_12, hg1_18, hg1_25, bo, Bool.not_true, Bool.not_false, ↓reduceIte, Bool.false_eq_true, am, seval, reduceCtorEq]
       ·simp only [oks, Nat.reduceBEq]
       ·simp only [leB, sideBad, hg1_3, hg1_7, hg1_12, hg1_18, hg1_25, bo, Bool.not_true, Bool.not_false, ↓reduceIte, Bool.false_eq_true, am, seval, reduceCtorEq]
     ·simp only [tvs, Term.v_op, Term.v_neg, Term.v_n, Term.v_frm, hg1_3, hg1_7, hg1_12, hg1_18, ty3, ty4, ty31, ty41, ty49, List.append_eq, undef, am, seval, reduceCtorEq]
      refine hR3 _ ?_; clear hR3 R3
      refine ⟨(), trivial, ?_⟩
      refine le_tst ?_ ?_ ?_ (Heap.le.refl _) rfl
      ·simp only [leE, sideBad, hg1_3, hg1_7, hg1_12, hg1_18, bo, Bool.not_true, Bool.not_false, ↓reduceIte, Bool.false_eq_true, am, seval, reduceCtorEq]
      ·simp only [oks, Nat.reduceBEq]
      ·simp only [leB, sideBad, hg1_3, hg1_7, hg1_12, hg1_18, bo, Bool.not_true, Bool.not_false, ↓reduceIte, Bool.false_eq_true, am, seval, reduceCtorEq]
    ·simp only [tvs, Term.v_op, Term.v_neg, Term.v_n, Term.v_frm, hg1_3, hg1_7, hg1_12, ty3, ty4, ty31, ty41, ty49, List.append_eq, undef, am, seval, reduceCtorEq]
     refine hR3 _ ?_; clear hR3 R3
     refine ⟨(), trivial, ?_⟩
     refine le_tst ?_ ?_ ?_ (Heap.le.refl _) rfl
     ·simp only [leE, sideBad, hg1_3, hg1_7, hg1_12, bo, Bool.not_true, Bool.not_false, ↓reduceIte, Bool.false_eq_true, am, seval, reduceCtorEq]
     ·simp only [oks, Nat.reduceBEq]
     ·simp only [leB, sideBad, hg1_3, hg1_7, hg1_12, bo, Bool.not_true, Bool.not_false, ↓reduceIte, Bool.false_eq_true, am, seval, reduceCtorEq]
   ·simp only [tvs, Term.v_op, Term.v_neg, Term.v_n, Term.v_frm, hg1_3, hg1_7, ty3, ty4, ty31, ty41, ty49, List.append_eq, undef, am, seval, reduceCtorEq]
    refine hR3 _ ?_; clear hR3 R3
    refine ⟨(), trivial, ?_⟩
    refine le_tst ?_ ?_ ?_ (Heap.le.refl _) rfl
    ·simp only [leE, sideBad, hg1_3, hg1_7, bo, Bool.not_true, Bool.not_false, ↓reduceIte, Bool.false_eq_true, am, seval, reduceCtorEq]
    ·simp only [oks, Nat.reduceBEq]
    ·simp only [leB, sideBad, hg1_3, hg1_7, bo, Bool.not_true, Bool.not_false, ↓reduceIte, Bool.false_eq_true, am, seval, reduceCtorEq]
  ·simp only [tvs, Term.v_op, Term.v_neg, Term.v_n, Term.v_frm, hg1_3, ty3, ty4, ty31, ty41, ty49, List.append_eq, undef, am, seval, reduceCtorEq]
   refine hR3 _ ?_; clear hR3 R3
   refine ⟨(), trivial, ?_⟩
   refine le_tst ?_ ?_ ?_ (Heap.le.refl _) rfl
   ·simp only [leE, sideBad, hg1_3, bo, Bool.not_true, Bool.not_false, ↓reduceIte, Bool.false_eq_true, am, seval, reduceCtorEq]
   ·simp only [oks, Nat.reduceBEq]
   ·simp only [leB, sideBad, hg1_3, bo, Bool.not_true, Bool.not_false, ↓reduceIte, Bool.false_eq_true, am, seval, reduceCtorEq]
 ·rintro ⟨⟩ _
  refine AWp.condK fun C1 C2 hC1 hC2 => ?_
  simp only [condP, am, seval, reduceCtorEq]
  refine ⟨fun hB => hC1 ?_, fun hB => hC2 ?_⟩ <;> clear hC1 hC2 C1 C2
  ·refine AWp.reg fun R4 hR4 => ?_
   simp only [am, seval, reduceCtorEq]
   refine hR4 _ ?_; clear hR4 R4
   refine AWp.ret ?_
   refine ret_intro (by show resV Tryz.prog _ [.tmp 16] = _; simp only [resV, am, seval, reduceCtorEq]; rfl) (Wk.refl _) (Heap.le.refl _) ⟨g, hg, ?_, rfl⟩
   simp only [oneV]; rw [side_bad hB, List.append_nil]
  ·refine AWp.skip ?_
   refine hK2 _ ?_; clear hK2
   refine AWp.seq_cut (ι := Unit) (fun _ => True) (fun _ => tst [(0, .own g 17 (out.map Said.v)), (1, vint k), (2, vint op), (3, vint coll), (6, vint x), (7, vint y), (12, .loc 12 0), (13, .loc 13 0), (17, vbool (hold3 x y))] [(12, (c.v, 49)), (13, (o.v, 49))] (s.setOwn g (some (185, 17))) 108) ?_ ?_
   ·refine AWp.reg1 fun R5 hR5 => ?_
    simp only [ty46, undef, am, seval, reduceCtorEq]
    refine gF (fun hg3_2 => ?_) (fun hg3_2 => ?_)
    ·simp only [hg3_2, ty46, undef, am, seval, reduceCtorEq]
     refine gT (fun hg3_5 => ?_) (fun hg3_5 => ?_)
     ·simp only [hg3_2, hg3_5, ty46, undef, am, seval, reduceCtorEq]
      refine gF (fun hg3_10 => ?_) (fun hg3_10 => ?_)
      ·simp only [hg3_2, hg3_5, hg3_10, ty46, undef, am, seval, reduceCtorEq]
       refine gT (fun hg3_13 => ?_) (fun hg3_13 => ?_)
       ·simp only [hg3_2, hg3_5, hg3_10, hg3_13, ty46, undef, am, seval, reduceCtorEq]
        refine hR5 _ ?_; clear hR5 R5
        refine ⟨(), trivial, ?_⟩
        refine le_tst ?_ ?_ ?_ (Heap.le.refl _) rfl
        ·simp only [leE, hold3, hB, hg3_2, hg3_5, hg3_10, hg3_13, bo, Bool.not_true, Bool.not_false, ↓reduceIte, Bool.false_eq_true, am, seval, reduceCtorEq]
        ·simp only [oks, Nat.reduceBEq]
        ·simp only [leB, hold3, hB, hg3_2, hg3_5, hg3_10, hg3_13, bo, Bool.not_true, Bool.not_false, ↓reduceIte, Bool.false_eq_true, am, seval, reduceCtorEq]
       ·simp only [hg3_2, hg3_5, hg3_10, hg3_13, ty46, undef, am, seval, reduceCtorEq]
        refine hR5 _ ?_; clear hR5 R5
        refine ⟨(), trivial, ?_⟩
        refine le_tst ?_ ?_ ?_ (Heap.le.refl _) rfl
        ·simp only [leE, hold3, hB, hg3_2, hg3_5, hg3_10, hg3_13, bo, Bool.not_true, Bool.not_false, ↓reduceIte, Bool.false_eq_true, am, seval, reduceCtorEq]
        ·simp only [oks, Nat.reduceBEq]
        ·simp only [leB, hold3, hB, hg3_2, hg3_5, hg3_10, hg3_13, bo, Bool.not_true, Bool.not_false, ↓reduceIte, Bool.false_eq_true, am, seval, reduceCtorEq]
      ·simp only [hg3_2, hg3_5, hg3_10, ty46, undef, am, seval, reduceCtorEq]
       refine hR5 _ ?_; clear hR5 R5
       refine ⟨(), trivial, ?_⟩
       refine le_tst ?_ ?_ ?_ (Heap.le.refl _) rfl
       ·simp only [leE, hold3, hB, hg3_2, hg3_5, hg3_10, bo, Bool.not_true, Bool.not_false, ↓reduceIte, Bool.false_eq_true, am, seval, reduceCtorEq]
       ·simp only [oks, Nat.reduceBEq]
       ·simp only [leB, hold3, hB, hg3_2, hg3_5, hg3_10, bo, Bool.not_true, Bool.not_false, ↓reduceIte, Bool.false_eq_true, am, seval, reduceCtorEq]
     ·simp only [hg3_2, hg3_5, ty46, undef, am, seval, reduceCtorEq]
      refine gT (fun hg3_13 => ?_) (fun hg3_13 => ?_)
      ·simp only [hg3_2, hg3_5, hg3_13, ty46, undef, am, seval, reduceCtorEq]
       refine hR5 _ ?_; clear hR5 R5
       refine ⟨(), trivial, ?_⟩
       refine le_tst ?_ ?_ ?_ (Heap.le.refl _) rfl
       ·simp only [leE, hold3, hB, hg3_2, hg3_5, hg3_13, bo, Bool.not_true, Bool.not_false, ↓reduceIte, Bool.false_eq_true, am, seval, reduceCtorEq]
       ·simp only [oks, Nat.reduceBEq]
       ·simp only [leB, hold3, hB, hg3_2, hg3_5, hg3_13, bo, Bool.not_true, Bool.not_false, ↓reduceIte, Bool.false_eq_true, am, seval, reduceCtorEq]
      ·simp only [hg3_2, hg3_5, hg3_13, ty46, undef, am, seval, reduceCtorEq]
       refine hR5 _ ?_; clear hR5 R5
       refine ⟨(), trivial, ?_⟩
       refine le_tst ?_ ?_ ?_ (Heap.le.refl _) rfl
       ·simp only [leE, hold3, hB, hg3_2, hg3_5, hg3_13, bo, Bool.not_true, Bool.not_false, ↓reduceIte, Bool.false_eq_true, am, seval, reduceCtorEq]
       ·simp only [oks, Nat.reduceBEq]
       ·simp only [leB, hold3, hB, hg3_2, hg3_5, hg3_13, bo, Bool.not_true, Bool.not_false, ↓reduceIte, Bool.false_eq_true, am, seval, reduceCtorEq]
    ·simp only [hg3_2, ty46, undef, am, seval, reduceCtorEq]
     refine hR5 _ ?_; clear hR5 R5
     refine ⟨(), trivial, ?_⟩
     refine le_tst ?_ ?_ ?_ (Heap.le.refl _) rfl
     ·simp only [leE, hold3, hB, hg3_2, bo, Bool.not_true, Bool.not_false, ↓reduceIte, Bool.false_eq_true, am, seval, reduceCtorEq]
     ·simp only [oks, Nat.reduceBEq]
     ·simp only [leB, hold3, hB, hg3_2, bo, Bool.not_true, Bool.not_false, ↓reduceIte, Bool.false_eq_true, am, seval, reduceCtorEq]
   ·rintro ⟨⟩ _
    refine AWp.seq_k fun K6 hK6 => ?_
    refine AWp.seq_cut (ι := Unit) (fun _ => True) (fun _ => tst [(0, .own g 17 (out.map Said.v)), (1, vint k), (2, vint op), (3, vint coll), (6, vint x), (7, vint y), (12, .loc 12 0), (13, .loc 13 0), (17, vbool (hold3 x y)), (76, vbool (hold4 x y))] [(12, (c.v, 49)), (13, (o.v, 49))] (s.setOwn g (some (185, 17))) 108) ?_ ?_
    ·refine AWp.reg1 fun R7 hR7 => ?_
     simp only [ty46, undef, am, seval, reduceCtorEq]
     refine gT (fun hg4_2 => ?_) (fun hg4_2 => ?_)
     ·simp only [hg4_2, ty46, undef, am, seval, reduceCtorEq]
      refine gT (fun hg4_6 => ?_) (fun hg4_6 => ?_)
      ·simp only [hg4_2, hg4_6, ty46, undef, am, seval, reduceCtorEq]
       refine hR7 _ ?_; clear hR7 R7
       refine ⟨(), trivial, ?_⟩
       refine le_tst ?_ ?_ ?_ (Heap.le.refl _) rfl
       ·simp only [leE, hold4, hg4_2, hg4_6, bo, Bool.not_true, Bool.not_false, ↓reduceIte, Bool.false_eq_true, am, seval, reduceCtorEq]
       ·simp only [oks, Nat.reduceBEq]
       ·simp only [leB, hold4, hg4_2, hg4_6, bo, Bool.not_true, Bool.not_false, ↓reduceIte, Bool.false_eq_true, am, seval, reduceCtorEq]
      ·simp only [hg4_2, hg4_6, ty46, undef, am, seval, reduceCtorEq]
       refine hR7 _ ?_; clear hR7 R7
       refine ⟨(), trivial, ?_⟩
       refine le_tst ?_ ?_ ?_ (Heap.le.refl _) rfl
       ·simp only [leE, hold4, hg4_2, hg4_6, bo, Bool.not_true, Bool.not_false, ↓reduceIte, Bool.false_eq_true, am, seval, reduceCtorEq]
       ·simp only [oks, Nat.reduceBEq]
       ·simp only [leB, hold4, hg4_2, hg4_6, bo, Bool.not_true, Bool.not_false, ↓reduceIte, Bool.false_eq_true, am, seval, reduceCtorEq]
     ·simp only [hg4_2, ty46, undef, am, seval, reduceCtorEq]
      refine hR7 _ ?_; clear hR7 R7
      refine ⟨(), trivial, ?_⟩
      refine le_tst ?_ ?_ ?_ (Heap.le.refl _) rfl
      ·simp only [leE, hold4, hg4_2, bo, Bool.not_true, Bool.not_false, ↓reduceIte, Bool.false_eq_true, am, seval, reduceCtorEq]
      ·simp only [oks, Nat.reduceBEq]
      ·simp only [leB, hold4, hg4_2, bo, Bool.not_true, Bool.not_false, ↓reduceIte, Bool.false_eq_true, am, seval, reduceCtorEq]
    ·rintro ⟨⟩ _
     refine AWp.condK fun C1 C2 hC1 hC2 => ?_
     simp only [condP, am, seval, reduceCtorEq]
     refine ⟨fun h4 => hC1 ?_, fun h4 => hC2 ?_⟩ <;> clear hC1 hC2 C1 C2
     ·refine AWp.reg1 fun R8 hR8 => ?_
      simp only [am, seval, reduceCtorEq]
      refine hR8 _ ?_; clear hR8 R8
      refine hK6 _ ?_; clear hK6
      refine AWp.seq_k fun K9 hK9 => ?_
      refine AWp.reg fun R10 hR10 => ?_
      simp only [Bool.not_false, am, seval, reduceCtorEq]
      refine hR10 _ ?_; clear hR10 R10
      refine AWp.cond (t := true) (by simp only [h4, am, seval, reduceCtorEq]) (fun _ => ?_) (fun h => by cases h)
      refine AWp.reg fun R11 hR11 => ?_
      simp only [am, seval, reduceCtorEq]
      refine hR11 _ ?_; clear hR11 R11
      refine AWp.ret ?_
      refine ret_intro (by show resV Tryz.prog _ [.tmp 16] = _; simp only [resV, am, seval, reduceCtorEq]; rfl) (Wk.refl _) (Heap.le.refl _) ⟨g, hg, ?_, rfl⟩
      simp only [oneV]; rw [side_no (endOk_h4 h4), List.append_nil]
     ·refine AWp.skip ?_
      refine hK6 _ ?_; clear hK6
      refine AWp.seq_k fun K12 hK12 => ?_
      refine AWp.reg fun R13 hR13 => ?_
      simp only [Bool.not_false, am, seval, reduceCtorEq]
      refine hR13 _ ?_; clear hR13 R13
      refine AWp.condK fun C1 C2 hC1 hC2 => ?_
      simp only [condP, h4, am, seval, reduceCtorEq]
      refine ⟨fun h3 => hC1 ?_, fun h3 => hC2 ?_⟩ <;> clear hC1 hC2 C1 C2
      ·have h3 := h3; rw [Bool.not_eq_true'] at h3
       refine AWp.reg fun R14 hR14 => ?_
       simp only [am, seval, reduceCtorEq]
       refine hR14 _ ?_; clear hR14 R14
       refine AWp.ret ?_
       refine ret_intro (by show resV Tryz.prog _ [.tmp 16] = _; simp only [resV, am, seval, reduceCtorEq]; rfl) (Wk.refl _) (Heap.le.refl _) ⟨g, hg, ?_, rfl⟩
       simp only [oneV]; rw [side_no (endOk_h3 h3), List.append_nil]
      ·have h3 := h3; rw [Bool.not_eq_false'] at h3
       refine AWp.skip ?_
       refine hK12 _ ?_; clear hK12
       refine AWp.reg fun R15 hR15 => ?_
       simp only [tvs, ty49, am, seval, reduceCtorEq]
       refine hR15 _ ?_; clear hR15 R15
       refine AWp.seq_k fun K16 hK16 => ?_
       refine AWp.seq_cut (ι := Unit) (fun _ => True) (fun _ => tst [(0, .own g 17 (out.map Said.v)), (1, vint k), (2, vint op), (3, vint coll), (6, vint x), (7, vint y), (12, .loc 12 0), (13, .loc 13 0), (18, .loc 18 0), (94, vbool (end1 x y))] [(12, (c.v, 49)), (13, (o.v, 49)), (18, (o.v, 49))] (s.setOwn g (some (185, 17))) 108) ?_ ?_
       ·refine AWp.reg1 fun R17 hR17 => ?_
        simp only [ty46, undef, am, seval, reduceCtorEq]
        refine gT (fun hg9_2 => ?_) (fun hg9_2 => ?_)
        ·simp only [hg9_2, ty46, undef, am, seval, reduceCtorEq]
         refine gF (fun hg9_6 => ?_) (fun hg9_6 => ?_)
         ·simp only [hg9_2, hg9_6, ty46, undef, am, seval, reduceCtorEq]
          refine gT (fun hg9_9 => ?_) (fun hg9_9 => ?_)
          ·simp only [hg9_2, hg9_6, hg9_9, ty46, undef, am, seval, reduceCtorEq]
           refine hR17 _ ?_; clear hR17 R17
           refine ⟨(), trivial, ?_⟩
           refine le_tst ?_ ?_ ?_ (Heap.le.refl _) rfl
           ·simp only [leE, end1, h4, h3, hg9_2, hg9_6, hg9_9, bo, Bool.not_true, Bool.not_false, ↓reduceIte, Bool.false_eq_true, am, seval, reduceCtorEq]
           ·simp only [oks, Nat.reduceBEq]
           ·simp only [leB, end1, h4, h3, hg9_2, hg9_6, hg9_9, bo, Bool.not_true, Bool.not_false, ↓reduceIte, Bool.false_eq_true, am, seval, reduceCtorEq]
          ·simp only [hg9_2, hg9_6, hg9_9, ty46, undef, am, seval, reduceCtorEq]
           refine hR17 _ ?_; clear hR17 R17
           refine ⟨(), trivial, ?_⟩
           refine le_tst ?_ ?_ ?_ (Heap.le.refl _) rfl
           ·simp only [leE, end1, h4, h3, hg9_2, hg9_6, hg9_9, bo, Bool.not_true, Bool.not_false, ↓reduceIte, Bool.false_eq_true, am, seval, reduceCtorEq]
           ·simp only [oks, Nat.reduceBEq]
           ·simp only [leB, end1, h4, h3, hg9_2, hg9_6, hg9_9, bo, Bool.not_true, Bool.not_false, ↓reduceIte, Bool.false_eq_true, am, seval, reduceCtorEq]
         ·simp only [hg9_2, hg9_6, ty46, undef, am, seval, reduceCtorEq]
          refine hR17 _ ?_; clear hR17 R17
          refine ⟨(), trivial, ?_⟩
          refine le_tst ?_ ?_ ?_ (Heap.le.refl _) rfl
          ·simp only [leE, end1, h4, h3, hg9_2, hg9_6, bo, Bool.not_true, Bool.not_false, ↓reduceIte, Bool.false_eq_true, am, seval, reduceCtorEq]
          ·simp only [oks, Nat.reduceBEq]
          ·simp only [leB, end1, h4, h3, hg9_2, hg9_6, bo, Bool.not_true, Bool.not_false, ↓reduceIte, Bool.false_eq_true, am, seval, reduceCtorEq]
        ·simp only [hg9_2, ty46, undef, am, seval, reduceCtorEq]
         refine gT (fun hg9_9 => ?_) (fun hg9_9 => ?_)
         ·simp only [hg9_2, hg9_9, ty46, undef, am, seval, reduceCtorEq]
          refine hR17 _ ?_; clear hR17 R17
          refine ⟨(), trivial, ?_⟩
          refine le_tst ?_ ?_ ?_ (Heap.le.refl _) rfl
          ·simp only [leE, end1, h4, h3, hg9_2, hg9_9, bo, Bool.not_true, Bool.not_false, ↓reduceIte, Bool.false_eq_true, am, seval, reduceCtorEq]
          ·simp only [oks, Nat.reduceBEq]
          ·simp only [leB, end1, h4, h3, hg9_2, hg9_9, bo, Bool.not_true, Bool.not_false, ↓reduceIte, Bool.false_eq_true, am, seval, reduceCtorEq]
         ·simp only [hg9_2, hg9_9, ty46, undef, am, seval, reduceCtorEq]
          refine hR17 _ ?_; clear hR17 R17
          refine ⟨(), trivial, ?_⟩
          refine le_tst ?_ ?_ ?_ (Heap.le.refl _) rfl
          ·simp only [leE, end1, h4, h3, hg9_2, hg9_9, bo, Bool.not_true, Bool.not_false, ↓reduceIte, Bool.false_eq_true, am, seval, reduceCtorEq]
          ·simp only [oks, Nat.reduceBEq]
          ·simp only [leB, end1, h4, h3, hg9_2, hg9_9, bo, Bool.not_true, Bool.not_false, ↓reduceIte, Bool.false_eq_true, am, seval, reduceCtorEq]
       ·rintro ⟨⟩ _
        refine AWp.condK fun C1 C2 hC1 hC2 => ?_
        simp only [condP, am, seval, reduceCtorEq]
        refine ⟨fun h9 => hC1 ?_, fun h9 => hC2 ?_⟩ <;> clear hC1 hC2 C1 C2
        ·refine AWp.reg1 fun R18 hR18 => ?_
         simp only [tvs, Term.v_drop, ty31, ty49, am, seval, reduceCtorEq]
         refine hR18 _ ?_; clear hR18 R18
         refine hK16 _ ?_; clear hK16
         refine AWp.wkB 18 (cs := [vint 103, vbool false, vint 0, vint 0, vint 0, vstr .empty, vint 0, vint 0, vstr .empty, vint 0, vint x, vint 0, .slice 14 [o.v], .nil]) (ty := 49) (endT o x y).v (by simp only [am, seval, reduceCtorEq]) (by rw [show endT o x y = affine o x by simp only [endT, h9, ↓reduceIte]]; exact aff_wk) ?_
         refine AWp.reg fun R19 hR19 => ?_
         simp only [tvs, Term.v_col, ty3, ty49, ty182, ty185, am, seval, reduceCtorEq]
         refine ⟨own_same _ _ _, by (try simp only [List.length_map]); omega, by (try simp only [List.length_map]); unfold maxLen; omega, fun g2 hg2 => ?_⟩
         refine hR19 _ ?_; clear hR19 R19
         refine AWp.ret ?_
         refine ret_intro (by show resV Tryz.prog _ [.tmp 16] = _; simp only [resV, am, seval, reduceCtorEq]; rfl) (Wk.refl _) (own_step hg g2 _ _) ⟨g2, own_fresh hg2, ?_, rfl⟩
         simp only [oneV]; rw [side_yes hB (endOk_of h3 h4), List.map_append]; rfl
        ·refine AWp.skip ?_
         refine hK16 _ ?_; clear hK16
         refine AWp.wkB 18 (cs := o.v) (ty := 49) (endT o x y).v (by simp only [am, seval, reduceCtorEq]) (by rw [show endT o x y = o from endT_same h9 h3 h4]; exact WkL.refl _) ?_
         refine AWp.reg fun R20 hR20 => ?_
         simp only [tvs, Term.v_col, ty3, ty49, ty182, ty185, am, seval, reduceCtorEq]
         refine ⟨own_same _ _ _, by (try simp only [List.length_map]); omega, by (try simp only [List.length_map]); unfold maxLen; omega, fun g2 hg2 => ?_⟩
         refine hR20 _ ?_; clear hR20 R20
         refine AWp.ret ?_
         refine ret_intro (by show resV Tryz.prog _ [.tmp 16] = _; simp only [resV, am, seval, reduceCtorEq]; rfl) (Wk.refl _) (own_step hg g2 _ _) ⟨g2, own_fresh hg2, ?_, rfl⟩
         simp only [oneV]; rw [side_yes hB (endOk_of h3 h4), List.map_append]; rfl
theorem f147_spec (l : List Term) (hl : l.length ≤ 2^27) (hw : ∀ t ∈ l, t.w ≤ 2^28) (k : Int) : Gives Tryz.prog 147 [.slice 14 (l.map Term.v), vint k] (.slice 17 ((l.flatMap (says k)).map Said.v)) := by
 intro s
 refine acalls_of (fn := Tryz.f147) Tryz.func147 rfl (by decide) (by show 2 ≤ 91; decide) ?_
 rw [Tryz.ntmps147]
 refine AWp.reg fun R1 hR1 => ?_
 simp only [am, seval, reduceCtorEq]
 refine hR1 _ ?_; clear hR1 R1
 refine AWp.reg fun R2 hR2 => ?_
 simp only [am, seval, reduceCtorEq]
 refine hR2 _ ?_; clear hR2 R2
 refine AWp.seq_k fun K3 hK3 => ?_
 refine AWp.reg fun R4 hR4 => ?_
 simp only [am, seval, reduceCtorEq]
 refine hR4 _ ?_; clear hR4 R4
 refine AWp.block ?_
 refine AWp.slen 0 (sz := 14) (es := l.map Term.v) (by simp only [am, seval, reduceCtorEq]) fun hmax => ?_
 have hmx := maxLen_lt; (try rw [List.length_map] at hmax)
 refine AWp.adoptE 5 (185, 17) (.inl (by simp only [am, seval, reduceCtorEq])) fun g0 hg0 => ?_
 change s.own g0 = none at hg0
 refine AWp.loopT (ι := Nat × Nat) (fun q => q.1 ≤ l.length ∧ s.own q.2 = none) (fun q => tst [(0, .slice 14 (l.map Term.v)), (1, vint k), (5, .own q.2 17 (((l.take q.1).flatMap (says k)).map Said.v)), (6, vint q.1)] [] (s.setOwn q.2 (some (185, 17))) 91) (fun q => l.length - q.1) (0, g0) ⟨⟨Nat.zero_le _, hg0⟩, ?_⟩ ?_
 ·refine le_tst ?_ ?_ ?_ (Heap.le.refl _) rfl
  ·simp only [leE, am, seval, reduceCtorEq] <;> simp
  ·simp only [oks, Nat.reduceBEq]
  ·simp only [leB, am, seval, reduceCtorEq]
 ·rintro ⟨i, g1⟩ ⟨hi, hg1⟩
  simp only at hi hg1 ⊢
  refine AWp.seq_k fun K5 hK5 => ?_
  refine AWp.reg fun R6 hR6 => ?_
  simp only [ty3, ty31, ty49, am, seval, reduceCtorEq]
  refine hR6 _ ?_; clear hR6 R6
  refine AWp.cond (t := decide ((i:Int) < (l.length : Nat))) (by simp only [am, seval, reduceCtorEq]) (fun ht => ?_) (fun ht => ?_)
  ·have hlt : i < l.length := lt_of_dec ht
   have ix0 : (0 ≤ (i : Int)) = True := by simp
   have ix1 : ((i : Int) < ((l.length : Nat) : Int)) = True := by simp [hlt]
   obtain ⟨t, ht0⟩ : ∃ t, l[i] = t := ⟨_, rfl⟩
   have hgl : (l.map Term.v).getD (i : Int).toNat [] = t.v := by rw [getD_map _ _ _ hlt, ht0]
   have hsucc := flat_succ (says k) l hlt; rw [ht0] at hsucc
   have htw : t.w ≤ 2^28 := by rw [← ht0]; exact hw _ (List.getElem_mem hlt)
   refine AWp.skip ?_
   refine hK5 _ ?_; clear hK5
   refine AWp.seq_k fun K7 hK7 => ?_
   refine AWp.block ?_
   refine AWp.reg fun R8 hR8 => ?_
   simp only [tvs, ix0, ix1, true_and, hgl, ty31, ty49, am, seval, reduceCtorEq]
   refine hR8 _ ?_; clear hR8 R8
   refine AWp.seq_k fun K9 hK9 => ?_
   refine AWp.seq_cut (ι := Unit) (fun _ => True) (fun _ => tst [(0, .slice 14 (l.map Term.v)), (1, vint k), (5, .own g1 17 (((l.take i).flatMap (says k)).map Said.v)), (6, vint i), (7, .loc 7 0), (50, vbool (refBad t))] [(7, (t.v, 49))] (s.setOwn g1 (some (185, 17))) 91) ?_ ?_
   ·refine AWp.reg1 fun R10 hR10 => ?_
    simp only [tvs, Term.v_op, Term.v_neg, Term.v_args, ty3, ty4, ty31, ty41, ty49, List.append_eq, undef, am, seval, reduceCtorEq]
    refine gF (fun hg6_2 => ?_) (fun hg6_2 => ?_)
    ·simp only [tvs, Term.v_op, Term.v_neg, Term.v_args, hg6_2, ty3, ty4, ty31, ty41, ty49, List.append_eq, undef, am, seval, reduceCtorEq]
     refine gF (fun hg6_8 => ?_) (fun hg6_8 => ?_)
     ·simp only [tvs, Term.v_op, Term.v_neg, Term.v_args, hg6_2, hg6_8, ty3, ty4, ty31, ty41, ty49, List.append_eq, undef, am, seval, reduceCtorEq]
      refine gT (fun hg6_12 => ?_) (fun hg6_12 => ?_)
      ·simp only [tvs, Term.v_op, Term.v_neg, Term.v_args, hg6_2, hg6_8, hg6_12, ty3, ty4, ty31, ty41, ty49, List.append_eq, undef, am, seval, reduceCtorEq]
       refine gT (fun hg6_17 => ?_) (fun hg6_17 => ?_)
       ·simp only [tvs, Term.v_op, Term.v_neg, Term.v_args, hg6_2, hg6_8, hg6_12, hg6_17, ty3, ty4, ty31, ty41, ty49, List.append_eq, undef, am, seval, reduceCtorEq]
        refine gT (fun hg6_22 => ?_) (fun hg6_22 => ?_)
        ·simp only [tvs, Term.v_op, Term.v_neg, Term.v_args, hg6_2, hg6_8, hg6_12, hg6_17, hg6_22, ty3, ty4, ty31, ty41, ty49, List.append_eq, undef, am, seval, reduceCtorEq]
         refine gT (fun hg6_27 => ?_) (fun hg6_27 => ?_)
         ·simp only [tvs, Term.v_op, Term.v_neg, Term.v_args, hg6_2, hg6_8, hg6_12, hg6_17, hg6_22, hg6_27, ty3, ty4, ty31, ty41, ty49, List.append_eq, undef, am, seval, reduceCtorEq]
          refine hR10 _ ?_; clear hR10 R10
          refine ⟨(), trivial, ?_⟩
          refine le_tst ?_ ?_ ?_ (Heap.le.refl _) rfl
          ·simp only [leE, refBad, hg6_2, hg6_8, hg6_12, hg6_17, hg6_22, hg6_27, bo, Bool.not_true, Bool.not_false, ↓reduceIte, Bool.false_eq_true, am, seval, reduceCtorEq]
          ·simp only [oks, Nat.reduceBEq]
          ·simp only [leB, refBad, hg6_2, hg6_8, hg6_12, hg6_17, hg6_22, hg6_27, bo, Bool.not_true, Bool.not_false, ↓reduceIte, Bool.false_eq_true, am, seval, reduceCtorEq]
         ·simp only [tvs, Term.v_op, Term.v_neg, Term.v_args, hg6_2, hg6_8, hg6_12, hg6_17, hg6_22, hg6_27, ty3, ty4, ty31, ty41, ty49, List.append_eq, undef, am, seval, reduceCtorEq]
          refine hR10 _ ?_; clear hR10 R10
          refine ⟨(), trivial, ?_⟩
          refine le_tst ?_ ?_ ?_ (Heap.le.refl _) rfl
          ·simp only [leE, refBad, hg6_2, hg6_8, hg6_12, hg6_17, hg6_22, hg6_27, bo, Bool.not_true, Bool.not_false, ↓reduceIte, Bool.false_eq_true, am, seval, reduceCtorEq]
          ·simp only [oks, Nat.reduceBEq]
          ·simp only [leB, refBad, hg6_2, hg6_8, hg6_12, hg6_17, hg6_22, hg6_27, bo, Bool.not_true, Bool.not_false, ↓reduceIte, Bool.false_eq_true, am, seval, reduceCtorEq]
        ·simp only [tvs, Term.v_op, Term.v_neg, Term.v_args, hg6_2, hg6_8, hg6_12, hg6_17, hg6_22, ty3, ty4, ty31, ty41, ty49, List.append_eq, undef, am, seval, reduceCtorEq]
         refine hR10 _ ?_; clear hR10 R10
         refine ⟨(), trivial, ?_⟩
         refine le_tst ?_ ?_ ?_ (Heap.le.refl _) rfl
         ·simp only [leE, refBad, hg6_2, hg6_8, hg6_12, hg6_17, hg6_22, bo, Bool.not_true, Bool.not_false, ↓reduceIte, Bool.false_eq_true, am, seval, reduceCtorEq]
         ·simp only [oks, Nat.reduceBEq]
         ·simp only [leB, refBad, hg6_2, hg6_8, hg6_12, hg6_17, hg6_22, bo, Bool.not_true, Bool.not_false, ↓reduceIte, Bool.false_eq_true, am, seval, reduceCtorEq]
       ·simp only [tvs, Term.v_op, Term.v_neg, Term.v_args, hg6_2, hg6_8, hg6_12, hg6_17, ty3, ty4, ty31, ty41, ty49, List.append_eq, undef, am, seval, reduceCtorEq]
        refine hR10 _ ?_; clear hR10 R10
        refine ⟨(), trivial, ?_⟩
        refine le_tst ?_ ?_ ?_ (Heap.le.refl _) rfl
        ·simp only [leE, refBad, hg6_2, hg6_8, hg6_12, hg6_17, bo, Bool.not_true, Bool.not_false, ↓reduceIte, Bool.false_eq_true, am, seval, reduceCtorEq]
        ·simp only [oks, Nat.reduceBEq]
        ·simp only [leB, refBad, hg6_2, hg6_8, hg6_12, hg6_17, bo, Bool.not_true, Bool.not_false, ↓reduceIte, Bool.false_eq_true, am, seval, reduceCtorEq]
      ·simp only [tvs, Term.v_op, Term.v_neg, Term.v_args, hg6_2, hg6_8, hg6_12, ty3, ty4, ty31, ty41, ty49, List.append_eq, undef, am, seval, reduceCtorEq]
       refine hR10 _ ?_; clear hR10 R10
       refine ⟨(), trivial, ?_⟩
       refine le_tst ?_ ?_ ?_ (Heap.le.refl _) rfl
       ·simp only [leE, refBad, hg6_2, hg6_8, hg6_12, bo, Bool.not_true, Bool.not_false, ↓reduceIte, Bool.false_eq_true, am, seval, reduceCtorEq]
       ·simp only [oks, Nat.reduceBEq]
       ·simp only [leB, refBad, hg6_2, hg6_8, hg6_12, bo, Bool.not_true, Bool.not_false, ↓reduceIte, Bool.false_eq_true, am, seval, reduceCtorEq]
     ·simp only [tvs, Term.v_op, Term.v_neg, Term.v_args, hg6_2, hg6_8, ty3, ty4, ty31, ty41, ty49, List.append_eq, undef, am, seval, reduceCtorEq]
      refine hR10 _ ?_; clear hR10 R10
      refine ⟨(), trivial, ?_⟩
      refine le_tst ?_ ?_ ?_ (Heap.le.refl _) rfl
      ·simp only [leE, refBad, hg6_2, hg6_8, bo, Bool.not_true, Bool.not_false, ↓reduceIte, Bool.false_eq_true, am, seval, reduceCtorEq]
      ·simp only [oks, Nat.reduceBEq]
      ·simp only [leB, refBad, hg6_2, hg6_8, bo, Bool.not_true, Bool.not_false, ↓reduceIte, Bool.false_eq_true, am, seval, reduceCtorEq]
    ·simp only [tvs, Term.v_op, Term.v_neg, Term.v_args, hg6_2, ty3, ty4, ty31, ty41, ty49, List.append_eq, undef, am, seval, reduceCtorEq]
     refine hR10 _ ?_; clear hR10 R10
     refine ⟨(), trivial, ?_⟩
     refine le_tst ?_ ?_ ?_ (Heap.le.refl _) rfl
     ·simp only [leE, refBad, hg6_2, bo, Bool.not_true, Bool.not_false, ↓reduceIte, Bool.false_eq_true, am, seval, reduceCtorEq]
     ·simp only [oks, Nat.reduceBEq]
     ·simp only [leB, refBad, hg6_2, bo, Bool.not_true, Bool.not_false, ↓reduceIte, Bool.false_eq_true, am, seval, reduceCtorEq]
   ·rintro ⟨⟩ _
    refine AWp.cond (t := refBad t) (by simp only [am, seval, reduceCtorEq]) (fun hb => ?_) (fun hb => ?_)
    ·have hsy : says k t = [] := by unfold says; rw [← refBad_eq, hb]; rfl
     refine AWp.exit ?_
     simp only [exq, seval]
     refine hK7 _ ?_; clear hK7
     refine AWp.reg1 fun R11 hR11 => ?_
     simp only [ty3, am, seval, reduceCtorEq]
     refine hR11 _ ?_; clear hR11 R11
     refine ⟨(i + 1, g1), ⟨⟨hlt, hg1⟩, by simp only; omega⟩, ?_⟩
     refine le_tst ?_ ?_ ?_ (Heap.le.refl _) rfl
     ·simp only [leE, am, seval, reduceCtorEq]; rw [wrap_id (by omega) (by omega), hsucc, hsy]; simp
     ·simp only [oks, Nat.reduceBEq]
     ·simp only [leB, am, seval, reduceCtorEq]
    ·have hlen : t.args.length = 2 := refBad_len hb
     obtain ⟨x0, x1, ha⟩ : ∃ x0 x1, t.args = [x0, x1] := by
      match hq : t.args, hlen with
      | [x0, x1], _ => exact ⟨x0, x1, rfl⟩
     have hw0 := htw; rw [Term.w_eq, ha] at hw0; simp only [List.map_cons, List.map_nil, List.sum_cons, List.sum_nil] at hw0
     have hsy : says k t = side k t.op t.coll x0 x1 t.l t.r ++ side k (turned t.op) t.coll x1 x0 t.r t.l := by unfold says; rw [← refBad_eq, hb]; simp only [side0, side1, ha]; rfl
     have ixa : ((0 : Int) ≤ 0) = True := by simp
     have ixb : ((0 : Int) < ((2 : Nat) : Int)) = True := by simp
     have ixc : ((0 : Int) ≤ 1) = True := by simp
     have ixd : ((1 : Int) < ((2 : Nat) : Int)) = True := by simp
     refine AWp.skip ?_
     refine hK9 _ ?_; clear hK9
     refine AWp.regL mixed [0, 1, 2, 3, 4, 5, 6, 7, 8, 9, 10, 11, 12, 13, 14, 15, 16, 17, 18, 19] (by decide +kernel) [] (by decide +kernel) fun R12 hR12 => ?_
     simp only [tvs, Term.v_op, Term.v_coll, Term.v_args, Term.v_l, Term.v_r, ixa, ixb, ixc, ixd, true_and, ha, Int.toNat_zero, Int.toNat_one, List.map_cons, List.map_nil, ty31, ty41, ty45, ty46, ty49, aml, Nat.reduceBEq, am, seval, reduceCtorEq]
     refine (f158_spec s g1 hg1 ((l.take i).flatMap (says k)) (by have := says_flat_len k l i; omega) k t.op t.coll x0 x1 (by omega) t.l t.r).mono ?_
     rintro _ _ ⟨g2, hg2, rfl, rfl⟩
     simp only [tvs, Term.v_op, Term.v_coll, Term.v_args, Term.v_l, Term.v_r, ixa, ixb, ixc, ixd, true_and, ha, Int.toNat_zero, Int.toNat_one, List.map_cons, List.map_nil, ty31, ty41, ty45, ty46, ty49, aml, Nat.reduceBEq, am, seval, reduceCtorEq]
     refine hR12 _ ?_; clear hR12 R12
     refine AWp.regL1 mixed [0, 1, 2, 3, 5, 6, 7, 8, 9, 10, 11, 12, 13, 14, 15, 16, 17, 18, 4, 19, 20] (by decide +kernel) [] (by decide +kernel) fun R13 hR13 => ?_
     simp only [tvs, Term.v_op, Term.v_coll, Term.v_args, Term.v_l, Term.v_r, ixa, ixb, ixc, ixd, true_and, ha, Int.toNat_zero, Int.toNat_one, List.map_cons, List.map_nil, ty31, ty41, ty45, ty46, ty49, aml, Nat.reduceBEq, am, seval, reduceCtorEq]
     refine (f159_spec t.op _).mono fun v' s' h => ?_
     rw [h.1, h.2]; clear h v' s'
     simp only [tvs, Term.v_op, Term.v_coll, Term.v_args, Term.v_l, Term.v_r, ixa, ixb, ixc, ixd, true_and, ha, Int.toNat_zero, Int.toNat_one, List.map_cons, List.map_nil, ty31, ty41, ty45, ty46, ty49, aml, Nat.reduceBEq, am, seval, reduceCtorEq]
     refine (f158_spec s g2 hg2 ((l.take i).flatMap (says k) ++ side k t.op t.coll x0 x1 t.l t.r) (by have := says_flat_len k l i; have := @side_len k t.op t.coll x0 x1 t.l t.r; rw [List.length_append]; omega) k (turned t.op) t.coll x1 x0 (by omega) t.r t.l).mono ?_
     rintro _ _ ⟨g3, hg3, rfl, rfl⟩
     simp only [tvs, Term.v_op, Term.v_coll, Term.v_args, Term.v_l, Term.v_r, ixa, ixb, ixc, ixd, true_and, ha, Int.toNat_zero, Int.toNat_one, List.map_cons, List.map_nil, ty31, ty41, ty45, ty46, ty49, aml, Nat.reduceBEq, am, seval, reduceCtorEq]
     refine hR13 _ ?_; clear hR13 R13
     refine hK7 _ ?_; clear hK7
     refine AWp.reg1 fun R14 hR14 => ?_
     simp only [ty3, am, seval, reduceCtorEq]
     refine hR14 _ ?_; clear hR14 R14
     refine ⟨(i + 1, g3), ⟨⟨hlt, hg3⟩, by simp only; omega⟩, ?_⟩
     refine le_tst ?_ ?_ ?_ (Heap.le.refl _) rfl
     ·simp only [leE, am, seval, reduceCtorEq]; rw [wrap_id (by omega) (by omega), hsucc, hsy]; simp
     ·simp only [oks, Nat.reduceBEq]
     ·simp only [leB, am, seval, reduceCtorEq]
  ·obtain rfl : i = l.length := eq_of_dec ht hi
   refine AWp.exit ?_
   simp only [exq, seval]
   refine hK3 _ ?_; clear hK3
   refine AWp.reg fun R15 hR15 => ?_
   simp only [am, seval, reduceCtorEq]
   refine hR15 _ ?_; clear hR15 R15
   refine AWp.ret ?_
   refine ret_intro (vs := [.own g1 17 (((l.take l.length).flatMap (says k)).map Said.v)]) (by show resV Tryz.prog _ [.tmp 4] = _; simp only [resV, am, seval, reduceCtorEq]) (Wk.own _ _ _) (own_drop hg1 _) ⟨?_, rfl⟩
   rw [List.take_length]
end Go.Proofs.YtcckhbconihagaaGreatDoor
set_option linter.unusedSimpArgs false
set_option linter.unusedVariables false
set_option maxRecDepth 100000
namespace Go.Proofs.YtcckhbconihagaaGreatDoor
open Go.Am Go.Pl
theorem Arm.v_take (a : Arm) : a.v.take 13 = a.v := List.take_of_length_le (by rw [Arm.v_len]; exact Nat.le_refl _)
theorem Arm.v_frm (a : Arm) : a.v[4]? = some (.slice 7 (a.frm.map From.v)) := by rw [Arm.v_eq]; rfl
theorem Arm.v_whr (a : Arm) : a.v[5]? = some (.slice 14 (a.whr.map Term.v)) := by rw [Arm.v_eq]; rfl
theorem Arm.v_steps (a : Arm) : a.v[12]? = some (.slice 7 (a.steps.map Step.v)) := by rw [Arm.v_eq]; rfl
set_option linter.defProp false
def avs := And.intro @Arm.v_len <| And.intro @Arm.v_all <| And.intro @Arm.v_take <| And.intro @Arm.v_frm <| And.intro @Arm.v_whr <| And.intro @Arm.v_steps <| True.intro
noncomputable def refP (op : Int) (t : Term) (col other coll : Int) (asked : Bool) (x : Said) : Bool := (x.op == op) && ((x.col == col || x.col == other) && ((!asked || x.coll == coll) && same x.fin t))
theorem refHas_P (a : Arm) (k op : Int) (ahead : List Int) (t : Term) (col other coll : Int) (asked : Bool) : refHas a k op ahead t col other coll asked = ((usable a k).any (refP op t col other coll asked) && within t ahead) := rfl
theorem f117_spec (a : Arm) (k : Int) (hk0 : 0 ≤ k) (hk1 : k < ((a.frm.length : Nat) : Int)) (hu : UOk a k) : Gives Tryz.prog 117 [.agg a.v, vint k] (.slice 17 ((usable a k).map Said.v)) := by
 have kx0 : (0 ≤ k) = True := by simp [hk0]
 have kx1 : (k < ((a.frm.length : Nat) : Int)) = True := by simp [hk1]
 have hgd : (a.frm.map From.v).getD k.toNat [] = (a.src k).v := src_get a k hk0 hk1
 intro s
 refine acalls_of (fn := Tryz.f117) Tryz.func117 rfl (by decide) (by show 2 ≤ 51; decide) ?_
 rw [Tryz.ntmps117]
 refine AWp.reg fun R1 hR1 => ?_
 simp only [avs, ty75, am, seval, reduceCtorEq]
 refine hR1 _ ?_; clear hR1 R1
 refine AWp.seq_k fun K2 hK2 => ?_
 refine AWp.reg fun R3 hR3 => ?_
 simp only [avs, kx0, kx1, true_and, hgd, From.v_eq, ty72, ty75, ty104, ty107, am, seval, reduceCtorEq]
 refine hR3 _ ?_; clear hR3 R3
 refine AWp.condK fun C1 C2 hC1 hC2 => ?_
 simp only [condP, am, seval, reduceCtorEq]
 refine ⟨fun hc13 => hC1 ?_, fun hc13 => hC2 ?_⟩ <;> clear hC1 hC2 C1 C2
 ·have hUT : usableTerms a k = (a.src k).on := by unfold usableTerms; rw [if_pos hc13]
  refine AWp.reg fun R4 hR4 => ?_
  simp only [avs, kx0, kx1, true_and, hgd, From.v_eq, ty31, ty49, ty72, ty75, ty107, am, seval, reduceCtorEq]
  refine (f147_spec (a.src k).on (by have := hu.len; rw [hUT] at this; omega) (by have := hu.w; rw [hUT] at this; exact this) k _).mono fun v' s' h => ?_
  rw [h.1, h.2]; clear h v' s'
  simp only [avs, kx0, kx1, true_and, hgd, From.v_eq, ty31, ty49, ty72, ty75, ty107, am, seval, reduceCtorEq]
  refine hR4 _ ?_; clear hR4 R4
  refine AWp.ret ?_
  refine ret_intro (by show resV Tryz.prog _ [.tmp 4] = _; simp only [resV, am, seval, reduceCtorEq]; rfl) (Wk.refl _) (Heap.le.refl _) ⟨?_, rfl⟩
  simp only [oneV, usable, hUT]
 ·have hUT : usableTerms a k = a.whr ++ (a.frm.take a.frm.length).flatMap innerOn := by unfold usableTerms; rw [if_neg (by rw [hc13]; decide), List.take_length]
  refine AWp.skip ?_
  refine hK2 _ ?_; clear hK2
  refine AWp.reg fun R5 hR5 => ?_
  simp only [am, seval, reduceCtorEq]
  refine hR5 _ ?_; clear hR5 R5
  refine AWp.adoptE 5 (49, 14) (.inl (by simp only [am, seval, reduceCtorEq])) fun g hg => ?_
  change s.own g = none at hg
  refine AWp.reg fun R6 hR6 => ?_
  simp only [avs, ty31, ty49, ty75, am, seval, reduceCtorEq]
  refine ⟨own_same _ _ _, by have := hu.wlen; rw [List.length_append] at this; (try simp only [List.length_map]); omega, by have := hu.wlen; rw [List.length_append] at this; (try simp only [List.length_map]); unfold maxLen; omega, fun g0 hg0 => ?_⟩
  refine hR6 _ ?_; clear hR6 R6
  refine AWp.seq_k fun K7 hK7 => ?_
  refine AWp.reg fun R8 hR8 => ?_
  simp only [am, seval, reduceCtorEq]
  refine hR8 _ ?_; clear hR8 R8
  refine AWp.block ?_
  have hfl := hu.f
  refine AWp.loopT (ι := Nat × Nat) (fun q => q.1 ≤ a.frm.length ∧ s.own q.2 = none) (fun q => tst [(1, vint k), (2, .loc 2 0), (5, .own q.2 14 ((a.whr ++ (a.frm.take q.1).flatMap innerOn).map Term.v)), (6, vint q.1)] [(2, (a.v, 75))] (s.setOwn q.2 (some (49, 14))) 51) (fun q => a.frm.length - q.1) (0, g0) ⟨⟨Nat.zero_le _, own_fresh hg0⟩, ?_⟩ ?_
  ·refine le_tst ?_ ?_ ?_ (own_step hg _ _ _) rfl
   ·simp only [leE, am, seval, reduceCtorEq] <;> simp
   ·simp only [oks, Nat.reduceBEq]
   ·simp only [leB, am, seval, reduceCtorEq]
  ·rintro ⟨i, g1⟩ ⟨hi, hg1⟩
   simp only at hi hg1 ⊢
   refine AWp.seq_k fun K9 hK9 => ?_
   refine AWp.reg fun R10 hR10 => ?_
   simp only [avs, ty3, ty72, ty75, ty107, am, seval, reduceCtorEq]
   refine hR10 _ ?_; clear hR10 R10
   refine AWp.cond (t := decide ((i:Int) < (a.frm.length : Nat))) (by simp only [am, seval, reduceCtorEq]) (fun ht => ?_) (fun ht => ?_)
   ·have hlt : i < a.frm.length := lt_of_dec ht
    have ix0 : (0 ≤ (i : Int)) = True := by simp
    have ix1 : ((i : Int) < ((a.frm.length : Nat) : Int)) = True := by simp [hlt]
    obtain ⟨f, hf0⟩ : ∃ f, a.frm[i] = f := ⟨_, rfl⟩
    have hgf : (a.frm.map From.v).getD (i : Int).toNat [] = f.v := by rw [getD_map _ _ _ hlt, hf0]
    have hpre := pre_len (f := innerOn) a.whr a.frm (i + 1)
    have hsucc := flat_succ innerOn a.frm hlt; rw [hf0] at hsucc
    have hwl := hu.wlen
    refine AWp.skip ?_
    refine hK9 _ ?_; clear hK9
    refine AWp.seq_k fun K11 hK11 => ?_
    refine AWp.block ?_
    refine AWp.reg fun R12 hR12 => ?_
    simp only [avs, ix0, ix1, true_and, hgf, From.v_eq, ty72, ty75, ty104, ty107, am, seval, reduceCtorEq]
    refine hR12 _ ?_; clear hR12 R12
    refine AWp.condK fun C1 C2 hC1 hC2 => ?_
    simp only [condP, hc13, am, seval, reduceCtorEq]
    refine ⟨fun hc39 => hC1 ?_, fun hc39 => hC2 ?_⟩ <;> clear hC1 hC2 C1 C2
    ·have hin : innerOn f = f.on := by unfold innerOn; rw [if_pos hc39]
     rw [hin] at hsucc
     refine AWp.reg1 fun R13 hR13 => ?_
     simp only [avs, ix0, ix1, true_and, hgf, From.v_eq, ty31, ty49, ty72, ty75, ty107, am, seval, reduceCtorEq]
     refine ⟨own_same _ _ _, by rw [hsucc, List.length_append, List.length_append] at hpre; (try simp only [List.length_map, List.length_append]); omega, by rw [hsucc, List.length_append, List.length_append] at hpre; (try simp only [List.length_map, List.length_append]); unfold maxLen; omega, fun g2 hg2 => ?_⟩
     refine hR13 _ ?_; clear hR13 R13
     refine hK11 _ ?_; clear hK11
     refine AWp.reg1 fun R14 hR14 => ?_
     simp only [ty3, am, seval, reduceCtorEq]
     refine hR14 _ ?_; clear hR14 R14
     refine ⟨(i + 1, g2), ⟨⟨hlt, own_fresh hg2⟩, by simp only; omega⟩, ?_⟩
     refine le_tst ?_ ?_ ?_ (own_step hg1 _ _ _) rfl
     ·simp only [leE, am, seval, reduceCtorEq]; rw [wrap_id (by omega) (by omega), hsucc]; simp
     ·simp only [oks, Nat.reduceBEq]
     ·simp only [leB, am, seval, reduceCtorEq]
    ·have hin : innerOn f = [] := by unfold innerOn; rw [if_neg (by rw [hc39]; decide)]
     rw [hin, List.append_nil] at hsucc
     refine AWp.skip ?_
     refine hK11 _ ?_; clear hK11
     refine AWp.reg1 fun R15 hR15 => ?_
     simp only [ty3, am, seval, reduceCtorEq]
     refine hR15 _ ?_; clear hR15 R15
     refine ⟨(i + 1, g1), ⟨⟨hlt, hg1⟩, by simp only; omega⟩, ?_⟩
     refine le_tst ?_ ?_ ?_ (Heap.le.refl _) rfl
     ·simp only [leE, am, seval, reduceCtorEq]; rw [wrap_id (by omega) (by omega), hsucc]; simp
     ·simp only [oks, Nat.reduceBEq]
     ·simp only [leB, am, seval, reduceCtorEq]
   ·obtain rfl : i = a.frm.length := eq_of_dec ht hi
    refine AWp.exit ?_
    simp only [exq, seval]
    refine hK7 _ ?_; clear hK7
    refine AWp.reg fun R16 hR16 => ?_
    simp only [am, seval, reduceCtorEq]
    refine ((f147_spec (a.whr ++ (a.frm.take a.frm.length).flatMap innerOn) (by have := hu.len; rw [hUT] at this; omega) (by have := hu.w; rw [hUT] at this; exact this) k _).own1).mono fun v' s' h => ?_
    rw [h.1, h.2]; clear h v' s'
    simp only [am, seval, reduceCtorEq]
    refine hR16 _ ?_; clear hR16 R16
    refine AWp.ret ?_
    refine ret_intro (by show resV Tryz.prog _ [.tmp 4] = _; simp only [resV, am, seval, reduceCtorEq]; rfl) (Wk.refl _) (own_drop hg1 _) ⟨?_, rfl⟩
    simp only [oneV, usable, hUT]
theorem f134_spec (a : Arm) (k : Int) (hk0 : 0 ≤ k) (hk1 : k < ((a.frm.length : Nat) : Int)) (hu : UOk a k) (op : Int) (ahead : List Int) (t : Term) (hw : t.w ≤ 2^28) (col other coll : Int) (asked : Bool) : Gives Tryz.prog 134 [.agg a.v, vint k, vint op, vints ahead, .agg t.v, vint col, vint other, vint coll, vbool asked] (vbool (refHas a k op ahead t col other coll asked)) := by
 have hU := f117_spec a k hk0 hk1 hu
 obtain ⟨U, hUe⟩ : ∃ U, usable a k = U := ⟨_, rfl⟩
 rw [hUe] at hU
 intro s
 refine acalls_of (fn := Tryz.f134) Tryz.func134 rfl (by decide) (by show 9 ≤ 80; decide) ?_
 rw [Tryz.ntmps134]
 refine AWp.reg fun R1 hR1 => ?_
 simp only [avs, tvs, ty49, ty75, am, seval, reduceCtorEq]
 refine hR1 _ ?_; clear hR1 R1
 refine AWp.reg fun R2 hR2 => ?_
 simp only [avs, tvs, ty75, am, seval, reduceCtorEq]
 refine (hU _).mono fun v' s' h => ?_
 rw [h.1, h.2]; clear h v' s'
 simp only [avs, tvs, ty75, am, seval, reduceCtorEq]
 refine hR2 _ ?_; clear hR2 R2
 refine AWp.seq_k fun K3 hK3 => ?_
 refine AWp.reg fun R4 hR4 => ?_
 simp only [am, seval, reduceCtorEq]
 refine hR4 _ ?_; clear hR4 R4
 refine AWp.block ?_
 refine AWp.slen 19 (sz := 17) (es := U.map Said.v) (by simp only [am, seval, reduceCtorEq]) fun hmax => ?_
 have hmx := maxLen_lt; (try rw [List.length_map] at hmax)
 refine AWp.loopT (ι := Nat) (fun i => i ≤ U.length ∧ (U.take i).any (refP op t col other coll asked) = false) (fun i => tst [(1, vint k), (2, vint op), (3, vints ahead), (5, vint col), (6, vint other), (7, vint coll), (8, vbool asked), (13, .loc 13 0), (19, .slice 17 (U.map Said.v)), (20, vint i)] [(13, (t.v, 49))] s 80) (fun i => U.length - i) 0 ⟨⟨Nat.zero_le _, by simp⟩, ?_⟩ ?_
 ·refine le_tst ?_ ?_ ?_ (Heap.le.refl _) rfl
  ·simp only [leE, am, seval, reduceCtorEq] <;> simp
  ·simp only [oks, Nat.reduceBEq]
  ·simp only [leB, am, seval, reduceCtorEq]
 ·rintro i ⟨hi, hno⟩
  refine AWp.seq_k fun K5 hK5 => ?_
  refine AWp.reg fun R6 hR6 => ?_
  simp only [ty3, ty182, ty185, am, seval, reduceCtorEq]
  refine hR6 _ ?_; clear hR6 R6
  refine AWp.cond (t := decide ((i:Int) < (U.length : Nat))) (by simp only [am, seval, reduceCtorEq]) (fun ht => ?_) (fun ht => ?_)
  ·have hlt : i < U.length := lt_of_dec ht
   have ix0 : (0 ≤ (i : Int)) = True := by simp
   have ix1 : ((i : Int) < ((U.length : Nat) : Int)) = True := by simp [hlt]
   obtain ⟨u, hu0⟩ : ∃ u, U[i] = u := ⟨_, rfl⟩
   have hgu : (U.map Said.v).getD (i : Int).toNat [] = u.v := by rw [getD_map _ _ _ hlt, hu0]
   refine AWp.skip ?_
   refine hK5 _ ?_; clear hK5
   refine AWp.seq_k fun K7 hK7 => ?_
   refine AWp.block ?_
   refine AWp.seq_cut (ι := Unit) (fun _ => True) (fun _ => tst [(1, vint k), (2, vint op), (3, vints ahead), (5, vint col), (6, vint other), (7, vint coll), (8, vbool asked), (13, .loc 13 0), (19, .slice 17 (U.map Said.v)), (20, vint i), (76, vbool (refP op t col other coll asked u))] [(13, (t.v, 49))] s 80) ?_ ?_
   ·refine AWp.regL1 mixed [0, 1, 2, 3, 4, 5, 6, 7, 8, 9, 10, 11, 12, 13, 14, 15, 16, 17, 18, 19, 20, 21, 22, 23, 24, 25, 26, 27, 28, 29, 30, 31, 32, 33, 34, 35, 36, 37, 38, 39, 40, 41, 42, 43, 44, 45, 46] (by decide +kernel) [] (by decide +kernel) fun R8 hR8 => ?_
    simp only [tvs, svs, ix0, ix1, true_and, hgu, ty3, ty41, ty45, ty49, ty182, ty185, List.append_eq, undef, aml, Nat.reduceBEq, am, seval, reduceCtorEq]
    refine gTL (fun hg5_7 => ?_) (fun hg5_7 => ?_)
    ·simp only [tvs, svs, ix0, ix1, true_and, hgu, hg5_7, ty3, ty41, ty45, ty49, ty182, ty185, List.append_eq, undef, aml, Nat.reduceBEq, am, seval, reduceCtorEq]
     refine gFL (fun hg5_15 => ?_) (fun hg5_15 => ?_)
     ·simp only [tvs, svs, ix0, ix1, true_and, hgu, hg5_7, hg5_15, ty3, ty41, ty45, ty49, ty182, ty185, List.append_eq, undef, aml, Nat.reduceBEq, am, seval, reduceCtorEq]
      refine gTL (fun hg5_25 => ?_) (fun hg5_25 => ?_)
      ·simp only [tvs, svs, ix0, ix1, true_and, hgu, hg5_7, hg5_15, hg5_25, ty3, ty41, ty45, ty49, ty182, ty185, List.append_eq, undef, aml, Nat.reduceBEq, am, seval, reduceCtorEq]
       refine gFL (fun hg5_28 => ?_) (fun hg5_28 => ?_)
       ·simp only [tvs, svs, ix0, ix1, true_and, hgu, hg5_7, hg5_15, hg5_25, hg5_28, ty3, ty41, ty45, ty49, ty182, ty185, List.append_eq, undef, aml, Nat.reduceBEq, am, seval, reduceCtorEq]
        refine gTL (fun hg5_38 => ?_) (fun hg5_38 => ?_)
        ·simp only [tvs, svs, ix0, ix1, true_and, hgu, hg5_7, hg5_15, hg5_25, hg5_28, hg5_38, ty3, ty41, ty45, ty49, ty182, ty185, List.append_eq, undef, aml, Nat.reduceBEq, am, seval, reduceCtorEq]
         refine (same_term u.fin t _).mono fun v' s' h => ?_
         rw [h.1, h.2]; clear h v' s'
         simp only [tvs, svs, ix0, ix1, true_and, hgu, hg5_7, hg5_15, hg5_25, hg5_28, hg5_38, ty3, ty41, ty45, ty49, ty182, ty185, List.append_eq, undef, aml, Nat.reduceBEq, am, seval, reduceCtorEq]
         refine hR8 _ ?_; clear hR8 R8
         refine ⟨(), trivial, ?_⟩
         refine le_tst ?_ ?_ ?_ (Heap.le.refl _) rfl
         ·simp only [leE, refP, hg5_7, hg5_15, hg5_25, hg5_28, hg5_38, bo, Bool.not_true, Bool.not_false, ↓reduceIte, Bool.false_eq_true, am, seval, reduceCtorEq]
         ·simp only [oks, Nat.reduceBEq]
         ·simp only [leB, refP, hg5_7, hg5_15, hg5_25, hg5_28, hg5_38, bo, Bool.not_true, Bool.not_false, ↓reduceIte, Bool.false_eq_true, am, seval, reduceCtorEq]
        ·simp only [tvs, svs, ix0, ix1, true_and, hgu, hg5_7, hg5_15, hg5_25, hg5_28, hg5_38, ty3, ty41, ty45, ty49, ty182, ty185, List.append_eq, undef, aml, Nat.reduceBEq, am, seval, reduceCtorEq]
         refine hR8 _ ?_; clear hR8 R8
         refine ⟨(), trivial, ?_⟩
         refine le_tst ?_ ?_ ?_ (Heap.le.refl _) rfl
         ·simp only [leE, refP, hg5_7, hg5_15, hg5_25, hg5_28, hg5_38, bo, Bool.not_true, Bool.not_false, ↓reduceIte, Bool.false_eq_true, am, seval, reduceCtorEq]
         ·simp only [oks, Nat.reduceBEq]
         ·simp only [leB, refP, hg5_7, hg5_15, hg5_25, hg5_28, hg5_38, bo, Bool.not_true, Bool.not_false, ↓reduceIte, Bool.false_eq_true, am, seval, reduceCtorEq]
       ·simp only [tvs, svs, ix0, ix1, true_and, hgu, hg5_7, hg5_15, hg5_25, hg5_28, ty3, ty41, ty45, ty49, ty182, ty185, List.append_eq, undef, aml, Nat.reduceBEq, am, seval, reduceCtorEq]
        refine (same_term u.fin t _).mono fun v' s' h => ?_
        rw [h.1, h.2]; clear h v' s'
        simp only [tvs, svs, ix0, ix1, true_and, hgu, hg5_7, hg5_15, hg5_25, hg5_28, ty3, ty41, ty45, ty49, ty182, ty185, List.append_eq, undef, aml, Nat.reduceBEq, am, seval, reduceCtorEq]
        refine hR8 _ ?_; clear hR8 R8
        refine ⟨(), trivial, ?_⟩
        refine le_tst ?_ ?_ ?_ (Heap.le.refl _) rfl
        ·simp only [leE, refP, hg5_7, hg5_15, hg5_25, hg5_28, bo, Bool.not_true, Bool.not_false, ↓reduceIte, Bool.false_eq_true, am, seval, reduceCtorEq]
        ·simp only [oks, Nat.reduceBEq]
        ·simp only [leB, refP, hg5_7, hg5_15, hg5_25, hg5_28, bo, Bool.not_true, Bool.not_false, ↓reduceIte, Bool.false_eq_true, am, seval, reduceCtorEq]
      ·simp only [tvs, svs, ix0, ix1, true_and, hgu, hg5_7, hg5_15, hg5_25, ty3, ty41, ty45, ty49, ty182, ty185, List.append_eq, undef, aml, Nat.reduceBEq, am, seval, reduceCtorEq]
       refine hR8 _ ?_; clear hR8 R8
       refine ⟨(), trivial, ?_⟩
       refine le_tst ?_ ?_ ?_ (Heap.le.refl _) rfl
       ·simp only [leE, refP, hg5_7, hg5_15, hg5_25, bo, Bool.not_true, Bool.not_false, ↓reduceIte, Bool.false_eq_true, am, seval, reduceCtorEq]
       ·simp only [oks, Nat.reduceBEq]
       ·simp only [leB, refP, hg5_7, hg5_15, hg5_25, bo, Bool.not_true, Bool.not_false, ↓reduceIte, Bool.false_eq_true, am, seval, reduceCtorEq]
     ·simp only [tvs, svs, ix0, ix1, true_and, hgu, hg5_7, hg5_15, ty3, ty41, ty45, ty49, ty182, ty185, List.append_eq, undef, aml, Nat.reduceBEq, am, seval, reduceCtorEq]
      refine gFL (fun hg5_28 => ?_) (fun hg5_28 => ?_)
      ·simp only [tvs, svs, ix0, ix1, true_and, hgu, hg5_7, hg5_15, hg5_28, ty3, ty41, ty45, ty49, ty182, ty185, List.append_eq, undef, aml, Nat.reduceBEq, am, seval, reduceCtorEq]
       refine gTL (fun hg5_38 => ?_) (fun hg5_38 => ?_)
       ·simp only [tvs, svs, ix0, ix1, true_and, hgu, hg5_7, hg5_15, hg5_28, hg5_38, ty3, ty41, ty45, ty49, ty182, ty185, List.append_eq, undef, aml, Nat.reduceBEq, am, seval, reduceCtorEq]
        refine (same_term u.fin t _).mono fun v' s' h => ?_
        rw [h.1, h.2]; clear h v' s'
        simp only [tvs, svs, ix0, ix1, true_and, hgu, hg5_7, hg5_15, hg5_28, hg5_38, ty3, ty41, ty45, ty49, ty182, ty185, List.append_eq, undef, aml, Nat.reduceBEq, am, seval, reduceCtorEq]
        refine hR8 _ ?_; clear hR8 R8
        refine ⟨(), trivial, ?_⟩
        refine le_tst ?_ ?_ ?_ (Heap.le.refl _) rfl
        ·simp only [leE, refP, hg5_7, hg5_15, hg5_28, hg5_38, bo, Bool.not_true, Bool.not_false, ↓reduceIte, Bool.false_eq_true, am, seval, reduceCtorEq]
        ·simp only [oks, Nat.reduceBEq]
        ·simp only [leB, refP, hg5_7, hg5_15, hg5_28, hg5_38, bo, Bool.not_true, Bool.not_false, ↓reduceIte, Bool.false_eq_true, am, seval, reduceCtorEq]
       ·simp only [tvs, svs, ix0, ix1, true_and, hgu, hg5_7, hg5_15, hg5_28, hg5_38, ty3, ty41, ty45, ty49, ty182, ty185, List.append_eq, undef, aml, Nat.reduceBEq, am, seval, reduceCtorEq]
        refine hR8 _ ?_; clear hR8 R8
        refine ⟨(), trivial, ?_⟩
        refine le_tst ?_ ?_ ?_ (Heap.le.refl _) rfl
        ·simp only [leE, refP, hg5_7, hg5_15, hg5_28, hg5_38, bo, Bool.not_true, Bool.not_false, ↓reduceIte, Bool.false_eq_true, am, seval, reduceCtorEq]
        ·simp only [oks, Nat.reduceBEq]
        ·simp only [leB, refP, hg5_7, hg5_15, hg5_28, hg5_38, bo, Bool.not_true, Bool.not_false, ↓reduceIte, Bool.false_eq_true, am, seval, reduceCtorEq]
      ·simp only [tvs, svs, ix0, ix1, true_and, hgu, hg5_7, hg5_15, hg5_28, ty3, ty41, ty45, ty49, ty182, ty185, List.append_eq, undef, aml, Nat.reduceBEq, am, seval, reduceCtorEq]
       refine (same_term u.fin t _).mono fun v' s' h => ?_
       rw [h.1, h.2]; clear h v' s'
       simp only [tvs, svs, ix0, ix1, true_and, hgu, hg5_7, hg5_15, hg5_28, ty3, ty41, ty45, ty49, ty182, ty185, List.append_eq, undef, aml, Nat.reduceBEq, am, seval, reduceCtorEq]
       refine hR8 _ ?_; clear hR8 R8
       refine ⟨(), trivial, ?_⟩
       refine le_tst ?_ ?_ ?_ (Heap.le.refl _) rfl
       ·simp only [leE, refP, hg5_7, hg5_15, hg5_28, bo, Bool.not_true, Bool.not_false, ↓reduceIte, Bool.false_eq_true, am, seval, reduceCtorEq]
       ·simp only [oks, Nat.reduceBEq]
       ·simp only [leB, refP, hg5_7, hg5_15, hg5_28, bo, Bool.not_true, Bool.not_false, ↓reduceIte, Bool.false_eq_true, am, seval, reduceCtorEq]
    ·simp only [tvs, svs, ix0, ix1, true_and, hgu, hg5_7, ty3, ty41, ty45, ty49, ty182, ty185, List.append_eq, undef, aml, Nat.reduceBEq, am, seval, reduceCtorEq]
     refine hR8 _ ?_; clear hR8 R8
     refine ⟨(), trivial, ?_⟩
     refine le_tst ?_ ?_ ?_ (Heap.le.refl _) rfl
     ·simp only [leE, refP, hg5_7, bo, Bool.not_true, Bool.not_false, ↓reduceIte, Bool.false_eq_true, am, seval, reduceCtorEq]
     ·simp only [oks, Nat.reduceBEq]
     ·simp only [leB, refP, hg5_7, bo, Bool.not_true, Bool.not_false, ↓reduceIte, Bool.false_eq_true, am, seval, reduceCtorEq]
   ·rintro ⟨⟩ _
    refine AWp.cond (t := refP op t col other coll asked u) (by simp only [am, seval, reduceCtorEq]) (fun hp => ?_) (fun hp => ?_)
    ·refine AWp.reg fun R9 hR9 => ?_
     simp only [tvs, ty49, am, seval, reduceCtorEq]
     refine (f89_spec t hw ahead _).mono fun v' s' h => ?_
     rw [h.1, h.2]; clear h v' s'
     simp only [tvs, ty49, am, seval, reduceCtorEq]
     refine hR9 _ ?_; clear hR9 R9
     refine AWp.ret ?_
     refine ret_intro (by show resV Tryz.prog _ [.tmp 18] = _; simp only [resV, am, seval, reduceCtorEq]; rfl) (Wk.refl _) (Heap.le.refl _) ⟨?_, rfl⟩
     simp only [oneV]; rw [refHas_P, hUe, any_at hlt (by rw [hu0]; exact hp), Bool.true_and]
    ·refine AWp.skip ?_
     refine hK7 _ ?_; clear hK7
     refine AWp.reg1 fun R10 hR10 => ?_
     simp only [ty3, am, seval, reduceCtorEq]
     refine hR10 _ ?_; clear hR10 R10
     refine ⟨i + 1, ⟨⟨hlt, any_take_succ hlt hno (by rw [hu0]; exact hp)⟩, by omega⟩, ?_⟩
     refine le_tst ?_ ?_ ?_ (Heap.le.refl _) rfl
     ·simp only [leE, am, seval, reduceCtorEq]; rw [wrap_id (by omega) (by omega)]; simp
     ·simp only [oks, Nat.reduceBEq]
     ·simp only [leB, am, seval, reduceCtorEq]
  ·obtain rfl : i = U.length := eq_of_dec ht hi
   refine AWp.exit ?_
   simp only [exq, seval]
   refine hK3 _ ?_; clear hK3
   refine AWp.reg fun R11 hR11 => ?_
   simp only [am, seval, reduceCtorEq]
   refine hR11 _ ?_; clear hR11 R11
   refine AWp.ret ?_
   refine ret_intro (by show resV Tryz.prog _ [.tmp 18] = _; simp only [resV, am, seval, reduceCtorEq]; rfl) (Wk.refl _) (Heap.le.refl _) ⟨?_, rfl⟩
   simp only [oneV]; rw [refHas_P, hUe, any_end hno, Bool.false_and]
theorem f136_spec (a : Arm) (k : Int) (hk0 : 0 ≤ k) (hk1 : k < ((a.frm.length : Nat) : Int)) (hu : UOk a k) (l : List Bound) (hlw : ∀ b ∈ l, b.w ≤ 2^28) (ahead : List Int) (opn closed : Int) (keys : List Sorted) : Gives Tryz.prog 136 [.agg a.v, vint k, .slice 15 (l.map Bound.v), vints ahead, vint opn, vint closed, .slice 3 (keys.map Sorted.v)] (vbool (bounded a k l ahead opn closed keys)) := by
 intro s
 refine acalls_of (fn := Tryz.f136) Tryz.func136 rfl (by decide) (by show 7 ≤ 54; decide) ?_
 rw [Tryz.ntmps136]
 refine AWp.reg fun R1 hR1 => ?_
 simp only [avs, ty75, am, seval, reduceCtorEq]
 refine hR1 _ ?_; clear hR1 R1
 refine AWp.seq_k fun K2 hK2 => ?_
 refine AWp.reg fun R3 hR3 => ?_
 simp only [ty3, ty64, ty132, am, seval, reduceCtorEq]
 refine hR3 _ ?_; clear hR3 R3
 refine AWp.condK fun C1 C2 hC1 hC2 => ?_
 simp only [condP, am, seval, reduceCtorEq]
 refine ⟨fun hc18 => hC1 ?_, fun hc18 => hC2 ?_⟩ <;> clear hC1 hC2 C1 C2
 ·obtain rfl : l = [] := List.eq_nil_of_length_eq_zero (by have := eq_of_beq hc18; omega)
  refine AWp.reg fun R4 hR4 => ?_
  simp only [am, seval, reduceCtorEq]
  refine hR4 _ ?_; clear hR4 R4
  refine AWp.ret ?_
  refine ret_intro (by show resV Tryz.prog _ [.tmp 14] = _; simp only [resV, am, seval, reduceCtorEq]; rfl) (Wk.refl _) (Heap.le.refl _) ⟨?_, rfl⟩
  simp only [bounded, oneV]
 ·refine AWp.skip ?_
  refine hK2 _ ?_; clear hK2
  refine AWp.seq_k fun K5 hK5 => ?_
  refine AWp.reg fun R6 hR6 => ?_
  simp only [ty3, ty64, ty132, ty145, ty149, undef, am, seval, reduceCtorEq]
  refine gF (fun hg3_3 => ?_) (fun hg3_3 => ?_)
  ·simp only [hg3_3, ty3, ty64, ty132, ty145, ty149, undef, am, seval, reduceCtorEq]
   refine hR6 _ ?_; clear hR6 R6
   refine AWp.condK fun C1 C2 hC1 hC2 => ?_
   simp only [condP, am, seval, reduceCtorEq]
   refine ⟨fun hc26 => hC1 ?_, fun hc26 => hC2 ?_⟩ <;> clear hC1 hC2 C1 C2
   ·obtain rfl : keys = [] := List.eq_nil_of_length_eq_zero (by have := eq_of_beq hc26; omega)
    refine AWp.reg fun R7 hR7 => ?_
    simp only [am, seval, reduceCtorEq]
    refine hR7 _ ?_; clear hR7 R7
    refine AWp.ret ?_
    refine ret_intro (by show resV Tryz.prog _ [.tmp 14] = _; simp only [resV, am, seval, reduceCtorEq]; rfl) (Wk.refl _) (Heap.le.refl _) ⟨?_, rfl⟩
    match l, hc18 with
    | [], h => simp at h
    | [_], _ => simp only [bounded, oneV]
    | _ :: _ :: _, _ => simp only [bounded, oneV]
   ·obtain ⟨b, rfl⟩ : ∃ b, l = [b] := by
     match l, hc18, hg3_3 with
     | [], h, _ => simp at h
     | [b], _, _ => exact ⟨b, rfl⟩
     | _ :: _ :: _, _, h => simp at h; omega
    obtain ⟨q, ks, rfl⟩ : ∃ q ks, keys = q :: ks := by
     match keys, hc26 with
     | [], h => simp at h
     | q :: ks, _ => exact ⟨q, ks, rfl⟩
    have hb := hlw b (by simp)
    have ixa : ((0 : Int) ≤ 0) = True := by simp
    have ixb : ((0 : Int) < ((1 : Nat) : Int)) = True := by simp
    have ixc : ((0 : Int) < ((ks.length + 1 : Nat) : Int)) = True := by simp <;> omega
    refine AWp.skip ?_
    refine hK5 _ ?_; clear hK5
    refine AWp.reg fun R8 hR8 => ?_
    simp only [am, seval, reduceCtorEq]
    refine hR8 _ ?_; clear hR8 R8
    refine AWp.seq_k fun K9 hK9 => ?_
    refine AWp.reg fun R10 hR10 => ?_
    simp only [avs, Bound.v_len, Bound.v_all, Bound.v_opn, Bound.v_term, Bound.v_term', ixa, ixb, ixc, true_and, Int.toNat_zero, Sorted.v_eq, ty4, ty64, ty132, am, seval, reduceCtorEq]
    refine hR10 _ ?_; clear hR10 R10
    refine AWp.condK fun C1 C2 hC1 hC2 => ?_
    simp only [condP, hc18, hg3_3, am, seval, reduceCtorEq]
    refine ⟨fun hc31 => hC1 ?_, fun hc31 => hC2 ?_⟩ <;> clear hC1 hC2 C1 C2
    ·refine AWp.reg1 fun R11 hR11 => ?_
     simp only [am, seval, reduceCtorEq]
     refine hR11 _ ?_; clear hR11 R11
     refine hK9 _ ?_; clear hK9
     refine AWp.regL mixed [0, 1, 2, 3, 4, 5, 6, 7, 8, 9, 10, 11, 12, 13, 14, 15, 16, 17, 18, 19, 20, 21] (by decide +kernel) [] (by decide +kernel) fun R12 hR12 => ?_
     simp only [avs, Bound.v_len, Bound.v_all, Bound.v_opn, Bound.v_term, Bound.v_term', ixa, ixb, ixc, true_and, Int.toNat_zero, Sorted.v_eq, ty3, ty45, ty49, ty64, ty75, ty132, ty145, ty149, aml, Nat.reduceBEq, am, seval, reduceCtorEq]
     refine (f134_spec a k hk0 hk1 hu opn ahead b.term (by have := Bound.w_eq b; omega) q.col q.col q.coll true _).mono fun v' s' h => ?_
     rw [h.1, h.2]; clear h v' s'
     simp only [avs, Bound.v_len, Bound.v_all, Bound.v_opn, Bound.v_term, Bound.v_term', ixa, ixb, ixc, true_and, Int.toNat_zero, Sorted.v_eq, ty3, ty45, ty49, ty64, ty75, ty132, ty145, ty149, aml, Nat.reduceBEq, am, seval, reduceCtorEq]
     refine hR12 _ ?_; clear hR12 R12
     refine AWp.ret ?_
     refine ret_intro (by show resV Tryz.prog _ [.tmp 14] = _; simp only [resV, am, seval, reduceCtorEq]; rfl) (Wk.refl _) (Heap.le.refl _) ⟨?_, rfl⟩
     simp only [bounded, oneV, hc31, refHas_key, ↓reduceIte, Bool.false_eq_true]
    ·refine AWp.skip ?_
     refine hK9 _ ?_; clear hK9
     refine AWp.regL mixed [0, 1, 2, 3, 4, 5, 6, 7, 8, 9, 10, 11, 12, 13, 14, 15, 16, 17, 18, 19, 20, 21] (by decide +kernel) [] (by decide +kernel) fun R13 hR13 => ?_
     simp only [avs, Bound.v_len, Bound.v_all, Bound.v_opn, Bound.v_term, Bound.v_term', ixa, ixb, ixc, true_and, Int.toNat_zero, Sorted.v_eq, ty3, ty45, ty49, ty64, ty75, ty132, ty145, ty149, aml, Nat.reduceBEq, am, seval, reduceCtorEq]
     refine (f134_spec a k hk0 hk1 hu closed ahead b.term (by have := Bound.w_eq b; omega) q.col q.col q.coll true _).mono fun v' s' h => ?_
     rw [h.1, h.2]; clear h v' s'
     simp only [avs, Bound.v_len, Bound.v_all, Bound.v_opn, Bound.v_term, Bound.v_term', ixa, ixb, ixc, true_and, Int.toNat_zero, Sorted.v_eq, ty3, ty45, ty49, ty64, ty75, ty132, ty145, ty149, aml, Nat.reduceBEq, am, seval, reduceCtorEq]
     refine hR13 _ ?_; clear hR13 R13
     refine AWp.ret ?_
     refine ret_intro (by show resV Tryz.prog _ [.tmp 14] = _; simp only [resV, am, seval, reduceCtorEq]; rfl) (Wk.refl _) (Heap.le.refl _) ⟨?_, rfl⟩
     simp only [bounded, oneV, hc31, refHas_key, ↓reduceIte, Bool.false_eq_true]
  ·simp only [hg3_3, ty3, ty64, ty132, ty145, ty149, undef, am, seval, reduceCtorEq]
   refine hR6 _ ?_; clear hR6 R6
   refine AWp.cond (t := true) (by simp only [hc18, hg3_3, am, seval, reduceCtorEq]) (fun _ => ?_) (fun h => by cases h)
   refine AWp.reg fun R7 hR7 => ?_
   simp only [am, seval, reduceCtorEq]
   refine hR7 _ ?_; clear hR7 R7
   refine AWp.ret ?_
   refine ret_intro (by show resV Tryz.prog _ [.tmp 14] = _; simp only [resV, am, seval, reduceCtorEq]; rfl) (Wk.refl _) (Heap.le.refl _) ⟨?_, rfl⟩
   match l, hc18, hg3_3 with
   | [], h, _ => simp at h
   | [_], _, h => simp at h
   | _ :: _ :: _, _, _ => simp only [bounded, oneV]
theorem f135_spec (sc : Schema) (hs1 : sc.views.isCell = true) (hil : sc.indexes.length ≤ 2^40) (table name : ByteArray) : Gives Tryz.prog 135 [.agg sc.v, vstr table, vstr name] (vint (sc.index table name)) := by
 intro s
 refine acalls_of (fn := Tryz.f135) Tryz.func135 rfl (by decide) (by show 3 ≤ 34; decide) ?_
 rw [Tryz.ntmps135]
 refine AWp.reg fun R1 hR1 => ?_
 simp only [Schema.v_eq, hs1, ty26, am, seval, reduceCtorEq]
 refine hR1 _ ?_; clear hR1 R1
 refine AWp.seq_k fun K2 hK2 => ?_
 refine AWp.reg fun R3 hR3 => ?_
 simp only [Schema.v_eq, hs1, am, seval, reduceCtorEq]
 refine hR3 _ ?_; clear hR3 R3
 refine AWp.block ?_
 refine AWp.loopT (ι := Nat) (fun i => i ≤ sc.indexes.length ∧ (sc.indexes.take i).any (fun i => i.name.toList == name.toList && i.table.toList == table.toList) = false) (fun i => tst [(1, vstr table), (2, vstr name), (3, .loc 3 0), (7, vint i)] [(3, (sc.v, 26))] s 34) (fun i => sc.indexes.length - i) 0 ⟨⟨Nat.zero_le _, by simp⟩, ?_⟩ ?_
 ·refine le_tst ?_ ?_ ?_ (Heap.le.refl _) rfl
  ·simp only [leE, Schema.v_eq, am, seval, reduceCtorEq] <;> simp
  ·simp only [oks, Nat.reduceBEq]
  ·simp only [leB, Schema.v_eq, am, seval, reduceCtorEq]
 ·rintro i ⟨hi, hno⟩
  refine AWp.seq_k fun K4 hK4 => ?_
  refine AWp.reg fun R5 hR5 => ?_
  simp only [Schema.v_eq, hs1, ty3, ty23, ty26, ty147, am, seval, reduceCtorEq]
  refine hR5 _ ?_; clear hR5 R5
  refine AWp.cond (t := decide ((i:Int) < (sc.indexes.length : Nat))) (by simp only [am, seval, reduceCtorEq]) (fun ht => ?_) (fun ht => ?_)
  ·have hlt : i < sc.indexes.length := lt_of_dec ht
   have ix0 : (0 ≤ (i : Int)) = True := by simp
   have ix1 : ((i : Int) < ((sc.indexes.length : Nat) : Int)) = True := by simp [hlt]
   obtain ⟨x, hx0⟩ : ∃ x, sc.indexes[i] = x := ⟨_, rfl⟩
   have hgi : (sc.indexes.map Index.v).getD (i : Int).toNat [] = x.v := by rw [getD_map _ _ _ hlt, hx0]
   refine AWp.skip ?_
   refine hK4 _ ?_; clear hK4
   refine AWp.seq_k fun K6 hK6 => ?_
   refine AWp.block ?_
   refine AWp.seq_cut (ι := Unit) (fun _ => True) (fun _ => tst [(1, vstr table), (2, vstr name), (3, .loc 3 0), (7, vint i), (32, vbool (x.name.toList == name.toList && x.table.toList == table.toList))] [(3, (sc.v, 26))] s 34) ?_ ?_
   ·refine AWp.reg1 fun R7 hR7 => ?_
    simp only [Schema.v_eq, hs1, ix0, ix1, true_and, hgi, Index.v_eq, ty9, ty23, ty26, ty147, undef, am, seval, reduceCtorEq]
    refine gT (fun hg4_8 => ?_) (fun hg4_8 => ?_)
    ·simp only [Schema.v_eq, hs1, ix0, ix1, true_and, hgi, Index.v_eq, hg4_8, ty9, ty23, ty26, ty147, undef, am, seval, reduceCtorEq]
     refine hR7 _ ?_; clear hR7 R7
     refine ⟨(), trivial, ?_⟩
     refine le_tst ?_ ?_ ?_ (Heap.le.refl _) rfl
     ·simp only [leE, Schema.v_eq, hg4_8, bo, Bool.not_true, Bool.not_false, ↓reduceIte, Bool.false_eq_true, am, seval, reduceCtorEq]
     ·simp only [oks, Nat.reduceBEq]
     ·simp only [leB, Schema.v_eq, hg4_8, bo, Bool.not_true, Bool.not_false, ↓reduceIte, Bool.false_eq_true, am, seval, reduceCtorEq]
    ·simp only [Schema.v_eq, hs1, ix0, ix1, true_and, hgi, Index.v_eq, hg4_8, ty9, ty23, ty26, ty147, undef, am, seval, reduceCtorEq]
     refine hR7 _ ?_; clear hR7 R7
     refine ⟨(), trivial, ?_⟩
     refine le_tst ?_ ?_ ?_ (Heap.le.refl _) rfl
     ·simp only [leE, Schema.v_eq, hg4_8, bo, Bool.not_true, Bool.not_false, ↓reduceIte, Bool.false_eq_true, am, seval, reduceCtorEq]
     ·simp only [oks, Nat.reduceBEq]
     ·simp only [leB, Schema.v_eq, hg4_8, bo, Bool.not_true, Bool.not_false, ↓reduceIte, Bool.false_eq_true, am, seval, reduceCtorEq]
   ·rintro ⟨⟩ _
    refine AWp.cond (t := x.name.toList == name.toList && x.table.toList == table.toList) (by simp only [am, seval, reduceCtorEq]) (fun hp => ?_) (fun hp => ?_)
    ·refine AWp.reg fun R8 hR8 => ?_
     simp only [Schema.v_eq, hs1, am, seval, reduceCtorEq]
     refine hR8 _ ?_; clear hR8 R8
     refine AWp.ret ?_
     refine ret_intro (by show resV Tryz.prog _ [.tmp 6] = _; simp only [resV, am, seval, reduceCtorEq]; rfl) (Wk.refl _) (Heap.le.refl _) ⟨?_, rfl⟩
     simp only [oneV]; unfold Schema.index; rw [idx_at hlt hno (by rw [hx0]; exact hp)]
    ·refine AWp.skip ?_
     refine hK6 _ ?_; clear hK6
     refine AWp.reg1 fun R9 hR9 => ?_
     simp only [Schema.v_eq, hs1, ty3, am, seval, reduceCtorEq]
     refine hR9 _ ?_; clear hR9 R9
     refine ⟨i + 1, ⟨⟨hlt, any_take_succ hlt hno (by rw [hx0]; exact hp)⟩, by omega⟩, ?_⟩
     refine le_tst ?_ ?_ ?_ (Heap.le.refl _) rfl
     ·simp only [leE, Schema.v_eq, am, seval, reduceCtorEq]; rw [wrap_id (by omega) (by omega)]; simp
     ·simp only [oks, Nat.reduceBEq]
     ·simp only [leB, Schema.v_eq, am, seval, reduceCtorEq]
  ·obtain rfl : i = sc.indexes.length := eq_of_dec ht hi
   refine AWp.exit ?_
   simp only [exq, seval]
   refine hK2 _ ?_; clear hK2
   refine AWp.reg fun R10 hR10 => ?_
   simp only [Schema.v_eq, hs1, am, seval, reduceCtorEq]
   refine hR10 _ ?_; clear hR10 R10
   refine AWp.ret ?_
   refine ret_intro (by show resV Tryz.prog _ [.tmp 6] = _; simp only [resV, am, seval, reduceCtorEq]; rfl) (Wk.refl _) (Heap.le.refl _) ⟨?_, rfl⟩
   simp only [oneV]; unfold Schema.index; rw [idx_none hno]
theorem f87_spec (a : Arm) (k : Int) (hk0 : 0 ≤ k) (hk1 : k < ((a.frm.length : Nat) : Int)) (l : List Int) (hl : l.length ≤ 2^29) (hon : ∀ t ∈ (a.src k).on, t.w ≤ 2^28) (hol : (a.src k).on.length ≤ 2^40) : Gives Tryz.prog 87 [.agg a.v, vint k, vints l] (vbool (ready a k l)) := by
 have kx0 : (0 ≤ k) = True := by simp [hk0]
 have kx1 : (k < ((a.frm.length : Nat) : Int)) = True := by simp [hk1]
 have hgd : (a.frm.map From.v).getD k.toNat [] = (a.src k).v := src_get a k hk0 hk1
 intro s
 refine acalls_of (fn := Tryz.f87) Tryz.func87 rfl (by decide) (by show 3 ≤ 35; decide) ?_
 rw [Tryz.ntmps87]
 refine AWp.reg fun R1 hR1 => ?_
 simp only [avs, kx0, kx1, true_and, hgd, From.v_eq, ty75, am, seval, reduceCtorEq]
 refine hR1 _ ?_; clear hR1 R1
 refine AWp.reg fun R2 hR2 => ?_
 simp only [am, seval, reduceCtorEq]
 refine (f28_spec l k (by omega) _).mono fun v' s' h => ?_
 rw [h.1, h.2]; clear h v' s'
 simp only [am, seval, reduceCtorEq]
 refine hR2 _ ?_; clear hR2 R2
 refine AWp.seq_k fun K3 hK3 => ?_
 refine AWp.reg fun R4 hR4 => ?_
 simp only [am, seval, reduceCtorEq]
 refine hR4 _ ?_; clear hR4 R4
 refine AWp.block ?_
 refine AWp.loopT (ι := Nat) (fun i => i ≤ (a.src k).on.length ∧ ((a.src k).on.take i).any (fun t => !within t (put l k)) = false) (fun i => tst [(1, vint k), (3, .loc 3 0), (7, vints (put l k)), (8, vint i)] [(3, (a.v, 75))] s 35) (fun i => (a.src k).on.length - i) 0 ⟨⟨Nat.zero_le _, by simp⟩, ?_⟩ ?_
 ·refine le_tst ?_ ?_ ?_ (Heap.le.refl _) rfl
  ·simp only [leE, am, seval, reduceCtorEq] <;> simp
  ·simp only [oks, Nat.reduceBEq]
  ·simp only [leB, am, seval, reduceCtorEq]
 ·rintro i ⟨hi, hno⟩
  refine AWp.seq_k fun K5 hK5 => ?_
  refine AWp.reg fun R6 hR6 => ?_
  simp only [avs, kx0, kx1, true_and, hgd, From.v_eq, ty3, ty31, ty49, ty72, ty75, ty107, am, seval, reduceCtorEq]
  refine hR6 _ ?_; clear hR6 R6
  refine AWp.cond (t := decide ((i:Int) < ((a.src k).on.length : Nat))) (by simp only [am, seval, reduceCtorEq]) (fun ht => ?_) (fun ht => ?_)
  ·have hlt : i < (a.src k).on.length := lt_of_dec ht
   have ix0 : (0 ≤ (i : Int)) = True := by simp
   have ix1 : ((i : Int) < (((a.src k).on.length : Nat) : Int)) = True := by simp [hlt]
   obtain ⟨t, ht0⟩ : ∃ t, (a.src k).on[i] = t := ⟨_, rfl⟩
   have hgt : ((a.src k).on.map Term.v).getD (i : Int).toNat [] = t.v := by rw [getD_map _ _ _ hlt, ht0]
   refine AWp.skip ?_
   refine hK5 _ ?_; clear hK5
   refine AWp.seq_k fun K7 hK7 => ?_
   refine AWp.block ?_
   refine AWp.reg fun R8 hR8 => ?_
   simp only [avs, kx0, kx1, true_and, hgd, From.v_eq, ix0, ix1, hgt, tvs, ty31, ty49, ty72, ty75, ty107, am, seval, reduceCtorEq]
   refine (f89_spec t (hon _ (by rw [← ht0]; exact List.getElem_mem hlt)) (put l k) _).mono fun v' s' h => ?_
   rw [h.1, h.2]; clear h v' s'
   simp only [avs, kx0, kx1, true_and, hgd, From.v_eq, ix0, ix1, hgt, tvs, ty31, ty49, ty72, ty75, ty107, am, seval, reduceCtorEq]
   refine hR8 _ ?_; clear hR8 R8
   refine AWp.condK fun C1 C2 hC1 hC2 => ?_
   simp only [condP, am, seval, reduceCtorEq]
   refine ⟨fun hc34 => hC1 ?_, fun hc34 => hC2 ?_⟩ <;> clear hC1 hC2 C1 C2
   ·refine AWp.reg fun R9 hR9 => ?_
    simp only [am, seval, reduceCtorEq]
    refine hR9 _ ?_; clear hR9 R9
    refine AWp.ret ?_
    refine ret_intro (by show resV Tryz.prog _ [.tmp 6] = _; simp only [resV, am, seval, reduceCtorEq]; rfl) (Wk.refl _) (Heap.le.refl _) ⟨?_, rfl⟩
    simp only [oneV]; rw [← ready_put, any_at hlt (by rw [ht0]; exact hc34)]; rfl
   ·refine AWp.skip ?_
    refine hK7 _ ?_; clear hK7
    refine AWp.reg1 fun R10 hR10 => ?_
    simp only [ty3, am, seval, reduceCtorEq]
    refine hR10 _ ?_; clear hR10 R10
    refine ⟨i + 1, ⟨⟨hlt, any_take_succ hlt hno (by rw [ht0]; exact hc34)⟩, by omega⟩, ?_⟩
    refine le_tst ?_ ?_ ?_ (Heap.le.refl _) rfl
    ·simp only [leE, am, seval, reduceCtorEq]; rw [wrap_id (by omega) (by omega)]; simp
    ·simp only [oks, Nat.reduceBEq]
    ·simp only [leB, am, seval, reduceCtorEq]
  ·obtain rfl : i = (a.src k).on.length := eq_of_dec ht hi
   refine AWp.exit ?_
   simp only [exq, seval]
   refine hK3 _ ?_; clear hK3
   refine AWp.reg fun R11 hR11 => ?_
   simp only [am, seval, reduceCtorEq]
   refine hR11 _ ?_; clear hR11 R11
   refine AWp.ret ?_
   refine ret_intro (by show resV Tryz.prog _ [.tmp 6] = _; simp only [resV, am, seval, reduceCtorEq]; rfl) (Wk.refl _) (Heap.le.refl _) ⟨?_, rfl⟩
   simp only [oneV]; rw [← ready_put, any_end hno]; rfl
end Go.Proofs.YtcckhbconihagaaGreatDoor
set_option linter.unusedSimpArgs false
set_option linter.unusedVariables false
set_option maxRecDepth 100000
namespace Go.Proofs.YtcckhbconihagaaGreatDoor
open Go.Am Go.Pl
theorem Sch.v_take (sc : Schema) : sc.v.take 3 = sc.v := rfl
theorem Sch.v_tab (sc : Schema) : sc.v[0]? = some (.slice 3 (sc.tables.map Table.v)) := rfl
theorem Sch.v_idx (sc : Schema) : sc.v[1]? = some (.slice 5 (sc.indexes.map Index.v)) := rfl
theorem From.v_all (a : From) : a.v.all V.isCell = true := by rw [From.v_eq]; rfl
theorem From.v_take (a : From) : a.v.take 7 = a.v := List.take_of_length_le (by rw [From.v_len]; exact Nat.le_refl _)
theorem From.v_kind (a : From) : a.v[1]? = some (vint a.kind) := by rw [From.v_eq]; rfl
theorem From.v_name (a : From) : a.v[2]? = some (vstr a.name) := by rw [From.v_eq]; rfl
theorem sum0 {a b c : Nat} : (((a : Int) + (b : Int) + (c : Int)) == 0) = (((a : Int) == 0) && (((b : Int) + (c : Int)) == 0)) := by
  rw [Bool.eq_iff_iff]; simp only [Bool.and_eq_true, beq_iff_eq]; omega
theorem idx_no {sc : Schema} {a : Arm} {k : Int} {x : Path} {ahead : List Int} {N : Int} {J : Index} (h0 : (x.kind == 0) = false) (h1 : (((a.src k).kind != 0) || !sc.hasTable (a.src k).name) = false) (h2 : (x.kind == 1) = false) (hN : sc.index (sc.table (a.src k).name).name x.index = N) (hK : sc.keys N = J.keys)
    (h : ((x.kind != 2) || (decide (N < 0) || decide (((x.eq.length : Nat) : Int) > ((J.keys.length : Nat) : Int)))) = true) : V.base (Value.bool false) = vbool (pathOk sc a k x ahead) := by
  unfold pathOk indexOk
  rw [h1, h0, h2, hN, hK]
  cases hk : (x.kind == 2)
  · simp
  · have e : (x.kind != 2) = false := by simp [bne, hk]
    rw [e, Bool.false_or] at h
    rw [h]; simp
theorem f88_spec (sc : Schema) (hs : SchOk sc) (hns : ∀ t ∈ sc.tables, t.name.size ≤ 2^30) (hil : sc.indexes.length ≤ 2^40) (a : Arm) (k : Int) (hk0 : 0 ≤ k) (hk1 : k < ((a.frm.length : Nat) : Int)) (hu : UOk a k) (hnm : (a.src k).name.size ≤ 2^30) (x : Path) (hx : XOk x) (ahead : List Int) : Gives Tryz.prog 88 [.agg sc.v, .agg a.v, vint k, .agg x.v, vints ahead] (vbool (pathOk sc a k x ahead)) := by
 have hs1 := hs.1
 have kx0 : (0 ≤ k) = True := by simp [hk0]
 have kx1 : (k < ((a.frm.length : Nat) : Int)) = True := by simp [hk1]
 have hgd : (a.frm.map From.v).getD k.toNat [] = (a.src k).v := src_get a k hk0 hk1
 have hxl := hx.len
 have hwr3 : IntKind.i64.wrap (((x.low.length : Nat) : Int) + ((x.high.length : Nat) : Int)) = ((x.low.length : Nat) : Int) + ((x.high.length : Nat) : Int) := wrap_id (by omega) (by omega)
 have hix : decide (sc.tableIx (a.src k).name < 0) = !sc.hasTable (a.src k).name := by
  have h := idx_ge (fun t => eqName t.name (a.src k).name) sc.tables
  unfold Schema.tableIx Schema.hasTable
  rw [← h, Bool.eq_iff_iff]; simp
 obtain ⟨N, hN⟩ : ∃ N, sc.index (sc.table (a.src k).name).name x.index = N := ⟨_, rfl⟩
 obtain ⟨J, hJ⟩ : ∃ J, sc.indexes.getD N.toNat zindex = J := ⟨_, rfl⟩
 have hK : sc.keys N = J.keys := by unfold Schema.keys; rw [hJ]
 intro s
 refine acalls_of (fn := Tryz.f88) Tryz.func88 rfl (by decide) (by show 5 ≤ 181; decide) ?_
 rw [Tryz.ntmps88]
 refine AWp.reg fun R1 hR1 => ?_
 simp only [avs, Sch.v_all hs1, Sch.v_len, Sch.v_take, Path.v_eq, ty26, ty66, ty75, am, seval, reduceCtorEq]
 refine hR1 _ ?_; clear hR1 R1
 refine AWp.reg fun R2 hR2 => ?_
 simp only [Path.v_eq, hwr3, ty3, ty64, ty66, ty132, am, seval, reduceCtorEq]
 refine hR2 _ ?_; clear hR2 R2
 refine AWp.seq_k fun K3 hK3 => ?_
 refine AWp.reg fun R4 hR4 => ?_
 simp only [Path.v_eq, ty63, ty66, am, seval, reduceCtorEq]
 refine hR4 _ ?_; clear hR4 R4
 refine AWp.condK fun C1 C2 hC1 hC2 => ?_
 simp only [condP, am, seval, reduceCtorEq]
 refine ⟨fun hc29 => hC1 ?_, fun hc29 => hC2 ?_⟩ <;> clear hC1 hC2 C1 C2
 ·have hkb : (x.kind != 0) = false := by simp only [bne, hc29, Bool.not_true, Bool.not_false]
  refine AWp.reg fun R5 hR5 => ?_
  simp only [Path.v_eq, ty3, ty9, ty31, ty49, ty66, undef, am, seval, reduceCtorEq]
  refine gT (fun hg3_3 => ?_) (fun hg3_3 => ?_)
  ·simp only [Path.v_eq, hg3_3, ty3, ty9, ty31, ty49, ty66, undef, am, seval, reduceCtorEq]
   refine gT (fun hg3_9 => ?_) (fun hg3_9 => ?_)
   ·simp only [Path.v_eq, hg3_3, hg3_9, ty3, ty9, ty31, ty49, ty66, undef, am, seval, reduceCtorEq]
    refine hR5 _ ?_; clear hR5 R5
    refine AWp.ret ?_
    refine ret_intro (by show resV Tryz.prog _ [.tmp 10] = _; simp only [resV, am, seval, reduceCtorEq]; rfl) (Wk.refl _) (Heap.le.refl _) ⟨?_, rfl⟩
    simp only [pathOk, rowidOk, indexOk, noName, hN, hK, oneV, sum0, refHas_rowid, hc29, hkb, hg3_3, hg3_9, bo, Bool.not_true, Bool.not_false, ↓reduceIte, Bool.false_eq_true]
   ·simp only [Path.v_eq, hg3_3, hg3_9, ty3, ty9, ty31, ty49, ty66, undef, am, seval, reduceCtorEq]
    refine hR5 _ ?_; clear hR5 R5
    refine AWp.ret ?_
    refine ret_intro (by show resV Tryz.prog _ [.tmp 10] = _; simp only [resV, am, seval, reduceCtorEq]; rfl) (Wk.refl _) (Heap.le.refl _) ⟨?_, rfl⟩
    simp only [pathOk, rowidOk, indexOk, noName, hN, hK, oneV, sum0, refHas_rowid, hc29, hkb, hg3_3, hg3_9, bo, Bool.not_true, Bool.not_false, ↓reduceIte, Bool.false_eq_true]
  ·simp only [Path.v_eq, hg3_3, ty3, ty9, ty31, ty49, ty66, undef, am, seval, reduceCtorEq]
   refine hR5 _ ?_; clear hR5 R5
   refine AWp.ret ?_
   refine ret_intro (by show resV Tryz.prog _ [.tmp 10] = _; simp only [resV, am, seval, reduceCtorEq]; rfl) (Wk.refl _) (Heap.le.refl _) ⟨?_, rfl⟩
   simp only [pathOk, rowidOk, indexOk, noName, hN, hK, oneV, sum0, refHas_rowid, hc29, hkb, hg3_3, bo, Bool.not_true, Bool.not_false, ↓reduceIte, Bool.false_eq_true]
 ·have hkb : (x.kind != 0) = true := by simp only [bne, hc29, Bool.not_true, Bool.not_false]
  refine AWp.skip ?_
  refine hK3 _ ?_; clear hK3
  refine AWp.reg fun R6 hR6 => ?_
  simp only [avs, kx0, kx1, true_and, hgd, From.v_len, From.v_all, From.v_take, ty72, ty75, ty107, am, seval, reduceCtorEq]
  refine hR6 _ ?_; clear hR6 R6
  refine AWp.reg fun R7 hR7 => ?_
  simp only [Sch.v_all hs1, Sch.v_len, Sch.v_take, From.v_name, ty9, ty26, ty107, am, seval, reduceCtorEq]
  refine (f133_spec sc hs (a.src k).name hnm hns _).mono fun v' s' h => ?_
  rw [h.1, h.2]; clear h v' s'
  simp only [Sch.v_all hs1, Sch.v_len, Sch.v_take, From.v_name, ty9, ty26, ty107, am, seval, reduceCtorEq]
  refine hR7 _ ?_; clear hR7 R7
  refine AWp.seq_k fun K8 hK8 => ?_
  refine AWp.seq_cut (ι := Unit) (fun _ => True) (fun _ => tst [(2, vint k), (4, vints ahead), (5, .loc 5 0), (6, .loc 6 0), (8, .loc 8 0), (11, vbool ((((x.low.length : Nat) : Int) + ((x.high.length : Nat) : Int)) == 0)), (13, vint (sc.tableIx (a.src k).name)), (57, vbool (((a.src k).kind != 0) || !sc.hasTable (a.src k).name))] [(5, (sc.v, 26)), (6, (a.v, 75)), (8, (x.v, 66))] s 181) ?_ ?_
  ·refine AWp.reg1 fun R9 hR9 => ?_
   simp only [From.v_kind, ty3, ty105, ty107, undef, am, seval, reduceCtorEq]
   refine gF (fun hg6_3 => ?_) (fun hg6_3 => ?_)
   ·simp only [From.v_kind, hg6_3, ty3, ty105, ty107, undef, am, seval, reduceCtorEq]
    refine hR9 _ ?_; clear hR9 R9
    refine ⟨(), trivial, ?_⟩
    refine le_tst ?_ ?_ ?_ (Heap.le.refl _) rfl
    ·simp only [leE, hix, Path.v_eq, hg6_3, bo, Bool.not_true, Bool.not_false, ↓reduceIte, Bool.false_eq_true, am, seval, reduceCtorEq]
    ·simp only [oks, Nat.reduceBEq]
    ·simp only [leB, hix, Path.v_eq, hg6_3, bo, Bool.not_true, Bool.not_false, ↓reduceIte, Bool.false_eq_true, am, seval, reduceCtorEq]
   ·simp only [From.v_kind, hg6_3, ty3, ty105, ty107, undef, am, seval, reduceCtorEq]
    refine hR9 _ ?_; clear hR9 R9
    refine ⟨(), trivial, ?_⟩
    refine le_tst ?_ ?_ ?_ (Heap.le.refl _) rfl
    ·simp only [leE, hix, Path.v_eq, hg6_3, bo, Bool.not_true, Bool.not_false, ↓reduceIte, Bool.false_eq_true, am, seval, reduceCtorEq]
    ·simp only [oks, Nat.reduceBEq]
    ·simp only [leB, hix, Path.v_eq, hg6_3, bo, Bool.not_true, Bool.not_false, ↓reduceIte, Bool.false_eq_true, am, seval, reduceCtorEq]
  ·rintro ⟨⟩ _
   refine AWp.condK fun C1 C2 hC1 hC2 => ?_
   simp only [condP, hc29, hkb, am, seval, reduceCtorEq]
   refine ⟨fun hc57 => hC1 ?_, fun hc57 => hC2 ?_⟩ <;> clear hC1 hC2 C1 C2
   ·refine AWp.reg fun R10 hR10 => ?_
    simp only [am, seval, reduceCtorEq]
    refine hR10 _ ?_; clear hR10 R10
    refine AWp.ret ?_
    refine ret_intro (by show resV Tryz.prog _ [.tmp 10] = _; simp only [resV, am, seval, reduceCtorEq]; rfl) (Wk.refl _) (Heap.le.refl _) ⟨?_, rfl⟩
    simp only [pathOk, rowidOk, indexOk, noName, hN, hK, oneV, sum0, refHas_rowid, hc29, hkb, hc57, bo, Bool.not_true, Bool.not_false, ↓reduceIte, Bool.false_eq_true]
   ·obtain ⟨hfk, hht⟩ := Bool.or_eq_false_iff.1 hc57; rw [Bool.not_eq_false'] at hht
    have hht' : (sc.tables.any fun t => eqName t.name (a.src k).name) = true := hht
    obtain ⟨ti, hti, hte, htp, _⟩ := idx_sat (fun t => eqName t.name (a.src k).name) sc.tables hht'
    have hte2 : sc.tableIx (a.src k).name = ti := hte
    have ixt0 : (0 ≤ sc.tableIx (a.src k).name) = True := by rw [hte2]; simp
    have ixt1 : (sc.tableIx (a.src k).name < ((sc.tables.length : Nat) : Int)) = True := by rw [hte2]; simp [hti]
    have htab : (sc.table (a.src k).name) = sc.tables[ti] := by unfold Schema.table; rw [if_pos hht', hte2]; simp [List.getD_eq_getElem?_getD, hti]
    have hgt : (sc.tables.map Table.v).getD (sc.tableIx (a.src k).name).toNat [] = (sc.table (a.src k).name).v := by rw [hte2, htab]; simp [List.getD_eq_getElem?_getD, hti]
    refine AWp.skip ?_
    refine hK8 _ ?_; clear hK8
    refine AWp.seq_k fun K11 hK11 => ?_
    refine AWp.reg fun R12 hR12 => ?_
    simp only [Path.v_eq, ty63, ty66, am, seval, reduceCtorEq]
    refine hR12 _ ?_; clear hR12 R12
    refine AWp.condK fun C1 C2 hC1 hC2 => ?_
    simp only [condP, hc29, hkb, hc57, am, seval, reduceCtorEq]
    refine ⟨fun hc60 => hC1 ?_, fun hc60 => hC2 ?_⟩ <;> clear hC1 hC2 C1 C2
    ·refine AWp.reg fun R13 hR13 => ?_
     simp only [Sch.v_tab, ixt0, ixt1, true_and, hgt, Table.v_eq, ty3, ty22, ty26, ty137, am, seval, reduceCtorEq]
     refine hR13 _ ?_; clear hR13 R13
     refine AWp.seq_cut (ι := Unit) (fun _ => True) (fun _ => tst [(2, vint k), (4, vints ahead), (5, .loc 5 0), (6, .loc 6 0), (8, .loc 8 0), (11, vbool ((((x.low.length : Nat) : Int) + ((x.high.length : Nat) : Int)) == 0)), (14, vint (if (sc.table (a.src k).name).pk < 0 then -1 else (sc.table (a.src k).name).pk))] [(5, (sc.v, 26)), (6, (a.v, 75)), (8, (x.v, 66))] s 181) ?_ ?_
     ·refine AWp.reg fun R14 hR14 => ?_
      simp only [ty3, am, seval, reduceCtorEq]
      refine hR14 _ ?_; clear hR14 R14
      refine AWp.condK fun C1 C2 hC1 hC2 => ?_
      simp only [condP, hc29, hkb, hc57, hc60, am, seval, reduceCtorEq]
      refine ⟨fun hc68 => hC1 ?_, fun hc68 => hC2 ?_⟩ <;> clear hC1 hC2 C1 C2
      ·refine AWp.reg1 fun R15 hR15 => ?_
       simp only [am, seval, reduceCtorEq]
       refine hR15 _ ?_; clear hR15 R15
       refine ⟨(), trivial, ?_⟩
       refine le_tst ?_ ?_ ?_ (Heap.le.refl _) rfl
       ·simp only [leE, Path.v_eq, am, seval, reduceCtorEq]; rw [if_pos (of_decide_eq_true hc68)]
       ·simp only [oks, Nat.reduceBEq]
       ·simp only [leB, Path.v_eq, am, seval, reduceCtorEq]
      ·refine AWp.skip ?_
       refine ⟨(), trivial, ?_⟩
       refine le_tst ?_ ?_ ?_ (Heap.le.refl _) rfl
       ·simp only [leE, Path.v_eq, am, seval, reduceCtorEq]; rw [if_neg (of_decide_eq_false hc68)]
       ·simp only [oks, Nat.reduceBEq]
       ·simp only [leB, Path.v_eq, am, seval, reduceCtorEq]
     ·rintro ⟨⟩ _
      refine AWp.regL mixed [0, 1, 2, 3, 4, 5, 6, 7, 8, 9, 10, 11, 12, 13, 14, 15, 16, 17, 18, 19, 20, 21, 22, 23] (by decide +kernel) [] (by decide +kernel) fun R16 hR16 => ?_
      simp only [avs, Path.v_eq, ty3, ty9, ty31, ty49, ty66, ty75, undef, aml, Nat.reduceBEq, am, seval, reduceCtorEq]
      refine gTL (fun hg12_3 => ?_) (fun hg12_3 => ?_)
      ·simp only [avs, Path.v_eq, hg12_3, ty3, ty9, ty31, ty49, ty66, ty75, undef, aml, Nat.reduceBEq, am, seval, reduceCtorEq]
       refine gTL (fun hg12_9 => ?_) (fun hg12_9 => ?_)
       ·have he1 : 0 < x.eq.length := by have := eq_of_beq hg12_9; omega
        have ixa : ((0 : Int) ≤ 0) = True := by simp
        have ixe : ((0 : Int) < ((x.eq.length : Nat) : Int)) = True := by simp [he1]
        have hge : (x.eq.map Term.v).getD 0 [] = (x.eq.getD 0 zterm).v := by simp [List.getD_eq_getElem?_getD, he1]
        have hwe : (x.eq.getD 0 zterm).w ≤ 2^28 := hx.eq _ (by simp [List.getD_eq_getElem?_getD, he1])
        simp only [avs, Path.v_eq, hg12_3, hg12_9, ixa, ixe, true_and, Int.toNat_zero, hge, tvs, ty3, ty9, ty31, ty49, ty66, ty75, undef, aml, Nat.reduceBEq, am, seval, reduceCtorEq]
        refine gTL (fun hg12_12 => ?_) (fun hg12_12 => ?_)
        ·simp only [avs, Path.v_eq, hg12_3, hg12_9, ixa, ixe, true_and, Int.toNat_zero, hge, tvs, hg12_12, ty3, ty9, ty31, ty49, ty66, ty75, undef, aml, Nat.reduceBEq, am, seval, reduceCtorEq]
         refine (f134_spec a k hk0 hk1 hu 13 ahead (x.eq.getD 0 zterm) hwe (-1) (if (sc.table (a.src k).name).pk < 0 then -1 else (sc.table (a.src k).name).pk) 0 false _).mono fun v' s' h => ?_
         rw [h.1, h.2]; clear h v' s'
         simp only [avs, Path.v_eq, hg12_3, hg12_9, ixa, ixe, true_and, Int.toNat_zero, hge, tvs, hg12_12, ty3, ty9, ty31, ty49, ty66, ty75, undef, aml, Nat.reduceBEq, am, seval, reduceCtorEq]
         refine hR16 _ ?_; clear hR16 R16
         refine AWp.ret ?_
         refine ret_intro (by show resV Tryz.prog _ [.tmp 10] = _; simp only [resV, am, seval, reduceCtorEq]; rfl) (Wk.refl _) (Heap.le.refl _) ⟨?_, rfl⟩
         simp only [pathOk, rowidOk, indexOk, noName, hN, hK, oneV, sum0, refHas_rowid, hc29, hkb, hc57, hc60, hg12_3, hg12_9, hg12_12, bo, Bool.not_true, Bool.not_false, ↓reduceIte, Bool.false_eq_true]
        ·simp only [avs, Path.v_eq, hg12_3, hg12_9, ixa, ixe, true_and, Int.toNat_zero, hge, tvs, hg12_12, ty3, ty9, ty31, ty49, ty66, ty75, undef, aml, Nat.reduceBEq, am, seval, reduceCtorEq]
         refine hR16 _ ?_; clear hR16 R16
         refine AWp.ret ?_
         refine ret_intro (by show resV Tryz.prog _ [.tmp 10] = _; simp only [resV, am, seval, reduceCtorEq]; rfl) (Wk.refl _) (Heap.le.refl _) ⟨?_, rfl⟩
         simp only [pathOk, rowidOk, indexOk, noName, hN, hK, oneV, sum0, refHas_rowid, hc29, hkb, hc57, hc60, hg12_3, hg12_9, hg12_12, bo, Bool.not_true, Bool.not_false, ↓reduceIte, Bool.false_eq_true]
       ·simp only [avs, Path.v_eq, hg12_3, hg12_9, ty3, ty9, ty31, ty49, ty66, ty75, undef, aml, Nat.reduceBEq, am, seval, reduceCtorEq]
        refine hR16 _ ?_; clear hR16 R16
        refine AWp.ret ?_
        refine ret_intro (by show resV Tryz.prog _ [.tmp 10] = _; simp only [resV, am, seval, reduceCtorEq]; rfl) (Wk.refl _) (Heap.le.refl _) ⟨?_, rfl⟩
        simp only [pathOk, rowidOk, indexOk, noName, hN, hK, oneV, sum0, refHas_rowid, hc29, hkb, hc57, hc60, hg12_3, hg12_9, bo, Bool.not_true, Bool.not_false, ↓reduceIte, Bool.false_eq_true]
      ·simp only [avs, Path.v_eq, hg12_3, ty3, ty9, ty31, ty49, ty66, ty75, undef, aml, Nat.reduceBEq, am, seval, reduceCtorEq]
       refine hR16 _ ?_; clear hR16 R16
       refine AWp.ret ?_
       refine ret_intro (by show resV Tryz.prog _ [.tmp 10] = _; simp only [resV, am, seval, reduceCtorEq]; rfl) (Wk.refl _) (Heap.le.refl _) ⟨?_, rfl⟩
       simp only [pathOk, rowidOk, indexOk, noName, hN, hK, oneV, sum0, refHas_rowid, hc29, hkb, hc57, hc60, hg12_3, bo, Bool.not_true, Bool.not_false, ↓reduceIte, Bool.false_eq_true]
    ·refine AWp.skip ?_
     refine hK11 _ ?_; clear hK11
     refine AWp.regL mixed [0, 1, 2, 3, 4, 5, 6, 7, 8, 9, 10] (by decide +kernel) [] (by decide +kernel) fun R17 hR17 => ?_
     simp only [Sch.v_all hs1, Sch.v_len, Sch.v_take, Sch.v_tab, ixt0, ixt1, true_and, hgt, Table.v_eq, Path.v_eq, ty9, ty22, ty26, ty66, ty137, aml, Nat.reduceBEq, am, seval, reduceCtorEq]
     refine (f135_spec sc hs1 hil (sc.table (a.src k).name).name x.index _).mono fun v' s' h => ?_
     rw [h.1, h.2]; clear h v' s'
     simp only [hN, Sch.v_all hs1, Sch.v_len, Sch.v_take, Sch.v_tab, ixt0, ixt1, true_and, hgt, Table.v_eq, Path.v_eq, ty9, ty22, ty26, ty66, ty137, aml, Nat.reduceBEq, am, seval, reduceCtorEq]
     refine hR17 _ ?_; clear hR17 R17
     refine AWp.seq_k fun K18 hK18 => ?_
     refine AWp.seq_cut (ι := Unit) (fun _ => True) (fun _ => tst [(2, vint k), (4, vints ahead), (5, .loc 5 0), (6, .loc 6 0), (8, .loc 8 0), (11, vbool ((((x.low.length : Nat) : Int) + ((x.high.length : Nat) : Int)) == 0)), (15, vint N), (121, vbool ((x.kind != 2) || (decide (N < 0) || decide (((x.eq.length : Nat) : Int) > ((J.keys.length : Nat) : Int)))))] [(5, (sc.v, 26)), (6, (a.v, 75)), (8, (x.v, 66))] s 181) ?_ ?_
     ·refine AWp.regL1 mixed [0, 1, 2, 3, 4, 5, 6, 7, 8, 9, 10, 11, 12, 13, 14, 15, 16, 17, 18, 19] (by decide +kernel) [] (by decide +kernel) fun R19 hR19 => ?_
      simp only [Path.v_eq, ty3, ty23, ty26, ty31, ty49, ty63, ty66, ty145, ty147, ty149, undef, aml, Nat.reduceBEq, am, seval, reduceCtorEq]
      refine gFL (fun hg14_3 => ?_) (fun hg14_3 => ?_)
      ·simp only [Path.v_eq, hg14_3, ty3, ty23, ty26, ty31, ty49, ty63, ty66, ty145, ty147, ty149, undef, aml, Nat.reduceBEq, am, seval, reduceCtorEq]
       refine gFL (fun hg14_7 => ?_) (fun hg14_7 => ?_)
       ·have hN0 := hg14_7
        obtain ⟨hn0, hn1⟩ := index_lt hN hg14_7
        have ixn0 : (0 ≤ N) = True := by simp [hn0]
        have ixn1 : (N < ((sc.indexes.length : Nat) : Int)) = True := by simp [hn1]
        have hgi : (sc.indexes.map Index.v).getD N.toNat [] = J.v := by rw [← hJ]; simp [List.getD_eq_getElem?_getD, show N.toNat < sc.indexes.length by omega]
        simp only [Path.v_eq, hg14_3, hg14_7, Sch.v_idx, ixn0, ixn1, true_and, hgi, Index.v_eq, ty3, ty23, ty26, ty31, ty49, ty63, ty66, ty145, ty147, ty149, undef, aml, Nat.reduceBEq, am, seval, reduceCtorEq]
        refine hR19 _ ?_; clear hR19 R19
        refine ⟨(), trivial, ?_⟩
        refine le_tst ?_ ?_ ?_ (Heap.le.refl _) rfl
        ·simp only [leE, Path.v_eq, hg14_3, hg14_7, bo, Bool.not_true, Bool.not_false, ↓reduceIte, Bool.false_eq_true, am, seval, reduceCtorEq]
        ·simp only [oks, Nat.reduceBEq]
        ·simp only [leB, Path.v_eq, hg14_3, hg14_7, bo, Bool.not_true, Bool.not_false, ↓reduceIte, Bool.false_eq_true, am, seval, reduceCtorEq]
       ·simp only [Path.v_eq, hg14_3, hg14_7, ty3, ty23, ty26, ty31, ty49, ty63, ty66, ty145, ty147, ty149, undef, aml, Nat.reduceBEq, am, seval, reduceCtorEq]
        refine hR19 _ ?_; clear hR19 R19
        refine ⟨(), trivial, ?_⟩
        refine le_tst ?_ ?_ ?_ (Heap.le.refl _) rfl
        ·simp only [leE, Path.v_eq, hg14_3, hg14_7, bo, Bool.not_true, Bool.not_false, ↓reduceIte, Bool.false_eq_true, am, seval, reduceCtorEq]
        ·simp only [oks, Nat.reduceBEq]
        ·simp only [leB, Path.v_eq, hg14_3, hg14_7, bo, Bool.not_true, Bool.not_false, ↓reduceIte, Bool.false_eq_true, am, seval, reduceCtorEq]
      ·simp only [Path.v_eq, hg14_3, ty3, ty23, ty26, ty31, ty49, ty63, ty66, ty145, ty147, ty149, undef, aml, Nat.reduceBEq, am, seval, reduceCtorEq]
       refine hR19 _ ?_; clear hR19 R19
       refine ⟨(), trivial, ?_⟩
       refine le_tst ?_ ?_ ?_ (Heap.le.refl _) rfl
       ·simp only [leE, Path.v_eq, hg14_3, bo, Bool.not_true, Bool.not_false, ↓reduceIte, Bool.false_eq_true, am, seval, reduceCtorEq]
       ·simp only [oks, Nat.reduceBEq]
       ·simp only [leB, Path.v_eq, hg14_3, bo, Bool.not_true, Bool.not_false, ↓reduceIte, Bool.false_eq_true, am, seval, reduceCtorEq]
     ·rintro ⟨⟩ _
      refine AWp.condK fun C1 C2 hC1 hC2 => ?_
      simp only [condP, hc29, hkb, hc57, hc60, am, seval, reduceCtorEq]
      refine ⟨fun hc121 => hC1 ?_, fun hc121 => hC2 ?_⟩ <;> clear hC1 hC2 C1 C2
      ·refine AWp.reg fun R20 hR20 => ?_
       simp only [am, seval, reduceCtorEq]
       refine hR20 _ ?_; clear hR20 R20
       refine AWp.ret ?_
       refine ret_intro (by show resV Tryz.prog _ [.tmp 10] = _; simp only [resV, am, seval, reduceCtorEq]; rfl) (Wk.refl _) (Heap.le.refl _) ⟨?_, rfl⟩
       simp only [oneV]; rw [idx_no hc29 hc57 hc60 hN hK hc121]
      ·obtain ⟨hk2, hN2⟩ := Bool.or_eq_false_iff.1 hc121
       obtain ⟨hN0, hN3⟩ := Bool.or_eq_false_iff.1 hN2
       obtain ⟨hn0, hn1⟩ := index_lt hN hN0
       have ixn0 : (0 ≤ N) = True := by simp [hn0]
       have ixn1 : (N < ((sc.indexes.length : Nat) : Int)) = True := by simp [hn1]
       have hgi : (sc.indexes.map Index.v).getD N.toNat [] = J.v := by rw [← hJ]; simp [List.getD_eq_getElem?_getD, show N.toNat < sc.indexes.length by omega]
       have hk2 : (x.kind == 2) = true := by have := bne_eq_false_iff_eq.1 hk2; simp [this]
       have hle : x.eq.length ≤ J.keys.length := by have := of_decide_eq_false hN3; omega
       refine AWp.skip ?_
       refine hK18 _ ?_; clear hK18
       refine AWp.reg fun R21 hR21 => ?_
       simp only [Sch.v_idx, ixn0, ixn1, true_and, hgi, Index.v_eq, ty23, ty26, ty145, ty147, ty149, am, seval, reduceCtorEq]
       refine hR21 _ ?_; clear hR21 R21
       refine AWp.seq_k fun K22 hK22 => ?_
       refine AWp.reg fun R23 hR23 => ?_
       simp only [am, seval, reduceCtorEq]
       refine hR23 _ ?_; clear hR23 R23
       refine AWp.block ?_
       have hxl := hx.len
       refine AWp.loopT (ι := Nat) (fun i => i ≤ x.eq.length ∧ eqs a k ahead x.eq J.keys = eqs a k ahead (x.eq.drop i) (J.keys.drop i)) (fun i => tst [(2, vint k), (4, vints ahead), (5, .loc 5 0), (6, .loc 6 0), (8, .loc 8 0), (16, .slice 3 (J.keys.map Sorted.v)), (17, vint i)] [(5, (sc.v, 26)), (6, (a.v, 75)), (8, (x.v, 66))] s 181) (fun i => x.eq.length - i) 0 ⟨⟨Nat.zero_le _, rfl⟩, ?_⟩ ?_
       ·refine le_tst ?_ ?_ ?_ (Heap.le.refl _) rfl
        ·simp only [leE, Path.v_eq, am, seval, reduceCtorEq] <;> simp
        ·simp only [oks, Nat.reduceBEq]
        ·simp only [leB, Path.v_eq, am, seval, reduceCtorEq]
       ·rintro i ⟨hi, hinv⟩
        refine AWp.seq_k fun K24 hK24 => ?_
        refine AWp.reg fun R25 hR25 => ?_
        simp only [Path.v_eq, ty3, ty31, ty49, ty66, am, seval, reduceCtorEq]
        refine hR25 _ ?_; clear hR25 R25
        refine AWp.cond (t := decide ((i:Int) < (x.eq.length : Nat))) (by simp only [am, seval, reduceCtorEq]) (fun ht => ?_) (fun ht => ?_)
        ·have hlt : i < x.eq.length := lt_of_dec ht
         have ix0 : (0 ≤ (i : Int)) = True := by simp
         have ix1 : ((i : Int) < ((x.eq.length : Nat) : Int)) = True := by simp [hlt]
         have hltk : i < J.keys.length := by omega
         have ixk : (((i : Nat) : Int) < ((J.keys.length : Nat) : Int)) = True := by simp [hltk]
         refine AWp.skip ?_
         refine hK24 _ ?_; clear hK24
         refine AWp.seq_k fun K26 hK26 => ?_
         refine AWp.block ?_
         refine AWp.regL mixed [0, 1, 2, 3, 4, 5, 6, 7, 8, 9, 10, 11, 12, 13, 14, 15, 16, 17, 18, 19, 20, 21, 22, 23, 24] (by decide +kernel) [] (by decide +kernel) fun R27 hR27 => ?_
         simp only [avs, Path.v_eq, ix0, ix1, ixk, true_and, getD_map _ _ _ hlt, getD_map _ _ _ hltk, Sorted.v_eq, tvs, ty3, ty31, ty45, ty49, ty66, ty75, ty145, ty149, List.append_eq, aml, Nat.reduceBEq, am, seval, reduceCtorEq]
         refine (f134_spec a k hk0 hk1 hu 13 ahead x.eq[i] (hx.eq _ (List.getElem_mem hlt)) J.keys[i].col J.keys[i].col J.keys[i].coll true _).mono fun v' s' h => ?_
         rw [h.1, h.2]; clear h v' s'
         simp only [refHas_key, avs, Path.v_eq, ix0, ix1, ixk, true_and, getD_map _ _ _ hlt, getD_map _ _ _ hltk, Sorted.v_eq, tvs, ty3, ty31, ty45, ty49, ty66, ty75, ty145, ty149, List.append_eq, aml, Nat.reduceBEq, am, seval, reduceCtorEq]
         refine hR27 _ ?_; clear hR27 R27
         refine AWp.condK fun C1 C2 hC1 hC2 => ?_
         simp only [condP, hc29, hkb, hc57, hc60, hc121, hk2, hN2, am, seval, reduceCtorEq]
         refine ⟨fun hc159 => hC1 ?_, fun hc159 => hC2 ?_⟩ <;> clear hC1 hC2 C1 C2
         ·refine AWp.reg fun R28 hR28 => ?_
          simp only [am, seval, reduceCtorEq]
          refine hR28 _ ?_; clear hR28 R28
          refine AWp.ret ?_
          refine ret_intro (by show resV Tryz.prog _ [.tmp 10] = _; simp only [resV, am, seval, reduceCtorEq]; rfl) (Wk.refl _) (Heap.le.refl _) ⟨?_, rfl⟩
          simp only [pathOk, rowidOk, indexOk, noName, hN, hK, oneV, sum0, refHas_rowid, hinv, eqs_false hlt hltk hc159, hc29, hkb, hc57, hc60, hc121, hk2, hN2, hc159, bo, Bool.not_true, Bool.not_false, ↓reduceIte, Bool.false_eq_true]
         ·refine AWp.skip ?_
          refine hK26 _ ?_; clear hK26
          refine AWp.reg1 fun R29 hR29 => ?_
          simp only [ty3, am, seval, reduceCtorEq]
          refine hR29 _ ?_; clear hR29 R29
          refine ⟨i + 1, ⟨⟨hlt, by rw [hinv, eqs_step hlt hltk hc159]⟩, by omega⟩, ?_⟩
          refine le_tst ?_ ?_ ?_ (Heap.le.refl _) rfl
          ·simp only [leE, Path.v_eq, am, seval, reduceCtorEq]; rw [wrap_id (by omega) (by omega)]; simp
          ·simp only [oks, Nat.reduceBEq]
          ·simp only [leB, Path.v_eq, am, seval, reduceCtorEq]
        ·obtain rfl : i = x.eq.length := eq_of_dec ht hi
         have heqs : eqs a k ahead x.eq J.keys = true := by rw [hinv, List.drop_length]; simp only [eqs]
         have hsl1 : (0 ≤ ((x.eq.length : Nat) : Int)) = True := by simp
         have hsl2 : (((x.eq.length : Nat) : Int) ≤ ((J.keys.length : Nat) : Int)) = True := by simp [hle]
         have hsl3 : (((J.keys.length : Nat) : Int) ≤ ((J.keys.length : Nat) : Int)) = True := by simp
         have hslv : List.take ((((J.keys.length : Nat) : Int).toNat) - (((x.eq.length : Nat) : Int).toNat)) (List.drop (((x.eq.length : Nat) : Int).toNat) (J.keys.map Sorted.v)) = (J.keys.drop x.eq.length).map Sorted.v := by
          rw [Int.toNat_natCast, Int.toNat_natCast, List.map_drop, List.take_of_length_le (by simp)]
         refine AWp.exit ?_
         simp only [exq, seval]
         refine hK22 _ ?_; clear hK22
         refine AWp.reg fun R30 hR30 => ?_
         simp only [Path.v_eq, hsl1, hsl2, hsl3, true_and, hslv, ty31, ty49, ty66, ty145, ty149, am, seval, reduceCtorEq]
         refine hR30 _ ?_; clear hR30 R30
         refine AWp.reg fun R31 hR31 => ?_
         simp only [avs, Path.v_eq, ty64, ty66, ty75, ty132, undef, am, seval, reduceCtorEq]
         refine (f136_spec a k hk0 hk1 hu x.low hx.low ahead 17 18 (J.keys.drop x.eq.length) _).mono fun v' s' h => ?_
         rw [h.1, h.2]; clear h v' s'
         simp only [avs, Path.v_eq, ty64, ty66, ty75, ty132, undef, am, seval, reduceCtorEq]
         refine gT (fun hg23_7 => ?_) (fun hg23_7 => ?_)
         ·simp only [avs, Path.v_eq, hg23_7, ty64, ty66, ty75, ty132, undef, am, seval, reduceCtorEq]
          refine (f136_spec a k hk0 hk1 hu x.high hx.high ahead 15 16 (J.keys.drop x.eq.length) _).mono fun v' s' h => ?_
          rw [h.1, h.2]; clear h v' s'
          simp only [avs, Path.v_eq, hg23_7, ty64, ty66, ty75, ty132, undef, am, seval, reduceCtorEq]
          refine hR31 _ ?_; clear hR31 R31
          refine AWp.ret ?_
          refine ret_intro (by show resV Tryz.prog _ [.tmp 10] = _; simp only [resV, am, seval, reduceCtorEq]; rfl) (Wk.refl _) (Heap.le.refl _) ⟨?_, rfl⟩
          simp only [pathOk, rowidOk, indexOk, noName, hN, hK, oneV, sum0, refHas_rowid, heqs, hc29, hkb, hc57, hc60, hc121, hk2, hN2, hg23_7, bo, Bool.not_true, Bool.not_false, ↓reduceIte, Bool.false_eq_true]
         ·simp only [avs, Path.v_eq, hg23_7, ty64, ty66, ty75, ty132, undef, am, seval, reduceCtorEq]
          refine hR31 _ ?_; clear hR31 R31
          refine AWp.ret ?_
          refine ret_intro (by show resV Tryz.prog _ [.tmp 10] = _; simp only [resV, am, seval, reduceCtorEq]; rfl) (Wk.refl _) (Heap.le.refl _) ⟨?_, rfl⟩
          simp only [pathOk, rowidOk, indexOk, noName, hN, hK, oneV, sum0, refHas_rowid, heqs, hc29, hkb, hc57, hc60, hc121, hk2, hN2, hg23_7, bo, Bool.not_true, Bool.not_false, ↓reduceIte, Bool.false_eq_true]
end Go.Proofs.YtcckhbconihagaaGreatDoor
