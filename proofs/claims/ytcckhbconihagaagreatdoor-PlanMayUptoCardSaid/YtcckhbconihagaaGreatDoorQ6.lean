/- What the reference asks of arms. -/
import Derived.Test.YtcckhbconihagaaGreatDoorQ5
set_option linter.unusedSimpArgs false
set_option linter.unusedVariables false
set_option maxRecDepth 100000
namespace Go.Proofs.YtcckhbconihagaaGreatDoor
open Go.Am Go.Pl
structure RSt where
  i : Nat
  ahead : List Int
  met : List Int
/-- What is asked beside. -/
structure RArmOk (a : Arm) : Prop where
  onl : ∀ k : Int, 0 ≤ k → k < ((a.frm.length : Nat) : Int) → (a.src k).on.length ≤ 2^40
  nm : ∀ k : Int, 0 ≤ k → k < ((a.frm.length : Nat) : Int) → (a.src k).name.size ≤ 2^30
theorem rarm_of {a : Arm} (h : a.w ≤ 2^26) : RArmOk a := by
  rw [Arm.w_eq] at h
  refine ⟨fun k h0 h1 => ?_, fun k h0 h1 => ?_⟩
  · have e1 := mem_w From.w a.frm _ (src_mem h0 h1)
    have e2 := len_le Term.w_pos (a.src k).on
    rw [From.w_eq] at e1; omega
  · have e1 := mem_w From.w a.frm _ (src_mem h0 h1)
    rw [From.w_eq] at e1; omega
theorem nf {b : Bool} (h : (!b) = false) : b = true := by simpa using h
theorem nt {b : Bool} (h : (!b) = true) : b = false := by simpa using h
theorem cTerms_split (l : List Term) (i : Nat) (h : i < l.length) : cTerms l = cTerms (l.take i) ++ cTerm l[i] ++ cTerms (l.drop (i + 1)) := by
  have e : l = l.take i ++ l[i] :: l.drop (i + 1) := by rw [← List.drop_eq_getElem_cons h, List.take_append_drop]
  conv => lhs; rw [e, cTerms_append, cTerms]
  rw [List.append_assoc]
theorem f54_spec (sc : Schema) (hs : SchOk sc) (hns : ∀ t ∈ sc.tables, t.name.size ≤ 2^30) (hil : sc.indexes.length ≤ 2^40) (a : Arm) (ha : PArm a) (hra : RArmOk a) : Gives Tryz.prog 54 [.agg sc.v, .agg a.v] (vbool (armOk sc a)) := by
 have hs1 := hs.1
 intro s
 refine acalls_of (fn := Tryz.f54) Tryz.func54 rfl (by decide) (by show 2 ≤ 114; decide) ?_
 rw [Tryz.ntmps54]
 refine AWp.reg fun R1 hR1 => ?_
 simp only [avs, Sch.v_all hs1, Sch.v_len, Sch.v_take, ty26, ty75, am, seval, reduceCtorEq]
 refine hR1 _ ?_; clear hR1 R1
 refine AWp.reg fun R2 hR2 => ?_
 simp only [am, seval, reduceCtorEq]
 refine hR2 _ ?_; clear hR2 R2
 refine AWp.seq_k fun K3 hK3 => ?_
 refine AWp.reg fun R4 hR4 => ?_
 simp only [am, seval, reduceCtorEq]
 refine hR4 _ ?_; clear hR4 R4
 refine AWp.block ?_
 have hsl := ha.steps
 refine AWp.wkE 5 (vints []) (by simp only [isLoc, am, seval, reduceCtorEq]) (by simp only [am, seval, reduceCtorEq]; exact Wk.nil 1) ?_
 refine AWp.wkE 6 (vints []) (by simp only [isLoc, am, seval, reduceCtorEq]) (by simp only [am, seval, reduceCtorEq]; exact Wk.nil 1) ?_
 refine AWp.loopT (ι := RSt) (fun q => q.i ≤ a.steps.length ∧ rSteps sc a [] [] a.steps = rSteps sc a q.ahead q.met (a.steps.drop q.i) ∧ q.ahead.length = q.i ∧ q.met.length + ((a.steps.drop q.i).map fun x => x.whr.length).sum ≤ 2^28) (fun q => tst [(2, .loc 2 0), (3, .loc 3 0), (5, vints q.ahead), (6, vints q.met), (7, vint q.i)] [(2, (sc.v, 26)), (3, (a.v, 75))] s 114) (fun q => a.steps.length - q.i) ⟨0, [], []⟩ ⟨⟨Nat.zero_le _, rfl, rfl, by simpa using ha.sum⟩, ?_⟩ ?_
 ·refine le_tst ?_ ?_ ?_ (Heap.le.refl _) rfl
  ·simp only [leE, am, seval, reduceCtorEq] <;> simp
  ·simp only [oks, Nat.reduceBEq]
  ·simp only [leB, am, seval, reduceCtorEq]
 ·rintro ⟨i, ahead, met⟩ ⟨hi, hinv, hal, hml⟩
  simp only at hi hinv hal hml ⊢
  refine AWp.seq_k fun K5 hK5 => ?_
  refine AWp.reg fun R6 hR6 => ?_
  simp only [avs, ty3, ty68, ty69, ty75, am, seval, reduceCtorEq]
  refine hR6 _ ?_; clear hR6 R6
  refine AWp.cond (t := decide ((i:Int) < (a.steps.length : Nat))) (by simp only [am, seval, reduceCtorEq]) (fun ht => ?_) (fun ht => ?_)
  ·have hlt : i < a.steps.length := lt_of_dec ht
   have ix0 : (0 ≤ (i : Int)) = True := by simp
   have ix1 : ((i : Int) < ((a.steps.length : Nat) : Int)) = True := by simp [hlt]
   obtain ⟨x, hx⟩ : ∃ x, a.steps[i] = x := ⟨_, rfl⟩
   have hxm : x ∈ a.steps := by rw [← hx]; exact List.getElem_mem hlt
   have hdrop : a.steps.drop i = x :: a.steps.drop (i + 1) := by rw [List.drop_eq_getElem_cons hlt, hx]
   have hgs : (a.steps.map Step.v).getD (i : Int).toNat [] = x.v := by rw [getD_map _ _ _ hlt, hx]
   refine AWp.skip ?_
   refine hK5 _ ?_; clear hK5
   refine AWp.seq_k fun K7 hK7 => ?_
   refine AWp.block ?_
   refine AWp.reg fun R8 hR8 => ?_
   simp only [avs, Step.v_len, Step.v_all, Step.v_take, Step.v_frm, Step.v_path, Step.v_whr, ix0, ix1, true_and, hgs, ty68, ty69, ty75, am, seval, reduceCtorEq]
   refine hR8 _ ?_; clear hR8 R8
   refine AWp.seq_k fun K9 hK9 => ?_
   refine AWp.seq_cut (ι := Unit) (fun _ => True) (fun _ => tst [(2, .loc 2 0), (3, .loc 3 0), (5, vints ahead), (6, vints met), (7, vint i), (8, .loc 8 0), (39, vbool (decide (x.frm < 0) || decide (x.frm ≥ ((a.frm.length : Nat) : Int)) || ahead.any (x.frm == ·)))] [(2, (sc.v, 26)), (3, (a.v, 75)), (8, (x.v, 68))] s 114) ?_ ?_
   ·refine AWp.reg1 fun R10 hR10 => ?_
    simp only [avs, Step.v_len, Step.v_all, Step.v_take, Step.v_frm, Step.v_path, Step.v_whr, ty3, ty68, ty72, ty75, ty107, undef, am, seval, reduceCtorEq]
    refine gF (fun hg6_3 => ?_) (fun hg6_3 => ?_)
    ·simp only [avs, Step.v_len, Step.v_all, Step.v_take, Step.v_frm, Step.v_path, Step.v_whr, hg6_3, ty3, ty68, ty72, ty75, ty107, undef, am, seval, reduceCtorEq]
     refine gF (fun hg6_11 => ?_) (fun hg6_11 => ?_)
     ·simp only [avs, Step.v_len, Step.v_all, Step.v_take, Step.v_frm, Step.v_path, Step.v_whr, hg6_3, hg6_11, ty3, ty68, ty72, ty75, ty107, undef, am, seval, reduceCtorEq]
      refine (f86_spec ahead x.frm _).mono fun v' s' h => ?_
      rw [h.1, h.2]; clear h v' s'
      simp only [avs, Step.v_len, Step.v_all, Step.v_take, Step.v_frm, Step.v_path, Step.v_whr, hg6_3, hg6_11, ty3, ty68, ty72, ty75, ty107, undef, am, seval, reduceCtorEq]
      refine hR10 _ ?_; clear hR10 R10
      refine ⟨(), trivial, ?_⟩
      refine le_tst ?_ ?_ ?_ (Heap.le.refl _) rfl
      ·simp only [leE, whereBad, hg6_3, hg6_11, bo, Bool.not_true, Bool.not_false, ↓reduceIte, Bool.false_eq_true, am, seval, reduceCtorEq]
      ·simp only [oks, Nat.reduceBEq]
      ·simp only [leB, whereBad, hg6_3, hg6_11, bo, Bool.not_true, Bool.not_false, ↓reduceIte, Bool.false_eq_true, am, seval, reduceCtorEq]
     ·simp only [avs, Step.v_len, Step.v_all, Step.v_take, Step.v_frm, Step.v_path, Step.v_whr, hg6_3, hg6_11, ty3, ty68, ty72, ty75, ty107, undef, am, seval, reduceCtorEq]
      refine hR10 _ ?_; clear hR10 R10
      refine ⟨(), trivial, ?_⟩
      refine le_tst ?_ ?_ ?_ (Heap.le.refl _) rfl
      ·simp only [leE, whereBad, hg6_3, hg6_11, bo, Bool.not_true, Bool.not_false, ↓reduceIte, Bool.false_eq_true, am, seval, reduceCtorEq]
      ·simp only [oks, Nat.reduceBEq]
      ·simp only [leB, whereBad, hg6_3, hg6_11, bo, Bool.not_true, Bool.not_false, ↓reduceIte, Bool.false_eq_true, am, seval, reduceCtorEq]
    ·simp only [avs, Step.v_len, Step.v_all, Step.v_take, Step.v_frm, Step.v_path, Step.v_whr, hg6_3, ty3, ty68, ty72, ty75, ty107, undef, am, seval, reduceCtorEq]
     refine hR10 _ ?_; clear hR10 R10
     refine ⟨(), trivial, ?_⟩
     refine le_tst ?_ ?_ ?_ (Heap.le.refl _) rfl
     ·simp only [leE, whereBad, hg6_3, bo, Bool.not_true, Bool.not_false, ↓reduceIte, Bool.false_eq_true, am, seval, reduceCtorEq]
     ·simp only [oks, Nat.reduceBEq]
     ·simp only [leB, whereBad, hg6_3, bo, Bool.not_true, Bool.not_false, ↓reduceIte, Bool.false_eq_true, am, seval, reduceCtorEq]
   ·rintro ⟨⟩ _
    refine AWp.cond (t := decide (x.frm < 0) || decide (x.frm ≥ ((a.frm.length : Nat) : Int)) || ahead.any (x.frm == ·)) (by simp only [am, seval, reduceCtorEq]) (fun hx6 => ?_) (fun hx6 => ?_)
    ·have hsb : stepBad sc a ahead x = true := by unfold stepBad; rw [hx6, Bool.true_or, Bool.true_or]
     refine AWp.reg fun R11 hR11 => ?_
     simp only [am, seval, reduceCtorEq]
     refine hR11 _ ?_; clear hR11 R11
     refine AWp.ret ?_
     refine ret_intro (by show resV Tryz.prog _ [.tmp 4] = _; simp only [resV, am, seval, reduceCtorEq]; rfl) (Wk.refl _) (Heap.le.refl _) ⟨?_, rfl⟩
     simp only [oneV]; rw [← rArm_eq]; unfold rArm; rw [hinv, hdrop]; simp only [rSteps]; rw [hsb]; simp only [↓reduceIte]
    ·have hx6' := hx6; simp only [Bool.or_eq_false_iff] at hx6'
     have hk0 : 0 ≤ x.frm := by have := of_decide_eq_false hx6'.1.1; omega
     have hk1 : x.frm < ((a.frm.length : Nat) : Int) := by have := of_decide_eq_false hx6'.1.2; omega
     refine AWp.skip ?_
     refine hK9 _ ?_; clear hK9
     refine AWp.seq_k fun K12 hK12 => ?_
     refine AWp.seq_cut (ι := Unit) (fun _ => True) (fun _ => tst [(2, .loc 2 0), (3, .loc 3 0), (5, vints ahead), (6, vints met), (7, vint i), (8, .loc 8 0), (56, vbool (!ready a x.frm ahead || !pathOk sc a x.frm x.path ahead))] [(2, (sc.v, 26)), (3, (a.v, 75)), (8, (x.v, 68))] s 114) ?_ ?_
     ·refine AWp.reg1 fun R13 hR13 => ?_
      simp only [avs, Step.v_len, Step.v_all, Step.v_take, Step.v_frm, Step.v_path, Step.v_whr, Sch.v_all hs1, Sch.v_len, Sch.v_take, ty3, ty26, ty66, ty68, ty75, undef, am, seval, reduceCtorEq]
      refine (f87_spec a x.frm hk0 hk1 ahead (by omega) (ha.on x.frm hk0 hk1) (hra.onl x.frm hk0 hk1) _).mono fun v' s' h => ?_
      rw [h.1, h.2]; clear h v' s'
      simp only [avs, Step.v_len, Step.v_all, Step.v_take, Step.v_frm, Step.v_path, Step.v_whr, Sch.v_all hs1, Sch.v_len, Sch.v_take, ty3, ty26, ty66, ty68, ty75, undef, am, seval, reduceCtorEq]
      refine gF (fun hg8_6 => ?_) (fun hg8_6 => ?_)
      ·simp only [avs, Step.v_len, Step.v_all, Step.v_take, Step.v_frm, Step.v_path, Step.v_whr, Sch.v_all hs1, Sch.v_len, Sch.v_take, hg8_6, ty3, ty26, ty66, ty68, ty75, undef, am, seval, reduceCtorEq]
       refine (f88_spec sc hs hns hil a x.frm hk0 hk1 (ha.u x.frm hk0 hk1) (hra.nm x.frm hk0 hk1) x.path (ha.path x hxm) ahead _).mono fun v' s' h => ?_
       rw [h.1, h.2]; clear h v' s'
       simp only [avs, Step.v_len, Step.v_all, Step.v_take, Step.v_frm, Step.v_path, Step.v_whr, Sch.v_all hs1, Sch.v_len, Sch.v_take, hg8_6, ty3, ty26, ty66, ty68, ty75, undef, am, seval, reduceCtorEq]
       refine hR13 _ ?_; clear hR13 R13
       refine ⟨(), trivial, ?_⟩
       refine le_tst ?_ ?_ ?_ (Heap.le.refl _) rfl
       ·simp only [leE, whereBad, hg8_6, bo, Bool.not_true, Bool.not_false, ↓reduceIte, Bool.false_eq_true, am, seval, reduceCtorEq]
       ·simp only [oks, Nat.reduceBEq]
       ·simp only [leB, whereBad, hg8_6, bo, Bool.not_true, Bool.not_false, ↓reduceIte, Bool.false_eq_true, am, seval, reduceCtorEq]
      ·simp only [avs, Step.v_len, Step.v_all, Step.v_take, Step.v_frm, Step.v_path, Step.v_whr, Sch.v_all hs1, Sch.v_len, Sch.v_take, hg8_6, ty3, ty26, ty66, ty68, ty75, undef, am, seval, reduceCtorEq]
       refine hR13 _ ?_; clear hR13 R13
       refine ⟨(), trivial, ?_⟩
       refine le_tst ?_ ?_ ?_ (Heap.le.refl _) rfl
       ·simp only [leE, whereBad, hg8_6, bo, Bool.not_true, Bool.not_false, ↓reduceIte, Bool.false_eq_true, am, seval, reduceCtorEq]
       ·simp only [oks, Nat.reduceBEq]
       ·simp only [leB, whereBad, hg8_6, bo, Bool.not_true, Bool.not_false, ↓reduceIte, Bool.false_eq_true, am, seval, reduceCtorEq]
     ·rintro ⟨⟩ _
      refine AWp.cond (t := !ready a x.frm ahead || !pathOk sc a x.frm x.path ahead) (by simp only [am, seval, reduceCtorEq]) (fun hx8 => ?_) (fun hx8 => ?_)
      ·have hsb : stepBad sc a ahead x = true := by unfold stepBad; rw [hx6, Bool.false_or, hx8]
       refine AWp.reg fun R14 hR14 => ?_
       simp only [am, seval, reduceCtorEq]
       refine hR14 _ ?_; clear hR14 R14
       refine AWp.ret ?_
       refine ret_intro (by show resV Tryz.prog _ [.tmp 4] = _; simp only [resV, am, seval, reduceCtorEq]; rfl) (Wk.refl _) (Heap.le.refl _) ⟨?_, rfl⟩
       simp only [oneV]; rw [← rArm_eq]; unfold rArm; rw [hinv, hdrop]; simp only [rSteps]; rw [hsb]; simp only [↓reduceIte]
      ·have hsb : stepBad sc a ahead x = false := by unfold stepBad; rw [hx6, Bool.false_or, hx8]
       have hpl := len_put_new ahead x.frm hx6'.2
       refine AWp.skip ?_
       refine hK12 _ ?_; clear hK12
       refine AWp.reg fun R15 hR15 => ?_
       simp only [Step.v_len, Step.v_all, Step.v_take, Step.v_frm, Step.v_path, Step.v_whr, ty3, ty68, am, seval, reduceCtorEq]
       refine (f28_spec ahead x.frm (by omega) _).mono fun v' s' h => ?_
       rw [h.1, h.2]; clear h v' s'
       simp only [Step.v_len, Step.v_all, Step.v_take, Step.v_frm, Step.v_path, Step.v_whr, ty3, ty68, am, seval, reduceCtorEq]
       refine hR15 _ ?_; clear hR15 R15
       refine AWp.reg fun R16 hR16 => ?_
       simp only [am, seval, reduceCtorEq]
       refine hR16 _ ?_; clear hR16 R16
       refine AWp.block ?_
       have hwhl := ha.whl x hxm
       refine AWp.loopT (ι := Nat × List Int) (fun q => q.1 ≤ x.whr.length ∧ rWhere a (put ahead x.frm) met x.whr = rWhere a (put ahead x.frm) q.2 (x.whr.drop q.1) ∧ q.2.length = met.length + q.1) (fun q => tst [(2, .loc 2 0), (3, .loc 3 0), (5, vints (put ahead x.frm)), (6, vints q.2), (7, vint i), (8, .loc 8 0), (9, vint q.1)] [(2, (sc.v, 26)), (3, (a.v, 75)), (8, (x.v, 68))] s 114) (fun q => x.whr.length - q.1) (0, met) ⟨⟨Nat.zero_le _, rfl, by simp⟩, ?_⟩ ?_
       ·refine le_tst ?_ ?_ ?_ (Heap.le.refl _) rfl
        ·simp only [leE, am, seval, reduceCtorEq] <;> simp
        ·simp only [oks, Nat.reduceBEq]
        ·simp only [leB, am, seval, reduceCtorEq]
       ·rintro ⟨j, met'⟩ ⟨hij, hinvj, hmj⟩
        simp only at hij hinvj hmj ⊢
        have hmm : met'.length ≤ 2^29 := by rw [hdrop] at hml; simp only [List.map_cons, List.sum_cons] at hml; omega
        refine AWp.seq_k fun K17 hK17 => ?_
        refine AWp.reg fun R18 hR18 => ?_
        simp only [Step.v_len, Step.v_all, Step.v_take, Step.v_frm, Step.v_path, Step.v_whr, ty3, ty50, ty68, am, seval, reduceCtorEq]
        refine hR18 _ ?_; clear hR18 R18
        refine AWp.cond (t := decide ((j:Int) < (x.whr.length : Nat))) (by simp only [am, seval, reduceCtorEq]) (fun htj => ?_) (fun htj => ?_)
        ·have hltj : j < x.whr.length := lt_of_dec htj
         have ix0j : (0 ≤ (j : Int)) = True := by simp
         have ix1j : ((j : Int) < ((x.whr.length : Nat) : Int)) = True := by simp [hltj]
         obtain ⟨y, hy⟩ : ∃ y, x.whr[j] = y := ⟨_, rfl⟩
         have hgy0 : (x.whr.map fun x => [vint x]).getD (j : Int).toNat [] = [vint y] := by rw [getD_map _ _ _ hltj, hy]
         refine AWp.skip ?_
         refine hK17 _ ?_; clear hK17
         refine AWp.seq_k fun K19 hK19 => ?_
         refine AWp.block ?_
         refine AWp.reg fun R20 hR20 => ?_
         simp only [Step.v_len, Step.v_all, Step.v_take, Step.v_frm, Step.v_path, Step.v_whr, ix0j, ix1j, true_and, hgy0, ty3, ty50, ty68, am, seval, reduceCtorEq]
         refine hR20 _ ?_; clear hR20 R20
         refine AWp.seq_k fun K21 hK21 => ?_
         refine AWp.seq_cut (ι := Unit) (fun _ => True) (fun _ => tst [(2, .loc 2 0), (3, .loc 3 0), (5, vints (put ahead x.frm)), (6, vints met'), (7, vint i), (8, .loc 8 0), (9, vint j), (10, vint y), (96, vbool (whereBad a (put ahead x.frm) met' y))] [(2, (sc.v, 26)), (3, (a.v, 75)), (8, (x.v, 68))] s 114) ?_ ?_
         ·refine AWp.reg1 fun R22 hR22 => ?_
          simp only [avs, tvs, ty3, ty31, ty49, ty75, undef, am, seval, reduceCtorEq]
          refine gF (fun hg15_2 => ?_) (fun hg15_2 => ?_)
          ·simp only [avs, tvs, hg15_2, ty3, ty31, ty49, ty75, undef, am, seval, reduceCtorEq]
           refine gF (fun hg15_9 => ?_) (fun hg15_9 => ?_)
           ·simp only [avs, tvs, hg15_2, hg15_9, ty3, ty31, ty49, ty75, undef, am, seval, reduceCtorEq]
            refine (f86_spec met' y _).mono fun v' s' h => ?_
            rw [h.1, h.2]; clear h v' s'
            simp only [avs, tvs, hg15_2, hg15_9, ty3, ty31, ty49, ty75, undef, am, seval, reduceCtorEq]
            refine gF (fun hg15_14 => ?_) (fun hg15_14 => ?_)
            ·have hy0 : 0 ≤ y := by have := of_decide_eq_false hg15_2; omega
             have hy1 : y < ((a.whr.length : Nat) : Int) := by have := of_decide_eq_false hg15_9; omega
             have ixy0 : (0 ≤ y) = True := by simp [hy0]
             have ixy1 : (y < ((a.whr.length : Nat) : Int)) = True := by simp [hy1]
             have hgy : (a.whr.map Term.v).getD y.toNat [] = (a.whr.getD y.toNat zterm).v := by simp [List.getD_eq_getElem?_getD, show y.toNat < a.whr.length by omega]
             have hwy : (a.whr.getD y.toNat zterm).w ≤ 2^28 := ha.whr _ (by simp [List.getD_eq_getElem?_getD, show y.toNat < a.whr.length by omega])
             simp only [avs, tvs, hg15_2, hg15_9, hg15_14, ixy0, ixy1, true_and, hgy, ty3, ty31, ty49, ty75, undef, am, seval, reduceCtorEq]
             refine (f89_spec (a.whr.getD y.toNat zterm) hwy (put ahead x.frm) _).mono fun v' s' h => ?_
             rw [h.1, h.2]; clear h v' s'
             simp only [avs, tvs, hg15_2, hg15_9, hg15_14, ixy0, ixy1, true_and, hgy, ty3, ty31, ty49, ty75, undef, am, seval, reduceCtorEq]
             refine hR22 _ ?_; clear hR22 R22
             refine ⟨(), trivial, ?_⟩
             refine le_tst ?_ ?_ ?_ (Heap.le.refl _) rfl
             ·simp only [leE, whereBad, hg15_2, hg15_9, hg15_14, bo, Bool.not_true, Bool.not_false, ↓reduceIte, Bool.false_eq_true, am, seval, reduceCtorEq]
             ·simp only [oks, Nat.reduceBEq]
             ·simp only [leB, whereBad, hg15_2, hg15_9, hg15_14, bo, Bool.not_true, Bool.not_false, ↓reduceIte, Bool.false_eq_true, am, seval, reduceCtorEq]
            ·simp only [avs, tvs, hg15_2, hg15_9, hg15_14, ty3, ty31, ty49, ty75, undef, am, seval, reduceCtorEq]
             refine hR22 _ ?_; clear hR22 R22
             refine ⟨(), trivial, ?_⟩
             refine le_tst ?_ ?_ ?_ (Heap.le.refl _) rfl
             ·simp only [leE, whereBad, hg15_2, hg15_9, hg15_14, bo, Bool.not_true, Bool.not_false, ↓reduceIte, Bool.false_eq_true, am, seval, reduceCtorEq]
             ·simp only [oks, Nat.reduceBEq]
             ·simp only [leB, whereBad, hg15_2, hg15_9, hg15_14, bo, Bool.not_true, Bool.not_false, ↓reduceIte, Bool.false_eq_true, am, seval, reduceCtorEq]
           ·simp only [avs, tvs, hg15_2, hg15_9, ty3, ty31, ty49, ty75, undef, am, seval, reduceCtorEq]
            refine hR22 _ ?_; clear hR22 R22
            refine ⟨(), trivial, ?_⟩
            refine le_tst ?_ ?_ ?_ (Heap.le.refl _) rfl
            ·simp only [leE, whereBad, hg15_2, hg15_9, bo, Bool.not_true, Bool.not_false, ↓reduceIte, Bool.false_eq_true, am, seval, reduceCtorEq]
            ·simp only [oks, Nat.reduceBEq]
            ·simp only [leB, whereBad, hg15_2, hg15_9, bo, Bool.not_true, Bool.not_false, ↓reduceIte, Bool.false_eq_true, am, seval, reduceCtorEq]
          ·simp only [avs, tvs, hg15_2, ty3, ty31, ty49, ty75, undef, am, seval, reduceCtorEq]
           refine hR22 _ ?_; clear hR22 R22
           refine ⟨(), trivial, ?_⟩
           refine le_tst ?_ ?_ ?_ (Heap.le.refl _) rfl
           ·simp only [leE, whereBad, hg15_2, bo, Bool.not_true, Bool.not_false, ↓reduceIte, Bool.false_eq_true, am, seval, reduceCtorEq]
           ·simp only [oks, Nat.reduceBEq]
           ·simp only [leB, whereBad, hg15_2, bo, Bool.not_true, Bool.not_false, ↓reduceIte, Bool.false_eq_true, am, seval, reduceCtorEq]
         ·rintro ⟨⟩ _
          refine AWp.cond (t := whereBad a (put ahead x.frm) met' y) (by simp only [am, seval, reduceCtorEq]) (fun hy12 => ?_) (fun hy12 => ?_)
          ·refine AWp.reg fun R23 hR23 => ?_
           simp only [am, seval, reduceCtorEq]
           refine hR23 _ ?_; clear hR23 R23
           refine AWp.ret ?_
           refine ret_intro (by show resV Tryz.prog _ [.tmp 4] = _; simp only [resV, am, seval, reduceCtorEq]; rfl) (Wk.refl _) (Heap.le.refl _) ⟨?_, rfl⟩
           simp only [oneV]; rw [← rArm_eq]; unfold rArm; rw [hinv, hdrop]; simp only [rSteps]; rw [hsb, hinvj, List.drop_eq_getElem_cons hltj, hy]; simp only [rWhere]; rw [hy12]; simp only [↓reduceIte, Bool.false_eq_true]
          ·refine AWp.skip ?_
           refine hK21 _ ?_; clear hK21
           refine AWp.reg1 fun R24 hR24 => ?_
           simp only [am, seval, reduceCtorEq]
           refine (f28_spec met' y (by omega) _).mono fun v' s' h => ?_
           rw [h.1, h.2]; clear h v' s'
           simp only [am, seval, reduceCtorEq]
           refine hR24 _ ?_; clear hR24 R24
           refine hK19 _ ?_; clear hK19
           refine AWp.reg1 fun R25 hR25 => ?_
           simp only [ty3, am, seval, reduceCtorEq]
           refine hR25 _ ?_; clear hR25 R25
           have hpn := len_put_new met' y (by have h := hy12; unfold whereBad at h; simp only [Bool.or_eq_false_iff] at h; exact h.1.2)
           refine ⟨(j + 1, put met' y), ⟨⟨hltj, ?_, by simp only; omega⟩, by simp only; omega⟩, ?_⟩
           ·simp only; rw [hinvj, List.drop_eq_getElem_cons hltj, hy]; simp only [rWhere]; rw [hy12, if_neg (by decide)]
           refine le_tst ?_ ?_ ?_ (Heap.le.refl _) rfl
           ·simp only [leE, am, seval, reduceCtorEq]; rw [wrap_id (by omega) (by omega)]; simp
           ·simp only [oks, Nat.reduceBEq]
           ·simp only [leB, am, seval, reduceCtorEq]
        ·obtain rfl : j = x.whr.length := eq_of_dec htj hij
         refine AWp.exit ?_
         simp only [exq, seval]
         refine hK7 _ ?_; clear hK7
         refine AWp.reg1 fun R26 hR26 => ?_
         simp only [ty3, am, seval, reduceCtorEq]
         refine hR26 _ ?_; clear hR26 R26
         refine ⟨⟨i + 1, put ahead x.frm, met'⟩, ⟨⟨hlt, ?_, by simp only; omega, ?_⟩, by simp only; omega⟩, ?_⟩
         ·simp only; rw [hinv, hdrop]; simp only [rSteps]; rw [hsb, hinvj]; simp only [List.drop_length, rWhere, Bool.false_eq_true, ↓reduceIte]
         ·simp only; rw [hdrop] at hml; simp only [List.map_cons, List.sum_cons] at hml; omega
         refine le_tst ?_ ?_ ?_ (Heap.le.refl _) rfl
         ·simp only [leE, am, seval, reduceCtorEq]; rw [wrap_id (by omega) (by omega)]; simp
         ·simp only [oks, Nat.reduceBEq]
         ·simp only [leB, am, seval, reduceCtorEq]
  ·obtain rfl : i = a.steps.length := eq_of_dec ht hi
   refine AWp.exit ?_
   simp only [exq, seval]
   refine hK3 _ ?_; clear hK3
   refine AWp.reg fun R27 hR27 => ?_
   simp only [avs, ty3, ty31, ty49, ty50, ty72, ty75, ty107, undef, am, seval, reduceCtorEq]
   refine gT (fun hg18_6 => ?_) (fun hg18_6 => ?_)
   ·simp only [avs, hg18_6, ty3, ty31, ty49, ty50, ty72, ty75, ty107, undef, am, seval, reduceCtorEq]
    refine hR27 _ ?_; clear hR27 R27
    refine AWp.ret ?_
    refine ret_intro (by show resV Tryz.prog _ [.tmp 4] = _; simp only [resV, am, seval, reduceCtorEq]; rfl) (Wk.refl _) (Heap.le.refl _) ⟨?_, rfl⟩
    simp only [oneV]; rw [← rArm_eq]; unfold rArm; rw [hinv, List.drop_length]; simp only [rSteps, hg18_6, bo, Bool.not_true, Bool.not_false, ↓reduceIte, Bool.false_eq_true]
   ·simp only [avs, hg18_6, ty3, ty31, ty49, ty50, ty72, ty75, ty107, undef, am, seval, reduceCtorEq]
    refine hR27 _ ?_; clear hR27 R27
    refine AWp.ret ?_
    refine ret_intro (by show resV Tryz.prog _ [.tmp 4] = _; simp only [resV, am, seval, reduceCtorEq]; rfl) (Wk.refl _) (Heap.le.refl _) ⟨?_, rfl⟩
    simp only [oneV]; rw [← rArm_eq]; unfold rArm; rw [hinv, List.drop_length]; simp only [rSteps, hg18_6, bo, Bool.not_true, Bool.not_false, ↓reduceIte, Bool.false_eq_true]
theorem f53_spec (sc : Schema) (hs1 : sc.views.isCell = true) (p : Arm → Bool) (l : List Term) (h53 : ∀ t ∈ l, Gives Tryz.prog 53 [.agg sc.v, .slice 14 (t.args.map Term.v)] (vbool ((cTerms t.args).all p))) (h23 : ∀ t ∈ l, Gives Tryz.prog 23 [.agg sc.v, .slice 5 (t.sub.map Query.v)] (vbool ((cQueries t.sub).all p))) : Gives Tryz.prog 53 [.agg sc.v, .slice 14 (l.map Term.v)] (vbool ((cTerms l).all p)) := by
 intro s
 refine acalls_of (fn := Tryz.f53) Tryz.func53 rfl (by decide) (by show 2 ≤ 30; decide) ?_
 rw [Tryz.ntmps53]
 refine AWp.reg fun R1 hR1 => ?_
 simp only [Sch.v_all hs1, Sch.v_len, Sch.v_take, ty26, am, seval, reduceCtorEq]
 refine hR1 _ ?_; clear hR1 R1
 refine AWp.seq_k fun K2 hK2 => ?_
 refine AWp.reg fun R3 hR3 => ?_
 simp only [am, seval, reduceCtorEq]
 refine hR3 _ ?_; clear hR3 R3
 refine AWp.block ?_
 refine AWp.slen 1 (sz := 14) (es := l.map Term.v) (by simp only [am, seval, reduceCtorEq]) fun hmax => ?_
 have hmx := maxLen_lt; (try rw [List.length_map] at hmax)
 refine AWp.loopT (ι := Nat) (fun i => i ≤ l.length ∧ (cTerms (l.take i)).all p = true) (fun i => tst [(1, .slice 14 (l.map Term.v)), (2, .loc 2 0), (5, vint i)] [(2, (sc.v, 26))] s 30) (fun i => l.length - i) 0 ⟨⟨Nat.zero_le _, by simp [cTerms]⟩, ?_⟩ ?_
 ·refine le_tst ?_ ?_ ?_ (Heap.le.refl _) rfl
  ·simp only [leE, am, seval, reduceCtorEq] <;> simp
  ·simp only [oks, Nat.reduceBEq]
  ·simp only [leB, am, seval, reduceCtorEq]
 ·rintro i ⟨hi, hno⟩
  refine AWp.seq_k fun K4 hK4 => ?_
  refine AWp.reg fun R5 hR5 => ?_
  simp only [ty3, ty31, ty49, am, seval, reduceCtorEq]
  refine hR5 _ ?_; clear hR5 R5
  refine AWp.cond (t := decide ((i:Int) < (l.length : Nat))) (by simp only [am, seval, reduceCtorEq]) (fun ht => ?_) (fun ht => ?_)
  ·have hlt : i < l.length := lt_of_dec ht
   have ix0 : (0 ≤ (i : Int)) = True := by simp
   have ix1 : ((i : Int) < ((l.length : Nat) : Int)) = True := by simp [hlt]
   obtain ⟨t, ht0⟩ : ∃ t, l[i] = t := ⟨_, rfl⟩
   have hgt : (l.map Term.v).getD (i : Int).toNat [] = t.v := by rw [getD_map _ _ _ hlt, ht0]
   have hsu := cTerms_succ l i hlt; rw [ht0, cTerm_eq] at hsu
   refine AWp.skip ?_
   refine hK4 _ ?_; clear hK4
   refine AWp.seq_k fun K6 hK6 => ?_
   refine AWp.block ?_
   refine AWp.regL mixed [0, 1, 2, 3, 4, 5, 6, 7, 8, 9, 10, 11, 12, 13, 14, 15, 16, 17] (by decide +kernel) [] (by decide +kernel) fun R7 hR7 => ?_
   simp only [Sch.v_all hs1, Sch.v_len, Sch.v_take, ix0, ix1, true_and, hgt, Term.v_args, Term.v_sub, ty26, ty31, ty33, ty47, ty49, undef, aml, Nat.reduceBEq, am, seval, reduceCtorEq]
   refine (h53 _ (by rw [← ht0]; exact List.getElem_mem hlt) _).mono fun v' s' h => ?_
   rw [h.1, h.2]; clear h v' s'
   simp only [Sch.v_all hs1, Sch.v_len, Sch.v_take, ix0, ix1, true_and, hgt, Term.v_args, Term.v_sub, ty26, ty31, ty33, ty47, ty49, undef, aml, Nat.reduceBEq, am, seval, reduceCtorEq]
   refine gFL (fun hg4_8 => ?_) (fun hg4_8 => ?_)
   ·simp only [Sch.v_all hs1, Sch.v_len, Sch.v_take, ix0, ix1, true_and, hgt, Term.v_args, Term.v_sub, hg4_8, ty26, ty31, ty33, ty47, ty49, undef, aml, Nat.reduceBEq, am, seval, reduceCtorEq]
    refine (h23 _ (by rw [← ht0]; exact List.getElem_mem hlt) _).mono fun v' s' h => ?_
    rw [h.1, h.2]; clear h v' s'
    simp only [Sch.v_all hs1, Sch.v_len, Sch.v_take, ix0, ix1, true_and, hgt, Term.v_args, Term.v_sub, hg4_8, ty26, ty31, ty33, ty47, ty49, undef, aml, Nat.reduceBEq, am, seval, reduceCtorEq]
    refine hR7 _ ?_; clear hR7 R7
    refine AWp.condK fun C1 C2 hC1 hC2 => ?_
    simp only [condP, hg4_8, am, seval, reduceCtorEq]
    refine ⟨fun hc29 => hC1 ?_, fun hc29 => hC2 ?_⟩ <;> clear hC1 hC2 C1 C2
    ·refine AWp.reg fun R8 hR8 => ?_
     simp only [am, seval, reduceCtorEq]
     refine hR8 _ ?_; clear hR8 R8
     refine AWp.ret ?_
     refine ret_intro (by show resV Tryz.prog _ [.tmp 4] = _; simp only [resV, am, seval, reduceCtorEq]; rfl) (Wk.refl _) (Heap.le.refl _) ⟨?_, rfl⟩
     simp only [oneV]; rw [cTerms_split l i hlt, ht0, cTerm_eq, List.all_append, List.all_append, List.all_append, hno, nf hg4_8, nt hc29]; rfl
    ·refine AWp.skip ?_
     refine hK6 _ ?_; clear hK6
     refine AWp.reg1 fun R9 hR9 => ?_
     simp only [ty3, am, seval, reduceCtorEq]
     refine hR9 _ ?_; clear hR9 R9
     refine ⟨i + 1, ⟨⟨hlt, by rw [hsu, List.all_append, List.all_append, hno, nf hg4_8, nf hc29]; rfl⟩, by omega⟩, ?_⟩
     refine le_tst ?_ ?_ ?_ (Heap.le.refl _) rfl
     ·simp only [leE, am, seval, reduceCtorEq]; rw [wrap_id (by omega) (by omega)]; simp
     ·simp only [oks, Nat.reduceBEq]
     ·simp only [leB, am, seval, reduceCtorEq]
   ·simp only [Sch.v_all hs1, Sch.v_len, Sch.v_take, ix0, ix1, true_and, hgt, Term.v_args, Term.v_sub, hg4_8, ty26, ty31, ty33, ty47, ty49, undef, aml, Nat.reduceBEq, am, seval, reduceCtorEq]
    refine hR7 _ ?_; clear hR7 R7
    refine AWp.cond (t := true) (by simp only [hg4_8, am, seval, reduceCtorEq]) (fun _ => ?_) (fun h => by cases h)
    refine AWp.reg fun R8 hR8 => ?_
    simp only [am, seval, reduceCtorEq]
    refine hR8 _ ?_; clear hR8 R8
    refine AWp.ret ?_
    refine ret_intro (by show resV Tryz.prog _ [.tmp 4] = _; simp only [resV, am, seval, reduceCtorEq]; rfl) (Wk.refl _) (Heap.le.refl _) ⟨?_, rfl⟩
    simp only [oneV]; rw [cTerms_split l i hlt, ht0, cTerm_eq, List.all_append, List.all_append, List.all_append, hno, nt hg4_8]; rfl
  ·obtain rfl : i = l.length := eq_of_dec ht hi
   refine AWp.exit ?_
   simp only [exq, seval]
   refine hK2 _ ?_; clear hK2
   refine AWp.reg fun R9 hR9 => ?_
   simp only [am, seval, reduceCtorEq]
   refine hR9 _ ?_; clear hR9 R9
   refine AWp.ret ?_
   refine ret_intro (by show resV Tryz.prog _ [.tmp 4] = _; simp only [resV, am, seval, reduceCtorEq]; rfl) (Wk.refl _) (Heap.le.refl _) ⟨?_, rfl⟩
   simp only [oneV]; rw [List.take_length] at hno; rw [hno]
end Go.Proofs.YtcckhbconihagaaGreatDoor
set_option linter.unusedSimpArgs false
set_option linter.unusedVariables false
set_option maxRecDepth 100000
namespace Go.Proofs.YtcckhbconihagaaGreatDoor
open Go.Am Go.Pl
theorem cQueries_split (l : List Query) (i : Nat) (h : i < l.length) : cQueries l = cQueries (l.take i) ++ cQuery l[i] ++ cQueries (l.drop (i + 1)) := by
  have e : l = l.take i ++ l[i] :: l.drop (i + 1) := by rw [← List.drop_eq_getElem_cons h, List.take_append_drop]
  conv => lhs; rw [e, cQueries_append, cQueries]
  rw [List.append_assoc]
theorem cArms_split (l : List Arm) (i : Nat) (h : i < l.length) : cArms l = cArms (l.take i) ++ cArm l[i] ++ cArms (l.drop (i + 1)) := by
  have e : l = l.take i ++ l[i] :: l.drop (i + 1) := by rw [← List.drop_eq_getElem_cons h, List.take_append_drop]
  conv => lhs; rw [e, cArms_append, cArms]
  rw [List.append_assoc]
theorem cArm_all (p : Arm → Bool) (a : Arm) : (cArm a).all p = ((cTerms (armTerms a)).all p && (p a && a.frm.all fun f => (cQueries f.sub).all p)) := by
  rw [Bool.eq_iff_iff]
  simp only [List.all_eq_true, Bool.and_eq_true, cArm_mem]
  constructor
  · intro h
    exact ⟨fun y hy => h y (.inl hy), h a (.inr (.inl rfl)), fun f hf y hy => h y (.inr (.inr ⟨f, hf, hy⟩))⟩
  · rintro ⟨h1, h2, h3⟩ y (hy | rfl | ⟨f, hf, hy⟩)
    · exact h1 y hy
    · exact h2
    · exact h3 f hf y hy
theorem nf2 {a b : Bool} (h : (!a || !b) = false) : a = true ∧ b = true := by cases a <;> cases b <;> simp at h ⊢
theorem cArm_no {p : Arm → Bool} {a : Arm} (h : (!((cTerms (armTerms a)).all p) || !p a) = true) : (cArm a).all p = false := by
  rw [cArm_all]
  cases h1 : (cTerms (armTerms a)).all p
  · rfl
  · rw [h1] at h; rw [nt (by simpa using h : (!p a) = true)]; rfl
theorem cArm_no2 {p : Arm → Bool} {a : Arm} {f : From} (hf : f ∈ a.frm) (h : (cQueries f.sub).all p = false) : (cArm a).all p = false := by
  rw [cArm_all]
  have : (a.frm.all fun f => (cQueries f.sub).all p) = false := by
    cases hq : (a.frm.all fun f => (cQueries f.sub).all p)
    · rfl
    · rw [List.all_eq_true] at hq; rw [hq f hf] at h; cases h
  rw [this, Bool.and_false, Bool.and_false]
theorem okA_long {sc : Schema} {a : Arm} (h : decide (((a.steps.length : Nat) : Int) > 0) = true) : okA sc a = armOk sc a := by
  have h := of_decide_eq_true h
  unfold okA
  rw [show (((a.steps.length : Nat) : Int) == 0) = false from beq_false_of_ne (by omega), Bool.false_or]
theorem okA_none {sc : Schema} {a : Arm} (h : decide (((a.steps.length : Nat) : Int) > 0) = false) : okA sc a = true := by
  have h := of_decide_eq_false h
  unfold okA
  rw [show (((a.steps.length : Nat) : Int) == 0) = true from beq_iff_eq.2 (by omega), Bool.true_or]
theorem Query.v_all (q : Query) : q.v.all V.isCell = true := by rw [Query.v_eq]; rfl
theorem Query.v_take (q : Query) : q.v.take 5 = q.v := List.take_of_length_le (by rw [Query.v_len]; exact Nat.le_refl _)
theorem Query.v_arms (q : Query) : q.v[1]? = some (.slice 13 (q.arms.map Arm.v)) := by rw [Query.v_eq]; rfl
theorem Query.v_limit (q : Query) : q.v[3]? = some (.slice 14 (q.limit.map Term.v)) := by rw [Query.v_eq]; rfl
theorem Query.v_offset (q : Query) : q.v[4]? = some (.slice 14 (q.offset.map Term.v)) := by rw [Query.v_eq]; rfl
theorem From.v_sub (q : From) : q.v[5]? = some (.slice 5 (q.sub.map Query.v)) := by rw [From.v_eq]; rfl
structure AMOk (sc : Schema) (a : Arm) : Prop where
  terms : Gives Tryz.prog 46 [.agg a.v] (.slice 14 ((armTerms a).map Term.v))
  it : Gives Tryz.prog 53 [.agg sc.v, .slice 14 ((armTerms a).map Term.v)] (vbool ((cTerms (armTerms a)).all (okA sc)))
  arm : Gives Tryz.prog 54 [.agg sc.v, .agg a.v] (vbool (armOk sc a))
  subs : ∀ f ∈ a.frm, Gives Tryz.prog 23 [.agg sc.v, .slice 5 (f.sub.map Query.v)] (vbool ((cQueries f.sub).all (okA sc)))
  len : a.frm.length ≤ 2^40
structure QMOk (sc : Schema) (q : Query) : Prop where
  lim : Gives Tryz.prog 53 [.agg sc.v, .slice 14 (q.limit.map Term.v)] (vbool ((cTerms q.limit).all (okA sc)))
  off : Gives Tryz.prog 53 [.agg sc.v, .slice 14 (q.offset.map Term.v)] (vbool ((cTerms q.offset).all (okA sc)))
  arms : ∀ a ∈ q.arms, AMOk sc a
  len : q.arms.length ≤ 2^40
theorem f23_spec (sc : Schema) (hs1 : sc.views.isCell = true) (l : List Query) (hM : ∀ q ∈ l, QMOk sc q) : Gives Tryz.prog 23 [.agg sc.v, .slice 5 (l.map Query.v)] (vbool ((cQueries l).all (okA sc))) := by
 intro s
 refine acalls_of (fn := Tryz.f23) Tryz.func23 rfl (by decide) (by show 2 ≤ 84; decide) ?_
 rw [Tryz.ntmps23]
 refine AWp.reg fun R1 hR1 => ?_
 simp only [Sch.v_all hs1, Sch.v_len, Sch.v_take, ty26, am, seval, reduceCtorEq]
 refine hR1 _ ?_; clear hR1 R1
 refine AWp.seq_k fun K2 hK2 => ?_
 refine AWp.reg fun R3 hR3 => ?_
 simp only [am, seval, reduceCtorEq]
 refine hR3 _ ?_; clear hR3 R3
 refine AWp.block ?_
 refine AWp.slen 1 (sz := 5) (es := l.map Query.v) (by simp only [am, seval, reduceCtorEq]) fun hmax => ?_
 have hmx := maxLen_lt; (try rw [List.length_map] at hmax)
 refine AWp.loopT (ι := Nat) (fun i => i ≤ l.length ∧ (cQueries (l.take i)).all (okA sc) = true) (fun i => tst [(1, .slice 5 (l.map Query.v)), (2, .loc 2 0), (5, vint i)] [(2, (sc.v, 26))] s 84) (fun i => l.length - i) 0 ⟨⟨Nat.zero_le _, by simp [cQueries]⟩, ?_⟩ ?_
 ·refine le_tst ?_ ?_ ?_ (Heap.le.refl _) rfl
  ·simp only [leE, am, seval, reduceCtorEq] <;> simp
  ·simp only [oks, Nat.reduceBEq]
  ·simp only [leB, am, seval, reduceCtorEq]
 ·rintro i ⟨hi, hno⟩
  refine AWp.seq_k fun K4 hK4 => ?_
  refine AWp.reg fun R5 hR5 => ?_
  simp only [ty3, ty33, ty47, am, seval, reduceCtorEq]
  refine hR5 _ ?_; clear hR5 R5
  refine AWp.cond (t := decide ((i:Int) < (l.length : Nat))) (by simp only [am, seval, reduceCtorEq]) (fun ht => ?_) (fun ht => ?_)
  ·have hlt : i < l.length := lt_of_dec ht
   have ix0 : (0 ≤ (i : Int)) = True := by simp
   have ix1 : ((i : Int) < ((l.length : Nat) : Int)) = True := by simp [hlt]
   obtain ⟨q, hq0⟩ : ∃ q, l[i] = q := ⟨_, rfl⟩
   have hgq : (l.map Query.v).getD (i : Int).toNat [] = q.v := by rw [getD_map _ _ _ hlt, hq0]
   have hqm : q ∈ l := by rw [← hq0]; exact List.getElem_mem hlt
   have hq := hM q hqm
   have hsu := cQueries_succ l i hlt; rw [hq0, cQuery_eq] at hsu
   have hsp := cQueries_split l i hlt; rw [hq0, cQuery_eq] at hsp
   refine AWp.skip ?_
   refine hK4 _ ?_; clear hK4
   refine AWp.seq_k fun K6 hK6 => ?_
   refine AWp.block ?_
   refine AWp.seq_k fun K7 hK7 => ?_
   refine AWp.regL mixed [0, 1, 2, 3, 4, 5, 6, 7, 8, 9, 10, 11, 12, 13, 14, 15, 16, 17] (by decide +kernel) [] (by decide +kernel) fun R8 hR8 => ?_
   simp only [Sch.v_all hs1, Sch.v_len, Sch.v_take, ix0, ix1, true_and, hgq, Query.v_limit, Query.v_offset, Query.v_arms, ty26, ty31, ty33, ty47, ty49, undef, aml, Nat.reduceBEq, am, seval, reduceCtorEq]
   refine (hq.lim _).mono fun v' s' h => ?_
   rw [h.1, h.2]; clear h v' s'
   simp only [Sch.v_all hs1, Sch.v_len, Sch.v_take, ix0, ix1, true_and, hgq, Query.v_limit, Query.v_offset, Query.v_arms, ty26, ty31, ty33, ty47, ty49, undef, aml, Nat.reduceBEq, am, seval, reduceCtorEq]
   refine gFL (fun hg4_8 => ?_) (fun hg4_8 => ?_)
   ·simp only [Sch.v_all hs1, Sch.v_len, Sch.v_take, ix0, ix1, true_and, hgq, Query.v_limit, Query.v_offset, Query.v_arms, hg4_8, ty26, ty31, ty33, ty47, ty49, undef, aml, Nat.reduceBEq, am, seval, reduceCtorEq]
    refine (hq.off _).mono fun v' s' h => ?_
    rw [h.1, h.2]; clear h v' s'
    simp only [Sch.v_all hs1, Sch.v_len, Sch.v_take, ix0, ix1, true_and, hgq, Query.v_limit, Query.v_offset, Query.v_arms, hg4_8, ty26, ty31, ty33, ty47, ty49, undef, aml, Nat.reduceBEq, am, seval, reduceCtorEq]
    refine hR8 _ ?_; clear hR8 R8
    refine AWp.condK fun C1 C2 hC1 hC2 => ?_
    simp only [condP, hg4_8, am, seval, reduceCtorEq]
    refine ⟨fun hc32 => hC1 ?_, fun hc32 => hC2 ?_⟩ <;> clear hC1 hC2 C1 C2
    ·refine AWp.reg fun R9 hR9 => ?_
     simp only [am, seval, reduceCtorEq]
     refine hR9 _ ?_; clear hR9 R9
     refine AWp.ret ?_
     refine ret_intro (by show resV Tryz.prog _ [.tmp 4] = _; simp only [resV, am, seval, reduceCtorEq]; rfl) (Wk.refl _) (Heap.le.refl _) ⟨?_, rfl⟩
     simp only [oneV]; rw [hsp]; simp only [List.all_append, hno, nf hg4_8, nt hc32, Bool.and_false, Bool.false_and, Bool.true_and]
    ·have hlo : (cTerms q.limit).all (okA sc) = true ∧ (cTerms q.offset).all (okA sc) = true := ⟨nf hg4_8, nf hc32⟩
     refine AWp.skip ?_
     refine hK7 _ ?_; clear hK7
     refine AWp.reg fun R10 hR10 => ?_
     simp only [am, seval, reduceCtorEq]
     refine hR10 _ ?_; clear hR10 R10
     refine AWp.block ?_
     have hal := hq.len
     refine AWp.loopT (ι := Nat) (fun k => k ≤ q.arms.length ∧ (cArms (q.arms.take k)).all (okA sc) = true) (fun k => tst [(1, .slice 5 (l.map Query.v)), (2, .loc 2 0), (5, vint i), (6, vint k)] [(2, (sc.v, 26))] s 84) (fun k => q.arms.length - k) 0 ⟨⟨Nat.zero_le _, by simp [cArms]⟩, ?_⟩ ?_
     ·refine le_tst ?_ ?_ ?_ (Heap.le.refl _) rfl
      ·simp only [leE, am, seval, reduceCtorEq] <;> simp
      ·simp only [oks, Nat.reduceBEq]
      ·simp only [leB, am, seval, reduceCtorEq]
     ·rintro k ⟨hik, hnok⟩
      refine AWp.seq_k fun K11 hK11 => ?_
      refine AWp.reg fun R12 hR12 => ?_
      simp only [ix0, ix1, true_and, hgq, Query.v_limit, Query.v_offset, Query.v_arms, ty3, ty29, ty33, ty47, ty75, am, seval, reduceCtorEq]
      refine hR12 _ ?_; clear hR12 R12
      refine AWp.cond (t := decide ((k:Int) < (q.arms.length : Nat))) (by simp only [am, seval, reduceCtorEq]) (fun htk => ?_) (fun htk => ?_)
      ·have hltk : k < q.arms.length := lt_of_dec htk
       have ix0k : (0 ≤ (k : Int)) = True := by simp
       have ix1k : ((k : Int) < ((q.arms.length : Nat) : Int)) = True := by simp [hltk]
       obtain ⟨a, ha0⟩ : ∃ a, q.arms[k] = a := ⟨_, rfl⟩
       have hga : (q.arms.map Arm.v).getD (k : Int).toNat [] = a.v := by rw [getD_map _ _ _ hltk, ha0]
       have ham : a ∈ q.arms := by rw [← ha0]; exact List.getElem_mem hltk
       have hA := hq.arms a ham
       have hsua := cArms_succ q.arms k hltk; rw [ha0] at hsua
       have hspa := cArms_split q.arms k hltk; rw [ha0] at hspa
       refine AWp.skip ?_
       refine hK11 _ ?_; clear hK11
       refine AWp.seq_k fun K13 hK13 => ?_
       refine AWp.block ?_
       refine AWp.reg fun R14 hR14 => ?_
       simp only [ix0, ix1, true_and, hgq, Query.v_limit, Query.v_offset, Query.v_arms, ix0k, ix1k, hga, avs, ty29, ty33, ty47, ty75, am, seval, reduceCtorEq]
       refine hR14 _ ?_; clear hR14 R14
       refine AWp.seq_k fun K15 hK15 => ?_
       refine AWp.seq_cut (ι := Unit) (fun _ => True) (fun _ => tst [(1, .slice 5 (l.map Query.v)), (2, .loc 2 0), (5, vint i), (6, vint k), (7, .loc 7 0), (67, vbool (!((cTerms (armTerms a)).all (okA sc)) || !okA sc a))] [(2, (sc.v, 26)), (7, (a.v, 75))] s 84) ?_ ?_
       ·refine AWp.regL1 mixed [0, 1, 2, 3, 4, 5, 6, 7, 8, 9, 10, 11, 12, 13, 14, 15, 16] (by decide +kernel) [] (by decide +kernel) fun R16 hR16 => ?_
        simp only [Sch.v_all hs1, Sch.v_len, Sch.v_take, avs, ty3, ty26, ty68, ty69, ty75, undef, aml, Nat.reduceBEq, am, seval, reduceCtorEq]
        refine (hA.terms _).mono fun v' s' h => ?_
        rw [h.1, h.2]; clear h v' s'
        simp only [Sch.v_all hs1, Sch.v_len, Sch.v_take, avs, ty3, ty26, ty68, ty69, ty75, undef, aml, Nat.reduceBEq, am, seval, reduceCtorEq]
        refine (hA.it _).mono fun v' s' h => ?_
        rw [h.1, h.2]; clear h v' s'
        simp only [Sch.v_all hs1, Sch.v_len, Sch.v_take, avs, ty3, ty26, ty68, ty69, ty75, undef, aml, Nat.reduceBEq, am, seval, reduceCtorEq]
        refine gFL (fun hg10_5 => ?_) (fun hg10_5 => ?_)
        ·simp only [Sch.v_all hs1, Sch.v_len, Sch.v_take, avs, hg10_5, ty3, ty26, ty68, ty69, ty75, undef, aml, Nat.reduceBEq, am, seval, reduceCtorEq]
         refine gTL (fun hg10_10 => ?_) (fun hg10_10 => ?_)
         ·simp only [Sch.v_all hs1, Sch.v_len, Sch.v_take, avs, hg10_5, hg10_10, ty3, ty26, ty68, ty69, ty75, undef, aml, Nat.reduceBEq, am, seval, reduceCtorEq]
          refine (hA.arm _).mono fun v' s' h => ?_
          rw [h.1, h.2]; clear h v' s'
          simp only [Sch.v_all hs1, Sch.v_len, Sch.v_take, avs, hg10_5, hg10_10, ty3, ty26, ty68, ty69, ty75, undef, aml, Nat.reduceBEq, am, seval, reduceCtorEq]
          refine hR16 _ ?_; clear hR16 R16
          refine ⟨(), trivial, ?_⟩
          refine le_tst ?_ ?_ ?_ (Heap.le.refl _) rfl
          ·simp only [leE, okA_long hg10_10, hg10_5, bo, Bool.not_true, Bool.not_false, ↓reduceIte, Bool.false_eq_true, am, seval, reduceCtorEq]
          ·simp only [oks, Nat.reduceBEq]
          ·simp only [leB, okA_long hg10_10, hg10_5, bo, Bool.not_true, Bool.not_false, ↓reduceIte, Bool.false_eq_true, am, seval, reduceCtorEq]
         ·simp only [Sch.v_all hs1, Sch.v_len, Sch.v_take, avs, hg10_5, hg10_10, ty3, ty26, ty68, ty69, ty75, undef, aml, Nat.reduceBEq, am, seval, reduceCtorEq]
          refine hR16 _ ?_; clear hR16 R16
          refine ⟨(), trivial, ?_⟩
          refine le_tst ?_ ?_ ?_ (Heap.le.refl _) rfl
          ·simp only [leE, okA_none hg10_10, hg10_5, bo, Bool.not_true, Bool.not_false, ↓reduceIte, Bool.false_eq_true, am, seval, reduceCtorEq]
          ·simp only [oks, Nat.reduceBEq]
          ·simp only [leB, okA_none hg10_10, hg10_5, bo, Bool.not_true, Bool.not_false, ↓reduceIte, Bool.false_eq_true, am, seval, reduceCtorEq]
        ·simp only [Sch.v_all hs1, Sch.v_len, Sch.v_take, avs, hg10_5, ty3, ty26, ty68, ty69, ty75, undef, aml, Nat.reduceBEq, am, seval, reduceCtorEq]
         refine hR16 _ ?_; clear hR16 R16
         refine ⟨(), trivial, ?_⟩
         refine le_tst ?_ ?_ ?_ (Heap.le.refl _) rfl
         ·simp only [leE, hg10_5, bo, Bool.not_true, Bool.not_false, ↓reduceIte, Bool.false_eq_true, am, seval, reduceCtorEq]
         ·simp only [oks, Nat.reduceBEq]
         ·simp only [leB, hg10_5, bo, Bool.not_true, Bool.not_false, ↓reduceIte, Bool.false_eq_true, am, seval, reduceCtorEq]
       ·rintro ⟨⟩ _
        refine AWp.condK fun C1 C2 hC1 hC2 => ?_
        simp only [condP, hg4_8, hc32, am, seval, reduceCtorEq]
        refine ⟨fun hc67 => hC1 ?_, fun hc67 => hC2 ?_⟩ <;> clear hC1 hC2 C1 C2
        ·refine AWp.reg fun R17 hR17 => ?_
         simp only [am, seval, reduceCtorEq]
         refine hR17 _ ?_; clear hR17 R17
         refine AWp.ret ?_
         refine ret_intro (by show resV Tryz.prog _ [.tmp 4] = _; simp only [resV, am, seval, reduceCtorEq]; rfl) (Wk.refl _) (Heap.le.refl _) ⟨?_, rfl⟩
         simp only [oneV]; rw [hsp]; simp only [List.all_append, hno, hlo, hspa, hnok, cArm_no hc67, Bool.and_false, Bool.false_and, Bool.true_and]
        ·refine AWp.skip ?_
         refine hK15 _ ?_; clear hK15
         refine AWp.reg fun R18 hR18 => ?_
         simp only [am, seval, reduceCtorEq]
         refine hR18 _ ?_; clear hR18 R18
         refine AWp.block ?_
         have hfl := hA.len
         refine AWp.loopT (ι := Nat) (fun m => m ≤ a.frm.length ∧ (a.frm.take m).all (fun f => (cQueries f.sub).all (okA sc)) = true) (fun m => tst [(1, .slice 5 (l.map Query.v)), (2, .loc 2 0), (5, vint i), (6, vint k), (7, .loc 7 0), (8, vint m)] [(2, (sc.v, 26)), (7, (a.v, 75))] s 84) (fun m => a.frm.length - m) 0 ⟨⟨Nat.zero_le _, by simp⟩, ?_⟩ ?_
         ·refine le_tst ?_ ?_ ?_ (Heap.le.refl _) rfl
          ·simp only [leE, am, seval, reduceCtorEq] <;> simp
          ·simp only [oks, Nat.reduceBEq]
          ·simp only [leB, am, seval, reduceCtorEq]
         ·rintro m ⟨him, hnom⟩
          refine AWp.seq_k fun K19 hK19 => ?_
          refine AWp.reg fun R20 hR20 => ?_
          simp only [avs, ty3, ty72, ty75, ty107, am, seval, reduceCtorEq]
          refine hR20 _ ?_; clear hR20 R20
          refine AWp.cond (t := decide ((m:Int) < (a.frm.length : Nat))) (by simp only [am, seval, reduceCtorEq]) (fun htm => ?_) (fun htm => ?_)
          ·have hltm : m < a.frm.length := lt_of_dec htm
           have ix0m : (0 ≤ (m : Int)) = True := by simp
           have ix1m : ((m : Int) < ((a.frm.length : Nat) : Int)) = True := by simp [hltm]
           obtain ⟨f, hf0⟩ : ∃ f, a.frm[m] = f := ⟨_, rfl⟩
           have hgf : (a.frm.map From.v).getD (m : Int).toNat [] = f.v := by rw [getD_map _ _ _ hltm, hf0]
           have hfm : f ∈ a.frm := by rw [← hf0]; exact List.getElem_mem hltm
           refine AWp.skip ?_
           refine hK19 _ ?_; clear hK19
           refine AWp.seq_k fun K21 hK21 => ?_
           refine AWp.block ?_
           refine AWp.regL mixed [0, 1, 2, 3, 4, 5, 6, 7, 8] (by decide +kernel) [] (by decide +kernel) fun R22 hR22 => ?_
           simp only [Sch.v_all hs1, Sch.v_len, Sch.v_take, avs, ix0m, ix1m, true_and, hgf, From.v_sub, ty26, ty33, ty47, ty72, ty75, ty107, aml, Nat.reduceBEq, am, seval, reduceCtorEq]
           refine (hA.subs f hfm _).mono fun v' s' h => ?_
           rw [h.1, h.2]; clear h v' s'
           simp only [Sch.v_all hs1, Sch.v_len, Sch.v_take, avs, ix0m, ix1m, true_and, hgf, From.v_sub, ty26, ty33, ty47, ty72, ty75, ty107, aml, Nat.reduceBEq, am, seval, reduceCtorEq]
           refine hR22 _ ?_; clear hR22 R22
           refine AWp.condK fun C1 C2 hC1 hC2 => ?_
           simp only [condP, hg4_8, hc32, hc67, am, seval, reduceCtorEq]
           refine ⟨fun hc83 => hC1 ?_, fun hc83 => hC2 ?_⟩ <;> clear hC1 hC2 C1 C2
           ·refine AWp.reg fun R23 hR23 => ?_
            simp only [am, seval, reduceCtorEq]
            refine hR23 _ ?_; clear hR23 R23
            refine AWp.ret ?_
            refine ret_intro (by show resV Tryz.prog _ [.tmp 4] = _; simp only [resV, am, seval, reduceCtorEq]; rfl) (Wk.refl _) (Heap.le.refl _) ⟨?_, rfl⟩
            simp only [oneV]; rw [hsp]; simp only [List.all_append, hno, hlo, hspa, hnok, cArm_no2 hfm (nt hc83), Bool.and_false, Bool.false_and, Bool.true_and]
           ·refine AWp.skip ?_
            refine hK21 _ ?_; clear hK21
            refine AWp.reg1 fun R24 hR24 => ?_
            simp only [ty3, am, seval, reduceCtorEq]
            refine hR24 _ ?_; clear hR24 R24
            refine ⟨m + 1, ⟨⟨hltm, by rw [List.take_succ_eq_append_getElem hltm, List.all_append, hnom, hf0]; simp [nf hc83]⟩, by omega⟩, ?_⟩
            refine le_tst ?_ ?_ ?_ (Heap.le.refl _) rfl
            ·simp only [leE, am, seval, reduceCtorEq]; rw [wrap_id (by omega) (by omega)]; simp
            ·simp only [oks, Nat.reduceBEq]
            ·simp only [leB, am, seval, reduceCtorEq]
          ·obtain rfl : m = a.frm.length := eq_of_dec htm him
           have hca : (cArm a).all (okA sc) = true := by rw [cArm_all, (nf2 hc67).1, (nf2 hc67).2, ← List.take_length (l := a.frm), hnom]; rfl
           refine AWp.exit ?_
           simp only [exq, seval]
           refine hK13 _ ?_; clear hK13
           refine AWp.reg1 fun R25 hR25 => ?_
           simp only [ty3, am, seval, reduceCtorEq]
           refine hR25 _ ?_; clear hR25 R25
           refine ⟨k + 1, ⟨⟨hltk, by rw [hsua, List.all_append, hnok, hca]; rfl⟩, by omega⟩, ?_⟩
           refine le_tst ?_ ?_ ?_ (Heap.le.refl _) rfl
           ·simp only [leE, am, seval, reduceCtorEq]; rw [wrap_id (by omega) (by omega)]; simp
           ·simp only [oks, Nat.reduceBEq]
           ·simp only [leB, am, seval, reduceCtorEq]
      ·obtain rfl : k = q.arms.length := eq_of_dec htk hik
       rw [List.take_length] at hnok
       refine AWp.exit ?_
       simp only [exq, seval]
       refine hK6 _ ?_; clear hK6
       refine AWp.reg1 fun R26 hR26 => ?_
       simp only [ty3, am, seval, reduceCtorEq]
       refine hR26 _ ?_; clear hR26 R26
       refine ⟨i + 1, ⟨⟨hlt, by rw [hsu]; simp only [List.all_append, hno, hlo, hnok, Bool.and_self]⟩, by omega⟩, ?_⟩
       refine le_tst ?_ ?_ ?_ (Heap.le.refl _) rfl
       ·simp only [leE, am, seval, reduceCtorEq]; rw [wrap_id (by omega) (by omega)]; simp
       ·simp only [oks, Nat.reduceBEq]
       ·simp only [leB, am, seval, reduceCtorEq]
   ·simp only [Sch.v_all hs1, Sch.v_len, Sch.v_take, ix0, ix1, true_and, hgq, Query.v_limit, Query.v_offset, Query.v_arms, hg4_8, ty26, ty31, ty33, ty47, ty49, undef, aml, Nat.reduceBEq, am, seval, reduceCtorEq]
    refine hR8 _ ?_; clear hR8 R8
    refine AWp.cond (t := true) (by simp only [hg4_8, am, seval, reduceCtorEq]) (fun _ => ?_) (fun h => by cases h)
    refine AWp.reg fun R9 hR9 => ?_
    simp only [am, seval, reduceCtorEq]
    refine hR9 _ ?_; clear hR9 R9
    refine AWp.ret ?_
    refine ret_intro (by show resV Tryz.prog _ [.tmp 4] = _; simp only [resV, am, seval, reduceCtorEq]; rfl) (Wk.refl _) (Heap.le.refl _) ⟨?_, rfl⟩
    simp only [oneV]; rw [hsp]; simp only [List.all_append, hno, nt hg4_8, Bool.and_false, Bool.false_and, Bool.true_and]
  ·obtain rfl : i = l.length := eq_of_dec ht hi
   refine AWp.exit ?_
   simp only [exq, seval]
   refine hK2 _ ?_; clear hK2
   refine AWp.reg fun R10 hR10 => ?_
   simp only [am, seval, reduceCtorEq]
   refine hR10 _ ?_; clear hR10 R10
   refine AWp.ret ?_
   refine ret_intro (by show resV Tryz.prog _ [.tmp 4] = _; simp only [resV, am, seval, reduceCtorEq]; rfl) (Wk.refl _) (Heap.le.refl _) ⟨?_, rfl⟩
   simp only [oneV]; rw [List.take_length] at hno; rw [hno]
end Go.Proofs.YtcckhbconihagaaGreatDoor
set_option linter.unusedSimpArgs false
set_option linter.unusedVariables false
set_option maxRecDepth 100000
namespace Go.Proofs.YtcckhbconihagaaGreatDoor
open Go.Am Go.Pl
structure ScOk (sc : Schema) : Prop where
  s : SchOk sc
  n : ∀ t ∈ sc.tables, t.name.size ≤ 2^30
  i : sc.indexes.length ≤ 2^40
theorem mayq_all (sc : Schema) (hs : ScOk sc) : ∀ n : Nat, n ≤ 2^26 → (∀ l : List Term, (l.map Term.w).sum ≤ n → Gives Tryz.prog 53 [.agg sc.v, .slice 14 (l.map Term.v)] (vbool ((cTerms l).all (okA sc)))) ∧ (∀ l : List Query, (l.map Query.w).sum ≤ n → Gives Tryz.prog 23 [.agg sc.v, .slice 5 (l.map Query.v)] (vbool ((cQueries l).all (okA sc))))
  | 0, _ => by
    refine ⟨fun l hl => f53_spec sc hs.s.1 (okA sc) l (fun t ht => ?_) (fun t ht => ?_), fun l hl => f23_spec sc hs.s.1 l fun q hq => ?_⟩
    · have := mem_w Term.w l t ht; have := Term.w_pos t; omega
    · have := mem_w Term.w l t ht; have := Term.w_pos t; omega
    · have := mem_w Query.w l q hq; have := Query.w_pos q; omega
  | n + 1, hn => by
    obtain ⟨ih1, ih2⟩ := mayq_all sc hs n (by omega)
    refine ⟨fun l hl => f53_spec sc hs.s.1 (okA sc) l (fun t ht => ih1 _ ?_) (fun t ht => ih2 _ ?_), fun l hl => f23_spec sc hs.s.1 l fun q hq => ?_⟩
    · have := mem_w Term.w l t ht; rw [Term.w_eq] at this; omega
    · have := mem_w Term.w l t ht; rw [Term.w_eq] at this; omega
    · have hqw := mem_w Query.w l q hq
      rw [Query.w_eq] at hqw
      have hal := len_le Arm.w_pos q.arms
      refine ⟨ih1 _ (by omega), ih1 _ (by omega), fun a ha => ?_, by omega⟩
      have haw := mem_w Arm.w q.arms a ha
      have hat := armTerms_w a
      have hfl := len_le From.w_pos a.frm
      have haw2 := haw
      rw [Arm.w_eq] at haw2
      refine ⟨terms_ok a (by omega), ih1 _ (by omega), f54_spec sc hs.s hs.n hs.i a (parm_of (by omega)) (rarm_of (by omega)), fun f hf => ih2 _ ?_, by omega⟩
      have := mem_w From.w a.frm f hf
      rw [From.w_eq] at this; omega
theorem Res.v_len (r : Resolved) : r.v.length = 6 := Resolved.v_len r
theorem Res.v_all (r : Resolved) : r.v.all V.isCell = true := by rw [Resolved.v_eq, List.all_append, Query.v_all]; rfl
theorem Res.v_take (r : Resolved) : r.v.take 6 = r.v := List.take_of_length_le (by rw [Res.v_len]; exact Nat.le_refl _)
theorem Res.v_withs (r : Resolved) : r.v[0]? = some (.slice 9 (r.withs.map With.v)) := by rw [Resolved.v_eq]; rfl
theorem Res.v_query (r : Resolved) : (r.v.drop 1).take 5 = r.query.v := by rw [Resolved.v_eq]; exact Query.v_take _
theorem With.v_query (x : With) : (x.v.drop 2).take 5 = x.query.v := by
  rw [With.v_eq, List.append_assoc]
  show (x.query.v ++ _).take 5 = _
  rw [List.take_append_of_le_length (by rw [Query.v_len]; exact Nat.le_refl _)]; exact Query.v_take _
theorem With.v_step (x : With) : x.v[7]? = some (.slice 5 (x.step.map Query.v)) := by
  rw [With.v_eq, Query.v_eq]; rfl
def cResolvedTo (r : Resolved) (i : Nat) : List Arm := cQuery r.query ++ (r.withs.take i).flatMap cWith
theorem cResolvedTo_succ (r : Resolved) (i : Nat) (h : i < r.withs.length) : cResolvedTo r (i + 1) = cResolvedTo r i ++ cWith r.withs[i] := by
  unfold cResolvedTo; rw [flat_succ _ _ h, List.append_assoc]
theorem cResolvedTo_end (r : Resolved) : cResolvedTo r r.withs.length = cResolved r := by unfold cResolvedTo cResolved; rw [List.take_length]
theorem f10_spec (sc : Schema) (hs1 : sc.views.isCell = true) (r : Resolved) (hl : r.withs.length ≤ 2^40) (h1 : Gives Tryz.prog 23 [.agg sc.v, .slice 5 [r.query.v]] (vbool ((cQuery r.query).all (okA sc)))) (hw : ∀ x ∈ r.withs, Gives Tryz.prog 23 [.agg sc.v, .slice 5 [x.query.v]] (vbool ((cQuery x.query).all (okA sc))) ∧ Gives Tryz.prog 23 [.agg sc.v, .slice 5 (x.step.map Query.v)] (vbool ((cQueries x.step).all (okA sc)))) : Gives Tryz.prog 10 [.agg sc.v, .agg r.v] (vint (if mayR sc r then 0 else 340)) := by
 intro s
 refine acalls_of (fn := Tryz.f10) Tryz.func10 rfl (by decide) (by show 2 ≤ 42; decide) ?_
 rw [Tryz.ntmps10]
 refine AWp.reg fun R1 hR1 => ?_
 simp only [Sch.v_all hs1, Sch.v_len, Sch.v_take, Res.v_len, Res.v_all, Res.v_withs, Res.v_query, Res.v_take, Query.v_len, Query.v_all, Query.v_take, ty26, ty35, am, seval, reduceCtorEq]
 refine hR1 _ ?_; clear hR1 R1
 refine AWp.reg fun R2 hR2 => ?_
 simp only [Sch.v_all hs1, Sch.v_len, Sch.v_take, Res.v_len, Res.v_all, Res.v_withs, Res.v_query, Res.v_take, Query.v_len, Query.v_all, Query.v_take, ty26, ty33, ty35, ty47, am, seval, reduceCtorEq]
 refine (h1 _).mono fun v' s' h => ?_
 rw [h.1, h.2]; clear h v' s'
 simp only [Sch.v_all hs1, Sch.v_len, Sch.v_take, Res.v_len, Res.v_all, Res.v_withs, Res.v_query, Res.v_take, Query.v_len, Query.v_all, Query.v_take, ty26, ty33, ty35, ty47, am, seval, reduceCtorEq]
 refine hR2 _ ?_; clear hR2 R2
 refine AWp.seq_k fun K3 hK3 => ?_
 refine AWp.reg fun R4 hR4 => ?_
 simp only [am, seval, reduceCtorEq]
 refine hR4 _ ?_; clear hR4 R4
 refine AWp.block ?_
 refine AWp.loopT (ι := Nat) (fun i => i ≤ r.withs.length) (fun i => tst [(2, .loc 2 0), (3, .loc 3 0), (5, vbool ((cResolvedTo r i).all (okA sc))), (6, vint i)] [(2, (sc.v, 26)), (3, (r.v, 35))] s 42) (fun i => r.withs.length - i) 0 ⟨Nat.zero_le _, ?_⟩ ?_
 ·refine le_tst ?_ ?_ ?_ (Heap.le.refl _) rfl
  ·simp only [leE, am, seval, reduceCtorEq]; simp [cResolvedTo]
  ·simp only [oks, Nat.reduceBEq]
  ·simp only [leB, am, seval, reduceCtorEq]
 ·rintro i hi
  refine AWp.seq_k fun K5 hK5 => ?_
  refine AWp.reg fun R6 hR6 => ?_
  simp only [Res.v_len, Res.v_all, Res.v_withs, Res.v_query, Res.v_take, ty3, ty27, ty35, ty62, am, seval, reduceCtorEq]
  refine hR6 _ ?_; clear hR6 R6
  refine AWp.cond (t := decide ((i:Int) < (r.withs.length : Nat))) (by simp only [am, seval, reduceCtorEq]) (fun ht => ?_) (fun ht => ?_)
  ·have hlt : i < r.withs.length := lt_of_dec ht
   have ix0 : (0 ≤ (i : Int)) = True := by simp
   have ix1 : ((i : Int) < ((r.withs.length : Nat) : Int)) = True := by simp [hlt]
   obtain ⟨x, hx0⟩ : ∃ x, r.withs[i] = x := ⟨_, rfl⟩
   have hgw : (r.withs.map With.v).getD (i : Int).toNat [] = x.v := by rw [getD_map _ _ _ hlt, hx0]
   have hxm : x ∈ r.withs := by rw [← hx0]; exact List.getElem_mem hlt
   have hsu := cResolvedTo_succ r i hlt; rw [hx0] at hsu
   refine AWp.skip ?_
   refine hK5 _ ?_; clear hK5
   refine AWp.seq_k fun K7 hK7 => ?_
   refine AWp.block ?_
   refine AWp.regL1 mixed [0, 1, 2, 3, 4, 5, 6, 7, 8, 9, 10, 11, 12, 13, 14, 15, 16, 17, 18, 19, 20, 21, 22] (by decide +kernel) [] (by decide +kernel) fun R8 hR8 => ?_
   simp only [Sch.v_all hs1, Sch.v_len, Sch.v_take, Res.v_len, Res.v_all, Res.v_withs, Res.v_query, Res.v_take, Query.v_len, Query.v_all, Query.v_take, ix0, ix1, true_and, hgw, With.v_query, With.v_step, With.v_len, ty26, ty27, ty33, ty35, ty47, ty62, undef, aml, Nat.reduceBEq, am, seval, reduceCtorEq]
   refine gTL (fun hg5_1 => ?_) (fun hg5_1 => ?_)
   ·simp only [Sch.v_all hs1, Sch.v_len, Sch.v_take, Res.v_len, Res.v_all, Res.v_withs, Res.v_query, Res.v_take, Query.v_len, Query.v_all, Query.v_take, ix0, ix1, true_and, hgw, With.v_query, With.v_step, With.v_len, hg5_1, ty26, ty27, ty33, ty35, ty47, ty62, undef, aml, Nat.reduceBEq, am, seval, reduceCtorEq]
    refine ((hw x hxm).1 _).mono fun v' s' h => ?_
    rw [h.1, h.2]; clear h v' s'
    simp only [Sch.v_all hs1, Sch.v_len, Sch.v_take, Res.v_len, Res.v_all, Res.v_withs, Res.v_query, Res.v_take, Query.v_len, Query.v_all, Query.v_take, ix0, ix1, true_and, hgw, With.v_query, With.v_step, With.v_len, hg5_1, ty26, ty27, ty33, ty35, ty47, ty62, undef, aml, Nat.reduceBEq, am, seval, reduceCtorEq]
    refine gTL (fun hg5_12 => ?_) (fun hg5_12 => ?_)
    ·simp only [Sch.v_all hs1, Sch.v_len, Sch.v_take, Res.v_len, Res.v_all, Res.v_withs, Res.v_query, Res.v_take, Query.v_len, Query.v_all, Query.v_take, ix0, ix1, true_and, hgw, With.v_query, With.v_step, With.v_len, hg5_1, hg5_12, ty26, ty27, ty33, ty35, ty47, ty62, undef, aml, Nat.reduceBEq, am, seval, reduceCtorEq]
     refine ((hw x hxm).2 _).mono fun v' s' h => ?_
     rw [h.1, h.2]; clear h v' s'
     simp only [Sch.v_all hs1, Sch.v_len, Sch.v_take, Res.v_len, Res.v_all, Res.v_withs, Res.v_query, Res.v_take, Query.v_len, Query.v_all, Query.v_take, ix0, ix1, true_and, hgw, With.v_query, With.v_step, With.v_len, hg5_1, hg5_12, ty26, ty27, ty33, ty35, ty47, ty62, undef, aml, Nat.reduceBEq, am, seval, reduceCtorEq]
     refine hR8 _ ?_; clear hR8 R8
     refine hK7 _ ?_; clear hK7
     refine AWp.reg1 fun R9 hR9 => ?_
     simp only [ty3, am, seval, reduceCtorEq]
     refine hR9 _ ?_; clear hR9 R9
     have hv : (cResolvedTo r (i + 1)).all (okA sc) = ((cResolvedTo r i).all (okA sc) && ((cQuery x.query).all (okA sc) && (cQueries x.step).all (okA sc))) := by rw [hsu, cWith, List.all_append, List.all_append]
     refine ⟨i + 1, ⟨hlt, by omega⟩, ?_⟩
     refine le_tst ?_ ?_ ?_ (Heap.le.refl _) rfl
     ·simp only [leE, am, seval, reduceCtorEq]; rw [wrap_id (by omega) (by omega), hv, hg5_1, hg5_12]; simp
     ·simp only [oks, Nat.reduceBEq]
     ·simp only [leB, am, seval, reduceCtorEq]
    ·simp only [Sch.v_all hs1, Sch.v_len, Sch.v_take, Res.v_len, Res.v_all, Res.v_withs, Res.v_query, Res.v_take, Query.v_len, Query.v_all, Query.v_take, ix0, ix1, true_and, hgw, With.v_query, With.v_step, With.v_len, hg5_1, hg5_12, ty26, ty27, ty33, ty35, ty47, ty62, undef, aml, Nat.reduceBEq, am, seval, reduceCtorEq]
     refine hR8 _ ?_; clear hR8 R8
     refine hK7 _ ?_; clear hK7
     refine AWp.reg1 fun R9 hR9 => ?_
     simp only [ty3, am, seval, reduceCtorEq]
     refine hR9 _ ?_; clear hR9 R9
     have hv : (cResolvedTo r (i + 1)).all (okA sc) = ((cResolvedTo r i).all (okA sc) && ((cQuery x.query).all (okA sc) && (cQueries x.step).all (okA sc))) := by rw [hsu, cWith, List.all_append, List.all_append]
     refine ⟨i + 1, ⟨hlt, by omega⟩, ?_⟩
     refine le_tst ?_ ?_ ?_ (Heap.le.refl _) rfl
     ·simp only [leE, am, seval, reduceCtorEq]; rw [wrap_id (by omega) (by omega), hv, hg5_1, hg5_12]; simp
     ·simp only [oks, Nat.reduceBEq]
     ·simp only [leB, am, seval, reduceCtorEq]
   ·simp only [Sch.v_all hs1, Sch.v_len, Sch.v_take, Res.v_len, Res.v_all, Res.v_withs, Res.v_query, Res.v_take, Query.v_len, Query.v_all, Query.v_take, ix0, ix1, true_and, hgw, With.v_query, With.v_step, With.v_len, hg5_1, ty26, ty27, ty33, ty35, ty47, ty62, undef, aml, Nat.reduceBEq, am, seval, reduceCtorEq]
    refine hR8 _ ?_; clear hR8 R8
    refine hK7 _ ?_; clear hK7
    refine AWp.reg1 fun R9 hR9 => ?_
    simp only [ty3, am, seval, reduceCtorEq]
    refine hR9 _ ?_; clear hR9 R9
    have hv : (cResolvedTo r (i + 1)).all (okA sc) = ((cResolvedTo r i).all (okA sc) && ((cQuery x.query).all (okA sc) && (cQueries x.step).all (okA sc))) := by rw [hsu, cWith, List.all_append, List.all_append]
    refine ⟨i + 1, ⟨hlt, by omega⟩, ?_⟩
    refine le_tst ?_ ?_ ?_ (Heap.le.refl _) rfl
    ·simp only [leE, am, seval, reduceCtorEq]; rw [wrap_id (by omega) (by omega), hv, hg5_1]; simp
    ·simp only [oks, Nat.reduceBEq]
    ·simp only [leB, am, seval, reduceCtorEq]
  ·obtain rfl : i = r.withs.length := eq_of_dec ht hi
   refine AWp.exit ?_
   simp only [exq, seval]
   refine hK3 _ ?_; clear hK3
   refine AWp.seq_k fun K10 hK10 => ?_
   refine AWp.reg fun R11 hR11 => ?_
   simp only [am, seval, reduceCtorEq]
   refine hR11 _ ?_; clear hR11 R11
   refine AWp.condK fun C1 C2 hC1 hC2 => ?_
   simp only [condP, am, seval, reduceCtorEq]
   refine ⟨fun hc => hC1 ?_, fun hc => hC2 ?_⟩ <;> clear hC1 hC2 C1 C2
   ·refine AWp.reg fun R12 hR12 => ?_
    simp only [am, seval, reduceCtorEq]
    refine hR12 _ ?_; clear hR12 R12
    refine AWp.ret ?_
    refine ret_intro (by show resV Tryz.prog _ [.tmp 4] = _; simp only [resV, am, seval, reduceCtorEq]; rfl) (Wk.refl _) (Heap.le.refl _) ⟨?_, rfl⟩
    rw [cResolvedTo_end] at hc; have hm : mayR sc r = _ := hc; simp only [oneV, hm, ↓reduceIte, Bool.false_eq_true]
   ·refine AWp.skip ?_
    refine hK10 _ ?_; clear hK10
    refine AWp.reg fun R13 hR13 => ?_
    simp only [am, seval, reduceCtorEq]
    refine hR13 _ ?_; clear hR13 R13
    refine AWp.ret ?_
    refine ret_intro (by show resV Tryz.prog _ [.tmp 4] = _; simp only [resV, am, seval, reduceCtorEq]; rfl) (Wk.refl _) (Heap.le.refl _) ⟨?_, rfl⟩
    rw [cResolvedTo_end] at hc; have hm : mayR sc r = _ := hc; simp only [oneV, hm, ↓reduceIte, Bool.false_eq_true]
theorem f10_all (sc : Schema) (hs : ScOk sc) (r : Resolved) (hw : r.w ≤ 2^26) : Gives Tryz.prog 10 [.agg sc.v, .agg r.v] (vint (if mayR sc r then 0 else 340)) := by
  have hrw := Resolved.w_eq r
  have hl := len_le With.w_pos r.withs
  have one : ∀ q : Query, q.w ≤ 2^26 → Gives Tryz.prog 23 [.agg sc.v, .slice 5 [q.v]] (vbool ((cQuery q).all (okA sc))) := fun q hq => by
    have := (mayq_all sc hs (2^26) (Nat.le_refl _)).2 [q] (by simpa using hq)
    rw [cQueries, cQueries, List.append_nil] at this
    exact this
  refine f10_spec sc hs.s.1 r (by omega) (one _ (by omega)) fun x hx => ?_
  have hxw := mem_w With.w r.withs x hx
  rw [With.w_eq] at hxw
  exact ⟨one _ (by omega), (mayq_all sc hs (2^26) (Nat.le_refl _)).2 _ (by omega)⟩
end Go.Proofs.YtcckhbconihagaaGreatDoor
