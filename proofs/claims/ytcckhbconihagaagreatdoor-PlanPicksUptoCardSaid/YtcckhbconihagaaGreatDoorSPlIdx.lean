/- slices.IndexFunc, ContainsFunc, Index, Contains. -/
import Derived.Test.YtcckhbconihagaaGreatDoorSPlData2
set_option linter.unusedSimpArgs false
set_option linter.unusedVariables false
set_option maxRecDepth 100000
namespace Go.Proofs.YtcckhbconihagaaGreatDoor
open Go.Am Go.Pl
theorem f131_spec (s : Heap) (l : List Int) (p : Int → Bool) (k : FuncId) (cap : List V) (hc : ∀ a ∈ l, GivesAt Tryz.prog k ([] ++ [vint a] ++ cap) s (vbool (p a))) : GivesAt Tryz.prog 131 [.slice 1 (l.map (fun x => [vint x])), .func k [] cap] s (vint (idx p l)) := by
 refine acalls_of (fn := Tryz.f131) Tryz.func131 rfl (by decide) (by show 2 ≤ 19; decide) ?_
 rw [Tryz.ntmps131]
 refine AWp.reg fun R1 hR1 => ?_
 simp only [am, seval, reduceCtorEq]
 refine hR1 _ ?_; clear hR1 R1
 refine AWp.seq_k fun K2 hK2 => ?_
 refine AWp.reg fun R3 hR3 => ?_
 simp only [ty3, ty50, am, seval, reduceCtorEq]
 refine hR3 _ ?_; clear hR3 R3
 refine AWp.block ?_
 refine AWp.slen 0 (sz := 1) (es := l.map (fun x => [vint x])) (by simp only [am, seval, reduceCtorEq]) fun hmax => ?_
 have hmx := maxLen_lt; rw [List.length_map] at hmax
 refine AWp.loopT (ι := Nat) (fun i => i ≤ l.length ∧ (l.take i).any p = false) (fun i => tst [(0, .slice 1 (l.map (fun x => [vint x]))), (1, .func k [] cap), (7, vint l.length), (8, vint i)] [] s 19) (fun i => l.length - i) 0 ⟨⟨Nat.zero_le _, by simp⟩, ?_⟩ ?_
 ·refine le_tst ?_ ?_ ?_ (Heap.le.refl _) rfl
  ·simp only [leE, am, seval, reduceCtorEq] <;> simp
  ·simp only [okL, and_self]
  ·simp only [leB]
 ·rintro i ⟨hi, hno⟩
  refine AWp.reg fun R4 hR4 => ?_
  simp only [ty3, am, seval, reduceCtorEq]
  refine hR4 _ ?_; clear hR4 R4
  refine AWp.seq_k fun K5 hK5 => ?_
  refine AWp.cond (t := decide ((i:Int) < l.length)) (by simp only [am, seval, reduceCtorEq]) (fun ht => ?_) (fun ht => ?_)
  ·have hlt : i < l.length := lt_of_dec ht
   have ix0 : (0 ≤ (i : Int)) = True := by simp
   have ix1 : ((i : Int) < (l.length : Int)) = True := by simp [hlt]
   refine AWp.skip ?_
   refine hK5 _ ?_; clear hK5
   refine AWp.seq_k fun K6 hK6 => ?_
   refine AWp.block ?_
   refine AWp.reg fun R7 hR7 => ?_
   simp only [am, seval, reduceCtorEq]
   refine hR7 _ ?_; clear hR7 R7
   refine AWp.reg fun R8 hR8 => ?_
   simp only [ix0, ix1, true_and, getD_map _ _ _ hlt, ty3, ty50, am, seval, reduceCtorEq]
   refine (hc l[i] (List.getElem_mem hlt)).mono fun v' s' h => ?_
   rw [h.1, h.2]; clear h v' s'
   simp only [vbool, ix0, ix1, true_and, getD_map _ _ _ hlt, ty3, ty50, am, seval, reduceCtorEq]
   refine hR8 _ ?_; clear hR8 R8
   refine AWp.cond (t := p l[i]) (by simp only [am, seval, reduceCtorEq]) (fun hp => ?_) (fun hp => ?_)
   ·refine AWp.reg fun R9 hR9 => ?_
    simp only [am, seval, reduceCtorEq]
    refine hR9 _ ?_; clear hR9 R9
    refine AWp.ret ?_
    exact ret_intro (vs := [vint i]) rfl (Wk.refl _) (Heap.le.refl _) ⟨by rw [idx_at hlt hno hp]; rfl, rfl⟩
   ·refine AWp.skip ?_
    refine hK6 _ ?_; clear hK6
    refine AWp.reg1 fun R10 hR10 => ?_
    simp only [ty3, am, seval, reduceCtorEq]
    refine hR10 _ ?_; clear hR10 R10
    refine ⟨i + 1, ⟨⟨hlt, any_take_succ hlt hno hp⟩, by omega⟩, ?_⟩
    refine le_tst ?_ ?_ ?_ (Heap.le.refl _) rfl
    ·simp only [leE, am, seval, reduceCtorEq]; rw [wrap_id (by omega) (by omega)]; simp
    ·simp only [okL, and_self]
    ·simp only [leB]
  ·obtain rfl : i = l.length := eq_of_dec ht hi
   refine AWp.exit ?_
   simp only [exq, seval]
   refine hK2 _ ?_; clear hK2
   refine AWp.reg fun R11 hR11 => ?_
   simp only [am, seval, reduceCtorEq]
   refine hR11 _ ?_; clear hR11 R11
   refine AWp.ret ?_
   exact ret_intro (vs := [vint (-1)]) rfl (Wk.refl _) (Heap.le.refl _) ⟨by rw [idx_none hno]; rfl, rfl⟩
theorem f82_spec (s : Heap) (l : List Int) (p : Int → Bool) (k : FuncId) (cap : List V) (hc : ∀ a ∈ l, GivesAt Tryz.prog k ([] ++ [vint a] ++ cap) s (vbool (p a))) : GivesAt Tryz.prog 82 [.slice 1 (l.map (fun x => [vint x])), .func k [] cap] s (vbool (l.any p)) := by
 have ge : decide (idx p l ≥ 0) = l.any p := idx_ge p l
 refine acalls_of (fn := Tryz.f82) Tryz.func82 rfl (by decide) (by show 2 ≤ 9; decide) ?_
 rw [Tryz.ntmps82]
 refine AWp.reg fun R1 hR1 => ?_
 simp only [am, seval, reduceCtorEq]
 refine hR1 _ ?_; clear hR1 R1
 refine AWp.reg fun R2 hR2 => ?_
 simp only [ty3, am, seval, reduceCtorEq]
 refine (f131_spec s l p k cap hc).mono fun v' s' h => ?_
 rw [h.1, h.2]; clear h v' s'
 simp only [ge, ty3, am, seval, reduceCtorEq]
 refine hR2 _ ?_; clear hR2 R2
 refine AWp.ret ?_
 exact ret_intro (vs := [vbool (l.any p)]) rfl (Wk.refl _) (Heap.le.refl _) ⟨rfl, rfl⟩
theorem f118_spec (s : Heap) (l : List Term) (p : Term → Bool) (k : FuncId) (cap : List V) (hc : ∀ a ∈ l, GivesAt Tryz.prog k ([] ++ [.agg a.v] ++ cap) s (vbool (p a))) : GivesAt Tryz.prog 118 [.slice 14 (l.map Term.v), .func k [] cap] s (vint (idx p l)) := by
 refine acalls_of (fn := Tryz.f118) Tryz.func118 rfl (by decide) (by show 2 ≤ 19; decide) ?_
 rw [Tryz.ntmps118]
 refine AWp.reg fun R1 hR1 => ?_
 simp only [am, seval, reduceCtorEq]
 refine hR1 _ ?_; clear hR1 R1
 refine AWp.seq_k fun K2 hK2 => ?_
 refine AWp.reg fun R3 hR3 => ?_
 simp only [ty31, ty49, am, seval, reduceCtorEq]
 refine hR3 _ ?_; clear hR3 R3
 refine AWp.block ?_
 refine AWp.slen 0 (sz := 14) (es := l.map Term.v) (by simp only [am, seval, reduceCtorEq]) fun hmax => ?_
 have hmx := maxLen_lt; rw [List.length_map] at hmax
 refine AWp.loopT (ι := Nat) (fun i => i ≤ l.length ∧ (l.take i).any p = false) (fun i => tst [(0, .slice 14 (l.map Term.v)), (1, .func k [] cap), (7, vint l.length), (8, vint i)] [] s 19) (fun i => l.length - i) 0 ⟨⟨Nat.zero_le _, by simp⟩, ?_⟩ ?_
 ·refine le_tst ?_ ?_ ?_ (Heap.le.refl _) rfl
  ·simp only [leE, am, seval, reduceCtorEq] <;> simp
  ·simp only [okL, and_self]
  ·simp only [leB]
 ·rintro i ⟨hi, hno⟩
  refine AWp.reg fun R4 hR4 => ?_
  simp only [ty3, am, seval, reduceCtorEq]
  refine hR4 _ ?_; clear hR4 R4
  refine AWp.seq_k fun K5 hK5 => ?_
  refine AWp.cond (t := decide ((i:Int) < l.length)) (by simp only [am, seval, reduceCtorEq]) (fun ht => ?_) (fun ht => ?_)
  ·have hlt : i < l.length := lt_of_dec ht
   have ix0 : (0 ≤ (i : Int)) = True := by simp
   have ix1 : ((i : Int) < (l.length : Int)) = True := by simp [hlt]
   refine AWp.skip ?_
   refine hK5 _ ?_; clear hK5
   refine AWp.seq_k fun K6 hK6 => ?_
   refine AWp.block ?_
   refine AWp.reg fun R7 hR7 => ?_
   simp only [am, seval, reduceCtorEq]
   refine hR7 _ ?_; clear hR7 R7
   refine AWp.reg fun R8 hR8 => ?_
   simp only [ix0, ix1, true_and, getD_map _ _ _ hlt, Term.v_eq, ty31, ty49, am, seval, reduceCtorEq]
   rw [← Term.v_eq]
   refine (hc l[i] (List.getElem_mem hlt)).mono fun v' s' h => ?_
   rw [h.1, h.2]; clear h v' s'
   simp only [vbool, ix0, ix1, true_and, getD_map _ _ _ hlt, Term.v_eq, ty31, ty49, am, seval, reduceCtorEq]
   refine hR8 _ ?_; clear hR8 R8
   refine AWp.cond (t := p l[i]) (by simp only [am, seval, reduceCtorEq]) (fun hp => ?_) (fun hp => ?_)
   ·refine AWp.reg fun R9 hR9 => ?_
    simp only [am, seval, reduceCtorEq]
    refine hR9 _ ?_; clear hR9 R9
    refine AWp.ret ?_
    exact ret_intro (vs := [vint i]) rfl (Wk.refl _) (Heap.le.refl _) ⟨by rw [idx_at hlt hno hp]; rfl, rfl⟩
   ·refine AWp.skip ?_
    refine hK6 _ ?_; clear hK6
    refine AWp.reg1 fun R10 hR10 => ?_
    simp only [ty3, am, seval, reduceCtorEq]
    refine hR10 _ ?_; clear hR10 R10
    refine ⟨i + 1, ⟨⟨hlt, any_take_succ hlt hno hp⟩, by omega⟩, ?_⟩
    refine le_tst ?_ ?_ ?_ (Heap.le.refl _) rfl
    ·simp only [leE, am, seval, reduceCtorEq]; rw [wrap_id (by omega) (by omega)]; simp
    ·simp only [okL, and_self]
    ·simp only [leB]
  ·obtain rfl : i = l.length := eq_of_dec ht hi
   refine AWp.exit ?_
   simp only [exq, seval]
   refine hK2 _ ?_; clear hK2
   refine AWp.reg fun R11 hR11 => ?_
   simp only [am, seval, reduceCtorEq]
   refine hR11 _ ?_; clear hR11 R11
   refine AWp.ret ?_
   exact ret_intro (vs := [vint (-1)]) rfl (Wk.refl _) (Heap.le.refl _) ⟨by rw [idx_none hno]; rfl, rfl⟩
theorem f74_spec (s : Heap) (l : List Term) (p : Term → Bool) (k : FuncId) (cap : List V) (hc : ∀ a ∈ l, GivesAt Tryz.prog k ([] ++ [.agg a.v] ++ cap) s (vbool (p a))) : GivesAt Tryz.prog 74 [.slice 14 (l.map Term.v), .func k [] cap] s (vbool (l.any p)) := by
 have ge : decide (idx p l ≥ 0) = l.any p := idx_ge p l
 refine acalls_of (fn := Tryz.f74) Tryz.func74 rfl (by decide) (by show 2 ≤ 9; decide) ?_
 rw [Tryz.ntmps74]
 refine AWp.reg fun R1 hR1 => ?_
 simp only [am, seval, reduceCtorEq]
 refine hR1 _ ?_; clear hR1 R1
 refine AWp.reg fun R2 hR2 => ?_
 simp only [ty3, am, seval, reduceCtorEq]
 refine (f118_spec s l p k cap hc).mono fun v' s' h => ?_
 rw [h.1, h.2]; clear h v' s'
 simp only [ge, ty3, am, seval, reduceCtorEq]
 refine hR2 _ ?_; clear hR2 R2
 refine AWp.ret ?_
 exact ret_intro (vs := [vbool (l.any p)]) rfl (Wk.refl _) (Heap.le.refl _) ⟨rfl, rfl⟩
theorem f119_spec (s : Heap) (l : List Table) (p : Table → Bool) (k : FuncId) (cap : List V) (hc : ∀ a ∈ l, GivesAt Tryz.prog k ([] ++ [.agg a.v] ++ cap) s (vbool (p a))) : GivesAt Tryz.prog 119 [.slice 3 (l.map Table.v), .func k [] cap] s (vint (idx p l)) := by
 refine acalls_of (fn := Tryz.f119) Tryz.func119 rfl (by decide) (by show 2 ≤ 19; decide) ?_
 rw [Tryz.ntmps119]
 refine AWp.reg fun R1 hR1 => ?_
 simp only [am, seval, reduceCtorEq]
 refine hR1 _ ?_; clear hR1 R1
 refine AWp.seq_k fun K2 hK2 => ?_
 refine AWp.reg fun R3 hR3 => ?_
 simp only [ty22, ty137, am, seval, reduceCtorEq]
 refine hR3 _ ?_; clear hR3 R3
 refine AWp.block ?_
 refine AWp.slen 0 (sz := 3) (es := l.map Table.v) (by simp only [am, seval, reduceCtorEq]) fun hmax => ?_
 have hmx := maxLen_lt; rw [List.length_map] at hmax
 refine AWp.loopT (ι := Nat) (fun i => i ≤ l.length ∧ (l.take i).any p = false) (fun i => tst [(0, .slice 3 (l.map Table.v)), (1, .func k [] cap), (7, vint l.length), (8, vint i)] [] s 19) (fun i => l.length - i) 0 ⟨⟨Nat.zero_le _, by simp⟩, ?_⟩ ?_
 ·refine le_tst ?_ ?_ ?_ (Heap.le.refl _) rfl
  ·simp only [leE, am, seval, reduceCtorEq] <;> simp
  ·simp only [okL, and_self]
  ·simp only [leB]
 ·rintro i ⟨hi, hno⟩
  refine AWp.reg fun R4 hR4 => ?_
  simp only [ty3, am, seval, reduceCtorEq]
  refine hR4 _ ?_; clear hR4 R4
  refine AWp.seq_k fun K5 hK5 => ?_
  refine AWp.cond (t := decide ((i:Int) < l.length)) (by simp only [am, seval, reduceCtorEq]) (fun ht => ?_) (fun ht => ?_)
  ·have hlt : i < l.length := lt_of_dec ht
   have ix0 : (0 ≤ (i : Int)) = True := by simp
   have ix1 : ((i : Int) < (l.length : Int)) = True := by simp [hlt]
   refine AWp.skip ?_
   refine hK5 _ ?_; clear hK5
   refine AWp.seq_k fun K6 hK6 => ?_
   refine AWp.block ?_
   refine AWp.reg fun R7 hR7 => ?_
   simp only [am, seval, reduceCtorEq]
   refine hR7 _ ?_; clear hR7 R7
   refine AWp.reg fun R8 hR8 => ?_
   simp only [ix0, ix1, true_and, getD_map _ _ _ hlt, Table.v_eq, ty22, ty137, am, seval, reduceCtorEq]
   rw [← Table.v_eq]
   refine (hc l[i] (List.getElem_mem hlt)).mono fun v' s' h => ?_
   rw [h.1, h.2]; clear h v' s'
   simp only [vbool, ix0, ix1, true_and, getD_map _ _ _ hlt, Table.v_eq, ty22, ty137, am, seval, reduceCtorEq]
   refine hR8 _ ?_; clear hR8 R8
   refine AWp.cond (t := p l[i]) (by simp only [am, seval, reduceCtorEq]) (fun hp => ?_) (fun hp => ?_)
   ·refine AWp.reg fun R9 hR9 => ?_
    simp only [am, seval, reduceCtorEq]
    refine hR9 _ ?_; clear hR9 R9
    refine AWp.ret ?_
    exact ret_intro (vs := [vint i]) rfl (Wk.refl _) (Heap.le.refl _) ⟨by rw [idx_at hlt hno hp]; rfl, rfl⟩
   ·refine AWp.skip ?_
    refine hK6 _ ?_; clear hK6
    refine AWp.reg1 fun R10 hR10 => ?_
    simp only [ty3, am, seval, reduceCtorEq]
    refine hR10 _ ?_; clear hR10 R10
    refine ⟨i + 1, ⟨⟨hlt, any_take_succ hlt hno hp⟩, by omega⟩, ?_⟩
    refine le_tst ?_ ?_ ?_ (Heap.le.refl _) rfl
    ·simp only [leE, am, seval, reduceCtorEq]; rw [wrap_id (by omega) (by omega)]; simp
    ·simp only [okL, and_self]
    ·simp only [leB]
  ·obtain rfl : i = l.length := eq_of_dec ht hi
   refine AWp.exit ?_
   simp only [exq, seval]
   refine hK2 _ ?_; clear hK2
   refine AWp.reg fun R11 hR11 => ?_
   simp only [am, seval, reduceCtorEq]
   refine hR11 _ ?_; clear hR11 R11
   refine AWp.ret ?_
   exact ret_intro (vs := [vint (-1)]) rfl (Wk.refl _) (Heap.le.refl _) ⟨by rw [idx_none hno]; rfl, rfl⟩
theorem f128_spec (s : Heap) (l : List Index) (p : Index → Bool) (k : FuncId) (cap : List V) (hc : ∀ a ∈ l, GivesAt Tryz.prog k ([] ++ [.agg a.v] ++ cap) s (vbool (p a))) : GivesAt Tryz.prog 128 [.slice 5 (l.map Index.v), .func k [] cap] s (vint (idx p l)) := by
 refine acalls_of (fn := Tryz.f128) Tryz.func128 rfl (by decide) (by show 2 ≤ 19; decide) ?_
 rw [Tryz.ntmps128]
 refine AWp.reg fun R1 hR1 => ?_
 simp only [am, seval, reduceCtorEq]
 refine hR1 _ ?_; clear hR1 R1
 refine AWp.seq_k fun K2 hK2 => ?_
 refine AWp.reg fun R3 hR3 => ?_
 simp only [ty23, ty147, am, seval, reduceCtorEq]
 refine hR3 _ ?_; clear hR3 R3
 refine AWp.block ?_
 refine AWp.slen 0 (sz := 5) (es := l.map Index.v) (by simp only [am, seval, reduceCtorEq]) fun hmax => ?_
 have hmx := maxLen_lt; rw [List.length_map] at hmax
 refine AWp.loopT (ι := Nat) (fun i => i ≤ l.length ∧ (l.take i).any p = false) (fun i => tst [(0, .slice 5 (l.map Index.v)), (1, .func k [] cap), (7, vint l.length), (8, vint i)] [] s 19) (fun i => l.length - i) 0 ⟨⟨Nat.zero_le _, by simp⟩, ?_⟩ ?_
 ·refine le_tst ?_ ?_ ?_ (Heap.le.refl _) rfl
  ·simp only [leE, am, seval, reduceCtorEq] <;> simp
  ·simp only [okL, and_self]
  ·simp only [leB]
 ·rintro i ⟨hi, hno⟩
  refine AWp.reg fun R4 hR4 => ?_
  simp only [ty3, am, seval, reduceCtorEq]
  refine hR4 _ ?_; clear hR4 R4
  refine AWp.seq_k fun K5 hK5 => ?_
  refine AWp.cond (t := decide ((i:Int) < l.length)) (by simp only [am, seval, reduceCtorEq]) (fun ht => ?_) (fun ht => ?_)
  ·have hlt : i < l.length := lt_of_dec ht
   have ix0 : (0 ≤ (i : Int)) = True := by simp
   have ix1 : ((i : Int) < (l.length : Int)) = True := by simp [hlt]
   refine AWp.skip ?_
   refine hK5 _ ?_; clear hK5
   refine AWp.seq_k fun K6 hK6 => ?_
   refine AWp.block ?_
   refine AWp.reg fun R7 hR7 => ?_
   simp only [am, seval, reduceCtorEq]
   refine hR7 _ ?_; clear hR7 R7
   refine AWp.reg fun R8 hR8 => ?_
   simp only [ix0, ix1, true_and, getD_map _ _ _ hlt, Index.v_eq, ty23, ty147, am, seval, reduceCtorEq]
   rw [← Index.v_eq]
   refine (hc l[i] (List.getElem_mem hlt)).mono fun v' s' h => ?_
   rw [h.1, h.2]; clear h v' s'
   simp only [vbool, ix0, ix1, true_and, getD_map _ _ _ hlt, Index.v_eq, ty23, ty147, am, seval, reduceCtorEq]
   refine hR8 _ ?_; clear hR8 R8
   refine AWp.cond (t := p l[i]) (by simp only [am, seval, reduceCtorEq]) (fun hp => ?_) (fun hp => ?_)
   ·refine AWp.reg fun R9 hR9 => ?_
    simp only [am, seval, reduceCtorEq]
    refine hR9 _ ?_; clear hR9 R9
    refine AWp.ret ?_
    exact ret_intro (vs := [vint i]) rfl (Wk.refl _) (Heap.le.refl _) ⟨by rw [idx_at hlt hno hp]; rfl, rfl⟩
   ·refine AWp.skip ?_
    refine hK6 _ ?_; clear hK6
    refine AWp.reg1 fun R10 hR10 => ?_
    simp only [ty3, am, seval, reduceCtorEq]
    refine hR10 _ ?_; clear hR10 R10
    refine ⟨i + 1, ⟨⟨hlt, any_take_succ hlt hno hp⟩, by omega⟩, ?_⟩
    refine le_tst ?_ ?_ ?_ (Heap.le.refl _) rfl
    ·simp only [leE, am, seval, reduceCtorEq]; rw [wrap_id (by omega) (by omega)]; simp
    ·simp only [okL, and_self]
    ·simp only [leB]
  ·obtain rfl : i = l.length := eq_of_dec ht hi
   refine AWp.exit ?_
   simp only [exq, seval]
   refine hK2 _ ?_; clear hK2
   refine AWp.reg fun R11 hR11 => ?_
   simp only [am, seval, reduceCtorEq]
   refine hR11 _ ?_; clear hR11 R11
   refine AWp.ret ?_
   exact ret_intro (vs := [vint (-1)]) rfl (Wk.refl _) (Heap.le.refl _) ⟨by rw [idx_none hno]; rfl, rfl⟩
theorem f149_spec (s : Heap) (l : List Said) (p : Said → Bool) (k : FuncId) (cap : List V) (hc : ∀ a ∈ l, GivesAt Tryz.prog k ([] ++ [.agg a.v] ++ cap) s (vbool (p a))) : GivesAt Tryz.prog 149 [.slice 17 (l.map Said.v), .func k [] cap] s (vint (idx p l)) := by
 refine acalls_of (fn := Tryz.f149) Tryz.func149 rfl (by decide) (by show 2 ≤ 19; decide) ?_
 rw [Tryz.ntmps149]
 refine AWp.reg fun R1 hR1 => ?_
 simp only [am, seval, reduceCtorEq]
 refine hR1 _ ?_; clear hR1 R1
 refine AWp.seq_k fun K2 hK2 => ?_
 refine AWp.reg fun R3 hR3 => ?_
 simp only [ty195, ty197, am, seval, reduceCtorEq]
 refine hR3 _ ?_; clear hR3 R3
 refine AWp.block ?_
 refine AWp.slen 0 (sz := 17) (es := l.map Said.v) (by simp only [am, seval, reduceCtorEq]) fun hmax => ?_
 have hmx := maxLen_lt; rw [List.length_map] at hmax
 refine AWp.loopT (ι := Nat) (fun i => i ≤ l.length ∧ (l.take i).any p = false) (fun i => tst [(0, .slice 17 (l.map Said.v)), (1, .func k [] cap), (7, vint l.length), (8, vint i)] [] s 19) (fun i => l.length - i) 0 ⟨⟨Nat.zero_le _, by simp⟩, ?_⟩ ?_
 ·refine le_tst ?_ ?_ ?_ (Heap.le.refl _) rfl
  ·simp only [leE, am, seval, reduceCtorEq] <;> simp
  ·simp only [okL, and_self]
  ·simp only [leB]
 ·rintro i ⟨hi, hno⟩
  refine AWp.reg fun R4 hR4 => ?_
  simp only [ty3, am, seval, reduceCtorEq]
  refine hR4 _ ?_; clear hR4 R4
  refine AWp.seq_k fun K5 hK5 => ?_
  refine AWp.cond (t := decide ((i:Int) < l.length)) (by simp only [am, seval, reduceCtorEq]) (fun ht => ?_) (fun ht => ?_)
  ·have hlt : i < l.length := lt_of_dec ht
   have ix0 : (0 ≤ (i : Int)) = True := by simp
   have ix1 : ((i : Int) < (l.length : Int)) = True := by simp [hlt]
   refine AWp.skip ?_
   refine hK5 _ ?_; clear hK5
   refine AWp.seq_k fun K6 hK6 => ?_
   refine AWp.block ?_
   refine AWp.reg fun R7 hR7 => ?_
   simp only [am, seval, reduceCtorEq]
   refine hR7 _ ?_; clear hR7 R7
   refine AWp.reg fun R8 hR8 => ?_
   simp only [ix0, ix1, true_and, getD_map _ _ _ hlt, Said.v_eq, ty195, ty197, am, seval, reduceCtorEq]
   rw [← Said.v_eq]
   refine (hc l[i] (List.getElem_mem hlt)).mono fun v' s' h => ?_
   rw [h.1, h.2]; clear h v' s'
   simp only [vbool, ix0, ix1, true_and, getD_map _ _ _ hlt, Said.v_eq, ty195, ty197, am, seval, reduceCtorEq]
   refine hR8 _ ?_; clear hR8 R8
   refine AWp.cond (t := p l[i]) (by simp only [am, seval, reduceCtorEq]) (fun hp => ?_) (fun hp => ?_)
   ·refine AWp.reg fun R9 hR9 => ?_
    simp only [am, seval, reduceCtorEq]
    refine hR9 _ ?_; clear hR9 R9
    refine AWp.ret ?_
    exact ret_intro (vs := [vint i]) rfl (Wk.refl _) (Heap.le.refl _) ⟨by rw [idx_at hlt hno hp]; rfl, rfl⟩
   ·refine AWp.skip ?_
    refine hK6 _ ?_; clear hK6
    refine AWp.reg1 fun R10 hR10 => ?_
    simp only [ty3, am, seval, reduceCtorEq]
    refine hR10 _ ?_; clear hR10 R10
    refine ⟨i + 1, ⟨⟨hlt, any_take_succ hlt hno hp⟩, by omega⟩, ?_⟩
    refine le_tst ?_ ?_ ?_ (Heap.le.refl _) rfl
    ·simp only [leE, am, seval, reduceCtorEq]; rw [wrap_id (by omega) (by omega)]; simp
    ·simp only [okL, and_self]
    ·simp only [leB]
  ·obtain rfl : i = l.length := eq_of_dec ht hi
   refine AWp.exit ?_
   simp only [exq, seval]
   refine hK2 _ ?_; clear hK2
   refine AWp.reg fun R11 hR11 => ?_
   simp only [am, seval, reduceCtorEq]
   refine hR11 _ ?_; clear hR11 R11
   refine AWp.ret ?_
   exact ret_intro (vs := [vint (-1)]) rfl (Wk.refl _) (Heap.le.refl _) ⟨by rw [idx_none hno]; rfl, rfl⟩
theorem f123_spec (s : Heap) (l : List Said) (p : Said → Bool) (k : FuncId) (cap : List V) (hc : ∀ a ∈ l, GivesAt Tryz.prog k ([] ++ [.agg a.v] ++ cap) s (vbool (p a))) : GivesAt Tryz.prog 123 [.slice 17 (l.map Said.v), .func k [] cap] s (vbool (l.any p)) := by
 have ge : decide (idx p l ≥ 0) = l.any p := idx_ge p l
 refine acalls_of (fn := Tryz.f123) Tryz.func123 rfl (by decide) (by show 2 ≤ 9; decide) ?_
 rw [Tryz.ntmps123]
 refine AWp.reg fun R1 hR1 => ?_
 simp only [am, seval, reduceCtorEq]
 refine hR1 _ ?_; clear hR1 R1
 refine AWp.reg fun R2 hR2 => ?_
 simp only [ty3, am, seval, reduceCtorEq]
 refine (f149_spec s l p k cap hc).mono fun v' s' h => ?_
 rw [h.1, h.2]; clear h v' s'
 simp only [ge, ty3, am, seval, reduceCtorEq]
 refine hR2 _ ?_; clear hR2 R2
 refine AWp.ret ?_
 exact ret_intro (vs := [vbool (l.any p)]) rfl (Wk.refl _) (Heap.le.refl _) ⟨rfl, rfl⟩
theorem f72_spec (l : List Int) (v : Int) : Gives Tryz.prog 72 [.slice 1 (l.map (fun x => [vint x])), vint v] (vint (idx (v == ·) l)) := by
 intro s
 refine acalls_of (fn := Tryz.f72) Tryz.func72 rfl (by decide) (by show 2 ≤ 19; decide) ?_
 rw [Tryz.ntmps72]
 refine AWp.reg fun R1 hR1 => ?_
 simp only [am, seval, reduceCtorEq]
 refine hR1 _ ?_; clear hR1 R1
 refine AWp.seq_k fun K2 hK2 => ?_
 refine AWp.reg fun R3 hR3 => ?_
 simp only [ty3, ty50, am, seval, reduceCtorEq]
 refine hR3 _ ?_; clear hR3 R3
 refine AWp.block ?_
 refine AWp.slen 0 (sz := 1) (es := l.map (fun x => [vint x])) (by simp only [am, seval, reduceCtorEq]) fun hmax => ?_
 have hmx := maxLen_lt; rw [List.length_map] at hmax
 refine AWp.loopT (ι := Nat) (fun i => i ≤ l.length ∧ (l.take i).any (v == ·) = false) (fun i => tst [(0, .slice 1 (l.map (fun x => [vint x]))), (1, vint v), (7, vint l.length), (8, vint i)] [] s 19) (fun i => l.length - i) 0 ⟨⟨Nat.zero_le _, by simp⟩, ?_⟩ ?_
 ·refine le_tst ?_ ?_ ?_ (Heap.le.refl _) rfl
  ·simp only [leE, am, seval, reduceCtorEq] <;> simp
  ·simp only [okL, and_self]
  ·simp only [leB]
 ·rintro i ⟨hi, hno⟩
  refine AWp.reg fun R4 hR4 => ?_
  simp only [ty3, am, seval, reduceCtorEq]
  refine hR4 _ ?_; clear hR4 R4
  refine AWp.seq_k fun K5 hK5 => ?_
  refine AWp.cond (t := decide ((i:Int) < l.length)) (by simp only [am, seval, reduceCtorEq]) (fun ht => ?_) (fun ht => ?_)
  ·have hlt : i < l.length := lt_of_dec ht
   have ix0 : (0 ≤ (i : Int)) = True := by simp
   have ix1 : ((i : Int) < (l.length : Int)) = True := by simp [hlt]
   refine AWp.skip ?_
   refine hK5 _ ?_; clear hK5
   refine AWp.seq_k fun K6 hK6 => ?_
   refine AWp.block ?_
   refine AWp.reg fun R7 hR7 => ?_
   simp only [am, seval, reduceCtorEq]
   refine hR7 _ ?_; clear hR7 R7
   refine AWp.reg fun R8 hR8 => ?_
   simp only [ix0, ix1, true_and, getD_map _ _ _ hlt, ty3, ty50, am, seval, reduceCtorEq]
   refine hR8 _ ?_; clear hR8 R8
   refine AWp.cond (t := v == l[i]) (by simp only [am, seval, reduceCtorEq]) (fun hp => ?_) (fun hp => ?_)
   ·refine AWp.reg fun R9 hR9 => ?_
    simp only [am, seval, reduceCtorEq]
    refine hR9 _ ?_; clear hR9 R9
    refine AWp.ret ?_
    exact ret_intro (vs := [vint i]) rfl (Wk.refl _) (Heap.le.refl _) ⟨by rw [idx_at hlt hno hp]; rfl, rfl⟩
   ·refine AWp.skip ?_
    refine hK6 _ ?_; clear hK6
    refine AWp.reg1 fun R10 hR10 => ?_
    simp only [ty3, am, seval, reduceCtorEq]
    refine hR10 _ ?_; clear hR10 R10
    refine ⟨i + 1, ⟨⟨hlt, any_take_succ hlt hno hp⟩, by omega⟩, ?_⟩
    refine le_tst ?_ ?_ ?_ (Heap.le.refl _) rfl
    ·simp only [leE, am, seval, reduceCtorEq]; rw [wrap_id (by omega) (by omega)]; simp
    ·simp only [okL, and_self]
    ·simp only [leB]
  ·obtain rfl : i = l.length := eq_of_dec ht hi
   refine AWp.exit ?_
   simp only [exq, seval]
   refine hK2 _ ?_; clear hK2
   refine AWp.reg fun R11 hR11 => ?_
   simp only [am, seval, reduceCtorEq]
   refine hR11 _ ?_; clear hR11 R11
   refine AWp.ret ?_
   exact ret_intro (vs := [vint (-1)]) rfl (Wk.refl _) (Heap.le.refl _) ⟨by rw [idx_none hno]; rfl, rfl⟩
theorem f47_spec (l : List Int) (v : Int) : Gives Tryz.prog 47 [.slice 1 (l.map (fun x => [vint x])), vint v] (vbool (l.any (v == ·))) := by
 have ge : decide (idx (v == ·) l ≥ 0) = l.any (v == ·) := idx_ge _ l
 intro s
 refine acalls_of (fn := Tryz.f47) Tryz.func47 rfl (by decide) (by show 2 ≤ 9; decide) ?_
 rw [Tryz.ntmps47]
 refine AWp.reg fun R1 hR1 => ?_
 simp only [am, seval, reduceCtorEq]
 refine hR1 _ ?_; clear hR1 R1
 refine AWp.reg fun R2 hR2 => ?_
 simp only [ty3, am, seval, reduceCtorEq]
 refine (f72_spec l v _).mono fun v' s' h => ?_
 rw [h.1, h.2]; clear h v' s'
 simp only [ge, ty3, am, seval, reduceCtorEq]
 refine hR2 _ ?_; clear hR2 R2
 refine AWp.ret ?_
 exact ret_intro (vs := [vbool (l.any (v == ·))]) rfl (Wk.refl _) (Heap.le.refl _) ⟨rfl, rfl⟩
theorem f153_spec (l : List Int) (v : Int) : Gives Tryz.prog 153 [.slice 1 (l.map (fun x => [vint x])), vint v] (vint (idx (v == ·) l)) := by
 intro s
 refine acalls_of (fn := Tryz.f153) Tryz.func153 rfl (by decide) (by show 2 ≤ 19; decide) ?_
 rw [Tryz.ntmps153]
 refine AWp.reg fun R1 hR1 => ?_
 simp only [am, seval, reduceCtorEq]
 refine hR1 _ ?_; clear hR1 R1
 refine AWp.seq_k fun K2 hK2 => ?_
 refine AWp.reg fun R3 hR3 => ?_
 simp only [ty41, ty140, am, seval, reduceCtorEq]
 refine hR3 _ ?_; clear hR3 R3
 refine AWp.block ?_
 refine AWp.slen 0 (sz := 1) (es := l.map (fun x => [vint x])) (by simp only [am, seval, reduceCtorEq]) fun hmax => ?_
 have hmx := maxLen_lt; rw [List.length_map] at hmax
 refine AWp.loopT (ι := Nat) (fun i => i ≤ l.length ∧ (l.take i).any (v == ·) = false) (fun i => tst [(0, .slice 1 (l.map (fun x => [vint x]))), (1, vint v), (7, vint l.length), (8, vint i)] [] s 19) (fun i => l.length - i) 0 ⟨⟨Nat.zero_le _, by simp⟩, ?_⟩ ?_
 ·refine le_tst ?_ ?_ ?_ (Heap.le.refl _) rfl
  ·simp only [leE, am, seval, reduceCtorEq] <;> simp
  ·simp only [okL, and_self]
  ·simp only [leB]
 ·rintro i ⟨hi, hno⟩
  refine AWp.reg fun R4 hR4 => ?_
  simp only [ty3, am, seval, reduceCtorEq]
  refine hR4 _ ?_; clear hR4 R4
  refine AWp.seq_k fun K5 hK5 => ?_
  refine AWp.cond (t := decide ((i:Int) < l.length)) (by simp only [am, seval, reduceCtorEq]) (fun ht => ?_) (fun ht => ?_)
  ·have hlt : i < l.length := lt_of_dec ht
   have ix0 : (0 ≤ (i : Int)) = True := by simp
   have ix1 : ((i : Int) < (l.length : Int)) = True := by simp [hlt]
   refine AWp.skip ?_
   refine hK5 _ ?_; clear hK5
   refine AWp.seq_k fun K6 hK6 => ?_
   refine AWp.block ?_
   refine AWp.reg fun R7 hR7 => ?_
   simp only [am, seval, reduceCtorEq]
   refine hR7 _ ?_; clear hR7 R7
   refine AWp.reg fun R8 hR8 => ?_
   simp only [ix0, ix1, true_and, getD_map _ _ _ hlt, ty41, ty140, am, seval, reduceCtorEq]
   refine hR8 _ ?_; clear hR8 R8
   refine AWp.cond (t := v == l[i]) (by simp only [am, seval, reduceCtorEq]) (fun hp => ?_) (fun hp => ?_)
   ·refine AWp.reg fun R9 hR9 => ?_
    simp only [am, seval, reduceCtorEq]
    refine hR9 _ ?_; clear hR9 R9
    refine AWp.ret ?_
    exact ret_intro (vs := [vint i]) rfl (Wk.refl _) (Heap.le.refl _) ⟨by rw [idx_at hlt hno hp]; rfl, rfl⟩
   ·refine AWp.skip ?_
    refine hK6 _ ?_; clear hK6
    refine AWp.reg1 fun R10 hR10 => ?_
    simp only [ty3, am, seval, reduceCtorEq]
    refine hR10 _ ?_; clear hR10 R10
    refine ⟨i + 1, ⟨⟨hlt, any_take_succ hlt hno hp⟩, by omega⟩, ?_⟩
    refine le_tst ?_ ?_ ?_ (Heap.le.refl _) rfl
    ·simp only [leE, am, seval, reduceCtorEq]; rw [wrap_id (by omega) (by omega)]; simp
    ·simp only [okL, and_self]
    ·simp only [leB]
  ·obtain rfl : i = l.length := eq_of_dec ht hi
   refine AWp.exit ?_
   simp only [exq, seval]
   refine hK2 _ ?_; clear hK2
   refine AWp.reg fun R11 hR11 => ?_
   simp only [am, seval, reduceCtorEq]
   refine hR11 _ ?_; clear hR11 R11
   refine AWp.ret ?_
   exact ret_intro (vs := [vint (-1)]) rfl (Wk.refl _) (Heap.le.refl _) ⟨by rw [idx_none hno]; rfl, rfl⟩
theorem f126_spec (l : List Int) (v : Int) : Gives Tryz.prog 126 [.slice 1 (l.map (fun x => [vint x])), vint v] (vbool (l.any (v == ·))) := by
 have ge : decide (idx (v == ·) l ≥ 0) = l.any (v == ·) := idx_ge _ l
 intro s
 refine acalls_of (fn := Tryz.f126) Tryz.func126 rfl (by decide) (by show 2 ≤ 9; decide) ?_
 rw [Tryz.ntmps126]
 refine AWp.reg fun R1 hR1 => ?_
 simp only [am, seval, reduceCtorEq]
 refine hR1 _ ?_; clear hR1 R1
 refine AWp.reg fun R2 hR2 => ?_
 simp only [ty3, am, seval, reduceCtorEq]
 refine (f153_spec l v _).mono fun v' s' h => ?_
 rw [h.1, h.2]; clear h v' s'
 simp only [ge, ty3, am, seval, reduceCtorEq]
 refine hR2 _ ?_; clear hR2 R2
 refine AWp.ret ?_
 exact ret_intro (vs := [vbool (l.any (v == ·))]) rfl (Wk.refl _) (Heap.le.refl _) ⟨rfl, rfl⟩
end Go.Proofs.YtcckhbconihagaaGreatDoor
