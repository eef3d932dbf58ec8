/- slices.IndexFunc, ContainsFunc, Index, Contains. -/
import Derived.Test.YtcckhbconihagaaGreatDoorVPlData2
set_option linter.unusedSimpArgs false
set_option linter.unusedVariables false
set_option maxRecDepth 100000
namespace Go.Proofs.YtcckhbconihagaaGreatDoor
open Go.Am Go.Pl
theorem f131_spec (s : Heap) (l : List Int) (p : Int → Bool) (k : FuncId) (cap : List V) (hc : ∀ a ∈ l, GivesAt Tryz.prog k ([] ++ [vint a] ++ cap) s (vbool (p a))) : GivesAt Tryz.prog 131 [.slice 1 (l.map (fun x => [vint x])), .func k [] cap] s (vint (idx p l)) := by
 refine acalls_of (fn := Tryz.f131) Tryz.func131 rfl (by decide) (by show 2 ≤ 19; decide) ?_; rw [Tryz.ntmps131]; refine rg fun Z z' => ?_; simp only [am, seval, reduceCtorEq]; refine z' _ ?_; clear z' Z; refine AWp.seq_k fun K2 hK2 => ?_; refine rg fun Z z' => ?_; simp only [amt, seval, reduceCtorEq]; refine z' _ ?_; clear z' Z; refine AWp.block ?_; refine AWp.slen 0 (sz := 1) (es := l.map (fun x => [vint x])) (by simp only [am, seval, reduceCtorEq]) fun hmax => ?_; have hmx := maxLen_lt; rw [List.length_map] at hmax; refine AWp.loopT (ι := Nat) (fun i => i ≤ l.length ∧ (l.take i).any p = false) (fun i => tst [(0, .slice 1 (l.map (fun x => [vint x]))), (1, .func k [] cap), (7, vint l.length), (8, vint i)] [] s 19) (fun i => l.length - i) 0 ⟨⟨Nat.zero_le _, by simp⟩, ?_⟩ ?_
 ·refine lt0 ?_ ?_ ?_
  ·simp only [leE, am, seval, reduceCtorEq] <;> simp
  ·simp only [okL, and_self]
  ·simp only [leB]
 ·rintro i ⟨hi, hno⟩; refine rg fun Z z' => ?_; simp only [amt, seval, reduceCtorEq]; refine z' _ ?_; clear z' Z; refine AWp.seq_k fun K5 hK5 => ?_; refine AWp.cond (t := decide ((i:Int) < l.length)) (by simp only [am, seval, reduceCtorEq]) (fun ht => ?_) (fun ht => ?_)
  ·have hlt : i < l.length := lt_of_dec ht; have ix0 : (0 ≤ (i : Int)) = True := by simp
   have ix1 : ((i : Int) < (l.length : Int)) = True := by simp [hlt]
   refine AWp.skip ?_; refine hK5 _ ?_; clear hK5; refine AWp.seq_k fun K6 hK6 => ?_; refine AWp.block ?_; refine rg fun Z z' => ?_; simp only [am, seval, reduceCtorEq]; refine z' _ ?_; clear z' Z; refine rg fun Z z' => ?_; simp only [ix0, ix1, true_and, getD_map _ _ _ hlt, amt, seval, reduceCtorEq]; refine (hc l[i] (List.getElem_mem hlt)).go ?_; simp only [vbool, ix0, ix1, true_and, getD_map _ _ _ hlt, amt, seval, reduceCtorEq]; refine z' _ ?_; clear z' Z; refine AWp.cond (t := p l[i]) (by simp only [am, seval, reduceCtorEq]) (fun hp => ?_) (fun hp => ?_)
   ·refine rg fun Z z' => ?_; simp only [am, seval, reduceCtorEq]; refine z' _ ?_; clear z' Z; refine AWp.ret ?_; exact rt (vs := [vint i]) rfl ⟨by rw [idx_at hlt hno hp]; rfl, rfl⟩
   ·refine AWp.skip ?_; refine hK6 _ ?_; clear hK6; refine rg1 fun Z z' => ?_; simp only [amt, seval, reduceCtorEq]; refine z' _ ?_; clear z' Z; refine ⟨i + 1, ⟨⟨hlt, any_take_succ hlt hno hp⟩, by omega⟩, ?_⟩; refine lt0 ?_ ?_ ?_
    ·simp only [leE, am, seval, reduceCtorEq]; rw [wrap_id (by omega) (by omega)]; simp
    ·simp only [okL, and_self]
    ·simp only [leB]
  ·obtain rfl : i = l.length := eq_of_dec ht hi; refine AWp.exit ?_; simp only [exq, seval]; refine hK2 _ ?_; clear hK2; refine rg fun Z z' => ?_; simp only [am, seval, reduceCtorEq]; refine z' _ ?_; clear z' Z; refine AWp.ret ?_; exact rt (vs := [vint (-1)]) rfl ⟨by rw [idx_none hno]; rfl, rfl⟩
theorem f82_spec (s : Heap) (l : List Int) (p : Int → Bool) (k : FuncId) (cap : List V) (hc : ∀ a ∈ l, GivesAt Tryz.prog k ([] ++ [vint a] ++ cap) s (vbool (p a))) : GivesAt Tryz.prog 82 [.slice 1 (l.map (fun x => [vint x])), .func k [] cap] s (vbool (l.any p)) := by
 have ge : decide (idx p l ≥ 0) = l.any p := idx_ge p l; refine acalls_of (fn := Tryz.f82) Tryz.func82 rfl (by decide) (by show 2 ≤ 9; decide) ?_; rw [Tryz.ntmps82]; refine rg fun Z z' => ?_; simp only [am, seval, reduceCtorEq]; refine z' _ ?_; clear z' Z; refine rg fun Z z' => ?_; simp only [amt, seval, reduceCtorEq]; refine (f131_spec s l p k cap hc).go ?_; simp only [ge, amt, seval, reduceCtorEq]; refine z' _ ?_; clear z' Z; refine AWp.ret ?_; exact rt (vs := [vbool (l.any p)]) rfl ⟨rfl, rfl⟩
theorem f118_spec (s : Heap) (l : List Term) (p : Term → Bool) (k : FuncId) (cap : List V) (hc : ∀ a ∈ l, GivesAt Tryz.prog k ([] ++ [.agg a.v] ++ cap) s (vbool (p a))) : GivesAt Tryz.prog 118 [.slice 14 (l.map Term.v), .func k [] cap] s (vint (idx p l)) := by
 refine acalls_of (fn := Tryz.f118) Tryz.func118 rfl (by decide) (by show 2 ≤ 19; decide) ?_; rw [Tryz.ntmps118]; refine rg fun Z z' => ?_; simp only [am, seval, reduceCtorEq]; refine z' _ ?_; clear z' Z; refine AWp.seq_k fun K2 hK2 => ?_; refine rg fun Z z' => ?_; simp only [amt, seval, reduceCtorEq]; refine z' _ ?_; clear z' Z; refine AWp.block ?_; refine AWp.slen 0 (sz := 14) (es := l.map Term.v) (by simp only [am, seval, reduceCtorEq]) fun hmax => ?_; have hmx := maxLen_lt; rw [List.length_map] at hmax; refine AWp.loopT (ι := Nat) (fun i => i ≤ l.length ∧ (l.take i).any p = false) (fun i => tst [(0, .slice 14 (l.map Term.v)), (1, .func k [] cap), (7, vint l.length), (8, vint i)] [] s 19) (fun i => l.length - i) 0 ⟨⟨Nat.zero_le _, by simp⟩, ?_⟩ ?_
 ·refine lt0 ?_ ?_ ?_
  ·simp only [leE, am, seval, reduceCtorEq] <;> simp
  ·simp only [okL, and_self]
  ·simp only [leB]
 ·rintro i ⟨hi, hno⟩; refine rg fun Z z' => ?_; simp only [amt, seval, reduceCtorEq]; refine z' _ ?_; clear z' Z; refine AWp.seq_k fun K5 hK5 => ?_; refine AWp.cond (t := decide ((i:Int) < l.length)) (by simp only [am, seval, reduceCtorEq]) (fun ht => ?_) (fun ht => ?_)
  ·have hlt : i < l.length := lt_of_dec ht; have ix0 : (0 ≤ (i : Int)) = True := by simp
   have ix1 : ((i : Int) < (l.length : Int)) = True := by simp [hlt]
   refine AWp.skip ?_; refine hK5 _ ?_; clear hK5; refine AWp.seq_k fun K6 hK6 => ?_; refine AWp.block ?_; refine rg fun Z z' => ?_; simp only [am, seval, reduceCtorEq]; refine z' _ ?_; clear z' Z; refine rg fun Z z' => ?_; simp only [ix0, ix1, true_and, getD_map _ _ _ hlt, Term.v_eq, amt, seval, reduceCtorEq]; rw [← Term.v_eq]; refine (hc l[i] (List.getElem_mem hlt)).go ?_; simp only [vbool, ix0, ix1, true_and, getD_map _ _ _ hlt, Term.v_eq, amt, seval, reduceCtorEq]; refine z' _ ?_; clear z' Z; refine AWp.cond (t := p l[i]) (by simp only [am, seval, reduceCtorEq]) (fun hp => ?_) (fun hp => ?_)
   ·refine rg fun Z z' => ?_; simp only [am, seval, reduceCtorEq]; refine z' _ ?_; clear z' Z; refine AWp.ret ?_; exact rt (vs := [vint i]) rfl ⟨by rw [idx_at hlt hno hp]; rfl, rfl⟩
   ·refine AWp.skip ?_; refine hK6 _ ?_; clear hK6; refine rg1 fun Z z' => ?_; simp only [amt, seval, reduceCtorEq]; refine z' _ ?_; clear z' Z; refine ⟨i + 1, ⟨⟨hlt, any_take_succ hlt hno hp⟩, by omega⟩, ?_⟩; refine lt0 ?_ ?_ ?_
    ·simp only [leE, am, seval, reduceCtorEq]; rw [wrap_id (by omega) (by omega)]; simp
    ·simp only [okL, and_self]
    ·simp only [leB]
  ·obtain rfl : i = l.length := eq_of_dec ht hi; refine AWp.exit ?_; simp only [exq, seval]; refine hK2 _ ?_; clear hK2; refine rg fun Z z' => ?_; simp only [am, seval, reduceCtorEq]; refine z' _ ?_; clear z' Z; refine AWp.ret ?_; exact rt (vs := [vint (-1)]) rfl ⟨by rw [idx_none hno]; rfl, rfl⟩
theorem f74_spec (s : Heap) (l : List Term) (p : Term → Bool) (k : FuncId) (cap : List V) (hc : ∀ a ∈ l, GivesAt Tryz.prog k ([] ++ [.agg a.v] ++ cap) s (vbool (p a))) : GivesAt Tryz.prog 74 [.slice 14 (l.map Term.v), .func k [] cap] s (vbool (l.any p)) := by
 have ge : decide (idx p l ≥ 0) = l.any p := idx_ge p l; refine acalls_of (fn := Tryz.f74) Tryz.func74 rfl (by decide) (by show 2 ≤ 9; decide) ?_; rw [Tryz.ntmps74]; refine rg fun Z z' => ?_; simp only [am, seval, reduceCtorEq]; refine z' _ ?_; clear z' Z; refine rg fun Z z' => ?_; simp only [amt, seval, reduceCtorEq]; refine (f118_spec s l p k cap hc).go ?_; simp only [ge, amt, seval, reduceCtorEq]; refine z' _ ?_; clear z' Z; refine AWp.ret ?_; exact rt (vs := [vbool (l.any p)]) rfl ⟨rfl, rfl⟩
theorem f119_spec (s : Heap) (l : List Table) (p : Table → Bool) (k : FuncId) (cap : List V) (hc : ∀ a ∈ l, GivesAt Tryz.prog k ([] ++ [.agg a.v] ++ cap) s (vbool (p a))) : GivesAt Tryz.prog 119 [.slice 3 (l.map Table.v), .func k [] cap] s (vint (idx p l)) := by
 refine acalls_of (fn := Tryz.f119) Tryz.func119 rfl (by decide) (by show 2 ≤ 19; decide) ?_; rw [Tryz.ntmps119]; refine rg fun Z z' => ?_; simp only [am, seval, reduceCtorEq]; refine z' _ ?_; clear z' Z; refine AWp.seq_k fun K2 hK2 => ?_; refine rg fun Z z' => ?_; simp only [amt, seval, reduceCtorEq]; refine z' _ ?_; clear z' Z; refine AWp.block ?_; refine AWp.slen 0 (sz := 3) (es := l.map Table.v) (by simp only [am, seval, reduceCtorEq]) fun hmax => ?_; have hmx := maxLen_lt; rw [List.length_map] at hmax; refine AWp.loopT (ι := Nat) (fun i => i ≤ l.length ∧ (l.take i).any p = false) (fun i => tst [(0, .slice 3 (l.map Table.v)), (1, .func k [] cap), (7, vint l.length), (8, vint i)] [] s 19) (fun i => l.length - i) 0 ⟨⟨Nat.zero_le _, by simp⟩, ?_⟩ ?_
 ·refine lt0 ?_ ?_ ?_
  ·simp only [leE, am, seval, reduceCtorEq] <;> simp
  ·simp only [okL, and_self]
  ·simp only [leB]
 ·rintro i ⟨hi, hno⟩; refine rg fun Z z' => ?_; simp only [amt, seval, reduceCtorEq]; refine z' _ ?_; clear z' Z; refine AWp.seq_k fun K5 hK5 => ?_; refine AWp.cond (t := decide ((i:Int) < l.length)) (by simp only [am, seval, reduceCtorEq]) (fun ht => ?_) (fun ht => ?_)
  ·have hlt : i < l.length := lt_of_dec ht; have ix0 : (0 ≤ (i : Int)) = True := by simp
   have ix1 : ((i : Int) < (l.length : Int)) = True := by simp [hlt]
   refine AWp.skip ?_; refine hK5 _ ?_; clear hK5; refine AWp.seq_k fun K6 hK6 => ?_; refine AWp.block ?_; refine rg fun Z z' => ?_; simp only [am, seval, reduceCtorEq]; refine z' _ ?_; clear z' Z; refine rg fun Z z' => ?_; simp only [ix0, ix1, true_and, getD_map _ _ _ hlt, Table.v_eq, amt, seval, reduceCtorEq]; rw [← Table.v_eq]; refine (hc l[i] (List.getElem_mem hlt)).go ?_; simp only [vbool, ix0, ix1, true_and, getD_map _ _ _ hlt, Table.v_eq, amt, seval, reduceCtorEq]; refine z' _ ?_; clear z' Z; refine AWp.cond (t := p l[i]) (by simp only [am, seval, reduceCtorEq]) (fun hp => ?_) (fun hp => ?_)
   ·refine rg fun Z z' => ?_; simp only [am, seval, reduceCtorEq]; refine z' _ ?_; clear z' Z; refine AWp.ret ?_; exact rt (vs := [vint i]) rfl ⟨by rw [idx_at hlt hno hp]; rfl, rfl⟩
   ·refine AWp.skip ?_; refine hK6 _ ?_; clear hK6; refine rg1 fun Z z' => ?_; simp only [amt, seval, reduceCtorEq]; refine z' _ ?_; clear z' Z; refine ⟨i + 1, ⟨⟨hlt, any_take_succ hlt hno hp⟩, by omega⟩, ?_⟩; refine lt0 ?_ ?_ ?_
    ·simp only [leE, am, seval, reduceCtorEq]; rw [wrap_id (by omega) (by omega)]; simp
    ·simp only [okL, and_self]
    ·simp only [leB]
  ·obtain rfl : i = l.length := eq_of_dec ht hi; refine AWp.exit ?_; simp only [exq, seval]; refine hK2 _ ?_; clear hK2; refine rg fun Z z' => ?_; simp only [am, seval, reduceCtorEq]; refine z' _ ?_; clear z' Z; refine AWp.ret ?_; exact rt (vs := [vint (-1)]) rfl ⟨by rw [idx_none hno]; rfl, rfl⟩
theorem f128_spec (s : Heap) (l : List Index) (p : Index → Bool) (k : FuncId) (cap : List V) (hc : ∀ a ∈ l, GivesAt Tryz.prog k ([] ++ [.agg a.v] ++ cap) s (vbool (p a))) : GivesAt Tryz.prog 128 [.slice 5 (l.map Index.v), .func k [] cap] s (vint (idx p l)) := by
 refine acalls_of (fn := Tryz.f128) Tryz.func128 rfl (by decide) (by show 2 ≤ 19; decide) ?_; rw [Tryz.ntmps128]; refine rg fun Z z' => ?_; simp only [am, seval, reduceCtorEq]; refine z' _ ?_; clear z' Z; refine AWp.seq_k fun K2 hK2 => ?_; refine rg fun Z z' => ?_; simp only [amt, seval, reduceCtorEq]; refine z' _ ?_; clear z' Z; refine AWp.block ?_; refine AWp.slen 0 (sz := 5) (es := l.map Index.v) (by simp only [am, seval, reduceCtorEq]) fun hmax => ?_; have hmx := maxLen_lt; rw [List.length_map] at hmax; refine AWp.loopT (ι := Nat) (fun i => i ≤ l.length ∧ (l.take i).any p = false) (fun i => tst [(0, .slice 5 (l.map Index.v)), (1, .func k [] cap), (7, vint l.length), (8, vint i)] [] s 19) (fun i => l.length - i) 0 ⟨⟨Nat.zero_le _, by simp⟩, ?_⟩ ?_
 ·refine lt0 ?_ ?_ ?_
  ·simp only [leE, am, seval, reduceCtorEq] <;> simp
  ·simp only [okL, and_self]
  ·simp only [leB]
 ·rintro i ⟨hi, hno⟩; refine rg fun Z z' => ?_; simp only [amt, seval, reduceCtorEq]; refine z' _ ?_; clear z' Z; refine AWp.seq_k fun K5 hK5 => ?_; refine AWp.cond (t := decide ((i:Int) < l.length)) (by simp only [am, seval, reduceCtorEq]) (fun ht => ?_) (fun ht => ?_)
  ·have hlt : i < l.length := lt_of_dec ht; have ix0 : (0 ≤ (i : Int)) = True := by simp
   have ix1 : ((i : Int) < (l.length : Int)) = True := by simp [hlt]
   refine AWp.skip ?_; refine hK5 _ ?_; clear hK5; refine AWp.seq_k fun K6 hK6 => ?_; refine AWp.block ?_; refine rg fun Z z' => ?_; simp only [am, seval, reduceCtorEq]; refine z' _ ?_; clear z' Z; refine rg fun Z z' => ?_; simp only [ix0, ix1, true_and, getD_map _ _ _ hlt, Index.v_eq, amt, seval, reduceCtorEq]; rw [← Index.v_eq]; refine (hc l[i] (List.getElem_mem hlt)).go ?_; simp only [vbool, ix0, ix1, true_and, getD_map _ _ _ hlt, Index.v_eq, amt, seval, reduceCtorEq]; refine z' _ ?_; clear z' Z; refine AWp.cond (t := p l[i]) (by simp only [am, seval, reduceCtorEq]) (fun hp => ?_) (fun hp => ?_)
   ·refine rg fun Z z' => ?_; simp only [am, seval, reduceCtorEq]; refine z' _ ?_; clear z' Z; refine AWp.ret ?_; exact rt (vs := [vint i]) rfl ⟨by rw [idx_at hlt hno hp]; rfl, rfl⟩
   ·refine AWp.skip ?_; refine hK6 _ ?_; clear hK6; refine rg1 fun Z z' => ?_; simp only [amt, seval, reduceCtorEq]; refine z' _ ?_; clear z' Z; refine ⟨i + 1, ⟨⟨hlt, any_take_succ hlt hno hp⟩, by omega⟩, ?_⟩; refine lt0 ?_ ?_ ?_
    ·simp only [leE, am, seval, reduceCtorEq]; rw [wrap_id (by omega) (by omega)]; simp
    ·simp only [okL, and_self]
    ·simp only [leB]
  ·obtain rfl : i = l.length := eq_of_dec ht hi; refine AWp.exit ?_; simp only [exq, seval]; refine hK2 _ ?_; clear hK2; refine rg fun Z z' => ?_; simp only [am, seval, reduceCtorEq]; refine z' _ ?_; clear z' Z; refine AWp.ret ?_; exact rt (vs := [vint (-1)]) rfl ⟨by rw [idx_none hno]; rfl, rfl⟩
theorem f72_spec (l : List Int) (v : Int) : Gives Tryz.prog 72 [.slice 1 (l.map (fun x => [vint x])), vint v] (vint (idx (v == ·) l)) := by
 intro s; refine acalls_of (fn := Tryz.f72) Tryz.func72 rfl (by decide) (by show 2 ≤ 19; decide) ?_; rw [Tryz.ntmps72]; refine rg fun Z z' => ?_; simp only [am, seval, reduceCtorEq]; refine z' _ ?_; clear z' Z; refine AWp.seq_k fun K2 hK2 => ?_; refine rg fun Z z' => ?_; simp only [amt, seval, reduceCtorEq]; refine z' _ ?_; clear z' Z; refine AWp.block ?_; refine AWp.slen 0 (sz := 1) (es := l.map (fun x => [vint x])) (by simp only [am, seval, reduceCtorEq]) fun hmax => ?_; have hmx := maxLen_lt; rw [List.length_map] at hmax; refine AWp.loopT (ι := Nat) (fun i => i ≤ l.length ∧ (l.take i).any (v == ·) = false) (fun i => tst [(0, .slice 1 (l.map (fun x => [vint x]))), (1, vint v), (7, vint l.length), (8, vint i)] [] s 19) (fun i => l.length - i) 0 ⟨⟨Nat.zero_le _, by simp⟩, ?_⟩ ?_
 ·refine lt0 ?_ ?_ ?_
  ·simp only [leE, am, seval, reduceCtorEq] <;> simp
  ·simp only [okL, and_self]
  ·simp only [leB]
 ·rintro i ⟨hi, hno⟩; refine rg fun Z z' => ?_; simp only [amt, seval, reduceCtorEq]; refine z' _ ?_; clear z' Z; refine AWp.seq_k fun K5 hK5 => ?_; refine AWp.cond (t := decide ((i:Int) < l.length)) (by simp only [am, seval, reduceCtorEq]) (fun ht => ?_) (fun ht => ?_)
  ·have hlt : i < l.length := lt_of_dec ht; have ix0 : (0 ≤ (i : Int)) = True := by simp
   have ix1 : ((i : Int) < (l.length : Int)) = True := by simp [hlt]
   refine AWp.skip ?_; refine hK5 _ ?_; clear hK5; refine AWp.seq_k fun K6 hK6 => ?_; refine AWp.block ?_; refine rg fun Z z' => ?_; simp only [am, seval, reduceCtorEq]; refine z' _ ?_; clear z' Z; refine rg fun Z z' => ?_; simp only [ix0, ix1, true_and, getD_map _ _ _ hlt, amt, seval, reduceCtorEq]; refine z' _ ?_; clear z' Z; refine AWp.cond (t := v == l[i]) (by simp only [am, seval, reduceCtorEq]) (fun hp => ?_) (fun hp => ?_)
   ·refine rg fun Z z' => ?_; simp only [am, seval, reduceCtorEq]; refine z' _ ?_; clear z' Z; refine AWp.ret ?_; exact rt (vs := [vint i]) rfl ⟨by rw [idx_at hlt hno hp]; rfl, rfl⟩
   ·refine AWp.skip ?_; refine hK6 _ ?_; clear hK6; refine rg1 fun Z z' => ?_; simp only [amt, seval, reduceCtorEq]; refine z' _ ?_; clear z' Z; refine ⟨i + 1, ⟨⟨hlt, any_take_succ hlt hno hp⟩, by omega⟩, ?_⟩; refine lt0 ?_ ?_ ?_
    ·simp only [leE, am, seval, reduceCtorEq]; rw [wrap_id (by omega) (by omega)]; simp
    ·simp only [okL, and_self]
    ·simp only [leB]
  ·obtain rfl : i = l.length := eq_of_dec ht hi; refine AWp.exit ?_; simp only [exq, seval]; refine hK2 _ ?_; clear hK2; refine rg fun Z z' => ?_; simp only [am, seval, reduceCtorEq]; refine z' _ ?_; clear z' Z; refine AWp.ret ?_; exact rt (vs := [vint (-1)]) rfl ⟨by rw [idx_none hno]; rfl, rfl⟩
theorem f47_spec (l : List Int) (v : Int) : Gives Tryz.prog 47 [.slice 1 (l.map (fun x => [vint x])), vint v] (vbool (l.any (v == ·))) := by
 have ge : decide (idx (v == ·) l ≥ 0) = l.any (v == ·) := idx_ge _ l
 intro s; refine acalls_of (fn := Tryz.f47) Tryz.func47 rfl (by decide) (by show 2 ≤ 9; decide) ?_; rw [Tryz.ntmps47]; refine rg fun Z z' => ?_; simp only [am, seval, reduceCtorEq]; refine z' _ ?_; clear z' Z; refine rg fun Z z' => ?_; simp only [amt, seval, reduceCtorEq]; refine (f72_spec l v _).go ?_; simp only [ge, amt, seval, reduceCtorEq]; refine z' _ ?_; clear z' Z; refine AWp.ret ?_; exact rt (vs := [vbool (l.any (v == ·))]) rfl ⟨rfl, rfl⟩
end Go.Proofs.YtcckhbconihagaaGreatDoor
