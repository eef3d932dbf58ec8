/- The reference's Natural, Better, Good -/
import Derived.Test.YtcckhbconihagaaGreatDoorV12
import Derived.Test.YtcckhbconihagaaGreatDoorV18
set_option linter.unusedSimpArgs false
set_option linter.unusedVariables false
set_option maxRecDepth 100000
namespace Go.Proofs.YtcckhbconihagaaGreatDoor
open Go.Am Go.Pl
theorem Step.v_kind (x : Step) : x.v[1]? = some (vint x.kind) := by rw [Step.v_eq]; rfl
theorem natAhead_len : ∀ n, (natAhead n).length ≤ n
 | 0 => Nat.le_refl _
 | n + 1 => by
  have h := natAhead_len n
  have : (natAhead n).any ((n : Int) == ·) = false := by
   cases hq : (natAhead n).any ((n : Int) == ·) with
   | false => rfl
   | true => have := (mem_natAhead n n).1 (any_mem.1 hq); omega
  rw [natAhead, len_put_new _ _ this]; omega
theorem natural_no {a : Arm} {i : Nat} (h : i < a.frm.length) (hr : ready a (i : Int) (natAhead i) = false) : natural a = false := by
 unfold natural
 cases hn : natReady a a.frm.length with
 | false => rfl
 | true => rw [natReady_at _ hn i h] at hr; cases hr
theorem better_at {s : Schema} {a : Arm} {k : Int} {ahead : List Int} {i : Nat} {x : Said} (h : i < (usable a k).length) (hx : (usable a k)[i] = x) (ho : (x.op == 13) = true) (hp : (pathOk s a k (eqP x.fin) ahead || s.indexes.any fun i => pathOk s a k (ixP i.name x.fin) ahead) = true) : better s a k ahead = true := by
 unfold better
 exact any_at h (by rw [hx, ho, hp]; rfl)
theorem xok_one {k : Int} {n : ByteArray} {t : Term} (h : t.w ≤ 274945015808) : XOk ⟨k, n, [t], [], []⟩ :=
 ⟨fun e he => by rw [List.mem_singleton.1 he]; exact h, fun e he => by simp at he, fun e he => by simp at he, ⟨by simp, by simp, by simp⟩⟩
theorem op_ne {x : Said} (h : (x.op != 13) = true) : (x.op == 13) = false := by simpa using h
theorem op_eq {x : Said} (h : (x.op != 13) = false) : (x.op == 13) = true := by simpa using h
theorem f70_spec (a : Arm) (ha : PArm a) (hra : RArmOk a) (hfl : a.frm.length ≤ 274945015808) (hwl : a.whr.length ≤ 2^42) : Gives Tryz.prog 70 [.agg a.v] (vbool (natural a)) := by
 intro s; refine acalls_of (fn := Tryz.f70) Tryz.func70 rfl (by decide) (by show 1 ≤ 36; decide) ?_; rw [Tryz.ntmps70]; refine rg fun Z z' => ?_; simp only [avs, amt, seval, reduceCtorEq]; refine z' _ ?_; clear z' Z; refine rg fun Z z' => ?_; simp only [am, seval, reduceCtorEq]; refine z' _ ?_; clear z' Z; refine AWp.seq_k fun K3 hK3 => ?_; refine rg fun Z z' => ?_; simp only [am, seval, reduceCtorEq]; refine z' _ ?_; clear z' Z; refine AWp.block ?_; refine AWp.wkE 3 (vints []) (by simp only [isLoc, am, seval, reduceCtorEq]) (by simp only [am, seval, reduceCtorEq]; exact Wk.nil 1) ?_; refine AWp.loopT (ι := Nat) (fun i => i ≤ a.frm.length ∧ natReady a i = true) (fun i => tst [(1, .loc 1 0), (3, vints (natAhead i)), (4, vint i)] [(1, (a.v, 75))] s 36) (fun i => a.frm.length - i) 0 ⟨⟨Nat.zero_le _, rfl⟩, ?_⟩ ?_
 ·refine lt0 ?_ ?_ ?_
  ·simp only [leE, natAhead, am, seval, reduceCtorEq] <;> simp
  ·simp only [oks, Nat.reduceBEq]
  ·simp only [leB, natAhead, am, seval, reduceCtorEq]
 ·rintro i ⟨hi, hno⟩; refine AWp.seq_k fun K5 hK5 => ?_; refine rg fun Z z' => ?_; simp only [avs, amt, seval, reduceCtorEq]; refine z' _ ?_; clear z' Z; refine AWp.cond (t := decide ((i:Int) < (a.frm.length : Nat))) (by simp only [am, seval, reduceCtorEq]) (fun ht => ?_) (fun ht => ?_)
  ·have hlt : i < a.frm.length := lt_of_dec ht; have ix0 : (0 ≤ (i : Int)) = True := by simp
   have ix1 : ((i : Int) < ((a.frm.length : Nat) : Int)) = True := by simp [hlt]
   have hnl := natAhead_len i; refine AWp.skip ?_; refine hK5 _ ?_; clear hK5; refine AWp.seq_k fun K7 hK7 => ?_; refine AWp.block ?_; refine AWp.seq_k fun K8 hK8 => ?_; refine rg fun Z z' => ?_; simp only [avs, amt, seval, reduceCtorEq]; refine (f87_spec a (i : Int) (by omega) (by omega) (natAhead i) (by omega) (ha.on _ (by omega) (by omega)) (hra.onl _ (by omega) (by omega)) _).go ?_; simp only [avs, amt, seval, reduceCtorEq]; refine z' _ ?_; clear z' Z; refine AWp.condK fun C1 C2 hC1 hC2 => ?_; simp only [condP, am, seval, reduceCtorEq]; refine ⟨fun hc17 => hC1 ?_, fun hc17 => hC2 ?_⟩ <;> clear hC1 hC2 C1 C2
   ·refine rg fun Z z' => ?_; simp only [am, seval, reduceCtorEq]; refine z' _ ?_; clear z' Z; refine AWp.ret ?_; refine rt (by show resV Tryz.prog _ [.tmp 2] = _; simp only [resV, am, seval, reduceCtorEq]; rfl) ⟨?_, rfl⟩; simp only [oneV]; rw [natural_no hlt (nt hc17)]
   ·refine AWp.skip ?_; refine hK8 _ ?_; clear hK8; refine rg1 fun Z z' => ?_; simp only [am, seval, reduceCtorEq]; refine (f28_spec (natAhead i) (i : Int) (by omega) _).go ?_; simp only [am, seval, reduceCtorEq]; refine z' _ ?_; clear z' Z; refine hK7 _ ?_; clear hK7; refine rg1 fun Z z' => ?_; simp only [amt, seval, reduceCtorEq]; refine z' _ ?_; clear z' Z; refine ⟨i + 1, ⟨⟨hlt, by rw [natReady, hno, nf hc17]; rfl⟩, by omega⟩, ?_⟩; refine lt0 ?_ ?_ ?_
    ·simp only [leE, natAhead, am, seval, reduceCtorEq]; rw [wrap_id (by omega) (by omega)]; simp
    ·simp only [oks, Nat.reduceBEq]
    ·simp only [leB, natAhead, am, seval, reduceCtorEq]
  ·obtain rfl : i = a.frm.length := eq_of_dec ht hi; refine AWp.exit ?_; simp only [exq, seval]; refine hK3 _ ?_; clear hK3; refine AWp.seq_k fun K13 hK13 => ?_; refine rg fun Z z' => ?_; simp only [am, seval, reduceCtorEq]; refine z' _ ?_; clear z' Z; refine AWp.block ?_; have hwl : a.whr.length ≤ 2^42 := hwl; refine AWp.loopT (ι := Nat) (fun j => j ≤ a.whr.length ∧ (a.whr.take j).any (fun t => !within t (natAhead a.frm.length)) = false) (fun j => tst [(1, .loc 1 0), (3, vints (natAhead a.frm.length)), (5, vint j)] [(1, (a.v, 75))] s 36) (fun j => a.whr.length - j) 0 ⟨⟨Nat.zero_le _, by simp⟩, ?_⟩ ?_
   ·refine lt0 ?_ ?_ ?_
    ·simp only [leE, am, seval, reduceCtorEq] <;> simp
    ·simp only [oks, Nat.reduceBEq]
    ·simp only [leB, am, seval, reduceCtorEq]
   ·rintro j ⟨hij, hnoj⟩; refine AWp.seq_k fun K15 hK15 => ?_; refine rg fun Z z' => ?_; simp only [avs, amt, seval, reduceCtorEq]; refine z' _ ?_; clear z' Z; refine AWp.cond (t := decide ((j:Int) < (a.whr.length : Nat))) (by simp only [am, seval, reduceCtorEq]) (fun htj => ?_) (fun htj => ?_)
    ·have hltj : j < a.whr.length := lt_of_dec htj; have ix0j : (0 ≤ (j : Int)) = True := by simp
     have ix1j : ((j : Int) < ((a.whr.length : Nat) : Int)) = True := by simp [hltj]
     obtain ⟨t, ht0⟩ : ∃ t, a.whr[j] = t := ⟨_, rfl⟩; have hgt : (a.whr.map Term.v).getD (j : Int).toNat [] = t.v := by rw [getD_map _ _ _ hltj, ht0]
     have htw := ha.whr t (by rw [← ht0]; exact List.getElem_mem hltj); refine AWp.skip ?_; refine hK15 _ ?_; clear hK15; refine AWp.seq_k fun K17 hK17 => ?_; refine AWp.block ?_; refine rg fun Z z' => ?_; simp only [avs, tvs, ix0j, ix1j, true_and, hgt, amt, seval, reduceCtorEq]; refine (f89_spec t htw (natAhead a.frm.length) _).go ?_; simp only [avs, tvs, ix0j, ix1j, true_and, hgt, amt, seval, reduceCtorEq]; refine z' _ ?_; clear z' Z; refine AWp.condK fun C1 C2 hC1 hC2 => ?_; simp only [condP, am, seval, reduceCtorEq]; refine ⟨fun hc35 => hC1 ?_, fun hc35 => hC2 ?_⟩ <;> clear hC1 hC2 C1 C2
     ·refine rg fun Z z' => ?_; simp only [am, seval, reduceCtorEq]; refine z' _ ?_; clear z' Z; refine AWp.ret ?_; refine rt (by show resV Tryz.prog _ [.tmp 2] = _; simp only [resV, am, seval, reduceCtorEq]; rfl) ⟨?_, rfl⟩; simp only [oneV]; unfold natural; rw [any_at hltj (p := fun t => !within t (natAhead a.frm.length)) (by rw [ht0, nt hc35]; rfl)]; simp
     ·refine AWp.skip ?_; refine hK17 _ ?_; clear hK17; refine rg1 fun Z z' => ?_; simp only [amt, seval, reduceCtorEq]; refine z' _ ?_; clear z' Z; refine ⟨j + 1, ⟨⟨hltj, any_take_succ hltj hnoj (by rw [ht0, nf hc35]; rfl)⟩, by omega⟩, ?_⟩; refine lt0 ?_ ?_ ?_
      ·simp only [leE, am, seval, reduceCtorEq]; rw [wrap_id (by omega) (by omega)]; simp
      ·simp only [oks, Nat.reduceBEq]
      ·simp only [leB, am, seval, reduceCtorEq]
    ·obtain rfl : j = a.whr.length := eq_of_dec htj hij; refine AWp.exit ?_; simp only [exq, seval]; refine hK13 _ ?_; clear hK13; refine rg fun Z z' => ?_; simp only [am, seval, reduceCtorEq]; refine z' _ ?_; clear z' Z; refine AWp.ret ?_; refine rt (by show resV Tryz.prog _ [.tmp 2] = _; simp only [resV, am, seval, reduceCtorEq]; rfl) ⟨?_, rfl⟩; simp only [oneV]; unfold natural; rw [hno, any_end hnoj]; rfl
theorem f71_spec (sc : Schema) (hs : SchOk sc) (hns : ∀ t ∈ sc.tables, t.name.size ≤ 550024249344) (hil : sc.indexes.length ≤ 2^42) (a : Arm) (k : Int) (hk0 : 0 ≤ k) (hk1 : k < ((a.frm.length : Nat) : Int)) (hu : UOk a k) (hnm : (a.src k).name.size ≤ 550024249344) (hfw : ∀ x ∈ usable a k, x.fin.w ≤ 274945015808) (ahead : List Int) : Gives Tryz.prog 71 [.agg sc.v, .agg a.v, vint k, vints ahead] (vbool (better sc a k ahead)) := by
 have hs1 := hs.1; intro s; refine acalls_of (fn := Tryz.f71) Tryz.func71 rfl (by decide) (by show 4 ≤ 61; decide) ?_; rw [Tryz.ntmps71]; refine rg fun Z z' => ?_; simp only [avs, Sch.v_all hs1, Sch.v_len, Sch.v_take, Sch.v_idx, amt, seval, reduceCtorEq]; refine z' _ ?_; clear z' Z; refine rg fun Z z' => ?_; simp only [avs, amt, seval, reduceCtorEq]; refine (f117_spec a k hk0 hk1 hu _).go ?_; simp only [avs, amt, seval, reduceCtorEq]; refine z' _ ?_; clear z' Z; refine AWp.seq_k fun K3 hK3 => ?_; refine rg fun Z z' => ?_; simp only [am, seval, reduceCtorEq]; refine z' _ ?_; clear z' Z; refine AWp.block ?_; obtain ⟨U, hU⟩ : ∃ U, usable a k = U := ⟨_, rfl⟩; rw [hU] at hfw ⊢; refine AWp.slen 9 (sz := 17) (es := U.map Said.v) (by simp only [am, seval, reduceCtorEq]) fun hmax => ?_; have hmx := maxLen_lt; (try rw [List.length_map] at hmax); refine AWp.loopT (ι := Nat) (fun i => i ≤ U.length ∧ (U.take i).any (fun x => ((x.op == 13) && (pathOk sc a k (eqP x.fin) ahead || sc.indexes.any fun i => pathOk sc a k (ixP i.name x.fin) ahead))) = false) (fun i => tst [(2, vint k), (3, vints ahead), (4, .loc 4 0), (5, .loc 5 0), (9, .slice 17 (U.map Said.v)), (10, vint i)] [(4, (sc.v, 26)), (5, (a.v, 75))] s 61) (fun i => U.length - i) 0 ⟨⟨Nat.zero_le _, by simp⟩, ?_⟩ ?_
 ·refine lt0 ?_ ?_ ?_
  ·simp only [leE, am, seval, reduceCtorEq] <;> simp
  ·simp only [oks, Nat.reduceBEq]
  ·simp only [leB, am, seval, reduceCtorEq]
 ·rintro i ⟨hi, hno⟩; refine AWp.seq_k fun K5 hK5 => ?_; refine rg fun Z z' => ?_; simp only [amt, seval, reduceCtorEq]; refine z' _ ?_; clear z' Z; refine AWp.cond (t := decide ((i:Int) < (U.length : Nat))) (by simp only [am, seval, reduceCtorEq]) (fun ht => ?_) (fun ht => ?_)
  ·have hlt : i < U.length := lt_of_dec ht; have ix0 : (0 ≤ (i : Int)) = True := by simp
   have ix1 : ((i : Int) < ((U.length : Nat) : Int)) = True := by simp [hlt]
   obtain ⟨x, hx0⟩ : ∃ x, U[i] = x := ⟨_, rfl⟩; have hgx : (U.map Said.v).getD (i : Int).toNat [] = x.v := by rw [getD_map _ _ _ hlt, hx0]
   have hxw := hfw x (by rw [← hx0]; exact List.getElem_mem hlt); have hun : i < (usable a k).length := by rw [hU]; exact hlt
   have hux : (usable a k)[i] = x := by simp only [hU, hx0]
   refine AWp.skip ?_; refine hK5 _ ?_; clear hK5; refine AWp.seq_k fun K7 hK7 => ?_; refine AWp.block ?_; refine AWp.seq_k fun K8 hK8 => ?_; refine rg fun Z z' => ?_; simp only [svs, tvs, ix0, ix1, true_and, hgx, amt, seval, reduceCtorEq]; refine z' _ ?_; clear z' Z; refine AWp.condK fun C1 C2 hC1 hC2 => ?_; simp only [condP, am, seval, reduceCtorEq]; refine ⟨fun hc27 => hC1 ?_, fun hc27 => hC2 ?_⟩ <;> clear hC1 hC2 C1 C2
   ·refine AWp.exit ?_; simp only [exq, seval]; refine hK7 _ ?_; clear hK7; refine rg1 fun Z z' => ?_; simp only [amt, seval, reduceCtorEq]; refine z' _ ?_; clear z' Z; refine ⟨i + 1, ⟨⟨hlt, any_take_succ hlt hno (by rw [hx0, op_ne hc27]; rfl)⟩, by omega⟩, ?_⟩; refine lt0 ?_ ?_ ?_
    ·simp only [leE, am, seval, reduceCtorEq]; rw [wrap_id (by omega) (by omega)]; simp
    ·simp only [oks, Nat.reduceBEq]
    ·simp only [leB, am, seval, reduceCtorEq]
   ·refine AWp.skip ?_; refine hK8 _ ?_; clear hK8; refine rg fun Z z' => ?_; simp only [svs, tvs, ix0, ix1, true_and, hgx, amt, seval, reduceCtorEq]; refine z' _ ?_; clear z' Z; refine AWp.seq_k fun K12 hK12 => ?_; refine rg fun Z z' => ?_; simp only [avs, Sch.v_all hs1, Sch.v_len, Sch.v_take, Sch.v_idx, tvs, amt, seval, reduceCtorEq]; refine ACalls.wk (args' := [.agg sc.v, .agg a.v, vint k, .agg (eqP x.fin).v, vints ahead]) ⟨Wk.refl _, Wk.refl _, Wk.refl _, Wk.agg ⟨Wk.refl _, Wk.refl _, Wk.refl _, Wk.nil _, Wk.nil _, trivial⟩, Wk.refl _, trivial⟩ ?_; refine (f88_spec sc hs hns hil a k hk0 hk1 hu hnm (eqP x.fin) (xok_one hxw) ahead _).go ?_; simp only [avs, Sch.v_all hs1, Sch.v_len, Sch.v_take, Sch.v_idx, tvs, amt, seval, reduceCtorEq]; refine z' _ ?_; clear z' Z; refine AWp.condK fun C1 C2 hC1 hC2 => ?_; simp only [condP, hc27, am, seval, reduceCtorEq]; refine ⟨fun hc40 => hC1 ?_, fun hc40 => hC2 ?_⟩ <;> clear hC1 hC2 C1 C2
    ·refine rg fun Z z' => ?_; simp only [am, seval, reduceCtorEq]; refine z' _ ?_; clear z' Z; refine AWp.ret ?_; refine rt (by show resV Tryz.prog _ [.tmp 8] = _; simp only [resV, am, seval, reduceCtorEq]; rfl) ⟨?_, rfl⟩; simp only [oneV]; rw [better_at hun hux (op_eq hc27) (by rw [hc40]; rfl)]
    ·refine AWp.skip ?_; refine hK12 _ ?_; clear hK12; refine rg fun Z z' => ?_; simp only [am, seval, reduceCtorEq]; refine z' _ ?_; clear z' Z; refine AWp.block ?_; refine AWp.loopT (ι := Nat) (fun j => j ≤ sc.indexes.length ∧ (sc.indexes.take j).any (fun i => pathOk sc a k (ixP i.name x.fin) ahead) = false) (fun j => tst [(2, vint k), (3, vints ahead), (4, .loc 4 0), (5, .loc 5 0), (9, .slice 17 (U.map Said.v)), (10, vint i), (11, .slice 14 [x.fin.v]), (12, vint j)] [(4, (sc.v, 26)), (5, (a.v, 75))] s 61) (fun j => sc.indexes.length - j) 0 ⟨⟨Nat.zero_le _, by simp⟩, ?_⟩ ?_
     ·refine lt0 ?_ ?_ ?_
      ·simp only [leE, am, seval, reduceCtorEq] <;> simp
      ·simp only [oks, Nat.reduceBEq]
      ·simp only [leB, am, seval, reduceCtorEq]
     ·rintro j ⟨hij, hnoj⟩; refine AWp.seq_k fun K16 hK16 => ?_; refine rg fun Z z' => ?_; simp only [Sch.v_all hs1, Sch.v_len, Sch.v_take, Sch.v_idx, amt, seval, reduceCtorEq]; refine z' _ ?_; clear z' Z; refine AWp.cond (t := decide ((j:Int) < (sc.indexes.length : Nat))) (by simp only [am, seval, reduceCtorEq]) (fun htj => ?_) (fun htj => ?_)
      ·have hltj : j < sc.indexes.length := lt_of_dec htj; have ix0j : (0 ≤ (j : Int)) = True := by simp
       have ix1j : ((j : Int) < ((sc.indexes.length : Nat) : Int)) = True := by simp [hltj]
       obtain ⟨z, hz0⟩ : ∃ z, sc.indexes[j] = z := ⟨_, rfl⟩; have hgi : (sc.indexes.map Index.v).getD (j : Int).toNat [] = z.v := by rw [getD_map _ _ _ hltj, hz0]
       refine AWp.skip ?_; refine hK16 _ ?_; clear hK16; refine AWp.seq_k fun K18 hK18 => ?_; refine AWp.block ?_; refine AWp.regL mixed [0, 1, 2, 3, 4, 5, 6, 7, 8, 9, 10, 11, 12] (by decide +kernel) [99999] (by decide +kernel) fun Z z' => ?_; simp only [avs, Sch.v_all hs1, Sch.v_len, Sch.v_take, Sch.v_idx, ix0j, ix1j, true_and, hgi, Index.v_eq, aml, Nat.reduceBEq, amt, seval, reduceCtorEq]; refine ACalls.wk (args' := [.agg sc.v, .agg a.v, vint k, .agg (ixP z.name x.fin).v, vints ahead]) ⟨Wk.refl _, Wk.refl _, Wk.refl _, Wk.agg ⟨Wk.refl _, Wk.refl _, Wk.refl _, Wk.nil _, Wk.nil _, trivial⟩, Wk.refl _, trivial⟩ ?_; refine (f88_spec sc hs hns hil a k hk0 hk1 hu hnm (ixP z.name x.fin) (xok_one hxw) ahead _).go ?_; simp only [avs, Sch.v_all hs1, Sch.v_len, Sch.v_take, Sch.v_idx, ix0j, ix1j, true_and, hgi, Index.v_eq, aml, Nat.reduceBEq, amt, seval, reduceCtorEq]; refine z' _ ?_; clear z' Z; refine AWp.condK fun C1 C2 hC1 hC2 => ?_; simp only [condP, hc27, hc40, am, seval, reduceCtorEq]; refine ⟨fun hc60 => hC1 ?_, fun hc60 => hC2 ?_⟩ <;> clear hC1 hC2 C1 C2
       ·refine rg fun Z z' => ?_; simp only [am, seval, reduceCtorEq]; refine z' _ ?_; clear z' Z; refine AWp.ret ?_; refine rt (by show resV Tryz.prog _ [.tmp 8] = _; simp only [resV, am, seval, reduceCtorEq]; rfl) ⟨?_, rfl⟩; simp only [oneV]; rw [better_at hun hux (op_eq hc27) (by rw [any_at hltj (p := fun i => pathOk sc a k (ixP i.name x.fin) ahead) (by rw [hz0]; exact hc60)]; simp)]
       ·refine AWp.skip ?_; refine hK18 _ ?_; clear hK18; refine rg1 fun Z z' => ?_; simp only [amt, seval, reduceCtorEq]; refine z' _ ?_; clear z' Z; refine ⟨j + 1, ⟨⟨hltj, any_take_succ hltj hnoj (by rw [hz0]; exact hc60)⟩, by omega⟩, ?_⟩; refine lt0 ?_ ?_ ?_
        ·simp only [leE, am, seval, reduceCtorEq]; rw [wrap_id (by omega) (by omega)]; simp
        ·simp only [oks, Nat.reduceBEq]
        ·simp only [leB, am, seval, reduceCtorEq]
      ·obtain rfl : j = sc.indexes.length := eq_of_dec htj hij; refine AWp.exit ?_; simp only [exq, seval]; refine hK7 _ ?_; clear hK7; refine rg1 fun Z z' => ?_; simp only [amt, seval, reduceCtorEq]; refine z' _ ?_; clear z' Z; refine ⟨i + 1, ⟨⟨hlt, any_take_succ hlt hno (by rw [hx0, hc40, any_end hnoj]; simp)⟩, by omega⟩, ?_⟩; refine lt0 ?_ ?_ ?_
       ·simp only [leE, am, seval, reduceCtorEq]; rw [wrap_id (by omega) (by omega)]; simp
       ·simp only [oks, Nat.reduceBEq]
       ·simp only [leB, am, seval, reduceCtorEq]
  ·obtain rfl : i = U.length := eq_of_dec ht hi; refine AWp.exit ?_; simp only [exq, seval]; refine hK3 _ ?_; clear hK3; refine rg fun Z z' => ?_; simp only [am, seval, reduceCtorEq]; refine z' _ ?_; clear z' Z; refine AWp.ret ?_; refine rt (by show resV Tryz.prog _ [.tmp 8] = _; simp only [resV, am, seval, reduceCtorEq]; rfl) ⟨?_, rfl⟩; simp only [oneV]; unfold better; rw [hU, any_end hno]
theorem put_len (l : List Int) (n : Int) : (put l n).length ≤ l.length + 1 := len_put l n
theorem f44_spec (sc : Schema) (hs : SchOk sc) (hns : ∀ t ∈ sc.tables, t.name.size ≤ 550024249344) (hil : sc.indexes.length ≤ 2^42) (a : Arm) (ha : PArm a) (hra : RArmOk a) (hfl : a.frm.length ≤ 274945015808) (hwl : a.whr.length ≤ 2^42) (hfw : ∀ k : Int, 0 ≤ k → k < ((a.frm.length : Nat) : Int) → ∀ x ∈ usable a k, x.fin.w ≤ 274945015808) : Gives Tryz.prog 44 [.agg sc.v, .agg a.v] (vbool (goodA sc a)) := by
 have hs1 := hs.1; intro s; refine acalls_of (fn := Tryz.f44) Tryz.func44 rfl (by decide) (by show 2 ≤ 62; decide) ?_; rw [Tryz.ntmps44]; refine rg fun Z z' => ?_; simp only [avs, Sch.v_all hs1, Sch.v_len, Sch.v_take, amt, seval, reduceCtorEq]; refine z' _ ?_; clear z' Z; refine AWp.seq_k fun K2 hK2 => ?_; refine rg fun Z z' => ?_; simp only [avs, amt, seval, reduceCtorEq]; refine z' _ ?_; clear z' Z; refine AWp.condK fun C1 C2 hC1 hC2 => ?_; simp only [condP, am, seval, reduceCtorEq]; refine ⟨fun hc11 => hC1 ?_, fun hc11 => hC2 ?_⟩ <;> clear hC1 hC2 C1 C2
 ·refine rg fun Z z' => ?_; simp only [avs, undef, amt, seval, reduceCtorEq]; refine gF (fun hg2_4 => ?_) (fun hg2_4 => ?_)
  ·simp only [avs, hg2_4, undef, amt, seval, reduceCtorEq]; refine (f70_spec a ha hra hfl hwl _).go ?_; simp only [avs, hg2_4, undef, amt, seval, reduceCtorEq]; refine z' _ ?_; clear z' Z; refine AWp.ret ?_; refine rt (by show resV Tryz.prog _ [.tmp 4] = _; simp only [resV, am, seval, reduceCtorEq]; rfl) ⟨?_, rfl⟩; simp only [oneV, goodA, hc11, hg2_4, ↓reduceIte, bo, Bool.not_true, Bool.not_false, ↓reduceIte, Bool.false_eq_true]
  ·simp only [avs, hg2_4, undef, amt, seval, reduceCtorEq]; refine z' _ ?_; clear z' Z; refine AWp.ret ?_; refine rt (by show resV Tryz.prog _ [.tmp 4] = _; simp only [resV, am, seval, reduceCtorEq]; rfl) ⟨?_, rfl⟩; simp only [oneV, goodA, hc11, hg2_4, ↓reduceIte, bo, Bool.not_true, Bool.not_false, ↓reduceIte, Bool.false_eq_true]
 ·refine AWp.skip ?_; refine hK2 _ ?_; clear hK2; refine rg fun Z z' => ?_; simp only [am, seval, reduceCtorEq]; refine z' _ ?_; clear z' Z; refine AWp.seq_k fun K6 hK6 => ?_; refine rg fun Z z' => ?_; simp only [am, seval, reduceCtorEq]; refine z' _ ?_; clear z' Z; refine AWp.block ?_; refine AWp.wkE 5 (vints []) (by simp only [isLoc, am, seval, reduceCtorEq]) (by simp only [am, seval, reduceCtorEq]; exact Wk.nil 1) ?_; refine AWp.loopT (ι := Nat × List Int) (fun q => q.1 ≤ a.steps.length ∧ goodSteps sc a [] a.steps = goodSteps sc a q.2 (a.steps.drop q.1) ∧ q.2.length ≤ q.1) (fun q => tst [(2, .loc 2 0), (3, .loc 3 0), (5, vints q.2), (6, vint q.1)] [(2, (sc.v, 26)), (3, (a.v, 75))] s 62) (fun q => a.steps.length - q.1) (0, []) ⟨⟨Nat.zero_le _, rfl, Nat.le_refl _⟩, ?_⟩ ?_
  ·refine lt0 ?_ ?_ ?_
   ·simp only [leE, am, seval, reduceCtorEq] <;> simp
   ·simp only [oks, Nat.reduceBEq]
   ·simp only [leB, am, seval, reduceCtorEq]
  ·rintro ⟨i, ahead⟩ ⟨hi, hinv, hal⟩; simp only at hi hinv hal ⊢; have hsl := ha.steps; refine AWp.seq_k fun K8 hK8 => ?_; refine rg fun Z z' => ?_; simp only [avs, amt, seval, reduceCtorEq]; refine z' _ ?_; clear z' Z; refine AWp.cond (t := decide ((i:Int) < (a.steps.length : Nat))) (by simp only [am, seval, reduceCtorEq]) (fun ht => ?_) (fun ht => ?_)
   ·have hlt : i < a.steps.length := lt_of_dec ht; have ix0 : (0 ≤ (i : Int)) = True := by simp
    have ix1 : ((i : Int) < ((a.steps.length : Nat) : Int)) = True := by simp [hlt]
    obtain ⟨x, hx⟩ : ∃ x, a.steps[i] = x := ⟨_, rfl⟩; have hdrop : a.steps.drop i = x :: a.steps.drop (i + 1) := by rw [List.drop_eq_getElem_cons hlt, hx]
    have hgs : (a.steps.map Step.v).getD (i : Int).toNat [] = x.v := by rw [getD_map _ _ _ hlt, hx]
    refine AWp.skip ?_; refine hK8 _ ?_; clear hK8; refine AWp.seq_k fun K10 hK10 => ?_; refine AWp.block ?_; refine rg fun Z z' => ?_; simp only [avs, Step.v_len, Step.v_all, Step.v_take, Step.v_frm, Step.v_path, Step.v_whr, ix0, ix1, true_and, hgs, amt, seval, reduceCtorEq]; refine z' _ ?_; clear z' Z; refine AWp.seq_k fun K12 hK12 => ?_; refine AWp.seq_cut (ι := Unit) (fun _ => True) (fun _ => tst [(2, .loc 2 0), (3, .loc 3 0), (5, vints ahead), (6, vint i), (7, .loc 7 0), (57, vbool (scanBad sc a ahead x))] [(2, (sc.v, 26)), (3, (a.v, 75)), (7, (x.v, 68))] s 62) ?_ ?_
    ·refine rg1 fun Z z' => ?_; simp only [avs, Step.v_len, Step.v_all, Step.v_take, Step.v_frm, Step.v_path, Step.v_whr, Sch.v_all hs1, Sch.v_len, Sch.v_take, Step.v_kind, undef, amt, seval, reduceCtorEq]; refine gF (fun hg8_3 => ?_) (fun hg8_3 => ?_)
     ·simp only [avs, Step.v_len, Step.v_all, Step.v_take, Step.v_frm, Step.v_path, Step.v_whr, Sch.v_all hs1, Sch.v_len, Sch.v_take, Step.v_kind, hg8_3, undef, amt, seval, reduceCtorEq]; refine gF (fun hg8_11 => ?_) (fun hg8_11 => ?_)
      ·have hk0 : 0 ≤ x.frm := by have := of_decide_eq_false hg8_3; omega
       have hk1 : x.frm < ((a.frm.length : Nat) : Int) := by have h := hg8_11; simp only [decide_eq_false_iff_not] at h; omega
       simp only [avs, Step.v_len, Step.v_all, Step.v_take, Step.v_frm, Step.v_path, Step.v_whr, Sch.v_all hs1, Sch.v_len, Sch.v_take, Step.v_kind, hg8_3, hg8_11, undef, amt, seval, reduceCtorEq]; refine gT (fun hg8_16 => ?_) (fun hg8_16 => ?_)
       ·simp only [avs, Step.v_len, Step.v_all, Step.v_take, Step.v_frm, Step.v_path, Step.v_whr, Sch.v_all hs1, Sch.v_len, Sch.v_take, Step.v_kind, hg8_3, hg8_11, hg8_16, undef, amt, seval, reduceCtorEq]; refine (f71_spec sc hs hns hil a x.frm hk0 hk1 (ha.u x.frm hk0 hk1) (hra.nm x.frm hk0 hk1) (hfw x.frm hk0 hk1) ahead _).go ?_; simp only [avs, Step.v_len, Step.v_all, Step.v_take, Step.v_frm, Step.v_path, Step.v_whr, Sch.v_all hs1, Sch.v_len, Sch.v_take, Step.v_kind, hg8_3, hg8_11, hg8_16, undef, amt, seval, reduceCtorEq]; refine z' _ ?_; clear z' Z; refine ⟨(), trivial, ?_⟩; refine lt0 ?_ ?_ ?_
        ·simp only [leE, scanBad, hg8_3, hg8_11, hg8_16, bo, Bool.not_true, Bool.not_false, ↓reduceIte, Bool.false_eq_true, am, seval, reduceCtorEq]
        ·simp only [oks, Nat.reduceBEq]
        ·simp only [leB, scanBad, hg8_3, hg8_11, hg8_16, bo, Bool.not_true, Bool.not_false, ↓reduceIte, Bool.false_eq_true, am, seval, reduceCtorEq]
       ·simp only [avs, Step.v_len, Step.v_all, Step.v_take, Step.v_frm, Step.v_path, Step.v_whr, Sch.v_all hs1, Sch.v_len, Sch.v_take, Step.v_kind, hg8_3, hg8_11, hg8_16, undef, amt, seval, reduceCtorEq]; refine z' _ ?_; clear z' Z; refine ⟨(), trivial, ?_⟩; refine lt0 ?_ ?_ ?_
        ·simp only [leE, scanBad, hg8_3, hg8_11, hg8_16, bo, Bool.not_true, Bool.not_false, ↓reduceIte, Bool.false_eq_true, am, seval, reduceCtorEq]
        ·simp only [oks, Nat.reduceBEq]
        ·simp only [leB, scanBad, hg8_3, hg8_11, hg8_16, bo, Bool.not_true, Bool.not_false, ↓reduceIte, Bool.false_eq_true, am, seval, reduceCtorEq]
      ·simp only [avs, Step.v_len, Step.v_all, Step.v_take, Step.v_frm, Step.v_path, Step.v_whr, Sch.v_all hs1, Sch.v_len, Sch.v_take, Step.v_kind, hg8_3, hg8_11, undef, amt, seval, reduceCtorEq]; refine z' _ ?_; clear z' Z; refine ⟨(), trivial, ?_⟩; refine lt0 ?_ ?_ ?_
       ·simp only [leE, scanBad, hg8_3, hg8_11, bo, Bool.not_true, Bool.not_false, ↓reduceIte, Bool.false_eq_true, am, seval, reduceCtorEq]
       ·simp only [oks, Nat.reduceBEq]
       ·simp only [leB, scanBad, hg8_3, hg8_11, bo, Bool.not_true, Bool.not_false, ↓reduceIte, Bool.false_eq_true, am, seval, reduceCtorEq]
     ·simp only [avs, Step.v_len, Step.v_all, Step.v_take, Step.v_frm, Step.v_path, Step.v_whr, Sch.v_all hs1, Sch.v_len, Sch.v_take, Step.v_kind, hg8_3, undef, amt, seval, reduceCtorEq]; refine z' _ ?_; clear z' Z; refine ⟨(), trivial, ?_⟩; refine lt0 ?_ ?_ ?_
      ·simp only [leE, scanBad, hg8_3, bo, Bool.not_true, Bool.not_false, ↓reduceIte, Bool.false_eq_true, am, seval, reduceCtorEq]
      ·simp only [oks, Nat.reduceBEq]
      ·simp only [leB, scanBad, hg8_3, bo, Bool.not_true, Bool.not_false, ↓reduceIte, Bool.false_eq_true, am, seval, reduceCtorEq]
    ·rintro ⟨⟩ _; refine AWp.cond (t := scanBad sc a ahead x) (by simp only [am, seval, reduceCtorEq]) (fun hb => ?_) (fun hb => ?_)
     ·refine rg fun Z z' => ?_; simp only [am, seval, reduceCtorEq]; refine z' _ ?_; clear z' Z; refine AWp.ret ?_; refine rt (by show resV Tryz.prog _ [.tmp 4] = _; simp only [resV, am, seval, reduceCtorEq]; rfl) ⟨?_, rfl⟩; simp only [oneV, goodA]; rw [if_neg (by rw [hc11]; decide), hinv, hdrop]; simp only [goodSteps]; rw [hb]; rfl
     ·refine AWp.skip ?_; refine hK12 _ ?_; clear hK12; refine rg1 fun Z z' => ?_; simp only [Step.v_len, Step.v_all, Step.v_take, Step.v_frm, Step.v_path, Step.v_whr, amt, seval, reduceCtorEq]; refine (f28_spec ahead x.frm (by omega) _).go ?_; simp only [Step.v_len, Step.v_all, Step.v_take, Step.v_frm, Step.v_path, Step.v_whr, amt, seval, reduceCtorEq]; refine z' _ ?_; clear z' Z; refine hK10 _ ?_; clear hK10; refine rg1 fun Z z' => ?_; simp only [amt, seval, reduceCtorEq]; refine z' _ ?_; clear z' Z; refine ⟨(i + 1, put ahead x.frm), ⟨⟨hlt, ?_, ?_⟩, by simp only; omega⟩, ?_⟩
      ·simp only; rw [hinv, hdrop]; simp only [goodSteps]; rw [hb]; rfl
      ·have := put_len ahead x.frm; simp only; omega
      refine lt0 ?_ ?_ ?_
      ·simp only [leE, am, seval, reduceCtorEq]; rw [wrap_id (by omega) (by omega)]; simp
      ·simp only [oks, Nat.reduceBEq]
      ·simp only [leB, am, seval, reduceCtorEq]
   ·obtain rfl : i = a.steps.length := eq_of_dec ht hi; refine AWp.exit ?_; simp only [exq, seval]; refine hK6 _ ?_; clear hK6; refine rg fun Z z' => ?_; simp only [am, seval, reduceCtorEq]; refine z' _ ?_; clear z' Z; refine AWp.ret ?_; refine rt (by show resV Tryz.prog _ [.tmp 4] = _; simp only [resV, am, seval, reduceCtorEq]; rfl) ⟨?_, rfl⟩; simp only [oneV, goodA]; rw [if_neg (by rw [hc11]; decide), hinv, List.drop_length]; simp only [goodSteps]
theorem cQueries_split (l : List Query) (i : Nat) (h : i < l.length) : cQueries l = cQueries (l.take i) ++ cQuery l[i] ++ cQueries (l.drop (i + 1)) := by
 have e : l = l.take i ++ l[i] :: l.drop (i + 1) := by rw [← List.drop_eq_getElem_cons h, List.take_append_drop]
 conv => lhs; rw [e, cQueries_append, cQueries]
 rw [List.append_assoc]
theorem cArms_split (l : List Arm) (i : Nat) (h : i < l.length) : cArms l = cArms (l.take i) ++ cArm l[i] ++ cArms (l.drop (i + 1)) := by
 have e : l = l.take i ++ l[i] :: l.drop (i + 1) := by rw [← List.drop_eq_getElem_cons h, List.take_append_drop]
 conv => lhs; rw [e, cArms_append, cArms]
 rw [List.append_assoc]
theorem cArm_all (p : Arm → Bool) (a : Arm) : (cArm a).all p = ((cTerms (armTerms a)).all p && (p a && a.frm.all fun f => (cQueries f.sub).all p)) := by
 rw [Bool.eq_iff_iff]
 simp only [List.all_eq_true, Bool.and_eq_true, cArm_mem]
 constructor
 ·intro h
  exact ⟨fun y hy => h y (.inl hy), h a (.inr (.inl rfl)), fun f hf y hy => h y (.inr (.inr ⟨f, hf, hy⟩))⟩
 ·rintro ⟨h1, h2, h3⟩ y (hy | rfl | ⟨f, hf, hy⟩)
  ·exact h1 y hy
  ·exact h2
  ·exact h3 f hf y hy
theorem nf2 {a b : Bool} (h : (!a || !b) = false) : a = true ∧ b = true := by cases a <;> cases b <;> simp at h ⊢
theorem cArm_no {p : Arm → Bool} {a : Arm} (h : (!((cTerms (armTerms a)).all p) || !p a) = true) : (cArm a).all p = false := by
 rw [cArm_all]
 cases h1 : (cTerms (armTerms a)).all p
 ·rfl
 ·rw [h1] at h; rw [nt (by simpa using h : (!p a) = true)]; rfl
theorem cArm_no2 {p : Arm → Bool} {a : Arm} {f : From} (hf : f ∈ a.frm) (h : (cQueries f.sub).all p = false) : (cArm a).all p = false := by
 rw [cArm_all]
 have : (a.frm.all fun f => (cQueries f.sub).all p) = false := by
  cases hq : (a.frm.all fun f => (cQueries f.sub).all p)
  ·rfl
  ·rw [List.all_eq_true] at hq; rw [hq f hf] at h; cases h
 rw [this, Bool.and_false, Bool.and_false]
theorem okA_long {sc : Schema} {a : Arm} (h : decide (((a.steps.length : Nat) : Int) > 0) = true) : okA sc a = armOk sc a := by
 have h := of_decide_eq_true h
 unfold okA
 rw [show (((a.steps.length : Nat) : Int) == 0) = false from beq_false_of_ne (by omega), Bool.false_or]
theorem okA_none {sc : Schema} {a : Arm} (h : decide (((a.steps.length : Nat) : Int) > 0) = false) : okA sc a = true := by
 have h := of_decide_eq_false h
 unfold okA
 rw [show (((a.steps.length : Nat) : Int) == 0) = true from beq_iff_eq.2 (by omega), Bool.true_or]
theorem Query.v_all (q : Query) : q.v.all V.isCell = true := by rw [Query.v_eq]; rfl
theorem Query.v_take (q : Query) : q.v.take 5 = q.v := List.take_of_length_le (by rw [Query.v_len]; exact Nat.le_refl _)
theorem Query.v_arms (q : Query) : q.v[1]? = some (.slice 13 (q.arms.map Arm.v)) := by rw [Query.v_eq]; rfl
theorem Query.v_limit (q : Query) : q.v[3]? = some (.slice 14 (q.limit.map Term.v)) := by rw [Query.v_eq]; rfl
theorem Query.v_offset (q : Query) : q.v[4]? = some (.slice 14 (q.offset.map Term.v)) := by rw [Query.v_eq]; rfl
theorem From.v_sub (q : From) : q.v[5]? = some (.slice 5 (q.sub.map Query.v)) := by rw [From.v_eq]; rfl
structure AMOk (sc : Schema) (a : Arm) : Prop where
 terms : Gives Tryz.prog 46 [.agg a.v] (.slice 14 ((armTerms a).map Term.v))
 it : Gives Tryz.prog 53 [.agg sc.v, .slice 14 ((armTerms a).map Term.v)] (vbool ((cTerms (armTerms a)).all (okA sc)))
 arm : Gives Tryz.prog 54 [.agg sc.v, .agg a.v] (vbool (armOk sc a))
 subs : ∀ f ∈ a.frm, Gives Tryz.prog 23 [.agg sc.v, .slice 5 (f.sub.map Query.v)] (vbool ((cQueries f.sub).all (okA sc)))
 len : a.frm.length ≤ 2^42
structure QMOk (sc : Schema) (q : Query) : Prop where
 lim : Gives Tryz.prog 53 [.agg sc.v, .slice 14 (q.limit.map Term.v)] (vbool ((cTerms q.limit).all (okA sc)))
 off : Gives Tryz.prog 53 [.agg sc.v, .slice 14 (q.offset.map Term.v)] (vbool ((cTerms q.offset).all (okA sc)))
 arms : ∀ a ∈ q.arms, AMOk sc a
 len : q.arms.length ≤ 2^42
theorem f23_spec (sc : Schema) (hs1 : sc.views.isCell = true) (l : List Query) (hM : ∀ q ∈ l, QMOk sc q) : Gives Tryz.prog 23 [.agg sc.v, .slice 5 (l.map Query.v)] (vbool ((cQueries l).all (okA sc))) := by
 intro s; refine acalls_of (fn := Tryz.f23) Tryz.func23 rfl (by decide) (by show 2 ≤ 84; decide) ?_; rw [Tryz.ntmps23]; refine rg fun Z z' => ?_; simp only [Sch.v_all hs1, Sch.v_len, Sch.v_take, amt, seval, reduceCtorEq]; refine z' _ ?_; clear z' Z; refine AWp.seq_k fun K2 hK2 => ?_; refine rg fun Z z' => ?_; simp only [am, seval, reduceCtorEq]; refine z' _ ?_; clear z' Z; refine AWp.block ?_; refine AWp.slen 1 (sz := 5) (es := l.map Query.v) (by simp only [am, seval, reduceCtorEq]) fun hmax => ?_; have hmx := maxLen_lt; (try rw [List.length_map] at hmax); refine AWp.loopT (ι := Nat) (fun i => i ≤ l.length ∧ (cQueries (l.take i)).all (okA sc) = true) (fun i => tst [(1, .slice 5 (l.map Query.v)), (2, .loc 2 0), (5, vint i)] [(2, (sc.v, 26))] s 84) (fun i => l.length - i) 0 ⟨⟨Nat.zero_le _, by simp [cQueries]⟩, ?_⟩ ?_
 ·refine lt0 ?_ ?_ ?_
  ·simp only [leE, am, seval, reduceCtorEq] <;> simp
  ·simp only [oks, Nat.reduceBEq]
  ·simp only [leB, am, seval, reduceCtorEq]
 ·rintro i ⟨hi, hno⟩; refine AWp.seq_k fun K4 hK4 => ?_; refine rg fun Z z' => ?_; simp only [amt, seval, reduceCtorEq]; refine z' _ ?_; clear z' Z; refine AWp.cond (t := decide ((i:Int) < (l.length : Nat))) (by simp only [am, seval, reduceCtorEq]) (fun ht => ?_) (fun ht => ?_)
  ·have hlt : i < l.length := lt_of_dec ht; have ix0 : (0 ≤ (i : Int)) = True := by simp
   have ix1 : ((i : Int) < ((l.length : Nat) : Int)) = True := by simp [hlt]
   obtain ⟨q, hq0⟩ : ∃ q, l[i] = q := ⟨_, rfl⟩; have hgq : (l.map Query.v).getD (i : Int).toNat [] = q.v := by rw [getD_map _ _ _ hlt, hq0]
   have hqm : q ∈ l := by rw [← hq0]; exact List.getElem_mem hlt
   have hq := hM q hqm; have hsu := cQueries_succ l i hlt; rw [hq0, cQuery_eq] at hsu; have hsp := cQueries_split l i hlt; rw [hq0, cQuery_eq] at hsp; refine AWp.skip ?_; refine hK4 _ ?_; clear hK4; refine AWp.seq_k fun K6 hK6 => ?_; refine AWp.block ?_; refine AWp.seq_k fun K7 hK7 => ?_; refine AWp.regL mixed [0, 1, 2, 3, 4, 5, 6, 7, 8, 9, 10, 11, 12, 13, 14, 15, 16, 17] (by decide +kernel) [99999] (by decide +kernel) fun Z z' => ?_; simp only [Sch.v_all hs1, Sch.v_len, Sch.v_take, ix0, ix1, true_and, hgq, Query.v_limit, Query.v_offset, Query.v_arms, undef, aml, Nat.reduceBEq, amt, seval, reduceCtorEq]; refine (hq.lim _).go ?_; simp only [Sch.v_all hs1, Sch.v_len, Sch.v_take, ix0, ix1, true_and, hgq, Query.v_limit, Query.v_offset, Query.v_arms, undef, aml, Nat.reduceBEq, amt, seval, reduceCtorEq]; refine gFL (fun hg4_8 => ?_) (fun hg4_8 => ?_)
   ·simp only [Sch.v_all hs1, Sch.v_len, Sch.v_take, ix0, ix1, true_and, hgq, Query.v_limit, Query.v_offset, Query.v_arms, hg4_8, undef, aml, Nat.reduceBEq, amt, seval, reduceCtorEq]; refine (hq.off _).go ?_; simp only [Sch.v_all hs1, Sch.v_len, Sch.v_take, ix0, ix1, true_and, hgq, Query.v_limit, Query.v_offset, Query.v_arms, hg4_8, undef, aml, Nat.reduceBEq, amt, seval, reduceCtorEq]; refine z' _ ?_; clear z' Z; refine AWp.condK fun C1 C2 hC1 hC2 => ?_; simp only [condP, hg4_8, am, seval, reduceCtorEq]; refine ⟨fun hc32 => hC1 ?_, fun hc32 => hC2 ?_⟩ <;> clear hC1 hC2 C1 C2
    ·refine rg fun Z z' => ?_; simp only [am, seval, reduceCtorEq]; refine z' _ ?_; clear z' Z; refine AWp.ret ?_; refine rt (by show resV Tryz.prog _ [.tmp 4] = _; simp only [resV, am, seval, reduceCtorEq]; rfl) ⟨?_, rfl⟩; simp only [oneV]; rw [hsp]; simp only [List.all_append, hno, nf hg4_8, nt hc32, Bool.and_false, Bool.false_and, Bool.true_and]
    ·have hlo : (cTerms q.limit).all (okA sc) = true ∧ (cTerms q.offset).all (okA sc) = true := ⟨nf hg4_8, nf hc32⟩; refine AWp.skip ?_; refine hK7 _ ?_; clear hK7; refine rg fun Z z' => ?_; simp only [am, seval, reduceCtorEq]; refine z' _ ?_; clear z' Z; refine AWp.block ?_; have hal := hq.len; refine AWp.loopT (ι := Nat) (fun k => k ≤ q.arms.length ∧ (cArms (q.arms.take k)).all (okA sc) = true) (fun k => tst [(1, .slice 5 (l.map Query.v)), (2, .loc 2 0), (5, vint i), (6, vint k)] [(2, (sc.v, 26))] s 84) (fun k => q.arms.length - k) 0 ⟨⟨Nat.zero_le _, by simp [cArms]⟩, ?_⟩ ?_
     ·refine lt0 ?_ ?_ ?_
      ·simp only [leE, am, seval, reduceCtorEq] <;> simp
      ·simp only [oks, Nat.reduceBEq]
      ·simp only [leB, am, seval, reduceCtorEq]
     ·rintro k ⟨hik, hnok⟩; refine AWp.seq_k fun K11 hK11 => ?_; refine rg fun Z z' => ?_; simp only [ix0, ix1, true_and, hgq, Query.v_limit, Query.v_offset, Query.v_arms, amt, seval, reduceCtorEq]; refine z' _ ?_; clear z' Z; refine AWp.cond (t := decide ((k:Int) < (q.arms.length : Nat))) (by simp only [am, seval, reduceCtorEq]) (fun htk => ?_) (fun htk => ?_)
      ·have hltk : k < q.arms.length := lt_of_dec htk; have ix0k : (0 ≤ (k : Int)) = True := by simp
       have ix1k : ((k : Int) < ((q.arms.length : Nat) : Int)) = True := by simp [hltk]
       obtain ⟨a, ha0⟩ : ∃ a, q.arms[k] = a := ⟨_, rfl⟩; have hga : (q.arms.map Arm.v).getD (k : Int).toNat [] = a.v := by rw [getD_map _ _ _ hltk, ha0]
       have ham : a ∈ q.arms := by rw [← ha0]; exact List.getElem_mem hltk
       have hA := hq.arms a ham; have hsua := cArms_succ q.arms k hltk; rw [ha0] at hsua; have hspa := cArms_split q.arms k hltk; rw [ha0] at hspa; refine AWp.skip ?_; refine hK11 _ ?_; clear hK11; refine AWp.seq_k fun K13 hK13 => ?_; refine AWp.block ?_; refine rg fun Z z' => ?_; simp only [ix0, ix1, true_and, hgq, Query.v_limit, Query.v_offset, Query.v_arms, ix0k, ix1k, hga, avs, amt, seval, reduceCtorEq]; refine z' _ ?_; clear z' Z; refine AWp.seq_k fun K15 hK15 => ?_; refine AWp.seq_cut (ι := Unit) (fun _ => True) (fun _ => tst [(1, .slice 5 (l.map Query.v)), (2, .loc 2 0), (5, vint i), (6, vint k), (7, .loc 7 0), (67, vbool (!((cTerms (armTerms a)).all (okA sc)) || !okA sc a))] [(2, (sc.v, 26)), (7, (a.v, 75))] s 84) ?_ ?_
       ·refine AWp.regL1 mixed [0, 1, 2, 3, 4, 5, 6, 7, 8, 9, 10, 11, 12, 13, 14, 15, 16] (by decide +kernel) [99999] (by decide +kernel) fun Z z' => ?_; simp only [Sch.v_all hs1, Sch.v_len, Sch.v_take, avs, undef, aml, Nat.reduceBEq, amt, seval, reduceCtorEq]; refine (hA.terms _).go ?_; simp only [Sch.v_all hs1, Sch.v_len, Sch.v_take, avs, undef, aml, Nat.reduceBEq, amt, seval, reduceCtorEq]; refine (hA.it _).go ?_; simp only [Sch.v_all hs1, Sch.v_len, Sch.v_take, avs, undef, aml, Nat.reduceBEq, amt, seval, reduceCtorEq]; refine gFL (fun hg10_5 => ?_) (fun hg10_5 => ?_)
        ·simp only [Sch.v_all hs1, Sch.v_len, Sch.v_take, avs, hg10_5, undef, aml, Nat.reduceBEq, amt, seval, reduceCtorEq]; refine gTL (fun hg10_10 => ?_) (fun hg10_10 => ?_)
         ·simp only [Sch.v_all hs1, Sch.v_len, Sch.v_take, avs, hg10_5, hg10_10, undef, aml, Nat.reduceBEq, amt, seval, reduceCtorEq]; refine (hA.arm _).go ?_; simp only [Sch.v_all hs1, Sch.v_len, Sch.v_take, avs, hg10_5, hg10_10, undef, aml, Nat.reduceBEq, amt, seval, reduceCtorEq]; refine z' _ ?_; clear z' Z; refine ⟨(), trivial, ?_⟩; refine lt0 ?_ ?_ ?_
          ·simp only [leE, okA_long hg10_10, hg10_5, bo, Bool.not_true, Bool.not_false, ↓reduceIte, Bool.false_eq_true, am, seval, reduceCtorEq]
          ·simp only [oks, Nat.reduceBEq]
          ·simp only [leB, okA_long hg10_10, hg10_5, bo, Bool.not_true, Bool.not_false, ↓reduceIte, Bool.false_eq_true, am, seval, reduceCtorEq]
         ·simp only [Sch.v_all hs1, Sch.v_len, Sch.v_take, avs, hg10_5, hg10_10, undef, aml, Nat.reduceBEq, amt, seval, reduceCtorEq]; refine z' _ ?_; clear z' Z; refine ⟨(), trivial, ?_⟩; refine lt0 ?_ ?_ ?_
          ·simp only [leE, okA_none hg10_10, hg10_5, bo, Bool.not_true, Bool.not_false, ↓reduceIte, Bool.false_eq_true, am, seval, reduceCtorEq]
          ·simp only [oks, Nat.reduceBEq]
          ·simp only [leB, okA_none hg10_10, hg10_5, bo, Bool.not_true, Bool.not_false, ↓reduceIte, Bool.false_eq_true, am, seval, reduceCtorEq]
        ·simp only [Sch.v_all hs1, Sch.v_len, Sch.v_take, avs, hg10_5, undef, aml, Nat.reduceBEq, amt, seval, reduceCtorEq]; refine z' _ ?_; clear z' Z; refine ⟨(), trivial, ?_⟩; refine lt0 ?_ ?_ ?_
         ·simp only [leE, hg10_5, bo, Bool.not_true, Bool.not_false, ↓reduceIte, Bool.false_eq_true, am, seval, reduceCtorEq]
         ·simp only [oks, Nat.reduceBEq]
         ·simp only [leB, hg10_5, bo, Bool.not_true, Bool.not_false, ↓reduceIte, Bool.false_eq_true, am, seval, reduceCtorEq]
       ·rintro ⟨⟩ _; refine AWp.condK fun C1 C2 hC1 hC2 => ?_; simp only [condP, hg4_8, hc32, am, seval, reduceCtorEq]; refine ⟨fun hc67 => hC1 ?_, fun hc67 => hC2 ?_⟩ <;> clear hC1 hC2 C1 C2
        ·refine rg fun Z z' => ?_; simp only [am, seval, reduceCtorEq]; refine z' _ ?_; clear z' Z; refine AWp.ret ?_; refine rt (by show resV Tryz.prog _ [.tmp 4] = _; simp only [resV, am, seval, reduceCtorEq]; rfl) ⟨?_, rfl⟩; simp only [oneV]; rw [hsp]; simp only [List.all_append, hno, hlo, hspa, hnok, cArm_no hc67, Bool.and_false, Bool.false_and, Bool.true_and]
        ·refine AWp.skip ?_; refine hK15 _ ?_; clear hK15; refine rg fun Z z' => ?_; simp only [am, seval, reduceCtorEq]; refine z' _ ?_; clear z' Z; refine AWp.block ?_; have hfl := hA.len; refine AWp.loopT (ι := Nat) (fun m => m ≤ a.frm.length ∧ (a.frm.take m).all (fun f => (cQueries f.sub).all (okA sc)) = true) (fun m => tst [(1, .slice 5 (l.map Query.v)), (2, .loc 2 0), (5, vint i), (6, vint k), (7, .loc 7 0), (8, vint m)] [(2, (sc.v, 26)), (7, (a.v, 75))] s 84) (fun m => a.frm.length - m) 0 ⟨⟨Nat.zero_le _, by simp⟩, ?_⟩ ?_
         ·refine lt0 ?_ ?_ ?_
          ·simp only [leE, am, seval, reduceCtorEq] <;> simp
          ·simp only [oks, Nat.reduceBEq]
          ·simp only [leB, am, seval, reduceCtorEq]
         ·rintro m ⟨him, hnom⟩; refine AWp.seq_k fun K19 hK19 => ?_; refine rg fun Z z' => ?_; simp only [avs, amt, seval, reduceCtorEq]; refine z' _ ?_; clear z' Z; refine AWp.cond (t := decide ((m:Int) < (a.frm.length : Nat))) (by simp only [am, seval, reduceCtorEq]) (fun htm => ?_) (fun htm => ?_)
          ·have hltm : m < a.frm.length := lt_of_dec htm; have ix0m : (0 ≤ (m : Int)) = True := by simp
           have ix1m : ((m : Int) < ((a.frm.length : Nat) : Int)) = True := by simp [hltm]
           obtain ⟨f, hf0⟩ : ∃ f, a.frm[m] = f := ⟨_, rfl⟩; have hgf : (a.frm.map From.v).getD (m : Int).toNat [] = f.v := by rw [getD_map _ _ _ hltm, hf0]
           have hfm : f ∈ a.frm := by rw [← hf0]; exact List.getElem_mem hltm
           refine AWp.skip ?_; refine hK19 _ ?_; clear hK19; refine AWp.seq_k fun K21 hK21 => ?_; refine AWp.block ?_; refine AWp.regL mixed [0, 1, 2, 3, 4, 5, 6, 7, 8] (by decide +kernel) [99999] (by decide +kernel) fun Z z' => ?_; simp only [Sch.v_all hs1, Sch.v_len, Sch.v_take, avs, ix0m, ix1m, true_and, hgf, From.v_sub, aml, Nat.reduceBEq, amt, seval, reduceCtorEq]; refine (hA.subs f hfm _).go ?_; simp only [Sch.v_all hs1, Sch.v_len, Sch.v_take, avs, ix0m, ix1m, true_and, hgf, From.v_sub, aml, Nat.reduceBEq, amt, seval, reduceCtorEq]; refine z' _ ?_; clear z' Z; refine AWp.condK fun C1 C2 hC1 hC2 => ?_; simp only [condP, hg4_8, hc32, hc67, am, seval, reduceCtorEq]; refine ⟨fun hc83 => hC1 ?_, fun hc83 => hC2 ?_⟩ <;> clear hC1 hC2 C1 C2
           ·refine rg fun Z z' => ?_; simp only [am, seval, reduceCtorEq]; refine z' _ ?_; clear z' Z; refine AWp.ret ?_; refine rt (by show resV Tryz.prog _ [.tmp 4] = _; simp only [resV, am, seval, reduceCtorEq]; rfl) ⟨?_, rfl⟩; simp only [oneV]; rw [hsp]; simp only [List.all_append, hno, hlo, hspa, hnok, cArm_no2 hfm (nt hc83), Bool.and_false, Bool.false_and, Bool.true_and]
           ·refine AWp.skip ?_; refine hK21 _ ?_; clear hK21; refine rg1 fun Z z' => ?_; simp only [amt, seval, reduceCtorEq]; refine z' _ ?_; clear z' Z; refine ⟨m + 1, ⟨⟨hltm, by rw [List.take_succ_eq_append_getElem hltm, List.all_append, hnom, hf0]; simp [nf hc83]⟩, by omega⟩, ?_⟩; refine lt0 ?_ ?_ ?_
            ·simp only [leE, am, seval, reduceCtorEq]; rw [wrap_id (by omega) (by omega)]; simp
            ·simp only [oks, Nat.reduceBEq]
            ·simp only [leB, am, seval, reduceCtorEq]
          ·obtain rfl : m = a.frm.length := eq_of_dec htm him; have hca : (cArm a).all (okA sc) = true := by rw [cArm_all, (nf2 hc67).1, (nf2 hc67).2, ← List.take_length (l := a.frm), hnom]; rfl
           refine AWp.exit ?_; simp only [exq, seval]; refine hK13 _ ?_; clear hK13; refine rg1 fun Z z' => ?_; simp only [amt, seval, reduceCtorEq]; refine z' _ ?_; clear z' Z; refine ⟨k + 1, ⟨⟨hltk, by rw [hsua, List.all_append, hnok, hca]; rfl⟩, by omega⟩, ?_⟩; refine lt0 ?_ ?_ ?_
           ·simp only [leE, am, seval, reduceCtorEq]; rw [wrap_id (by omega) (by omega)]; simp
           ·simp only [oks, Nat.reduceBEq]
           ·simp only [leB, am, seval, reduceCtorEq]
      ·obtain rfl : k = q.arms.length := eq_of_dec htk hik; rw [List.take_length] at hnok; refine AWp.exit ?_; simp only [exq, seval]; refine hK6 _ ?_; clear hK6; refine rg1 fun Z z' => ?_; simp only [amt, seval, reduceCtorEq]; refine z' _ ?_; clear z' Z; refine ⟨i + 1, ⟨⟨hlt, by rw [hsu]; simp only [List.all_append, hno, hlo, hnok, Bool.and_self]⟩, by omega⟩, ?_⟩; refine lt0 ?_ ?_ ?_
       ·simp only [leE, am, seval, reduceCtorEq]; rw [wrap_id (by omega) (by omega)]; simp
       ·simp only [oks, Nat.reduceBEq]
       ·simp only [leB, am, seval, reduceCtorEq]
   ·simp only [Sch.v_all hs1, Sch.v_len, Sch.v_take, ix0, ix1, true_and, hgq, Query.v_limit, Query.v_offset, Query.v_arms, hg4_8, undef, aml, Nat.reduceBEq, amt, seval, reduceCtorEq]; refine z' _ ?_; clear z' Z; refine cT (by simp only [hg4_8, am, seval, reduceCtorEq]) ?_; refine rg fun Z z' => ?_; simp only [am, seval, reduceCtorEq]; refine z' _ ?_; clear z' Z; refine AWp.ret ?_; refine rt (by show resV Tryz.prog _ [.tmp 4] = _; simp only [resV, am, seval, reduceCtorEq]; rfl) ⟨?_, rfl⟩; simp only [oneV]; rw [hsp]; simp only [List.all_append, hno, nt hg4_8, Bool.and_false, Bool.false_and, Bool.true_and]
  ·obtain rfl : i = l.length := eq_of_dec ht hi; refine AWp.exit ?_; simp only [exq, seval]; refine hK2 _ ?_; clear hK2; refine rg fun Z z' => ?_; simp only [am, seval, reduceCtorEq]; refine z' _ ?_; clear z' Z; refine AWp.ret ?_; refine rt (by show resV Tryz.prog _ [.tmp 4] = _; simp only [resV, am, seval, reduceCtorEq]; rfl) ⟨?_, rfl⟩; simp only [oneV]; rw [List.take_length] at hno; rw [hno]
structure ScOk (sc : Schema) : Prop where
 s : SchOk sc
 n : ∀ t ∈ sc.tables, t.name.size ≤ 550024249344
 i : sc.indexes.length ≤ 2^42
theorem mayq_all (sc : Schema) (hs : ScOk sc) : ∀ n : Nat, n ≤ 137455730688 → (∀ l : List Term, (l.map Term.w).sum ≤ n → Gives Tryz.prog 53 [.agg sc.v, .slice 14 (l.map Term.v)] (vbool ((cTerms l).all (okA sc)))) ∧ (∀ l : List Query, (l.map Query.w).sum ≤ n → Gives Tryz.prog 23 [.agg sc.v, .slice 5 (l.map Query.v)] (vbool ((cQueries l).all (okA sc))))
 | 0, _ => by
  refine ⟨fun l hl => f53_spec sc hs.s.1 (okA sc) l (fun t ht => ?_) (fun t ht => ?_), fun l hl => f23_spec sc hs.s.1 l fun q hq => ?_⟩
  ·have := mem_w Term.w l t ht; have := Term.w_pos t; omega
  ·have := mem_w Term.w l t ht; have := Term.w_pos t; omega
  ·have := mem_w Query.w l q hq; have := Query.w_pos q; omega
 | n + 1, hn => by
  obtain ⟨ih1, ih2⟩ := mayq_all sc hs n (by omega)
  refine ⟨fun l hl => f53_spec sc hs.s.1 (okA sc) l (fun t ht => ih1 _ ?_) (fun t ht => ih2 _ ?_), fun l hl => f23_spec sc hs.s.1 l fun q hq => ?_⟩
  ·have := mem_w Term.w l t ht; rw [Term.w_eq] at this; omega
  ·have := mem_w Term.w l t ht; rw [Term.w_eq] at this; omega
  ·have hqw := mem_w Query.w l q hq
   rw [Query.w_eq] at hqw
   have hal := len_le Arm.w_pos q.arms
   refine ⟨ih1 _ (by omega), ih1 _ (by omega), fun a ha => ?_, by omega⟩
   have haw := mem_w Arm.w q.arms a ha
   have hat := armTerms_w a
   have hfl := len_le From.w_pos a.frm
   have haw2 := haw
   rw [Arm.w_eq] at haw2
   refine ⟨terms_ok a (by omega), ih1 _ (by omega), f54_spec sc hs.s hs.n hs.i a (parm_of (by omega)) (rarm_of (by omega)), fun f hf => ih2 _ ?_, by omega⟩
   have := mem_w From.w a.frm f hf
   rw [From.w_eq] at this; omega
theorem Res.v_len (r : Resolved) : r.v.length = 6 := Resolved.v_len r
theorem Res.v_all (r : Resolved) : r.v.all V.isCell = true := by rw [Resolved.v_eq, List.all_append, Query.v_all]; rfl
theorem Res.v_take (r : Resolved) : r.v.take 6 = r.v := List.take_of_length_le (by rw [Res.v_len]; exact Nat.le_refl _)
theorem Res.v_withs (r : Resolved) : r.v[0]? = some (.slice 9 (r.withs.map With.v)) := by rw [Resolved.v_eq]; rfl
theorem Res.v_query (r : Resolved) : (r.v.drop 1).take 5 = r.query.v := by rw [Resolved.v_eq]; exact Query.v_take _
theorem With.v_query (x : With) : (x.v.drop 2).take 5 = x.query.v := by
 rw [With.v_eq, List.append_assoc]
 show (x.query.v ++ _).take 5 = _
 rw [List.take_append_of_le_length (by rw [Query.v_len]; exact Nat.le_refl _)]; exact Query.v_take _
theorem With.v_step (x : With) : x.v[7]? = some (.slice 5 (x.step.map Query.v)) := by
 rw [With.v_eq, Query.v_eq]; rfl
def cResolvedTo (r : Resolved) (i : Nat) : List Arm := cQuery r.query ++ (r.withs.take i).flatMap cWith
theorem cResolvedTo_succ (r : Resolved) (i : Nat) (h : i < r.withs.length) : cResolvedTo r (i + 1) = cResolvedTo r i ++ cWith r.withs[i] := by
 unfold cResolvedTo; rw [flat_succ _ _ h, List.append_assoc]
theorem cResolvedTo_end (r : Resolved) : cResolvedTo r r.withs.length = cResolved r := by unfold cResolvedTo cResolved; rw [List.take_length]
theorem f10_spec (sc : Schema) (hs1 : sc.views.isCell = true) (r : Resolved) (hl : r.withs.length ≤ 2^42) (h1 : Gives Tryz.prog 23 [.agg sc.v, .slice 5 [r.query.v]] (vbool ((cQuery r.query).all (okA sc)))) (hw : ∀ x ∈ r.withs, Gives Tryz.prog 23 [.agg sc.v, .slice 5 [x.query.v]] (vbool ((cQuery x.query).all (okA sc))) ∧ Gives Tryz.prog 23 [.agg sc.v, .slice 5 (x.step.map Query.v)] (vbool ((cQueries x.step).all (okA sc)))) : Gives Tryz.prog 10 [.agg sc.v, .agg r.v] (vint (if mayR sc r then 0 else 340)) := by
 intro s; refine acalls_of (fn := Tryz.f10) Tryz.func10 rfl (by decide) (by show 2 ≤ 42; decide) ?_; rw [Tryz.ntmps10]; refine rg fun Z z' => ?_; simp only [Sch.v_all hs1, Sch.v_len, Sch.v_take, Res.v_len, Res.v_all, Res.v_withs, Res.v_query, Res.v_take, Query.v_len, Query.v_all, Query.v_take, amt, seval, reduceCtorEq]; refine z' _ ?_; clear z' Z; refine rg fun Z z' => ?_; simp only [Sch.v_all hs1, Sch.v_len, Sch.v_take, Res.v_len, Res.v_all, Res.v_withs, Res.v_query, Res.v_take, Query.v_len, Query.v_all, Query.v_take, amt, seval, reduceCtorEq]; refine (h1 _).go ?_; simp only [Sch.v_all hs1, Sch.v_len, Sch.v_take, Res.v_len, Res.v_all, Res.v_withs, Res.v_query, Res.v_take, Query.v_len, Query.v_all, Query.v_take, amt, seval, reduceCtorEq]; refine z' _ ?_; clear z' Z; refine AWp.seq_k fun K3 hK3 => ?_; refine rg fun Z z' => ?_; simp only [am, seval, reduceCtorEq]; refine z' _ ?_; clear z' Z; refine AWp.block ?_; refine AWp.loopT (ι := Nat) (fun i => i ≤ r.withs.length) (fun i => tst [(2, .loc 2 0), (3, .loc 3 0), (5, vbool ((cResolvedTo r i).all (okA sc))), (6, vint i)] [(2, (sc.v, 26)), (3, (r.v, 35))] s 42) (fun i => r.withs.length - i) 0 ⟨Nat.zero_le _, ?_⟩ ?_
 ·refine lt0 ?_ ?_ ?_
  ·simp only [leE, am, seval, reduceCtorEq]; simp [cResolvedTo]
  ·simp only [oks, Nat.reduceBEq]
  ·simp only [leB, am, seval, reduceCtorEq]
 ·rintro i hi; refine AWp.seq_k fun K5 hK5 => ?_; refine rg fun Z z' => ?_; simp only [Res.v_len, Res.v_all, Res.v_withs, Res.v_query, Res.v_take, amt, seval, reduceCtorEq]; refine z' _ ?_; clear z' Z; refine AWp.cond (t := decide ((i:Int) < (r.withs.length : Nat))) (by simp only [am, seval, reduceCtorEq]) (fun ht => ?_) (fun ht => ?_)
  ·have hlt : i < r.withs.length := lt_of_dec ht; have ix0 : (0 ≤ (i : Int)) = True := by simp
   have ix1 : ((i : Int) < ((r.withs.length : Nat) : Int)) = True := by simp [hlt]
   obtain ⟨x, hx0⟩ : ∃ x, r.withs[i] = x := ⟨_, rfl⟩; have hgw : (r.withs.map With.v).getD (i : Int).toNat [] = x.v := by rw [getD_map _ _ _ hlt, hx0]
   have hxm : x ∈ r.withs := by rw [← hx0]; exact List.getElem_mem hlt
   have hsu := cResolvedTo_succ r i hlt; rw [hx0] at hsu; refine AWp.skip ?_; refine hK5 _ ?_; clear hK5; refine AWp.seq_k fun K7 hK7 => ?_; refine AWp.block ?_; refine AWp.regL1 mixed [0, 1, 2, 3, 4, 5, 6, 7, 8, 9, 10, 11, 12, 13, 14, 15, 16, 17, 18, 19, 20, 21, 22] (by decide +kernel) [99999] (by decide +kernel) fun Z z' => ?_; simp only [Sch.v_all hs1, Sch.v_len, Sch.v_take, Res.v_len, Res.v_all, Res.v_withs, Res.v_query, Res.v_take, Query.v_len, Query.v_all, Query.v_take, ix0, ix1, true_and, hgw, With.v_query, With.v_step, With.v_len, undef, aml, Nat.reduceBEq, amt, seval, reduceCtorEq]; refine gTL (fun hg5_1 => ?_) (fun hg5_1 => ?_)
   ·simp only [Sch.v_all hs1, Sch.v_len, Sch.v_take, Res.v_len, Res.v_all, Res.v_withs, Res.v_query, Res.v_take, Query.v_len, Query.v_all, Query.v_take, ix0, ix1, true_and, hgw, With.v_query, With.v_step, With.v_len, hg5_1, undef, aml, Nat.reduceBEq, amt, seval, reduceCtorEq]; refine ((hw x hxm).1 _).go ?_; simp only [Sch.v_all hs1, Sch.v_len, Sch.v_take, Res.v_len, Res.v_all, Res.v_withs, Res.v_query, Res.v_take, Query.v_len, Query.v_all, Query.v_take, ix0, ix1, true_and, hgw, With.v_query, With.v_step, With.v_len, hg5_1, undef, aml, Nat.reduceBEq, amt, seval, reduceCtorEq]; refine gTL (fun hg5_12 => ?_) (fun hg5_12 => ?_)
    ·simp only [Sch.v_all hs1, Sch.v_len, Sch.v_take, Res.v_len, Res.v_all, Res.v_withs, Res.v_query, Res.v_take, Query.v_len, Query.v_all, Query.v_take, ix0, ix1, true_and, hgw, With.v_query, With.v_step, With.v_len, hg5_1, hg5_12, undef, aml, Nat.reduceBEq, amt, seval, reduceCtorEq]; refine ((hw x hxm).2 _).go ?_; simp only [Sch.v_all hs1, Sch.v_len, Sch.v_take, Res.v_len, Res.v_all, Res.v_withs, Res.v_query, Res.v_take, Query.v_len, Query.v_all, Query.v_take, ix0, ix1, true_and, hgw, With.v_query, With.v_step, With.v_len, hg5_1, hg5_12, undef, aml, Nat.reduceBEq, amt, seval, reduceCtorEq]; refine z' _ ?_; clear z' Z; refine hK7 _ ?_; clear hK7; refine rg1 fun Z z' => ?_; simp only [amt, seval, reduceCtorEq]; refine z' _ ?_; clear z' Z; have hv : (cResolvedTo r (i + 1)).all (okA sc) = ((cResolvedTo r i).all (okA sc) && ((cQuery x.query).all (okA sc) && (cQueries x.step).all (okA sc))) := by rw [hsu, cWith, List.all_append, List.all_append]
     refine ⟨i + 1, ⟨hlt, by omega⟩, ?_⟩; refine lt0 ?_ ?_ ?_
     ·simp only [leE, am, seval, reduceCtorEq]; rw [wrap_id (by omega) (by omega), hv, hg5_1, hg5_12]; simp
     ·simp only [oks, Nat.reduceBEq]
     ·simp only [leB, am, seval, reduceCtorEq]
    ·simp only [Sch.v_all hs1, Sch.v_len, Sch.v_take, Res.v_len, Res.v_all, Res.v_withs, Res.v_query, Res.v_take, Query.v_len, Query.v_all, Query.v_take, ix0, ix1, true_and, hgw, With.v_query, With.v_step, With.v_len, hg5_1, hg5_12, undef, aml, Nat.reduceBEq, amt, seval, reduceCtorEq]; refine z' _ ?_; clear z' Z; refine hK7 _ ?_; clear hK7; refine rg1 fun Z z' => ?_; simp only [amt, seval, reduceCtorEq]; refine z' _ ?_; clear z' Z; have hv : (cResolvedTo r (i + 1)).all (okA sc) = ((cResolvedTo r i).all (okA sc) && ((cQuery x.query).all (okA sc) && (cQueries x.step).all (okA sc))) := by rw [hsu, cWith, List.all_append, List.all_append]
     refine ⟨i + 1, ⟨hlt, by omega⟩, ?_⟩; refine lt0 ?_ ?_ ?_
     ·simp only [leE, am, seval, reduceCtorEq]; rw [wrap_id (by omega) (by omega), hv, hg5_1, hg5_12]; simp
     ·simp only [oks, Nat.reduceBEq]
     ·simp only [leB, am, seval, reduceCtorEq]
   ·simp only [Sch.v_all hs1, Sch.v_len, Sch.v_take, Res.v_len, Res.v_all, Res.v_withs, Res.v_query, Res.v_take, Query.v_len, Query.v_all, Query.v_take, ix0, ix1, true_and, hgw, With.v_query, With.v_step, With.v_len, hg5_1, undef, aml, Nat.reduceBEq, amt, seval, reduceCtorEq]; refine z' _ ?_; clear z' Z; refine hK7 _ ?_; clear hK7; refine rg1 fun Z z' => ?_; simp only [amt, seval, reduceCtorEq]; refine z' _ ?_; clear z' Z; have hv : (cResolvedTo r (i + 1)).all (okA sc) = ((cResolvedTo r i).all (okA sc) && ((cQuery x.query).all (okA sc) && (cQueries x.step).all (okA sc))) := by rw [hsu, cWith, List.all_append, List.all_append]
    refine ⟨i + 1, ⟨hlt, by omega⟩, ?_⟩; refine lt0 ?_ ?_ ?_
    ·simp only [leE, am, seval, reduceCtorEq]; rw [wrap_id (by omega) (by omega), hv, hg5_1]; simp
    ·simp only [oks, Nat.reduceBEq]
    ·simp only [leB, am, seval, reduceCtorEq]
  ·obtain rfl : i = r.withs.length := eq_of_dec ht hi; refine AWp.exit ?_; simp only [exq, seval]; refine hK3 _ ?_; clear hK3; refine AWp.seq_k fun K10 hK10 => ?_; refine rg fun Z z' => ?_; simp only [am, seval, reduceCtorEq]; refine z' _ ?_; clear z' Z; refine AWp.condK fun C1 C2 hC1 hC2 => ?_; simp only [condP, am, seval, reduceCtorEq]; refine ⟨fun hc => hC1 ?_, fun hc => hC2 ?_⟩ <;> clear hC1 hC2 C1 C2
   ·refine rg fun Z z' => ?_; simp only [am, seval, reduceCtorEq]; refine z' _ ?_; clear z' Z; refine AWp.ret ?_; refine rt (by show resV Tryz.prog _ [.tmp 4] = _; simp only [resV, am, seval, reduceCtorEq]; rfl) ⟨?_, rfl⟩; rw [cResolvedTo_end] at hc; have hm : mayR sc r = _ := hc; simp only [oneV, hm, ↓reduceIte, Bool.false_eq_true]
   ·refine AWp.skip ?_; refine hK10 _ ?_; clear hK10; refine rg fun Z z' => ?_; simp only [am, seval, reduceCtorEq]; refine z' _ ?_; clear z' Z; refine AWp.ret ?_; refine rt (by show resV Tryz.prog _ [.tmp 4] = _; simp only [resV, am, seval, reduceCtorEq]; rfl) ⟨?_, rfl⟩; rw [cResolvedTo_end] at hc; have hm : mayR sc r = _ := hc; simp only [oneV, hm, ↓reduceIte, Bool.false_eq_true]
theorem f10_all (sc : Schema) (hs : ScOk sc) (r : Resolved) (hw : r.w ≤ 137455730688) : Gives Tryz.prog 10 [.agg sc.v, .agg r.v] (vint (if mayR sc r then 0 else 340)) := by
 have hrw := Resolved.w_eq r
 have hl := len_le With.w_pos r.withs
 have one : ∀ q : Query, q.w ≤ 137455730688 → Gives Tryz.prog 23 [.agg sc.v, .slice 5 [q.v]] (vbool ((cQuery q).all (okA sc))) := fun q hq => by
  have := (mayq_all sc hs (137455730688) (Nat.le_refl _)).2 [q] (by simpa using hq)
  rw [cQueries, cQueries, List.append_nil] at this
  exact this
 refine f10_spec sc hs.s.1 r (by omega) (one _ (by omega)) fun x hx => ?_
 have hxw := mem_w With.w r.withs x hx
 rw [With.w_eq] at hxw
 exact ⟨one _ (by omega), (mayq_all sc hs (137455730688) (Nat.le_refl _)).2 _ (by omega)⟩
structure GOk (sc : Schema) (a : Arm) : Prop where
 terms : Gives Tryz.prog 46 [.agg a.v] (.slice 14 ((armTerms a).map Term.v))
 it : Gives Tryz.prog 45 [.agg sc.v, .slice 14 ((armTerms a).map Term.v)] (vbool true)
 arm : Gives Tryz.prog 44 [.agg sc.v, .agg a.v] (vbool true)
 subs : ∀ f ∈ a.frm, Gives Tryz.prog 19 [.agg sc.v, .slice 5 (f.sub.map Query.v)] (vbool true)
 len : a.frm.length ≤ 2^42
structure GQOk (sc : Schema) (q : Query) : Prop where
 arms : ∀ a ∈ q.arms, GOk sc a
 len : q.arms.length ≤ 2^42
theorem f45_spec (sc : Schema) (hs1 : sc.views.isCell = true) (l : List Term) (h45 : ∀ t ∈ l, Gives Tryz.prog 45 [.agg sc.v, .slice 14 (t.args.map Term.v)] (vbool true)) (h19 : ∀ t ∈ l, Gives Tryz.prog 19 [.agg sc.v, .slice 5 (t.sub.map Query.v)] (vbool true)) : Gives Tryz.prog 45 [.agg sc.v, .slice 14 (l.map Term.v)] (vbool true) := by
 intro s; refine acalls_of (fn := Tryz.f45) Tryz.func45 rfl (by decide) (by show 2 ≤ 30; decide) ?_; rw [Tryz.ntmps45]; refine rg fun Z z' => ?_; simp only [Sch.v_all hs1, Sch.v_len, Sch.v_take, amt, seval, reduceCtorEq]; refine z' _ ?_; clear z' Z; refine AWp.seq_k fun K2 hK2 => ?_; refine rg fun Z z' => ?_; simp only [am, seval, reduceCtorEq]; refine z' _ ?_; clear z' Z; refine AWp.block ?_; refine AWp.slen 1 (sz := 14) (es := l.map Term.v) (by simp only [am, seval, reduceCtorEq]) fun hmax => ?_; have hmx := maxLen_lt; (try rw [List.length_map] at hmax); refine AWp.loopT (ι := Nat) (fun i => i ≤ l.length ∧ True) (fun i => tst [(1, .slice 14 (l.map Term.v)), (2, .loc 2 0), (5, vint i)] [(2, (sc.v, 26))] s 30) (fun i => l.length - i) 0 ⟨⟨Nat.zero_le _, trivial⟩, ?_⟩ ?_
 ·refine lt0 ?_ ?_ ?_
  ·simp only [leE, am, seval, reduceCtorEq] <;> simp
  ·simp only [oks, Nat.reduceBEq]
  ·simp only [leB, am, seval, reduceCtorEq]
 ·rintro i ⟨hi, _⟩; refine AWp.seq_k fun K4 hK4 => ?_; refine rg fun Z z' => ?_; simp only [amt, seval, reduceCtorEq]; refine z' _ ?_; clear z' Z; refine AWp.cond (t := decide ((i:Int) < (l.length : Nat))) (by simp only [am, seval, reduceCtorEq]) (fun ht => ?_) (fun ht => ?_)
  ·have hlt : i < l.length := lt_of_dec ht; have ix0 : (0 ≤ (i : Int)) = True := by simp
   have ix1 : ((i : Int) < ((l.length : Nat) : Int)) = True := by simp [hlt]
   obtain ⟨t, ht0⟩ : ∃ t, l[i] = t := ⟨_, rfl⟩; have hgt : (l.map Term.v).getD (i : Int).toNat [] = t.v := by rw [getD_map _ _ _ hlt, ht0]
   have htm : t ∈ l := by rw [← ht0]; exact List.getElem_mem hlt
   refine AWp.skip ?_; refine hK4 _ ?_; clear hK4; refine AWp.seq_k fun K6 hK6 => ?_; refine AWp.block ?_; refine AWp.regL mixed [0, 1, 2, 3, 4, 5, 6, 7, 8, 9, 10, 11, 12, 13, 14, 15, 16, 17] (by decide +kernel) [99999] (by decide +kernel) fun Z z' => ?_; simp only [Sch.v_all hs1, Sch.v_len, Sch.v_take, ix0, ix1, true_and, hgt, Term.v_args, Term.v_sub, Bool.not_true, undef, aml, Nat.reduceBEq, amt, seval, reduceCtorEq]; refine (h45 t htm _).go ?_; simp only [Sch.v_all hs1, Sch.v_len, Sch.v_take, ix0, ix1, true_and, hgt, Term.v_args, Term.v_sub, Bool.not_true, undef, aml, Nat.reduceBEq, amt, seval, reduceCtorEq]; refine (h19 t htm _).go ?_; simp only [Sch.v_all hs1, Sch.v_len, Sch.v_take, ix0, ix1, true_and, hgt, Term.v_args, Term.v_sub, Bool.not_true, undef, aml, Nat.reduceBEq, amt, seval, reduceCtorEq]; refine z' _ ?_; clear z' Z; refine cF (by simp only [am, seval, reduceCtorEq]) ?_; refine AWp.skip ?_; refine hK6 _ ?_; clear hK6; refine rg1 fun Z z' => ?_; simp only [amt, seval, reduceCtorEq]; refine z' _ ?_; clear z' Z; refine ⟨i + 1, ⟨⟨hlt, trivial⟩, by omega⟩, ?_⟩; refine lt0 ?_ ?_ ?_
   ·simp only [leE, am, seval, reduceCtorEq]; rw [wrap_id (by omega) (by omega)]; simp
   ·simp only [oks, Nat.reduceBEq]
   ·simp only [leB, am, seval, reduceCtorEq]
  ·obtain rfl : i = l.length := eq_of_dec ht hi; refine AWp.exit ?_; simp only [exq, seval]; refine hK2 _ ?_; clear hK2; refine rg fun Z z' => ?_; simp only [am, seval, reduceCtorEq]; refine z' _ ?_; clear z' Z; refine AWp.ret ?_; refine rt (by show resV Tryz.prog _ [.tmp 4] = _; simp only [resV, am, seval, reduceCtorEq]; rfl) ⟨?_, rfl⟩; rfl
theorem f19_spec (sc : Schema) (hs1 : sc.views.isCell = true) (l : List Query) (hM : ∀ q ∈ l, GQOk sc q) : Gives Tryz.prog 19 [.agg sc.v, .slice 5 (l.map Query.v)] (vbool true) := by
 intro s; refine acalls_of (fn := Tryz.f19) Tryz.func19 rfl (by decide) (by show 2 ≤ 60; decide) ?_; rw [Tryz.ntmps19]; refine rg fun Z z' => ?_; simp only [Sch.v_all hs1, Sch.v_len, Sch.v_take, amt, seval, reduceCtorEq]; refine z' _ ?_; clear z' Z; refine AWp.seq_k fun K2 hK2 => ?_; refine rg fun Z z' => ?_; simp only [am, seval, reduceCtorEq]; refine z' _ ?_; clear z' Z; refine AWp.block ?_; refine AWp.slen 1 (sz := 5) (es := l.map Query.v) (by simp only [am, seval, reduceCtorEq]) fun hmax => ?_; have hmx := maxLen_lt; (try rw [List.length_map] at hmax); refine AWp.loopT (ι := Nat) (fun i => i ≤ l.length ∧ True) (fun i => tst [(1, .slice 5 (l.map Query.v)), (2, .loc 2 0), (5, vint i)] [(2, (sc.v, 26))] s 60) (fun i => l.length - i) 0 ⟨⟨Nat.zero_le _, trivial⟩, ?_⟩ ?_
 ·refine lt0 ?_ ?_ ?_
  ·simp only [leE, am, seval, reduceCtorEq] <;> simp
  ·simp only [oks, Nat.reduceBEq]
  ·simp only [leB, am, seval, reduceCtorEq]
 ·rintro i ⟨hi, _⟩; refine AWp.seq_k fun K4 hK4 => ?_; refine rg fun Z z' => ?_; simp only [amt, seval, reduceCtorEq]; refine z' _ ?_; clear z' Z; refine AWp.cond (t := decide ((i:Int) < (l.length : Nat))) (by simp only [am, seval, reduceCtorEq]) (fun ht => ?_) (fun ht => ?_)
  ·have hlt : i < l.length := lt_of_dec ht; have ix0 : (0 ≤ (i : Int)) = True := by simp
   have ix1 : ((i : Int) < ((l.length : Nat) : Int)) = True := by simp [hlt]
   obtain ⟨q, hq0⟩ : ∃ q, l[i] = q := ⟨_, rfl⟩; have hgq : (l.map Query.v).getD (i : Int).toNat [] = q.v := by rw [getD_map _ _ _ hlt, hq0]
   have hqm : q ∈ l := by rw [← hq0]; exact List.getElem_mem hlt
   have hq := hM q hqm; refine AWp.skip ?_; refine hK4 _ ?_; clear hK4; refine AWp.seq_k fun K6 hK6 => ?_; refine AWp.block ?_; refine rg fun Z z' => ?_; simp only [am, seval, reduceCtorEq]; refine z' _ ?_; clear z' Z; refine AWp.block ?_; have hal := hq.len; refine AWp.loopT (ι := Nat) (fun k => k ≤ q.arms.length ∧ True) (fun k => tst [(1, .slice 5 (l.map Query.v)), (2, .loc 2 0), (5, vint i), (6, vint k)] [(2, (sc.v, 26))] s 60) (fun k => q.arms.length - k) 0 ⟨⟨Nat.zero_le _, trivial⟩, ?_⟩ ?_
   ·refine lt0 ?_ ?_ ?_
    ·simp only [leE, am, seval, reduceCtorEq] <;> simp
    ·simp only [oks, Nat.reduceBEq]
    ·simp only [leB, am, seval, reduceCtorEq]
   ·rintro k ⟨hik, _⟩; refine AWp.seq_k fun K8 hK8 => ?_; refine rg fun Z z' => ?_; simp only [ix0, ix1, true_and, hgq, Query.v_arms, Bool.not_true, amt, seval, reduceCtorEq]; refine z' _ ?_; clear z' Z; refine AWp.cond (t := decide ((k:Int) < (q.arms.length : Nat))) (by simp only [am, seval, reduceCtorEq]) (fun htk => ?_) (fun htk => ?_)
    ·have hltk : k < q.arms.length := lt_of_dec htk; have ix0k : (0 ≤ (k : Int)) = True := by simp
     have ix1k : ((k : Int) < ((q.arms.length : Nat) : Int)) = True := by simp [hltk]
     obtain ⟨a, ha0⟩ : ∃ a, q.arms[k] = a := ⟨_, rfl⟩; have hga : (q.arms.map Arm.v).getD (k : Int).toNat [] = a.v := by rw [getD_map _ _ _ hltk, ha0]
     have ham : a ∈ q.arms := by rw [← ha0]; exact List.getElem_mem hltk
     have hA := hq.arms a ham; refine AWp.skip ?_; refine hK8 _ ?_; clear hK8; refine AWp.seq_k fun K10 hK10 => ?_; refine AWp.block ?_; refine rg fun Z z' => ?_; simp only [ix0, ix1, true_and, hgq, Query.v_arms, Bool.not_true, ix0k, ix1k, hga, avs, amt, seval, reduceCtorEq]; refine z' _ ?_; clear z' Z; refine AWp.seq_k fun K12 hK12 => ?_; refine AWp.regL mixed [0, 1, 2, 3, 4, 5, 6, 7, 8, 9, 10] (by decide +kernel) [99999] (by decide +kernel) fun Z z' => ?_; simp only [Sch.v_all hs1, Sch.v_len, Sch.v_take, avs, Bool.not_true, undef, aml, Nat.reduceBEq, amt, seval, reduceCtorEq]; refine (hA.arm _).go ?_; simp only [Sch.v_all hs1, Sch.v_len, Sch.v_take, avs, Bool.not_true, undef, aml, Nat.reduceBEq, amt, seval, reduceCtorEq]; refine (hA.terms _).go ?_; simp only [Sch.v_all hs1, Sch.v_len, Sch.v_take, avs, Bool.not_true, undef, aml, Nat.reduceBEq, amt, seval, reduceCtorEq]; refine (hA.it _).go ?_; simp only [Sch.v_all hs1, Sch.v_len, Sch.v_take, avs, Bool.not_true, undef, aml, Nat.reduceBEq, amt, seval, reduceCtorEq]; refine z' _ ?_; clear z' Z; refine cF (by simp only [am, seval, reduceCtorEq]) ?_; refine AWp.skip ?_; refine hK12 _ ?_; clear hK12; refine rg fun Z z' => ?_
     simp only [am, seval, reduceCtorEq]; refine z' _ ?_; clear z' Z; refine AWp.block ?_; have hfl := hA.len; refine AWp.loopT (ι := Nat) (fun m => m ≤ a.frm.length ∧ True) (fun m => tst [(1, .slice 5 (l.map Query.v)), (2, .loc 2 0), (5, vint i), (6, vint k), (7, .loc 7 0), (8, vint m)] [(2, (sc.v, 26)), (7, (a.v, 75))] s 60) (fun m => a.frm.length - m) 0 ⟨⟨Nat.zero_le _, trivial⟩, ?_⟩ ?_
     ·refine lt0 ?_ ?_ ?_
      ·simp only [leE, am, seval, reduceCtorEq] <;> simp
      ·simp only [oks, Nat.reduceBEq]
      ·simp only [leB, am, seval, reduceCtorEq]
     ·rintro m ⟨him, _⟩; refine AWp.seq_k fun K15 hK15 => ?_; refine rg fun Z z' => ?_; simp only [avs, amt, seval, reduceCtorEq]; refine z' _ ?_; clear z' Z; refine AWp.cond (t := decide ((m:Int) < (a.frm.length : Nat))) (by simp only [am, seval, reduceCtorEq]) (fun htm => ?_) (fun htm => ?_)
      ·have hltm : m < a.frm.length := lt_of_dec htm; have ix0m : (0 ≤ (m : Int)) = True := by simp
       have ix1m : ((m : Int) < ((a.frm.length : Nat) : Int)) = True := by simp [hltm]
       obtain ⟨f, hf0⟩ : ∃ f, a.frm[m] = f := ⟨_, rfl⟩; have hgf : (a.frm.map From.v).getD (m : Int).toNat [] = f.v := by rw [getD_map _ _ _ hltm, hf0]
       have hfm : f ∈ a.frm := by rw [← hf0]; exact List.getElem_mem hltm
       refine AWp.skip ?_; refine hK15 _ ?_; clear hK15; refine AWp.seq_k fun K17 hK17 => ?_; refine AWp.block ?_; refine AWp.regL mixed [0, 1, 2, 3, 4, 5, 6, 7, 8] (by decide +kernel) [99999] (by decide +kernel) fun Z z' => ?_; simp only [Sch.v_all hs1, Sch.v_len, Sch.v_take, avs, ix0m, ix1m, true_and, hgf, From.v_sub, Bool.not_true, aml, Nat.reduceBEq, amt, seval, reduceCtorEq]; refine (hA.subs f hfm _).go ?_; simp only [Sch.v_all hs1, Sch.v_len, Sch.v_take, avs, ix0m, ix1m, true_and, hgf, From.v_sub, Bool.not_true, aml, Nat.reduceBEq, amt, seval, reduceCtorEq]; refine z' _ ?_; clear z' Z; refine cF (by simp only [am, seval, reduceCtorEq]) ?_; refine AWp.skip ?_; refine hK17 _ ?_; clear hK17; refine rg1 fun Z z' => ?_; simp only [amt, seval, reduceCtorEq]; refine z' _ ?_; clear z' Z; refine ⟨m + 1, ⟨⟨hltm, trivial⟩, by omega⟩, ?_⟩; refine lt0 ?_ ?_ ?_
       ·simp only [leE, am, seval, reduceCtorEq]; rw [wrap_id (by omega) (by omega)]; simp
       ·simp only [oks, Nat.reduceBEq]
       ·simp only [leB, am, seval, reduceCtorEq]
      ·obtain rfl : m = a.frm.length := eq_of_dec htm him; refine AWp.exit ?_; simp only [exq, seval]; refine hK10 _ ?_; clear hK10; refine rg1 fun Z z' => ?_; simp only [amt, seval, reduceCtorEq]; refine z' _ ?_; clear z' Z; refine ⟨k + 1, ⟨⟨hltk, trivial⟩, by omega⟩, ?_⟩; refine lt0 ?_ ?_ ?_
       ·simp only [leE, am, seval, reduceCtorEq]; rw [wrap_id (by omega) (by omega)]; simp
       ·simp only [oks, Nat.reduceBEq]
       ·simp only [leB, am, seval, reduceCtorEq]
    ·obtain rfl : k = q.arms.length := eq_of_dec htk hik; refine AWp.exit ?_; simp only [exq, seval]; refine hK6 _ ?_; clear hK6; refine rg1 fun Z z' => ?_; simp only [amt, seval, reduceCtorEq]; refine z' _ ?_; clear z' Z; refine ⟨i + 1, ⟨⟨hlt, trivial⟩, by omega⟩, ?_⟩; refine lt0 ?_ ?_ ?_
     ·simp only [leE, am, seval, reduceCtorEq]; rw [wrap_id (by omega) (by omega)]; simp
     ·simp only [oks, Nat.reduceBEq]
     ·simp only [leB, am, seval, reduceCtorEq]
  ·obtain rfl : i = l.length := eq_of_dec ht hi; refine AWp.exit ?_; simp only [exq, seval]; refine hK2 _ ?_; clear hK2; refine rg fun Z z' => ?_; simp only [am, seval, reduceCtorEq]; refine z' _ ?_; clear z' Z; refine AWp.ret ?_; refine rt (by show resV Tryz.prog _ [.tmp 4] = _; simp only [resV, am, seval, reduceCtorEq]; rfl) ⟨?_, rfl⟩; rfl
theorem fin_w {a : Arm} (hw : a.w ≤ 137455730688) (k : Int) (h0 : 0 ≤ k) (h1 : k < ((a.frm.length : Nat) : Int)) (x : Said) (hx : x ∈ usable a k) : x.fin.w ≤ 274945015808 := by
 unfold usable at hx
 obtain ⟨t, ht, hx⟩ := List.mem_flatMap.1 hx
 have e1 := (says_mem hx).2.2
 have e2 : t.w ≤ a.w := by
  have e0 := Arm.w_eq a
  rcases List.mem_append.1 (usableTerms_mem h0 h1 ht) with h | h
  ·have := mem_w Term.w a.whr t h; omega
  ·obtain ⟨f, hf, h⟩ := List.mem_flatMap.1 h
   have i1 := mem_w From.w a.frm f hf
   have i2 := mem_w Term.w f.on t h
   rw [From.w_eq] at i1; omega
 have e3 := t.w_ns
 omega
theorem good_ok (sc : Schema) (hs : ScOk sc) (a : Arm) (hw : a.w ≤ 137455730688) (hg : goodA sc a = true) : Gives Tryz.prog 44 [.agg sc.v, .agg a.v] (vbool true) := by
 have e0 := Arm.w_eq a
 have l1 := len_le Term.w_pos a.whr
 have l2 := len_le From.w_pos a.frm
 have := f44_spec sc hs.s hs.n hs.i a (parm_of hw) (rarm_of hw) (by omega) (by omega) (fin_w hw)
 rwa [hg] at this
theorem goodq_all (sc : Schema) (hs : ScOk sc) : ∀ n : Nat, n ≤ 137455730688 → (∀ l : List Term, (l.map Term.w).sum ≤ n → (∀ y ∈ cTerms l, goodA sc y = true) → Gives Tryz.prog 45 [.agg sc.v, .slice 14 (l.map Term.v)] (vbool true)) ∧ (∀ l : List Query, (l.map Query.w).sum ≤ n → (∀ y ∈ cQueries l, goodA sc y = true) → Gives Tryz.prog 19 [.agg sc.v, .slice 5 (l.map Query.v)] (vbool true))
 | 0, _ => by
  refine ⟨fun l hl _ => f45_spec sc hs.s.1 l (fun t ht => ?_) (fun t ht => ?_), fun l hl _ => f19_spec sc hs.s.1 l fun q hq => ?_⟩
  ·have := mem_w Term.w l t ht; have := Term.w_pos t; omega
  ·have := mem_w Term.w l t ht; have := Term.w_pos t; omega
  ·have := mem_w Query.w l q hq; have := Query.w_pos q; omega
 | n + 1, hn => by
  obtain ⟨ih1, ih2⟩ := goodq_all sc hs n (by omega)
  refine ⟨fun l hl hg => f45_spec sc hs.s.1 l (fun t ht => ih1 _ ?_ fun y hy => hg y ?_) (fun t ht => ih2 _ ?_ fun y hy => hg y ?_), fun l hl hg => f19_spec sc hs.s.1 l fun q hq => ?_⟩
  ·have := mem_w Term.w l t ht; rw [Term.w_eq] at this; omega
  ·exact (cTerms_mem y l).2 ⟨t, ht, by rw [cTerm_eq]; exact List.mem_append.2 (.inl hy)⟩
  ·have := mem_w Term.w l t ht; rw [Term.w_eq] at this; omega
  ·exact (cTerms_mem y l).2 ⟨t, ht, by rw [cTerm_eq]; exact List.mem_append.2 (.inr hy)⟩
  ·have hqw := mem_w Query.w l q hq
   rw [Query.w_eq] at hqw
   have hal := len_le Arm.w_pos q.arms
   refine ⟨fun a ha => ?_, by omega⟩
   have hga : ∀ y ∈ cArm a, goodA sc y = true := fun y hy => hg y ((cQueries_mem y l).2 ⟨q, hq, by rw [cQuery_eq]; exact List.mem_append.2 (.inr ((cArms_mem y q.arms).2 ⟨a, ha, hy⟩))⟩)
   have haw := mem_w Arm.w q.arms a ha
   have hat := armTerms_w a
   have hfl := len_le From.w_pos a.frm
   have haw2 := haw
   rw [Arm.w_eq] at haw2
   refine ⟨terms_ok a (by omega), ih1 _ (by omega) fun y hy => hga y ((cArm_mem a y).2 (.inl hy)), good_ok sc hs a (by omega) (hga a ((cArm_mem a a).2 (.inr (.inl rfl)))), fun f hf => ih2 _ ?_ fun y hy => hga y ((cArm_mem a y).2 (.inr (.inr ⟨f, hf, hy⟩))), by omega⟩
   have := mem_w From.w a.frm f hf
   rw [From.w_eq] at this; omega
end Go.Proofs.YtcckhbconihagaaGreatDoor
