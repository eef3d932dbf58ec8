/- plan.first -/
import Derived.Test.YtcckhbconihagaaGreatDoorV3
import Derived.Test.YtcckhbconihagaaGreatDoorV12
import Derived.Test.YtcckhbconihagaaGreatDoorVAmScope
set_option linter.unusedSimpArgs false
set_option linter.unusedVariables false
set_option maxRecDepth 100000
namespace Go.Proofs.YtcckhbconihagaaGreatDoor
open Go.Am Go.Pl
theorem find_at {α : Type} {p : α → Bool} {l : List α} {i : Nat} (h : i < l.length) (hno : (l.take i).any p = false) (hp : p l[i] = true) : l.find? p = some l[i] := by
 have e : l.find? p = (l.take i ++ l.drop i).find? p := by rw [List.take_append_drop]
 rw [e, List.find?_append, List.find?_eq_none.2 (fun x hx => by rw [List.any_eq_false] at hno; simpa using hno x hx), List.drop_eq_getElem_cons h]
 simp only [Option.none_or, List.find?_cons, hp]
theorem find_end {α : Type} {p : α → Bool} {l : List α} (h : (l.take l.length).any p = false) : l.find? p = none := by
 rw [List.take_length] at h
 exact List.find?_eq_none.2 fun x hx => by rw [List.any_eq_false] at h; simpa using h x hx
theorem f166_spec (l : List Said) (k : Sorted) (opn closed : Int) : Gives Tryz.prog 166 [.slice 17 (l.map Said.v), .agg k.v, vint opn, vint closed] (.slice 15 ((firstB l k opn closed).map Bound.v)) := by
 intro s; refine acalls_of (fn := Tryz.f166) Tryz.func166 rfl (by decide) (by show 4 ≤ 42; decide) ?_; rw [Tryz.ntmps166]; refine rg fun Z z' => ?_; simp only [Sorted.v_eq, amt, seval, reduceCtorEq]; refine z' _ ?_; clear z' Z; refine AWp.seq_k fun K2 hK2 => ?_; refine rg fun Z z' => ?_; simp only [amt, seval, reduceCtorEq]; refine z' _ ?_; clear z' Z; refine AWp.block ?_; refine AWp.slen 11 (sz := 17) (es := l.map Said.v) (by simp only [am, seval, reduceCtorEq]) fun hmax => ?_; have hmx := maxLen_lt; (try rw [List.length_map] at hmax); refine AWp.loopT (ι := Nat) (fun i => i ≤ l.length ∧ (l.take i).any (isFirst k opn closed) = false) (fun i => tst [(0, .slice 17 (l.map Said.v)), (2, vint opn), (3, vint closed), (5, .loc 5 0), (11, .slice 17 (l.map Said.v)), (12, vint l.length), (13, vint i)] [(5, (k.v, 149))] s 42) (fun i => l.length - i) 0 ⟨⟨Nat.zero_le _, by simp⟩, ?_⟩ ?_
 ·refine lt0 ?_ ?_ ?_
  ·simp only [leE, Sorted.v_eq, am, seval, reduceCtorEq] <;> simp
  ·simp only [oks, Nat.reduceBEq]
  ·simp only [leB, Sorted.v_eq, am, seval, reduceCtorEq]
 ·rintro i ⟨hi, hno⟩; refine rg fun Z z' => ?_; simp only [amt, seval, reduceCtorEq]; refine z' _ ?_; clear z' Z; refine AWp.seq_k fun K5 hK5 => ?_; refine AWp.cond (t := decide ((i:Int) < (l.length : Nat))) (by simp only [am, seval, reduceCtorEq]) (fun ht => ?_) (fun ht => ?_)
  ·have hlt : i < l.length := lt_of_dec ht; have ix0 : (0 ≤ (i : Int)) = True := by simp
   have ix1 : ((i : Int) < ((l.length : Nat) : Int)) = True := by simp [hlt]
   obtain ⟨x, hx0⟩ : ∃ x, l[i] = x := ⟨_, rfl⟩; have hgl : (l.map Said.v).getD (i : Int).toNat [] = x.v := by rw [getD_map _ _ _ hlt, hx0]
   refine AWp.skip ?_; refine hK5 _ ?_; clear hK5; refine AWp.seq_k fun K6 hK6 => ?_; refine AWp.block ?_; refine rg fun Z z' => ?_; simp only [svs, ix0, ix1, true_and, hgl, amt, seval, reduceCtorEq]; refine z' _ ?_; clear z' Z; refine AWp.seq_cut (ι := Unit) (fun _ => True) (fun _ => tst [(0, .slice 17 (l.map Said.v)), (2, vint opn), (3, vint closed), (11, .slice 17 (l.map Said.v)), (12, vint l.length), (13, vint i), (5, .loc 5 0), (10, .loc 10 0), (32, vbool (isFirst k opn closed x))] [(5, (k.v, 149)), (10, (x.v, 197))] s 42) ?_ ?_
   ·refine AWp.regL1 mixed [0, 2, 1, 3, 4, 5, 6, 7, 8, 9, 10, 11, 12, 13, 14, 15] (by decide +kernel) [99999] (by decide +kernel) fun Z z' => ?_; simp only [svs, Sorted.v_eq, undef, aml, Nat.reduceBEq, amt, seval, reduceCtorEq]; rw [← Sorted.v_eq]; refine (f80_spec k _).go ?_; simp only [svs, Sorted.v_eq, undef, aml, Nat.reduceBEq, amt, seval, reduceCtorEq]
    (try rw [← Sorted.v_eq]); refine (f130_spec k x _).go ?_; simp only [svs, Sorted.v_eq, undef, aml, Nat.reduceBEq, amt, seval, reduceCtorEq]; refine gTL (fun hg4_4 => ?_) (fun hg4_4 => ?_)
    ·simp only [svs, Sorted.v_eq, hg4_4, undef, aml, Nat.reduceBEq, amt, seval, reduceCtorEq]; refine gFL (fun hg4_9 => ?_) (fun hg4_9 => ?_)
     ·simp only [svs, Sorted.v_eq, hg4_4, hg4_9, undef, aml, Nat.reduceBEq, amt, seval, reduceCtorEq]; refine z' _ ?_; clear z' Z; refine ⟨(), trivial, ?_⟩; refine lt0 ?_ ?_ ?_
      ·simp only [leE, Sorted.v_eq, isFirst, hg4_4, hg4_9, bo, Bool.not_true, Bool.not_false, ↓reduceIte, Bool.false_eq_true, am, seval, reduceCtorEq]
      ·simp only [oks, Nat.reduceBEq]
      ·simp only [leB, Sorted.v_eq, isFirst, hg4_4, hg4_9, bo, Bool.not_true, Bool.not_false, ↓reduceIte, Bool.false_eq_true, am, seval, reduceCtorEq]
     ·simp only [svs, Sorted.v_eq, hg4_4, hg4_9, undef, aml, Nat.reduceBEq, amt, seval, reduceCtorEq]; refine z' _ ?_; clear z' Z; refine ⟨(), trivial, ?_⟩; refine lt0 ?_ ?_ ?_
      ·simp only [leE, Sorted.v_eq, isFirst, hg4_4, hg4_9, bo, Bool.not_true, Bool.not_false, ↓reduceIte, Bool.false_eq_true, am, seval, reduceCtorEq]
      ·simp only [oks, Nat.reduceBEq]
      ·simp only [leB, Sorted.v_eq, isFirst, hg4_4, hg4_9, bo, Bool.not_true, Bool.not_false, ↓reduceIte, Bool.false_eq_true, am, seval, reduceCtorEq]
    ·simp only [svs, Sorted.v_eq, hg4_4, undef, aml, Nat.reduceBEq, amt, seval, reduceCtorEq]; refine z' _ ?_; clear z' Z; refine ⟨(), trivial, ?_⟩; refine lt0 ?_ ?_ ?_
     ·simp only [leE, Sorted.v_eq, isFirst, hg4_4, bo, Bool.not_true, Bool.not_false, ↓reduceIte, Bool.false_eq_true, am, seval, reduceCtorEq]
     ·simp only [oks, Nat.reduceBEq]
     ·simp only [leB, Sorted.v_eq, isFirst, hg4_4, bo, Bool.not_true, Bool.not_false, ↓reduceIte, Bool.false_eq_true, am, seval, reduceCtorEq]
   ·rintro ⟨⟩ _; refine AWp.cond (t := isFirst k opn closed x) (by simp only [am, seval, reduceCtorEq]) (fun hf => ?_) (fun hf => ?_)
    ·refine rg fun Z z' => ?_; simp only [Said.v_eq, amt, seval, reduceCtorEq]; refine z' _ ?_; clear z' Z; refine AWp.ret ?_; refine rt (by show resV Tryz.prog _ [.tmp 8] = _; simp only [resV, am, seval, reduceCtorEq]; rfl) ⟨?_, rfl⟩; simp only [oneV, firstB]; rw [find_at hlt hno (by rw [hx0]; exact hf), hx0]; simp only [List.map_cons, List.map_nil, Bound.v_eq, Term.v_eq, List.cons_append, List.nil_append]
    ·refine AWp.skip ?_; refine hK6 _ ?_; clear hK6; refine rg1 fun Z z' => ?_; simp only [amt, seval, reduceCtorEq]; refine z' _ ?_; clear z' Z; refine ⟨i + 1, ⟨⟨hlt, any_take_succ hlt hno (by rw [hx0]; exact hf)⟩, by omega⟩, ?_⟩; refine lt0 ?_ ?_ ?_
     ·simp only [leE, Sorted.v_eq, am, seval, reduceCtorEq]; rw [wrap_id (by omega) (by omega)]; simp
     ·simp only [oks, Nat.reduceBEq]
     ·simp only [leB, Sorted.v_eq, am, seval, reduceCtorEq]
  ·obtain rfl : i = l.length := eq_of_dec ht hi; refine AWp.exit ?_; simp only [exq, seval]; refine hK2 _ ?_; clear hK2; refine rg fun Z z' => ?_; simp only [am, seval, reduceCtorEq]; refine z' _ ?_; clear z' Z; refine AWp.ret ?_; refine ret_intro (vs := [.nil]) (v := .slice 15 []) (by show resV Tryz.prog _ [.tmp 8] = _; simp only [resV, am, seval, reduceCtorEq]) (Wk.nil _) (Heap.le.refl _) ⟨?_, rfl⟩; simp only [firstB]; rw [find_end hno]; rfl
theorem f157_spec (ix : Index) (hk : ix.keys.length ≤ 2^30) (l : List Said) : Gives Tryz.prog 157 [.agg ix.v, .slice 17 (l.map Said.v)] (.agg (indexed ix l).v) := by
 intro s; refine acalls_of (fn := Tryz.f157) Tryz.func157 rfl (by decide) (by show 2 ≤ 53; decide) ?_; rw [Tryz.ntmps157]; refine rg fun Z z' => ?_; simp only [Index.v_eq, amt, seval, reduceCtorEq]; refine z' _ ?_; clear z' Z; refine AWp.scope ?_; refine rg fun Z z' => ?_; simp only [Index.v_eq, amt, seval, reduceCtorEq]; refine z' _ ?_; clear z' Z; refine AWp.seq_k fun K3 hK3 => ?_; refine AWp.label ?_; refine hK3 _ ?_; clear hK3; refine AWp.seq_k fun K4 hK4 => ?_; refine rg fun Z z' => ?_; simp only [Index.v_eq, amt, seval, reduceCtorEq]; refine z' _ ?_; clear z' Z; refine AWp.block ?_; refine AWp.adoptB 5 2 (49, 14) (cs := [vint 2, vstr ix.name, .nil, .nil, .nil]) (ty := 66) (by simp only [Index.v_eq, am, seval, reduceCtorEq]) (.inl rfl) fun g0 hg0 => ?_; change s.own g0 = none at hg0; refine AWp.loopT (ι := Nat × Nat × List Term) (fun q => q.1 ≤ ix.keys.length ∧ s.own q.2.1 = none ∧ idxd l ix.keys = (q.2.2 ++ (idxd l (ix.keys.drop q.1)).1, (idxd l (ix.keys.drop q.1)).2) ∧ q.2.2.length = q.1) (fun q => tst [(1, .slice 17 (l.map Said.v)), (2, .loc 2 0), (4, .loc 4 0), (5, .loc 5 0), (14, .slice 3 (ix.keys.map Sorted.v)), (15, vint ix.keys.length), (16, vint q.1)] [(2, (ix.v, 147)), (4, ([vint 0, vstr .empty, .nil, .nil, .nil], 66)), (5, ([vint 2, vstr ix.name, .own q.2.1 14 (q.2.2.map Term.v), .nil, .nil], 66))] (s.setOwn q.2.1 (some (49, 14))) 53) (fun q => ix.keys.length - q.1) (0, g0, []) ⟨⟨Nat.zero_le _, hg0, rfl, rfl⟩, ?_⟩ ?_
 ·refine lt0 ?_ ?_ ?_
  ·simp only [leE, Index.v_eq, List.set_cons_succ, List.set_cons_zero, List.map_nil, am, seval, reduceCtorEq] <;> simp
  ·simp only [oks, Nat.reduceBEq]
  ·simp only [leB, Index.v_eq, List.set_cons_succ, List.set_cons_zero, List.map_nil, am, seval, reduceCtorEq]
 ·rintro ⟨n, g, es⟩ ⟨hi, hg, hinv, hel⟩; simp only at hi hg hinv hel ⊢; refine rg fun Z z' => ?_; simp only [amt, seval, reduceCtorEq]; refine z' _ ?_; clear z' Z; refine AWp.seq_k fun K7 hK7 => ?_; refine AWp.cond (t := decide ((n:Int) < (ix.keys.length : Nat))) (by simp only [am, seval, reduceCtorEq]) (fun ht => ?_) (fun ht => ?_)
  ·have hlt : n < ix.keys.length := lt_of_dec ht; have ix0 : (0 ≤ (n : Int)) = True := by simp
   have ix1 : ((n : Int) < ((ix.keys.length : Nat) : Int)) = True := by simp [hlt]
   obtain ⟨kk, hk0⟩ : ∃ kk, ix.keys[n] = kk := ⟨_, rfl⟩; have hgk : (ix.keys.map Sorted.v).getD (n : Int).toNat [] = kk.v := by rw [getD_map _ _ _ hlt, hk0]
   have hdrop : ix.keys.drop n = kk :: ix.keys.drop (n + 1) := by rw [List.drop_eq_getElem_cons hlt, hk0]
   refine AWp.skip ?_; refine hK7 _ ?_; clear hK7; refine AWp.seq_k fun K8 hK8 => ?_; refine AWp.block ?_; refine rg fun Z z' => ?_; simp only [ix0, ix1, true_and, hgk, Sorted.v_eq, amt, seval, reduceCtorEq]; refine z' _ ?_; clear z' Z; refine AWp.seq_k fun K10 hK10 => ?_; refine rg fun Z z' => ?_; simp only [amt, seval, reduceCtorEq]; refine z' _ ?_; clear z' Z; refine AWp.block ?_; refine AWp.slen 20 (sz := 17) (es := l.map Said.v) (by simp only [am, seval, reduceCtorEq]) fun hmax => ?_; have hmx := maxLen_lt; (try rw [List.length_map] at hmax); refine AWp.loopT (ι := Nat) (fun j => j ≤ l.length ∧ (l.take j).any (isEq kk) = false) (fun j => tst [(1, .slice 17 (l.map Said.v)), (2, .loc 2 0), (4, .loc 4 0), (5, .loc 5 0), (14, .slice 3 (ix.keys.map Sorted.v)), (15, vint ix.keys.length), (16, vint n), (20, .slice 17 (l.map Said.v)), (21, vint l.length), (7, .loc 7 0), (22, vint j)] [(2, (ix.v, 147)), (4, ([vint 0, vstr .empty, .nil, .nil, .nil], 66)), (5, ([vint 2, vstr ix.name, .own g 14 (es.map Term.v), .nil, .nil], 66)), (7, (kk.v, 149))] (s.setOwn g (some (49, 14))) 53) (fun j => l.length - j) 0 ⟨⟨Nat.zero_le _, by simp⟩, ?_⟩ ?_
   ·refine lt0 ?_ ?_ ?_
    ·simp only [leE, Index.v_eq, Sorted.v_eq, am, seval, reduceCtorEq] <;> simp
    ·simp only [oks, Nat.reduceBEq]
    ·simp only [leB, Index.v_eq, Sorted.v_eq, am, seval, reduceCtorEq]
   ·rintro j ⟨hij, hno⟩; refine rg fun Z z' => ?_; simp only [amt, seval, reduceCtorEq]; refine z' _ ?_; clear z' Z; refine AWp.seq_k fun K13 hK13 => ?_; refine AWp.cond (t := decide ((j:Int) < (l.length : Nat))) (by simp only [am, seval, reduceCtorEq]) (fun htj => ?_) (fun htj => ?_)
    ·have hltj : j < l.length := lt_of_dec htj; have ix0j : (0 ≤ (j : Int)) = True := by simp
     have ix1j : ((j : Int) < ((l.length : Nat) : Int)) = True := by simp [hltj]
     obtain ⟨x, hx0⟩ : ∃ x, l[j] = x := ⟨_, rfl⟩; have hgx : (l.map Said.v).getD (j : Int).toNat [] = x.v := by rw [getD_map _ _ _ hltj, hx0]
     refine AWp.skip ?_; refine hK13 _ ?_; clear hK13; refine AWp.seq_k fun K14 hK14 => ?_; refine AWp.block ?_; refine rg fun Z z' => ?_; simp only [svs, ix0j, ix1j, true_and, hgx, amt, seval, reduceCtorEq]; refine z' _ ?_; clear z' Z; refine AWp.seq_cut (ι := Unit) (fun _ => True) (fun _ => tst [(1, .slice 17 (l.map Said.v)), (2, .loc 2 0), (4, .loc 4 0), (5, .loc 5 0), (14, .slice 3 (ix.keys.map Sorted.v)), (15, vint ix.keys.length), (16, vint n), (20, .slice 17 (l.map Said.v)), (21, vint l.length), (22, vint j), (7, .loc 7 0), (9, .loc 9 0), (34, vbool (isEq kk x))] [(2, (ix.v, 147)), (4, ([vint 0, vstr .empty, .nil, .nil, .nil], 66)), (5, ([vint 2, vstr ix.name, .own g 14 (es.map Term.v), .nil, .nil], 66)), (7, (kk.v, 149)), (9, (x.v, 197))] (s.setOwn g (some (49, 14))) 53) ?_ ?_
     ·refine AWp.regL1 mixed [0, 1, 2, 3, 4, 6, 5, 7, 8] (by decide +kernel) [99999] (by decide +kernel) fun Z z' => ?_; simp only [svs, Sorted.v_eq, undef, aml, Nat.reduceBEq, amt, seval, reduceCtorEq]; refine gTL (fun hg8_3 => ?_) (fun hg8_3 => ?_)
      ·simp only [svs, Sorted.v_eq, hg8_3, undef, aml, Nat.reduceBEq, amt, seval, reduceCtorEq]
       (try rw [← Sorted.v_eq]); refine (f80_spec kk _).go ?_; simp only [svs, Sorted.v_eq, hg8_3, undef, aml, Nat.reduceBEq, amt, seval, reduceCtorEq]
       (try rw [← Sorted.v_eq]); refine (f130_spec kk x _).go ?_; simp only [svs, Sorted.v_eq, hg8_3, undef, aml, Nat.reduceBEq, amt, seval, reduceCtorEq]; refine z' _ ?_; clear z' Z; refine ⟨(), trivial, ?_⟩; refine lt0 ?_ ?_ ?_
       ·simp only [leE, Sorted.v_eq, isEq, hg8_3, bo, Bool.not_true, Bool.not_false, ↓reduceIte, Bool.false_eq_true, am, seval, reduceCtorEq]
       ·simp only [oks, Nat.reduceBEq]
       ·simp only [leB, Sorted.v_eq, isEq, hg8_3, bo, Bool.not_true, Bool.not_false, ↓reduceIte, Bool.false_eq_true, am, seval, reduceCtorEq]
      ·simp only [svs, Sorted.v_eq, hg8_3, undef, aml, Nat.reduceBEq, amt, seval, reduceCtorEq]; refine z' _ ?_; clear z' Z; refine ⟨(), trivial, ?_⟩; refine lt0 ?_ ?_ ?_
       ·simp only [leE, Sorted.v_eq, isEq, hg8_3, bo, Bool.not_true, Bool.not_false, ↓reduceIte, Bool.false_eq_true, am, seval, reduceCtorEq]
       ·simp only [oks, Nat.reduceBEq]
       ·simp only [leB, Sorted.v_eq, isEq, hg8_3, bo, Bool.not_true, Bool.not_false, ↓reduceIte, Bool.false_eq_true, am, seval, reduceCtorEq]
     ·rintro ⟨⟩ _; refine AWp.cond (t := isEq kk x) (by simp only [am, seval, reduceCtorEq]) (fun hf => ?_) (fun hf => ?_)
      ·have hfd : l.find? (isEq kk) = some x := by rw [find_at hltj hno (by rw [hx0]; exact hf), hx0]
       refine rg fun Z z' => ?_; simp only [svs, tvs, amt, seval, reduceCtorEq]; refine ⟨own_same _ _ _, by omega, by unfold maxLen; omega, fun g2 hg2 => ?_⟩; refine z' _ ?_; clear z' Z; refine AWp.exit ?_; simp only [exq, seval]; refine hK8 _ ?_; clear hK8; refine rg1 fun Z z' => ?_; simp only [amt, seval, reduceCtorEq]; refine z' _ ?_; clear z' Z; refine ⟨(n + 1, g2, es ++ [x.fin]), ⟨⟨hlt, own_fresh hg2, ?_, by rw [List.length_append, hel]; rfl⟩, by simp only; omega⟩, ?_⟩
       ·rw [hinv, hdrop]; simp only [idxd, hfd, List.append_assoc, List.cons_append, List.nil_append]
       refine le_tst ?_ ?_ ?_ (own_step hg _ _ _) rfl
       ·simp only [leE, Index.v_eq, List.map_append, List.map_cons, List.map_nil, am, seval, reduceCtorEq]; rw [wrap_id (by omega) (by omega)]; simp
       ·simp only [oks, Nat.reduceBEq]
       ·simp only [leB, Index.v_eq, List.map_append, List.map_cons, List.map_nil, am, seval, reduceCtorEq]
      ·refine AWp.skip ?_; refine hK14 _ ?_; clear hK14; refine rg1 fun Z z' => ?_; simp only [amt, seval, reduceCtorEq]; refine z' _ ?_; clear z' Z; refine ⟨j + 1, ⟨⟨hltj, any_take_succ hltj hno (by rw [hx0]; exact hf)⟩, by omega⟩, ?_⟩; refine lt0 ?_ ?_ ?_
       ·simp only [leE, Index.v_eq, Sorted.v_eq, am, seval, reduceCtorEq]; rw [wrap_id (by omega) (by omega)]; simp
       ·simp only [oks, Nat.reduceBEq]
       ·simp only [leB, Index.v_eq, Sorted.v_eq, am, seval, reduceCtorEq]
    ·obtain rfl : j = l.length := eq_of_dec htj hij; have hfd : l.find? (isEq kk) = none := find_end hno; refine AWp.exit ?_; simp only [exq, seval]; refine hK10 _ ?_; clear hK10; refine AWp.regL mixed [0, 1, 3, 4, 2, 6, 5, 7, 8, 9] (by decide +kernel) [99999] (by decide +kernel) fun Z z' => ?_; simp only [Sorted.v_eq, aml, Nat.reduceBEq, amt, seval, reduceCtorEq]
     (try rw [← Sorted.v_eq]); refine (f166_spec l kk 17 18 _).go ?_; simp only [Sorted.v_eq, aml, Nat.reduceBEq, amt, seval, reduceCtorEq]
     (try rw [← Sorted.v_eq]); refine (f166_spec l kk 15 16 _).go ?_; simp only [Sorted.v_eq, aml, Nat.reduceBEq, amt, seval, reduceCtorEq]; refine z' _ ?_; clear z' Z; refine AWp.exit ?_; simp only [exq, seval]; refine hK4 _ ?_; clear hK4; refine rg fun Z z' => ?_; simp only [amt, seval, reduceCtorEq]; refine z' _ ?_; clear z' Z; refine AWp.ret ?_; refine ret_intro (vs := [.agg [vint 2, vstr ix.name, .own g 14 (es.map Term.v), .slice 15 ((firstB l kk 17 18).map Bound.v), .slice 15 ((firstB l kk 15 16).map Bound.v)]]) (v := .agg [vint 2, vstr ix.name, .slice 14 (es.map Term.v), .slice 15 ((firstB l kk 17 18).map Bound.v), .slice 15 ((firstB l kk 15 16).map Bound.v)]) (by show resV Tryz.prog _ [.cell 4 66] = _; simp only [resV, amt, seval, reduceCtorEq]) (Wk.agg ⟨Wk.refl _, Wk.refl _, Wk.own _ _ _, Wk.refl _, Wk.refl _, trivial⟩) (own_drop hg _) ⟨?_, rfl⟩; rw [Path.v_eq]; simp only [indexed]; rw [hinv, hdrop]; simp only [idxd, hfd, List.append_nil]
  ·obtain rfl : n = ix.keys.length := eq_of_dec ht hi; refine AWp.exit ?_; simp only [exq, seval]; refine hK4 _ ?_; clear hK4; refine rg fun Z z' => ?_; simp only [amt, seval, reduceCtorEq]; refine z' _ ?_; clear z' Z; refine AWp.ret ?_; refine ret_intro (vs := [.agg [vint 2, vstr ix.name, .own g 14 (es.map Term.v), .nil, .nil]]) (v := .agg [vint 2, vstr ix.name, .slice 14 (es.map Term.v), .slice 15 [], .slice 15 []]) (by show resV Tryz.prog _ [.cell 4 66] = _; simp only [resV, amt, seval, reduceCtorEq]) (Wk.agg ⟨Wk.refl _, Wk.refl _, Wk.own _ _ _, Wk.nil _, Wk.nil _, trivial⟩) (own_drop hg _) ⟨?_, rfl⟩; rw [Path.v_eq]; simp only [indexed]; rw [hinv, List.drop_length]; simp only [idxd, List.append_nil, List.map_nil]
theorem oneIf_len {α β : Type} (p : α → Bool) (f : α → β) : ∀ l : List α, (l.flatMap (oneIf p f)).length ≤ l.length
 | [] => by simp
 | x :: l => by
  have := oneIf_len p f l
  rw [List.flatMap_cons, List.length_append, List.length_cons]
  have h1 : (oneIf p f x).length ≤ 1 := by unfold oneIf; split <;> simp
  omega
theorem scan_wk : WkL [.agg [vint 0, vstr .empty, .nil, .nil, .nil]] [.agg scanP.v] :=
 ⟨Wk.agg (show WkL _ [vint 0, vstr .empty, .slice 14 [], .slice 15 [], .slice 15 []] from ⟨Wk.refl _, Wk.refl _, Wk.nil _, Wk.nil _, Wk.nil _, trivial⟩), trivial⟩
theorem rowid_wk (t : Term) : WkL [.agg [vint 1, vstr .empty, .slice 14 [t.v], .nil, .nil]] [.agg (rowidP t).v] :=
 ⟨Wk.agg (show WkL _ [vint 1, vstr .empty, .slice 14 [t.v], .slice 15 [], .slice 15 []] from ⟨Wk.refl _, Wk.refl _, Wk.refl _, Wk.nil _, Wk.nil _, trivial⟩), trivial⟩
def ixTo (sc : Schema) (t : Table) (M : List Said) (n : Nat) : List Path := (List.range n).flatMap (oneIf (isIndex sc t) fun n => indexed (sc.indexes.getD n zindex) M)
theorem ixTo_succ (sc : Schema) (t : Table) (M : List Said) (n : Nat) : ixTo sc t M (n + 1) = ixTo sc t M n ++ oneIf (isIndex sc t) (fun n => indexed (sc.indexes.getD n zindex) M) n := by
 unfold ixTo; rw [List.range_succ, List.flatMap_append]; simp
theorem ixTo_len (sc : Schema) (t : Table) (M : List Said) (n : Nat) : (ixTo sc t M n).length ≤ n := by
 have := oneIf_len (isIndex sc t) (fun n => indexed (sc.indexes.getD n zindex) M) (List.range n)
 rwa [List.length_range] at this
theorem f144_spec (sc : Schema) (hs1 : sc.views.isCell = true) (a : Arm) (k : Int) (ahead : List Int) : Gives Tryz.prog 144 [.agg (sc.v ++ a.v), vint k, vints ahead] (.func 156 [] [.elt (sc.v ++ a.v) 0, .elt [vint k] 0, .elt [vints ahead] 0]) := by
 intro s; refine acalls_of (fn := Tryz.f144) Tryz.func144 rfl (by decide) (by show 3 ≤ 8; decide) ?_; rw [Tryz.ntmps144]; refine rg fun Z z' => ?_; simp only [pv_all hs1, pvs, amt, seval, reduceCtorEq]; refine z' _ ?_; clear z' Z; refine AWp.frz 3 (cs := sc.v ++ a.v) (ty := 77) (by simp only [am, seval, reduceCtorEq]) ?_; refine AWp.weaken (st' := tst [(3, .elt (sc.v ++ a.v) 0), (4, .loc 4 0), (5, .loc 5 0)] [(4, ([vint k], 3)), (5, ([vints ahead], 50))] (s) 8) ?_ ?_
 ·refine lt0 ?_ ?_ ?_
  ·simp only [leE, St.frz, frzV, am, seval, reduceCtorEq]
  ·simp only [oks, Nat.reduceBEq]
  ·simp only [leB, St.frz, am, seval, reduceCtorEq]
 refine AWp.frz 4 (cs := [vint k]) (ty := 3) (by simp only [am, seval, reduceCtorEq]) ?_; refine AWp.weaken (st' := tst [(3, .elt (sc.v ++ a.v) 0), (4, .elt [vint k] 0), (5, .loc 5 0)] [(5, ([vints ahead], 50))] (s) 8) ?_ ?_
 ·refine lt0 ?_ ?_ ?_
  ·simp only [leE, St.frz, frzV, am, seval, reduceCtorEq]
  ·simp only [oks, Nat.reduceBEq]
  ·simp only [leB, St.frz, am, seval, reduceCtorEq]
 refine AWp.frz 5 (cs := [vints ahead]) (ty := 50) (by simp only [am, seval, reduceCtorEq]) ?_; refine AWp.weaken (st' := tst [(3, .elt (sc.v ++ a.v) 0), (4, .elt [vint k] 0), (5, .elt [vints ahead] 0)] [] (s) 8) ?_ ?_
 ·refine lt0 ?_ ?_ ?_
  ·simp only [leE, St.frz, frzV, am, seval, reduceCtorEq]
  ·simp only [oks, Nat.reduceBEq]
  ·simp only [leB, St.frz, am, seval, reduceCtorEq]
 refine rg fun Z z' => ?_; simp only [pv_all hs1, pvs, am, seval, reduceCtorEq]; refine z' _ ?_; clear z' Z; refine AWp.ret ?_; refine rt (by show resV Tryz.prog _ [.tmp 6] = _; simp only [resV, am, seval, reduceCtorEq]; rfl) ⟨?_, rfl⟩; rfl
set_option maxHeartbeats 1000000 in
theorem f156_spec (sc : Schema) (hs : SchOk sc) (a : Arm) (k : Int) (hk0 : 0 ≤ k) (hk1 : k < ((a.frm.length : Nat) : Int)) (hu : UOk a k) (hnm : (a.src k).name.size ≤ 2^62) (hz : ∀ x ∈ usable a k, x.fin.w ≤ 274945015808) (hul : (usable a k).length ≤ 2^39) (hkeys : ∀ i ∈ sc.indexes, i.keys.length ≤ 2^30) (hil : sc.indexes.length ≤ 2^40) (ahead : List Int) (N : Nat) (hN : (usable a k).length + sc.indexes.length + 1 ≤ N) (Hs : List Path → Heap → Prop) (lo : Ghost) (yl : Nat)
  (hY : ∀ pre x s, Hs pre s → pre.length < N → YieldOk Tryz.prog lo yl [.agg x.v] s fun v s' => v = vbool true ∧ Hs (pre ++ [x]) s') (s : Heap) (h0 : Hs [] s) : ACallsO Tryz.prog lo 156 ([yieldV yl] ++ [.elt (sc.v ++ a.v) 0, .elt [vint k] 0, .elt [vints ahead] 0]) s fun _ s' => Hs (offers sc a k ahead) s' := by
 have hs1 := hs.1
 have ix0 : (0 ≤ k) = True := by simp [hk0]
 have ix1 : (k < ((a.frm.length : Nat) : Int)) = True := by simp [hk1]
 have hgd := src_at a hk0 hk1
 refine acallsO_of (fn := Tryz.f156) Tryz.func156 rfl (by decide) (by show 4 ≤ 114; decide) ?_
 rw [Tryz.ntmps156]
 refine AWp.reg fun R1 hR1 => ?_
 simp only [pv_all hs1, pvs, ix0, ix1, true_and, hgd, From.v_eq, ty3, ty72, ty75, ty77, ty107, tstO, am, seval, reduceCtorEq]
 refine hR1 _ ?_; clear hR1 R1
 refine AWp.reg fun R2 hR2 => ?_
 simp only [pv_all hs1, pvs, From.v_eq, Table.v_all, Table.v_len, Table.v_take, ty9, ty26, ty77, ty107, ty137, tstO, am, seval, reduceCtorEq]
 refine (f76_spec sc hs (a.src k).name hnm _).mono fun v' s' h => ?_
 rw [h.1, h.2]; clear h v' s'
 simp only [pv_all hs1, pvs, From.v_eq, Table.v_all, Table.v_len, Table.v_take, ty9, ty26, ty77, ty107, ty137, tstO, am, seval, reduceCtorEq]
 refine hR2 _ ?_; clear hR2 R2
 refine AWp.seq_k fun K3 hK3 => ?_
 refine AWp.seq_cut (ι := Unit) (fun _ => True) (fun _ => tstO lo [(0, yieldV yl), (1, .elt (sc.v ++ a.v) 0), (2, .elt [vint k] 0), (3, .elt [vints ahead] 0), (5, .loc 5 0), (6, .loc 6 0), (36, vbool (noTable sc a k))] [(5, ((a.src k).v, 107)), (6, ((sc.table (a.src k).name).v, 137))] s 114) ?_ ?_
 ·refine AWp.reg1 fun R4 hR4 => ?_
  simp only [From.v_eq, ty105, ty107, undef, tstO, am, seval, reduceCtorEq]
  refine gF (fun hg2_3 => ?_) (fun hg2_3 => ?_)
  ·simp only [From.v_eq, hg2_3, ty105, ty107, undef, tstO, am, seval, reduceCtorEq]
   refine hR4 _ ?_; clear hR4 R4
   refine ⟨(), trivial, ?_⟩
   refine le_tstO ?_ ?_ ?_ (Heap.le.refl _) rfl
   ·simp only [leE, yieldV, From.v_eq, noTable, hg2_3, bo, Bool.not_true, Bool.not_false, ↓reduceIte, Bool.false_eq_true, tstO, am, seval, reduceCtorEq]
   ·simp only [okL, yieldV, keyIn, Nat.reduceBEq, Bool.or_true, Bool.true_or, Bool.or_false, and_self]
   ·simp only [leB, From.v_eq, noTable, hg2_3, bo, Bool.not_true, Bool.not_false, ↓reduceIte, Bool.false_eq_true, tstO, am, seval, reduceCtorEq]
  ·simp only [From.v_eq, hg2_3, ty105, ty107, undef, tstO, am, seval, reduceCtorEq]
   refine hR4 _ ?_; clear hR4 R4
   refine ⟨(), trivial, ?_⟩
   refine le_tstO ?_ ?_ ?_ (Heap.le.refl _) rfl
   ·simp only [leE, yieldV, From.v_eq, noTable, hg2_3, bo, Bool.not_true, Bool.not_false, ↓reduceIte, Bool.false_eq_true, tstO, am, seval, reduceCtorEq]
   ·simp only [okL, yieldV, keyIn, Nat.reduceBEq, Bool.or_true, Bool.true_or, Bool.or_false, and_self]
   ·simp only [leB, From.v_eq, noTable, hg2_3, bo, Bool.not_true, Bool.not_false, ↓reduceIte, Bool.false_eq_true, tstO, am, seval, reduceCtorEq]
 ·rintro ⟨⟩ _
  refine AWp.cond (t := noTable sc a k) (by simp only [tstO, am, seval, reduceCtorEq]) (fun hT => ?_) (fun hT => ?_)
  ·refine AWp.regY' 2 rfl (by decide +kernel) fun R5 hR5 => ?_
   simp only [ty66, undef, tstO, am, seval, reduceCtorEq]
   refine ⟨?_, ?_, yl, [.agg [vint 0, vstr .empty, .nil, .nil, .nil]], _, ?_, ?_, YieldOk.wk scan_wk (hY _ scanP _ h0 (by simp only [List.length_nil]; omega)), ?_⟩
   ·simp only [gdOf, List.getElem?_toArray, tstO, am, seval, reduceCtorEq]
   ·simp only [tstO, am, seval, reduceCtorEq]
   ·simp only [yieldV, tstO, am, seval, reduceCtorEq]
   ·simp only [tstO, am, seval, reduceCtorEq]
   rintro _ s2 ⟨rfl, hH2⟩
   simp only [Bool.not_true, ty66, undef, tstO, am, seval, reduceCtorEq]
   refine hR5 _ ?_; clear hR5 R5
   refine AWp.ret ?_
   refine ret_intro (vs := []) rfl (Wk.refl _) (Heap.le.refl _) ?_
   unfold offers; rw [if_pos hT]; exact hH2
  ·refine AWp.skip ?_
   refine hK3 _ ?_; clear hK3
   refine AWp.reg fun R6 hR6 => ?_
   simp only [tstO, am, seval, reduceCtorEq]
   refine hR6 _ ?_; clear hR6 R6
   refine AWp.seq_k fun K7 hK7 => ?_
   refine AWp.reg fun R8 hR8 => ?_
   simp only [pv_all hs1, pvs, ty3, ty75, ty77, ty195, ty197, tstO, am, seval, reduceCtorEq]
   refine (f124_spec a k hk0 hk1 hu.w hu.len hu.wlen hu.f _).mono fun v' s' h => ?_
   rw [h.1, h.2]; clear h v' s'
   simp only [pv_all hs1, pvs, ty3, ty75, ty77, ty195, ty197, tstO, am, seval, reduceCtorEq]
   refine hR8 _ ?_; clear hR8 R8
   refine AWp.block ?_
   obtain ⟨U, hU⟩ : ∃ U, usable a k = U := ⟨_, rfl⟩
   rw [hU] at hz hul hN ⊢
   refine AWp.slen 43 (sz := 17) (es := U.map Said.v) (by simp only [tstO, am, seval, reduceCtorEq]) fun hmax43 => ?_
   have hmx := maxLen_lt; rw [List.length_map] at hmax43
   refine AWp.adoptE 8 (197, 17) (.inl (by simp only [tstO, am, seval, reduceCtorEq])) fun g0 hg0 => ?_
   change s.own g0 = none at hg0
   refine AWp.loopT (ι := Nat × Nat) (fun i => i.1 ≤ U.length ∧ s.own i.2 = none) (fun i => tstO lo [(0, yieldV yl), (1, .elt (sc.v ++ a.v) 0), (2, .elt [vint k] 0), (3, .elt [vints ahead] 0), (6, .loc 6 0), (8, .own i.2 17 (((U.take i.1).flatMap (oneIf (fun x => within x.fin ahead) id)).map Said.v)), (43, .slice 17 (U.map Said.v)), (44, vint U.length), (45, vint i.1)] [(6, ((sc.table (a.src k).name).v, 137))] (s.setOwn i.2 (some (197, 17))) 114) (fun i => U.length - i.1) (0, g0) ⟨⟨Nat.zero_le _, hg0⟩, ?_⟩ ?_
   ·refine le_tstO ?_ ?_ ?_ (Heap.le.refl _) rfl
    ·simp only [leE, yieldV, tstO, am, seval, reduceCtorEq] <;> simp
    ·simp only [okL, yieldV, keyIn, Nat.reduceBEq, Bool.or_true, Bool.true_or, Bool.or_false, and_self]
    ·simp only [leB, tstO, am, seval, reduceCtorEq]
   ·rintro ⟨i, g1⟩ ⟨hi, hg1⟩
    simp only at hi hg1 ⊢
    refine AWp.reg fun R9 hR9 => ?_
    simp only [ty3, tstO, am, seval, reduceCtorEq]
    refine hR9 _ ?_; clear hR9 R9
    refine AWp.seq_k fun K10 hK10 => ?_
    refine AWp.cond (t := decide ((i:Int) < (U.length : Nat))) (by simp only [tstO, am, seval, reduceCtorEq]) (fun ht => ?_) (fun ht => ?_)
    ·have hlt : i < U.length := lt_of_dec ht
     have ix0 : (0 ≤ (i : Int)) = True := by simp
     have ix1 : ((i : Int) < ((U.length : Nat) : Int)) = True := by simp [hlt]
     obtain ⟨x, hx0⟩ : ∃ x, U[i] = x := ⟨_, rfl⟩
     have hxm : x ∈ U := hx0 ▸ List.getElem_mem hlt
     have hgx : (U.map Said.v).getD (i : Int).toNat [] = x.v := by rw [getD_map _ _ _ hlt, hx0]
     have ixi0 : (0 ≤ (i : Int)) = True := by simp
     have ixi1 : ((i : Int) < ((U.length : Nat) : Int)) = True := by simp [hlt]
     have hpl : ((U.take i).flatMap (oneIf (fun x => within x.fin ahead) id)).length ≤ U.length := Nat.le_trans (oneIf_len _ _ _) (by rw [List.length_take]; omega)
     refine AWp.skip ?_
     refine hK10 _ ?_; clear hK10
     refine AWp.seq_k fun K11 hK11 => ?_
     refine AWp.block ?_
     refine AWp.reg fun R12 hR12 => ?_
     simp only [svs, ixi0, ixi1, true_and, hgx, ty195, ty197, tstO, am, seval, reduceCtorEq]
     refine hR12 _ ?_; clear hR12 R12
     refine AWp.reg fun R13 hR13 => ?_
     simp only [svs, tvs, ty3, ty49, ty50, ty197, tstO, am, seval, reduceCtorEq]
     refine (f50_spec x.fin (hz x hxm) ahead _).mono fun v' s' h => ?_
     rw [h.1, h.2]; clear h v' s'
     simp only [svs, tvs, ty3, ty49, ty50, ty197, tstO, am, seval, reduceCtorEq]
     refine hR13 _ ?_; clear hR13 R13
     refine AWp.condK fun C1 C2 hC1 hC2 => ?_
     simp only [condP, tstO, am, seval, reduceCtorEq]
     refine ⟨fun hc52 => hC1 ?_, fun hc52 => hC2 ?_⟩ <;> clear hC1 hC2 C1 C2
     ·refine AWp.reg1 fun R14 hR14 => ?_
      simp only [svs, ty195, ty197, tstO, am, seval, reduceCtorEq]
      refine ⟨own_same _ _ _, by omega, by unfold maxLen; omega, fun g2 hg2 => ?_⟩
      refine hR14 _ ?_; clear hR14 R14
      refine hK11 _ ?_; clear hK11
      refine AWp.reg1 fun R15 hR15 => ?_
      simp only [ty3, tstO, am, seval, reduceCtorEq]
      refine hR15 _ ?_; clear hR15 R15
      have hsucc := flat_succ (oneIf (fun x => within x.fin ahead) id) U hlt
      have e1 : oneIf (fun x => within x.fin ahead) id U[i] = [x] := by unfold oneIf; simp only [hx0, hc52, ↓reduceIte, Bool.false_eq_true, id]
      refine ⟨(i + 1, g2), ⟨⟨hlt, own_fresh hg2⟩, by simp only; omega⟩, ?_⟩
      refine le_tstO ?_ ?_ ?_ (own_step hg1 _ _ _) rfl
      ·simp only [leE, yieldV, tstO, am, seval, reduceCtorEq]; rw [wrap_id (by omega) (by omega), hsucc, e1]; simp
      ·simp only [okL, yieldV, keyIn, Nat.reduceBEq, Bool.or_true, Bool.true_or, Bool.or_false, and_self]
      ·simp only [leB, tstO, am, seval, reduceCtorEq]
     ·refine AWp.skip ?_
      refine hK11 _ ?_; clear hK11
      refine AWp.reg1 fun R16 hR16 => ?_
      simp only [ty3, tstO, am, seval, reduceCtorEq]
      refine hR16 _ ?_; clear hR16 R16
      have hsucc := flat_succ (oneIf (fun x => within x.fin ahead) id) U hlt
      have e1 : oneIf (fun x => within x.fin ahead) id U[i] = [] := by unfold oneIf; simp only [hx0, hc52, ↓reduceIte, Bool.false_eq_true, id]
      refine ⟨(i + 1, g1), ⟨⟨hlt, hg1⟩, by simp only; omega⟩, ?_⟩
      refine le_tstO ?_ ?_ ?_ (Heap.le.refl _) rfl
      ·simp only [leE, yieldV, tstO, am, seval, reduceCtorEq]; rw [wrap_id (by omega) (by omega), hsucc, e1]; simp
      ·simp only [okL, yieldV, keyIn, Nat.reduceBEq, Bool.or_true, Bool.true_or, Bool.or_false, and_self]
      ·simp only [leB, tstO, am, seval, reduceCtorEq]
    ·obtain rfl : i = U.length := eq_of_dec ht hi
     refine AWp.exit ?_
     simp only [exq, seval]
     refine hK7 _ ?_; clear hK7
     have hM : sayable a k ahead = U.flatMap (oneIf (fun x => within x.fin ahead) id) := by unfold sayable; rw [hU]
     rw [List.take_length, ← hM]
     have hMl : (sayable a k ahead).length ≤ U.length := by rw [hM]; exact oneIf_len _ _ _
     generalize hM2 : sayable a k ahead = M at hM hMl ⊢
     refine AWp.wkE 8 (.slice 17 (M.map Said.v)) (by simp only [isLoc, tstO, am, seval, reduceCtorEq]) (by simp only [tstO, am, seval, reduceCtorEq]; exact Wk.own _ _ _) ?_
     refine AWp.weaken (st' := tstO lo [(0, yieldV yl), (1, .elt (sc.v ++ a.v) 0), (2, .elt [vint k] 0), (3, .elt [vints ahead] 0), (6, .loc 6 0), (8, .slice 17 (M.map Said.v))] [(6, ((sc.table (a.src k).name).v, 137))] s 114) ?_ ?_
     ·refine le_tstO ?_ ?_ ?_ (own_drop hg1 _) rfl
      ·simp only [leE, yieldV, tstO, am, seval, reduceCtorEq]
      ·simp only [okL, yieldV, keyIn, Nat.reduceBEq, Bool.or_true, Bool.true_or, Bool.or_false, and_self]
      ·simp only [leB, tstO, am, seval, reduceCtorEq]
     refine AWp.reg fun R17 hR17 => ?_
     simp only [pv_all hs1, pvs, ty3, ty77, tstO, am, seval, reduceCtorEq]
     refine (f78_spec sc hs a k hk0 hk1 hnm _).mono fun v' s' h => ?_
     rw [h.1, h.2]; clear h v' s'
     simp only [pv_all hs1, pvs, ty3, ty77, tstO, am, seval, reduceCtorEq]
     refine hR17 _ ?_; clear hR17 R17
     refine AWp.seq_k fun K18 hK18 => ?_
     refine AWp.reg fun R19 hR19 => ?_
     simp only [ty195, ty197, tstO, am, seval, reduceCtorEq]
     refine hR19 _ ?_; clear hR19 R19
     refine AWp.block ?_
     refine AWp.slen 61 (sz := 17) (es := M.map Said.v) (by simp only [tstO, am, seval, reduceCtorEq]) fun hmax61 => ?_
     have hmx := maxLen_lt; rw [List.length_map] at hmax61
     refine AWp.loopT (ι := Nat × Heap) (fun i => i.1 ≤ M.length ∧ Hs (rowids (M.take i.1) (sc.table (a.src k).name).pk) i.2) (fun i => tstO lo [(0, yieldV yl), (1, .elt (sc.v ++ a.v) 0), (2, .elt [vint k] 0), (3, .elt [vints ahead] 0), (6, .loc 6 0), (8, .slice 17 (M.map Said.v)), (11, .func 127 [] [.elt (sc.table (a.src k).name).v 0]), (61, .slice 17 (M.map Said.v)), (62, vint M.length), (63, vint i.1)] [(6, ((sc.table (a.src k).name).v, 137))] i.2 114) (fun i => M.length - i.1) (0, s) ⟨⟨Nat.zero_le _, h0⟩, ?_⟩ ?_
     ·refine le_tstO ?_ ?_ ?_ (Heap.le.refl _) rfl
      ·simp only [leE, yieldV, tstO, am, seval, reduceCtorEq] <;> simp
      ·simp only [okL, yieldV, keyIn, Nat.reduceBEq, Bool.or_true, Bool.true_or, Bool.or_false, and_self]
      ·simp only [leB, tstO, am, seval, reduceCtorEq]
     ·rintro ⟨i, s1⟩ ⟨hi, hH⟩
      simp only at hi hH ⊢
      refine AWp.reg fun R20 hR20 => ?_
      simp only [ty3, tstO, am, seval, reduceCtorEq]
      refine hR20 _ ?_; clear hR20 R20
      refine AWp.seq_k fun K21 hK21 => ?_
      have hij : i ≤ M.length := hi
      refine AWp.cond (t := decide ((i:Int) < (M.length : Nat))) (by simp only [tstO, am, seval, reduceCtorEq]) (fun htj => ?_) (fun htj => ?_)
      ·have hltj : i < M.length := lt_of_dec htj
       have ix0j : (0 ≤ (i : Int)) = True := by simp
       have ix1j : ((i : Int) < ((M.length : Nat) : Int)) = True := by simp [hltj]
       obtain ⟨y, hy0⟩ : ∃ y, M[i] = y := ⟨_, rfl⟩
       have hgy : (M.map Said.v).getD (i : Int).toNat [] = y.v := by rw [getD_map _ _ _ hltj, hy0]
       have ixj0 : (0 ≤ (i : Int)) = True := by simp
       have ixj1 : ((i : Int) < ((M.length : Nat) : Int)) = True := by simp [hltj]
       refine AWp.skip ?_
       refine hK21 _ ?_; clear hK21
       refine AWp.seq_k fun K22 hK22 => ?_
       refine AWp.block ?_
       refine AWp.reg fun R23 hR23 => ?_
       simp only [svs, ixj0, ixj1, true_and, hgy, ty195, ty197, tstO, am, seval, reduceCtorEq]
       refine hR23 _ ?_; clear hR23 R23
       rcases (Bool.eq_false_or_eq_true (y.op == 13)) with h1 | h1
       ·rcases (Bool.eq_false_or_eq_true (rowid (sc.table (a.src k).name).pk y)) with h2 | h2
        ·have hcy : ((y.op == 13) && rowid (sc.table (a.src k).name).pk y) = true := by rw [h1, h2]; rfl
         refine AWp.regY' 14 rfl (by decide +kernel) fun R24 hR24 => ?_
         simp only [svs, tvs, h1, h2, ty31, ty41, ty49, ty66, ty197, undef, tstO, am, seval, reduceCtorEq]
         refine (f127_spec (sc.table (a.src k).name) y _).mono fun v' s' h => ?_
         rw [h.1, h.2]; clear h v' s'
         simp only [svs, tvs, h1, h2, ty31, ty41, ty49, ty66, ty197, undef, tstO, am, seval, reduceCtorEq]
         refine ⟨?_, ?_, yl, [.agg [vint 1, vstr .empty, .slice 14 [y.fin.v], .nil, .nil]], _, ?_, ?_, YieldOk.wk (rowid_wk _) (hY _ (rowidP y.fin) _ hH (by have := oneIf_len (fun x => (x.op == 13) && rowid (sc.table (a.src k).name).pk x) (fun x => rowidP x.fin) (M.take i); rw [List.length_take] at this; unfold rowids; omega)), ?_⟩
         ·simp only [gdOf, List.getElem?_toArray, svs, tvs, h1, h2, tstO, am, seval, reduceCtorEq]
         ·simp only [svs, tvs, h1, h2, tstO, am, seval, reduceCtorEq]
         ·simp only [yieldV, svs, tvs, h1, h2, tstO, am, seval, reduceCtorEq]
         ·simp only [svs, tvs, h1, h2, tstO, am, seval, reduceCtorEq]
         rintro _ s2 ⟨rfl, hH2⟩
         simp only [Bool.not_true, svs, tvs, h1, h2, ty31, ty41, ty49, ty66, ty197, undef, tstO, am, seval, reduceCtorEq]
         refine hR24 _ ?_; clear hR24 R24
         refine AWp.cond (t := false) (by simp only [tstO, am, seval, reduceCtorEq]) (fun h => by cases h) (fun _ => ?_)
         refine AWp.skip ?_
         refine hK22 _ ?_; clear hK22
         refine AWp.reg1 fun R25 hR25 => ?_
         simp only [ty3, tstO, am, seval, reduceCtorEq]
         refine hR25 _ ?_; clear hR25 R25
         have hsucc := flat_succ (oneIf (fun x => (x.op == 13) && rowid (sc.table (a.src k).name).pk x) fun x => rowidP x.fin) M hltj
         have e1 : oneIf (fun x => (x.op == 13) && rowid (sc.table (a.src k).name).pk x) (fun x => rowidP x.fin) M[i] = [rowidP y.fin] := by unfold oneIf; simp only [hy0, hcy, ↓reduceIte, Bool.false_eq_true]
         refine ⟨(i + 1, s2), ⟨⟨hltj, ?_⟩, by simp only; omega⟩, ?_⟩
         ·unfold rowids at hH2 ⊢; simp only; rw [hsucc, e1]; exact hH2
         refine le_tstO ?_ ?_ ?_ (Heap.le.refl _) rfl
         ·simp only [leE, yieldV, tstO, am, seval, reduceCtorEq]; rw [wrap_id (by omega) (by omega)]; simp
         ·simp only [okL, yieldV, keyIn, Nat.reduceBEq, Bool.or_true, Bool.true_or, Bool.or_false, and_self]
         ·simp only [leB, tstO, am, seval, reduceCtorEq]
        ·have hcy : ((y.op == 13) && rowid (sc.table (a.src k).name).pk y) = false := by rw [h1, h2]; rfl
         refine AWp.reg fun R24 hR24 => ?_
         simp only [svs, h1, h2, ty31, ty41, ty49, ty66, ty197, undef, tstO, am, seval, reduceCtorEq]
         refine (f127_spec (sc.table (a.src k).name) y _).mono fun v' s' h => ?_
         rw [h.1, h.2]; clear h v' s'
         simp only [svs, h1, h2, ty31, ty41, ty49, ty66, ty197, undef, tstO, am, seval, reduceCtorEq]
         refine hR24 _ ?_; clear hR24 R24
         refine AWp.cond (t := false) (by simp only [tstO, am, seval, reduceCtorEq]) (fun h => by cases h) (fun _ => ?_)
         refine AWp.skip ?_
         refine hK22 _ ?_; clear hK22
         refine AWp.reg1 fun R25 hR25 => ?_
         simp only [ty3, tstO, am, seval, reduceCtorEq]
         refine hR25 _ ?_; clear hR25 R25
         have hsucc := flat_succ (oneIf (fun x => (x.op == 13) && rowid (sc.table (a.src k).name).pk x) fun x => rowidP x.fin) M hltj
         have e1 : oneIf (fun x => (x.op == 13) && rowid (sc.table (a.src k).name).pk x) (fun x => rowidP x.fin) M[i] = [] := by unfold oneIf; simp only [hy0, hcy, ↓reduceIte, Bool.false_eq_true]
         refine ⟨(i + 1, s1), ⟨⟨hltj, ?_⟩, by simp only; omega⟩, ?_⟩
         ·unfold rowids at hH ⊢; simp only; rw [hsucc, e1, List.append_nil]; exact hH
         refine le_tstO ?_ ?_ ?_ (Heap.le.refl _) rfl
         ·simp only [leE, yieldV, tstO, am, seval, reduceCtorEq]; rw [wrap_id (by omega) (by omega)]; simp
         ·simp only [okL, yieldV, keyIn, Nat.reduceBEq, Bool.or_true, Bool.true_or, Bool.or_false, and_self]
         ·simp only [leB, tstO, am, seval, reduceCtorEq]
       ·have hcy : ((y.op == 13) && rowid (sc.table (a.src k).name).pk y) = false := by rw [h1]; rfl
        refine AWp.reg fun R24 hR24 => ?_
        simp only [svs, h1, ty31, ty41, ty49, ty66, ty197, undef, tstO, am, seval, reduceCtorEq]
        refine hR24 _ ?_; clear hR24 R24
        refine AWp.cond (t := false) (by simp only [tstO, am, seval, reduceCtorEq]) (fun h => by cases h) (fun _ => ?_)
        refine AWp.skip ?_
        refine hK22 _ ?_; clear hK22
        refine AWp.reg1 fun R25 hR25 => ?_
        simp only [ty3, tstO, am, seval, reduceCtorEq]
        refine hR25 _ ?_; clear hR25 R25
        have hsucc := flat_succ (oneIf (fun x => (x.op == 13) && rowid (sc.table (a.src k).name).pk x) fun x => rowidP x.fin) M hltj
        have e1 : oneIf (fun x => (x.op == 13) && rowid (sc.table (a.src k).name).pk x) (fun x => rowidP x.fin) M[i] = [] := by unfold oneIf; simp only [hy0, hcy, ↓reduceIte, Bool.false_eq_true]
        refine ⟨(i + 1, s1), ⟨⟨hltj, ?_⟩, by simp only; omega⟩, ?_⟩
        ·unfold rowids at hH ⊢; simp only; rw [hsucc, e1, List.append_nil]; exact hH
        refine le_tstO ?_ ?_ ?_ (Heap.le.refl _) rfl
        ·simp only [leE, yieldV, tstO, am, seval, reduceCtorEq]; rw [wrap_id (by omega) (by omega)]; simp
        ·simp only [okL, yieldV, keyIn, Nat.reduceBEq, Bool.or_true, Bool.true_or, Bool.or_false, and_self]
        ·simp only [leB, tstO, am, seval, reduceCtorEq]
      ·obtain rfl : i = M.length := eq_of_dec htj hij
       refine AWp.exit ?_
       simp only [exq, seval]
       refine hK18 _ ?_; clear hK18
       refine AWp.seq_k fun K26 hK26 => ?_
       refine AWp.reg fun R27 hR27 => ?_
       simp only [pv_all hs1, pvs, ty23, ty26, ty77, ty147, tstO, am, seval, reduceCtorEq]
       refine hR27 _ ?_; clear hR27 R27
       refine AWp.block ?_
       refine AWp.loopT (ι := Nat × Heap) (fun i => i.1 ≤ sc.indexes.length ∧ Hs (rowids M (sc.table (a.src k).name).pk ++ ixTo sc (sc.table (a.src k).name) M i.1) i.2) (fun i => tstO lo [(0, yieldV yl), (1, .elt (sc.v ++ a.v) 0), (2, .elt [vint k] 0), (3, .elt [vints ahead] 0), (6, .loc 6 0), (8, .slice 17 (M.map Said.v)), (87, .slice 5 (sc.indexes.map Index.v)), (88, vint sc.indexes.length), (89, vint i.1)] [(6, ((sc.table (a.src k).name).v, 137))] i.2 114) (fun i => sc.indexes.length - i.1) (0, s1) ⟨⟨Nat.zero_le _, by simpa [ixTo] using hH⟩, ?_⟩ ?_
       ·refine le_tstO ?_ ?_ ?_ (Heap.le.refl _) rfl
        ·simp only [leE, yieldV, tstO, am, seval, reduceCtorEq] <;> simp
        ·simp only [okL, yieldV, keyIn, Nat.reduceBEq, Bool.or_true, Bool.true_or, Bool.or_false, and_self]
        ·simp only [leB, tstO, am, seval, reduceCtorEq]
       ·clear hH s1
        rintro ⟨n, s1⟩ ⟨hi, hH⟩
        simp only at hi hH ⊢
        refine AWp.reg fun R28 hR28 => ?_
        simp only [ty3, tstO, am, seval, reduceCtorEq]
        refine hR28 _ ?_; clear hR28 R28
        refine AWp.seq_k fun K29 hK29 => ?_
        have hin : n ≤ sc.indexes.length := hi
        refine AWp.cond (t := decide ((n:Int) < (sc.indexes.length : Nat))) (by simp only [tstO, am, seval, reduceCtorEq]) (fun htn => ?_) (fun htn => ?_)
        ·have hltn : n < sc.indexes.length := lt_of_dec htn
         have ix0n : (0 ≤ (n : Int)) = True := by simp
         have ix1n : ((n : Int) < ((sc.indexes.length : Nat) : Int)) = True := by simp [hltn]
         obtain ⟨z, hz0⟩ : ∃ z, sc.indexes[n] = z := ⟨_, rfl⟩
         have hzm : z ∈ sc.indexes := hz0 ▸ List.getElem_mem hltn
         have hgz : (sc.indexes.map Index.v).getD (n : Int).toNat [] = z.v := by rw [getD_map _ _ _ hltn, hz0]
         have hz1 : sc.indexes.getD n zindex = z := by simp [List.getD_eq_getElem?_getD, hltn, hz0]
         have ixn0 : (0 ≤ (n : Int)) = True := by simp
         have ixn1 : ((n : Int) < ((sc.indexes.length : Nat) : Int)) = True := by simp [hltn]
         refine AWp.skip ?_
         refine hK29 _ ?_; clear hK29
         refine AWp.seq_k fun K30 hK30 => ?_
         refine AWp.block ?_
         refine AWp.reg fun R31 hR31 => ?_
         simp only [ixn0, ixn1, true_and, hgz, Index.v_eq, ty23, ty147, tstO, am, seval, reduceCtorEq]
         refine hR31 _ ?_; clear hR31 R31
         rcases (Bool.eq_false_or_eq_true (isIndex sc (sc.table (a.src k).name) n)) with hcz | hcz
         ·have hix : (((n : Nat) : Int) == sc.index (sc.table (a.src k).name).name z.name) = true := by have := hcz; unfold isIndex at this; rwa [hz1] at this
          refine AWp.regY' 13 rfl (by decide +kernel) fun R32 hR32 => ?_
          simp only [pv_all hs1, pvs, Table.v_eq, Index.v_eq, hix, ty3, ty9, ty77, ty137, ty147, undef, tstO, am, seval, reduceCtorEq]
          refine (f79_spec sc hs1 a (sc.table (a.src k).name).name z.name _).mono fun v' s' h => ?_
          rw [h.1, h.2]; clear h v' s'
          simp only [pv_all hs1, pvs, Table.v_eq, Index.v_eq, hix, ty3, ty9, ty77, ty137, ty147, undef, tstO, am, seval, reduceCtorEq]
          (try rw [← Index.v_eq])
          refine (f157_spec z (hkeys z hzm) M _).mono fun v' s' h => ?_
          rw [h.1, h.2]; clear h v' s'
          simp only [pv_all hs1, pvs, Table.v_eq, Index.v_eq, hix, ty3, ty9, ty77, ty137, ty147, undef, tstO, am, seval, reduceCtorEq]
          refine ⟨?_, ?_, yl, [.agg (indexed z M).v], _, ?_, ?_, YieldOk.wk (WkL.refl [.agg (indexed z M).v]) (hY _ (indexed z M) _ hH (by have e2 := ixTo_len sc (sc.table (a.src k).name) M n; have e3 : (rowids M (sc.table (a.src k).name).pk).length ≤ M.length := oneIf_len _ _ _; rw [List.length_append]; omega)), ?_⟩
          ·simp only [gdOf, List.getElem?_toArray, pv_all hs1, pvs, Table.v_eq, Index.v_eq, hix, tstO, am, seval, reduceCtorEq]
          ·simp only [pv_all hs1, pvs, Table.v_eq, Index.v_eq, hix, tstO, am, seval, reduceCtorEq]
          ·simp only [yieldV, pv_all hs1, pvs, Table.v_eq, Index.v_eq, hix, tstO, am, seval, reduceCtorEq]
          ·simp only [pv_all hs1, pvs, Table.v_eq, Index.v_eq, hix, tstO, am, seval, reduceCtorEq]
          rintro _ s2 ⟨rfl, hH2⟩
          simp only [Bool.not_true, pv_all hs1, pvs, Table.v_eq, Index.v_eq, hix, ty3, ty9, ty77, ty137, ty147, undef, tstO, am, seval, reduceCtorEq]
          refine hR32 _ ?_; clear hR32 R32
          refine AWp.cond (t := false) (by simp only [tstO, am, seval, reduceCtorEq]) (fun h => by cases h) (fun _ => ?_)
          refine AWp.skip ?_
          refine hK30 _ ?_; clear hK30
          refine AWp.reg1 fun R33 hR33 => ?_
          simp only [ty3, tstO, am, seval, reduceCtorEq]
          refine hR33 _ ?_; clear hR33 R33
          refine ⟨(n + 1, s2), ⟨⟨hltn, ?_⟩, by simp only; omega⟩, ?_⟩
          ·have e1 : ixTo sc (sc.table (a.src k).name) M (n + 1) = ixTo sc (sc.table (a.src k).name) M n ++ [indexed z M] := by rw [ixTo_succ]; unfold oneIf; simp only [hcz, hz1, ↓reduceIte, Bool.false_eq_true]
           simp only; rw [e1, ← List.append_assoc]; exact hH2
          refine le_tstO ?_ ?_ ?_ (Heap.le.refl _) rfl
          ·simp only [leE, yieldV, Table.v_eq, tstO, am, seval, reduceCtorEq]; rw [wrap_id (by omega) (by omega)]; simp
          ·simp only [okL, yieldV, keyIn, Nat.reduceBEq, Bool.or_true, Bool.true_or, Bool.or_false, and_self]
          ·simp only [leB, Table.v_eq, tstO, am, seval, reduceCtorEq]
         ·have hix : (((n : Nat) : Int) == sc.index (sc.table (a.src k).name).name z.name) = false := by have := hcz; unfold isIndex at this; rwa [hz1] at this
          refine AWp.reg fun R32 hR32 => ?_
          simp only [pv_all hs1, pvs, Table.v_eq, Index.v_eq, hix, ty3, ty9, ty77, ty137, ty147, undef, tstO, am, seval, reduceCtorEq]
          refine (f79_spec sc hs1 a (sc.table (a.src k).name).name z.name _).mono fun v' s' h => ?_
          rw [h.1, h.2]; clear h v' s'
          simp only [pv_all hs1, pvs, Table.v_eq, Index.v_eq, hix, ty3, ty9, ty77, ty137, ty147, undef, tstO, am, seval, reduceCtorEq]
          refine hR32 _ ?_; clear hR32 R32
          refine AWp.cond (t := false) (by simp only [tstO, am, seval, reduceCtorEq]) (fun h => by cases h) (fun _ => ?_)
          refine AWp.skip ?_
          refine hK30 _ ?_; clear hK30
          refine AWp.reg1 fun R33 hR33 => ?_
          simp only [ty3, tstO, am, seval, reduceCtorEq]
          refine hR33 _ ?_; clear hR33 R33
          refine ⟨(n + 1, s1), ⟨⟨hltn, ?_⟩, by simp only; omega⟩, ?_⟩
          ·have e1 : ixTo sc (sc.table (a.src k).name) M (n + 1) = ixTo sc (sc.table (a.src k).name) M n ++ [] := by rw [ixTo_succ]; unfold oneIf; simp only [hcz, hz1, ↓reduceIte, Bool.false_eq_true]
           simp only; rw [e1, List.append_nil]; exact hH
          refine le_tstO ?_ ?_ ?_ (Heap.le.refl _) rfl
          ·simp only [leE, yieldV, Table.v_eq, tstO, am, seval, reduceCtorEq]; rw [wrap_id (by omega) (by omega)]; simp
          ·simp only [okL, yieldV, keyIn, Nat.reduceBEq, Bool.or_true, Bool.true_or, Bool.or_false, and_self]
          ·simp only [leB, Table.v_eq, tstO, am, seval, reduceCtorEq]
        ·obtain rfl : n = sc.indexes.length := eq_of_dec htn hin
         refine AWp.exit ?_
         simp only [exq, seval]
         refine hK26 _ ?_; clear hK26
         refine AWp.regY1' 2 rfl (by decide +kernel) fun R34 hR34 => ?_
         simp only [ty66, undef, tstO, am, seval, reduceCtorEq]
         refine ⟨?_, ?_, yl, [.agg [vint 0, vstr .empty, .nil, .nil, .nil]], _, ?_, ?_, YieldOk.wk scan_wk (hY _ scanP _ hH (by have e2 := ixTo_len sc (sc.table (a.src k).name) M sc.indexes.length; have e3 : (rowids M (sc.table (a.src k).name).pk).length ≤ M.length := oneIf_len _ _ _; rw [List.length_append]; omega)), ?_⟩
         ·simp only [gdOf, List.getElem?_toArray, tstO, am, seval, reduceCtorEq]
         ·simp only [tstO, am, seval, reduceCtorEq]
         ·simp only [yieldV, tstO, am, seval, reduceCtorEq]
         ·simp only [tstO, am, seval, reduceCtorEq]
         rintro _ s2 ⟨rfl, hH2⟩
         simp only [Bool.not_true, ty66, undef, tstO, am, seval, reduceCtorEq]
         refine hR34 _ ?_; clear hR34 R34
         refine ret_intro (vs := []) rfl (Wk.refl _) (Heap.le.refl _) ?_
         unfold offers; rw [if_neg (by rw [hT]; decide), hM2, ← List.append_assoc]; exact hH2
def _root_.Go.Am.tstD (ds : List Deferred) (L : List (Nat × V)) (B : List (Nat × (List V × TypeId))) (s : Heap) (n : Nat) : St := { E := env L, loc := locs B, s := s, n := n, ds := ds }
theorem _root_.Go.Am.le_tstD {ds : List Deferred} {st : St} {L : List (Nat × V)} {B : List (Nat × (List V × TypeId))} {s : Heap} {n : Nat} (h1 : leE L st.E) (h2 : okL B L) (h3 : leB B st.loc) (h4 : st.s.le s) (h5 : n = st.n) (h6 : st.ds = ds := by rfl) : st.le (tstD ds L B s n) where
 E := env_le h1
 loc := fun t => (locs_le h3 t).imp id fun e => ⟨e, fun t' off h => okL_env h2 t' t off h e⟩
 box := h4.box
 own := h4.own
 n := h5
 ds := h6.symm
 lo := Ghost.none_le _
/-- What the next steps ask of an arm. -/
structure NOk (sc : Schema) (a : Arm) (N : Nat) : Prop where
 u : ∀ k : Int, 0 ≤ k → k < ((a.frm.length : Nat) : Int) → UOk a k
 nm : ∀ k : Int, 0 ≤ k → k < ((a.frm.length : Nat) : Int) → (a.src k).name.size ≤ 2^62
 z : ∀ k : Int, 0 ≤ k → k < ((a.frm.length : Nat) : Int) → ∀ x ∈ usable a k, x.fin.w ≤ 274945015808
 ul : ∀ k : Int, 0 ≤ k → k < ((a.frm.length : Nat) : Int) → (usable a k).length ≤ 2^39
 keys : ∀ i ∈ sc.indexes, i.keys.length ≤ 2^30
 il : sc.indexes.length ≤ 2^40
 n : ∀ k : Int, 0 ≤ k → k < ((a.frm.length : Nat) : Int) → (usable a k).length + sc.indexes.length + 1 ≤ N
 fn : (a.frm.length + 1) * N ≤ 2^40
 fl : a.frm.length ≤ 2^40
 on : ∀ k : Int, 0 ≤ k → k < ((a.frm.length : Nat) : Int) → ∀ t ∈ (a.src k).on, t.w ≤ 274945015808
def nextTo (sc : Schema) (a : Arm) (ahead : List Int) (i : Nat) : List Stp := (List.range i).flatMap (nextAt sc a ahead)
theorem offers_len {sc : Schema} {a : Arm} {ahead : List Int} {N : Nat} (hn : NOk sc a N) (k : Int) (h0 : 0 ≤ k) (h1 : k < ((a.frm.length : Nat) : Int)) : (offers sc a k ahead).length ≤ N := by
 have e := hn.n k h0 h1
 unfold offers
 split
 ·simp; omega
 ·have e1 := oneIf_len (fun x => (x.op == 13) && rowid (sc.table (a.src k).name).pk x) (fun x => rowidP x.fin) (sayable a k ahead)
  have e2 := oneIf_len (fun x => within x.fin ahead) id (usable a k)
  have e3 := oneIf_len (isIndex sc (sc.table (a.src k).name)) (fun n => indexed (sc.indexes.getD n zindex) (sayable a k ahead)) (List.range sc.indexes.length)
  rw [List.length_range] at e3
  unfold rowids indexPaths
  have e4 : (sayable a k ahead).length ≤ (usable a k).length := e2
  simp only [List.length_append, List.length_cons, List.length_nil]; omega
theorem nextTo_len {sc : Schema} {a : Arm} {ahead : List Int} {N : Nat} (hn : NOk sc a N) : ∀ i, i ≤ a.frm.length → (nextTo sc a ahead i).length ≤ i * N
 | 0, _ => by simp [nextTo]
 | i + 1, h => by
  have ih := nextTo_len (ahead := ahead) hn i (by omega)
  have ho := offers_len (ahead := ahead) hn (i : Int) (by omega) (by omega)
  unfold nextTo at ih ⊢
  rw [List.range_succ, List.flatMap_append, List.length_append, Nat.add_mul, Nat.one_mul]
  have : ((List.flatMap (nextAt sc a ahead) [i])).length ≤ N := by
   simp only [List.flatMap_cons, List.flatMap_nil, List.append_nil]
   unfold nextAt
   split
   ·simp
   ·rw [List.length_map]; exact ho
  omega
theorem box_own_drop {s : Heap} {g b : Nat} {x : TypeId × Nat} {c : List V × TypeId} (hb : s.box b = none) (hg : s.own g = none) : ((s.setOwn g (some x)).setBox b c).le s := by
 refine ⟨fun b' => ?_, fun g' => ?_⟩
 ·simp only [Heap.setOwn, Heap.setBox]
  by_cases e : b' = b
  ·subst e; exact .inr hb
  ·simp only [upd_other _ _ _ _ e]; exact .inl trivial
 ·simp only [Heap.setOwn, Heap.setBox]
  by_cases e : g' = g
  ·subst e; exact .inr hg
  ·simp only [upd_other _ _ _ _ e]; exact .inl trivial
set_option maxHeartbeats 1000000 in
theorem f105_spec (sc : Schema) (hs : SchOk sc) (a : Arm) (N : Nat) (hn : NOk sc a N) (ahead : List Int) (hal : ahead.length ≤ 549890031616) : Gives Tryz.prog 105 [.agg (sc.v ++ a.v), vints ahead] (.slice 6 ((next sc a ahead).map Stp.v)) := by
 have hs1 := hs.1; intro s; refine acalls_of (fn := Tryz.f105) Tryz.func105 rfl (by decide) (by show 2 ≤ 38; decide) ?_; rw [Tryz.ntmps105]; refine rg fun Z z' => ?_; simp only [pv_all hs1, pvs, tstD, amt, seval, reduceCtorEq]; refine z' _ ?_; clear z' Z; refine rg fun Z z' => ?_; simp only [tstD, amt, seval, reduceCtorEq]; refine z' _ ?_; clear z' Z; refine AWp.seq_k fun K3 hK3 => ?_; refine AWp.adoptB 5 0 (95, 6) (cs := [.nil]) (ty := 93) (by simp only [tstD, am, seval, reduceCtorEq]) (.inl rfl) fun g0 hg0 => ?_; change s.own g0 = none at hg0; refine AWp.publish (t0 := 5) (x := ([.own g0 6 []], 93)) (by simp only [List.set_cons_zero, tstD, am, seval, reduceCtorEq]) fun b5 hb5 => ?_; change s.box b5 = none at hb5; refine AWp.frz 2 (cs := sc.v ++ a.v) (ty := 77) (by simp only [St.publish, substV, tstD, am, seval, reduceCtorEq]) ?_; refine AWp.weaken (st' := tstD [] [(1, vints ahead), (2, .elt (sc.v ++ a.v) 0), (5, .ptr b5 0)] [] ((s.setOwn g0 (some (95, 6))).setBox b5 ([.own g0 6 []], 93)) 38) ?_ ?_
 ·refine le_tstD ?_ ?_ ?_ (Heap.le.refl _) rfl
  ·simp only [leE, St.frz, frzV, St.publish, substV, tstD, am, seval, reduceCtorEq]
  ·simp only [oks, Nat.reduceBEq]
  ·simp only [leB, St.frz, frzV, St.publish, substV, tstD, am, seval, reduceCtorEq]
 refine rg fun Z z' => ?_; simp only [pv_all hs1, pvs, tstD, amt, seval, reduceCtorEq]; refine z' _ ?_; clear z' Z; refine AWp.block ?_; refine AWp.loopT (ι := Nat × Nat × List Deferred) (fun q => q.1 ≤ a.frm.length ∧ s.own q.2.1 = none) (fun q => tstD q.2.2 [(1, vints ahead), (2, .elt (sc.v ++ a.v) 0), (5, .ptr b5 0), (11, vint a.frm.length), (12, vint q.1)] [] ((s.setOwn q.2.1 (some (95, 6))).setBox b5 ([.own q.2.1 6 ((nextTo sc a ahead q.1).map Stp.v)], 93)) 38) (fun q => a.frm.length - q.1) (0, g0, []) ⟨⟨Nat.zero_le _, hg0⟩, ?_⟩ ?_
 ·refine le_tstD ?_ ?_ ?_ (Heap.le.refl _) rfl
  ·simp only [leE, tstD, am, seval, reduceCtorEq] <;> simp
  ·simp only [oks, Nat.reduceBEq]
  ·simp only [leB, tstD, am, seval, reduceCtorEq]
 ·rintro ⟨i, g, D⟩ ⟨hi, hg⟩; simp only at hi hg ⊢; refine rg fun Z z' => ?_; simp only [tstD, amt, seval, reduceCtorEq]; refine z' _ ?_; clear z' Z; refine AWp.seq_k fun K6 hK6 => ?_; have hlF2 := hn.fl; refine AWp.cond (t := decide ((i:Int) < (a.frm.length : Nat))) (by simp only [tstD, am, seval, reduceCtorEq]) (fun ht => ?_) (fun ht => ?_)
  ·have hlt : i < a.frm.length := lt_of_dec ht; have ix0 : (0 ≤ (i : Int)) = True := by simp
   have ix1 : ((i : Int) < ((a.frm.length : Nat) : Int)) = True := by simp [hlt]
   have hk0 : (0 : Int) ≤ (i : Int) := by omega
   have hk1 : (i : Int) < ((a.frm.length : Nat) : Int) := by omega
   have hlF := hn.fl; refine AWp.skip ?_; refine hK6 _ ?_; clear hK6; refine AWp.seq_k fun K7 hK7 => ?_; refine AWp.block ?_; refine rg fun Z z' => ?_; simp only [tstD, amt, seval, reduceCtorEq]; refine z' _ ?_; clear z' Z; refine AWp.seq_k fun K9 hK9 => ?_; refine AWp.seq_cut (ι := Unit) (fun _ => True) (fun _ => tstD D [(1, vints ahead), (2, .elt (sc.v ++ a.v) 0), (5, .ptr b5 0), (11, vint a.frm.length), (12, vint i), (6, .loc 6 0), (24, vbool (ahead.any ((i : Int) == ·) || !ready a i ahead))] [(6, ([vint i], 3))] ((s.setOwn g (some (95, 6))).setBox b5 ([.own g 6 ((nextTo sc a ahead i).map Stp.v)], 93)) 38) ?_ ?_
   ·refine rg1 fun Z z' => ?_; simp only [pv_all hs1, pvs, undef, tstD, amt, seval, reduceCtorEq]; refine (f47_spec ahead i _).go ?_; simp only [pv_all hs1, pvs, undef, tstD, amt, seval, reduceCtorEq]; refine gF (fun hg5_3 => ?_) (fun hg5_3 => ?_)
    ·simp only [pv_all hs1, pvs, hg5_3, undef, tstD, amt, seval, reduceCtorEq]; refine (f48_spec (.slice 3 (sc.tables.map Table.v)) (.slice 5 (sc.indexes.map Index.v)) sc.views rfl rfl hs.1 a i hk0 hk1 ahead hal (hn.on i hk0 hk1) _).go ?_; simp only [pv_all hs1, pvs, hg5_3, undef, tstD, amt, seval, reduceCtorEq]; refine z' _ ?_; clear z' Z; refine ⟨(), trivial, ?_⟩; refine le_tstD ?_ ?_ ?_ (Heap.le.refl _) rfl
     ·simp only [leE, hg5_3, bo, Bool.not_true, Bool.not_false, ↓reduceIte, Bool.false_eq_true, tstD, am, seval, reduceCtorEq]
     ·simp only [oks, Nat.reduceBEq]
     ·simp only [leB, hg5_3, bo, Bool.not_true, Bool.not_false, ↓reduceIte, Bool.false_eq_true, tstD, am, seval, reduceCtorEq]
    ·simp only [pv_all hs1, pvs, hg5_3, undef, tstD, amt, seval, reduceCtorEq]; refine z' _ ?_; clear z' Z; refine ⟨(), trivial, ?_⟩; refine le_tstD ?_ ?_ ?_ (Heap.le.refl _) rfl
     ·simp only [leE, hg5_3, bo, Bool.not_true, Bool.not_false, ↓reduceIte, Bool.false_eq_true, tstD, am, seval, reduceCtorEq]
     ·simp only [oks, Nat.reduceBEq]
     ·simp only [leB, hg5_3, bo, Bool.not_true, Bool.not_false, ↓reduceIte, Bool.false_eq_true, tstD, am, seval, reduceCtorEq]
   ·rintro ⟨⟩ _; refine AWp.cond (t := ahead.any ((i : Int) == ·) || !ready a i ahead) (by simp only [tstD, am, seval, reduceCtorEq]) (fun hT => ?_) (fun hT => ?_)
    ·refine AWp.exit ?_; simp only [exq, seval]; refine hK7 _ ?_; clear hK7; refine rg1 fun Z z' => ?_; simp only [tstD, amt, seval, reduceCtorEq]; refine z' _ ?_; clear z' Z; refine ⟨(i + 1, g, D), ⟨⟨hlt, hg⟩, by simp only; omega⟩, ?_⟩; have hnx : nextTo sc a ahead (i + 1) = nextTo sc a ahead i := by unfold nextTo; rw [List.range_succ, List.flatMap_append]; simp only [List.flatMap_cons, List.flatMap_nil, List.append_nil, nextAt, hT, ↓reduceIte, Bool.false_eq_true]
     simp only [hnx]; refine le_tstD ?_ ?_ ?_ (Heap.le.refl _) rfl
     ·simp only [leE, tstD, am, seval, reduceCtorEq]; rw [wrap_id (by omega) (by omega)]; simp
     ·simp only [oks, Nat.reduceBEq]
     ·simp only [leB, tstD, am, seval, reduceCtorEq]
    ·refine AWp.skip ?_; refine hK9 _ ?_; clear hK9; refine rg fun Z z' => ?_; simp only [pv_all hs1, pvs, tstD, amt, seval, reduceCtorEq]; refine (f144_spec sc hs.1 a i ahead _).go ?_; simp only [pv_all hs1, pvs, tstD, amt, seval, reduceCtorEq]; refine z' _ ?_; clear z' Z; refine AWp.block ?_; refine AWp.frz 6 (cs := [vint i]) (ty := 3) (by simp only [tstD, am, seval, reduceCtorEq]) ?_; refine AWp.weaken (st' := tstD D [(1, vints ahead), (2, .elt (sc.v ++ a.v) 0), (5, .ptr b5 0), (11, vint a.frm.length), (12, vint i), (6, .elt [vint i] 0), (28, .func 156 [] [.elt (sc.v ++ a.v) 0, .elt [vint i] 0, .elt [vints ahead] 0])] [] ((s.setOwn g (some (95, 6))).setBox b5 ([.own g 6 ((nextTo sc a ahead i).map Stp.v)], 93)) 38) ?_ ?_
     ·refine le_tstD ?_ ?_ ?_ (Heap.le.refl _) rfl
      ·simp only [leE, St.frz, frzV, tstD, am, seval, reduceCtorEq]
      ·simp only [oks, Nat.reduceBEq]
      ·simp only [leB, St.frz, frzV, tstD, am, seval, reduceCtorEq]
     have hnl := nextTo_len (sc := sc) (a := a) (ahead := ahead) hn i (by omega); have hol := offers_len (sc := sc) (a := a) (ahead := ahead) hn i hk0 hk1; have hfn := hn.fn; have hmul : (i + 1) * N ≤ (a.frm.length + 1) * N := Nat.mul_le_mul_right N (by omega); rw [Nat.add_mul, Nat.one_mul] at hmul; refine AWp.rangeFunc (fun x : Path => .agg x.v) (fun pre s' => ∃ g1, s.own g1 = none ∧ s' = (s.setOwn g1 (some (95, 6))).setBox b5 ([.own g1 6 ((nextTo sc a ahead i ++ pre.map (Stp.mk i)).map Stp.v)], 93)) (fun xs => xs = offers sc a i ahead) N (f := 156) (caps := [.elt (sc.v ++ a.v) 0, .elt [vint i] 0, .elt [vints ahead] 0]) (by simp only [tstD, am, seval, reduceCtorEq]) (by funext x; simp only [tstD, am, seval, reduceCtorEq]) (by simp only [tstD, am, seval, reduceCtorEq]) (by decide +kernel) (by decide +kernel) ?_ ?_ ?_
     ·rintro pre x _ ⟨g1, hg1, rfl⟩ hN K1 hK1; simp only [Path.v_eq, tstD, amt, seval, reduceCtorEq]; refine hK1 _ 7 x.v 66 (by simp only [Path.v_eq, tstD, am, seval, reduceCtorEq]; funext z; simp only [upd]; split <;> rfl) rfl rfl ?_; intro b7 hb7 KK hKK; have hne : b7 ≠ b5 := fun e => by
       subst e; rw [show (Heap.setBox (s.setOwn g1 (some (95, 6))) b7 ([.own g1 6 ((nextTo sc a ahead i ++ pre.map (Stp.mk i)).map Stp.v)], 93)).box b7 = some _ from upd_same _ _ _] at hb7; cases hb7
      have hb7' : s.box b7 = none := by
       have := hb7; change upd s.box b5 _ b7 = none at this; rwa [upd_other _ _ _ _ hne] at this
      have hx5 : ((((s.setOwn g1 (some (95, 6))).setBox b5 ([.own g1 6 ((nextTo sc a ahead i ++ pre.map (Stp.mk i)).map Stp.v)], 93)).setBox b7 (x.v, 66))).box b5 = some ([.own g1 6 ((nextTo sc a ahead i ++ pre.map (Stp.mk i)).map Stp.v)], 93) := by
       show upd (upd s.box b5 _) b7 _ b5 = _; rw [upd_other _ _ _ _ (Ne.symm hne), upd_same]
      have hx7 : ((((s.setOwn g1 (some (95, 6))).setBox b5 ([.own g1 6 ((nextTo sc a ahead i ++ pre.map (Stp.mk i)).map Stp.v)], 93)).setBox b7 (x.v, 66))).box b7 = some (x.v, 66) := upd_same _ _ _; rw [Path.v_eq x] at hx5 hx7; simp only [St.publish, substV, hx5, hx7, Path.v_eq x, tstD, amt, seval, reduceCtorEq]; refine ⟨own_same s g1 _, by simp only [List.length_map, List.length_append]; omega, by simp only [List.length_map, List.length_append, maxLen]; omega, fun g2 hg2 => ?_⟩; have hx5' : ((((((s.setOwn g1 (some (95, 6))).setBox b5 ([.own g1 6 ((nextTo sc a ahead i ++ pre.map (Stp.mk i)).map Stp.v)], 93)).setBox b7 (x.v, 66)).setOwn g1 none).setOwn g2 (some (95, 6)))).box b5 = some ([.own g1 6 ((nextTo sc a ahead i ++ pre.map (Stp.mk i)).map Stp.v)], 93) := by rw [Path.v_eq x]; exact hx5
      rw [Path.v_eq x] at hx5'; simp only [hx5', tstD, amt, seval, reduceCtorEq]; have hs2 : s.own g2 = none := own_fresh (x := (95, 6)) hg2; refine hKK _ ((s.setOwn g2 (some (95, 6))).setBox b5 ([.own g2 6 ((nextTo sc a ahead i ++ (pre ++ [x]).map (Stp.mk i)).map Stp.v)], 93)) ?_ ⟨g2, hs2, rfl⟩; have e : (nextTo sc a ahead i ++ (pre ++ [x]).map (Stp.mk i)).map Stp.v = (nextTo sc a ahead i ++ pre.map (Stp.mk i)).map Stp.v ++ [Stp.v ⟨i, x⟩] := by simp
      rw [e, Stp.v_eq]; exact le_round hg1 hb7' hne
     ·intro lo l hY; have hI := f156_spec sc hs a i hk0 hk1 (hn.u i hk0 hk1) (hn.nm i hk0 hk1) (hn.z i hk0 hk1) (hn.ul i hk0 hk1) hn.keys hn.il ahead N (hn.n i hk0 hk1) (fun pre s' => ∃ g1, s.own g1 = none ∧ s' = (s.setOwn g1 (some (95, 6))).setBox b5 ([.own g1 6 ((nextTo sc a ahead i ++ pre.map (Stp.mk i)).map Stp.v)], 93)) lo l hY ((s.setOwn g (some (95, 6))).setBox b5 ([.own g 6 ((nextTo sc a ahead i).map Stp.v)], 93)) ⟨g, hg, by rw [List.map_nil, List.append_nil]⟩; refine ⟨hI.1, fun G w cargs h1 h2 h3 => (hI.2 G w cargs h1 h2 h3).mono ?_⟩; rintro e w' ⟨G', s', v, cv, k1, k2, k3, k4, k5⟩; exact ⟨G', s', v, cv, k1, k2, k3, k4, offers sc a i ahead, rfl, k5⟩
     ·rintro xs _ D2 rfl ⟨g1, hg1, rfl⟩; refine hK7 _ ?_; clear hK7; refine rg1 fun Z z' => ?_; simp only [tstD, amt, seval, reduceCtorEq]; refine z' _ ?_; clear z' Z; refine ⟨(i + 1, g1, Go.Am.mark D2 :: D), ⟨⟨hlt, hg1⟩, by simp only; omega⟩, ?_⟩; have hnx : nextTo sc a ahead (i + 1) = nextTo sc a ahead i ++ (offers sc a i ahead).map (Stp.mk i) := by unfold nextTo; rw [List.range_succ, List.flatMap_append]; simp only [List.flatMap_cons, List.flatMap_nil, List.append_nil, nextAt, hT, ↓reduceIte, Bool.false_eq_true]
      simp only [hnx]; refine le_tstD ?_ ?_ ?_ (Heap.le.refl _) rfl
      ·simp only [leE, tstD, am, seval, reduceCtorEq]; rw [wrap_id (by omega) (by omega)]; simp
      ·simp only [oks, Nat.reduceBEq]
      ·simp only [leB, tstD, am, seval, reduceCtorEq]
  ·obtain rfl : i = a.frm.length := eq_of_dec ht hi; refine AWp.exit ?_; simp only [exq, seval]; refine hK3 _ ?_; clear hK3; have hbx : (((s.setOwn g (some (95, 6))).setBox b5 ([.own g 6 ((nextTo sc a ahead a.frm.length).map Stp.v)], 93))).box b5 = some ([.own g 6 ((nextTo sc a ahead a.frm.length).map Stp.v)], 93) := upd_same _ _ _; refine rg fun Z z' => ?_; simp only [hbx, tstD, amt, seval, reduceCtorEq]; refine z' _ ?_; clear z' Z; refine AWp.ret ?_; refine ret_intro (vs := [.own g 6 ((nextTo sc a ahead a.frm.length).map Stp.v)]) rfl (Wk.own _ _ _) (box_own_drop hb5 hg) ⟨?_, rfl⟩; rfl
/-- Three slices that may grow. -/
def H3 (s : Heap) (g1 g2 g3 : Nat) : Heap := ((s.setOwn g1 (some (3, 1))).setOwn g2 (some (3, 1))).setOwn g3 (some (68, 7))
def K3 (s : Heap) (g1 g2 g3 : Nat) : Prop := s.own g1 = none ∧ s.own g2 = none ∧ s.own g3 = none ∧ g1 ≠ g2 ∧ g1 ≠ g3 ∧ g2 ≠ g3
def H4 (s : Heap) (g1 g2 g3 g4 : Nat) : Heap := (H3 s g1 g2 g3).setOwn g4 (some (3, 1))
def K4 (s : Heap) (g1 g2 g3 g4 : Nat) : Prop := K3 s g1 g2 g3 ∧ s.own g4 = none ∧ g4 ≠ g1 ∧ g4 ≠ g2 ∧ g4 ≠ g3
theorem fresh3 {s : Heap} {g1 g2 g3 g : Nat} (h : (H3 s g1 g2 g3).own g = none) : s.own g = none ∧ g ≠ g1 ∧ g ≠ g2 ∧ g ≠ g3 := by
 simp only [H3, Heap.setOwn, upd] at h
 by_cases e3 : g = g3
 ·subst e3; simp at h
 ·by_cases e2 : g = g2
  ·subst e2; simp [e3] at h
  ·by_cases e1 : g = g1
   ·subst e1; simp [e3, e2] at h
   ·simp only [e1, e2, e3, ↓reduceIte] at h
    exact ⟨h, e1, e2, e3⟩
theorem fresh4 {s : Heap} {g1 g2 g3 g4 g : Nat} (h : (H4 s g1 g2 g3 g4).own g = none) : (H3 s g1 g2 g3).own g = none ∧ g ≠ g4 := by
 simp only [H4, Heap.setOwn, upd] at h
 by_cases e : g = g4
 ·subst e; simp at h
 ·simp only [e, ↓reduceIte] at h
  exact ⟨h, e⟩
theorem K3.mk {s : Heap} {g1 g2 g3 : Nat} (h1 : s.own g1 = none) (h2 : (s.setOwn g1 (some (3, 1))).own g2 = none) (h3 : ((s.setOwn g1 (some (3, 1))).setOwn g2 (some (3, 1))).own g3 = none) : K3 s g1 g2 g3 := by
 have a := own_ne h2; have b := own_ne h3; have c := own_fresh h3; have d := own_ne c
 exact ⟨h1, own_fresh h2, own_fresh c, a.symm, d.symm, b.symm⟩
theorem K4.mk {s : Heap} {g1 g2 g3 g4 : Nat} (h : K3 s g1 g2 g3) (h4 : (H3 s g1 g2 g3).own g4 = none) : K4 s g1 g2 g3 g4 := by
 obtain ⟨a, b, c, d⟩ := fresh3 h4
 exact ⟨h, a, b, c, d⟩
section
variable {s : Heap} {g1 g2 g3 g4 g : Nat}
theorem K3.o1 (h : K3 s g1 g2 g3) : (H3 s g1 g2 g3).own g1 = some (3, 1) := by
 obtain ⟨h1, h2, h3, h12, h13, h23⟩ := h
 simp [H3, Heap.setOwn, upd, h12, h13]
theorem K3.o2 (h : K3 s g1 g2 g3) : (H3 s g1 g2 g3).own g2 = some (3, 1) := by
 obtain ⟨h1, h2, h3, h12, h13, h23⟩ := h
 simp [H3, Heap.setOwn, upd, h23]
theorem K3.o3 (h : K3 s g1 g2 g3) : (H3 s g1 g2 g3).own g3 = some (68, 7) := own_same _ _ _
theorem K4.o2 (h : K4 s g1 g2 g3 g4) : (H4 s g1 g2 g3 g4).own g2 = some (3, 1) := by
 obtain ⟨k, h4, a, b, c⟩ := h
 have := k.o2
 simp only [H4, Heap.setOwn, upd] at this ⊢
 simp [b.symm, this]
theorem K4.o4 (h : K4 s g1 g2 g3 g4) : (H4 s g1 g2 g3 g4).own g4 = some (3, 1) := own_same _ _ _
theorem K3.n1 (h : K3 s g1 g2 g3) (hf : (H3 s g1 g2 g3).own g = none) : K3 s g g2 g3 := by
 obtain ⟨h1, h2, h3, h12, h13, h23⟩ := h; obtain ⟨a, b, c, d⟩ := fresh3 hf
 exact ⟨a, h2, h3, c, d, h23⟩
theorem K3.n3 (h : K3 s g1 g2 g3) (hf : (H3 s g1 g2 g3).own g = none) : K3 s g1 g2 g := by
 obtain ⟨h1, h2, h3, h12, h13, h23⟩ := h; obtain ⟨a, b, c, d⟩ := fresh3 hf
 exact ⟨h1, h2, a, h12, b.symm, c.symm⟩
theorem K4.n2 (h : K4 s g1 g2 g3 g4) (hf : (H4 s g1 g2 g3 g4).own g = none) : K4 s g1 g g3 g4 := by
 obtain ⟨⟨h1, h2, h3, h12, h13, h23⟩, h4, e1, e2, e3⟩ := h; obtain ⟨f1, f2⟩ := fresh4 hf; obtain ⟨a, b, c, d⟩ := fresh3 f1
 exact ⟨⟨h1, a, h3, b.symm, h13, d⟩, h4, e1, f2.symm, e3⟩
theorem K4.n4 (h : K4 s g1 g2 g3 g4) (hf : (H4 s g1 g2 g3 g4).own g = none) : K4 s g1 g2 g3 g := by
 obtain ⟨k, h4, e1, e2, e3⟩ := h; obtain ⟨f1, f2⟩ := fresh4 hf; obtain ⟨a, b, c, d⟩ := fresh3 f1
 exact ⟨k, a, b, c, d⟩
theorem K3.l1 (h : K3 s g1 g2 g3) (hf : (H3 s g1 g2 g3).own g = none) : (((H3 s g1 g2 g3).setOwn g1 none).setOwn g (some (3, 1))).le (H3 s g g2 g3) := by
 obtain ⟨h1, h2, h3, h12, h13, h23⟩ := h; obtain ⟨a, b, c, d⟩ := fresh3 hf
 refine ⟨fun b => .inl rfl, fun k => ?_⟩
 simp only [H3, Heap.setOwn, upd]
 by_cases e1 : k = g1 <;> by_cases e2 : k = g2 <;> by_cases e3 : k = g3 <;> by_cases e : k = g <;> simp_all
theorem K3.l3 (h : K3 s g1 g2 g3) (hf : (H3 s g1 g2 g3).own g = none) : (((H3 s g1 g2 g3).setOwn g3 none).setOwn g (some (68, 7))).le (H3 s g1 g2 g) := by
 obtain ⟨h1, h2, h3, h12, h13, h23⟩ := h; obtain ⟨a, b, c, d⟩ := fresh3 hf
 refine ⟨fun b => .inl rfl, fun k => ?_⟩
 simp only [H3, Heap.setOwn, upd]
 by_cases e1 : k = g1 <;> by_cases e2 : k = g2 <;> by_cases e3 : k = g3 <;> by_cases e : k = g <;> simp_all
theorem K4.l2 (h : K4 s g1 g2 g3 g4) (hf : (H4 s g1 g2 g3 g4).own g = none) : (((H4 s g1 g2 g3 g4).setOwn g2 none).setOwn g (some (3, 1))).le (H4 s g1 g g3 g4) := by
 obtain ⟨⟨h1, h2, h3, h12, h13, h23⟩, h4, f1, f2, f3⟩ := h; obtain ⟨a, b⟩ := fresh4 hf; obtain ⟨a, c, d, f⟩ := fresh3 a
 refine ⟨fun b => .inl rfl, fun k => ?_⟩
 simp only [H4, H3, Heap.setOwn, upd]
 by_cases e1 : k = g1 <;> by_cases e2 : k = g2 <;> by_cases e3 : k = g3 <;> by_cases e4 : k = g4 <;> by_cases e : k = g <;> simp_all
theorem K4.l4 (h : K4 s g1 g2 g3 g4) (hf : (H4 s g1 g2 g3 g4).own g = none) : (((H4 s g1 g2 g3 g4).setOwn g4 none).setOwn g (some (3, 1))).le (H4 s g1 g2 g3 g) := by
 obtain ⟨⟨h1, h2, h3, h12, h13, h23⟩, h4, f1, f2, f3⟩ := h; obtain ⟨a, b⟩ := fresh4 hf; obtain ⟨a, c, d, f⟩ := fresh3 a
 refine ⟨fun b => .inl rfl, fun k => ?_⟩
 simp only [H4, H3, Heap.setOwn, upd]
 by_cases e1 : k = g1 <;> by_cases e2 : k = g2 <;> by_cases e3 : k = g3 <;> by_cases e4 : k = g4 <;> by_cases e : k = g <;> simp_all
theorem K4.drop (h : K4 s g1 g2 g3 g4) : (H4 s g1 g2 g3 g4).le (H3 s g1 g2 g3) := by
 obtain ⟨⟨h1, h2, h3, h12, h13, h23⟩, h4, f1, f2, f3⟩ := h
 refine ⟨fun b => .inl rfl, fun k => ?_⟩
 simp only [H4, H3, Heap.setOwn, upd]
 by_cases e1 : k = g1 <;> by_cases e2 : k = g2 <;> by_cases e3 : k = g3 <;> by_cases e4 : k = g4 <;> simp_all
theorem K3.drop (h : K3 s g1 g2 g3) : (H3 s g1 g2 g3).le s := by
 obtain ⟨h1, h2, h3, h12, h13, h23⟩ := h
 refine ⟨fun b => .inl rfl, fun k => ?_⟩
 simp only [H3, Heap.setOwn, upd]
 by_cases e1 : k = g1 <;> by_cases e2 : k = g2 <;> by_cases e3 : k = g3 <;> simp_all
end
theorem _root_.Go.Am.ACalls.frame3 {P : Program} {f : FuncId} {args : List V} {s : Heap} {R : V → Heap → Prop} {g1 g2 g3 : Nat} (h : K3 s g1 g2 g3) (hc : ACalls P f args s R) :
  ACalls P f args (H3 s g1 g2 g3) fun v s'' => ∃ s', R v s' ∧ K3 s' g1 g2 g3 ∧ s'' = H3 s' g1 g2 g3 := by
 obtain ⟨h1, h2, h3, h12, h13, h23⟩ := h
 have k2 : (s.setOwn g1 (some (3, 1))).own g2 = none := by simp [Heap.setOwn, upd, h12.symm, h2]
 have k3 : ((s.setOwn g1 (some (3, 1))).setOwn g2 (some (3, 1))).own g3 = none := by simp [Heap.setOwn, upd, h13.symm, h23.symm, h3]
 refine (((hc.frame1 (3, 1) h1).frame1 (3, 1) k2).frame1 (68, 7) k3).mono ?_
 rintro v _ ⟨_, ⟨_, ⟨s', hR, q1, rfl⟩, q2, rfl⟩, q3, rfl⟩
 exact ⟨s', hR, K3.mk q1 q2 q3, rfl⟩
def armC (a : Arm) (x : V) : List V := [vint a.comp, vbool a.distinct, vbool a.values, .slice 1 (a.rows.map (fun l => [.slice 14 (l.map Term.v)])), .slice 7 (a.frm.map From.v), .slice 14 (a.whr.map Term.v), vbool a.grouped, .slice 14 (a.group.map Term.v), .slice 5 (a.aggs.map Agg.v), .slice 14 (a.having.map Term.v), .slice 14 (a.out.map Term.v), .slice 14 (a.extra.map Term.v), x]
theorem armC_v (a : Arm) (st : List Step) : Arm.v { a with steps := st } = armC a (.slice 7 (st.map Step.v)) := by rw [Arm.v_eq]; rfl
theorem armC_wk (a : Arm) {x y : V} (h : Wk x y) : WkL (armC a x) (armC a y) := ⟨Wk.refl _, Wk.refl _, Wk.refl _, Wk.refl _, Wk.refl _, Wk.refl _, Wk.refl _, Wk.refl _, Wk.refl _, Wk.refl _, Wk.refl _, Wk.refl _, h, trivial⟩
def stepC (x : Stp) (w : V) : List V := [vint x.frm, vint x.path.kind, vstr x.path.index, .slice 14 (x.path.eq.map Term.v), .slice 15 (x.path.low.map Bound.v), .slice 15 (x.path.high.map Bound.v), w]
theorem stepC_v (x : Stp) (w : List Int) : Step.v (stepOf x w) = stepC x (vints w) := by rw [Step.v_eq]; rfl
theorem stepC_wk (x : Stp) {w y : V} (h : Wk w y) : WkL (stepC x w) (stepC x y) := ⟨Wk.refl _, Wk.refl _, Wk.refl _, Wk.refl _, Wk.refl _, Wk.refl _, h, trivial⟩
structure PSt where
 q : Nat
 h : Heap
 g1 : Nat
 g2 : Nat
 g3 : Nat
 ahead : List Int
 met : List Int
 st : List Step
 n : Nat
structure PlOk (sc : Schema) (a : Arm) (N : Nat) : Prop where
 nx : NOk sc a N
 wl : a.whr.length ≤ 2^38
 fl : a.frm.length ≤ 2^38
 ww : ∀ t ∈ a.whr, t.w ≤ 274945015808
theorem next_len {sc : Schema} {a : Arm} {ahead : List Int} {N : Nat} (hn : NOk sc a N) : (next sc a ahead).length ≤ 2^40 := by
 have h1 := nextTo_len (ahead := ahead) hn a.frm.length (Nat.le_refl _)
 have h2 := hn.fn
 have h3 : a.frm.length * N ≤ (a.frm.length + 1) * N := Nat.mul_le_mul_right N (by omega)
 exact Nat.le_trans h1 (Nat.le_trans h3 h2)
set_option maxHeartbeats 2000000 in
theorem f62_spec (sc : Schema) (hs : SchOk sc) (a : Arm) (N : Nat) (hp : PlOk sc a N) (ch : Nat → List Stp → Nat × Stp) (Hc : Nat → Heap → Prop) (kf : FuncId) (caps : List V)
    (hin : ∀ q l, (ch q l).1 ≤ q + 1) (hch : ∀ (q : Nat) (l : List Stp), l ≠ [] → l.length ≤ 2^40 → (∀ x ∈ l, ∃ b k m, x.path ∈ offers sc b k m) → ∀ {n : Nat}, q + (n + 1) ≤ 2^62 → ∀ (s : Heap), Hc q s → ACalls Tryz.prog kf ([] ++ [.slice 6 (l.map Stp.v)] ++ caps) s fun v s' => v = .agg (ch q l).2.v ∧ Hc (ch q l).1 s')
    (q0 : Nat) (hq0 : q0 + a.frm.length ≤ 2^62) (s : Heap) (h0 : Hc q0 s) : ACalls Tryz.prog 62 [.agg (sc.v ++ a.v), .func kf [] caps] s fun v s' => v = .agg (planA ch sc a q0).2.v ∧ Hc (planA ch sc a q0).1 s' := by
 have hs1 := hs.1; refine acalls_of (fn := Tryz.f62) Tryz.func62 rfl (by decide) (by show 2 ≤ 85; decide) ?_; rw [Tryz.ntmps62]; refine rg fun Z z' => ?_; simp only [pv_all hs1, pvs, amt, seval, reduceCtorEq]; refine z' _ ?_; clear z' Z; refine rg fun Z z' => ?_; simp only [pv_all hs1, pvs, Arm.v_len, Arm.v_all, amt, seval, reduceCtorEq]; refine z' _ ?_; clear z' Z; refine rg fun Z z' => ?_; simp only [Arm.v_eq, amt, seval, reduceCtorEq]; refine z' _ ?_; clear z' Z; refine rg fun Z z' => ?_; simp only [am, seval, reduceCtorEq]; refine z' _ ?_; clear z' Z; refine AWp.seq_k fun K5 hK5 => ?_; refine AWp.block ?_; refine AWp.adoptE 6 (3, 1) (.inl (by simp only [am, seval, reduceCtorEq])) fun g1 hg1 => ?_; change s.own g1 = none at hg1; refine AWp.adoptE 7 (3, 1) (.inl (by simp only [am, seval, reduceCtorEq])) fun g2 hg2 => ?_; change (s.setOwn g1 (some (3, 1))).own g2 = none at hg2; refine AWp.adoptB 5 12 (68, 7) (cs := armC a .nil) (ty := 75) (by simp only [armC, am, seval, reduceCtorEq]) (.inl rfl) fun g3 hg3 => ?_; change ((s.setOwn g1 (some (3, 1))).setOwn g2 (some (3, 1))).own g3 = none at hg3; refine AWp.loopT (ι := PSt) (fun q => Hc q.q q.h ∧ K3 q.h q.g1 q.g2 q.g3 ∧ planGo ch sc a a.frm.length q0 [] [] [] = planGo ch sc a q.n q.q q.ahead q.met q.st ∧ q.ahead.length + q.n = a.frm.length ∧ Dist a.whr.length q.met ∧ q.st.length = q.ahead.length ∧ q.q + q.n ≤ 2^62) (fun q => tst [(1, .func kf [] caps), (2, .loc 2 0), (4, .loc 4 0), (5, .loc 5 0), (6, .own q.g1 1 (q.ahead.map (fun x => [vint x]))), (7, .own q.g2 1 (q.met.map (fun x => [vint x])))] [(2, (sc.v ++ a.v, 77)), (4, ([vint 0, vbool false, vbool false, .nil, .nil, .nil, vbool false, .nil, .nil, .nil, .nil, .nil, .nil], 75)), (5, (armC a (.own q.g3 7 (q.st.map Step.v)), 75))] (H3 q.h q.g1 q.g2 q.g3) 85) (fun q => q.n) ⟨q0, s, g1, g2, g3, [], [], [], a.frm.length⟩ ⟨⟨h0, K3.mk hg1 hg2 hg3, rfl, by simp, ⟨List.nodup_nil, by simp⟩, rfl, hq0⟩, ?_⟩ ?_
 ·refine lt0 ?_ ?_ ?_
  ·simp only [leE, Arm.v_eq, armC, List.set_cons_succ, List.set_cons_zero, List.map_nil, am, seval, reduceCtorEq] <;> simp
  ·simp only [oks, Nat.reduceBEq]
  ·simp only [leB, Arm.v_eq, armC, List.set_cons_succ, List.set_cons_zero, List.map_nil, am, seval, reduceCtorEq]
 ·clear hg1 hg2 hg3 g1 g2 g3; rintro ⟨qq, hh, g1, g2, g3, ahead, met, st, n⟩ ⟨hHc, hk, hinv, hal, hd, hst, hqn⟩; simp only at hHc hk hinv hal hd hst hqn ⊢; have hfl := hp.fl; have hwl := hp.wl; have hml := dist_len _ _ hd; refine AWp.seq_k fun K6 hK6 => ?_; refine rg fun Z z' => ?_; simp only [armC, amt, seval, reduceCtorEq]; refine z' _ ?_; clear z' Z; refine AWp.cond (t := decide (((ahead.length : Nat) : Int) < ((a.frm.length : Nat) : Int))) (by simp only [List.length_map, am, seval, reduceCtorEq]) (fun ht => ?_) (fun ht => ?_)
  ·obtain ⟨n, rfl⟩ : ∃ m, n = m + 1 := ⟨n - 1, by have := lt_of_dec ht; omega⟩; refine AWp.skip ?_; refine hK6 _ ?_; clear hK6; refine AWp.block ?_; refine rg fun Z z' => ?_; simp only [pv_all hs1, pvs, amt, seval, reduceCtorEq]; refine ((f105_spec sc hs a N hp.nx ahead (by omega) _).own2).go ?_; simp only [pv_all hs1, pvs, amt, seval, reduceCtorEq]; refine z' _ ?_; clear z' Z; refine AWp.seq_k fun K9 hK9 => ?_; refine rg fun Z z' => ?_; simp only [amt, seval, reduceCtorEq]; refine z' _ ?_; clear z' Z; obtain ⟨lx, hlx0⟩ : ∃ lx, next sc a ahead = lx := ⟨_, rfl⟩; have hlx : lx.length ≤ 2^40 := by rw [← hlx0]; exact next_len hp.nx
   rw [hlx0]; refine AWp.cond (t := (((lx.length : Nat) : Int) == 0)) (by simp only [List.length_map, am, seval, reduceCtorEq]) (fun hc27 => ?_) (fun hc27 => ?_)
   ·refine rg fun Z z' => ?_; simp only [armC, amt, seval, reduceCtorEq]; refine z' _ ?_; clear z' Z; refine rg fun Z z' => ?_; simp only [armC, amt, seval, reduceCtorEq]; refine z' _ ?_; clear z' Z; refine AWp.ret ?_; refine ret_intro (vs := [.agg (armC a .nil)]) (v := .agg (armC a (.slice 7 []))) (by show resV Tryz.prog _ [.cell 4 75] = _; simp only [resV, armC, amt, seval, reduceCtorEq]) (Wk.agg (armC_wk _ (Wk.nil _))) (K3.drop hk) ?_; have e : planGo ch sc a (n + 1) qq ahead met st = (qq, []) := by unfold planGo; rw [hlx0, if_pos hc27]
    unfold planA; rw [hinv, e]; exact ⟨by rw [armC_v] <;> rfl, hHc⟩
   ·have hc27' : lx ≠ [] := fun e => by rw [e] at hc27; cases hc27
    refine AWp.skip ?_; refine hK9 _ ?_; clear hK9; refine rg fun Z z' => ?_; simp only [Stp.v_eq, amt, seval, reduceCtorEq]; refine ((hch qq lx hc27' hlx (fun x hx => ⟨a, x.frm, ahead, (next_mem (show x ∈ next sc a ahead by rw [hlx0]; exact hx)).2.2.2⟩) hqn hh hHc).frame3 hk).mono ?_; rintro _ _ ⟨h', ⟨rfl, hHc'⟩, hk', rfl⟩; obtain ⟨c, hcc⟩ : ∃ c, ch qq lx = c := ⟨_, rfl⟩; have hcin := hin qq lx; rw [hcc] at hHc' hcin; simp only [hcc, Stp.v_eq, amt, seval, reduceCtorEq]; refine z' _ ?_; clear z' Z; refine rg fun Z z' => ?_; simp only [Stp.v_eq, amt, seval, reduceCtorEq]; refine ⟨K3.o1 hk', by (try simp only [List.length_append, List.length_map]); omega, by (try simp only [List.length_append, List.length_map]); unfold maxLen; omega, fun gn hgn => ?_⟩; refine z' _ ?_; clear z' Z; refine rg fun Z z' => ?_; simp only [Stp.v_eq, amt, seval, reduceCtorEq]; refine z' _ ?_; clear z' Z; refine AWp.seq_k fun K16 hK16 => ?_; refine rg fun Z z' => ?_; simp only [armC, amt, seval, reduceCtorEq]; refine z' _ ?_; clear z' Z; refine AWp.block ?_; have hk1 := hk'.n1 hgn; obtain ⟨ah, hah⟩ : ∃ ah, ahead ++ [c.2.frm] = ah := ⟨_, rfl⟩; refine AWp.weaken (st' := tst [(1, .func kf [] caps), (2, .loc 2 0), (4, .loc 4 0), (5, .loc 5 0), (6, .own gn 1 (ah.map (fun x => [vint x]))), (7, .own g2 1 (met.map (fun x => [vint x]))), (10, .loc 10 0), (44, .slice 14 (a.whr.map Term.v)), (45, vint a.whr.length), (46, vint ((0 : Nat) : Int))] [(2, (sc.v ++ a.v, 77)), (4, ([vint 0, vbool false, vbool false, .nil, .nil, .nil, vbool false, .nil, .nil, .nil, .nil, .nil, .nil], 75)), (5, (armC a (.own g3 7 (st.map Step.v)), 75)), (10, (stepC c.2 .nil, 68))] (H3 h' gn g2 g3) 85) ?_ ?_
    ·refine le_tst ?_ ?_ ?_ (K3.l1 hk' hgn) rfl
     ·simp only [leE, armC, stepC, am, seval, reduceCtorEq]; rw [← hah] <;> simp
     ·simp only [oks, Nat.reduceBEq]
     ·simp only [leB, armC, stepC, am, seval, reduceCtorEq]
    refine AWp.adoptB 10 6 (3, 1) (cs := stepC c.2 .nil) (ty := 68) (by simp only [stepC, am, seval, reduceCtorEq]) (.inl rfl) fun g4 hg4 => ?_; change (H3 h' gn g2 g3).own g4 = none at hg4; refine AWp.loopT (ι := Nat × Nat × Nat) (fun q => q.1 ≤ a.whr.length ∧ K4 h' gn q.2.1 g3 q.2.2) (fun q => tst [(1, .func kf [] caps), (2, .loc 2 0), (4, .loc 4 0), (5, .loc 5 0), (6, .own gn 1 (ah.map (fun x => [vint x]))), (7, .own q.2.1 1 ((met ++ newW a ah met q.1).map (fun x => [vint x]))), (10, .loc 10 0), (44, .slice 14 (a.whr.map Term.v)), (45, vint a.whr.length), (46, vint q.1)] [(2, (sc.v ++ a.v, 77)), (4, ([vint 0, vbool false, vbool false, .nil, .nil, .nil, vbool false, .nil, .nil, .nil, .nil, .nil, .nil], 75)), (5, (armC a (.own g3 7 (st.map Step.v)), 75)), (10, (stepC c.2 (.own q.2.2 1 ((newW a ah met q.1).map (fun x => [vint x]))), 68))] (H4 h' gn q.2.1 g3 q.2.2) 85) (fun q => a.whr.length - q.1) (0, g2, g4) ⟨⟨Nat.zero_le _, K4.mk hk1 hg4⟩, ?_⟩ ?_
    ·refine lt0 ?_ ?_ ?_
     ·simp only [leE, armC, stepC, newW, List.append_nil, List.set_cons_succ, List.set_cons_zero, List.map_nil, am, seval, reduceCtorEq]
     ·simp only [oks, Nat.reduceBEq]
     ·simp only [leB, armC, stepC, newW, List.append_nil, List.set_cons_succ, List.set_cons_zero, List.map_nil, am, seval, reduceCtorEq]
    ·obtain ⟨gn0, hgn0⟩ : ∃ x, gn = x := ⟨_, rfl⟩; clear hg4 hk1
     revert hgn; generalize gn = gn0; intro hgn; clear g4; rintro ⟨j, g2, g4⟩ ⟨hi, hk4⟩; simp only at hi hk4 ⊢; clear hgn; have hdj := whereOk_dist _ _ _ (where_newW (a := a) (ahead := ah) (met := met) j hi) hd; have hlj := dist_len _ _ hdj; rw [List.length_append] at hlj; refine rg fun Z z' => ?_; simp only [amt, seval, reduceCtorEq]; refine z' _ ?_; clear z' Z; refine AWp.seq_k fun K19 hK19 => ?_; have hij : j ≤ a.whr.length := hi; refine AWp.cond (t := decide ((j:Int) < (a.whr.length : Nat))) (by simp only [am, seval, reduceCtorEq]) (fun htj => ?_) (fun htj => ?_)
     ·have hltj : j < a.whr.length := lt_of_dec htj; have ix0j : (0 ≤ (j : Int)) = True := by simp
      have ix1j : ((j : Int) < ((a.whr.length : Nat) : Int)) = True := by simp [hltj]
      obtain ⟨t, ht0⟩ : ∃ t, a.whr[j] = t := ⟨_, rfl⟩; have htm : t ∈ a.whr := ht0 ▸ List.getElem_mem hltj; have hgt : (a.whr.map Term.v).getD (j : Int).toNat [] = t.v := by rw [getD_map _ _ _ hltj, ht0]
      have hgd : a.whr.getD j zterm = t := by simp [List.getD_eq_getElem?_getD, hltj, ht0]
      have ixj0 : (0 ≤ (j : Int)) = True := by simp
      have ixj1 : ((j : Int) < ((a.whr.length : Nat) : Int)) = True := by simp [hltj]
      refine AWp.skip ?_; refine hK19 _ ?_; clear hK19; refine AWp.seq_k fun K20 hK20 => ?_; refine AWp.block ?_; refine rg fun Z z' => ?_; simp only [tvs, ixj0, ixj1, true_and, hgt, amt, seval, reduceCtorEq]; refine z' _ ?_; clear z' Z; refine AWp.seq_cut (ι := Unit) (fun _ => True) (fun _ => tst [(1, .func kf [] caps), (2, .loc 2 0), (4, .loc 4 0), (5, .loc 5 0), (6, .own gn0 1 (ah.map (fun x => [vint x]))), (7, .own g2 1 ((met ++ newW a ah met j).map (fun x => [vint x]))), (10, .loc 10 0), (11, vint j), (12, .loc 12 0), (44, .slice 14 (a.whr.map Term.v)), (45, vint a.whr.length), (46, vint j), (59, vbool (!((met ++ newW a ah met j).any ((j : Int) == ·)) && within t ah))] [(2, (sc.v ++ a.v, 77)), (4, ([vint 0, vbool false, vbool false, .nil, .nil, .nil, vbool false, .nil, .nil, .nil, .nil, .nil, .nil], 75)), (5, (armC a (.own g3 7 (st.map Step.v)), 75)), (10, (stepC c.2 (.own g4 1 ((newW a ah met j).map (fun x => [vint x]))), 68)), (12, (t.v, 49))] (H4 h' gn0 g2 g3 g4) 85) ?_ ?_
      ·refine rg1 fun Z z' => ?_; simp only [tvs, undef, amt, seval, reduceCtorEq]; refine ((f47_spec (met ++ newW a ah met j) j _).own1).go ?_; simp only [tvs, undef, amt, seval, reduceCtorEq]; refine gT (fun hg15_4 => ?_) (fun hg15_4 => ?_)
       ·simp only [tvs, hg15_4, undef, amt, seval, reduceCtorEq]; refine ((f50_spec t (hp.ww t htm) ah _).own2).go ?_; simp only [tvs, hg15_4, undef, amt, seval, reduceCtorEq]; refine z' _ ?_; clear z' Z; refine ⟨(), trivial, ?_⟩; refine lt0 ?_ ?_ ?_
        ·simp only [leE, armC, stepC, hg15_4, bo, Bool.not_true, Bool.not_false, ↓reduceIte, Bool.false_eq_true, am, seval, reduceCtorEq]
        ·simp only [oks, Nat.reduceBEq]
        ·simp only [leB, armC, stepC, hg15_4, bo, Bool.not_true, Bool.not_false, ↓reduceIte, Bool.false_eq_true, am, seval, reduceCtorEq]
       ·simp only [tvs, hg15_4, undef, amt, seval, reduceCtorEq]; refine z' _ ?_; clear z' Z; refine ⟨(), trivial, ?_⟩; refine lt0 ?_ ?_ ?_
        ·simp only [leE, armC, stepC, hg15_4, bo, Bool.not_true, Bool.not_false, ↓reduceIte, Bool.false_eq_true, am, seval, reduceCtorEq]
        ·simp only [oks, Nat.reduceBEq]
        ·simp only [leB, armC, stepC, hg15_4, bo, Bool.not_true, Bool.not_false, ↓reduceIte, Bool.false_eq_true, am, seval, reduceCtorEq]
      ·rintro ⟨⟩ _; refine AWp.cond (t := (!((met ++ newW a ah met j).any ((j : Int) == ·)) && within t ah)) (by simp only [am, seval, reduceCtorEq]) (fun hT => ?_) (fun hT => ?_)
       ·refine rg fun Z z' => ?_; simp only [amt, seval, reduceCtorEq]; refine ⟨K4.o2 hk4, by (try simp only [List.length_append, List.length_map]); omega, by (try simp only [List.length_append, List.length_map]); unfold maxLen; omega, fun gn hgn => ?_⟩; refine z' _ ?_; clear z' Z; have hk5 := hk4.n2 hgn; refine AWp.weaken (st' := tst [(1, .func kf [] caps), (2, .loc 2 0), (4, .loc 4 0), (5, .loc 5 0), (6, .own gn0 1 (ah.map (fun x => [vint x]))), (7, .own gn 1 ((met ++ newW a ah met j ++ [(j : Int)]).map (fun x => [vint x]))), (10, .loc 10 0), (11, vint j), (44, .slice 14 (a.whr.map Term.v)), (45, vint a.whr.length), (46, vint j)] [(2, (sc.v ++ a.v, 77)), (4, ([vint 0, vbool false, vbool false, .nil, .nil, .nil, vbool false, .nil, .nil, .nil, .nil, .nil, .nil], 75)), (5, (armC a (.own g3 7 (st.map Step.v)), 75)), (10, (stepC c.2 (.own g4 1 ((newW a ah met j).map (fun x => [vint x]))), 68))] (H4 h' gn0 gn g3 g4) 85) ?_ ?_
        ·refine le_tst ?_ ?_ ?_ (K4.l2 hk4 hgn) rfl
         ·simp only [leE, armC, stepC, List.map_append, am, seval, reduceCtorEq] <;> simp
         ·simp only [oks, Nat.reduceBEq]
         ·simp only [leB, armC, stepC, List.map_append, am, seval, reduceCtorEq]
        refine rg1 fun Z z' => ?_; simp only [stepC, amt, seval, reduceCtorEq]; refine ⟨K4.o4 hk5, by (try simp only [List.length_append, List.length_map]); omega, by (try simp only [List.length_append, List.length_map]); unfold maxLen; omega, fun gm hgm => ?_⟩; refine z' _ ?_; clear z' Z; refine hK20 _ ?_; clear hK20; refine rg1 fun Z z' => ?_; simp only [amt, seval, reduceCtorEq]; refine z' _ ?_; clear z' Z; have hnw : newW a ah met (j + 1) = newW a ah met j ++ [(j : Int)] := by
         conv => lhs; unfold newW
         rw [hgd, hT]; rfl
        refine ⟨(j + 1, gn, gm), ⟨⟨hltj, hk5.n4 hgm⟩, by simp only; omega⟩, ?_⟩; simp only [hnw]; refine le_tst ?_ ?_ ?_ (K4.l4 hk5 hgm) rfl
        ·simp only [leE, armC, stepC, List.map_append, List.map_cons, List.map_nil, List.append_nil, am, seval, reduceCtorEq]; rw [wrap_id (by omega) (by omega)]; simp
        ·simp only [oks, Nat.reduceBEq]
        ·simp only [leB, armC, stepC, List.map_append, List.map_cons, List.map_nil, List.append_nil, am, seval, reduceCtorEq]
       ·refine AWp.skip ?_; refine hK20 _ ?_; clear hK20; refine rg1 fun Z z' => ?_; simp only [amt, seval, reduceCtorEq]; refine z' _ ?_; clear z' Z; have hnw : newW a ah met (j + 1) = newW a ah met j ++ [] := by
         conv => lhs; unfold newW
         rw [hgd, hT]; rfl
        refine ⟨(j + 1, g2, g4), ⟨⟨hltj, hk4⟩, by simp only; omega⟩, ?_⟩; simp only [hnw]; refine lt0 ?_ ?_ ?_
        ·simp only [leE, armC, stepC, List.map_append, List.map_cons, List.map_nil, List.append_nil, am, seval, reduceCtorEq]; rw [wrap_id (by omega) (by omega)]; simp
        ·simp only [oks, Nat.reduceBEq]
        ·simp only [leB, armC, stepC, List.map_append, List.map_cons, List.map_nil, List.append_nil, am, seval, reduceCtorEq]
     ·obtain rfl : j = a.whr.length := eq_of_dec htj hij; refine AWp.exit ?_; simp only [exq, seval]; refine hK16 _ ?_; clear hK16; have hk6 : K3 h' gn0 g2 g3 := hk4.1; obtain ⟨W, hW⟩ : ∃ W, newW a ah met a.whr.length = W := ⟨_, rfl⟩; rw [hW] at hdj ⊢; refine AWp.wkB 10 (cs := stepC c.2 (.own g4 1 (W.map (fun x => [vint x])))) (ty := 68) (stepC c.2 (vints W)) (by simp only [stepC, am, seval, reduceCtorEq]) (stepC_wk _ (Wk.own _ _ _)) ?_; refine AWp.weaken (st' := tst [(1, .func kf [] caps), (2, .loc 2 0), (4, .loc 4 0), (5, .loc 5 0), (6, .own gn0 1 (ah.map (fun x => [vint x]))), (7, .own g2 1 ((met ++ W).map (fun x => [vint x]))), (10, .loc 10 0)] [(2, (sc.v ++ a.v, 77)), (4, ([vint 0, vbool false, vbool false, .nil, .nil, .nil, vbool false, .nil, .nil, .nil, .nil, .nil, .nil], 75)), (5, (armC a (.own g3 7 (st.map Step.v)), 75)), (10, (stepC c.2 (vints W), 68))] (H3 h' gn0 g2 g3) 85) ?_ ?_
      ·refine le_tst ?_ ?_ ?_ (K4.drop hk4) rfl
       ·simp only [leE, armC, stepC, am, seval, reduceCtorEq]
       ·simp only [oks, Nat.reduceBEq]
       ·simp only [leB, armC, stepC, am, seval, reduceCtorEq]
      refine rg1 fun Z z' => ?_; simp only [armC, stepC, amt, seval, reduceCtorEq]; refine ⟨K3.o3 hk6, by (try simp only [List.length_append, List.length_map]); omega, by (try simp only [List.length_append, List.length_map]); unfold maxLen; omega, fun gn2 hgn2 => ?_⟩; refine z' _ ?_; clear z' Z; refine ⟨⟨c.1, h', gn0, g2, gn2, ah, met ++ W, st ++ [stepOf c.2 W], n⟩, ⟨⟨hHc', hk6.n3 hgn2, ?_, ?_, hdj, ?_, ?_⟩, by simp only; omega⟩, ?_⟩
      ·simp only; rw [hinv]; conv => lhs; unfold planGo
       rw [hlx0, if_neg (by rw [hc27]; decide), hcc, hah, hW]
      ·simp only; rw [← hah, List.length_append]; simp only [List.length_cons, List.length_nil]; omega
      ·simp only; rw [← hah, List.length_append, List.length_append, hst]; rfl
      ·simp only; omega
      refine le_tst ?_ ?_ ?_ (K3.l3 hk6 hgn2) rfl
      ·simp only [leE, armC, List.map_append, List.map_cons, List.map_nil, stepC_v, stepC, am, seval, reduceCtorEq]
      ·simp only [oks, Nat.reduceBEq]
      ·simp only [leB, armC, List.map_append, List.map_cons, List.map_nil, stepC_v, stepC, am, seval, reduceCtorEq]
  ·obtain rfl : n = 0 := by have := of_decide_eq_false ht; omega
   refine AWp.exit ?_; simp only [exq, seval]; refine hK5 _ ?_; clear hK5; refine AWp.seq_k fun K28 hK28 => ?_; refine rg fun Z z' => ?_; simp only [armC, amt, seval, reduceCtorEq]; refine z' _ ?_; clear z' Z; refine AWp.cond (t := decide (((met.length : Nat) : Int) < ((a.whr.length : Nat) : Int))) (by simp only [List.length_map, am, seval, reduceCtorEq]) (fun ht2 => ?_) (fun ht2 => ?_)
   ·refine rg1 fun Z z' => ?_; simp only [armC, amt, seval, reduceCtorEq]; refine z' _ ?_; clear z' Z; refine hK28 _ ?_; clear hK28; refine rg fun Z z' => ?_; simp only [armC, amt, seval, reduceCtorEq]; refine z' _ ?_; clear z' Z; refine AWp.ret ?_; refine ret_intro (vs := [.agg (armC a .nil)]) (v := .agg (armC a (.slice 7 []))) (by show resV Tryz.prog _ [.cell 4 75] = _; simp only [resV, armC, amt, seval, reduceCtorEq]) (Wk.agg (armC_wk _ (Wk.nil _))) (K3.drop hk) ?_; have e : planGo ch sc a 0 qq ahead met st = (qq, []) := by unfold planGo; rw [ht2]; rfl
    unfold planA; rw [hinv, e]; exact ⟨by rw [armC_v] <;> rfl, hHc⟩
   ·refine AWp.skip ?_; refine hK28 _ ?_; clear hK28; refine AWp.wkB 5 (cs := armC a (.own g3 7 (st.map Step.v))) (ty := 75) (armC a (.slice 7 (st.map Step.v))) (by simp only [armC, am, seval, reduceCtorEq]) (armC_wk _ (Wk.own _ _ _)) ?_; refine rg fun Z z' => ?_; simp only [armC, amt, seval, reduceCtorEq]; refine z' _ ?_; clear z' Z; refine AWp.ret ?_; refine ret_intro (vs := [.agg (armC a (.slice 7 (st.map Step.v)))]) (v := .agg (armC a (.slice 7 (st.map Step.v)))) (by show resV Tryz.prog _ [.cell 4 75] = _; simp only [resV, armC, amt, seval, reduceCtorEq]) (Wk.refl _) (K3.drop hk) ?_; have e : planGo ch sc a 0 qq ahead met st = (qq, st) := by unfold planGo; rw [ht2]; rfl
    unfold planA; rw [hinv, e]; exact ⟨by rw [armC_v] <;> rfl, hHc⟩
end Go.Proofs.YtcckhbconihagaaGreatDoor
