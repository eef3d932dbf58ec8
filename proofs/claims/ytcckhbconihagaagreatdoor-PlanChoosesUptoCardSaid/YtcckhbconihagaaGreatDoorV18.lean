/- What the reference asks of terms: In, Within, Selects, Turn, Side, Says. -/
import Derived.Test.YtcckhbconihagaaGreatDoorVPlMy5
import Derived.Test.YtcckhbconihagaaGreatDoorV17
set_option linter.unusedSimpArgs false
set_option linter.unusedVariables false
set_option maxRecDepth 100000
namespace Go.Proofs.YtcckhbconihagaaGreatDoor
open Go.Am Go.Pl
theorem beq_symm {x y : Int} : (x == y) = (y == x) := by rw [Bool.eq_iff_iff, beq_iff_eq, beq_iff_eq]; exact eq_comm
theorem any_at {α : Type} {p : α → Bool} {l : List α} {i : Nat} (h : i < l.length) (hp : p l[i] = true) : l.any p = true := List.any_eq_true.2 ⟨l[i], List.getElem_mem h, hp⟩
theorem any_end {α : Type} {p : α → Bool} {l : List α} (h : (l.take l.length).any p = false) : l.any p = false := by rwa [List.take_length] at h
theorem Term.v_drop (t : Term) : t.v.drop 14 = [] := List.drop_of_length_le (by rw [Term.v_len]; exact Nat.le_refl _)
theorem Term.v_op (t : Term) : t.v[0]? = some (vint t.op) := by rw [Term.v_eq]; rfl
theorem Term.v_neg (t : Term) : t.v[1]? = some (vbool t.neg) := by rw [Term.v_eq]; rfl
theorem Term.v_n (t : Term) : t.v[2]? = some (vint t.n) := by rw [Term.v_eq]; rfl
theorem Term.v_frm (t : Term) : t.v[3]? = some (vint t.frm) := by rw [Term.v_eq]; rfl
theorem Term.v_col (t : Term) : t.v[4]? = some (vint t.col) := by rw [Term.v_eq]; rfl
theorem Term.v_coll (t : Term) : t.v[9]? = some (vint t.coll) := by rw [Term.v_eq]; rfl
theorem Term.v_l (t : Term) : t.v[10]? = some (vint t.l) := by rw [Term.v_eq]; rfl
theorem Term.v_r (t : Term) : t.v[11]? = some (vint t.r) := by rw [Term.v_eq]; rfl
theorem Term.v_args (t : Term) : t.v[12]? = some (.slice 14 (t.args.map Term.v)) := by rw [Term.v_eq]; rfl
theorem Term.v_sub (t : Term) : t.v[13]? = some (.slice 5 (t.sub.map Query.v)) := by rw [Term.v_eq]; rfl
theorem reach_one (t : Term) (hw : t.w ≤ 274945015808) : Gives Tryz.prog 12 [.slice 14 [t.v], vint 0] (vints (reachT t)) := by
 have := (reach_all t.w (by omega)).1 [t] 0 (by simp) (by omega)
 rw [hTerms, hTerms, List.append_nil] at this
 exact this
def hold3 (x y : Int) : Bool := (x == 1) || ((x == 2) && (y != 1)) || ((x == 0) && (y == 0))
def hold4 (x y : Int) : Bool := (x == 2) && (y != 2) && (y != 0)
theorem endOk_ref (x y : Int) : endOk x y = (hold3 x y && !hold4 x y) := by
 unfold endOk end1 end2 hold3 hold4
 have hx : x = 1 ∨ x = 2 ∨ x = 0 ∨ ((x == 1) = false ∧ (x == 2) = false ∧ (x == 0) = false) := by simp only [beq_eq_false_iff_ne]; omega
 have hy : y = 1 ∨ y = 2 ∨ y = 0 ∨ ((y == 1) = false ∧ (y == 2) = false ∧ (y == 0) = false) := by simp only [beq_eq_false_iff_ne]; omega
 rcases hx with rfl | rfl | rfl | ⟨a, b, c⟩ <;> rcases hy with rfl | rfl | rfl | ⟨d, e, f⟩ <;> first | rfl | (simp only [bne, *]; rfl)
theorem endOk_of {x y : Int} (h3 : hold3 x y = true) (h4 : hold4 x y = false) : endOk x y = true := by rw [endOk_ref, h3, h4]; rfl
theorem endOk_h3 {x y : Int} (h3 : hold3 x y = false) : endOk x y = false := by rw [endOk_ref, h3]; rfl
theorem endOk_h4 {x y : Int} (h4 : hold4 x y = true) : endOk x y = false := by rw [endOk_ref, h4, Bool.not_true, Bool.and_false]
theorem endT_same {o : Term} {x y : Int} (h9 : end1 x y = false) (h3 : hold3 x y = true) (h4 : hold4 x y = false) : endT o x y = o := by
 have h := endOk_of h3 h4
 unfold endOk at h
 rw [h9, Bool.false_or] at h
 simp only [endT, h9, h, ↓reduceIte, Bool.false_eq_true]
theorem side_bad {k op coll : Int} {c o : Term} {x y : Int} (h : sideBad k c o = true) : side k op coll c o x y = [] := by unfold side; rw [h]; rfl
theorem side_no {k op coll : Int} {c o : Term} {x y : Int} (h : endOk x y = false) : side k op coll c o x y = [] := by unfold side; rw [h]; split <;> rfl
theorem side_yes {k op coll : Int} {c o : Term} {x y : Int} (h : sideBad k c o = false) (h2 : endOk x y = true) : side k op coll c o x y = [⟨op, c.col, coll, endT o x y⟩] := by unfold side; rw [h, h2]; rfl
def refBad (t : Term) : Bool := t.neg || (((t.args.length : Nat) : Int) != 2) || ((t.op != 13) && (t.op != 15) && (t.op != 16) && (t.op != 17) && (t.op != 18))
theorem refBad_eq (t : Term) : refBad t = saysBad t := by
 have e : ((t.op != 13) && (t.op != 15) && (t.op != 16) && (t.op != 17) && (t.op != 18)) = ((t.op != 13) && (decide (t.op < 15) || decide (t.op > 18))) := by
  rw [Bool.eq_iff_iff]
  simp only [Bool.and_eq_true, Bool.or_eq_true, bne_iff_ne, decide_eq_true_eq]
  omega
 unfold refBad saysBad
 rw [e, Bool.or_assoc, Bool.or_assoc]
 congr 1
 exact Bool.or_comm _ _
theorem refBad_len {t : Term} (h : refBad t = false) : t.args.length = 2 := by
 unfold refBad at h
 simp only [Bool.or_eq_false_iff] at h
 have := bne_eq_false_iff_eq.1 h.1.2; omega
theorem f86_spec (l : List Int) (n : Int) : Gives Tryz.prog 86 [vints l, vint n] (vbool (l.any (n == ·))) := by
 intro s; refine acalls_of (fn := Tryz.f86) Tryz.func86 rfl (by decide) (by show 2 ≤ 18; decide) ?_; rw [Tryz.ntmps86]; refine rg fun Z z' => ?_; simp only [am, seval, reduceCtorEq]; refine z' _ ?_; clear z' Z; refine AWp.seq_k fun K2 hK2 => ?_; refine rg fun Z z' => ?_; simp only [am, seval, reduceCtorEq]; refine z' _ ?_; clear z' Z; refine AWp.block ?_; refine AWp.slen 0 (sz := 1) (es := l.map (fun x => [vint x])) (by simp only [am, seval, reduceCtorEq]) fun hmax => ?_; have hmx := maxLen_lt; (try rw [List.length_map] at hmax); refine AWp.loopT (ι := Nat) (fun i => i ≤ l.length ∧ (l.take i).any (n == ·) = false) (fun i => tst [(0, vints l), (1, vint n), (5, vint i)] [] s 18) (fun i => l.length - i) 0 ⟨⟨Nat.zero_le _, by simp⟩, ?_⟩ ?_
 ·refine lt0 ?_ ?_ ?_
  ·simp only [leE, am, seval, reduceCtorEq] <;> simp
  ·simp only [oks, Nat.reduceBEq]
  ·simp only [leB, am, seval, reduceCtorEq]
 ·rintro i ⟨hi, hno⟩; refine AWp.seq_k fun K4 hK4 => ?_; refine rg fun Z z' => ?_; simp only [amt, seval, reduceCtorEq]; refine z' _ ?_; clear z' Z; refine AWp.cond (t := decide ((i:Int) < (l.length : Nat))) (by simp only [am, seval, reduceCtorEq]) (fun ht => ?_) (fun ht => ?_)
  ·have hlt : i < l.length := lt_of_dec ht; have ix0 : (0 ≤ (i : Int)) = True := by simp
   have ix1 : ((i : Int) < ((l.length : Nat) : Int)) = True := by simp [hlt]
   refine AWp.skip ?_; refine hK4 _ ?_; clear hK4; refine AWp.seq_k fun K6 hK6 => ?_; refine AWp.block ?_; refine rg fun Z z' => ?_; simp only [ix0, ix1, true_and, getD_map _ _ _ hlt, amt, seval, reduceCtorEq]; refine z' _ ?_; clear z' Z; refine AWp.condK fun C1 C2 hC1 hC2 => ?_; simp only [condP, am, seval, reduceCtorEq]; refine ⟨fun hc17 => hC1 ?_, fun hc17 => hC2 ?_⟩ <;> clear hC1 hC2 C1 C2
   ·refine rg fun Z z' => ?_; simp only [am, seval, reduceCtorEq]; refine z' _ ?_; clear z' Z; refine AWp.ret ?_; refine rt (by show resV Tryz.prog _ [.tmp 4] = _; simp only [resV, am, seval, reduceCtorEq]; rfl) ⟨?_, rfl⟩; simp only [oneV]; rw [any_at hlt (p := (n == ·)) (by rw [beq_symm]; exact hc17)]
   ·refine AWp.skip ?_; refine hK6 _ ?_; clear hK6; refine rg1 fun Z z' => ?_; simp only [amt, seval, reduceCtorEq]; refine z' _ ?_; clear z' Z; refine ⟨i + 1, ⟨⟨hlt, any_take_succ hlt hno (by rw [beq_symm]; exact hc17)⟩, by omega⟩, ?_⟩; refine lt0 ?_ ?_ ?_
    ·simp only [leE, am, seval, reduceCtorEq]; rw [wrap_id (by omega) (by omega)]; simp
    ·simp only [oks, Nat.reduceBEq]
    ·simp only [leB, am, seval, reduceCtorEq]
  ·obtain rfl : i = l.length := eq_of_dec ht hi; refine AWp.exit ?_; simp only [exq, seval]; refine hK2 _ ?_; clear hK2; refine rg fun Z z' => ?_; simp only [am, seval, reduceCtorEq]; refine z' _ ?_; clear z' Z; refine AWp.ret ?_; refine rt (by show resV Tryz.prog _ [.tmp 4] = _; simp only [resV, am, seval, reduceCtorEq]; rfl) ⟨?_, rfl⟩; simp only [oneV]; rw [any_end hno]
theorem f89_spec (t : Term) (hw : t.w ≤ 274945015808) (l : List Int) : Gives Tryz.prog 89 [.agg t.v, vints l] (vbool (within t l)) := by
 have hC := reach_one t hw; obtain ⟨C, hR⟩ : ∃ C, reachT t = C := ⟨_, rfl⟩; rw [hR] at hC; intro s; refine acalls_of (fn := Tryz.f89) Tryz.func89 rfl (by decide) (by show 2 ≤ 23; decide) ?_; rw [Tryz.ntmps89]; refine rg fun Z z' => ?_; simp only [tvs, amt, seval, reduceCtorEq]; refine z' _ ?_; clear z' Z; refine rg fun Z z' => ?_; simp only [tvs, amt, seval, reduceCtorEq]; refine (hC _).go ?_; simp only [tvs, amt, seval, reduceCtorEq]; refine z' _ ?_; clear z' Z; refine AWp.seq_k fun K3 hK3 => ?_; refine rg fun Z z' => ?_; simp only [am, seval, reduceCtorEq]; refine z' _ ?_; clear z' Z; refine AWp.block ?_; refine AWp.slen 5 (sz := 1) (es := C.map (fun x => [vint x])) (by simp only [am, seval, reduceCtorEq]) fun hmax => ?_; have hmx := maxLen_lt; (try rw [List.length_map] at hmax); refine AWp.loopT (ι := Nat) (fun i => i ≤ C.length ∧ (C.take i).any (fun k => !(l.any (k == ·))) = false) (fun i => tst [(1, vints l), (5, vints C), (6, vint i)] [] s 23) (fun i => C.length - i) 0 ⟨⟨Nat.zero_le _, by simp⟩, ?_⟩ ?_
 ·refine lt0 ?_ ?_ ?_
  ·simp only [leE, am, seval, reduceCtorEq] <;> simp
  ·simp only [oks, Nat.reduceBEq]
  ·simp only [leB, am, seval, reduceCtorEq]
 ·rintro i ⟨hi, hno⟩; refine AWp.seq_k fun K5 hK5 => ?_; refine rg fun Z z' => ?_; simp only [amt, seval, reduceCtorEq]; refine z' _ ?_; clear z' Z; refine AWp.cond (t := decide ((i:Int) < (C.length : Nat))) (by simp only [am, seval, reduceCtorEq]) (fun ht => ?_) (fun ht => ?_)
  ·have hlt : i < C.length := lt_of_dec ht; have ix0 : (0 ≤ (i : Int)) = True := by simp
   have ix1 : ((i : Int) < ((C.length : Nat) : Int)) = True := by simp [hlt]
   refine AWp.skip ?_; refine hK5 _ ?_; clear hK5; refine AWp.seq_k fun K7 hK7 => ?_; refine AWp.block ?_; refine rg fun Z z' => ?_; simp only [ix0, ix1, true_and, getD_map _ _ _ hlt, amt, seval, reduceCtorEq]; refine (f86_spec l C[i] _).go ?_; simp only [ix0, ix1, true_and, getD_map _ _ _ hlt, amt, seval, reduceCtorEq]; refine z' _ ?_; clear z' Z; refine AWp.condK fun C1 C2 hC1 hC2 => ?_; simp only [condP, am, seval, reduceCtorEq]; refine ⟨fun hc22 => hC1 ?_, fun hc22 => hC2 ?_⟩ <;> clear hC1 hC2 C1 C2
   ·refine rg fun Z z' => ?_; simp only [am, seval, reduceCtorEq]; refine z' _ ?_; clear z' Z; refine AWp.ret ?_; refine rt (by show resV Tryz.prog _ [.tmp 4] = _; simp only [resV, am, seval, reduceCtorEq]; rfl) ⟨?_, rfl⟩; simp only [oneV, within]; rw [hR, any_at hlt (p := fun k => !(l.any (k == ·))) hc22]; rfl
   ·refine AWp.skip ?_; refine hK7 _ ?_; clear hK7; refine rg1 fun Z z' => ?_; simp only [amt, seval, reduceCtorEq]; refine z' _ ?_; clear z' Z; refine ⟨i + 1, ⟨⟨hlt, any_take_succ hlt hno hc22⟩, by omega⟩, ?_⟩; refine lt0 ?_ ?_ ?_
    ·simp only [leE, am, seval, reduceCtorEq]; rw [wrap_id (by omega) (by omega)]; simp
    ·simp only [oks, Nat.reduceBEq]
    ·simp only [leB, am, seval, reduceCtorEq]
  ·obtain rfl : i = C.length := eq_of_dec ht hi; refine AWp.exit ?_; simp only [exq, seval]; refine hK3 _ ?_; clear hK3; refine rg fun Z z' => ?_; simp only [am, seval, reduceCtorEq]; refine z' _ ?_; clear z' Z; refine AWp.ret ?_; refine rt (by show resV Tryz.prog _ [.tmp 4] = _; simp only [resV, am, seval, reduceCtorEq]; rfl) ⟨?_, rfl⟩; simp only [oneV, within]; rw [hR, any_end hno]; rfl
theorem f167_spec (t : Term) (hw : t.args.length ≤ 2^42) (h : ∀ a ∈ t.args, Gives Tryz.prog 167 [.agg a.v] (vbool (selects a))) : Gives Tryz.prog 167 [.agg t.v] (vbool (selects t)) := by
 intro s; refine acalls_of (fn := Tryz.f167) Tryz.func167 rfl (by decide) (by show 1 ≤ 21; decide) ?_; rw [Tryz.ntmps167]; refine rg fun Z z' => ?_; simp only [tvs, Term.v_args, Term.v_sub, amt, seval, reduceCtorEq]; refine z' _ ?_; clear z' Z; refine AWp.seq_k fun K2 hK2 => ?_; refine rg fun Z z' => ?_; simp only [tvs, Term.v_args, Term.v_sub, amt, seval, reduceCtorEq]; refine z' _ ?_; clear z' Z; refine AWp.condK fun C1 C2 hC1 hC2 => ?_; simp only [condP, am, seval, reduceCtorEq]; refine ⟨fun hc7 => hC1 ?_, fun hc7 => hC2 ?_⟩ <;> clear hC1 hC2 C1 C2
 ·refine rg fun Z z' => ?_; simp only [tvs, Term.v_args, Term.v_sub, am, seval, reduceCtorEq]; refine z' _ ?_; clear z' Z; refine AWp.ret ?_; refine rt (by show resV Tryz.prog _ [.tmp 2] = _; simp only [resV, am, seval, reduceCtorEq]; rfl) ⟨?_, rfl⟩; simp only [oneV]; rw [selects_eq, hc7, Bool.true_or]
 ·refine AWp.skip ?_; refine hK2 _ ?_; clear hK2; refine AWp.seq_k fun K5 hK5 => ?_; refine rg fun Z z' => ?_; simp only [tvs, Term.v_args, Term.v_sub, am, seval, reduceCtorEq]; refine z' _ ?_; clear z' Z; refine AWp.block ?_; refine AWp.loopT (ι := Nat) (fun i => i ≤ t.args.length ∧ (t.args.take i).any selects = false) (fun i => tst [(1, .loc 1 0), (3, vint i)] [(1, (t.v, 49))] s 21) (fun i => t.args.length - i) 0 ⟨⟨Nat.zero_le _, by simp⟩, ?_⟩ ?_
  ·refine lt0 ?_ ?_ ?_
   ·simp only [leE, am, seval, reduceCtorEq] <;> simp
   ·simp only [oks, Nat.reduceBEq]
   ·simp only [leB, am, seval, reduceCtorEq]
  ·rintro i ⟨hi, hno⟩; refine AWp.seq_k fun K7 hK7 => ?_; refine rg fun Z z' => ?_; simp only [tvs, Term.v_args, Term.v_sub, amt, seval, reduceCtorEq]; refine z' _ ?_; clear z' Z; refine AWp.cond (t := decide ((i:Int) < (t.args.length : Nat))) (by simp only [am, seval, reduceCtorEq]) (fun ht => ?_) (fun ht => ?_)
   ·have hlt : i < t.args.length := lt_of_dec ht; have ix0 : (0 ≤ (i : Int)) = True := by simp
    have ix1 : ((i : Int) < ((t.args.length : Nat) : Int)) = True := by simp [hlt]
    refine AWp.skip ?_; refine hK7 _ ?_; clear hK7; refine AWp.seq_k fun K9 hK9 => ?_; refine AWp.block ?_; refine rg fun Z z' => ?_; simp only [tvs, Term.v_args, Term.v_sub, ix0, ix1, true_and, getD_map _ _ _ hlt, amt, seval, reduceCtorEq]; refine (h t.args[i] (List.getElem_mem hlt) _).go ?_; simp only [tvs, Term.v_args, Term.v_sub, ix0, ix1, true_and, getD_map _ _ _ hlt, amt, seval, reduceCtorEq]; refine z' _ ?_; clear z' Z; refine AWp.condK fun C1 C2 hC1 hC2 => ?_; simp only [condP, hc7, am, seval, reduceCtorEq]; refine ⟨fun hc20 => hC1 ?_, fun hc20 => hC2 ?_⟩ <;> clear hC1 hC2 C1 C2
    ·refine rg fun Z z' => ?_; simp only [tvs, Term.v_args, Term.v_sub, am, seval, reduceCtorEq]; refine z' _ ?_; clear z' Z; refine AWp.ret ?_; refine rt (by show resV Tryz.prog _ [.tmp 2] = _; simp only [resV, am, seval, reduceCtorEq]; rfl) ⟨?_, rfl⟩; simp only [oneV]; rw [selects_eq, any_at hlt hc20, Bool.or_true]
    ·refine AWp.skip ?_; refine hK9 _ ?_; clear hK9; refine rg1 fun Z z' => ?_; simp only [tvs, Term.v_args, Term.v_sub, amt, seval, reduceCtorEq]; refine z' _ ?_; clear z' Z; refine ⟨i + 1, ⟨⟨hlt, any_take_succ hlt hno hc20⟩, by omega⟩, ?_⟩; refine lt0 ?_ ?_ ?_
     ·simp only [leE, am, seval, reduceCtorEq]; rw [wrap_id (by omega) (by omega)]; simp
     ·simp only [oks, Nat.reduceBEq]
     ·simp only [leB, am, seval, reduceCtorEq]
   ·obtain rfl : i = t.args.length := eq_of_dec ht hi; refine AWp.exit ?_; simp only [exq, seval]; refine hK5 _ ?_; clear hK5; refine rg fun Z z' => ?_; simp only [tvs, Term.v_args, Term.v_sub, am, seval, reduceCtorEq]; refine z' _ ?_; clear z' Z; refine AWp.ret ?_; refine rt (by show resV Tryz.prog _ [.tmp 2] = _; simp only [resV, am, seval, reduceCtorEq]; rfl) ⟨?_, rfl⟩; simp only [oneV]; rw [selects_eq, hc7, any_end hno]; rfl
theorem selR_all : ∀ n : Nat, n ≤ 550024249344 → ∀ t : Term, t.w ≤ n → Gives Tryz.prog 167 [.agg t.v] (vbool (selects t))
 | 0, _, t, h => by rw [Term.w_eq] at h; omega
 | n + 1, hn, t, h => by
  have hl := len_le Term.w_pos t.args
  rw [Term.w_eq] at h
  exact f167_spec t (by omega) fun a ha => selR_all n (by omega) a (by have := mem_w Term.w t.args a ha; omega)
theorem selR (t : Term) (hw : t.w ≤ 550024249344) : Gives Tryz.prog 167 [.agg t.v] (vbool (selects t)) := selR_all t.w hw t (Nat.le_refl _)
theorem f159_spec (op : Int) : Gives Tryz.prog 159 [vint op] (vint (turned op)) := by
 intro s; refine acalls_of (fn := Tryz.f159) Tryz.func159 rfl (by decide) (by show 1 ≤ 15; decide) ?_; rw [Tryz.ntmps159]; refine rg fun Z z' => ?_; simp only [am, seval, reduceCtorEq]; refine z' _ ?_; clear z' Z; refine AWp.seq_k fun K2 hK2 => ?_; refine rg fun Z z' => ?_; simp only [am, seval, reduceCtorEq]; refine z' _ ?_; clear z' Z; refine AWp.block ?_; refine AWp.seq_k fun K4 hK4 => ?_; refine rg fun Z z' => ?_; simp only [amt, seval, reduceCtorEq]; refine z' _ ?_; clear z' Z; refine AWp.condK fun C1 C2 hC1 hC2 => ?_; simp only [condP, am, seval, reduceCtorEq]; refine ⟨fun h15 => hC1 ?_, fun h15 => hC2 ?_⟩ <;> clear hC1 hC2 C1 C2
 ·refine AWp.skip ?_; refine hK4 _ ?_; clear hK4; refine cT (by simp only [h15, am, seval, reduceCtorEq]) ?_; refine rg fun Z z' => ?_; simp only [h15, amt, seval, reduceCtorEq]; refine z' _ ?_; clear z' Z; refine AWp.ret ?_; refine rt (by show resV Tryz.prog _ [.tmp 2] = _; simp only [resV, am, seval, reduceCtorEq]; rfl) ⟨?_, rfl⟩
  (try obtain rfl := eq_of_beq h15); simp only [oneV, turned, h15, ↓reduceIte, Bool.false_eq_true]; try rfl
 ·refine rg1 fun Z z' => ?_; simp only [h15, amt, seval, reduceCtorEq]; refine z' _ ?_; clear z' Z; refine hK4 _ ?_; clear hK4; refine AWp.condK fun C1 C2 hC1 hC2 => ?_; simp only [condP, h15, am, seval, reduceCtorEq]; refine ⟨fun h16 => hC1 ?_, fun h16 => hC2 ?_⟩ <;> clear hC1 hC2 C1 C2
  ·refine rg fun Z z' => ?_; simp only [h15, h16, amt, seval, reduceCtorEq]; refine z' _ ?_; clear z' Z; refine AWp.ret ?_; refine rt (by show resV Tryz.prog _ [.tmp 2] = _; simp only [resV, am, seval, reduceCtorEq]; rfl) ⟨?_, rfl⟩
   (try obtain rfl := eq_of_beq h16); simp only [oneV, turned, h15, h16, ↓reduceIte, Bool.false_eq_true]; try rfl
  ·refine AWp.seq_k fun K9 hK9 => ?_; refine rg fun Z z' => ?_; simp only [h15, h16, amt, seval, reduceCtorEq]; refine z' _ ?_; clear z' Z; refine AWp.condK fun C1 C2 hC1 hC2 => ?_; simp only [condP, h15, h16, am, seval, reduceCtorEq]; refine ⟨fun h17 => hC1 ?_, fun h17 => hC2 ?_⟩ <;> clear hC1 hC2 C1 C2
   ·refine AWp.skip ?_; refine hK9 _ ?_; clear hK9; refine cT (by simp only [h15, h16, h17, am, seval, reduceCtorEq]) ?_; refine rg fun Z z' => ?_; simp only [h15, h16, h17, amt, seval, reduceCtorEq]; refine z' _ ?_; clear z' Z; refine AWp.ret ?_; refine rt (by show resV Tryz.prog _ [.tmp 2] = _; simp only [resV, am, seval, reduceCtorEq]; rfl) ⟨?_, rfl⟩
    (try obtain rfl := eq_of_beq h17); simp only [oneV, turned, h15, h16, h17, ↓reduceIte, Bool.false_eq_true]; try rfl
   ·refine rg1 fun Z z' => ?_; simp only [h15, h16, h17, amt, seval, reduceCtorEq]; refine z' _ ?_; clear z' Z; refine hK9 _ ?_; clear hK9; refine AWp.condK fun C1 C2 hC1 hC2 => ?_; simp only [condP, h15, h16, h17, am, seval, reduceCtorEq]; refine ⟨fun h18 => hC1 ?_, fun h18 => hC2 ?_⟩ <;> clear hC1 hC2 C1 C2
    ·refine rg fun Z z' => ?_; simp only [h15, h16, h17, h18, amt, seval, reduceCtorEq]; refine z' _ ?_; clear z' Z; refine AWp.ret ?_; refine rt (by show resV Tryz.prog _ [.tmp 2] = _; simp only [resV, am, seval, reduceCtorEq]; rfl) ⟨?_, rfl⟩
     (try obtain rfl := eq_of_beq h18); simp only [oneV, turned, h15, h16, h17, h18, ↓reduceIte, Bool.false_eq_true]; try rfl
    ·refine AWp.skip ?_; refine hK2 _ ?_; clear hK2; refine rg fun Z z' => ?_; simp only [h15, h16, h17, h18, am, seval, reduceCtorEq]; refine z' _ ?_; clear z' Z; refine AWp.ret ?_; refine rt (by show resV Tryz.prog _ [.tmp 2] = _; simp only [resV, am, seval, reduceCtorEq]; rfl) ⟨?_, rfl⟩
     (try obtain rfl := eq_of_beq h18); simp only [oneV, turned, h15, h16, h17, h18, ↓reduceIte, Bool.false_eq_true]; try rfl
theorem f158_spec (s : Heap) (g : Nat) (hg : s.own g = none) (out : List Said) (hl : out.length ≤ 550024249344) (k op coll : Int) (c o : Term) (how : o.w ≤ 274945015808) (x y : Int) : ACalls Tryz.prog 158 [.own g 17 (out.map Said.v), vint k, vint op, vint coll, .agg c.v, .agg o.v, vint x, vint y] (s.setOwn g (some (185, 17))) fun v s' => ∃ g', s.own g' = none ∧ v = .own g' 17 ((out ++ side k op coll c o x y).map Said.v) ∧ s' = s.setOwn g' (some (185, 17)) := by
 have ho := reach_one o how; refine acalls_of (fn := Tryz.f158) Tryz.func158 rfl (by decide) (by show 8 ≤ 108; decide) ?_; rw [Tryz.ntmps158]; refine rg fun Z z' => ?_; simp only [tvs, amt, seval, reduceCtorEq]; refine z' _ ?_; clear z' Z; refine AWp.seq_k fun K2 hK2 => ?_; refine AWp.seq_cut (ι := Unit) (fun _ => True) (fun _ => tst [(0, .own g 17 (out.map Said.v)), (1, vint k), (2, vint op), (3, vint coll), (6, vint x), (7, vint y), (12, .loc 12 0), (13, .loc 13 0), (47, vbool (sideBad k c o))] [(12, (c.v, 49)), (13, (o.v, 49))] (s.setOwn g (some (185, 17))) 108) ?_ ?_
 ·refine rg1 fun Z z' => ?_; simp only [tvs, Term.v_op, Term.v_neg, Term.v_n, Term.v_frm, undef, amt, seval, reduceCtorEq]; refine gF (fun hg1_3 => ?_) (fun hg1_3 => ?_)
  ·simp only [tvs, Term.v_op, Term.v_neg, Term.v_n, Term.v_frm, hg1_3, undef, amt, seval, reduceCtorEq]; refine gF (fun hg1_7 => ?_) (fun hg1_7 => ?_)
   ·simp only [tvs, Term.v_op, Term.v_neg, Term.v_n, Term.v_frm, hg1_3, hg1_7, undef, amt, seval, reduceCtorEq]; refine gF (fun hg1_12 => ?_) (fun hg1_12 => ?_)
    ·simp only [tvs, Term.v_op, Term.v_neg, Term.v_n, Term.v_frm, hg1_3, hg1_7, hg1_12, undef, amt, seval, reduceCtorEq]; refine gF (fun hg1_18 => ?_) (fun hg1_18 => ?_)
     ·simp only [tvs, Term.v_op, Term.v_neg, Term.v_n, Term.v_frm, hg1_3, hg1_7, hg1_12, hg1_18, undef, amt, seval, reduceCtorEq]; refine (ho _).go ?_; simp only [tvs, Term.v_op, Term.v_neg, Term.v_n, Term.v_frm, hg1_3, hg1_7, hg1_12, hg1_18, undef, amt, seval, reduceCtorEq]; refine (f86_spec _ k _).go ?_; simp only [tvs, Term.v_op, Term.v_neg, Term.v_n, Term.v_frm, hg1_3, hg1_7, hg1_12, hg1_18, undef, amt, seval, reduceCtorEq]; refine gF (fun hg1_25 => ?_) (fun hg1_25 => ?_)
      ·simp only [tvs, Term.v_op, Term.v_neg, Term.v_n, Term.v_frm, hg1_3, hg1_7, hg1_12, hg1_18, hg1_25, undef, amt, seval, reduceCtorEq]; refine (selR o (by omega) _).go ?_; simp only [tvs, Term.v_op, Term.v_neg, Term.v_n, Term.v_frm, hg1_3, hg1_7, hg1_12, hg1_18, hg1_25, undef, amt, seval, reduceCtorEq]; refine z' _ ?_; clear z' Z; refine ⟨(), trivial, ?_⟩; refine lt0 ?_ ?_ ?_
       ·simp only [leE, sideBad, hg1_3, hg1_7, hg1_12, hg1_18, hg1_25, bo, Bool.not_true, Bool.not_false, ↓reduceIte, Bool.false_eq_true, am, seval, reduceCtorEq]
       ·simp only [oks, Nat.reduceBEq]
       ·simp only [leB, sideBad, hg1_3, hg1_7, hg1_12, hg1_18, hg1_25, bo, Bool.not_true, Bool.not_false, ↓reduceIte, Bool.false_eq_true, am, seval, reduceCtorEq]
      ·simp only [tvs, Term.v_op, Term.v_neg, Term.v_n, Term.v_frm, hg1_3, hg1_7, hg1_12, hg1_18, hg1_25, undef, amt, seval, reduceCtorEq]; refine z' _ ?_; clear z' Z; refine ⟨(), trivial, ?_⟩; refine lt0 ?_ ?_ ?_
       ·simp only [leE, sideBad, hg1_3, hg1_7, hg1_12, hg1_18, hg1_25, bo, Bool.not_true, Bool.not_false, ↓reduceIte, Bool.false_eq_true, am, seval, reduceCtorEq]
       ·simp only [oks, Nat.reduceBEq]
       ·simp only [leB, sideBad, hg1_3, hg1_7, hg1_12, hg1_18, hg1_25, bo, Bool.not_true, Bool.not_false, ↓reduceIte, Bool.false_eq_true, am, seval, reduceCtorEq]
     ·simp only [tvs, Term.v_op, Term.v_neg, Term.v_n, Term.v_frm, hg1_3, hg1_7, hg1_12, hg1_18, undef, amt, seval, reduceCtorEq]; refine z' _ ?_; clear z' Z; refine ⟨(), trivial, ?_⟩; refine lt0 ?_ ?_ ?_
      ·simp only [leE, sideBad, hg1_3, hg1_7, hg1_12, hg1_18, bo, Bool.not_true, Bool.not_false, ↓reduceIte, Bool.false_eq_true, am, seval, reduceCtorEq]
      ·simp only [oks, Nat.reduceBEq]
      ·simp only [leB, sideBad, hg1_3, hg1_7, hg1_12, hg1_18, bo, Bool.not_true, Bool.not_false, ↓reduceIte, Bool.false_eq_true, am, seval, reduceCtorEq]
    ·simp only [tvs, Term.v_op, Term.v_neg, Term.v_n, Term.v_frm, hg1_3, hg1_7, hg1_12, undef, amt, seval, reduceCtorEq]; refine z' _ ?_; clear z' Z; refine ⟨(), trivial, ?_⟩; refine lt0 ?_ ?_ ?_
     ·simp only [leE, sideBad, hg1_3, hg1_7, hg1_12, bo, Bool.not_true, Bool.not_false, ↓reduceIte, Bool.false_eq_true, am, seval, reduceCtorEq]
     ·simp only [oks, Nat.reduceBEq]
     ·simp only [leB, sideBad, hg1_3, hg1_7, hg1_12, bo, Bool.not_true, Bool.not_false, ↓reduceIte, Bool.false_eq_true, am, seval, reduceCtorEq]
   ·simp only [tvs, Term.v_op, Term.v_neg, Term.v_n, Term.v_frm, hg1_3, hg1_7, undef, amt, seval, reduceCtorEq]; refine z' _ ?_; clear z' Z; refine ⟨(), trivial, ?_⟩; refine lt0 ?_ ?_ ?_
    ·simp only [leE, sideBad, hg1_3, hg1_7, bo, Bool.not_true, Bool.not_false, ↓reduceIte, Bool.false_eq_true, am, seval, reduceCtorEq]
    ·simp only [oks, Nat.reduceBEq]
    ·simp only [leB, sideBad, hg1_3, hg1_7, bo, Bool.not_true, Bool.not_false, ↓reduceIte, Bool.false_eq_true, am, seval, reduceCtorEq]
  ·simp only [tvs, Term.v_op, Term.v_neg, Term.v_n, Term.v_frm, hg1_3, undef, amt, seval, reduceCtorEq]; refine z' _ ?_; clear z' Z; refine ⟨(), trivial, ?_⟩; refine lt0 ?_ ?_ ?_
   ·simp only [leE, sideBad, hg1_3, bo, Bool.not_true, Bool.not_false, ↓reduceIte, Bool.false_eq_true, am, seval, reduceCtorEq]
   ·simp only [oks, Nat.reduceBEq]
   ·simp only [leB, sideBad, hg1_3, bo, Bool.not_true, Bool.not_false, ↓reduceIte, Bool.false_eq_true, am, seval, reduceCtorEq]
 ·rintro ⟨⟩ _; refine AWp.condK fun C1 C2 hC1 hC2 => ?_; simp only [condP, am, seval, reduceCtorEq]; refine ⟨fun hB => hC1 ?_, fun hB => hC2 ?_⟩ <;> clear hC1 hC2 C1 C2
  ·refine rg fun Z z' => ?_; simp only [am, seval, reduceCtorEq]; refine z' _ ?_; clear z' Z; refine AWp.ret ?_; refine rt (by show resV Tryz.prog _ [.tmp 16] = _; simp only [resV, am, seval, reduceCtorEq]; rfl) ⟨g, hg, ?_, rfl⟩; simp only [oneV]; rw [side_bad hB, List.append_nil]
  ·refine AWp.skip ?_; refine hK2 _ ?_; clear hK2; refine AWp.seq_cut (ι := Unit) (fun _ => True) (fun _ => tst [(0, .own g 17 (out.map Said.v)), (1, vint k), (2, vint op), (3, vint coll), (6, vint x), (7, vint y), (12, .loc 12 0), (13, .loc 13 0), (17, vbool (hold3 x y))] [(12, (c.v, 49)), (13, (o.v, 49))] (s.setOwn g (some (185, 17))) 108) ?_ ?_
   ·refine rg1 fun Z z' => ?_; simp only [undef, amt, seval, reduceCtorEq]; refine gF (fun hg3_2 => ?_) (fun hg3_2 => ?_)
    ·simp only [hg3_2, undef, amt, seval, reduceCtorEq]; refine gT (fun hg3_5 => ?_) (fun hg3_5 => ?_)
     ·simp only [hg3_2, hg3_5, undef, amt, seval, reduceCtorEq]; refine gF (fun hg3_10 => ?_) (fun hg3_10 => ?_)
      ·simp only [hg3_2, hg3_5, hg3_10, undef, amt, seval, reduceCtorEq]; refine gT (fun hg3_13 => ?_) (fun hg3_13 => ?_)
       ·simp only [hg3_2, hg3_5, hg3_10, hg3_13, undef, amt, seval, reduceCtorEq]; refine z' _ ?_; clear z' Z; refine ⟨(), trivial, ?_⟩; refine lt0 ?_ ?_ ?_
        ·simp only [leE, hold3, hB, hg3_2, hg3_5, hg3_10, hg3_13, bo, Bool.not_true, Bool.not_false, ↓reduceIte, Bool.false_eq_true, am, seval, reduceCtorEq]
        ·simp only [oks, Nat.reduceBEq]
        ·simp only [leB, hold3, hB, hg3_2, hg3_5, hg3_10, hg3_13, bo, Bool.not_true, Bool.not_false, ↓reduceIte, Bool.false_eq_true, am, seval, reduceCtorEq]
       ·simp only [hg3_2, hg3_5, hg3_10, hg3_13, undef, amt, seval, reduceCtorEq]; refine z' _ ?_; clear z' Z; refine ⟨(), trivial, ?_⟩; refine lt0 ?_ ?_ ?_
        ·simp only [leE, hold3, hB, hg3_2, hg3_5, hg3_10, hg3_13, bo, Bool.not_true, Bool.not_false, ↓reduceIte, Bool.false_eq_true, am, seval, reduceCtorEq]
        ·simp only [oks, Nat.reduceBEq]
        ·simp only [leB, hold3, hB, hg3_2, hg3_5, hg3_10, hg3_13, bo, Bool.not_true, Bool.not_false, ↓reduceIte, Bool.false_eq_true, am, seval, reduceCtorEq]
      ·simp only [hg3_2, hg3_5, hg3_10, undef, amt, seval, reduceCtorEq]; refine z' _ ?_; clear z' Z; refine ⟨(), trivial, ?_⟩; refine lt0 ?_ ?_ ?_
       ·simp only [leE, hold3, hB, hg3_2, hg3_5, hg3_10, bo, Bool.not_true, Bool.not_false, ↓reduceIte, Bool.false_eq_true, am, seval, reduceCtorEq]
       ·simp only [oks, Nat.reduceBEq]
       ·simp only [leB, hold3, hB, hg3_2, hg3_5, hg3_10, bo, Bool.not_true, Bool.not_false, ↓reduceIte, Bool.false_eq_true, am, seval, reduceCtorEq]
     ·simp only [hg3_2, hg3_5, undef, amt, seval, reduceCtorEq]; refine gT (fun hg3_13 => ?_) (fun hg3_13 => ?_)
      ·simp only [hg3_2, hg3_5, hg3_13, undef, amt, seval, reduceCtorEq]; refine z' _ ?_; clear z' Z; refine ⟨(), trivial, ?_⟩; refine lt0 ?_ ?_ ?_
       ·simp only [leE, hold3, hB, hg3_2, hg3_5, hg3_13, bo, Bool.not_true, Bool.not_false, ↓reduceIte, Bool.false_eq_true, am, seval, reduceCtorEq]
       ·simp only [oks, Nat.reduceBEq]
       ·simp only [leB, hold3, hB, hg3_2, hg3_5, hg3_13, bo, Bool.not_true, Bool.not_false, ↓reduceIte, Bool.false_eq_true, am, seval, reduceCtorEq]
      ·simp only [hg3_2, hg3_5, hg3_13, undef, amt, seval, reduceCtorEq]; refine z' _ ?_; clear z' Z; refine ⟨(), trivial, ?_⟩; refine lt0 ?_ ?_ ?_
       ·simp only [leE, hold3, hB, hg3_2, hg3_5, hg3_13, bo, Bool.not_true, Bool.not_false, ↓reduceIte, Bool.false_eq_true, am, seval, reduceCtorEq]
       ·simp only [oks, Nat.reduceBEq]
       ·simp only [leB, hold3, hB, hg3_2, hg3_5, hg3_13, bo, Bool.not_true, Bool.not_false, ↓reduceIte, Bool.false_eq_true, am, seval, reduceCtorEq]
    ·simp only [hg3_2, undef, amt, seval, reduceCtorEq]; refine z' _ ?_; clear z' Z; refine ⟨(), trivial, ?_⟩; refine lt0 ?_ ?_ ?_
     ·simp only [leE, hold3, hB, hg3_2, bo, Bool.not_true, Bool.not_false, ↓reduceIte, Bool.false_eq_true, am, seval, reduceCtorEq]
     ·simp only [oks, Nat.reduceBEq]
     ·simp only [leB, hold3, hB, hg3_2, bo, Bool.not_true, Bool.not_false, ↓reduceIte, Bool.false_eq_true, am, seval, reduceCtorEq]
   ·rintro ⟨⟩ _; refine AWp.seq_k fun K6 hK6 => ?_; refine AWp.seq_cut (ι := Unit) (fun _ => True) (fun _ => tst [(0, .own g 17 (out.map Said.v)), (1, vint k), (2, vint op), (3, vint coll), (6, vint x), (7, vint y), (12, .loc 12 0), (13, .loc 13 0), (17, vbool (hold3 x y)), (76, vbool (hold4 x y))] [(12, (c.v, 49)), (13, (o.v, 49))] (s.setOwn g (some (185, 17))) 108) ?_ ?_
    ·refine rg1 fun Z z' => ?_; simp only [undef, amt, seval, reduceCtorEq]; refine gT (fun hg4_2 => ?_) (fun hg4_2 => ?_)
     ·simp only [hg4_2, undef, amt, seval, reduceCtorEq]; refine gT (fun hg4_6 => ?_) (fun hg4_6 => ?_)
      ·simp only [hg4_2, hg4_6, undef, amt, seval, reduceCtorEq]; refine z' _ ?_; clear z' Z; refine ⟨(), trivial, ?_⟩; refine lt0 ?_ ?_ ?_
       ·simp only [leE, hold4, hg4_2, hg4_6, bo, Bool.not_true, Bool.not_false, ↓reduceIte, Bool.false_eq_true, am, seval, reduceCtorEq]
       ·simp only [oks, Nat.reduceBEq]
       ·simp only [leB, hold4, hg4_2, hg4_6, bo, Bool.not_true, Bool.not_false, ↓reduceIte, Bool.false_eq_true, am, seval, reduceCtorEq]
      ·simp only [hg4_2, hg4_6, undef, amt, seval, reduceCtorEq]; refine z' _ ?_; clear z' Z; refine ⟨(), trivial, ?_⟩; refine lt0 ?_ ?_ ?_
       ·simp only [leE, hold4, hg4_2, hg4_6, bo, Bool.not_true, Bool.not_false, ↓reduceIte, Bool.false_eq_true, am, seval, reduceCtorEq]
       ·simp only [oks, Nat.reduceBEq]
       ·simp only [leB, hold4, hg4_2, hg4_6, bo, Bool.not_true, Bool.not_false, ↓reduceIte, Bool.false_eq_true, am, seval, reduceCtorEq]
     ·simp only [hg4_2, undef, amt, seval, reduceCtorEq]; refine z' _ ?_; clear z' Z; refine ⟨(), trivial, ?_⟩; refine lt0 ?_ ?_ ?_
      ·simp only [leE, hold4, hg4_2, bo, Bool.not_true, Bool.not_false, ↓reduceIte, Bool.false_eq_true, am, seval, reduceCtorEq]
      ·simp only [oks, Nat.reduceBEq]
      ·simp only [leB, hold4, hg4_2, bo, Bool.not_true, Bool.not_false, ↓reduceIte, Bool.false_eq_true, am, seval, reduceCtorEq]
    ·rintro ⟨⟩ _; refine AWp.condK fun C1 C2 hC1 hC2 => ?_; simp only [condP, am, seval, reduceCtorEq]; refine ⟨fun h4 => hC1 ?_, fun h4 => hC2 ?_⟩ <;> clear hC1 hC2 C1 C2
     ·refine rg1 fun Z z' => ?_; simp only [am, seval, reduceCtorEq]; refine z' _ ?_; clear z' Z; refine hK6 _ ?_; clear hK6; refine AWp.seq_k fun K9 hK9 => ?_; refine rg fun Z z' => ?_; simp only [Bool.not_false, am, seval, reduceCtorEq]; refine z' _ ?_; clear z' Z; refine cT (by simp only [h4, am, seval, reduceCtorEq]) ?_; refine rg fun Z z' => ?_; simp only [am, seval, reduceCtorEq]; refine z' _ ?_; clear z' Z; refine AWp.ret ?_; refine rt (by show resV Tryz.prog _ [.tmp 16] = _; simp only [resV, am, seval, reduceCtorEq]; rfl) ⟨g, hg, ?_, rfl⟩; simp only [oneV]; rw [side_no (endOk_h4 h4), List.append_nil]
     ·refine AWp.skip ?_; refine hK6 _ ?_; clear hK6; refine AWp.seq_k fun K12 hK12 => ?_; refine rg fun Z z' => ?_; simp only [Bool.not_false, am, seval, reduceCtorEq]; refine z' _ ?_; clear z' Z; refine AWp.condK fun C1 C2 hC1 hC2 => ?_; simp only [condP, h4, am, seval, reduceCtorEq]; refine ⟨fun h3 => hC1 ?_, fun h3 => hC2 ?_⟩ <;> clear hC1 hC2 C1 C2
      ·have h3 := h3; rw [Bool.not_eq_true'] at h3; refine rg fun Z z' => ?_; simp only [am, seval, reduceCtorEq]; refine z' _ ?_; clear z' Z; refine AWp.ret ?_; refine rt (by show resV Tryz.prog _ [.tmp 16] = _; simp only [resV, am, seval, reduceCtorEq]; rfl) ⟨g, hg, ?_, rfl⟩; simp only [oneV]; rw [side_no (endOk_h3 h3), List.append_nil]
      ·have h3 := h3; rw [Bool.not_eq_false'] at h3; refine AWp.skip ?_; refine hK12 _ ?_; clear hK12; refine rg fun Z z' => ?_; simp only [tvs, amt, seval, reduceCtorEq]; refine z' _ ?_; clear z' Z; refine AWp.seq_k fun K16 hK16 => ?_; refine AWp.seq_cut (ι := Unit) (fun _ => True) (fun _ => tst [(0, .own g 17 (out.map Said.v)), (1, vint k), (2, vint op), (3, vint coll), (6, vint x), (7, vint y), (12, .loc 12 0), (13, .loc 13 0), (18, .loc 18 0), (94, vbool (end1 x y))] [(12, (c.v, 49)), (13, (o.v, 49)), (18, (o.v, 49))] (s.setOwn g (some (185, 17))) 108) ?_ ?_
       ·refine rg1 fun Z z' => ?_; simp only [undef, amt, seval, reduceCtorEq]; refine gT (fun hg9_2 => ?_) (fun hg9_2 => ?_)
        ·simp only [hg9_2, undef, amt, seval, reduceCtorEq]; refine gF (fun hg9_6 => ?_) (fun hg9_6 => ?_)
         ·simp only [hg9_2, hg9_6, undef, amt, seval, reduceCtorEq]; refine gT (fun hg9_9 => ?_) (fun hg9_9 => ?_)
          ·simp only [hg9_2, hg9_6, hg9_9, undef, amt, seval, reduceCtorEq]; refine z' _ ?_; clear z' Z; refine ⟨(), trivial, ?_⟩; refine lt0 ?_ ?_ ?_
           ·simp only [leE, end1, h4, h3, hg9_2, hg9_6, hg9_9, bo, Bool.not_true, Bool.not_false, ↓reduceIte, Bool.false_eq_true, am, seval, reduceCtorEq]
           ·simp only [oks, Nat.reduceBEq]
           ·simp only [leB, end1, h4, h3, hg9_2, hg9_6, hg9_9, bo, Bool.not_true, Bool.not_false, ↓reduceIte, Bool.false_eq_true, am, seval, reduceCtorEq]
          ·simp only [hg9_2, hg9_6, hg9_9, undef, amt, seval, reduceCtorEq]; refine z' _ ?_; clear z' Z; refine ⟨(), trivial, ?_⟩; refine lt0 ?_ ?_ ?_
           ·simp only [leE, end1, h4, h3, hg9_2, hg9_6, hg9_9, bo, Bool.not_true, Bool.not_false, ↓reduceIte, Bool.false_eq_true, am, seval, reduceCtorEq]
           ·simp only [oks, Nat.reduceBEq]
           ·simp only [leB, end1, h4, h3, hg9_2, hg9_6, hg9_9, bo, Bool.not_true, Bool.not_false, ↓reduceIte, Bool.false_eq_true, am, seval, reduceCtorEq]
         ·simp only [hg9_2, hg9_6, undef, amt, seval, reduceCtorEq]; refine z' _ ?_; clear z' Z; refine ⟨(), trivial, ?_⟩; refine lt0 ?_ ?_ ?_
          ·simp only [leE, end1, h4, h3, hg9_2, hg9_6, bo, Bool.not_true, Bool.not_false, ↓reduceIte, Bool.false_eq_true, am, seval, reduceCtorEq]
          ·simp only [oks, Nat.reduceBEq]
          ·simp only [leB, end1, h4, h3, hg9_2, hg9_6, bo, Bool.not_true, Bool.not_false, ↓reduceIte, Bool.false_eq_true, am, seval, reduceCtorEq]
        ·simp only [hg9_2, undef, amt, seval, reduceCtorEq]; refine gT (fun hg9_9 => ?_) (fun hg9_9 => ?_)
         ·simp only [hg9_2, hg9_9, undef, amt, seval, reduceCtorEq]; refine z' _ ?_; clear z' Z; refine ⟨(), trivial, ?_⟩; refine lt0 ?_ ?_ ?_
          ·simp only [leE, end1, h4, h3, hg9_2, hg9_9, bo, Bool.not_true, Bool.not_false, ↓reduceIte, Bool.false_eq_true, am, seval, reduceCtorEq]
          ·simp only [oks, Nat.reduceBEq]
          ·simp only [leB, end1, h4, h3, hg9_2, hg9_9, bo, Bool.not_true, Bool.not_false, ↓reduceIte, Bool.false_eq_true, am, seval, reduceCtorEq]
         ·simp only [hg9_2, hg9_9, undef, amt, seval, reduceCtorEq]; refine z' _ ?_; clear z' Z; refine ⟨(), trivial, ?_⟩; refine lt0 ?_ ?_ ?_
          ·simp only [leE, end1, h4, h3, hg9_2, hg9_9, bo, Bool.not_true, Bool.not_false, ↓reduceIte, Bool.false_eq_true, am, seval, reduceCtorEq]
          ·simp only [oks, Nat.reduceBEq]
          ·simp only [leB, end1, h4, h3, hg9_2, hg9_9, bo, Bool.not_true, Bool.not_false, ↓reduceIte, Bool.false_eq_true, am, seval, reduceCtorEq]
       ·rintro ⟨⟩ _; refine AWp.condK fun C1 C2 hC1 hC2 => ?_; simp only [condP, am, seval, reduceCtorEq]; refine ⟨fun h9 => hC1 ?_, fun h9 => hC2 ?_⟩ <;> clear hC1 hC2 C1 C2
        ·refine rg1 fun Z z' => ?_; simp only [tvs, Term.v_drop, amt, seval, reduceCtorEq]; refine z' _ ?_; clear z' Z; refine hK16 _ ?_; clear hK16; refine AWp.wkB 18 (cs := [vint 103, vbool false, vint 0, vint 0, vint 0, vstr .empty, vint 0, vint 0, vstr .empty, vint 0, vint x, vint 0, .slice 14 [o.v], .nil]) (ty := 49) (endT o x y).v (by simp only [am, seval, reduceCtorEq]) (by rw [show endT o x y = affine o x by simp only [endT, h9, ↓reduceIte]]; exact aff_wk) ?_; refine rg fun Z z' => ?_; simp only [tvs, Term.v_col, amt, seval, reduceCtorEq]; refine ⟨own_same _ _ _, by (try simp only [List.length_map]); omega, by (try simp only [List.length_map]); unfold maxLen; omega, fun g2 hg2 => ?_⟩; refine z' _ ?_; clear z' Z; refine AWp.ret ?_; refine ret_intro (by show resV Tryz.prog _ [.tmp 16] = _; simp only [resV, am, seval, reduceCtorEq]; rfl) (Wk.refl _) (own_step hg g2 _ _) ⟨g2, own_fresh hg2, ?_, rfl⟩; simp only [oneV]; rw [side_yes hB (endOk_of h3 h4), List.map_append]; rfl
        ·refine AWp.skip ?_; refine hK16 _ ?_; clear hK16; refine AWp.wkB 18 (cs := o.v) (ty := 49) (endT o x y).v (by simp only [am, seval, reduceCtorEq]) (by rw [show endT o x y = o from endT_same h9 h3 h4]; exact WkL.refl _) ?_; refine rg fun Z z' => ?_; simp only [tvs, Term.v_col, amt, seval, reduceCtorEq]; refine ⟨own_same _ _ _, by (try simp only [List.length_map]); omega, by (try simp only [List.length_map]); unfold maxLen; omega, fun g2 hg2 => ?_⟩; refine z' _ ?_; clear z' Z; refine AWp.ret ?_; refine ret_intro (by show resV Tryz.prog _ [.tmp 16] = _; simp only [resV, am, seval, reduceCtorEq]; rfl) (Wk.refl _) (own_step hg g2 _ _) ⟨g2, own_fresh hg2, ?_, rfl⟩; simp only [oneV]; rw [side_yes hB (endOk_of h3 h4), List.map_append]; rfl
theorem f147_spec (l : List Term) (hl : l.length ≤ 274911461376) (hw : ∀ t ∈ l, t.w ≤ 274945015808) (k : Int) : Gives Tryz.prog 147 [.slice 14 (l.map Term.v), vint k] (.slice 17 ((l.flatMap (says k)).map Said.v)) := by
 intro s; refine acalls_of (fn := Tryz.f147) Tryz.func147 rfl (by decide) (by show 2 ≤ 91; decide) ?_; rw [Tryz.ntmps147]; refine rg fun Z z' => ?_; simp only [am, seval, reduceCtorEq]; refine z' _ ?_; clear z' Z; refine rg fun Z z' => ?_; simp only [am, seval, reduceCtorEq]; refine z' _ ?_; clear z' Z; refine AWp.seq_k fun K3 hK3 => ?_; refine rg fun Z z' => ?_; simp only [am, seval, reduceCtorEq]; refine z' _ ?_; clear z' Z; refine AWp.block ?_; refine AWp.slen 0 (sz := 14) (es := l.map Term.v) (by simp only [am, seval, reduceCtorEq]) fun hmax => ?_; have hmx := maxLen_lt; (try rw [List.length_map] at hmax); refine AWp.adoptE 5 (185, 17) (.inl (by simp only [am, seval, reduceCtorEq])) fun g0 hg0 => ?_; change s.own g0 = none at hg0; refine AWp.loopT (ι := Nat × Nat) (fun q => q.1 ≤ l.length ∧ s.own q.2 = none) (fun q => tst [(0, .slice 14 (l.map Term.v)), (1, vint k), (5, .own q.2 17 (((l.take q.1).flatMap (says k)).map Said.v)), (6, vint q.1)] [] (s.setOwn q.2 (some (185, 17))) 91) (fun q => l.length - q.1) (0, g0) ⟨⟨Nat.zero_le _, hg0⟩, ?_⟩ ?_
 ·refine lt0 ?_ ?_ ?_
  ·simp only [leE, am, seval, reduceCtorEq] <;> simp
  ·simp only [oks, Nat.reduceBEq]
  ·simp only [leB, am, seval, reduceCtorEq]
 ·rintro ⟨i, g1⟩ ⟨hi, hg1⟩; simp only at hi hg1 ⊢; refine AWp.seq_k fun K5 hK5 => ?_; refine rg fun Z z' => ?_; simp only [amt, seval, reduceCtorEq]; refine z' _ ?_; clear z' Z; refine AWp.cond (t := decide ((i:Int) < (l.length : Nat))) (by simp only [am, seval, reduceCtorEq]) (fun ht => ?_) (fun ht => ?_)
  ·have hlt : i < l.length := lt_of_dec ht; have ix0 : (0 ≤ (i : Int)) = True := by simp
   have ix1 : ((i : Int) < ((l.length : Nat) : Int)) = True := by simp [hlt]
   obtain ⟨t, ht0⟩ : ∃ t, l[i] = t := ⟨_, rfl⟩; have hgl : (l.map Term.v).getD (i : Int).toNat [] = t.v := by rw [getD_map _ _ _ hlt, ht0]
   have hsucc := flat_succ (says k) l hlt; rw [ht0] at hsucc; have htw : t.w ≤ 274945015808 := by rw [← ht0]; exact hw _ (List.getElem_mem hlt)
   refine AWp.skip ?_; refine hK5 _ ?_; clear hK5; refine AWp.seq_k fun K7 hK7 => ?_; refine AWp.block ?_; refine rg fun Z z' => ?_; simp only [tvs, ix0, ix1, true_and, hgl, amt, seval, reduceCtorEq]; refine z' _ ?_; clear z' Z; refine AWp.seq_k fun K9 hK9 => ?_; refine AWp.seq_cut (ι := Unit) (fun _ => True) (fun _ => tst [(0, .slice 14 (l.map Term.v)), (1, vint k), (5, .own g1 17 (((l.take i).flatMap (says k)).map Said.v)), (6, vint i), (7, .loc 7 0), (50, vbool (refBad t))] [(7, (t.v, 49))] (s.setOwn g1 (some (185, 17))) 91) ?_ ?_
   ·refine rg1 fun Z z' => ?_; simp only [tvs, Term.v_op, Term.v_neg, Term.v_args, undef, amt, seval, reduceCtorEq]; refine gF (fun hg6_2 => ?_) (fun hg6_2 => ?_)
    ·simp only [tvs, Term.v_op, Term.v_neg, Term.v_args, hg6_2, undef, amt, seval, reduceCtorEq]; refine gF (fun hg6_8 => ?_) (fun hg6_8 => ?_)
     ·simp only [tvs, Term.v_op, Term.v_neg, Term.v_args, hg6_2, hg6_8, undef, amt, seval, reduceCtorEq]; refine gT (fun hg6_12 => ?_) (fun hg6_12 => ?_)
      ·simp only [tvs, Term.v_op, Term.v_neg, Term.v_args, hg6_2, hg6_8, hg6_12, undef, amt, seval, reduceCtorEq]; refine gT (fun hg6_17 => ?_) (fun hg6_17 => ?_)
       ·simp only [tvs, Term.v_op, Term.v_neg, Term.v_args, hg6_2, hg6_8, hg6_12, hg6_17, undef, amt, seval, reduceCtorEq]; refine gT (fun hg6_22 => ?_) (fun hg6_22 => ?_)
        ·simp only [tvs, Term.v_op, Term.v_neg, Term.v_args, hg6_2, hg6_8, hg6_12, hg6_17, hg6_22, undef, amt, seval, reduceCtorEq]; refine gT (fun hg6_27 => ?_) (fun hg6_27 => ?_)
         ·simp only [tvs, Term.v_op, Term.v_neg, Term.v_args, hg6_2, hg6_8, hg6_12, hg6_17, hg6_22, hg6_27, undef, amt, seval, reduceCtorEq]; refine z' _ ?_; clear z' Z; refine ⟨(), trivial, ?_⟩; refine lt0 ?_ ?_ ?_
          ·simp only [leE, refBad, hg6_2, hg6_8, hg6_12, hg6_17, hg6_22, hg6_27, bo, Bool.not_true, Bool.not_false, ↓reduceIte, Bool.false_eq_true, am, seval, reduceCtorEq]
          ·simp only [oks, Nat.reduceBEq]
          ·simp only [leB, refBad, hg6_2, hg6_8, hg6_12, hg6_17, hg6_22, hg6_27, bo, Bool.not_true, Bool.not_false, ↓reduceIte, Bool.false_eq_true, am, seval, reduceCtorEq]
         ·simp only [tvs, Term.v_op, Term.v_neg, Term.v_args, hg6_2, hg6_8, hg6_12, hg6_17, hg6_22, hg6_27, undef, amt, seval, reduceCtorEq]; refine z' _ ?_; clear z' Z; refine ⟨(), trivial, ?_⟩; refine lt0 ?_ ?_ ?_
          ·simp only [leE, refBad, hg6_2, hg6_8, hg6_12, hg6_17, hg6_22, hg6_27, bo, Bool.not_true, Bool.not_false, ↓reduceIte, Bool.false_eq_true, am, seval, reduceCtorEq]
          ·simp only [oks, Nat.reduceBEq]
          ·simp only [leB, refBad, hg6_2, hg6_8, hg6_12, hg6_17, hg6_22, hg6_27, bo, Bool.not_true, Bool.not_false, ↓reduceIte, Bool.false_eq_true, am, seval, reduceCtorEq]
        ·simp only [tvs, Term.v_op, Term.v_neg, Term.v_args, hg6_2, hg6_8, hg6_12, hg6_17, hg6_22, undef, amt, seval, reduceCtorEq]; refine z' _ ?_; clear z' Z; refine ⟨(), trivial, ?_⟩; refine lt0 ?_ ?_ ?_
         ·simp only [leE, refBad, hg6_2, hg6_8, hg6_12, hg6_17, hg6_22, bo, Bool.not_true, Bool.not_false, ↓reduceIte, Bool.false_eq_true, am, seval, reduceCtorEq]
         ·simp only [oks, Nat.reduceBEq]
         ·simp only [leB, refBad, hg6_2, hg6_8, hg6_12, hg6_17, hg6_22, bo, Bool.not_true, Bool.not_false, ↓reduceIte, Bool.false_eq_true, am, seval, reduceCtorEq]
       ·simp only [tvs, Term.v_op, Term.v_neg, Term.v_args, hg6_2, hg6_8, hg6_12, hg6_17, undef, amt, seval, reduceCtorEq]; refine z' _ ?_; clear z' Z; refine ⟨(), trivial, ?_⟩; refine lt0 ?_ ?_ ?_
        ·simp only [leE, refBad, hg6_2, hg6_8, hg6_12, hg6_17, bo, Bool.not_true, Bool.not_false, ↓reduceIte, Bool.false_eq_true, am, seval, reduceCtorEq]
        ·simp only [oks, Nat.reduceBEq]
        ·simp only [leB, refBad, hg6_2, hg6_8, hg6_12, hg6_17, bo, Bool.not_true, Bool.not_false, ↓reduceIte, Bool.false_eq_true, am, seval, reduceCtorEq]
      ·simp only [tvs, Term.v_op, Term.v_neg, Term.v_args, hg6_2, hg6_8, hg6_12, undef, amt, seval, reduceCtorEq]; refine z' _ ?_; clear z' Z; refine ⟨(), trivial, ?_⟩; refine lt0 ?_ ?_ ?_
       ·simp only [leE, refBad, hg6_2, hg6_8, hg6_12, bo, Bool.not_true, Bool.not_false, ↓reduceIte, Bool.false_eq_true, am, seval, reduceCtorEq]
       ·simp only [oks, Nat.reduceBEq]
       ·simp only [leB, refBad, hg6_2, hg6_8, hg6_12, bo, Bool.not_true, Bool.not_false, ↓reduceIte, Bool.false_eq_true, am, seval, reduceCtorEq]
     ·simp only [tvs, Term.v_op, Term.v_neg, Term.v_args, hg6_2, hg6_8, undef, amt, seval, reduceCtorEq]; refine z' _ ?_; clear z' Z; refine ⟨(), trivial, ?_⟩; refine lt0 ?_ ?_ ?_
      ·simp only [leE, refBad, hg6_2, hg6_8, bo, Bool.not_true, Bool.not_false, ↓reduceIte, Bool.false_eq_true, am, seval, reduceCtorEq]
      ·simp only [oks, Nat.reduceBEq]
      ·simp only [leB, refBad, hg6_2, hg6_8, bo, Bool.not_true, Bool.not_false, ↓reduceIte, Bool.false_eq_true, am, seval, reduceCtorEq]
    ·simp only [tvs, Term.v_op, Term.v_neg, Term.v_args, hg6_2, undef, amt, seval, reduceCtorEq]; refine z' _ ?_; clear z' Z; refine ⟨(), trivial, ?_⟩; refine lt0 ?_ ?_ ?_
     ·simp only [leE, refBad, hg6_2, bo, Bool.not_true, Bool.not_false, ↓reduceIte, Bool.false_eq_true, am, seval, reduceCtorEq]
     ·simp only [oks, Nat.reduceBEq]
     ·simp only [leB, refBad, hg6_2, bo, Bool.not_true, Bool.not_false, ↓reduceIte, Bool.false_eq_true, am, seval, reduceCtorEq]
   ·rintro ⟨⟩ _; refine AWp.cond (t := refBad t) (by simp only [am, seval, reduceCtorEq]) (fun hb => ?_) (fun hb => ?_)
    ·have hsy : says k t = [] := by unfold says; rw [← refBad_eq, hb]; rfl
     refine AWp.exit ?_; simp only [exq, seval]; refine hK7 _ ?_; clear hK7; refine rg1 fun Z z' => ?_; simp only [amt, seval, reduceCtorEq]; refine z' _ ?_; clear z' Z; refine ⟨(i + 1, g1), ⟨⟨hlt, hg1⟩, by simp only; omega⟩, ?_⟩; refine lt0 ?_ ?_ ?_
     ·simp only [leE, am, seval, reduceCtorEq]; rw [wrap_id (by omega) (by omega), hsucc, hsy]; simp
     ·simp only [oks, Nat.reduceBEq]
     ·simp only [leB, am, seval, reduceCtorEq]
    ·have hlen : t.args.length = 2 := refBad_len hb; obtain ⟨x0, x1, ha⟩ : ∃ x0 x1, t.args = [x0, x1] := by
      match hq : t.args, hlen with
      | [x0, x1], _ => exact ⟨x0, x1, rfl⟩
     have hw0 := htw; rw [Term.w_eq, ha] at hw0; simp only [List.map_cons, List.map_nil, List.sum_cons, List.sum_nil] at hw0; have hsy : says k t = side k t.op t.coll x0 x1 t.l t.r ++ side k (turned t.op) t.coll x1 x0 t.r t.l := by unfold says; rw [← refBad_eq, hb]; simp only [side0, side1, ha]; rfl
     have ixa : ((0 : Int) ≤ 0) = True := by simp
     have ixb : ((0 : Int) < ((2 : Nat) : Int)) = True := by simp
     have ixc : ((0 : Int) ≤ 1) = True := by simp
     have ixd : ((1 : Int) < ((2 : Nat) : Int)) = True := by simp
     refine AWp.skip ?_; refine hK9 _ ?_; clear hK9; refine AWp.regL mixed [0, 1, 2, 3, 4, 5, 6, 7, 8, 9, 10, 11, 12, 13, 14, 15, 16, 17, 18, 19] (by decide +kernel) [99999] (by decide +kernel) fun Z z' => ?_; simp only [tvs, Term.v_op, Term.v_coll, Term.v_args, Term.v_l, Term.v_r, ixa, ixb, ixc, ixd, true_and, ha, Int.toNat_zero, Int.toNat_one, List.map_cons, List.map_nil, aml, Nat.reduceBEq, amt, seval, reduceCtorEq]; refine (f158_spec s g1 hg1 ((l.take i).flatMap (says k)) (by have := says_flat_len k l i; omega) k t.op t.coll x0 x1 (by omega) t.l t.r).mono ?_; rintro _ _ ⟨g2, hg2, rfl, rfl⟩; simp only [tvs, Term.v_op, Term.v_coll, Term.v_args, Term.v_l, Term.v_r, ixa, ixb, ixc, ixd, true_and, ha, Int.toNat_zero, Int.toNat_one, List.map_cons, List.map_nil, aml, Nat.reduceBEq, amt, seval, reduceCtorEq]; refine z' _ ?_; clear z' Z; refine AWp.regL1 mixed [0, 1, 2, 3, 5, 6, 7, 8, 9, 10, 11, 12, 13, 14, 15, 16, 17, 18, 4, 19, 20] (by decide +kernel) [99999] (by decide +kernel) fun Z z' => ?_; simp only [tvs, Term.v_op, Term.v_coll, Term.v_args, Term.v_l, Term.v_r, ixa, ixb, ixc, ixd, true_and, ha, Int.toNat_zero, Int.toNat_one, List.map_cons, List.map_nil, aml, Nat.reduceBEq, amt, seval, reduceCtorEq]; refine (f159_spec t.op _).go ?_; simp only [tvs, Term.v_op, Term.v_coll, Term.v_args, Term.v_l, Term.v_r, ixa, ixb, ixc, ixd, true_and, ha, Int.toNat_zero, Int.toNat_one, List.map_cons, List.map_nil, aml, Nat.reduceBEq, amt, seval, reduceCtorEq]
     refine (f158_spec s g2 hg2 ((l.take i).flatMap (says k) ++ side k t.op t.coll x0 x1 t.l t.r) (by have := says_flat_len k l i; have := @side_len k t.op t.coll x0 x1 t.l t.r; rw [List.length_append]; omega) k (turned t.op) t.coll x1 x0 (by omega) t.r t.l).mono ?_; rintro _ _ ⟨g3, hg3, rfl, rfl⟩; simp only [tvs, Term.v_op, Term.v_coll, Term.v_args, Term.v_l, Term.v_r, ixa, ixb, ixc, ixd, true_and, ha, Int.toNat_zero, Int.toNat_one, List.map_cons, List.map_nil, aml, Nat.reduceBEq, amt, seval, reduceCtorEq]; refine z' _ ?_; clear z' Z; refine hK7 _ ?_; clear hK7; refine rg1 fun Z z' => ?_; simp only [amt, seval, reduceCtorEq]; refine z' _ ?_; clear z' Z; refine ⟨(i + 1, g3), ⟨⟨hlt, hg3⟩, by simp only; omega⟩, ?_⟩; refine lt0 ?_ ?_ ?_
     ·simp only [leE, am, seval, reduceCtorEq]; rw [wrap_id (by omega) (by omega), hsucc, hsy]; simp
     ·simp only [oks, Nat.reduceBEq]
     ·simp only [leB, am, seval, reduceCtorEq]
  ·obtain rfl : i = l.length := eq_of_dec ht hi; refine AWp.exit ?_; simp only [exq, seval]; refine hK3 _ ?_; clear hK3; refine rg fun Z z' => ?_; simp only [am, seval, reduceCtorEq]; refine z' _ ?_; clear z' Z; refine AWp.ret ?_; refine ret_intro (vs := [.own g1 17 (((l.take l.length).flatMap (says k)).map Said.v)]) (by show resV Tryz.prog _ [.tmp 4] = _; simp only [resV, am, seval, reduceCtorEq]) (Wk.own _ _ _) (own_drop hg1 _) ⟨?_, rfl⟩; rw [List.take_length]
theorem Arm.v_take (a : Arm) : a.v.take 13 = a.v := List.take_of_length_le (by rw [Arm.v_len]; exact Nat.le_refl _)
theorem Arm.v_frm (a : Arm) : a.v[4]? = some (.slice 7 (a.frm.map From.v)) := by rw [Arm.v_eq]; rfl
theorem Arm.v_whr (a : Arm) : a.v[5]? = some (.slice 14 (a.whr.map Term.v)) := by rw [Arm.v_eq]; rfl
theorem Arm.v_steps (a : Arm) : a.v[12]? = some (.slice 7 (a.steps.map Step.v)) := by rw [Arm.v_eq]; rfl
set_option linter.defProp false
def avs := And.intro @Arm.v_len <| And.intro @Arm.v_all <| And.intro @Arm.v_take <| And.intro @Arm.v_frm <| And.intro @Arm.v_whr <| And.intro @Arm.v_steps <| True.intro
noncomputable def refP (op : Int) (t : Term) (col other coll : Int) (asked : Bool) (x : Said) : Bool := (x.op == op) && ((x.col == col || x.col == other) && ((!asked || x.coll == coll) && same x.fin t))
theorem refHas_P (a : Arm) (k op : Int) (ahead : List Int) (t : Term) (col other coll : Int) (asked : Bool) : refHas a k op ahead t col other coll asked = ((usable a k).any (refP op t col other coll asked) && within t ahead) := rfl
theorem f117_spec (a : Arm) (k : Int) (hk0 : 0 ≤ k) (hk1 : k < ((a.frm.length : Nat) : Int)) (hu : UOk a k) : Gives Tryz.prog 117 [.agg a.v, vint k] (.slice 17 ((usable a k).map Said.v)) := by
 have kx0 : (0 ≤ k) = True := by simp [hk0]
 have kx1 : (k < ((a.frm.length : Nat) : Int)) = True := by simp [hk1]
 have hgd : (a.frm.map From.v).getD k.toNat [] = (a.src k).v := src_get a k hk0 hk1; intro s; refine acalls_of (fn := Tryz.f117) Tryz.func117 rfl (by decide) (by show 2 ≤ 51; decide) ?_; rw [Tryz.ntmps117]; refine rg fun Z z' => ?_; simp only [avs, amt, seval, reduceCtorEq]; refine z' _ ?_; clear z' Z; refine AWp.seq_k fun K2 hK2 => ?_; refine rg fun Z z' => ?_; simp only [avs, kx0, kx1, true_and, hgd, From.v_eq, amt, seval, reduceCtorEq]; refine z' _ ?_; clear z' Z; refine AWp.condK fun C1 C2 hC1 hC2 => ?_; simp only [condP, am, seval, reduceCtorEq]; refine ⟨fun hc13 => hC1 ?_, fun hc13 => hC2 ?_⟩ <;> clear hC1 hC2 C1 C2
 ·have hUT : usableTerms a k = (a.src k).on := by unfold usableTerms; rw [if_pos hc13]
  refine rg fun Z z' => ?_; simp only [avs, kx0, kx1, true_and, hgd, From.v_eq, amt, seval, reduceCtorEq]; refine (f147_spec (a.src k).on (by have := hu.len; rw [hUT] at this; omega) (by have := hu.w; rw [hUT] at this; exact this) k _).go ?_; simp only [avs, kx0, kx1, true_and, hgd, From.v_eq, amt, seval, reduceCtorEq]; refine z' _ ?_; clear z' Z; refine AWp.ret ?_; refine rt (by show resV Tryz.prog _ [.tmp 4] = _; simp only [resV, am, seval, reduceCtorEq]; rfl) ⟨?_, rfl⟩; simp only [oneV, usable, hUT]
 ·have hUT : usableTerms a k = a.whr ++ (a.frm.take a.frm.length).flatMap innerOn := by unfold usableTerms; rw [if_neg (by rw [hc13]; decide), List.take_length]
  refine AWp.skip ?_; refine hK2 _ ?_; clear hK2; refine rg fun Z z' => ?_; simp only [am, seval, reduceCtorEq]; refine z' _ ?_; clear z' Z; refine AWp.adoptE 5 (49, 14) (.inl (by simp only [am, seval, reduceCtorEq])) fun g hg => ?_; change s.own g = none at hg; refine rg fun Z z' => ?_; simp only [avs, amt, seval, reduceCtorEq]; refine ⟨own_same _ _ _, by have := hu.wlen; rw [List.length_append] at this; (try simp only [List.length_map]); omega, by have := hu.wlen; rw [List.length_append] at this; (try simp only [List.length_map]); unfold maxLen; omega, fun g0 hg0 => ?_⟩; refine z' _ ?_; clear z' Z; refine AWp.seq_k fun K7 hK7 => ?_; refine rg fun Z z' => ?_; simp only [am, seval, reduceCtorEq]; refine z' _ ?_; clear z' Z; refine AWp.block ?_; have hfl := hu.f; refine AWp.loopT (ι := Nat × Nat) (fun q => q.1 ≤ a.frm.length ∧ s.own q.2 = none) (fun q => tst [(1, vint k), (2, .loc 2 0), (5, .own q.2 14 ((a.whr ++ (a.frm.take q.1).flatMap innerOn).map Term.v)), (6, vint q.1)] [(2, (a.v, 75))] (s.setOwn q.2 (some (49, 14))) 51) (fun q => a.frm.length - q.1) (0, g0) ⟨⟨Nat.zero_le _, own_fresh hg0⟩, ?_⟩ ?_
  ·refine le_tst ?_ ?_ ?_ (own_step hg _ _ _) rfl
   ·simp only [leE, am, seval, reduceCtorEq] <;> simp
   ·simp only [oks, Nat.reduceBEq]
   ·simp only [leB, am, seval, reduceCtorEq]
  ·rintro ⟨i, g1⟩ ⟨hi, hg1⟩; simp only at hi hg1 ⊢; refine AWp.seq_k fun K9 hK9 => ?_; refine rg fun Z z' => ?_; simp only [avs, amt, seval, reduceCtorEq]; refine z' _ ?_; clear z' Z; refine AWp.cond (t := decide ((i:Int) < (a.frm.length : Nat))) (by simp only [am, seval, reduceCtorEq]) (fun ht => ?_) (fun ht => ?_)
   ·have hlt : i < a.frm.length := lt_of_dec ht; have ix0 : (0 ≤ (i : Int)) = True := by simp
    have ix1 : ((i : Int) < ((a.frm.length : Nat) : Int)) = True := by simp [hlt]
    obtain ⟨f, hf0⟩ : ∃ f, a.frm[i] = f := ⟨_, rfl⟩; have hgf : (a.frm.map From.v).getD (i : Int).toNat [] = f.v := by rw [getD_map _ _ _ hlt, hf0]
    have hpre := pre_len (f := innerOn) a.whr a.frm (i + 1); have hsucc := flat_succ innerOn a.frm hlt; rw [hf0] at hsucc; have hwl := hu.wlen; refine AWp.skip ?_; refine hK9 _ ?_; clear hK9; refine AWp.seq_k fun K11 hK11 => ?_; refine AWp.block ?_; refine rg fun Z z' => ?_; simp only [avs, ix0, ix1, true_and, hgf, From.v_eq, amt, seval, reduceCtorEq]; refine z' _ ?_; clear z' Z; refine AWp.condK fun C1 C2 hC1 hC2 => ?_; simp only [condP, hc13, am, seval, reduceCtorEq]; refine ⟨fun hc39 => hC1 ?_, fun hc39 => hC2 ?_⟩ <;> clear hC1 hC2 C1 C2
    ·have hin : innerOn f = f.on := by unfold innerOn; rw [if_pos hc39]
     rw [hin] at hsucc; refine rg1 fun Z z' => ?_; simp only [avs, ix0, ix1, true_and, hgf, From.v_eq, amt, seval, reduceCtorEq]; refine ⟨own_same _ _ _, by rw [hsucc, List.length_append, List.length_append] at hpre; (try simp only [List.length_map, List.length_append]); omega, by rw [hsucc, List.length_append, List.length_append] at hpre; (try simp only [List.length_map, List.length_append]); unfold maxLen; omega, fun g2 hg2 => ?_⟩; refine z' _ ?_; clear z' Z; refine hK11 _ ?_; clear hK11; refine rg1 fun Z z' => ?_; simp only [amt, seval, reduceCtorEq]; refine z' _ ?_; clear z' Z; refine ⟨(i + 1, g2), ⟨⟨hlt, own_fresh hg2⟩, by simp only; omega⟩, ?_⟩; refine le_tst ?_ ?_ ?_ (own_step hg1 _ _ _) rfl
     ·simp only [leE, am, seval, reduceCtorEq]; rw [wrap_id (by omega) (by omega), hsucc]; simp
     ·simp only [oks, Nat.reduceBEq]
     ·simp only [leB, am, seval, reduceCtorEq]
    ·have hin : innerOn f = [] := by unfold innerOn; rw [if_neg (by rw [hc39]; decide)]
     rw [hin, List.append_nil] at hsucc; refine AWp.skip ?_; refine hK11 _ ?_; clear hK11; refine rg1 fun Z z' => ?_; simp only [amt, seval, reduceCtorEq]; refine z' _ ?_; clear z' Z; refine ⟨(i + 1, g1), ⟨⟨hlt, hg1⟩, by simp only; omega⟩, ?_⟩; refine lt0 ?_ ?_ ?_
     ·simp only [leE, am, seval, reduceCtorEq]; rw [wrap_id (by omega) (by omega), hsucc]; simp
     ·simp only [oks, Nat.reduceBEq]
     ·simp only [leB, am, seval, reduceCtorEq]
   ·obtain rfl : i = a.frm.length := eq_of_dec ht hi; refine AWp.exit ?_; simp only [exq, seval]; refine hK7 _ ?_; clear hK7; refine rg fun Z z' => ?_; simp only [am, seval, reduceCtorEq]; refine ((f147_spec (a.whr ++ (a.frm.take a.frm.length).flatMap innerOn) (by have := hu.len; rw [hUT] at this; omega) (by have := hu.w; rw [hUT] at this; exact this) k _).own1).go ?_; simp only [am, seval, reduceCtorEq]; refine z' _ ?_; clear z' Z; refine AWp.ret ?_; refine ret_intro (by show resV Tryz.prog _ [.tmp 4] = _; simp only [resV, am, seval, reduceCtorEq]; rfl) (Wk.refl _) (own_drop hg1 _) ⟨?_, rfl⟩; simp only [oneV, usable, hUT]
theorem f134_spec (a : Arm) (k : Int) (hk0 : 0 ≤ k) (hk1 : k < ((a.frm.length : Nat) : Int)) (hu : UOk a k) (op : Int) (ahead : List Int) (t : Term) (hw : t.w ≤ 274945015808) (col other coll : Int) (asked : Bool) : Gives Tryz.prog 134 [.agg a.v, vint k, vint op, vints ahead, .agg t.v, vint col, vint other, vint coll, vbool asked] (vbool (refHas a k op ahead t col other coll asked)) := by
 have hU := f117_spec a k hk0 hk1 hu; obtain ⟨U, hUe⟩ : ∃ U, usable a k = U := ⟨_, rfl⟩; rw [hUe] at hU; intro s; refine acalls_of (fn := Tryz.f134) Tryz.func134 rfl (by decide) (by show 9 ≤ 80; decide) ?_; rw [Tryz.ntmps134]; refine rg fun Z z' => ?_; simp only [avs, tvs, amt, seval, reduceCtorEq]; refine z' _ ?_; clear z' Z; refine rg fun Z z' => ?_; simp only [avs, tvs, amt, seval, reduceCtorEq]; refine (hU _).go ?_; simp only [avs, tvs, amt, seval, reduceCtorEq]; refine z' _ ?_; clear z' Z; refine AWp.seq_k fun K3 hK3 => ?_; refine rg fun Z z' => ?_; simp only [am, seval, reduceCtorEq]; refine z' _ ?_; clear z' Z; refine AWp.block ?_; refine AWp.slen 19 (sz := 17) (es := U.map Said.v) (by simp only [am, seval, reduceCtorEq]) fun hmax => ?_; have hmx := maxLen_lt; (try rw [List.length_map] at hmax); refine AWp.loopT (ι := Nat) (fun i => i ≤ U.length ∧ (U.take i).any (refP op t col other coll asked) = false) (fun i => tst [(1, vint k), (2, vint op), (3, vints ahead), (5, vint col), (6, vint other), (7, vint coll), (8, vbool asked), (13, .loc 13 0), (19, .slice 17 (U.map Said.v)), (20, vint i)] [(13, (t.v, 49))] s 80) (fun i => U.length - i) 0 ⟨⟨Nat.zero_le _, by simp⟩, ?_⟩ ?_
 ·refine lt0 ?_ ?_ ?_
  ·simp only [leE, am, seval, reduceCtorEq] <;> simp
  ·simp only [oks, Nat.reduceBEq]
  ·simp only [leB, am, seval, reduceCtorEq]
 ·rintro i ⟨hi, hno⟩; refine AWp.seq_k fun K5 hK5 => ?_; refine rg fun Z z' => ?_; simp only [amt, seval, reduceCtorEq]; refine z' _ ?_; clear z' Z; refine AWp.cond (t := decide ((i:Int) < (U.length : Nat))) (by simp only [am, seval, reduceCtorEq]) (fun ht => ?_) (fun ht => ?_)
  ·have hlt : i < U.length := lt_of_dec ht; have ix0 : (0 ≤ (i : Int)) = True := by simp
   have ix1 : ((i : Int) < ((U.length : Nat) : Int)) = True := by simp [hlt]
   obtain ⟨u, hu0⟩ : ∃ u, U[i] = u := ⟨_, rfl⟩; have hgu : (U.map Said.v).getD (i : Int).toNat [] = u.v := by rw [getD_map _ _ _ hlt, hu0]
   refine AWp.skip ?_; refine hK5 _ ?_; clear hK5; refine AWp.seq_k fun K7 hK7 => ?_; refine AWp.block ?_; refine AWp.seq_cut (ι := Unit) (fun _ => True) (fun _ => tst [(1, vint k), (2, vint op), (3, vints ahead), (5, vint col), (6, vint other), (7, vint coll), (8, vbool asked), (13, .loc 13 0), (19, .slice 17 (U.map Said.v)), (20, vint i), (76, vbool (refP op t col other coll asked u))] [(13, (t.v, 49))] s 80) ?_ ?_
   ·refine AWp.regL1 mixed [0, 1, 2, 3, 4, 5, 6, 7, 8, 9, 10, 11, 12, 13, 14, 15, 16, 17, 18, 19, 20, 21, 22, 23, 24, 25, 26, 27, 28, 29, 30, 31, 32, 33, 34, 35, 36, 37, 38, 39, 40, 41, 42, 43, 44, 45, 46] (by decide +kernel) [99999] (by decide +kernel) fun Z z' => ?_; simp only [tvs, svs, ix0, ix1, true_and, hgu, undef, aml, Nat.reduceBEq, amt, seval, reduceCtorEq]; refine gTL (fun hg5_7 => ?_) (fun hg5_7 => ?_)
    ·simp only [tvs, svs, ix0, ix1, true_and, hgu, hg5_7, undef, aml, Nat.reduceBEq, amt, seval, reduceCtorEq]; refine gFL (fun hg5_15 => ?_) (fun hg5_15 => ?_)
     ·simp only [tvs, svs, ix0, ix1, true_and, hgu, hg5_7, hg5_15, undef, aml, Nat.reduceBEq, amt, seval, reduceCtorEq]; refine gTL (fun hg5_25 => ?_) (fun hg5_25 => ?_)
      ·simp only [tvs, svs, ix0, ix1, true_and, hgu, hg5_7, hg5_15, hg5_25, undef, aml, Nat.reduceBEq, amt, seval, reduceCtorEq]; refine gFL (fun hg5_28 => ?_) (fun hg5_28 => ?_)
       ·simp only [tvs, svs, ix0, ix1, true_and, hgu, hg5_7, hg5_15, hg5_25, hg5_28, undef, aml, Nat.reduceBEq, amt, seval, reduceCtorEq]; refine gTL (fun hg5_38 => ?_) (fun hg5_38 => ?_)
        ·simp only [tvs, svs, ix0, ix1, true_and, hgu, hg5_7, hg5_15, hg5_25, hg5_28, hg5_38, undef, aml, Nat.reduceBEq, amt, seval, reduceCtorEq]; refine (same_term u.fin t _).go ?_; simp only [tvs, svs, ix0, ix1, true_and, hgu, hg5_7, hg5_15, hg5_25, hg5_28, hg5_38, undef, aml, Nat.reduceBEq, amt, seval, reduceCtorEq]; refine z' _ ?_; clear z' Z; refine ⟨(), trivial, ?_⟩; refine lt0 ?_ ?_ ?_
         ·simp only [leE, refP, hg5_7, hg5_15, hg5_25, hg5_28, hg5_38, bo, Bool.not_true, Bool.not_false, ↓reduceIte, Bool.false_eq_true, am, seval, reduceCtorEq]
         ·simp only [oks, Nat.reduceBEq]
         ·simp only [leB, refP, hg5_7, hg5_15, hg5_25, hg5_28, hg5_38, bo, Bool.not_true, Bool.not_false, ↓reduceIte, Bool.false_eq_true, am, seval, reduceCtorEq]
        ·simp only [tvs, svs, ix0, ix1, true_and, hgu, hg5_7, hg5_15, hg5_25, hg5_28, hg5_38, undef, aml, Nat.reduceBEq, amt, seval, reduceCtorEq]; refine z' _ ?_; clear z' Z; refine ⟨(), trivial, ?_⟩; refine lt0 ?_ ?_ ?_
         ·simp only [leE, refP, hg5_7, hg5_15, hg5_25, hg5_28, hg5_38, bo, Bool.not_true, Bool.not_false, ↓reduceIte, Bool.false_eq_true, am, seval, reduceCtorEq]
         ·simp only [oks, Nat.reduceBEq]
         ·simp only [leB, refP, hg5_7, hg5_15, hg5_25, hg5_28, hg5_38, bo, Bool.not_true, Bool.not_false, ↓reduceIte, Bool.false_eq_true, am, seval, reduceCtorEq]
       ·simp only [tvs, svs, ix0, ix1, true_and, hgu, hg5_7, hg5_15, hg5_25, hg5_28, undef, aml, Nat.reduceBEq, amt, seval, reduceCtorEq]; refine (same_term u.fin t _).go ?_; simp only [tvs, svs, ix0, ix1, true_and, hgu, hg5_7, hg5_15, hg5_25, hg5_28, undef, aml, Nat.reduceBEq, amt, seval, reduceCtorEq]; refine z' _ ?_; clear z' Z; refine ⟨(), trivial, ?_⟩; refine lt0 ?_ ?_ ?_
        ·simp only [leE, refP, hg5_7, hg5_15, hg5_25, hg5_28, bo, Bool.not_true, Bool.not_false, ↓reduceIte, Bool.false_eq_true, am, seval, reduceCtorEq]
        ·simp only [oks, Nat.reduceBEq]
        ·simp only [leB, refP, hg5_7, hg5_15, hg5_25, hg5_28, bo, Bool.not_true, Bool.not_false, ↓reduceIte, Bool.false_eq_true, am, seval, reduceCtorEq]
      ·simp only [tvs, svs, ix0, ix1, true_and, hgu, hg5_7, hg5_15, hg5_25, undef, aml, Nat.reduceBEq, amt, seval, reduceCtorEq]; refine z' _ ?_; clear z' Z; refine ⟨(), trivial, ?_⟩; refine lt0 ?_ ?_ ?_
       ·simp only [leE, refP, hg5_7, hg5_15, hg5_25, bo, Bool.not_true, Bool.not_false, ↓reduceIte, Bool.false_eq_true, am, seval, reduceCtorEq]
       ·simp only [oks, Nat.reduceBEq]
       ·simp only [leB, refP, hg5_7, hg5_15, hg5_25, bo, Bool.not_true, Bool.not_false, ↓reduceIte, Bool.false_eq_true, am, seval, reduceCtorEq]
     ·simp only [tvs, svs, ix0, ix1, true_and, hgu, hg5_7, hg5_15, undef, aml, Nat.reduceBEq, amt, seval, reduceCtorEq]; refine gFL (fun hg5_28 => ?_) (fun hg5_28 => ?_)
      ·simp only [tvs, svs, ix0, ix1, true_and, hgu, hg5_7, hg5_15, hg5_28, undef, aml, Nat.reduceBEq, amt, seval, reduceCtorEq]; refine gTL (fun hg5_38 => ?_) (fun hg5_38 => ?_)
       ·simp only [tvs, svs, ix0, ix1, true_and, hgu, hg5_7, hg5_15, hg5_28, hg5_38, undef, aml, Nat.reduceBEq, amt, seval, reduceCtorEq]; refine (same_term u.fin t _).go ?_; simp only [tvs, svs, ix0, ix1, true_and, hgu, hg5_7, hg5_15, hg5_28, hg5_38, undef, aml, Nat.reduceBEq, amt, seval, reduceCtorEq]; refine z' _ ?_; clear z' Z; refine ⟨(), trivial, ?_⟩; refine lt0 ?_ ?_ ?_
        ·simp only [leE, refP, hg5_7, hg5_15, hg5_28, hg5_38, bo, Bool.not_true, Bool.not_false, ↓reduceIte, Bool.false_eq_true, am, seval, reduceCtorEq]
        ·simp only [oks, Nat.reduceBEq]
        ·simp only [leB, refP, hg5_7, hg5_15, hg5_28, hg5_38, bo, Bool.not_true, Bool.not_false, ↓reduceIte, Bool.false_eq_true, am, seval, reduceCtorEq]
       ·simp only [tvs, svs, ix0, ix1, true_and, hgu, hg5_7, hg5_15, hg5_28, hg5_38, undef, aml, Nat.reduceBEq, amt, seval, reduceCtorEq]; refine z' _ ?_; clear z' Z; refine ⟨(), trivial, ?_⟩; refine lt0 ?_ ?_ ?_
        ·simp only [leE, refP, hg5_7, hg5_15, hg5_28, hg5_38, bo, Bool.not_true, Bool.not_false, ↓reduceIte, Bool.false_eq_true, am, seval, reduceCtorEq]
        ·simp only [oks, Nat.reduceBEq]
        ·simp only [leB, refP, hg5_7, hg5_15, hg5_28, hg5_38, bo, Bool.not_true, Bool.not_false, ↓reduceIte, Bool.false_eq_true, am, seval, reduceCtorEq]
      ·simp only [tvs, svs, ix0, ix1, true_and, hgu, hg5_7, hg5_15, hg5_28, undef, aml, Nat.reduceBEq, amt, seval, reduceCtorEq]; refine (same_term u.fin t _).go ?_; simp only [tvs, svs, ix0, ix1, true_and, hgu, hg5_7, hg5_15, hg5_28, undef, aml, Nat.reduceBEq, amt, seval, reduceCtorEq]; refine z' _ ?_; clear z' Z; refine ⟨(), trivial, ?_⟩; refine lt0 ?_ ?_ ?_
       ·simp only [leE, refP, hg5_7, hg5_15, hg5_28, bo, Bool.not_true, Bool.not_false, ↓reduceIte, Bool.false_eq_true, am, seval, reduceCtorEq]
       ·simp only [oks, Nat.reduceBEq]
       ·simp only [leB, refP, hg5_7, hg5_15, hg5_28, bo, Bool.not_true, Bool.not_false, ↓reduceIte, Bool.false_eq_true, am, seval, reduceCtorEq]
    ·simp only [tvs, svs, ix0, ix1, true_and, hgu, hg5_7, undef, aml, Nat.reduceBEq, amt, seval, reduceCtorEq]; refine z' _ ?_; clear z' Z; refine ⟨(), trivial, ?_⟩; refine lt0 ?_ ?_ ?_
     ·simp only [leE, refP, hg5_7, bo, Bool.not_true, Bool.not_false, ↓reduceIte, Bool.false_eq_true, am, seval, reduceCtorEq]
     ·simp only [oks, Nat.reduceBEq]
     ·simp only [leB, refP, hg5_7, bo, Bool.not_true, Bool.not_false, ↓reduceIte, Bool.false_eq_true, am, seval, reduceCtorEq]
   ·rintro ⟨⟩ _; refine AWp.cond (t := refP op t col other coll asked u) (by simp only [am, seval, reduceCtorEq]) (fun hp => ?_) (fun hp => ?_)
    ·refine rg fun Z z' => ?_; simp only [tvs, amt, seval, reduceCtorEq]; refine (f89_spec t hw ahead _).go ?_; simp only [tvs, amt, seval, reduceCtorEq]; refine z' _ ?_; clear z' Z; refine AWp.ret ?_; refine rt (by show resV Tryz.prog _ [.tmp 18] = _; simp only [resV, am, seval, reduceCtorEq]; rfl) ⟨?_, rfl⟩; simp only [oneV]; rw [refHas_P, hUe, any_at hlt (by rw [hu0]; exact hp), Bool.true_and]
    ·refine AWp.skip ?_; refine hK7 _ ?_; clear hK7; refine rg1 fun Z z' => ?_; simp only [amt, seval, reduceCtorEq]; refine z' _ ?_; clear z' Z; refine ⟨i + 1, ⟨⟨hlt, any_take_succ hlt hno (by rw [hu0]; exact hp)⟩, by omega⟩, ?_⟩; refine lt0 ?_ ?_ ?_
     ·simp only [leE, am, seval, reduceCtorEq]; rw [wrap_id (by omega) (by omega)]; simp
     ·simp only [oks, Nat.reduceBEq]
     ·simp only [leB, am, seval, reduceCtorEq]
  ·obtain rfl : i = U.length := eq_of_dec ht hi; refine AWp.exit ?_; simp only [exq, seval]; refine hK3 _ ?_; clear hK3; refine rg fun Z z' => ?_; simp only [am, seval, reduceCtorEq]; refine z' _ ?_; clear z' Z; refine AWp.ret ?_; refine rt (by show resV Tryz.prog _ [.tmp 18] = _; simp only [resV, am, seval, reduceCtorEq]; rfl) ⟨?_, rfl⟩; simp only [oneV]; rw [refHas_P, hUe, any_end hno, Bool.false_and]
theorem f136_spec (a : Arm) (k : Int) (hk0 : 0 ≤ k) (hk1 : k < ((a.frm.length : Nat) : Int)) (hu : UOk a k) (l : List Bound) (hlw : ∀ b ∈ l, b.w ≤ 274945015808) (ahead : List Int) (opn closed : Int) (keys : List Sorted) : Gives Tryz.prog 136 [.agg a.v, vint k, .slice 15 (l.map Bound.v), vints ahead, vint opn, vint closed, .slice 3 (keys.map Sorted.v)] (vbool (bounded a k l ahead opn closed keys)) := by
 intro s; refine acalls_of (fn := Tryz.f136) Tryz.func136 rfl (by decide) (by show 7 ≤ 54; decide) ?_; rw [Tryz.ntmps136]; refine rg fun Z z' => ?_; simp only [avs, amt, seval, reduceCtorEq]; refine z' _ ?_; clear z' Z; refine AWp.seq_k fun K2 hK2 => ?_; refine rg fun Z z' => ?_; simp only [amt, seval, reduceCtorEq]; refine z' _ ?_; clear z' Z; refine AWp.condK fun C1 C2 hC1 hC2 => ?_; simp only [condP, am, seval, reduceCtorEq]; refine ⟨fun hc18 => hC1 ?_, fun hc18 => hC2 ?_⟩ <;> clear hC1 hC2 C1 C2
 ·obtain rfl : l = [] := List.eq_nil_of_length_eq_zero (by have := eq_of_beq hc18; omega); refine rg fun Z z' => ?_; simp only [am, seval, reduceCtorEq]; refine z' _ ?_; clear z' Z; refine AWp.ret ?_; refine rt (by show resV Tryz.prog _ [.tmp 14] = _; simp only [resV, am, seval, reduceCtorEq]; rfl) ⟨?_, rfl⟩; simp only [bounded, oneV]
 ·refine AWp.skip ?_; refine hK2 _ ?_; clear hK2; refine AWp.seq_k fun K5 hK5 => ?_; refine rg fun Z z' => ?_; simp only [undef, amt, seval, reduceCtorEq]; refine gF (fun hg3_3 => ?_) (fun hg3_3 => ?_)
  ·simp only [hg3_3, undef, amt, seval, reduceCtorEq]; refine z' _ ?_; clear z' Z; refine AWp.condK fun C1 C2 hC1 hC2 => ?_; simp only [condP, am, seval, reduceCtorEq]; refine ⟨fun hc26 => hC1 ?_, fun hc26 => hC2 ?_⟩ <;> clear hC1 hC2 C1 C2
   ·obtain rfl : keys = [] := List.eq_nil_of_length_eq_zero (by have := eq_of_beq hc26; omega); refine rg fun Z z' => ?_; simp only [am, seval, reduceCtorEq]; refine z' _ ?_; clear z' Z; refine AWp.ret ?_; refine rt (by show resV Tryz.prog _ [.tmp 14] = _; simp only [resV, am, seval, reduceCtorEq]; rfl) ⟨?_, rfl⟩
    match l, hc18 with
    | [], h => simp at h
    | [_], _ => simp only [bounded, oneV]
    | _ :: _ :: _, _ => simp only [bounded, oneV]
   ·obtain ⟨b, rfl⟩ : ∃ b, l = [b] := by
     match l, hc18, hg3_3 with
     | [], h, _ => simp at h
     | [b], _, _ => exact ⟨b, rfl⟩
     | _ :: _ :: _, _, h => simp at h; omega
    obtain ⟨q, ks, rfl⟩ : ∃ q ks, keys = q :: ks := by
     match keys, hc26 with
     | [], h => simp at h
     | q :: ks, _ => exact ⟨q, ks, rfl⟩
    have hb := hlw b (by simp); have ixa : ((0 : Int) ≤ 0) = True := by simp
    have ixb : ((0 : Int) < ((1 : Nat) : Int)) = True := by simp
    have ixc : ((0 : Int) < ((ks.length + 1 : Nat) : Int)) = True := by simp <;> omega
    refine AWp.skip ?_; refine hK5 _ ?_; clear hK5; refine rg fun Z z' => ?_; simp only [am, seval, reduceCtorEq]; refine z' _ ?_; clear z' Z; refine AWp.seq_k fun K9 hK9 => ?_; refine rg fun Z z' => ?_; simp only [avs, Bound.v_len, Bound.v_all, Bound.v_opn, Bound.v_term, Bound.v_term', ixa, ixb, ixc, true_and, Int.toNat_zero, Sorted.v_eq, amt, seval, reduceCtorEq]; refine z' _ ?_; clear z' Z; refine AWp.condK fun C1 C2 hC1 hC2 => ?_; simp only [condP, hc18, hg3_3, am, seval, reduceCtorEq]; refine ⟨fun hc31 => hC1 ?_, fun hc31 => hC2 ?_⟩ <;> clear hC1 hC2 C1 C2
    ·refine rg1 fun Z z' => ?_; simp only [am, seval, reduceCtorEq]; refine z' _ ?_; clear z' Z; refine hK9 _ ?_; clear hK9; refine AWp.regL mixed [0, 1, 2, 3, 4, 5, 6, 7, 8, 9, 10, 11, 12, 13, 14, 15, 16, 17, 18, 19, 20, 21] (by decide +kernel) [99999] (by decide +kernel) fun Z z' => ?_; simp only [avs, Bound.v_len, Bound.v_all, Bound.v_opn, Bound.v_term, Bound.v_term', ixa, ixb, ixc, true_and, Int.toNat_zero, Sorted.v_eq, aml, Nat.reduceBEq, amt, seval, reduceCtorEq]; refine (f134_spec a k hk0 hk1 hu opn ahead b.term (by have := Bound.w_eq b; omega) q.col q.col q.coll true _).go ?_; simp only [avs, Bound.v_len, Bound.v_all, Bound.v_opn, Bound.v_term, Bound.v_term', ixa, ixb, ixc, true_and, Int.toNat_zero, Sorted.v_eq, aml, Nat.reduceBEq, amt, seval, reduceCtorEq]; refine z' _ ?_; clear z' Z; refine AWp.ret ?_; refine rt (by show resV Tryz.prog _ [.tmp 14] = _; simp only [resV, am, seval, reduceCtorEq]; rfl) ⟨?_, rfl⟩; simp only [bounded, oneV, hc31, refHas_key, ↓reduceIte, Bool.false_eq_true]
    ·refine AWp.skip ?_; refine hK9 _ ?_; clear hK9; refine AWp.regL mixed [0, 1, 2, 3, 4, 5, 6, 7, 8, 9, 10, 11, 12, 13, 14, 15, 16, 17, 18, 19, 20, 21] (by decide +kernel) [99999] (by decide +kernel) fun Z z' => ?_; simp only [avs, Bound.v_len, Bound.v_all, Bound.v_opn, Bound.v_term, Bound.v_term', ixa, ixb, ixc, true_and, Int.toNat_zero, Sorted.v_eq, aml, Nat.reduceBEq, amt, seval, reduceCtorEq]; refine (f134_spec a k hk0 hk1 hu closed ahead b.term (by have := Bound.w_eq b; omega) q.col q.col q.coll true _).go ?_; simp only [avs, Bound.v_len, Bound.v_all, Bound.v_opn, Bound.v_term, Bound.v_term', ixa, ixb, ixc, true_and, Int.toNat_zero, Sorted.v_eq, aml, Nat.reduceBEq, amt, seval, reduceCtorEq]; refine z' _ ?_; clear z' Z; refine AWp.ret ?_; refine rt (by show resV Tryz.prog _ [.tmp 14] = _; simp only [resV, am, seval, reduceCtorEq]; rfl) ⟨?_, rfl⟩; simp only [bounded, oneV, hc31, refHas_key, ↓reduceIte, Bool.false_eq_true]
  ·simp only [hg3_3, undef, amt, seval, reduceCtorEq]; refine z' _ ?_; clear z' Z; refine cT (by simp only [hc18, hg3_3, am, seval, reduceCtorEq]) ?_; refine rg fun Z z' => ?_; simp only [am, seval, reduceCtorEq]; refine z' _ ?_; clear z' Z; refine AWp.ret ?_; refine rt (by show resV Tryz.prog _ [.tmp 14] = _; simp only [resV, am, seval, reduceCtorEq]; rfl) ⟨?_, rfl⟩
   match l, hc18, hg3_3 with
   | [], h, _ => simp at h
   | [_], _, h => simp at h
   | _ :: _ :: _, _, _ => simp only [bounded, oneV]
theorem f135_spec (sc : Schema) (hs1 : sc.views.isCell = true) (hil : sc.indexes.length ≤ 2^42) (table name : ByteArray) : Gives Tryz.prog 135 [.agg sc.v, vstr table, vstr name] (vint (sc.index table name)) := by
 intro s; refine acalls_of (fn := Tryz.f135) Tryz.func135 rfl (by decide) (by show 3 ≤ 34; decide) ?_; rw [Tryz.ntmps135]; refine rg fun Z z' => ?_; simp only [Schema.v_eq, hs1, amt, seval, reduceCtorEq]; refine z' _ ?_; clear z' Z; refine AWp.seq_k fun K2 hK2 => ?_; refine rg fun Z z' => ?_; simp only [Schema.v_eq, hs1, am, seval, reduceCtorEq]; refine z' _ ?_; clear z' Z; refine AWp.block ?_; refine AWp.loopT (ι := Nat) (fun i => i ≤ sc.indexes.length ∧ (sc.indexes.take i).any (fun i => i.name.toList == name.toList && i.table.toList == table.toList) = false) (fun i => tst [(1, vstr table), (2, vstr name), (3, .loc 3 0), (7, vint i)] [(3, (sc.v, 26))] s 34) (fun i => sc.indexes.length - i) 0 ⟨⟨Nat.zero_le _, by simp⟩, ?_⟩ ?_
 ·refine lt0 ?_ ?_ ?_
  ·simp only [leE, Schema.v_eq, am, seval, reduceCtorEq] <;> simp
  ·simp only [oks, Nat.reduceBEq]
  ·simp only [leB, Schema.v_eq, am, seval, reduceCtorEq]
 ·rintro i ⟨hi, hno⟩; refine AWp.seq_k fun K4 hK4 => ?_; refine rg fun Z z' => ?_; simp only [Schema.v_eq, hs1, amt, seval, reduceCtorEq]; refine z' _ ?_; clear z' Z; refine AWp.cond (t := decide ((i:Int) < (sc.indexes.length : Nat))) (by simp only [am, seval, reduceCtorEq]) (fun ht => ?_) (fun ht => ?_)
  ·have hlt : i < sc.indexes.length := lt_of_dec ht; have ix0 : (0 ≤ (i : Int)) = True := by simp
   have ix1 : ((i : Int) < ((sc.indexes.length : Nat) : Int)) = True := by simp [hlt]
   obtain ⟨x, hx0⟩ : ∃ x, sc.indexes[i] = x := ⟨_, rfl⟩; have hgi : (sc.indexes.map Index.v).getD (i : Int).toNat [] = x.v := by rw [getD_map _ _ _ hlt, hx0]
   refine AWp.skip ?_; refine hK4 _ ?_; clear hK4; refine AWp.seq_k fun K6 hK6 => ?_; refine AWp.block ?_; refine AWp.seq_cut (ι := Unit) (fun _ => True) (fun _ => tst [(1, vstr table), (2, vstr name), (3, .loc 3 0), (7, vint i), (32, vbool (x.name.toList == name.toList && x.table.toList == table.toList))] [(3, (sc.v, 26))] s 34) ?_ ?_
   ·refine rg1 fun Z z' => ?_; simp only [Schema.v_eq, hs1, ix0, ix1, true_and, hgi, Index.v_eq, undef, amt, seval, reduceCtorEq]; refine gT (fun hg4_8 => ?_) (fun hg4_8 => ?_)
    ·simp only [Schema.v_eq, hs1, ix0, ix1, true_and, hgi, Index.v_eq, hg4_8, undef, amt, seval, reduceCtorEq]; refine z' _ ?_; clear z' Z; refine ⟨(), trivial, ?_⟩; refine lt0 ?_ ?_ ?_
     ·simp only [leE, Schema.v_eq, hg4_8, bo, Bool.not_true, Bool.not_false, ↓reduceIte, Bool.false_eq_true, am, seval, reduceCtorEq]
     ·simp only [oks, Nat.reduceBEq]
     ·simp only [leB, Schema.v_eq, hg4_8, bo, Bool.not_true, Bool.not_false, ↓reduceIte, Bool.false_eq_true, am, seval, reduceCtorEq]
    ·simp only [Schema.v_eq, hs1, ix0, ix1, true_and, hgi, Index.v_eq, hg4_8, undef, amt, seval, reduceCtorEq]; refine z' _ ?_; clear z' Z; refine ⟨(), trivial, ?_⟩; refine lt0 ?_ ?_ ?_
     ·simp only [leE, Schema.v_eq, hg4_8, bo, Bool.not_true, Bool.not_false, ↓reduceIte, Bool.false_eq_true, am, seval, reduceCtorEq]
     ·simp only [oks, Nat.reduceBEq]
     ·simp only [leB, Schema.v_eq, hg4_8, bo, Bool.not_true, Bool.not_false, ↓reduceIte, Bool.false_eq_true, am, seval, reduceCtorEq]
   ·rintro ⟨⟩ _; refine AWp.cond (t := x.name.toList == name.toList && x.table.toList == table.toList) (by simp only [am, seval, reduceCtorEq]) (fun hp => ?_) (fun hp => ?_)
    ·refine rg fun Z z' => ?_; simp only [Schema.v_eq, hs1, am, seval, reduceCtorEq]; refine z' _ ?_; clear z' Z; refine AWp.ret ?_; refine rt (by show resV Tryz.prog _ [.tmp 6] = _; simp only [resV, am, seval, reduceCtorEq]; rfl) ⟨?_, rfl⟩; simp only [oneV]; unfold Schema.index; rw [idx_at hlt hno (by rw [hx0]; exact hp)]
    ·refine AWp.skip ?_; refine hK6 _ ?_; clear hK6; refine rg1 fun Z z' => ?_; simp only [Schema.v_eq, hs1, amt, seval, reduceCtorEq]; refine z' _ ?_; clear z' Z; refine ⟨i + 1, ⟨⟨hlt, any_take_succ hlt hno (by rw [hx0]; exact hp)⟩, by omega⟩, ?_⟩; refine lt0 ?_ ?_ ?_
     ·simp only [leE, Schema.v_eq, am, seval, reduceCtorEq]; rw [wrap_id (by omega) (by omega)]; simp
     ·simp only [oks, Nat.reduceBEq]
     ·simp only [leB, Schema.v_eq, am, seval, reduceCtorEq]
  ·obtain rfl : i = sc.indexes.length := eq_of_dec ht hi; refine AWp.exit ?_; simp only [exq, seval]; refine hK2 _ ?_; clear hK2; refine rg fun Z z' => ?_; simp only [Schema.v_eq, hs1, am, seval, reduceCtorEq]; refine z' _ ?_; clear z' Z; refine AWp.ret ?_; refine rt (by show resV Tryz.prog _ [.tmp 6] = _; simp only [resV, am, seval, reduceCtorEq]; rfl) ⟨?_, rfl⟩; simp only [oneV]; unfold Schema.index; rw [idx_none hno]
theorem f87_spec (a : Arm) (k : Int) (hk0 : 0 ≤ k) (hk1 : k < ((a.frm.length : Nat) : Int)) (l : List Int) (hl : l.length ≤ 549890031616) (hon : ∀ t ∈ (a.src k).on, t.w ≤ 274945015808) (hol : (a.src k).on.length ≤ 2^42) : Gives Tryz.prog 87 [.agg a.v, vint k, vints l] (vbool (ready a k l)) := by
 have kx0 : (0 ≤ k) = True := by simp [hk0]
 have kx1 : (k < ((a.frm.length : Nat) : Int)) = True := by simp [hk1]
 have hgd : (a.frm.map From.v).getD k.toNat [] = (a.src k).v := src_get a k hk0 hk1; intro s; refine acalls_of (fn := Tryz.f87) Tryz.func87 rfl (by decide) (by show 3 ≤ 35; decide) ?_; rw [Tryz.ntmps87]; refine rg fun Z z' => ?_; simp only [avs, kx0, kx1, true_and, hgd, From.v_eq, amt, seval, reduceCtorEq]; refine z' _ ?_; clear z' Z; refine rg fun Z z' => ?_; simp only [am, seval, reduceCtorEq]; refine (f28_spec l k (by omega) _).go ?_; simp only [am, seval, reduceCtorEq]; refine z' _ ?_; clear z' Z; refine AWp.seq_k fun K3 hK3 => ?_; refine rg fun Z z' => ?_; simp only [am, seval, reduceCtorEq]; refine z' _ ?_; clear z' Z; refine AWp.block ?_; refine AWp.loopT (ι := Nat) (fun i => i ≤ (a.src k).on.length ∧ ((a.src k).on.take i).any (fun t => !within t (put l k)) = false) (fun i => tst [(1, vint k), (3, .loc 3 0), (7, vints (put l k)), (8, vint i)] [(3, (a.v, 75))] s 35) (fun i => (a.src k).on.length - i) 0 ⟨⟨Nat.zero_le _, by simp⟩, ?_⟩ ?_
 ·refine lt0 ?_ ?_ ?_
  ·simp only [leE, am, seval, reduceCtorEq] <;> simp
  ·simp only [oks, Nat.reduceBEq]
  ·simp only [leB, am, seval, reduceCtorEq]
 ·rintro i ⟨hi, hno⟩; refine AWp.seq_k fun K5 hK5 => ?_; refine rg fun Z z' => ?_; simp only [avs, kx0, kx1, true_and, hgd, From.v_eq, amt, seval, reduceCtorEq]; refine z' _ ?_; clear z' Z; refine AWp.cond (t := decide ((i:Int) < ((a.src k).on.length : Nat))) (by simp only [am, seval, reduceCtorEq]) (fun ht => ?_) (fun ht => ?_)
  ·have hlt : i < (a.src k).on.length := lt_of_dec ht; have ix0 : (0 ≤ (i : Int)) = True := by simp
   have ix1 : ((i : Int) < (((a.src k).on.length : Nat) : Int)) = True := by simp [hlt]
   obtain ⟨t, ht0⟩ : ∃ t, (a.src k).on[i] = t := ⟨_, rfl⟩; have hgt : ((a.src k).on.map Term.v).getD (i : Int).toNat [] = t.v := by rw [getD_map _ _ _ hlt, ht0]
   refine AWp.skip ?_; refine hK5 _ ?_; clear hK5; refine AWp.seq_k fun K7 hK7 => ?_; refine AWp.block ?_; refine rg fun Z z' => ?_; simp only [avs, kx0, kx1, true_and, hgd, From.v_eq, ix0, ix1, hgt, tvs, amt, seval, reduceCtorEq]; refine (f89_spec t (hon _ (by rw [← ht0]; exact List.getElem_mem hlt)) (put l k) _).go ?_; simp only [avs, kx0, kx1, true_and, hgd, From.v_eq, ix0, ix1, hgt, tvs, amt, seval, reduceCtorEq]; refine z' _ ?_; clear z' Z; refine AWp.condK fun C1 C2 hC1 hC2 => ?_; simp only [condP, am, seval, reduceCtorEq]; refine ⟨fun hc34 => hC1 ?_, fun hc34 => hC2 ?_⟩ <;> clear hC1 hC2 C1 C2
   ·refine rg fun Z z' => ?_; simp only [am, seval, reduceCtorEq]; refine z' _ ?_; clear z' Z; refine AWp.ret ?_; refine rt (by show resV Tryz.prog _ [.tmp 6] = _; simp only [resV, am, seval, reduceCtorEq]; rfl) ⟨?_, rfl⟩; simp only [oneV]; rw [← ready_put, any_at hlt (by rw [ht0]; exact hc34)]; rfl
   ·refine AWp.skip ?_; refine hK7 _ ?_; clear hK7; refine rg1 fun Z z' => ?_; simp only [amt, seval, reduceCtorEq]; refine z' _ ?_; clear z' Z; refine ⟨i + 1, ⟨⟨hlt, any_take_succ hlt hno (by rw [ht0]; exact hc34)⟩, by omega⟩, ?_⟩; refine lt0 ?_ ?_ ?_
    ·simp only [leE, am, seval, reduceCtorEq]; rw [wrap_id (by omega) (by omega)]; simp
    ·simp only [oks, Nat.reduceBEq]
    ·simp only [leB, am, seval, reduceCtorEq]
  ·obtain rfl : i = (a.src k).on.length := eq_of_dec ht hi; refine AWp.exit ?_; simp only [exq, seval]; refine hK3 _ ?_; clear hK3; refine rg fun Z z' => ?_; simp only [am, seval, reduceCtorEq]; refine z' _ ?_; clear z' Z; refine AWp.ret ?_; refine rt (by show resV Tryz.prog _ [.tmp 6] = _; simp only [resV, am, seval, reduceCtorEq]; rfl) ⟨?_, rfl⟩; simp only [oneV]; rw [← ready_put, any_end hno]; rfl
theorem Sch.v_take (sc : Schema) : sc.v.take 3 = sc.v := rfl
theorem Sch.v_tab (sc : Schema) : sc.v[0]? = some (.slice 3 (sc.tables.map Table.v)) := rfl
theorem Sch.v_idx (sc : Schema) : sc.v[1]? = some (.slice 5 (sc.indexes.map Index.v)) := rfl
theorem From.v_all (a : From) : a.v.all V.isCell = true := by rw [From.v_eq]; rfl
theorem From.v_take (a : From) : a.v.take 7 = a.v := List.take_of_length_le (by rw [From.v_len]; exact Nat.le_refl _)
theorem From.v_kind (a : From) : a.v[1]? = some (vint a.kind) := by rw [From.v_eq]; rfl
theorem From.v_name (a : From) : a.v[2]? = some (vstr a.name) := by rw [From.v_eq]; rfl
theorem sum0 {a b c : Nat} : (((a : Int) + (b : Int) + (c : Int)) == 0) = (((a : Int) == 0) && (((b : Int) + (c : Int)) == 0)) := by
 rw [Bool.eq_iff_iff]; simp only [Bool.and_eq_true, beq_iff_eq]; omega
theorem idx_no {sc : Schema} {a : Arm} {k : Int} {x : Path} {ahead : List Int} {N : Int} {J : Index} (h0 : (x.kind == 0) = false) (h1 : (((a.src k).kind != 0) || !sc.hasTable (a.src k).name) = false) (h2 : (x.kind == 1) = false) (hN : sc.index (sc.table (a.src k).name).name x.index = N) (hK : sc.keys N = J.keys)
  (h : ((x.kind != 2) || (decide (N < 0) || decide (((x.eq.length : Nat) : Int) > ((J.keys.length : Nat) : Int)))) = true) : V.base (Value.bool false) = vbool (pathOk sc a k x ahead) := by
 unfold pathOk indexOk
 rw [h1, h0, h2, hN, hK]
 cases hk : (x.kind == 2)
 ·simp
 ·have e : (x.kind != 2) = false := by simp [bne, hk]
  rw [e, Bool.false_or] at h
  rw [h]; simp
theorem f88_spec (sc : Schema) (hs : SchOk sc) (hns : ∀ t ∈ sc.tables, t.name.size ≤ 550024249344) (hil : sc.indexes.length ≤ 2^42) (a : Arm) (k : Int) (hk0 : 0 ≤ k) (hk1 : k < ((a.frm.length : Nat) : Int)) (hu : UOk a k) (hnm : (a.src k).name.size ≤ 550024249344) (x : Path) (hx : XOk x) (ahead : List Int) : Gives Tryz.prog 88 [.agg sc.v, .agg a.v, vint k, .agg x.v, vints ahead] (vbool (pathOk sc a k x ahead)) := by
 have hs1 := hs.1; have kx0 : (0 ≤ k) = True := by simp [hk0]
 have kx1 : (k < ((a.frm.length : Nat) : Int)) = True := by simp [hk1]
 have hgd : (a.frm.map From.v).getD k.toNat [] = (a.src k).v := src_get a k hk0 hk1; have hxl := hx.len; have hwr3 : IntKind.i64.wrap (((x.low.length : Nat) : Int) + ((x.high.length : Nat) : Int)) = ((x.low.length : Nat) : Int) + ((x.high.length : Nat) : Int) := wrap_id (by omega) (by omega); have hix : decide (sc.tableIx (a.src k).name < 0) = !sc.hasTable (a.src k).name := by
  have h := idx_ge (fun t => eqName t.name (a.src k).name) sc.tables; unfold Schema.tableIx Schema.hasTable; rw [← h, Bool.eq_iff_iff]; simp
 obtain ⟨N, hN⟩ : ∃ N, sc.index (sc.table (a.src k).name).name x.index = N := ⟨_, rfl⟩; obtain ⟨J, hJ⟩ : ∃ J, sc.indexes.getD N.toNat zindex = J := ⟨_, rfl⟩; have hK : sc.keys N = J.keys := by unfold Schema.keys; rw [hJ]
 intro s; refine acalls_of (fn := Tryz.f88) Tryz.func88 rfl (by decide) (by show 5 ≤ 181; decide) ?_; rw [Tryz.ntmps88]; refine rg fun Z z' => ?_; simp only [avs, Sch.v_all hs1, Sch.v_len, Sch.v_take, Path.v_eq, amt, seval, reduceCtorEq]; refine z' _ ?_; clear z' Z; refine rg fun Z z' => ?_; simp only [Path.v_eq, hwr3, amt, seval, reduceCtorEq]; refine z' _ ?_; clear z' Z; refine AWp.seq_k fun K3 hK3 => ?_; refine rg fun Z z' => ?_; simp only [Path.v_eq, amt, seval, reduceCtorEq]; refine z' _ ?_; clear z' Z; refine AWp.condK fun C1 C2 hC1 hC2 => ?_; simp only [condP, am, seval, reduceCtorEq]; refine ⟨fun hc29 => hC1 ?_, fun hc29 => hC2 ?_⟩ <;> clear hC1 hC2 C1 C2
 ·have hkb : (x.kind != 0) = false := by simp only [bne, hc29, Bool.not_true, Bool.not_false]
  refine rg fun Z z' => ?_; simp only [Path.v_eq, undef, amt, seval, reduceCtorEq]; refine gT (fun hg3_3 => ?_) (fun hg3_3 => ?_)
  ·simp only [Path.v_eq, hg3_3, undef, amt, seval, reduceCtorEq]; refine gT (fun hg3_9 => ?_) (fun hg3_9 => ?_)
   ·simp only [Path.v_eq, hg3_3, hg3_9, undef, amt, seval, reduceCtorEq]; refine z' _ ?_; clear z' Z; refine AWp.ret ?_; refine rt (by show resV Tryz.prog _ [.tmp 10] = _; simp only [resV, am, seval, reduceCtorEq]; rfl) ⟨?_, rfl⟩; simp only [pathOk, rowidOk, indexOk, noName, hN, hK, oneV, sum0, refHas_rowid, hc29, hkb, hg3_3, hg3_9, bo, Bool.not_true, Bool.not_false, ↓reduceIte, Bool.false_eq_true]
   ·simp only [Path.v_eq, hg3_3, hg3_9, undef, amt, seval, reduceCtorEq]; refine z' _ ?_; clear z' Z; refine AWp.ret ?_; refine rt (by show resV Tryz.prog _ [.tmp 10] = _; simp only [resV, am, seval, reduceCtorEq]; rfl) ⟨?_, rfl⟩; simp only [pathOk, rowidOk, indexOk, noName, hN, hK, oneV, sum0, refHas_rowid, hc29, hkb, hg3_3, hg3_9, bo, Bool.not_true, Bool.not_false, ↓reduceIte, Bool.false_eq_true]
  ·simp only [Path.v_eq, hg3_3, undef, amt, seval, reduceCtorEq]; refine z' _ ?_; clear z' Z; refine AWp.ret ?_; refine rt (by show resV Tryz.prog _ [.tmp 10] = _; simp only [resV, am, seval, reduceCtorEq]; rfl) ⟨?_, rfl⟩; simp only [pathOk, rowidOk, indexOk, noName, hN, hK, oneV, sum0, refHas_rowid, hc29, hkb, hg3_3, bo, Bool.not_true, Bool.not_false, ↓reduceIte, Bool.false_eq_true]
 ·have hkb : (x.kind != 0) = true := by simp only [bne, hc29, Bool.not_true, Bool.not_false]
  refine AWp.skip ?_; refine hK3 _ ?_; clear hK3; refine rg fun Z z' => ?_; simp only [avs, kx0, kx1, true_and, hgd, From.v_len, From.v_all, From.v_take, amt, seval, reduceCtorEq]; refine z' _ ?_; clear z' Z; refine rg fun Z z' => ?_; simp only [Sch.v_all hs1, Sch.v_len, Sch.v_take, From.v_name, amt, seval, reduceCtorEq]; refine (f133_spec sc hs (a.src k).name hnm hns _).go ?_; simp only [Sch.v_all hs1, Sch.v_len, Sch.v_take, From.v_name, amt, seval, reduceCtorEq]; refine z' _ ?_; clear z' Z; refine AWp.seq_k fun K8 hK8 => ?_; refine AWp.seq_cut (ι := Unit) (fun _ => True) (fun _ => tst [(2, vint k), (4, vints ahead), (5, .loc 5 0), (6, .loc 6 0), (8, .loc 8 0), (11, vbool ((((x.low.length : Nat) : Int) + ((x.high.length : Nat) : Int)) == 0)), (13, vint (sc.tableIx (a.src k).name)), (57, vbool (((a.src k).kind != 0) || !sc.hasTable (a.src k).name))] [(5, (sc.v, 26)), (6, (a.v, 75)), (8, (x.v, 66))] s 181) ?_ ?_
  ·refine rg1 fun Z z' => ?_; simp only [From.v_kind, undef, amt, seval, reduceCtorEq]; refine gF (fun hg6_3 => ?_) (fun hg6_3 => ?_)
   ·simp only [From.v_kind, hg6_3, undef, amt, seval, reduceCtorEq]; refine z' _ ?_; clear z' Z; refine ⟨(), trivial, ?_⟩; refine lt0 ?_ ?_ ?_
    ·simp only [leE, hix, Path.v_eq, hg6_3, bo, Bool.not_true, Bool.not_false, ↓reduceIte, Bool.false_eq_true, am, seval, reduceCtorEq]
    ·simp only [oks, Nat.reduceBEq]
    ·simp only [leB, hix, Path.v_eq, hg6_3, bo, Bool.not_true, Bool.not_false, ↓reduceIte, Bool.false_eq_true, am, seval, reduceCtorEq]
   ·simp only [From.v_kind, hg6_3, undef, amt, seval, reduceCtorEq]; refine z' _ ?_; clear z' Z; refine ⟨(), trivial, ?_⟩; refine lt0 ?_ ?_ ?_
    ·simp only [leE, hix, Path.v_eq, hg6_3, bo, Bool.not_true, Bool.not_false, ↓reduceIte, Bool.false_eq_true, am, seval, reduceCtorEq]
    ·simp only [oks, Nat.reduceBEq]
    ·simp only [leB, hix, Path.v_eq, hg6_3, bo, Bool.not_true, Bool.not_false, ↓reduceIte, Bool.false_eq_true, am, seval, reduceCtorEq]
  ·rintro ⟨⟩ _; refine AWp.condK fun C1 C2 hC1 hC2 => ?_; simp only [condP, hc29, hkb, am, seval, reduceCtorEq]; refine ⟨fun hc57 => hC1 ?_, fun hc57 => hC2 ?_⟩ <;> clear hC1 hC2 C1 C2
   ·refine rg fun Z z' => ?_; simp only [am, seval, reduceCtorEq]; refine z' _ ?_; clear z' Z; refine AWp.ret ?_; refine rt (by show resV Tryz.prog _ [.tmp 10] = _; simp only [resV, am, seval, reduceCtorEq]; rfl) ⟨?_, rfl⟩; simp only [pathOk, rowidOk, indexOk, noName, hN, hK, oneV, sum0, refHas_rowid, hc29, hkb, hc57, bo, Bool.not_true, Bool.not_false, ↓reduceIte, Bool.false_eq_true]
   ·obtain ⟨hfk, hht⟩ := Bool.or_eq_false_iff.1 hc57; rw [Bool.not_eq_false'] at hht; have hht' : (sc.tables.any fun t => eqName t.name (a.src k).name) = true := hht; obtain ⟨ti, hti, hte, htp, _⟩ := idx_sat (fun t => eqName t.name (a.src k).name) sc.tables hht'; have hte2 : sc.tableIx (a.src k).name = ti := hte; have ixt0 : (0 ≤ sc.tableIx (a.src k).name) = True := by rw [hte2]; simp
    have ixt1 : (sc.tableIx (a.src k).name < ((sc.tables.length : Nat) : Int)) = True := by rw [hte2]; simp [hti]
    have htab : (sc.table (a.src k).name) = sc.tables[ti] := by unfold Schema.table; rw [if_pos hht', hte2]; simp [List.getD_eq_getElem?_getD, hti]
    have hgt : (sc.tables.map Table.v).getD (sc.tableIx (a.src k).name).toNat [] = (sc.table (a.src k).name).v := by rw [hte2, htab]; simp [List.getD_eq_getElem?_getD, hti]
    refine AWp.skip ?_; refine hK8 _ ?_; clear hK8; refine AWp.seq_k fun K11 hK11 => ?_; refine rg fun Z z' => ?_; simp only [Path.v_eq, amt, seval, reduceCtorEq]; refine z' _ ?_; clear z' Z; refine AWp.condK fun C1 C2 hC1 hC2 => ?_; simp only [condP, hc29, hkb, hc57, am, seval, reduceCtorEq]; refine ⟨fun hc60 => hC1 ?_, fun hc60 => hC2 ?_⟩ <;> clear hC1 hC2 C1 C2
    ·refine rg fun Z z' => ?_; simp only [Sch.v_tab, ixt0, ixt1, true_and, hgt, Table.v_eq, amt, seval, reduceCtorEq]; refine z' _ ?_; clear z' Z; refine AWp.seq_cut (ι := Unit) (fun _ => True) (fun _ => tst [(2, vint k), (4, vints ahead), (5, .loc 5 0), (6, .loc 6 0), (8, .loc 8 0), (11, vbool ((((x.low.length : Nat) : Int) + ((x.high.length : Nat) : Int)) == 0)), (14, vint (if (sc.table (a.src k).name).pk < 0 then -1 else (sc.table (a.src k).name).pk))] [(5, (sc.v, 26)), (6, (a.v, 75)), (8, (x.v, 66))] s 181) ?_ ?_
     ·refine rg fun Z z' => ?_; simp only [amt, seval, reduceCtorEq]; refine z' _ ?_; clear z' Z; refine AWp.condK fun C1 C2 hC1 hC2 => ?_; simp only [condP, hc29, hkb, hc57, hc60, am, seval, reduceCtorEq]; refine ⟨fun hc68 => hC1 ?_, fun hc68 => hC2 ?_⟩ <;> clear hC1 hC2 C1 C2
      ·refine rg1 fun Z z' => ?_; simp only [am, seval, reduceCtorEq]; refine z' _ ?_; clear z' Z; refine ⟨(), trivial, ?_⟩; refine lt0 ?_ ?_ ?_
       ·simp only [leE, Path.v_eq, am, seval, reduceCtorEq]; rw [if_pos (of_decide_eq_true hc68)]
       ·simp only [oks, Nat.reduceBEq]
       ·simp only [leB, Path.v_eq, am, seval, reduceCtorEq]
      ·refine AWp.skip ?_; refine ⟨(), trivial, ?_⟩; refine lt0 ?_ ?_ ?_
       ·simp only [leE, Path.v_eq, am, seval, reduceCtorEq]; rw [if_neg (of_decide_eq_false hc68)]
       ·simp only [oks, Nat.reduceBEq]
       ·simp only [leB, Path.v_eq, am, seval, reduceCtorEq]
     ·rintro ⟨⟩ _; refine AWp.regL mixed [0, 1, 2, 3, 4, 5, 6, 7, 8, 9, 10, 11, 12, 13, 14, 15, 16, 17, 18, 19, 20, 21, 22, 23] (by decide +kernel) [99999] (by decide +kernel) fun Z z' => ?_; simp only [avs, Path.v_eq, undef, aml, Nat.reduceBEq, amt, seval, reduceCtorEq]; refine gTL (fun hg12_3 => ?_) (fun hg12_3 => ?_)
      ·simp only [avs, Path.v_eq, hg12_3, undef, aml, Nat.reduceBEq, amt, seval, reduceCtorEq]; refine gTL (fun hg12_9 => ?_) (fun hg12_9 => ?_)
       ·have he1 : 0 < x.eq.length := by have := eq_of_beq hg12_9; omega
        have ixa : ((0 : Int) ≤ 0) = True := by simp
        have ixe : ((0 : Int) < ((x.eq.length : Nat) : Int)) = True := by simp [he1]
        have hge : (x.eq.map Term.v).getD 0 [] = (x.eq.getD 0 zterm).v := by simp [List.getD_eq_getElem?_getD, he1]
        have hwe : (x.eq.getD 0 zterm).w ≤ 274945015808 := hx.eq _ (by simp [List.getD_eq_getElem?_getD, he1]); simp only [avs, Path.v_eq, hg12_3, hg12_9, ixa, ixe, true_and, Int.toNat_zero, hge, tvs, undef, aml, Nat.reduceBEq, amt, seval, reduceCtorEq]; refine gTL (fun hg12_12 => ?_) (fun hg12_12 => ?_)
        ·simp only [avs, Path.v_eq, hg12_3, hg12_9, ixa, ixe, true_and, Int.toNat_zero, hge, tvs, hg12_12, undef, aml, Nat.reduceBEq, amt, seval, reduceCtorEq]; refine (f134_spec a k hk0 hk1 hu 13 ahead (x.eq.getD 0 zterm) hwe (-1) (if (sc.table (a.src k).name).pk < 0 then -1 else (sc.table (a.src k).name).pk) 0 false _).go ?_; simp only [avs, Path.v_eq, hg12_3, hg12_9, ixa, ixe, true_and, Int.toNat_zero, hge, tvs, hg12_12, undef, aml, Nat.reduceBEq, amt, seval, reduceCtorEq]; refine z' _ ?_; clear z' Z; refine AWp.ret ?_; refine rt (by show resV Tryz.prog _ [.tmp 10] = _; simp only [resV, am, seval, reduceCtorEq]; rfl) ⟨?_, rfl⟩; simp only [pathOk, rowidOk, indexOk, noName, hN, hK, oneV, sum0, refHas_rowid, hc29, hkb, hc57, hc60, hg12_3, hg12_9, hg12_12, bo, Bool.not_true, Bool.not_false, ↓reduceIte, Bool.false_eq_true]
        ·simp only [avs, Path.v_eq, hg12_3, hg12_9, ixa, ixe, true_and, Int.toNat_zero, hge, tvs, hg12_12, undef, aml, Nat.reduceBEq, amt, seval, reduceCtorEq]; refine z' _ ?_; clear z' Z; refine AWp.ret ?_; refine rt (by show resV Tryz.prog _ [.tmp 10] = _; simp only [resV, am, seval, reduceCtorEq]; rfl) ⟨?_, rfl⟩; simp only [pathOk, rowidOk, indexOk, noName, hN, hK, oneV, sum0, refHas_rowid, hc29, hkb, hc57, hc60, hg12_3, hg12_9, hg12_12, bo, Bool.not_true, Bool.not_false, ↓reduceIte, Bool.false_eq_true]
       ·simp only [avs, Path.v_eq, hg12_3, hg12_9, undef, aml, Nat.reduceBEq, amt, seval, reduceCtorEq]; refine z' _ ?_; clear z' Z; refine AWp.ret ?_; refine rt (by show resV Tryz.prog _ [.tmp 10] = _; simp only [resV, am, seval, reduceCtorEq]; rfl) ⟨?_, rfl⟩; simp only [pathOk, rowidOk, indexOk, noName, hN, hK, oneV, sum0, refHas_rowid, hc29, hkb, hc57, hc60, hg12_3, hg12_9, bo, Bool.not_true, Bool.not_false, ↓reduceIte, Bool.false_eq_true]
      ·simp only [avs, Path.v_eq, hg12_3, undef, aml, Nat.reduceBEq, amt, seval, reduceCtorEq]; refine z' _ ?_; clear z' Z; refine AWp.ret ?_; refine rt (by show resV Tryz.prog _ [.tmp 10] = _; simp only [resV, am, seval, reduceCtorEq]; rfl) ⟨?_, rfl⟩; simp only [pathOk, rowidOk, indexOk, noName, hN, hK, oneV, sum0, refHas_rowid, hc29, hkb, hc57, hc60, hg12_3, bo, Bool.not_true, Bool.not_false, ↓reduceIte, Bool.false_eq_true]
    ·refine AWp.skip ?_; refine hK11 _ ?_; clear hK11; refine AWp.regL mixed [0, 1, 2, 3, 4, 5, 6, 7, 8, 9, 10] (by decide +kernel) [99999] (by decide +kernel) fun Z z' => ?_; simp only [Sch.v_all hs1, Sch.v_len, Sch.v_take, Sch.v_tab, ixt0, ixt1, true_and, hgt, Table.v_eq, Path.v_eq, aml, Nat.reduceBEq, amt, seval, reduceCtorEq]; refine (f135_spec sc hs1 hil (sc.table (a.src k).name).name x.index _).go ?_; simp only [hN, Sch.v_all hs1, Sch.v_len, Sch.v_take, Sch.v_tab, ixt0, ixt1, true_and, hgt, Table.v_eq, Path.v_eq, aml, Nat.reduceBEq, amt, seval, reduceCtorEq]; refine z' _ ?_; clear z' Z; refine AWp.seq_k fun K18 hK18 => ?_; refine AWp.seq_cut (ι := Unit) (fun _ => True) (fun _ => tst [(2, vint k), (4, vints ahead), (5, .loc 5 0), (6, .loc 6 0), (8, .loc 8 0), (11, vbool ((((x.low.length : Nat) : Int) + ((x.high.length : Nat) : Int)) == 0)), (15, vint N), (121, vbool ((x.kind != 2) || (decide (N < 0) || decide (((x.eq.length : Nat) : Int) > ((J.keys.length : Nat) : Int)))))] [(5, (sc.v, 26)), (6, (a.v, 75)), (8, (x.v, 66))] s 181) ?_ ?_
     ·refine AWp.regL1 mixed [0, 1, 2, 3, 4, 5, 6, 7, 8, 9, 10, 11, 12, 13, 14, 15, 16, 17, 18, 19] (by decide +kernel) [] (by decide +kernel) fun Z z' => ?_; simp only [Path.v_eq, undef, aml, Nat.reduceBEq, amt, seval, reduceCtorEq]; refine gFL (fun hg14_3 => ?_) (fun hg14_3 => ?_)
      ·simp only [Path.v_eq, hg14_3, undef, aml, Nat.reduceBEq, amt, seval, reduceCtorEq]; refine gFL (fun hg14_7 => ?_) (fun hg14_7 => ?_)
       ·have hN0 := hg14_7; obtain ⟨hn0, hn1⟩ := index_lt hN hg14_7; have ixn0 : (0 ≤ N) = True := by simp [hn0]
        have ixn1 : (N < ((sc.indexes.length : Nat) : Int)) = True := by simp [hn1]
        have hgi : (sc.indexes.map Index.v).getD N.toNat [] = J.v := by rw [← hJ]; simp [List.getD_eq_getElem?_getD, show N.toNat < sc.indexes.length by omega]
        simp only [Path.v_eq, hg14_3, hg14_7, Sch.v_idx, ixn0, ixn1, true_and, hgi, Index.v_eq, undef, aml, Nat.reduceBEq, amt, seval, reduceCtorEq]; refine z' _ ?_; clear z' Z; refine ⟨(), trivial, ?_⟩; refine lt0 ?_ ?_ ?_
        ·simp only [leE, Path.v_eq, hg14_3, hg14_7, bo, Bool.not_true, Bool.not_false, ↓reduceIte, Bool.false_eq_true, am, seval, reduceCtorEq]
        ·simp only [oks, Nat.reduceBEq]
        ·simp only [leB, Path.v_eq, hg14_3, hg14_7, bo, Bool.not_true, Bool.not_false, ↓reduceIte, Bool.false_eq_true, am, seval, reduceCtorEq]
       ·simp only [Path.v_eq, hg14_3, hg14_7, undef, aml, Nat.reduceBEq, amt, seval, reduceCtorEq]; refine z' _ ?_; clear z' Z; refine ⟨(), trivial, ?_⟩; refine lt0 ?_ ?_ ?_
        ·simp only [leE, Path.v_eq, hg14_3, hg14_7, bo, Bool.not_true, Bool.not_false, ↓reduceIte, Bool.false_eq_true, am, seval, reduceCtorEq]
        ·simp only [oks, Nat.reduceBEq]
        ·simp only [leB, Path.v_eq, hg14_3, hg14_7, bo, Bool.not_true, Bool.not_false, ↓reduceIte, Bool.false_eq_true, am, seval, reduceCtorEq]
      ·simp only [Path.v_eq, hg14_3, undef, aml, Nat.reduceBEq, amt, seval, reduceCtorEq]; refine z' _ ?_; clear z' Z; refine ⟨(), trivial, ?_⟩; refine lt0 ?_ ?_ ?_
       ·simp only [leE, Path.v_eq, hg14_3, bo, Bool.not_true, Bool.not_false, ↓reduceIte, Bool.false_eq_true, am, seval, reduceCtorEq]
       ·simp only [oks, Nat.reduceBEq]
       ·simp only [leB, Path.v_eq, hg14_3, bo, Bool.not_true, Bool.not_false, ↓reduceIte, Bool.false_eq_true, am, seval, reduceCtorEq]
     ·rintro ⟨⟩ _; refine AWp.condK fun C1 C2 hC1 hC2 => ?_; simp only [condP, hc29, hkb, hc57, hc60, am, seval, reduceCtorEq]; refine ⟨fun hc121 => hC1 ?_, fun hc121 => hC2 ?_⟩ <;> clear hC1 hC2 C1 C2
      ·refine rg fun Z z' => ?_; simp only [am, seval, reduceCtorEq]; refine z' _ ?_; clear z' Z; refine AWp.ret ?_; refine rt (by show resV Tryz.prog _ [.tmp 10] = _; simp only [resV, am, seval, reduceCtorEq]; rfl) ⟨?_, rfl⟩; simp only [oneV]; rw [idx_no hc29 hc57 hc60 hN hK hc121]
      ·obtain ⟨hk2, hN2⟩ := Bool.or_eq_false_iff.1 hc121; obtain ⟨hN0, hN3⟩ := Bool.or_eq_false_iff.1 hN2; obtain ⟨hn0, hn1⟩ := index_lt hN hN0; have ixn0 : (0 ≤ N) = True := by simp [hn0]
       have ixn1 : (N < ((sc.indexes.length : Nat) : Int)) = True := by simp [hn1]
       have hgi : (sc.indexes.map Index.v).getD N.toNat [] = J.v := by rw [← hJ]; simp [List.getD_eq_getElem?_getD, show N.toNat < sc.indexes.length by omega]
       have hk2 : (x.kind == 2) = true := by have := bne_eq_false_iff_eq.1 hk2; simp [this]
       have hle : x.eq.length ≤ J.keys.length := by have := of_decide_eq_false hN3; omega
       refine AWp.skip ?_; refine hK18 _ ?_; clear hK18; refine rg fun Z z' => ?_; simp only [Sch.v_idx, ixn0, ixn1, true_and, hgi, Index.v_eq, amt, seval, reduceCtorEq]; refine z' _ ?_; clear z' Z; refine AWp.seq_k fun K22 hK22 => ?_; refine rg fun Z z' => ?_; simp only [am, seval, reduceCtorEq]; refine z' _ ?_; clear z' Z; refine AWp.block ?_; have hxl := hx.len; refine AWp.loopT (ι := Nat) (fun i => i ≤ x.eq.length ∧ eqs a k ahead x.eq J.keys = eqs a k ahead (x.eq.drop i) (J.keys.drop i)) (fun i => tst [(2, vint k), (4, vints ahead), (5, .loc 5 0), (6, .loc 6 0), (8, .loc 8 0), (16, .slice 3 (J.keys.map Sorted.v)), (17, vint i)] [(5, (sc.v, 26)), (6, (a.v, 75)), (8, (x.v, 66))] s 181) (fun i => x.eq.length - i) 0 ⟨⟨Nat.zero_le _, rfl⟩, ?_⟩ ?_
       ·refine lt0 ?_ ?_ ?_
        ·simp only [leE, Path.v_eq, am, seval, reduceCtorEq] <;> simp
        ·simp only [oks, Nat.reduceBEq]
        ·simp only [leB, Path.v_eq, am, seval, reduceCtorEq]
       ·rintro i ⟨hi, hinv⟩; refine AWp.seq_k fun K24 hK24 => ?_; refine rg fun Z z' => ?_; simp only [Path.v_eq, amt, seval, reduceCtorEq]; refine z' _ ?_; clear z' Z; refine AWp.cond (t := decide ((i:Int) < (x.eq.length : Nat))) (by simp only [am, seval, reduceCtorEq]) (fun ht => ?_) (fun ht => ?_)
        ·have hlt : i < x.eq.length := lt_of_dec ht; have ix0 : (0 ≤ (i : Int)) = True := by simp
         have ix1 : ((i : Int) < ((x.eq.length : Nat) : Int)) = True := by simp [hlt]
         have hltk : i < J.keys.length := by omega
         have ixk : (((i : Nat) : Int) < ((J.keys.length : Nat) : Int)) = True := by simp [hltk]
         refine AWp.skip ?_; refine hK24 _ ?_; clear hK24; refine AWp.seq_k fun K26 hK26 => ?_; refine AWp.block ?_; refine AWp.regL mixed [0, 1, 2, 3, 4, 5, 6, 7, 8, 9, 10, 11, 12, 13, 14, 15, 16, 17, 18, 19, 20, 21, 22, 23, 24] (by decide +kernel) [99999] (by decide +kernel) fun Z z' => ?_; simp only [avs, Path.v_eq, ix0, ix1, ixk, true_and, getD_map _ _ _ hlt, getD_map _ _ _ hltk, Sorted.v_eq, tvs, aml, Nat.reduceBEq, amt, seval, reduceCtorEq]; refine (f134_spec a k hk0 hk1 hu 13 ahead x.eq[i] (hx.eq _ (List.getElem_mem hlt)) J.keys[i].col J.keys[i].col J.keys[i].coll true _).go ?_; simp only [refHas_key, avs, Path.v_eq, ix0, ix1, ixk, true_and, getD_map _ _ _ hlt, getD_map _ _ _ hltk, Sorted.v_eq, tvs, aml, Nat.reduceBEq, amt, seval, reduceCtorEq]; refine z' _ ?_; clear z' Z; refine AWp.condK fun C1 C2 hC1 hC2 => ?_; simp only [condP, hc29, hkb, hc57, hc60, hc121, hk2, hN2, am, seval, reduceCtorEq]; refine ⟨fun hc159 => hC1 ?_, fun hc159 => hC2 ?_⟩ <;> clear hC1 hC2 C1 C2
         ·refine rg fun Z z' => ?_; simp only [am, seval, reduceCtorEq]; refine z' _ ?_; clear z' Z; refine AWp.ret ?_; refine rt (by show resV Tryz.prog _ [.tmp 10] = _; simp only [resV, am, seval, reduceCtorEq]; rfl) ⟨?_, rfl⟩; simp only [pathOk, rowidOk, indexOk, noName, hN, hK, oneV, sum0, refHas_rowid, hinv, eqs_false hlt hltk hc159, hc29, hkb, hc57, hc60, hc121, hk2, hN2, hc159, bo, Bool.not_true, Bool.not_false, ↓reduceIte, Bool.false_eq_true]
         ·refine AWp.skip ?_; refine hK26 _ ?_; clear hK26; refine rg1 fun Z z' => ?_; simp only [amt, seval, reduceCtorEq]; refine z' _ ?_; clear z' Z; refine ⟨i + 1, ⟨⟨hlt, by rw [hinv, eqs_step hlt hltk hc159]⟩, by omega⟩, ?_⟩; refine lt0 ?_ ?_ ?_
          ·simp only [leE, Path.v_eq, am, seval, reduceCtorEq]; rw [wrap_id (by omega) (by omega)]; simp
          ·simp only [oks, Nat.reduceBEq]
          ·simp only [leB, Path.v_eq, am, seval, reduceCtorEq]
        ·obtain rfl : i = x.eq.length := eq_of_dec ht hi; have heqs : eqs a k ahead x.eq J.keys = true := by rw [hinv, List.drop_length]; simp only [eqs]
         have hsl1 : (0 ≤ ((x.eq.length : Nat) : Int)) = True := by simp
         have hsl2 : (((x.eq.length : Nat) : Int) ≤ ((J.keys.length : Nat) : Int)) = True := by simp [hle]
         have hsl3 : (((J.keys.length : Nat) : Int) ≤ ((J.keys.length : Nat) : Int)) = True := by simp
         have hslv : List.take ((((J.keys.length : Nat) : Int).toNat) - (((x.eq.length : Nat) : Int).toNat)) (List.drop (((x.eq.length : Nat) : Int).toNat) (J.keys.map Sorted.v)) = (J.keys.drop x.eq.length).map Sorted.v := by
          rw [Int.toNat_natCast, Int.toNat_natCast, List.map_drop, List.take_of_length_le (by simp)]
         refine AWp.exit ?_; simp only [exq, seval]; refine hK22 _ ?_; clear hK22; refine rg fun Z z' => ?_; simp only [Path.v_eq, hsl1, hsl2, hsl3, true_and, hslv, amt, seval, reduceCtorEq]; refine z' _ ?_; clear z' Z; refine rg fun Z z' => ?_; simp only [avs, Path.v_eq, undef, amt, seval, reduceCtorEq]; refine (f136_spec a k hk0 hk1 hu x.low hx.low ahead 17 18 (J.keys.drop x.eq.length) _).go ?_; simp only [avs, Path.v_eq, undef, amt, seval, reduceCtorEq]; refine gT (fun hg23_7 => ?_) (fun hg23_7 => ?_)
         ·simp only [avs, Path.v_eq, hg23_7, undef, amt, seval, reduceCtorEq]; refine (f136_spec a k hk0 hk1 hu x.high hx.high ahead 15 16 (J.keys.drop x.eq.length) _).go ?_; simp only [avs, Path.v_eq, hg23_7, undef, amt, seval, reduceCtorEq]; refine z' _ ?_; clear z' Z; refine AWp.ret ?_; refine rt (by show resV Tryz.prog _ [.tmp 10] = _; simp only [resV, am, seval, reduceCtorEq]; rfl) ⟨?_, rfl⟩; simp only [pathOk, rowidOk, indexOk, noName, hN, hK, oneV, sum0, refHas_rowid, heqs, hc29, hkb, hc57, hc60, hc121, hk2, hN2, hg23_7, bo, Bool.not_true, Bool.not_false, ↓reduceIte, Bool.false_eq_true]
         ·simp only [avs, Path.v_eq, hg23_7, undef, amt, seval, reduceCtorEq]; refine z' _ ?_; clear z' Z; refine AWp.ret ?_; refine rt (by show resV Tryz.prog _ [.tmp 10] = _; simp only [resV, am, seval, reduceCtorEq]; rfl) ⟨?_, rfl⟩; simp only [pathOk, rowidOk, indexOk, noName, hN, hK, oneV, sum0, refHas_rowid, heqs, hc29, hkb, hc57, hc60, hc121, hk2, hN2, hg23_7, bo, Bool.not_true, Bool.not_false, ↓reduceIte, Bool.false_eq_true]
structure RSt where
 i : Nat
 ahead : List Int
 met : List Int
/-- What is asked beside. -/
structure RArmOk (a : Arm) : Prop where
 onl : ∀ k : Int, 0 ≤ k → k < ((a.frm.length : Nat) : Int) → (a.src k).on.length ≤ 2^42
 nm : ∀ k : Int, 0 ≤ k → k < ((a.frm.length : Nat) : Int) → (a.src k).name.size ≤ 550024249344
theorem rarm_of {a : Arm} (h : a.w ≤ 137455730688) : RArmOk a := by
 rw [Arm.w_eq] at h
 refine ⟨fun k h0 h1 => ?_, fun k h0 h1 => ?_⟩
 ·have e1 := mem_w From.w a.frm _ (src_mem h0 h1)
  have e2 := len_le Term.w_pos (a.src k).on
  rw [From.w_eq] at e1; omega
 ·have e1 := mem_w From.w a.frm _ (src_mem h0 h1)
  rw [From.w_eq] at e1; omega
theorem nf {b : Bool} (h : (!b) = false) : b = true := by simpa using h
theorem nt {b : Bool} (h : (!b) = true) : b = false := by simpa using h
theorem cTerms_split (l : List Term) (i : Nat) (h : i < l.length) : cTerms l = cTerms (l.take i) ++ cTerm l[i] ++ cTerms (l.drop (i + 1)) := by
 have e : l = l.take i ++ l[i] :: l.drop (i + 1) := by rw [← List.drop_eq_getElem_cons h, List.take_append_drop]
 conv => lhs; rw [e, cTerms_append, cTerms]
 rw [List.append_assoc]
theorem f54_spec (sc : Schema) (hs : SchOk sc) (hns : ∀ t ∈ sc.tables, t.name.size ≤ 550024249344) (hil : sc.indexes.length ≤ 2^42) (a : Arm) (ha : PArm a) (hra : RArmOk a) : Gives Tryz.prog 54 [.agg sc.v, .agg a.v] (vbool (armOk sc a)) := by
 have hs1 := hs.1; intro s; refine acalls_of (fn := Tryz.f54) Tryz.func54 rfl (by decide) (by show 2 ≤ 114; decide) ?_; rw [Tryz.ntmps54]; refine rg fun Z z' => ?_; simp only [avs, Sch.v_all hs1, Sch.v_len, Sch.v_take, amt, seval, reduceCtorEq]; refine z' _ ?_; clear z' Z; refine rg fun Z z' => ?_; simp only [am, seval, reduceCtorEq]; refine z' _ ?_; clear z' Z; refine AWp.seq_k fun K3 hK3 => ?_; refine rg fun Z z' => ?_; simp only [am, seval, reduceCtorEq]; refine z' _ ?_; clear z' Z; refine AWp.block ?_; have hsl := ha.steps; refine AWp.wkE 5 (vints []) (by simp only [isLoc, am, seval, reduceCtorEq]) (by simp only [am, seval, reduceCtorEq]; exact Wk.nil 1) ?_; refine AWp.wkE 6 (vints []) (by simp only [isLoc, am, seval, reduceCtorEq]) (by simp only [am, seval, reduceCtorEq]; exact Wk.nil 1) ?_; refine AWp.loopT (ι := RSt) (fun q => q.i ≤ a.steps.length ∧ rSteps sc a [] [] a.steps = rSteps sc a q.ahead q.met (a.steps.drop q.i) ∧ q.ahead.length = q.i ∧ q.met.length + ((a.steps.drop q.i).map fun x => x.whr.length).sum ≤ 274945015808) (fun q => tst [(2, .loc 2 0), (3, .loc 3 0), (5, vints q.ahead), (6, vints q.met), (7, vint q.i)] [(2, (sc.v, 26)), (3, (a.v, 75))] s 114) (fun q => a.steps.length - q.i) ⟨0, [], []⟩ ⟨⟨Nat.zero_le _, rfl, rfl, by simpa using ha.sum⟩, ?_⟩ ?_
 ·refine lt0 ?_ ?_ ?_
  ·simp only [leE, am, seval, reduceCtorEq] <;> simp
  ·simp only [oks, Nat.reduceBEq]
  ·simp only [leB, am, seval, reduceCtorEq]
 ·rintro ⟨i, ahead, met⟩ ⟨hi, hinv, hal, hml⟩; simp only at hi hinv hal hml ⊢; refine AWp.seq_k fun K5 hK5 => ?_; refine rg fun Z z' => ?_; simp only [avs, amt, seval, reduceCtorEq]; refine z' _ ?_; clear z' Z; refine AWp.cond (t := decide ((i:Int) < (a.steps.length : Nat))) (by simp only [am, seval, reduceCtorEq]) (fun ht => ?_) (fun ht => ?_)
  ·have hlt : i < a.steps.length := lt_of_dec ht; have ix0 : (0 ≤ (i : Int)) = True := by simp
   have ix1 : ((i : Int) < ((a.steps.length : Nat) : Int)) = True := by simp [hlt]
   obtain ⟨x, hx⟩ : ∃ x, a.steps[i] = x := ⟨_, rfl⟩; have hxm : x ∈ a.steps := by rw [← hx]; exact List.getElem_mem hlt
   have hdrop : a.steps.drop i = x :: a.steps.drop (i + 1) := by rw [List.drop_eq_getElem_cons hlt, hx]
   have hgs : (a.steps.map Step.v).getD (i : Int).toNat [] = x.v := by rw [getD_map _ _ _ hlt, hx]
   refine AWp.skip ?_; refine hK5 _ ?_; clear hK5; refine AWp.seq_k fun K7 hK7 => ?_; refine AWp.block ?_; refine rg fun Z z' => ?_; simp only [avs, Step.v_len, Step.v_all, Step.v_take, Step.v_frm, Step.v_path, Step.v_whr, ix0, ix1, true_and, hgs, amt, seval, reduceCtorEq]; refine z' _ ?_; clear z' Z; refine AWp.seq_k fun K9 hK9 => ?_; refine AWp.seq_cut (ι := Unit) (fun _ => True) (fun _ => tst [(2, .loc 2 0), (3, .loc 3 0), (5, vints ahead), (6, vints met), (7, vint i), (8, .loc 8 0), (39, vbool (decide (x.frm < 0) || decide (x.frm ≥ ((a.frm.length : Nat) : Int)) || ahead.any (x.frm == ·)))] [(2, (sc.v, 26)), (3, (a.v, 75)), (8, (x.v, 68))] s 114) ?_ ?_
   ·refine rg1 fun Z z' => ?_; simp only [avs, Step.v_len, Step.v_all, Step.v_take, Step.v_frm, Step.v_path, Step.v_whr, undef, amt, seval, reduceCtorEq]; refine gF (fun hg6_3 => ?_) (fun hg6_3 => ?_)
    ·simp only [avs, Step.v_len, Step.v_all, Step.v_take, Step.v_frm, Step.v_path, Step.v_whr, hg6_3, undef, amt, seval, reduceCtorEq]; refine gF (fun hg6_11 => ?_) (fun hg6_11 => ?_)
     ·simp only [avs, Step.v_len, Step.v_all, Step.v_take, Step.v_frm, Step.v_path, Step.v_whr, hg6_3, hg6_11, undef, amt, seval, reduceCtorEq]; refine (f86_spec ahead x.frm _).go ?_; simp only [avs, Step.v_len, Step.v_all, Step.v_take, Step.v_frm, Step.v_path, Step.v_whr, hg6_3, hg6_11, undef, amt, seval, reduceCtorEq]; refine z' _ ?_; clear z' Z; refine ⟨(), trivial, ?_⟩; refine lt0 ?_ ?_ ?_
      ·simp only [leE, whereBad, hg6_3, hg6_11, bo, Bool.not_true, Bool.not_false, ↓reduceIte, Bool.false_eq_true, am, seval, reduceCtorEq]
      ·simp only [oks, Nat.reduceBEq]
      ·simp only [leB, whereBad, hg6_3, hg6_11, bo, Bool.not_true, Bool.not_false, ↓reduceIte, Bool.false_eq_true, am, seval, reduceCtorEq]
     ·simp only [avs, Step.v_len, Step.v_all, Step.v_take, Step.v_frm, Step.v_path, Step.v_whr, hg6_3, hg6_11, undef, amt, seval, reduceCtorEq]; refine z' _ ?_; clear z' Z; refine ⟨(), trivial, ?_⟩; refine lt0 ?_ ?_ ?_
      ·simp only [leE, whereBad, hg6_3, hg6_11, bo, Bool.not_true, Bool.not_false, ↓reduceIte, Bool.false_eq_true, am, seval, reduceCtorEq]
      ·simp only [oks, Nat.reduceBEq]
      ·simp only [leB, whereBad, hg6_3, hg6_11, bo, Bool.not_true, Bool.not_false, ↓reduceIte, Bool.false_eq_true, am, seval, reduceCtorEq]
    ·simp only [avs, Step.v_len, Step.v_all, Step.v_take, Step.v_frm, Step.v_path, Step.v_whr, hg6_3, undef, amt, seval, reduceCtorEq]; refine z' _ ?_; clear z' Z; refine ⟨(), trivial, ?_⟩; refine lt0 ?_ ?_ ?_
     ·simp only [leE, whereBad, hg6_3, bo, Bool.not_true, Bool.not_false, ↓reduceIte, Bool.false_eq_true, am, seval, reduceCtorEq]
     ·simp only [oks, Nat.reduceBEq]
     ·simp only [leB, whereBad, hg6_3, bo, Bool.not_true, Bool.not_false, ↓reduceIte, Bool.false_eq_true, am, seval, reduceCtorEq]
   ·rintro ⟨⟩ _; refine AWp.cond (t := decide (x.frm < 0) || decide (x.frm ≥ ((a.frm.length : Nat) : Int)) || ahead.any (x.frm == ·)) (by simp only [am, seval, reduceCtorEq]) (fun hx6 => ?_) (fun hx6 => ?_)
    ·have hsb : stepBad sc a ahead x = true := by unfold stepBad; rw [hx6, Bool.true_or, Bool.true_or]
     refine rg fun Z z' => ?_; simp only [am, seval, reduceCtorEq]; refine z' _ ?_; clear z' Z; refine AWp.ret ?_; refine rt (by show resV Tryz.prog _ [.tmp 4] = _; simp only [resV, am, seval, reduceCtorEq]; rfl) ⟨?_, rfl⟩; simp only [oneV]; rw [← rArm_eq]; unfold rArm; rw [hinv, hdrop]; simp only [rSteps]; rw [hsb]; simp only [↓reduceIte]
    ·have hx6' := hx6; simp only [Bool.or_eq_false_iff] at hx6'; have hk0 : 0 ≤ x.frm := by have := of_decide_eq_false hx6'.1.1; omega
     have hk1 : x.frm < ((a.frm.length : Nat) : Int) := by have := of_decide_eq_false hx6'.1.2; omega
     refine AWp.skip ?_; refine hK9 _ ?_; clear hK9; refine AWp.seq_k fun K12 hK12 => ?_; refine AWp.seq_cut (ι := Unit) (fun _ => True) (fun _ => tst [(2, .loc 2 0), (3, .loc 3 0), (5, vints ahead), (6, vints met), (7, vint i), (8, .loc 8 0), (56, vbool (!ready a x.frm ahead || !pathOk sc a x.frm x.path ahead))] [(2, (sc.v, 26)), (3, (a.v, 75)), (8, (x.v, 68))] s 114) ?_ ?_
     ·refine rg1 fun Z z' => ?_; simp only [avs, Step.v_len, Step.v_all, Step.v_take, Step.v_frm, Step.v_path, Step.v_whr, Sch.v_all hs1, Sch.v_len, Sch.v_take, undef, amt, seval, reduceCtorEq]; refine (f87_spec a x.frm hk0 hk1 ahead (by omega) (ha.on x.frm hk0 hk1) (hra.onl x.frm hk0 hk1) _).go ?_; simp only [avs, Step.v_len, Step.v_all, Step.v_take, Step.v_frm, Step.v_path, Step.v_whr, Sch.v_all hs1, Sch.v_len, Sch.v_take, undef, amt, seval, reduceCtorEq]; refine gF (fun hg8_6 => ?_) (fun hg8_6 => ?_)
      ·simp only [avs, Step.v_len, Step.v_all, Step.v_take, Step.v_frm, Step.v_path, Step.v_whr, Sch.v_all hs1, Sch.v_len, Sch.v_take, hg8_6, undef, amt, seval, reduceCtorEq]; refine (f88_spec sc hs hns hil a x.frm hk0 hk1 (ha.u x.frm hk0 hk1) (hra.nm x.frm hk0 hk1) x.path (ha.path x hxm) ahead _).go ?_; simp only [avs, Step.v_len, Step.v_all, Step.v_take, Step.v_frm, Step.v_path, Step.v_whr, Sch.v_all hs1, Sch.v_len, Sch.v_take, hg8_6, undef, amt, seval, reduceCtorEq]; refine z' _ ?_; clear z' Z; refine ⟨(), trivial, ?_⟩; refine lt0 ?_ ?_ ?_
       ·simp only [leE, whereBad, hg8_6, bo, Bool.not_true, Bool.not_false, ↓reduceIte, Bool.false_eq_true, am, seval, reduceCtorEq]
       ·simp only [oks, Nat.reduceBEq]
       ·simp only [leB, whereBad, hg8_6, bo, Bool.not_true, Bool.not_false, ↓reduceIte, Bool.false_eq_true, am, seval, reduceCtorEq]
      ·simp only [avs, Step.v_len, Step.v_all, Step.v_take, Step.v_frm, Step.v_path, Step.v_whr, Sch.v_all hs1, Sch.v_len, Sch.v_take, hg8_6, undef, amt, seval, reduceCtorEq]; refine z' _ ?_; clear z' Z; refine ⟨(), trivial, ?_⟩; refine lt0 ?_ ?_ ?_
       ·simp only [leE, whereBad, hg8_6, bo, Bool.not_true, Bool.not_false, ↓reduceIte, Bool.false_eq_true, am, seval, reduceCtorEq]
       ·simp only [oks, Nat.reduceBEq]
       ·simp only [leB, whereBad, hg8_6, bo, Bool.not_true, Bool.not_false, ↓reduceIte, Bool.false_eq_true, am, seval, reduceCtorEq]
     ·rintro ⟨⟩ _; refine AWp.cond (t := !ready a x.frm ahead || !pathOk sc a x.frm x.path ahead) (by simp only [am, seval, reduceCtorEq]) (fun hx8 => ?_) (fun hx8 => ?_)
      ·have hsb : stepBad sc a ahead x = true := by unfold stepBad; rw [hx6, Bool.false_or, hx8]
       refine rg fun Z z' => ?_; simp only [am, seval, reduceCtorEq]; refine z' _ ?_; clear z' Z; refine AWp.ret ?_; refine rt (by show resV Tryz.prog _ [.tmp 4] = _; simp only [resV, am, seval, reduceCtorEq]; rfl) ⟨?_, rfl⟩; simp only [oneV]; rw [← rArm_eq]; unfold rArm; rw [hinv, hdrop]; simp only [rSteps]; rw [hsb]; simp only [↓reduceIte]
      ·have hsb : stepBad sc a ahead x = false := by unfold stepBad; rw [hx6, Bool.false_or, hx8]
       have hpl := len_put_new ahead x.frm hx6'.2; refine AWp.skip ?_; refine hK12 _ ?_; clear hK12; refine rg fun Z z' => ?_; simp only [Step.v_len, Step.v_all, Step.v_take, Step.v_frm, Step.v_path, Step.v_whr, amt, seval, reduceCtorEq]; refine (f28_spec ahead x.frm (by omega) _).go ?_; simp only [Step.v_len, Step.v_all, Step.v_take, Step.v_frm, Step.v_path, Step.v_whr, amt, seval, reduceCtorEq]; refine z' _ ?_; clear z' Z; refine rg fun Z z' => ?_; simp only [am, seval, reduceCtorEq]; refine z' _ ?_; clear z' Z; refine AWp.block ?_; have hwhl := ha.whl x hxm; refine AWp.loopT (ι := Nat × List Int) (fun q => q.1 ≤ x.whr.length ∧ rWhere a (put ahead x.frm) met x.whr = rWhere a (put ahead x.frm) q.2 (x.whr.drop q.1) ∧ q.2.length = met.length + q.1) (fun q => tst [(2, .loc 2 0), (3, .loc 3 0), (5, vints (put ahead x.frm)), (6, vints q.2), (7, vint i), (8, .loc 8 0), (9, vint q.1)] [(2, (sc.v, 26)), (3, (a.v, 75)), (8, (x.v, 68))] s 114) (fun q => x.whr.length - q.1) (0, met) ⟨⟨Nat.zero_le _, rfl, by simp⟩, ?_⟩ ?_
       ·refine lt0 ?_ ?_ ?_
        ·simp only [leE, am, seval, reduceCtorEq] <;> simp
        ·simp only [oks, Nat.reduceBEq]
        ·simp only [leB, am, seval, reduceCtorEq]
       ·rintro ⟨j, met'⟩ ⟨hij, hinvj, hmj⟩; simp only at hij hinvj hmj ⊢; have hmm : met'.length ≤ 549890031616 := by rw [hdrop] at hml; simp only [List.map_cons, List.sum_cons] at hml; omega
        refine AWp.seq_k fun K17 hK17 => ?_; refine rg fun Z z' => ?_; simp only [Step.v_len, Step.v_all, Step.v_take, Step.v_frm, Step.v_path, Step.v_whr, amt, seval, reduceCtorEq]; refine z' _ ?_; clear z' Z; refine AWp.cond (t := decide ((j:Int) < (x.whr.length : Nat))) (by simp only [am, seval, reduceCtorEq]) (fun htj => ?_) (fun htj => ?_)
        ·have hltj : j < x.whr.length := lt_of_dec htj; have ix0j : (0 ≤ (j : Int)) = True := by simp
         have ix1j : ((j : Int) < ((x.whr.length : Nat) : Int)) = True := by simp [hltj]
         obtain ⟨y, hy⟩ : ∃ y, x.whr[j] = y := ⟨_, rfl⟩; have hgy0 : (x.whr.map fun x => [vint x]).getD (j : Int).toNat [] = [vint y] := by rw [getD_map _ _ _ hltj, hy]
         refine AWp.skip ?_; refine hK17 _ ?_; clear hK17; refine AWp.seq_k fun K19 hK19 => ?_; refine AWp.block ?_; refine rg fun Z z' => ?_; simp only [Step.v_len, Step.v_all, Step.v_take, Step.v_frm, Step.v_path, Step.v_whr, ix0j, ix1j, true_and, hgy0, amt, seval, reduceCtorEq]; refine z' _ ?_; clear z' Z; refine AWp.seq_k fun K21 hK21 => ?_; refine AWp.seq_cut (ι := Unit) (fun _ => True) (fun _ => tst [(2, .loc 2 0), (3, .loc 3 0), (5, vints (put ahead x.frm)), (6, vints met'), (7, vint i), (8, .loc 8 0), (9, vint j), (10, vint y), (96, vbool (whereBad a (put ahead x.frm) met' y))] [(2, (sc.v, 26)), (3, (a.v, 75)), (8, (x.v, 68))] s 114) ?_ ?_
         ·refine rg1 fun Z z' => ?_; simp only [avs, tvs, undef, amt, seval, reduceCtorEq]; refine gF (fun hg15_2 => ?_) (fun hg15_2 => ?_)
          ·simp only [avs, tvs, hg15_2, undef, amt, seval, reduceCtorEq]; refine gF (fun hg15_9 => ?_) (fun hg15_9 => ?_)
           ·simp only [avs, tvs, hg15_2, hg15_9, undef, amt, seval, reduceCtorEq]; refine (f86_spec met' y _).go ?_; simp only [avs, tvs, hg15_2, hg15_9, undef, amt, seval, reduceCtorEq]; refine gF (fun hg15_14 => ?_) (fun hg15_14 => ?_)
            ·have hy0 : 0 ≤ y := by have := of_decide_eq_false hg15_2; omega
             have hy1 : y < ((a.whr.length : Nat) : Int) := by have := of_decide_eq_false hg15_9; omega
             have ixy0 : (0 ≤ y) = True := by simp [hy0]
             have ixy1 : (y < ((a.whr.length : Nat) : Int)) = True := by simp [hy1]
             have hgy : (a.whr.map Term.v).getD y.toNat [] = (a.whr.getD y.toNat zterm).v := by simp [List.getD_eq_getElem?_getD, show y.toNat < a.whr.length by omega]
             have hwy : (a.whr.getD y.toNat zterm).w ≤ 274945015808 := ha.whr _ (by simp [List.getD_eq_getElem?_getD, show y.toNat < a.whr.length by omega]); simp only [avs, tvs, hg15_2, hg15_9, hg15_14, ixy0, ixy1, true_and, hgy, undef, amt, seval, reduceCtorEq]; refine (f89_spec (a.whr.getD y.toNat zterm) hwy (put ahead x.frm) _).go ?_; simp only [avs, tvs, hg15_2, hg15_9, hg15_14, ixy0, ixy1, true_and, hgy, undef, amt, seval, reduceCtorEq]; refine z' _ ?_; clear z' Z; refine ⟨(), trivial, ?_⟩; refine lt0 ?_ ?_ ?_
             ·simp only [leE, whereBad, hg15_2, hg15_9, hg15_14, bo, Bool.not_true, Bool.not_false, ↓reduceIte, Bool.false_eq_true, am, seval, reduceCtorEq]
             ·simp only [oks, Nat.reduceBEq]
             ·simp only [leB, whereBad, hg15_2, hg15_9, hg15_14, bo, Bool.not_true, Bool.not_false, ↓reduceIte, Bool.false_eq_true, am, seval, reduceCtorEq]
            ·simp only [avs, tvs, hg15_2, hg15_9, hg15_14, undef, amt, seval, reduceCtorEq]; refine z' _ ?_; clear z' Z; refine ⟨(), trivial, ?_⟩; refine lt0 ?_ ?_ ?_
             ·simp only [leE, whereBad, hg15_2, hg15_9, hg15_14, bo, Bool.not_true, Bool.not_false, ↓reduceIte, Bool.false_eq_true, am, seval, reduceCtorEq]
             ·simp only [oks, Nat.reduceBEq]
             ·simp only [leB, whereBad, hg15_2, hg15_9, hg15_14, bo, Bool.not_true, Bool.not_false, ↓reduceIte, Bool.false_eq_true, am, seval, reduceCtorEq]
           ·simp only [avs, tvs, hg15_2, hg15_9, undef, amt, seval, reduceCtorEq]; refine z' _ ?_; clear z' Z; refine ⟨(), trivial, ?_⟩; refine lt0 ?_ ?_ ?_
            ·simp only [leE, whereBad, hg15_2, hg15_9, bo, Bool.not_true, Bool.not_false, ↓reduceIte, Bool.false_eq_true, am, seval, reduceCtorEq]
            ·simp only [oks, Nat.reduceBEq]
            ·simp only [leB, whereBad, hg15_2, hg15_9, bo, Bool.not_true, Bool.not_false, ↓reduceIte, Bool.false_eq_true, am, seval, reduceCtorEq]
          ·simp only [avs, tvs, hg15_2, undef, amt, seval, reduceCtorEq]; refine z' _ ?_; clear z' Z; refine ⟨(), trivial, ?_⟩; refine lt0 ?_ ?_ ?_
           ·simp only [leE, whereBad, hg15_2, bo, Bool.not_true, Bool.not_false, ↓reduceIte, Bool.false_eq_true, am, seval, reduceCtorEq]
           ·simp only [oks, Nat.reduceBEq]
           ·simp only [leB, whereBad, hg15_2, bo, Bool.not_true, Bool.not_false, ↓reduceIte, Bool.false_eq_true, am, seval, reduceCtorEq]
         ·rintro ⟨⟩ _; refine AWp.cond (t := whereBad a (put ahead x.frm) met' y) (by simp only [am, seval, reduceCtorEq]) (fun hy12 => ?_) (fun hy12 => ?_)
          ·refine rg fun Z z' => ?_; simp only [am, seval, reduceCtorEq]; refine z' _ ?_; clear z' Z; refine AWp.ret ?_; refine rt (by show resV Tryz.prog _ [.tmp 4] = _; simp only [resV, am, seval, reduceCtorEq]; rfl) ⟨?_, rfl⟩; simp only [oneV]; rw [← rArm_eq]; unfold rArm; rw [hinv, hdrop]; simp only [rSteps]; rw [hsb, hinvj, List.drop_eq_getElem_cons hltj, hy]; simp only [rWhere]; rw [hy12]; simp only [↓reduceIte, Bool.false_eq_true]
          ·refine AWp.skip ?_; refine hK21 _ ?_; clear hK21; refine rg1 fun Z z' => ?_; simp only [am, seval, reduceCtorEq]; refine (f28_spec met' y (by omega) _).go ?_; simp only [am, seval, reduceCtorEq]; refine z' _ ?_; clear z' Z; refine hK19 _ ?_; clear hK19; refine rg1 fun Z z' => ?_; simp only [amt, seval, reduceCtorEq]; refine z' _ ?_; clear z' Z; have hpn := len_put_new met' y (by have h := hy12; unfold whereBad at h; simp only [Bool.or_eq_false_iff] at h; exact h.1.2); refine ⟨(j + 1, put met' y), ⟨⟨hltj, ?_, by simp only; omega⟩, by simp only; omega⟩, ?_⟩
           ·simp only; rw [hinvj, List.drop_eq_getElem_cons hltj, hy]; simp only [rWhere]; rw [hy12, if_neg (by decide)]
           refine lt0 ?_ ?_ ?_
           ·simp only [leE, am, seval, reduceCtorEq]; rw [wrap_id (by omega) (by omega)]; simp
           ·simp only [oks, Nat.reduceBEq]
           ·simp only [leB, am, seval, reduceCtorEq]
        ·obtain rfl : j = x.whr.length := eq_of_dec htj hij; refine AWp.exit ?_; simp only [exq, seval]; refine hK7 _ ?_; clear hK7; refine rg1 fun Z z' => ?_; simp only [amt, seval, reduceCtorEq]; refine z' _ ?_; clear z' Z; refine ⟨⟨i + 1, put ahead x.frm, met'⟩, ⟨⟨hlt, ?_, by simp only; omega, ?_⟩, by simp only; omega⟩, ?_⟩
         ·simp only; rw [hinv, hdrop]; simp only [rSteps]; rw [hsb, hinvj]; simp only [List.drop_length, rWhere, Bool.false_eq_true, ↓reduceIte]
         ·simp only; rw [hdrop] at hml; simp only [List.map_cons, List.sum_cons] at hml; omega
         refine lt0 ?_ ?_ ?_
         ·simp only [leE, am, seval, reduceCtorEq]; rw [wrap_id (by omega) (by omega)]; simp
         ·simp only [oks, Nat.reduceBEq]
         ·simp only [leB, am, seval, reduceCtorEq]
  ·obtain rfl : i = a.steps.length := eq_of_dec ht hi; refine AWp.exit ?_; simp only [exq, seval]; refine hK3 _ ?_; clear hK3; refine rg fun Z z' => ?_; simp only [avs, undef, amt, seval, reduceCtorEq]; refine gT (fun hg18_6 => ?_) (fun hg18_6 => ?_)
   ·simp only [avs, hg18_6, undef, amt, seval, reduceCtorEq]; refine z' _ ?_; clear z' Z; refine AWp.ret ?_; refine rt (by show resV Tryz.prog _ [.tmp 4] = _; simp only [resV, am, seval, reduceCtorEq]; rfl) ⟨?_, rfl⟩; simp only [oneV]; rw [← rArm_eq]; unfold rArm; rw [hinv, List.drop_length]; simp only [rSteps, hg18_6, bo, Bool.not_true, Bool.not_false, ↓reduceIte, Bool.false_eq_true]
   ·simp only [avs, hg18_6, undef, amt, seval, reduceCtorEq]; refine z' _ ?_; clear z' Z; refine AWp.ret ?_; refine rt (by show resV Tryz.prog _ [.tmp 4] = _; simp only [resV, am, seval, reduceCtorEq]; rfl) ⟨?_, rfl⟩; simp only [oneV]; rw [← rArm_eq]; unfold rArm; rw [hinv, List.drop_length]; simp only [rSteps, hg18_6, bo, Bool.not_true, Bool.not_false, ↓reduceIte, Bool.false_eq_true]
theorem f53_spec (sc : Schema) (hs1 : sc.views.isCell = true) (p : Arm → Bool) (l : List Term) (h53 : ∀ t ∈ l, Gives Tryz.prog 53 [.agg sc.v, .slice 14 (t.args.map Term.v)] (vbool ((cTerms t.args).all p))) (h23 : ∀ t ∈ l, Gives Tryz.prog 23 [.agg sc.v, .slice 5 (t.sub.map Query.v)] (vbool ((cQueries t.sub).all p))) : Gives Tryz.prog 53 [.agg sc.v, .slice 14 (l.map Term.v)] (vbool ((cTerms l).all p)) := by
 intro s; refine acalls_of (fn := Tryz.f53) Tryz.func53 rfl (by decide) (by show 2 ≤ 30; decide) ?_; rw [Tryz.ntmps53]; refine rg fun Z z' => ?_; simp only [Sch.v_all hs1, Sch.v_len, Sch.v_take, amt, seval, reduceCtorEq]; refine z' _ ?_; clear z' Z; refine AWp.seq_k fun K2 hK2 => ?_; refine rg fun Z z' => ?_; simp only [am, seval, reduceCtorEq]; refine z' _ ?_; clear z' Z; refine AWp.block ?_; refine AWp.slen 1 (sz := 14) (es := l.map Term.v) (by simp only [am, seval, reduceCtorEq]) fun hmax => ?_; have hmx := maxLen_lt; (try rw [List.length_map] at hmax); refine AWp.loopT (ι := Nat) (fun i => i ≤ l.length ∧ (cTerms (l.take i)).all p = true) (fun i => tst [(1, .slice 14 (l.map Term.v)), (2, .loc 2 0), (5, vint i)] [(2, (sc.v, 26))] s 30) (fun i => l.length - i) 0 ⟨⟨Nat.zero_le _, by simp [cTerms]⟩, ?_⟩ ?_
 ·refine lt0 ?_ ?_ ?_
  ·simp only [leE, am, seval, reduceCtorEq] <;> simp
  ·simp only [oks, Nat.reduceBEq]
  ·simp only [leB, am, seval, reduceCtorEq]
 ·rintro i ⟨hi, hno⟩; refine AWp.seq_k fun K4 hK4 => ?_; refine rg fun Z z' => ?_; simp only [amt, seval, reduceCtorEq]; refine z' _ ?_; clear z' Z; refine AWp.cond (t := decide ((i:Int) < (l.length : Nat))) (by simp only [am, seval, reduceCtorEq]) (fun ht => ?_) (fun ht => ?_)
  ·have hlt : i < l.length := lt_of_dec ht; have ix0 : (0 ≤ (i : Int)) = True := by simp
   have ix1 : ((i : Int) < ((l.length : Nat) : Int)) = True := by simp [hlt]
   obtain ⟨t, ht0⟩ : ∃ t, l[i] = t := ⟨_, rfl⟩; have hgt : (l.map Term.v).getD (i : Int).toNat [] = t.v := by rw [getD_map _ _ _ hlt, ht0]
   have hsu := cTerms_succ l i hlt; rw [ht0, cTerm_eq] at hsu; refine AWp.skip ?_; refine hK4 _ ?_; clear hK4; refine AWp.seq_k fun K6 hK6 => ?_; refine AWp.block ?_; refine AWp.regL mixed [0, 1, 2, 3, 4, 5, 6, 7, 8, 9, 10, 11, 12, 13, 14, 15, 16, 17] (by decide +kernel) [99999] (by decide +kernel) fun Z z' => ?_; simp only [Sch.v_all hs1, Sch.v_len, Sch.v_take, ix0, ix1, true_and, hgt, Term.v_args, Term.v_sub, undef, aml, Nat.reduceBEq, amt, seval, reduceCtorEq]; refine (h53 _ (by rw [← ht0]; exact List.getElem_mem hlt) _).go ?_; simp only [Sch.v_all hs1, Sch.v_len, Sch.v_take, ix0, ix1, true_and, hgt, Term.v_args, Term.v_sub, undef, aml, Nat.reduceBEq, amt, seval, reduceCtorEq]; refine gFL (fun hg4_8 => ?_) (fun hg4_8 => ?_)
   ·simp only [Sch.v_all hs1, Sch.v_len, Sch.v_take, ix0, ix1, true_and, hgt, Term.v_args, Term.v_sub, hg4_8, undef, aml, Nat.reduceBEq, amt, seval, reduceCtorEq]; refine (h23 _ (by rw [← ht0]; exact List.getElem_mem hlt) _).go ?_; simp only [Sch.v_all hs1, Sch.v_len, Sch.v_take, ix0, ix1, true_and, hgt, Term.v_args, Term.v_sub, hg4_8, undef, aml, Nat.reduceBEq, amt, seval, reduceCtorEq]; refine z' _ ?_; clear z' Z; refine AWp.condK fun C1 C2 hC1 hC2 => ?_; simp only [condP, hg4_8, am, seval, reduceCtorEq]; refine ⟨fun hc29 => hC1 ?_, fun hc29 => hC2 ?_⟩ <;> clear hC1 hC2 C1 C2
    ·refine rg fun Z z' => ?_; simp only [am, seval, reduceCtorEq]; refine z' _ ?_; clear z' Z; refine AWp.ret ?_; refine rt (by show resV Tryz.prog _ [.tmp 4] = _; simp only [resV, am, seval, reduceCtorEq]; rfl) ⟨?_, rfl⟩; simp only [oneV]; rw [cTerms_split l i hlt, ht0, cTerm_eq, List.all_append, List.all_append, List.all_append, hno, nf hg4_8, nt hc29]; rfl
    ·refine AWp.skip ?_; refine hK6 _ ?_; clear hK6; refine rg1 fun Z z' => ?_; simp only [amt, seval, reduceCtorEq]; refine z' _ ?_; clear z' Z; refine ⟨i + 1, ⟨⟨hlt, by rw [hsu, List.all_append, List.all_append, hno, nf hg4_8, nf hc29]; rfl⟩, by omega⟩, ?_⟩; refine lt0 ?_ ?_ ?_
     ·simp only [leE, am, seval, reduceCtorEq]; rw [wrap_id (by omega) (by omega)]; simp
     ·simp only [oks, Nat.reduceBEq]
     ·simp only [leB, am, seval, reduceCtorEq]
   ·simp only [Sch.v_all hs1, Sch.v_len, Sch.v_take, ix0, ix1, true_and, hgt, Term.v_args, Term.v_sub, hg4_8, undef, aml, Nat.reduceBEq, amt, seval, reduceCtorEq]; refine z' _ ?_; clear z' Z; refine cT (by simp only [hg4_8, am, seval, reduceCtorEq]) ?_; refine rg fun Z z' => ?_; simp only [am, seval, reduceCtorEq]; refine z' _ ?_; clear z' Z; refine AWp.ret ?_; refine rt (by show resV Tryz.prog _ [.tmp 4] = _; simp only [resV, am, seval, reduceCtorEq]; rfl) ⟨?_, rfl⟩; simp only [oneV]; rw [cTerms_split l i hlt, ht0, cTerm_eq, List.all_append, List.all_append, List.all_append, hno, nt hg4_8]; rfl
  ·obtain rfl : i = l.length := eq_of_dec ht hi; refine AWp.exit ?_; simp only [exq, seval]; refine hK2 _ ?_; clear hK2; refine rg fun Z z' => ?_; simp only [am, seval, reduceCtorEq]; refine z' _ ?_; clear z' Z; refine AWp.ret ?_; refine rt (by show resV Tryz.prog _ [.tmp 4] = _; simp only [resV, am, seval, reduceCtorEq]; rfl) ⟨?_, rfl⟩; simp only [oneV]; rw [List.take_length] at hno; rw [hno]
end Go.Proofs.YtcckhbconihagaaGreatDoor
