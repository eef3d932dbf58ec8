/- The reference's Terms. -/
import Derived.Test.YtcckhbconihagaaGreatDoorVPlUse
import Derived.Test.YtcckhbconihagaaGreatDoorV11
import Derived.Test.YtcckhbconihagaaGreatDoorV9
set_option linter.unusedSimpArgs false
set_option linter.unusedVariables false
set_option maxRecDepth 100000
namespace Go.Proofs.YtcckhbconihagaaGreatDoor
open Go.Am Go.Pl
theorem f46_spec (a : Arm) (hb : (a.rows.flatMap (fun l => l)).length + (a.frm.flatMap From.on).length + (a.aggs.flatMap Agg.arg).length + (a.steps.flatMap stepTerms).length + a.whr.length + a.group.length + a.having.length + a.out.length + a.extra.length ≤ 550024249344) (hN : a.rows.length ≤ 2^42 ∧ a.frm.length ≤ 2^42 ∧ a.aggs.length ≤ 2^42 ∧ a.steps.length ≤ 2^42 ∧ ∀ i (hi : i < a.steps.length), a.steps[i].low.length ≤ 2^42 ∧ a.steps[i].high.length ≤ 2^42) : Gives Tryz.prog 46 [.agg a.v] (.slice 14 ((armTerms a).map Term.v)) := by
 obtain ⟨hn1, hn2, hn3, hn4, hn5⟩ := hN; intro s; refine acalls_of (fn := Tryz.f46) Tryz.func46 rfl (by decide) (by show 1 ≤ 124; decide) ?_; rw [Tryz.ntmps46]; refine rg fun Z z' => ?_; simp only [Arm.v_eq, amt, seval, reduceCtorEq]; refine z' _ ?_; clear z' Z; refine rg fun Z z' => ?_; simp only [Arm.v_eq, am, seval, reduceCtorEq]; refine z' _ ?_; clear z' Z; refine AWp.seq_k fun K3 hK3 => ?_; refine rg fun Z z' => ?_; simp only [Arm.v_eq, am, seval, reduceCtorEq]; refine z' _ ?_; clear z' Z; refine AWp.block ?_; refine AWp.adoptE 3 (49, 14) (.inl (by simp only [am, seval, reduceCtorEq])) fun g hg => ?_; change s.own g = none at hg; refine AWp.loopT (ι := Nat × Nat) (fun k => k.1 ≤ a.rows.length ∧ s.own k.2 = none) (fun k => tst [(1, .loc 1 0), (3, .own k.2 14 (((a.rows.take k.1).flatMap (fun l => l)).map Term.v)), (4, vint k.1)] [(1, (a.v, 75))] (s.setOwn k.2 (some (49, 14))) 124) (fun k => a.rows.length - k.1) (0, g) ⟨⟨Nat.zero_le _, hg⟩, ?_⟩ ?_
 ·refine lt0 ?_ ?_ ?_
  ·simp only [leE, am, seval, reduceCtorEq] <;> simp
  ·simp only [oks, Nat.reduceBEq]
  ·simp only [leB, Arm.v_eq, am, seval, reduceCtorEq]
 ·rintro ⟨i, g⟩ ⟨hi, hg⟩; simp only at hi hg ⊢; refine AWp.seq_k fun K5 hK5 => ?_; refine rg fun Z z' => ?_; simp only [Arm.v_eq, amt, seval, reduceCtorEq]; refine z' _ ?_; clear z' Z; refine AWp.cond (t := decide ((i:Int) < a.rows.length)) (by simp only [am, seval, reduceCtorEq]) (fun ht => ?_) (fun ht => ?_)
  ·have hlt : i < a.rows.length := lt_of_dec ht; have ix0 : (0 ≤ (i : Int)) = True := by simp
   have ix1 : ((i : Int) < (a.rows.length : Int)) = True := by simp [hlt]
   refine AWp.skip ?_; refine hK5 _ ?_; clear hK5; refine AWp.seq_k fun K7 hK7 => ?_; refine AWp.block ?_; refine rg1 fun Z z' => ?_; simp only [Arm.v_eq, ix0, ix1, true_and, getD_map _ _ _ hlt, amt, seval, reduceCtorEq]; have hq := flatMap_take_le (fun l : List Term => l) a.rows i hlt; refine ⟨own_same _ _ _, by (try simp only [List.take_length, List.length_map, List.length_append, List.length_take, List.length_cons, List.length_nil]); omega, by (try simp only [List.take_length, List.length_map, List.length_append, List.length_take, List.length_cons, List.length_nil, maxLen]); omega, fun g1 hg1 => ?_⟩; refine z' _ ?_; clear z' Z; refine hK7 _ ?_; clear hK7; refine rg1 fun Z z' => ?_; simp only [Arm.v_eq, amt, seval, reduceCtorEq]; refine z' _ ?_; clear z' Z; refine ⟨(i + 1, g1), ⟨⟨hlt, own_fresh hg1⟩, by simp only; omega⟩, ?_⟩; refine le_tst ?_ ?_ ?_ (own_step hg _ _ _) rfl
   ·simp only [leE, am, seval, reduceCtorEq]; rw [wrap_id (by omega) (by omega)]; rw [take_flatMap _ _ _ hlt]; simp
   ·simp only [oks, Nat.reduceBEq]
   ·simp only [leB, Arm.v_eq, am, seval, reduceCtorEq]
  ·obtain rfl : i = a.rows.length := eq_of_dec ht hi; refine AWp.exit ?_; simp only [exq, seval]; refine hK3 _ ?_; clear hK3; refine AWp.seq_k fun K10 hK10 => ?_; refine rg fun Z z' => ?_; simp only [Arm.v_eq, am, seval, reduceCtorEq]; refine z' _ ?_; clear z' Z; refine AWp.block ?_; refine AWp.loopT (ι := Nat × Nat) (fun k => k.1 ≤ a.frm.length ∧ s.own k.2 = none) (fun k => tst [(1, .loc 1 0), (3, .own k.2 14 ((a.rows.flatMap (fun l => l) ++ (a.frm.take k.1).flatMap From.on).map Term.v)), (5, vint k.1)] [(1, (a.v, 75))] (s.setOwn k.2 (some (49, 14))) 124) (fun k => a.frm.length - k.1) (0, g) ⟨⟨Nat.zero_le _, hg⟩, ?_⟩ ?_
   ·refine lt0 ?_ ?_ ?_
    ·simp only [leE, am, seval, reduceCtorEq] <;> simp
    ·simp only [oks, Nat.reduceBEq]
    ·simp only [leB, Arm.v_eq, am, seval, reduceCtorEq]
   ·rintro ⟨i, g⟩ ⟨hi, hg⟩; simp only at hi hg ⊢; refine AWp.seq_k fun K12 hK12 => ?_; refine rg fun Z z' => ?_; simp only [Arm.v_eq, amt, seval, reduceCtorEq]; refine z' _ ?_; clear z' Z; refine AWp.cond (t := decide ((i:Int) < a.frm.length)) (by simp only [am, seval, reduceCtorEq]) (fun ht => ?_) (fun ht => ?_)
    ·have hlt : i < a.frm.length := lt_of_dec ht; have ix0 : (0 ≤ (i : Int)) = True := by simp
     have ix1 : ((i : Int) < (a.frm.length : Int)) = True := by simp [hlt]
     refine AWp.skip ?_; refine hK12 _ ?_; clear hK12; refine AWp.seq_k fun K14 hK14 => ?_; refine AWp.block ?_; refine rg1 fun Z z' => ?_; simp only [Arm.v_eq, ix0, ix1, true_and, getD_map _ _ _ hlt, From.v_eq, amt, seval, reduceCtorEq]; have hq := flatMap_take_le From.on a.frm i hlt; refine ⟨own_same _ _ _, by (try simp only [List.take_length, List.length_map, List.length_append, List.length_take, List.length_cons, List.length_nil]); omega, by (try simp only [List.take_length, List.length_map, List.length_append, List.length_take, List.length_cons, List.length_nil, maxLen]); omega, fun g1 hg1 => ?_⟩; refine z' _ ?_; clear z' Z; refine hK14 _ ?_; clear hK14; refine rg1 fun Z z' => ?_; simp only [Arm.v_eq, amt, seval, reduceCtorEq]; refine z' _ ?_; clear z' Z; refine ⟨(i + 1, g1), ⟨⟨hlt, own_fresh hg1⟩, by simp only; omega⟩, ?_⟩; refine le_tst ?_ ?_ ?_ (own_step hg _ _ _) rfl
     ·simp only [leE, am, seval, reduceCtorEq]; rw [wrap_id (by omega) (by omega)]; rw [take_flatMap _ _ _ hlt]; simp
     ·simp only [oks, Nat.reduceBEq]
     ·simp only [leB, Arm.v_eq, am, seval, reduceCtorEq]
    ·obtain rfl : i = a.frm.length := eq_of_dec ht hi; refine AWp.exit ?_; simp only [exq, seval]; refine hK10 _ ?_; clear hK10; refine AWp.seq_k fun K17 hK17 => ?_; refine rg fun Z z' => ?_; simp only [Arm.v_eq, am, seval, reduceCtorEq]; refine z' _ ?_; clear z' Z; refine AWp.block ?_; refine AWp.loopT (ι := Nat × Nat) (fun k => k.1 ≤ a.aggs.length ∧ s.own k.2 = none) (fun k => tst [(1, .loc 1 0), (3, .own k.2 14 ((a.rows.flatMap (fun l => l) ++ a.frm.flatMap From.on ++ (a.aggs.take k.1).flatMap Agg.arg).map Term.v)), (6, vint k.1)] [(1, (a.v, 75))] (s.setOwn k.2 (some (49, 14))) 124) (fun k => a.aggs.length - k.1) (0, g) ⟨⟨Nat.zero_le _, hg⟩, ?_⟩ ?_
     ·refine lt0 ?_ ?_ ?_
      ·simp only [leE, am, seval, reduceCtorEq] <;> simp
      ·simp only [oks, Nat.reduceBEq]
      ·simp only [leB, Arm.v_eq, am, seval, reduceCtorEq]
     ·rintro ⟨i, g⟩ ⟨hi, hg⟩; simp only at hi hg ⊢; refine AWp.seq_k fun K19 hK19 => ?_; refine rg fun Z z' => ?_; simp only [Arm.v_eq, amt, seval, reduceCtorEq]; refine z' _ ?_; clear z' Z; refine AWp.cond (t := decide ((i:Int) < a.aggs.length)) (by simp only [am, seval, reduceCtorEq]) (fun ht => ?_) (fun ht => ?_)
      ·have hlt : i < a.aggs.length := lt_of_dec ht; have ix0 : (0 ≤ (i : Int)) = True := by simp
       have ix1 : ((i : Int) < (a.aggs.length : Int)) = True := by simp [hlt]
       refine AWp.skip ?_; refine hK19 _ ?_; clear hK19; refine AWp.seq_k fun K21 hK21 => ?_; refine AWp.block ?_; refine rg1 fun Z z' => ?_; simp only [Arm.v_eq, ix0, ix1, true_and, getD_map _ _ _ hlt, Agg.v_eq, amt, seval, reduceCtorEq]; have hq := flatMap_take_le Agg.arg a.aggs i hlt; refine ⟨own_same _ _ _, by (try simp only [List.take_length, List.length_map, List.length_append, List.length_take, List.length_cons, List.length_nil]); omega, by (try simp only [List.take_length, List.length_map, List.length_append, List.length_take, List.length_cons, List.length_nil, maxLen]); omega, fun g1 hg1 => ?_⟩; refine z' _ ?_; clear z' Z; refine hK21 _ ?_; clear hK21; refine rg1 fun Z z' => ?_; simp only [Arm.v_eq, amt, seval, reduceCtorEq]; refine z' _ ?_; clear z' Z; refine ⟨(i + 1, g1), ⟨⟨hlt, own_fresh hg1⟩, by simp only; omega⟩, ?_⟩; refine le_tst ?_ ?_ ?_ (own_step hg _ _ _) rfl
       ·simp only [leE, am, seval, reduceCtorEq]; rw [wrap_id (by omega) (by omega)]; rw [take_flatMap _ _ _ hlt]; simp
       ·simp only [oks, Nat.reduceBEq]
       ·simp only [leB, Arm.v_eq, am, seval, reduceCtorEq]
      ·obtain rfl : i = a.aggs.length := eq_of_dec ht hi; refine AWp.exit ?_; simp only [exq, seval]; refine hK17 _ ?_; clear hK17; refine AWp.seq_k fun K24 hK24 => ?_; refine rg fun Z z' => ?_; simp only [Arm.v_eq, am, seval, reduceCtorEq]; refine z' _ ?_; clear z' Z; refine AWp.block ?_; refine AWp.loopT (ι := Nat × Nat) (fun k => k.1 ≤ a.steps.length ∧ s.own k.2 = none) (fun k => tst [(1, .loc 1 0), (3, .own k.2 14 ((a.rows.flatMap (fun l => l) ++ a.frm.flatMap From.on ++ a.aggs.flatMap Agg.arg ++ (a.steps.take k.1).flatMap stepTerms).map Term.v)), (7, vint k.1)] [(1, (a.v, 75))] (s.setOwn k.2 (some (49, 14))) 124) (fun k => a.steps.length - k.1) (0, g) ⟨⟨Nat.zero_le _, hg⟩, ?_⟩ ?_
       ·refine lt0 ?_ ?_ ?_
        ·simp only [leE, am, seval, reduceCtorEq] <;> simp
        ·simp only [oks, Nat.reduceBEq]
        ·simp only [leB, Arm.v_eq, am, seval, reduceCtorEq]
       ·rintro ⟨i, g⟩ ⟨hi, hg⟩; simp only at hi hg ⊢; refine AWp.seq_k fun K26 hK26 => ?_; refine rg fun Z z' => ?_; simp only [Arm.v_eq, amt, seval, reduceCtorEq]; refine z' _ ?_; clear z' Z; refine AWp.cond (t := decide ((i:Int) < a.steps.length)) (by simp only [am, seval, reduceCtorEq]) (fun ht => ?_) (fun ht => ?_)
        ·have hlt : i < a.steps.length := lt_of_dec ht; have ix0 : (0 ≤ (i : Int)) = True := by simp
         have ix1 : ((i : Int) < (a.steps.length : Int)) = True := by simp [hlt]
         refine AWp.skip ?_; refine hK26 _ ?_; clear hK26; refine AWp.seq_k fun K28 hK28 => ?_; refine AWp.block ?_; refine rg fun Z z' => ?_; simp only [Arm.v_eq, ix0, ix1, true_and, getD_map _ _ _ hlt, Step.v_eq, amt, seval, reduceCtorEq]; refine z' _ ?_; clear z' Z; refine rg fun Z z' => ?_; simp only [Arm.v_eq, amt, seval, reduceCtorEq]; have hq := flatMap_take_le stepTerms a.steps i hlt; simp only [stepTerms, List.length_append, List.length_map] at hq; refine ⟨own_same _ _ _, by (try simp only [List.take_length, List.length_map, List.length_append, List.length_take, List.length_cons, List.length_nil]); omega, by (try simp only [List.take_length, List.length_map, List.length_append, List.length_take, List.length_cons, List.length_nil, maxLen]); omega, fun g1 hg1 => ?_⟩; refine z' _ ?_; clear z' Z; refine AWp.seq_k fun K31 hK31 => ?_; refine rg fun Z z' => ?_; simp only [Arm.v_eq, am, seval, reduceCtorEq]; refine z' _ ?_; clear z' Z; refine AWp.block ?_; refine AWp.loopT (ι := Nat × Nat) (fun k => k.1 ≤ a.steps[i].low.length ∧ s.own k.2 = none) (fun k => tst [(1, .loc 1 0), (3, .own k.2 14 ((a.rows.flatMap (fun l => l) ++ a.frm.flatMap From.on ++ a.aggs.flatMap Agg.arg ++ (a.steps.take i).flatMap stepTerms ++ a.steps[i].eq ++ (a.steps[i].low.take k.1).map Bound.term).map Term.v)), (7, vint i), (8, .loc 8 0), (9, vint k.1)] [(1, (a.v, 75)), (8, ([vint a.steps[i].kind, vstr a.steps[i].index, .slice 14 (a.steps[i].eq.map Term.v), .slice 15 (a.steps[i].low.map Bound.v), .slice 15 (a.steps[i].high.map Bound.v)], 66))] (s.setOwn k.2 (some (49, 14))) 124) (fun k => a.steps[i].low.length - k.1) (0, g1) ⟨⟨Nat.zero_le _, own_fresh hg1⟩, ?_⟩ ?_
         ·refine le_tst ?_ ?_ ?_ (own_step hg _ _ _) rfl
          ·simp only [leE, am, seval, reduceCtorEq] <;> simp
          ·simp only [oks, Nat.reduceBEq]
          ·simp only [leB, Arm.v_eq, am, seval, reduceCtorEq]
         ·rintro ⟨j, g⟩ ⟨hj, hg⟩; simp only at hj hg ⊢; refine AWp.seq_k fun K33 hK33 => ?_; refine rg fun Z z' => ?_; simp only [Arm.v_eq, amt, seval, reduceCtorEq]; refine z' _ ?_; clear z' Z; refine AWp.cond (t := decide ((j:Int) < a.steps[i].low.length)) (by simp only [am, seval, reduceCtorEq]) (fun ht => ?_) (fun ht => ?_)
          ·have hlt2 : j < a.steps[i].low.length := lt_of_dec ht; have ix0j : (0 ≤ (j : Int)) = True := by simp
           have ix1j : ((j : Int) < (a.steps[i].low.length : Int)) = True := by simp [hlt2]
           refine AWp.skip ?_; refine hK33 _ ?_; clear hK33; refine AWp.seq_k fun K35 hK35 => ?_; refine AWp.block ?_; refine rg1 fun Z z' => ?_; simp only [Arm.v_eq, ix0j, ix1j, true_and, getD_map _ _ _ hlt2, Bound.v_eq, Term.v_eq, amt, seval, reduceCtorEq]; have hq := flatMap_take_le stepTerms a.steps i hlt; simp only [stepTerms, List.length_append, List.length_map] at hq; refine ⟨own_same _ _ _, by (try simp only [List.take_length, List.length_map, List.length_append, List.length_take, List.length_cons, List.length_nil]); omega, by (try simp only [List.take_length, List.length_map, List.length_append, List.length_take, List.length_cons, List.length_nil, maxLen]); omega, fun g1 hg1 => ?_⟩; refine z' _ ?_; clear z' Z; refine hK35 _ ?_; clear hK35; refine rg1 fun Z z' => ?_; simp only [Arm.v_eq, amt, seval, reduceCtorEq]; refine z' _ ?_; clear z' Z; refine ⟨(j + 1, g1), ⟨⟨hlt2, own_fresh hg1⟩, by simp only; omega⟩, ?_⟩; refine le_tst ?_ ?_ ?_ (own_step hg _ _ _) rfl
           ·simp only [leE, am, seval, reduceCtorEq]; rw [wrap_id (by omega) (by omega)]; rw [List.take_succ_eq_append_getElem hlt2]; simp [-List.take_append_getElem, Term.v_eq]
           ·simp only [oks, Nat.reduceBEq]
           ·simp only [leB, Arm.v_eq, am, seval, reduceCtorEq]
          ·obtain rfl : j = a.steps[i].low.length := eq_of_dec ht hj; refine AWp.exit ?_; simp only [exq, seval]; refine hK31 _ ?_; clear hK31; refine rg fun Z z' => ?_; simp only [Arm.v_eq, am, seval, reduceCtorEq]; refine z' _ ?_; clear z' Z; refine AWp.block ?_; refine AWp.loopT (ι := Nat × Nat) (fun k => k.1 ≤ a.steps[i].high.length ∧ s.own k.2 = none) (fun k => tst [(1, .loc 1 0), (3, .own k.2 14 ((a.rows.flatMap (fun l => l) ++ a.frm.flatMap From.on ++ a.aggs.flatMap Agg.arg ++ (a.steps.take i).flatMap stepTerms ++ a.steps[i].eq ++ a.steps[i].low.map Bound.term ++ (a.steps[i].high.take k.1).map Bound.term).map Term.v)), (7, vint i), (8, .loc 8 0), (10, vint k.1)] [(1, (a.v, 75)), (8, ([vint a.steps[i].kind, vstr a.steps[i].index, .slice 14 (a.steps[i].eq.map Term.v), .slice 15 (a.steps[i].low.map Bound.v), .slice 15 (a.steps[i].high.map Bound.v)], 66))] (s.setOwn k.2 (some (49, 14))) 124) (fun k => a.steps[i].high.length - k.1) (0, g) ⟨⟨Nat.zero_le _, hg⟩, ?_⟩ ?_
           ·refine lt0 ?_ ?_ ?_
            ·simp only [leE, am, seval, reduceCtorEq] <;> simp
            ·simp only [oks, Nat.reduceBEq]
            ·simp only [leB, Arm.v_eq, am, seval, reduceCtorEq]
           ·rintro ⟨j, g⟩ ⟨hj, hg⟩; simp only at hj hg ⊢; refine AWp.seq_k fun K39 hK39 => ?_; refine rg fun Z z' => ?_; simp only [Arm.v_eq, amt, seval, reduceCtorEq]; refine z' _ ?_; clear z' Z; refine AWp.cond (t := decide ((j:Int) < a.steps[i].high.length)) (by simp only [am, seval, reduceCtorEq]) (fun ht => ?_) (fun ht => ?_)
            ·have hlt2 : j < a.steps[i].high.length := lt_of_dec ht; have ix0j : (0 ≤ (j : Int)) = True := by simp
             have ix1j : ((j : Int) < (a.steps[i].high.length : Int)) = True := by simp [hlt2]
             refine AWp.skip ?_; refine hK39 _ ?_; clear hK39; refine AWp.seq_k fun K41 hK41 => ?_; refine AWp.block ?_; refine rg1 fun Z z' => ?_; simp only [Arm.v_eq, ix0j, ix1j, true_and, getD_map _ _ _ hlt2, Bound.v_eq, Term.v_eq, amt, seval, reduceCtorEq]; have hq := flatMap_take_le stepTerms a.steps i hlt; simp only [stepTerms, List.length_append, List.length_map] at hq; refine ⟨own_same _ _ _, by (try simp only [List.take_length, List.length_map, List.length_append, List.length_take, List.length_cons, List.length_nil]); omega, by (try simp only [List.take_length, List.length_map, List.length_append, List.length_take, List.length_cons, List.length_nil, maxLen]); omega, fun g1 hg1 => ?_⟩; refine z' _ ?_; clear z' Z; refine hK41 _ ?_; clear hK41; refine rg1 fun Z z' => ?_; simp only [Arm.v_eq, amt, seval, reduceCtorEq]; refine z' _ ?_; clear z' Z; refine ⟨(j + 1, g1), ⟨⟨hlt2, own_fresh hg1⟩, by simp only; omega⟩, ?_⟩; refine le_tst ?_ ?_ ?_ (own_step hg _ _ _) rfl
             ·simp only [leE, am, seval, reduceCtorEq]; rw [wrap_id (by omega) (by omega)]; rw [List.take_succ_eq_append_getElem hlt2]; simp [-List.take_append_getElem, Term.v_eq]
             ·simp only [oks, Nat.reduceBEq]
             ·simp only [leB, Arm.v_eq, am, seval, reduceCtorEq]
            ·obtain rfl : j = a.steps[i].high.length := eq_of_dec ht hj; refine AWp.exit ?_; simp only [exq, seval]; refine hK28 _ ?_; clear hK28; refine rg1 fun Z z' => ?_; simp only [Arm.v_eq, amt, seval, reduceCtorEq]; refine z' _ ?_; clear z' Z; refine ⟨(i + 1, g), ⟨⟨hlt, hg⟩, by simp only; omega⟩, ?_⟩; refine lt0 ?_ ?_ ?_
             ·simp only [leE, am, seval, reduceCtorEq]; rw [wrap_id (by omega) (by omega)]; rw [take_flatMap _ _ _ hlt]; simp [stepTerms]
             ·simp only [oks, Nat.reduceBEq]
             ·simp only [leB, Arm.v_eq, am, seval, reduceCtorEq]
        ·obtain rfl : i = a.steps.length := eq_of_dec ht hi; refine AWp.exit ?_; simp only [exq, seval]; refine hK24 _ ?_; clear hK24; refine rg fun Z z' => ?_; simp only [Arm.v_eq, amt, seval, reduceCtorEq]; skip; refine ⟨own_same _ _ _, by (try simp only [List.take_length, List.length_map, List.length_append, List.length_take, List.length_cons, List.length_nil]); omega, by (try simp only [List.take_length, List.length_map, List.length_append, List.length_take, List.length_cons, List.length_nil, maxLen]); omega, fun g1 hg1 => ?_⟩; refine z' _ ?_; clear z' Z; refine AWp.weaken (st' := tst [(1, .loc 1 0), (3, .own g1 14 ((a.rows.flatMap (fun l => l) ++ a.frm.flatMap From.on ++ a.aggs.flatMap Agg.arg ++ a.steps.flatMap stepTerms ++ a.whr).map Term.v))] [(1, (a.v, 75))] (s.setOwn g1 (some (49, 14))) 124) ?_ ?_
         ·refine le_tst ?_ ?_ ?_ (own_step hg _ _ _) rfl
          ·simp only [leE, am, seval, reduceCtorEq]; simp [List.take_length]
          ·simp only [oks, Nat.reduceBEq]
          ·simp only [leB, Arm.v_eq, am, seval, reduceCtorEq]
         replace hg := own_fresh hg1; clear hg1
         revert hg; generalize g1 = g; intro hg; refine rg fun Z z' => ?_; simp only [Arm.v_eq, amt, seval, reduceCtorEq]; skip; refine ⟨own_same _ _ _, by (try simp only [List.take_length, List.length_map, List.length_append, List.length_take, List.length_cons, List.length_nil]); omega, by (try simp only [List.take_length, List.length_map, List.length_append, List.length_take, List.length_cons, List.length_nil, maxLen]); omega, fun g1 hg1 => ?_⟩; refine z' _ ?_; clear z' Z; refine AWp.weaken (st' := tst [(1, .loc 1 0), (3, .own g1 14 ((a.rows.flatMap (fun l => l) ++ a.frm.flatMap From.on ++ a.aggs.flatMap Agg.arg ++ a.steps.flatMap stepTerms ++ a.whr ++ a.group).map Term.v))] [(1, (a.v, 75))] (s.setOwn g1 (some (49, 14))) 124) ?_ ?_
         ·refine le_tst ?_ ?_ ?_ (own_step hg _ _ _) rfl
          ·simp only [leE, am, seval, reduceCtorEq]; simp [List.take_length]
          ·simp only [oks, Nat.reduceBEq]
          ·simp only [leB, Arm.v_eq, am, seval, reduceCtorEq]
         replace hg := own_fresh hg1; clear hg1
         revert hg; generalize g1 = g; intro hg; refine rg fun Z z' => ?_; simp only [Arm.v_eq, amt, seval, reduceCtorEq]; skip; refine ⟨own_same _ _ _, by (try simp only [List.take_length, List.length_map, List.length_append, List.length_take, List.length_cons, List.length_nil]); omega, by (try simp only [List.take_length, List.length_map, List.length_append, List.length_take, List.length_cons, List.length_nil, maxLen]); omega, fun g1 hg1 => ?_⟩; refine z' _ ?_; clear z' Z; refine AWp.weaken (st' := tst [(1, .loc 1 0), (3, .own g1 14 ((a.rows.flatMap (fun l => l) ++ a.frm.flatMap From.on ++ a.aggs.flatMap Agg.arg ++ a.steps.flatMap stepTerms ++ a.whr ++ a.group ++ a.having).map Term.v))] [(1, (a.v, 75))] (s.setOwn g1 (some (49, 14))) 124) ?_ ?_
         ·refine le_tst ?_ ?_ ?_ (own_step hg _ _ _) rfl
          ·simp only [leE, am, seval, reduceCtorEq]; simp [List.take_length]
          ·simp only [oks, Nat.reduceBEq]
          ·simp only [leB, Arm.v_eq, am, seval, reduceCtorEq]
         replace hg := own_fresh hg1; clear hg1
         revert hg; generalize g1 = g; intro hg; refine rg fun Z z' => ?_; simp only [Arm.v_eq, amt, seval, reduceCtorEq]; skip; refine ⟨own_same _ _ _, by (try simp only [List.take_length, List.length_map, List.length_append, List.length_take, List.length_cons, List.length_nil]); omega, by (try simp only [List.take_length, List.length_map, List.length_append, List.length_take, List.length_cons, List.length_nil, maxLen]); omega, fun g1 hg1 => ?_⟩; refine z' _ ?_; clear z' Z; refine AWp.weaken (st' := tst [(1, .loc 1 0), (3, .own g1 14 ((a.rows.flatMap (fun l => l) ++ a.frm.flatMap From.on ++ a.aggs.flatMap Agg.arg ++ a.steps.flatMap stepTerms ++ a.whr ++ a.group ++ a.having ++ a.out).map Term.v))] [(1, (a.v, 75))] (s.setOwn g1 (some (49, 14))) 124) ?_ ?_
         ·refine le_tst ?_ ?_ ?_ (own_step hg _ _ _) rfl
          ·simp only [leE, am, seval, reduceCtorEq]; simp [List.take_length]
          ·simp only [oks, Nat.reduceBEq]
          ·simp only [leB, Arm.v_eq, am, seval, reduceCtorEq]
         replace hg := own_fresh hg1; clear hg1
         revert hg; generalize g1 = g; intro hg; refine rg fun Z z' => ?_; simp only [Arm.v_eq, amt, seval, reduceCtorEq]; skip; refine ⟨own_same _ _ _, by (try simp only [List.take_length, List.length_map, List.length_append, List.length_take, List.length_cons, List.length_nil]); omega, by (try simp only [List.take_length, List.length_map, List.length_append, List.length_take, List.length_cons, List.length_nil, maxLen]); omega, fun g1 hg1 => ?_⟩; refine z' _ ?_; clear z' Z; refine AWp.ret ?_; refine ret_intro (vs := [.own g1 14 _]) rfl (Wk.own _ _ _) ((own_step hg _ _ _).trans (own_drop (own_fresh hg1) _)) ⟨?_, rfl⟩; simp [armTerms]
theorem f28_spec (l : List Int) (n : Int) (hl : l.length + 2 ≤ 2^42) : Gives Tryz.prog 28 [vints l, vint n] (vints (put l n)) := by
 intro s; refine acalls_of (fn := Tryz.f28) Tryz.func28 rfl (by decide) (by show 2 ≤ 48; decide) ?_; rw [Tryz.ntmps28]; refine rg fun Z z' => ?_; simp only [am, seval, reduceCtorEq]; refine z' _ ?_; clear z' Z; refine rg fun Z z' => ?_; simp only [am, seval, reduceCtorEq]; refine z' _ ?_; clear z' Z; refine rg fun Z z' => ?_; simp only [am, seval, reduceCtorEq]; refine z' _ ?_; clear z' Z; refine AWp.seq_k fun K4 hK4 => ?_; refine rg fun Z z' => ?_; simp only [am, seval, reduceCtorEq]; refine z' _ ?_; clear z' Z; refine AWp.block ?_; refine AWp.adoptE 5 (3, 1) (.inl (by simp only [am, seval, reduceCtorEq])) fun g hg => ?_; change s.own g = none at hg; refine AWp.loopT (ι := Nat × Nat × Bool) (fun i => i.1 ≤ l.length ∧ s.own i.2.1 = none ∧ (i.2.2 = false → ∀ x ∈ l.take i.1, x < n) ∧ (i.2.2 = true → ∃ y ∈ l.take i.1, n ≤ y)) (fun i => tst [(0, vints l), (1, vint n), (5, .own i.2.1 1 ((if i.2.2 = true then put (l.take i.1) n else l.take i.1).map (fun x => [vint x]))), (6, vbool i.2.2), (7, vint i.1)] [] (s.setOwn i.2.1 (some (3, 1))) 48) (fun i => l.length - i.1) (0, g, false) ⟨⟨Nat.zero_le _, hg, by simp, by simp⟩, ?_⟩ ?_
 ·refine lt0 ?_ ?_ ?_
  ·simp only [leE, am, seval, reduceCtorEq] <;> simp
  ·simp only [okL, and_self]
  ·simp only [leB]
 ·rintro ⟨i, g, dn⟩ ⟨hi, hg, hf, ht2⟩; simp only at hi hg hf ht2 ⊢; refine AWp.seq_k fun K6 hK6 => ?_; refine rg fun Z z' => ?_; simp only [amt, seval, reduceCtorEq]; refine z' _ ?_; clear z' Z; refine AWp.cond (t := decide ((i:Int) < l.length)) (by simp only [am, seval, reduceCtorEq]) (fun ht => ?_) (fun ht => ?_)
  ·have hlt : i < l.length := lt_of_dec ht; have ix0 : (0 ≤ (i : Int)) = True := by simp
   have ix1 : ((i : Int) < (l.length : Int)) = True := by simp [hlt]
   refine AWp.skip ?_; refine hK6 _ ?_; clear hK6; refine AWp.seq_k fun K8 hK8 => ?_; refine AWp.block ?_; refine AWp.seq_k fun K9 hK9 => ?_; cases dn with
   | false =>
    try simp only [Bool.false_eq_true, if_false, if_true]
    refine rg fun Z z' => ?_; simp only [ix0, ix1, true_and, getD_map _ _ _ hlt, Bool.not_false, Bool.not_true, Bool.false_eq_true, amt, seval, reduceCtorEq]; refine z' _ ?_; clear z' Z; refine AWp.cond (t := decide (l[i] ≥ n)) (by simp only [am, seval, reduceCtorEq]) (fun hge => ?_) (fun hge => ?_)
    ·have hge : n ≤ l[i] := by simpa using hge
     refine AWp.seq_k fun K11 hK11 => ?_; refine rg fun Z z' => ?_; simp only [ix0, ix1, true_and, getD_map _ _ _ hlt, amt, seval, reduceCtorEq]; refine z' _ ?_; clear z' Z; refine AWp.cond (t := decide (l[i] > n)) (by simp only [am, seval, reduceCtorEq]) (fun hgt => ?_) (fun hgt => ?_)
     ·have hgt : n < l[i] := by simpa using hgt
      refine rg1 fun Z z' => ?_; simp only [amt, seval, reduceCtorEq]; refine ⟨own_same _ _ _, by (try simp only [List.length_map, List.length_append, List.length_cons, List.length_nil, List.length_take]); omega, by simp only [List.length_map, List.length_append, List.length_cons, List.length_nil, List.length_take, maxLen]; omega, fun g1 hg1 => ?_⟩; refine z' _ ?_; clear z' Z; refine hK11 _ ?_; clear hK11; refine AWp.weaken (st' := tst [(0, vints l), (1, vint n), (5, .own g1 1 ((l.take i ++ [n]).map (fun x => [vint x]))), (6, vbool false), (7, vint i)] [] (s.setOwn g1 (some (3, 1))) 48) ?_ ?_
      ·refine le_tst ?_ ?_ ?_ (own_step hg _ _ _) rfl
       ·simp only [leE, am, seval, reduceCtorEq] <;> simp
       ·simp only [okL, and_self]
       ·simp only [leB]
      replace hg := own_fresh hg1; clear hg1; refine rg1 fun Z z' => ?_; simp only [am, seval, reduceCtorEq]; refine z' _ ?_; clear z' Z; refine hK9 _ ?_; clear hK9; refine rg1 fun Z z' => ?_; simp only [ix0, ix1, true_and, getD_map _ _ _ hlt, amt, seval, reduceCtorEq]; refine ⟨own_same _ _ _, by (try simp only [List.length_map, List.length_append, List.length_cons, List.length_nil, List.length_take]); omega, by simp only [List.length_map, List.length_append, List.length_cons, List.length_nil, List.length_take, maxLen]; omega, fun g' hg' => ?_⟩; refine z' _ ?_; clear z' Z; refine hK8 _ ?_; clear hK8; refine rg1 fun Z z' => ?_; simp only [amt, seval, reduceCtorEq]; refine z' _ ?_; clear z' Z; refine ⟨(i + 1, g', true), ⟨⟨hlt, own_fresh hg', (fun h => by cases h), (fun _ => ⟨l[i], by rw [List.take_succ_eq_append_getElem hlt]; exact List.mem_append.2 (.inr (by simp)), hge⟩)⟩, by simp only; omega⟩, ?_⟩; refine le_tst ?_ ?_ ?_ (own_step hg _ _ _) rfl
      ·simp only [leE, am, seval, reduceCtorEq]; rw [wrap_id (by omega) (by omega), List.take_succ_eq_append_getElem hlt]; rw [put_snoc_now _ _ _ (hf rfl) hge, if_pos hgt]; simp [-List.take_append_getElem]
      ·simp only [okL, and_self]
      ·simp only [leB]
     ·have hgt : ¬ n < l[i] := by simpa using hgt
      refine AWp.skip ?_; refine hK11 _ ?_; clear hK11; refine rg1 fun Z z' => ?_; simp only [am, seval, reduceCtorEq]; refine z' _ ?_; clear z' Z; refine hK9 _ ?_; clear hK9; refine rg1 fun Z z' => ?_; simp only [ix0, ix1, true_and, getD_map _ _ _ hlt, amt, seval, reduceCtorEq]; refine ⟨own_same _ _ _, by (try simp only [List.length_map, List.length_append, List.length_cons, List.length_nil, List.length_take]); omega, by simp only [List.length_map, List.length_append, List.length_cons, List.length_nil, List.length_take, maxLen]; omega, fun g' hg' => ?_⟩; refine z' _ ?_; clear z' Z; refine hK8 _ ?_; clear hK8; refine rg1 fun Z z' => ?_; simp only [amt, seval, reduceCtorEq]; refine z' _ ?_; clear z' Z; refine ⟨(i + 1, g', true), ⟨⟨hlt, own_fresh hg', (fun h => by cases h), (fun _ => ⟨l[i], by rw [List.take_succ_eq_append_getElem hlt]; exact List.mem_append.2 (.inr (by simp)), hge⟩)⟩, by simp only; omega⟩, ?_⟩; refine le_tst ?_ ?_ ?_ (own_step hg _ _ _) rfl
      ·simp only [leE, am, seval, reduceCtorEq]; rw [wrap_id (by omega) (by omega), List.take_succ_eq_append_getElem hlt]; rw [put_snoc_now _ _ _ (hf rfl) hge, if_neg hgt]; simp [-List.take_append_getElem]
      ·simp only [okL, and_self]
      ·simp only [leB]
    ·have hge : l[i] < n := by simpa using hge
     refine AWp.skip ?_; refine hK9 _ ?_; clear hK9; refine rg1 fun Z z' => ?_; simp only [ix0, ix1, true_and, getD_map _ _ _ hlt, amt, seval, reduceCtorEq]; refine ⟨own_same _ _ _, by (try simp only [List.length_map, List.length_append, List.length_cons, List.length_nil, List.length_take]); omega, by simp only [List.length_map, List.length_append, List.length_cons, List.length_nil, List.length_take, maxLen]; omega, fun g' hg' => ?_⟩; refine z' _ ?_; clear z' Z; refine hK8 _ ?_; clear hK8; refine rg1 fun Z z' => ?_; simp only [amt, seval, reduceCtorEq]; refine z' _ ?_; clear z' Z; refine ⟨(i + 1, g', false), ⟨⟨hlt, own_fresh hg', (fun _ x hx => by rw [List.take_succ_eq_append_getElem hlt] at hx; rcases List.mem_append.1 hx with hx | hx; exact hf rfl x hx; simp at hx; subst hx; exact hge), (fun h => by cases h)⟩, by simp only; omega⟩, ?_⟩; refine le_tst ?_ ?_ ?_ (own_step hg _ _ _) rfl
     ·simp only [leE, am, seval, reduceCtorEq]; rw [wrap_id (by omega) (by omega), List.take_succ_eq_append_getElem hlt]; simp [-List.take_append_getElem]
     ·simp only [okL, and_self]
     ·simp only [leB]
   | true =>
    try simp only [Bool.false_eq_true, if_false, if_true]
    refine rg fun Z z' => ?_; simp only [ix0, ix1, true_and, getD_map _ _ _ hlt, Bool.not_false, Bool.not_true, Bool.false_eq_true, amt, seval, reduceCtorEq]; refine z' _ ?_; clear z' Z; refine cF (by simp only [am, seval, reduceCtorEq]) ?_; refine AWp.skip ?_; refine hK9 _ ?_; clear hK9; refine rg1 fun Z z' => ?_; simp only [ix0, ix1, true_and, getD_map _ _ _ hlt, amt, seval, reduceCtorEq]; have hpl := len_put (l.take i) n; rw [List.length_take] at hpl; refine ⟨own_same _ _ _, by (try simp only [List.length_map, List.length_append, List.length_cons, List.length_nil, List.length_take]); omega, by simp only [List.length_map, List.length_append, List.length_cons, List.length_nil, List.length_take, maxLen]; omega, fun g' hg' => ?_⟩; refine z' _ ?_; clear z' Z; refine hK8 _ ?_; clear hK8; refine rg1 fun Z z' => ?_; simp only [amt, seval, reduceCtorEq]; refine z' _ ?_; clear z' Z; refine ⟨(i + 1, g', true), ⟨⟨hlt, own_fresh hg', (fun h => by cases h), (fun _ => by obtain ⟨y, hy, h⟩ := ht2 rfl; exact ⟨y, by rw [List.take_succ_eq_append_getElem hlt]; exact List.mem_append.2 (.inl hy), h⟩)⟩, by simp only; omega⟩, ?_⟩; refine le_tst ?_ ?_ ?_ (own_step hg _ _ _) rfl
    ·simp only [leE, am, seval, reduceCtorEq]; rw [wrap_id (by omega) (by omega), List.take_succ_eq_append_getElem hlt]; rw [put_snoc_done _ _ _ (ht2 rfl)]; simp [-List.take_append_getElem]
    ·simp only [okL, and_self]
    ·simp only [leB]
  ·obtain rfl : i = l.length := eq_of_dec ht hi; refine AWp.exit ?_; simp only [exq, seval]; refine hK4 _ ?_; clear hK4; refine AWp.seq_k fun K13 hK13 => ?_; cases dn with
   | false =>
    try simp only [Bool.false_eq_true, if_false, if_true]
    refine rg fun Z z' => ?_; simp only [Bool.not_false, Bool.not_true, Bool.false_eq_true, am, seval, reduceCtorEq]; refine z' _ ?_; clear z' Z; refine cT (by simp only [am, seval, reduceCtorEq]) ?_; refine rg1 fun Z z' => ?_; simp only [amt, seval, reduceCtorEq]; refine ⟨own_same _ _ _, by simp only [List.length_map, List.length_take]; omega, by simp only [List.length_map, List.length_take, maxLen]; omega, fun g' hg' => ?_⟩; refine z' _ ?_; clear z' Z; refine hK13 _ ?_; clear hK13; refine rg fun Z z' => ?_; simp only [am, seval, reduceCtorEq]; refine z' _ ?_; clear z' Z; refine AWp.ret ?_; refine ret_intro (vs := [.own g' 1 _]) rfl (Wk.own _ _ _) ((own_step hg _ _ _).trans (own_drop (own_fresh hg') _)) ⟨?_, rfl⟩; rw [List.take_length] at hf; rw [put_all_lt l n (hf rfl)]; simp [List.take_length]
   | true =>
    try simp only [Bool.false_eq_true, if_false, if_true]
    refine rg fun Z z' => ?_; simp only [Bool.not_false, Bool.not_true, Bool.false_eq_true, am, seval, reduceCtorEq]; refine z' _ ?_; clear z' Z; refine cF (by simp only [am, seval, reduceCtorEq]) ?_; refine AWp.skip ?_; refine hK13 _ ?_; clear hK13; refine rg fun Z z' => ?_; simp only [am, seval, reduceCtorEq]; refine z' _ ?_; clear z' Z; refine AWp.ret ?_; refine ret_intro (vs := [.own g 1 _]) rfl (Wk.own _ _ _) (own_drop hg _) ⟨?_, rfl⟩; simp [List.take_length]
theorem f29_spec (l m : List Int) (hl : l.length + m.length + 2 ≤ 2^42) : Gives Tryz.prog 29 [vints l, vints m] (vints (puts l m)) := by
 intro s; refine acalls_of (fn := Tryz.f29) Tryz.func29 rfl (by decide) (by show 2 ≤ 19; decide) ?_; rw [Tryz.ntmps29]; refine rg fun Z z' => ?_; simp only [am, seval, reduceCtorEq]; refine z' _ ?_; clear z' Z; refine AWp.seq_k fun K2 hK2 => ?_; refine rg fun Z z' => ?_; simp only [am, seval, reduceCtorEq]; refine z' _ ?_; clear z' Z; refine AWp.block ?_; refine AWp.loopT (ι := Nat) (fun i => i ≤ m.length) (fun i => tst [(0, vints (puts l (m.take i))), (1, vints m), (5, vint i)] [] s 19) (fun i => m.length - i) 0 ⟨Nat.zero_le _, ?_⟩ ?_
 ·refine lt0 ?_ ?_ ?_
  ·simp only [leE, am, seval, reduceCtorEq]; simp [puts]
  ·simp only [okL, and_self]
  ·simp only [leB]
 ·rintro i hi; refine AWp.seq_k fun K4 hK4 => ?_; refine rg fun Z z' => ?_; simp only [amt, seval, reduceCtorEq]; refine z' _ ?_; clear z' Z; refine AWp.cond (t := decide ((i:Int) < m.length)) (by simp only [am, seval, reduceCtorEq]) (fun ht => ?_) (fun ht => ?_)
  ·have hlt : i < m.length := lt_of_dec ht; have ix0 : (0 ≤ (i : Int)) = True := by simp
   have ix1 : ((i : Int) < (m.length : Int)) = True := by simp [hlt]
   refine AWp.skip ?_; refine hK4 _ ?_; clear hK4; refine AWp.seq_k fun K6 hK6 => ?_; refine AWp.block ?_; refine rg1 fun Z z' => ?_; simp only [ix0, ix1, true_and, getD_map _ _ _ hlt, amt, seval, reduceCtorEq]; have hpl := len_puts (m.take i) l; rw [List.length_take] at hpl; refine (f28_spec (puts l (m.take i)) m[i] (by omega) _).go ?_; simp only [ix0, ix1, true_and, getD_map _ _ _ hlt, amt, seval, reduceCtorEq]; refine z' _ ?_; clear z' Z; refine hK6 _ ?_; clear hK6; refine rg1 fun Z z' => ?_; simp only [amt, seval, reduceCtorEq]; refine z' _ ?_; clear z' Z; refine ⟨i + 1, ⟨hlt, by omega⟩, ?_⟩; refine lt0 ?_ ?_ ?_
   ·simp only [leE, am, seval, reduceCtorEq]; rw [wrap_id (by omega) (by omega), List.take_succ_eq_append_getElem hlt]; simp [puts, -List.take_append_getElem, List.foldl_append]
   ·simp only [okL, and_self]
   ·simp only [leB]
  ·obtain rfl : i = m.length := eq_of_dec ht hi; refine AWp.exit ?_; simp only [exq, seval]; refine hK2 _ ?_; clear hK2; refine rg fun Z z' => ?_; simp only [am, seval, reduceCtorEq]; refine z' _ ?_; clear z' Z; refine AWp.ret ?_; refine rt (vs := [vints (puts l (m.take m.length))]) rfl ⟨?_, rfl⟩; rw [List.take_length]; rfl
theorem f12_spec (l : List Term) (d : Nat) (hll : l.length ≤ 2^42) (hd : d + 1 ≤ 2^42) (hB : ∀ i (hi : i < l.length), (hTerms (l.take i) d).length + (hTerms l[i].args d).length + (hQueries l[i].sub (d + 1)).length + 3 ≤ 2^42)
    (hA : ∀ i (hi : i < l.length), Gives Tryz.prog 12 [.slice 14 (l[i].args.map Term.v), vint d] (vints (canon (hTerms l[i].args d))))
    (hQ : ∀ i (hi : i < l.length), Gives Tryz.prog 30 [.slice 5 (l[i].sub.map Query.v), vint ((d + 1 : Nat) : Int)] (vints (canon (hQueries l[i].sub (d + 1))))) : Gives Tryz.prog 12 [.slice 14 (l.map Term.v), vint d] (vints (canon (hTerms l d))) := by
 have hw : IntKind.i64.wrap ((d : Int) + 1) = ((d + 1 : Nat) : Int) := by rw [wrap_id (by omega) (by omega)]; rfl
 intro s; refine acalls_of (fn := Tryz.f12) Tryz.func12 rfl (by decide) (by show 2 ≤ 45; decide) ?_; rw [Tryz.ntmps12]; refine rg fun Z z' => ?_; simp only [am, seval, reduceCtorEq]; refine z' _ ?_; clear z' Z; refine rg fun Z z' => ?_; simp only [am, seval, reduceCtorEq]; refine z' _ ?_; clear z' Z; refine AWp.seq_k fun K3 hK3 => ?_; refine rg fun Z z' => ?_; simp only [am, seval, reduceCtorEq]; refine z' _ ?_; clear z' Z; refine AWp.block ?_; refine AWp.wkE 5 (.slice 1 []) (by simp only [am, seval, reduceCtorEq, isLoc]) (by simp only [am, seval, reduceCtorEq]; exact Wk.nil 1) ?_; refine AWp.loopT (ι := Nat) (fun i => i ≤ l.length) (fun i => tst [(0, .slice 14 (l.map Term.v)), (1, vint d), (5, vints (canon (hTerms (l.take i) d))), (6, vint i)] [] s 45) (fun i => l.length - i) 0 ⟨Nat.zero_le _, ?_⟩ ?_
 ·refine lt0 ?_ ?_ ?_
  ·simp only [leE, am, seval, reduceCtorEq]; simp [hTerms, canon_nil]
  ·simp only [okL, and_self]
  ·simp only [leB]
 ·rintro i hi; refine AWp.seq_k fun K5 hK5 => ?_; refine rg fun Z z' => ?_; simp only [amt, seval, reduceCtorEq]; refine z' _ ?_; clear z' Z; refine AWp.cond (t := decide ((i:Int) < l.length)) (by simp only [am, seval, reduceCtorEq]) (fun ht => ?_) (fun ht => ?_)
  ·have hlt : i < l.length := lt_of_dec ht; have ix0 : (0 ≤ (i : Int)) = True := by simp
   have ix1 : ((i : Int) < (l.length : Int)) = True := by simp [hlt]
   refine AWp.skip ?_; refine hK5 _ ?_; clear hK5; refine AWp.seq_k fun K7 hK7 => ?_; refine AWp.block ?_; refine rg fun Z z' => ?_; simp only [ix0, ix1, true_and, getD_map _ _ _ hlt, Term.v_eq, amt, seval, reduceCtorEq]; refine z' _ ?_; clear z' Z; refine AWp.seq_cut (ι := Unit) (fun _ => True) (fun _ => tst [(0, .slice 14 (l.map Term.v)), (1, vint d), (5, vints (canon (hTerms (l.take i) d ++ (if l[i].op = 100 ∧ l[i].n = (d : Int) then [l[i].frm] else [])))), (6, vint i), (7, .loc 7 0)] [(7, (l[i].v, 49))] s 45) ?_ ?_
   ·refine rg fun Z z' => ?_; rcases (Bool.eq_false_or_eq_true ((l[i].op == 100))).symm with hc0 | hc0
    ·simp only [Term.v_eq, hc0, amt, seval, reduceCtorEq]; refine z' _ ?_; clear z' Z; refine cF (by simp only [am, seval, reduceCtorEq]) ?_; have hh : (if l[i].op = 100 ∧ l[i].n = (d : Int) then [l[i].frm] else []) = [] := by rw [if_neg]; rintro ⟨h, _⟩; simp [h] at hc0
     refine AWp.skip ?_; refine ⟨(), trivial, ?_⟩; refine lt0 ?_ ?_ ?_
     ·simp only [leE, am, seval, reduceCtorEq]; rw [hh]; simp
     ·simp only [oks, Nat.reduceBEq]
     ·simp only [leB, Term.v_eq, am, seval, reduceCtorEq]
    ·simp only [Term.v_eq, hc0, amt, seval, reduceCtorEq]; refine z' _ ?_; clear z' Z; refine AWp.cond (t := (l[i].n == (d : Int))) (by simp only [am, seval, reduceCtorEq]) (fun hn => ?_) (fun hn => ?_)
     ·have hh : (if l[i].op = 100 ∧ l[i].n = (d : Int) then [l[i].frm] else []) = [l[i].frm] := by rw [if_pos ⟨by simpa using hc0, by simpa using hn⟩]
      refine rg1 fun Z z' => ?_; simp only [Term.v_eq, amt, seval, reduceCtorEq]; refine (f28_spec (canon (hTerms (l.take i) d)) l[i].frm (by have := hB i hlt; have := len_canon (hTerms (l.take i) d); omega) _).go ?_; simp only [Term.v_eq, amt, seval, reduceCtorEq]; refine z' _ ?_; clear z' Z; refine ⟨(), trivial, ?_⟩; refine lt0 ?_ ?_ ?_
      ·simp only [leE, am, seval, reduceCtorEq]; rw [hh, put_canon]
      ·simp only [oks, Nat.reduceBEq]
      ·simp only [leB, Term.v_eq, am, seval, reduceCtorEq]
     ·have hh : (if l[i].op = 100 ∧ l[i].n = (d : Int) then [l[i].frm] else []) = [] := by rw [if_neg]; rintro ⟨_, h⟩; simp [h] at hn
      refine AWp.skip ?_; refine ⟨(), trivial, ?_⟩; refine lt0 ?_ ?_ ?_
      ·simp only [leE, am, seval, reduceCtorEq]; rw [hh]; simp
      ·simp only [oks, Nat.reduceBEq]
      ·simp only [leB, Term.v_eq, am, seval, reduceCtorEq]
   ·rintro _ _; refine rg fun Z z' => ?_; simp only [Term.v_eq, amt, seval, reduceCtorEq]; refine (hA i hlt _).go ?_; simp only [Term.v_eq, amt, seval, reduceCtorEq]; have hhl : ((if l[i].op = 100 ∧ l[i].n = (d : Int) then [l[i].frm] else []) : List Int).length ≤ 1 := by split <;> simp
    have hc1 := len_canon (hTerms (l.take i) d ++ (if l[i].op = 100 ∧ l[i].n = (d : Int) then [l[i].frm] else [])); have hc2 := len_canon (hTerms l[i].args d); have hb := hB i hlt; rw [List.length_append] at hc1; refine (f29_spec (canon (hTerms (l.take i) d ++ (if l[i].op = 100 ∧ l[i].n = (d : Int) then [l[i].frm] else []))) (canon (hTerms l[i].args d)) (by omega) _).go ?_; simp only [Term.v_eq, amt, seval, reduceCtorEq]; rw [puts_canon]; refine z' _ ?_; clear z' Z; refine rg1 fun Z z' => ?_; simp only [Term.v_eq, hw, amt, seval, reduceCtorEq]; refine (hQ i hlt _).go ?_; simp only [Term.v_eq, hw, amt, seval, reduceCtorEq]; have hc1 := len_canon ((hTerms (l.take i) d ++ (if l[i].op = 100 ∧ l[i].n = (d : Int) then [l[i].frm] else [])) ++ hTerms l[i].args d); have hc2 := len_canon (hQueries l[i].sub (d + 1)); have hb := hB i hlt; rw [List.length_append, List.length_append] at hc1; refine (f29_spec (canon ((hTerms (l.take i) d ++ (if l[i].op = 100 ∧ l[i].n = (d : Int) then [l[i].frm] else [])) ++ hTerms l[i].args d)) (canon (hQueries l[i].sub (d + 1))) (by omega) _).go ?_; simp only [Term.v_eq, hw, amt, seval, reduceCtorEq]; rw [puts_canon]; refine z' _ ?_; clear z' Z; refine hK7 _ ?_; clear hK7; refine rg1 fun Z z' => ?_; simp only [amt, seval, reduceCtorEq]; refine z' _ ?_; clear z' Z; refine ⟨i + 1, ⟨hlt, by omega⟩, ?_⟩; refine lt0 ?_ ?_ ?_
    ·simp only [leE, am, seval, reduceCtorEq]; rw [wrap_id (by omega) (by omega), List.take_succ_eq_append_getElem hlt, hTerms_append, hTerms, hTerms, hTerm_eq]; simp
    ·simp only [okL, and_self]
    ·simp only [leB]
  ·obtain rfl : i = l.length := eq_of_dec ht hi; refine AWp.exit ?_; simp only [exq, seval]; refine hK3 _ ?_; clear hK3; refine rg fun Z z' => ?_; simp only [am, seval, reduceCtorEq]; refine z' _ ?_; clear z' Z; refine AWp.ret ?_; refine rt (vs := [vints (canon (hTerms (l.take l.length) d))]) rfl ⟨?_, rfl⟩; rw [List.take_length]; rfl
structure AOk (a : Arm) (d : Nat) : Prop where
 w : a.w ≤ 550024249344
 terms : Gives Tryz.prog 46 [.agg a.v] (.slice 14 ((armTerms a).map Term.v))
 reach : Gives Tryz.prog 12 [.slice 14 ((armTerms a).map Term.v), vint d] (vints (canon (hTerms (armTerms a) d)))
 subs : ∀ f ∈ a.frm, Gives Tryz.prog 30 [.slice 5 (f.sub.map Query.v), vint d] (vints (canon (hQueries f.sub d)))
 subw : ∀ f ∈ a.frm, (f.sub.map Query.w).sum ≤ 550024249344
structure QOk (q : Query) (d : Nat) : Prop where
 w : q.w ≤ 550024249344
 lim : Gives Tryz.prog 12 [.slice 14 (q.limit.map Term.v), vint d] (vints (canon (hTerms q.limit d)))
 off : Gives Tryz.prog 12 [.slice 14 (q.offset.map Term.v), vint d] (vints (canon (hTerms q.offset d)))
 arms : ∀ a ∈ q.arms, AOk a d
set_option maxHeartbeats 1000000 in
theorem f30_spec (l : List Query) (d : Nat) (hll : l.length ≤ 2^42) (hlw : (l.map Query.w).sum ≤ 550024249344) (hq : ∀ q ∈ l, QOk q d) : Gives Tryz.prog 30 [.slice 5 (l.map Query.v), vint d] (vints (canon (hQueries l d))) := by
 intro s; refine acalls_of (fn := Tryz.f30) Tryz.func30 rfl (by decide) (by show 2 ≤ 76; decide) ?_; rw [Tryz.ntmps30]; refine rg fun Z z' => ?_; simp only [am, seval, reduceCtorEq]; refine z' _ ?_; clear z' Z; refine rg fun Z z' => ?_; simp only [am, seval, reduceCtorEq]; refine z' _ ?_; clear z' Z; refine AWp.seq_k fun K3 hK3 => ?_; refine rg fun Z z' => ?_; simp only [am, seval, reduceCtorEq]; refine z' _ ?_; clear z' Z; refine AWp.block ?_; refine AWp.wkE 5 (.slice 1 []) (by simp only [am, seval, reduceCtorEq, isLoc]) (by simp only [am, seval, reduceCtorEq]; exact Wk.nil 1) ?_; refine AWp.loopT (ι := Nat) (fun i' => i' ≤ l.length) (fun i' => tst [(0, .slice 5 (l.map Query.v)), (1, vint d), (5, vints (canon (hQueries (l.take i') d))), (6, vint i')] [] s 76) (fun i' => l.length - i') 0 ⟨Nat.zero_le _, ?_⟩ ?_
 ·refine lt0 ?_ ?_ ?_
  ·simp only [leE, am, seval, reduceCtorEq]; simp [hQueries, canon_nil]
  ·simp only [oks, Nat.reduceBEq]
  ·simp only [leB]
 ·rintro i hi; refine AWp.seq_k fun K5 hK5 => ?_; refine rg fun Z z' => ?_; simp only [amt, seval, reduceCtorEq]; refine z' _ ?_; clear z' Z; refine AWp.cond (t := decide ((i:Int) < l.length)) (by simp only [am, seval, reduceCtorEq]) (fun ht => ?_) (fun ht => ?_)
  ·have hlt : i < l.length := lt_of_dec ht; have ix0 : (0 ≤ (i : Int)) = True := by simp
   have ix1 : ((i : Int) < (l.length : Int)) = True := by simp [hlt]
   obtain ⟨q, eq, mq⟩ : ∃ y, l[i] = y ∧ y ∈ l := ⟨_, rfl, List.getElem_mem hlt⟩; have hgd := getD_of Query.v l i q hlt eq; have hQ := hq q mq; have sA := query_acc l i q hlt eq d; have z1 := Nat.le_trans (hlQueries (l.take i) d) (sum_take_le Query.w l i); have z2 := hlTerms q.limit d; have z3 := hlTerms q.offset d; have z4 := hQ.w; rw [Query.w_eq] at z4; have z5 : ∀ k, (hArms (q.arms.take k) d).length ≤ (q.arms.map Arm.w).sum := fun k => Nat.le_trans (hlArms _ _) (sum_take_le Arm.w _ k); have z6 := len_le Arm.w_pos q.arms; refine AWp.skip ?_; refine hK5 _ ?_; clear hK5; refine AWp.seq_k fun K7 hK7 => ?_; refine AWp.block ?_; refine rg fun Z z' => ?_; simp only [ix0, ix1, true_and, hgd, Query.v_eq, amt, seval, reduceCtorEq]; refine (hQ.lim _).go ?_; simp only [ix0, ix1, true_and, hgd, Query.v_eq, amt, seval, reduceCtorEq]; have hc : (canon (hQueries (l.take i) d)).length + (canon (hTerms q.limit d)).length + 2 ≤ 2^42 := by have c1 := len_canon (hQueries (l.take i) d); have c2 := len_canon (hTerms q.limit d); (try simp only [List.length_append] at c1); omega
   refine (f29_spec (canon (hQueries (l.take i) d)) (canon (hTerms q.limit d)) hc _).go ?_; simp only [ix0, ix1, true_and, hgd, Query.v_eq, amt, seval, reduceCtorEq]; rw [puts_canon]; clear hc; refine z' _ ?_; clear z' Z; refine rg fun Z z' => ?_; simp only [ix0, ix1, true_and, hgd, Query.v_eq, amt, seval, reduceCtorEq]; refine (hQ.off _).go ?_; simp only [ix0, ix1, true_and, hgd, Query.v_eq, amt, seval, reduceCtorEq]; have hc : (canon ((hQueries (l.take i) d) ++ hTerms q.limit d)).length + (canon (hTerms q.offset d)).length + 2 ≤ 2^42 := by have c1 := len_canon ((hQueries (l.take i) d) ++ hTerms q.limit d); have c2 := len_canon (hTerms q.offset d); (try simp only [List.length_append] at c1); omega
   refine (f29_spec (canon ((hQueries (l.take i) d) ++ hTerms q.limit d)) (canon (hTerms q.offset d)) hc _).go ?_; simp only [ix0, ix1, true_and, hgd, Query.v_eq, amt, seval, reduceCtorEq]; rw [puts_canon]; clear hc; refine z' _ ?_; clear z' Z; refine rg fun Z z' => ?_; simp only [am, seval, reduceCtorEq]; refine z' _ ?_; clear z' Z; refine AWp.block ?_; refine AWp.loopT (ι := Nat) (fun i' => i' ≤ q.arms.length) (fun i' => tst [(0, .slice 5 (l.map Query.v)), (1, vint d), (5, vints (canon ((hQueries (l.take i) d ++ hTerms q.limit d ++ hTerms q.offset d) ++ hArms (q.arms.take i') d))), (6, vint i), (7, vint i')] [] s 76) (fun i' => q.arms.length - i') 0 ⟨Nat.zero_le _, ?_⟩ ?_
   ·refine lt0 ?_ ?_ ?_
    ·simp only [leE, am, seval, reduceCtorEq]; simp [hArms]
    ·simp only [oks, Nat.reduceBEq]
    ·simp only [leB]
   ·rintro k hk; refine AWp.seq_k fun K11 hK11 => ?_; refine rg fun Z z' => ?_; simp only [ix0, ix1, true_and, hgd, Query.v_eq, amt, seval, reduceCtorEq]; refine z' _ ?_; clear z' Z; refine AWp.cond (t := decide ((k:Int) < q.arms.length)) (by simp only [am, seval, reduceCtorEq]) (fun ht => ?_) (fun ht => ?_)
    ·have hlt2 : k < q.arms.length := lt_of_dec ht; have ix0k : (0 ≤ (k : Int)) = True := by simp
     have ix1k : ((k : Int) < (q.arms.length : Int)) = True := by simp [hlt2]
     obtain ⟨a, ea, ma⟩ : ∃ y, q.arms[k] = y ∧ y ∈ q.arms := ⟨_, rfl, List.getElem_mem hlt2⟩; have hgdk := getD_of Arm.v q.arms k a hlt2 ea; have hA := hQ.arms a ma; have sB := fun A => arm_acc A q.arms k a hlt2 ea d; have y1 := z5 k; have y2 := Nat.le_trans (hlTerms (armTerms a) d) (Nat.le_of_succ_le (armTerms_w a)); have y3 := hA.w; have y4 : ∀ j, (hSubs (a.frm.take j) d).length ≤ a.w := fun j => by have e1 := Nat.le_trans (hSubs_len (a.frm.take j) d) (sum_take_le From.w _ j); have e2 := Arm.w_eq a; omega
     have y5 := len_le From.w_pos a.frm; have y6 : a.frm.length ≤ a.w := by have e2 := Arm.w_eq a; omega
     clear y5; refine AWp.skip ?_; refine hK11 _ ?_; clear hK11; refine AWp.seq_k fun K13 hK13 => ?_; refine AWp.block ?_; refine rg fun Z z' => ?_; simp only [ix0, ix1, ix0k, ix1k, true_and, hgd, hgdk, Query.v_eq, Arm.v_eq, amt, seval, reduceCtorEq]; refine z' _ ?_; clear z' Z; refine rg fun Z z' => ?_; simp only [Arm.v_eq, amt, seval, reduceCtorEq]; rw [← Arm.v_eq]; refine (hA.terms _).go ?_; simp only [Arm.v_eq, amt, seval, reduceCtorEq]; refine (hA.reach _).go ?_; simp only [Arm.v_eq, amt, seval, reduceCtorEq]; have hc : (canon ((hQueries (l.take i) d ++ hTerms q.limit d ++ hTerms q.offset d) ++ hArms (q.arms.take k) d)).length + (canon (hTerms (armTerms a) d)).length + 2 ≤ 2^42 := by have c1 := len_canon ((hQueries (l.take i) d ++ hTerms q.limit d ++ hTerms q.offset d) ++ hArms (q.arms.take k) d); have c2 := len_canon (hTerms (armTerms a) d); (try simp only [List.length_append] at c1); omega
     refine (f29_spec (canon ((hQueries (l.take i) d ++ hTerms q.limit d ++ hTerms q.offset d) ++ hArms (q.arms.take k) d)) (canon (hTerms (armTerms a) d)) hc _).go ?_; simp only [Arm.v_eq, amt, seval, reduceCtorEq]; rw [puts_canon]; clear hc; refine z' _ ?_; clear z' Z; refine rg fun Z z' => ?_; simp only [am, seval, reduceCtorEq]; refine z' _ ?_; clear z' Z; refine AWp.block ?_; refine AWp.loopT (ι := Nat) (fun i' => i' ≤ a.frm.length) (fun i' => tst [(0, .slice 5 (l.map Query.v)), (1, vint d), (5, vints (canon (((hQueries (l.take i) d ++ hTerms q.limit d ++ hTerms q.offset d) ++ hArms (q.arms.take k) d) ++ hTerms (armTerms a) d ++ hSubs (a.frm.take i') d))), (6, vint i), (7, vint k), (8, .loc 8 0), (9, vint i')] [(8, (a.v, 75))] s 76) (fun i' => a.frm.length - i') 0 ⟨Nat.zero_le _, ?_⟩ ?_
     ·refine lt0 ?_ ?_ ?_
      ·simp only [leE, am, seval, reduceCtorEq]; simp [hSubs]
      ·simp only [oks, Nat.reduceBEq]
      ·simp only [leB, Arm.v_eq, am, seval, reduceCtorEq]
     ·rintro j hj; refine AWp.seq_k fun K17 hK17 => ?_; refine rg fun Z z' => ?_; simp only [Arm.v_eq, amt, seval, reduceCtorEq]; refine z' _ ?_; clear z' Z; refine AWp.cond (t := decide ((j:Int) < a.frm.length)) (by simp only [am, seval, reduceCtorEq]) (fun ht => ?_) (fun ht => ?_)
      ·have hlt3 : j < a.frm.length := lt_of_dec ht; have ix0j : (0 ≤ (j : Int)) = True := by simp
       have ix1j : ((j : Int) < (a.frm.length : Int)) = True := by simp [hlt3]
       obtain ⟨f, ef, mf⟩ : ∃ y, a.frm[j] = y ∧ y ∈ a.frm := ⟨_, rfl, List.getElem_mem hlt3⟩; have hgdj := getD_of From.v a.frm j f hlt3 ef; have sC := subs_acc a.frm j f hlt3 ef d; have x1 := y4 j; have x2 := hlQueries f.sub d; have x3 := hA.subw f mf; refine AWp.skip ?_; refine hK17 _ ?_; clear hK17; refine AWp.seq_k fun K19 hK19 => ?_; refine AWp.block ?_; refine rg1 fun Z z' => ?_; simp only [Arm.v_eq, ix0j, ix1j, true_and, hgdj, From.v_eq, amt, seval, reduceCtorEq]; refine (hA.subs f mf _).go ?_; simp only [Arm.v_eq, ix0j, ix1j, true_and, hgdj, From.v_eq, amt, seval, reduceCtorEq]; have hc : (canon (((hQueries (l.take i) d ++ hTerms q.limit d ++ hTerms q.offset d) ++ hArms (q.arms.take k) d) ++ hTerms (armTerms a) d ++ hSubs (a.frm.take j) d)).length + (canon (hQueries f.sub d)).length + 2 ≤ 2^42 := by have c1 := len_canon (((hQueries (l.take i) d ++ hTerms q.limit d ++ hTerms q.offset d) ++ hArms (q.arms.take k) d) ++ hTerms (armTerms a) d ++ hSubs (a.frm.take j) d); have c2 := len_canon (hQueries f.sub d); (try simp only [List.length_append] at c1); omega
       refine (f29_spec (canon (((hQueries (l.take i) d ++ hTerms q.limit d ++ hTerms q.offset d) ++ hArms (q.arms.take k) d) ++ hTerms (armTerms a) d ++ hSubs (a.frm.take j) d)) (canon (hQueries f.sub d)) hc _).go ?_; simp only [Arm.v_eq, ix0j, ix1j, true_and, hgdj, From.v_eq, amt, seval, reduceCtorEq]; rw [puts_canon]; clear hc; refine z' _ ?_; clear z' Z; refine hK19 _ ?_; clear hK19; refine rg1 fun Z z' => ?_; simp only [amt, seval, reduceCtorEq]; refine z' _ ?_; clear z' Z; refine ⟨j + 1, ⟨hlt3, by omega⟩, ?_⟩; refine lt0 ?_ ?_ ?_
       ·simp only [leE, am, seval, reduceCtorEq]; rw [wrap_id (by omega) (by omega), sC]; simp
       ·simp only [oks, Nat.reduceBEq]
       ·simp only [leB, Arm.v_eq, am, seval, reduceCtorEq]
      ·obtain rfl : j = a.frm.length := eq_of_dec ht hj; refine AWp.exit ?_; simp only [exq, seval]; refine hK13 _ ?_; clear hK13; refine rg1 fun Z z' => ?_; simp only [amt, seval, reduceCtorEq]; refine z' _ ?_; clear z' Z; refine ⟨k + 1, ⟨hlt2, by omega⟩, ?_⟩; refine lt0 ?_ ?_ ?_
       ·simp only [leE, am, seval, reduceCtorEq]; rw [wrap_id (by omega) (by omega), List.take_length, sB]; simp
       ·simp only [oks, Nat.reduceBEq]
       ·simp only [leB]
    ·obtain rfl : k = q.arms.length := eq_of_dec ht hk; refine AWp.exit ?_; simp only [exq, seval]; refine hK7 _ ?_; clear hK7; refine rg1 fun Z z' => ?_; simp only [amt, seval, reduceCtorEq]; refine z' _ ?_; clear z' Z; refine ⟨i + 1, ⟨hlt, by omega⟩, ?_⟩; refine lt0 ?_ ?_ ?_
     ·simp only [leE, am, seval, reduceCtorEq]; rw [wrap_id (by omega) (by omega), sA]; simp [List.take_length]
     ·simp only [oks, Nat.reduceBEq]
     ·simp only [leB]
  ·obtain rfl : i = l.length := eq_of_dec ht hi; refine AWp.exit ?_; simp only [exq, seval]; refine hK3 _ ?_; clear hK3; refine rg fun Z z' => ?_; simp only [am, seval, reduceCtorEq]; refine z' _ ?_; clear z' Z; refine AWp.ret ?_; refine rt (vs := [vints (canon (hQueries (l.take l.length) d))]) rfl ⟨?_, rfl⟩; rw [List.take_length]; rfl
theorem sum_mem_le {α : Type} (f : α → Nat) : ∀ (l : List α) (x : α), x ∈ l → f x ≤ (l.map f).sum
 | y :: l, x, h => by
  rw [List.map_cons, List.sum_cons]
  rcases List.mem_cons.1 h with rfl | h
  ·omega
  ·have := sum_mem_le f l x h; omega
theorem getElem_w (l : List Term) (i : Nat) (hi : i < l.length) : l[i].w ≤ (l.map Term.w).sum := sum_mem_le Term.w l _ (List.getElem_mem hi)
theorem terms_ok (a : Arm) (hw : a.w ≤ 550024249344) : Gives Tryz.prog 46 [.agg a.v] (.slice 14 ((armTerms a).map Term.v)) := by
 have h1 := armTerms_w a
 have h2 := len_le Term.w_pos (armTerms a)
 have h3 := Arm.w_eq a
 have l1 := len_le (f := fun l : List Term => 1 + (l.map Term.w).sum) (fun x => Nat.le_add_right 1 _) a.rows
 have l2 := len_le From.w_pos a.frm
 have l3 := len_le Agg.w_pos a.aggs
 have l4 := len_le Step.w_pos a.steps
 refine f46_spec a ?_ ⟨by omega, by omega, by omega, by omega, fun i hi => ?_⟩
 ·generalize ((armTerms a).map Term.w).sum = S at h1 h2
  simp only [armTerms, List.length_append] at h2; omega
 ·have := sum_mem_le Step.w a.steps _ (List.getElem_mem hi)
  rw [Step.w_eq] at this
  have b1 := len_le Bound.w_pos a.steps[i].low
  have b2 := len_le Bound.w_pos a.steps[i].high
  omega
theorem reach_all : ∀ n : Nat, n ≤ 550024249344 → (∀ (l : List Term) (d : Nat), (l.map Term.w).sum ≤ n → d + n < 2^42 → Gives Tryz.prog 12 [.slice 14 (l.map Term.v), vint d] (vints (canon (hTerms l d)))) ∧
  (∀ (l : List Query) (d : Nat), (l.map Query.w).sum ≤ n → d + n < 2^42 → Gives Tryz.prog 30 [.slice 5 (l.map Query.v), vint d] (vints (canon (hQueries l d))))
 | 0, _ => by
  refine ⟨fun l d hl hd => ?_, fun l d hl hd => ?_⟩
  ·have := len_le Term.w_pos l
   obtain rfl : l = [] := List.eq_nil_of_length_eq_zero (by omega)
   exact f12_spec [] d (by simp) (by omega) (fun i hi => by simp at hi) (fun i hi => by simp at hi) fun i hi => by simp at hi
  ·have := len_le Query.w_pos l
   obtain rfl : l = [] := List.eq_nil_of_length_eq_zero (by omega)
   exact f30_spec [] d (by simp) (by simp) fun q hq => by simp at hq
 | n + 1, hn => by
  obtain ⟨hT, hQ⟩ := reach_all n (by omega)
  refine ⟨fun l d hl hd => ?_, fun l d hl hd => ?_⟩
  ·have hlen := len_le Term.w_pos l
   have hw : ∀ i (hi : i < l.length), (l[i].args.map Term.w).sum ≤ n ∧ (l[i].sub.map Query.w).sum ≤ n := fun i hi => by
    have := getElem_w l i hi
    rw [Term.w_eq] at this
    omega
   refine f12_spec l d (by omega) (by omega) (fun i hi => ?_) (fun i hi => hT _ _ (hw i hi).1 (by omega)) fun i hi => hQ _ _ (hw i hi).2 (by omega)
   have h1 := Nat.le_trans (hlTerms (l.take i) d) (sum_take_le Term.w l i)
   have h2 := hlTerms l[i].args d
   have h3 := hlQueries l[i].sub (d + 1)
   have := hw i hi
   omega
  ·have hlen := len_le Query.w_pos l
   refine f30_spec l d (by omega) (by omega) fun q hq => ?_
   have hqw := sum_mem_le Query.w l q hq
   have hqe := Query.w_eq q
   refine ⟨by omega, hT _ _ (by omega) (by omega), hT _ _ (by omega) (by omega), fun a ha => ?_⟩
   have haw := sum_mem_le Arm.w q.arms a ha
   have hae := Arm.w_eq a
   have ht := armTerms_w a
   refine ⟨by omega, terms_ok a (by omega), hT _ _ (by omega) (by omega), fun f hf => ?_, fun f hf => ?_⟩
   ·have hfw := sum_mem_le From.w a.frm f hf
    have hfe := From.w_eq f
    exact hQ _ _ (by omega) (by omega)
   ·have hfw := sum_mem_le From.w a.frm f hf
    have hfe := From.w_eq f
    omega
end Go.Proofs.YtcckhbconihagaaGreatDoor
