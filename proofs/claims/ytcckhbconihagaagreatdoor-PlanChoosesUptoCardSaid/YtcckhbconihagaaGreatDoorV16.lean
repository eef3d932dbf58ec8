/- The reference's PlainTerms, PlainQueries. -/
import Derived.Test.YtcckhbconihagaaGreatDoorVPlUse
import Derived.Test.YtcckhbconihagaaGreatDoorV9
import Derived.Test.YtcckhbconihagaaGreatDoorVAmFrame
import Derived.Test.YtcckhbconihagaaGreatDoorV15
import Derived.Test.YtcckhbconihagaaGreatDoorV1
import Derived.Test.YtcckhbconihagaaGreatDoorVPlHead
set_option linter.unusedSimpArgs false
set_option linter.unusedVariables false
set_option maxRecDepth 100000
namespace Go.Proofs.YtcckhbconihagaaGreatDoor
open Go.Am Go.Pl
theorem armPlain_eq (a : Arm) : a.plain = ⟨a.comp, a.distinct, a.values, a.rows.map fun l => l.map Term.plain, a.frm.map From.plain, a.whr.map Term.plain, a.grouped, a.group.map Term.plain, a.aggs.map Agg.plain, a.having.map Term.plain, a.out.map Term.plain, a.extra.map Term.plain, []⟩ := by cases a; rw [Arm.plain]
def tpv (t : Term) : List V := t.plain.v
def qpv (t : Query) : List V := t.plain.v
def apv (t : Arm) : List V := t.plain.v
def fpv (t : From) : List V := t.plain.v
def gpv (t : Agg) : List V := t.plain.v
def wpv (t : With) : List V := t.plain.v
theorem pvs1 : Term.v ∘ Term.plain = tpv := rfl
theorem pvs2 : Query.v ∘ Query.plain = qpv := rfl
theorem pvs3 : Arm.v ∘ Arm.plain = apv := rfl
theorem pvs4 : From.v ∘ From.plain = fpv := rfl
theorem pvs5 : Agg.v ∘ Agg.plain = gpv := rfl
theorem pvs6 : With.v ∘ With.plain = wpv := rfl
theorem pvs7 : ((fun l => [V.slice 14 (List.map Term.v l)]) ∘ fun l => List.map Term.plain l) = fun l => [V.slice 14 (l.map tpv)] := by funext l; simp [pvs1]
theorem apv_eq (a : Arm) : apv a = [vint a.comp, vbool a.distinct, vbool a.values, .slice 1 (a.rows.map (fun l => [.slice 14 (l.map tpv)])), .slice 7 (a.frm.map fpv), .slice 14 (a.whr.map tpv), vbool a.grouped, .slice 14 (a.group.map tpv), .slice 5 (a.aggs.map gpv), .slice 14 (a.having.map tpv), .slice 14 (a.out.map tpv), .slice 14 (a.extra.map tpv), .slice 7 []] := by
 rw [apv, armPlain_eq, Arm.v_eq]; simp [pvs1, pvs4, pvs5, pvs7]
theorem getD_atP {α : Type} (f : α → List V) (l : List α) (i : Nat) (x : α) (h : i < l.length) (e : l[i] = x) : (l.map f).getD (i : Int).toNat [] = f x := by
 subst e; simp [List.getD_eq_getElem?_getD, h]
theorem take_at {α β : Type} (f : α → β) (l : List α) (i : Nat) (x : α) (h : i < l.length) (e : l[i] = x) : (l.take (i + 1)).map f = (l.take i).map f ++ [f x] := by
 subst e; rw [List.take_succ_eq_append_getElem h, List.map_append]; rfl
theorem p59_spec (l : List Term) (hl : l.length ≤ 550024249344) (h59 : ∀ t ∈ l, Gives Tryz.prog 59 [.slice 14 (t.args.map Term.v)] (.slice 14 (t.args.map tpv))) (h35 : ∀ t ∈ l, Gives Tryz.prog 35 [.slice 5 (t.sub.map Query.v)] (.slice 5 (t.sub.map qpv))) : Gives Tryz.prog 59 [.slice 14 (l.map Term.v)] (.slice 14 (l.map tpv)) := by
 intro s; refine acalls_of (fn := Tryz.f59) Tryz.func59 rfl (by decide) (by show 1 ≤ 29; decide) ?_; rw [Tryz.ntmps59]; refine rg fun Z z' => ?_; simp only [am, seval, reduceCtorEq]; refine z' _ ?_; clear z' Z; refine rg fun Z z' => ?_; simp only [am, seval, reduceCtorEq]; refine z' _ ?_; clear z' Z; refine AWp.seq_k fun K3 hK3 => ?_; refine rg fun Z z' => ?_; simp only [am, seval, reduceCtorEq]; refine z' _ ?_; clear z' Z; refine AWp.block ?_; refine AWp.adoptE 3 (49, 14) (.inl (by simp only [am, seval, reduceCtorEq])) fun g hg => ?_; change s.own g = none at hg; refine AWp.loopT (ι := Nat × Nat) (fun i => i.1 ≤ l.length ∧ s.own i.2 = none) (fun i => tst [(0, .slice 14 (l.map Term.v)), (3, .own i.2 14 ((l.take i.1).map tpv)), (4, vint i.1)] [] (s.setOwn i.2 (some (49, 14))) 29) (fun i => l.length - i.1) (0, g) ⟨⟨Nat.zero_le _, hg⟩, ?_⟩ ?_
 ·refine lt0 ?_ ?_ ?_
  ·simp only [leE, am, seval, reduceCtorEq] <;> simp
  ·simp only [okL, and_self]
  ·simp only [leB]
 ·rintro ⟨i, g⟩ ⟨hi, hg⟩; simp only at hi hg ⊢; refine AWp.seq_k fun K5 hK5 => ?_; refine rg fun Z z' => ?_; simp only [amt, seval, reduceCtorEq]; refine z' _ ?_; clear z' Z; refine AWp.cond (t := decide ((i:Int) < l.length)) (by simp only [am, seval, reduceCtorEq]) (fun ht => ?_) (fun ht => ?_)
  ·have hlt : i < l.length := lt_of_dec ht; have ix0 : (0 ≤ (i : Int)) = True := by simp
   have ix1 : ((i : Int) < (l.length : Int)) = True := by simp [hlt]
   obtain ⟨t, et, mt⟩ : ∃ y, l[i] = y ∧ y ∈ l := ⟨_, rfl, List.getElem_mem hlt⟩; have hgd := getD_atP Term.v l i t hlt et; have tk := fun (β : Type) (f : _ → β) => take_at f l i t hlt et; have hp : tpv t = [vint t.op, vbool t.neg, vint t.n, vint t.frm, vint t.col, vstr t.name, vint t.vk, vint t.vi, vstr t.vt, vint t.coll, vint t.l, vint t.r, .slice 14 (t.args.map tpv), .slice 5 (t.sub.map qpv)] := by rw [tpv, Term.plain_eq, Term.v_eq]; simp [pvs1, pvs2, pvs3, pvs4, pvs5, pvs6]
   refine AWp.skip ?_; refine hK5 _ ?_; clear hK5; refine AWp.seq_k fun K7 hK7 => ?_; refine AWp.block ?_; refine rg fun Z z' => ?_; simp only [ix0, ix1, true_and, hgd, Term.v_eq, amt, seval, reduceCtorEq]; refine z' _ ?_; clear z' Z; refine rg fun Z z' => ?_; simp only [amt, seval, reduceCtorEq]; refine (h59 t mt _).go ?_; simp only [amt, seval, reduceCtorEq]; refine z' _ ?_; clear z' Z; refine rg fun Z z' => ?_; simp only [amt, seval, reduceCtorEq]; refine (h35 t mt _).go ?_; simp only [amt, seval, reduceCtorEq]; refine z' _ ?_; clear z' Z; refine rg1 fun Z z' => ?_; simp only [amt, seval, reduceCtorEq]; refine ⟨own_same _ _ _, by simp only [List.length_map, List.length_take]; omega, by simp only [List.length_map, List.length_take, maxLen]; omega, fun g' hg' => ?_⟩; refine z' _ ?_; clear z' Z; refine hK7 _ ?_; clear hK7; refine rg1 fun Z z' => ?_; simp only [amt, seval, reduceCtorEq]; refine z' _ ?_; clear z' Z; refine ⟨(i + 1, g'), ⟨⟨hlt, own_fresh hg'⟩, by simp only; omega⟩, ?_⟩; refine le_tst ?_ ?_ ?_ (own_step hg _ _ _) rfl
   ·simp only [leE, am, seval, reduceCtorEq]; rw [wrap_id (by omega) (by omega), tk, hp]; simp
   ·simp only [okL, and_self]
   ·simp only [leB]
  ·obtain rfl : i = l.length := eq_of_dec ht hi; refine AWp.exit ?_; simp only [exq, seval]; refine hK3 _ ?_; clear hK3; refine rg fun Z z' => ?_; simp only [am, seval, reduceCtorEq]; refine z' _ ?_; clear z' Z; refine AWp.ret ?_; refine ret_intro (vs := [.own g 14 _]) rfl (Wk.own _ _ _) (own_drop hg _) ⟨?_, rfl⟩; rw [List.take_length]
theorem p35_spec (l : List Query) (hl : l.length ≤ 550024249344) (hm : ∀ q ∈ l, q.arms.length ≤ 550024249344) (hl59 : ∀ q ∈ l, Gives Tryz.prog 59 [.slice 14 (q.limit.map Term.v)] (.slice 14 (q.limit.map tpv))) (ho59 : ∀ q ∈ l, Gives Tryz.prog 59 [.slice 14 (q.offset.map Term.v)] (.slice 14 (q.offset.map tpv))) (h60 : ∀ q ∈ l, ∀ a ∈ q.arms, Gives Tryz.prog 60 [.agg a.v] (.agg (apv a))) : Gives Tryz.prog 35 [.slice 5 (l.map Query.v)] (.slice 5 (l.map qpv)) := by
 intro s; refine acalls_of (fn := Tryz.f35) Tryz.func35 rfl (by decide) (by show 1 ≤ 49; decide) ?_; rw [Tryz.ntmps35]; refine rg fun Z z' => ?_; simp only [am, seval, reduceCtorEq]; refine z' _ ?_; clear z' Z; refine rg fun Z z' => ?_; simp only [am, seval, reduceCtorEq]; refine z' _ ?_; clear z' Z; refine AWp.seq_k fun K3 hK3 => ?_; refine rg fun Z z' => ?_; simp only [am, seval, reduceCtorEq]; refine z' _ ?_; clear z' Z; refine AWp.block ?_; refine AWp.adoptE 3 (33, 5) (.inl (by simp only [am, seval, reduceCtorEq])) fun g hg => ?_; change s.own g = none at hg; refine AWp.loopT (ι := Nat × Nat) (fun i => i.1 ≤ l.length ∧ s.own i.2 = none) (fun i => tst [(0, .slice 5 (l.map Query.v)), (3, .own i.2 5 ((l.take i.1).map qpv)), (4, vint i.1)] [] (s.setOwn i.2 (some (33, 5))) 49) (fun i => l.length - i.1) (0, g) ⟨⟨Nat.zero_le _, hg⟩, ?_⟩ ?_
 ·refine lt0 ?_ ?_ ?_
  ·simp only [leE, am, seval, reduceCtorEq] <;> simp
  ·simp only [okL, and_self]
  ·simp only [leB]
 ·rintro ⟨i, g⟩ ⟨hi, hg⟩; simp only at hi hg ⊢; refine AWp.seq_k fun K5 hK5 => ?_; refine rg fun Z z' => ?_; simp only [amt, seval, reduceCtorEq]; refine z' _ ?_; clear z' Z; refine AWp.cond (t := decide ((i:Int) < l.length)) (by simp only [am, seval, reduceCtorEq]) (fun ht => ?_) (fun ht => ?_)
  ·have hlt : i < l.length := lt_of_dec ht; have ix0 : (0 ≤ (i : Int)) = True := by simp
   have ix1 : ((i : Int) < (l.length : Int)) = True := by simp [hlt]
   obtain ⟨q, eq, mq⟩ : ∃ y, l[i] = y ∧ y ∈ l := ⟨_, rfl, List.getElem_mem hlt⟩; have hgd := getD_atP Query.v l i q hlt eq; have tk := fun (β : Type) (f : _ → β) => take_at f l i q hlt eq; have hal := hm q mq; have hp : qpv q = [vstrs q.names, .slice 13 (q.arms.map apv), .slice 3 (q.order.map Sorted.v), .slice 14 (q.limit.map tpv), .slice 14 (q.offset.map tpv)] := by rw [qpv, Query.plain_eq, Query.v_eq]; simp [pvs1, pvs2, pvs3, pvs4, pvs5, pvs6]
   refine AWp.skip ?_; refine hK5 _ ?_; clear hK5; refine AWp.seq_k fun K7 hK7 => ?_; refine AWp.block ?_; refine rg fun Z z' => ?_; simp only [ix0, ix1, true_and, hgd, Query.v_eq, amt, seval, reduceCtorEq]; refine z' _ ?_; clear z' Z; refine rg fun Z z' => ?_; simp only [amt, seval, reduceCtorEq]; refine (hl59 q mq _).go ?_; simp only [amt, seval, reduceCtorEq]; refine z' _ ?_; clear z' Z; refine rg fun Z z' => ?_; simp only [amt, seval, reduceCtorEq]; refine (ho59 q mq _).go ?_; simp only [amt, seval, reduceCtorEq]; refine z' _ ?_; clear z' Z; refine rg fun Z z' => ?_; simp only [am, seval, reduceCtorEq]; refine z' _ ?_; clear z' Z; refine AWp.seq_k fun K12 hK12 => ?_; refine rg fun Z z' => ?_; simp only [am, seval, reduceCtorEq]; refine z' _ ?_; clear z' Z; refine AWp.block ?_; refine AWp.adoptE 6 (75, 13) (.inl (by simp only [am, seval, reduceCtorEq])) fun gb hgb => ?_; change (s.setOwn g (some (33, 5))).own gb = none at hgb; refine AWp.loopT (ι := Nat × Nat) (fun k => k.1 ≤ q.arms.length ∧ (s.setOwn g (some (33, 5))).own k.2 = none) (fun k => tst [(0, .slice 5 (l.map Query.v)), (3, .own g 5 ((l.take i).map qpv)), (4, vint i), (5, .loc 5 0), (6, .own k.2 13 ((q.arms.take k.1).map apv)), (7, vint k.1)] [(5, ([vstrs q.names, .slice 13 (q.arms.map Arm.v), .slice 3 (q.order.map Sorted.v), .slice 14 (q.limit.map tpv), .slice 14 (q.offset.map tpv)], 33))] ((s.setOwn g (some (33, 5))).setOwn k.2 (some (75, 13))) 49) (fun k => q.arms.length - k.1) (0, gb) ⟨⟨Nat.zero_le _, hgb⟩, ?_⟩ ?_
   ·refine lt0 ?_ ?_ ?_
    ·simp only [leE, am, seval, reduceCtorEq] <;> simp
    ·simp only [oks, Nat.reduceBEq]
    ·simp only [leB, am, seval, reduceCtorEq]
   ·rintro ⟨k, g2⟩ ⟨hk, hgx⟩; simp only at hk hgx ⊢; refine AWp.seq_k fun K14 hK14 => ?_; refine rg fun Z z' => ?_; simp only [amt, seval, reduceCtorEq]; refine z' _ ?_; clear z' Z; refine AWp.cond (t := decide ((k:Int) < q.arms.length)) (by simp only [am, seval, reduceCtorEq]) (fun ht => ?_) (fun ht => ?_)
    ·have hlt2 : k < q.arms.length := lt_of_dec ht; have ix0k : (0 ≤ (k : Int)) = True := by simp
     have ix1k : ((k : Int) < (q.arms.length : Int)) = True := by simp [hlt2]
     obtain ⟨a, ea, ma⟩ : ∃ y, q.arms[k] = y ∧ y ∈ q.arms := ⟨_, rfl, List.getElem_mem hlt2⟩; have hgdk := getD_atP Arm.v q.arms k a hlt2 ea; have tkk := fun (β : Type) (f : _ → β) => take_at f q.arms k a hlt2 ea; have hpa := apv_eq a; refine AWp.skip ?_; refine hK14 _ ?_; clear hK14; refine AWp.seq_k fun K16 hK16 => ?_; refine AWp.block ?_; refine rg1 fun Z z' => ?_; simp only [ix0k, ix1k, true_and, hgdk, Arm.v_eq, amt, seval, reduceCtorEq]; rw [← Arm.v_eq]; refine (h60 q mq a ma _).go ?_; simp only [hpa, ix0k, ix1k, true_and, hgdk, Arm.v_eq, amt, seval, reduceCtorEq]; refine ⟨own_same _ _ _, by simp only [List.length_map, List.length_take]; omega, by simp only [List.length_map, List.length_take, maxLen]; omega, fun g' hg' => ?_⟩; refine z' _ ?_; clear z' Z; refine hK16 _ ?_; clear hK16; refine rg1 fun Z z' => ?_; simp only [amt, seval, reduceCtorEq]; refine z' _ ?_; clear z' Z; refine ⟨(k + 1, g'), ⟨⟨hlt2, own_fresh hg'⟩, by simp only; omega⟩, ?_⟩; refine le_tst ?_ ?_ ?_ (own_step hgx _ _ _) rfl
     ·simp only [leE, am, seval, reduceCtorEq]; rw [wrap_id (by omega) (by omega), tkk, hpa]; simp
     ·simp only [oks, Nat.reduceBEq]
     ·simp only [leB, am, seval, reduceCtorEq]
    ·obtain rfl : k = q.arms.length := eq_of_dec ht hk; refine AWp.exit ?_; simp only [exq, seval]; refine hK12 _ ?_; clear hK12; refine AWp.wkE 6 (.slice 13 ((q.arms.take q.arms.length).map apv)) (by simp only [am, seval, reduceCtorEq, isLoc]) (by simp only [am, seval, reduceCtorEq]; exact Wk.own _ _ _) ?_; refine rg fun Z z' => ?_; simp only [amt, seval, reduceCtorEq]; refine z' _ ?_; clear z' Z; refine rg1 fun Z z' => ?_; simp only [amt, seval, reduceCtorEq]; refine ⟨own_under hgx _, by simp only [List.length_map, List.length_take]; omega, by simp only [List.length_map, List.length_take, maxLen]; omega, fun g' hg' => ?_⟩; refine z' _ ?_; clear z' Z; refine hK7 _ ?_; clear hK7; refine rg1 fun Z z' => ?_; simp only [amt, seval, reduceCtorEq]; refine z' _ ?_; clear z' Z; refine ⟨(i + 1, g'), ⟨⟨hlt, own_fresh (own_fresh hg')⟩, by simp only; omega⟩, ?_⟩; refine le_tst ?_ ?_ ?_ (own_step2 hg hgx _ _ _) rfl
     ·simp only [leE, am, seval, reduceCtorEq]; rw [wrap_id (by omega) (by omega), tk, hp]; simp [List.take_length]
     ·simp only [okL, and_self]
     ·simp only [leB]
  ·obtain rfl : i = l.length := eq_of_dec ht hi; refine AWp.exit ?_; simp only [exq, seval]; refine hK3 _ ?_; clear hK3; refine rg fun Z z' => ?_; simp only [am, seval, reduceCtorEq]; refine z' _ ?_; clear z' Z; refine AWp.ret ?_; refine ret_intro (vs := [.own g 5 _]) rfl (Wk.own _ _ _) (own_drop hg _) ⟨?_, rfl⟩; rw [List.take_length]
set_option maxHeartbeats 2000000 in
theorem p60_spec (a : Arm) (hl1 : a.rows.length ≤ 550024249344) (hl2 : a.frm.length ≤ 550024249344) (hl3 : a.aggs.length ≤ 550024249344) (hr : ∀ x ∈ a.rows, Gives Tryz.prog 59 [.slice 14 (x.map Term.v)] (.slice 14 (x.map tpv))) (hfs : ∀ f ∈ a.frm, Gives Tryz.prog 35 [.slice 5 (f.sub.map Query.v)] (.slice 5 (f.sub.map qpv))) (hfo : ∀ f ∈ a.frm, Gives Tryz.prog 59 [.slice 14 (f.on.map Term.v)] (.slice 14 (f.on.map tpv))) (hg59 : ∀ b ∈ a.aggs, Gives Tryz.prog 59 [.slice 14 (b.arg.map Term.v)] (.slice 14 (b.arg.map tpv))) (h5 : Gives Tryz.prog 59 [.slice 14 (a.whr.map Term.v)] (.slice 14 (a.whr.map tpv))) (h7 : Gives Tryz.prog 59 [.slice 14 (a.group.map Term.v)] (.slice 14 (a.group.map tpv))) (h9 : Gives Tryz.prog 59 [.slice 14 (a.having.map Term.v)] (.slice 14 (a.having.map tpv))) (h10 : Gives Tryz.prog 59 [.slice 14 (a.out.map Term.v)] (.slice 14 (a.out.map tpv))) (h11 : Gives Tryz.prog 59 [.slice 14 (a.extra.map Term.v)] (.slice 14 (a.extra.map tpv))) : Gives Tryz.prog 60 [.agg a.v] (.agg (apv a)) := by
 intro s; refine acalls_of (fn := Tryz.f60) Tryz.func60 rfl (by decide) (by show 1 ≤ 105; decide) ?_; rw [Tryz.ntmps60]; refine rg fun Z z' => ?_; simp only [Arm.v_eq, amt, seval, reduceCtorEq]; refine z' _ ?_; clear z' Z; refine rg fun Z z' => ?_; simp only [Arm.v_eq, amt, seval, reduceCtorEq]; refine z' _ ?_; clear z' Z; refine AWp.seq_k fun K3 hK3 => ?_; refine rg fun Z z' => ?_; simp only [Arm.v_eq, am, seval, reduceCtorEq]; refine z' _ ?_; clear z' Z; refine AWp.block ?_; refine AWp.adoptB 3 3 (31, 1) (cs := [vint a.comp, vbool a.distinct, vbool a.values, .nil, .nil, .nil, vbool a.grouped, .nil, .nil, .nil, .nil, .nil, .nil]) (ty := 75) (by simp only [am, seval, reduceCtorEq]) (.inl rfl) fun g hg => ?_; change s.own g = none at hg; refine AWp.loopT (ι := Nat × Nat) (fun i => i.1 ≤ a.rows.length ∧ s.own i.2 = none) (fun i => tst [(1, .loc 1 0), (2, .loc 2 0), (3, .loc 3 0), (4, vint i.1)] [(1, (a.v, 75)), (2, ([vint 0, vbool false, vbool false, .nil, .nil, .nil, vbool false, .nil, .nil, .nil, .nil, .nil, .nil], 75)), (3, ([vint a.comp, vbool a.distinct, vbool a.values, .own i.2 1 ((a.rows.take i.1).map (fun l => [.slice 14 (l.map tpv)])), .nil, .nil, vbool a.grouped, .nil, .nil, .nil, .nil, .nil, .nil], 75))] (s.setOwn i.2 (some (31, 1))) 105) (fun i => a.rows.length - i.1) (0, g) ⟨⟨Nat.zero_le _, hg⟩, ?_⟩ ?_
 ·refine lt0 ?_ ?_ ?_
  ·simp only [leE, am, seval, reduceCtorEq] <;> simp
  ·simp only [oks, Nat.reduceBEq]
  ·simp only [leB, Arm.v_eq, am, seval, reduceCtorEq] <;> simp
 ·rintro ⟨i, g⟩ ⟨hi, hg⟩; simp only at hi hg ⊢; refine AWp.seq_k fun K5 hK5 => ?_; refine rg fun Z z' => ?_; simp only [Arm.v_eq, amt, seval, reduceCtorEq]; refine z' _ ?_; clear z' Z; refine AWp.cond (t := decide ((i:Int) < a.rows.length)) (by simp only [am, seval, reduceCtorEq]) (fun ht => ?_) (fun ht => ?_)
  ·have hlt : i < a.rows.length := lt_of_dec ht; have ix0 : (0 ≤ (i : Int)) = True := by simp
   have ix1 : ((i : Int) < (a.rows.length : Int)) = True := by simp [hlt]
   obtain ⟨x, ex, mx⟩ : ∃ y, a.rows[i] = y ∧ y ∈ a.rows := ⟨_, rfl, List.getElem_mem hlt⟩; have hgd := getD_atP (fun l => [.slice 14 (l.map Term.v)]) a.rows i x hlt ex; have tk := fun (β : Type) (φ : _ → β) => take_at φ a.rows i x hlt ex; refine AWp.skip ?_; refine hK5 _ ?_; clear hK5; refine AWp.seq_k fun K7 hK7 => ?_; refine AWp.block ?_; refine AWp.regL1 mixed [0, 1, 2, 3, 4, 5, 6, 7, 8, 9, 10, 11] (by decide +kernel) [99999] (by decide +kernel) fun Z z' => ?_; simp only [Arm.v_eq, ix0, ix1, true_and, hgd, aml, Nat.reduceBEq, amt, seval, reduceCtorEq]; refine (hr x mx _).go ?_; simp only [Arm.v_eq, ix0, ix1, true_and, hgd, aml, Nat.reduceBEq, amt, seval, reduceCtorEq]; refine ⟨own_same _ _ _, by simp only [List.length_map, List.length_take]; omega, by simp only [List.length_map, List.length_take, maxLen]; omega, fun g' hg' => ?_⟩; refine z' _ ?_; clear z' Z; refine hK7 _ ?_; clear hK7; refine rg1 fun Z z' => ?_; simp only [Arm.v_eq, amt, seval, reduceCtorEq]; refine z' _ ?_; clear z' Z; refine ⟨(i + 1, g'), ⟨⟨hlt, own_fresh hg'⟩, by simp only; omega⟩, ?_⟩; refine le_tst ?_ ?_ ?_ (own_step hg _ _ _) rfl
   ·simp only [leE, am, seval, reduceCtorEq]; rw [wrap_id (by omega) (by omega)]; simp
   ·simp only [oks, Nat.reduceBEq]
   ·simp only [leB, Arm.v_eq, am, seval, reduceCtorEq]; rw [tk] <;> simp
  ·obtain rfl : i = a.rows.length := eq_of_dec ht hi; rw [List.take_length]; refine AWp.exit ?_; simp only [exq, seval]; refine hK3 _ ?_; clear hK3; refine AWp.wkB 3 (cs := [vint a.comp, vbool a.distinct, vbool a.values, .own g 1 (a.rows.map (fun l => [.slice 14 (l.map tpv)])), .nil, .nil, vbool a.grouped, .nil, .nil, .nil, .nil, .nil, .nil]) (ty := 75) [vint a.comp, vbool a.distinct, vbool a.values, .slice 1 (a.rows.map (fun l => [.slice 14 (l.map tpv)])), .nil, .nil, vbool a.grouped, .nil, .nil, .nil, .nil, .nil, .nil] (by simp only [am, seval, reduceCtorEq]) ⟨Wk.refl _, Wk.refl _, Wk.refl _, Wk.own _ _ _, Wk.refl _, Wk.refl _, Wk.refl _, Wk.refl _, Wk.refl _, Wk.refl _, Wk.refl _, Wk.refl _, Wk.refl _, trivial⟩ ?_; refine AWp.weaken (st' := tst [(1, .loc 1 0), (2, .loc 2 0), (3, .loc 3 0)] [(1, (a.v, 75)), (2, ([vint 0, vbool false, vbool false, .nil, .nil, .nil, vbool false, .nil, .nil, .nil, .nil, .nil, .nil], 75)), (3, ([vint a.comp, vbool a.distinct, vbool a.values, .slice 1 (a.rows.map (fun l => [.slice 14 (l.map tpv)])), .nil, .nil, vbool a.grouped, .nil, .nil, .nil, .nil, .nil, .nil], 75))] s 105) ?_ ?_
   ·refine le_tst ?_ ?_ ?_ (own_drop hg _) rfl
    ·simp only [leE, am, seval, reduceCtorEq]
    ·simp only [oks, Nat.reduceBEq]
    ·simp only [leB, Arm.v_eq, am, seval, reduceCtorEq]
   refine AWp.seq_k fun K10 hK10 => ?_; refine rg fun Z z' => ?_; simp only [Arm.v_eq, am, seval, reduceCtorEq]; refine z' _ ?_; clear z' Z; refine AWp.block ?_; refine AWp.adoptB 3 4 (107, 7) (cs := [vint a.comp, vbool a.distinct, vbool a.values, .slice 1 (a.rows.map (fun l => [.slice 14 (l.map tpv)])), .nil, .nil, vbool a.grouped, .nil, .nil, .nil, .nil, .nil, .nil]) (ty := 75) (by simp only [am, seval, reduceCtorEq]) (.inl rfl) fun g hg => ?_; change s.own g = none at hg; refine AWp.loopT (ι := Nat × Nat) (fun i => i.1 ≤ a.frm.length ∧ s.own i.2 = none) (fun i => tst [(1, .loc 1 0), (2, .loc 2 0), (3, .loc 3 0), (5, vint i.1)] [(1, (a.v, 75)), (2, ([vint 0, vbool false, vbool false, .nil, .nil, .nil, vbool false, .nil, .nil, .nil, .nil, .nil, .nil], 75)), (3, ([vint a.comp, vbool a.distinct, vbool a.values, .slice 1 (a.rows.map (fun l => [.slice 14 (l.map tpv)])), .own i.2 7 ((a.frm.take i.1).map fpv), .nil, vbool a.grouped, .nil, .nil, .nil, .nil, .nil, .nil], 75))] (s.setOwn i.2 (some (107, 7))) 105) (fun i => a.frm.length - i.1) (0, g) ⟨⟨Nat.zero_le _, hg⟩, ?_⟩ ?_
   ·refine lt0 ?_ ?_ ?_
    ·simp only [leE, am, seval, reduceCtorEq] <;> simp
    ·simp only [oks, Nat.reduceBEq]
    ·simp only [leB, Arm.v_eq, am, seval, reduceCtorEq] <;> simp
   ·rintro ⟨i, g⟩ ⟨hi, hg⟩; simp only at hi hg ⊢; refine AWp.seq_k fun K12 hK12 => ?_; refine rg fun Z z' => ?_; simp only [Arm.v_eq, amt, seval, reduceCtorEq]; refine z' _ ?_; clear z' Z; refine AWp.cond (t := decide ((i:Int) < a.frm.length)) (by simp only [am, seval, reduceCtorEq]) (fun ht => ?_) (fun ht => ?_)
    ·have hlt : i < a.frm.length := lt_of_dec ht; have ix0 : (0 ≤ (i : Int)) = True := by simp
     have ix1 : ((i : Int) < (a.frm.length : Int)) = True := by simp [hlt]
     obtain ⟨f, ef, mf⟩ : ∃ y, a.frm[i] = y ∧ y ∈ a.frm := ⟨_, rfl, List.getElem_mem hlt⟩; have hgd := getD_atP From.v a.frm i f hlt ef; have tk := fun (β : Type) (φ : _ → β) => take_at φ a.frm i f hlt ef; have hp : fpv f = [vint f.join, vint f.kind, vstr f.name, vint f.n, vint f.width, .slice 5 (f.sub.map qpv), .slice 14 (f.on.map tpv)] := by rw [fpv, From.plain_eq, From.v_eq]; simp [pvs1, pvs2, pvs3, pvs4, pvs5, pvs6]
     refine AWp.skip ?_; refine hK12 _ ?_; clear hK12; refine AWp.seq_k fun K14 hK14 => ?_; refine AWp.block ?_; refine rg fun Z z' => ?_; simp only [Arm.v_eq, ix0, ix1, true_and, hgd, From.v_eq, amt, seval, reduceCtorEq]; refine z' _ ?_; clear z' Z; refine rg fun Z z' => ?_; simp only [Arm.v_eq, amt, seval, reduceCtorEq]; refine (hfs f mf _).go ?_; simp only [Arm.v_eq, amt, seval, reduceCtorEq]; refine z' _ ?_; clear z' Z; refine rg fun Z z' => ?_; simp only [Arm.v_eq, amt, seval, reduceCtorEq]; refine (hfo f mf _).go ?_; simp only [Arm.v_eq, amt, seval, reduceCtorEq]; refine z' _ ?_; clear z' Z; refine rg1 fun Z z' => ?_; simp only [Arm.v_eq, amt, seval, reduceCtorEq]; refine ⟨own_same _ _ _, by simp only [List.length_map, List.length_take]; omega, by simp only [List.length_map, List.length_take, maxLen]; omega, fun g' hg' => ?_⟩; refine z' _ ?_; clear z' Z; refine hK14 _ ?_; clear hK14; refine rg1 fun Z z' => ?_; simp only [Arm.v_eq, amt, seval, reduceCtorEq]; refine z' _ ?_; clear z' Z; refine ⟨(i + 1, g'), ⟨⟨hlt, own_fresh hg'⟩, by simp only; omega⟩, ?_⟩; refine le_tst ?_ ?_ ?_ (own_step hg _ _ _) rfl
     ·simp only [leE, am, seval, reduceCtorEq]; rw [wrap_id (by omega) (by omega)]; simp
     ·simp only [oks, Nat.reduceBEq]
     ·simp only [leB, Arm.v_eq, am, seval, reduceCtorEq]; rw [tk, hp] <;> simp
    ·obtain rfl : i = a.frm.length := eq_of_dec ht hi; rw [List.take_length]; refine AWp.exit ?_; simp only [exq, seval]; refine hK10 _ ?_; clear hK10; refine AWp.wkB 3 (cs := [vint a.comp, vbool a.distinct, vbool a.values, .slice 1 (a.rows.map (fun l => [.slice 14 (l.map tpv)])), .own g 7 (a.frm.map fpv), .nil, vbool a.grouped, .nil, .nil, .nil, .nil, .nil, .nil]) (ty := 75) [vint a.comp, vbool a.distinct, vbool a.values, .slice 1 (a.rows.map (fun l => [.slice 14 (l.map tpv)])), .slice 7 (a.frm.map fpv), .nil, vbool a.grouped, .nil, .nil, .nil, .nil, .nil, .nil] (by simp only [am, seval, reduceCtorEq]) ⟨Wk.refl _, Wk.refl _, Wk.refl _, Wk.refl _, Wk.own _ _ _, Wk.refl _, Wk.refl _, Wk.refl _, Wk.refl _, Wk.refl _, Wk.refl _, Wk.refl _, Wk.refl _, trivial⟩ ?_; refine AWp.weaken (st' := tst [(1, .loc 1 0), (2, .loc 2 0), (3, .loc 3 0)] [(1, (a.v, 75)), (2, ([vint 0, vbool false, vbool false, .nil, .nil, .nil, vbool false, .nil, .nil, .nil, .nil, .nil, .nil], 75)), (3, ([vint a.comp, vbool a.distinct, vbool a.values, .slice 1 (a.rows.map (fun l => [.slice 14 (l.map tpv)])), .slice 7 (a.frm.map fpv), .nil, vbool a.grouped, .nil, .nil, .nil, .nil, .nil, .nil], 75))] s 105) ?_ ?_
     ·refine le_tst ?_ ?_ ?_ (own_drop hg _) rfl
      ·simp only [leE, am, seval, reduceCtorEq]
      ·simp only [oks, Nat.reduceBEq]
      ·simp only [leB, Arm.v_eq, am, seval, reduceCtorEq]
     refine AWp.seq_k fun K20 hK20 => ?_; refine rg fun Z z' => ?_; simp only [Arm.v_eq, am, seval, reduceCtorEq]; refine z' _ ?_; clear z' Z; refine AWp.block ?_; refine AWp.adoptB 3 8 (130, 5) (cs := [vint a.comp, vbool a.distinct, vbool a.values, .slice 1 (a.rows.map (fun l => [.slice 14 (l.map tpv)])), .slice 7 (a.frm.map fpv), .nil, vbool a.grouped, .nil, .nil, .nil, .nil, .nil, .nil]) (ty := 75) (by simp only [am, seval, reduceCtorEq]) (.inl rfl) fun g hg => ?_; change s.own g = none at hg; refine AWp.loopT (ι := Nat × Nat) (fun i => i.1 ≤ a.aggs.length ∧ s.own i.2 = none) (fun i => tst [(1, .loc 1 0), (2, .loc 2 0), (3, .loc 3 0), (7, vint i.1)] [(1, (a.v, 75)), (2, ([vint 0, vbool false, vbool false, .nil, .nil, .nil, vbool false, .nil, .nil, .nil, .nil, .nil, .nil], 75)), (3, ([vint a.comp, vbool a.distinct, vbool a.values, .slice 1 (a.rows.map (fun l => [.slice 14 (l.map tpv)])), .slice 7 (a.frm.map fpv), .nil, vbool a.grouped, .nil, .own i.2 5 ((a.aggs.take i.1).map gpv), .nil, .nil, .nil, .nil], 75))] (s.setOwn i.2 (some (130, 5))) 105) (fun i => a.aggs.length - i.1) (0, g) ⟨⟨Nat.zero_le _, hg⟩, ?_⟩ ?_
     ·refine lt0 ?_ ?_ ?_
      ·simp only [leE, am, seval, reduceCtorEq] <;> simp
      ·simp only [oks, Nat.reduceBEq]
      ·simp only [leB, Arm.v_eq, am, seval, reduceCtorEq] <;> simp
     ·rintro ⟨i, g⟩ ⟨hi, hg⟩; simp only at hi hg ⊢; refine AWp.seq_k fun K22 hK22 => ?_; refine rg fun Z z' => ?_; simp only [Arm.v_eq, amt, seval, reduceCtorEq]; refine z' _ ?_; clear z' Z; refine AWp.cond (t := decide ((i:Int) < a.aggs.length)) (by simp only [am, seval, reduceCtorEq]) (fun ht => ?_) (fun ht => ?_)
      ·have hlt : i < a.aggs.length := lt_of_dec ht; have ix0 : (0 ≤ (i : Int)) = True := by simp
       have ix1 : ((i : Int) < (a.aggs.length : Int)) = True := by simp [hlt]
       obtain ⟨b, eb, mb⟩ : ∃ y, a.aggs[i] = y ∧ y ∈ a.aggs := ⟨_, rfl, List.getElem_mem hlt⟩; have hgd := getD_atP Agg.v a.aggs i b hlt eb; have tk := fun (β : Type) (φ : _ → β) => take_at φ a.aggs i b hlt eb; have hp : gpv b = [vstr b.name, vbool b.distinct, vbool b.star, vint b.coll, .slice 14 (b.arg.map tpv)] := by rw [gpv, Agg.plain_eq, Agg.v_eq]; simp [pvs1, pvs2, pvs3, pvs4, pvs5, pvs6]
       refine AWp.skip ?_; refine hK22 _ ?_; clear hK22; refine AWp.seq_k fun K24 hK24 => ?_; refine AWp.block ?_; refine rg fun Z z' => ?_; simp only [Arm.v_eq, ix0, ix1, true_and, hgd, Agg.v_eq, amt, seval, reduceCtorEq]; refine z' _ ?_; clear z' Z; refine rg fun Z z' => ?_; simp only [Arm.v_eq, amt, seval, reduceCtorEq]; refine (hg59 b mb _).go ?_; simp only [Arm.v_eq, amt, seval, reduceCtorEq]; refine z' _ ?_; clear z' Z; refine rg1 fun Z z' => ?_; simp only [Arm.v_eq, amt, seval, reduceCtorEq]; refine ⟨own_same _ _ _, by simp only [List.length_map, List.length_take]; omega, by simp only [List.length_map, List.length_take, maxLen]; omega, fun g' hg' => ?_⟩; refine z' _ ?_; clear z' Z; refine hK24 _ ?_; clear hK24; refine rg1 fun Z z' => ?_; simp only [Arm.v_eq, amt, seval, reduceCtorEq]; refine z' _ ?_; clear z' Z; refine ⟨(i + 1, g'), ⟨⟨hlt, own_fresh hg'⟩, by simp only; omega⟩, ?_⟩; refine le_tst ?_ ?_ ?_ (own_step hg _ _ _) rfl
       ·simp only [leE, am, seval, reduceCtorEq]; rw [wrap_id (by omega) (by omega)]; simp
       ·simp only [oks, Nat.reduceBEq]
       ·simp only [leB, Arm.v_eq, am, seval, reduceCtorEq]; rw [tk, hp] <;> simp
      ·obtain rfl : i = a.aggs.length := eq_of_dec ht hi; rw [List.take_length]; refine AWp.exit ?_; simp only [exq, seval]; refine hK20 _ ?_; clear hK20; refine AWp.wkB 3 (cs := [vint a.comp, vbool a.distinct, vbool a.values, .slice 1 (a.rows.map (fun l => [.slice 14 (l.map tpv)])), .slice 7 (a.frm.map fpv), .nil, vbool a.grouped, .nil, .own g 5 (a.aggs.map gpv), .nil, .nil, .nil, .nil]) (ty := 75) [vint a.comp, vbool a.distinct, vbool a.values, .slice 1 (a.rows.map (fun l => [.slice 14 (l.map tpv)])), .slice 7 (a.frm.map fpv), .nil, vbool a.grouped, .nil, .slice 5 (a.aggs.map gpv), .nil, .nil, .nil, .nil] (by simp only [am, seval, reduceCtorEq]) ⟨Wk.refl _, Wk.refl _, Wk.refl _, Wk.refl _, Wk.refl _, Wk.refl _, Wk.refl _, Wk.refl _, Wk.own _ _ _, Wk.refl _, Wk.refl _, Wk.refl _, Wk.refl _, trivial⟩ ?_; refine AWp.weaken (st' := tst [(1, .loc 1 0), (2, .loc 2 0), (3, .loc 3 0)] [(1, (a.v, 75)), (2, ([vint 0, vbool false, vbool false, .nil, .nil, .nil, vbool false, .nil, .nil, .nil, .nil, .nil, .nil], 75)), (3, ([vint a.comp, vbool a.distinct, vbool a.values, .slice 1 (a.rows.map (fun l => [.slice 14 (l.map tpv)])), .slice 7 (a.frm.map fpv), .nil, vbool a.grouped, .nil, .slice 5 (a.aggs.map gpv), .nil, .nil, .nil, .nil], 75))] s 105) ?_ ?_
       ·refine le_tst ?_ ?_ ?_ (own_drop hg _) rfl
        ·simp only [leE, am, seval, reduceCtorEq]
        ·simp only [oks, Nat.reduceBEq]
        ·simp only [leB, Arm.v_eq, am, seval, reduceCtorEq]
       refine rg fun Z z' => ?_; simp only [Arm.v_eq, amt, seval, reduceCtorEq]; refine (h5 _).go ?_; simp only [Arm.v_eq, amt, seval, reduceCtorEq]; refine z' _ ?_; clear z' Z; refine rg fun Z z' => ?_; simp only [Arm.v_eq, amt, seval, reduceCtorEq]; refine (h7 _).go ?_; simp only [Arm.v_eq, amt, seval, reduceCtorEq]; refine z' _ ?_; clear z' Z; refine rg fun Z z' => ?_; simp only [Arm.v_eq, amt, seval, reduceCtorEq]; refine (h9 _).go ?_; simp only [Arm.v_eq, amt, seval, reduceCtorEq]; refine z' _ ?_; clear z' Z; refine rg fun Z z' => ?_; simp only [Arm.v_eq, amt, seval, reduceCtorEq]; refine (h10 _).go ?_; simp only [Arm.v_eq, amt, seval, reduceCtorEq]; refine z' _ ?_; clear z' Z; refine rg fun Z z' => ?_; simp only [Arm.v_eq, amt, seval, reduceCtorEq]; refine (h11 _).go ?_; simp only [Arm.v_eq, amt, seval, reduceCtorEq]; refine z' _ ?_; clear z' Z; refine rg fun Z z' => ?_; simp only [Arm.v_eq, amt, seval, reduceCtorEq]; refine z' _ ?_; clear z' Z; refine AWp.ret ?_; refine ret_intro (vs := [.agg [vint a.comp, vbool a.distinct, vbool a.values, .slice 1 (a.rows.map (fun l => [.slice 14 (l.map tpv)])), .slice 7 (a.frm.map fpv), .slice 14 (a.whr.map tpv), vbool a.grouped, .slice 14 (a.group.map tpv), .slice 5 (a.aggs.map gpv), .slice 14 (a.having.map tpv), .slice 14 (a.out.map tpv), .slice 14 (a.extra.map tpv), .nil]]) (v := .agg [vint a.comp, vbool a.distinct, vbool a.values, .slice 1 (a.rows.map (fun l => [.slice 14 (l.map tpv)])), .slice 7 (a.frm.map fpv), .slice 14 (a.whr.map tpv), vbool a.grouped, .slice 14 (a.group.map tpv), .slice 5 (a.aggs.map gpv), .slice 14 (a.having.map tpv), .slice 14 (a.out.map tpv), .slice 14 (a.extra.map tpv), .slice 7 []]) (by show resV Tryz.prog _ [.cell 2 75] = _; simp only [resV, amt, seval, reduceCtorEq]) (Wk.agg ⟨Wk.refl _, Wk.refl _, Wk.refl _, Wk.refl _, Wk.refl _, Wk.refl _, Wk.refl _, Wk.refl _, Wk.refl _, Wk.refl _, Wk.refl _, Wk.refl _, Wk.nil _, trivial⟩) (Heap.le.refl _) ⟨?_, rfl⟩
       rw [apv_eq]
theorem p15_spec (r : Resolved) (hl : r.withs.length ≤ 550024249344) (hq : Gives Tryz.prog 35 [.slice 5 [r.query.v]] (.slice 5 [r.query.plain.v])) (hx : ∀ x ∈ r.withs, Gives Tryz.prog 35 [.slice 5 [x.query.v]] (.slice 5 [x.query.plain.v])) (hs : ∀ x ∈ r.withs, Gives Tryz.prog 35 [.slice 5 (x.step.map Query.v)] (.slice 5 (x.step.map qpv))) : Gives Tryz.prog 15 [.agg r.v] (.agg r.plain.v) := by
 have ixa : ((0 : Int) ≤ 0) = True := by simp
 have ixb : ((0 : Int) < ((1 : Nat) : Int)) = True := by simp
 intro s; refine acalls_of (fn := Tryz.f15) Tryz.func15 rfl (by decide) (by show 1 ≤ 47; decide) ?_; rw [Tryz.ntmps15]; refine rg fun Z z' => ?_; simp only [Resolved.v_eq, Query.v_eq, amt, seval, reduceCtorEq]; refine z' _ ?_; clear z' Z; refine rg fun Z z' => ?_; simp only [Resolved.v_eq, Query.v_eq, amt, seval, reduceCtorEq]; rw [← Query.v_eq]; refine (hq _).go ?_; simp only [Resolved.v_eq, Query.v_eq, amt, seval, reduceCtorEq]; refine z' _ ?_; clear z' Z; refine rg fun Z z' => ?_; simp only [ixa, ixb, Int.toNat_zero, Query.v_eq, amt, seval, reduceCtorEq]; refine z' _ ?_; clear z' Z; refine AWp.seq_k fun K4 hK4 => ?_; refine rg fun Z z' => ?_; simp only [am, seval, reduceCtorEq]; refine z' _ ?_; clear z' Z; refine AWp.block ?_; refine AWp.adoptB 4 0 (62, 9) (cs := (.nil :: r.query.plain.v)) (ty := 35) (by simp only [Query.v_eq, am, seval, reduceCtorEq]) (.inl rfl) fun g hg => ?_; change s.own g = none at hg; refine AWp.loopT (ι := Nat × Nat) (fun i => i.1 ≤ r.withs.length ∧ s.own i.2 = none) (fun i => tst [(1, .loc 1 0), (2, .loc 2 0), (4, .loc 4 0), (5, vint i.1)] [(1, (r.v, 35)), (2, ([.nil, .nil, .nil, .nil, .nil, .nil], 35)), (4, ((.own i.2 9 ((r.withs.take i.1).map wpv) :: r.query.plain.v), 35))] (s.setOwn i.2 (some (62, 9))) 47) (fun i => r.withs.length - i.1) (0, g) ⟨⟨Nat.zero_le _, hg⟩, ?_⟩ ?_
 ·refine lt0 ?_ ?_ ?_
  ·simp only [leE, am, seval, reduceCtorEq] <;> simp
  ·simp only [oks, Nat.reduceBEq]
  ·simp only [leB, Resolved.v_eq, Query.v_eq, List.set_cons_zero, am, seval, reduceCtorEq] <;> simp
 ·rintro ⟨i, g⟩ ⟨hi, hg⟩; simp only at hi hg ⊢; refine AWp.seq_k fun K6 hK6 => ?_; refine rg fun Z z' => ?_; simp only [Resolved.v_eq, Query.v_eq, amt, seval, reduceCtorEq]; refine z' _ ?_; clear z' Z; refine AWp.cond (t := decide ((i:Int) < r.withs.length)) (by simp only [am, seval, reduceCtorEq]) (fun ht => ?_) (fun ht => ?_)
  ·have hlt : i < r.withs.length := lt_of_dec ht; have ix0 : (0 ≤ (i : Int)) = True := by simp
   have ix1 : ((i : Int) < (r.withs.length : Int)) = True := by simp [hlt]
   obtain ⟨x, ex, mx⟩ : ∃ y, r.withs[i] = y ∧ y ∈ r.withs := ⟨_, rfl, List.getElem_mem hlt⟩; have hgd := getD_atP With.v r.withs i x hlt ex; have tk := fun (β : Type) (φ : _ → β) => take_at φ r.withs i x hlt ex; have hp : wpv x = [vstr x.name, vstrs x.names, vstrs x.query.plain.names, .slice 13 (x.query.plain.arms.map Arm.v), .slice 3 (x.query.plain.order.map Sorted.v), .slice 14 (x.query.plain.limit.map Term.v), .slice 14 (x.query.plain.offset.map Term.v), .slice 5 (x.step.map qpv), vbool x.all] := by rw [wpv, With.v_eq, With.plain, Query.v_eq]; simp [pvs1, pvs2, pvs3, pvs4, pvs5, pvs6]
   refine AWp.skip ?_; refine hK6 _ ?_; clear hK6; refine AWp.seq_k fun K8 hK8 => ?_; refine AWp.block ?_; refine rg fun Z z' => ?_; simp only [Resolved.v_eq, Query.v_eq, ix0, ix1, true_and, hgd, With.v_eq, amt, seval, reduceCtorEq]; refine z' _ ?_; clear z' Z; refine rg fun Z z' => ?_; simp only [Query.v_eq, amt, seval, reduceCtorEq]; rw [← Query.v_eq]; refine (hx x mx _).go ?_; simp only [Query.v_eq, amt, seval, reduceCtorEq]; refine z' _ ?_; clear z' Z; refine rg fun Z z' => ?_; simp only [ixa, ixb, Int.toNat_zero, Query.v_eq, amt, seval, reduceCtorEq]; refine z' _ ?_; clear z' Z; refine rg fun Z z' => ?_; simp only [amt, seval, reduceCtorEq]; refine (hs x mx _).go ?_; simp only [amt, seval, reduceCtorEq]; refine z' _ ?_; clear z' Z; refine rg1 fun Z z' => ?_; simp only [Query.v_eq, amt, seval, reduceCtorEq]; refine ⟨own_same _ _ _, by simp only [List.length_map, List.length_take]; omega, by simp only [List.length_map, List.length_take, maxLen]; omega, fun g' hg' => ?_⟩; refine z' _ ?_; clear z' Z; refine hK8 _ ?_; clear hK8; refine rg1 fun Z z' => ?_; simp only [amt, seval, reduceCtorEq]; refine z' _ ?_; clear z' Z; refine ⟨(i + 1, g'), ⟨⟨hlt, own_fresh hg'⟩, by simp only; omega⟩, ?_⟩; refine le_tst ?_ ?_ ?_ (own_step hg _ _ _) rfl
   ·simp only [leE, am, seval, reduceCtorEq]; rw [wrap_id (by omega) (by omega)]; simp
   ·simp only [oks, Nat.reduceBEq]
   ·simp only [leB, Resolved.v_eq, Query.v_eq, am, seval, reduceCtorEq]; rw [tk, hp] <;> simp
  ·obtain rfl : i = r.withs.length := eq_of_dec ht hi; rw [List.take_length]; refine AWp.exit ?_; simp only [exq, seval]; refine hK4 _ ?_; clear hK4; refine AWp.wkB 4 (cs := (.own g 9 (r.withs.map wpv) :: r.query.plain.v)) (ty := 35) (.slice 9 (r.withs.map wpv) :: r.query.plain.v) (by simp only [Query.v_eq, am, seval, reduceCtorEq]) ⟨Wk.own _ _ _, WkL.refl _⟩ ?_; refine rg fun Z z' => ?_; simp only [Query.v_eq, amt, seval, reduceCtorEq]; refine z' _ ?_; clear z' Z; refine AWp.ret ?_; refine ret_intro (vs := [.agg [.slice 9 (r.withs.map wpv), vstrs r.query.plain.names, .slice 13 (r.query.plain.arms.map Arm.v), .slice 3 (r.query.plain.order.map Sorted.v), .slice 14 (r.query.plain.limit.map Term.v), .slice 14 (r.query.plain.offset.map Term.v)]]) (by show resV Tryz.prog _ [.cell 2 35] = _; simp only [resV, amt, seval, reduceCtorEq]) (Wk.refl _) (own_drop hg _) ⟨?_, rfl⟩; rw [Resolved.v_eq, Query.v_eq, Resolved.plain]; simp [oneV, pvs1, pvs2, pvs3, pvs4, pvs5, pvs6]
theorem p14_spec (r : Resolved) (hl : r.withs.length ≤ 550024249344) (hq : Gives Tryz.prog 32 [.agg r.query.v, .agg r.query.v] (.base (.bool true))) (hn : ∀ x ∈ r.withs, Gives Tryz.prog 33 [vstrs x.names, vstrs x.names] (.base (.bool true))) (hx : ∀ x ∈ r.withs, Gives Tryz.prog 32 [.agg x.query.v, .agg x.query.v] (.base (.bool true))) (hs : ∀ x ∈ r.withs, Gives Tryz.prog 34 [.slice 5 (x.step.map Query.v), .slice 5 (x.step.map Query.v)] (.base (.bool true))) : Gives Tryz.prog 14 [.agg r.v, .agg r.v] (vbool true) := by
 have b0 : (((r.withs.length : Nat) : Int) != ((r.withs.length : Nat) : Int)) = false := by simp
 have b3 : True := trivial; intro s; refine acalls_of (fn := Tryz.f14) Tryz.func14 rfl (by decide) (by show 2 ≤ 76; decide) ?_; rw [Tryz.ntmps14]; refine rg fun Z z' => ?_; simp only [Resolved.v_eq, Query.v_eq, b0, Bool.not_true, amt, seval, reduceCtorEq]; refine z' _ ?_; clear z' Z; refine AWp.seq_k fun K2 hK2 => ?_; refine rg fun Z z' => ?_; simp only [Resolved.v_eq, Query.v_eq, b0, Bool.not_true, amt, seval, reduceCtorEq]; rw [← Query.v_eq]; refine (hq _).go ?_; simp only [Bool.not_true, Resolved.v_eq, Query.v_eq, b0, Bool.not_true, amt, seval, reduceCtorEq]; refine z' _ ?_; clear z' Z; refine cF (by simp only [Bool.not_true, am, seval, reduceCtorEq]) ?_; refine AWp.skip ?_; refine hK2 _ ?_; clear hK2; refine AWp.seq_k fun K4 hK4 => ?_; refine rg fun Z z' => ?_; simp only [am, seval, reduceCtorEq]; refine z' _ ?_; clear z' Z; refine AWp.block ?_; refine AWp.loopT (ι := Nat) (fun i => i ≤ r.withs.length) (fun i => tst [(2, .loc 2 0), (3, .loc 3 0), (5, vint i)] [(2, (r.v, 35)), (3, (r.v, 35))] s 76) (fun i => r.withs.length - i) 0 ⟨Nat.zero_le _, ?_⟩ ?_
 ·refine lt0 ?_ ?_ ?_
  ·simp only [leE, am, seval, reduceCtorEq] <;> simp
  ·simp only [oks, Nat.reduceBEq]
  ·simp only [leB, Resolved.v_eq, Query.v_eq, am, seval, reduceCtorEq]
 ·rintro i hi; refine AWp.seq_k fun K6 hK6 => ?_; refine rg fun Z z' => ?_; simp only [Resolved.v_eq, Query.v_eq, b0, Bool.not_true, amt, seval, reduceCtorEq]; refine z' _ ?_; clear z' Z; refine AWp.cond (t := decide ((i:Int) < r.withs.length)) (by simp only [am, seval, reduceCtorEq]) (fun ht => ?_) (fun ht => ?_)
  ·have hlt : i < r.withs.length := lt_of_dec ht; have ix0 : (0 ≤ (i : Int)) = True := by simp
   have ix1 : ((i : Int) < (r.withs.length : Int)) = True := by simp [hlt]
   obtain ⟨x, ex, mx⟩ : ∃ y, r.withs[i] = y ∧ y ∈ r.withs := ⟨_, rfl, List.getElem_mem hlt⟩; have hgd := getD_atP With.v r.withs i x hlt ex; have tk := fun (β : Type) (f : _ → β) => take_at f r.withs i x hlt ex; have b1 : (!(x.name.toList == x.name.toList)) = false := by simp
   have b2 : (!(x.all == x.all)) = false := by simp
   refine AWp.skip ?_; refine hK6 _ ?_; clear hK6; refine AWp.seq_k fun K8 hK8 => ?_; refine AWp.block ?_; refine AWp.regL mixed [0, 1, 2, 3, 4, 5, 6, 7, 8, 9, 10, 11, 12, 13] (by decide +kernel) [6, 7, 99999] (by decide +kernel) fun Z z' => ?_; simp only [Resolved.v_eq, Query.v_eq, ix0, ix1, true_and, hgd, With.v_eq, aml, Nat.reduceBEq, amt, seval, reduceCtorEq]; refine z' _ ?_; clear z' Z; refine rg fun Z z' => ?_; simp only [Query.v_eq, b1, b2, b3, Bool.not_true, Bool.not_false, amt, seval, reduceCtorEq]; refine (hn x mx _).go ?_; simp only [Bool.not_true, Query.v_eq, b1, b2, b3, Bool.not_true, Bool.not_false, amt, seval, reduceCtorEq]; rw [← Query.v_eq]; refine (hx x mx _).go ?_; simp only [Bool.not_true, Query.v_eq, b1, b2, b3, Bool.not_true, Bool.not_false, amt, seval, reduceCtorEq]; refine (hs x mx _).go ?_; simp only [Bool.not_true, Query.v_eq, b1, b2, b3, Bool.not_true, Bool.not_false, amt, seval, reduceCtorEq]; refine z' _ ?_; clear z' Z; refine cF (by simp only [Bool.not_true, am, seval, reduceCtorEq]) ?_; refine AWp.skip ?_; refine hK8 _ ?_; clear hK8; refine rg1 fun Z z' => ?_; simp only [amt, seval, reduceCtorEq]; refine z' _ ?_; clear z' Z; refine ⟨i + 1, ⟨hlt, by omega⟩, ?_⟩; refine lt0 ?_ ?_ ?_
   ·simp only [leE, am, seval, reduceCtorEq]; rw [wrap_id (by omega) (by omega)]; simp
   ·simp only [oks, Nat.reduceBEq]
   ·simp only [leB, Resolved.v_eq, Query.v_eq, am, seval, reduceCtorEq]
  ·obtain rfl : i = r.withs.length := eq_of_dec ht hi; refine AWp.exit ?_; simp only [exq, seval]; refine hK4 _ ?_; clear hK4; refine rg fun Z z' => ?_; simp only [am, seval, reduceCtorEq]; refine z' _ ?_; clear z' Z; refine AWp.ret ?_; refine rt (vs := [.base (.bool true)]) rfl ⟨rfl, rfl⟩
theorem sum_mem {α : Type} (f : α → Nat) : ∀ (l : List α) (x : α), x ∈ l → f x ≤ (l.map f).sum
 | y :: l, x, h => by
  rw [List.map_cons, List.sum_cons]
  rcases List.mem_cons.1 h with rfl | h
  ·omega
  ·have := sum_mem f l x h; omega
theorem plain_all : ∀ n : Nat, n ≤ 550024249344 → (∀ l : List Term, (l.map Term.w).sum ≤ n → Gives Tryz.prog 59 [.slice 14 (l.map Term.v)] (.slice 14 (l.map tpv))) ∧
  (∀ l : List Query, (l.map Query.w).sum ≤ n → Gives Tryz.prog 35 [.slice 5 (l.map Query.v)] (.slice 5 (l.map qpv))) ∧
  (∀ a : Arm, a.w ≤ n → Gives Tryz.prog 60 [.agg a.v] (.agg (apv a)))
 | 0, _ => by
  refine ⟨fun l hl => ?_, fun l hl => ?_, fun a hw => ?_⟩
  ·have := len_le Term.w_pos l
   obtain rfl : l = [] := List.eq_nil_of_length_eq_zero (by omega)
   exact p59_spec [] (by simp) (fun t ht => by simp at ht) fun t ht => by simp at ht
  ·have := len_le Query.w_pos l
   obtain rfl : l = [] := List.eq_nil_of_length_eq_zero (by omega)
   exact p35_spec [] (by simp) (fun t ht => by simp at ht) (fun t ht => by simp at ht) (fun t ht => by simp at ht) fun t ht => by simp at ht
  ·have := a.w_pos; omega
 | n + 1, hn => by
  obtain ⟨hT, hQ, hA⟩ := plain_all n (by omega)
  refine ⟨fun l hl => ?_, fun l hl => ?_, fun a hw => ?_⟩
  ·have hlen := len_le Term.w_pos l
   refine p59_spec l (by omega) (fun t ht => hT _ ?_) fun t ht => hQ _ ?_
   ·have := sum_mem Term.w l t ht; rw [Term.w_eq] at this; omega
   ·have := sum_mem Term.w l t ht; rw [Term.w_eq] at this; omega
  ·have hlen := len_le Query.w_pos l
   refine p35_spec l (by omega) (fun q hq => ?_) (fun q hq => hT _ ?_) (fun q hq => hT _ ?_) fun q hq a ha => hA a ?_
   ·have := sum_mem Query.w l q hq; have e := len_le Arm.w_pos q.arms; rw [Query.w_eq] at this; omega
   ·have := sum_mem Query.w l q hq; rw [Query.w_eq] at this; omega
   ·have := sum_mem Query.w l q hq; rw [Query.w_eq] at this; omega
   ·have := sum_mem Query.w l q hq; have e := sum_mem Arm.w q.arms a ha; rw [Query.w_eq] at this; omega
  ·rw [Arm.w_eq] at hw
   have l1 := len_le (f := fun l : List Term => 1 + (l.map Term.w).sum) (fun x => Nat.le_add_right 1 _) a.rows
   have l2 := len_le From.w_pos a.frm
   have l3 := len_le Agg.w_pos a.aggs
   refine p60_spec a (by omega) (by omega) (by omega) (fun x hx => hT _ ?_) (fun f hf => hQ _ ?_) (fun f hf => hT _ ?_) (fun b hb => hT _ ?_) (hT _ (by omega)) (hT _ (by omega)) (hT _ (by omega)) (hT _ (by omega)) (hT _ (by omega))
   ·have := sum_mem (fun l : List Term => 1 + (l.map Term.w).sum) a.rows x hx; omega
   ·have := sum_mem From.w a.frm f hf; rw [From.w_eq] at this; omega
   ·have := sum_mem From.w a.frm f hf; rw [From.w_eq] at this; omega
   ·have := sum_mem Agg.w a.aggs b hb; rw [Agg.w_eq] at this; omega
theorem plain_ok (r : Resolved) (hw : r.w ≤ 550024249344) : Gives Tryz.prog 15 [.agg r.v] (.agg r.plain.v) := by
 have hr := Resolved.w_eq r
 have hlen := len_le With.w_pos r.withs
 have one : ∀ q : Query, q.w ≤ 550024249344 → Gives Tryz.prog 35 [.slice 5 [q.v]] (.slice 5 [q.plain.v]) := fun q hq => (plain_all q.w hq).2.1 [q] (by simp)
 refine p15_spec r (by omega) (one _ (by omega)) (fun x hx => one _ ?_) fun x hx => (plain_all _ ?_).2.1 _ (Nat.le_refl _)
 ·have := sum_mem With.w r.withs x hx; rw [With.w_eq] at this; omega
 ·have := sum_mem With.w r.withs x hx; rw [With.w_eq] at this; omega
theorem sameR_ok (r : Resolved) (hw : r.w ≤ 550024249344) : Gives Tryz.prog 14 [.agg r.v, .agg r.v] (vbool true) := by
 have hr := Resolved.w_eq r
 have hlen := len_le With.w_pos r.withs
 have q : ∀ x : Query, Gives Tryz.prog 32 [.agg x.v, .agg x.v] (.base (.bool true)) := fun x => by
  have := same_query x x
  rwa [same_self] at this
 refine p14_spec r (by omega) (q _) (fun x hx => ?_) (fun x hx => q _) fun x hx => ?_
 ·have := f33_spec x.names x.names
  rwa [same_self] at this
 ·have := same_queries x.step x.step
  rwa [same_self] at this
end Go.Proofs.YtcckhbconihagaaGreatDoor
