/- A plain query weighs no more. -/
import Derived.Test.YtcckhbconihagaaGreatDoorV9
import Derived.Test.YtcckhbconihagaaGreatDoorV8
import Derived.Test.YtcckhbconihagaaGreatDoorV14
import Derived.Test.YtcckhbconihagaaGreatDoorV19
import Derived.Test.YtcckhbconihagaaGreatDoorV16
set_option linter.unusedVariables false
set_option linter.unusedSimpArgs false
set_option maxRecDepth 100000
namespace Go.Proofs.YtcckhbconihagaaGreatDoor
open Go.Am Go.Pl
mutual
theorem wwTerm : ∀ (t : Term), t.plain.w ≤ t.w
 | ⟨op, neg, n, frm, col, name, vk, vi, vt, coll, l, r, args, sub⟩ => by
  rw [Term.plain, Term.w, Term.w]
  have i0 := wwTerms args
  have i1 := wwQueries sub
  omega
theorem wwQuery : ∀ (t : Query), t.plain.w ≤ t.w
 | ⟨names, arms, order, limit, offset⟩ => by
  rw [Query.plain, Query.w, Query.w]
  have i0 := wwTerms limit
  have i1 := wwTerms offset
  have i2 := wwArms arms
  omega
theorem wwArm : ∀ (t : Arm), t.plain.w ≤ t.w
 | ⟨comp, distinct, values, rows, frm, whr, grouped, group, aggs, having, out, extra, steps⟩ => by
  rw [Arm.plain, Arm.w, Arm.w]
  have i0 := wwRows rows
  have i1 := wwFroms frm
  have i2 := wwAggs aggs
  have i4 := wwTerms whr
  have i5 := wwTerms group
  have i6 := wwTerms having
  have i7 := wwTerms out
  have i8 := wwTerms extra
  simp only [List.map_nil, List.sum_nil]
  omega
theorem wwFrom : ∀ (t : From), t.plain.w ≤ t.w
 | ⟨join, kind, name, n, width, sub, on⟩ => by
  rw [From.plain, From.w, From.w]
  have i0 := wwQueries sub
  have i1 := wwTerms on
  omega
theorem wwAgg : ∀ (t : Agg), t.plain.w ≤ t.w
 | ⟨name, distinct, star, coll, arg⟩ => by
  rw [Agg.plain, Agg.w, Agg.w]
  have i0 := wwTerms arg
  omega
theorem wwTerms : ∀ (l : List Term), ((l.map Term.plain).map Term.w).sum ≤ (l.map Term.w).sum
 | [] => Nat.le_refl _
 | t :: l => by
  have i1 := wwTerm t
  have i2 := wwTerms l
  simp only [List.map_cons, List.sum_cons]
  omega
theorem wwQueries : ∀ (l : List Query), ((l.map Query.plain).map Query.w).sum ≤ (l.map Query.w).sum
 | [] => Nat.le_refl _
 | t :: l => by
  have i1 := wwQuery t
  have i2 := wwQueries l
  simp only [List.map_cons, List.sum_cons]
  omega
theorem wwArms : ∀ (l : List Arm), ((l.map Arm.plain).map Arm.w).sum ≤ (l.map Arm.w).sum
 | [] => Nat.le_refl _
 | t :: l => by
  have i1 := wwArm t
  have i2 := wwArms l
  simp only [List.map_cons, List.sum_cons]
  omega
theorem wwRows : ∀ (l : List (List Term)), ((l.map fun l => l.map Term.plain).map (fun l : List Term => 1 + (l.map Term.w).sum)).sum ≤ (l.map (fun l : List Term => 1 + (l.map Term.w).sum)).sum
 | [] => Nat.le_refl _
 | t :: l => by
  have i1 := wwTerms t
  have i2 := wwRows l
  simp only [List.map_cons, List.sum_cons]
  omega
theorem wwFroms : ∀ (l : List From), ((l.map From.plain).map From.w).sum ≤ (l.map From.w).sum
 | [] => Nat.le_refl _
 | t :: l => by
  have i1 := wwFrom t
  have i2 := wwFroms l
  simp only [List.map_cons, List.sum_cons]
  omega
theorem wwAggs : ∀ (l : List Agg), ((l.map Agg.plain).map Agg.w).sum ≤ (l.map Agg.w).sum
 | [] => Nat.le_refl _
 | t :: l => by
  have i1 := wwAgg t
  have i2 := wwAggs l
  simp only [List.map_cons, List.sum_cons]
  omega
end
theorem wwWiths : ∀ (l : List With), ((l.map With.plain).map With.w).sum ≤ (l.map With.w).sum
 | [] => Nat.le_refl _
 | x :: l => by
  have i1 := wwQuery x.query
  have i2 := wwQueries x.step
  have i3 := wwWiths l
  simp only [List.map_cons, List.sum_cons, With.w_eq, With.plain]
  omega
theorem wwResolved (r : Resolved) : r.plain.w ≤ r.w := by
 have i1 := wwQuery r.query
 have i2 := wwWiths r.withs
 simp only [Resolved.w_eq, Resolved.plain]
 omega
theorem f7_spec (sc : Schema) (hs : SchOk sc) (hsp : ScPl sc) (hso : ScOk sc) (r : Resolved) (K : Nat) (hK : ∀ i ∈ sc.indexes, i.keys.length ≤ K) (hcb : (2 * K + 6) * r.w ≤ 137455730688) (hsz : 2 * r.w + sc.indexes.length ≤ 2^21) (hw : r.w ≤ 1048576) : Gives Tryz.prog 7 [.agg sc.v, .agg r.v] (vbool true) := by
 obtain ⟨q1, y, hy, _, hpl, hall, hyw⟩ := pkResolved (pp := fun a => okB sc a && goodA sc a) (ch := chB) (s := sc) (K := K) (C := 2 * K + 6) (B := r.w) (W := 137455730688) ⟨hcb, hsz, chB_mem, chB_inc, hK, Nat.le_refl _, fun a q => by rw [Bool.and_eq_true]; exact ⟨planA_ok chB_mem q, planA_good q⟩⟩ r 0 (by omega) (Nat.le_refl _); have z0 : ((0 : Int) != 0) = false := rfl; have hpw : r.plain.w ≤ r.w := wwResolved r; have hyw' : y.w ≤ 137455730688 := by omega
 have h18 : Gives Tryz.prog 18 [.agg sc.v, .agg r.v] (.agg y.v) := f18_spec sc hsp r (by omega) (by omega) q1 y hy; have hall1 : ∀ a ∈ cResolved y, okB sc a = true ∧ goodA sc a = true := fun a ha => by
  have := List.all_eq_true.1 hall a ha; rwa [Bool.and_eq_true] at this
 have h10 : Gives Tryz.prog 10 [.agg sc.v, .agg y.v] (vint 0) := by
  have := f10_all sc hso y hyw'; rwa [show mayR sc y = true from List.all_eq_true.2 fun a ha => (hall1 a ha).1, if_pos rfl] at this
 have h15r := plain_ok r (by omega); have h15y := plain_ok y (by omega); rw [hpl] at h15y; have h14 := sameR_ok r.plain (by omega); have hyq := Resolved.w_eq y; have h19 : Gives Tryz.prog 19 [.agg sc.v, .slice 5 [y.query.v]] (vbool true) := (goodq_all sc hso _ (Nat.le_refl _)).2 [y.query] (by simp; omega) fun a ha => (hall1 a (by unfold cResolved; rw [cQueries, cQueries, List.append_nil] at ha; exact List.mem_append.2 (.inl ha))).2; have hW : ∀ x ∈ y.withs, Gives Tryz.prog 19 [.agg sc.v, .slice 5 [x.query.v]] (vbool true) ∧ Gives Tryz.prog 19 [.agg sc.v, .slice 5 (x.step.map Query.v)] (vbool true) := fun x hx => by
  have hxw := mem_w With.w y.withs x hx; rw [With.w_eq] at hxw; have hc : ∀ a ∈ cWith x, goodA sc a = true := fun a ha => (hall1 a (by unfold cResolved; exact List.mem_append.2 (.inr (List.mem_flatMap.2 ⟨x, hx, ha⟩)))).2; refine ⟨(goodq_all sc hso _ (Nat.le_refl _)).2 [x.query] (by simp; omega) fun a ha => hc a ?_, (goodq_all sc hso _ (Nat.le_refl _)).2 x.step (by omega) fun a ha => hc a ?_⟩
  ·unfold cWith; rw [cQueries, cQueries, List.append_nil] at ha; exact List.mem_append.2 (.inl ha)
  ·unfold cWith; exact List.mem_append.2 (.inr ha)
 have hyl := len_le With.w_pos y.withs; intro s; refine acalls_of (fn := Tryz.f7) Tryz.func7 rfl (by decide) (by show 2 ≤ 62; decide) ?_; rw [Tryz.ntmps7]; refine rg fun Z z' => ?_; simp only [Sch.v_all hs.1, Sch.v_len, Sch.v_take, Res.v_len, Res.v_all, Res.v_withs, Res.v_query, Res.v_take, amt, seval, reduceCtorEq]; refine z' _ ?_; clear z' Z; refine rg fun Z z' => ?_; simp only [Sch.v_all hs.1, Sch.v_len, Sch.v_take, Res.v_len, Res.v_all, Res.v_withs, Res.v_query, Res.v_take, amt, seval, reduceCtorEq]; refine (h18 _).go ?_; simp only [Sch.v_all hs.1, Sch.v_len, Sch.v_take, Res.v_len, Res.v_all, Res.v_withs, Res.v_query, Res.v_take, amt, seval, reduceCtorEq]; refine z' _ ?_; clear z' Z; refine AWp.seq_k fun K3 hK3 => ?_; refine AWp.regL mixed [0, 1, 2, 3, 5, 4, 6, 7, 8, 9, 10, 11, 12, 13, 14, 15, 16, 17, 18, 19, 20, 21, 22, 23] (by decide +kernel) [99999] (by decide +kernel) fun Z z' => ?_; simp only [Sch.v_all hs.1, Sch.v_len, Sch.v_take, Res.v_len, Res.v_all, Res.v_withs, Res.v_query, Res.v_take, Query.v_len, Query.v_all, Query.v_take, Bool.not_true, z0, undef, aml, Nat.reduceBEq, amt, seval, reduceCtorEq]; refine (f8_spec _).go ?_; simp only [Sch.v_all hs.1, Sch.v_len, Sch.v_take, Res.v_len, Res.v_all, Res.v_withs, Res.v_query, Res.v_take, Query.v_len, Query.v_all, Query.v_take, Bool.not_true, z0, undef, aml, Nat.reduceBEq, amt, seval, reduceCtorEq]; refine (h15y _).go ?_; simp only [Sch.v_all hs.1, Sch.v_len, Sch.v_take, Res.v_len, Res.v_all, Res.v_withs, Res.v_query, Res.v_take, Query.v_len, Query.v_all, Query.v_take, Bool.not_true, z0, undef, aml, Nat.reduceBEq, amt, seval, reduceCtorEq]
 refine (h15r _).go ?_; simp only [Sch.v_all hs.1, Sch.v_len, Sch.v_take, Res.v_len, Res.v_all, Res.v_withs, Res.v_query, Res.v_take, Query.v_len, Query.v_all, Query.v_take, Bool.not_true, z0, undef, aml, Nat.reduceBEq, amt, seval, reduceCtorEq]; refine (h14 _).go ?_; simp only [Sch.v_all hs.1, Sch.v_len, Sch.v_take, Res.v_len, Res.v_all, Res.v_withs, Res.v_query, Res.v_take, Query.v_len, Query.v_all, Query.v_take, Bool.not_true, z0, undef, aml, Nat.reduceBEq, amt, seval, reduceCtorEq]; refine (h10 _).go ?_; simp only [Sch.v_all hs.1, Sch.v_len, Sch.v_take, Res.v_len, Res.v_all, Res.v_withs, Res.v_query, Res.v_take, Query.v_len, Query.v_all, Query.v_take, Bool.not_true, z0, undef, aml, Nat.reduceBEq, amt, seval, reduceCtorEq]; refine (h19 _).go ?_; simp only [Sch.v_all hs.1, Sch.v_len, Sch.v_take, Res.v_len, Res.v_all, Res.v_withs, Res.v_query, Res.v_take, Query.v_len, Query.v_all, Query.v_take, Bool.not_true, z0, undef, aml, Nat.reduceBEq, amt, seval, reduceCtorEq]; refine z' _ ?_; clear z' Z; refine cF (by simp only [am, seval, reduceCtorEq]) ?_; refine AWp.skip ?_; refine hK3 _ ?_; clear hK3; refine AWp.seq_k fun K5 hK5 => ?_; refine rg fun Z z' => ?_; simp only [am, seval, reduceCtorEq]; refine z' _ ?_; clear z' Z; refine AWp.block ?_; refine AWp.loopT (ι := Nat) (fun i => i ≤ y.withs.length ∧ True) (fun i => tst [(2, .loc 2 0), (5, .loc 5 0), (6, vint i)] [(2, (sc.v, 26)), (5, (y.v, 35))] s 62) (fun i => y.withs.length - i) 0 ⟨⟨Nat.zero_le _, trivial⟩, ?_⟩ ?_
 ·refine lt0 ?_ ?_ ?_
  ·simp only [leE, am, seval, reduceCtorEq] <;> simp
  ·simp only [oks, Nat.reduceBEq]
  ·simp only [leB, am, seval, reduceCtorEq]
 ·rintro i ⟨hi, _⟩; refine AWp.seq_k fun K7 hK7 => ?_; refine rg fun Z z' => ?_; simp only [Res.v_len, Res.v_all, Res.v_withs, Res.v_query, Res.v_take, amt, seval, reduceCtorEq]; refine z' _ ?_; clear z' Z; refine AWp.cond (t := decide ((i:Int) < (y.withs.length : Nat))) (by simp only [am, seval, reduceCtorEq]) (fun ht => ?_) (fun ht => ?_)
  ·have hlt : i < y.withs.length := lt_of_dec ht; have ix0 : (0 ≤ (i : Int)) = True := by simp
   have ix1 : ((i : Int) < ((y.withs.length : Nat) : Int)) = True := by simp [hlt]
   obtain ⟨x, hx0⟩ : ∃ x, y.withs[i] = x := ⟨_, rfl⟩; have hgw : (y.withs.map With.v).getD (i : Int).toNat [] = x.v := by rw [getD_map _ _ _ hlt, hx0]
   have hxm : x ∈ y.withs := by rw [← hx0]; exact List.getElem_mem hlt
   refine AWp.skip ?_; refine hK7 _ ?_; clear hK7; refine AWp.seq_k fun K9 hK9 => ?_; refine AWp.block ?_; refine AWp.regL mixed [0, 1, 2, 3, 4, 5, 6, 7, 8, 9, 10, 11, 12, 13, 14, 15, 16, 17, 18, 19, 20] (by decide +kernel) [99999] (by decide +kernel) fun Z z' => ?_; simp only [Sch.v_all hs.1, Sch.v_len, Sch.v_take, Res.v_len, Res.v_all, Res.v_withs, Res.v_query, Res.v_take, Query.v_len, Query.v_all, Query.v_take, ix0, ix1, true_and, hgw, With.v_query, With.v_step, With.v_len, Bool.not_true, undef, aml, Nat.reduceBEq, amt, seval, reduceCtorEq]; refine ((hW x hxm).1 _).go ?_; simp only [Sch.v_all hs.1, Sch.v_len, Sch.v_take, Res.v_len, Res.v_all, Res.v_withs, Res.v_query, Res.v_take, Query.v_len, Query.v_all, Query.v_take, ix0, ix1, true_and, hgw, With.v_query, With.v_step, With.v_len, Bool.not_true, undef, aml, Nat.reduceBEq, amt, seval, reduceCtorEq]; refine ((hW x hxm).2 _).go ?_; simp only [Sch.v_all hs.1, Sch.v_len, Sch.v_take, Res.v_len, Res.v_all, Res.v_withs, Res.v_query, Res.v_take, Query.v_len, Query.v_all, Query.v_take, ix0, ix1, true_and, hgw, With.v_query, With.v_step, With.v_len, Bool.not_true, undef, aml, Nat.reduceBEq, amt, seval, reduceCtorEq]; refine z' _ ?_; clear z' Z; refine cF (by simp only [am, seval, reduceCtorEq]) ?_; refine AWp.skip ?_; refine hK9 _ ?_; clear hK9; refine rg1 fun Z z' => ?_; simp only [amt, seval, reduceCtorEq]; refine z' _ ?_; clear z' Z; refine ⟨i + 1, ⟨⟨hlt, trivial⟩, by omega⟩, ?_⟩; refine lt0 ?_ ?_ ?_
   ·simp only [leE, am, seval, reduceCtorEq]; rw [wrap_id (by omega) (by omega)]; simp
   ·simp only [oks, Nat.reduceBEq]
   ·simp only [leB, am, seval, reduceCtorEq]
  ·obtain rfl : i = y.withs.length := eq_of_dec ht hi; refine AWp.exit ?_; simp only [exq, seval]; refine hK5 _ ?_; clear hK5; refine rg fun Z z' => ?_; simp only [am, seval, reduceCtorEq]; refine z' _ ?_; clear z' Z; refine AWp.ret ?_; refine rt (by show resV Tryz.prog _ [.tmp 4] = _; simp only [resV, am, seval, reduceCtorEq]; rfl) ⟨?_, rfl⟩; rfl
theorem four_mul (x y : Nat) : 4 * (x * y) ≤ (x + y) * (x + y) := by
 have one : ∀ x d : Nat, 4 * (x * (x + d)) ≤ (x + (x + d)) * (x + (x + d)) := by
  intro x d
  simp only [Nat.mul_add, Nat.add_mul, Nat.mul_comm d x]
  omega
 rcases Nat.le_total x y with hx | hx
 ·obtain ⟨d, rfl⟩ := Nat.le.dest hx; exact one x d
 ·obtain ⟨d, rfl⟩ := Nat.le.dest hx
  have := one y d
  rw [Nat.mul_comm (y + d) y, Nat.add_comm (y + d) y]; exact this
theorem keys_of {sc : Schema} {i : Index} (h : i ∈ sc.indexes) : i.keys.length ≤ sc.w / 4 := by
 have := mem_w Index.w sc.indexes i h
 unfold Schema.w
 unfold Index.w at *
 omega
theorem pl_bound {x w : Nat} (h : x + w ≤ 1048576) : (2 * (x / 4) + 6) * w ≤ 137455730688 := by
 have h1 : 4 * (x / 4) ≤ x := by omega
 generalize x / 4 = k at h1
 have h2 := four_mul (4 * k) w
 have h3 : (4 * k + w) * (4 * k + w) ≤ 1048576 * 1048576 := Nat.mul_le_mul (by omega) (by omega)
 rw [Nat.mul_assoc] at h2
 rw [Nat.add_mul, Nat.mul_assoc]
 omega
theorem ScPl.of {sc : Schema} (h1 : sc.views.isCell = true) (h : sc.w ≤ 1048576) : ScPl sc := by
 have hi := len_le (f := Index.w) (fun x => by unfold Index.w; omega) sc.indexes
 have hs : SchOk sc := ⟨h1, fun t ht => by
  have e1 := mem_w Table.w sc.tables t ht
  unfold Schema.w at h
  unfold Table.w at e1 h
  omega⟩
 refine ⟨hs, fun i hi => by have := keys_of hi; omega, ?_⟩
 have : sc.indexes.length ≤ sc.w := by unfold Schema.w; omega
 omega
theorem ScOk.of {sc : Schema} (h1 : sc.views.isCell = true) (h : sc.w ≤ 274945015808) : ScOk sc := by
 unfold Schema.w at h
 have ht : ∀ t ∈ sc.tables, t.w ≤ 274945015808 := fun t ht => by have := mem_w Table.w _ t ht; omega
 refine ⟨⟨h1, fun t hm => ?_⟩, fun t hm => ?_, ?_⟩
 ·have := ht t hm; unfold Table.w at this; omega
 ·have := ht t hm; unfold Table.w at this; omega
 ·have := len_le (f := Index.w) (fun x => by unfold Index.w; omega) sc.indexes; omega
theorem f7_all (sc : Schema) (h1 : sc.views.isCell = true) (r : Resolved) (hb : sc.w + r.w ≤ 1048576) : Gives Tryz.prog 7 [.agg sc.v, .agg r.v] (vbool true) := by
 have hsp := ScPl.of h1 (by omega : sc.w ≤ 1048576)
 have hi := len_le (f := Index.w) (fun x => by unfold Index.w; omega) sc.indexes
 have : sc.indexes.length ≤ sc.w := by unfold Schema.w; omega
 exact f7_spec sc hsp.ok hsp (ScOk.of h1 (by omega)) r (sc.w / 4) (fun i hi => keys_of hi) (pl_bound hb) (by omega) (by omega)
end Go.Proofs.YtcckhbconihagaaGreatDoor
