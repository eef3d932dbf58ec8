/- The walker over a resolved query. -/
import Derived.Test.YtcckhbconihagaaGreatDoorV2
import Derived.Test.YtcckhbconihagaaGreatDoorV11
set_option linter.unusedSimpArgs false
set_option linter.unusedVariables false
set_option maxRecDepth 100000
namespace Go.Proofs.YtcckhbconihagaaGreatDoor
open Go.Am Go.Pl
def RWn (l : List With) : Prop := ∀ i (hi : i < l.length), l[i].names.length ≤ 550024249344
def RW1 {σ : Type} (H : σ → Heap → Prop) (fa : σ → Arm → σ × Arm) (ff : σ → Term → Nat → σ) (av fv : V) (l : List With) (σ1 : σ) : Prop := ∀ i (hi : i < l.length), WSpec H 51 [.agg [av, fv], .slice 5 [l[i].query.v], vint 0] (wWiths fa ff (l.take i) σ1).1 (wQuery fa ff l[i].query 0 (wWiths fa ff (l.take i) σ1).1).1 (.slice 5 [(wQuery fa ff l[i].query 0 (wWiths fa ff (l.take i) σ1).1).2.v])
def RW2 {σ : Type} (H : σ → Heap → Prop) (fa : σ → Arm → σ × Arm) (ff : σ → Term → Nat → σ) (av fv : V) (l : List With) (σ1 : σ) : Prop := ∀ i (hi : i < l.length), WSpec H 51 [.agg [av, fv], .slice 5 (l[i].step.map Query.v), vint 0] (wQuery fa ff l[i].query 0 (wWiths fa ff (l.take i) σ1).1).1 (wQueries fa ff l[i].step 0 (wQuery fa ff l[i].query 0 (wWiths fa ff (l.take i) σ1).1).1).1 (.slice 5 ((wQueries fa ff l[i].step 0 (wQuery fa ff l[i].query 0 (wWiths fa ff (l.take i) σ1).1).1).2.map Query.v))
set_option maxHeartbeats 1000000 in
theorem f22_spec {σ : Type} (H : σ → Heap → Prop) (fa : σ → Arm → σ × Arm) (ff : σ → Term → Nat → σ) (av fv : V) (hac : av.isCell = true) (hfc : fv.isCell = true) (r : Resolved) (σ0 : σ) (hl : r.withs.length ≤ 550024249344) (hN : RWn r.withs)
    (hQ : WSpec H 51 [.agg [av, fv], .slice 5 [r.query.v], vint 0] σ0 (wQuery fa ff r.query 0 σ0).1 (.slice 5 [(wQuery fa ff r.query 0 σ0).2.v])) (hW1 : RW1 H fa ff av fv r.withs (wQuery fa ff r.query 0 σ0).1) (hW2 : RW2 H fa ff av fv r.withs (wQuery fa ff r.query 0 σ0).1) :
    WSpec H 22 [.agg [av, fv], .agg r.v] σ0 (wResolved fa ff r σ0).1 (.agg (wResolved fa ff r σ0).2.v) := by
 have hac' := hac; have hfc' := hfc; have ixa : ((0 : Int) ≤ 0) = True := by simp
 have ixb : ((0 : Int) < ((1 : Nat) : Int)) = True := by simp
 intro s hH; refine acalls_of (fn := Tryz.f22) Tryz.func22 rfl (by decide) (by show 2 ≤ 48; decide) ?_; rw [Tryz.ntmps22]; refine rg fun Z z' => ?_; simp only [hac', hfc', Resolved.v_eq, Query.v_eq, amt, seval, reduceCtorEq]; refine z' _ ?_; clear z' Z; refine rg fun Z z' => ?_; simp only [ixa, ixb, Int.toNat_zero, Query.v_eq, amt, seval, reduceCtorEq]; rw [← Query.v_eq]; refine (hQ s hH).mono ?_; rintro _ s1 ⟨rfl, hH1⟩; simp only [ixa, ixb, Int.toNat_zero, Query.v_eq, amt, seval, reduceCtorEq]; refine z' _ ?_; clear z' Z; refine AWp.seq_k fun K3 hK3 => ?_; refine rg fun Z z' => ?_; simp only [amt, seval, reduceCtorEq]; refine z' _ ?_; clear z' Z; refine AWp.block ?_; refine AWp.adoptB 5 0 (62, 9) (cs := (.nil :: (wQuery fa ff r.query 0 σ0).2.v)) (ty := 35) (by simp only [Query.v_eq, am, seval, reduceCtorEq]) (.inl rfl) fun g hg => ?_; change s1.own g = none at hg; refine AWp.loopT (ι := Nat × Nat × Heap) (fun i => i.1 ≤ r.withs.length ∧ i.2.2.own i.2.1 = none ∧ H (wWiths fa ff (r.withs.take i.1) (wQuery fa ff r.query 0 σ0).1).1 i.2.2) (fun i => tst [(2, .loc 2 0), (4, .loc 4 0), (5, .loc 5 0), (17, .slice 9 (r.withs.map With.v)), (18, vint r.withs.length), (19, vint i.1)] [(2, ([av, fv], 81)), (4, ([.nil, .nil, .nil, .nil, .nil, .nil], 35)), (5, ((.own i.2.1 9 ((wWiths fa ff (r.withs.take i.1) (wQuery fa ff r.query 0 σ0).1).2.map With.v) :: (wQuery fa ff r.query 0 σ0).2.v), 35))] (i.2.2.setOwn i.2.1 (some (62, 9))) 48) (fun i => r.withs.length - i.1) (0, g, s1) ⟨⟨Nat.zero_le _, hg, by rw [wWiths_zero]; exact hH1⟩, ?_⟩ ?_
 ·refine lt0 ?_ ?_ ?_
  ·simp only [leE, am, seval, reduceCtorEq] <;> simp
  ·simp only [oks, Nat.reduceBEq]
  ·simp only [leB, Query.v_eq, List.set_cons_zero, am, seval, reduceCtorEq]; simp [wWiths, mapS]
 ·rintro ⟨i, g, s0⟩ ⟨hi, hg0, hH0⟩; simp only at hi hg0 hH0 ⊢; refine rg fun Z z' => ?_; simp only [amt, seval, reduceCtorEq]; refine z' _ ?_; clear z' Z; refine AWp.seq_k fun K6 hK6 => ?_; refine AWp.cond (t := decide ((i:Int) < r.withs.length)) (by simp only [am, seval, reduceCtorEq]) (fun ht => ?_) (fun ht => ?_)
  ·have hlt : i < r.withs.length := lt_of_dec ht; have ix0 : (0 ≤ (i : Int)) = True := by simp
   have ix1 : ((i : Int) < (r.withs.length : Int)) = True := by simp [hlt]
   refine AWp.skip ?_; refine hK6 _ ?_; clear hK6; refine AWp.seq_k fun K7 hK7 => ?_; refine AWp.block ?_; refine rg fun Z z' => ?_; simp only [ix0, ix1, true_and, getD_map _ _ _ hlt, With.v_eq, Query.v_eq, amt, seval, reduceCtorEq]; refine z' _ ?_; clear z' Z; refine rg fun Z z' => ?_; simp only [amt, seval, reduceCtorEq]; refine (f52_spec _ (by simp only [List.length_map]; exact hN i hlt) _).go ?_; simp only [amt, seval, reduceCtorEq]; refine z' _ ?_; clear z' Z; refine rg fun Z z' => ?_; simp only [ixa, ixb, Int.toNat_zero, Query.v_eq, amt, seval, reduceCtorEq]; rw [← Query.v_eq]; refine ((hW1 i hlt _ hH0).frame1 (62, 9) hg0).mono ?_; rintro _ _ ⟨s2, ⟨rfl, hH2⟩, hg2, rfl⟩; simp only [ixa, ixb, Int.toNat_zero, Query.v_eq, amt, seval, reduceCtorEq]; refine z' _ ?_; clear z' Z; refine rg fun Z z' => ?_; simp only [amt, seval, reduceCtorEq]; refine ((hW2 i hlt _ hH2).frame1 (62, 9) hg2).mono ?_; rintro _ _ ⟨s3, ⟨rfl, hH3⟩, hg3, rfl⟩; simp only [amt, seval, reduceCtorEq]; refine z' _ ?_; clear z' Z; refine rg1 fun Z z' => ?_; simp only [Query.v_eq, amt, seval, reduceCtorEq]; refine ⟨own_same _ _ _, by simp only [List.length_map, wWiths_len, List.length_take]; omega, by simp only [List.length_map, wWiths_len, List.length_take, maxLen]; omega, fun g' hg' => ?_⟩; refine z' _ ?_; clear z' Z; refine hK7 _ ?_; clear hK7; refine rg1 fun Z z' => ?_; simp only [amt, seval, reduceCtorEq]; refine z' _ ?_; clear z' Z; refine ⟨(i + 1, g', s3), ⟨⟨hlt, own_fresh hg', by rw [wWiths_succ _ _ _ _ _ hlt]; exact hH3⟩, by simp only; omega⟩, ?_⟩
   refine le_tst ?_ ?_ ?_ (own_step hg3 _ _ _) rfl
   ·simp only [leE, am, seval, reduceCtorEq]; rw [wrap_id (by omega) (by omega)]; simp
   ·simp only [oks, Nat.reduceBEq]
   ·simp only [leB, Query.v_eq, am, seval, reduceCtorEq]; rw [wWiths_succ _ _ _ _ _ hlt]; simp [With.v_eq, Query.v_eq, wWith]
  ·obtain rfl : i = r.withs.length := eq_of_dec ht hi; refine AWp.exit ?_; simp only [exq, seval]; refine hK3 _ ?_; clear hK3; refine AWp.wkB 5 (cs := (.own g 9 ((wWiths fa ff (r.withs.take r.withs.length) (wQuery fa ff r.query 0 σ0).1).2.map With.v) :: (wQuery fa ff r.query 0 σ0).2.v)) (ty := 35) (.slice 9 ((wWiths fa ff (r.withs.take r.withs.length) (wQuery fa ff r.query 0 σ0).1).2.map With.v) :: (wQuery fa ff r.query 0 σ0).2.v) (by simp only [am, seval, reduceCtorEq]) ⟨Wk.own _ _ _, WkL.refl _⟩ ?_; refine rg fun Z z' => ?_; simp only [Query.v_eq, amt, seval, reduceCtorEq]; refine z' _ ?_; clear z' Z; refine AWp.ret ?_; refine ret_intro (vs := [.agg [.slice 9 ((wWiths fa ff (r.withs.take r.withs.length) (wQuery fa ff r.query 0 σ0).1).2.map With.v), vstrs (wQuery fa ff r.query 0 σ0).2.names, .slice 13 ((wQuery fa ff r.query 0 σ0).2.arms.map Arm.v), .slice 3 ((wQuery fa ff r.query 0 σ0).2.order.map Sorted.v), .slice 14 ((wQuery fa ff r.query 0 σ0).2.limit.map Term.v), .slice 14 ((wQuery fa ff r.query 0 σ0).2.offset.map Term.v)]]) (by show resV Tryz.prog _ [.cell 4 35] = _; simp only [resV, amt, seval, reduceCtorEq]) (Wk.refl _) (own_drop hg0 _) ⟨?_, ?_⟩
   ·rw [List.take_length, Resolved.v_eq, Query.v_eq]; rfl
   ·rw [List.take_length] at hH0; exact hH0
structure HM' (s0 : Heap) (bb bs : Nat) (sch : List V) (b : Bool) (s : Heap) : Prop where
 own : s.own = s0.own
 box : ∀ k, s0.box k ≠ none → s.box k = s0.box k
 nb : s0.box bb = none
 ns : s0.box bs = none
 ne : bb ≠ bs
 bb : s.box bb = some ([vbool b], 4)
 bs : s.box bs = some (sch, 26)
def HM (s0 : Heap) (bb bs : Nat) (sch : List V) (σ : Option Bool) (s : Heap) : Prop := ∃ b, σ = some b ∧ HM' s0 bb bs sch b s
theorem HM.bb {s0 s : Heap} {bb bs : Nat} {sch : List V} {b : Bool} (h : HM s0 bb bs sch (some b) s) : s.box bb = some ([vbool b], 4) := by obtain ⟨b', e, h⟩ := h; cases e; exact h.bb
theorem HM.bs {s0 s : Heap} {bb bs : Nat} {sch : List V} {b : Bool} (h : HM s0 bb bs sch (some b) s) : s.box bs = some (sch, 26) := by obtain ⟨b', e, h⟩ := h; cases e; exact h.bs
theorem HM.put {s0 s : Heap} {bb bs : Nat} {sch : List V} {b : Bool} (h : HM s0 bb bs sch (some b) s) (hbb : s.box bb = some ([vbool b], 4)) (b' : Bool) : HM s0 bb bs sch (some b') (s.setBox bb ([vbool b'], 4)) := by
 obtain ⟨b0, e, h⟩ := h
 cases e
 refine ⟨b', rfl, h.own, fun k hk => ?_, h.nb, h.ns, h.ne, upd_same _ _ _, ?_⟩
 ·have : k ≠ bb := fun e => hk (e ▸ h.nb)
  exact (upd_other _ _ _ _ this).trans (h.box k hk)
 ·exact (upd_other _ _ _ _ h.ne.symm).trans h.bs
def mff (s : Option Bool) (t : Term) (d : Nat) : Option Bool := s
theorem gd_mapS {σ α β : Type} {good : σ → Prop} (f : σ → α → σ × β) (hf : ∀ s x, good (f s x).1 → good s) : ∀ (l : List α) (s : σ), good (mapS f s l).1 → good s
 | [], s, h => h
 | x :: l, s, h => hf s x (gd_mapS f hf l _ h)
theorem gd_mapS_at {σ α β : Type} {good : σ → Prop} (f : σ → α → σ × β) (hf : ∀ s x, good (f s x).1 → good s) (l : List α) (s : σ) (i : Nat) (hi : i < l.length) (h : good (mapS f s l).1) : good (f (mapS f s (l.take i)).1 l[i]).1 := by
 have e : mapS f s l = mapS f s (l.take (i + 1) ++ l.drop (i + 1)) := by rw [List.take_append_drop]
 rw [e, mapS_append] at h
 have h := gd_mapS f hf _ _ h
 rwa [mapS_succ _ _ _ _ hi] at h
section
variable {σ : Type} {H : σ → Heap → Prop} {fa : σ → Arm → σ × Arm} {ff : σ → Term → Nat → σ} {av fv : V} {good : σ → Prop}
theorem query_ok (h : Vis H fa ff av fv good) (q : Query) (hw : q.w ≤ 550024249344) (σ0 : σ) (hg : good (wQuery fa ff q 0 σ0).1) : WSpec H 51 [.agg [av, fv], .slice 5 [q.v], vint 0] σ0 (wQuery fa ff q 0 σ0).1 (.slice 5 [(wQuery fa ff q 0 σ0).2.v]) := by
 have e : wQueries fa ff [q] 0 σ0 = ((wQuery fa ff q 0 σ0).1, [(wQuery fa ff q 0 σ0).2]) := by rw [wQueries, wQueries]
 have := (walk_all h q.w hw).2.1 [q] 0 σ0 (by simp) (by omega) (by rw [e]; exact hg)
 rw [e] at this
 exact this
theorem resolved_ok (h : Vis H fa ff av fv good) (r : Resolved) (hw : r.w ≤ 550024249344) (σ0 : σ) (hg : good (wResolved fa ff r σ0).1) : WSpec H 22 [.agg [av, fv], .agg r.v] σ0 (wResolved fa ff r σ0).1 (.agg (wResolved fa ff r σ0).2.v) := by
 have hr := Resolved.w_eq r
 have hlen := len_le With.w_pos r.withs
 have hf : ∀ s x, good (wWith fa ff s x).1 → good s := fun s x hx => gdQuery fa ff good h.hgf h.hga _ _ _ (gdQueries fa ff good h.hgf h.hga _ _ _ hx)
 have hg1 : good (wQuery fa ff r.query 0 σ0).1 := gd_mapS _ hf _ _ hg
 have ww : ∀ i (hi : i < r.withs.length), r.withs[i].w ≤ (r.withs.map With.w).sum := fun i hi => le_sumW With.w r.withs i hi
 refine f22_spec H fa ff av fv h.hac h.hfc r σ0 (by omega) (fun i hi => ?_) (query_ok h r.query (by omega) σ0 hg1) (fun i hi => ?_) fun i hi => ?_
 ·have := ww i hi
  rw [With.w_eq] at this
  omega
 ·have := ww i hi
  rw [With.w_eq] at this
  have hx := gd_mapS_at _ hf r.withs _ i hi hg
  exact query_ok h _ (by omega) _ (gdQueries fa ff good h.hgf h.hga _ _ _ hx)
 ·have := ww i hi
  rw [With.w_eq] at this
  have hx := gd_mapS_at _ hf r.withs _ i hi hg
  exact (walk_all h _ (by omega : (r.withs[i].step.map Query.w).sum ≤ 550024249344)).2.1 _ 0 _ (Nat.le_refl _) (by omega) hx
end
theorem HM.start {s : Heap} {bb bs : Nat} {sch : List V} (h1 : s.box bb = none) (h2 : (s.setBox bb ([vbool true], 4)).box bs = none) : HM s bb bs sch (some true) ((s.setBox bb ([vbool true], 4)).setBox bs (sch, 26)) := by
 have hne : bb ≠ bs := fun e => by subst e; rw [show (s.setBox bb ([vbool true], 4)).box bb = some ([vbool true], 4) from upd_same _ _ _] at h2; cases h2
 have h2' : s.box bs = none := by rwa [show (s.setBox bb ([vbool true], 4)).box bs = s.box bs from upd_other _ _ _ _ hne.symm] at h2
 refine ⟨true, rfl, rfl, fun k hk => ?_, h1, h2', hne, ?_, upd_same _ _ _⟩
 ·have e1 : k ≠ bs := fun e => hk (e ▸ h2')
  have e2 : k ≠ bb := fun e => hk (e ▸ h1)
  exact (upd_other _ _ _ _ e1).trans (upd_other _ _ _ _ e2)
 ·exact (upd_other _ _ _ _ hne).trans (upd_same _ _ _)
theorem HM.le {s0 s : Heap} {bb bs : Nat} {sch : List V} {σ : Option Bool} (h : HM s0 bb bs sch σ s) : s.le s0 := by
 obtain ⟨b, _, h⟩ := h
 refine ⟨fun k => ?_, fun g => .inl (congrFun h.own g).symm⟩
 cases hq : s0.box k with
 | none => exact .inr rfl
 | some y => exact .inl (by rw [← hq]; exact (h.box k (by rw [hq]; simp)).symm)
/-- **plan.May**, where we know what each arm gives. -/
theorem f9_gen (c1 c2 c3 : V) (h1 : c1.isCell = true) (h2 : c2.isCell = true) (h3 : c3.isCell = true) (fa : Option Bool → Arm → Option Bool × Arm) (ff : Option Bool → Term → Nat → Option Bool) (hvis : ∀ (s0 : Heap) (bb bs : Nat), Vis (HM s0 bb bs [c1, c2, c3]) fa ff (.func 20 [] [.ptr bb 0, .ptr bs 0]) (.base .nilFunc) (fun s => s ≠ none)) (r : Resolved) (hw : r.w ≤ 550024249344) (b : Bool) (hb : (wResolved fa ff r (some true)).1 = some b) : Gives Tryz.prog 9 [.agg [c1, c2, c3], .agg r.v] (vint (if b then 0 else 340)) := by
 have h1' := h1; have h2' := h2; have h3' := h3; intro s0; have hrv := Resolved.v_eq r; rw [Query.v_eq] at hrv; simp only [List.cons_append, List.nil_append] at hrv; refine acalls_of (fn := Tryz.f9) Tryz.func9 rfl (by decide) (by show 2 ≤ 12; decide) ?_; rw [Tryz.ntmps9]; refine rg fun Z z' => ?_; simp only [h1', h2', h3', hrv, am, seval, reduceCtorEq]; refine z' _ ?_; clear z' Z; refine rg fun Z z' => ?_; simp only [amt, seval, reduceCtorEq]; refine z' _ ?_; clear z' Z; refine AWp.publish (t0 := 5) (x := ([vbool true], 4)) (by simp only [am, seval, reduceCtorEq]) fun bb hbb => ?_; change s0.box bb = none at hbb; refine AWp.weaken (st' := tst [(2, .loc 2 0), (3, .loc 3 0), (5, .ptr bb 0)] [(2, ([c1, c2, c3], 26)), (3, (r.v, 35))] (s0.setBox bb ([vbool true], 4)) 12) ?_ ?_
 ·refine lt0 ?_ ?_ ?_
  ·simp only [leE, St.publish, substV, am, seval, reduceCtorEq]
  ·simp only [oks, Nat.reduceBEq]
  ·simp only [leB, St.publish, hrv, am, seval, reduceCtorEq]
 refine AWp.publish (t0 := 2) (x := ([c1, c2, c3], 26)) (by simp only [am, seval, reduceCtorEq]) fun bs hbs => ?_; change (s0.setBox bb ([vbool true], 4)).box bs = none at hbs; refine AWp.weaken (st' := tst [(2, .ptr bs 0), (3, .loc 3 0), (5, .ptr bb 0)] [(3, (r.v, 35))] ((s0.setBox bb ([vbool true], 4)).setBox bs ([c1, c2, c3], 26)) 12) ?_ ?_
 ·refine lt0 ?_ ?_ ?_
  ·simp only [leE, St.publish, substV, am, seval, reduceCtorEq]
  ·simp only [oks, Nat.reduceBEq]
  ·simp only [leB, St.publish, hrv, am, seval, reduceCtorEq]
 refine rg fun Z z' => ?_; simp only [hrv, amt, seval, reduceCtorEq]; rw [← hrv]; refine (resolved_ok (hvis s0 bb bs) r hw (some true) (by rw [hb]; simp) _ (HM.start hbb hbs)).mono ?_; rintro _ s1 ⟨rfl, hH⟩; rw [hb] at hH; have hb1 := hH.bb; simp only [hrv, amt, seval, reduceCtorEq]; refine z' _ ?_; clear z' Z; refine AWp.seq_k fun K hK => ?_; refine rg fun Z z' => ?_; simp only [hb1, amt, seval, reduceCtorEq]; refine z' _ ?_; clear z' Z; cases b with
 | false =>
  refine cT (by simp only [Bool.not_false, am, seval, reduceCtorEq]) ?_; refine rg fun Z z' => ?_; simp only [am, seval, reduceCtorEq]; refine z' _ ?_; clear z' Z; refine AWp.ret ?_; refine ret_intro (vs := [vint 340]) rfl (Wk.refl _) hH.le ⟨rfl, rfl⟩
 | true =>
  refine cF (by simp only [Bool.not_true, am, seval, reduceCtorEq]) ?_; refine AWp.skip ?_; refine hK _ ?_; clear hK; refine rg fun Z z' => ?_; simp only [am, seval, reduceCtorEq]; refine z' _ ?_; clear z' Z; refine AWp.ret ?_; refine ret_intro (vs := [vint 0]) rfl (Wk.refl _) hH.le ⟨rfl, rfl⟩
end Go.Proofs.YtcckhbconihagaaGreatDoor
