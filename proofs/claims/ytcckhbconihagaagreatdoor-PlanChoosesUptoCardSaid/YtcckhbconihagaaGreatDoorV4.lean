/- plan's small functions: within, ready, turned, selects. -/
import Derived.Test.YtcckhbconihagaaGreatDoorV10
import Derived.Test.YtcckhbconihagaaGreatDoorVPlIdx
import Derived.Test.YtcckhbconihagaaGreatDoorV2
import Derived.Test.YtcckhbconihagaaGreatDoorVPlReach
import Derived.Test.YtcckhbconihagaaGreatDoorVAmFreeze
import Derived.Test.YtcckhbconihagaaGreatDoorVAmYield
set_option linter.unusedSimpArgs false
set_option linter.unusedVariables false
set_option maxRecDepth 100000
namespace Go.Proofs.YtcckhbconihagaaGreatDoor
open Go.Am Go.Pl
theorem own_drop3 {s : Heap} {g g2 : Nat} {x z : TypeId × Nat} (hg : s.own g = none) (hg2 : (s.setOwn g (some z)).own g2 = none) (y : Option (TypeId × Nat)) : (((s.setOwn g (some x)).setOwn g none).setOwn g2 y).le s := by
 have h2 := own_fresh hg2
 refine ⟨fun b => .inl rfl, fun k => ?_⟩
 simp only [Heap.setOwn]
 by_cases e : k = g2
 ·subst e; exact .inr h2
 ·simp only [upd_other _ _ _ _ e]
  by_cases e2 : k = g
  ·subst e2; exact .inr hg
  ·exact .inl (by simp only [upd_other _ _ _ _ e2])
theorem f83_spec (l : List Int) (k : Int) : Gives Tryz.prog 83 [vint k, .elt [vints l] 0] (vbool (!(l.any (k == ·)))) := by
 intro s; refine acalls_of (fn := Tryz.f83) Tryz.func83 rfl (by decide) (by show 2 ≤ 8; decide) ?_; rw [Tryz.ntmps83]; refine rg fun Z z' => ?_; simp only [am, seval, reduceCtorEq]; refine z' _ ?_; clear z' Z; refine rg fun Z z' => ?_; simp only [amt, seval, reduceCtorEq]; refine (f47_spec l k _).go ?_; simp only [amt, seval, reduceCtorEq]; refine z' _ ?_; clear z' Z; refine AWp.ret ?_; exact rt (vs := [vbool (!(l.any (k == ·)))]) rfl ⟨rfl, rfl⟩
theorem f50_spec (t : Term) (hw : t.w ≤ 274945015808) (l : List Int) : Gives Tryz.prog 50 [.agg t.v, vints l] (vbool (within t l)) := by
 have hw' := Term.v_eq t; intro s; refine acalls_of (fn := Tryz.f50) Tryz.func50 rfl (by decide) (by show 2 ≤ 10; decide) ?_; rw [Tryz.ntmps50]; refine rg fun Z z' => ?_; simp only [Term.v_eq, amt, seval, reduceCtorEq]; refine z' _ ?_; clear z' Z; refine AWp.frz 3 (cs := [vints l]) (ty := 50) (by simp only [am, seval, reduceCtorEq]) ?_; refine AWp.weaken (st' := tst [(2, .loc 2 0), (3, .elt [vints l] 0)] [(2, (t.v, 49))] (s) 10) ?_ ?_
 ·refine lt0 ?_ ?_ ?_
  ·simp only [leE, St.frz, frzV, Term.v_eq, am, seval, reduceCtorEq]
  ·simp only [oks, Nat.reduceBEq]
  ·simp only [leB, St.frz, Term.v_eq, am, seval, reduceCtorEq]
 refine rg fun Z z' => ?_; simp only [Term.v_eq, amt, seval, reduceCtorEq]; rw [← Term.v_eq]; refine (f11_spec t hw _).go ?_; simp only [Term.v_eq, amt, seval, reduceCtorEq]; refine (f82_spec _ (reachT t) (fun k => !(l.any (k == ·))) 83 [.elt [vints l] 0] (fun k _ => f83_spec l k _)).go ?_
 simp only [Term.v_eq, amt, seval, reduceCtorEq]; refine z' _ ?_; clear z' Z; refine AWp.ret ?_; exact rt (vs := [vbool (within t l)]) rfl ⟨rfl, rfl⟩
theorem f75_spec (l : List Int) (t : Term) (hw : t.w ≤ 274945015808) : Gives Tryz.prog 75 [.agg t.v, .elt [vints l] 0] (vbool (!within t l)) := by
 rw [Term.v_eq]; intro s; refine acalls_of (fn := Tryz.f75) Tryz.func75 rfl (by decide) (by show 2 ≤ 8; decide) ?_; rw [Tryz.ntmps75]; refine rg fun Z z' => ?_; simp only [Term.v_eq, amt, seval, reduceCtorEq]; refine z' _ ?_; clear z' Z; refine rg fun Z z' => ?_; simp only [Term.v_eq, amt, seval, reduceCtorEq]; rw [← Term.v_eq]; refine (f50_spec t hw l _).go ?_; simp only [Term.v_eq, amt, seval, reduceCtorEq]; refine z' _ ?_; clear z' Z; refine AWp.ret ?_; exact rt (vs := [vbool (!within t l)]) rfl ⟨rfl, rfl⟩
theorem f48_spec (c1 c2 c3 : V) (h1 : c1.isCell = true) (h2 : c2.isCell = true) (h3 : c3.isCell = true) (a : Arm) (k : Int) (hk0 : 0 ≤ k) (hk1 : k < a.frm.length) (l : List Int) (hl : l.length ≤ 549890031616) (hon : ∀ t ∈ (a.src k).on, t.w ≤ 274945015808) : Gives Tryz.prog 48 [.agg ([c1, c2, c3] ++ a.v), vint k, vints l] (vbool (ready a k l)) := by
 have h1' := h1; have h2' := h2; have h3' := h3; have ix0 : (0 ≤ k) = True := by simp [hk0]
 have ix1 : (k < ((a.frm.length : Nat) : Int)) = True := by simp [hk1]
 have hgd : (a.frm.map From.v).getD k.toNat [] = (a.src k).v := src_get a k hk0 hk1; intro s; refine acalls_of (fn := Tryz.f48) Tryz.func48 rfl (by decide) (by show 3 ≤ 23; decide) ?_; rw [Tryz.ntmps48]; refine rg fun Z z' => ?_; simp only [h1', h2', h3', Arm.v_eq, amt, seval, reduceCtorEq]; refine z' _ ?_; clear z' Z; refine rg fun Z z' => ?_; simp only [amt, seval, reduceCtorEq]; refine (f73_own _ (by rw [List.length_map]; omega) _).mono ?_; rintro _ _ ⟨g0, hg0, rfl, rfl⟩; simp only [amt, seval, reduceCtorEq]; refine ⟨own_same _ _ _, by omega, by unfold maxLen; omega, fun g hg => ?_⟩; refine z' _ ?_; clear z' Z; refine AWp.wkB 7 (cs := [.own g 1 ((l ++ [k]).map fun x => [vint x])]) (ty := 50) [vints (l ++ [k])] (by simp only [List.map_append, List.map_cons, List.map_nil, am, seval, reduceCtorEq]) ⟨Wk.own _ _ _, trivial⟩ ?_; refine AWp.frz 7 (cs := [vints (l ++ [k])]) (ty := 50) (by simp only [am, seval, reduceCtorEq]) ?_; refine AWp.weaken (st' := tst [(1, vint k), (3, .loc 3 0), (7, .elt [vints (l ++ [k])] 0)] [(3, ([c1, c2, c3] ++ a.v, 77))] (s) 23) ?_ ?_
 ·refine le_tst ?_ ?_ ?_ (own_drop3 hg0 hg _) rfl
  ·simp only [leE, St.frz, frzV, Arm.v_eq, am, seval, reduceCtorEq]
  ·simp only [oks, Nat.reduceBEq]
  ·simp only [leB, St.frz, Arm.v_eq, am, seval, reduceCtorEq]
 refine rg fun Z z' => ?_; simp only [Arm.v_eq, ix0, ix1, true_and, hgd, From.v_eq, amt, seval, reduceCtorEq]; refine (f74_spec _ (a.src k).on (fun t => !within t (l ++ [k])) 75 [.elt [vints (l ++ [k])] 0] (fun t ht => f75_spec (l ++ [k]) t (hon t ht) _)).go ?_; simp only [Arm.v_eq, ix0, ix1, true_and, hgd, From.v_eq, amt, seval, reduceCtorEq]; refine z' _ ?_; clear z' Z; refine AWp.ret ?_; exact rt (vs := [vbool (ready a k l)]) rfl ⟨rfl, rfl⟩
theorem f162_spec (op : Int) : Gives Tryz.prog 162 [vint op] (vint (turned op)) := by
 rcases (Bool.eq_false_or_eq_true (op == 15)) with h15 | h15
 ·intro s; refine acalls_of (fn := Tryz.f162) Tryz.func162 rfl (by decide) (by show 1 ≤ 13; decide) ?_; rw [Tryz.ntmps162]; refine rg fun Z z' => ?_; simp only [h15, am, seval, reduceCtorEq]; refine z' _ ?_; clear z' Z; refine AWp.seq_k fun K2 hK2 => ?_; refine rg fun Z z' => ?_; simp only [h15, am, seval, reduceCtorEq]; refine z' _ ?_; clear z' Z; refine AWp.block ?_; refine rg fun Z z' => ?_; simp only [h15, amt, seval, reduceCtorEq]; refine z' _ ?_; clear z' Z; refine cT (by simp only [am, seval, reduceCtorEq]) ?_; refine rg fun Z z' => ?_; simp only [h15, am, seval, reduceCtorEq]; refine z' _ ?_; clear z' Z; refine AWp.ret ?_; exact rt (vs := [vint 17]) rfl ⟨by simp only [turned, h15, ↓reduceIte, Bool.false_eq_true]; rfl, rfl⟩
 ·rcases (Bool.eq_false_or_eq_true (op == 16)) with h16 | h16
  ·intro s; refine acalls_of (fn := Tryz.f162) Tryz.func162 rfl (by decide) (by show 1 ≤ 13; decide) ?_; rw [Tryz.ntmps162]; refine rg fun Z z' => ?_; simp only [h15, h16, am, seval, reduceCtorEq]; refine z' _ ?_; clear z' Z; refine AWp.seq_k fun K2 hK2 => ?_; refine rg fun Z z' => ?_; simp only [h15, h16, am, seval, reduceCtorEq]; refine z' _ ?_; clear z' Z; refine AWp.block ?_; refine rg fun Z z' => ?_; simp only [h15, h16, amt, seval, reduceCtorEq]; refine z' _ ?_; clear z' Z; refine cF (by simp only [am, seval, reduceCtorEq]) ?_; refine rg fun Z z' => ?_; simp only [h15, h16, amt, seval, reduceCtorEq]; refine z' _ ?_; clear z' Z; refine cT (by simp only [am, seval, reduceCtorEq]) ?_; refine rg fun Z z' => ?_; simp only [h15, h16, am, seval, reduceCtorEq]; refine z' _ ?_; clear z' Z; refine AWp.ret ?_; exact rt (vs := [vint 18]) rfl ⟨by simp only [turned, h15, h16, ↓reduceIte, Bool.false_eq_true]; rfl, rfl⟩
  ·rcases (Bool.eq_false_or_eq_true (op == 17)) with h17 | h17
   ·intro s; refine acalls_of (fn := Tryz.f162) Tryz.func162 rfl (by decide) (by show 1 ≤ 13; decide) ?_; rw [Tryz.ntmps162]; refine rg fun Z z' => ?_; simp only [h15, h16, h17, am, seval, reduceCtorEq]; refine z' _ ?_; clear z' Z; refine AWp.seq_k fun K2 hK2 => ?_; refine rg fun Z z' => ?_; simp only [h15, h16, h17, am, seval, reduceCtorEq]; refine z' _ ?_; clear z' Z; refine AWp.block ?_; refine rg fun Z z' => ?_; simp only [h15, h16, h17, amt, seval, reduceCtorEq]; refine z' _ ?_; clear z' Z; refine cF (by simp only [am, seval, reduceCtorEq]) ?_; refine rg fun Z z' => ?_; simp only [h15, h16, h17, amt, seval, reduceCtorEq]; refine z' _ ?_; clear z' Z; refine cF (by simp only [am, seval, reduceCtorEq]) ?_; refine rg fun Z z' => ?_; simp only [h15, h16, h17, amt, seval, reduceCtorEq]; refine z' _ ?_; clear z' Z; refine cT (by simp only [am, seval, reduceCtorEq]) ?_; refine rg fun Z z' => ?_; simp only [h15, h16, h17, am, seval, reduceCtorEq]; refine z' _ ?_; clear z' Z; refine AWp.ret ?_; exact rt (vs := [vint 15]) rfl ⟨by simp only [turned, h15, h16, h17, ↓reduceIte, Bool.false_eq_true]; rfl, rfl⟩
   ·rcases (Bool.eq_false_or_eq_true (op == 18)) with h18 | h18
    ·intro s; refine acalls_of (fn := Tryz.f162) Tryz.func162 rfl (by decide) (by show 1 ≤ 13; decide) ?_; rw [Tryz.ntmps162]; refine rg fun Z z' => ?_; simp only [h15, h16, h17, h18, am, seval, reduceCtorEq]; refine z' _ ?_; clear z' Z; refine AWp.seq_k fun K2 hK2 => ?_; refine rg fun Z z' => ?_; simp only [h15, h16, h17, h18, am, seval, reduceCtorEq]; refine z' _ ?_; clear z' Z; refine AWp.block ?_; refine rg fun Z z' => ?_; simp only [h15, h16, h17, h18, amt, seval, reduceCtorEq]; refine z' _ ?_; clear z' Z; refine cF (by simp only [am, seval, reduceCtorEq]) ?_; refine rg fun Z z' => ?_; simp only [h15, h16, h17, h18, amt, seval, reduceCtorEq]; refine z' _ ?_; clear z' Z; refine cF (by simp only [am, seval, reduceCtorEq]) ?_; refine rg fun Z z' => ?_; simp only [h15, h16, h17, h18, amt, seval, reduceCtorEq]; refine z' _ ?_; clear z' Z; refine cF (by simp only [am, seval, reduceCtorEq]) ?_; refine rg fun Z z' => ?_; simp only [h15, h16, h17, h18, amt, seval, reduceCtorEq]; refine z' _ ?_; clear z' Z; refine cT (by simp only [am, seval, reduceCtorEq]) ?_; refine rg fun Z z' => ?_; simp only [h15, h16, h17, h18, am, seval, reduceCtorEq]; refine z' _ ?_; clear z' Z; refine AWp.ret ?_; exact rt (vs := [vint 16]) rfl ⟨by simp only [turned, h15, h16, h17, h18, ↓reduceIte, Bool.false_eq_true]; rfl, rfl⟩
    ·intro s; refine acalls_of (fn := Tryz.f162) Tryz.func162 rfl (by decide) (by show 1 ≤ 13; decide) ?_; rw [Tryz.ntmps162]; refine rg fun Z z' => ?_; simp only [h15, h16, h17, h18, am, seval, reduceCtorEq]; refine z' _ ?_; clear z' Z; refine AWp.seq_k fun K2 hK2 => ?_; refine rg fun Z z' => ?_; simp only [h15, h16, h17, h18, am, seval, reduceCtorEq]; refine z' _ ?_; clear z' Z; refine AWp.block ?_; refine rg fun Z z' => ?_; simp only [h15, h16, h17, h18, amt, seval, reduceCtorEq]; refine z' _ ?_; clear z' Z; refine cF (by simp only [am, seval, reduceCtorEq]) ?_; refine rg fun Z z' => ?_; simp only [h15, h16, h17, h18, amt, seval, reduceCtorEq]; refine z' _ ?_; clear z' Z; refine cF (by simp only [am, seval, reduceCtorEq]) ?_; refine rg fun Z z' => ?_; simp only [h15, h16, h17, h18, amt, seval, reduceCtorEq]; refine z' _ ?_; clear z' Z; refine cF (by simp only [am, seval, reduceCtorEq]) ?_; refine rg fun Z z' => ?_; simp only [h15, h16, h17, h18, amt, seval, reduceCtorEq]; refine z' _ ?_; clear z' Z; refine cF (by simp only [am, seval, reduceCtorEq]) ?_; refine AWp.skip ?_; refine hK2 _ ?_; clear hK2; refine rg fun Z z' => ?_; simp only [h15, h16, h17, h18, am, seval, reduceCtorEq]; refine z' _ ?_; clear z' Z; refine AWp.ret ?_; exact rt (vs := [vint op]) rfl ⟨by simp only [turned, h15, h16, h17, h18, ↓reduceIte, Bool.false_eq_true]; rfl, rfl⟩
theorem f163_spec (t : Term) (h : ∀ a ∈ t.args, Gives Tryz.prog 163 [.agg a.v] (vbool (selects a))) : Gives Tryz.prog 163 [.agg t.v] (vbool (selects t)) := by
 intro s; rw [Term.v_eq]; refine acalls_of (fn := Tryz.f163) Tryz.func163 rfl (by decide) (by show 1 ≤ 12; decide) ?_; rw [Tryz.ntmps163]; refine rg fun Z z' => ?_; simp only [Term.v_eq, amt, seval, reduceCtorEq]; refine z' _ ?_; clear z' Z; refine rg fun Z z' => ?_; rcases (Bool.eq_false_or_eq_true (decide (((t.sub.length : Nat) : Int) > 0))) with hc0 | hc0
 ·simp only [Term.v_eq, hc0, amt, seval, reduceCtorEq]; refine z' _ ?_; clear z' Z; refine AWp.ret ?_; exact rt (vs := [vbool true]) rfl ⟨by rw [selects_eq, hc0]; rfl, rfl⟩
 ·simp only [Term.v_eq, hc0, amt, seval, reduceCtorEq]; refine (f74_spec _ t.args selects 163 [] (fun a ha => h a ha _)).go ?_; simp only [Term.v_eq, hc0, amt, seval, reduceCtorEq]; refine z' _ ?_; clear z' Z; refine AWp.ret ?_; exact rt (vs := [vbool (t.args.any selects)]) rfl ⟨by rw [selects_eq, hc0]; rfl, rfl⟩
theorem selects_all : ∀ n : Nat, ∀ t : Term, t.w ≤ n → Gives Tryz.prog 163 [.agg t.v] (vbool (selects t))
 | 0, t, h => by rw [Term.w_eq] at h; omega
 | n + 1, t, h => f163_spec t fun a ha => selects_all n a (by rw [Term.w_eq] at h; have := le_sum Term.w t.args a ha; omega)
theorem selects_ok (t : Term) : Gives Tryz.prog 163 [.agg t.v] (vbool (selects t)) := selects_all t.w t (Nat.le_refl _)
theorem aff_wk {t : Term} {col : Int} : WkL [vint 103, vbool false, vint 0, vint 0, vint 0, vstr .empty, vint 0, vint 0, vstr .empty, vint 0, vint col, vint 0, .slice 14 [t.v], .nil] (affine t col).v := by
 rw [Term.v_eq (affine t col)]
 exact ⟨Wk.refl _, Wk.refl _, Wk.refl _, Wk.refl _, Wk.refl _, Wk.refl _, Wk.refl _, Wk.refl _, Wk.refl _, Wk.refl _, Wk.refl _, Wk.refl _, Wk.refl _, Wk.nil _, trivial⟩
theorem zt_wk : WkL [vint 0, vbool false, vint 0, vint 0, vint 0, vstr .empty, vint 0, vint 0, vstr .empty, vint 0, vint 0, vint 0, .nil, .nil] zterm.v := by
 rw [Term.v_eq]
 exact ⟨Wk.refl _, Wk.refl _, Wk.refl _, Wk.refl _, Wk.refl _, Wk.refl _, Wk.refl _, Wk.refl _, Wk.refl _, Wk.refl _, Wk.refl _, Wk.refl _, Wk.nil _, Wk.nil _, trivial⟩
theorem affp_wk {t : Term} {col : Int} : Wk (oneV [.agg [vint 103, vbool false, vint 0, vint 0, vint 0, vstr .empty, vint 0, vint 0, vstr .empty, vint 0, vint col, vint 0, .slice 14 [t.v], .nil], vbool true]) (.tuple [.agg (affine t col).v, vbool true]) := Wk.tuple ⟨Wk.agg aff_wk, Wk.refl _, trivial⟩
theorem ztp_wk : Wk (oneV [.agg [vint 0, vbool false, vint 0, vint 0, vint 0, vstr .empty, vint 0, vint 0, vstr .empty, vint 0, vint 0, vint 0, .nil, .nil], vbool false]) (.tuple [.agg zterm.v, vbool false]) := Wk.tuple ⟨Wk.agg zt_wk, Wk.refl _, trivial⟩
theorem f164_spec (t : Term) (col other : Int) : Gives Tryz.prog 164 [.agg t.v, vint col, vint other] (.tuple [.agg (endT t col other).v, vbool (endOk col other)]) := by
 intro s; rw [Term.v_eq t]; refine acalls_of (fn := Tryz.f164) Tryz.func164 rfl (by decide) (by show 3 ≤ 42; decide) ?_; rw [Tryz.ntmps164]; refine rg fun Z z' => ?_; simp only [Term.v_eq, amt, seval, reduceCtorEq]; refine z' _ ?_; clear z' Z; refine AWp.seq_k fun K2 hK2 => ?_; refine AWp.block ?_; refine AWp.seq_k fun K3 hK3 => ?_; refine rg fun Z z' => ?_; rcases (Bool.eq_false_or_eq_true ((col == 1))) with h1_0 | h1_0
 ·simp only [Term.v_eq, h1_0, amt, seval, reduceCtorEq]; refine z' _ ?_; clear z' Z; refine AWp.cond (t := (other != 1)) (by simp only [am, seval, reduceCtorEq]) (fun hE1 => ?_) (fun hE1 => ?_)
  ·refine AWp.skip ?_; refine hK3 _ ?_; clear hK3; refine AWp.cond (t := (other != 1)) (by simp only [am, seval, reduceCtorEq]) (fun _ => ?_) (fun h => by rw [hE1] at h; cases h); refine rg fun Z z' => ?_; simp only [Term.v_eq, amt, seval, reduceCtorEq]; refine z' _ ?_; clear z' Z; refine AWp.ret ?_; refine ret_intro (vs := [.agg ([vint 103, vbool false, vint 0, vint 0, vint 0, vstr .empty, vint 0, vint 0, vstr .empty, vint 0, vint col, vint 0, .slice 14 [t.v], .nil]), vbool true]) (by show resV Tryz.prog _ [.cell 6 49, .tmp 7] = _; simp only [resV, Term.v_eq, amt, seval, reduceCtorEq]) (affp_wk) (Heap.le.refl _) ⟨?_, rfl⟩; rw [show endT t col other = affine t col by simp only [endT, end1, end2, h1_0, hE1, bo, ↓reduceIte, Bool.false_eq_true], show endOk col other = true by simp only [endOk, end1, end2, h1_0, hE1, bo, ↓reduceIte, Bool.false_eq_true]]; try rfl
  ·refine rg1 fun Z z' => ?_; rcases (Bool.eq_false_or_eq_true ((col == 2))) with h2_0 | h2_0
   ·simp only [Term.v_eq, h2_0, amt, seval, reduceCtorEq]; refine z' _ ?_; clear z' Z; refine hK3 _ ?_; clear hK3; refine AWp.cond (t := (other == 0)) (by simp only [am, seval, reduceCtorEq]) (fun hE2 => ?_) (fun hE2 => ?_)
    ·refine rg fun Z z' => ?_; simp only [Term.v_eq, amt, seval, reduceCtorEq]; refine z' _ ?_; clear z' Z; refine AWp.ret ?_; refine ret_intro (vs := [.agg ([vint 103, vbool false, vint 0, vint 0, vint 0, vstr .empty, vint 0, vint 0, vstr .empty, vint 0, vint col, vint 0, .slice 14 [t.v], .nil]), vbool true]) (by show resV Tryz.prog _ [.cell 6 49, .tmp 7] = _; simp only [resV, Term.v_eq, amt, seval, reduceCtorEq]) (affp_wk) (Heap.le.refl _) ⟨?_, rfl⟩; rw [show endT t col other = affine t col by simp only [endT, end1, end2, h1_0, h2_0, hE1, hE2, bo, ↓reduceIte, Bool.false_eq_true], show endOk col other = true by simp only [endOk, end1, end2, h1_0, h2_0, hE1, hE2, bo, ↓reduceIte, Bool.false_eq_true]]; try rfl
    ·refine AWp.seq_k fun K8 hK8 => ?_; refine rg fun Z z' => ?_; simp only [Term.v_eq, amt, seval, reduceCtorEq]; refine z' _ ?_; clear z' Z; refine AWp.cond (t := (col == 1)) (by simp only [am, seval, reduceCtorEq]) (fun _ => ?_) (fun h => by rw [h1_0] at h; cases h); refine AWp.skip ?_; refine hK8 _ ?_; clear hK8; refine AWp.cond (t := (col == 1)) (by simp only [am, seval, reduceCtorEq]) (fun _ => ?_) (fun h => by rw [h1_0] at h; cases h); refine rg fun Z z' => ?_; simp only [Term.v_eq, amt, seval, reduceCtorEq]; refine z' _ ?_; clear z' Z; refine AWp.ret ?_; refine rt (vs := [.agg (t.v), vbool true]) (by show resV Tryz.prog _ [.cell 6 49, .tmp 7] = _; simp only [resV, Term.v_eq, amt, seval, reduceCtorEq]) ⟨?_, rfl⟩; rw [show endT t col other = t by simp only [endT, end1, end2, h1_0, h2_0, hE1, hE2, bo, ↓reduceIte, Bool.false_eq_true], show endOk col other = true by simp only [endOk, end1, end2, h1_0, h2_0, hE1, hE2, bo, ↓reduceIte, Bool.false_eq_true]]; try rfl
   ·simp only [Term.v_eq, h2_0, amt, seval, reduceCtorEq]; refine z' _ ?_; clear z' Z; refine hK3 _ ?_; clear hK3; refine cF (by simp only [am, seval, reduceCtorEq]) ?_; refine AWp.seq_k fun K7 hK7 => ?_; refine rg fun Z z' => ?_; simp only [Term.v_eq, amt, seval, reduceCtorEq]; refine z' _ ?_; clear z' Z; refine AWp.cond (t := (col == 1)) (by simp only [am, seval, reduceCtorEq]) (fun _ => ?_) (fun h => by rw [h1_0] at h; cases h); refine AWp.skip ?_; refine hK7 _ ?_; clear hK7; refine AWp.cond (t := (col == 1)) (by simp only [am, seval, reduceCtorEq]) (fun _ => ?_) (fun h => by rw [h1_0] at h; cases h); refine rg fun Z z' => ?_; simp only [Term.v_eq, amt, seval, reduceCtorEq]; refine z' _ ?_; clear z' Z; refine AWp.ret ?_; refine rt (vs := [.agg (t.v), vbool true]) (by show resV Tryz.prog _ [.cell 6 49, .tmp 7] = _; simp only [resV, Term.v_eq, amt, seval, reduceCtorEq]) ⟨?_, rfl⟩; rw [show endT t col other = t by simp only [endT, end1, end2, h1_0, h2_0, hE1, bo, ↓reduceIte, Bool.false_eq_true], show endOk col other = true by simp only [endOk, end1, end2, h1_0, h2_0, hE1, bo, ↓reduceIte, Bool.false_eq_true]]; try rfl
 ·simp only [Term.v_eq, h1_0, amt, seval, reduceCtorEq]; refine z' _ ?_; clear z' Z; refine cF (by simp only [am, seval, reduceCtorEq]) ?_; refine rg1 fun Z z' => ?_; rcases (Bool.eq_false_or_eq_true ((col == 2))) with h2_0 | h2_0
  ·simp only [Term.v_eq, h2_0, amt, seval, reduceCtorEq]; refine z' _ ?_; clear z' Z; refine hK3 _ ?_; clear hK3; refine AWp.cond (t := (other == 0)) (by simp only [am, seval, reduceCtorEq]) (fun hE3 => ?_) (fun hE3 => ?_)
   ·refine rg fun Z z' => ?_; simp only [Term.v_eq, amt, seval, reduceCtorEq]; refine z' _ ?_; clear z' Z; refine AWp.ret ?_; refine ret_intro (vs := [.agg ([vint 103, vbool false, vint 0, vint 0, vint 0, vstr .empty, vint 0, vint 0, vstr .empty, vint 0, vint col, vint 0, .slice 14 [t.v], .nil]), vbool true]) (by show resV Tryz.prog _ [.cell 6 49, .tmp 7] = _; simp only [resV, Term.v_eq, amt, seval, reduceCtorEq]) (affp_wk) (Heap.le.refl _) ⟨?_, rfl⟩; rw [show endT t col other = affine t col by simp only [endT, end1, end2, h1_0, h2_0, hE3, bo, ↓reduceIte, Bool.false_eq_true], show endOk col other = true by simp only [endOk, end1, end2, h1_0, h2_0, hE3, bo, ↓reduceIte, Bool.false_eq_true]]; try rfl
   ·refine AWp.seq_k fun K7 hK7 => ?_; refine rg fun Z z' => ?_; simp only [Term.v_eq, amt, seval, reduceCtorEq]; refine z' _ ?_; clear z' Z; refine AWp.cond (t := (col == 1)) (by simp only [am, seval, reduceCtorEq]) (fun h => by rw [h1_0] at h; cases h) (fun _ => ?_); refine rg fun Z z' => ?_; simp only [Term.v_eq, h2_0, amt, seval, reduceCtorEq]; refine z' _ ?_; clear z' Z; refine AWp.cond (t := (other == 2)) (by simp only [am, seval, reduceCtorEq]) (fun hE4 => ?_) (fun hE4 => ?_)
    ·refine AWp.skip ?_; refine hK7 _ ?_; clear hK7; refine AWp.cond (t := (other == 2)) (by simp only [am, seval, reduceCtorEq]) (fun _ => ?_) (fun h => by rw [hE4] at h; cases h); refine rg fun Z z' => ?_; simp only [Term.v_eq, amt, seval, reduceCtorEq]; refine z' _ ?_; clear z' Z; refine AWp.ret ?_; refine rt (vs := [.agg (t.v), vbool true]) (by show resV Tryz.prog _ [.cell 6 49, .tmp 7] = _; simp only [resV, Term.v_eq, amt, seval, reduceCtorEq]) ⟨?_, rfl⟩; rw [show endT t col other = t by simp only [endT, end1, end2, h1_0, h2_0, hE3, hE4, bo, ↓reduceIte, Bool.false_eq_true], show endOk col other = true by simp only [endOk, end1, end2, h1_0, h2_0, hE3, hE4, bo, ↓reduceIte, Bool.false_eq_true]]; try rfl
    ·refine rg1 fun Z z' => ?_; rcases (Bool.eq_false_or_eq_true ((col == 0))) with h6_0 | h6_0
     ·simp only [Term.v_eq, h6_0, amt, seval, reduceCtorEq]; refine z' _ ?_; clear z' Z; refine hK7 _ ?_; clear hK7; refine AWp.cond (t := (other == 0)) (by simp only [am, seval, reduceCtorEq]) (fun h => by rw [hE3] at h; cases h) (fun _ => ?_); refine AWp.skip ?_; refine hK2 _ ?_; clear hK2; refine rg fun Z z' => ?_; simp only [Term.v_eq, amt, seval, reduceCtorEq]; refine z' _ ?_; clear z' Z; refine AWp.ret ?_; refine ret_intro (vs := [.agg ([vint 0, vbool false, vint 0, vint 0, vint 0, vstr .empty, vint 0, vint 0, vstr .empty, vint 0, vint 0, vint 0, .nil, .nil]), vbool false]) (by show resV Tryz.prog _ [.cell 6 49, .tmp 7] = _; simp only [resV, Term.v_eq, amt, seval, reduceCtorEq]) (ztp_wk) (Heap.le.refl _) ⟨?_, rfl⟩; rw [show endT t col other = zterm by simp only [endT, end1, end2, h1_0, h2_0, h6_0, hE3, hE4, bo, ↓reduceIte, Bool.false_eq_true], show endOk col other = false by simp only [endOk, end1, end2, h1_0, h2_0, h6_0, hE3, hE4, bo, ↓reduceIte, Bool.false_eq_true]]; try rfl
     ·simp only [Term.v_eq, h6_0, amt, seval, reduceCtorEq]; refine z' _ ?_; clear z' Z; refine hK7 _ ?_; clear hK7; refine cF (by simp only [am, seval, reduceCtorEq]) ?_; refine AWp.skip ?_; refine hK2 _ ?_; clear hK2; refine rg fun Z z' => ?_; simp only [Term.v_eq, amt, seval, reduceCtorEq]; refine z' _ ?_; clear z' Z; refine AWp.ret ?_; refine ret_intro (vs := [.agg ([vint 0, vbool false, vint 0, vint 0, vint 0, vstr .empty, vint 0, vint 0, vstr .empty, vint 0, vint 0, vint 0, .nil, .nil]), vbool false]) (by show resV Tryz.prog _ [.cell 6 49, .tmp 7] = _; simp only [resV, Term.v_eq, amt, seval, reduceCtorEq]) (ztp_wk) (Heap.le.refl _) ⟨?_, rfl⟩; rw [show endT t col other = zterm by simp only [endT, end1, end2, h1_0, h2_0, h6_0, hE3, hE4, bo, ↓reduceIte, Bool.false_eq_true], show endOk col other = false by simp only [endOk, end1, end2, h1_0, h2_0, h6_0, hE3, hE4, bo, ↓reduceIte, Bool.false_eq_true]]; try rfl
  ·simp only [Term.v_eq, h2_0, amt, seval, reduceCtorEq]; refine z' _ ?_; clear z' Z; refine hK3 _ ?_; clear hK3; refine cF (by simp only [am, seval, reduceCtorEq]) ?_; refine AWp.seq_k fun K6 hK6 => ?_; refine rg fun Z z' => ?_; simp only [Term.v_eq, amt, seval, reduceCtorEq]; refine z' _ ?_; clear z' Z; refine AWp.cond (t := (col == 1)) (by simp only [am, seval, reduceCtorEq]) (fun h => by rw [h1_0] at h; cases h) (fun _ => ?_); refine rg fun Z z' => ?_; simp only [Term.v_eq, h2_0, amt, seval, reduceCtorEq]; refine z' _ ?_; clear z' Z; refine cF (by simp only [am, seval, reduceCtorEq]) ?_; refine rg1 fun Z z' => ?_; rcases (Bool.eq_false_or_eq_true ((col == 0))) with h6_0 | h6_0
   ·simp only [Term.v_eq, h6_0, amt, seval, reduceCtorEq]; refine z' _ ?_; clear z' Z; refine hK6 _ ?_; clear hK6; refine AWp.cond (t := (other == 0)) (by simp only [am, seval, reduceCtorEq]) (fun hE5 => ?_) (fun hE5 => ?_)
    ·refine rg fun Z z' => ?_; simp only [Term.v_eq, amt, seval, reduceCtorEq]; refine z' _ ?_; clear z' Z; refine AWp.ret ?_; refine rt (vs := [.agg (t.v), vbool true]) (by show resV Tryz.prog _ [.cell 6 49, .tmp 7] = _; simp only [resV, Term.v_eq, amt, seval, reduceCtorEq]) ⟨?_, rfl⟩; rw [show endT t col other = t by simp only [endT, end1, end2, h1_0, h2_0, h6_0, hE5, bo, ↓reduceIte, Bool.false_eq_true], show endOk col other = true by simp only [endOk, end1, end2, h1_0, h2_0, h6_0, hE5, bo, ↓reduceIte, Bool.false_eq_true]]; try rfl
    ·refine AWp.skip ?_; refine hK2 _ ?_; clear hK2; refine rg fun Z z' => ?_; simp only [Term.v_eq, amt, seval, reduceCtorEq]; refine z' _ ?_; clear z' Z; refine AWp.ret ?_; refine ret_intro (vs := [.agg ([vint 0, vbool false, vint 0, vint 0, vint 0, vstr .empty, vint 0, vint 0, vstr .empty, vint 0, vint 0, vint 0, .nil, .nil]), vbool false]) (by show resV Tryz.prog _ [.cell 6 49, .tmp 7] = _; simp only [resV, Term.v_eq, amt, seval, reduceCtorEq]) (ztp_wk) (Heap.le.refl _) ⟨?_, rfl⟩; rw [show endT t col other = zterm by simp only [endT, end1, end2, h1_0, h2_0, h6_0, hE5, bo, ↓reduceIte, Bool.false_eq_true], show endOk col other = false by simp only [endOk, end1, end2, h1_0, h2_0, h6_0, hE5, bo, ↓reduceIte, Bool.false_eq_true]]; try rfl
   ·simp only [Term.v_eq, h6_0, amt, seval, reduceCtorEq]; refine z' _ ?_; clear z' Z; refine hK6 _ ?_; clear hK6; refine cF (by simp only [am, seval, reduceCtorEq]) ?_; refine AWp.skip ?_; refine hK2 _ ?_; clear hK2; refine rg fun Z z' => ?_; simp only [Term.v_eq, amt, seval, reduceCtorEq]; refine z' _ ?_; clear z' Z; refine AWp.ret ?_; refine ret_intro (vs := [.agg ([vint 0, vbool false, vint 0, vint 0, vint 0, vstr .empty, vint 0, vint 0, vstr .empty, vint 0, vint 0, vint 0, .nil, .nil]), vbool false]) (by show resV Tryz.prog _ [.cell 6 49, .tmp 7] = _; simp only [resV, Term.v_eq, amt, seval, reduceCtorEq]) (ztp_wk) (Heap.le.refl _) ⟨?_, rfl⟩; rw [show endT t col other = zterm by simp only [endT, end1, end2, h1_0, h2_0, h6_0, bo, ↓reduceIte, Bool.false_eq_true], show endOk col other = false by simp only [endOk, end1, end2, h1_0, h2_0, h6_0, bo, ↓reduceIte, Bool.false_eq_true]]; try rfl
theorem f152_spec (t : Term) (k : Int) : Gives Tryz.prog 152 [.agg t.v, vint k] (.func 161 [] [.elt t.v 0, .elt [vint k] 0]) := by
 intro s; refine acalls_of (fn := Tryz.f152) Tryz.func152 rfl (by decide) (by show 2 ≤ 6; decide) ?_; rw [Tryz.ntmps152]; refine rg fun Z z' => ?_; simp only [Term.v_eq, amt, seval, reduceCtorEq]; refine z' _ ?_; clear z' Z; refine AWp.frz 2 (cs := t.v) (ty := 49) (by simp only [Term.v_eq, am, seval, reduceCtorEq]) ?_; refine AWp.weaken (st' := tst [(2, .elt t.v 0), (3, .loc 3 0)] [(3, ([vint k], 3))] (s) 6) ?_ ?_
 ·refine lt0 ?_ ?_ ?_
  ·simp only [leE, St.frz, frzV, Term.v_eq, am, seval, reduceCtorEq]
  ·simp only [oks, Nat.reduceBEq]
  ·simp only [leB, St.frz, Term.v_eq, am, seval, reduceCtorEq]
 refine AWp.frz 3 (cs := [vint k]) (ty := 3) (by simp only [am, seval, reduceCtorEq]) ?_; refine AWp.weaken (st' := tst [(2, .elt t.v 0), (3, .elt [vint k] 0)] [] (s) 6) ?_ ?_
 ·refine lt0 ?_ ?_ ?_
  ·simp only [leE, St.frz, frzV, am, seval, reduceCtorEq]
  ·simp only [oks, Nat.reduceBEq]
  ·simp only [leB, St.frz, am, seval, reduceCtorEq]
 refine rg fun Z z' => ?_; simp only [am, seval, reduceCtorEq]; refine z' _ ?_; clear z' Z; refine AWp.ret ?_; exact rt (vs := [.func 161 [] [.elt t.v 0, .elt [vint k] 0]]) rfl ⟨rfl, rfl⟩
def _root_.Go.Am.tstO (lo : Ghost) (L : List (Nat × V)) (B : List (Nat × (List V × TypeId))) (s : Heap) (n : Nat) : St := { E := env L, loc := locs B, s := s, n := n, lo := lo }
theorem _root_.Go.Am.le_tstO {lo : Ghost} {st : St} {L : List (Nat × V)} {B : List (Nat × (List V × TypeId))} {s : Heap} {n : Nat} (h1 : leE L st.E) (h2 : okL B L) (h3 : leB B st.loc) (h4 : st.s.le s) (h5 : n = st.n) (h6 : st.ds = [] := by rfl) (h7 : st.lo = lo := by rfl) : st.le (tstO lo L B s n) where
 E := env_le h1
 loc := fun t => (locs_le h3 t).imp id fun e => ⟨e, fun t' off h => okL_env h2 t' t off h e⟩
 box := h4.box
 own := h4.own
 n := h5
 ds := h6.symm
 lo := by rw [h7]; exact Ghost.Le.refl _
def upTo (t : Term) (k : Int) : Nat → List Said
 | 0 => []
 | 1 => side0 t k
 | _ + 2 => side0 t k ++ side1 t k
theorem side_len {source op coll : Int} {c o : Term} {x y : Int} : (side source op coll c o x y).length ≤ 1 := by
 unfold side
 split
 ·simp
 ·split <;> simp
theorem upTo_lt (t : Term) (k : Int) : ∀ i, i < 2 → (upTo t k i).length < 2
 | 0, _ => by simp [upTo]
 | 1, _ => Nat.lt_succ_of_le side_len
 | _ + 2, h => by omega
theorem says_len (k : Int) (t : Term) : (says k t).length ≤ 2 := by
 unfold says
 split
 ·simp
 ·rw [List.length_append]
  have h1 : (side0 t k).length ≤ 1 := side_len
  have h2 : (side1 t k).length ≤ 1 := side_len
  omega
set_option maxHeartbeats 1000000 in
theorem f161_spec (t : Term) (hw : t.w ≤ 274945015808) (k : Int) (Hs : List Said → Heap → Prop) (lo : Ghost) (l : Nat)
  (hY : ∀ pre x s, Hs pre s → pre.length < 2 → YieldOk Tryz.prog lo l [.agg x.v] s fun v s' => v = vbool true ∧ Hs (pre ++ [x]) s') (s : Heap) (h0 : Hs [] s) : ACallsO Tryz.prog lo 161 ([yieldV l] ++ [.elt t.v 0, .elt [vint k] 0]) s fun _ s' => Hs (says k t) s' := by
 refine acallsO_of (fn := Tryz.f161) Tryz.func161 rfl (by decide) (by show 3 ≤ 109; decide) ?_
 rw [Tryz.ntmps161]
 refine AWp.seq_k fun K1 hK1 => ?_
 refine AWp.seq_cut (ι := Unit) (fun _ => True) (fun _ => tstO lo [(0, yieldV l), (1, .elt t.v 0), (2, .elt [vint k] 0), (34, vbool (saysBad t))] [] s 109) ?_ ?_
 ·refine AWp.reg1 fun R2 hR2 => ?_
  rcases (Bool.eq_false_or_eq_true (t.neg)) with h0_0 | h0_0
  ·simp only [Term.v_eq, h0_0, ty3, ty4, ty31, ty41, ty49, tstO, am, seval, reduceCtorEq]
   refine hR2 _ ?_; clear hR2 R2
   refine ⟨(), trivial, le_tstO ?_ ?_ ?_ (Heap.le.refl _) rfl⟩
   ·simp only [leE, yieldV, saysBad, Term.v_eq, h0_0, bo, ↓reduceIte, Bool.false_eq_true, tstO, am, seval, reduceCtorEq]
   ·simp only [okL, yieldV, and_self]
   ·simp only [leB]
  ·rcases (Bool.eq_false_or_eq_true ((t.op != 13))) with h0_1 | h0_1
   ·rcases (Bool.eq_false_or_eq_true (decide (t.op < 15))) with h0_2 | h0_2
    ·simp only [Term.v_eq, h0_0, h0_1, h0_2, ty3, ty4, ty31, ty41, ty49, tstO, am, seval, reduceCtorEq]
     refine hR2 _ ?_; clear hR2 R2
     refine ⟨(), trivial, le_tstO ?_ ?_ ?_ (Heap.le.refl _) rfl⟩
     ·simp only [leE, yieldV, saysBad, Term.v_eq, h0_0, h0_1, h0_2, bo, ↓reduceIte, Bool.false_eq_true, tstO, am, seval, reduceCtorEq]
     ·simp only [okL, yieldV, and_self]
     ·simp only [leB]
    ·rcases (Bool.eq_false_or_eq_true (decide (t.op > 18))) with h0_3 | h0_3
     ·simp only [Term.v_eq, h0_0, h0_1, h0_2, h0_3, ty3, ty4, ty31, ty41, ty49, tstO, am, seval, reduceCtorEq]
      refine hR2 _ ?_; clear hR2 R2
      refine ⟨(), trivial, le_tstO ?_ ?_ ?_ (Heap.le.refl _) rfl⟩
      ·simp only [leE, yieldV, saysBad, Term.v_eq, h0_0, h0_1, h0_2, h0_3, bo, ↓reduceIte, Bool.false_eq_true, tstO, am, seval, reduceCtorEq]
      ·simp only [okL, yieldV, and_self]
      ·simp only [leB]
     ·simp only [Term.v_eq, h0_0, h0_1, h0_2, h0_3, ty3, ty4, ty31, ty41, ty49, tstO, am, seval, reduceCtorEq]
      refine hR2 _ ?_; clear hR2 R2
      refine ⟨(), trivial, le_tstO ?_ ?_ ?_ (Heap.le.refl _) rfl⟩
      ·simp only [leE, yieldV, saysBad, Term.v_eq, h0_0, h0_1, h0_2, h0_3, bo, ↓reduceIte, Bool.false_eq_true, tstO, am, seval, reduceCtorEq]
      ·simp only [okL, yieldV, and_self]
      ·simp only [leB]
   ·simp only [Term.v_eq, h0_0, h0_1, ty3, ty4, ty31, ty41, ty49, tstO, am, seval, reduceCtorEq]
    refine hR2 _ ?_; clear hR2 R2
    refine ⟨(), trivial, le_tstO ?_ ?_ ?_ (Heap.le.refl _) rfl⟩
    ·simp only [leE, yieldV, saysBad, Term.v_eq, h0_0, h0_1, bo, ↓reduceIte, Bool.false_eq_true, tstO, am, seval, reduceCtorEq]
    ·simp only [okL, yieldV, and_self]
    ·simp only [leB]
 ·rintro ⟨⟩ _
  refine AWp.cond (t := (saysBad t)) (by simp only [tstO, am, seval, reduceCtorEq]) (fun hE1 => ?_) (fun hE1 => ?_)
  ·refine AWp.ret ?_
   refine ret_intro (vs := []) rfl (Wk.refl _) (Heap.le.refl _) ?_
   rw [says, if_pos hE1]; exact h0
  ·refine AWp.skip ?_
   refine hK1 _ ?_; clear hK1
   refine AWp.reg fun R3 hR3 => ?_
   simp only [tstO, am, seval, reduceCtorEq]
   refine hR3 _ ?_; clear hR3 R3
   refine AWp.block ?_
   have hbad : saysBad t = false := by simpa using hE1
   have hlen : t.args.length = 2 := by
    unfold saysBad at hbad
    simp only [Bool.or_eq_false_iff] at hbad
    have := bne_eq_false_iff_eq.1 hbad.2; omega
   obtain ⟨x0, x1, ha⟩ : ∃ x0 x1, t.args = [x0, x1] := by
    match hq : t.args, hlen with
    | [x0, x1], _ => exact ⟨x0, x1, rfl⟩
   have hw0 := hw; rw [Term.w_eq, ha] at hw0; simp only [List.map_cons, List.map_nil, List.sum_cons, List.sum_nil] at hw0
   have ix0 : ((0 : Int) ≤ 0) = True := by simp
   have ix1 : ((0 : Int) < ((2 : Nat) : Int)) = True := by simp
   have ix2 : ((0 : Int) ≤ 1) = True := by simp
   have ix3 : ((1 : Int) < ((2 : Nat) : Int)) = True := by simp
   have hi0 : (((0 : Nat) : Int) == 1) = false := rfl; have hi1 : (((1 : Nat) : Int) == 1) = true := rfl
   refine AWp.loopT (ι := Nat × Heap) (fun i => i.1 ≤ 2 ∧ Hs (upTo t k i.1) i.2) (fun i => tstO lo [(0, yieldV l), (1, .elt t.v 0), (2, .elt [vint k] 0), (35, vint i.1)] [] i.2 109) (fun i => 2 - i.1) (0, s) ⟨⟨Nat.zero_le _, h0⟩, ?_⟩ ?_
   ·refine le_tstO ?_ ?_ ?_ (Heap.le.refl _) rfl
    ·simp only [leE, yieldV, Term.v_eq, tstO, am, seval, reduceCtorEq] <;> simp
    ·simp only [okL, yieldV, and_self]
    ·simp only [leB]
   ·rintro ⟨i, s1⟩ ⟨hi, hH⟩
    simp only at hi hH ⊢
    refine AWp.reg fun R4 hR4 => ?_
    simp only [ty3, tstO, am, seval, reduceCtorEq]
    refine hR4 _ ?_; clear hR4 R4
    refine AWp.seq_k fun K5 hK5 => ?_
    refine AWp.cond (t := decide ((i : Int) < 2)) (by simp only [yieldV, tstO, am, seval, reduceCtorEq]) (fun ht => ?_) (fun ht => ?_)
    ·have hlt : i < 2 := by have := of_decide_eq_true ht; omega
     obtain rfl | rfl : i = 0 ∨ i = 1 := by omega
     ·refine AWp.skip ?_
      refine hK5 _ ?_; clear hK5
      refine AWp.seq_k fun K6 hK6 => ?_
      refine AWp.block ?_
      refine AWp.reg fun R7 hR7 => ?_
      simp only [tstO, am, seval, reduceCtorEq]
      refine hR7 _ ?_; clear hR7 R7
      refine AWp.regL mixed [0, 1, 2, 3, 4, 5, 6, 7, 8, 9, 10, 11, 12, 13, 14, 15, 16, 17, 18, 19, 20] (by decide +kernel) [5, 6, 99999] (by decide +kernel) fun R8 hR8 => ?_
      simp only [Term.v_eq, ha, ix0, ix1, ix2, ix3, true_and, Int.toNat_zero, Int.toNat_one, List.map_cons, List.map_nil, ty31, ty41, ty46, ty49, aml, Nat.reduceBEq, tstO, am, seval, reduceCtorEq]
      refine hR8 _ ?_; clear hR8 R8
      refine AWp.seq_k fun K9 hK9 => ?_
      refine AWp.reg fun R10 hR10 => ?_
      simp only [hi0, ty3, tstO, am, seval, reduceCtorEq]
      refine hR10 _ ?_; clear hR10 R10
      refine AWp.cond (t := false) (by simp only [tstO, am, seval, reduceCtorEq]) (fun h => by cases h) (fun _ => ?_)
      refine AWp.skip ?_
      refine hK9 _ ?_; clear hK9
      refine AWp.seq_k fun K11 hK11 => ?_
      refine AWp.regL mixed [0, 1, 2, 3, 4, 5, 6, 7, 8, 9, 10, 11, 12, 13, 14, 15, 16, 17, 18, 19, 21, 20, 22, 23, 24, 25, 26, 27] (by decide +kernel) [99999] (by decide +kernel) fun R12 hR12 => ?_
      rcases (Bool.eq_false_or_eq_true ((x0.op != 100))) with h7_0 | h7_0
      ·simp only [Term.v_eq, h7_0, ty3, ty4, ty41, ty49, List.append_eq, aml, Nat.reduceBEq, tstO, am, seval, reduceCtorEq]
       refine hR12 _ ?_; clear hR12 R12
       refine AWp.cond (t := true) (by simp only [tstO, am, seval, reduceCtorEq]) (fun _ => ?_) (fun h => by cases h)
       refine AWp.exit ?_
       simp only [exq, seval]
       refine hK6 _ ?_; clear hK6
       refine AWp.reg1 fun R13 hR13 => ?_
       simp only [ty3, tstO, am, seval, reduceCtorEq]
       refine hR13 _ ?_; clear hR13 R13
       refine ⟨(1, s1), ⟨⟨by show (1 : Nat) ≤ 2; decide, ?_⟩, by show 2 - 1 < 2 - 0; decide⟩, ?_⟩
       ·have e : side0 t k = [] := by simp only [side0, side, sideBad, ha, k00, k01, h7_0, hE1, bo, ↓reduceIte, Bool.false_eq_true, ite_self]
        rw [upTo]; rw [upTo] at hH; rw [e]; exact hH
       ·refine le_tstO ?_ ?_ ?_ (Heap.le.refl _) rfl
        ·simp only [leE, yieldV, Term.v_eq, ha, List.map_cons, List.map_nil, h7_0, hE1, tstO, am, seval, reduceCtorEq]; (try rw [wrap_id (by decide) (by decide)]) <;> simp
        ·simp only [okL, yieldV, and_self]
        ·simp only [leB]
      ·rcases (Bool.eq_false_or_eq_true (x0.neg)) with h7_1 | h7_1
       ·simp only [Term.v_eq, h7_0, h7_1, ty3, ty4, ty41, ty49, List.append_eq, aml, Nat.reduceBEq, tstO, am, seval, reduceCtorEq]
        refine hR12 _ ?_; clear hR12 R12
        refine AWp.cond (t := true) (by simp only [tstO, am, seval, reduceCtorEq]) (fun _ => ?_) (fun h => by cases h)
        refine AWp.exit ?_
        simp only [exq, seval]
        refine hK6 _ ?_; clear hK6
        refine AWp.reg1 fun R13 hR13 => ?_
        simp only [ty3, tstO, am, seval, reduceCtorEq]
        refine hR13 _ ?_; clear hR13 R13
        refine ⟨(1, s1), ⟨⟨by show (1 : Nat) ≤ 2; decide, ?_⟩, by show 2 - 1 < 2 - 0; decide⟩, ?_⟩
        ·have e : side0 t k = [] := by simp only [side0, side, sideBad, ha, k00, k01, h7_0, h7_1, hE1, bo, ↓reduceIte, Bool.false_eq_true, ite_self]
         rw [upTo]; rw [upTo] at hH; rw [e]; exact hH
        ·refine le_tstO ?_ ?_ ?_ (Heap.le.refl _) rfl
         ·simp only [leE, yieldV, Term.v_eq, ha, List.map_cons, List.map_nil, h7_0, h7_1, hE1, tstO, am, seval, reduceCtorEq]; (try rw [wrap_id (by decide) (by decide)]) <;> simp
         ·simp only [okL, yieldV, and_self]
         ·simp only [leB]
       ·rcases (Bool.eq_false_or_eq_true ((x0.n != 0))) with h7_2 | h7_2
        ·simp only [Term.v_eq, h7_0, h7_1, h7_2, ty3, ty4, ty41, ty49, List.append_eq, aml, Nat.reduceBEq, tstO, am, seval, reduceCtorEq]
         refine hR12 _ ?_; clear hR12 R12
         refine AWp.cond (t := true) (by simp only [tstO, am, seval, reduceCtorEq]) (fun _ => ?_) (fun h => by cases h)
         refine AWp.exit ?_
         simp only [exq, seval]
         refine hK6 _ ?_; clear hK6
         refine AWp.reg1 fun R13 hR13 => ?_
         simp only [ty3, tstO, am, seval, reduceCtorEq]
         refine hR13 _ ?_; clear hR13 R13
         refine ⟨(1, s1), ⟨⟨by show (1 : Nat) ≤ 2; decide, ?_⟩, by show 2 - 1 < 2 - 0; decide⟩, ?_⟩
         ·have e : side0 t k = [] := by simp only [side0, side, sideBad, ha, k00, k01, h7_0, h7_1, h7_2, hE1, bo, ↓reduceIte, Bool.false_eq_true, ite_self]
          rw [upTo]; rw [upTo] at hH; rw [e]; exact hH
         ·refine le_tstO ?_ ?_ ?_ (Heap.le.refl _) rfl
          ·simp only [leE, yieldV, Term.v_eq, ha, List.map_cons, List.map_nil, h7_0, h7_1, h7_2, hE1, tstO, am, seval, reduceCtorEq]; (try rw [wrap_id (by decide) (by decide)]) <;> simp
          ·simp only [okL, yieldV, and_self]
          ·simp only [leB]
        ·rcases (Bool.eq_false_or_eq_true ((x0.frm != k))) with h7_3 | h7_3
         ·simp only [Term.v_eq, h7_0, h7_1, h7_2, h7_3, ty3, ty4, ty41, ty49, List.append_eq, aml, Nat.reduceBEq, tstO, am, seval, reduceCtorEq]
          refine hR12 _ ?_; clear hR12 R12
          refine AWp.cond (t := true) (by simp only [tstO, am, seval, reduceCtorEq]) (fun _ => ?_) (fun h => by cases h)
          refine AWp.exit ?_
          simp only [exq, seval]
          refine hK6 _ ?_; clear hK6
          refine AWp.reg1 fun R13 hR13 => ?_
          simp only [ty3, tstO, am, seval, reduceCtorEq]
          refine hR13 _ ?_; clear hR13 R13
          refine ⟨(1, s1), ⟨⟨by show (1 : Nat) ≤ 2; decide, ?_⟩, by show 2 - 1 < 2 - 0; decide⟩, ?_⟩
          ·have e : side0 t k = [] := by simp only [side0, side, sideBad, ha, k00, k01, h7_0, h7_1, h7_2, h7_3, hE1, bo, ↓reduceIte, Bool.false_eq_true, ite_self]
           rw [upTo]; rw [upTo] at hH; rw [e]; exact hH
          ·refine le_tstO ?_ ?_ ?_ (Heap.le.refl _) rfl
           ·simp only [leE, yieldV, Term.v_eq, ha, List.map_cons, List.map_nil, h7_0, h7_1, h7_2, h7_3, hE1, tstO, am, seval, reduceCtorEq]; (try rw [wrap_id (by decide) (by decide)]) <;> simp
           ·simp only [okL, yieldV, and_self]
           ·simp only [leB]
         ·rcases (Bool.eq_false_or_eq_true ((reachT x1).any (k == ·))) with h7_4 | h7_4
          ·simp only [Term.v_eq, h7_0, h7_1, h7_2, h7_3, h7_4, ty3, ty4, ty41, ty49, List.append_eq, aml, Nat.reduceBEq, tstO, am, seval, reduceCtorEq]
           rw [← Term.v_eq]
           refine (f11_spec x1 (by omega) _).mono fun v' s' h => ?_
           rw [h.1, h.2]; clear h v' s'
           simp only [Term.v_eq, h7_0, h7_1, h7_2, h7_3, h7_4, ty3, ty4, ty41, ty49, List.append_eq, aml, Nat.reduceBEq, tstO, am, seval, reduceCtorEq]
           refine (f47_spec (reachT x1) k _).mono fun v' s' h => ?_
           rw [h.1, h.2]; clear h v' s'
           simp only [Term.v_eq, h7_0, h7_1, h7_2, h7_3, h7_4, ty3, ty4, ty41, ty49, List.append_eq, aml, Nat.reduceBEq, tstO, am, seval, reduceCtorEq]
           refine hR12 _ ?_; clear hR12 R12
           refine AWp.cond (t := true) (by simp only [tstO, am, seval, reduceCtorEq]) (fun _ => ?_) (fun h => by cases h)
           refine AWp.exit ?_
           simp only [exq, seval]
           refine hK6 _ ?_; clear hK6
           refine AWp.reg1 fun R13 hR13 => ?_
           simp only [ty3, tstO, am, seval, reduceCtorEq]
           refine hR13 _ ?_; clear hR13 R13
           refine ⟨(1, s1), ⟨⟨by show (1 : Nat) ≤ 2; decide, ?_⟩, by show 2 - 1 < 2 - 0; decide⟩, ?_⟩
           ·have e : side0 t k = [] := by simp only [side0, side, sideBad, ha, k00, k01, h7_0, h7_1, h7_2, h7_3, h7_4, hE1, bo, ↓reduceIte, Bool.false_eq_true, ite_self]
            rw [upTo]; rw [upTo] at hH; rw [e]; exact hH
           ·refine le_tstO ?_ ?_ ?_ (Heap.le.refl _) rfl
            ·simp only [leE, yieldV, Term.v_eq, ha, List.map_cons, List.map_nil, h7_0, h7_1, h7_2, h7_3, h7_4, hE1, tstO, am, seval, reduceCtorEq]; (try rw [wrap_id (by decide) (by decide)]) <;> simp
            ·simp only [okL, yieldV, and_self]
            ·simp only [leB]
          ·simp only [Term.v_eq, h7_0, h7_1, h7_2, h7_3, h7_4, ty3, ty4, ty41, ty49, List.append_eq, aml, Nat.reduceBEq, tstO, am, seval, reduceCtorEq]
           rw [← Term.v_eq]
           refine (f11_spec x1 (by omega) _).mono fun v' s' h => ?_
           rw [h.1, h.2]; clear h v' s'
           simp only [Term.v_eq, h7_0, h7_1, h7_2, h7_3, h7_4, ty3, ty4, ty41, ty49, List.append_eq, aml, Nat.reduceBEq, tstO, am, seval, reduceCtorEq]
           refine (f47_spec (reachT x1) k _).mono fun v' s' h => ?_
           rw [h.1, h.2]; clear h v' s'
           simp only [Term.v_eq, h7_0, h7_1, h7_2, h7_3, h7_4, ty3, ty4, ty41, ty49, List.append_eq, aml, Nat.reduceBEq, tstO, am, seval, reduceCtorEq]
           rw [← Term.v_eq]
           refine (selects_ok x1 _).mono fun v' s' h => ?_
           rw [h.1, h.2]; clear h v' s'
           simp only [Term.v_eq, h7_0, h7_1, h7_2, h7_3, h7_4, ty3, ty4, ty41, ty49, List.append_eq, aml, Nat.reduceBEq, tstO, am, seval, reduceCtorEq]
           refine hR12 _ ?_; clear hR12 R12
           refine AWp.cond (t := (selects x1)) (by simp only [tstO, am, seval, reduceCtorEq]) (fun hE2 => ?_) (fun hE2 => ?_)
           ·refine AWp.exit ?_
            simp only [exq, seval]
            refine hK6 _ ?_; clear hK6
            refine AWp.reg1 fun R13 hR13 => ?_
            simp only [ty3, tstO, am, seval, reduceCtorEq]
            refine hR13 _ ?_; clear hR13 R13
            refine ⟨(1, s1), ⟨⟨by show (1 : Nat) ≤ 2; decide, ?_⟩, by show 2 - 1 < 2 - 0; decide⟩, ?_⟩
            ·have e : side0 t k = [] := by simp only [side0, side, sideBad, ha, k00, k01, h7_0, h7_1, h7_2, h7_3, h7_4, hE1, hE2, bo, ↓reduceIte, Bool.false_eq_true, ite_self]
             rw [upTo]; rw [upTo] at hH; rw [e]; exact hH
            ·refine le_tstO ?_ ?_ ?_ (Heap.le.refl _) rfl
             ·simp only [leE, yieldV, Term.v_eq, ha, List.map_cons, List.map_nil, h7_0, h7_1, h7_2, h7_3, h7_4, hE1, hE2, tstO, am, seval, reduceCtorEq]; (try rw [wrap_id (by decide) (by decide)]) <;> simp
             ·simp only [okL, yieldV, and_self]
             ·simp only [leB]
           ·refine AWp.skip ?_
            refine hK11 _ ?_; clear hK11
            refine AWp.reg fun R14 hR14 => ?_
            simp only [Term.v_eq, ty49, tstO, am, seval, reduceCtorEq]
            rw [← Term.v_eq]
            refine (f164_spec x1 t.l t.r _).mono fun v' s' h => ?_
            rw [h.1, h.2]; clear h v' s'
            simp only [Term.v_eq, ty49, tstO, am, seval, reduceCtorEq]
            refine hR14 _ ?_; clear hR14 R14
            rcases (Bool.eq_false_or_eq_true (endOk t.l t.r)) with hok | hok
            ·refine AWp.regY' 10 rfl (by decide +kernel) fun R15 hR15 => ?_
             simp only [k12, k13, k14, hok, Term.v_eq, ty3, ty45, ty49, ty197, tstO, am, seval, reduceCtorEq]
             refine ⟨?_, ?_, l, [.agg (Said.v ⟨t.op, x0.col, t.coll, endT x1 t.l t.r⟩)], _, ?_, ?_, hY _ ⟨t.op, x0.col, t.coll, endT x1 t.l t.r⟩ _ hH (upTo_lt t k 0 (by decide)), ?_⟩
             ·simp only [gdOf, List.getElem?_toArray, tst, tstO, am, seval, reduceCtorEq]
             ·simp only [tstO, am, seval, reduceCtorEq]
             ·simp only [yieldV, tstO, am, seval, reduceCtorEq]
             ·simp only [Said.v_eq, Term.v_eq, tstO, am, seval, reduceCtorEq]
             rintro _ s2 ⟨rfl, hH2⟩
             simp only [k15, k16, k17, Bool.not_true, hok, Term.v_eq, ty3, ty45, ty49, ty197, tstO, am, seval, reduceCtorEq]
             refine hR15 _ ?_; clear hR15 R15
             refine AWp.cond (t := false) (by simp only [tstO, am, seval, reduceCtorEq]) (fun h => by cases h) (fun _ => ?_)
             refine AWp.skip ?_
             refine hK6 _ ?_; clear hK6
             refine AWp.reg1 fun R16 hR16 => ?_
             simp only [ty3, tstO, am, seval, reduceCtorEq]
             refine hR16 _ ?_; clear hR16 R16
             refine ⟨(1, s2), ⟨⟨by show (1 : Nat) ≤ 2; decide, ?_⟩, by show 2 - 1 < 2 - 0; decide⟩, ?_⟩
             ·have e : side0 t k = [⟨t.op, x0.col, t.coll, endT x1 t.l t.r⟩] := by simp only [side0, side, sideBad, ha, k00, k01, h7_0, h7_1, h7_2, h7_3, h7_4, hok, hE1, hE2, bo, ↓reduceIte, Bool.false_eq_true]
              rw [upTo]; rw [upTo] at hH2; rw [e]; exact hH2
             ·refine le_tstO ?_ ?_ ?_ (Heap.le.refl _) rfl
              ·simp only [leE, yieldV, Term.v_eq, ha, List.map_cons, List.map_nil, h7_0, h7_1, h7_2, h7_3, h7_4, hok, hE1, hE2, tstO, am, seval, reduceCtorEq]; (try rw [wrap_id (by decide) (by decide)]) <;> simp
              ·simp only [okL, yieldV, and_self]
              ·simp only [leB]
            ·refine AWp.reg fun R15 hR15 => ?_
             simp only [hok, Term.v_eq, ty3, ty45, ty49, ty197, tstO, am, seval, reduceCtorEq]
             refine hR15 _ ?_; clear hR15 R15
             refine AWp.cond (t := false) (by simp only [tstO, am, seval, reduceCtorEq]) (fun h => by cases h) (fun _ => ?_)
             refine AWp.skip ?_
             refine hK6 _ ?_; clear hK6
             refine AWp.reg1 fun R16 hR16 => ?_
             simp only [ty3, tstO, am, seval, reduceCtorEq]
             refine hR16 _ ?_; clear hR16 R16
             refine ⟨(1, s1), ⟨⟨by show (1 : Nat) ≤ 2; decide, ?_⟩, by show 2 - 1 < 2 - 0; decide⟩, ?_⟩
             ·have e : side0 t k = [] := by simp only [side0, side, sideBad, ha, k00, k01, h7_0, h7_1, h7_2, h7_3, h7_4, hok, hE1, hE2, bo, ↓reduceIte, Bool.false_eq_true, ite_self]
              rw [upTo]; rw [upTo] at hH; rw [e]; exact hH
             ·refine le_tstO ?_ ?_ ?_ (Heap.le.refl _) rfl
              ·simp only [leE, yieldV, Term.v_eq, ha, List.map_cons, List.map_nil, h7_0, h7_1, h7_2, h7_3, h7_4, hok, hE1, hE2, tstO, am, seval, reduceCtorEq]; (try rw [wrap_id (by decide) (by decide)]) <;> simp
              ·simp only [okL, yieldV, and_self]
              ·simp only [leB]
     ·refine AWp.skip ?_
      refine hK5 _ ?_; clear hK5
      refine AWp.seq_k fun K6 hK6 => ?_
      refine AWp.block ?_
      refine AWp.reg fun R7 hR7 => ?_
      simp only [tstO, am, seval, reduceCtorEq]
      refine hR7 _ ?_; clear hR7 R7
      refine AWp.regL mixed [0, 1, 2, 3, 4, 5, 6, 7, 8, 9, 10, 11, 12, 13, 14, 15, 16, 17, 18, 19, 20] (by decide +kernel) [5, 6, 99999] (by decide +kernel) fun R8 hR8 => ?_
      simp only [Term.v_eq, ha, ix0, ix1, ix2, ix3, true_and, Int.toNat_zero, Int.toNat_one, List.map_cons, List.map_nil, ty31, ty41, ty46, ty49, aml, Nat.reduceBEq, tstO, am, seval, reduceCtorEq]
      refine hR8 _ ?_; clear hR8 R8
      refine AWp.seq_k fun K9 hK9 => ?_
      refine AWp.reg fun R10 hR10 => ?_
      simp only [hi1, ty3, tstO, am, seval, reduceCtorEq]
      refine hR10 _ ?_; clear hR10 R10
      refine AWp.cond (t := true) (by simp only [tstO, am, seval, reduceCtorEq]) (fun _ => ?_) (fun h => by cases h)
      refine AWp.regL1 mixed [0, 1, 2, 3, 4, 5, 6, 7, 8, 9, 10] (by decide +kernel) [99999] (by decide +kernel) fun R11 hR11 => ?_
      simp only [ty49, aml, Nat.reduceBEq, tstO, am, seval, reduceCtorEq]
      refine (f162_spec t.op _).mono fun v' s' h => ?_
      rw [h.1, h.2]; clear h v' s'
      simp only [ty49, aml, Nat.reduceBEq, tstO, am, seval, reduceCtorEq]
      refine hR11 _ ?_; clear hR11 R11
      refine hK9 _ ?_; clear hK9
      refine AWp.seq_k fun K12 hK12 => ?_
      refine AWp.regL mixed [0, 1, 2, 3, 4, 5, 6, 7, 8, 9, 10, 11, 12, 13, 14, 15, 16, 17, 18, 19, 21, 20, 22, 23, 24, 25, 26, 27] (by decide +kernel) [99999] (by decide +kernel) fun R13 hR13 => ?_
      rcases (Bool.eq_false_or_eq_true ((x1.op != 100))) with h7_0 | h7_0
      ·simp only [Term.v_eq, h7_0, ty3, ty4, ty41, ty49, List.append_eq, aml, Nat.reduceBEq, tstO, am, seval, reduceCtorEq]
       refine hR13 _ ?_; clear hR13 R13
       refine AWp.cond (t := true) (by simp only [tstO, am, seval, reduceCtorEq]) (fun _ => ?_) (fun h => by cases h)
       refine AWp.exit ?_
       simp only [exq, seval]
       refine hK6 _ ?_; clear hK6
       refine AWp.reg1 fun R14 hR14 => ?_
       simp only [ty3, tstO, am, seval, reduceCtorEq]
       refine hR14 _ ?_; clear hR14 R14
       refine ⟨(2, s1), ⟨⟨by show (2 : Nat) ≤ 2; decide, ?_⟩, by show 2 - 2 < 2 - 1; decide⟩, ?_⟩
       ·have e : side1 t k = [] := by simp only [side1, side, sideBad, ha, k00, k01, h7_0, hE1, bo, ↓reduceIte, Bool.false_eq_true, ite_self]
        rw [upTo]; rw [upTo] at hH; rw [e, List.append_nil]; exact hH
       ·refine le_tstO ?_ ?_ ?_ (Heap.le.refl _) rfl
        ·simp only [leE, yieldV, Term.v_eq, ha, List.map_cons, List.map_nil, h7_0, hE1, tstO, am, seval, reduceCtorEq]; (try rw [wrap_id (by decide) (by decide)]) <;> simp
        ·simp only [okL, yieldV, and_self]
        ·simp only [leB]
      ·rcases (Bool.eq_false_or_eq_true (x1.neg)) with h7_1 | h7_1
       ·simp only [Term.v_eq, h7_0, h7_1, ty3, ty4, ty41, ty49, List.append_eq, aml, Nat.reduceBEq, tstO, am, seval, reduceCtorEq]
        refine hR13 _ ?_; clear hR13 R13
        refine AWp.cond (t := true) (by simp only [tstO, am, seval, reduceCtorEq]) (fun _ => ?_) (fun h => by cases h)
        refine AWp.exit ?_
        simp only [exq, seval]
        refine hK6 _ ?_; clear hK6
        refine AWp.reg1 fun R14 hR14 => ?_
        simp only [ty3, tstO, am, seval, reduceCtorEq]
        refine hR14 _ ?_; clear hR14 R14
        refine ⟨(2, s1), ⟨⟨by show (2 : Nat) ≤ 2; decide, ?_⟩, by show 2 - 2 < 2 - 1; decide⟩, ?_⟩
        ·have e : side1 t k = [] := by simp only [side1, side, sideBad, ha, k00, k01, h7_0, h7_1, hE1, bo, ↓reduceIte, Bool.false_eq_true, ite_self]
         rw [upTo]; rw [upTo] at hH; rw [e, List.append_nil]; exact hH
        ·refine le_tstO ?_ ?_ ?_ (Heap.le.refl _) rfl
         ·simp only [leE, yieldV, Term.v_eq, ha, List.map_cons, List.map_nil, h7_0, h7_1, hE1, tstO, am, seval, reduceCtorEq]; (try rw [wrap_id (by decide) (by decide)]) <;> simp
         ·simp only [okL, yieldV, and_self]
         ·simp only [leB]
       ·rcases (Bool.eq_false_or_eq_true ((x1.n != 0))) with h7_2 | h7_2
        ·simp only [Term.v_eq, h7_0, h7_1, h7_2, ty3, ty4, ty41, ty49, List.append_eq, aml, Nat.reduceBEq, tstO, am, seval, reduceCtorEq]
         refine hR13 _ ?_; clear hR13 R13
         refine AWp.cond (t := true) (by simp only [tstO, am, seval, reduceCtorEq]) (fun _ => ?_) (fun h => by cases h)
         refine AWp.exit ?_
         simp only [exq, seval]
         refine hK6 _ ?_; clear hK6
         refine AWp.reg1 fun R14 hR14 => ?_
         simp only [ty3, tstO, am, seval, reduceCtorEq]
         refine hR14 _ ?_; clear hR14 R14
         refine ⟨(2, s1), ⟨⟨by show (2 : Nat) ≤ 2; decide, ?_⟩, by show 2 - 2 < 2 - 1; decide⟩, ?_⟩
         ·have e : side1 t k = [] := by simp only [side1, side, sideBad, ha, k00, k01, h7_0, h7_1, h7_2, hE1, bo, ↓reduceIte, Bool.false_eq_true, ite_self]
          rw [upTo]; rw [upTo] at hH; rw [e, List.append_nil]; exact hH
         ·refine le_tstO ?_ ?_ ?_ (Heap.le.refl _) rfl
          ·simp only [leE, yieldV, Term.v_eq, ha, List.map_cons, List.map_nil, h7_0, h7_1, h7_2, hE1, tstO, am, seval, reduceCtorEq]; (try rw [wrap_id (by decide) (by decide)]) <;> simp
          ·simp only [okL, yieldV, and_self]
          ·simp only [leB]
        ·rcases (Bool.eq_false_or_eq_true ((x1.frm != k))) with h7_3 | h7_3
         ·simp only [Term.v_eq, h7_0, h7_1, h7_2, h7_3, ty3, ty4, ty41, ty49, List.append_eq, aml, Nat.reduceBEq, tstO, am, seval, reduceCtorEq]
          refine hR13 _ ?_; clear hR13 R13
          refine AWp.cond (t := true) (by simp only [tstO, am, seval, reduceCtorEq]) (fun _ => ?_) (fun h => by cases h)
          refine AWp.exit ?_
          simp only [exq, seval]
          refine hK6 _ ?_; clear hK6
          refine AWp.reg1 fun R14 hR14 => ?_
          simp only [ty3, tstO, am, seval, reduceCtorEq]
          refine hR14 _ ?_; clear hR14 R14
          refine ⟨(2, s1), ⟨⟨by show (2 : Nat) ≤ 2; decide, ?_⟩, by show 2 - 2 < 2 - 1; decide⟩, ?_⟩
          ·have e : side1 t k = [] := by simp only [side1, side, sideBad, ha, k00, k01, h7_0, h7_1, h7_2, h7_3, hE1, bo, ↓reduceIte, Bool.false_eq_true, ite_self]
           rw [upTo]; rw [upTo] at hH; rw [e, List.append_nil]; exact hH
          ·refine le_tstO ?_ ?_ ?_ (Heap.le.refl _) rfl
           ·simp only [leE, yieldV, Term.v_eq, ha, List.map_cons, List.map_nil, h7_0, h7_1, h7_2, h7_3, hE1, tstO, am, seval, reduceCtorEq]; (try rw [wrap_id (by decide) (by decide)]) <;> simp
           ·simp only [okL, yieldV, and_self]
           ·simp only [leB]
         ·rcases (Bool.eq_false_or_eq_true ((reachT x0).any (k == ·))) with h7_4 | h7_4
          ·simp only [Term.v_eq, h7_0, h7_1, h7_2, h7_3, h7_4, ty3, ty4, ty41, ty49, List.append_eq, aml, Nat.reduceBEq, tstO, am, seval, reduceCtorEq]
           rw [← Term.v_eq]
           refine (f11_spec x0 (by omega) _).mono fun v' s' h => ?_
           rw [h.1, h.2]; clear h v' s'
           simp only [Term.v_eq, h7_0, h7_1, h7_2, h7_3, h7_4, ty3, ty4, ty41, ty49, List.append_eq, aml, Nat.reduceBEq, tstO, am, seval, reduceCtorEq]
           refine (f47_spec (reachT x0) k _).mono fun v' s' h => ?_
           rw [h.1, h.2]; clear h v' s'
           simp only [Term.v_eq, h7_0, h7_1, h7_2, h7_3, h7_4, ty3, ty4, ty41, ty49, List.append_eq, aml, Nat.reduceBEq, tstO, am, seval, reduceCtorEq]
           refine hR13 _ ?_; clear hR13 R13
           refine AWp.cond (t := true) (by simp only [tstO, am, seval, reduceCtorEq]) (fun _ => ?_) (fun h => by cases h)
           refine AWp.exit ?_
           simp only [exq, seval]
           refine hK6 _ ?_; clear hK6
           refine AWp.reg1 fun R14 hR14 => ?_
           simp only [ty3, tstO, am, seval, reduceCtorEq]
           refine hR14 _ ?_; clear hR14 R14
           refine ⟨(2, s1), ⟨⟨by show (2 : Nat) ≤ 2; decide, ?_⟩, by show 2 - 2 < 2 - 1; decide⟩, ?_⟩
           ·have e : side1 t k = [] := by simp only [side1, side, sideBad, ha, k00, k01, h7_0, h7_1, h7_2, h7_3, h7_4, hE1, bo, ↓reduceIte, Bool.false_eq_true, ite_self]
            rw [upTo]; rw [upTo] at hH; rw [e, List.append_nil]; exact hH
           ·refine le_tstO ?_ ?_ ?_ (Heap.le.refl _) rfl
            ·simp only [leE, yieldV, Term.v_eq, ha, List.map_cons, List.map_nil, h7_0, h7_1, h7_2, h7_3, h7_4, hE1, tstO, am, seval, reduceCtorEq]; (try rw [wrap_id (by decide) (by decide)]) <;> simp
            ·simp only [okL, yieldV, and_self]
            ·simp only [leB]
          ·simp only [Term.v_eq, h7_0, h7_1, h7_2, h7_3, h7_4, ty3, ty4, ty41, ty49, List.append_eq, aml, Nat.reduceBEq, tstO, am, seval, reduceCtorEq]
           rw [← Term.v_eq]
           refine (f11_spec x0 (by omega) _).mono fun v' s' h => ?_
           rw [h.1, h.2]; clear h v' s'
           simp only [Term.v_eq, h7_0, h7_1, h7_2, h7_3, h7_4, ty3, ty4, ty41, ty49, List.append_eq, aml, Nat.reduceBEq, tstO, am, seval, reduceCtorEq]
           refine (f47_spec (reachT x0) k _).mono fun v' s' h => ?_
           rw [h.1, h.2]; clear h v' s'
           simp only [Term.v_eq, h7_0, h7_1, h7_2, h7_3, h7_4, ty3, ty4, ty41, ty49, List.append_eq, aml, Nat.reduceBEq, tstO, am, seval, reduceCtorEq]
           rw [← Term.v_eq]
           refine (selects_ok x0 _).mono fun v' s' h => ?_
           rw [h.1, h.2]; clear h v' s'
           simp only [Term.v_eq, h7_0, h7_1, h7_2, h7_3, h7_4, ty3, ty4, ty41, ty49, List.append_eq, aml, Nat.reduceBEq, tstO, am, seval, reduceCtorEq]
           refine hR13 _ ?_; clear hR13 R13
           refine AWp.cond (t := (selects x0)) (by simp only [tstO, am, seval, reduceCtorEq]) (fun hE2 => ?_) (fun hE2 => ?_)
           ·refine AWp.exit ?_
            simp only [exq, seval]
            refine hK6 _ ?_; clear hK6
            refine AWp.reg1 fun R14 hR14 => ?_
            simp only [ty3, tstO, am, seval, reduceCtorEq]
            refine hR14 _ ?_; clear hR14 R14
            refine ⟨(2, s1), ⟨⟨by show (2 : Nat) ≤ 2; decide, ?_⟩, by show 2 - 2 < 2 - 1; decide⟩, ?_⟩
            ·have e : side1 t k = [] := by simp only [side1, side, sideBad, ha, k00, k01, h7_0, h7_1, h7_2, h7_3, h7_4, hE1, hE2, bo, ↓reduceIte, Bool.false_eq_true, ite_self]
             rw [upTo]; rw [upTo] at hH; rw [e, List.append_nil]; exact hH
            ·refine le_tstO ?_ ?_ ?_ (Heap.le.refl _) rfl
             ·simp only [leE, yieldV, Term.v_eq, ha, List.map_cons, List.map_nil, h7_0, h7_1, h7_2, h7_3, h7_4, hE1, hE2, tstO, am, seval, reduceCtorEq]; (try rw [wrap_id (by decide) (by decide)]) <;> simp
             ·simp only [okL, yieldV, and_self]
             ·simp only [leB]
           ·refine AWp.skip ?_
            refine hK12 _ ?_; clear hK12
            refine AWp.reg fun R15 hR15 => ?_
            simp only [Term.v_eq, ty49, tstO, am, seval, reduceCtorEq]
            rw [← Term.v_eq]
            refine (f164_spec x0 t.r t.l _).mono fun v' s' h => ?_
            rw [h.1, h.2]; clear h v' s'
            simp only [Term.v_eq, ty49, tstO, am, seval, reduceCtorEq]
            refine hR15 _ ?_; clear hR15 R15
            rcases (Bool.eq_false_or_eq_true (endOk t.r t.l)) with hok | hok
            ·refine AWp.regY' 10 rfl (by decide +kernel) fun R16 hR16 => ?_
             simp only [k12, k13, k14, hok, Term.v_eq, ty3, ty45, ty49, ty197, tstO, am, seval, reduceCtorEq]
             refine ⟨?_, ?_, l, [.agg (Said.v ⟨(turned t.op), x1.col, t.coll, endT x0 t.r t.l⟩)], _, ?_, ?_, hY _ ⟨(turned t.op), x1.col, t.coll, endT x0 t.r t.l⟩ _ hH (upTo_lt t k 1 (by decide)), ?_⟩
             ·simp only [gdOf, List.getElem?_toArray, tst, tstO, am, seval, reduceCtorEq]
             ·simp only [tstO, am, seval, reduceCtorEq]
             ·simp only [yieldV, tstO, am, seval, reduceCtorEq]
             ·simp only [Said.v_eq, Term.v_eq, tstO, am, seval, reduceCtorEq]
             rintro _ s2 ⟨rfl, hH2⟩
             simp only [k15, k16, k17, Bool.not_true, hok, Term.v_eq, ty3, ty45, ty49, ty197, tstO, am, seval, reduceCtorEq]
             refine hR16 _ ?_; clear hR16 R16
             refine AWp.cond (t := false) (by simp only [tstO, am, seval, reduceCtorEq]) (fun h => by cases h) (fun _ => ?_)
             refine AWp.skip ?_
             refine hK6 _ ?_; clear hK6
             refine AWp.reg1 fun R17 hR17 => ?_
             simp only [ty3, tstO, am, seval, reduceCtorEq]
             refine hR17 _ ?_; clear hR17 R17
             refine ⟨(2, s2), ⟨⟨by show (2 : Nat) ≤ 2; decide, ?_⟩, by show 2 - 2 < 2 - 1; decide⟩, ?_⟩
             ·have e : side1 t k = [⟨(turned t.op), x1.col, t.coll, endT x0 t.r t.l⟩] := by simp only [side1, side, sideBad, ha, k00, k01, h7_0, h7_1, h7_2, h7_3, h7_4, hok, hE1, hE2, bo, ↓reduceIte, Bool.false_eq_true]
              rw [upTo]; rw [upTo] at hH2; rw [e]; exact hH2
             ·refine le_tstO ?_ ?_ ?_ (Heap.le.refl _) rfl
              ·simp only [leE, yieldV, Term.v_eq, ha, List.map_cons, List.map_nil, h7_0, h7_1, h7_2, h7_3, h7_4, hok, hE1, hE2, tstO, am, seval, reduceCtorEq]; (try rw [wrap_id (by decide) (by decide)]) <;> simp
              ·simp only [okL, yieldV, and_self]
              ·simp only [leB]
            ·refine AWp.reg fun R16 hR16 => ?_
             simp only [hok, Term.v_eq, ty3, ty45, ty49, ty197, tstO, am, seval, reduceCtorEq]
             refine hR16 _ ?_; clear hR16 R16
             refine AWp.cond (t := false) (by simp only [tstO, am, seval, reduceCtorEq]) (fun h => by cases h) (fun _ => ?_)
             refine AWp.skip ?_
             refine hK6 _ ?_; clear hK6
             refine AWp.reg1 fun R17 hR17 => ?_
             simp only [ty3, tstO, am, seval, reduceCtorEq]
             refine hR17 _ ?_; clear hR17 R17
             refine ⟨(2, s1), ⟨⟨by show (2 : Nat) ≤ 2; decide, ?_⟩, by show 2 - 2 < 2 - 1; decide⟩, ?_⟩
             ·have e : side1 t k = [] := by simp only [side1, side, sideBad, ha, k00, k01, h7_0, h7_1, h7_2, h7_3, h7_4, hok, hE1, hE2, bo, ↓reduceIte, Bool.false_eq_true, ite_self]
              rw [upTo]; rw [upTo] at hH; rw [e, List.append_nil]; exact hH
             ·refine le_tstO ?_ ?_ ?_ (Heap.le.refl _) rfl
              ·simp only [leE, yieldV, Term.v_eq, ha, List.map_cons, List.map_nil, h7_0, h7_1, h7_2, h7_3, h7_4, hok, hE1, hE2, tstO, am, seval, reduceCtorEq]; (try rw [wrap_id (by decide) (by decide)]) <;> simp
              ·simp only [okL, yieldV, and_self]
              ·simp only [leB]
    ·have h2 : ¬ i < 2 := by have := of_decide_eq_false ht; omega
     obtain rfl : i = 2 := by omega
     refine AWp.exit ?_
     simp only [exq, seval]
     refine ret_intro (vs := []) rfl (Wk.refl _) (Heap.le.refl _) ?_
     rw [upTo] at hH; rw [says, if_neg (by rw [hbad]; decide)]; exact hH
theorem le_round {s : Heap} {g1 g2 b2 b5 : Nat} {x y : TypeId × Nat} {c1 c2 c5 : List V × TypeId} (h1 : s.own g1 = none) (h5 : s.box b5 = none) (hne : b5 ≠ b2) :
  (((((((s.setOwn g1 (some x)).setBox b2 c1).setBox b5 c5).setOwn g1 none).setOwn g2 (some y)).setBox b2 c2)).le ((s.setOwn g2 (some y)).setBox b2 c2) := by
 refine ⟨fun b => ?_, fun g => ?_⟩
 ·simp only [Heap.setOwn, Heap.setBox]
  by_cases e : b = b2
  ·subst e; exact .inl (by simp only [upd_same])
  ·simp only [upd_other _ _ _ _ e]
   by_cases e5 : b = b5
   ·subst e5; exact .inr h5
   ·exact .inl (by simp only [upd_other _ _ _ _ e5, upd_other _ _ _ _ e])
 ·simp only [Heap.setOwn, Heap.setBox]
  by_cases e : g = g2
  ·subst e; exact .inl (by simp only [upd_same])
  ·simp only [upd_other _ _ _ _ e]
   by_cases e1 : g = g1
   ·subst e1; exact .inr h1
   ·exact .inl (by simp only [upd_other _ _ _ _ e1])
theorem f151_spec (out : List Said) (hout : out.length ≤ 549890031616) (t : Term) (hw : t.w ≤ 274945015808) (k : Int) (s : Heap) (g : Nat) (hg : s.own g = none) :
    ACalls Tryz.prog 151 [.own g 17 (out.map Said.v), .func 161 [] [.elt t.v 0, .elt [vint k] 0]] (s.setOwn g (some (197, 17))) fun v s' => ∃ g', s.own g' = none ∧ v = .own g' 17 ((out ++ says k t).map Said.v) ∧ s' = s.setOwn g' (some (197, 17)) := by
 refine acalls_of (fn := Tryz.f151) Tryz.func151 rfl (by decide) (by show 2 ≤ 13; decide) ?_; rw [Tryz.ntmps151]; refine rg fun Z z' => ?_; simp only [amt, seval, reduceCtorEq]; refine z' _ ?_; clear z' Z; refine AWp.seq_k fun K2 hK2 => ?_; refine AWp.publish (t0 := 2) (x := ([.own g 17 (out.map Said.v)], 195)) (by simp only [am, seval, reduceCtorEq]) fun b2 hb2 => ?_; change s.box b2 = none at hb2; refine rg fun Z z' => ?_; simp only [St.publish, substV, am, seval, reduceCtorEq]; refine z' _ ?_; clear z' Z; refine AWp.weaken (st' := tst [(2, .ptr b2 0), (6, .func 161 [] [.elt t.v 0, .elt [vint k] 0])] [] ((s.setOwn g (some (197, 17))).setBox b2 ([.own g 17 (out.map Said.v)], 195)) 13) ?_ ?_
 ·refine lt0 ?_ ?_ ?_
  ·simp only [leE, am, seval, reduceCtorEq]
  ·simp only [okL, and_self]
  ·simp only [leB]
 refine AWp.block ?_; refine AWp.rangeFunc (fun x : Said => .agg x.v) (fun pre s' => ∃ g1, s.own g1 = none ∧ s' = (s.setOwn g1 (some (197, 17))).setBox b2 ([.own g1 17 ((out ++ pre).map Said.v)], 195)) (fun xs => xs = says k t) 2 (f := 161) (caps := [.elt t.v 0, .elt [vint k] 0]) (by simp only [am, seval, reduceCtorEq]) (by funext x; simp only [am, seval, reduceCtorEq]) (by simp only [am, seval, reduceCtorEq]) (by decide +kernel) (by decide +kernel) ?_ ?_ ?_
 ·rintro pre x _ ⟨g1, hg1, rfl⟩ hN K1 hK1; simp only [Said.v_eq, amt, seval, reduceCtorEq]; refine hK1 _ 5 x.v 197 (by simp only [Said.v_eq, am, seval, reduceCtorEq]; funext z; simp only [upd]; split <;> rfl) rfl rfl ?_; intro b5 hb5 KK hKK; have hne : b5 ≠ b2 := fun e => by
   subst e; rw [show (Heap.setBox (s.setOwn g1 (some (197, 17))) b5 ([.own g1 17 ((out ++ pre).map Said.v)], 195)).box b5 = some _ from upd_same _ _ _] at hb5; cases hb5
  have hb5' : s.box b5 = none := by
   have := hb5; change upd s.box b2 _ b5 = none at this; rwa [upd_other _ _ _ _ hne] at this
  have hx2 : ((((s.setOwn g1 (some (197, 17))).setBox b2 ([.own g1 17 ((out ++ pre).map Said.v)], 195)).setBox b5 (x.v, 197))).box b2 = some ([.own g1 17 ((out ++ pre).map Said.v)], 195) := by
   show upd (upd s.box b2 _) b5 _ b2 = _; rw [upd_other _ _ _ _ (Ne.symm hne), upd_same]
  have hx5 : ((((s.setOwn g1 (some (197, 17))).setBox b2 ([.own g1 17 ((out ++ pre).map Said.v)], 195)).setBox b5 (x.v, 197))).box b5 = some (x.v, 197) := upd_same _ _ _; rw [Said.v_eq x] at hx2 hx5; simp only [St.publish, substV, hx2, hx5, Said.v_eq x, amt, seval, reduceCtorEq]; refine ⟨own_same s g1 _, by simp only [List.length_map, List.length_append]; omega, by simp only [List.length_map, List.length_append, maxLen]; omega, fun g2 hg2 => ?_⟩; have hx2' : ((((((s.setOwn g1 (some (197, 17))).setBox b2 ([.own g1 17 ((out ++ pre).map Said.v)], 195)).setBox b5 (x.v, 197)).setOwn g1 none).setOwn g2 (some (197, 17)))).box b2 = some ([.own g1 17 ((out ++ pre).map Said.v)], 195) := by rw [Said.v_eq x]; exact hx2
  rw [Said.v_eq x] at hx2'; simp only [hx2', amt, seval, reduceCtorEq]; have hs2 : s.own g2 = none := own_fresh (x := (197, 17)) hg2; refine hKK _ ((s.setOwn g2 (some (197, 17))).setBox b2 ([.own g2 17 ((out ++ (pre ++ [x])).map Said.v)], 195)) ?_ ⟨g2, hs2, rfl⟩; have e : (out ++ (pre ++ [x])).map Said.v = (out ++ pre).map Said.v ++ [Said.v x] := by simp
  rw [e, Said.v_eq x]; exact le_round hg1 hb5' hne
 ·intro lo l hY; have hI := f161_spec t hw k (fun pre s' => ∃ g1, s.own g1 = none ∧ s' = (s.setOwn g1 (some (197, 17))).setBox b2 ([.own g1 17 ((out ++ pre).map Said.v)], 195)) lo l hY ((s.setOwn g (some (197, 17))).setBox b2 ([.own g 17 (out.map Said.v)], 195)) ⟨g, hg, by rw [List.append_nil]⟩; refine ⟨hI.1, fun G w cargs h1 h2 h3 => (hI.2 G w cargs h1 h2 h3).mono ?_⟩; rintro e w' ⟨G', s', v, cv, k1, k2, k3, k4, k5⟩; exact ⟨G', s', v, cv, k1, k2, k3, k4, says k t, rfl, k5⟩
 ·rintro xs _ D rfl ⟨g1, hg1, rfl⟩; refine hK2 _ ?_; clear hK2; have hbx : ((s.setOwn g1 (some (197, 17))).setBox b2 ([.own g1 17 ((out ++ says k t).map Said.v)], 195)).box b2 = some ([.own g1 17 ((out ++ says k t).map Said.v)], 195) := upd_same _ _ _; refine rg fun Z z' => ?_; simp only [hbx, amt, seval, reduceCtorEq]; refine z' _ ?_; clear z' Z; refine AWp.ret ?_; exact ret_intro (vs := [.own g1 17 ((out ++ says k t).map Said.v)]) rfl (Wk.refl _) ((Heap.le.refl (s.setOwn g1 (some (197, 17)))).setBox hb2 _) ⟨g1, hg1, rfl, rfl⟩
theorem flat_succ {α β : Type} (f : α → List β) (l : List α) {i : Nat} (h : i < l.length) : (l.take (i + 1)).flatMap f = (l.take i).flatMap f ++ f l[i] := by
 rw [List.take_succ_eq_append_getElem h, List.flatMap_append]; simp
theorem pre_len {α β : Type} {f : α → List β} (w : List β) (l : List α) (i : Nat) : (w ++ (l.take i).flatMap f).length ≤ (w ++ l.flatMap f).length := by
 have e : l.flatMap f = (l.take i).flatMap f ++ (l.drop i).flatMap f := by rw [← List.flatMap_append, List.take_append_drop]
 rw [e]; simp only [List.length_append]; omega
theorem says_flat_len (k : Int) (U : List Term) : ∀ i, ((U.take i).flatMap (says k)).length ≤ 2 * U.length := by
 induction U with
 | nil => simp
 | cons t U ih =>
  intro i
  cases i with
  | zero => simp
  | succ i =>
   have := ih i; have := says_len k t
   simp only [List.take_succ_cons, List.flatMap_cons, List.length_append, List.length_cons]; omega
theorem f124_spec (a : Arm) (k : Int) (hk0 : 0 ≤ k) (hk1 : k < a.frm.length) (hUw : ∀ t ∈ usableTerms a k, t.w ≤ 274945015808) (hUlen : (usableTerms a k).length ≤ 274911461376) (hWU : (a.whr ++ a.frm.flatMap innerOn).length ≤ 274911461376) (hF : a.frm.length ≤ 550024249344) : Gives Tryz.prog 124 [.agg a.v, vint k] (.slice 17 ((usable a k).map Said.v)) := by
 have ix0 : (0 ≤ k) = True := by simp [hk0]
 have ix1 : (k < ((a.frm.length : Nat) : Int)) = True := by simp [hk1]
 have hgd : (a.frm.map From.v).getD k.toNat [] = (a.src k).v := src_get a k hk0 hk1; intro s; refine acalls_of (fn := Tryz.f124) Tryz.func124 rfl (by decide) (by show 2 ≤ 55; decide) ?_; rw [Tryz.ntmps124]; refine rg fun Z z' => ?_; simp only [Arm.v_eq, amt, seval, reduceCtorEq]; refine z' _ ?_; clear z' Z; refine rg fun Z z' => ?_; simp only [am, seval, reduceCtorEq]; refine z' _ ?_; clear z' Z; refine AWp.seq_cut (ι := Unit) (fun _ => True) (fun _ => tst [(1, vint k), (5, .slice 14 ((usableTerms a k).map Term.v))] [] s 55) ?_ ?_
 ·refine rg fun Z z' => ?_; simp only [Arm.v_eq, ix0, ix1, true_and, hgd, From.v_eq, amt, seval, reduceCtorEq]; refine z' _ ?_; clear z' Z; refine AWp.cond (t := (a.src k).join == 1) (by simp only [am, seval, reduceCtorEq]) (fun hj => ?_) (fun hj => ?_)
  ·have hUT : usableTerms a k = (a.src k).on := by unfold usableTerms; rw [if_pos hj]
   refine rg1 fun Z z' => ?_; simp only [Arm.v_eq, ix0, ix1, true_and, hgd, From.v_eq, amt, seval, reduceCtorEq]; refine z' _ ?_; clear z' Z; refine ⟨(), trivial, ?_⟩; refine lt0 ?_ ?_ ?_
   ·simp only [leE, am, seval, reduceCtorEq]; rw [hUT]
   ·simp only [okL, and_self]
   ·simp only [leB]
  ·have hUT : usableTerms a k = a.whr ++ (a.frm.take a.frm.length).flatMap innerOn := by unfold usableTerms; rw [if_neg (by rw [hj]; decide), List.take_length]
   refine rg fun Z z' => ?_; simp only [Arm.v_eq, amt, seval, reduceCtorEq]; refine (f150_own _ (by rw [List.length_map]; rw [List.length_append] at hWU; omega) _).mono ?_; rintro _ _ ⟨g0, hg0, rfl, rfl⟩; simp only [Arm.v_eq, amt, seval, reduceCtorEq]; refine z' _ ?_; clear z' Z; refine rg fun Z z' => ?_; simp only [Arm.v_eq, amt, seval, reduceCtorEq]; refine z' _ ?_; clear z' Z; refine AWp.block ?_; refine AWp.loopT (ι := Nat × Nat) (fun i => i.1 ≤ a.frm.length ∧ s.own i.2 = none) (fun i => tst [(1, vint k), (5, .own i.2 14 ((a.whr ++ (a.frm.take i.1).flatMap innerOn).map Term.v)), (28, .slice 7 (a.frm.map From.v)), (29, vint a.frm.length), (30, vint i.1)] [] (s.setOwn i.2 (some (49, 14))) 55) (fun i => a.frm.length - i.1) (0, g0) ⟨⟨Nat.zero_le _, hg0⟩, ?_⟩ ?_
   ·refine lt0 ?_ ?_ ?_
    ·simp only [leE, am, seval, reduceCtorEq] <;> simp
    ·simp only [okL, and_self]
    ·simp only [leB]
   ·rintro ⟨i, g1⟩ ⟨hi, hg1⟩; simp only at hi hg1 ⊢; refine rg fun Z z' => ?_; simp only [amt, seval, reduceCtorEq]; refine z' _ ?_; clear z' Z; refine AWp.seq_k fun K8 hK8 => ?_; refine AWp.cond (t := decide ((i:Int) < a.frm.length)) (by simp only [am, seval, reduceCtorEq]) (fun ht => ?_) (fun ht => ?_)
    ·have hlt : i < a.frm.length := lt_of_dec ht; have ix0' : (0 ≤ (i : Int)) = True := by simp
     have ix1' : ((i : Int) < (a.frm.length : Int)) = True := by simp [hlt]
     have hpre := pre_len (f := innerOn) a.whr a.frm (i + 1); have hsucc := flat_succ innerOn a.frm hlt; refine AWp.skip ?_; refine hK8 _ ?_; clear hK8; refine AWp.seq_k fun K9 hK9 => ?_; refine AWp.block ?_; refine rg fun Z z' => ?_; simp only [ix0', ix1', true_and, getD_map _ _ _ hlt, From.v_eq, amt, seval, reduceCtorEq]; refine z' _ ?_; clear z' Z; refine rg fun Z z' => ?_; simp only [From.v_eq, amt, seval, reduceCtorEq]; refine z' _ ?_; clear z' Z; refine AWp.cond (t := a.frm[i].join != 1) (by simp only [am, seval, reduceCtorEq]) (fun hj2 => ?_) (fun hj2 => ?_)
     ·have hin : innerOn a.frm[i] = a.frm[i].on := by unfold innerOn; rw [if_pos hj2]
      rw [hin] at hsucc; refine rg1 fun Z z' => ?_; simp only [From.v_eq, amt, seval, reduceCtorEq]; refine ⟨own_same _ _ _, by rw [hsucc, List.length_append, List.length_append] at hpre; simp only [List.length_map, List.length_append]; omega, by rw [hsucc, List.length_append, List.length_append] at hpre; simp only [List.length_map, List.length_append, maxLen]; omega, fun g2 hg2 => ?_⟩; refine z' _ ?_; clear z' Z; refine hK9 _ ?_; clear hK9; refine rg1 fun Z z' => ?_; simp only [amt, seval, reduceCtorEq]; refine z' _ ?_; clear z' Z; refine ⟨(i + 1, g2), ⟨⟨hlt, own_fresh hg2⟩, by simp only; omega⟩, ?_⟩; refine le_tst ?_ ?_ ?_ (own_step hg1 _ _ _) rfl
      ·simp only [leE, am, seval, reduceCtorEq]; rw [wrap_id (by omega) (by omega), hsucc]; simp
      ·simp only [okL, and_self]
      ·simp only [leB]
     ·have hin : innerOn a.frm[i] = [] := by unfold innerOn; rw [if_neg (by rw [hj2]; decide)]
      rw [hin, List.append_nil] at hsucc; refine AWp.skip ?_; refine hK9 _ ?_; clear hK9; refine rg1 fun Z z' => ?_; simp only [amt, seval, reduceCtorEq]; refine z' _ ?_; clear z' Z; refine ⟨(i + 1, g1), ⟨⟨hlt, hg1⟩, by simp only; omega⟩, ?_⟩; refine lt0 ?_ ?_ ?_
      ·simp only [leE, am, seval, reduceCtorEq]; rw [wrap_id (by omega) (by omega), hsucc]; simp
      ·simp only [okL, and_self]
      ·simp only [leB]
    ·obtain rfl : i = a.frm.length := eq_of_dec ht hi; refine AWp.wkE 5 (.slice 14 ((usableTerms a k).map Term.v)) (by simp only [isLoc, am, seval, reduceCtorEq]) (by simp only [am, seval, reduceCtorEq]; rw [hUT]; exact Wk.own _ _ _) ?_; refine AWp.exit ?_; simp only [exq, seval]; refine ⟨(), trivial, ?_⟩; refine le_tst ?_ ?_ ?_ (own_drop hg1 _) rfl
     ·simp only [leE, am, seval, reduceCtorEq]
     ·simp only [okL, and_self]
     ·simp only [leB]
 ·rintro ⟨⟩ _; generalize hU0 : usableTerms a k = U at hUlen hUw ⊢; refine rg fun Z z' => ?_; simp only [am, seval, reduceCtorEq]; refine z' _ ?_; clear z' Z; refine AWp.seq_k fun K16 hK16 => ?_; refine rg fun Z z' => ?_; simp only [amt, seval, reduceCtorEq]; refine z' _ ?_; clear z' Z; refine AWp.block ?_; refine AWp.slen 42 (sz := 14) (es := U.map Term.v) (by simp only [am, seval, reduceCtorEq]) fun hmax => ?_; have hmx := maxLen_lt; rw [List.length_map] at hmax; refine AWp.adoptE 8 (197, 17) (.inl (by simp only [am, seval, reduceCtorEq])) fun g0 hg0 => ?_; change s.own g0 = none at hg0; refine AWp.loopT (ι := Nat × Nat) (fun i => i.1 ≤ U.length ∧ s.own i.2 = none) (fun i => tst [(1, vint k), (8, .own i.2 17 (((U.take i.1).flatMap (says k)).map Said.v)), (42, .slice 14 (U.map Term.v)), (43, vint U.length), (44, vint i.1)] [] (s.setOwn i.2 (some (197, 17))) 55) (fun i => U.length - i.1) (0, g0) ⟨⟨Nat.zero_le _, hg0⟩, ?_⟩ ?_
  ·refine lt0 ?_ ?_ ?_
   ·simp only [leE, am, seval, reduceCtorEq] <;> simp
   ·simp only [okL, and_self]
   ·simp only [leB]
  ·rintro ⟨i, g1⟩ ⟨hi, hg1⟩; simp only at hi hg1 ⊢; refine rg fun Z z' => ?_; simp only [amt, seval, reduceCtorEq]; refine z' _ ?_; clear z' Z; refine AWp.seq_k fun K19 hK19 => ?_; refine AWp.cond (t := decide ((i:Int) < U.length)) (by simp only [am, seval, reduceCtorEq]) (fun ht => ?_) (fun ht => ?_)
   ·have hlt : i < U.length := lt_of_dec ht; have ix0 : (0 ≤ (i : Int)) = True := by simp
    have ix1 : ((i : Int) < (U.length : Int)) = True := by simp [hlt]
    refine AWp.skip ?_; refine hK19 _ ?_; clear hK19; refine AWp.seq_k fun K20 hK20 => ?_; refine AWp.block ?_; refine rg fun Z z' => ?_; simp only [ix0, ix1, true_and, getD_map _ _ _ hlt, Term.v_eq, amt, seval, reduceCtorEq]; refine z' _ ?_; clear z' Z; refine rg1 fun Z z' => ?_; simp only [Term.v_eq, amt, seval, reduceCtorEq]; rw [← Term.v_eq]; refine (f152_spec U[i] k _).go ?_; simp only [Term.v_eq, amt, seval, reduceCtorEq]; rw [← Term.v_eq]; refine (f151_spec ((U.take i).flatMap (says k)) (by have := says_flat_len k U i; omega) U[i] (hUw _ (List.getElem_mem hlt)) k s g1 hg1).mono ?_; rintro _ _ ⟨g2, hg2, rfl, rfl⟩; simp only [Term.v_eq, amt, seval, reduceCtorEq]; refine z' _ ?_; clear z' Z; refine hK20 _ ?_; clear hK20; refine rg1 fun Z z' => ?_; simp only [amt, seval, reduceCtorEq]; refine z' _ ?_; clear z' Z; refine ⟨(i + 1, g2), ⟨⟨hlt, hg2⟩, by simp only; omega⟩, ?_⟩; refine lt0 ?_ ?_ ?_
    ·simp only [leE, am, seval, reduceCtorEq]; rw [wrap_id (by omega) (by omega), flat_succ (says k) U hlt]; simp
    ·simp only [okL, and_self]
    ·simp only [leB]
   ·obtain rfl : i = U.length := eq_of_dec ht hi; refine AWp.exit ?_; simp only [exq, seval]; refine hK16 _ ?_; clear hK16; refine rg fun Z z' => ?_; simp only [am, seval, reduceCtorEq]; refine z' _ ?_; clear z' Z; refine AWp.ret ?_; refine ret_intro (vs := [.own g1 17 _]) rfl (Wk.own _ _ _) (own_drop hg1 _) ⟨?_, rfl⟩; rw [List.take_length, usable, hU0]
end Go.Proofs.YtcckhbconihagaaGreatDoor
