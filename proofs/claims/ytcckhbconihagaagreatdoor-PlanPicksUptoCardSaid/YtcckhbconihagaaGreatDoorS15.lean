/- plan.each -/
import Derived.Test.YtcckhbconihagaaGreatDoorS14
import Derived.Test.YtcckhbconihagaaGreatDoorS4
import Derived.Test.YtcckhbconihagaaGreatDoorS16
set_option linter.unusedSimpArgs false
set_option linter.unusedVariables false
set_option maxRecDepth 100000
namespace Go.Proofs.YtcckhbconihagaaGreatDoor
open Go.Am Go.Pl
/-- What a chooser is asked. -/
def ChOk (ch : Nat → List Stp → Nat × Stp) (Hc : Nat → Heap → Prop) (kf : FuncId) (caps : List V) : Prop :=
  ∀ (q : Nat) (l : List Stp), l ≠ [] → l.length ≤ 2^40 → ∀ {n : Nat}, q + (n + 1) ≤ 2^62 → ∀ (s : Heap), Hc q s → ACalls Tryz.prog kf ([] ++ [.slice 6 (l.map Stp.v)] ++ caps) s fun v s' => v = .agg (ch q l).2.v ∧ Hc (ch q l).1 s'
def HcO (Hc : Nat → Heap → Prop) (o : Option Nat) (s : Heap) : Prop := ∃ q, o = some q ∧ Hc q s
structure ScPl (sc : Schema) : Prop where
  ok : SchOk sc
  keys : ∀ i ∈ sc.indexes, i.keys.length ≤ 2^30
  il : sc.indexes.length ≤ 2^40
theorem conj_w {a : Arm} {t : Term} (h : t ∈ conj a) : t.w ≤ a.w := by
  rw [Arm.w_eq]
  unfold conj at h
  rcases List.mem_append.1 h with h | h
  · have := mem_w Term.w a.whr t h; omega
  · obtain ⟨f, hf, ht⟩ := List.mem_flatMap.1 h
    have e1 := mem_w From.w a.frm f hf
    have e2 := mem_w Term.w f.on t ht
    rw [From.w_eq] at e1; omega
theorem inner_sub (l : List From) : (l.flatMap innerOn).length ≤ (l.flatMap From.on).length := by
  induction l with
  | nil => simp
  | cons f l ih =>
    simp only [List.flatMap_cons, List.length_append]
    have : (innerOn f).length ≤ f.on.length := by unfold innerOn; split <;> simp
    omega
theorem mem_flat_len {α β : Type} (f : α → List β) : ∀ (l : List α) (x : α), x ∈ l → (f x).length ≤ (l.flatMap f).length
  | y :: l, x, h => by
    simp only [List.flatMap_cons, List.length_append]
    rcases List.mem_cons.1 h with rfl | h
    · omega
    · have := mem_flat_len f l x h; omega
theorem usable_len {a : Arm} {k : Int} (h0 : 0 ≤ k) (h1 : k < ((a.frm.length : Nat) : Int)) : (usable a k).length ≤ 2 * (conj a).length := by
  have h2 : (usableTerms a k).length ≤ (conj a).length := by
    unfold usableTerms conj
    split
    · have := mem_flat_len From.on a.frm _ (src_mem h0 h1); rw [List.length_append]; omega
    · have := inner_sub a.frm; rw [List.length_append, List.length_append]; omega
  have h3 := says_flat_len k (usableTerms a k) (usableTerms a k).length
  rw [List.take_length] at h3
  unfold usable; omega
theorem conj_len (a : Arm) : (conj a).length ≤ a.w := by
  have e0 := Arm.w_eq a
  have l1 := len_le Term.w_pos a.whr
  have l2 := flat_len From.on From.w (fun f => by have := len_le Term.w_pos f.on; rw [From.w_eq]; omega) a.frm
  unfold conj
  rw [List.length_append]; omega
theorem plok_of {sc : Schema} (hs : ScPl sc) {a : Arm} (hw : a.w ≤ 137455730688) (hz : (a.frm.length + 1) * (2 * (conj a).length + sc.indexes.length + 1) ≤ 2^40) : PlOk sc a (2 * (conj a).length + sc.indexes.length + 1) := by
  have hp := parm_of hw
  have e0 := Arm.w_eq a
  have l1 := len_le Term.w_pos a.whr
  have l2 := len_le From.w_pos a.frm
  have l3 : 1 * (2 * (conj a).length + sc.indexes.length + 1) ≤ (a.frm.length + 1) * (2 * (conj a).length + sc.indexes.length + 1) := Nat.mul_le_mul_right _ (by omega)
  refine ⟨⟨hp.u, hp.nm, fun k h0 h1 x hx => ?_, fun k h0 h1 => ?_, hs.keys, hs.il, fun k h0 h1 => ?_, hz, by omega, hp.on⟩, by omega, by omega, hp.whr⟩
  · unfold usable at hx
    obtain ⟨t, ht, hx⟩ := List.mem_flatMap.1 hx
    have e1 := (says_mem hx).2.2
    have e2 := conj_w (usableTerms_mem h0 h1 ht)
    have e3 := t.w_ns
    omega
  · have := usable_len h0 h1; have := conj_len a; omega
  · have := usable_len h0 h1; omega
theorem f61_spec (sc : Schema) (hs : ScPl sc) (ch : Nat → List Stp → Nat × Stp) (Hc : Nat → Heap → Prop) (kf : FuncId) (caps : List V) (hin : ∀ q l, (ch q l).1 ≤ q + 1) (hch : ChOk ch Hc kf caps) (a : Arm) (q : Nat) (hw : a.w ≤ 137455730688) (hq : q + a.frm.length ≤ 2^62) (hz : (a.frm.length + 1) * (2 * (conj a).length + sc.indexes.length + 1) ≤ 2^40) (s : Heap) (hH : Hc q s) :
    ACalls Tryz.prog 61 ([] ++ [.agg a.v] ++ [.elt sc.v 0, .elt [.func kf [] caps] 0]) s fun v s' => v = .agg (planA ch sc a q).2.v ∧ Hc (planA ch sc a q).1 s' := by
 have hs1 := hs.ok.1
 have hcall : ∀ s, Hc q s → ACalls Tryz.prog 62 [.agg (sc.v ++ a.v), .func kf [] caps] s fun v s' => v = .agg (planA ch sc a q).2.v ∧ Hc (planA ch sc a q).1 s' := fun s hH => f62_spec sc hs.ok a _ (plok_of hs hw hz) ch Hc kf caps hin hch q hq s hH
 rw [Arm.v_eq, Schema.v_eq] at hcall; simp only [List.cons_append, List.nil_append] at hcall
 refine acalls_of (fn := Tryz.f61) Tryz.func61 rfl (by decide) (by show 3 ≤ 10; decide) ?_
 rw [Tryz.ntmps61]
 refine AWp.reg fun R1 hR1 => ?_
 simp only [Arm.v_eq, Schema.v_eq, hs1, ty75, am, seval, reduceCtorEq]
 refine hR1 _ ?_; clear hR1 R1
 refine AWp.reg fun R2 hR2 => ?_
 simp only [Arm.v_eq, Schema.v_eq, hs1, ty26, ty75, ty77, ty97, am, seval, reduceCtorEq]
 refine (hcall _ hH).mono ?_
 rintro _ s1 ⟨rfl, hH1⟩
 simp only [Arm.v_eq, Schema.v_eq, hs1, ty26, ty75, ty77, ty97, am, seval, reduceCtorEq]
 refine hR2 _ ?_; clear hR2 R2
 refine AWp.ret ?_
 refine ret_intro (vs := [.agg (planA ch sc a q).2.v]) (by show resV Tryz.prog _ [.cell 4 75] = _; simp only [resV, ty75, Arm.v_eq, am, seval, reduceCtorEq]) (Wk.refl _) (Heap.le.refl _) ⟨rfl, hH1⟩
theorem vis_each (sc : Schema) (hs : ScPl sc) (ch : Nat → List Stp → Nat × Stp) (Hc : Nat → Heap → Prop) (kf : FuncId) (caps : List V) (hin : ∀ q l, (ch q l).1 ≤ q + 1) (hch : ChOk ch Hc kf caps) : Vis (HcO Hc) (pkfa ch sc 137455730688) idff (.func 61 [] [.elt sc.v 0, .elt [.func kf [] caps] 0]) (.base .nilFunc) (fun o => o ≠ none) where
  hac := rfl
  hfc := rfl
  hgf := fun s t d h => h
  hga := fun s a h => by
    cases s with
    | none => exact absurd rfl h
    | some b => simp
  hfv := .inl ⟨rfl, fun s t d => rfl⟩
  hF := fun k a c e => by cases e
  hav := .inr ⟨61, [], [.elt sc.v 0, .elt [.func kf [] caps] 0], rfl, fun σ0 a hg s hH => by
    obtain ⟨q, rfl, hH⟩ := hH
    by_cases hc : a.w ≤ 137455730688 ∧ q + a.frm.length ≤ 2^62 ∧ (a.frm.length + 1) * (2 * (conj a).length + sc.indexes.length + 1) ≤ 2^40
    · have e : pkfa ch sc 137455730688 (some q) a = (some (planA ch sc a q).1, (planA ch sc a q).2) := by unfold pkfa; simp only; rw [if_pos hc]
      rw [e]
      refine (f61_spec sc hs ch Hc kf caps hin hch a q hc.1 hc.2.1 hc.2.2 s hH).mono ?_
      rintro v s' ⟨rfl, h⟩
      exact ⟨rfl, _, rfl, h⟩
    · exfalso
      refine hg ?_
      unfold pkfa; simp only; rw [if_neg hc]⟩
abbrev zR : List V := [.nil, .nil, .nil, .nil, .nil, .nil]
theorem f36_spec (sc : Schema) (hs : ScPl sc) (ch : Nat → List Stp → Nat × Stp) (Hc : Nat → Heap → Prop) (kf : FuncId) (caps : List V) (hin : ∀ q l, (ch q l).1 ≤ q + 1) (hch : ChOk ch Hc kf caps) (r : Resolved) (hw : r.w ≤ 550024249344) (hpw : r.plain.w ≤ 550024249344) (q0 q1 : Nat) (y : Resolved) (hy : wResolved (pkfa ch sc 137455730688) idff r.plain (some q0) = (some q1, y)) (s : Heap) (h0 : Hc q0 s) :
    ACalls Tryz.prog 36 [.agg sc.v, .agg r.v, .func kf [] caps] s fun v s' => v = .agg y.v ∧ HcO Hc (some q1) s' := by
 have hs1 := hs.ok.1
 have hsv := Schema.v_eq sc
 have hres := resolved_ok (vis_each sc hs ch Hc kf caps hin hch) r.plain hpw (some q0) (by rw [hy]; simp)
 rw [hy] at hres
 have hH0 : HcO Hc (some q0) s := ⟨q0, rfl, h0⟩
 have hrv := Resolved.v_eq r
 rw [Query.v_eq] at hrv
 simp only [List.cons_append, List.nil_append] at hrv
 have hyv := Resolved.v_eq y
 rw [Query.v_eq] at hyv
 simp only [List.cons_append, List.nil_append] at hyv
 have hpv := Resolved.v_eq r.plain
 rw [Query.v_eq] at hpv
 simp only [List.cons_append, List.nil_append] at hpv
 refine acalls_of (fn := Tryz.f36) Tryz.func36 rfl (by decide) (by show 3 ≤ 12; decide) ?_
 rw [Tryz.ntmps36]
 refine AWp.reg fun R1 hR1 => ?_
 simp only [hrv, hsv, hs1, hyv, hpv, ty26, ty35, ty97, am, seval, reduceCtorEq]
 refine hR1 _ ?_; clear hR1 R1
 refine AWp.frz 3 (cs := sc.v) (ty := 26) (by simp only [hsv, am, seval, reduceCtorEq]) ?_
 refine AWp.weaken (st' := tst [(3, .elt sc.v 0), (4, .loc 4 0), (5, .loc 5 0), (6, .loc 6 0)] [(4, (r.v, 35)), (5, ([.func kf [] caps], 97)), (6, (zR, 35))] (s) 12) ?_ ?_
 ·refine le_tst ?_ ?_ ?_ (Heap.le.refl _) rfl
  ·simp only [leE, St.frz, frzV, hrv, zR, hsv, am, seval, reduceCtorEq]
  ·simp only [oks, Nat.reduceBEq]
  ·simp only [leB, St.frz, hrv, zR, hsv, am, seval, reduceCtorEq]
 refine AWp.frz 5 (cs := [.func kf [] caps]) (ty := 97) (by simp only [am, seval, reduceCtorEq]) ?_
 refine AWp.weaken (st' := tst [(3, .elt sc.v 0), (4, .loc 4 0), (5, .elt [.func kf [] caps] 0), (6, .loc 6 0)] [(4, (r.v, 35)), (6, (zR, 35))] (s) 12) ?_ ?_
 ·refine le_tst ?_ ?_ ?_ (Heap.le.refl _) rfl
  ·simp only [leE, St.frz, frzV, hrv, zR, am, seval, reduceCtorEq]
  ·simp only [oks, Nat.reduceBEq]
  ·simp only [leB, St.frz, hrv, zR, am, seval, reduceCtorEq]
 refine AWp.reg fun R2 hR2 => ?_
 simp only [hrv, hsv, hs1, hyv, hpv, ty35, ty81, am, seval, reduceCtorEq]
 rw [← hrv]
 refine (f13_spec r (by omega) _).mono fun v' s' h => ?_
 rw [h.1, h.2]; clear h v' s'
 simp only [hrv, hsv, hs1, hyv, hpv, ty35, ty81, am, seval, reduceCtorEq]
 (try rw [← hpv])
 refine (hres _ hH0).mono ?_
 rintro _ s1 ⟨rfl, hH1⟩
 simp only [hrv, hsv, hs1, hyv, hpv, ty35, ty81, am, seval, reduceCtorEq]
 refine hR2 _ ?_; clear hR2 R2
 refine AWp.ret ?_
 refine ret_intro (vs := [.agg y.v]) (by show resV Tryz.prog _ [.cell 6 35] = _; simp only [resV, ty35, hyv, am, seval, reduceCtorEq]) (Wk.refl _) (Heap.le.refl _) ⟨rfl, hH1⟩
end Go.Proofs.YtcckhbconihagaaGreatDoor
set_option linter.unusedSimpArgs false
set_option linter.unusedVariables false
set_option maxRecDepth 100000
namespace Go.Proofs.YtcckhbconihagaaGreatDoor
open Go.Am Go.Pl
theorem wrap_u (n : Int) : IntKind.u64.wrap n = n % 18446744073709551616 := by
  simp only [IntKind.wrap, IntKind.bits, IntKind.signed]; simp
def zstp : Stp := ⟨0, scanP⟩
def pickIx (n : Int) (len : Nat) : Int := (IntKind.u64.wrap n).tmod (IntKind.u64.wrap ((len : Nat) : Int))
theorem pickIx_ok (n : Int) (len : Nat) (h0 : 0 < len) (h : len ≤ 2^40) : IntKind.u64.wrap ((len : Nat) : Int) ≠ 0 ∧ 0 ≤ pickIx n len ∧ pickIx n len < ((len : Nat) : Int) := by
  unfold pickIx
  rw [wrap_u, wrap_u]
  have e1 : ((len : Nat) : Int) % 18446744073709551616 = ((len : Nat) : Int) := by omega
  have e2 : 0 ≤ n % 18446744073709551616 := by omega
  rw [e1]
  refine ⟨by omega, Int.tmod_nonneg _ e2, ?_⟩
  exact Int.tmod_lt_of_pos _ (by omega)
def pickAt (n : Int) (l : List Stp) : Stp := l.getD (pickIx n l.length).toNat (l.headD zstp)
def chP (picks : List Int) (q : Nat) (l : List Stp) : Nat × Stp := if decide (((picks.length : Nat) : Int) > 0) then (q + 1, pickAt (picks.getD (q % picks.length) 0) l) else (q, pickAt 0 l)
theorem pickAt_mem {n : Int} {l : List Stp} (h : l ≠ []) : pickAt n l ∈ l := by
  unfold pickAt
  rw [List.getD_eq_getElem?_getD]
  by_cases e : (pickIx n l.length).toNat < l.length
  · rw [List.getElem?_eq_getElem e]; simp
  · rw [List.getElem?_eq_none (by omega)]
    cases l with
    | nil => exact absurd rfl h
    | cons x l => simp
theorem chP_mem (picks : List Int) (q : Nat) (l : List Stp) (h : l ≠ []) : (chP picks q l).2 ∈ l := by
  unfold chP
  split <;> exact pickAt_mem h
/-- The counter's box. -/
structure HP (s0 : Heap) (bk : Nat) (q : Nat) (s : Heap) : Prop where
  own : s.own = s0.own
  box : ∀ k, s0.box k ≠ none → s.box k = s0.box k
  nb : s0.box bk = none
  bk : s.box bk = some ([vint q], 3)
theorem HP.put {s0 s : Heap} {bk q : Nat} (h : HP s0 bk q s) (q' : Nat) : HP s0 bk q' (s.setBox bk ([vint q'], 3)) := by
  refine ⟨h.own, fun k hk => ?_, h.nb, upd_same _ _ _⟩
  have : k ≠ bk := fun e => hk (e ▸ h.nb)
  exact (upd_other _ _ _ _ this).trans (h.box k hk)
theorem HP.le {s0 s : Heap} {bk q : Nat} (h : HP s0 bk q s) : s.le s0 :=
  ⟨fun k => by
    by_cases e : s0.box k = none
    · exact .inr e
    · exact .inl (h.box k e).symm, fun g => .inl (by rw [h.own])⟩
theorem HP.start {s0 : Heap} {bk : Nat} (h : s0.box bk = none) : HP s0 bk 0 (s0.setBox bk ([vint ((0 : Nat) : Int)], 3)) :=
  ⟨rfl, fun k hk => upd_other _ _ _ _ (fun e => hk (e ▸ h)), h, upd_same _ _ _⟩
theorem f37_spec (s0 : Heap) (bk : Nat) (picks : List Int) (q : Nat) (l : List Stp) (hl0 : l ≠ []) (hl : l.length ≤ 2^40) (hq : q + 1 ≤ 2^62) (s : Heap) (hH : HP s0 bk q s) : ACalls Tryz.prog 37 ([] ++ [.slice 6 (l.map Stp.v)] ++ [.elt [vints picks] 0, .ptr bk 0]) s fun v s' => v = .agg (chP picks q l).2.v ∧ HP s0 bk (chP picks q l).1 s' := by
 have hbk := hH.bk
 refine acalls_of (fn := Tryz.f37) Tryz.func37 rfl (by decide) (by show 3 ≤ 27; decide) ?_
 rw [Tryz.ntmps37]
 refine AWp.reg fun R1 hR1 => ?_
 simp only [ty95, am, seval, reduceCtorEq]
 refine hR1 _ ?_; clear hR1 R1
 refine AWp.reg fun R2 hR2 => ?_
 simp only [am, seval, reduceCtorEq]
 refine hR2 _ ?_; clear hR2 R2
 refine AWp.seq_k fun K3 hK3 => ?_
 refine AWp.reg fun R4 hR4 => ?_
 simp only [ty3, ty50, am, seval, reduceCtorEq]
 refine hR4 _ ?_; clear hR4 R4
 refine AWp.cond (t := decide (((picks.length : Nat) : Int) > 0)) (by simp only [List.length_map, am, seval, reduceCtorEq]) (fun hp => ?_) (fun hp => ?_)
 ·have hp0 : 0 < picks.length := by have := of_decide_eq_true hp; omega
  obtain ⟨n, hn⟩ : ∃ n : Int, picks.getD (q % picks.length) 0 = n := ⟨_, rfl⟩
  have htm : ((q : Nat) : Int).tmod ((picks.length : Nat) : Int) = ((q % picks.length : Nat) : Int) := by rw [Int.tmod_eq_emod_of_nonneg (by omega)]; rfl
  have hqm := Nat.mod_lt q hp0
  have ixp0 : (0 ≤ ((q : Nat) : Int).tmod ((picks.length : Nat) : Int)) = True := by rw [htm]; exact eq_true (by omega)
  have ixp1 : (((q : Nat) : Int).tmod ((picks.length : Nat) : Int) < ((picks.length : Nat) : Int)) = True := by rw [htm]; exact eq_true (by omega)
  have hgp : (picks.map (fun x => [vint x])).getD (((q : Nat) : Int).tmod ((picks.length : Nat) : Int)).toNat [] = [vint n] := by
   rw [htm, Int.toNat_natCast, ← hn]; simp [List.getD_eq_getElem?_getD, hqm]
  have hq1 : IntKind.i64.wrap (((q : Nat) : Int) + 1) = ((q + 1 : Nat) : Int) := by rw [wrap_id (by omega) (by omega)]; simp
  refine AWp.regL mixed [0, 1, 2, 3, 4, 5, 6, 7] (by decide +kernel) [] (by decide +kernel) fun R5 hR5 => ?_
  simp only [hbk, ixp0, ixp1, true_and, hgp, ty3, ty50, aml, Nat.reduceBEq, am, seval, reduceCtorEq]
  refine ⟨by omega, ?_⟩
  refine hR5 _ ?_; clear hR5 R5
  refine AWp.reg1 fun R6 hR6 => ?_
  simp only [hbk, hq1, ty3, am, seval, reduceCtorEq]
  refine hR6 _ ?_; clear hR6 R6
  refine hK3 _ ?_; clear hK3
  refine AWp.weaken (st' := tst [(0, .slice 6 (l.map Stp.v)), (4, .loc 4 0), (5, vint n)] [(4, ([vint 0, vint 0, vstr .empty, .nil, .nil, .nil], 95))] (s.setBox bk ([vint (q + 1 : Nat)], 3)) 27) ?_ ?_
  ·refine le_tst ?_ ?_ ?_ (Heap.le.refl _) rfl
   ·simp only [leE, am, seval, reduceCtorEq]
   ·simp only [oks, Nat.reduceBEq]
   ·simp only [leB, am, seval, reduceCtorEq]
  have hix := pickIx_ok n l.length (List.length_pos_iff.2 hl0) hl
  obtain ⟨c, hc⟩ : ∃ c, pickAt n l = c := ⟨_, rfl⟩
  have ixq0 : (0 ≤ (IntKind.u64.wrap n).tmod (IntKind.u64.wrap ((l.length : Nat) : Int))) = True := by have := hix.2.1; unfold pickIx at this; simp only [this]
  have ixq1 : ((IntKind.u64.wrap n).tmod (IntKind.u64.wrap ((l.length : Nat) : Int)) < ((l.length : Nat) : Int)) = True := by have := hix.2.2; unfold pickIx at this; simp only [this]
  have hgq : (l.map Stp.v).getD ((IntKind.u64.wrap n).tmod (IntKind.u64.wrap ((l.length : Nat) : Int))).toNat [] = c.v := by
   have h1 := hix.2.1; have h2 := hix.2.2; unfold pickAt at hc; unfold pickIx at h1 h2 hc
   have h3 : ((IntKind.u64.wrap n).tmod (IntKind.u64.wrap ((l.length : Nat) : Int))).toNat < l.length := by omega
   rw [← hc]; simp [List.getD_eq_getElem?_getD, h3]
  refine AWp.reg fun R7 hR7 => ?_
  simp only [ixq0, ixq1, true_and, hgq, Stp.v_eq, List.length_map, ty3, ty93, ty95, ty96, am, seval, reduceCtorEq]
  refine ⟨by (try rw [List.length_map]); exact hix.1, ?_⟩
  refine hR7 _ ?_; clear hR7 R7
  refine AWp.ret ?_
  refine ret_intro (vs := [.agg c.v]) (by show resV Tryz.prog _ [.cell 4 95] = _; simp only [resV, ty95, Stp.v_eq, am, seval, reduceCtorEq]) (Wk.refl _) (Heap.le.refl _) ?_
  have e : chP picks q l = (q + 1, c) := by unfold chP; rw [hp]; simp only [↓reduceIte, Bool.false_eq_true, hn, hc]
  rw [e]; exact ⟨rfl, hH.put _⟩
 ·refine AWp.skip ?_
  refine hK3 _ ?_; clear hK3
  obtain ⟨n, hn⟩ : ∃ n : Int, (0 : Int) = n := ⟨_, rfl⟩
  refine AWp.weaken (st' := tst [(0, .slice 6 (l.map Stp.v)), (4, .loc 4 0), (5, vint n)] [(4, ([vint 0, vint 0, vstr .empty, .nil, .nil, .nil], 95))] s 27) ?_ ?_
  ·refine le_tst ?_ ?_ ?_ (Heap.le.refl _) rfl
   ·simp only [leE, am, seval, reduceCtorEq]; rw [← hn]
   ·simp only [oks, Nat.reduceBEq]
   ·simp only [leB, am, seval, reduceCtorEq]
  have hix := pickIx_ok n l.length (List.length_pos_iff.2 hl0) hl
  obtain ⟨c, hc⟩ : ∃ c, pickAt n l = c := ⟨_, rfl⟩
  have ixq0 : (0 ≤ (IntKind.u64.wrap n).tmod (IntKind.u64.wrap ((l.length : Nat) : Int))) = True := by have := hix.2.1; unfold pickIx at this; simp only [this]
  have ixq1 : ((IntKind.u64.wrap n).tmod (IntKind.u64.wrap ((l.length : Nat) : Int)) < ((l.length : Nat) : Int)) = True := by have := hix.2.2; unfold pickIx at this; simp only [this]
  have hgq : (l.map Stp.v).getD ((IntKind.u64.wrap n).tmod (IntKind.u64.wrap ((l.length : Nat) : Int))).toNat [] = c.v := by
   have h1 := hix.2.1; have h2 := hix.2.2; unfold pickAt at hc; unfold pickIx at h1 h2 hc
   have h3 : ((IntKind.u64.wrap n).tmod (IntKind.u64.wrap ((l.length : Nat) : Int))).toNat < l.length := by omega
   rw [← hc]; simp [List.getD_eq_getElem?_getD, h3]
  refine AWp.reg fun R8 hR8 => ?_
  simp only [ixq0, ixq1, true_and, hgq, Stp.v_eq, List.length_map, ty3, ty93, ty95, ty96, am, seval, reduceCtorEq]
  refine ⟨by (try rw [List.length_map]); exact hix.1, ?_⟩
  refine hR8 _ ?_; clear hR8 R8
  refine AWp.ret ?_
  refine ret_intro (vs := [.agg c.v]) (by show resV Tryz.prog _ [.cell 4 95] = _; simp only [resV, ty95, Stp.v_eq, am, seval, reduceCtorEq]) (Wk.refl _) (Heap.le.refl _) ?_
  have e : chP picks q l = (q, c) := by unfold chP; rw [hp]; simp only [↓reduceIte, Bool.false_eq_true, hn, hc]
  rw [e]; exact ⟨rfl, hH⟩
theorem chP_inc (picks : List Int) (q : Nat) (l : List Stp) : (chP picks q l).1 ≤ q + 1 := by unfold chP; split <;> simp
theorem f16_spec (sc : Schema) (hs : ScPl sc) (r : Resolved) (hw : r.w ≤ 550024249344) (hpw : r.plain.w ≤ 550024249344) (picks : List Int) (q1 : Nat) (y : Resolved) (hy : wResolved (pkfa (chP picks) sc 137455730688) idff r.plain (some 0) = (some q1, y)) : Gives Tryz.prog 16 [.agg sc.v, .agg r.v, vints picks] (.agg y.v) := by
 have hs1 := hs.ok.1
 have hsv := Schema.v_eq sc
 have hrv := Resolved.v_eq r
 rw [Query.v_eq] at hrv
 simp only [List.cons_append, List.nil_append] at hrv
 have hyv := Resolved.v_eq y
 rw [Query.v_eq] at hyv
 simp only [List.cons_append, List.nil_append] at hyv
 intro s
 refine acalls_of (fn := Tryz.f16) Tryz.func16 rfl (by decide) (by show 3 ≤ 12; decide) ?_
 rw [Tryz.ntmps16]
 refine AWp.reg fun R1 hR1 => ?_
 simp only [hrv, hsv, hs1, hyv, ty3, ty26, ty35, ty50, am, seval, reduceCtorEq]
 refine hR1 _ ?_; clear hR1 R1
 refine AWp.reg fun R2 hR2 => ?_
 simp only [hrv, hsv, hs1, hyv, ty3, am, seval, reduceCtorEq]
 refine hR2 _ ?_; clear hR2 R2
 refine AWp.frz 5 (cs := [vints picks]) (ty := 50) (by simp only [am, seval, reduceCtorEq]) ?_
 refine AWp.weaken (st' := tst [(3, .loc 3 0), (4, .loc 4 0), (5, .elt [vints picks] 0), (6, .loc 6 0), (7, .loc 7 0)] [(3, (sc.v, 26)), (4, (r.v, 35)), (6, (zR, 35)), (7, ([vint 0], 3))] (s) 12) ?_ ?_
 ·refine le_tst ?_ ?_ ?_ (Heap.le.refl _) rfl
  ·simp only [leE, St.frz, frzV, hrv, hsv, zR, am, seval, reduceCtorEq]
  ·simp only [oks, Nat.reduceBEq]
  ·simp only [leB, St.frz, hrv, hsv, zR, am, seval, reduceCtorEq]
 refine AWp.publish (t0 := 7) (x := ([vint 0], 3)) (by simp only [am, seval, reduceCtorEq]) fun bk hbk => ?_
 change s.box bk = none at hbk
 refine AWp.weaken (st' := tst [(3, .loc 3 0), (4, .loc 4 0), (5, .elt [vints picks] 0), (6, .loc 6 0), (7, .ptr bk 0)] [(3, (sc.v, 26)), (4, (r.v, 35)), (6, (zR, 35))] (s.setBox bk ([vint ((0 : Nat) : Int)], 3)) 12) ?_ ?_
 ·refine le_tst ?_ ?_ ?_ (Heap.le.refl _) rfl
  ·simp only [leE, St.publish, substV, zR, am, seval, reduceCtorEq]
  ·simp only [oks, Nat.reduceBEq]
  ·simp only [leB, St.publish, substV, zR, am, seval, reduceCtorEq]
 refine AWp.reg fun R3 hR3 => ?_
 simp only [hrv, hsv, hs1, hyv, ty26, ty35, am, seval, reduceCtorEq]
 (try rw [← hrv]); (try rw [← hsv])
 refine (f36_spec sc hs (chP picks) (HP s bk) 37 [.elt [vints picks] 0, .ptr bk 0] (chP_inc picks) (fun q l h1 h2 _ h3 s1 hH => f37_spec s bk picks q l h1 h2 (by omega) s1 hH) r hw hpw 0 q1 y hy _ (HP.start hbk)).mono ?_
 rintro _ s1 ⟨rfl, q2, hq2, hH1⟩
 simp only [hrv, hsv, hs1, hyv, ty26, ty35, am, seval, reduceCtorEq]
 refine hR3 _ ?_; clear hR3 R3
 refine AWp.ret ?_
 refine ret_intro (vs := [.agg y.v]) (by show resV Tryz.prog _ [.cell 6 35] = _; simp only [resV, ty35, hyv, am, seval, reduceCtorEq]) (Wk.refl _) hH1.le ⟨rfl, rfl⟩
end Go.Proofs.YtcckhbconihagaaGreatDoor
