/- The operations that make boxes, write, call and append (2): the machine does what is said of them. -/
import Derived.Test.YtdomhnkffghmlaaGreatDoorSAmOps
set_option linter.unusedVariables false
set_option linter.unusedSimpArgs false
namespace Go.Am
variable {P : Program}
theorem dstOk_lt {o : Oper} {st : St} (h : dstOk o st) : ∀ t, o.dst = some t → t < st.n := fun t ht => by unfold dstOk at h; rw [ht] at h; exact h
/-- A new box that the call keeps for itself. -/
theorem ARel.allocLoc {n0 : Base} {G : Ghost} {be : Nat → Option Nat} {st : St} {a : Act} {w : World} (h : ARel n0 G be st a w) (h0 : n0.n ≤ w.heap.size) {t0 : Nat} (hl : st.loc t0 = none) {cs : List V} {ccs : Array Value} (t : TypeId) (hr : RepL G cs ccs.toList) (h1 : ∀ v ∈ ccs.toList, v.oneCell' = true) :
  ARel n0 G (upd be t0 (some w.heap.size)) { st with loc := upd st.loc t0 (some (cs, t)) } a (w.alloc (.cells ccs t)) := by
 have hm := More.alloc w (.cells ccs t)
 have hF : ∀ o, G.F w.heap.size o = none := fun o => by
  cases hx : G.F w.heap.size o with
  | none => rfl
  | some v => have := h.hr.frz_lt (b := w.heap.size) (o := o) (by rw [hx]; simp); omega
 have hf : ¬ foot G st.s w.heap.size := fun hf => by have := h.hr.foot_lt hf; omega
 refine ⟨h.hr.more hm, h.n, h.df, fun t' => ?_, fun t' cs' ty' ht' => ?_, fun t1 t2 b e1 e2 b1 b2 => ?_⟩
 ·have := h.tmps t'
  cases hv : st.E t' <;> rw [hv] at this <;> first | exact this | skip
  rename_i t1 off
  obtain ⟨hne, b, hb, hv'⟩ := this
  have ht : t1 ≠ t0 := fun e => hne (e ▸ hl)
  exact ⟨by simpa [upd, ht] using hne, b, by simpa [upd, ht] using hb, hv'⟩
 ·by_cases ht : t' = t0
  ·subst ht
   simp only [upd_same, Option.some.injEq, Prod.mk.injEq] at ht'
   obtain ⟨rfl, rfl⟩ := ht'
   exact ⟨w.heap.size, upd_same _ _ _, h0, ⟨ccs, heap_alloc_new w _, hr, h1⟩, hF, hf⟩
  ·simp only [upd_other _ _ _ _ ht] at ht'
   obtain ⟨b, k1, k2, ⟨c', k3, k4⟩, k5⟩ := h.loc t' cs' ty' ht'
   exact ⟨b, by rw [upd_other _ _ _ _ ht]; exact k1, k2, ⟨c', (hm.keep b (Array.getElem?_eq_some_iff.1 k3).1).trans k3, k4⟩, k5⟩
 ·have key : ∀ t', (upd st.loc t0 (some (cs, t))) t' ≠ none → (upd be t0 (some w.heap.size)) t' = some b → (t' = t0 ∧ b = w.heap.size) ∨ (st.loc t' ≠ none ∧ be t' = some b ∧ b < w.heap.size) := by
   intro t' a1 a2
   by_cases ht : t' = t0
   ·subst ht; rw [upd_same] at a2; exact .inl ⟨rfl, (Option.some.inj a2).symm⟩
   ·rw [upd_other _ _ _ _ ht] at a1 a2; exact .inr ⟨a1, a2, h.loc_lt a1 a2⟩
  rcases key t1 e1 b1 with ⟨rfl, rfl⟩ | ⟨a1, a2, a3⟩ <;> rcases key t2 e2 b2 with ⟨rfl, hb⟩ | ⟨c1, c2, c3⟩
  ·rfl
  ·omega
  ·omega
  ·exact h.inj t1 t2 b a1 c1 a2 c2
theorem LRep.locs {G : Ghost} {be be' : Nat → Option Nat} {loc loc' : Nat → Option (List V × TypeId)} {c : V} {v : Value} (h : LRep G be loc c v) (hl : ∀ t, loc t ≠ none → loc' t ≠ none ∧ be' t = be t) : LRep G be' loc' c v := by
 cases c <;> first | exact h | skip
 obtain ⟨h1, b, h2, h3⟩ := h
 exact ⟨(hl _ h1).1, b, by rw [(hl _ h1).2]; exact h2, h3⟩
theorem mkBox_sound {e : Entry} {o : Oper} {t : TypeId} {cs : List V} {st : St} {K : St → Prop} {a : Act} {w : World} {Q : Exit → Act → World → Prop} (h : mkBox o t cs st K) {G : Ghost} {be : Nat → Option Nat}
  (hx : Ext e.G e.s e.w G st.s w) (hr : ARel e.base G be st a w) {ccs : Array Value} (hrep : RepL G cs ccs.toList) (h1 : ∀ v ∈ ccs.toList, v.oneCell' = true)
  (hrun : (execOp a.eval o).run P w = .ok (.value (.pointer (some ⟨w.heap.size, 0, none⟩))) (w.alloc (.cells ccs t))) : o.wp P a w (Then e K) Q := by
 unfold mkBox at h
 split at h
 ·rename_i t0 hd
  obtain ⟨hlt, hl, hK⟩ := h
  unfold Oper.wp
  rw [hrun]
  have hA := hr.allocLoc hx.size hl t hrep h1
  refine ⟨_, hK, G, upd be t0 (some w.heap.size), hx.trans (Ext.more (More.alloc w _)), ?_⟩
  rw [hd]
  exact hA.put (some t0) (fun t ht => by cases ht; exact hlt) ⟨by simp [upd], w.heap.size, upd_same _ _ _, rfl⟩
 ·exact h.elim
/-- A box of the call's own is told in the heap from now on. -/
def substV (t0 b : Nat) : V → V
 | .loc t off => if t = t0 then .ptr b off else .loc t off
 | v => v
def St.publish (st : St) (t0 b : Nat) (x : List V × TypeId) : St := { E := fun t => substV t0 b (st.E t), loc := upd st.loc t0 none, s := st.s.setBox b x, n := st.n, ds := st.ds, lo := st.lo, pp := st.pp }
theorem In.publish {e : Entry} {st : St} {a : Act} {w : World} (h : In e st a w) {t0 : Nat} {x : List V × TypeId} (hl : st.loc t0 = some x) : ∃ b, st.s.box b = none ∧ In e (st.publish t0 b x) a w := by
 obtain ⟨G, be, hx, hr⟩ := h
 obtain ⟨cs, ty⟩ := x
 obtain ⟨b, k1, k2, ⟨ccs, k3, k4, k5⟩, k6, k7⟩ := hr.loc t0 cs ty hl
 have hbn : st.s.box b = none := by
  cases hq : st.s.box b with
  | none => rfl
  | some y => exact absurd (.inl (by rw [hq]; simp)) k7
 have hfoot : ∀ b', foot G (st.s.setBox b (cs, ty)) b' → b' = b ∨ foot G st.s b' := fun b' hf => by
  by_cases e : b' = b
  ·exact .inl e
  ·rcases hf with hf | hf
   ·exact .inr (.inl (by simpa [Heap.setBox, upd, e] using hf))
   ·exact .inr (.inr hf)
 refine ⟨b, hbn, G, be, ⟨hx.le, hx.size, hx.os, hx.tape, hx.output, hx.keep, fun b' hf => ?_, hx.frz, hx.keys⟩, ⟨⟨hr.hr.frz, fun b' cs' ty' hb' => ?_, hr.hr.own, hr.hr.sep, fun g x v b' j1 j2 j3 => ?_, hr.hr.fin, hr.hr.ob, hr.hr.tab, hr.hr.siz⟩, hr.n, hr.df, fun t => ?_, fun t cs' ty' ht => ?_, fun t t' b' h1 h2 => ?_⟩⟩
 ·rcases hfoot b' hf with rfl | hf
  ·exact .inr k2
  ·exact hx.foot b' hf
 ·by_cases e' : b' = b
  ·subst e'
   simp only [St.publish, Heap.setBox, upd_same, Option.some.injEq, Prod.mk.injEq] at hb'
   obtain ⟨rfl, rfl⟩ := hb'
   exact ⟨ccs, k3, k4, k5, k6⟩
  ·simp only [St.publish, Heap.setBox, upd_other _ _ _ _ e'] at hb'
   exact hr.hr.box b' cs' ty' hb'
 ·have : b' ≠ b := fun e' => k7 (.inr ⟨g, x, v, j1, j2, e' ▸ j3⟩)
  simp only [St.publish, Heap.setBox, upd_other _ _ _ _ this]
  exact hr.hr.nobox g x v b' j1 j2 j3
 ·have := hr.tmps t
  simp only [St.publish]
  cases hv : st.E t <;> rw [hv] at this <;> simp only [substV] <;> first | exact this | skip
  rename_i t1 off
  obtain ⟨hne, b1, hb1, hpv⟩ := this
  split
  ·rename_i e'
   subst e'
   obtain rfl : b1 = b := Option.some.inj (hb1.symm.trans k1)
   rw [hpv]
   exact Rep.ptr _ _
  ·rename_i e'
   exact ⟨by simpa [upd, e'] using hne, b1, hb1, hpv⟩
 ·have e' : t ≠ t0 := fun e' => by subst e'; simp [St.publish, upd] at ht
  simp only [St.publish, upd_other _ _ _ _ e'] at ht
  obtain ⟨b2, j1, j2, j3, j4, j5⟩ := hr.loc t cs' ty' ht
  refine ⟨b2, j1, j2, j3, j4, fun hf => ?_⟩
  rcases hfoot b2 hf with rfl | hf
  ·exact e' (hr.inj t t0 b2 (by rw [ht]; simp) (by rw [hl]; simp) j1 k1)
  ·exact j5 hf
 ·have f : ∀ t, (upd st.loc t0 none) t ≠ none → st.loc t ≠ none := fun t ht => by
   by_cases e' : t = t0
   ·subst e'; simp [upd] at ht
   ·simpa [upd, e'] using ht
  exact hr.inj t t' b' (f t h1) (f t' h2)
/-- A box of the call's own is written. -/
theorem ARel.setLoc {n0 : Base} {G : Ghost} {be : Nat → Option Nat} {st : St} {a : Act} {w : World} (h : ARel n0 G be st a w) {t0 b : Nat} {cs : List V} {ty : TypeId} (hl : st.loc t0 = some (cs, ty)) (hb : be t0 = some b) {cs' : List V} {ccs' : Array Value} (hsl : cs'.length = cs.length) (hr : RepL G cs' ccs'.toList) (h1 : ∀ v ∈ ccs'.toList, v.oneCell' = true) :
  ARel n0 G be { st with loc := upd st.loc t0 (some (cs', ty)) } a (w.setRow b ccs') ∧ (¬ foot G st.s b) ∧ n0.n ≤ b := by
 obtain ⟨b', k1, k2, ⟨ccs, k3, k4⟩, k5, k6⟩ := h.loc t0 cs ty hl
 obtain rfl : b' = b := Option.some.inj (k1.symm.trans hb)
 refine ⟨⟨?_, h.n, h.df, fun t => (h.tmps t).locs fun t' ht' => ⟨?_, rfl⟩, fun t cs'' ty'' ht => ?_, fun t1 t2 b0 e1 e2 => ?_⟩, k6, k2⟩
 ·refine h.hr.same (fun b o v hv => ?_) (fun b hb => setRow_other _ _ _ _ (fun e => k6 (e ▸ hb))) (fun b x hb => setRow_other _ _ _ _ (fun e => by
   have hx := h.hr.ob b x hb
   rw [e, k3] at hx
   have := Option.some.inj hx.2; subst this; exact absurd hx.1 (by simp [isC]))) (setRow_siz k3 (by have q1 := hr.1; have q2 := k4.1.1; simp at q1 q2; omega))
  refine cell_setRow_other _ _ _ _ (fun e => ?_)
  simp only at e
  rw [e, k5 o] at hv; cases hv
 ·by_cases e : t' = t0
  ·subst e; simp [upd]
  ·simpa [upd, e] using ht'
 ·by_cases e : t = t0
  ·subst e
   simp only [upd_same, Option.some.injEq, Prod.mk.injEq] at ht
   obtain ⟨rfl, rfl⟩ := ht
   exact ⟨b', hb, k2, ⟨ccs', setRow_heap _ _ _ _ _ _ k3, hr, h1⟩, k5, k6⟩
  ·simp only [upd_other _ _ _ _ e] at ht
   obtain ⟨b2, j1, j2, ⟨c2, j3, j4⟩, j5⟩ := h.loc t cs'' ty'' ht
   have hne : b2 ≠ b' := fun e' => e (h.inj t t0 b2 (by rw [ht]; simp) (by rw [hl]; simp) j1 (e' ▸ hb))
   exact ⟨b2, j1, j2, ⟨c2, (setRow_other _ _ _ _ hne).trans j3, j4⟩, j5⟩
 ·have f : ∀ t, (upd st.loc t0 (some (cs', ty))) t ≠ none → st.loc t ≠ none := fun t ht => by
   by_cases e : t = t0
   ·subst e; rw [hl]; simp
   ·simpa [upd, e] using ht
  exact h.inj t1 t2 b0 (f t1 e1) (f t2 e2)
theorem splice_len {cs l : List V} {off : Nat} (h : off + l.length ≤ cs.length) : (splice cs off l).length = cs.length := by
 unfold splice; simp; omega
/-- A box of the heap is written. -/
theorem HRel.setBox {G : Ghost} {s : Heap} {w : World} (h : HRel G s w) {b : Nat} {cs : List V} {ty : TypeId} (hb : s.box b = some (cs, ty)) {cs' : List V} {ccs' : Array Value} (hsl : cs'.length = cs.length) (hr : RepL G cs' ccs'.toList) (h1 : ∀ v ∈ ccs'.toList, v.oneCell' = true) :
  HRel G (s.setBox b (cs', ty)) (w.setRow b ccs') ∧ Ext G s w G (s.setBox b (cs', ty)) (w.setRow b ccs') := by
 obtain ⟨ccs, k1, k2, k3, k4⟩ := h.box b cs ty hb
 have hfoot : ∀ b', foot G (s.setBox b (cs', ty)) b' → foot G s b' := fun b' hf => by
  rcases hf with hf | hf
  ·by_cases e : b' = b
   ·subst e; exact .inl (by rw [hb]; simp)
   ·exact .inl (by simpa [Heap.setBox, upd, e] using hf)
  ·exact .inr hf
 refine ⟨⟨fun b' o v hv => ?_, fun b' cs'' ty'' hb' => ?_, fun g e sz hg => ?_, h.sep, fun g x v b' j1 j2 j3 => ?_, h.fin, fun k x hk => ⟨(h.ob k x hk).1, (setRow_other _ _ _ _ (fun e => by
  have hx := h.ob k x hk
  rw [e, k1] at hx
  have := Option.some.inj hx.2; subst this; exact absurd hx.1 (by simp [isC]))).trans (h.ob k x hk).2⟩, h.tab, h.siz.of (setRow_siz k1 (by have q1 := hr.1; have q2 := k2.1; simp at q1 q2; omega))⟩, ⟨.refl G, by simp, rfl, rfl, rfl, fun b' hb' hf => setRow_other _ _ _ _ (fun e => hf (e ▸ .inl (by rw [hb]; simp))), fun b' hb' => .inl (hfoot b' hb'), fun _ _ h => .inl h, fun _ h => .inl h⟩⟩
 ·refine (cell_setRow_other _ _ _ _ (fun e => ?_)).trans (h.frz b' o v hv)
  simp only at e
  rw [e, k4 o] at hv; cases hv
 ·by_cases e : b' = b
  ·subst e
   simp only [Heap.setBox, upd_same, Option.some.injEq, Prod.mk.injEq] at hb'
   obtain ⟨rfl, rfl⟩ := hb'
   exact ⟨ccs', setRow_heap _ _ _ _ _ _ k1, hr, h1, k4⟩
  ·simp only [Heap.setBox, upd_other _ _ _ _ e] at hb'
   obtain ⟨c2, j1, j2⟩ := h.box b' cs'' ty'' hb'
   exact ⟨c2, (setRow_other _ _ _ _ e).trans j1, j2⟩
 ·obtain ⟨v, hv, ho⟩ := h.own g e sz hg
  refine ⟨v, hv, ?_⟩
  rcases ho with ⟨a, rfl⟩ | ⟨b', n, cap, cur, rfl, j1, j2⟩
  ·exact .inl ⟨a, rfl⟩
  ·have hne : b' ≠ b := fun e' => by
    have := h.nobox g _ _ b' hg hv rfl
    rw [e', hb] at this; cases this
   exact .inr ⟨b', n, cap, cur, rfl, (setRow_other _ _ _ _ hne).trans j1, j2⟩
 ·by_cases e : b' = b
  ·subst e
   have := h.nobox g x v b' j1 j2 j3
   rw [hb] at this; cases this
  ·simp only [Heap.setBox, upd_other _ _ _ _ e]
   exact h.nobox g x v b' j1 j2 j3
theorem Ext.setRow {G G' : Ghost} {s s' : Heap} {w w' : World} (h : Ext G s w G' s' w') {b : Nat} (hb : w.heap.size ≤ b) (ccs : Array Value) : Ext G s w G' s' (w'.setRow b ccs) :=
 ⟨h.le, by simpa using h.size, h.os, h.tape, h.output, fun b' hb' hf => (setRow_other _ _ _ _ (by omega)).trans (h.keep b' hb' hf), h.foot, h.frz, h.keys⟩
theorem splice_rep {G : Ghost} {cs l : List V} {vs vl : List Value} (h : RepL G cs vs) (hl : RepL G l vl) (off : Nat) : RepL G (splice cs off l) (vs.take off ++ vl ++ vs.drop (off + vl.length)) := by
 unfold splice
 rw [← hl.1]
 exact ((h.take off).append hl).append (h.drop _)
theorem storeAt_run {t : TypeId} {d : TyD} (hd : tyOf P t = some d) {v : Value} {b off : Nat} {ccs : Array Value} {ty : TypeId} (w : World) (hb : w.heap[b]? = some (.cells ccs ty (0, 0))) (hs : v.cells.size = d.size) (hle : off + d.size ≤ ccs.size) (h1 : ∀ x ∈ v.cells.toList, x.oneCell' = true) :
  (Instr.storeAt t (.pointer (some ⟨b, off, none⟩)) v).run P w = .ok () (w.setRow b (ccs.toList.take off ++ v.cells.toList ++ ccs.toList.drop (off + v.cells.toList.length)).toArray) := by
 obtain ⟨i, u, z, hi, hu, hz, e1, e2, e3, e4, e5⟩ := tyOf_some hd
 have hsz : (sizeOf t).run P w = .ok d.size w := by simp [sizeOf, typeInfo, hi, e1]
 have hst := run_storeCells_at P b off ty v.cells.toList 0 ccs w hb (by simpa [hs] using hle) h1
 rw [Nat.add_zero] at hst
 simp only [Instr.storeAt, Instr.sureAddr, Sem.run_bind, Sem.run_pure, Result.andThen_ok, storeVar, hsz, hs, ne_eq, not_true_eq_false, if_false]
 simpa using hst
theorem mem_splice_one {vs vl : List Value} {off : Nat} (h : ∀ v ∈ vs, v.oneCell' = true) (hl : ∀ v ∈ vl, v.oneCell' = true) : ∀ v ∈ vs.take off ++ vl ++ vs.drop (off + vl.length), v.oneCell' = true := by
 intro v hv
 simp only [List.mem_append] at hv
 rcases hv with (hv | hv) | hv
 ·exact h v (List.mem_of_mem_take hv)
 ·exact hl v hv
 ·exact h v (List.mem_of_mem_drop hv)
theorem aStore_sound {e : Entry} {o : Oper} {t : TypeId} {x y : Operand} (ho : o.op = .store t x y) {st : St} {K : St → Prop} {a : Act} {w : World} {Q : Exit → Act → World → Prop} (h : aStore P o t x y st K) (hin : In e st a w) : o.wp P a w (Then e K) Q := by
 unfold aStore at h
 split at h
 ·rename_i d hd
  obtain ⟨hall, hlen, hdst, h⟩ := h
  obtain ⟨G, be, hx, hr⟩ := hin
  obtain ⟨hyr, hy1⟩ := cells_rep (hr.eval y) hall
  have hys : (a.eval y).cells.size = d.size := by have := hyr.1; simp at this; omega
  split at h
  ·rename_i b off hxv
   split at h
   ·rename_i cs ty hb
    obtain ⟨hle, hK⟩ := h
    obtain ⟨bl, k1, k2, ⟨ccs, k3, k4, k5⟩, k6, k7⟩ := hr.loc b cs ty hb
    obtain ⟨bl', k1', hv⟩ := locPtr hr hxv
    obtain rfl : bl' = bl := Option.some.inj (k1'.symm.trans k1)
    have hcs : ccs.size = cs.length := by have := k4.1; simp at this; omega
    have hrun := storeAt_run (P := P) hd (v := a.eval y) (b := bl') (off := off) w k3 hys (by omega) hy1
    obtain ⟨hA, _, hn0⟩ := hr.setLoc hb k1 (cs' := splice cs off (st.eval y).cells) (ccs' := (ccs.toList.take off ++ (a.eval y).cells.toList ++ ccs.toList.drop (off + (a.eval y).cells.toList.length)).toArray) (splice_len (by omega)) (by simpa using splice_rep k4 hyr off) (by simpa using mem_splice_one k5 hy1)
    unfold Oper.wp
    have : (execOp a.eval o).run P w = .ok .skip (w.setRow bl' (ccs.toList.take off ++ (a.eval y).cells.toList ++ ccs.toList.drop (off + (a.eval y).cells.toList.length)).toArray) := by
     unfold execOp
     simp only [ho, hv, Sem.run_bind, hrun, Result.andThen_ok, Sem.run_pure]
    rw [this]
    refine ⟨_, hK, G, be, ?_, hA.put o.dst (dstOk_lt hdst) (Rep.base _)⟩
    have hs : ∀ (s1 : St) (v : V), (s1.put o.dst v).s = s1.s := fun s1 v => by cases o.dst <;> rfl
    rw [hs]
    exact hx.setRow hn0 _
   ·exact h.elim
  ·rename_i b off hxv
   split at h
   ·rename_i cs ty hb
    obtain ⟨hle, hK⟩ := h
    obtain ⟨ccs, k3, k4, k5, k6⟩ := hr.hr.box b cs ty hb
    have hh := hr.eval x
    rw [hxv] at hh
    have hv : a.eval x = .pointer (some ⟨b, off, none⟩) := by
     generalize hv : a.eval x = v at hh
     cases (show Rep G (.ptr b off) v from hh); rfl
    have hcs : ccs.size = cs.length := by have := k4.1; simp at this; omega
    have hrun := storeAt_run (P := P) hd (v := a.eval y) (b := b) (off := off) w k3 hys (by omega) hy1
    obtain ⟨hH, hX⟩ := hr.hr.setBox hb (cs' := splice cs off (st.eval y).cells) (ccs' := (ccs.toList.take off ++ (a.eval y).cells.toList ++ ccs.toList.drop (off + (a.eval y).cells.toList.length)).toArray) (splice_len (by omega)) (by simpa using splice_rep k4 hyr off) (by simpa using mem_splice_one k5 hy1)
    unfold Oper.wp
    have : (execOp a.eval o).run P w = .ok .skip (w.setRow b (ccs.toList.take off ++ (a.eval y).cells.toList ++ ccs.toList.drop (off + (a.eval y).cells.toList.length)).toArray) := by
     unfold execOp
     simp only [ho, hv, Sem.run_bind, hrun, Result.andThen_ok, Sem.run_pure]
    rw [this]
    have hA : ARel e.base G be { st with s := st.s.setBox b (splice cs off (st.eval y).cells, ty) } a (w.setRow b (ccs.toList.take off ++ (a.eval y).cells.toList ++ ccs.toList.drop (off + (a.eval y).cells.toList.length)).toArray) :=
     ⟨hH, hr.n, hr.df, hr.tmps, fun t' cs' ty' ht' => by
      obtain ⟨bl, j1, j2, ⟨c2, j3, j4⟩, j5, j6⟩ := hr.loc t' cs' ty' ht'
      have hne : bl ≠ b := fun e' => j6 (.inl (by rw [e', hb]; simp))
      refine ⟨bl, j1, j2, ⟨c2, (setRow_other _ _ _ _ hne).trans j3, j4⟩, j5, fun hf => ?_⟩
      rcases hX.foot bl hf with x | x
      ·exact j6 x
      ·have := (Array.getElem?_eq_some_iff.1 j3).1; omega, hr.inj⟩
    refine ⟨_, hK, G, be, ?_, hA.put o.dst (dstOk_lt hdst) (Rep.base _)⟩
    have hs : ∀ (s1 : St) (v : V), (s1.put o.dst v).s = s1.s := fun s1 v => by cases o.dst <;> rfl
    rw [hs]
    exact hx.trans hX
   ·exact h.elim
  ·exact h.elim
 ·exact h.elim
end Go.Am
namespace Go.Am
variable {P : Program}
theorem put_s (st : St) (d : Option Tmp) (v : V) : (st.put d v).s = st.s := by cases d <;> rfl
theorem ARel.ext {n0 : Base} {G G' : Ghost} {be : Nat → Option Nat} {st : St} {a : Act} {w w' : World} {s' : Heap} (h : ARel n0 G be st a w) (hx : Ext G st.s w G' s' w') (hh : HRel G' s' w') : ARel n0 G' be { st with s := s' } a w' := by
 refine ⟨hh, h.n, h.df.mono hx.le, fun t => (h.tmps t).mono hx.le, fun t cs ty ht => ?_, h.inj⟩
 obtain ⟨b, k1, k2, ⟨ccs, k3, k4, k5⟩, k6, k7⟩ := h.loc t cs ty ht
 have hlt : b < w.heap.size := (Array.getElem?_eq_some_iff.1 k3).1
 refine ⟨b, k1, k2, ⟨ccs, (hx.keep b hlt k7).trans k3, k4.mono hx.le, k5⟩, fun o => ?_, fun hf => ?_⟩
 ·cases hq : G'.F b o with
  | none => rfl
  | some v =>
   rcases hx.frz b o (by rw [hq]; simp) with x | x | x
   ·exact absurd (k6 o) x
   ·exact absurd x k7
   ·omega
 ·rcases hx.foot b hf with x | x
  ·exact k7 x
  ·omega
theorem aLoad_sound {e : Entry} {o : Oper} {t : TypeId} {x : Operand} (ho : o.op = .load t x) {st : St} {K : St → Prop} {a : Act} {w : World} {Q : Exit → Act → World → Prop} (h : aLoad P o t x st K) (hin : In e st a w) : o.wp P a w (Then e K) Q := by
 unfold aLoad at h
 split at h
 ·rename_i b off hxv
  split at h
  ·rename_i d cs ty hd hb
   split at h
   ·rename_i v hv
    obtain ⟨hdst, hK⟩ := h
    obtain ⟨G, be, hx, hr⟩ := hin
    obtain ⟨ccs, k3, k4, k5, k6⟩ := hr.hr.box b cs ty hb
    have hh := hr.eval x
    rw [hxv] at hh
    have hpv : a.eval x = .pointer (some ⟨b, off, none⟩) := by
     generalize hq : a.eval x = q at hh
     cases (show Rep G (.ptr b off) q from hh); rfl
    obtain ⟨cv, hrun, hrep⟩ := rd_run (P := P) (w := w) (b := b) (o := 0) k4 (fun j v hv => by rw [Nat.zero_add, cell_of_row w b j ccs ty _ k3]; simpa using hv) hd hv
    rw [Nat.zero_add] at hrun
    unfold Oper.wp
    have : (execOp a.eval o).run P w = .ok (.value cv) w := by
     unfold execOp
     simp only [ho, hpv, Sem.run_bind, hrun, Result.andThen_ok, Sem.run_pure]
    rw [this]
    refine ⟨_, hK, G, be, ?_, hr.put o.dst (dstOk_lt hdst) (LRep.of_rep hrep)⟩
    rw [put_s]; exact hx
   ·exact h.elim
  ·exact h.elim
 ·exact aPure_sound h hin
theorem aCall_sound {e : Entry} {o : Oper} {f : Operand} {args : Array Operand} {ts : Array TypeId} (ho : o.op = .call { callee := .value f, args := args, argTypes := ts }) {st : St} {K : St → Prop} {a : Act} {w : World} {Q : Exit → Act → World → Prop}
  (hQ : PQ e Q) (h : aCall P o f args st K) (hin : In e st a w) : o.wp P a w (Then e K) Q := by
 unfold aCall at h
 split at h
 ·rename_i k first cap hf
  split at h
  ·rename_i vs hvs
   obtain ⟨hdst, ⟨fn, hfn, hbody, hname⟩, hc⟩ := h
   obtain ⟨G, be, hx, hr⟩ := hin
   have hh := hr.eval f
   rw [hf] at hh
   generalize hq : a.eval f = q at hh
   cases (show Rep G (.func k first cap) q from hh) with
   | func _ _ _ cf cc l1 l2 r1 r2 =>
    have hargs := noLocs_rep hr _ _ hvs
    have hcall := hc G w (cf ++ args.map a.eval ++ cc) hr.hr (by
     have := ((repL_of_arr l1 r1).append hargs).append (repL_of_arr l2 r2)
     simpa using this)
    unfold Oper.wp
    have : (execOp a.eval o).run P w = .ok (.enter k (cf ++ args.map a.eval ++ cc)) w := by
     unfold execOp
     have hb' : fn.body.isNone = false := hbody
     simp only [ho, resolve, hq, Deferred.ofValue, Sem.run_bind, Sem.run_pure, Result.andThen_ok, invoke, callFunc, run_program, hfn, hname, Bool.false_eq_true, if_false, hb']
    rw [this]
    refine hcall.mono ?_
    rintro e' w' (⟨G', s', v, cv, rfl, hv, hx', hh', hR⟩ | ⟨G', s', v, rfl, hx', hh', hds, hp⟩)
    ·refine ⟨_, hR, G', be, ?_, (hr.ext hx' hh').put o.dst (dstOk_lt hdst) (LRep.of_rep hv)⟩
     rw [put_s]
     exact hx.trans hx'
    ·exact hQ _ _ _ ⟨v, G', s', rfl, by rw [hr.df.eq, hds]; rfl, hx.trans hx', hh', (show st.pp = e.pp from hr.df.pp) ▸ hp⟩
  ·exact h.elim
 ·exact h.elim
/-- A segment of a block is known to turn no more; the slice up to its end may still grow. -/
def Ghost.seg (G : Ghost) (b lo : Nat) (news : List Value) (g : Nat) (v : Value) : Ghost :=
 { F := fun b' o => if b' = b ∧ lo ≤ o ∧ o < lo + news.length then news[o - lo]? else G.F b' o, om := upd G.om g (some v), ob := G.ob }
theorem Ghost.seg_le {G : Ghost} {b lo : Nat} (news : List Value) {g : Nat} (v : Value) (hF : ∀ o, lo ≤ o → G.F b o = none) (hg : G.om g = none) : G.Le (G.seg b lo news g v) where
 f := fun b' o x hx => by
  simp only [Ghost.seg]
  split
  ·rename_i h
   obtain ⟨rfl, h1, _⟩ := h
   rw [hF o h1] at hx; cases hx
  ·exact hx
 o := fun g' x hx => by
  have : g' ≠ g := fun e => by subst e; rw [hg] at hx; cases hx
  simpa [Ghost.seg, upd, this] using hx
 b := fun _ _ hx => hx
theorem HRel.claim {G : Ghost} {s : Heap} {w : World} (h : HRel G s w) {b lo n cap sz : Nat} {news : List Value} {cur : Array Value} {e : TypeId} {g : Nat} (hb : w.heap[b]? = some (.cells cur e (0, 0))) (hnf : ¬ foot G s b) (hF : ∀ o, lo ≤ o → G.F b o = none)
  (hg : G.om g = none) (hcur : ∀ (j : Nat) v, news[j]? = some v → cur[lo + j]? = some v) (hlo : lo + news.length = n * sz) (hsz : cur.size = (cap + 1) * sz) (hn : n ≤ cap + 1) (hm : cap + 1 ≤ maxLen) :
  HRel (G.seg b lo news g (.slice (some ⟨b, 0, none⟩) n (cap + 1))) (s.setOwn g (some (e, sz))) w where
 frz := fun b' o v hv => by
  simp only [Ghost.seg] at hv
  split at hv
  ·rename_i hc
   obtain ⟨rfl, h1, h2⟩ := hc
   rw [cell_of_row w b' o cur e _ hb]
   have := hcur (o - lo) v hv
   rwa [show lo + (o - lo) = o by omega] at this
  ·exact h.frz b' o v hv
 box := fun b' cs ty hx => by
  obtain ⟨c', h1, h2, h3, h4⟩ := h.box b' cs ty hx
  have hne : b' ≠ b := fun e' => hnf (.inl (by rw [← e', show s.box b' = some (cs, ty) from hx]; simp))
  refine ⟨c', h1, h2.mono (Ghost.seg_le news _ hF hg), h3, fun o => ?_⟩
  simp [Ghost.seg, hne, h4 o]
 own := fun g' e' sz' hx => by
  by_cases eg : g' = g
  ·subst eg
   simp only [Heap.setOwn, upd_same, Option.some.injEq, Prod.mk.injEq] at hx
   obtain ⟨rfl, rfl⟩ := hx
   refine ⟨_, upd_same _ _ _, .inr ⟨b, n, cap, cur, rfl, hb, hsz, hn, hm, fun o ho => ?_⟩⟩
   simp only [Ghost.seg]
   rw [if_neg (by omega)]
   exact hF o (by omega)
  ·simp only [Heap.setOwn, upd_other _ _ _ _ eg] at hx
   obtain ⟨v, hv, ho⟩ := h.own g' e' sz' hx
   refine ⟨v, by simpa [Ghost.seg, upd, eg] using hv, ?_⟩
   rcases ho with ⟨a, rfl⟩ | ⟨b', n', cap', cur', rfl, h1, h2, h3, h4, h5⟩
   ·exact .inl ⟨a, rfl⟩
   ·have hne : b' ≠ b := fun e'' => hnf (.inr ⟨g', _, _, hx, hv, by simp [blk, e'']⟩)
    exact .inr ⟨b', n', cap', cur', rfl, h1, h2, h3, h4, fun o ho => by simp [Ghost.seg, hne, h5 o ho]⟩
 sep := fun g1 g2 x1 x2 v1 v2 b' k1 k2 k3 k4 k5 k6 => by
  by_cases e1 : g1 = g
  ·by_cases e2 : g2 = g
   ·rw [e1, e2]
   ·exfalso
    subst e1
    simp only [Heap.setOwn, upd_other _ _ _ _ e2] at k2
    simp only [Ghost.seg, upd_same, Option.some.injEq] at k3
    simp only [Ghost.seg, upd_other _ _ _ _ e2] at k4
    subst k3
    simp [blk] at k5
    exact hnf (.inr ⟨g2, _, _, k2, k4, by rw [k6, k5]⟩)
  ·by_cases e2 : g2 = g
   ·exfalso
    subst e2
    simp only [Heap.setOwn, upd_other _ _ _ _ e1] at k1
    simp only [Ghost.seg, upd_same, Option.some.injEq] at k4
    simp only [Ghost.seg, upd_other _ _ _ _ e1] at k3
    subst k4
    simp [blk] at k6
    exact hnf (.inr ⟨g1, _, _, k1, k3, by rw [k5, k6]⟩)
   ·simp only [Heap.setOwn, upd_other _ _ _ _ e1] at k1
    simp only [Heap.setOwn, upd_other _ _ _ _ e2] at k2
    simp only [Ghost.seg, upd_other _ _ _ _ e1] at k3
    simp only [Ghost.seg, upd_other _ _ _ _ e2] at k4
    exact h.sep g1 g2 x1 x2 v1 v2 b' k1 k2 k3 k4 k5 k6
 nobox := fun g' x v b' k1 k2 k3 => by
  by_cases eg : g' = g
  ·subst eg
   simp only [Ghost.seg, upd_same, Option.some.injEq] at k2
   subst k2
   simp [blk] at k3
   cases hx : s.box b' with
   | none => exact hx
   | some y => exact absurd (.inl (by rw [k3, hx]; simp)) hnf
  ·simp only [Heap.setOwn, upd_other _ _ _ _ eg] at k1
   simp only [Ghost.seg, upd_other _ _ _ _ eg] at k2
   exact h.nobox g' x v b' k1 k2 k3
 fin := by
  obtain ⟨N, hN⟩ := h.fin
  refine ⟨max N (g + 1), fun g' hg' => ?_⟩
  have : g' ≠ g := by omega
  have := hN g' (by omega)
  simp [Ghost.seg, Heap.setOwn, upd, *]
 ob := h.ob
 tab := h.tab.mono (Ghost.seg_le news _ hF hg).f
 siz := h.siz
/-- The same of an empty slice without room. -/
theorem HRel.claim0 {G : Ghost} {s : Heap} {w : World} (h : HRel G s w) {a : Option Addr} {e : TypeId} {sz g : Nat} (hg : G.om g = none) :
  G.Le { G with om := upd G.om g (some (.slice a 0 0)) } ∧ HRel { G with om := upd G.om g (some (.slice a 0 0)) } (s.setOwn g (some (e, sz))) w ∧
  ∀ b, foot { G with om := upd G.om g (some (.slice a 0 0)) } (s.setOwn g (some (e, sz))) b → foot G s b := by
 have hle : G.Le { G with om := upd G.om g (some (.slice a 0 0)) } := ⟨fun _ _ _ h => h, fun g' v hv => by
  have : g' ≠ g := fun e => by subst e; rw [hg] at hv; cases hv
  simpa [upd, this] using hv, fun _ _ hx => hx⟩
 have hb0 : blk (.slice a 0 0) = none := by cases a <;> rfl
 refine ⟨hle, ⟨h.frz, fun b cs ty hx => ?_, fun g' e' sz' hx => ?_, fun g1 g2 x1 x2 v1 v2 b' k1 k2 k3 k4 k5 k6 => ?_, fun g' x v b' k1 k2 k3 => ?_, ?_, h.ob, h.tab, h.siz⟩, fun b hf => ?_⟩
 ·obtain ⟨c', h1, h2, h3⟩ := h.box b cs ty hx
  exact ⟨c', h1, h2.mono hle, h3⟩
 ·by_cases eg : g' = g
  ·subst eg; exact ⟨_, upd_same _ _ _, .inl ⟨a, rfl⟩⟩
  ·simp only [Heap.setOwn, upd_other _ _ _ _ eg] at hx
   obtain ⟨v, hv, ho⟩ := h.own g' e' sz' hx
   exact ⟨v, by simpa [upd, eg] using hv, ho⟩
 ·have f : ∀ g1 v1, (upd G.om g (some (.slice a 0 0))) g1 = some v1 → blk v1 = some b' → g1 ≠ g := fun g1 v1 k k' e => by
   subst e; rw [upd_same] at k; cases k; rw [hb0] at k'; cases k'
  have e1 := f g1 v1 k3 k5
  have e2 := f g2 v2 k4 k6
  simp only [Heap.setOwn, upd_other _ _ _ _ e1] at k1
  simp only [Heap.setOwn, upd_other _ _ _ _ e2] at k2
  simp only [upd_other _ _ _ _ e1] at k3
  simp only [upd_other _ _ _ _ e2] at k4
  exact h.sep g1 g2 x1 x2 v1 v2 b' k1 k2 k3 k4 k5 k6
 ·have eg : g' ≠ g := fun e => by
   subst e; simp only [upd_same, Option.some.injEq] at k2; subst k2; rw [hb0] at k3; cases k3
  simp only [Heap.setOwn, upd_other _ _ _ _ eg] at k1
  simp only [upd_other _ _ _ _ eg] at k2
  exact h.nobox g' x v b' k1 k2 k3
 ·obtain ⟨N, hN⟩ := h.fin
  refine ⟨max N (g + 1), fun g' hg' => ?_⟩
  have : g' ≠ g := by omega
  have := hN g' (by omega)
  simp [Heap.setOwn, upd, *]
 ·rcases hf with hf | ⟨g', x, v, k1, k2, k3⟩
  ·exact .inl hf
  ·have eg : g' ≠ g := fun e => by
    subst e; simp only [upd_same, Option.some.injEq] at k2; subst k2; rw [hb0] at k3; cases k3
   simp only [Heap.setOwn, upd_other _ _ _ _ eg] at k1
   simp only [upd_other _ _ _ _ eg] at k2
   exact .inr ⟨g', x, v, k1, k2, k3⟩
theorem appV_rep {G : Ghost} {be : Nat → Option Nat} {loc : Nat → Option (List V × TypeId)} {c : V} {v : Value} {sz : Nat} {xs : List (List V)} (h : LRep G be loc c v) (hx : appV sz c = some xs) : Rep G (.slice sz xs) v := by
 cases c <;> simp [appV] at hx
 case base x =>
  split at hx
  ·rename_i e; cases e
  ·rename_i e; cases e
  ·rename_i e
   simp at hx
   subst hx
   cases e
   cases (show Rep G (.base _) v from h)
   exact .slice0 _ _ _
  ·rename_i e; cases e
  ·rename_i e; cases e
  ·simp at hx
 case nil => subst hx; cases (show Rep G .nil v from h); exact .slice0 _ _ _
 case zcap => subst hx; cases (show Rep G .zcap v from h); exact .slice0 _ _ _
 case slice => obtain ⟨rfl, rfl⟩ := hx; exact h
 case own => obtain ⟨rfl, rfl⟩ := hx; cases (show Rep G (.own _ _ _) v from h) with | own _ _ _ _ h _ => exact h
end Go.Am
