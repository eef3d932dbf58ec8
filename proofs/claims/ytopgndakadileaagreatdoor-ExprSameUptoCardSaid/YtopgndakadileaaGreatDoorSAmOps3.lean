/- The operations (3): a call, a read of the heap, append; and all operations together. -/
import Derived.Test.YtopgndakadileaaGreatDoorSAmOps2
set_option linter.unusedVariables false
set_option linter.unusedSimpArgs false
namespace Go.Am
variable {P : Program}
theorem put_s (st : St) (d : Option Tmp) (v : V) : (st.put d v).s = st.s := by cases d <;> rfl
theorem ARel.ext {n0 : Base} {G G' : Ghost} {be : Nat → Option Nat} {st : St} {a : Act} {w w' : World} {s' : Heap} (h : ARel n0 G be st a w) (hx : Ext G st.s w G' s' w') (hh : HRel G' s' w') : ARel n0 G' be { st with s := s' } a w' := by
  refine ⟨hh, h.n, h.df.mono hx.le, fun t => (h.tmps t).mono hx.le, fun t cs ty ht => ?_, h.inj⟩
  obtain ⟨b, k1, k2, ⟨ccs, k3, k4, k5⟩, k6, k7⟩ := h.loc t cs ty ht
  have hlt : b < w.heap.size := (Array.getElem?_eq_some_iff.1 k3).1
  refine ⟨b, k1, k2, ⟨ccs, (hx.keep b hlt k7).trans k3, k4.mono hx.le, k5⟩, fun o => ?_, fun hf => ?_⟩
  · cases hq : G'.F b o with
    | none => rfl
    | some v =>
      rcases hx.frz b o (by rw [hq]; simp) with x | x | x
      · exact absurd (k6 o) x
      · exact absurd x k7
      · omega
  · rcases hx.foot b hf with x | x
    · exact k7 x
    · omega
theorem aLoad_sound {e : Entry} {o : Oper} {t : TypeId} {x : Operand} (ho : o.op = .load t x) {st : St} {K : St → Prop} {a : Act} {w : World} {Q : Exit → Act → World → Prop} (h : aLoad P o t x st K) (hin : In e st a w) : o.wp P a w (Then e K) Q := by
  unfold aLoad at h
  split at h
  · rename_i b off hxv
    split at h
    · rename_i d cs ty hd hb
      split at h
      · rename_i v hv
        obtain ⟨hdst, hK⟩ := h
        obtain ⟨G, be, hx, hr⟩ := hin
        obtain ⟨ccs, k3, k4, k5, k6⟩ := hr.hr.box b cs ty hb
        have hh := hr.eval x
        rw [hxv] at hh
        have hpv : a.eval x = .pointer (some ⟨b, off, none⟩) := by
          generalize hq : a.eval x = q at hh
          cases (show Rep G (.ptr b off) q from hh); rfl
        obtain ⟨cv, hrun, hrep⟩ := rd_run (P := P) (w := w) (b := b) (o := 0) k4 (fun j v hv => by rw [Nat.zero_add, cell_of_row w b j ccs ty _ k3]; simpa using hv) hd hv
        rw [Nat.zero_add] at hrun
        unfold Oper.wp
        have : (execOp a.eval o).run P w = .ok (.value cv) w := by
          unfold execOp
          simp only [ho, hpv, Sem.run_bind, hrun, Result.andThen_ok, Sem.run_pure]
        rw [this]
        refine ⟨_, hK, G, be, ?_, hr.put o.dst (dstOk_lt hdst) (LRep.of_rep hrep)⟩
        rw [put_s]; exact hx
      · exact h.elim
    · exact h.elim
  · exact aPure_sound h hin
theorem aCall_sound {e : Entry} {o : Oper} {f : Operand} {args : Array Operand} {ts : Array TypeId} (ho : o.op = .call { callee := .value f, args := args, argTypes := ts }) {st : St} {K : St → Prop} {a : Act} {w : World} {Q : Exit → Act → World → Prop}
    (hQ : PQ e Q) (h : aCall P o f args st K) (hin : In e st a w) : o.wp P a w (Then e K) Q := by
  unfold aCall at h
  split at h
  · rename_i k first cap hf
    split at h
    · rename_i vs hvs
      obtain ⟨hdst, ⟨fn, hfn, hbody, hname⟩, hc⟩ := h
      obtain ⟨G, be, hx, hr⟩ := hin
      have hh := hr.eval f
      rw [hf] at hh
      generalize hq : a.eval f = q at hh
      cases (show Rep G (.func k first cap) q from hh) with
      | func _ _ _ cf cc l1 l2 r1 r2 =>
        have hargs := noLocs_rep hr _ _ hvs
        have hcall := hc G w (cf ++ args.map a.eval ++ cc) hr.hr (by
          have := ((repL_of_arr l1 r1).append hargs).append (repL_of_arr l2 r2)
          simpa using this)
        unfold Oper.wp
        have : (execOp a.eval o).run P w = .ok (.enter k (cf ++ args.map a.eval ++ cc)) w := by
          unfold execOp
          have hb' : fn.body.isNone = false := hbody
          simp only [ho, resolve, hq, Deferred.ofValue, Sem.run_bind, Sem.run_pure, Result.andThen_ok, invoke, callFunc, run_program, hfn, hname, Bool.false_eq_true, if_false, hb']
        rw [this]
        refine hcall.mono ?_
        rintro e' w' (⟨G', s', v, cv, rfl, hv, hx', hh', hR⟩ | ⟨G', s', v, rfl, hx', hh', hds, hp⟩)
        · refine ⟨_, hR, G', be, ?_, (hr.ext hx' hh').put o.dst (dstOk_lt hdst) (LRep.of_rep hv)⟩
          rw [put_s]
          exact hx.trans hx'
        · exact hQ _ _ _ ⟨v, G', s', rfl, by rw [hr.df.eq, hds]; rfl, hx.trans hx', hh', (show st.pp = e.pp from hr.df.pp) ▸ hp⟩
    · exact h.elim
  · exact h.elim
/-- A segment of a block is known to turn no more; the slice up to its end may still grow. -/
def Ghost.seg (G : Ghost) (b lo : Nat) (news : List Value) (g : Nat) (v : Value) : Ghost :=
  { F := fun b' o => if b' = b ∧ lo ≤ o ∧ o < lo + news.length then news[o - lo]? else G.F b' o, om := upd G.om g (some v), ob := G.ob }
theorem Ghost.seg_le {G : Ghost} {b lo : Nat} (news : List Value) {g : Nat} (v : Value) (hF : ∀ o, lo ≤ o → G.F b o = none) (hg : G.om g = none) : G.Le (G.seg b lo news g v) where
  f := fun b' o x hx => by
    simp only [Ghost.seg]
    split
    · rename_i h
      obtain ⟨rfl, h1, _⟩ := h
      rw [hF o h1] at hx; cases hx
    · exact hx
  o := fun g' x hx => by
    have : g' ≠ g := fun e => by subst e; rw [hg] at hx; cases hx
    simpa [Ghost.seg, upd, this] using hx
  b := fun _ _ hx => hx
theorem HRel.claim {G : Ghost} {s : Heap} {w : World} (h : HRel G s w) {b lo n cap sz : Nat} {news : List Value} {cur : Array Value} {e : TypeId} {g : Nat} (hb : w.heap[b]? = some (.cells cur e (0, 0))) (hnf : ¬ foot G s b) (hF : ∀ o, lo ≤ o → G.F b o = none)
    (hg : G.om g = none) (hcur : ∀ (j : Nat) v, news[j]? = some v → cur[lo + j]? = some v) (hlo : lo + news.length = n * sz) (hsz : cur.size = (cap + 1) * sz) (hn : n ≤ cap + 1) (hm : cap + 1 ≤ maxLen) :
    HRel (G.seg b lo news g (.slice (some ⟨b, 0, none⟩) n (cap + 1))) (s.setOwn g (some (e, sz))) w where
  frz := fun b' o v hv => by
    simp only [Ghost.seg] at hv
    split at hv
    · rename_i hc
      obtain ⟨rfl, h1, h2⟩ := hc
      rw [cell_of_row w b' o cur e _ hb]
      have := hcur (o - lo) v hv
      rwa [show lo + (o - lo) = o by omega] at this
    · exact h.frz b' o v hv
  box := fun b' cs ty hx => by
    obtain ⟨c', h1, h2, h3, h4⟩ := h.box b' cs ty hx
    have hne : b' ≠ b := fun e' => hnf (.inl (by rw [← e', show s.box b' = some (cs, ty) from hx]; simp))
    refine ⟨c', h1, h2.mono (Ghost.seg_le news _ hF hg), h3, fun o => ?_⟩
    simp [Ghost.seg, hne, h4 o]
  own := fun g' e' sz' hx => by
    by_cases eg : g' = g
    · subst eg
      simp only [Heap.setOwn, upd_same, Option.some.injEq, Prod.mk.injEq] at hx
      obtain ⟨rfl, rfl⟩ := hx
      refine ⟨_, upd_same _ _ _, .inr ⟨b, n, cap, cur, rfl, hb, hsz, hn, hm, fun o ho => ?_⟩⟩
      simp only [Ghost.seg]
      rw [if_neg (by omega)]
      exact hF o (by omega)
    · simp only [Heap.setOwn, upd_other _ _ _ _ eg] at hx
      obtain ⟨v, hv, ho⟩ := h.own g' e' sz' hx
      refine ⟨v, by simpa [Ghost.seg, upd, eg] using hv, ?_⟩
      rcases ho with ⟨a, rfl⟩ | ⟨b', n', cap', cur', rfl, h1, h2, h3, h4, h5⟩
      · exact .inl ⟨a, rfl⟩
      · have hne : b' ≠ b := fun e'' => hnf (.inr ⟨g', _, _, hx, hv, by simp [blk, e'']⟩)
        exact .inr ⟨b', n', cap', cur', rfl, h1, h2, h3, h4, fun o ho => by simp [Ghost.seg, hne, h5 o ho]⟩
  sep := fun g1 g2 x1 x2 v1 v2 b' k1 k2 k3 k4 k5 k6 => by
    by_cases e1 : g1 = g
    · by_cases e2 : g2 = g
      · rw [e1, e2]
      · exfalso
        subst e1
        simp only [Heap.setOwn, upd_other _ _ _ _ e2] at k2
        simp only [Ghost.seg, upd_same, Option.some.injEq] at k3
        simp only [Ghost.seg, upd_other _ _ _ _ e2] at k4
        subst k3
        simp [blk] at k5
        exact hnf (.inr ⟨g2, _, _, k2, k4, by rw [k6, k5]⟩)
    · by_cases e2 : g2 = g
      · exfalso
        subst e2
        simp only [Heap.setOwn, upd_other _ _ _ _ e1] at k1
        simp only [Ghost.seg, upd_same, Option.some.injEq] at k4
        simp only [Ghost.seg, upd_other _ _ _ _ e1] at k3
        subst k4
        simp [blk] at k6
        exact hnf (.inr ⟨g1, _, _, k1, k3, by rw [k5, k6]⟩)
      · simp only [Heap.setOwn, upd_other _ _ _ _ e1] at k1
        simp only [Heap.setOwn, upd_other _ _ _ _ e2] at k2
        simp only [Ghost.seg, upd_other _ _ _ _ e1] at k3
        simp only [Ghost.seg, upd_other _ _ _ _ e2] at k4
        exact h.sep g1 g2 x1 x2 v1 v2 b' k1 k2 k3 k4 k5 k6
  nobox := fun g' x v b' k1 k2 k3 => by
    by_cases eg : g' = g
    · subst eg
      simp only [Ghost.seg, upd_same, Option.some.injEq] at k2
      subst k2
      simp [blk] at k3
      cases hx : s.box b' with
      | none => exact hx
      | some y => exact absurd (.inl (by rw [k3, hx]; simp)) hnf
    · simp only [Heap.setOwn, upd_other _ _ _ _ eg] at k1
      simp only [Ghost.seg, upd_other _ _ _ _ eg] at k2
      exact h.nobox g' x v b' k1 k2 k3
  fin := by
    obtain ⟨N, hN⟩ := h.fin
    refine ⟨max N (g + 1), fun g' hg' => ?_⟩
    have : g' ≠ g := by omega
    have := hN g' (by omega)
    simp [Ghost.seg, Heap.setOwn, upd, *]
  ob := h.ob
  tab := h.tab.mono (Ghost.seg_le news _ hF hg).f
  siz := h.siz
/-- The same of an empty slice without room. -/
theorem HRel.claim0 {G : Ghost} {s : Heap} {w : World} (h : HRel G s w) {a : Option Addr} {e : TypeId} {sz g : Nat} (hg : G.om g = none) :
    G.Le { G with om := upd G.om g (some (.slice a 0 0)) } ∧ HRel { G with om := upd G.om g (some (.slice a 0 0)) } (s.setOwn g (some (e, sz))) w ∧
    ∀ b, foot { G with om := upd G.om g (some (.slice a 0 0)) } (s.setOwn g (some (e, sz))) b → foot G s b := by
  have hle : G.Le { G with om := upd G.om g (some (.slice a 0 0)) } := ⟨fun _ _ _ h => h, fun g' v hv => by
    have : g' ≠ g := fun e => by subst e; rw [hg] at hv; cases hv
    simpa [upd, this] using hv, fun _ _ hx => hx⟩
  have hb0 : blk (.slice a 0 0) = none := by cases a <;> rfl
  refine ⟨hle, ⟨h.frz, fun b cs ty hx => ?_, fun g' e' sz' hx => ?_, fun g1 g2 x1 x2 v1 v2 b' k1 k2 k3 k4 k5 k6 => ?_, fun g' x v b' k1 k2 k3 => ?_, ?_, h.ob, h.tab, h.siz⟩, fun b hf => ?_⟩
  · obtain ⟨c', h1, h2, h3⟩ := h.box b cs ty hx
    exact ⟨c', h1, h2.mono hle, h3⟩
  · by_cases eg : g' = g
    · subst eg; exact ⟨_, upd_same _ _ _, .inl ⟨a, rfl⟩⟩
    · simp only [Heap.setOwn, upd_other _ _ _ _ eg] at hx
      obtain ⟨v, hv, ho⟩ := h.own g' e' sz' hx
      exact ⟨v, by simpa [upd, eg] using hv, ho⟩
  · have f : ∀ g1 v1, (upd G.om g (some (.slice a 0 0))) g1 = some v1 → blk v1 = some b' → g1 ≠ g := fun g1 v1 k k' e => by
      subst e; rw [upd_same] at k; cases k; rw [hb0] at k'; cases k'
    have e1 := f g1 v1 k3 k5
    have e2 := f g2 v2 k4 k6
    simp only [Heap.setOwn, upd_other _ _ _ _ e1] at k1
    simp only [Heap.setOwn, upd_other _ _ _ _ e2] at k2
    simp only [upd_other _ _ _ _ e1] at k3
    simp only [upd_other _ _ _ _ e2] at k4
    exact h.sep g1 g2 x1 x2 v1 v2 b' k1 k2 k3 k4 k5 k6
  · have eg : g' ≠ g := fun e => by
      subst e; simp only [upd_same, Option.some.injEq] at k2; subst k2; rw [hb0] at k3; cases k3
    simp only [Heap.setOwn, upd_other _ _ _ _ eg] at k1
    simp only [upd_other _ _ _ _ eg] at k2
    exact h.nobox g' x v b' k1 k2 k3
  · obtain ⟨N, hN⟩ := h.fin
    refine ⟨max N (g + 1), fun g' hg' => ?_⟩
    have : g' ≠ g := by omega
    have := hN g' (by omega)
    simp [Heap.setOwn, upd, *]
  · rcases hf with hf | ⟨g', x, v, k1, k2, k3⟩
    · exact .inl hf
    · have eg : g' ≠ g := fun e => by
        subst e; simp only [upd_same, Option.some.injEq] at k2; subst k2; rw [hb0] at k3; cases k3
      simp only [Heap.setOwn, upd_other _ _ _ _ eg] at k1
      simp only [upd_other _ _ _ _ eg] at k2
      exact .inr ⟨g', x, v, k1, k2, k3⟩
theorem appV_rep {G : Ghost} {be : Nat → Option Nat} {loc : Nat → Option (List V × TypeId)} {c : V} {v : Value} {sz : Nat} {xs : List (List V)} (h : LRep G be loc c v) (hx : appV sz c = some xs) : Rep G (.slice sz xs) v := by
  cases c <;> simp [appV] at hx
  case base x =>
    split at hx
    · rename_i e; cases e
    · rename_i e; cases e
    · rename_i e
      simp at hx
      subst hx
      cases e
      cases (show Rep G (.base _) v from h)
      exact .slice0 _ _ _
    · rename_i e; cases e
    · rename_i e; cases e
    · simp at hx
  case nil => subst hx; cases (show Rep G .nil v from h); exact .slice0 _ _ _
  case zcap => subst hx; cases (show Rep G .zcap v from h); exact .slice0 _ _ _
  case slice => obtain ⟨rfl, rfl⟩ := hx; exact h
  case own => obtain ⟨rfl, rfl⟩ := hx; cases (show Rep G (.own _ _ _) v from h) with | own _ _ _ _ h _ => exact h
end Go.Am
