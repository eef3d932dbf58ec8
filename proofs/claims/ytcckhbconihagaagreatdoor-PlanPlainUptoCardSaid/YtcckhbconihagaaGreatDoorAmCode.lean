/- Code in abstract values: regions, ways, loops, a function's body. -/
import Derived.Test.YtcckhbconihagaaGreatDoorAmAppend
import Derived.Deep.LoopGhost
set_option linter.unusedVariables false
set_option linter.unusedSimpArgs false
namespace Go.Am
variable {P : Program}

inductive Gd where
  | always | never | stuck
  | test (c b : Bool)

def gdOf (all : Array Oper) (o : Oper) (st : St) : Gd :=
  match o.guard with
  | none => .always
  | some (j, b) => match (all[j]?).bind (·.dst) with
    | some t => match st.E t with
      | .base (.bool c) => .test c b
      | .base (.tuple _) => .never
      | _ => .stuck
    | none => .never

def gstep (P : Program) (all : Array Oper) (o : Oper) (st : St) (K : St → Prop) : Prop :=
  match gdOf all o st with
  | .always => aop P o st K
  | .never => dstOk o st ∧ K (st.put o.dst (.base undef))
  | .test c b => if c = b then aop P o st K else dstOk o st ∧ K (st.put o.dst (.base undef))
  | .stuck => False

def aops (P : Program) (all : Array Oper) : List Oper → St → (St → Prop) → Prop
  | [], st, K => K st
  | o :: r, st, K => gstep P all o st fun st' => aops P all r st' K

theorem gdOf_wanted {e : Entry} {all : Array Oper} {o : Oper} {st : St} {a : Act} {w : World} (hin : In e st a w) :
    (gdOf all o st = .always → Region.wanted o (yielded all a.tmps) = true) ∧ (gdOf all o st = .never → Region.wanted o (yielded all a.tmps) = false) ∧
    (∀ c b, gdOf all o st = .test c b → Region.wanted o (yielded all a.tmps) = decide (c = b)) := by
  obtain ⟨G, be, hx, hr⟩ := hin
  unfold gdOf Region.wanted
  split
  · rename_i hg; simp [hg]
  · rename_i j b hg
    simp only [hg]
    split
    · rename_i t ht
      have hy : ∀ v, a.tmps.getD t undef = v → v ≠ undef → a.tmps[t]? = some v := fun v hv hne => by
        rw [Array.getD_eq_getD_getElem?] at hv
        cases hq : a.tmps[t]? with
        | none => rw [hq] at hv; exact absurd hv.symm hne
        | some x => rw [hq] at hv; simp at hv; rw [hv]
      have htm := hr.tmps t
      split
      · rename_i c hc
        rw [hc] at htm
        have hv : a.tmps.getD t undef = .bool c := by
          generalize a.tmps.getD t undef = v at htm
          cases (show Rep G (.base (.bool c)) v from htm); rfl
        have := hy _ hv (by simp [undef])
        refine ⟨by simp, by simp, fun c' b' h => ?_⟩
        cases h
        simp [yielded, ht, this]
        cases c <;> cases b <;> rfl
      · rename_i vs hc
        rw [hc] at htm
        have hv : a.tmps.getD t undef = .tuple vs := by
          generalize a.tmps.getD t undef = v at htm
          cases (show Rep G (.base (.tuple vs)) v from htm); rfl
        refine ⟨by simp, fun _ => ?_, by simp⟩
        have : yielded all a.tmps j = none := by
          simp only [yielded, ht, Option.bind_some]
          rw [Array.getD_eq_getD_getElem?] at hv
          cases hq : a.tmps[t]? with
          | none => rfl
          | some x => rw [hq] at hv; simp at hv; rw [hv]
        simp [this]
      · simp
    · rename_i ht
      refine ⟨by simp, fun _ => ?_, by simp⟩
      simp [yielded, ht]

theorem skip_in {e : Entry} {o : Oper} {st : St} {a : Act} {w : World} (hd : dstOk o st) (hin : In e st a w) : In e (st.put o.dst (.base undef)) (a.put o.dst undef) w := by
  obtain ⟨G, be, hx, hr⟩ := hin
  exact ⟨G, be, by rw [put_s]; exact hx, hr.put o.dst (dstOk_lt hd) (Rep.base _)⟩

theorem gstep_sound {e : Entry} {all : Array Oper} {i : Nat} {o : Oper} (ho : all[i]? = some o) {st : St} {K : St → Prop} {a : Act} {w : World} {Q : Exit → Act → World → Prop} (h : gstep P all o st K) (hin : In e st a w) : wpOp P all Q i (Then e K) a w := by
  obtain ⟨g1, g2, g3⟩ := gdOf_wanted (all := all) (o := o) hin
  unfold wpOp
  simp only [ho]
  unfold gstep at h
  split at h
  · rename_i hg
    rw [if_pos (g1 hg)]
    exact .inl (aop_sound h hin)
  · rename_i hg
    rw [g2 hg]
    exact ⟨_, h.2, skip_in h.1 hin⟩
  · rename_i c b hg
    rw [g3 c b hg]
    split at h
    · rename_i hc
      rw [if_pos (by simpa using hc)]
      exact .inl (aop_sound h hin)
    · rename_i hc
      rw [if_neg (by simpa using hc)]
      exact ⟨_, h.2, skip_in h.1 hin⟩
  · exact h.elim

theorem aops_sound {e : Entry} {all : Array Oper} {Q : Exit → Act → World → Prop} {K : St → Prop} (hQ : ∀ a w, Then e K a w → Q .normal a w) : ∀ (n k : Nat), k + n = all.size → ∀ (st : St) (a : Act) (w : World),
    aops P all (all.toList.drop k) st K → In e st a w → wpOps P all Q (List.range' k n) a w
  | 0, k, hk, st, a, w, h, hin => by
    rw [List.drop_eq_nil_of_le (by simp; omega)] at h
    exact hQ a w ⟨st, h, hin⟩
  | n + 1, k, hk, st, a, w, h, hin => by
    have hlt : k < all.size := by omega
    rw [List.drop_eq_getElem_cons (by simpa using hlt)] at h
    rw [List.range'_succ, wpOps_cons]
    refine wpOp_mono ?_ (gstep_sound (i := k) (by simp [hlt]) h hin)
    rintro a' w' ⟨st', h', hin'⟩
    exact aops_sound hQ n (k + 1) (by omega) st' a' w' h' hin'

/-- Code, from an abstract state on. -/
def AWp (P : Program) (c : Code) (Q : Exit → St → Prop) (st : St) : Prop :=
  ∀ (e : Entry) (a : Act) (w : World), In e st a w → c.wp P (fun x a' w' => Then e (Q x) a' w') a w

/-- What is asked of a sequence's first part. -/
def thenQ (next : St → Prop) (Q : Exit → St → Prop) : Exit → St → Prop
  | .normal, st => next st
  | e, st => Q e st
/-- What is asked within a block. -/
def blockQ (id : Nat) (Q : Exit → St → Prop) : Exit → St → Prop
  | .exit id', st => if id' = id then Q .normal st else Q (.exit id') st
  | e, st => Q e st

section
variable {Q : Exit → St → Prop} {st : St}
theorem AWp.mono {c : Code} {Q' : Exit → St → Prop} (h : AWp P c Q st) (hq : ∀ e st, Q e st → Q' e st) : AWp P c Q' st :=
  fun e a w hin => wp_mono (h e a w hin) fun x a' w' ⟨st', h1, h2⟩ => ⟨st', hq _ _ h1, h2⟩
theorem AWp.weaken {c : Code} {st' : St} (hle : st.le st') (h : AWp P c Q st') : AWp P c Q st :=
  fun e a w hin => h e a w (hin.weaken hle)
theorem AWp.skip (h : Q .normal st) : AWp P .skip Q st := fun e a w hin => wp_skip ⟨st, h, hin⟩
theorem AWp.label {l : Nat} (h : Q .normal st) : AWp P (.label l) Q st := fun e a w hin => wp_label ⟨st, h, hin⟩
theorem AWp.exit {id : Nat} (h : Q (.exit id) st) : AWp P (.exit id) Q st := fun e a w hin => wp_exit ⟨st, h, hin⟩
theorem AWp.goto {l : Nat} (h : Q (.goto l) st) : AWp P (.goto l) Q st := fun e a w hin => wp_goto ⟨st, h, hin⟩
theorem AWp.ret (h : Q .ret st) : AWp P .ret Q st := fun e a w hin => wp_ret ⟨st, h, hin⟩
theorem AWp.seq {x y : Code} (h : AWp P x (thenQ (AWp P y Q) Q) st) : AWp P (.seq x y) Q st := fun e a w hin => by
  refine wp_seq (wp_mono (h e a w hin) fun ex a' w' ⟨st', h1, h2⟩ => ?_)
  cases ex <;> first | exact ⟨st', h1, h2⟩ | exact h1 e a' w' h2
theorem AWp.cond {c : Operand} {x y : Code} {t : Bool} (hc : st.eval c = .base (.bool t)) (h1 : t = true → AWp P x Q st) (h2 : t = false → AWp P y Q st) : AWp P (.cond c x y) Q st := fun e a w hin => by
  obtain ⟨G, be, hx, hr⟩ := hin
  have hv := eval_base hr hc
  exact wp_cond_split hv (fun ht => h1 ht e a w ⟨G, be, hx, hr⟩) (fun ht => h2 ht e a w ⟨G, be, hx, hr⟩)
theorem AWp.block {id : Nat} {c : Code} (h : AWp P c (blockQ id Q) st) : AWp P (.block id c) Q st := fun e a w hin => by
  refine wp_block (wp_mono (h e a w hin) fun ex a' w' ⟨st', h1, h2⟩ => ?_)
  cases ex <;> first | exact ⟨st', h1, h2⟩ | skip
  rename_i id'
  simp only [Exit.inBlock]
  simp only [blockQ] at h1
  split at h1
  · rename_i hid; rw [if_pos hid]; exact ⟨st', h1, h2⟩
  · rename_i hid; rw [if_neg hid]; exact ⟨st', h1, h2⟩
theorem AWp.publish {c : Code} {t0 : Nat} {x : List V × TypeId} (hl : st.loc t0 = some x) (h : ∀ b, st.s.box b = none → AWp P c Q (st.publish t0 b x)) : AWp P c Q st := fun e a w hin => by
  obtain ⟨b, hb, hin'⟩ := hin.publish hl
  exact h b hb e a w hin'
theorem AWp.loop {c : Code} (I : Nat → St → Prop) (n0 : Nat) (h0 : I n0 st) (round : ∀ n st, I n st → AWp P c (thenQ (fun st' => ∃ m, m < n ∧ I m st') Q) st) : AWp P (.loop c) Q st := fun e a w hin => by
  refine wp_loop_ghost (fun n a w => ∃ st, I n st ∧ In e st a w) n0 ⟨st, h0, hin⟩ ?_
  rintro n a w ⟨st1, hI, hin1⟩
  refine wp_mono (round n st1 hI e a w hin1) fun ex a' w' ⟨st', h1, h2⟩ => ?_
  cases ex <;> first | exact ⟨st', h1, h2⟩ | skip
  obtain ⟨m, hm, hI'⟩ := h1
  exact ⟨m, hm, st', hI', h2⟩
theorem AWp.region {id : Nat} {ops : Array Oper} (h : aops P ops ops.toList st (Q .normal)) : AWp P (.region id ops false) Q st := fun e a w hin => by
  refine wp_region ?_
  rw [List.range_eq_range']
  exact aops_sound (e := e) (K := Q .normal) (fun a w h => h) ops.size 0 (by simp) st a w (by simpa using h) hin
end

/-- A function's results. -/
def resV (P : Program) (st : St) : List ResultVar → Option (List V)
  | [] => some []
  | .tmp t :: r => match noLoc (st.E t), resV P st r with
    | some v, some l => some (v :: l)
    | _, _ => none
  | .cell t ty :: r => match st.E t, tyOf P ty, resV P st r with
    | .loc b off, some d, some l => match st.loc b with
      | some (cs, _) => match rd d cs off with
        | some v => some (v :: l)
        | none => none
      | none => none
    | _, _, _ => none
def oneV : List V → V
  | [v] => v
  | l => .tuple l

def resOne (tmps : Array Value) : ResultVar → Sem Value
  | .tmp t => pure (tmps.getD t undef)
  | .cell x t => do loadVar t (← asAddr (tmps.getD x undef))

theorem resV_run {e : Entry} {st : St} {a : Act} {w : World} {G : Ghost} {be : Nat → Option Nat} {n0 : Nat} (hr : ARel n0 G be st a w) : ∀ (l : List ResultVar) (vs : List V), resV P st l = some vs →
    ∃ cvs : List Value, (l.mapM (resOne a.tmps)).run P w = .ok cvs w ∧ RepL G vs cvs
  | [], vs, h => by simp [resV] at h; subst h; exact ⟨[], by simp, RepL.nil G⟩
  | .tmp t :: r, vs, h => by
    simp only [resV] at h
    split at h
    · rename_i v l hv hl
      cases h
      obtain ⟨cvs, h1, h2⟩ := resV_run (e := e) hr r l hl
      obtain ⟨rfl, hne⟩ := noLoc_some hv
      refine ⟨a.tmps.getD t undef :: cvs, ?_, RepL.cons ((hr.tmps t).rep hne) h2⟩
      simp only [List.mapM_cons, resOne, Sem.run_bind, Sem.run_pure, Result.andThen_ok, h1]
    · cases h
  | .cell t ty :: r, vs, h => by
    simp only [resV] at h
    split at h
    · rename_i b off d l hE hd hl
      split at h
      · rename_i cs ty' hb
        split at h
        · rename_i v hv
          cases h
          obtain ⟨cvs, h1, h2⟩ := resV_run (e := e) hr r l hl
          obtain ⟨bl, k1, k2, ⟨ccs, k3, k4, k5⟩, k6⟩ := hr.loc b cs ty' hb
          have htm := hr.tmps t
          rw [hE] at htm
          obtain ⟨_, bl', k1', hpv⟩ := htm
          obtain rfl : bl' = bl := Option.some.inj (k1'.symm.trans k1)
          obtain ⟨cv, hrun, hrep⟩ := rd_run (P := P) (w := w) (b := bl') (o := 0) k4 (fun j v hv => by rw [Nat.zero_add, cell_of_row w bl' j ccs ty' _ k3]; simpa using hv) hd hv
          rw [Nat.zero_add] at hrun
          simp only [Instr.loadAt, Instr.sureAddr, Sem.run_bind, Sem.run_pure, Result.andThen_ok] at hrun
          refine ⟨cv :: cvs, ?_, RepL.cons hrep h2⟩
          have ha : asAddr (a.tmps.getD t undef) = pure ⟨bl', off, none⟩ := by rw [hpv]; rfl
          simp only [List.mapM_cons, resOne, Sem.run_bind, ha, Sem.run_pure, Result.andThen_ok, hrun, h1]
        · cases h
      · cases h
    · cases h

/-- What is asked at a body's end. -/
def retQ (P : Program) (fn : Func) (R : V → Heap → Prop) : Exit → St → Prop
  | .normal, st | .ret, st => ∃ vs v s', resV P st fn.results.toList = some vs ∧ Wk (oneV vs) v ∧ st.s.le s' ∧ R v s'
  | _, _ => False

def entryE (args : List V) : Nat → V := fun t => args.getD t (.base undef)

theorem acalls_of {f : FuncId} {fn : Func} {c : Code} {args : List V} {s : Heap} {R : V → Heap → Prop} (hf : P.funcs[f]? = some fn) (hb : fn.body = some c) (hn : (fn.name == "runtime.NumGoroutine") = false) (hlen : args.length ≤ fn.ntmps)
    (h : AWp P c (retQ P fn R) { E := entryE args, loc := fun _ => none, s := s, n := fn.ntmps }) : ACalls P f args s R := by
  refine ⟨⟨fn, hf, by simp [hb], hn⟩, fun G w cargs hh hargs => ?_⟩
  have hsz : cargs.size = args.length := by have := hargs.1; simp at this; omega
  refine calls_of_wp hf hb ?_
  have hin : In ⟨G, s, w⟩ { E := entryE args, loc := fun _ => none, s := s, n := fn.ntmps } { tmps := cargs ++ Array.replicate (fn.ntmps - cargs.size) undef, defers := [] } w := by
    refine ⟨G, fun _ => none, Ext.refl _ _ _, hh, by simp; omega, rfl, fun t => ?_, (fun t cs ty ht => (by cases ht)), fun t t' b h1 => absurd rfl h1⟩
    simp only [entryE]
    by_cases ht : t < args.length
    · have e1 : args.getD t (.base undef) = args[t] := by simp [List.getD_eq_getElem?_getD, ht]
      have e2 : (cargs ++ Array.replicate (fn.ntmps - cargs.size) undef).getD t undef = cargs[t]'(by omega) := by
        rw [Array.getD_eq_getD_getElem?, Array.getElem?_append_left (by omega), Array.getElem?_eq_getElem (by omega)]; rfl
      rw [e1, e2]
      exact LRep.of_rep (hargs.2 t _ _ (List.getElem?_eq_getElem ht) (by simp [show t < cargs.size by omega]))
    · have e1 : args.getD t (.base undef) = .base undef := by simp [List.getD_eq_getElem?_getD, List.getElem?_eq_none (Nat.le_of_not_lt ht)]
      have e2 : (cargs ++ Array.replicate (fn.ntmps - cargs.size) undef).getD t undef = undef := by
        rw [Array.getD_eq_getD_getElem?, Array.getElem?_append_right (by omega)]
        by_cases h2 : t - cargs.size < fn.ntmps - cargs.size
        · simp [Array.getElem?_replicate, h2]
        · simp [Array.getElem?_replicate, h2]
      rw [e1, e2]
      exact Rep.base _
  refine wp_mono (h _ _ _ hin) fun ex a' w' ⟨st', hq, hin'⟩ => ?_
  have fin : (∃ vs v s', resV P st' fn.results.toList = some vs ∧ Wk (oneV vs) v ∧ st'.s.le s' ∧ R v s') → a'.defers = [] ∧ ∃ v, (results fn a'.tmps).run P w' = .ok v w' ∧ ∃ G' s' v' cv, Ending.returned v = .returned cv ∧ Rep G' v' cv ∧ Ext G s w G' s' w' ∧ HRel G' s' w' ∧ R v' s' := by
    rintro ⟨vs, v, s', h1, h2, h3, h4⟩
    obtain ⟨G', be, hx, hr⟩ := hin'
    obtain ⟨cvs, k1, k2⟩ := resV_run (P := P) (e := ⟨G, s, w⟩) hr _ _ h1
    refine ⟨hr.df, (if h : cvs.toArray.size = 1 then cvs.toArray[0] else .tuple cvs.toArray), ?_, G', s', v, _, rfl, ?_, hx.weaken h3, hr.hr.weaken h3, h4⟩
    · have hres : results fn a'.tmps = (do let vs ← fn.results.mapM (resOne a'.tmps); pure (if h : vs.size = 1 then vs[0] else .tuple vs)) := by
        unfold results
        congr 1
      rw [hres, Sem.run_bind, Array.mapM_eq_mapM_toList, Sem.run_map, k1]
      rfl
    · refine h2 G' _ ?_
      match vs, cvs, k2 with
      | [], [], k2 => exact RepL.tuple (ccs := #[]) (RepL.nil G')
      | [x], [y], k2 => exact k2.2 0 x y rfl rfl
      | x :: y :: r, x' :: y' :: r', k2 => simpa [oneV] using RepL.tuple (ccs := (x' :: y' :: r').toArray) k2
      | [], _ :: _, k2 => have := k2.1; simp at this
      | [_], [], k2 => have := k2.1; simp at this
      | [_], _ :: _ :: _, k2 => have := k2.1; simp at this
      | _ :: _ :: _, [], k2 => have := k2.1; simp at this
      | _ :: _ :: _, [_], k2 => have := k2.1; simp at this
  cases ex <;> first | exact fin hq | exact hq.elim

end Go.Am
