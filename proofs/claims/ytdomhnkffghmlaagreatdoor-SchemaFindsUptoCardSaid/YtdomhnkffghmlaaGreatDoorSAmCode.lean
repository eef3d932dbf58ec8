/- Code in abstract values: regions, ways, loops, a function's body. -/
import Derived.Test.YtdomhnkffghmlaaGreatDoorSAmAppend
import Derived.Deep.LoopGhost
import Derived.RangeFuncRecord
set_option linter.unusedVariables false
set_option linter.unusedSimpArgs false
namespace Go.Am
variable {P : Program}
inductive Gd where
 | always | never | stuck
 | test (c b : Bool)
def gdOf (all : Array Oper) (o : Oper) (st : St) : Gd :=
 match o.guard with
 | none => .always
 | some (j, b) => match (all[j]?).bind (·.dst) with
  | some t => match st.E t with
   | .base (.bool c) => .test c b
   | .base (.tuple _) => .never
   | _ => .stuck
  | none => .never
def gstep (P : Program) (all : Array Oper) (o : Oper) (st : St) (K : St → Prop) : Prop :=
 match gdOf all o st with
 | .always => aop P o st K
 | .never => dstOk o st ∧ K (st.put o.dst (.base undef))
 | .test c b => if c = b then aop P o st K else dstOk o st ∧ K (st.put o.dst (.base undef))
 | .stuck => False
def aops (P : Program) (all : Array Oper) : List Oper → St → (St → Prop) → Prop
 | [], st, K => K st
 | o :: r, st, K => gstep P all o st fun st' => aops P all r st' K
theorem gdOf_wanted {e : Entry} {all : Array Oper} {o : Oper} {st : St} {a : Act} {w : World} (hin : In e st a w) :
  (gdOf all o st = .always → Region.wanted o (yielded all a.tmps) = true) ∧ (gdOf all o st = .never → Region.wanted o (yielded all a.tmps) = false) ∧
  (∀ c b, gdOf all o st = .test c b → Region.wanted o (yielded all a.tmps) = decide (c = b)) := by
 obtain ⟨G, be, hx, hr⟩ := hin
 unfold gdOf Region.wanted
 split
 ·rename_i hg; simp [hg]
 ·rename_i j b hg
  simp only [hg]
  split
  ·rename_i t ht
   have hy : ∀ v, a.tmps.getD t undef = v → v ≠ undef → a.tmps[t]? = some v := fun v hv hne => by
    rw [Array.getD_eq_getD_getElem?] at hv
    cases hq : a.tmps[t]? with
    | none => rw [hq] at hv; exact absurd hv.symm hne
    | some x => rw [hq] at hv; simp at hv; rw [hv]
   have htm := hr.tmps t
   split
   ·rename_i c hc
    rw [hc] at htm
    have hv : a.tmps.getD t undef = .bool c := by
     generalize a.tmps.getD t undef = v at htm
     cases (show Rep G (.base (.bool c)) v from htm); rfl
    have := hy _ hv (by simp [undef])
    refine ⟨by simp, by simp, fun c' b' h => ?_⟩
    cases h
    simp [yielded, ht, this]
    cases c <;> cases b <;> rfl
   ·rename_i vs hc
    rw [hc] at htm
    have hv : a.tmps.getD t undef = .tuple vs := by
     generalize a.tmps.getD t undef = v at htm
     cases (show Rep G (.base (.tuple vs)) v from htm); rfl
    refine ⟨by simp, fun _ => ?_, by simp⟩
    have : yielded all a.tmps j = none := by
     simp only [yielded, ht, Option.bind_some]
     rw [Array.getD_eq_getD_getElem?] at hv
     cases hq : a.tmps[t]? with
     | none => rfl
     | some x => rw [hq] at hv; simp at hv; rw [hv]
    simp [this]
   ·simp
  ·rename_i ht
   refine ⟨by simp, fun _ => ?_, by simp⟩
   simp [yielded, ht]
theorem skip_in {e : Entry} {o : Oper} {st : St} {a : Act} {w : World} (hd : dstOk o st) (hin : In e st a w) : In e (st.put o.dst (.base undef)) (a.put o.dst undef) w := by
 obtain ⟨G, be, hx, hr⟩ := hin
 exact ⟨G, be, by rw [put_s]; exact hx, hr.put o.dst (dstOk_lt hd) (Rep.base _)⟩
theorem gstep_sound {e : Entry} {all : Array Oper} {i : Nat} {o : Oper} (ho : all[i]? = some o) {st : St} {K : St → Prop} {a : Act} {w : World} {Q : Exit → Act → World → Prop} (hQ : PQ e Q) (h : gstep P all o st K) (hin : In e st a w) : wpOp P all Q i (Then e K) a w := by
 obtain ⟨g1, g2, g3⟩ := gdOf_wanted (all := all) (o := o) hin
 unfold wpOp
 simp only [ho]
 unfold gstep at h
 split at h
 ·rename_i hg
  rw [if_pos (g1 hg)]
  exact .inl (aop_sound hQ h hin)
 ·rename_i hg
  rw [g2 hg]
  exact ⟨_, h.2, skip_in h.1 hin⟩
 ·rename_i c b hg
  rw [g3 c b hg]
  split at h
  ·rename_i hc
   rw [if_pos (by simpa using hc)]
   exact .inl (aop_sound hQ h hin)
  ·rename_i hc
   rw [if_neg (by simpa using hc)]
   exact ⟨_, h.2, skip_in h.1 hin⟩
 ·exact h.elim
theorem aops_sound {e : Entry} {all : Array Oper} {Q : Exit → Act → World → Prop} {K : St → Prop} (hPQ : PQ e Q) (hQ : ∀ a w, Then e K a w → Q .normal a w) : ∀ (n k : Nat), k + n = all.size → ∀ (st : St) (a : Act) (w : World),
  aops P all (all.toList.drop k) st K → In e st a w → wpOps P all Q (List.range' k n) a w
 | 0, k, hk, st, a, w, h, hin => by
  rw [List.drop_eq_nil_of_le (by simp; omega)] at h
  exact hQ a w ⟨st, h, hin⟩
 | n + 1, k, hk, st, a, w, h, hin => by
  have hlt : k < all.size := by omega
  rw [List.drop_eq_getElem_cons (by simpa using hlt)] at h
  rw [List.range'_succ, wpOps_cons]
  refine wpOp_mono ?_ (gstep_sound (i := k) (by simp [hlt]) hPQ h hin)
  rintro a' w' ⟨st', h', hin'⟩
  exact aops_sound hPQ hQ n (k + 1) (by omega) st' a' w' h' hin'
/-- Code, from an abstract state on. -/
def AWp (P : Program) (c : Code) (Q : Exit → St → Prop) (st : St) : Prop :=
 ∀ (e : Entry) (a : Act) (w : World), In e st a w → c.wp P (fun x a' w' => Then e (Q x) a' w' ∨ Pan e x a' w') a w
theorem pan_pq {e : Entry} {Q : Exit → St → Prop} : PQ e (fun x a' w' => Then e (Q x) a' w' ∨ Pan e x a' w') := fun _ _ _ h => .inr h
theorem Pan.normal {e : Entry} {a : Act} {w : World} (h : Pan e .normal a w) : False := by obtain ⟨v, G, s', h, _⟩ := h; cases h
theorem Pan.ret {e : Entry} {a : Act} {w : World} (h : Pan e .ret a w) : False := by obtain ⟨v, G, s', h, _⟩ := h; cases h
theorem Pan.exit {e : Entry} {i : Nat} {a : Act} {w : World} (h : Pan e (.exit i) a w) : False := by obtain ⟨v, G, s', h, _⟩ := h; cases h
theorem Pan.goto {e : Entry} {i : Nat} {a : Act} {w : World} (h : Pan e (.goto i) a w) : False := by obtain ⟨v, G, s', h, _⟩ := h; cases h
/-- What is asked of a sequence's first part. -/
def thenQ (next : St → Prop) (Q : Exit → St → Prop) : Exit → St → Prop
 | .normal, st => next st
 | e, st => Q e st
/-- What is asked within a block. -/
def blockQ (id : Nat) (Q : Exit → St → Prop) : Exit → St → Prop
 | .exit id', st => if id' = id then Q .normal st else Q (.exit id') st
 | e, st => Q e st
section
variable {Q : Exit → St → Prop} {st : St}
theorem AWp.mono {c : Code} {Q' : Exit → St → Prop} (h : AWp P c Q st) (hq : ∀ e st, Q e st → Q' e st) : AWp P c Q' st :=
 fun e a w hin => wp_mono (h e a w hin) fun x a' w' h => h.imp (fun ⟨st', h1, h2⟩ => ⟨st', hq _ _ h1, h2⟩) id
theorem AWp.weaken {c : Code} {st' : St} (hle : st.le st') (h : AWp P c Q st') : AWp P c Q st :=
 fun e a w hin => h e a w (hin.weaken hle)
theorem AWp.skip (h : Q .normal st) : AWp P .skip Q st := fun e a w hin => wp_skip (.inl ⟨st, h, hin⟩)
theorem AWp.label {l : Nat} (h : Q .normal st) : AWp P (.label l) Q st := fun e a w hin => wp_label (.inl ⟨st, h, hin⟩)
theorem AWp.exit {id : Nat} (h : Q (.exit id) st) : AWp P (.exit id) Q st := fun e a w hin => wp_exit (.inl ⟨st, h, hin⟩)
theorem AWp.goto {l : Nat} (h : Q (.goto l) st) : AWp P (.goto l) Q st := fun e a w hin => wp_goto (.inl ⟨st, h, hin⟩)
theorem AWp.ret (h : Q .ret st) : AWp P .ret Q st := fun e a w hin => wp_ret (.inl ⟨st, h, hin⟩)
theorem AWp.seq {x y : Code} (h : AWp P x (thenQ (AWp P y Q) Q) st) : AWp P (.seq x y) Q st := fun e a w hin => by
 refine wp_seq (wp_mono (h e a w hin) fun ex a' w' h => ?_)
 rcases h with ⟨st', h1, h2⟩ | hp
 ·cases ex <;> first | exact .inl ⟨st', h1, h2⟩ | exact h1 e a' w' h2
 ·cases ex <;> first | exact hp.normal.elim | exact .inr hp
theorem AWp.cond {c : Operand} {x y : Code} {t : Bool} (hc : st.eval c = .base (.bool t)) (h1 : t = true → AWp P x Q st) (h2 : t = false → AWp P y Q st) : AWp P (.cond c x y) Q st := fun e a w hin => by
 obtain ⟨G, be, hx, hr⟩ := hin
 have hv := eval_base hr hc
 exact wp_cond_split hv (fun ht => h1 ht e a w ⟨G, be, hx, hr⟩) (fun ht => h2 ht e a w ⟨G, be, hx, hr⟩)
theorem AWp.block {id : Nat} {c : Code} (h : AWp P c (blockQ id Q) st) : AWp P (.block id c) Q st := fun e a w hin => by
 refine wp_block (wp_mono (h e a w hin) fun ex a' w' h => ?_)
 rcases h with ⟨st', h1, h2⟩ | hp
 rotate_left
 ·cases ex <;> first | exact hp.exit.elim | exact .inr hp
 cases ex <;> first | exact .inl ⟨st', h1, h2⟩ | skip
 rename_i id'
 simp only [Exit.inBlock]
 simp only [blockQ] at h1
 split at h1
 ·rename_i hid; rw [if_pos hid]; exact .inl ⟨st', h1, h2⟩
 ·rename_i hid; rw [if_neg hid]; exact .inl ⟨st', h1, h2⟩
theorem AWp.publish {c : Code} {t0 : Nat} {x : List V × TypeId} (hl : st.loc t0 = some x) (h : ∀ b, st.s.box b = none → AWp P c Q (st.publish t0 b x)) : AWp P c Q st := fun e a w hin => by
 obtain ⟨b, hb, hin'⟩ := hin.publish hl
 exact h b hb e a w hin'
theorem AWp.loop {c : Code} (I : Nat → St → Prop) (n0 : Nat) (h0 : I n0 st) (round : ∀ n st, I n st → AWp P c (thenQ (fun st' => ∃ m, m < n ∧ I m st') Q) st) : AWp P (.loop c) Q st := fun e a w hin => by
 refine wp_loop_ghost (fun n a w => ∃ st, I n st ∧ In e st a w) n0 ⟨st, h0, hin⟩ ?_
 rintro n a w ⟨st1, hI, hin1⟩
 refine wp_mono (round n st1 hI e a w hin1) fun ex a' w' h => ?_
 rcases h with ⟨st', h1, h2⟩ | hp
 rotate_left
 ·cases ex <;> first | exact hp.normal.elim | exact .inr hp
 cases ex <;> first | exact .inl ⟨st', h1, h2⟩ | skip
 obtain ⟨m, hm, hI'⟩ := h1
 exact ⟨m, hm, st', hI', h2⟩
theorem AWp.region {id : Nat} {ops : Array Oper} (h : aops P ops ops.toList st (Q .normal)) : AWp P (.region id ops false) Q st := fun e a w hin => by
 refine wp_region ?_
 rw [List.range_eq_range']
 exact aops_sound (e := e) (K := Q .normal) pan_pq (fun a w h => .inl h) ops.size 0 (by simp) st a w (by simpa using h) hin
end
/-- A function's results. -/
def resV (P : Program) (st : St) : List ResultVar → Option (List V)
 | [] => some []
 | .tmp t :: r => match noLoc (st.E t), resV P st r with
  | some v, some l => some (v :: l)
  | _, _ => none
 | .cell t ty :: r => match st.E t, tyOf P ty, resV P st r with
  | .loc b off, some d, some l => match st.loc b with
   | some (cs, _) => match rd d cs off with
    | some v => some (v :: l)
    | none => none
   | none => none
  | _, _, _ => none
def oneV : List V → V
 | [v] => v
 | l => .tuple l
def resOne (tmps : Array Value) : ResultVar → Sem Value
 | .tmp t => pure (tmps.getD t undef)
 | .cell x t => do loadVar t (← asAddr (tmps.getD x undef))
theorem resV_run {e : Entry} {st : St} {a : Act} {w : World} {G : Ghost} {be : Nat → Option Nat} {n0 : Base} (hr : ARel n0 G be st a w) : ∀ (l : List ResultVar) (vs : List V), resV P st l = some vs →
  ∃ cvs : List Value, (l.mapM (resOne a.tmps)).run P w = .ok cvs w ∧ RepL G vs cvs
 | [], vs, h => by simp [resV] at h; subst h; exact ⟨[], by simp, RepL.nil G⟩
 | .tmp t :: r, vs, h => by
  simp only [resV] at h
  split at h
  ·rename_i v l hv hl
   cases h
   obtain ⟨cvs, h1, h2⟩ := resV_run (e := e) hr r l hl
   obtain ⟨rfl, hne⟩ := noLoc_some hv
   refine ⟨a.tmps.getD t undef :: cvs, ?_, RepL.cons ((hr.tmps t).rep hne) h2⟩
   simp only [List.mapM_cons, resOne, Sem.run_bind, Sem.run_pure, Result.andThen_ok, h1]
  ·cases h
 | .cell t ty :: r, vs, h => by
  simp only [resV] at h
  split at h
  ·rename_i b off d l hE hd hl
   split at h
   ·rename_i cs ty' hb
    split at h
    ·rename_i v hv
     cases h
     obtain ⟨cvs, h1, h2⟩ := resV_run (e := e) hr r l hl
     obtain ⟨bl, k1, k2, ⟨ccs, k3, k4, k5⟩, k6⟩ := hr.loc b cs ty' hb
     have htm := hr.tmps t
     rw [hE] at htm
     obtain ⟨_, bl', k1', hpv⟩ := htm
     obtain rfl : bl' = bl := Option.some.inj (k1'.symm.trans k1)
     obtain ⟨cv, hrun, hrep⟩ := rd_run (P := P) (w := w) (b := bl') (o := 0) k4 (fun j v hv => by rw [Nat.zero_add, cell_of_row w bl' j ccs ty' _ k3]; simpa using hv) hd hv
     rw [Nat.zero_add] at hrun
     simp only [Instr.loadAt, Instr.sureAddr, Sem.run_bind, Sem.run_pure, Result.andThen_ok] at hrun
     refine ⟨cv :: cvs, ?_, RepL.cons hrep h2⟩
     have ha : asAddr (a.tmps.getD t undef) = pure ⟨bl', off, none⟩ := by rw [hpv]; rfl
     simp only [List.mapM_cons, resOne, Sem.run_bind, ha, Sem.run_pure, Result.andThen_ok, hrun, h1]
    ·cases h
   ·cases h
  ·cases h
/-- What is asked at a body's end. -/
def retQ (P : Program) (fn : Func) (R : V → Heap → Prop) : Exit → St → Prop
 | .normal, st | .ret, st => ∃ vs v s', resV P st fn.results.toList = some vs ∧ Wk (oneV vs) v ∧ st.s.le s' ∧ R v s'
 | _, _ => False
def entryE (args : List V) : Nat → V := fun t => args.getD t (.base undef)
/-- One object less is known. -/
def Ghost.drop (G : Ghost) (k : Nat) : Ghost := { G with ob := fun k' => if k' = k then none else G.ob k' }
theorem Rep.toDrop {G : Ghost} {k : Nat} {c : V} {v : Value} (h : Rep G c v) : Rep (G.drop k) c v := Rep.mono0 (G := G) (G' := G.drop k) (fun _ _ _ h => h) (fun _ _ h => h) h
theorem RepL.toDrop {G : Ghost} {k : Nat} {c : List V} {v : List Value} (h : RepL G c v) : RepL (G.drop k) c v := ⟨h.1, fun i c v a b => (h.2 i c v a b).toDrop⟩
theorem HRel.drop {G : Ghost} {s : Heap} {w : World} (h : HRel G s w) (k : Nat) : HRel (G.drop k) s w where
 frz := h.frz
 box := fun b cs ty hb => by
  obtain ⟨ccs, a, c, d⟩ := h.box b cs ty hb
  exact ⟨ccs, a, c.toDrop, d⟩
 own := h.own
 sep := h.sep
 nobox := h.nobox
 fin := h.fin
 ob := fun k' x hk => by
  simp only [Ghost.drop] at hk
  split at hk
  ·cases hk
  ·exact h.ob k' x hk
 tab := h.tab
 siz := h.siz
theorem HRel.foot_cells {G : Ghost} {s : Heap} {w : World} (h : HRel G s w) {b : Nat} (hb : foot G s b) : ∃ x, w.heap[b]? = some x ∧ isC x = true := by
 rcases hb with hb | ⟨g, ⟨e, sz⟩, v, h1, h2, h3⟩
 ·cases hx : s.box b with
  | none => exact absurd hx hb
  | some x =>
   obtain ⟨cs, ty⟩ := x
   obtain ⟨ccs, hc, _⟩ := h.box b cs ty hx
   exact ⟨_, hc, rfl⟩
 ·obtain ⟨v', hv, ho⟩ := h.own g e sz h1
  obtain rfl : v' = v := Option.some.inj (hv.symm.trans h2)
  rcases ho with ⟨a, rfl⟩ | ⟨b', n, cap, cur, rfl, hc, _⟩
  ·cases a <;> simp [blk] at h3
  ·simp [blk] at h3; subst h3; exact ⟨_, hc, rfl⟩
theorem HRel.frz_cells {G : Ghost} {s : Heap} {w : World} (h : HRel G s w) {b o : Nat} {v : Value} (hb : G.F b o = some v) : ∃ x, w.heap[b]? = some x ∧ isC x = true := by
 have := h.frz b o v hb
 unfold World.cell? at this
 cases hq : w.heap[b]? with
 | none => simp [hq] at this
 | some x =>
  refine ⟨x, rfl, ?_⟩
  cases x <;> simp [hq] at this <;> rfl
theorem HRel.putObj {G : Ghost} {s : Heap} {w : World} (h : HRel G s w) {k : Nat} {x x' : Obj} (hk : w.heap[k]? = some x) (hx : isC x = false) (hG : G.ob k = none) : HRel G s (w.putObj k x') := by
 have ne : ∀ b, (∃ y, w.heap[b]? = some y ∧ isC y = true) → b ≠ k := fun b ⟨y, h1, h2⟩ e => by
  subst e; rw [hk] at h1; cases h1; rw [hx] at h2; cases h2
 refine h.same (fun b o v hv => ?_) (fun b hb => World.putObj_heap_other (ne b (h.foot_cells hb))) (fun b y hb => World.putObj_heap_other (fun e => by subst e; rw [hG] at hb; cases hb)) (fun b cs ty fr hb => ⟨cs, ty, fr, (World.putObj_heap_other (fun e => by subst e; rw [hk] at hb; cases hb; cases hx)).trans hb, rfl⟩)
 simp [World.cell?, World.putObj_heap_other (ne b (h.frz_cells hv))]
theorem Ext.putObj {G G' : Ghost} {s s' : Heap} {w w' : World} (h : Ext G s w G' s' w') {k : Nat} (hk : w.heap.size ≤ k) (x : Obj) : Ext G s w G' s' (w'.putObj k x) :=
 ⟨h.le, by simpa using h.size, h.os, h.tape, h.output, fun b hb hf => (World.putObj_heap_other (by omega)).trans (h.keep b hb hf), h.foot, h.frz, h.keys⟩
theorem Ext.dropR {G G' : Ghost} {s s' : Heap} {w w' : World} (h : Ext G s w G' s' w') {k : Nat} (hk : G.ob k = none) : Ext G s w (G'.drop k) s' w' :=
 ⟨⟨h.le.f, h.le.o, fun k' x hx => by
  have : k' ≠ k := fun e => by subst e; rw [hk] at hx; cases hx
  simpa [Ghost.drop, this] using h.le.b k' x hx⟩, h.size, h.os, h.tape, h.output, h.keep, h.foot, h.frz, h.keys⟩
theorem HRel.ob_ge {G : Ghost} {s : Heap} {w : World} (h : HRel G s w) {k : Nat} (hk : w.heap.size ≤ k) : G.ob k = none := by
 cases hq : G.ob k with
 | none => rfl
 | some x => have := (Array.getElem?_eq_some_iff.1 (h.ob k x hq).2).1; omega
theorem ARel.unmark {n0 : Base} {G : Ghost} {be : Nat → Option Nat} {st : St} {a : Act} {w : World} (h : ARel n0 G be st a w) {d : Deferred} {ds : List Deferred} (hds : st.ds = d :: ds) :
  ∃ D, d = mark D ∧ n0.n ≤ D ∧ G.ob D = some (.deferred (some [])) ∧ w.heap[D]? = some (.deferred (some [])) ∧ ARel n0 (G.drop D) be { st with ds := ds, lo := ⟨fun _ _ => none, fun _ => none, fun _ => none⟩ } { a with defers := ds ++ n0.tl } (w.putObj D (.deferred none)) := by
 have hdf := h.df
 rw [hds] at hdf
 obtain ⟨D, rfl, hD1, hD2⟩ := hdf.ok d (by simp)
 have hw := (h.hr.ob D _ hD2).2
 have hDl : D < w.heap.size := (Array.getElem?_eq_some_iff.1 hw).1
 refine ⟨D, rfl, hD1, hD2, hw, (h.hr.drop D).putObj hw rfl (by simp [Ghost.drop]), h.n, ⟨rfl, fun d' hd' => ?_, (List.pairwise_cons.1 hdf.nd).2, Ghost.none_le _, hdf.pp⟩, fun t => ?_, fun t cs ty ht => ?_, h.inj⟩
 ·obtain ⟨D', rfl, h1, h2⟩ := hdf.ok d' (by simp [hd'])
  refine ⟨D', rfl, h1, ?_⟩
  have : D' ≠ D := fun e => by subst e; exact (List.pairwise_cons.1 hdf.nd).1 _ hd' rfl
  simp [Ghost.drop, this, h2]
 ·have := h.tmps t
  cases hv : st.E t <;> rw [hv] at this <;> simp only [hv] <;> first | exact Rep.toDrop this | exact this
 ·obtain ⟨b, k1, k2, ⟨ccs, k3, k4, k5⟩, k6, k7⟩ := h.loc t cs ty ht
  have hne : b ≠ D := fun e => by subst e; rw [hw] at k3; cases k3
  exact ⟨b, k1, k2, ⟨ccs, (World.putObj_heap_other hne).trans k3, k4.toDrop, k5⟩, k6, k7⟩
theorem leaves_marks {e : Entry} (he : HRel e.G e.s e.w) {fn : Func} {tmps : Array Value} {R : Ending → World → Prop} {E : Nat → V} {loc : Nat → Option (List V × TypeId)} {s : Heap} {n : Nat} {pp : Value → Heap → Prop} {u : FrameMode} (hu : u ≠ .run)
  (fin : ∀ G be a w, Ext e.G e.s e.w G s w → ARel e.base G be { E := E, loc := loc, s := s, n := n, pp := pp } a w → a.tmps = tmps → LeavesInM Fence.wide 0 P fn tmps R e.tl u w) :
  ∀ (ds : List Deferred) (lo : Ghost) (G : Ghost) (be : Nat → Option Nat) (a : Act) (w : World), Ext e.G e.s e.w G s w → ARel e.base G be { E := E, loc := loc, s := s, n := n, ds := ds, lo := lo, pp := pp } a w → a.tmps = tmps → LeavesInM Fence.wide 0 P fn tmps R a.defers u w
 | [], lo, G, be, a, w, hx, hr, ht => by
  rw [show a.defers = e.tl from hr.df.eq]
  exact fin G be a w hx ⟨hr.hr, hr.n, ⟨hr.df.eq, (fun d h => by cases h), List.Pairwise.nil, Ghost.none_le _, hr.df.pp⟩, hr.tmps, hr.loc, hr.inj⟩ ht
 | d :: ds, lo, G, be, a, w, hx, hr, ht => by
  obtain ⟨D, rfl, h1, h2, hw, hr'⟩ := hr.unmark rfl
  rw [show a.defers = mark D :: (ds ++ e.tl) from hr.df.eq]
  have ih := leaves_marks he hu fin ds ⟨fun _ _ => none, fun _ => none, fun _ => none⟩ (G.drop D) be { a with defers := ds ++ e.tl } (w.putObj D (.deferred none)) ((hx.putObj h1 _).dropR (he.ob_ge h1)) hr' ht
  exact ⟨hu, .inl ⟨D, _, rfl, run_takeDeferred hw, ih⟩⟩
/-- A call where some objects are known. -/
def ACallsO (P : Program) (lo : Ghost) (f : FuncId) (args : List V) (s : Heap) (R : V → Heap → Prop) : Prop :=
 (∃ fn, P.funcs[f]? = some fn ∧ fn.body.isNone = false ∧ (fn.name == "runtime.NumGoroutine") = false) ∧
 ∀ G w (cargs : Array Value), HRel G s w → lo.Le G → RepL G args cargs.toList → Calls P f cargs w fun e w' => ∃ G' s' v cv, e = .returned cv ∧ Rep G' v cv ∧ Ext G s w G' s' w' ∧ HRel G' s' w' ∧ R v s'
theorem acallsX_of {lo : Ghost} {PP : Value → Heap → Prop} {f : FuncId} {fn : Func} {c : Code} {args : List V} {s : Heap} {R : V → Heap → Prop} (hf : P.funcs[f]? = some fn) (hb : fn.body = some c) (hn : (fn.name == "runtime.NumGoroutine") = false) (hlen : args.length ≤ fn.ntmps)
  (h : AWp P c (retQ P fn R) { E := entryE args, loc := fun _ => none, s := s, n := fn.ntmps, lo := lo, pp := PP }) : (∃ fn, P.funcs[f]? = some fn ∧ fn.body.isNone = false ∧ (fn.name == "runtime.NumGoroutine") = false) ∧
  ∀ G w (cargs : Array Value), HRel G s w → lo.Le G → RepL G args cargs.toList → Calls P f cargs w fun e w' => (∃ G' s' v cv, e = .returned cv ∧ Rep G' v cv ∧ Ext G s w G' s' w' ∧ HRel G' s' w' ∧ R v s') ∨ ∃ G' s' v, e = .panicked [{ v := v, recovered := false }] ∧ Ext G s w G' s' w' ∧ HRel G' s' w' ∧ PP v s' := by
 refine ⟨⟨fn, hf, by simp [hb], hn⟩, fun G w cargs hh hob hargs => ?_⟩
 have hsz : cargs.size = args.length := by have := hargs.1; simp at this; omega
 refine (callsIn_wide (n := 0)).1 (callsIn_of_wp_marks hf hb trivial (wpIn_wide.2 ?_))
 have hin : In ⟨G, s, w, [], PP⟩ { E := entryE args, loc := fun _ => none, s := s, n := fn.ntmps, lo := lo, pp := PP } { tmps := cargs ++ Array.replicate (fn.ntmps - cargs.size) undef, defers := [] } w := by
  refine ⟨G, fun _ => none, Ext.refl _ _ _, hh, by simp; omega, ⟨rfl, (fun d h => by cases h), List.Pairwise.nil, hob, rfl⟩, fun t => ?_, (fun t cs ty ht => (by cases ht)), fun t t' b h1 => absurd rfl h1⟩
  simp only [entryE]
  by_cases ht : t < args.length
  ·have e1 : args.getD t (.base undef) = args[t] := by simp [List.getD_eq_getElem?_getD, ht]
   have e2 : (cargs ++ Array.replicate (fn.ntmps - cargs.size) undef).getD t undef = cargs[t]'(by omega) := by
    rw [Array.getD_eq_getD_getElem?, Array.getElem?_append_left (by omega), Array.getElem?_eq_getElem (by omega)]; rfl
   rw [e1, e2]
   exact LRep.of_rep (hargs.2 t _ _ (List.getElem?_eq_getElem ht) (by simp [show t < cargs.size by omega]))
  ·have e1 : args.getD t (.base undef) = .base undef := by simp [List.getD_eq_getElem?_getD, List.getElem?_eq_none (Nat.le_of_not_lt ht)]
   have e2 : (cargs ++ Array.replicate (fn.ntmps - cargs.size) undef).getD t undef = undef := by
    rw [Array.getD_eq_getD_getElem?, Array.getElem?_append_right (by omega)]
    by_cases h2 : t - cargs.size < fn.ntmps - cargs.size
    ·simp [Array.getElem?_replicate, h2]
    ·simp [Array.getElem?_replicate, h2]
   rw [e1, e2]
   exact Rep.base _
 refine wp_mono (h _ _ _ hin) fun ex a' w' h' => ?_
 rcases h' with ⟨st', hq, hin'⟩ | ⟨v, G', s', rfl, h2, h3, h4, h5⟩
 rotate_left
 ·show LeavesInM Fence.wide 0 P fn a'.tmps _ a'.defers _ w'
  rw [h2]
  exact .inr ⟨G', s', v, rfl, h3, h4, h5⟩
 have fin : (∃ vs v s', resV P st' fn.results.toList = some vs ∧ Wk (oneV vs) v ∧ st'.s.le s' ∧ R v s') → LeavesInM Fence.wide 0 P fn a'.tmps (fun e w' => (∃ G' s' v cv, e = .returned cv ∧ Rep G' v cv ∧ Ext G s w G' s' w' ∧ HRel G' s' w' ∧ R v s') ∨ ∃ G' s' v, e = .panicked [{ v := v, recovered := false }] ∧ Ext G s w G' s' w' ∧ HRel G' s' w' ∧ PP v s') a'.defers .returning w' := by
  rintro ⟨vs, v, s', h1, h2, h3, h4⟩
  obtain ⟨G', be, hx, hr⟩ := hin'
  refine leaves_marks (e := ⟨G, s, w, [], PP⟩) hh (pp := st'.pp) (by simp) (E := st'.E) (loc := st'.loc) (s := st'.s) (n := st'.n) (fun G1 be1 a1 w1 hx1 hr1 ht1 => ?_) st'.ds st'.lo G' be a' w' hx hr rfl
  have hres1 : resV P { E := st'.E, loc := st'.loc, s := st'.s, n := st'.n, pp := st'.pp } fn.results.toList = some vs := by
   rw [← h1]
   generalize fn.results.toList = l
   induction l with
   | nil => rfl
   | cons x l ih => cases x <;> simp only [resV, ih]
  obtain ⟨cvs, k1, k2⟩ := resV_run (P := P) (e := ⟨G, s, w, [], PP⟩) hr1 _ _ hres1
  rw [ht1] at k1
  show ∃ v, (results fn a'.tmps).run P w1 = Result.ok v w1 ∧ _
  refine ⟨(if h : cvs.toArray.size = 1 then cvs.toArray[0] else .tuple cvs.toArray), ?_, .inl ⟨G1, s', v, _, rfl, ?_, hx1.weaken h3, hr1.hr.weaken h3, h4⟩⟩
  ·have hres : results fn a'.tmps = (do let vs ← fn.results.mapM (resOne a'.tmps); pure (if h : vs.size = 1 then vs[0] else .tuple vs)) := by
    unfold results
    congr 1
   rw [hres, Sem.run_bind, Array.mapM_eq_mapM_toList, Sem.run_map, k1]
   rfl
  ·refine h2 G1 _ ?_
   match vs, cvs, k2 with
   | [], [], k2 => exact RepL.tuple (ccs := #[]) (RepL.nil G1)
   | [x], [y], k2 => exact k2.2 0 x y rfl rfl
   | x :: y :: r, x' :: y' :: r', k2 => simpa [oneV] using RepL.tuple (ccs := (x' :: y' :: r').toArray) k2
   | [], _ :: _, k2 => have := k2.1; simp at this
   | [_], [], k2 => have := k2.1; simp at this
   | [_], _ :: _ :: _, k2 => have := k2.1; simp at this
   | _ :: _ :: _, [], k2 => have := k2.1; simp at this
   | _ :: _ :: _, [_], k2 => have := k2.1; simp at this
 cases ex <;> first | exact fin hq | exact hq.elim
theorem acallsO_of {lo : Ghost} {f : FuncId} {fn : Func} {c : Code} {args : List V} {s : Heap} {R : V → Heap → Prop} (hf : P.funcs[f]? = some fn) (hb : fn.body = some c) (hn : (fn.name == "runtime.NumGoroutine") = false) (hlen : args.length ≤ fn.ntmps)
  (h : AWp P c (retQ P fn R) { E := entryE args, loc := fun _ => none, s := s, n := fn.ntmps, lo := lo }) : ACallsO P lo f args s R :=
 have h' := acallsX_of hf hb hn hlen h
 ⟨h'.1, fun G w cargs h1 h2 h3 => (h'.2 G w cargs h1 h2 h3).mono fun e w' h => h.elim id fun ⟨_, _, _, _, _, _, h⟩ => h.elim⟩
theorem acalls_of {f : FuncId} {fn : Func} {c : Code} {args : List V} {s : Heap} {R : V → Heap → Prop} (hf : P.funcs[f]? = some fn) (hb : fn.body = some c) (hn : (fn.name == "runtime.NumGoroutine") = false) (hlen : args.length ≤ fn.ntmps)
  (h : AWp P c (retQ P fn R) { E := entryE args, loc := fun _ => none, s := s, n := fn.ntmps }) : ACalls P f args s R :=
 have h' := acallsO_of hf hb hn hlen h
 ⟨h'.1, fun G w cargs hh hargs => h'.2 G w cargs hh G.none_le hargs⟩
end Go.Am
