/- What the pure operations say is what the machine does. -/
import Derived.Test.YtdomhnkffghmlaaGreatDoorSAmFill
set_option linter.unusedVariables false
set_option linter.unusedSimpArgs false
namespace Go.Am
variable {P : Program} {n0 : Base} {G : Ghost} {be : Nat → Option Nat} {st : St} {a : Act} {w : World}
def Yes (P : Program) (n0 : Base) (G : Ghost) (be : Nat → Option Nat) (st : St) (a : Act) (w : World) (o : Oper) (v : V) : Prop :=
 ∃ cv w1 G1, (execOp a.eval o).run P w = .ok (.value cv) w1 ∧ ARel n0 G1 be st a w1 ∧ Ext G st.s w G1 st.s w1 ∧ LRep G1 be st.loc v cv
theorem Yes.same (hr : ARel n0 G be st a w) {o : Oper} {v : V} {cv : Value} (h : (execOp a.eval o).run P w = .ok (.value cv) w) (hv : LRep G be st.loc v cv) : Yes P n0 G be st a w o v :=
 ⟨cv, w, G, h, hr, Ext.refl _ _ _, hv⟩
theorem eval_base (hr : ARel n0 G be st a w) {x : Operand} {v : Value} (h : st.eval x = .base v) : a.eval x = v := by
 have := hr.eval x
 rw [h] at this
 cases (show Rep G (.base v) (a.eval x) from this)
 rfl
theorem noLoc_some {c c' : V} (h : noLoc c = some c') : c' = c ∧ ∀ t off, c ≠ .loc t off := by
 cases c <;> simp [noLoc] at h <;> exact ⟨h.symm, by simp⟩
theorem noLocs_rep (hr : ARel n0 G be st a w) : ∀ (xs : List Operand) (cs : List V), noLocs (xs.map st.eval) = some cs → RepL G cs (xs.map a.eval)
 | [], cs, h => by simp [noLocs] at h; subst h; exact RepL.nil G
 | x :: xs, cs, h => by
  simp only [List.map_cons, noLocs] at h
  split at h
  ·rename_i v r hv hrr
   cases h
   obtain ⟨rfl, hne⟩ := noLoc_some hv
   exact RepL.cons ((hr.eval x).rep hne) (noLocs_rep hr xs _ hrr)
  ·cases h
theorem sliceV_rep {c : V} {v : Value} {sz : Nat} {es : List (List V)} (h : LRep G be st.loc c v) (hs : sliceV c = some (sz, es)) : Rep G (.slice sz es) v := by
 cases c <;> simp [sliceV] at hs
 case slice => obtain ⟨rfl, rfl⟩ := hs; exact h
 case own => obtain ⟨rfl, rfl⟩ := hs; cases (show Rep G (.own _ _ _) v from h) with | own _ _ _ _ h _ => exact h
theorem lenV_rep {c : V} {v : Value} {n : Nat} (h : LRep G be st.loc c v) (hs : lenV c = some n) : ∃ b cap, v = .slice b n cap := by
 cases c <;> try (simp [lenV] at hs; done)
 case base x =>
  cases x <;> first | (simp [lenV] at hs; done) | skip
  rename_i a m k
  have hs : m = n := by simpa [lenV] using hs
  subst hs
  cases (show Rep G (.base (.slice a m k)) v from h); exact ⟨_, _, rfl⟩
 all_goals simp [lenV] at hs
 case nil => subst hs; cases (show Rep G .nil v from h); exact ⟨_, _, rfl⟩
 case zcap => subst hs; cases (show Rep G .zcap v from h); exact ⟨_, _, rfl⟩
 case slice =>
  subst hs
  cases (show Rep G (.slice _ _) v from h) <;> exact ⟨_, _, rfl⟩
 case own =>
  subst hs
  cases (show Rep G (.own _ _ _) v from h) with | own _ _ _ _ h _ => cases h <;> exact ⟨_, _, rfl⟩
theorem equalIn_func (d : Nat) (t : TypeId) (ps rs : Array TypeId) (vr : Bool) (hu : P.underlying t = some (.func ps rs vr)) (f : Fn) (x y : Array Value) (w : World) :
  (Op.equalIn (d + 1) t (.func f x y) .nilFunc).run P w = .ok false w ∧ (Op.equalIn (d + 1) t .nilFunc .nilFunc).run P w = .ok true w := by
 constructor <;> simp [Op.equalIn, run_underlying hu]
theorem run_eql_func (t : TypeId) (u : TypeDesc) (hu : P.underlying t = some u) (hf : shapeOf P u = .func) (f : Fn) (x y : Array Value) (w : World) :
  (binOp .eql t (.func f x y) .nilFunc).run P w = .ok (.bool false) w ∧ (binOp .neq t (.func f x y) .nilFunc).run P w = .ok (.bool true) w ∧
  (binOp .eql t .nilFunc .nilFunc).run P w = .ok (.bool true) w ∧ (binOp .neq t .nilFunc .nilFunc).run P w = .ok (.bool false) w := by
 cases u <;> simp [shapeOf] at hf
 case struct => split at hf <;> cases hf
 obtain ⟨h1, h2⟩ := equalIn_func 9999 t _ _ _ hu f x y w
 have h1' : (Op.equal t (.func f x y) .nilFunc).run P w = .ok false w := h1
 have h2' : (Op.equal t .nilFunc .nilFunc).run P w = .ok true w := h2
 refine ⟨?_, ?_, ?_, ?_⟩ <;> simp only [binOp] <;> simp [h1', h2']
theorem binV_run {op : BinOp} {x y : V} {v : V} {side : Prop} (h : binV op x y = some (v, side)) (hs : side) (t : TypeId) (ox oy : Operand) (w : World) :
  ∃ vx vy cv, x = .base vx ∧ y = .base vy ∧ v = .base cv ∧ (do eqGuard op t ox oy vx vy; binOp op t vx vy : Sem Value).run P w = .ok cv w := by
 unfold binV at h
 split at h
 ·rename_i k a k' b
  by_cases hsh : op = .shl ∨ op = .shr
  ·rcases hsh with rfl | rfl <;> (simp only [Option.some.injEq, Prod.mk.injEq] at h; obtain ⟨rfl, rfl⟩ := h; refine ⟨_, _, _, rfl, rfl, rfl, ?_⟩; simp [eqGuard_at_int, Sem.run_bind, binOp, Op.shift, shlI, shrI, show ¬ b < 0 by omega])
  ·have h' : (if k = k' then (match op with
     | .and => some (V.base (.int k (andI k a b)), True)
     | .or => some (.base (.int k (orI k a b)), True)
     | .add => some (.base (.int k (k.wrap (a + b))), True)
     | .sub => some (.base (.int k (k.wrap (a - b))), True)
     | .mul => some (.base (.int k (k.wrap (a * b))), True)
     | .quo => some (.base (.int k (k.wrap (a.tdiv b))), b ≠ 0)
     | .rem => some (.base (.int k (a.tmod b)), b ≠ 0)
     | .eql => some (.base (.bool (a == b)), True)
     | .neq => some (.base (.bool (a != b)), True)
     | .lss => some (.base (.bool (decide (a < b))), True)
     | .leq => some (.base (.bool (decide (a ≤ b))), True)
     | .gtr => some (.base (.bool (decide (a > b))), True)
     | .geq => some (.base (.bool (decide (a ≥ b))), True)
     | _ => none) else none) = some (v, side) := by
    cases op <;> first | exact h | exact absurd (.inl rfl) hsh | exact absurd (.inr rfl) hsh
   clear h
   split at h'
   ·rename_i hk
    subst hk
    cases op <;> simp only [Option.some.injEq, Prod.mk.injEq, reduceCtorEq] at h'
    all_goals
     obtain ⟨rfl, rfl⟩ := h'
     refine ⟨_, _, _, rfl, rfl, rfl, ?_⟩
     simp [eqGuard_at_int, Sem.run_bind, binOp, Op.intArith, Op.intCmp, Op.intDiv, Op.intBits, andI, orI, hs]
   ·cases h'
 ·rename_i a b
  cases op <;> simp only [Option.some.injEq, Prod.mk.injEq, reduceCtorEq] at h
  all_goals
   obtain ⟨rfl, rfl⟩ := h
   refine ⟨_, _, _, rfl, rfl, rfl, ?_⟩
   simp [eqGuard_at_string, Sem.run_bind, binOp, Op.stringOp]
  case add =>
   have : ¬ (((a.size + b.size : Nat) : Int) > IntKind.i64.max) := by
    simp only [IntKind.max, IntKind.signed, IntKind.bits, maxLen] at hs ⊢; omega
   simp at this
   simp [this]
 ·cases h
theorem shape_slice {u : TypeDesc} {e : TypeId} (h : Shape.slice e = shapeOf P u) : u = .slice e := by
 cases u <;> simp [shapeOf] at h
 ·rw [h]
 ·split at h <;> cases h
theorem shape_bool {u : TypeDesc} (h : Shape.bool = shapeOf P u) : u = .bool := by
 cases u <;> simp [shapeOf] at h
 ·rfl
 ·split at h <;> cases h
theorem shape_string {u : TypeDesc} (h : Shape.string = shapeOf P u) : u = .string := by
 cases u <;> simp [shapeOf] at h
 ·rfl
 ·split at h <;> cases h
theorem shape_int {u : TypeDesc} {k : IntKind} (h : Shape.int k = shapeOf P u) : u = .int k := by
 cases u <;> simp [shapeOf] at h
 ·rw [h]
 ·split at h <;> cases h
theorem shape_struct {u : TypeDesc} {fs : List (Nat × Nat × Bool)} (h : Shape.struct fs = shapeOf P u) : ∃ f : Array Field, u = .struct f ∧ fieldsOf P f.toList = some fs := by
 cases u <;> simp [shapeOf] at h
 split at h
 ·rename_i l hl; cases h; exact ⟨_, rfl, hl⟩
 ·cases h
theorem fieldsOf_places : ∀ (l : List Field) (fs : List (Nat × Nat × Bool)), fieldsOf P l = some fs → l.mapM (fun f => (P.info? f.type).map fun i => (f.offset, i.size)) = some (fs.map fun x => (x.1, x.2.1))
 | [], fs, h => by simp [fieldsOf] at h; subst h; rfl
 | f :: l, fs, h => by
  simp only [fieldsOf] at h
  split at h
  ·rename_i x r hx hr
   cases h
   have ih := fieldsOf_places l r hr
   unfold fieldOf at hx
   split at hx
   ·rename_i i u hi hu
    cases hx
    simp [List.mapM_cons, hi, ih]
   ·cases hx
  ·cases h
theorem fieldsOf_get : ∀ (l : List Field) (fs : List (Nat × Nat × Bool)), fieldsOf P l = some fs → ∀ (k : Nat) x, fs[k]? = some x → ∃ f i u, l[k]? = some f ∧ P.info? f.type = some i ∧ P.underlying f.type = some u ∧ x = (f.offset, i.size, isAggOf P f.type)
 | [], fs, h, k, x, hx => by simp [fieldsOf] at h; subst h; simp at hx
 | f :: l, fs, h, k, x, hx => by
  simp only [fieldsOf] at h
  split at h
  ·rename_i y r hy hr
   cases h
   cases k with
   | zero =>
    simp at hx; subst hx
    unfold fieldOf at hy
    split at hy
    ·rename_i i u hi hu
     cases hy
     exact ⟨f, i, u, rfl, hi, hu, rfl⟩
    ·cases hy
   | succ k => exact fieldsOf_get l r hr k x (by simpa using hx)
  ·cases h
theorem mid_add (b o k : Nat) : (⟨b, o, none⟩ : Addr).add k = ⟨b, o + k, none⟩ := Addr.add_mid b o k
theorem yes_move (hr : ARel n0 G be st a w) {o : Oper} {x : Operand} (ho : o.op = .move x ∨ o.op = .assign x) : Yes P n0 G be st a w o (st.eval x) := by
 refine Yes.same hr (cv := a.eval x) ?_ (hr.eval x)
 rcases ho with ho | ho <;> simp [execOp, ho]
theorem yes_pick (hr : ARel n0 G be st a w) {o : Oper} {c x y : Operand} (ho : o.op = .pick c x y) {t : Bool} (hc : st.eval c = .base (.bool t)) : Yes P n0 G be st a w o (if t then st.eval x else st.eval y) := by
 have := eval_base hr hc
 refine Yes.same hr (cv := if t then a.eval x else a.eval y) ?_ ?_
 ·simp [execOp, ho, this, asBool]
 ·cases t
  ·exact hr.eval y
  ·exact hr.eval x
theorem parts_rep (hr : ARel n0 G be st a w) (parts : Array (Nat × Operand)) : ∀ (i : Nat) (p : Nat × V) (q : Nat × Value), (parts.toList.map fun x => (x.1, st.eval x.2))[i]? = some p → (parts.toList.map fun x => (x.1, a.eval x.2))[i]? = some q → p.1 = q.1 ∧ LRep G be st.loc p.2 q.2 := by
 intro i p q h1 h2
 rw [List.getElem?_map] at h1 h2
 cases hx : parts.toList[i]? with
 | none => rw [hx] at h1; cases h1
 | some x =>
  rw [hx] at h1 h2
  cases h1; cases h2
  exact ⟨rfl, hr.eval x.2⟩
theorem yes_build (hr : ARel n0 G be st a w) {o : Oper} {t : TypeId} {parts : Array (Nat × Operand)} (ho : o.op = .build t parts) {d : TyD} (hd : tyOf P t = some d) {fs : List (Nat × Nat × Bool)} (hfs : d.shape = .struct fs) {cs : List V}
  (h : fillV (fun i => (fs[i]?).map fun f => (f.1, f.2.1)) (d.zero.map V.ofCell) (parts.toList.map fun x => (x.1, st.eval x.2)) = some cs) : Yes P n0 G be st a w o (.agg cs) := by
 obtain ⟨i, u, z, hi, hu, hz, h1, h2, h3, h4, h5⟩ := tyOf_some hd
 obtain ⟨f, rfl, hff⟩ := shape_struct (hfs.symm.trans h5)
 have hzr : RepL G (d.zero.map V.ofCell) z.cells.toList := by rw [h3]; exact repL_ofCells G _
 obtain ⟨ccs, hf, hrep, _⟩ := fill_rep (G := G) (be := be) (loc := st.loc) _ _ (parts.toList.map fun x => (x.1, a.eval x.2)) _ _ z.cells h hzr (by rw [← h3]; exact (tyOf_zero hd).2) (by simp) (parts_rep hr parts)
 have hb : P.built t (parts.map fun (i, x) => (i, a.eval x)).toList = some ccs := by
  unfold Program.built
  rw [hi, hu]
  simp only [hz, fieldsOf_places _ _ hff]
  rw [← hf]
  congr 1
  ·funext k; simp
  ·simp
 refine Yes.same hr (cv := .agg ccs) ?_ hrep.agg
 unfold execOp
 simp only [ho, Sem.run_bind, run_build w t _ ccs hb, Result.andThen_ok, Sem.run_pure]
theorem chunks_mem (sz : Nat) : ∀ (n : Nat) (cs : List V), cs.length = n * sz → (∀ c ∈ chunks sz n cs, c.length = sz) ∧ (chunks sz n cs).length = n ∧
  (∀ (i j : Nat) c x, (chunks sz n cs)[i]? = some c → c[j]? = some x → cs[i * sz + j]? = some x)
 | 0, cs, h => ⟨by simp [chunks], rfl, fun i j c x h => by simp [chunks] at h⟩
 | n + 1, cs, h => by
  have hl : cs.length = n * sz + sz := by rw [h, Nat.add_mul, Nat.one_mul]
  obtain ⟨h1, h2, h3⟩ := chunks_mem sz n (cs.drop sz) (by rw [List.length_drop]; omega)
  refine ⟨?_, by simp [chunks, h2], ?_⟩
  ·intro c hc
   simp only [chunks, List.mem_cons] at hc
   rcases hc with rfl | hc
   ·rw [List.length_take]; omega
   ·exact h1 c hc
  ·intro i j c x hi hj
   cases i with
   | zero =>
    simp only [chunks, List.getElem?_cons_zero, Option.some.injEq] at hi
    subst hi
    rw [List.getElem?_take] at hj
    split at hj
    ·simpa using hj
    ·cases hj
   | succ i =>
    simp only [chunks, List.getElem?_cons_succ] at hi
    have := h3 i j c x hi hj
    rw [List.getElem?_drop] at this
    rw [← this]
    congr 1
    rw [Nat.add_mul]; omega
theorem fillV_length (place : Nat → Option (Nat × Nat)) : ∀ (parts : List (Nat × V)) (cs cs' : List V), fillV place cs parts = some cs' → cs'.length = cs.length
 | [], cs, cs', h => by simp [fillV] at h; rw [h]
 | (i, v) :: r, cs, cs', h => by
  simp only [fillV] at h
  split at h
  ·split at h
   ·rename_i hc
    rw [fillV_length place r _ _ h, splice]
    simp only [List.length_append, List.length_take, List.length_drop]; omega
   ·cases h
  ·cases h
theorem yes_buildSlice (hr : ARel n0 G be st a w) {o : Oper} {t e : TypeId} {len : Nat} {parts : Array (Nat × Operand)} (ho : o.op = .buildSlice t len parts) {d de : TyD} (hd : tyOf P t = some d) (hfs : d.shape = .slice e) (hde : tyOf P e = some de) {cs : List V}
  (hpos : 0 < len * de.size) (hsmall : len * de.size ≤ 2 ^ 24)
  (h : fillV (fun i => some (i * de.size, de.size)) ((List.range (len * de.size)).map fun i => V.ofCell (de.zero.getD (i % de.size) undef)) (parts.toList.map fun x => (x.1, st.eval x.2)) = some cs) : Yes P n0 G be st a w o (.slice de.size (chunks de.size len cs)) := by
 obtain ⟨i, u, z, hi, hu, hz, h1, h2, h3, h4, h5⟩ := tyOf_some hd
 obtain ⟨ie, ue, ze, hie, hue, hze, k1, k2, k3, k4, k5⟩ := tyOf_some hde
 obtain ⟨hzl, hz1⟩ := tyOf_zero hde
 obtain rfl := shape_slice (hfs.symm.trans h5)
 have hzs : ze.cells.size = de.size := by rw [← hzl, k3]; simp
 have hrow : ((Array.range (len * ie.size)).map (ze.cells[· % ze.cells.size]!)).toList = (List.range (len * de.size)).map fun i => de.zero.getD (i % de.size) undef := by
  rw [Array.toList_map, Array.toList_range, ← k1]
  apply List.map_congr_left
  intro i hi
  have hp : 0 < de.size := by rcases Nat.eq_zero_or_pos de.size with e | e; rw [e] at hpos; simp at hpos; exact e
  have : i % de.size < ze.cells.size := by rw [hzs]; exact Nat.mod_lt _ hp
  rw [hzs, getElem!_pos ze.cells _ this, k3, List.getD_eq_getElem?_getD, List.getElem?_eq_getElem (by simpa using this)]
  simp
 have hzr : RepL G ((List.range (len * de.size)).map fun i => V.ofCell (de.zero.getD (i % de.size) undef)) ((Array.range (len * ie.size)).map (ze.cells[· % ze.cells.size]!)).toList := by
  rw [hrow]
  have := repL_ofCells G ((List.range (len * de.size)).map fun i => de.zero.getD (i % de.size) undef)
  rwa [List.map_map] at this
 have hone : ∀ x ∈ ((Array.range (len * ie.size)).map (ze.cells[· % ze.cells.size]!)).toList, x.oneCell' = true := by
  rw [hrow]
  intro x hx
  obtain ⟨i, hi, rfl⟩ := List.mem_map.1 hx
  have hp : 0 < de.size := by rcases Nat.eq_zero_or_pos de.size with e | e; rw [e] at hpos; simp at hpos; exact e
  have : i % de.size < de.zero.length := by rw [hzl]; exact Nat.mod_lt _ hp
  rw [List.getD_eq_getElem?_getD, List.getElem?_eq_getElem this]
  exact hz1 _ (List.getElem_mem this)
 obtain ⟨ccs, hf, hrep, hone'⟩ := fill_rep (G := G) (be := be) (loc := st.loc) _ _ (parts.toList.map fun x => (x.1, a.eval x.2)) _ _ _ h hzr hone (by simp) (parts_rep hr parts)
 have hlen : cs.length = len * de.size := by rw [fillV_length _ _ _ _ h]; simp
 obtain ⟨c1, c2, c3⟩ := chunks_mem de.size len cs hlen
 obtain ⟨hr', hx'⟩ := hr.allocFrozen ccs e
 have hrun : (execOp a.eval o).run P w = .ok (.value (.slice (some ⟨w.heap.size, 0, none⟩) len len)) (w.alloc (.cells ccs e)) := by
  unfold execOp
  have := run_buildSlice (P := P) w t e len (parts.map fun (i, x) => (i, a.eval x)) ccs ie ze hu hie hze (by rw [← k1]; omega) (by rw [← k1]; omega) (by rw [← k1] at *; simpa using hf)
  simp only [ho, Sem.run_bind, this, Result.andThen_ok, Sem.run_pure]
 refine ⟨_, _, _, hrun, hr', hx', ?_⟩
 have hml : len ≤ maxLen := by
  have : len ≤ len * de.size := Nat.le_mul_of_pos_right _ (by rcases Nat.eq_zero_or_pos de.size with e | e; rw [e] at hpos; simp at hpos; exact e)
  unfold maxLen; omega
 have hsz : ccs.size = len * de.size := by rw [← hlen, hrep.1]; simp
 have := Rep.slice (G := G.freeze w.heap.size ccs) de.size (chunks de.size len cs) w.heap.size 0 len (fun k => ccs.getD k undef) c1 (by omega) hml
  (fun k hk => by rw [c2] at hk; simp [Ghost.freeze, Array.getElem?_eq_getElem (show k < ccs.size by omega)])
  (fun i j c x hi hj => by
   have hx := c3 i j c x hi hj
   have hlt : i * de.size + j < ccs.size := by rw [hsz, ← hlen]; exact (List.getElem?_eq_some_iff.1 hx).1
   have := hrep.2 _ x (ccs[i * de.size + j]) hx (by rw [Array.getElem?_toList]; exact Array.getElem?_eq_getElem hlt)
   simp [hlt]
   exact this.mono hx'.le)
  (fun k hk => by
   rw [c2] at hk
   have hlt : k < ccs.size := by omega
   simp [hlt]
   exact hone' _ (by simp))
 rw [c2] at this
 exact this
end Go.Am
