/- What the pure operations say is what the machine does (2): reads, addresses, comparisons, and all of them together. -/
import Derived.Test.YtdomhnkffghmlaaGreatDoorSAmSound
import Derived.Laws.Small
import Derived.Laws.IdiomStrings
import Derived.Laws.AppendOwn
import Derived.Lib.LazyBuf
import Derived.Laws.Slices
set_option linter.unusedVariables false
set_option linter.unusedSimpArgs false
namespace Go.Am
variable {P : Program} {n0 : Base} {G : Ghost} {be : Nat → Option Nat} {st : St} {a : Act} {w : World}
theorem locPtr (hr : ARel n0 G be st a w) {x : Operand} {t off : Nat} (h : st.eval x = .loc t off) : ∃ b, be t = some b ∧ a.eval x = .pointer (some ⟨b, off, none⟩) := by
 have := hr.eval x
 rw [h] at this
 exact this.2
theorem eltPtr (hr : ARel n0 G be st a w) {x : Operand} {cs : List V} {off : Nat} (h : st.eval x = .elt cs off) :
  ∃ b o, ∃ vs : List Value, a.eval x = .pointer (some ⟨b, o + off, none⟩) ∧ RepL G cs vs ∧ w.rangeAt b o vs ∧ (∀ (j : Nat) v, vs[j]? = some v → G.F b (o + j) = some v) ∧ ∀ v ∈ vs, v.oneCell' = true := by
 have := hr.eval x
 rw [h] at this
 generalize hv : a.eval x = v at this
 cases (show Rep G (.elt cs off) v from this) with
 | elt _ _ b o cells h1 h2 h3 =>
  have key : ∀ (j : Nat) v, ((List.range cs.length).map cells)[j]? = some v → v = cells j ∧ ∃ c, cs[j]? = some c := by
   intro j v hv
   rw [List.getElem?_map] at hv
   by_cases hj : j < cs.length
   ·rw [List.getElem?_range hj] at hv
    exact ⟨(Option.some.inj hv).symm, _, List.getElem?_eq_getElem hj⟩
   ·rw [List.getElem?_eq_none (by simpa using hj)] at hv; cases hv
  refine ⟨b, o, (List.range cs.length).map cells, rfl, ⟨by simp, fun j c v hc hv => ?_⟩, fun j v hv => ?_, fun j v hv => ?_, fun v hv => ?_⟩
  ·obtain ⟨rfl, _⟩ := key j v hv; exact h2 j c hc
  ·obtain ⟨rfl, c, hc⟩ := key j v hv; exact hr.hr.frz _ _ _ (h1 j c hc)
  ·obtain ⟨rfl, c, hc⟩ := key j v hv; exact h1 j c hc
  ·obtain ⟨i, hi, rfl⟩ := List.mem_iff_getElem.1 hv
   obtain ⟨e, c, hc⟩ := key i _ (List.getElem?_eq_getElem hi)
   rw [e]; exact h3 i c hc
theorem yes_load_loc (hr : ARel n0 G be st a w) {o : Oper} {t : TypeId} {x : Operand} (ho : o.op = .load t x) {d : TyD} (hd : tyOf P t = some d) {b off : Nat} (hx : st.eval x = .loc b off) {cs : List V} {ty : TypeId} (hb : st.loc b = some (cs, ty)) {v : V} (h : rd d cs off = some v) :
  Yes P n0 G be st a w o v := by
 obtain ⟨bl, h1, h2, ⟨ccs, h3, h4, h5⟩, h6⟩ := hr.loc b cs ty hb
 obtain ⟨bl', h1', hv⟩ := locPtr hr hx
 obtain rfl : bl' = bl := Option.some.inj (h1'.symm.trans h1)
 obtain ⟨cv, hrun, hrep⟩ := rd_run (P := P) (w := w) (b := bl') (o := 0) h4 (fun j v hv => by rw [Nat.zero_add, cell_of_row w bl' j ccs ty _ h3]; simpa using hv) hd h
 refine Yes.same hr (cv := cv) ?_ (LRep.of_rep hrep)
 rw [Nat.zero_add] at hrun
 unfold execOp
 simp only [ho, hv, Sem.run_bind, hrun, Result.andThen_ok, Sem.run_pure]
theorem yes_load_elt (hr : ARel n0 G be st a w) {o : Oper} {t : TypeId} {x : Operand} (ho : o.op = .load t x) {d : TyD} (hd : tyOf P t = some d) {cs : List V} {off : Nat} (hx : st.eval x = .elt cs off) {v : V} (h : rd d cs off = some v) :
  Yes P n0 G be st a w o v := by
 obtain ⟨b, o', vs, hv, h1, h2, _⟩ := eltPtr hr hx
 obtain ⟨cv, hrun, hrep⟩ := rd_run (P := P) h1 h2 hd h
 refine Yes.same hr (cv := cv) ?_ (LRep.of_rep hrep)
 unfold execOp
 simp only [ho, hv, Sem.run_bind, hrun, Result.andThen_ok, Sem.run_pure]
theorem fieldAt_run {s : TypeId} {d : TyD} (hd : tyOf P s = some d) {fs : List (Nat × Nat × Bool)} (hfs : d.shape = .struct fs) {k off size : Nat} {ag : Bool} (hk : fs[k]? = some (off, size, ag)) (hs : size ≠ 0) (b o : Nat) (w : World) :
  (Instr.fieldAt s (.pointer (some ⟨b, o, none⟩)) k).run P w = .ok (.pointer (some ⟨b, o + off, none⟩)) w := by
 obtain ⟨i, u, z, hi, hu, hz, h1, h2, h3, h4, h5⟩ := tyOf_some hd
 obtain ⟨f, rfl, hff⟩ := shape_struct (hfs.symm.trans h5)
 obtain ⟨fd, i', u', hf1, hf2, hf3, hf4⟩ := fieldsOf_get _ _ hff k _ hk
 cases hf4
 have hf1' : f[k]? = some fd := by simpa using hf1
 simp [Instr.fieldAt, run_underlying hu, hf1', Instr.sureAddr, fieldPlace, sizeOf, typeInfo, hf2, hs, mid_add]
theorem yes_fieldAddr (hr : ARel n0 G be st a w) {o : Oper} {s : TypeId} {x : Operand} {k : Nat} (ho : o.op = .fieldAddr s x k) {d : TyD} (hd : tyOf P s = some d) {fs : List (Nat × Nat × Bool)} (hfs : d.shape = .struct fs) {off size : Nat} {ag : Bool} (hk : fs[k]? = some (off, size, ag)) (hs : size ≠ 0) :
  (∀ t o', st.eval x = .loc t o' → Yes P n0 G be st a w o (.loc t (o' + off))) ∧ (∀ cs o', st.eval x = .elt cs o' → Yes P n0 G be st a w o (.elt cs (o' + off))) ∧ (∀ b o', st.eval x = .ptr b o' → Yes P n0 G be st a w o (.ptr b (o' + off))) := by
 have run : ∀ b o', a.eval x = .pointer (some ⟨b, o', none⟩) → (execOp a.eval o).run P w = .ok (.value (.pointer (some ⟨b, o' + off, none⟩))) w := by
  intro b o' hv
  unfold execOp
  simp only [ho, hv, Sem.run_bind, fieldAt_run hd hfs hk hs b o' w, Result.andThen_ok, Sem.run_pure]
 refine ⟨fun t o' hx => ?_, fun cs o' hx => ?_, fun b o' hx => ?_⟩
 ·have hh := hr.eval x
  rw [hx] at hh
  obtain ⟨hne, b, hb, hv⟩ := hh
  exact Yes.same hr (run b o' hv) ⟨hne, b, hb, rfl⟩
 ·have hh := hr.eval x
  rw [hx] at hh
  generalize hv : a.eval x = v at hh
  cases (show Rep G (.elt cs o') v from hh) with
  | elt _ _ b ob cells h1 h2 h3 =>
   have := run b _ hv
   rw [Nat.add_assoc] at this
   exact Yes.same hr this (Rep.elt cs (o' + off) b ob cells h1 h2 h3)
 ·have hh := hr.eval x
  rw [hx] at hh
  generalize hv : a.eval x = v at hh
  cases (show Rep G (.ptr b o') v from hh)
  exact Yes.same hr (run b o' hv) (Rep.ptr _ _)
theorem part_run {t : TypeId} {i : TypeInfo} {u : TypeDesc} (hi : P.info? t = some i) (hu : P.underlying t = some u) {cs : List V} {ccs : Array Value} (hr : RepL G cs ccs.toList) {off : Nat} {v : V}
  (h : (if isAggOf P t then (if off + i.size ≤ cs.length then some (.agg ((cs.drop off).take i.size)) else none) else cs[off]?) = some v) (w : World) : ∃ cv, (part t ccs off).run P w = .ok cv w ∧ Rep G v cv := by
 unfold part
 by_cases ha : isAggOf P t = true
 ·rw [if_pos ha] at h
  split at h
  ·cases h
   refine ⟨.agg (ccs.extract off (off + i.size)), ?_, ?_⟩
   ·simp [isAgg_run hu, ha, sizeOf, typeInfo, hi]
   ·have := (hr.drop off).take i.size
    refine RepL.agg ?_
    simpa [Array.toList_extract, List.extract_eq_take_drop] using this
  ·cases h
 ·rw [if_neg ha] at h
  obtain ⟨cv, hc, hrep⟩ := hr.get h
  refine ⟨cv, ?_, hrep⟩
  have hc' : ccs[off]? = some cv := by simpa using hc
  simp [isAgg_run hu, ha, hc']
theorem yes_field (hr : ARel n0 G be st a w) {o : Oper} {s : TypeId} {x : Operand} {k : Nat} (ho : o.op = .field s x k) {d : TyD} (hd : tyOf P s = some d) {fs : List (Nat × Nat × Bool)} (hfs : d.shape = .struct fs) {off size : Nat} {ag : Bool} (hk : fs[k]? = some (off, size, ag))
  {cs : List V} (hx : st.eval x = .agg cs) {v : V} (h : (if ag then (if off + size ≤ cs.length then some (.agg ((cs.drop off).take size)) else none) else cs[off]?) = some v) : Yes P n0 G be st a w o v := by
 obtain ⟨i, u, z, hi, hu, hz, h1, h2, h3, h4, h5⟩ := tyOf_some hd
 obtain ⟨f, rfl, hff⟩ := shape_struct (hfs.symm.trans h5)
 obtain ⟨fd, i', u', hf1, hf2, hf3, hf4⟩ := fieldsOf_get _ _ hff k _ hk
 cases hf4
 have hf1' : f[k]? = some fd := by simpa using hf1
 have hh := hr.eval x
 rw [hx] at hh
 generalize hv : a.eval x = v' at hh
 cases (show Rep G (.agg cs) v' from hh) with
 | agg _ ccs hl hc =>
  obtain ⟨cv, hrun, hrep⟩ := part_run (P := P) hf2 hf3 (repL_of_arr hl hc) h w
  refine Yes.same hr (cv := cv) ?_ (LRep.of_rep hrep)
  unfold execOp
  simp [ho, hv, Instr.field, run_underlying hu, hf1', asAgg, hrun]
theorem yes_indexAddr (hr : ARel n0 G be st a w) {o : Oper} {t e : TypeId} {x i : Operand} (ho : o.op = .indexAddr t x i) {d de : TyD} (hd : tyOf P t = some d) (hfs : d.shape = .slice e) (hde : tyOf P e = some de) {sz : Nat} {es : List (List V)} (hx : sliceV (st.eval x) = some (sz, es))
  {k : IntKind} {n : Int} (hi : st.eval i = .base (.int k n)) (hsz : sz = de.size) (h0 : 0 ≤ n ∧ n < es.length) : Yes P n0 G be st a w o (.elt (es.getD n.toNat []) 0) := by
 obtain ⟨i', u, z, hi', hu, hz, h1, h2, h3, h4, h5⟩ := tyOf_some hd
 obtain ⟨ie, ue, ze, hie, hue, hze, k1, k2, k3, k4, k5⟩ := tyOf_some hde
 obtain rfl := shape_slice (hfs.symm.trans h5)
 have hn := eval_base hr hi
 have hs := sliceV_rep (hr.eval x) hx
 have hlt : n.toNat < es.length := by omega
 generalize hv : a.eval x = v at hs
 cases hs with
 | slice0 => simp at hlt
 | slice _ _ b o' cap cells c1 c2 c3 c4 c5 c6 =>
  have hes : es[n.toNat]? = some es[n.toNat] := List.getElem?_eq_getElem hlt
  have hg : es.getD n.toNat [] = es[n.toNat] := by rw [List.getD_eq_getElem?_getD, hes]; rfl
  have hlen : es[n.toNat].length = sz := c1 _ (List.getElem_mem hlt)
  have hk : ∀ j, j < sz → n.toNat * sz + j < es.length * sz := fun j hj => by
   have : (n.toNat + 1) * sz ≤ es.length * sz := Nat.mul_le_mul_right _ hlt
   rw [Nat.add_mul] at this; omega
  refine Yes.same hr (cv := .pointer (some ⟨b, o' + n.toNat * sz, none⟩)) ?_ ?_
  ·unfold execOp
   have hel : (es.length : Int) = ((es.length : Nat) : Int) := rfl
   simp [ho, hv, hn, Instr.indexAt, asIntOf, run_underlying hu, h0.1, h0.2, sizeOf, typeInfo, hie, ← k1, ← hsz, mid_add]
  ·rw [hg]
   have := Rep.elt (G := G) es[n.toNat] 0 b (o' + n.toNat * sz) (fun j => cells (n.toNat * sz + j))
    (fun j c hj => by
     have := c4 (n.toNat * sz + j) (hk j (by rw [← hlen]; exact (List.getElem?_eq_some_iff.1 hj).1))
     rwa [← Nat.add_assoc] at this)
    (fun j c hj => c5 n.toNat j _ c hes hj)
    (fun j c hj => c6 _ (hk j (by rw [← hlen]; exact (List.getElem?_eq_some_iff.1 hj).1)))
   exact LRep.of_rep (by simpa using this)
theorem yes_mutAddr (hr : ARel n0 G be st a w) {o : Oper} {t e : TypeId} {x i : Operand} (ho : o.op = .indexAddr t x i) {d de : TyD} (hd : tyOf P t = some d) (hfs : d.shape = .slice e) (hde : tyOf P e = some de) {v : V} {side : Prop} (h : mutAddr de (st.eval x) (st.eval i) = some (v, side)) (hs : side) : Yes P n0 G be st a w o v := by
 obtain ⟨i', u, z, hi', hu, hz, h1, h2, h3, h4, h5⟩ := tyOf_some hd
 obtain ⟨ie, ue, ze, hie, hue, hze, k1, k2, k3, k4, k5⟩ := tyOf_some hde
 obtain rfl := shape_slice (hfs.symm.trans h5)
 unfold mutAddr at h
 split at h
 ·rename_i b o' len cap k n hx hi
  cases h
  have hn := eval_base hr hi
  have hv := eval_base hr hx
  refine Yes.same hr (cv := .pointer (some ⟨b, o' + n.toNat * de.size, none⟩)) ?_ (LRep.of_rep (.ptr _ _))
  unfold execOp
  simp [ho, hv, hn, Instr.indexAt, asIntOf, run_underlying hu, hs.1, hs.2, sizeOf, typeInfo, hie, ← k1, mid_add]
 ·cases h
theorem yes_index (hr : ARel n0 G be st a w) {o : Oper} {t : TypeId} {x i : Operand} (ho : o.op = .index t x i) {d : TyD} (hd : tyOf P t = some d) (hfs : d.shape = .string) {s : ByteArray} (hx : st.eval x = .base (.string s))
  {k : IntKind} {n : Int} (hi : st.eval i = .base (.int k n)) (h0 : 0 ≤ n ∧ n < s.size) : Yes P n0 G be st a w o (.base (.int .u8 (s.data.toList.getD n.toNat 0).toNat)) := by
 obtain ⟨i', u, z, hi', hu, hz, h1, h2, h3, h4, h5⟩ := tyOf_some hd
 obtain rfl := shape_string (hfs.symm.trans h5)
 have hn := eval_base hr hi
 have hs := eval_base hr hx
 have hlt : n.toNat < s.size := by omega
 refine Yes.same hr (cv := .int .u8 (s.data.toList.getD n.toNat 0).toNat) ?_ (Rep.base _)
 have e1 : s[n.toNat]? = some s[n.toNat] := by rw [getElem?_pos s n.toNat hlt]
 have e2 : s.data.toList.getD n.toNat 0 = s[n.toNat] := by
  rw [List.getD_eq_getElem?_getD, List.getElem?_eq_getElem (by simpa using hlt)]
  rfl
 unfold execOp
 have e3 : (s.data[n.toNat]?.getD 0) = s[n.toNat] := by rw [← e2]; simp [List.getD_eq_getElem?_getD]
 simp [ho, hn, hs, Instr.index, asIntOf, run_underlying hu, h0.1, e1, e3]
theorem yes_extract (hr : ARel n0 G be st a w) {o : Oper} {x : Operand} {k : Nat} (ho : o.op = .extract x k) {vs : List V} (hx : st.eval x = .tuple vs) {v : V} (h : vs[k]? = some v) : Yes P n0 G be st a w o v := by
 have hh := hr.eval x
 rw [hx] at hh
 generalize hv : a.eval x = v' at hh
 cases (show Rep G (.tuple vs) v' from hh) with
 | tuple _ ccs hl hc =>
  obtain ⟨cv, h1, h2⟩ := (repL_of_arr hl hc).get h
  refine Yes.same hr (cv := cv) ?_ (LRep.of_rep h2)
  have h1' : ccs[k]? = some cv := by simpa using h1
  unfold execOp
  simp [ho, hv, Instr.extract, h1']
theorem yes_len (hr : ARel n0 G be st a w) {o : Oper} {x : Operand} {args : Array Operand} {ts : Array TypeId} (ho : o.op = .call { callee := .builtin .len, args := args, argTypes := ts }) {t : TypeId} (ht : ts[0]? = some t) (hxx : args[0]? = some x) {d : TyD} (hd : tyOf P t = some d) :
  (∀ e n, d.shape = .slice e → lenV (st.eval x) = some n → Yes P n0 G be st a w o (.base (.int .i64 n))) ∧ (∀ s, d.shape = .string → st.eval x = .base (.string s) → Yes P n0 G be st a w o (.base (.int .i64 s.size))) := by
 obtain ⟨i', u, z, hi', hu, hz, h1, h2, h3, h4, h5⟩ := tyOf_some hd
 have hargs : (args.map a.eval)[0]? = some (a.eval x) := by simp [hxx]
 refine ⟨fun e n hs hn => ?_, fun s hs hx => ?_⟩
 ·obtain rfl := shape_slice (hs.symm.trans h5)
  obtain ⟨b, cap, hv⟩ := lenV_rep (hr.eval x) hn
  refine Yes.same hr (cv := .int .i64 n) ?_ (Rep.base _)
  rw [hv] at hargs
  unfold execOp
  simp [ho, resolve, invoke, builtin, Builtin.len_, ht, hxx, hv, run_underlying hu, goInt]
 ·obtain rfl := shape_string (hs.symm.trans h5)
  have hv := eval_base hr hx
  refine Yes.same hr (cv := .int .i64 s.size) ?_ (Rep.base _)
  unfold execOp
  simp [ho, resolve, invoke, builtin, Builtin.len_, ht, hxx, hv, run_underlying hu, goInt]
theorem yes_mx (hr : ARel n0 G be st a w) {o : Oper} {mx : Bool} {args : Array Operand} {ts : Array TypeId} (ho : o.op = .call { callee := .builtin (if mx then .max else .min), args := args, argTypes := ts }) {v : V} {side : Prop} (h : mxVal mx st args = some (v, side)) : Yes P n0 G be st a w o v := by
 unfold mxVal at h
 split at h
 ·rename_i x y hl
  split at h
  ·rename_i k n k' m hx hy
   cases h
   have h1 := eval_base hr hx
   have h2 := eval_base hr hy
   have ha : args.map a.eval = #[.int k n, .int k' m] := by
    obtain ⟨l⟩ := args
    simp only at hl
    subst hl
    simp [h1, h2]
   refine Yes.same hr (cv := .int k (if mx then (if n < m then m else n) else (if m < n then m else n))) ?_ (Rep.base _)
   unfold execOp
   cases mx
   ·simp only [ho, resolve, Sem.run_bind, Sem.run_pure, Result.andThen_ok, invoke, Bool.false_eq_true, if_false]
    rw [ha]
    simp [builtin, run_min_int2, Sem.run_bind]
   ·simp only [ho, resolve, Sem.run_bind, Sem.run_pure, Result.andThen_ok, invoke, if_true]
    rw [ha]
    simp [builtin, run_max_int2, Sem.run_bind]
  ·cases h
 ·cases h
theorem yes_nilCheck (hr : ARel n0 G be st a w) {o : Oper} {x : Operand} (ho : o.op = .nilCheck x) {v : V} (hx : st.eval x = v) (hv : (∃ b k, v = .ptr b k) ∨ (∃ t k, v = .loc t k) ∨ (∃ cs k, v = .elt cs k) ∨ (∃ f c d, v = .func f c d)) : Yes P n0 G be st a w o v := by
 have hh := hr.eval x
 rw [hx] at hh
 refine Yes.same hr (cv := a.eval x) ?_ hh
 unfold execOp
 rcases hv with ⟨b, k, rfl⟩ | ⟨t, k, rfl⟩ | ⟨cs, k, rfl⟩ | ⟨f, c, d, rfl⟩
 ·generalize hv : a.eval x = v at hh
  cases (show Rep G (.ptr b k) v from hh)
  simp [ho, hv]
 ·obtain ⟨b, _, hv⟩ := locPtr hr hx
  simp [ho, hv]
 ·generalize hv : a.eval x = v at hh
  cases (show Rep G (.elt cs k) v from hh)
  simp [ho, hv]
 ·generalize hv : a.eval x = v at hh
  cases (show Rep G (.func f c d) v from hh)
  simp [ho, hv]
theorem yes_bin (hr : ARel n0 G be st a w) {o : Oper} {op : BinOp} {t t' : TypeId} {x y : Operand} (ho : o.op = .binOp op t x y t') {v : V} {side : Prop} (h : binV op (st.eval x) (st.eval y) = some (v, side)) (hs : side) : Yes P n0 G be st a w o v := by
 obtain ⟨vx, vy, cv, hx, hy, rfl, hrun⟩ := binV_run (P := P) h hs t x y w
 refine Yes.same hr (cv := cv) ?_ (Rep.base _)
 unfold execOp
 simp only [ho, eval_base hr hx, eval_base hr hy]
 rw [Sem.run_bind, hrun]
 rfl
theorem yes_bin_bool (hr : ARel n0 G be st a w) {o : Oper} {op : BinOp} {t t' : TypeId} {x y : Operand} (ho : o.op = .binOp op t x y t') {p q : Bool} (hx : st.eval x = .base (.bool p)) (hy : st.eval y = .base (.bool q)) {d : TyD} (hd : tyOf P t = some d) (hs : d.shape = .bool) :
  (op = .eql → Yes P n0 G be st a w o (.base (.bool (p == q)))) ∧ (op = .neq → Yes P n0 G be st a w o (.base (.bool (!(p == q))))) := by
 obtain ⟨i', u, z, hi', hu, hz, h1, h2, h3, h4, h5⟩ := tyOf_some hd
 obtain rfl := shape_bool (hs.symm.trans h5)
 constructor <;> rintro rfl <;> refine Yes.same hr (cv := .bool _) ?_ (Rep.base _) <;> unfold execOp <;> simp [ho, eval_base hr hx, eval_base hr hy, eqGuard_at_bool, run_eql_bool w t p q hu, run_neq_bool w t p q hu]
theorem yes_bin_func (hr : ARel n0 G be st a w) {o : Oper} {op : BinOp} {t t' : TypeId} {x y : Operand} (ho : o.op = .binOp op t x y t') (hy : st.eval y = .base .nilFunc) {d : TyD} (hd : tyOf P t = some d) (hs : d.shape = .func) :
  ((∃ f c e, st.eval x = .func f c e) → (op = .eql → Yes P n0 G be st a w o (.base (.bool false))) ∧ (op = .neq → Yes P n0 G be st a w o (.base (.bool true)))) ∧
  (st.eval x = .base .nilFunc → (op = .eql → Yes P n0 G be st a w o (.base (.bool true))) ∧ (op = .neq → Yes P n0 G be st a w o (.base (.bool false)))) := by
 obtain ⟨i', u, z, hi', hu, hz, h1, h2, h3, h4, h5⟩ := tyOf_some hd
 have hf : shapeOf P u = .func := by rw [← h5]; exact hs
 refine ⟨?_, fun hx => ?_⟩
 ·rintro ⟨f, c, e, hx⟩
  have hh := hr.eval x
  rw [hx] at hh
  generalize hv : a.eval x = v at hh
  cases (show Rep G (.func f c e) v from hh) with
  | func _ _ _ cf cc =>
   obtain ⟨r1, r2, _, _⟩ := run_eql_func (P := P) t u hu hf (.func f) cf cc w
   constructor <;> rintro rfl <;> refine Yes.same hr (cv := .bool _) ?_ (Rep.base _) <;> unfold execOp <;> simp [ho, hv, eval_base hr hy, eqGuard_at_func, r1, r2]
 ·obtain ⟨_, _, r1, r2⟩ := run_eql_func (P := P) t u hu hf (.func 0) #[] #[] w
  constructor <;> rintro rfl <;> refine Yes.same hr (cv := .bool _) ?_ (Rep.base _) <;> unfold execOp <;> simp [ho, eval_base hr hx, eval_base hr hy, eqGuard_at_nilFunc, r1, r2]
theorem nilV_rep {G : Ghost} {be : Nat → Option Nat} {loc : Nat → Option (List V × TypeId)} {c : V} {v : Value} {r : Bool} (h : LRep G be loc c v) (hr : nilV c = some r) : ∃ a n k, v = .slice a n k ∧ a.isNone = r := by
 cases c <;> simp only [nilV] at hr <;> try (cases hr; done)
 case nil => cases hr; cases (show Rep G .nil v from h); exact ⟨_, _, _, rfl, rfl⟩
 case base x =>
  cases x <;> simp only at hr <;> try (cases hr; done)
  cases hr
  cases (show Rep G (.base _) v from h)
  exact ⟨_, _, _, rfl, rfl⟩
 case slice sz es =>
  cases es <;> simp only at hr <;> try (cases hr; done)
  cases hr
  cases (show Rep G (.slice sz _) v from h) with
  | slice => exact ⟨_, _, _, rfl, rfl⟩
theorem yes_bin_nil (hr : ARel n0 G be st a w) {o : Oper} {op : BinOp} {t t' : TypeId} {x y : Operand} (ho : o.op = .binOp op t x y t') (hy : st.eval y = .nil) {r : Bool} (hx : nilV (st.eval x) = some r) {d : TyD} (hd : tyOf P t = some d) {e : TypeId} (hs : d.shape = .slice e) :
  (op = .eql → Yes P n0 G be st a w o (.base (.bool r))) ∧ (op = .neq → Yes P n0 G be st a w o (.base (.bool (!r)))) := by
 obtain ⟨i', u, z, hi', hu, hz, h1, h2, h3, h4, h5⟩ := tyOf_some hd
 obtain rfl := shape_slice (hs.symm.trans h5)
 obtain ⟨ad, n, k, hv, rfl⟩ := nilV_rep (hr.eval x) hx
 have hyv : a.eval y = .slice none 0 0 := by
  have hh := hr.eval y
  rw [hy] at hh
  generalize a.eval y = q at hh
  cases (show Rep G .nil q from hh); rfl
 have r1 := Go.run_eql_slice_nil (P := P) w t e ad n k hu
 have r2 := Go.run_neq_slice_nil (P := P) w t e ad n k hu
 constructor <;> rintro rfl <;> refine Yes.same hr (cv := .bool _) ?_ (Rep.base _) <;> unfold execOp <;> simp [ho, hv, hyv, eqGuard_at_slice, r1, r2]
theorem run_part_cell {t : TypeId} {u : TypeDesc} (hu : P.underlying t = some u) (hn : (∃ k, u = .int k) ∨ u = .bool ∨ u = .string) {xs : Array Value} {off : Nat} {v : Value} (hx : xs[off]? = some v) (w : World) : (part t xs off).run P w = .ok v w := by
 rcases hn with ⟨k, rfl⟩ | rfl | rfl <;> simp [part, isAgg, run_underlying hu, hx]
theorem cmpCells_run {G : Ghost} (w : World) (d : Nat) (xs ys : Array Value) : ∀ (fs : List Field) (k : Nat) (ks : List Nat) (cs cs' : List V) (r : Bool), (fs.mapM fun f => match P.underlying f.type with
    | some .bool => some 0
    | some (.int _) => some 1
    | some .string => some 2
    | _ => none) = some ks → (fs.zipIdx k).all (fun x => x.1.name != "_" && x.1.offset == x.2) = true → cmpCells ks cs cs' = some r → RepL G cs (xs.toList.drop k) → RepL G cs' (ys.toList.drop k) →
  (Op.eqFields (d + 1) xs ys fs).run P w = .ok r w
 | [], k, ks, cs, cs', r, h1, h2, h3, h4, h5 => by
  simp at h1
  subst h1
  cases cs <;> cases cs' <;> simp [cmpCells] at h3
  subst h3
  simp [Op.eqFields]
 | f :: fs, k, ks, cs, cs', r, h1, h2, h3, h4, h5 => by
  rw [List.mapM_cons] at h1
  simp only [bind, Option.bind_eq_some_iff, pure, Option.some.injEq] at h1
  obtain ⟨n, hn, ks', hks, rfl⟩ := h1
  rw [List.zipIdx_cons, List.all_cons] at h2
  simp only [Bool.and_eq_true, bne_iff_ne, beq_iff_eq] at h2
  obtain ⟨⟨hname, hoff⟩, h2⟩ := h2
  have go : ∀ (x y : Value) (c c' : V) (rs rs' : List V) (b : Bool) (u : TypeDesc), cs = c :: rs → cs' = c' :: rs' → c = .base x → c' = .base y → P.underlying f.type = some u → ((∃ k, u = .int k) ∨ u = .bool ∨ u = .string) → (∀ w, (Op.equalIn (d + 1) f.type x y).run P w = .ok b w) →
    (cmpCells ks' rs rs').map (b && ·) = some r → (Op.eqFields (d + 1) xs ys (f :: fs)).run P w = .ok r w := by
   intro x y c c' rs rs' b u e1 e2 e3 e4 hu hk he hm
   subst e1; subst e2; subst e3; subst e4
   obtain ⟨v, vs, hv, hv1, hv2⟩ := h4.uncons
   obtain ⟨v', vs', hv', hv1', hv2'⟩ := h5.uncons
   cases hv1
   cases hv1'
   have g1 : xs[f.offset]? = some x := by
    rw [hoff]
    have := congrArg (·[0]?) hv
    simpa [List.getElem?_drop] using this
   have g2 : ys[f.offset]? = some y := by
    rw [hoff]
    have := congrArg (·[0]?) hv'
    simpa [List.getElem?_drop] using this
   have d1 : xs.toList.drop (k + 1) = vs := by rw [← List.drop_drop, hv]; rfl
   have d2 : ys.toList.drop (k + 1) = vs' := by rw [← List.drop_drop, hv']; rfl
   cases hrec : cmpCells ks' rs rs' with
   | none => rw [hrec] at hm; cases hm
   | some r' =>
    rw [hrec] at hm
    have hm' : (b && r') = r := by simpa using hm
    have ih := cmpCells_run w d xs ys fs (k + 1) ks' rs rs' r' hks h2 hrec (by rw [d1]; exact hv2) (by rw [d2]; exact hv2')
    simp only [Op.eqFields, hname, ne_eq, not_false_eq_true, if_true, Sem.run_bind, run_part_cell hu hk g1, run_part_cell hu hk g2, Result.andThen_ok, he]
    cases b
    ·simp at hm'; subst hm'; simp
    ·simp at hm'; subst hm'; simpa using ih
  split at hn
  ·rename_i hu
   cases hn
   unfold cmpCells at h3
   split at h3 <;> first | (cases h3; done) | skip
   all_goals first | (rename_i hh; cases hh; done) | skip
   rename_i ks2 a rs b rs' e1
   cases e1
   exact go (.bool a) (.bool b) _ _ rs rs' (a == b) _ rfl rfl rfl rfl hu (.inr (.inl rfl)) (fun w => run_equalIn_bool w d _ _ _ hu) h3
  ·rename_i q hu
   cases hn
   unfold cmpCells at h3
   split at h3 <;> first | (cases h3; done) | skip
   all_goals first | (rename_i hh; cases hh; done) | skip
   rename_i ks2 k0 a rs k1 b rs' e1
   cases e1
   split at h3
   ·rename_i hk
    subst hk
    exact go (.int k0 a) (.int k0 b) _ _ rs rs' (a == b) _ rfl rfl rfl rfl hu (.inl ⟨q, rfl⟩) (fun w => run_equalIn_int w d _ _ _ _ _ hu) h3
   ·cases h3
  ·rename_i hu
   cases hn
   unfold cmpCells at h3
   split at h3 <;> first | (cases h3; done) | skip
   all_goals first | (rename_i hh; cases hh; done) | skip
   rename_i ks2 a rs b rs' e1
   cases e1
   exact go (.string a) (.string b) _ _ rs rs' (a.toList == b.toList) _ rfl rfl rfl rfl hu (.inr (.inr rfl)) (fun w => run_equalIn_string w d _ _ _ hu) h3
  ·cases hn
theorem yes_bin_agg (hr : ARel n0 G be st a w) {o : Oper} {op : BinOp} {t t' : TypeId} {x y : Operand} (ho : o.op = .binOp op t x y t') {cs cs' : List V} (hx : st.eval x = .agg cs) (hy : st.eval y = .agg cs') {ks : List Nat} (hk : eqTy P t = some ks) {r : Bool} (hc : cmpCells ks cs cs' = some r) :
  (op = .eql → Yes P n0 G be st a w o (.base (.bool r))) ∧ (op = .neq → Yes P n0 G be st a w o (.base (.bool !r))) := by
 have h1 := hr.eval x
 have h2 := hr.eval y
 rw [hx] at h1
 rw [hy] at h2
 generalize hvx : a.eval x = vx at h1
 generalize hvy : a.eval y = vy at h2
 cases (show Rep G (.agg cs) vx from h1) with
 | agg _ xs l1 m1 =>
 cases (show Rep G (.agg cs') vy from h2) with
 | agg _ ys l2 m2 =>
 unfold eqTy at hk
 split at hk
 ·rename_i fs hu
  split at hk
  ·rename_i hcond
   obtain ⟨c1, c2, c3⟩ := hcond
   have hfs : P.fieldsOf t = fs := by unfold Program.fieldsOf; rw [hu]
   have hrun : (Op.equalIn 10000 t (.agg xs) (.agg ys)).run P w = .ok r w := by
    rw [show (10000 : Nat) = 9999 + 1 from rfl, run_equalIn_struct w 9999 t xs ys (by rw [hfs]; exact hu) c1, hfs]
    exact cmpCells_run (G := G) w 9998 xs ys fs.toList 0 ks cs cs' r hk (by simpa using c3) hc (by simpa using repL_of_arr l1 m1) (by simpa using repL_of_arr l2 m2)
   constructor <;> rintro rfl <;> refine Yes.same hr (cv := .bool _) ?_ (Rep.base _) <;> unfold execOp <;> simp only [ho, hvx, hvy, Sem.run_bind, run_eqGuard_agg w _ t x y xs ys c2, Result.andThen_ok, run_eql_struct, run_neq_struct, hrun] <;> rfl
  ·cases hk
 ·cases hk
theorem yes_un (hr : ARel n0 G be st a w) {o : Oper} {op : UnOp} {t : TypeId} {x : Operand} (ho : o.op = .unOp op t x) : (∀ b, op = .not → st.eval x = .base (.bool b) → Yes P n0 G be st a w o (.base (.bool !b))) ∧
  (∀ k n, op = .neg → st.eval x = .base (.int k n) → Yes P n0 G be st a w o (.base (.int k (k.wrap (0 - n))))) := by
 refine ⟨fun b hop hx => ?_, fun k n hop hx => ?_⟩ <;> subst hop <;> refine Yes.same hr (cv := _) ?_ (Rep.base _) <;> unfold execOp <;> simp [ho, eval_base hr hx, Op.unary, Op.intArith]
theorem yes_convert_int (hr : ARel n0 G be st a w) {o : Oper} {s t : TypeId} {x : Operand} (ho : o.op = .convert s t x) {ds dd : TyD} (hs : tyOf P s = some ds) (hd : tyOf P t = some dd) {k k' k0 : IntKind} {n : Int} (h1 : ds.shape = .int k0) (h2 : dd.shape = .int k') (hx : st.eval x = .base (.int k n)) :
  Yes P n0 G be st a w o (.base (.int k' (k'.wrap n))) := by
 obtain ⟨i, u, z, hi, hu, hz, _, _, _, _, h5⟩ := tyOf_some hs
 obtain ⟨i', u', z', hi', hu', hz', _, _, _, _, h5'⟩ := tyOf_some hd
 obtain rfl := shape_int (h1.symm.trans h5)
 obtain rfl := shape_int (h2.symm.trans h5')
 refine Yes.same hr (cv := .int k' (k'.wrap n)) ?_ (Rep.base _)
 unfold execOp
 simp [ho, eval_base hr hx, convert, run_underlying hu, run_underlying hu', Conv.intToInt]
theorem yes_convert_string (hr : ARel n0 G be st a w) {o : Oper} {s t : TypeId} {x : Operand} (ho : o.op = .convert s t x) {ds dd : TyD} (hs : tyOf P s = some ds) (hd : tyOf P t = some dd) {b : ByteArray} (h1 : ds.shape = .string) (h2 : dd.shape = .string) (hx : st.eval x = .base (.string b)) :
  Yes P n0 G be st a w o (.base (.string b)) := by
 obtain ⟨i, u, z, hi, hu, hz, _, _, _, _, h5⟩ := tyOf_some hs
 obtain ⟨i', u', z', hi', hu', hz', _, _, _, _, h5'⟩ := tyOf_some hd
 obtain rfl := shape_string (h1.symm.trans h5)
 obtain rfl := shape_string (h2.symm.trans h5')
 refine Yes.same hr (cv := .string b) ?_ (Rep.base _)
 unfold execOp
 simp [ho, eval_base hr hx, convert, run_underlying hu, run_underlying hu']
theorem yes_convert_bytes (hr : ARel n0 G be st a w) {o : Oper} {s t e : TypeId} {x : Operand} (ho : o.op = .convert s t x) {ds dd de : TyD} (hs : tyOf P s = some ds) (hd : tyOf P t = some dd) {b : ByteArray} (h1 : ds.shape = .string) (h2 : dd.shape = .slice e) (h3 : tyOf P e = some de) (h4 : de.shape = .int .u8) (hx : st.eval x = .base (.string b)) (hb : b.size ≤ maxLen) :
  Yes P n0 G be st a w o (.slice 1 ((bytesI b).map fun x => [.base (.int .u8 x)])) := by
 obtain ⟨i, u, z, hi, hu, hz, _, _, _, _, h5⟩ := tyOf_some hs
 obtain ⟨i', u', z', hi', hu', hz', _, _, _, _, h5'⟩ := tyOf_some hd
 obtain ⟨i2, u2, z2, hi2, hu2, hz2, _, _, _, _, h52⟩ := tyOf_some h3
 obtain rfl := shape_string (h1.symm.trans h5)
 obtain rfl := shape_slice (h2.symm.trans h5')
 obtain rfl := shape_int (h4.symm.trans h52)
 have hrun := run_bytes_of_string (P := P) w s t e b hu hu' hu2
 generalize hcap : grownCap w b.size 0 e = cap at hrun
 have hc1 : b.size ≤ cap := by rw [← hcap]; exact grownCap_ge w _ _ _
 have hc2 : cap ≤ maxLen := by rw [← hcap]; exact grownCap_le_maxLen w _ _ _ hb
 generalize hfr : ((bytesRow b cap).size, (bytesRow b cap).size + 1) = fr at hrun
 have hF : ∀ o, G.F w.heap.size o = none := fun o => by
  cases hq : G.F w.heap.size o with
  | none => rfl
  | some v => have := hr.hr.frz_lt (b := w.heap.size) (o := o) (by rw [hq]; simp); omega
 have hf : ¬ foot G st.s w.heap.size := fun hf => by have := hr.hr.foot_lt hf; omega
 have hm : More w (w.drew.alloc (.cells (bytesRow b cap) e fr)) := (More.drew w).trans (More.alloc _ _)
 have hnew : (w.drew.alloc (.cells (bytesRow b cap) e fr)).heap[w.heap.size]? = some (.cells (bytesRow b cap) e fr) := heap_alloc_new w.drew _
 have hr1 := (hr.more hm).freeze hnew hf hF (fun t ht hb => by have := hr.loc_lt ht hb; omega)
 have hlen : (bytesI b).length = b.size := by unfold bytesI; rw [List.length_map, Array.length_toList]; rfl
 have hcell : ∀ j, j < b.size → (bytesRow b cap)[j]? = some (.int .u8 ((b.data.toList.getD j 0).toNat : Int)) := fun j hj => by
  have hj' : j < b.data.size := hj
  unfold bytesRow
  rw [Array.getElem?_append_left (by simpa using hj')]
  have hg : b.data[j]? = some b.data[j] := Array.getElem?_eq_getElem hj'
  simp [List.getD_eq_getElem?_getD, hg]
 refine ⟨.slice (some ⟨w.heap.size, 0, none⟩) b.size cap, _, G.freeze w.heap.size (bytesRow b cap), ?_, hr1, ?_, ?_⟩
 ·unfold execOp
  simp only [ho, eval_base hr hx, Sem.run_bind, hrun, Result.andThen_ok, Sem.run_pure]
 ·refine ⟨Ghost.freeze_le _ hF, hm.size, hm.os, hm.tape, hm.output, fun b hb _ => hm.keep b hb, fun b hb => .inl hb, fun b' o hb => ?_, fun _ h => .inl h⟩
  by_cases e' : b' = w.heap.size
  ·exact .inr (.inr (by omega))
  ·simp [Ghost.freeze, e'] at hb; exact .inl hb
 ·refine LRep.of_rep ?_
  have key := Rep.slice (G := G.freeze w.heap.size (bytesRow b cap)) 1 ((bytesI b).map fun x => [V.base (.int .u8 x)]) w.heap.size 0 cap (fun k => .int .u8 ((b.data.toList.getD k 0).toNat : Int))
   (fun cs hcs => by obtain ⟨y, _, rfl⟩ := List.mem_map.1 hcs; rfl) (by rw [List.length_map, hlen]; exact hc1) hc2
   (fun k hk => by
    rw [List.length_map, hlen, Nat.mul_one] at hk
    simp only [Ghost.freeze, if_pos, Nat.zero_add]
    exact hcell k hk)
   (fun i j cs c hi hj => by
    rw [List.getElem?_map] at hi
    cases hq : (bytesI b)[i]? with
    | none => rw [hq] at hi; cases hi
    | some y =>
     rw [hq] at hi
     cases hi
     cases j with
     | succ j => simp at hj
     | zero =>
      simp at hj
      subst hj
      have : y = ((b.data.toList.getD i 0).toNat : Int) := by
       unfold bytesI at hq
       rw [List.getElem?_map] at hq
       cases hz : b.data.toList[i]? with
       | none => rw [hz] at hq; cases hq
       | some z => rw [hz] at hq; cases hq; simp [List.getD_eq_getElem?_getD, hz]
      rw [this, Nat.mul_one, Nat.add_zero]
      exact Rep.base _)
   (fun k hk => rfl)
  rw [List.length_map, hlen] at key
  exact key
theorem bytes_beq (p q : ByteArray) : (p == q) = (p.toList == q.toList) := by
 cases p with | mk a => cases q with | mk b =>
 show (a == b) = _
 rw [Bool.eq_iff_iff]
 simp only [beq_iff_eq, ByteArray.toList_eq]
 exact ⟨fun h => by rw [h], fun h => Array.toList_inj.1 h⟩
theorem yes_if (hr : ARel n0 G be st a w) {o : Oper} {t : TypeId} {x : Operand} (ho : o.op = .makeInterface t x) {d : TyD} (hd : tyOf P t = some d) {v : Value} (hx : st.eval x = .base v) (hs : (∃ k, d.shape = .int k) ∨ d.shape = .string) : Yes P n0 G be st a w o (.base (.iface t v)) := by
 obtain ⟨i, u, z, hi, hu, hz, _, _, _, _, h5⟩ := tyOf_some hd
 refine Yes.same hr (cv := .iface t v) ?_ (Rep.base _)
 unfold execOp
 rcases hs with ⟨k, hs⟩ | hs
 ·obtain rfl := shape_int (hs.symm.trans h5)
  simp [ho, eval_base hr hx, Instr.makeInterface, run_underlying hu]
 ·obtain rfl := shape_string (hs.symm.trans h5)
  simp [ho, eval_base hr hx, Instr.makeInterface, run_underlying hu]
theorem basesOf_rep {G : Ghost} : ∀ {cs : List V} {vs ws : List Value}, basesOf cs = some vs → RepL G cs ws → ws = vs
 | [], vs, ws, h, hr => by cases h; exact hr.nil_inv
 | c :: cs, vs, ws, h, hr => by
  obtain ⟨v, ws', rfl, hv, hr'⟩ := hr.uncons
  cases c <;> simp only [basesOf] at h <;> first | cases h | skip
  rename_i b
  split at h
  ·rename_i l hl
   cases h
   cases hv
   rw [basesOf_rep hl hr']
  ·cases h
theorem yes_if_agg (hr : ARel n0 G be st a w) {o : Oper} {t : TypeId} {x : Operand} (ho : o.op = .makeInterface t x) {d : TyD} (hd : tyOf P t = some d) {cs : List V} (hx : st.eval x = .agg cs) {fs : List (Nat × Nat × Bool)} (hs : d.shape = .struct fs) {vs : List Value} (hb : basesOf cs = some vs) : Yes P n0 G be st a w o (.base (.iface t (.agg vs.toArray))) := by
 obtain ⟨i, u, z, hi, hu, hz, _, _, _, _, h5⟩ := tyOf_some hd
 obtain ⟨f, rfl, _⟩ := shape_struct (hs.symm.trans h5)
 have hh := hr.eval x
 rw [hx] at hh
 generalize hq : a.eval x = q at hh
 cases (show Rep G (.agg cs) q from hh) with
 | agg _ ccs hl hr2 =>
  have e := basesOf_rep hb (repL_of_arr hl hr2)
  have e2 : ccs = vs.toArray := by rw [← e]
  refine Yes.same hr (cv := .iface t (.agg vs.toArray)) ?_ (Rep.base _)
  unfold execOp
  simp [ho, hq, e2, Instr.makeInterface, run_underlying hu]
theorem yes_tat (hr : ARel n0 G be st a w) {o : Oper} {t xt : TypeId} {x : Operand} (ho : o.op = .typeAssert x xt t true) {d : TyD} (hd : tyOf P t = some d) {v : Value} (hx : st.eval x = .base (.iface t v)) {fs : List (Nat × Nat × Bool)} (hs : d.shape = .struct fs) : Yes P n0 G be st a w o (.tuple [V.ofVal v, .base (.bool true)]) := by
 obtain ⟨i, u, z, hi, hu, hz, _, _, _, _, h5⟩ := tyOf_some hd
 obtain ⟨f, rfl, _⟩ := shape_struct (hs.symm.trans h5)
 refine Yes.same hr (cv := .tuple #[v, .bool true]) ?_ (RepL.tuple (ccs := #[v, .bool true]) (RepL.cons (rep_ofVal G v) (RepL.cons (Rep.base _) (RepL.nil G))))
 unfold execOp
 simp [ho, eval_base hr hx, Instr.typeAssert, run_underlying hu]
theorem yes_ta (hr : ARel n0 G be st a w) {o : Oper} {t xt : TypeId} {x : Operand} (ho : o.op = .typeAssert x xt t false) {d : TyD} (hd : tyOf P t = some d) {v : Value} (hx : st.eval x = .base (.iface t v)) {k : IntKind} (hs : d.shape = .int k) : Yes P n0 G be st a w o (.base v) := by
 obtain ⟨i, u, z, hi, hu, hz, _, _, _, _, h5⟩ := tyOf_some hd
 obtain rfl := shape_int (hs.symm.trans h5)
 refine Yes.same hr (cv := v) ?_ (Rep.base _)
 unfold execOp
 simp [ho, eval_base hr hx, Instr.typeAssert, run_underlying hu]
theorem yes_eq_nilif (hr : ARel n0 G be st a w) {o : Oper} {op : BinOp} {t t' : TypeId} {x y : Operand} {c : Value} (ho : o.op = .binOp op t x y t') (hy : y = .const c) (hx : st.eval x = .base .nilIface) (hyv : st.eval y = .base .nilIface) {ms : Array (String × TypeId)} (hu : P.underlying t = some (.interface ms)) :
  (op = .eql → Yes P n0 G be st a w o (.base (.bool true))) ∧ (op = .neq → Yes P n0 G be st a w o (.base (.bool false))) := by
 have h1 := eval_base hr hx
 have h2 := eval_base hr hyv
 have hq : ∀ d : Nat, (Op.equalIn (d + 1) t .nilIface .nilIface).run P w = .ok true w := fun d => by simp [Op.equalIn, run_underlying hu]
 subst hy
 constructor <;> rintro rfl
 ·refine Yes.same hr (cv := .bool true) ?_ (Rep.base _)
  unfold execOp
  simp only [ho, h1, h2]
  simp [eqGuard, binOp, Op.equal, Op.maxDepth, hq 9999]
 ·refine Yes.same hr (cv := .bool false) ?_ (Rep.base _)
  unfold execOp
  simp only [ho, h1, h2]
  simp [eqGuard, binOp, Op.equal, Op.maxDepth, hq 9999]
theorem yes_eq_ifnil (hr : ARel n0 G be st a w) {o : Oper} {op : BinOp} {t t' : TypeId} {x y : Operand} {c : Value} (ho : o.op = .binOp op t x y t') (hy : y = .const c) {tx : TypeId} {vx : Value} (hx : st.eval x = .base (.iface tx vx)) (hyv : st.eval y = .base .nilIface) {ms : Array (String × TypeId)} (hu : P.underlying t = some (.interface ms)) :
  (op = .eql → Yes P n0 G be st a w o (.base (.bool false))) ∧ (op = .neq → Yes P n0 G be st a w o (.base (.bool true))) := by
 have h1 := eval_base hr hx
 have h2 := eval_base hr hyv
 have hq : ∀ d : Nat, (Op.equalIn (d + 1) t (.iface tx vx) .nilIface).run P w = .ok false w := fun d => by simp [Op.equalIn, run_underlying hu]
 subst hy
 constructor <;> rintro rfl
 ·refine Yes.same hr (cv := .bool false) ?_ (Rep.base _)
  unfold execOp
  simp only [ho, h1, h2]
  simp [eqGuard, binOp, Op.equal, Op.maxDepth, hq 9999]
 ·refine Yes.same hr (cv := .bool true) ?_ (Rep.base _)
  unfold execOp
  simp only [ho, h1, h2]
  simp [eqGuard, binOp, Op.equal, Op.maxDepth, hq 9999]
theorem yes_eq_ifs (hr : ARel n0 G be st a w) {o : Oper} {t t' tx ty : TypeId} {x y : Operand} (ho : o.op = .binOp .eql t x y t') {vx vy : Value} (hx : st.eval x = .base (.iface tx vx)) (hy : st.eval y = .base (.iface ty vy)) {ms : Array (String × TypeId)} (hu : P.underlying t = some (.interface ms)) :
  (tx ≠ ty → Yes P n0 G be st a w o (.base (.bool false))) ∧ (∀ p q, vx = .string p → vy = .string q → tx = ty → P.underlying tx = some .string → (P.info? tx).map (·.comparable) = some true → Yes P n0 G be st a w o (.base (.bool (p.toList == q.toList)))) := by
 have h1 := eval_base hr hx
 have h2 := eval_base hr hy
 refine ⟨fun hne => ?_, fun p q e1 e2 e3 hs hc => ?_⟩
 ·have hq : ∀ d : Nat, (Op.equalIn (d + 1) t (.iface tx vx) (.iface ty vy)).run P w = .ok false w := fun d => by simp [Op.equalIn, run_underlying hu, hne]
  refine Yes.same hr (cv := .bool false) ?_ (Rep.base _)
  unfold execOp
  simp only [ho, h1, h2]
  simp [eqGuard, binOp, Op.equal, Op.maxDepth, hq 9999]
 ·subst e1; subst e2; subst e3
  cases hi : P.info? tx with
  | none => rw [hi] at hc; cases hc
  | some i =>
   have hcc : i.comparable = true := by simpa [hi] using hc
   have hpq : (p == q) = (p.toList == q.toList) := by
    exact bytes_beq p q
   have hq : ∀ d : Nat, (Op.equalIn (d + 2) t (.iface tx (.string p)) (.iface tx (.string q))).run P w = .ok (p.toList == q.toList) w := fun d => by
    simp [Op.equalIn, run_underlying hu, run_underlying hs, typeInfo, hi, hcc, hpq]
   refine Yes.same hr (cv := .bool (p.toList == q.toList)) ?_ (Rep.base _)
   unfold execOp
   simp only [ho, h1, h2]
   simp [eqGuard, binOp, Op.equal, Op.maxDepth, hq 9998]
theorem yes_makeFunc (hr : ARel n0 G be st a w) {o : Oper} {f : FuncId} {first captured : Array Operand} (ho : o.op = .makeFunc (.func f) first captured) {x y : List V} (h1 : noLocs (first.toList.map st.eval) = some x) (h2 : noLocs (captured.toList.map st.eval) = some y) :
  Yes P n0 G be st a w o (.func f x y) := by
 have r1 := noLocs_rep hr _ _ h1
 have r2 := noLocs_rep hr _ _ h2
 refine Yes.same hr (cv := .func (.func f) (first.map a.eval) (captured.map a.eval)) ?_ ?_
 ·unfold execOp
  simp [ho, Instr.makeFunc]
 ·exact Rep.func f x y _ _ (by rw [r1.1]; simp) (by rw [r2.1]; simp) (fun i c v a b => r1.2 i c v a (by simpa using b)) (fun i c v a b => r2.2 i c v a (by simpa using b))
theorem loV_run (hr : ARel n0 G be st a w) {lo : Option Operand} {l : Int} (h : loV st lo = some l) : (lo = none ∧ l = 0) ∨ ∃ o k, lo = some o ∧ a.eval o = .int k l := by
 cases lo with
 | none => exact .inl ⟨rfl, by simp [loV] at h; exact h.symm⟩
 | some o =>
  simp only [loV] at h
  split at h
  ·rename_i k n hx; cases h; exact .inr ⟨o, k, rfl, eval_base hr hx⟩
  ·cases h
theorem hiV_run (hr : ARel n0 G be st a w) {hi : Option Operand} {len : Nat} {l : Int} (h : hiV st len hi = some l) : (hi = none ∧ l = len) ∨ ∃ o k, hi = some o ∧ a.eval o = .int k l := by
 cases hi with
 | none => exact .inl ⟨rfl, by simp [hiV] at h; exact h.symm⟩
 | some o =>
  simp only [hiV] at h
  split at h
  ·rename_i k n hx; cases h; exact .inr ⟨o, k, rfl, eval_base hr hx⟩
  ·cases h
theorem bounds_run (isSlice : Bool) (hr : ARel n0 G be st a w) {lo hi : Option Operand} {len cap : Nat} {l h : Int} (hl : loV st lo = some l) (hh : hiV st len hi = some h) (h0 : 0 ≤ l) (h1 : l ≤ h) (h2 : h ≤ len) (hc : len ≤ cap) :
  (Instr.sliceBounds isSlice len cap (lo.map a.eval) (hi.map a.eval) none).run P w = .ok (l.toNat, h.toNat, cap) w := by
 have sb : ∀ (k : IntKind) (i : Int) (y : Nat) (code : BoundsCode), 0 ≤ i → i ≤ y → (Instr.sliceBound (.int k i) y code).run P w = .ok i.toNat w := fun k i y code a b => by
  simp [Instr.sliceBound, asIntOf, a, b]
 rcases loV_run hr hl with ⟨rfl, rfl⟩ | ⟨ol, kl, rfl, el⟩ <;> rcases hiV_run hr hh with ⟨rfl, rfl⟩ | ⟨oh, kh, rfl, eh⟩
 ·simp [Instr.sliceBounds]
 ·simp [Instr.sliceBounds, eh, sb kh h cap _ (by omega) (by omega)]
 ·simp [Instr.sliceBounds, el, sb kl l len _ (by omega) (by omega)]
 ·simp [Instr.sliceBounds, el, eh, sb kh h cap _ (by omega) (by omega)]
  rw [sb kl l h.toNat _ (by omega) (by omega)]
  simp
theorem sliceAt_eq {t : TypeId} {u : TypeDesc} (hu : P.underlying t = some u) (hn : ∀ n e, u ≠ .array n e) (x : Value) (lo hi mx : Option Value) (w : World) : (Instr.sliceAt t x lo hi mx).run P w = (Instr.slice t x lo hi mx).run P w := by
 unfold Instr.sliceAt
 rw [Sem.run_bind, run_underlying hu]
 cases u <;> first | rfl | exact absurd rfl (hn _ _)
theorem rep_sub {sz : Nat} {es : List (List V)} {v : Value} (h : Rep G (.slice sz es) v) (l h' : Nat) (hl : l ≤ h') (hh : h' ≤ es.length) (cap' : Nat) : ∃ b len cap, v = .slice b len cap ∧ len = es.length ∧ es.length ≤ cap ∧
  (Rep G (.slice sz ((es.drop l).take (h' - l))) (.slice (if cap = l then b else b.map (·.add (l * sz))) (h' - l) (cap - l))) := by
 cases h with
 | slice0 _ b cap =>
  have : h' = 0 := by simpa using hh
  subst this
  have : l = 0 := by omega
  subst this
  refine ⟨b, 0, cap, rfl, rfl, by simp, ?_⟩
  simpa using Rep.slice0 sz _ _
 | slice _ _ b o cap cells c1 c2 c3 c4 c5 c6 =>
  refine ⟨_, _, cap, rfl, rfl, c2, ?_⟩
  by_cases hz : h' - l = 0
  ·rw [hz]; simpa using Rep.slice0 sz _ _
  ·have hne : cap ≠ l := by omega
   rw [if_neg hne]
   have hlen : ((es.drop l).take (h' - l)).length = h' - l := by rw [List.length_take, List.length_drop]; omega
   have hget : ∀ (i : Nat) cs, ((es.drop l).take (h' - l))[i]? = some cs → es[l + i]? = some cs := by
    intro i cs hi
    rw [List.getElem?_take] at hi
    split at hi
    ·rwa [List.getElem?_drop] at hi
    ·cases hi
   have hk : ∀ k, k < (h' - l) * sz → l * sz + k < es.length * sz := fun k hk => by
    have h1 : h' * sz ≤ es.length * sz := Nat.mul_le_mul_right _ hh
    have h2 : (h' - l) * sz + l * sz = h' * sz := by rw [← Nat.add_mul]; congr 1; omega
    omega
   have := Rep.slice (G := G) sz ((es.drop l).take (h' - l)) b (o + l * sz) (cap - l) (fun k => cells (l * sz + k))
    (fun cs hcs => c1 cs (List.mem_of_mem_drop (List.mem_of_mem_take hcs))) (by rw [hlen]; omega) (by omega)
    (fun k hk' => by rw [hlen] at hk'; have := c4 _ (hk k hk'); rwa [← Nat.add_assoc] at this)
    (fun i j cs c hi hj => by
     have := c5 (l + i) j cs c (hget i cs hi) hj
     rw [Nat.add_mul, Nat.add_assoc] at this; exact this)
    (fun k hk' => by rw [hlen] at hk'; exact c6 _ (hk k hk'))
   rw [hlen] at this
   simpa [mid_add] using this
theorem yes_slice (hr : ARel n0 G be st a w) {o : Oper} {t e : TypeId} {x : Operand} {lo hi : Option Operand} (ho : o.op = .slice t x lo hi none) {d de : TyD} (hd : tyOf P t = some d) (hfs : d.shape = .slice e) (hde : tyOf P e = some de) {sz : Nat} {es : List (List V)} (hx : sliceV (st.eval x) = some (sz, es)) (hsz : sz = de.size)
  {l h : Int} (hl : loV st lo = some l) (hh : hiV st es.length hi = some h) (h0 : 0 ≤ l ∧ l ≤ h ∧ h ≤ es.length) : Yes P n0 G be st a w o (.slice sz ((es.drop l.toNat).take (h.toNat - l.toNat))) := by
 obtain ⟨i', u, z, hi', hu, hz, h1, h2, h3, h4, h5⟩ := tyOf_some hd
 obtain ⟨ie, ue, ze, hie, hue, hze, k1, k2, k3, k4, k5⟩ := tyOf_some hde
 obtain rfl := shape_slice (hfs.symm.trans h5)
 obtain ⟨b, len, cap, hv, rfl, hc, hrep⟩ := rep_sub (sliceV_rep (hr.eval x) hx) l.toNat h.toNat (by omega) (by omega) 0
 refine Yes.same hr (cv := _) ?_ (LRep.of_rep hrep)
 have hb := bounds_run (P := P) true hr hl hh h0.1 h0.2.1 h0.2.2 hc
 have hs : (Instr.sliceAt t (a.eval x) (lo.map a.eval) (hi.map a.eval) none).run P w = .ok (.slice (if cap = l.toNat then b else b.map (·.add (l.toNat * sz))) (h.toNat - l.toNat) (cap - l.toNat)) w := by
  rw [sliceAt_eq hu (by simp), hv]
  simp [Instr.slice, run_underlying hu, hb, sizeOf, typeInfo, hie, hsz, k1]
 unfold execOp
 simp only [ho, Option.map_none, Sem.run_bind, hs, Result.andThen_ok, Sem.run_pure]
theorem yes_slice_string (hr : ARel n0 G be st a w) {o : Oper} {t : TypeId} {x : Operand} {lo hi : Option Operand} (ho : o.op = .slice t x lo hi none) {d : TyD} (hd : tyOf P t = some d) (hfs : d.shape = .string) {s : ByteArray} (hx : st.eval x = .base (.string s))
  {l h : Int} (hl : loV st lo = some l) (hh : hiV st s.size hi = some h) (h0 : 0 ≤ l ∧ l ≤ h ∧ h ≤ s.size) : Yes P n0 G be st a w o (.base (.string (s.extract l.toNat h.toNat))) := by
 obtain ⟨i', u, z, hi', hu, hz, h1, h2, h3, h4, h5⟩ := tyOf_some hd
 obtain rfl := shape_string (hfs.symm.trans h5)
 have hb := bounds_run (P := P) false hr hl hh h0.1 h0.2.1 h0.2.2 (Nat.le_refl _)
 refine Yes.same hr (cv := .string (s.extract l.toNat h.toNat)) ?_ (Rep.base _)
 have hs : (Instr.sliceAt t (a.eval x) (lo.map a.eval) (hi.map a.eval) none).run P w = .ok (.string (s.extract l.toNat h.toNat)) w := by
  rw [sliceAt_eq hu (by simp), eval_base hr hx]
  simp [Instr.slice, run_underlying hu, hb]
 unfold execOp
 simp only [ho, Option.map_none, Sem.run_bind, hs, Result.andThen_ok, Sem.run_pure]
theorem yes_zcap (hr : ARel n0 G be st a w) {o : Oper} {t e : TypeId} {x hi mx : Operand} (ho : o.op = .slice t x none (some hi) (some mx)) {d de : TyD} (hd : tyOf P t = some d) (hfs : d.shape = .slice e) (hde : tyOf P e = some de) {v : V} (hx : st.eval x = v) (hv : (∃ sz es, v = .slice sz es) ∨ (∃ g sz es, v = .own g sz es) ∨ v = .nil)
  {k k' : IntKind} (hh : st.eval hi = .base (.int k 0)) (hm : st.eval mx = .base (.int k' 0)) : Yes P n0 G be st a w o .zcap := by
 obtain ⟨i', u, z, hi', hu, hz, h1, h2, h3, h4, h5⟩ := tyOf_some hd
 obtain ⟨ie, ue, ze, hie, hue, hze, k1, k2, k3, k4, k5⟩ := tyOf_some hde
 obtain rfl := shape_slice (hfs.symm.trans h5)
 have hsl : ∃ b len cap, a.eval x = .slice b len cap := by
  have hh := hr.eval x
  rw [hx] at hh
  rcases hv with ⟨sz, es, rfl⟩ | ⟨g, sz, es, rfl⟩ | rfl
  ·obtain ⟨b, cap, e⟩ := lenV_rep (n := es.length) hh rfl; exact ⟨_, _, _, e⟩
  ·obtain ⟨b, cap, e⟩ := lenV_rep (n := es.length) hh rfl; exact ⟨_, _, _, e⟩
  ·obtain ⟨b, cap, e⟩ := lenV_rep (n := 0) hh rfl; exact ⟨_, _, _, e⟩
 obtain ⟨b, len, cap, hxv⟩ := hsl
 refine Yes.same hr (cv := .slice b 0 0) ?_ (LRep.of_rep (Rep.zcap b))
 have hs : (Instr.sliceAt t (a.eval x) none (some (a.eval hi)) (some (a.eval mx))).run P w = .ok (.slice b 0 0) w := by
  rw [sliceAt_eq hu (by simp), hxv, eval_base hr hh, eval_base hr hm]
  simp [Instr.slice, run_underlying hu, Instr.sliceBounds, Instr.sliceBound, asIntOf, sizeOf, typeInfo, hie]
 unfold execOp
 simp only [ho, Option.map_none, Option.map_some, Sem.run_bind, hs, Result.andThen_ok, Sem.run_pure]
/-- A slice of nothing, made anew. -/
theorem yes_buildEmpty (hr : ARel n0 G be st a w) {o : Oper} {t e : TypeId} {len : Nat} {parts : Array (Nat × Operand)} (ho : o.op = .buildSlice t len parts) {d de : TyD} (hd : tyOf P t = some d) (hfs : d.shape = .slice e) (hde : tyOf P e = some de) (h0 : len = 0) (hp : parts.toList = []) : Yes P n0 G be st a w o .zcap := by
 obtain ⟨i, u, z, hi, hu, hz, h1, h2, h3, h4, h5⟩ := tyOf_some hd
 obtain ⟨ie, ue, ze, hie, hue, hze, k1, k2, k3, k4, k5⟩ := tyOf_some hde
 obtain rfl := shape_slice (hfs.symm.trans h5)
 obtain rfl : parts = #[] := by rw [← Array.toList_inj]; simpa using hp
 subst h0
 obtain ⟨hr', hx'⟩ := hr.allocFrozen #[] e
 refine ⟨_, _, _, ?_, hr', hx', Rep.zcap (some ⟨w.heap.size, 0, none⟩)⟩
 unfold execOp
 simp [ho, Instr.buildSlice, run_underlying hu, sizeOf, typeInfo, hie, Instr.fill, newRow]
 congr 2
 apply Array.ext' ; simp
/-- **The pure operations: what is said of them is so.** -/
theorem pval_sound (hr : ARel n0 G be st a w) {o : Oper} {v : V} {side : Prop} (h : pval P st o.op = some (v, side)) (hs : side) : Yes P n0 G be st a w o v := by
 generalize hop : o.op = op at h
 cases op <;> simp only [pval] at h <;> try (cases h; done)
 case move x => cases h; exact yes_move hr (.inl hop)
 case assign x => cases h; exact yes_move hr (.inr hop)
 case pick c x y =>
  split at h
  ·rename_i t ht; cases h; exact yes_pick hr hop ht
  ·cases h
 case build t parts =>
  split at h
  ·rename_i d hd
   split at h
   ·rename_i fs hfs
    split at h
    ·rename_i cs hcs; cases h; exact yes_build hr hop hd hfs hcs
    ·cases h
   ·cases h
  ·cases h
 case buildSlice t len parts =>
  split at h
  ·rename_i d hd
   split at h
   ·rename_i e hfs
    split at h
    ·rename_i de hde
     split at h
     ·rename_i hc
      split at h
      ·rename_i cs hcs; cases h; exact yes_buildSlice hr hop hd hfs hde hc.1 hc.2 hcs
      ·cases h
     ·split at h
      ·rename_i hc; cases h; exact yes_buildEmpty hr hop hd hfs hde hc.1 hc.2
      ·cases h
    ·cases h
   ·cases h
  ·cases h
 case load t x =>
  split at h
  ·rename_i d hd
   split at h
   ·rename_i b off hx
    split at h
    ·rename_i cs ty hb
     cases hrd : rd d cs off with
     | none => rw [hrd] at h; cases h
     | some v' => rw [hrd] at h; cases h; exact yes_load_loc hr hop hd hx hb hrd
    ·cases h
   ·rename_i cs off hx
    cases hrd : rd d cs off with
    | none => rw [hrd] at h; cases h
    | some v' => rw [hrd] at h; cases h; exact yes_load_elt hr hop hd hx hrd
   ·cases h
  ·cases h
 case nilCheck x =>
  split at h <;> first | (cases h; done) | skip
  ·rename_i b k hx; cases h; exact yes_nilCheck hr hop hx (.inl ⟨_, _, rfl⟩)
  ·rename_i b k hx; cases h; exact yes_nilCheck hr hop hx (.inr (.inl ⟨_, _, rfl⟩))
  ·rename_i b k hx; cases h; exact yes_nilCheck hr hop hx (.inr (.inr (.inl ⟨_, _, rfl⟩)))
  ·rename_i b c d hx; cases h; exact yes_nilCheck hr hop hx (.inr (.inr (.inr ⟨_, _, _, rfl⟩)))
 case binOp op t x y t' =>
  split at h
  ·rename_i p q hx hy
   split at h
   ·rename_i d hd
    split at h
    ·rename_i hsh; cases h; exact (yes_bin_bool hr hop hx hy hd hsh).1 rfl
    ·rename_i hsh; cases h; exact (yes_bin_bool hr hop hx hy hd hsh).2 rfl
    ·cases h
   ·cases h
  ·rename_i f c e hx hy
   split at h
   ·rename_i d hd
    split at h
    ·rename_i hsh; cases h; exact ((yes_bin_func hr hop hy hd hsh).1 ⟨_, _, _, hx⟩).1 rfl
    ·rename_i hsh; cases h; exact ((yes_bin_func hr hop hy hd hsh).1 ⟨_, _, _, hx⟩).2 rfl
    ·cases h
   ·cases h
  ·rename_i hx hy
   split at h
   ·rename_i d hd
    split at h
    ·rename_i hsh; cases h; exact ((yes_bin_func hr hop hy hd hsh).2 hx).1 rfl
    ·rename_i hsh; cases h; exact ((yes_bin_func hr hop hy hd hsh).2 hx).2 rfl
    ·cases h
   ·cases h
  ·rename_i cs cs' hx hy
   split at h
   ·rename_i ks hks
    split at h
    ·rename_i r hc; cases h; exact (yes_bin_agg hr hop hx hy hks hc).1 rfl
    ·rename_i r hc; cases h; exact (yes_bin_agg hr hop hx hy hks hc).2 rfl
    ·cases h
   ·cases h
  ·rename_i v hv hy
   split at h
   ·rename_i r d hnv hd
    split at h
    ·rename_i hsh; cases h; exact (yes_bin_nil hr hop hy hnv hd hsh).1 rfl
    ·rename_i hsh; cases h; exact (yes_bin_nil hr hop hy hnv hd hsh).2 rfl
    ·cases h
   ·cases h
  ·rename_i hx hy
   unfold eqNilIf at h
   split at h
   ·rename_i hu; cases h; exact (yes_eq_nilif hr hop rfl hx hy hu).1 rfl
   ·rename_i hu; cases h; exact (yes_eq_nilif hr hop rfl hx hy hu).2 rfl
   ·cases h
  ·rename_i tx vx hx hy
   unfold eqIfNil at h
   split at h
   ·rename_i hu; cases h; exact (yes_eq_ifnil hr hop rfl hx hy hu).1 rfl
   ·rename_i hu; cases h; exact (yes_eq_ifnil hr hop rfl hx hy hu).2 rfl
   ·cases h
  ·rename_i tx p ty q hx hy
   unfold eqIfs at h
   split at h
   ·rename_i hu hs'
    split at h
    ·rename_i hc; cases h; exact (yes_eq_ifs hr hop hx hy hu).2 p q rfl rfl hc.1 hs' hc.2
    ·cases h
   ·cases h
  ·rename_i tx k n ty q hx hy
   unfold eqIfn at h
   split at h
   ·rename_i hu
    split at h
    ·rename_i hc; cases h; exact (yes_eq_ifs hr hop hx hy hu).1 hc
    ·cases h
   ·cases h
  ·exact yes_bin hr hop h hs
 case unOp op t x =>
  split at h
  ·rename_i b hx; cases h; exact (yes_un hr hop).1 b rfl hx
  ·rename_i k n hx; cases h; exact (yes_un hr hop).2 k n rfl hx
  ·cases h
 case convert s t x =>
  split at h
  ·rename_i ds dd k n h1 h2 hx
   split at h
   ·rename_i k0 k' e1 e2; cases h; exact yes_convert_int hr hop h1 h2 e1 e2 hx
   ·cases h
  ·rename_i ds dd b h1 h2 hx
   split at h
   ·rename_i e1 e2; cases h; exact yes_convert_string hr hop h1 h2 e1 e2 hx
   ·rename_i e e1 e2
    split at h
    ·rename_i de h3
     split at h
     ·rename_i h4; cases h; exact yes_convert_bytes hr hop h1 h2 e1 e2 h3 h4 hx hs
     ·cases h
    ·cases h
   ·cases h
  ·cases h
 case makeFunc fn first captured =>
  cases fn <;> simp only [pval] at h <;> try (cases h; done)
  split at h
  ·rename_i x y h1 h2; cases h; exact yes_makeFunc hr hop h1 h2
  ·cases h
 case fieldAddr s x k =>
  split at h
  ·rename_i d hd
   split at h
   ·rename_i fs hfs
    split at h
    ·rename_i off size ag hk
     split at h
     ·cases h
     ·rename_i hsz
      obtain ⟨y1, y2, y3⟩ := yes_fieldAddr hr hop hd hfs hk hsz
      split at h
      ·rename_i t o' hx; cases h; exact y1 _ _ hx
      ·rename_i cs o' hx; cases h; exact y2 _ _ hx
      ·rename_i b o' hx; cases h; exact y3 _ _ hx
      ·cases h
    ·cases h
   ·cases h
  ·cases h
 case field s x k =>
  split at h
  ·rename_i d hd
   split at h
   ·rename_i fs hfs
    split at h
    ·rename_i off size ag hk
     split at h
     ·rename_i cs hx
      cases hq : (if ag then (if off + size ≤ cs.length then some (V.agg ((cs.drop off).take size)) else none) else cs[off]?) with
      | none => rw [hq] at h; cases h
      | some v' => rw [hq] at h; cases h; exact yes_field hr hop hd hfs hk hx hq
     ·cases h
    ·cases h
   ·cases h
  ·cases h
 case indexAddr t x i =>
  split at h
  ·rename_i d hd
   split at h
   ·rename_i e hfs
    split at h
    ·rename_i de hde
     split at h
     ·rename_i sz es k n hx hi
      split at h
      ·rename_i hsz; cases h; exact yes_indexAddr hr hop hd hfs hde hx hi hsz hs
      ·cases h
     ·exact yes_mutAddr hr hop hd hfs hde h hs
     ·cases h
    ·cases h
   ·cases h
  ·cases h
 case index t x i =>
  split at h
  ·rename_i d hd
   split at h
   ·rename_i s k n h1 h2 h3; cases h; exact yes_index hr hop hd h1 h2 h3 hs
   ·cases h
  ·cases h
 case makeInterface t x =>
  split at h
  ·rename_i d v hd hx
   split at h
   ·rename_i k hsh; cases h; exact yes_if hr hop hd hx (.inl ⟨k, hsh⟩)
   ·rename_i hsh; cases h; exact yes_if hr hop hd hx (.inr hsh)
   ·cases h
  ·rename_i d cs hd hx
   split at h
   ·rename_i fs vs hsh hb; cases h; exact yes_if_agg hr hop hd hx hsh hb
   ·cases h
  ·cases h
 case typeAssert x xt t ok =>
  cases ok with
  | true =>
   simp only [pval] at h
   split at h
   ·rename_i d t' v hd hx
    split at h
    ·rename_i fs hsh
     split at h
     ·rename_i ht; subst ht; cases h; exact yes_tat hr hop hd hx hsh
     ·cases h
    ·cases h
   ·cases h
  | false =>
   simp only [pval] at h
   split at h
   ·rename_i d t' v hd hx
    split at h
    ·rename_i k hsh
     split at h
     ·rename_i ht; subst ht; cases h; exact yes_ta hr hop hd hx hsh
     ·cases h
    ·cases h
   ·cases h
 case extract x k =>
  split at h
  ·rename_i vs hx
   cases hq : vs[k]? with
   | none => rw [hq] at h; cases h
   | some v' => rw [hq] at h; cases h; exact yes_extract hr hop hx hq
  ·cases h
 case slice t x lo hi mx =>
  cases mx with
  | none =>
   simp only [pval] at h
   split at h
   ·rename_i d hd
    split at h
    ·rename_i hfs
     split at h
     ·rename_i s hx
      split at h
      ·rename_i l h' hl hh; cases h; exact yes_slice_string hr hop hd hfs hx hl hh hs
      ·cases h
     ·cases h
    ·rename_i e hfs
     split at h
     ·rename_i sz es de hx hde
      split at h
      ·rename_i hsz
       split at h
       ·rename_i l h' hl hh; cases h; exact yes_slice hr hop hd hfs hde hx hsz hl hh hs
       ·cases h
      ·cases h
     ·cases h
    ·cases h
   ·cases h
  | some mx =>
   cases lo with
   | some lo => first | (cases h; done) | (simp only [pval] at h; cases h)
   | none =>
    cases hi with
    | none => first | (cases h; done) | (simp only [pval] at h; cases h)
    | some hi =>
     simp only [pval] at h
     split at h
     ·rename_i d hd
      split at h
      ·rename_i e hfs
       split at h
       ·rename_i de k n k' m hde hh hm
        split at h
        ·rename_i hc
         obtain ⟨rfl, rfl⟩ := hc
         split at h
         ·rename_i sz es hx; cases h; exact yes_zcap hr hop hd hfs hde hx (.inl ⟨_, _, rfl⟩) hh hm
         ·rename_i g sz es hx; cases h; exact yes_zcap hr hop hd hfs hde hx (.inr (.inl ⟨_, _, _, rfl⟩)) hh hm
         ·rename_i hx; cases h; exact yes_zcap hr hop hd hfs hde hx (.inr (.inr rfl)) hh hm
         ·cases h
        ·cases h
       ·cases h
      ·cases h
     ·cases h
 case call c =>
  obtain ⟨callee, args, ts⟩ := c
  cases callee <;> first | (cases h; done) | skip
  rename_i b
  cases b <;> first | (cases h; done) | skip
  case max => exact yes_mx (mx := true) hr hop h
  case min => exact yes_mx (mx := false) hr hop h
  replace h : lenVal P st args ts = some (v, side) := h
  unfold lenVal at h
  split at h
  ·rename_i t ht
   split at h
   ·rename_i d x hd hx
    split at h
    ·rename_i e hsh
     cases hq : lenV (st.eval x) with
     | none => rw [hq] at h; cases h
     | some n => rw [hq] at h; cases h; exact (yes_len hr hop ht hx hd).1 e n hsh hq
    ·rename_i hsh
     split at h
     ·rename_i s hx'; cases h; exact (yes_len hr hop ht hx hd).2 s hsh hx'
     ·cases h
    ·cases h
   ·cases h
  ·cases h
end Go.Am
