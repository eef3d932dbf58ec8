/- A function that defers a call which may recover. -/
import Derived.Test.YtopgndakadileaaGreatDoorSAmPanic
import Derived.RecoverIn
set_option linter.unusedVariables false
set_option linter.unusedSimpArgs false
namespace Go.Am
variable {P : Program}
/-- What holds of a call's tmps stays so along operations that do not write them. -/
def framed (Q : Exit → Act → World → Prop) (F : Act → Prop) : Exit → Act → World → Prop := fun x a w => Q x a w ∧ (x = .normal ∨ (∃ c, x = .panic c) → F a)
theorem upon_frame {F : Act → Prop} {o : Oper} {a : Act} {next : Act → World → Prop} {Q : Exit → Act → World → Prop} (hF : ∀ (a : Act) v, F a → F (a.put o.dst v)) (hD : ∀ (a : Act) d, F a → F { a with defers := d :: a.defers }) (ha : F a) {r : Result Next} (h : o.upon P a next Q r) :
    o.upon P a (fun a' w' => next a' w' ∧ F a') (framed Q F) r := by
  cases r with
  | ok n w' =>
    cases n <;> simp only [Oper.upon] at h ⊢ <;> first
      | exact ⟨h, hF a _ ha⟩
      | exact ⟨h, hF _ _ (hD a _ ha)⟩
      | exact h.elim
      | skip
    · refine Calls.mono h fun e w'' he => ?_
      cases e with
      | returned v => exact ⟨he, hF a _ ha⟩
      | panicked c => exact ⟨he, fun _ => ha⟩
      | outgrown => obtain ⟨a0, w0, hq⟩ := he; exact ⟨a0, w0, hq, fun h => by rcases h with h | ⟨c, hc⟩; cases h; cases hc⟩
    · exact Rows.mono h fun v w'' he => ⟨he, hF a _ ha⟩
  | halt x w' => cases x <;> simp only [Oper.upon] at h ⊢ <;> first | exact ⟨h, fun _ => ha⟩ | exact h
theorem wpOp_frame {F : Act → Prop} {ops : Array Oper} {Q : Exit → Act → World → Prop} (hF : ∀ (i : Nat) (o : Oper), ops[i]? = some o → ∀ (a : Act) v, F a → F (a.put o.dst v)) (hD : ∀ (a : Act) d, F a → F { a with defers := d :: a.defers }) {i : Nat} {K : Act → World → Prop} {a : Act} {w : World} (ha : F a) (h : wpOp P ops Q i K a w) :
    wpOp P ops (framed Q F) i (fun a' w' => K a' w' ∧ F a') a w := by
  unfold wpOp at h ⊢
  cases ho : ops[i]? with
  | none => rw [ho] at h; exact ⟨h, ha⟩
  | some o =>
    rw [ho] at h
    simp only at h ⊢
    split at h
    · rename_i hw
      rw [if_pos hw]
      rcases h with h | ⟨h, a0, w0, hq⟩
      · exact .inl (upon_frame (hF i o ho) hD ha h)
      · exact .inr ⟨h, a0, w0, hq, fun h => by rcases h with h | ⟨c, hc⟩; cases h; cases hc⟩
    · rename_i hw
      rw [if_neg hw]
      exact ⟨h, hF i o ho a _ ha⟩
theorem wpAny_frame {F : Act → Prop} {ops : Array Oper} {Q : Exit → Act → World → Prop} {md : Region.Mode} (hF : ∀ (i : Nat) (o : Oper), ops[i]? = some o → ∀ (a : Act) v, F a → F (a.put o.dst v)) (hD : ∀ (a : Act) d, F a → F { a with defers := d :: a.defers }) : ∀ (f : Nat) (l : Array Bool) (a : Act) (w : World), F a → wpAny P md ops Q f l a w → wpAny P md ops (framed Q F) f l a w
  | 0, l, a, w, ha, h => ⟨h.1, h.2, fun _ => ha⟩
  | f + 1, l, a, w, ha, h => ⟨fun h0 => ⟨h.1 h0, fun _ => ha⟩, fun i hi => wpOp_mono (fun a' w' hk => wpAny_frame hF hD f _ a' w' hk.2 hk.1) (wpOp_frame hF hD ha (h.2 i hi))⟩
/-- A deferred call that begins with recover. -/
theorem callsD_rec {f : FuncId} {fn : Func} {rid : Nat} {o0 o1 : Oper} {rest : Code} {t7 t3 : Nat} {ts : Array TypeId} (hf : P.funcs[f]? = some fn) (hb : fn.body = some (.seq (.region rid #[o0, o1] false) rest)) (h0 : o0.op = .call { callee := .builtin .recover, args := #[], argTypes := ts }) (g0 : o0.guard = none) (d0 : o0.dst = some t7)
    (h1 : o1.op = .assign (.tmp t7)) (g1 : o1.guard = none) (d1 : o1.dst = some t3) {u u1 : FrameMode} {rv : Value} (hrec : ∀ (c₀ : Frame) cs, c₀.mode = u → recoverD (c₀ :: cs) = some (rv, { c₀ with mode := u1 } :: cs) ∨ (recoverD (c₀ :: cs) = none ∧ rv = .nilIface ∧ u1 = u))
    {args : Array Value} (h7 : t7 < (args ++ Array.replicate (fn.ntmps - args.size) undef).size) {w : World} {R : Ending → FrameMode → World → Prop}
    (hrest : rest.wp P (fun x a' w' => (x = .normal ∨ x = .ret) ∧ a'.defers = [] ∧ ∃ v, (results fn a'.tmps).run P w' = .ok v w' ∧ R (.returned v) u1 w') ((({ tmps := args ++ Array.replicate (fn.ntmps - args.size) undef, defers := [] } : Act).put (some t7) rv).put (some t3) rv) w) : CallsDIn Fence.wide 0 P f args u w R := by
  refine callsDIn_of_wpSIn hf hb trivial fun c₀ cs hu => wpSIn_seq (wpSIn_region ?_)
  have h7' : t7 < ({ tmps := args ++ Array.replicate (fn.ntmps - args.size) undef, defers := [] } : Act).tmps.size := h7
  generalize ({ tmps := args ++ Array.replicate (fn.ntmps - args.size) undef, defers := [] } : Act) = A at hrest h7' ⊢
  have key : ∀ cs', (cs' = { c₀ with mode := u1 } :: cs) → rest.wpSIn Fence.wide 0 P (bodyPostS P fn c₀ cs R) ((A.put (some t7) rv).put (some t3) rv) cs' w := fun cs' hcs => by
    refine wpSIn_of_wpIn rfl (wpIn_wide.2 (wp_mono hrest fun x a' w' ⟨hx, hd, v, hr, hR⟩ => ?_))
    rcases hx with rfl | rfl
    · exact ⟨hd, u1, hcs, v, hr, hR⟩
    · exact ⟨hd, u1, hcs, v, hr, hR⟩
  have e0 : ∀ a : Act, Region.wanted o0 (yielded #[o0, o1] a.tmps) = true := fun a => by simp [Region.wanted, g0]
  have e1 : ∀ a : Act, Region.wanted o1 (yielded #[o0, o1] a.tmps) = true := fun a => by simp [Region.wanted, g1]
  have r0 : ∀ a : Act, (execOp a.eval o0).run P w = .ok .recover w := fun a => by
    unfold execOp
    simp [h0, resolve, invoke, builtin]
  have r1 : ∀ a : Act, (execOp a.eval o1).run P w = .ok (.value (a.eval (.tmp t7))) w := fun a => by
    unfold execOp
    simp [h1]
  have ev : ∀ a : Act, t7 < a.tmps.size → (a.put (some t7) rv).eval (.tmp t7) = rv := fun a ha => by simp [Act.eval, Act.put, ha]
  rw [show List.range (#[o0, o1] : Array Oper).size = [0, 1] from rfl]
  rcases hrec c₀ cs hu with hr | ⟨hr, rfl, rfl⟩
  · rw [wpOpsSIn]
    simp only [show (#[o0, o1] : Array Oper)[0]? = some o0 from rfl]
    refine ⟨fun _ _ => trivial, ?_⟩
    rw [if_pos (e0 _), r0]
    simp only [hr]
    rw [wpOpsSIn]
    simp only [show (#[o0, o1] : Array Oper)[1]? = some o1 from rfl]
    refine ⟨fun _ _ => trivial, ?_⟩
    rw [if_pos (e1 _), r1]
    simp only [d0, d1]
    rw [ev _ h7', wpOpsSIn]
    exact key _ rfl
  · rw [wpOpsSIn]
    simp only [show (#[o0, o1] : Array Oper)[0]? = some o0 from rfl]
    refine ⟨fun _ _ => trivial, ?_⟩
    rw [if_pos (e0 _), r0]
    simp only [hr]
    rw [wpOpsSIn]
    simp only [show (#[o0, o1] : Array Oper)[1]? = some o1 from rfl]
    refine ⟨fun _ _ => trivial, ?_⟩
    rw [if_pos (e1 _), r1]
    simp only [d0, d1]
    rw [ev _ h7', wpOpsSIn]
    exact key _ (by rw [← hu])
/-- The entry of a call. -/
theorem In.entry {fn : Func} {G : Ghost} {s : Heap} {w : World} {args : List V} {cargs : Array Value} (hh : HRel G s w) (hargs : RepL G args cargs.toList) (hlen : args.length ≤ fn.ntmps) (tl : List Deferred) (hds : tl = []) (PP : Value → Heap → Prop) :
    In ⟨G, s, w, tl, PP⟩ { E := entryE args, loc := fun _ => none, s := s, n := fn.ntmps, pp := PP } { tmps := cargs ++ Array.replicate (fn.ntmps - cargs.size) undef, defers := [] } w := by
  subst hds
  have hsz : cargs.size = args.length := by have := hargs.1; simp at this; omega
  refine ⟨G, fun _ => none, Ext.refl _ _ _, hh, by simp; omega, ⟨rfl, (fun d h => by cases h), List.Pairwise.nil, Ghost.none_le _, rfl⟩, fun t => ?_, (fun t cs ty ht => (by cases ht)), fun t t' b h1 => absurd rfl h1⟩
  simp only [entryE]
  by_cases ht : t < args.length
  · have e1 : args.getD t (.base undef) = args[t] := by simp [List.getD_eq_getElem?_getD, ht]
    have e2 : (cargs ++ Array.replicate (fn.ntmps - cargs.size) undef).getD t undef = cargs[t]'(by omega) := by
      rw [Array.getD_eq_getD_getElem?, Array.getElem?_append_left (by omega), Array.getElem?_eq_getElem (by omega)]; rfl
    rw [e1, e2]
    exact LRep.of_rep (hargs.2 t _ _ (List.getElem?_eq_getElem ht) (by simp [show t < cargs.size by omega]))
  · have e1 : args.getD t (.base undef) = .base undef := by simp [List.getD_eq_getElem?_getD, List.getElem?_eq_none (Nat.le_of_not_lt ht)]
    have e2 : (cargs ++ Array.replicate (fn.ntmps - cargs.size) undef).getD t undef = undef := by
      rw [Array.getD_eq_getD_getElem?, Array.getElem?_append_right (by omega)]
      by_cases h2 : t - cargs.size < fn.ntmps - cargs.size
      · simp [Array.getElem?_replicate, h2]
      · simp [Array.getElem?_replicate, h2]
    rw [e1, e2]
    exact Rep.base _
theorem In.putB {e : Entry} {st : St} {a : Act} {w : World} (h : In e st a w) {t : Nat} (ht : t < st.n) (v : Value) : In e (st.put (some t) (.base v)) (a.put (some t) v) w := by
  obtain ⟨G, be, hx, hr⟩ := h
  exact ⟨G, be, hx, hr.put (some t) (fun t' h => by cases h; exact ht) (LRep.of_rep (Rep.base v))⟩
def ptrV (b : Nat) : Value := .pointer (some ⟨b, 0, none⟩)
/-- A deferred call that recovers, in abstract values: how the heap turns. -/
theorem callsD_am {f : FuncId} {fn : Func} {rid : Nat} {o0 o1 : Oper} {rest : Code} {t7 t3 : Nat} {ts : Array TypeId} (hf : P.funcs[f]? = some fn) (hb : fn.body = some (.seq (.region rid #[o0, o1] false) rest)) (h0 : o0.op = .call { callee := .builtin .recover, args := #[], argTypes := ts }) (g0 : o0.guard = none) (d0 : o0.dst = some t7)
    (h1 : o1.op = .assign (.tmp t7)) (g1 : o1.guard = none) (d1 : o1.dst = some t3) (hres : fn.results = #[]) {u u1 : FrameMode} {rv : Value} (hrec : ∀ (c₀ : Frame) cs, c₀.mode = u → recoverD (c₀ :: cs) = some (rv, { c₀ with mode := u1 } :: cs) ∨ (recoverD (c₀ :: cs) = none ∧ rv = .nilIface ∧ u1 = u))
    {G : Ghost} {s : Heap} {w : World} {args : List V} {cargs : Array Value} (hh : HRel G s w) (hargs : RepL G args cargs.toList) (hlen : args.length ≤ fn.ntmps) (h7 : t7 < fn.ntmps) (h3 : t3 < fn.ntmps) {s' : Heap}
    (hrest : AWp P rest (fun x st => (x = .normal ∨ x = .ret) ∧ st.ds = [] ∧ st.s.le s') ((({ E := entryE args, loc := fun _ => none, s := s, n := fn.ntmps } : St).put (some t7) (.base rv)).put (some t3) (.base rv))) :
    CallsDIn Fence.wide 0 P f cargs u w fun en u' w' => (∃ v, en = .returned v) ∧ u' = u1 ∧ ∃ G', Ext G s w G' s' w' ∧ HRel G' s' w' := by
  have hsz : cargs.size = args.length := by have := hargs.1; simp at this; omega
  refine callsD_rec hf hb h0 g0 d0 h1 g1 d1 hrec (by simp; omega) ?_
  have hin := ((In.entry (fn := fn) hh hargs hlen [] rfl noPan).putB (t := t7) h7 rv).putB (t := t3) h3 rv
  refine wp_mono (hrest _ _ _ hin) fun x a' w' h => ?_
  rcases h with ⟨st, ⟨hx, hds, hle⟩, G', be, hX, hR⟩ | ⟨v, G', s', h1, h2, h3, h4, h5⟩
  · refine ⟨hx, by rw [show a'.defers = st.ds ++ [] from hR.df.eq, hds]; rfl, .tuple #[], ?_, ⟨_, rfl⟩, rfl, G', hX.weaken hle, hR.hr.weaken hle⟩
    simp [results, hres]
  · exact h5.elim
/-! ### A function that defers such a call -/
def GWp (P : Program) (c : Code) (Post : Entry → Exit → Act → World → Prop) (st : St) : Prop := ∀ (e : Entry) (a : Act) (w : World), e.tl = [] → In e st a w → c.wp P (Post e) a w
theorem GWp.weaken {c : Code} {Post : Entry → Exit → Act → World → Prop} {st st' : St} (hle : st.le st') (h : GWp P c Post st') : GWp P c Post st := fun e a w ht hin => h e a w ht (hin.weaken hle)
theorem GWp.publish {c : Code} {Post : Entry → Exit → Act → World → Prop} {st : St} {t0 : Nat} {x : List V × TypeId} (hl : st.loc t0 = some x) (h : ∀ b, st.s.box b = none → GWp P c Post (st.publish t0 b x)) : GWp P c Post st := fun e a w ht hin => by
  obtain ⟨b, hb, hin'⟩ := hin.publish hl
  exact h b hb e a w ht hin'
theorem GWp.seqA {x y : Code} {Post : Entry → Exit → Act → World → Prop} {st : St} (K : St → Prop) (hpp : st.pp = noPan) (hx : AWp P x (fun ex st' => ex = .normal ∧ K st') st) (hy : ∀ st', K st' → GWp P y Post st') : GWp P (.seq x y) Post st := fun e a w ht hin => by
  have hp : e.pp = noPan := by obtain ⟨G, be, hX, hr⟩ := hin; rw [← hpp]; exact (show st.pp = e.pp from hr.df.pp).symm
  refine wp_seq (wp_mono (hx e a w hin) fun ex a' w' h => ?_)
  rcases h with ⟨st', ⟨rfl, hK⟩, hin'⟩ | ⟨v, G', s', h1, h2, h3, h4, h5⟩
  · exact hy st' hK e a' w' ht hin'
  · rw [hp] at h5; exact h5.elim
theorem gcalls_of {f : FuncId} {fn : Func} {c : Code} {args : List V} {s : Heap} {R : V → Heap → Prop} (hf : P.funcs[f]? = some fn) (hb : fn.body = some c) (hn : (fn.name == "runtime.NumGoroutine") = false) (hlen : args.length ≤ fn.ntmps)
    (h : GWp P c (fun e => bodyPostM Fence.wide 0 P fn fun en w' => ∃ G' s' v cv, en = .returned cv ∧ Rep G' v cv ∧ Ext e.G e.s e.w G' s' w' ∧ HRel G' s' w' ∧ R v s') { E := entryE args, loc := fun _ => none, s := s, n := fn.ntmps }) : ACalls P f args s R := by
  refine ⟨⟨fn, hf, by simp [hb], hn⟩, fun G w cargs hh hargs => ?_⟩
  exact (callsIn_wide (n := 0)).1 (callsIn_of_wp_marks hf hb trivial (wpIn_wide.2 (h ⟨G, s, w, [], noPan⟩ _ w rfl (In.entry hh hargs hlen [] rfl noPan))))
theorem box_heap {o : Oper} {t : TypeId} {x : Operand} {d : Nat} (ho : o.op = .box t x) (hd : o.dst = some d) {st : St} (hc : (st.eval x).cells.all V.isCell = true) (hdn : d < st.n) (hl : st.loc d = none) (e : Entry) (a : Act) (w : World) (Q : Exit → Act → World → Prop) (hin : In e st a w) :
    o.wp P a w (Then e fun st' => ∃ b, st.s.box b = none ∧ st' = (({ st with loc := upd st.loc d (some ((st.eval x).cells, t)) } : St).put (some d) (.loc d 0)).publish d b ((st.eval x).cells, t)) Q := by
  have h : mkBox o t (st.eval x).cells st fun st1 => st1 = ({ st with loc := upd st.loc d (some ((st.eval x).cells, t)) } : St).put (some d) (.loc d 0) := by
    unfold mkBox
    rw [hd]
    exact ⟨hdn, hl, rfl⟩
  obtain ⟨G, be, hx, hr⟩ := hin
  obtain ⟨h1, h2⟩ := cells_rep (hr.eval x) hc
  refine Oper.wp_mono (K := Then e fun st1 => st1 = ({ st with loc := upd st.loc d (some ((st.eval x).cells, t)) } : St).put (some d) (.loc d 0)) ?_ (mkBox_sound h hx hr h1 h2 ?_)
  · rintro a1 w1 ⟨st1, rfl, hin1⟩
    obtain ⟨b, hb, hin2⟩ := hin1.publish (t0 := d) (x := ((st.eval x).cells, t)) (by simp [St.put, upd])
    exact ⟨_, ⟨b, hb, rfl⟩, hin2⟩
  · unfold execOp
    simp [ho, Instr.box, newVar, newRow]
theorem AWp.regX1 {Q : Exit → St → Prop} {st : St} {id : Nat} {ops : Array Oper} (j : Nat) {d : Option Tmp} {op : Op} {ty : TypeId} {ps : String} {af : Array Edge} {gd : Option (Nat × Bool)} (hj : ops[j]? = some { dst := d, op := op, type := ty, pos := ps, after := af, guard := gd }) (hnd : noDefer ops = true)
    (h : ∀ K : St → Prop, (∀ st, Q .normal st → K st) → aops P ops (ops.toList.take j) st (atX P ops j { dst := d, op := op, type := ty, pos := ps, after := af, guard := gd } K)) : AWp P (.region id ops false) Q st := by
  generalize ({ dst := d, op := op, type := ty, pos := ps, after := af, guard := gd } : Oper) = o at hj h
  refine fun e a w hin => (wpIn_wide (n := 0)).1 (wpIn_region ?_)
  have hlt : j < ops.size := (Array.getElem?_eq_some_iff.1 hj).1
  have hsplit : List.range ops.size = List.range' 0 j ++ (j :: (List.range' (j + 1) (ops.size - (j + 1)) ++ [])) := by
    have h0 := @List.range'_append_1 0 j (ops.size - (j + 1) + 1)
    rw [Nat.zero_add, show j + (ops.size - (j + 1) + 1) = ops.size by omega] at h0
    rw [List.append_nil, List.range_eq_range', ← List.range'_succ, h0]
  rw [hsplit]
  refine aopsIn (.inl rfl) hnd (e := e) (K := atX P ops j o _) pan_pq (fun a1 w1 hth => ?_) j 0 (by omega) st a w (by simpa using h _ fun _ h => h) hin
  obtain ⟨st1, ⟨hg, K1, hop, hrest⟩, hin1⟩ := hth
  obtain ⟨g1, g2, g3⟩ := gdOf_wanted (all := ops) (o := o) hin1
  have hw : Region.wanted o (yielded ops a1.tmps) = true := by
    split at hg
    · rename_i hgd; exact g1 hgd
    · rename_i c b hgd; rw [g3 c b hgd]; simpa using hg
    · exact hg.elim
  refine wpOpsIn_cons hj ?_
  refine stepIn_mono (next := Then e K1) (by unfold stepIn; rw [if_pos hw]; exact wp_in (.inl rfl) (hop e a1 w1 _ hin1) (noDefer_at hnd hj)) ?_
  rintro a2 w2 ⟨st2, hK1, hin2⟩
  refine aopsIn (.inl rfl) hnd (e := e) (K := Q .normal) (rest := []) pan_pq (fun a3 w3 h3 => ?_) (ops.size - (j + 1)) (j + 1) (by omega) _ a2 w2 ?_ hin2
  · simp only [wpOpsIn]
    obtain ⟨st3, h3, h4⟩ := h3
    exact .inl ⟨st3, h3, h4⟩
  · have := hrest st2 hK1
    rwa [List.take_of_length_le (by simp)]
theorem ptrs_rep {G : Ghost} : ∀ {bs : List Nat} {vs : List Value}, RepL G (bs.map fun b => V.ptr b 0) vs → vs = bs.map ptrV
  | [], vs, h => h.nil_inv
  | b :: bs, vs, h => by
    obtain ⟨v, vs', rfl, hv, h'⟩ := RepL.uncons (c := V.ptr b 0) (cs := bs.map fun b => V.ptr b 0) h
    cases hv
    rw [ptrs_rep h']; rfl
theorem GWp.defer {rid : Nat} {o0 o1 : Oper} {y : Code} {Post : Entry → Exit → Act → World → Prop} {st : St} {t20 : Nat} {fD : FuncId} {cap : Array Operand} {ats : Array TypeId} {bs : List Nat} (PP : Value → Heap → Prop) (h0 : o0.op = .makeFunc (.func fD) #[] cap) (g0 : o0.guard = none) (d0 : o0.dst = some t20) (h1 : o1.op = .defer { callee := .value (.tmp t20), args := #[], argTypes := ats }) (g1 : o1.guard = none) (d1 : o1.dst = none)
    (hE : cap.toList.map st.eval = bs.map fun b => V.ptr b 0) (hds : st.ds = []) (h20 : t20 < st.n) (hpp : st.pp = noPan)
    (hy : ∀ (e : Entry) (a : Act) (w : World), e.tl = [] → e.pp = noPan → In { e with tl := [{ target := .fn (.func fD) (bs.map ptrV).toArray, args := #[] }], pp := PP } { st.put (some t20) (.func fD [] (bs.map fun b => V.ptr b 0)) with pp := PP } a w → y.wp P (Post e) a w) : GWp P (.seq (.region rid #[o0, o1] false) y) Post st := fun e a w ht hin => by
  have hp : e.pp = noPan := by obtain ⟨G, be, hX, hr⟩ := hin; rw [← hpp]; exact (show st.pp = e.pp from hr.df.pp).symm
  refine wp_seq (wp_region ?_)
  rw [show List.range (#[o0, o1] : Array Oper).size = [0, 1] from rfl, wpOps_cons]
  have hn : noLocs (cap.toList.map st.eval) = some (bs.map fun b => V.ptr b 0) := by
    rw [hE]
    clear hE hy
    induction bs with
    | nil => rfl
    | cons b bs ih => simp only [List.map_cons, noLocs, noLoc, ih]
  have ha : gstep P #[o0, o1] o0 st fun st' => st' = st.put (some t20) (.func fD [] (bs.map fun b => V.ptr b 0)) := by
    unfold gstep gdOf
    rw [g0]
    simp only
    unfold aop
    rw [h0]
    simp only
    unfold aPure
    rw [h0]
    simp only [pval, hn]
    refine ⟨trivial, by unfold dstOk; rw [d0]; exact h20, by rw [d0]⟩
  refine wpOp_mono ?_ (gstep_sound (i := 0) (by rfl) (PQ.no hp) ha hin)
  rintro a1 w1 ⟨_, rfl, hin1⟩
  rw [wpOps_cons]
  unfold wpOp
  simp only [show (#[o0, o1] : Array Oper)[1]? = some o1 from rfl]
  rw [if_pos (by simp [Region.wanted, g1])]
  refine .inl ?_
  obtain ⟨G, be, hX, hr⟩ := hin1
  have hf := hr.tmps t20
  simp only [St.put, upd_same] at hf
  have hv : a1.eval (.tmp t20) = .func (.func fD) #[] (bs.map ptrV).toArray := by
    show a1.tmps.getD t20 undef = _
    generalize a1.tmps.getD t20 undef = q at hf
    cases (show Rep G (.func fD [] (bs.map fun b => V.ptr b 0)) q from hf) with
    | func _ _ _ cf cc l1 l2 r1 r2 =>
      have e1 : cf = #[] := Array.eq_empty_of_size_eq_zero (by simpa using l1.symm)
      have e2 := ptrs_rep (repL_of_arr l2 r2)
      rw [e1, show cc = (bs.map ptrV).toArray by rw [← e2]]
  have hrun : (execOp a1.eval o1).run P w1 = .ok (.defer { target := .fn (.func fD) (bs.map ptrV).toArray, args := #[] }) w1 := by
    unfold execOp
    simp [h1, resolve, hv, Deferred.ofValue]
  unfold Oper.wp
  rw [hrun]
  rw [Oper.upon_defer]
  simp only [wpOps]
  rw [d1]
  show y.wp P (Post e) { a1 with defers := { target := .fn (.func fD) (bs.map ptrV).toArray, args := #[] } :: a1.defers } w1
  have hdef : a1.defers = [] := by rw [show a1.defers = (st.put (some t20) (.func fD [] (bs.map fun b => V.ptr b 0))).ds ++ e.tl from hr.df.eq, ht]; simp [St.put, hds]
  refine hy e _ w1 ht hp ⟨G, be, hX, hr.hr, hr.n, ⟨?_, ?_, ?_, hr.df.lo, rfl⟩, hr.tmps, hr.loc, hr.inj⟩
  · show _ :: a1.defers = _; rw [hdef]; simp [St.put, hds]
  · intro d hd; simp [St.put, hds] at hd
  · simp [St.put, hds]
theorem cell_res {G : Ghost} {s : Heap} {w : World} {tmps : Array Value} {x b : Nat} {t : TypeId} {d : TyD} {cs : List V} {ty : TypeId} {v : V} (hh : HRel G s w) (hx : tmps.getD x undef = ptrV b) (hb : s.box b = some (cs, ty)) (hd : tyOf P t = some d) (hr : rd d cs 0 = some v) : ∃ cv, (resOne tmps (.cell x t)).run P w = .ok cv w ∧ Rep G v cv := by
  obtain ⟨ccs, k3, k4, k5, k6⟩ := hh.box b cs ty hb
  obtain ⟨cv, hrun, hrep⟩ := rd_run (P := P) (w := w) (b := b) (o := 0) k4 (fun j v hv => by rw [Nat.zero_add, cell_of_row w b j ccs ty _ k3]; simpa using hv) hd hr
  rw [Nat.zero_add] at hrun
  simp only [Instr.loadAt, Instr.sureAddr, Sem.run_bind, Sem.run_pure, Result.andThen_ok] at hrun
  refine ⟨cv, ?_, hrep⟩
  have ha : asAddr (tmps.getD x undef) = pure ⟨b, 0, none⟩ := by rw [hx]; rfl
  simp only [resOne, Sem.run_bind, ha, Sem.run_pure, Result.andThen_ok, hrun]
theorem results3 {fn : Func} {tmps : Array Value} {w : World} {r1 r2 r3 : ResultVar} {c1 c2 c3 : Value} (hf : fn.results = #[r1, r2, r3]) (h1 : (resOne tmps r1).run P w = .ok c1 w) (h2 : (resOne tmps r2).run P w = .ok c2 w) (h3 : (resOne tmps r3).run P w = .ok c3 w) : (results fn tmps).run P w = .ok (.tuple #[c1, c2, c3]) w := by
  have hres : results fn tmps = (do let vs ← fn.results.mapM (resOne tmps); pure (if h : vs.size = 1 then vs[0] else .tuple vs)) := by
    unfold results
    congr 1
  rw [hres, Sem.run_bind, Array.mapM_eq_mapM_toList, Sem.run_map, hf]
  simp only [List.mapM_cons, List.mapM_nil, Sem.run_bind, h1, h2, h3, Result.andThen_ok, Sem.run_pure]
  rfl
theorem ptr_tmp {n0 : Base} {G : Ghost} {be : Nat → Option Nat} {st : St} {a : Act} {w : World} (h : ARel n0 G be st a w) {t b : Nat} (hE : st.E t = .ptr b 0) : a.tmps.getD t undef = ptrV b := by
  have := h.tmps t
  rw [hE] at this
  generalize a.tmps.getD t undef = q at this
  cases (show Rep G (.ptr b 0) q from this); rfl
theorem put_tmp {a : Act} {d : Option Tmp} {v : Value} {t : Nat} (h : d ≠ some t) : (a.put d v).tmps.getD t undef = a.tmps.getD t undef := by
  cases d with
  | none => rfl
  | some d =>
    have : d ≠ t := fun e => h (by rw [e])
    simp [Act.put, Array.getD_eq_getD_getElem?, Array.getElem?_setIfInBounds_ne this]
/-- All orders, as a tree. -/
theorem anyTW {e : Entry} {all : Array Oper} {Q : Exit → Act → World → Prop} {K : St → Prop} (hPQ : PQ e Q) (hQ : ∀ a w, Then e K a w → Q .normal a w) : ∀ (fuel : Nat) (t : OT) (listed : Array Bool) (st : St) (a : Act) (w : World),
    Region.ready .any all listed = t.heads → t.kids all fuel listed = true → aopsO P all t st K → In e st a w → wpAny P .any all Q fuel listed a w
  | 0, t, listed, st, a, w, hr, hk, h, hin => by
    have hn : t.heads = [] := by
      cases hq : t.heads with
      | nil => rfl
      | cons i r =>
        obtain ⟨f', _, _, hf, _⟩ := OT.head (i := i) t (by rw [hq]; simp) hk h
        cases hf
    exact ⟨hr.trans hn, hQ a w ⟨st, OT.nohead t hn h, hin⟩⟩
  | fuel + 1, t, listed, st, a, w, hr, hk, h, hin => by
    refine ⟨fun h0 => hQ a w ⟨st, OT.nohead t (hr.symm.trans h0) h, hin⟩, fun i hi => ?_⟩
    rw [hr] at hi
    obtain ⟨f', t', o, hf, ho, k1, k2, k3⟩ := OT.head (i := i) t hi hk h
    cases hf
    refine wpOp_mono ?_ (gstep_sound (i := i) ho hPQ k3 hin)
    rintro a' w' ⟨st', h', hin'⟩
    exact anyTW hPQ hQ fuel t' _ st' a' w' k1 k2 h' hin'
theorem wp_region_framedT {id : Nat} {ops : Array Oper} {Q : Exit → St → Prop} {st : St} {e : Entry} {a : Act} {w : World} (ts : List (Nat × Value)) (tl : List Nat) (htl : ts.map Prod.fst = tl) (hm : P.follows .mixedOrders = true) (t : OT) (hok : t.ok ops = true)
    (hdst : (ops.toList.all fun o => tl.all fun t => o.dst != some t) = true) (hts : ∀ t ∈ ts, a.tmps.getD t.1 undef = t.2) (hin : In e st a w) (h1 : ∀ K : St → Prop, (∀ st, Q .normal st → K st) → aopsO P ops t st K) :
    (Code.region id ops true).wp P (framed (fun x a' w' => Then e (Q x) a' w' ∨ Pan e x a' w') fun a' => ∀ t ∈ ts, a'.tmps.getD t.1 undef = t.2) a w := by
  unfold OT.ok at hok
  simp only [Bool.and_eq_true, beq_iff_eq] at hok
  refine wp_region_any hm (wpAny_frame ?_ (fun a d h => h) _ _ _ _ hts (anyTW (K := Q .normal) pan_pq (fun a w h => .inl h) ops.size t _ st a _ hok.1 hok.2 (h1 _ fun _ h => h) ?_))
  · intro i o ho a v h t ht
    have h3 := List.all_eq_true.1 (List.all_eq_true.1 hdst o (List.mem_of_getElem? (by simpa using ho))) t.1 (htl ▸ List.mem_map_of_mem ht)
    rw [put_tmp (by simpa using h3)]
    exact h t ht
  · obtain ⟨G, be, hx, hr⟩ := hin
    exact ⟨G, be, hx.trans (Ext.more (More.drew w)), hr.more (More.drew w)⟩
end Go.Am
