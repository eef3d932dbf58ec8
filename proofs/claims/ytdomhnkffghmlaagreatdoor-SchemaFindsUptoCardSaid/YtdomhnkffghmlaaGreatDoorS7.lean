/- A function that defers a call which may recover. -/
import Derived.Test.YtdomhnkffghmlaaGreatDoorSAmSeq
import Derived.Test.YtdomhnkffghmlaaGreatDoorSAmSpec
import Derived.Test.YtdomhnkffghmlaaGreatDoorSAmEdge
import Derived.RecoverIn
import Derived.Test.YtdomhnkffghmlaaGreatDoorS22
import Derived.LoopNIn
set_option linter.unusedVariables false
set_option linter.unusedSimpArgs false
namespace Go.Am
variable {P : Program}
/-- A deferred call that begins with recover. -/
theorem callsD_rec {f : FuncId} {fn : Func} {rid : Nat} {o0 o1 : Oper} {rest : Code} {t7 t3 : Nat} {ts : Array TypeId} (hf : P.funcs[f]? = some fn) (hb : fn.body = some (.seq (.region rid #[o0, o1] false) rest)) (h0 : o0.op = .call { callee := .builtin .recover, args := #[], argTypes := ts }) (g0 : o0.guard = none) (d0 : o0.dst = some t7)
  (h1 : o1.op = .assign (.tmp t7)) (g1 : o1.guard = none) (d1 : o1.dst = some t3) {u u1 : FrameMode} {rv : Value} (hrec : ∀ (c₀ : Frame) cs, c₀.mode = u → recoverD (c₀ :: cs) = some (rv, { c₀ with mode := u1 } :: cs) ∨ (recoverD (c₀ :: cs) = none ∧ rv = .nilIface ∧ u1 = u))
  {args : Array Value} (h7 : t7 < (args ++ Array.replicate (fn.ntmps - args.size) undef).size) {w : World} {R : Ending → FrameMode → World → Prop}
  (hrest : rest.wp P (fun x a' w' => (x = .normal ∨ x = .ret) ∧ a'.defers = [] ∧ ∃ v, (results fn a'.tmps).run P w' = .ok v w' ∧ R (.returned v) u1 w') ((({ tmps := args ++ Array.replicate (fn.ntmps - args.size) undef, defers := [] } : Act).put (some t7) rv).put (some t3) rv) w) : CallsDIn Fence.wide 0 P f args u w R := by
 refine callsDIn_of_wpSIn hf hb trivial fun c₀ cs hu => wpSIn_seq (wpSIn_region ?_)
 have h7' : t7 < ({ tmps := args ++ Array.replicate (fn.ntmps - args.size) undef, defers := [] } : Act).tmps.size := h7
 generalize ({ tmps := args ++ Array.replicate (fn.ntmps - args.size) undef, defers := [] } : Act) = A at hrest h7' ⊢
 have key : ∀ cs', (cs' = { c₀ with mode := u1 } :: cs) → rest.wpSIn Fence.wide 0 P (bodyPostS P fn c₀ cs R) ((A.put (some t7) rv).put (some t3) rv) cs' w := fun cs' hcs => by
  refine wpSIn_of_wpIn rfl (wpIn_wide.2 (wp_mono hrest fun x a' w' ⟨hx, hd, v, hr, hR⟩ => ?_))
  rcases hx with rfl | rfl
  ·exact ⟨hd, u1, hcs, v, hr, hR⟩
  ·exact ⟨hd, u1, hcs, v, hr, hR⟩
 have e0 : ∀ a : Act, Region.wanted o0 (yielded #[o0, o1] a.tmps) = true := fun a => by simp [Region.wanted, g0]
 have e1 : ∀ a : Act, Region.wanted o1 (yielded #[o0, o1] a.tmps) = true := fun a => by simp [Region.wanted, g1]
 have r0 : ∀ a : Act, (execOp a.eval o0).run P w = .ok .recover w := fun a => by
  unfold execOp
  simp [h0, resolve, invoke, builtin]
 have r1 : ∀ a : Act, (execOp a.eval o1).run P w = .ok (.value (a.eval (.tmp t7))) w := fun a => by
  unfold execOp
  simp [h1]
 have ev : ∀ a : Act, t7 < a.tmps.size → (a.put (some t7) rv).eval (.tmp t7) = rv := fun a ha => by simp [Act.eval, Act.put, ha]
 rw [show List.range (#[o0, o1] : Array Oper).size = [0, 1] from rfl]
 rcases hrec c₀ cs hu with hr | ⟨hr, rfl, rfl⟩
 ·rw [wpOpsSIn]
  simp only [show (#[o0, o1] : Array Oper)[0]? = some o0 from rfl]
  refine ⟨fun _ _ => trivial, ?_⟩
  rw [if_pos (e0 _), r0]
  simp only [hr]
  rw [wpOpsSIn]
  simp only [show (#[o0, o1] : Array Oper)[1]? = some o1 from rfl]
  refine ⟨fun _ _ => trivial, ?_⟩
  rw [if_pos (e1 _), r1]
  simp only [d0, d1]
  rw [ev _ h7', wpOpsSIn]
  exact key _ rfl
 ·rw [wpOpsSIn]
  simp only [show (#[o0, o1] : Array Oper)[0]? = some o0 from rfl]
  refine ⟨fun _ _ => trivial, ?_⟩
  rw [if_pos (e0 _), r0]
  simp only [hr]
  rw [wpOpsSIn]
  simp only [show (#[o0, o1] : Array Oper)[1]? = some o1 from rfl]
  refine ⟨fun _ _ => trivial, ?_⟩
  rw [if_pos (e1 _), r1]
  simp only [d0, d1]
  rw [ev _ h7', wpOpsSIn]
  exact key _ (by rw [← hu])
/-- The entry of a call. -/
theorem In.entry {fn : Func} {G : Ghost} {s : Heap} {w : World} {args : List V} {cargs : Array Value} (hh : HRel G s w) (hargs : RepL G args cargs.toList) (hlen : args.length ≤ fn.ntmps) (tl : List Deferred) (hds : tl = []) (PP : Value → Heap → Prop) :
  In ⟨G, s, w, tl, PP⟩ { E := entryE args, loc := fun _ => none, s := s, n := fn.ntmps, pp := PP } { tmps := cargs ++ Array.replicate (fn.ntmps - cargs.size) undef, defers := [] } w := by
 subst hds
 have hsz : cargs.size = args.length := by have := hargs.1; simp at this; omega
 refine ⟨G, fun _ => none, Ext.refl _ _ _, hh, by simp; omega, ⟨rfl, (fun d h => by cases h), List.Pairwise.nil, Ghost.none_le _, rfl⟩, fun t => ?_, (fun t cs ty ht => (by cases ht)), fun t t' b h1 => absurd rfl h1⟩
 simp only [entryE]
 by_cases ht : t < args.length
 ·have e1 : args.getD t (.base undef) = args[t] := by simp [List.getD_eq_getElem?_getD, ht]
  have e2 : (cargs ++ Array.replicate (fn.ntmps - cargs.size) undef).getD t undef = cargs[t]'(by omega) := by
   rw [Array.getD_eq_getD_getElem?, Array.getElem?_append_left (by omega), Array.getElem?_eq_getElem (by omega)]; rfl
  rw [e1, e2]
  exact LRep.of_rep (hargs.2 t _ _ (List.getElem?_eq_getElem ht) (by simp [show t < cargs.size by omega]))
 ·have e1 : args.getD t (.base undef) = .base undef := by simp [List.getD_eq_getElem?_getD, List.getElem?_eq_none (Nat.le_of_not_lt ht)]
  have e2 : (cargs ++ Array.replicate (fn.ntmps - cargs.size) undef).getD t undef = undef := by
   rw [Array.getD_eq_getD_getElem?, Array.getElem?_append_right (by omega)]
   by_cases h2 : t - cargs.size < fn.ntmps - cargs.size
   ·simp [Array.getElem?_replicate, h2]
   ·simp [Array.getElem?_replicate, h2]
  rw [e1, e2]
  exact Rep.base _
def ptrV (b : Nat) : Value := .pointer (some ⟨b, 0, none⟩)
/-! ### A function that defers such a call -/
def GWp (P : Program) (c : Code) (Post : Entry → Exit → Act → World → Prop) (st : St) : Prop := ∀ (e : Entry) (a : Act) (w : World), e.tl = [] → In e st a w → c.wp P (Post e) a w
theorem GWp.weaken {c : Code} {Post : Entry → Exit → Act → World → Prop} {st st' : St} (hle : st.le st') (h : GWp P c Post st') : GWp P c Post st := fun e a w ht hin => h e a w ht (hin.weaken hle)
theorem GWp.publish {c : Code} {Post : Entry → Exit → Act → World → Prop} {st : St} {t0 : Nat} {x : List V × TypeId} (hl : st.loc t0 = some x) (h : ∀ b, st.s.box b = none → GWp P c Post (st.publish t0 b x)) : GWp P c Post st := fun e a w ht hin => by
 obtain ⟨b, hb, hin'⟩ := hin.publish hl
 exact h b hb e a w ht hin'
theorem ptrs_rep {G : Ghost} : ∀ {bs : List Nat} {vs : List Value}, RepL G (bs.map fun b => V.ptr b 0) vs → vs = bs.map ptrV
 | [], vs, h => h.nil_inv
 | b :: bs, vs, h => by
  obtain ⟨v, vs', rfl, hv, h'⟩ := RepL.uncons (c := V.ptr b 0) (cs := bs.map fun b => V.ptr b 0) h
  cases hv
  rw [ptrs_rep h']; rfl
theorem GWp.defer {rid : Nat} {o0 o1 : Oper} {y : Code} {Post : Entry → Exit → Act → World → Prop} {st : St} {t20 : Nat} {fD : FuncId} {cap : Array Operand} {ats : Array TypeId} {bs : List Nat} (PP : Value → Heap → Prop) (h0 : o0.op = .makeFunc (.func fD) #[] cap) (g0 : o0.guard = none) (d0 : o0.dst = some t20) (h1 : o1.op = .defer { callee := .value (.tmp t20), args := #[], argTypes := ats }) (g1 : o1.guard = none) (d1 : o1.dst = none)
  (hE : cap.toList.map st.eval = bs.map fun b => V.ptr b 0) (hds : st.ds = []) (h20 : t20 < st.n) (hpp : st.pp = noPan)
  (hy : ∀ (e : Entry) (a : Act) (w : World), e.tl = [] → e.pp = noPan → In { e with tl := [{ target := .fn (.func fD) (bs.map ptrV).toArray, args := #[] }], pp := PP } { st.put (some t20) (.func fD [] (bs.map fun b => V.ptr b 0)) with pp := PP } a w → y.wp P (Post e) a w) : GWp P (.seq (.region rid #[o0, o1] false) y) Post st := fun e a w ht hin => by
 have hp : e.pp = noPan := by obtain ⟨G, be, hX, hr⟩ := hin; rw [← hpp]; exact (show st.pp = e.pp from hr.df.pp).symm
 refine wp_seq (wp_region ?_)
 rw [show List.range (#[o0, o1] : Array Oper).size = [0, 1] from rfl, wpOps_cons]
 have hn : noLocs (cap.toList.map st.eval) = some (bs.map fun b => V.ptr b 0) := by
  rw [hE]
  clear hE hy
  induction bs with
  | nil => rfl
  | cons b bs ih => simp only [List.map_cons, noLocs, noLoc, ih]
 have ha : gstep P #[o0, o1] o0 st fun st' => st' = st.put (some t20) (.func fD [] (bs.map fun b => V.ptr b 0)) := by
  unfold gstep gdOf
  rw [g0]
  simp only
  unfold aop
  rw [h0]
  simp only
  unfold aPure
  rw [h0]
  simp only [pval, hn]
  refine ⟨trivial, by unfold dstOk; rw [d0]; exact h20, by rw [d0]⟩
 refine wpOp_mono ?_ (gstep_sound (i := 0) (by rfl) (PQ.no hp) ha hin)
 rintro a1 w1 ⟨_, rfl, hin1⟩
 rw [wpOps_cons]
 unfold wpOp
 simp only [show (#[o0, o1] : Array Oper)[1]? = some o1 from rfl]
 rw [if_pos (by simp [Region.wanted, g1])]
 refine .inl ?_
 obtain ⟨G, be, hX, hr⟩ := hin1
 have hf := hr.tmps t20
 simp only [St.put, upd_same] at hf
 have hv : a1.eval (.tmp t20) = .func (.func fD) #[] (bs.map ptrV).toArray := by
  show a1.tmps.getD t20 undef = _
  generalize a1.tmps.getD t20 undef = q at hf
  cases (show Rep G (.func fD [] (bs.map fun b => V.ptr b 0)) q from hf) with
  | func _ _ _ cf cc l1 l2 r1 r2 =>
   have e1 : cf = #[] := Array.eq_empty_of_size_eq_zero (by simpa using l1.symm)
   have e2 := ptrs_rep (repL_of_arr l2 r2)
   rw [e1, show cc = (bs.map ptrV).toArray by rw [← e2]]
 have hrun : (execOp a1.eval o1).run P w1 = .ok (.defer { target := .fn (.func fD) (bs.map ptrV).toArray, args := #[] }) w1 := by
  unfold execOp
  simp [h1, resolve, hv, Deferred.ofValue]
 unfold Oper.wp
 rw [hrun]
 rw [Oper.upon_defer]
 simp only [wpOps]
 rw [d1]
 show y.wp P (Post e) { a1 with defers := { target := .fn (.func fD) (bs.map ptrV).toArray, args := #[] } :: a1.defers } w1
 have hdef : a1.defers = [] := by rw [show a1.defers = (st.put (some t20) (.func fD [] (bs.map fun b => V.ptr b 0))).ds ++ e.tl from hr.df.eq, ht]; simp [St.put, hds]
 refine hy e _ w1 ht hp ⟨G, be, hX, hr.hr, hr.n, ⟨?_, ?_, ?_, hr.df.lo, rfl⟩, hr.tmps, hr.loc, hr.inj⟩
 ·show _ :: a1.defers = _; rw [hdef]; simp [St.put, hds]
 ·intro d hd; simp [St.put, hds] at hd
 ·simp [St.put, hds]
end Go.Am
namespace Go.Ev
noncomputable section
open Go.Am
variable {P : Program}
/-- A contract for calls of yield that are reckoned: all of them go on. -/
abbrev YldF := Nat → List EV → Heap → Nat → Option (Heap × Nat)
def YldOk (P : Program) (w0 : Base) (yc : YldF) : Prop := ∀ k args H kc H' kc', yc k args H kc = some (H', kc') → ∀ (r : Env) (w : World) (cargs : Array Value) (b : Nat), WRel w0 r H w → renL r args = some cargs.toList → r.b k = some b →
 YieldAt Fence.wide 0 P b cargs w fun e w' => ∃ r', e = .returned (.bool true) ∧ r.Le r' ∧ WRel w0 r' H' w'
def yldE (yc : YldF) (T : Tr EV) (H : Heap) (kc : Nat) (o : Oper) : Option (Heap × Nat) := match o.op with
 | .call { callee := .value f, args := args, argTypes := _ } => match evO T f, evL T args.toList with
  | some (.yl k), some cs => yc k cs H kc
  | _, _ => none
 | _ => none
def stepY (P : Program) (call : CallF) (yc : YldF) (n k : Nat) (all : Array Oper) (o : Oper) (s : S) : Option S := match gdE all o s.T with
 | some true => match opE P call n k o s with
  | some s' => some s'
  | none => bif dstOk n o.dst then (match yldE yc s.T s.H s.k o with
   | some (H', k') => some { s with T := putT s.T o.dst (.v (.bool true)), H := H', k := k' }
   | none => none) else none
 | some false => bif dstOk n o.dst then some (s.put o.dst (.v undef)) else none
 | none => none
def seqY (P : Program) (call : CallF) (yc : YldF) (n : Nat) (all : Array Oper) : Nat → List Oper → S → Option S
 | _, [], s => some s
 | k, o :: l, s => match stepY P call yc n k all o s with
  | some s' => seqY P call yc n all (k + 1) l s'
  | none => none
section
variable {n : Nat} {w0 : Base} {r : Env} {a : Act} {w : World} {o : Oper} {s s' : S} {call : CallF} {yc : YldF} {F : Fence}
theorem yieldAt_in (hF : Go.Am.Open F) {b : Nat} {cargs : Array Value} {w : World} {R : Ending → World → Prop} (h : YieldAt Fence.wide 0 P b cargs w R) : YieldAt F 0 P b cargs w R := by
 rcases hF with rfl | ⟨l, rfl⟩
 ·exact h
 ·exact h
theorem stepY_done (hF : Go.Am.Open F) (hcall : CallOk P w0 call) (hyc : YldOk P w0 yc) {all : Array Oper} {i k : Nat} (hi : all[i]? = some o) (hnd : ∀ c, o.op ≠ .defer c) (h : stepY P call yc n k all o s = some s') (hS : SRel w0 n r s a w) (Q : Exit → Act → World → Prop) : stepIn F P all o a w (Later w0 n r s') Q := by
 unfold stepY at h
 unfold stepIn
 split at h
 ·rename_i hg
  rw [gdE_wanted hg hS.A, if_pos rfl]
  split at h
  ·rename_i s1 h1
   cases h
   exact wp_in hF (opE_done hcall h1 hS Q) hnd
  ·cases hd : dstOk n o.dst with
   | false => rw [hd] at h; cases h
   | true =>
    rw [hd] at h
    simp only [cond_true] at h
    split at h
    ·rename_i H' k' hy
     cases h
     unfold yldE at hy
     split at hy
     ·rename_i f args ts ho
      split at hy
      ·rename_i ky cs hf hargs
       have hfv := hS.A.eval hf
       simp only [ren, Option.bind_eq_some_iff] at hfv
       obtain ⟨b, hb, hfv⟩ := hfv
       have hfv := (Option.some.inj hfv).symm
       obtain ⟨fn, tmps, assign, body, hrun, hround⟩ := yieldAt_in hF (hyc _ _ _ _ _ _ hy r w (args.map a.eval) b hS.W (by simpa using hS.A.evL hargs) hb)
       refine ⟨fun f _ => hF.fn f, ?_⟩
       have : ((o.semAt F.round a.eval).run P w) = .ok (.round b fn tmps assign body) w := by
        rw [Oper.semAt_eq _ _ _ hnd]
        unfold execOp
        simp only [ho, resolve, hfv, Deferred.ofValue, Sem.run_bind, Sem.run_pure, Result.andThen_ok, invoke, Array.empty_append]
        exact hrun
       rw [this]
       refine ⟨fun h => by rw [hF.depth] at h; simp at h, hround.mono ?_⟩
       rintro e' w' ⟨r', rfl, hle, hW⟩
       exact ⟨r', hle, (hS.A.mono hle).putT hd rfl, hW, by rw [put_defers]; exact hS.D.mono hle⟩
      ·cases hy
     ·cases hy
    ·cases h
 ·rename_i hg
  rw [gdE_wanted hg hS.A]
  cases hd : dstOk n o.dst with
  | false => rw [hd] at h; cases h
  | true =>
   rw [hd] at h
   cases h
   exact ⟨fun f _ => hF.fn f, r, Env.Le.refl r, hS.A.putT hd rfl, hS.W, by rw [put_defers]; exact hS.D⟩
 ·cases h
theorem seqY_done (hF : Go.Am.Open F) (hcall : CallOk P w0 call) (hyc : YldOk P w0 yc) {all : Array Oper} (hnd : noDefer all = true) {Q : Exit → Act → World → Prop} : ∀ (m i k : Nat), i + m = all.size → ∀ (r : Env) (s : S) (a : Act) (w : World), seqY P call yc n all k (all.toList.drop i) s = some s' → SRel w0 n r s a w → (∀ a w, Later w0 n r s' a w → Q .normal a w) → wpOpsIn F 0 P all Q (List.range' i m) a w
 | 0, i, k, hi, r, s, a, w, h, hS, hQ => by
  rw [List.drop_eq_nil_of_le (by simp; omega)] at h
  cases h
  exact hQ a w ⟨r, Env.Le.refl r, hS⟩
 | m + 1, i, k, hi, r, s, a, w, h, hS, hQ => by
  have hlt : i < all.size := by omega
  rw [List.drop_eq_getElem_cons (by simpa using hlt)] at h
  simp only [seqY] at h
  rw [List.range'_succ]
  split at h
  ·rename_i s1 h1
   have hi' : all[i]? = some all.toList[i] := by simp [hlt]
   refine Am.wpOpsIn_cons hi' (stepIn_mono (stepY_done hF hcall hyc (i := i) hi' (noDefer_at hnd hi') h1 hS Q) ?_)
   rintro a' w' ⟨r', hle, hS'⟩
   exact seqY_done hF hcall hyc hnd m (i + 1) (k + 1) (by omega) r' s1 a' w' h hS' (fun a w hl => hQ a w (hl.trans hle))
  ·cases h
theorem any_in (hF : Go.Am.Open F) {all : Array Oper} (hnd : noDefer all = true) {Q : Exit → Act → World → Prop} (hQ : ¬ LetsOut Q) : ∀ (fuel : Nat) (listed : Array Bool) (a : Act) (w : World), wpAny P .any all Q fuel listed a w → wpAnyIn F 0 P .any all Q fuel listed a w
 | 0, _, _, _, h => h
 | fuel + 1, listed, a, w, h => ⟨h.1, fun i hi => by
  have h2 := h.2 i hi
  unfold wpOp at h2
  unfold wpOpIn
  split at h2
  ·rename_i ho
   simp only [ho]
   exact any_in hF hnd hQ fuel _ _ _ h2
  ·rename_i o ho
   simp only [ho]
   split at h2
   ·rename_i hw
    rw [if_pos hw]
    rcases h2 with h2 | ⟨_, h2⟩
    ·exact wp_in hF (Oper.wp_mono (fun a w hh => any_in hF hnd hQ fuel _ a w hh) h2) (noDefer_at hnd ho)
    ·exact absurd h2 hQ
   ·rename_i hw
    rw [if_neg hw]
    exact ⟨fun f _ => hF.fn f, any_in hF hnd hQ fuel _ _ _ h2⟩⟩
end
end
end Go.Ev
