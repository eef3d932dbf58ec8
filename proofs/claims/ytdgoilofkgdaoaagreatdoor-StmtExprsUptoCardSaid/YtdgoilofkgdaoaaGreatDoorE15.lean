/- Code within the rounds of a range over a function; a range that its body may leave by a return. -/
import Derived.Test.YtdgoilofkgdaoaaGreatDoorEAmSeq
import Derived.Test.YtdgoilofkgdaoaaGreatDoorE14
set_option linter.unusedVariables false
set_option linter.unusedSimpArgs false
namespace Go.Am
variable {P : Program}
/-- Code within a fence, from an abstract state on. -/
def AWpI (F : Fence) (P : Program) (c : Code) (Q : Exit → St → Prop) (st : St) : Prop :=
 ∀ (e : Entry) (a : Act) (w : World), e.pp = noPan → In e st a w → c.wpIn F 0 P (fun x a' w' => Then e (Q x) a' w') a w
section
variable {F : Fence} {Q : Exit → St → Prop} {st : St}
theorem AWpI.mono {c : Code} {Q' : Exit → St → Prop} (h : AWpI F P c Q st) (hq : ∀ e st, Q e st → Q' e st) : AWpI F P c Q' st :=
 fun e a w hp hin => wpIn_mono (h e a w hp hin) fun x a' w' ⟨st', h1, h2⟩ => ⟨st', hq _ _ h1, h2⟩
theorem AWpI.weaken {c : Code} {st' : St} (hle : st.le st') (h : AWpI F P c Q st') : AWpI F P c Q st :=
 fun e a w hp hin => h e a w hp (hin.weaken hle)
theorem AWpI.skip (h : Q .normal st) : AWpI F P .skip Q st := fun e a w _ hin => wpIn_skip ⟨st, h, hin⟩
theorem AWpI.ret (h : Q .ret st) : AWpI F P .ret Q st := fun e a w _ hin => wpIn_ret ⟨st, h, hin⟩
theorem AWpI.seq {x y : Code} (h : AWpI F P x (thenQ (AWpI F P y Q) Q) st) : AWpI F P (.seq x y) Q st := fun e a w hp hin => by
 refine wpIn_seq (wpIn_mono (h e a w hp hin) fun ex a' w' h => ?_)
 obtain ⟨st', h1, h2⟩ := h
 cases ex <;> first | exact ⟨st', h1, h2⟩ | exact h1 e a' w' hp h2
theorem AWpI.seq_k {x y : Code} (h : ∀ K : St → Prop, (∀ st, AWpI F P y Q st → K st) → AWpI F P x (thenQ K Q) st) : AWpI F P (.seq x y) Q st := AWpI.seq (h _ fun _ h => h)
theorem AWpI.cond {c : Operand} {x y : Code} {t : Bool} (hc : st.eval c = .base (.bool t)) (h1 : t = true → AWpI F P x Q st) (h2 : t = false → AWpI F P y Q st) : AWpI F P (.cond c x y) Q st := fun e a w hp hin => by
 have hin' := hin
 obtain ⟨G, be, hx, hr⟩ := hin
 refine wpIn_cond (eval_base hr hc) ?_
 cases t with
 | true => exact h1 rfl e a w hp hin'
 | false => exact h2 rfl e a w hp hin'
theorem AWpI.block {id : Nat} {c : Code} (h : AWpI F P c (blockQ id Q) st) : AWpI F P (.block id c) Q st := fun e a w hp hin => by
 refine wpIn_block (wpIn_mono (h e a w hp hin) fun ex a' w' h => ?_)
 obtain ⟨st', h1, h2⟩ := h
 cases ex <;> first | exact ⟨st', h1, h2⟩ | skip
 rename_i id'
 simp only [Exit.inBlock]
 simp only [blockQ] at h1
 split at h1
 ·rename_i hid; rw [if_pos hid]; exact ⟨st', h1, h2⟩
 ·rename_i hid; rw [if_neg hid]; exact ⟨st', h1, h2⟩
theorem AWpI.region (hF : Open F) {id : Nat} {ops : Array Oper} (hnd : noDefer ops = true) (h : aops P ops ops.toList st (Q .normal)) : AWpI F P (.region id ops false) Q st := fun e a w hp hin => by
 refine wpIn_region ?_
 rw [show List.range ops.size = List.range' 0 ops.size ++ [] by rw [List.append_nil, List.range_eq_range']]
 refine aopsIn hF hnd (e := e) (K := Q .normal) (Q := fun x a' w' => Then e (Q x) a' w') (rest := []) (PQ.no hp) (fun a1 w1 hth => by simp only [wpOpsIn]; exact hth) ops.size 0 (by omega) st a w ?_ hin
 rw [List.drop_zero, List.take_of_length_le (by simp)]
 exact h
theorem AWpI.reg (hF : Open F) {id : Nat} {ops : Array Oper} {y : Code} (hnd : noDefer ops = true) (h : ∀ K : St → Prop, (∀ st, AWpI F P y Q st → K st) → aops P ops ops.toList st K) : AWpI F P (.seq (.region id ops false) y) Q st := AWpI.seq (AWpI.region hF hnd (h _ fun _ h => h))
theorem AWpI.reg1 (hF : Open F) {id : Nat} {ops : Array Oper} (hnd : noDefer ops = true) (h : ∀ K : St → Prop, (∀ st, Q .normal st → K st) → aops P ops ops.toList st K) : AWpI F P (.region id ops false) Q st := AWpI.region hF hnd (h _ fun _ h => h)
theorem anyLI (hF : Open F) {all : Array Oper} (hnd : noDefer all = true) {e : Entry} {Q : Exit → Act → World → Prop} {K : St → Prop} (hPQ : PQ e Q) (hQ : ∀ a w, Then e K a w → Q .normal a w) : ∀ (fuel : Nat) (listed : Array Bool) (rem : List Nat) (st : St) (a : Act) (w : World), rem.length ≤ fuel → Left all listed rem →
  (∀ (i : Nat) (o : Oper), all[i]? = some o → ∀ ed ∈ o.after, Region.binds .any ed = true → ed.on < all.size ∧ (ed.on < i ∨ listed.getD ed.on false = true)) → aopsD P all rem st K → In e st a w → wpAnyIn F 0 P .any all Q fuel listed a w
 | 0, listed, rem, st, a, w, hlen, hl, hlow, h, hin => by
  obtain rfl : rem = [] := List.eq_nil_of_length_eq_zero (by omega)
  refine ⟨?_, hQ a w ⟨st, h, hin⟩⟩
  cases hr : Region.ready .any all listed with
  | nil => rfl
  | cons i r =>
   have : i ∈ Region.ready .any all listed := by rw [hr]; simp
   obtain ⟨rem', _, hlt, _⟩ := hl.step (P := P) this
   simp at hlt
 | fuel + 1, listed, rem, st, a, w, hlen, hl, hlow, h, hin => by
  refine ⟨fun hr => ?_, fun i hi => ?_⟩
  ·obtain rfl := hl.none hlow hr
   exact hQ a w ⟨st, h, hin⟩
  ·obtain ⟨rem', hl', hlt, hb⟩ := hl.step hi
   obtain ⟨o, ho, hg⟩ := hb st K h
   have hstep := gstepIn (F := F) hF (noDefer_at hnd ho) hPQ (gstepD_gstep hg) hin
   refine wpOpIn_mono ?_ (show wpOpIn F 0 P all Q i _ a w by unfold wpOpIn; rw [ho]; exact hstep)
   rintro a' w' ⟨st', h', hin'⟩
   exact anyLI hF hnd hPQ hQ fuel _ rem' st' a' w' (by omega) hl' (fun k o hk ed hed hb => ⟨(hlow k o hk ed hed hb).1, (hlow k o hk ed hed hb).2.imp id set_true⟩) h' hin'
def drawOkI (all : Array Oper) (ord : List Nat) : Bool := (all.toList.zipIdx.all fun z => z.1.after.all fun e => !Region.binds .any e || decide (e.on < z.2)) && drawOkE all ord
theorem AWpI.regD (hF : Open F) {id : Nat} {ops : Array Oper} (hm : P.follows .mixedOrders = true) (hnd : noDefer ops = true) (ord : List Nat) (hok : drawOkI ops ord = true) (A : List Nat) (hA : allocsOf ops = A) (h : ∀ K : St → Prop, (∀ st, Q .normal st → K st) → aopsL P ops A (ord.filterMap (ops[·]?)) st K) : AWpI F P (.region id ops true) Q st := fun e a w hp hin => by
 unfold drawOkI at hok
 simp only [Bool.and_eq_true] at hok
 obtain ⟨l1, n1, hlt⟩ := Left.init hok.2
 have hin' : In e st a { w with drawn := w.drawn + 1 } := by
  obtain ⟨G, be, hx, hr⟩ := hin
  exact ⟨G, be, hx.trans (Ext.more (More.drew w)), hr.more (More.drew w)⟩
 refine wpIn_region_any hm (anyLI hF hnd (PQ.no hp) (fun a w h => h) ops.size _ ord st a _ n1 l1 (fun i o ho ed hed hb => ?_) (aopsL_D ord hlt st (Q .normal) ?_) hin')
 ·have := List.all_eq_true.1 hok.1 (o, i) (by
   rw [List.mem_zipIdx_iff_getElem?]
   simpa using ho)
  simp only [Array.all_eq_true_iff_forall_mem, Bool.or_eq_true, Bool.not_eq_true', decide_eq_true_eq] at this
  have hi := (Array.getElem?_eq_some_iff.1 ho).1
  rcases this ed hed with q | q
  ·rw [hb] at q; cases q
  ·exact ⟨by omega, .inl q⟩
 ·rw [hA]; exact h _ fun _ h => h
end
end Go.Am
namespace Go.Am
variable {P : Program}
/-- The range's record, left by a return. -/
def doneOf (fn : FuncId) (tmps : Array Value) (p : Nat) (assign body : Code) (D : Nat) : Loop := { state := .done, pending := some .ret, fn := fn, tmps := tmps, params := #[p], assign := assign, body := body, defers := D }
/-- The range has been left: its record lies so; for the rest the world goes on from there. -/
def StopX (G : Ghost) (s : Heap) (w : World) (l : Nat) (rec : Loop) (R : Heap → Prop) (w' : World) : Prop :=
 ∃ G' s', Ext (G.drop l) s (w.putObj l (.loop rec)) G' s' w' ∧ HRel G' s' w' ∧ G'.ob l = none ∧ R s'
theorem Ext.putBoth {G0 G : Ghost} {s0 s : Heap} {w0 w : World} (h : Ext G0 s0 w0 G s w) {l : Nat} (hl : l < w0.heap.size) (x : Obj) : Ext (G0.drop l) s0 (w0.putObj l x) (G.drop l) s (w.putObj l x) :=
 ⟨⟨h.le.f, h.le.o, fun k y hk => by
   by_cases e : k = l
   ·subst e; simp [Ghost.drop] at hk
   ·simp only [Ghost.drop, if_neg e] at hk ⊢; exact h.le.b k y hk⟩,
  by simpa using h.size, h.os, h.tape, h.output, fun b hb hf => by
   by_cases e : b = l
   ·subst e
    rw [World.putObj_heap_same hl, World.putObj_heap_same (Nat.lt_of_lt_of_le hl h.size)]
   ·rw [World.putObj_heap_other e, World.putObj_heap_other e]
    exact h.keep b (by simpa using hb) hf,
  fun b hf => (h.foot b hf).imp id fun k => by simpa using k,
  fun b o hf => by
   rcases h.frz b o hf with k | k | k
   ·exact .inl k
   ·exact .inr (.inl k)
   ·exact .inr (.inr (by simpa using k)),
  fun g hg => (h.keys g hg).imp id fun k => k⟩
theorem StopX.from {G0 G : Ghost} {s0 s : Heap} {w0 w w' : World} (h : Ext G0 s0 w0 G s w) {l : Nat} (hl : l < w0.heap.size) {rec : Loop} {R : Heap → Prop} (hs : StopX G s w l rec R w') : StopX G0 s0 w0 l rec R w' := by
 obtain ⟨G', s', h1, h2, h3, h4⟩ := hs
 exact ⟨G', s', (h.putBoth hl _).trans h1, h2, h3, h4⟩
/-- A call of yield that may be the last. -/
def YieldOkS (P : Program) (lo : Ghost) (l : Nat) (rec : Loop) (args : List V) (s : Heap) (N R : Heap → Prop) : Prop :=
 ∀ G w (cargs : Array Value), HRel G s w → lo.Le G → RepL G args cargs.toList → YieldAt Fence.wide 0 P l cargs w fun e w' =>
  (e = .returned (.bool true) ∧ ∃ G' s', Ext G s w G' s' w' ∧ HRel G' s' w' ∧ N s') ∨ (e = .returned (.bool false) ∧ StopX G s w l rec R w')
/-- A call that is given such a yield. -/
def ACallsS (P : Program) (lo : Ghost) (l : Nat) (rec : Loop) (f : FuncId) (args : List V) (s : Heap) (N R : Heap → Prop) : Prop :=
 (∃ fn, P.funcs[f]? = some fn ∧ fn.body.isNone = false ∧ (fn.name == "runtime.NumGoroutine") = false) ∧
 ∀ G w (cargs : Array Value), HRel G s w → lo.Le G → l < w.heap.size → RepL G args cargs.toList → Calls P f cargs w fun e w' =>
  (∃ cv, e = .returned cv) ∧ ((∃ G' s', Ext G s w G' s' w' ∧ HRel G' s' w' ∧ N s') ∨ StopX G s w l rec R w')
/-- What is asked of a round's body. -/
def roundQ (N R : Heap → Prop) : Exit → St → Prop
 | .normal, st => ∃ s', st.s.le s' ∧ N s'
 | .ret, st => ∃ s', st.s.le s' ∧ R s'
 | _, _ => False
def RoundS (P : Program) (E : Nat → V) (n p : Nat) (v : V) (s : Heap) (opsA : Array Oper) (body : Code) (N R : Heap → Prop) : Prop :=
 ∀ K1 : St → Prop,
  (∀ st1 t5 cs ty, st1.loc = upd (fun _ => none) t5 (some (cs, ty)) → st1.ds = [] → st1.lo = Ghost.bot →
   (∀ F, Open F → ∀ b, st1.s.box b = none → AWpI F P body (roundQ N R) (st1.publish t5 b (cs, ty))) → K1 st1) →
  aops P opsA opsA.toList { E := upd E p v, loc := fun _ => none, s := s, n := n } K1
theorem round_yieldS {lo : Ghost} {l p : Nat} {fn : FuncId} {tm : Array Value} {ida : Nat} {opsA : Array Oper} {body : Code} {D n : Nat} {E : Nat → V} {v0 : V} {s : Heap} {N R : Heap → Prop}
  (hrec : lo.ob l = some (.loop (recOf fn tm p (.region ida opsA false) body D .ready))) (htm : tm.size = n) (hE : ∀ t, Rep lo (E t) (tm.getD t undef)) (hp : p < n)
  (hA : noDefer opsA = true) (hround : RoundS P E n p v0 s opsA body N R) :
  YieldOkS P lo l (doneOf fn tm p (.region ida opsA false) body D) [v0] s N R := by
 intro G w cargs hh hlo hargs
 obtain ⟨v, vs, e1, hv, hnil⟩ := hargs.uncons
 have := hnil.nil_inv
 subst this
 obtain rfl : cargs = #[v] := by rw [← Array.toList_inj, e1]
 have hGl : G.ob l = some _ := hlo.b _ _ hrec
 have hl := (hh.ob l _ hGl).2
 have hll : l < w.heap.size := (Array.getElem?_eq_some_iff.1 hl).1
 have hyr := run_yield (P := P) (args := #[v]) hl (by simp [recOf])
 refine ⟨_, _, _, _, hyr, roundIn_of_wpIn trivial ?_⟩
 simp only [recOf]
 have htmps : Array.foldl (fun tmps (x : Tmp × Value) => tmps.setIfInBounds x.1 x.2) tm (#[p].zip #[v]) = tm.setIfInBounds p v := by simp
 simp only [htmps]
 have hin0 : In ⟨G.drop l, s, w, [], noPan⟩ { E := upd E p v0, loc := fun _ => none, s := s, n := n } { tmps := tm.setIfInBounds p v, defers := [] } w := by
  refine ⟨G.drop l, fun _ => none, Ext.refl _ _ _, hh.drop l, by simpa using htm, Dfs.nil, fun t => ?_, (fun t cs ty ht => by cases ht), fun t t' b h1 => absurd rfl h1⟩
  by_cases ht : t = p
  ·subst ht
   simp only [upd_same, Array.getD_eq_getD_getElem?, Array.getElem?_setIfInBounds_self_of_lt (by omega : t < tm.size), Option.getD_some]
   exact LRep.of_rep hv.toDrop
  ·simp only [upd_other _ _ _ _ ht, Array.getD_eq_getD_getElem?, Array.getElem?_setIfInBounds_ne (Ne.symm ht)]
   have := hE t
   rw [Array.getD_eq_getD_getElem?] at this
   exact LRep.of_rep (this.mono hlo).toDrop
 refine wpIn_region ?_
 have hspl : ∀ ops : Array Oper, List.range ops.size = List.range' 0 ops.size ++ [] := fun ops => by rw [List.append_nil, List.range_eq_range']
 rw [hspl]
 refine aopsIn (.inr ⟨l, rfl⟩) hA (e := ⟨G.drop l, s, w, [], noPan⟩) (K := fun st1 => ∃ t5 cs ty, st1.loc = upd (fun _ => none) t5 (some (cs, ty)) ∧ st1.ds = [] ∧ st1.lo = Ghost.bot ∧ ∀ F, Open F → ∀ b, st1.s.box b = none → AWpI F P body (roundQ N R) (st1.publish t5 b (cs, ty))) (PQ.no rfl) (fun a1 w1 hth => ?_) opsA.size 0 (by omega) _ _ w (by
  rw [List.drop_zero, List.take_of_length_le (by simp)]
  exact hround _ fun st1 t5 cs ty h1 h2 h2' h3 => ⟨t5, cs, ty, h1, h2, h2', h3⟩) hin0
 obtain ⟨st1, ⟨t5, cs, ty, hloc, hds, hlo1, hb⟩, hin1⟩ := hth
 obtain ⟨b, hbn, G1, be, hx1, hr1⟩ := hin1.publish (t0 := t5) (x := (cs, ty)) (by rw [hloc, upd_same])
 have nf : ¬ foot (G.drop l) s l := fun hf => by
  obtain ⟨y, k1, k2⟩ := hh.foot_cells hf
  rw [hl] at k1; cases k1; cases k2
 have hl1 := (hx1.keep l hll nf).trans hl
 have hbr := run_beginRound (P := P) hl1 rfl
 refine ⟨_, hbr, ?_⟩
 generalize hw2 : w1.putObj l _ = w2
 have hw2l : w2.heap[l]? = some (.loop (recOf fn tm p (.region ida opsA false) body D .busy)) := by
  rw [← hw2]; exact World.putObj_heap_same (Array.getElem?_eq_some_iff.1 hl1).1
 have hw2s : w2.heap.size = w1.heap.size := by rw [← hw2]; simp
 have hw2o : ∀ k, k ≠ l → w2.heap[k]? = w1.heap[k]? := fun k hk => by rw [← hw2]; exact World.putObj_heap_other hk
 have hH2 : HRel (G1.drop l) (st1.publish t5 b (cs, ty)).s w2 := by rw [← hw2]; exact (hr1.hr.drop l).putObj hl1 rfl (by simp [Ghost.drop])
 have hlocn : (st1.publish t5 b (cs, ty)).loc = fun _ => none := by
  funext t
  simp only [St.publish, hloc, upd]
  split <;> rfl
 have hsteq : st1.publish t5 b (cs, ty) = { E := (st1.publish t5 b (cs, ty)).E, loc := fun _ => none, s := (st1.publish t5 b (cs, ty)).s, n := st1.n } := by
  have e1 : (st1.publish t5 b (cs, ty)).ds = [] := hds
  have e2 : (st1.publish t5 b (cs, ty)).lo = Ghost.bot := hlo1
  have e3 : (st1.publish t5 b (cs, ty)).n = st1.n := rfl
  have e4 := hlocn
  have e5 : (st1.publish t5 b (cs, ty)).pp = noPan := hr1.df.pp
  generalize st1.publish t5 b (cs, ty) = z at e1 e2 e3 e4 e5 ⊢
  cases z
  simp only at e1 e2 e3 e4 e5
  subst e1; subst e2; subst e3; subst e4; subst e5
  rfl
 have hin2 : In ⟨G1.drop l, (st1.publish t5 b (cs, ty)).s, w2, [], noPan⟩ { E := (st1.publish t5 b (cs, ty)).E, loc := fun _ => none, s := (st1.publish t5 b (cs, ty)).s, n := st1.n } a1 w2 := by
  refine ⟨G1.drop l, be, Ext.refl _ _ _, hH2, hr1.n, ⟨by have := hr1.df.eq; rw [show (st1.publish t5 b (cs, ty)).ds = [] from hds] at this; exact this, (fun d h => by cases h), List.Pairwise.nil, Ghost.none_le _, rfl⟩, fun t => ?_, (fun t cs ty ht => by cases ht), fun t t' b h1 => absurd rfl h1⟩
  have := hr1.tmps t
  rw [hlocn] at this
  cases hv : (st1.publish t5 b (cs, ty)).E t <;> rw [hv] at this <;> simp only [hv] <;> first | exact Rep.toDrop this | exact absurd rfl this.1
 have hbody := hb (Fence.wide.inRound l) (.inr ⟨l, rfl⟩) b hbn
 rw [hsteq] at hbody
 refine wpIn_mono (hbody ⟨G1.drop l, (st1.publish t5 b (cs, ty)).s, w2, [], noPan⟩ a1 w2 rfl hin2) fun x a2 w3 hth2 => ?_
 have hss : w.heap.size ≤ w1.heap.size := hx1.size
 have nf2 : ¬ foot (G1.drop l) (st1.publish t5 b (cs, ty)).s l := fun hf => by
  obtain ⟨y, k1, k2⟩ := hH2.foot_cells hf
  rw [hw2l] at k1; cases k1; cases k2
 have fchain : ∀ b', foot (G1.drop l) (st1.publish t5 b (cs, ty)).s b' → foot G s b' ∨ w.heap.size ≤ b' := fun b' hf => hx1.foot b' hf
 obtain ⟨st3, hq3, G2, be2, hx2, hr2⟩ := hth2
 have hl2 := (hx2.keep l (Array.getElem?_eq_some_iff.1 hw2l).1 nf2).trans hw2l
 have hss2 : w2.heap.size ≤ w3.heap.size := hx2.size
 have foots : ∀ s', st3.s.le s' → ∀ b', foot G2 s' b' → foot G s b' ∨ w.heap.size ≤ b' := fun s' hle b' hf => by
  rcases hx2.foot b' (foot_le hle hf) with k | k
  ·exact fchain b' k
  ·exact .inr (by simp only at k; omega)
 have frzs : ∀ b' o, G2.F b' o ≠ none → G.F b' o ≠ none ∨ foot G s b' ∨ w.heap.size ≤ b' := fun b' o hf => by
  rcases hx2.frz b' o hf with k | k | k
  ·exact hx1.frz b' o k
  ·rcases fchain b' k with j | j
   ·exact .inr (.inl j)
   ·exact .inr (.inr j)
  ·exact .inr (.inr (by simp only at k; omega))
 have keyss : ∀ s', st3.s.le s' → ∀ g, s'.own g ≠ none → s.own g ≠ none ∨ G.om g = none := fun s' hle g hg => by
  have hg3 : st3.s.own g ≠ none := by
   rcases hle.own g with e | e
   ·rwa [← e]
   ·exact absurd e hg
  rcases hx2.keys g hg3 with k | k
  ·exact hx1.keys g k
  ·refine .inr ?_
   cases hq : G.om g with
   | none => rfl
   | some y => exact absurd (hx1.le.o g y hq) (by rw [show G1.om g = none from k]; simp)
 have keeps : ∀ b' : Nat, b' ≠ l → b' < w.heap.size → ¬ foot G s b' → w3.heap[b']? = w.heap[b']? := fun b' e hb' hnf => by
  refine (hx2.keep b' (show b' < w2.heap.size by omega) fun hf => ?_).trans ((hw2o b' e).trans (hx1.keep b' hb' hnf))
  rcases fchain b' hf with k | k
  ·exact hnf k
  ·omega
 have hos : w3.os = w.os := (hx2.os.trans (by rw [← hw2]; rfl)).trans hx1.os
 have htp : w3.tape = w.tape := (hx2.tape.trans (by rw [← hw2]; rfl)).trans hx1.tape
 have hou : w3.output = w.output := (hx2.output.trans (by rw [← hw2]; rfl)).trans hx1.output
 cases x with
 | normal =>
  obtain ⟨s', hle, hHs⟩ := hq3
  have her := run_endRound (P := P) none hl2
  refine ⟨_, _, her, .inl ⟨rfl, (G2.drop l).addOb l (.loop (recOf fn tm p (.region ida opsA false) body D .ready)), s', ?_, ?_, hHs⟩⟩
  ·refine ⟨⟨fun b' o v' h => hx2.le.f _ _ _ (hx1.le.f _ _ _ h), fun g v' h => hx2.le.o _ _ (hx1.le.o _ _ h), fun k y hk => ?_⟩, by simp only [World.putObj_size]; omega, hos, htp, hou, fun b' hb' hnf => ?_, foots s' hle, frzs, keyss s' hle⟩
   ·by_cases e : k = l
    ·subst e
     rw [hGl] at hk
     simp only [Ghost.addOb, if_pos]
     exact hk
    ·have h1 := hx1.le.b k y (by simp only [Ghost.drop, if_neg e]; exact hk)
     have h2 := hx2.le.b k y (by simp only [Ghost.drop, if_neg e]; exact h1)
     simp only [Ghost.addOb, Ghost.drop, if_neg e]
     exact h2
   ·by_cases e : b' = l
    ·subst e
     rw [World.putObj_heap_same (Array.getElem?_eq_some_iff.1 hl2).1, hl]
     rfl
    ·rw [World.putObj_heap_other e]
     exact keeps b' e hb' hnf
  ·exact (((hr2.hr.weaken hle).drop l).putObj hl2 rfl (by simp [Ghost.drop])).addOb (World.putObj_heap_same (Array.getElem?_eq_some_iff.1 hl2).1) rfl
 | ret =>
  obtain ⟨s', hle, hHs⟩ := hq3
  have her := run_endRound (P := P) (some .ret) hl2
  refine ⟨_, _, her, .inr ⟨rfl, G2.drop l, s', ?_, ?_, by simp [Ghost.drop], hHs⟩⟩
  ·refine ⟨⟨fun b' o v' h => hx2.le.f _ _ _ (hx1.le.f _ _ _ h), fun g v' h => hx2.le.o _ _ (hx1.le.o _ _ h), fun k y hk => ?_⟩, by simp only [World.putObj_size]; omega, hos, htp, hou, fun b' hb' hnf => ?_, fun b' hf => (foots s' hle b' hf).imp id fun k => by simpa using k, fun b' o hf => (frzs b' o hf).imp id fun k => k.imp id fun j => by simpa using j, keyss s' hle⟩
   ·by_cases e : k = l
    ·subst e; simp [Ghost.drop] at hk
    ·have h1 := hx1.le.b k y hk
     have h2 := hx2.le.b k y (by simp only [Ghost.drop, if_neg e]; exact h1)
     simp only [Ghost.drop, if_neg e]
     exact h2
   ·by_cases e : b' = l
    ·subst e
     rw [World.putObj_heap_same (Array.getElem?_eq_some_iff.1 hl2).1, World.putObj_heap_same hll]
     rfl
    ·rw [World.putObj_heap_other e, World.putObj_heap_other e]
     exact keeps b' e (by simpa using hb') hnf
  ·exact ((hr2.hr.weaken hle).drop l).putObj hl2 rfl (by simp [Ghost.drop])
 | exit id => exact hq3.elim
 | goto t => exact hq3.elim
 | panic c => exact hq3.elim
 | outgrown => exact hq3.elim
end Go.Am
namespace Go.Am
variable {P : Program}
def AWpS (C : Entry → Prop) (S : Entry → World → Prop) (P : Program) (c : Code) (Q : Exit → St → Prop) (st : St) : Prop :=
 ∀ (e : Entry) (a : Act) (w : World), e.pp = noPan ∧ C e → In e st a w → c.wp P (fun x a' w' => Then e (Q x) a' w' ∨ (x = .ret ∧ a'.defers = e.tl ∧ S e w')) a w
section
variable {C : Entry → Prop} {S : Entry → World → Prop} {Q : Exit → St → Prop} {st : St}
theorem noPan_pan {e : Entry} (hp : e.pp = noPan) {x : Exit} {a : Act} {w : World} (h : Pan e x a w) : False := by
 obtain ⟨v, G, s', h1, h2, h3, h4, h5⟩ := h
 rw [hp] at h5; exact h5
theorem AWpS.of {c : Code} (h : AWp P c Q st) : AWpS C S P c Q st := fun e a w hp hin =>
 wp_mono (h e a w hin) fun x a' w' h => h.elim .inl fun h => (noPan_pan hp.1 h).elim
theorem AWpS.weaken {c : Code} {st' : St} (hle : st.le st') (h : AWpS C S P c Q st') : AWpS C S P c Q st :=
 fun e a w hp hin => h e a w hp (hin.weaken hle)
theorem AWpS.slen {c : Code} (t : Nat) {sz : Nat} {es : List (List V)} (h1 : st.E t = .slice sz es) (h : es.length ≤ maxLen → AWpS C S P c Q st) : AWpS C S P c Q st := fun e a w hp hin => by
 refine h ?_ e a w hp hin
 obtain ⟨G, be, hx, hr⟩ := hin
 have := hr.tmps t
 rw [h1] at this
 generalize a.tmps.getD t undef = v at this
 cases (show Rep G (.slice sz es) v from this) with
 | slice _ _ b o cap cells k1 k2 k3 => omega
 | slice0 => simp
theorem AWpS.seq {x y : Code} (h : AWpS C S P x (thenQ (AWpS C S P y Q) Q) st) : AWpS C S P (.seq x y) Q st := fun e a w hp hin => by
 refine wp_seq (wp_mono (h e a w hp hin) fun ex a' w' h => ?_)
 rcases h with ⟨st', h1, h2⟩ | ⟨rfl, hs⟩
 ·cases ex <;> first | exact .inl ⟨st', h1, h2⟩ | exact h1 e a' w' hp h2
 ·exact .inr ⟨rfl, hs⟩
theorem AWpS.seq_k {x y : Code} (h : ∀ K : St → Prop, (∀ st, AWpS C S P y Q st → K st) → AWpS C S P x (thenQ K Q) st) : AWpS C S P (.seq x y) Q st := AWpS.seq (h _ fun _ h => h)
theorem AWpS.reg {id : Nat} {ops : Array Oper} {y : Code} (h : ∀ K : St → Prop, (∀ st, AWpS C S P y Q st → K st) → aops P ops ops.toList st K) : AWpS C S P (.seq (.region id ops false) y) Q st := AWpS.seq (AWpS.of (AWp.region (h _ fun _ h => h)))
theorem AWpS.reg1 {id : Nat} {ops : Array Oper} (h : ∀ K : St → Prop, (∀ st, Q .normal st → K st) → aops P ops ops.toList st K) : AWpS C S P (.region id ops false) Q st := AWpS.of (AWp.region (h _ fun _ h => h))
theorem AWpS.cond {c : Operand} {x y : Code} {t : Bool} (hc : st.eval c = .base (.bool t)) (h1 : t = true → AWpS C S P x Q st) (h2 : t = false → AWpS C S P y Q st) : AWpS C S P (.cond c x y) Q st := fun e a w hp hin => by
 have hin' := hin
 obtain ⟨G, be, hx, hr⟩ := hin
 exact wp_cond_split (eval_base hr hc) (fun ht => h1 ht e a w hp hin') (fun ht => h2 ht e a w hp hin')
theorem AWpS.block {id : Nat} {c : Code} (h : AWpS C S P c (blockQ id Q) st) : AWpS C S P (.block id c) Q st := fun e a w hp hin => by
 refine wp_block (wp_mono (h e a w hp hin) fun ex a' w' h => ?_)
 rcases h with ⟨st', h1, h2⟩ | ⟨rfl, hs⟩
 rotate_left
 ·exact .inr ⟨rfl, hs⟩
 cases ex <;> first | exact .inl ⟨st', h1, h2⟩ | skip
 rename_i id'
 simp only [Exit.inBlock]
 simp only [blockQ] at h1
 split at h1
 ·rename_i hid; rw [if_pos hid]; exact .inl ⟨st', h1, h2⟩
 ·rename_i hid; rw [if_neg hid]; exact .inl ⟨st', h1, h2⟩
theorem AWpS.loop {c : Code} (I : Nat → St → Prop) (n0 : Nat) (h0 : I n0 st) (round : ∀ n st, I n st → AWpS C S P c (thenQ (fun st' => ∃ m, m < n ∧ I m st') Q) st) : AWpS C S P (.loop c) Q st := fun e a w hp hin => by
 refine wp_loop_ghost (fun n a w => ∃ st, I n st ∧ In e st a w) n0 ⟨st, h0, hin⟩ ?_
 rintro n a w ⟨st1, hI, hin1⟩
 refine wp_mono (round n st1 hI e a w hp hin1) fun ex a' w' h => ?_
 rcases h with ⟨st', h1, h2⟩ | ⟨rfl, hs⟩
 rotate_left
 ·exact .inr ⟨rfl, hs⟩
 cases ex <;> first | exact .inl ⟨st', h1, h2⟩ | skip
 obtain ⟨m, hm, hI'⟩ := h1
 exact ⟨m, hm, st', hI', h2⟩
theorem AWpS.loopT {ι : Type} {c : Code} (I : ι → Prop) (T : ι → St) (μ : ι → Nat) (i0 : ι) (h0 : I i0 ∧ st.le (T i0)) (round : ∀ i, I i → AWpS C S P c (thenQ (fun st' => ∃ j, (I j ∧ μ j < μ i) ∧ st'.le (T j)) Q) (T i)) : AWpS C S P (.loop c) Q st := by
 refine AWpS.loop (fun n st => ∃ i, I i ∧ μ i = n ∧ st.le (T i)) (μ i0) ⟨i0, h0.1, rfl, h0.2⟩ ?_
 rintro n st1 ⟨i, hi, rfl, hle⟩
 refine fun e a w hp hin => wp_mono (((round i hi).weaken hle) e a w hp hin) fun ex a' w' h => h.imp (fun ⟨st', h1, h2⟩ => ⟨st', ?_, h2⟩) id
 cases ex <;> first | exact h1 | skip
 obtain ⟨j, ⟨h1, h2⟩, h3⟩ := h1
 exact ⟨μ j, h2, j, h1, rfl, h3⟩
theorem yield_stepS {e : Entry} {o : Oper} {f : Operand} {args : Array Operand} {ts : Array TypeId} (ho : o.op = .call { callee := .value f, args := args, argTypes := ts }) {l : Nat} {rec : Loop} (hf : st.eval f = yieldV l) {vs : List V} (hvs : noLocs (args.toList.map st.eval) = some vs) (hdst : dstOk o st) (hds : st.ds = []) (hdd : ∃ t, o.dst = some t)
  {N R : Heap → Prop} (hy : YieldOkS P st.lo l rec vs st.s N R) (hle : l < e.w.heap.size) {a : Act} {w : World} {Q' : Exit → Act → World → Prop} (hin : In e st a w) :
  o.wpIn Fence.wide 0 P a w (fun a' w' => Then e (fun st' => ∃ s', N s' ∧ st' = ({ st with s := s' } : St).put o.dst (.base (.bool true))) a' w' ∨
   (StopX e.G e.s e.w l rec R w' ∧ a'.defers = e.tl ∧ a'.tmps.size = st.n ∧ ∀ t, o.dst = some t → a'.tmps.getD t undef = .bool false)) Q' := by
 have hn := hin
 obtain ⟨G, be, hx, hr⟩ := hin
 refine ⟨fun f _ => trivial, ?_⟩
 have hq : a.eval f = .func (.yield l) #[] #[] := eval_base hr hf
 have hargs := noLocs_rep hr _ _ hvs
 obtain ⟨fn, tmps, assign, body, hrun, hround⟩ := hy G w (args.map a.eval) hr.hr hr.df.lo (by simpa using hargs)
 have : ((o.semAt Fence.wide.round a.eval).run P w) = .ok (.round l fn tmps assign body) w := by
  rw [Oper.semAt_eq _ _ _ (fun c e => by rw [ho] at e; cases e)]
  unfold execOp
  simp only [ho, resolve, hq, Deferred.ofValue, Sem.run_bind, Sem.run_pure, Result.andThen_ok, invoke, Array.empty_append]
  exact hrun
 rw [this]
 refine ⟨fun h => by simp [Fence.wide] at h, hround.mono ?_⟩
 rintro e' w' (⟨rfl, G', s', hx', hh', hN⟩ | ⟨rfl, hs⟩)
 ·refine .inl ⟨_, ⟨s', hN, rfl⟩, G', be, ?_, (hr.ext hx' hh').put o.dst (dstOk_lt hdst) (LRep.of_rep (Rep.base _))⟩
  rw [put_s]
  exact hx.trans hx'
 ·obtain ⟨t, ht⟩ := hdd
  have hlt : t < a.tmps.size := by rw [hr.n]; exact dstOk_lt hdst t ht
  refine .inr ⟨hs.from hx hle, ?_, ?_, ?_⟩
  ·simp only [Act.put, ht]
   have := hr.df.eq
   rw [hds] at this
   exact this
  ·simp only [Act.put, ht, Array.size_setIfInBounds]; exact hr.n
  ·intro t' ht'
   rw [ht] at ht'; cases ht'
   simp only [Act.put, ht, Array.getD_eq_getD_getElem?, Array.getElem?_setIfInBounds_self_of_lt hlt, Option.getD_some]
/-- Behind a yield that answered false: what is left ends in a return. -/
def stopSt (n t : Nat) (s : Heap) : St := { E := upd (fun _ => .any) t (.base (.bool false)), loc := fun _ => none, s := s, n := n }
def yieldS (P : Program) (l : Nat) (rec : Loop) (N R : Heap → Prop) (ops : Array Oper) (j t : Nat) (o : Oper) (f : Operand) (args : Array Operand) (y : Code) (K : St → Prop) (st : St) : Prop :=
 ∃ vs, st.ds = [] ∧ dstOk o st ∧ st.eval f = yieldV l ∧ noLocs (args.toList.map st.eval) = some vs ∧ YieldOkS P st.lo l rec vs st.s N R ∧ (∀ s', N s' → aops P ops (ops.toList.drop (j + 1)) (({ st with s := s' } : St).put (some t) (.base (.bool true))) K) ∧
   ∀ s', aops P ops (ops.toList.drop (j + 1)) (stopSt st.n t s') fun st2 => AWp P y (fun x st3 => x = .ret ∧ st3.s = s' ∧ st3.ds = []) st2
theorem AWpS.regY {l : Nat} {rec : Loop} {N R : Heap → Prop} {id : Nat} {ops : Array Oper} {y : Code} (j : Nat) {t : Nat} {ty : TypeId} {ps : String} {af : Array Edge} {f : Operand} {args : Array Operand} {ts : Array TypeId}
  (hj : ops[j]? = some { dst := some t, op := .call { callee := .value f, args := args, argTypes := ts }, type := ty, pos := ps, after := af, guard := none }) (hnd : noDefer ops = true)
  (h : ∀ K : St → Prop, (∀ st, AWpS (fun e => l < e.w.heap.size) (fun e w => StopX e.G e.s e.w l rec R w) P y Q st → K st) → aops P ops (ops.toList.take j) st (yieldS P l rec N R ops j t { dst := some t, op := .call { callee := .value f, args := args, argTypes := ts }, type := ty, pos := ps, after := af, guard := none } f args y K)) :
  AWpS (fun e => l < e.w.heap.size) (fun e w => StopX e.G e.s e.w l rec R w) P (.seq (.region id ops false) y) Q st := fun e a w hp hin => by
 have hl := hp.2
 refine wp_seq ((wpIn_wide (n := 0)).1 (wpIn_region ?_))
 have hlt : j < ops.size := (Array.getElem?_eq_some_iff.1 hj).1
 have hsplit : List.range ops.size = List.range' 0 j ++ (j :: (List.range' (j + 1) (ops.size - (j + 1)) ++ [])) := by
  have h0 := @List.range'_append_1 0 j (ops.size - (j + 1) + 1)
  rw [Nat.zero_add, show j + (ops.size - (j + 1) + 1) = ops.size by omega] at h0
  rw [List.append_nil, List.range_eq_range', ← List.range'_succ, h0]
 rw [hsplit]
 refine aopsIn (.inl rfl) hnd (e := e) (K := yieldS P l rec N R ops j t _ f args y (AWpS (fun e => l < e.w.heap.size) (fun e w => StopX e.G e.s e.w l rec R w) P y Q)) (PQ.no hp.1) (fun a1 w1 hth => ?_) j 0 (by omega) st a w (by simpa using h _ fun _ h => h) hin
 obtain ⟨st1, hth, hin1⟩ := hth
 obtain ⟨vs, hds, hdst, hf, hvs, hy, hN, hS⟩ := hth
 refine wpOpsIn_cons hj ?_
 unfold stepIn
 rw [if_pos (by rfl)]
 refine Oper.wpIn_mono ?_ (yield_stepS (P := P) (e := e) (st := st1) rfl hf hvs hdst hds ⟨t, rfl⟩ hy hl hin1)
 rintro a2 w2 (⟨_, ⟨s', hNs, rfl⟩, hin2⟩ | ⟨⟨G', s', hx1, hx2, hx3, hx4⟩, hd, hn, ht⟩)
 ·refine aopsIn (.inl rfl) hnd (e := e) (K := AWpS (fun e => l < e.w.heap.size) (fun e w => StopX e.G e.s e.w l rec R w) P y Q) (rest := []) (PQ.no hp.1) (fun a3 w3 h3 => ?_) (ops.size - (j + 1)) (j + 1) (by omega) _ a2 w2 ?_ hin2
  ·simp only [wpOpsIn]
   obtain ⟨st3, h3, h4⟩ := h3
   exact h3 e a3 w3 hp h4
  ·have := hN s' hNs
   rwa [List.take_of_length_le (by simp)]
 ·have hin2 : In ⟨G', s', w2, e.tl, noPan⟩ (stopSt st1.n t s') a2 w2 := by
   refine ⟨G', fun _ => none, Ext.refl _ _ _, hx2, hn, ⟨by rw [hd]; rfl, (fun d h => by cases h), List.Pairwise.nil, Ghost.none_le _, rfl⟩, fun t' => ?_, (fun t cs ty ht => by cases ht), fun t t' b h1 => absurd rfl h1⟩
   simp only [stopSt, upd]
   split
   ·rename_i e1; subst e1; rw [ht _ rfl]; exact LRep.of_rep (Rep.base _)
   ·exact LRep.of_rep (Rep.any _)
  refine aopsIn (.inl rfl) hnd (e := ⟨G', s', w2, e.tl, noPan⟩) (K := fun st2 => AWp P y (fun x st3 => x = .ret ∧ st3.s = s' ∧ st3.ds = []) st2) (rest := []) (PQ.no rfl) (fun a3 w3 h3 => ?_) (ops.size - (j + 1)) (j + 1) (by omega) _ a2 w2 ?_ hin2
  ·simp only [wpOpsIn]
   obtain ⟨st3, h3, h4⟩ := h3
   refine wp_mono (h3 _ a3 w3 h4) fun x a4 w4 h5 => ?_
   rcases h5 with ⟨st4, ⟨rfl, hs4, hd4⟩, G4, be4, hx4', hr4⟩ | h5
   ·refine .inr ⟨rfl, by have := hr4.df.eq; rw [hd4] at this; exact this, G4.drop l, s', (hx1.trans (by have := hx4'; rw [hs4] at this; exact this)).dropR (by simp [Ghost.drop]), by have := hr4.hr; rw [hs4] at this; exact this.drop l, by simp [Ghost.drop], hx4⟩
   ·exact (noPan_pan rfl h5).elim
  ·have := hS s'
   rwa [List.take_of_length_le (by simp)]
end
end Go.Am
namespace Go.Am
variable {P : Program}
theorem entry_in {G : Ghost} {s : Heap} {w : World} {args : List V} {cargs : Array Value} {n : Nat} {lo : Ghost} (hh : HRel G s w) (hob : lo.Le G) (hargs : RepL G args cargs.toList) (hlen : args.length ≤ n) :
  In ⟨G, s, w, [], noPan⟩ { E := entryE args, loc := fun _ => none, s := s, n := n, lo := lo } { tmps := cargs ++ Array.replicate (n - cargs.size) undef, defers := [] } w := by
 have hsz : cargs.size = args.length := by have := hargs.1; simp at this; omega
 refine ⟨G, fun _ => none, Ext.refl _ _ _, hh, by simp; omega, ⟨rfl, (fun d h => by cases h), List.Pairwise.nil, hob, rfl⟩, fun t => ?_, (fun t cs ty ht => (by cases ht)), fun t t' b h1 => absurd rfl h1⟩
 simp only [entryE]
 by_cases ht : t < args.length
 ·have e1 : args.getD t (.base undef) = args[t] := by simp [List.getD_eq_getElem?_getD, ht]
  have e2 : (cargs ++ Array.replicate (n - cargs.size) undef).getD t undef = cargs[t]'(by omega) := by
   rw [Array.getD_eq_getD_getElem?, Array.getElem?_append_left (by omega), Array.getElem?_eq_getElem (by omega)]; rfl
  rw [e1, e2]
  exact LRep.of_rep (hargs.2 t _ _ (List.getElem?_eq_getElem ht) (by simp [show t < cargs.size by omega]))
 ·have e1 : args.getD t (.base undef) = .base undef := by simp [List.getD_eq_getElem?_getD, List.getElem?_eq_none (Nat.le_of_not_lt ht)]
  have e2 : (cargs ++ Array.replicate (n - cargs.size) undef).getD t undef = undef := by
   rw [Array.getD_eq_getD_getElem?, Array.getElem?_append_right (by omega)]
   by_cases h2 : t - cargs.size < n - cargs.size
   ·simp [Array.getElem?_replicate, h2]
   ·simp [Array.getElem?_replicate, h2]
  rw [e1, e2]
  exact Rep.base _
/-- What is asked at the end of a function with no result. -/
def retN (N : Heap → Prop) : Exit → St → Prop
 | .normal, st | .ret, st => ∃ s', st.s.le s' ∧ N s'
 | _, _ => False
theorem acallsS_of {lo : Ghost} {l : Nat} {rec : Loop} {f : FuncId} {fn : Func} {c : Code} {args : List V} {s : Heap} {N R : Heap → Prop} (hf : P.funcs[f]? = some fn) (hb : fn.body = some c) (hn : (fn.name == "runtime.NumGoroutine") = false) (hlen : args.length ≤ fn.ntmps) (hres : fn.results = #[])
  (h : AWpS (fun e => l < e.w.heap.size) (fun e w => StopX e.G e.s e.w l rec R w) P c (retN N) { E := entryE args, loc := fun _ => none, s := s, n := fn.ntmps, lo := lo }) : ACallsS P lo l rec f args s N R := by
 refine ⟨⟨fn, hf, by simp [hb], hn⟩, fun G w cargs hh hob hl hargs => ?_⟩
 refine (callsIn_wide (n := 0)).1 (callsIn_of_wp_marks hf hb trivial (wpIn_wide.2 ?_))
 have hres' : ∀ (tm : Array Value) (w1 : World), ∃ v, (results fn tm).run P w1 = Result.ok v w1 := fun tm w1 => by
  have hr0 : results fn tm = (do let vs ← fn.results.mapM (resOne tm); pure (if h : vs.size = 1 then vs[0] else .tuple vs)) := by
   unfold results
   congr 1
  rw [hr0, hres, Sem.run_bind, Array.mapM_eq_mapM_toList, Sem.run_map]
  simp only [List.mapM_nil, Sem.run_pure]
  exact ⟨_, rfl⟩
 refine wp_mono (h _ _ _ ⟨rfl, hl⟩ (entry_in hh hob hargs hlen)) fun ex a' w' h' => ?_
 rcases h' with ⟨st', hq, hin'⟩ | ⟨rfl, h2, h3⟩
 rotate_left
 ·show LeavesInM Fence.wide 0 P fn a'.tmps _ a'.defers _ w'
  rw [h2]
  obtain ⟨v, hv⟩ := hres' a'.tmps w'
  exact ⟨v, hv, ⟨v, rfl⟩, .inr h3⟩
 have fin : (∃ s', st'.s.le s' ∧ N s') → LeavesInM Fence.wide 0 P fn a'.tmps (fun e w' => (∃ cv, e = .returned cv) ∧ ((∃ G' s', Ext G s w G' s' w' ∧ HRel G' s' w' ∧ N s') ∨ StopX G s w l rec R w')) a'.defers .returning w' := by
  rintro ⟨s', h3, h4⟩
  obtain ⟨G', be, hx, hr⟩ := hin'
  refine leaves_marks (e := ⟨G, s, w, [], noPan⟩) hh (pp := st'.pp) (by simp) (E := st'.E) (loc := st'.loc) (s := st'.s) (n := st'.n) (fun G1 be1 a1 w1 hx1 hr1 ht1 => ?_) st'.ds st'.lo G' be a' w' hx hr rfl
  obtain ⟨v, hv⟩ := hres' a'.tmps w1
  exact ⟨v, hv, ⟨v, rfl⟩, .inl ⟨G1, s', hx1.weaken h3, hr1.hr.weaken h3, h4⟩⟩
 cases ex <;> first | exact fin hq | exact hq.elim
/-- What is asked at the end of a function whose one result lies in a heap box. -/
def retC (P : Program) (t : Nat) (ty : TypeId) (R : V → Heap → Prop) : Exit → St → Prop
 | .normal, st | .ret, st => ∃ b cs ty' d v s', st.E t = .ptr b 0 ∧ st.s.box b = some (cs, ty') ∧ tyOf P ty = some d ∧ rd d cs 0 = some v ∧ st.s.le s' ∧ R v s'
 | _, _ => False
theorem acallsC_of {f : FuncId} {fn : Func} {c : Code} {args : List V} {s : Heap} {R : V → Heap → Prop} {t : Nat} {ty : TypeId} (hf : P.funcs[f]? = some fn) (hb : fn.body = some c) (hn : (fn.name == "runtime.NumGoroutine") = false) (hlen : args.length ≤ fn.ntmps) (hres : fn.results = #[.cell t ty])
  (h : AWp P c (retC P t ty R) { E := entryE args, loc := fun _ => none, s := s, n := fn.ntmps }) : ACalls P f args s R := by
 refine ⟨⟨fn, hf, by simp [hb], hn⟩, fun G w cargs hh hargs => ?_⟩
 refine (callsIn_wide (n := 0)).1 (callsIn_of_wp_marks hf hb trivial (wpIn_wide.2 ?_))
 refine wp_mono (h _ _ _ (entry_in hh G.none_le hargs hlen)) fun ex a' w' h' => ?_
 rcases h' with ⟨st', hq, hin'⟩ | h'
 rotate_left
 ·exact (noPan_pan rfl h').elim
 have fin : (∃ b cs ty' d v s', st'.E t = .ptr b 0 ∧ st'.s.box b = some (cs, ty') ∧ tyOf P ty = some d ∧ rd d cs 0 = some v ∧ st'.s.le s' ∧ R v s') → LeavesInM Fence.wide 0 P fn a'.tmps (fun e w' => ∃ G' s' v cv, e = .returned cv ∧ Rep G' v cv ∧ Ext G s w G' s' w' ∧ HRel G' s' w' ∧ R v s') a'.defers .returning w' := by
  rintro ⟨b, cs, ty', d, v, s', hE, hbx, hd, hv, h3, h4⟩
  obtain ⟨G', be, hx, hr⟩ := hin'
  refine leaves_marks (e := ⟨G, s, w, [], noPan⟩) hh (pp := st'.pp) (by simp) (E := st'.E) (loc := st'.loc) (s := st'.s) (n := st'.n) (fun G1 be1 a1 w1 hx1 hr1 ht1 => ?_) st'.ds st'.lo G' be a' w' hx hr rfl
  obtain ⟨ccs, k3, k4, k5⟩ := hr1.hr.box b cs ty' hbx
  have htm := hr1.tmps t
  simp only [hE] at htm
  have hpv : a1.tmps.getD t undef = .pointer (some ⟨b, 0, none⟩) := by
   have : Rep G1 (.ptr b 0) (a1.tmps.getD t undef) := htm
   generalize a1.tmps.getD t undef = z at this
   cases this; rfl
  obtain ⟨cv, hrun, hrep⟩ := rd_run (P := P) (w := w1) (b := b) (o := 0) k4 (fun j v hv => by rw [Nat.zero_add, cell_of_row w1 b j ccs ty' _ k3]; simpa using hv) hd hv
  rw [Nat.zero_add] at hrun
  simp only [Instr.loadAt, Instr.sureAddr, Sem.run_bind, Sem.run_pure, Result.andThen_ok] at hrun
  rw [ht1] at hpv
  have hone : (resOne a'.tmps (.cell t ty)).run P w1 = .ok cv w1 := by
   have ha : asAddr (a'.tmps.getD t undef) = pure ⟨b, 0, none⟩ := by rw [hpv]; rfl
   simp only [resOne, Sem.run_bind, ha, Sem.run_pure, Result.andThen_ok, hrun]
  refine ⟨cv, ?_, G1, s', v, cv, rfl, hrep, hx1.weaken h3, hr1.hr.weaken h3, h4⟩
  have hr0 : results fn a'.tmps = (do let vs ← fn.results.mapM (resOne a'.tmps); pure (if h : vs.size = 1 then vs[0] else .tuple vs)) := by
   unfold results
   congr 1
  rw [hr0, hres, Sem.run_bind, Array.mapM_eq_mapM_toList, Sem.run_map]
  simp only [List.mapM_cons, List.mapM_nil, Sem.run_bind, hone, Result.andThen_ok, Sem.run_pure]
  rfl
 cases ex <;> first | exact fin hq | exact hq.elim
/-- **A range over a function, of which a round may return.** -/
theorem AWp.rangeFuncS {Q : Exit → St → Prop} {st : St} {tf p ida : Nat} {opsA : Array Oper} {body : Code} {f : FuncId} {caps : List V} {N R : Heap → Prop}
  (hE : st.E tf = .func f [] caps) (hloc : st.loc = fun _ => none) (hp : p < st.n) (hA : noDefer opsA = true)
  (hit : ∀ (lo : Ghost) (l : Nat) (rec : Loop), (∀ (s : Heap) (v : V) (N1 : Heap → Prop), RoundS P st.E st.n p v s opsA body N1 R → YieldOkS P lo l rec [v] s N1 R) → ACallsS P lo l rec f ([yieldV l] ++ caps) st.s N R)
  (hrest : ∀ s' D, N s' → Q .normal { E := st.E, loc := fun _ => none, s := s', n := st.n, ds := mark D :: st.ds, lo := st.lo, pp := st.pp })
  (hstop : ∀ s' D, R s' → Q .ret { E := st.E, loc := fun _ => none, s := s', n := st.n, ds := mark D :: st.ds, lo := st.lo, pp := st.pp }) :
  AWp P (.rangeFunc (.tmp tf) #[p] (.region ida opsA false) body) Q st := fun e a w hin => by
 obtain ⟨G, be, hx, hr⟩ := hin
 refine (wpIn_wide (n := 0)).1 (wpIn_rangeFunc fun fn _ => ?_)
 generalize hrec : (Obj.loop (recOf fn a.tmps p (.region ida opsA false) body w.heap.size .ready)) = rec
 have hrc : isC rec = false := by rw [← hrec]; rfl
 generalize hW1 : (w.alloc (.deferred (some []))).alloc rec = W1
 have hm : More w W1 := by rw [← hW1]; exact (More.alloc _ _).trans (More.alloc _ _)
 have hD1 : W1.heap[w.heap.size]? = some (.deferred (some [])) := by
  rw [← hW1, (More.alloc (w.alloc (.deferred (some []))) rec).keep _ (by simp)]; exact World.alloc_heap_new _ _
 have hl1 : W1.heap[w.heap.size + 1]? = some rec := by
  rw [← hW1]
  have := World.alloc_heap_new (w.alloc (.deferred (some []))) rec
  simpa using this
 have hW1s : W1.heap.size = w.heap.size + 2 := by rw [← hW1]; simp
 have hH1 : HRel ((G.addOb w.heap.size (.deferred (some []))).addOb (w.heap.size + 1) rec) st.s W1 := ((hr.hr.more hm).addOb hD1 rfl).addOb hl1 hrc
 have hle1 : G.Le ((G.addOb w.heap.size (.deferred (some []))).addOb (w.heap.size + 1) rec) := by
  refine (Ghost.le_addOb fun y hy => ?_).trans (Ghost.le_addOb fun y hy => ?_)
  ·rw [hr.hr.ob_ge (Nat.le_refl _)] at hy; cases hy
  ·simp only [Ghost.addOb] at hy
   rw [if_neg (by omega), hr.hr.ob_ge (by omega)] at hy; cases hy
 have hx1 : Ext G st.s w ((G.addOb w.heap.size (.deferred (some []))).addOb (w.heap.size + 1) rec) st.s W1 :=
  ⟨hle1, hm.size, hm.os, hm.tape, hm.output, fun b hb _ => hm.keep b hb, fun _ h => .inl h, fun _ _ h => .inl h, fun _ h => .inl h⟩
 generalize hG1 : (G.addOb w.heap.size (.deferred (some []))).addOb (w.heap.size + 1) rec = G1 at hH1 hle1 hx1
 have hG1D : G1.ob w.heap.size = some (.deferred (some [])) := by rw [← hG1]; simp [Ghost.addOb]
 have hG1l : G1.ob (w.heap.size + 1) = some rec := by rw [← hG1]; simp [Ghost.addOb]
 have hnl : ∀ t, LRep G be (fun _ => none) (st.E t) (a.tmps.getD t undef) := fun t => by rw [← hloc]; exact hr.tmps t
 have hrep : ∀ t, Rep G (st.E t) (a.tmps.getD t undef) := fun t => by
  have := hnl t
  cases hv : st.E t <;> rw [hv] at this <;> first | exact this | exact absurd rfl this.1
 have hh := hrep tf
 rw [hE] at hh
 have hq : ∃ cc : Array Value, a.eval (.tmp tf) = .func (.func f) #[] cc ∧ RepL G caps cc.toList := by
  show ∃ cc : Array Value, a.tmps.getD tf undef = .func (.func f) #[] cc ∧ _
  generalize a.tmps.getD tf undef = q at hh
  cases hh with
  | func _ _ _ cf cc l1 l2 r1 r2 =>
   have : cf = #[] := Array.eq_empty_of_size_eq_zero (by simpa using l1.symm)
   subst this
   exact ⟨cc, rfl, repL_of_arr l2 r2⟩
 obtain ⟨cc, hq, hcc⟩ := hq
 obtain ⟨⟨fnn, hfn, hbody, hname⟩, hcall⟩ := hit G1 (w.heap.size + 1) (doneOf fn a.tmps p (.region ida opsA false) body w.heap.size) fun s v N1 hround =>
  round_yieldS (by rw [hG1l, ← hrec]) hr.n (fun t => (hrep t).mono hle1) hp hA hround
 have hcall := hcall G1 W1 (#[.func (.yield (w.heap.size + 1)) #[] #[]] ++ cc) hH1 (Ghost.Le.refl _) (by omega) (by
  simpa using RepL.cons (show Rep G1 (yieldV (w.heap.size + 1)) _ from Rep.base _) (hcc.mono hle1))
 have hsz : e.w.heap.size ≤ w.heap.size := hx.size
 refine ⟨w.heap.size + 1, [mark w.heap.size], W1, { target := .fn (.func f) cc, args := #[.func (.yield (w.heap.size + 1)) #[] #[]] }, W1, f, #[.func (.yield (w.heap.size + 1)) #[] #[]] ++ cc, W1, ?_, ?_, fun _ _ => trivial, ?_, fun h => by simp [Fence.wide] at h, ?_⟩
 ·rw [← hW1, ← hrec]
  exact run_enterLoop_outer (P := P) (w := w) fn a.tmps #[p] _ _
 ·simp only [resolve, hq, Deferred.ofValue, Sem.run_pure, Array.empty_append]
  simp [Act.eval]
 ·simp only [invoke, callFunc, run_program, Sem.run_bind, Result.andThen_ok, hfn, hname, Bool.false_eq_true, if_false, hbody, Sem.run_pure]
 -- where the range leaves off: the ghost's known objects of the caller stand
 have fin : ∀ (G3 : Ghost) (s3 : Heap) (w3 : World), (∀ k y, k ≠ w.heap.size + 1 → G1.ob k = some y → G3.ob k = some y) → (∀ b o v, G1.F b o = some v → G3.F b o = some v) → (∀ g v, G1.om g = some v → G3.om g = some v) → Ext e.G e.s e.w G3 s3 w3 → HRel G3 s3 w3 → (∃ r, w3.heap[w.heap.size + 1]? = some (.loop r)) → ∀ x : Obj,
   In e { E := st.E, loc := fun _ => none, s := s3, n := st.n, ds := mark w.heap.size :: st.ds, lo := st.lo, pp := st.pp } { a with defers := [mark w.heap.size] ++ a.defers } (w3.putObj (w.heap.size + 1) x) := by
  rintro G3 s3 w3 hob hF hom hxx hh3 ⟨r, hl3⟩ x
  have old : ∀ k y, G.ob k = some y → (G3.drop (w.heap.size + 1)).ob k = some y ∧ k < w.heap.size := fun k y hk => by
   have h1 := (Array.getElem?_eq_some_iff.1 (hr.hr.ob k y hk).2).1
   refine ⟨?_, h1⟩
   simp only [Ghost.drop]
   rw [if_neg (by omega)]
   exact hob _ _ (by omega) (hle1.b _ _ hk)
  have hle3 : G.Le (G3.drop (w.heap.size + 1)) := ⟨fun b o v h => hF _ _ _ (hle1.f _ _ _ h), fun g v h => hom _ _ (hle1.o _ _ h), fun k y hk => (old k y hk).1⟩
  refine ⟨G3.drop (w.heap.size + 1), be, (hxx.putObj (by omega) _).dropR ?_, (hh3.drop _).putObj hl3 rfl (by simp [Ghost.drop]), hr.n, ⟨?_, fun d hd => ?_, ?_, hr.df.lo.trans hle3, hr.df.pp⟩, fun t => ?_, (fun t cs ty ht => by cases ht), fun t t' b h1 => absurd rfl h1⟩
  ·cases hq : e.G.ob (w.heap.size + 1) with
   | none => rfl
   | some y => have := (old _ _ (hx.le.b _ _ hq)).2; omega
  ·show [mark w.heap.size] ++ a.defers = _
   rw [hr.df.eq]; rfl
  ·rcases List.mem_cons.1 hd with rfl | hd
   ·refine ⟨_, rfl, hsz, ?_⟩
    simp only [Ghost.drop]
    rw [if_neg (by omega)]
    exact hob _ _ (by omega) hG1D
   ·obtain ⟨D, rfl, h1, h2⟩ := hr.df.ok d hd
    exact ⟨D, rfl, h1, (old _ _ h2).1⟩
  ·refine List.pairwise_cons.2 ⟨fun d hd => ?_, hr.df.nd⟩
   obtain ⟨D, rfl, h1, h2⟩ := hr.df.ok d hd
   have := (old _ _ h2).2
   intro e
   simp only [mark, Deferred.mk.injEq, Target.collected.injEq] at e
   omega
  ·have := (hrep t).mono hle3
   exact LRep.of_rep this
 refine callsIn_wide.2 (hcall.mono ?_)
 rintro e' w3 ⟨⟨cv, rfl⟩, ⟨G3, s3, hx3, hh3, hN⟩ | ⟨G3, s3, hx3, hh3, hob, hR⟩⟩
 ·have hl3 := (hh3.ob _ _ (hx3.le.b _ _ hG1l)).2
  rw [← hrec] at hl3
  have hend := run_endLoop (P := P) hl3 (by simp [recOf])
  refine ⟨none, _, hend, ?_⟩
  exact .inl ⟨_, hrest s3 w.heap.size hN, fin G3 s3 w3 (fun k y _ h => hx3.le.b _ _ h) hx3.le.f hx3.le.o ((hx.trans hx1).trans hx3) hh3 ⟨_, hl3⟩ _⟩
 ·have hxe : Ext e.G e.s e.w (G1.drop (w.heap.size + 1)) st.s (W1.putObj (w.heap.size + 1) (.loop (doneOf fn a.tmps p (.region ida opsA false) body w.heap.size))) := by
   refine ((hx.trans hx1).putObj (by omega) _).dropR ?_
   cases hq : e.G.ob (w.heap.size + 1) with
   | none => rfl
   | some y =>
    have := (Array.getElem?_eq_some_iff.1 (hr.hr.ob _ y (hx.le.b _ _ hq)).2).1
    omega
  have nf : ¬ foot (G1.drop (w.heap.size + 1)) st.s (w.heap.size + 1) := fun hf => by
   obtain ⟨y, k1, k2⟩ := hH1.foot_cells hf
   rw [hl1] at k1; cases k1; rw [hrc] at k2; cases k2
  have hl3 : w3.heap[w.heap.size + 1]? = some (.loop (doneOf fn a.tmps p (.region ida opsA false) body w.heap.size)) :=
   (hx3.keep _ (by simp; omega) nf).trans (World.putObj_heap_same (by omega))
  have hend := run_endLoop (P := P) hl3 (by simp [doneOf])
  refine ⟨some .ret, _, hend, wpIn_ret (.inl ⟨_, hstop s3 w.heap.size hR, fin G3 s3 w3 (fun k y hk h => hx3.le.b _ _ (by simp only [Ghost.drop, if_neg hk]; exact h)) (fun b o v h => hx3.le.f b o v h) (fun g v h => hx3.le.o g v h) (hxe.trans hx3) hh3 ⟨_, hl3⟩ _⟩)⟩
end Go.Am
