/- A range over a function: a round, a call of yield, the loop. -/
import Derived.Test.YtdomhnkffghmlaaGreatDoorSAmMore
import Derived.RangeFuncSeq
import Derived.OrdersIn
set_option linter.unusedVariables false
set_option linter.unusedSimpArgs false
namespace Go.Am
variable {P : Program}
/-- The wide fence, in whatever round. -/
def Open (F : Fence) : Prop := F = Fence.wide ∨ ∃ l, F = Fence.wide.inRound l
theorem Open.fn {F : Fence} (h : Open F) (f : FuncId) : F.fn f := by rcases h with rfl | ⟨l, rfl⟩ <;> trivial
theorem Open.depth {F : Fence} (h : Open F) : F.depth = none := by rcases h with rfl | ⟨l, rfl⟩ <;> rfl
theorem Open.calls {F : Fence} (h : Open F) {n : Nat} {f : FuncId} {args : Array Value} {w : World} {R : Ending → World → Prop} (hc : Calls P f args w R) : CallsIn F n P f args w R := by
 rcases h with rfl | ⟨l, rfl⟩
 ·exact callsIn_wide.2 hc
 ·exact (callsIn_wide (n := n)).2 hc
theorem Open.rows {F : Fence} (h : Open F) {n : Nat} {row : String} {args : Array Value} {w : World} {R : Value → World → Prop} (hc : Rows P row args w R) : RowsIn F n P row args w R := by
 rcases h with rfl | ⟨l, rfl⟩
 ·exact fun c cs _ => let ⟨v, w', a, b⟩ := hc c cs; ⟨v, w', a, stepsIn_wide.2 b⟩
 ·exact fun c cs _ => let ⟨v, w', a, b⟩ := hc c cs; ⟨v, w', a, (stepsIn_wide.2 b : StepsIn (Machine.fenced P Fence.wide) P _ _)⟩
theorem wp_in {F : Fence} (hF : Open F) {o : Oper} {a : Act} {w : World} {next : Act → World → Prop} {Q : Exit → Act → World → Prop} (h : o.wp P a w next Q) (hnd : ∀ c, o.op ≠ .defer c) : o.wpIn F 0 P a w next Q := by
 refine ⟨fun f _ => hF.fn f, ?_⟩
 rw [Oper.semAt_eq _ _ _ hnd]
 unfold Oper.wp at h
 generalize (execOp a.eval o).run P w = r at h
 have hd : F.depth.isSome = true → 1 ≤ 0 := by rw [hF.depth]; simp
 unfold Oper.upon at h
 unfold Oper.uponIn
 split at h <;> first | exact h | exact ⟨hd, hF.calls h⟩ | exact ⟨hd, hF.rows h⟩ | exact h.elim
def noDefer (all : Array Oper) : Bool := all.toList.all fun o => match o.op with | .defer _ => false | _ => true
theorem noDefer_at {all : Array Oper} (h : noDefer all = true) {i : Nat} {o : Oper} (hi : all[i]? = some o) : ∀ c, o.op ≠ .defer c := fun c e => by
 have := List.all_eq_true.1 h o (List.mem_of_getElem? (by simpa using hi))
 rw [e] at this; cases this
/-- One step of a region, within a fence. -/
def stepIn (F : Fence) (P : Program) (all : Array Oper) (o : Oper) (a : Act) (w : World) (next : Act → World → Prop) (Q : Exit → Act → World → Prop) : Prop :=
 if Region.wanted o (yielded all a.tmps) then o.wpIn F 0 P a w next Q else (∀ f, o.about P w a.eval = some f → F.fn f) ∧ next (a.put o.dst undef) w
theorem gstepIn {F : Fence} (hF : Open F) {e : Entry} {all : Array Oper} {o : Oper} (hnd : ∀ c, o.op ≠ .defer c) {st : St} {K : St → Prop} {a : Act} {w : World} {Q : Exit → Act → World → Prop} (hPQ : PQ e Q) (h : gstep P all o st K) (hin : In e st a w) : stepIn F P all o a w (Then e K) Q := by
 obtain ⟨g1, g2, g3⟩ := gdOf_wanted (all := all) (o := o) hin
 unfold stepIn
 unfold gstep at h
 split at h
 ·rename_i hg
  rw [if_pos (g1 hg)]
  exact wp_in hF (aop_sound hPQ h hin) hnd
 ·rename_i hg
  rw [g2 hg]
  exact ⟨fun f _ => hF.fn f, _, h.2, skip_in h.1 hin⟩
 ·rename_i c b hg
  rw [g3 c b hg]
  split at h
  ·rename_i hc
   rw [if_pos (by simpa using hc)]
   exact wp_in hF (aop_sound hPQ h hin) hnd
  ·rename_i hc
   rw [if_neg (by simpa using hc)]
   exact ⟨fun f _ => hF.fn f, _, h.2, skip_in h.1 hin⟩
 ·exact h.elim
theorem stepIn_mono {F : Fence} {all : Array Oper} {o : Oper} {a : Act} {w : World} {next next' : Act → World → Prop} {Q : Exit → Act → World → Prop} (h : stepIn F P all o a w next Q) (hn : ∀ a w, next a w → next' a w) : stepIn F P all o a w next' Q := by
 unfold stepIn at h ⊢
 split at h
 ·rename_i hw
  rw [if_pos hw]
  refine ⟨h.1, ?_⟩
  have h2 := h.2
  generalize (o.semAt F.round a.eval).run P w = r at h2 ⊢
  unfold Oper.uponIn at h2 ⊢
  split at h2 <;> first | exact hn _ _ h2 | exact h2 | exact h2.elim | skip
  ·refine ⟨h2.1, h2.2.1, fun cs hr => ?_⟩
   obtain ⟨e, w', fr, k1, k2⟩ := h2.2.2 cs hr
   refine ⟨e, w', fr, ?_, k2⟩
   cases e <;> first | exact hn _ _ k1 | exact k1
  ·exact ⟨h2.1, h2.2.mono fun v w' k => hn _ _ k⟩
  ·refine ⟨h2.1, h2.2.mono fun e w' k => ?_⟩
   cases e <;> first | exact hn _ _ k | exact k
 ·rename_i hw
  rw [if_neg hw]
  exact ⟨h.1, hn _ _ h.2⟩
theorem wpOpsIn_cons {F : Fence} {all : Array Oper} {Q : Exit → Act → World → Prop} {i : Nat} {rest : List Nat} {o : Oper} (ho : all[i]? = some o) {a : Act} {w : World} (h : stepIn F P all o a w (wpOpsIn F 0 P all Q rest) Q) : wpOpsIn F 0 P all Q (i :: rest) a w := by
 simp only [wpOpsIn, ho]
 exact h
/-- Some operations of a region, within a fence, with what comes behind them. -/
theorem aopsIn {F : Fence} (hF : Open F) {e : Entry} {all : Array Oper} (hnd : noDefer all = true) {Q : Exit → Act → World → Prop} {K : St → Prop} {rest : List Nat} (hPQ : PQ e Q) (hQ : ∀ a w, Then e K a w → wpOpsIn F 0 P all Q rest a w) : ∀ (n k : Nat), k + n ≤ all.size → ∀ (st : St) (a : Act) (w : World),
  aops P all ((all.toList.drop k).take n) st K → In e st a w → wpOpsIn F 0 P all Q (List.range' k n ++ rest) a w
 | 0, k, hk, st, a, w, h, hin => by
  simp only [List.take_zero, aops] at h
  exact hQ a w ⟨st, h, hin⟩
 | n + 1, k, hk, st, a, w, h, hin => by
  have hlt : k < all.size := by omega
  rw [List.drop_eq_getElem_cons (by simpa using hlt), List.take_succ_cons] at h
  rw [List.range'_succ, List.cons_append]
  have hi : all[k]? = some all.toList[k] := by simp [hlt]
  refine wpOpsIn_cons hi (stepIn_mono (gstepIn hF (noDefer_at hnd hi) hPQ h hin) ?_)
  rintro a' w' ⟨st', h', hin'⟩
  exact aopsIn hF hnd hPQ hQ n (k + 1) (by omega) st' a' w' h' hin'
/-- The orders in which a region whose order is open may go: a tree. -/
inductive OT where
 | fin
 | op (i : Nat) (t : OT)
 | both (a b : OT)
def OT.heads : OT → List Nat
 | .fin => []
 | .op i _ => [i]
 | .both a b => a.heads ++ b.heads
/-- The tree holds all that may come. -/
def OT.kids (all : Array Oper) : OT → Nat → Array Bool → Bool
 | .fin, _, _ => true
 | .op _ _, 0, _ => false
 | .op i t, f + 1, l => (Region.ready .any all (l.setIfInBounds i true) == t.heads) && OT.kids all t f (l.setIfInBounds i true)
 | .both a b, f, l => OT.kids all a f l && OT.kids all b f l
def OT.ok (all : Array Oper) (t : OT) : Bool := (Region.ready .any all (Array.replicate all.size false) == t.heads) && t.kids all all.size (Array.replicate all.size false)
def aopsO (P : Program) (all : Array Oper) : OT → St → (St → Prop) → Prop
 | .fin, st, K => K st
 | .op i t, st, K => match all[i]? with
  | some o => gstep P all o st fun st' => aopsO P all t st' K
  | none => False
 | .both a b, st, K => aopsO P all a st K ∧ aopsO P all b st K
theorem OT.head {all : Array Oper} {K : St → Prop} {st : St} {f : Nat} {l : Array Bool} {i : Nat} : ∀ (t : OT), i ∈ t.heads → t.kids all f l = true → aopsO P all t st K →
  ∃ f' t' o, f = f' + 1 ∧ all[i]? = some o ∧ Region.ready .any all (l.setIfInBounds i true) = t'.heads ∧ t'.kids all f' (l.setIfInBounds i true) = true ∧ gstep P all o st fun st' => aopsO P all t' st' K
 | .fin, hi, _, _ => by simp [OT.heads] at hi
 | .op j t, hi, hk, h => by
  obtain rfl : i = j := by simpa [OT.heads] using hi
  cases f with
  | zero => simp [OT.kids] at hk
  | succ f =>
   simp only [OT.kids, Bool.and_eq_true, beq_iff_eq] at hk
   simp only [aopsO] at h
   cases ho : all[i]? with
   | none => rw [ho] at h; exact h.elim
   | some o => rw [ho] at h; exact ⟨f, t, o, rfl, rfl, hk.1, hk.2, h⟩
 | .both a b, hi, hk, h => by
  simp only [OT.kids, Bool.and_eq_true] at hk
  rcases List.mem_append.1 (show i ∈ a.heads ++ b.heads from hi) with hi | hi
  ·exact OT.head a hi hk.1 h.1
  ·exact OT.head b hi hk.2 h.2
theorem OT.nohead {all : Array Oper} {K : St → Prop} {st : St} : ∀ (t : OT), t.heads = [] → aopsO P all t st K → K st
 | .fin, _, h => h
 | .op j t, hi, _ => by simp [OT.heads] at hi
 | .both a b, hi, h => OT.nohead a (List.append_eq_nil_iff.1 (show a.heads ++ b.heads = [] from hi)).1 h.1
theorem anyT {F : Fence} (hF : Open F) {e : Entry} {all : Array Oper} (hnd : noDefer all = true) {Q : Exit → Act → World → Prop} {K : St → Prop} (hPQ : PQ e Q) (hQ : ∀ a w, Then e K a w → Q .normal a w) : ∀ (fuel : Nat) (t : OT) (listed : Array Bool) (st : St) (a : Act) (w : World),
  Region.ready .any all listed = t.heads → t.kids all fuel listed = true → aopsO P all t st K → In e st a w → wpAnyIn F 0 P .any all Q fuel listed a w
 | 0, t, listed, st, a, w, hr, hk, h, hin => by
  have hn : t.heads = [] := by
   cases hq : t.heads with
   | nil => rfl
   | cons i r =>
    obtain ⟨f', _, _, hf, _⟩ := OT.head (i := i) t (by rw [hq]; simp) hk h
    cases hf
  exact ⟨hr.trans hn, hQ a w ⟨st, OT.nohead t hn h, hin⟩⟩
 | fuel + 1, t, listed, st, a, w, hr, hk, h, hin => by
  refine ⟨fun h0 => hQ a w ⟨st, OT.nohead t (hr.symm.trans h0) h, hin⟩, fun i hi => ?_⟩
  rw [hr] at hi
  obtain ⟨f', t', o, hf, ho, k1, k2, k3⟩ := OT.head (i := i) t hi hk h
  cases hf
  have := stepIn_mono (gstepIn (F := F) hF (noDefer_at hnd ho) (Q := Q) hPQ k3 hin) (next' := wpAnyIn F 0 P .any all Q fuel (listed.setIfInBounds i true)) ?_
  ·unfold stepIn at this
   unfold wpOpIn
   simp only [ho]
   exact this
  ·rintro a' w' ⟨st', h', hin'⟩
   exact anyT hF hnd hPQ hQ fuel t' _ st' a' w' k1 k2 h' hin'
/-- A region within a round, in the order of its text or in whatever order. -/
def rops (P : Program) (d : Option OT) (all : Array Oper) (st : St) (K : St → Prop) : Prop := match d with
 | none => aops P all all.toList st K
 | some t => t.ok all = true ∧ P.follows .mixedOrders = true ∧ aopsO P all t st K
theorem ropsIn {F : Fence} (hF : Open F) {e : Entry} {all : Array Oper} (hnd : noDefer all = true) {Q : Exit → Act → World → Prop} {K : St → Prop} (hPQ : PQ e Q) (hQ : ∀ a w, Then e K a w → Q .normal a w) {d : Option OT} {st : St} {a : Act} {w : World} (h : rops P d all st K) (hin : In e st a w) {id : Nat} :
  (Code.region id all d.isSome).wpIn F 0 P Q a w := by
 cases d with
 | none =>
  refine wpIn_region ?_
  rw [show List.range all.size = List.range' 0 all.size ++ [] by rw [List.append_nil, List.range_eq_range']]
  refine aopsIn hF hnd hPQ (fun a w h => by simpa only [wpOpsIn] using hQ a w h) all.size 0 (by omega) st a w ?_ hin
  rw [List.drop_zero, List.take_of_length_le (by simp)]
  exact h
 | some t =>
  obtain ⟨h1, h2, h3⟩ := h
  simp only [OT.ok, Bool.and_eq_true, beq_iff_eq] at h1
  refine wpIn_region_any h2 (anyT hF hnd hPQ hQ all.size t _ st a _ h1.1 h1.2 h3 ?_)
  obtain ⟨G, be, hx, hr⟩ := hin
  exact ⟨G, be, hx.trans (Ext.more (More.drew w)), hr.more (More.drew w)⟩
/-- A call of yield, in abstract values. -/
def YieldOk (P : Program) (lo : Ghost) (l : Nat) (args : List V) (s : Heap) (R : V → Heap → Prop) : Prop :=
 ∀ G w (cargs : Array Value), HRel G s w → lo.Le G → RepL G args cargs.toList → YieldAt Fence.wide 0 P l cargs w fun e w' => ∃ G' s' v cv, e = .returned cv ∧ Rep G' v cv ∧ Ext G s w G' s' w' ∧ HRel G' s' w' ∧ R v s'
def yieldV (l : Nat) : V := .base (.func (.yield l) #[] #[])
/-! ### The loop -/
def Ghost.addOb (G : Ghost) (k : Nat) (x : Obj) : Ghost := { G with ob := fun k' => if k' = k then some x else G.ob k' }
theorem Ghost.le_addOb {G : Ghost} {k : Nat} {x : Obj} (hk : ∀ y, G.ob k = some y → y = x) : G.Le (G.addOb k x) :=
 ⟨fun _ _ _ h => h, fun _ _ h => h, fun k' y h => by
  simp only [Ghost.addOb]
  split
  ·rename_i e; subst e; rw [hk y h]
  ·exact h⟩
theorem HRel.addOb {G : Ghost} {s : Heap} {w : World} (h : HRel G s w) {k : Nat} {x : Obj} (hk : w.heap[k]? = some x) (hx : isC x = false) : HRel (G.addOb k x) s w where
 frz := h.frz
 box := fun b cs ty hb => by
  obtain ⟨ccs, a, c, d⟩ := h.box b cs ty hb
  exact ⟨ccs, a, ⟨c.1, fun i c' v p q => Rep.mono0 (G := G) (G' := G.addOb k x) (fun _ _ _ h => h) (fun _ _ h => h) (c.2 i c' v p q)⟩, d⟩
 own := h.own
 sep := h.sep
 nobox := h.nobox
 fin := h.fin
 ob := fun k' y hy => by
  simp only [Ghost.addOb] at hy
  split at hy
  ·rename_i e; subst e; cases hy; exact ⟨hx, hk⟩
  ·exact h.ob k' y hy
 tab := h.tab
 siz := h.siz
def recOf (fn : FuncId) (tmps : Array Value) (p : Nat) (assign body : Code) (D : Nat) (s : LoopState) : Loop := { state := s, pending := none, fn := fn, tmps := tmps, params := #[p], assign := assign, body := body, defers := D }
abbrev Ghost.bot : Ghost := ⟨fun _ _ => none, fun _ => none, fun _ => none⟩
/-- What is asked of a round: the loop's variable is laid (in a box of the round's own), then the body. -/
def RoundIs {α : Type} (P : Program) (E : Nat → V) (n p : Nat) (enc : α → V) (Hs : List α → Heap → Prop) (A : List α → α → Prop) (opsA opsB : Array Oper) (dB : Option OT) : Prop :=
 ∀ pre x s, Hs pre s → A pre x → ∀ K1 : St → Prop,
  (∀ st1 t5 cs ty, st1.loc = upd (fun _ => none) t5 (some (cs, ty)) → st1.ds = [] → st1.lo = Ghost.bot →
   (∀ b, st1.s.box b = none → ∀ K2 : St → Prop, (∀ st2 s', st2.s.le s' → Hs (pre ++ [x]) s' → K2 st2) → rops P dB opsB (st1.publish t5 b (cs, ty)) K2) → K1 st1) →
  aops P opsA opsA.toList { E := upd E p (enc x), loc := fun _ => none, s := s, n := n } K1
theorem round_yield {α : Type} {lo : Ghost} {l p : Nat} {fn : FuncId} {tm : Array Value} {ida ib idb : Nat} {opsA opsB : Array Oper} {dB : Option OT} {D n : Nat} {E : Nat → V} {enc : α → V} {Hs : List α → Heap → Prop}
  (hrec : lo.ob l = some (.loop (recOf fn tm p (.region ida opsA false) (.block ib (.region idb opsB dB.isSome)) D .ready))) (htm : tm.size = n) (hE : ∀ t, Rep lo (E t) (tm.getD t undef)) (hp : p < n)
  (hA : noDefer opsA = true) (hB : noDefer opsB = true) {A : List α → α → Prop} (hround : RoundIs P E n p enc Hs A opsA opsB dB) (pre : List α) (x : α) (s : Heap) (hs : Hs pre s) (hN : A pre x) :
  YieldOk P lo l [enc x] s fun v s' => v = .base (.bool true) ∧ Hs (pre ++ [x]) s' := by
 intro G w cargs hh hlo hargs
 obtain ⟨v, vs, e1, hv, hnil⟩ := hargs.uncons
 have := hnil.nil_inv
 subst this
 obtain rfl : cargs = #[v] := by rw [← Array.toList_inj, e1]
 have hGl : G.ob l = some _ := hlo.b _ _ hrec
 have hl := (hh.ob l _ hGl).2
 have hll : l < w.heap.size := (Array.getElem?_eq_some_iff.1 hl).1
 have hyr := run_yield (P := P) (args := #[v]) hl (by simp [recOf])
 refine ⟨_, _, _, _, hyr, roundIn_of_wpIn trivial ?_⟩
 simp only [recOf]
 have htmps : Array.foldl (fun tmps (x : Tmp × Value) => tmps.setIfInBounds x.1 x.2) tm (#[p].zip #[v]) = tm.setIfInBounds p v := by simp
 simp only [htmps]
 have hin0 : In ⟨G.drop l, s, w, [], noPan⟩ { E := upd E p (enc x), loc := fun _ => none, s := s, n := n } { tmps := tm.setIfInBounds p v, defers := [] } w := by
  refine ⟨G.drop l, fun _ => none, Ext.refl _ _ _, hh.drop l, by simpa using htm, Dfs.nil, fun t => ?_, (fun t cs ty ht => by cases ht), fun t t' b h1 => absurd rfl h1⟩
  by_cases ht : t = p
  ·subst ht
   simp only [upd_same, Array.getD_eq_getD_getElem?, Array.getElem?_setIfInBounds_self_of_lt (by omega : t < tm.size), Option.getD_some]
   exact LRep.of_rep hv.toDrop
  ·simp only [upd_other _ _ _ _ ht, Array.getD_eq_getD_getElem?, Array.getElem?_setIfInBounds_ne (Ne.symm ht)]
   have := hE t
   rw [Array.getD_eq_getD_getElem?] at this
   exact LRep.of_rep (this.mono hlo).toDrop
 refine wpIn_region ?_
 have hspl : ∀ ops : Array Oper, List.range ops.size = List.range' 0 ops.size ++ [] := fun ops => by rw [List.append_nil, List.range_eq_range']
 rw [hspl]
 refine aopsIn (.inr ⟨l, rfl⟩) hA (e := ⟨G.drop l, s, w, [], noPan⟩) (K := fun st1 => ∃ t5 cs ty, st1.loc = upd (fun _ => none) t5 (some (cs, ty)) ∧ st1.ds = [] ∧ st1.lo = Ghost.bot ∧ ∀ b, st1.s.box b = none → ∀ K2 : St → Prop, (∀ st2 s', st2.s.le s' → Hs (pre ++ [x]) s' → K2 st2) → rops P dB opsB (st1.publish t5 b (cs, ty)) K2) (PQ.no rfl) (fun a1 w1 hth => ?_) opsA.size 0 (by omega) _ _ w (by
  rw [List.drop_zero, List.take_of_length_le (by simp)]
  exact hround pre x s hs hN _ fun st1 t5 cs ty h1 h2 h2' h3 => ⟨t5, cs, ty, h1, h2, h2', h3⟩) hin0
 obtain ⟨st1, ⟨t5, cs, ty, hloc, hds, hlo1, hb⟩, hin1⟩ := hth
 obtain ⟨b, hbn, G1, be, hx1, hr1⟩ := hin1.publish (t0 := t5) (x := (cs, ty)) (by rw [hloc, upd_same])
 have nf : ¬ foot (G.drop l) s l := fun hf => by
  obtain ⟨y, k1, k2⟩ := hh.foot_cells hf
  rw [hl] at k1; cases k1; cases k2
 have hl1 := (hx1.keep l hll nf).trans hl
 have hbr := run_beginRound (P := P) hl1 rfl
 refine ⟨_, hbr, ?_⟩
 generalize hw2 : w1.putObj l _ = w2
 have hw2l : w2.heap[l]? = some (.loop (recOf fn tm p (.region ida opsA false) (.block ib (.region idb opsB dB.isSome)) D .busy)) := by
  rw [← hw2]; exact World.putObj_heap_same (Array.getElem?_eq_some_iff.1 hl1).1
 have hw2s : w2.heap.size = w1.heap.size := by rw [← hw2]; simp
 have hw2o : ∀ k, k ≠ l → w2.heap[k]? = w1.heap[k]? := fun k hk => by rw [← hw2]; exact World.putObj_heap_other hk
 have hH2 : HRel (G1.drop l) (st1.publish t5 b (cs, ty)).s w2 := by rw [← hw2]; exact (hr1.hr.drop l).putObj hl1 rfl (by simp [Ghost.drop])
 have hlocn : (st1.publish t5 b (cs, ty)).loc = fun _ => none := by
  funext t
  simp only [St.publish, hloc, upd]
  split <;> rfl
 have hsteq : st1.publish t5 b (cs, ty) = { E := (st1.publish t5 b (cs, ty)).E, loc := fun _ => none, s := (st1.publish t5 b (cs, ty)).s, n := st1.n } := by
  have e1 : (st1.publish t5 b (cs, ty)).ds = [] := hds
  have e2 : (st1.publish t5 b (cs, ty)).lo = Ghost.bot := hlo1
  have e3 : (st1.publish t5 b (cs, ty)).n = st1.n := rfl
  have e4 := hlocn
  have e5 : (st1.publish t5 b (cs, ty)).pp = noPan := hr1.df.pp
  generalize st1.publish t5 b (cs, ty) = z at e1 e2 e3 e4 e5 ⊢
  cases z
  simp only at e1 e2 e3 e4 e5
  subst e1; subst e2; subst e3; subst e4; subst e5
  rfl
 have hin2 : In ⟨G1.drop l, (st1.publish t5 b (cs, ty)).s, w2, [], noPan⟩ { E := (st1.publish t5 b (cs, ty)).E, loc := fun _ => none, s := (st1.publish t5 b (cs, ty)).s, n := st1.n } a1 w2 := by
  refine ⟨G1.drop l, be, Ext.refl _ _ _, hH2, hr1.n, ⟨by have := hr1.df.eq; rw [show (st1.publish t5 b (cs, ty)).ds = [] from hds] at this; exact this, (fun d h => by cases h), List.Pairwise.nil, Ghost.none_le _, rfl⟩, fun t => ?_, (fun t cs ty ht => by cases ht), fun t t' b h1 => absurd rfl h1⟩
  have := hr1.tmps t
  rw [hlocn] at this
  cases hv : (st1.publish t5 b (cs, ty)).E t <;> rw [hv] at this <;> simp only [hv] <;> first | exact Rep.toDrop this | exact absurd rfl this.1
 have hbody : rops P dB opsB { E := (st1.publish t5 b (cs, ty)).E, loc := fun _ => none, s := (st1.publish t5 b (cs, ty)).s, n := st1.n } (fun st2 => ∃ s', st2.s.le s' ∧ Hs (pre ++ [x]) s') := ?_
 ·refine wpIn_block (ropsIn (.inr ⟨l, rfl⟩) hB (e := ⟨G1.drop l, (st1.publish t5 b (cs, ty)).s, w2, [], noPan⟩) (K := fun st2 => ∃ s', st2.s.le s' ∧ Hs (pre ++ [x]) s') (PQ.no rfl) (fun a2 w3 hth2 => ?_) hbody hin2)
  obtain ⟨st3, ⟨s', hle, hHs⟩, G2, be2, hx2, hr2⟩ := hth2
  have nf2 : ¬ foot (G1.drop l) (st1.publish t5 b (cs, ty)).s l := fun hf => by
   obtain ⟨y, k1, k2⟩ := hH2.foot_cells hf
   rw [hw2l] at k1; cases k1; cases k2
  have hl2 := (hx2.keep l (Array.getElem?_eq_some_iff.1 hw2l).1 nf2).trans hw2l
  have her := run_endRound (P := P) none hl2
  show ∃ v w', _
  refine ⟨_, _, her, (G2.drop l).addOb l (.loop (recOf fn tm p (.region ida opsA false) (.block ib (.region idb opsB dB.isSome)) D .ready)), s', .base (.bool true), _, rfl, Rep.base _, ?_, ?_, rfl, hHs⟩
  ·have hss : w.heap.size ≤ w1.heap.size := hx1.size
   have hss2 : w2.heap.size ≤ w3.heap.size := hx2.size
   have fchain : ∀ b', foot (G1.drop l) (st1.publish t5 b (cs, ty)).s b' → foot G s b' ∨ w.heap.size ≤ b' := fun b' hf => hx1.foot b' hf
   refine ⟨⟨fun b' o v' h => hx2.le.f _ _ _ (hx1.le.f _ _ _ h), fun g v' h => hx2.le.o _ _ (hx1.le.o _ _ h), fun k y hk => ?_⟩, by simp only [World.putObj_size]; omega, (hx2.os.trans (by rw [← hw2]; rfl)).trans hx1.os, (hx2.tape.trans (by rw [← hw2]; rfl)).trans hx1.tape, (hx2.output.trans (by rw [← hw2]; rfl)).trans hx1.output, fun b' hb' hnf => ?_, fun b' hf => ?_, fun b' o hf => ?_, fun g hg => ?_⟩
   ·by_cases e : k = l
    ·subst e
     rw [hGl] at hk
     simp only [Ghost.addOb, if_pos]
     exact hk
    ·have h1 := hx1.le.b k y (by simp only [Ghost.drop, if_neg e]; exact hk)
     have h2 := hx2.le.b k y (by simp only [Ghost.drop, if_neg e]; exact h1)
     simp only [Ghost.addOb, Ghost.drop, if_neg e]
     exact h2
   ·by_cases e : b' = l
    ·subst e
     rw [World.putObj_heap_same (Array.getElem?_eq_some_iff.1 hl2).1, hl]
     rfl
    ·rw [World.putObj_heap_other e]
     refine (hx2.keep b' (show b' < w2.heap.size by omega) fun hf => ?_).trans ((hw2o b' e).trans (hx1.keep b' hb' hnf))
     rcases fchain b' hf with k | k
     ·exact hnf k
     ·omega
   ·rcases hx2.foot b' (foot_le hle hf) with k | k
    ·exact fchain b' k
    ·exact .inr (by simp only at k; omega)
   ·rcases hx2.frz b' o hf with k | k | k
    ·exact hx1.frz b' o k
    ·rcases fchain b' k with j | j
     ·exact .inr (.inl j)
     ·exact .inr (.inr j)
    ·exact .inr (.inr (by simp only at k; omega))
   ·have hg3 : st3.s.own g ≠ none := by
     rcases hle.own g with e | e
     ·rwa [← e]
     ·exact absurd e hg
    rcases hx2.keys g hg3 with k | k
    ·exact hx1.keys g k
    ·refine .inr ?_
     cases hq : G.om g with
     | none => rfl
     | some y => exact absurd (hx1.le.o g y hq) (by rw [show G1.om g = none from k]; simp)
  ·exact (((hr2.hr.weaken hle).drop l).putObj hl2 rfl (by simp [Ghost.drop])).addOb (World.putObj_heap_same (Array.getElem?_eq_some_iff.1 hl2).1) rfl
 ·have := hb b hbn (fun st2 => ∃ s', st2.s.le s' ∧ Hs (pre ++ [x]) s') fun st2 s' h1 h2 => ⟨s', h1, h2⟩
  rw [hsteq] at this
  exact this
/-- **A range over a function**, of whose values no own box is left. -/
theorem AWp.rangeFunc {α : Type} {Q : Exit → St → Prop} {st : St} {tf p ida ib idb : Nat} {opsA opsB : Array Oper} {dB : Option OT} {f : FuncId} {caps : List V} (enc : α → V) (Hs : List α → Heap → Prop) (S : List α → Prop) (A : List α → α → Prop)
  (hE : st.E tf = .func f [] caps) (hloc : st.loc = fun _ => none) (hp : p < st.n) (hA : noDefer opsA = true) (hB : noDefer opsB = true)
  (hround : RoundIs P st.E st.n p enc Hs A opsA opsB dB)
  (hit : ∀ (lo : Ghost) (l : Nat), (∀ pre x s, Hs pre s → A pre x → YieldOk P lo l [enc x] s fun v s' => v = .base (.bool true) ∧ Hs (pre ++ [x]) s') → ACallsO P lo f ([yieldV l] ++ caps) st.s fun _ s' => ∃ xs, S xs ∧ Hs xs s')
  (hrest : ∀ xs s' D, S xs → Hs xs s' → Q .normal { E := st.E, loc := fun _ => none, s := s', n := st.n, ds := mark D :: st.ds, lo := st.lo, pp := st.pp }) :
  AWp P (.rangeFunc (.tmp tf) #[p] (.region ida opsA false) (.block ib (.region idb opsB dB.isSome))) Q st := fun e a w hin => by
 obtain ⟨G, be, hx, hr⟩ := hin
 refine (wpIn_wide (n := 0)).1 (wpIn_rangeFunc fun fn _ => ?_)
 generalize hrec : (Obj.loop (recOf fn a.tmps p (.region ida opsA false) (.block ib (.region idb opsB dB.isSome)) w.heap.size .ready)) = rec
 have hrc : isC rec = false := by rw [← hrec]; rfl
 generalize hW1 : (w.alloc (.deferred (some []))).alloc rec = W1
 have hm : More w W1 := by rw [← hW1]; exact (More.alloc _ _).trans (More.alloc _ _)
 have hD1 : W1.heap[w.heap.size]? = some (.deferred (some [])) := by
  rw [← hW1, (More.alloc (w.alloc (.deferred (some []))) rec).keep _ (by simp)]; exact World.alloc_heap_new _ _
 have hl1 : W1.heap[w.heap.size + 1]? = some rec := by
  rw [← hW1]
  have := World.alloc_heap_new (w.alloc (.deferred (some []))) rec
  simpa using this
 have hW1s : W1.heap.size = w.heap.size + 2 := by rw [← hW1]; simp
 have hH1 : HRel ((G.addOb w.heap.size (.deferred (some []))).addOb (w.heap.size + 1) rec) st.s W1 := ((hr.hr.more hm).addOb hD1 rfl).addOb hl1 hrc
 have hle1 : G.Le ((G.addOb w.heap.size (.deferred (some []))).addOb (w.heap.size + 1) rec) := by
  refine (Ghost.le_addOb fun y hy => ?_).trans (Ghost.le_addOb fun y hy => ?_)
  ·rw [hr.hr.ob_ge (Nat.le_refl _)] at hy; cases hy
  ·simp only [Ghost.addOb] at hy
   rw [if_neg (by omega), hr.hr.ob_ge (by omega)] at hy; cases hy
 have hx1 : Ext G st.s w ((G.addOb w.heap.size (.deferred (some []))).addOb (w.heap.size + 1) rec) st.s W1 :=
  ⟨hle1, hm.size, hm.os, hm.tape, hm.output, fun b hb _ => hm.keep b hb, fun _ h => .inl h, fun _ _ h => .inl h, fun _ h => .inl h⟩
 generalize hG1 : (G.addOb w.heap.size (.deferred (some []))).addOb (w.heap.size + 1) rec = G1 at hH1 hle1 hx1
 have hG1D : G1.ob w.heap.size = some (.deferred (some [])) := by rw [← hG1]; simp [Ghost.addOb]
 have hG1l : G1.ob (w.heap.size + 1) = some rec := by rw [← hG1]; simp [Ghost.addOb]
 have hnl : ∀ t, LRep G be (fun _ => none) (st.E t) (a.tmps.getD t undef) := fun t => by rw [← hloc]; exact hr.tmps t
 have hrep : ∀ t, Rep G (st.E t) (a.tmps.getD t undef) := fun t => by
  have := hnl t
  cases hv : st.E t <;> rw [hv] at this <;> first | exact this | exact absurd rfl this.1
 have hh := hrep tf
 rw [hE] at hh
 have hq : ∃ cc : Array Value, a.eval (.tmp tf) = .func (.func f) #[] cc ∧ RepL G caps cc.toList := by
  show ∃ cc : Array Value, a.tmps.getD tf undef = .func (.func f) #[] cc ∧ _
  generalize a.tmps.getD tf undef = q at hh
  cases hh with
  | func _ _ _ cf cc l1 l2 r1 r2 =>
   have : cf = #[] := Array.eq_empty_of_size_eq_zero (by simpa using l1.symm)
   subst this
   exact ⟨cc, rfl, repL_of_arr l2 r2⟩
 obtain ⟨cc, hq, hcc⟩ := hq
 have hY : ∀ pre x s, Hs pre s → A pre x → YieldOk P G1 (w.heap.size + 1) [enc x] s fun v s' => v = .base (.bool true) ∧ Hs (pre ++ [x]) s' :=
  round_yield (by rw [hG1l, ← hrec]) hr.n (fun t => (hrep t).mono hle1) hp hA hB hround
 obtain ⟨⟨fnn, hfn, hbody, hname⟩, hcall⟩ := hit G1 (w.heap.size + 1) hY
 have hcall := hcall G1 W1 (#[.func (.yield (w.heap.size + 1)) #[] #[]] ++ cc) hH1 (Ghost.Le.refl _) (by
  simpa using RepL.cons (show Rep G1 (yieldV (w.heap.size + 1)) _ from Rep.base _) (hcc.mono hle1))
 refine ⟨w.heap.size + 1, [mark w.heap.size], W1, { target := .fn (.func f) cc, args := #[.func (.yield (w.heap.size + 1)) #[] #[]] }, W1, f, #[.func (.yield (w.heap.size + 1)) #[] #[]] ++ cc, W1, ?_, ?_, fun _ _ => trivial, ?_, fun h => by simp [Fence.wide] at h, ?_⟩
 ·rw [← hW1, ← hrec]
  exact run_enterLoop_outer (P := P) (w := w) fn a.tmps #[p] _ _
 ·simp only [resolve, hq, Deferred.ofValue, Sem.run_pure, Array.empty_append]
  simp [Act.eval]
 ·simp only [invoke, callFunc, run_program, Sem.run_bind, Result.andThen_ok, hfn, hname, Bool.false_eq_true, if_false, hbody, Sem.run_pure]
 ·refine callsIn_wide.2 (hcall.mono ?_)
  rintro e' w3 ⟨G3, s3, v, cv, rfl, hv, hx3, hh3, xs, hS, hHs⟩
  have hl3 := (hh3.ob _ _ (hx3.le.b _ _ hG1l)).2
  rw [← hrec] at hl3
  have hend := run_endLoop (P := P) hl3 (by simp [recOf])
  refine ⟨none, _, hend, ?_⟩
  have hxx : Ext e.G e.s e.w G3 s3 w3 := (hx.trans hx1).trans hx3
  have hsz : e.w.heap.size ≤ w.heap.size := hx.size
  have old : ∀ k y, G.ob k = some y → (G3.drop (w.heap.size + 1)).ob k = some y ∧ k < w.heap.size := fun k y hk => by
   have h1 := (Array.getElem?_eq_some_iff.1 (hr.hr.ob k y hk).2).1
   refine ⟨?_, h1⟩
   simp only [Ghost.drop]
   rw [if_neg (by omega)]
   exact hx3.le.b _ _ (hle1.b _ _ hk)
  have hle3 : G.Le (G3.drop (w.heap.size + 1)) := ⟨fun b o v h => hx3.le.f _ _ _ (hle1.f _ _ _ h), fun g v h => hx3.le.o _ _ (hle1.o _ _ h), fun k y hk => (old k y hk).1⟩
  refine .inl ⟨_, hrest xs s3 w.heap.size hS hHs, G3.drop (w.heap.size + 1), be, (hxx.putObj (by omega) _).dropR ?_, (hh3.drop _).putObj hl3 rfl (by simp [Ghost.drop]), hr.n, ⟨?_, fun d hd => ?_, ?_, hr.df.lo.trans hle3, hr.df.pp⟩, fun t => ?_, (fun t cs ty ht => by cases ht), fun t t' b h1 => absurd rfl h1⟩
  ·cases hq : e.G.ob (w.heap.size + 1) with
   | none => rfl
   | some y => have := (old _ _ (hx.le.b _ _ hq)).2; omega
  ·show [mark w.heap.size] ++ a.defers = _
   rw [hr.df.eq]; rfl
  ·rcases List.mem_cons.1 hd with rfl | hd
   ·refine ⟨_, rfl, hsz, ?_⟩
    simp only [Ghost.drop]
    rw [if_neg (by omega)]
    exact hx3.le.b _ _ hG1D
   ·obtain ⟨D, rfl, h1, h2⟩ := hr.df.ok d hd
    exact ⟨D, rfl, h1, (old _ _ h2).1⟩
  ·refine List.pairwise_cons.2 ⟨fun d hd => ?_, hr.df.nd⟩
   obtain ⟨D, rfl, h1, h2⟩ := hr.df.ok d hd
   have := (old _ _ h2).2
   intro e
   simp only [mark, Deferred.mk.injEq, Target.collected.injEq] at e
   omega
  ·have := (hrep t).mono hle3
   exact LRep.of_rep this
end Go.Am
