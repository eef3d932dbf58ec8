/- How an abstract state follows memory: a new block, a block that never turns again, a box written. -/
import Derived.Test.YtdomhnkffghmlaaGreatDoorSAmState
import Derived.Laws.CopyRow
set_option linter.unusedVariables false
namespace Go.Am
theorem HRel.same {G : Ghost} {s : Heap} {w w' : World} (h : HRel G s w) (hc : ∀ b o v, G.F b o = some v → w'.cell? ⟨b, o, none⟩ = w.cell? ⟨b, o, none⟩)
  (hb : ∀ b, foot G s b → w'.heap[b]? = w.heap[b]?) (ho : ∀ b x, G.ob b = some x → w'.heap[b]? = w.heap[b]?)
  (hz : ∀ (b : Nat) (cs : Array Value) (ty : TypeId) (fr : Nat × Nat), w.heap[b]? = some (.cells cs ty fr) → ∃ (cs' : Array Value) (ty' : TypeId) (fr' : Nat × Nat), w'.heap[b]? = some (.cells cs' ty' fr') ∧ cs'.size = cs.size) : HRel G s w' where
 frz := fun b o v hv => (hc b o v hv).trans (h.frz b o v hv)
 box := fun b cs ty hx => by
  obtain ⟨ccs, h1, h2⟩ := h.box b cs ty hx
  exact ⟨ccs, (hb b (.inl (by rw [hx]; simp))).trans h1, h2⟩
 own := fun g e sz hg => by
  obtain ⟨v, hv, ho⟩ := h.own g e sz hg
  refine ⟨v, hv, ?_⟩
  rcases ho with ⟨a, rfl⟩ | ⟨b, n, cap, cur, rfl, h1, h2⟩
  ·exact .inl ⟨a, rfl⟩
  ·exact .inr ⟨b, n, cap, cur, rfl, (hb b (.inr ⟨g, _, _, hg, hv, rfl⟩)).trans h1, h2⟩
 sep := h.sep
 nobox := h.nobox
 fin := h.fin
 ob := fun k x hk => ⟨(h.ob k x hk).1, (ho k x hk).trans (h.ob k x hk).2⟩
 tab := h.tab
 siz := h.siz.of hz
/-- A world that has what there was, and more blocks. -/
structure More (w w' : World) : Prop where
 size : w.heap.size ≤ w'.heap.size
 os : w'.os = w.os
 tape : w'.tape = w.tape
 output : w'.output = w.output
 keep : ∀ b, b < w.heap.size → w'.heap[b]? = w.heap[b]?
theorem More.alloc (w : World) (o : Obj) : More w (w.alloc o) := ⟨by simp, rfl, rfl, rfl, fun b hb => heap_alloc_old w o b hb⟩
theorem More.drew (w : World) : More w w.drew := ⟨Nat.le_refl _, rfl, rfl, rfl, fun _ _ => rfl⟩
theorem More.trans {a b c : World} (h : More a b) (h' : More b c) : More a c :=
 ⟨Nat.le_trans h.size h'.size, h'.os.trans h.os, h'.tape.trans h.tape, h'.output.trans h.output, fun k hk => (h'.keep k (Nat.lt_of_lt_of_le hk h.size)).trans (h.keep k hk)⟩
theorem More.cell {w w' : World} (h : More w w') {b o : Nat} (hb : b < w.heap.size) : w'.cell? ⟨b, o, none⟩ = w.cell? ⟨b, o, none⟩ := by
 simp [World.cell?, h.keep b hb]
theorem HRel.more {G : Ghost} {s : Heap} {w w' : World} (h : HRel G s w) (hm : More w w') : HRel G s w' :=
 h.same (fun b o v hv => hm.cell (h.frz_lt (by rw [hv]; simp))) (fun b hb => hm.keep b (h.foot_lt hb)) (fun b x hb => hm.keep b (Array.getElem?_eq_some_iff.1 (h.ob b x hb).2).1) fun b cs ty fr hb => ⟨cs, ty, fr, (hm.keep b (Array.getElem?_eq_some_iff.1 hb).1).trans hb, rfl⟩
theorem setRow_siz {w : World} {b : Nat} {cur ccs' : Array Value} {ty0 : TypeId} {fr0 : Nat × Nat} (hb : w.heap[b]? = some (.cells cur ty0 fr0)) (hs : ccs'.size = cur.size) : ∀ (b' : Nat) (cs : Array Value) (ty : TypeId) (fr : Nat × Nat), w.heap[b']? = some (.cells cs ty fr) → ∃ (cs' : Array Value) (ty' : TypeId) (fr' : Nat × Nat), (w.setRow b ccs').heap[b']? = some (.cells cs' ty' fr') ∧ cs'.size = cs.size := fun b' cs ty fr h => by
 by_cases e : b' = b
 ·subst e
  rw [hb] at h; cases h
  exact ⟨ccs', _, _, setRow_heap _ _ _ _ _ _ hb, hs⟩
 ·exact ⟨cs, ty, fr, (setRow_other _ _ _ _ e).trans h, rfl⟩
theorem Ext.more {G : Ghost} {s : Heap} {w w' : World} (hm : More w w') : Ext G s w G s w' :=
 ⟨.refl G, hm.size, hm.os, hm.tape, hm.output, fun b hb _ => hm.keep b hb, fun _ h => .inl h, fun _ _ h => .inl h, fun _ h => .inl h⟩
theorem ARel.loc_lt {n0 : Base} {G : Ghost} {be : Nat → Option Nat} {st : St} {a : Act} {w : World} (h : ARel n0 G be st a w) {t b : Nat} (ht : st.loc t ≠ none) (hb : be t = some b) : b < w.heap.size := by
 cases hx : st.loc t with
 | none => exact absurd hx ht
 | some x =>
  obtain ⟨b', h1, _, ⟨ccs, h2, _⟩, _⟩ := h.loc t x.1 x.2 hx
  obtain rfl : b' = b := Option.some.inj (h1.symm.trans hb)
  exact (Array.getElem?_eq_some_iff.1 h2).1
theorem ARel.more {n0 : Base} {G : Ghost} {be : Nat → Option Nat} {st : St} {a : Act} {w w' : World} (h : ARel n0 G be st a w) (hm : More w w') : ARel n0 G be st a w' := by
 refine ⟨h.hr.more hm, h.n, h.df, h.tmps, fun t cs ty ht => ?_, h.inj⟩
 obtain ⟨b, h1, h2, ⟨ccs, h3, h4⟩, h5⟩ := h.loc t cs ty ht
 exact ⟨b, h1, h2, ⟨ccs, (hm.keep b (Array.getElem?_eq_some_iff.1 h3).1).trans h3, h4⟩, h5⟩
/-- The block's cells never turn again. -/
def Ghost.freeze (G : Ghost) (b : Nat) (ccs : Array Value) : Ghost := { G with F := fun b' o => if b' = b then ccs[o]? else G.F b' o }
theorem Ghost.freeze_le {G : Ghost} {b : Nat} (ccs : Array Value) (hF : ∀ o, G.F b o = none) : G.Le (G.freeze b ccs) :=
 ⟨fun b' o v h => by
  have : b' ≠ b := fun e => by subst e; rw [hF o] at h; cases h
  simpa [Ghost.freeze, this] using h, fun g v h => h, fun _ _ h => h⟩
theorem HRel.freeze {G : Ghost} {s : Heap} {w : World} (h : HRel G s w) {b : Nat} {ccs : Array Value} {e : TypeId} {fr : Nat × Nat} (hb : w.heap[b]? = some (.cells ccs e fr)) (hf : ¬ foot G s b) (hF : ∀ o, G.F b o = none) :
  HRel (G.freeze b ccs) s w where
 frz := fun b' o v hv => by
  by_cases e' : b' = b
  ·subst e'
   simp [Ghost.freeze] at hv
   rw [cell_of_row w b' o ccs e fr hb]
   exact hv
  ·simp [Ghost.freeze, e'] at hv; exact h.frz b' o v hv
 box := fun b' cs ty hx => by
  obtain ⟨c', h1, h2, h3, h4⟩ := h.box b' cs ty hx
  have hne : b' ≠ b := fun e' => hf (.inl (by rw [← e', hx]; simp))
  exact ⟨c', h1, h2.mono (Ghost.freeze_le ccs hF), h3, fun o => by simp [Ghost.freeze, hne, h4 o]⟩
 own := fun g e' sz hg => by
  obtain ⟨v, hv, ho⟩ := h.own g e' sz hg
  refine ⟨v, hv, ?_⟩
  rcases ho with ⟨a, rfl⟩ | ⟨b', n, cap, cur, rfl, h1, h2, h3, h4, h5⟩
  ·exact .inl ⟨a, rfl⟩
  ·have hne : b' ≠ b := fun e'' => hf (.inr ⟨g, _, _, hg, hv, by simp [blk, e'']⟩)
   exact .inr ⟨b', n, cap, cur, rfl, h1, h2, h3, h4, fun o ho => by simp [Ghost.freeze, hne, h5 o ho]⟩
 sep := h.sep
 nobox := h.nobox
 fin := h.fin
 ob := h.ob
 tab := h.tab.mono (Ghost.freeze_le ccs hF).f
 siz := h.siz
theorem ARel.freeze {n0 : Base} {G : Ghost} {be : Nat → Option Nat} {st : St} {a : Act} {w : World} (h : ARel n0 G be st a w) {b : Nat} {ccs : Array Value} {e : TypeId} {fr : Nat × Nat} (hb : w.heap[b]? = some (.cells ccs e fr)) (hf : ¬ foot G st.s b)
  (hF : ∀ o, G.F b o = none) (hl : ∀ t, st.loc t ≠ none → be t ≠ some b) : ARel n0 (G.freeze b ccs) be st a w := by
 refine ⟨h.hr.freeze hb hf hF, h.n, h.df.mono (Ghost.freeze_le ccs hF), fun t => (h.tmps t).mono (Ghost.freeze_le ccs hF), fun t cs ty ht => ?_, h.inj⟩
 obtain ⟨b', h1, h2, ⟨c', h3, h4, h5⟩, h6, h7⟩ := h.loc t cs ty ht
 have hne : b' ≠ b := fun e' => hl t (by rw [ht]; simp) (by rw [h1, e'])
 exact ⟨b', h1, h2, ⟨c', h3, h4.mono (Ghost.freeze_le ccs hF), h5⟩, fun o => by simp [Ghost.freeze, hne, h6 o], h7⟩
/-- A new block of cells that never turn again. -/
theorem ARel.allocFrozen {n0 : Base} {G : Ghost} {be : Nat → Option Nat} {st : St} {a : Act} {w : World} (h : ARel n0 G be st a w) (ccs : Array Value) (e : TypeId) :
  ARel n0 (G.freeze w.heap.size ccs) be st a (w.alloc (.cells ccs e)) ∧ Ext G st.s w (G.freeze w.heap.size ccs) st.s (w.alloc (.cells ccs e)) := by
 have hF : ∀ o, G.F w.heap.size o = none := fun o => by
  cases hx : G.F w.heap.size o with
  | none => rfl
  | some v => have := h.hr.frz_lt (b := w.heap.size) (o := o) (by rw [hx]; simp); omega
 have hf : ¬ foot G st.s w.heap.size := fun hf => by have := h.hr.foot_lt hf; omega
 have h' := h.more (More.alloc w (.cells ccs e))
 refine ⟨h'.freeze (heap_alloc_new w _) hf hF (fun t ht hb => by have := h.loc_lt ht hb; omega), ?_⟩
 have hm := More.alloc w (.cells ccs e)
 refine ⟨Ghost.freeze_le ccs hF, hm.size, hm.os, hm.tape, hm.output, fun b hb _ => hm.keep b hb, fun b hb => .inl hb, fun b o hb => ?_, fun _ h => .inl h⟩
 by_cases e' : b = w.heap.size
 ·exact .inr (.inr (by omega))
 ·simp [Ghost.freeze, e'] at hb; exact .inl hb
end Go.Am
