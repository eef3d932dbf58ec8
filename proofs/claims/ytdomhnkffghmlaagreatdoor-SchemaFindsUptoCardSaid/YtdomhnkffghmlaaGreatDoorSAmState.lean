/- The state of a call in abstract values, and what it says of the machine's own. -/
import Derived.Test.YtdomhnkffghmlaaGreatDoorS1
set_option linter.unusedVariables false
namespace Go.Am
/-- What a cell's or a constant's own value is as an abstract one. -/
def V.ofCell : Value → V
 | .slice none 0 0 => .nil
 | v => .base v
def V.ofVal : Value → V
 | .slice none 0 0 => .nil
 | .agg cs => .agg (cs.toList.map V.ofCell)
 | v => .base v
theorem rep_ofCell (G : Ghost) (v : Value) : Rep G (V.ofCell v) v := by
 unfold V.ofCell; split
 ·exact .nil
 ·exact .base _
theorem repL_ofCells (G : Ghost) (l : List Value) : RepL G (l.map V.ofCell) l := by
 refine ⟨by simp, fun i c v a b => ?_⟩
 simp [b] at a; subst a; exact rep_ofCell G v
theorem rep_ofVal (G : Ghost) (v : Value) : Rep G (V.ofVal v) v := by
 unfold V.ofVal; split
 ·exact .nil
 ·exact (repL_ofCells G _).agg
 ·exact .base _
/-- No panic may leave. -/
def noPan : Value → Heap → Prop := fun _ _ => False
/-- A call's state: its temporaries, its own boxes by the temporary that made them, the heap, how many temporaries. -/
structure St where
 E : Nat → V
 loc : Nat → Option (List V × TypeId)
 s : Heap
 n : Nat
 ds : List Deferred := []
 lo : Ghost := ⟨fun _ _ => none, fun _ => none, fun _ => none⟩
 pp : Value → Heap → Prop := noPan
def St.eval (st : St) : Operand → V
 | .tmp t => st.E t
 | .const v => V.ofVal v
 | .global _ => .any
 | .func f => .func f [] []
def upd {α : Type} (f : Nat → α) (t : Nat) (v : α) : Nat → α := fun t' => if t' = t then v else f t'
theorem upd_same {α : Type} (f : Nat → α) (t : Nat) (v : α) : upd f t v t = v := by simp [upd]
theorem upd_other {α : Type} (f : Nat → α) (t : Nat) (v : α) (t' : Nat) (h : t' ≠ t) : upd f t v t' = f t' := by simp [upd, h]
theorem upd_comm {α : Type} (f : Nat → α) (t u : Nat) (v x : α) (h : t ≠ u) : upd (upd f t v) u x = upd (upd f u x) t v := by
 funext k
 unfold upd
 by_cases h1 : k = t
 ·by_cases h2 : k = u
  ·exact absurd (h1.symm.trans h2) h
  ·simp [h1, h]
 ·simp [h1]
def St.put (st : St) (d : Option Tmp) (v : V) : St :=
 match d with
 | some t => { st with E := upd st.E t v }
 | none => st
/-- A temporary's value, the pointers to the call's own boxes among them. -/
def LRep (G : Ghost) (be : Nat → Option Nat) (loc : Nat → Option (List V × TypeId)) (c : V) (v : Value) : Prop :=
 match c with
 | .loc t off => loc t ≠ none ∧ ∃ b, be t = some b ∧ v = .pointer (some ⟨b, off, none⟩)
 | c => Rep G c v
theorem LRep.mono {G G' : Ghost} (hg : G.Le G') {be : Nat → Option Nat} {loc : Nat → Option (List V × TypeId)} {c : V} {v : Value} (h : LRep G be loc c v) : LRep G' be loc c v := by
 cases c <;> first | exact Rep.mono hg h | exact h
theorem LRep.of_rep {G : Ghost} {be : Nat → Option Nat} {loc : Nat → Option (List V × TypeId)} {c : V} {v : Value} (h : Rep G c v) : LRep G be loc c v := by
 cases h <;> first
  | exact .any _ | exact .base _ | exact .nil | exact .zcap _ | exact .slice0 _ _ _ | exact .ptr _ _ | skip
 case agg cs ccs hl h => exact .agg _ _ hl h
 case slice sz es b o cap cells h1 h2 h3 h4 h5 h6 => exact Rep.slice sz es b o cap cells h1 h2 h3 h4 h5 h6
 case own g sz es h ho => exact Rep.own g sz es _ h ho
 case elt cs off b o cells h1 h2 h3 => exact Rep.elt cs off b o cells h1 h2 h3
 case func f first cap cf cc h1 h2 h3 h4 => exact Rep.func f first cap cf cc h1 h2 h3 h4
 case tuple cs ccs hl h => exact .tuple _ _ hl h
theorem LRep.rep {G : Ghost} {be : Nat → Option Nat} {loc : Nat → Option (List V × TypeId)} {c : V} {v : Value} (h : LRep G be loc c v) (hc : ∀ t off, c ≠ .loc t off) : Rep G c v := by
 cases c <;> first | exact h | exact absurd rfl (hc _ _)
/-- The mark that a range over a function leaves. -/
def mark (D : Nat) : Deferred := { target := .collected D, args := #[] }
/-- Where a call began: how much memory there was; what it has deferred beside marks. -/
structure Base where
 n : Nat
 tl : List Deferred
 pp : Value → Heap → Prop := noPan
/-- What is known of a call's marks, and of objects that are no cells. -/
structure Dfs (n0 : Base) (G : Ghost) (l : List Deferred) (ds : List Deferred) (lo : Ghost) (pp : Value → Heap → Prop) : Prop where
 eq : l = ds ++ n0.tl
 ok : ∀ d ∈ ds, ∃ D, d = mark D ∧ n0.n ≤ D ∧ G.ob D = some (.deferred (some []))
 nd : ds.Pairwise (· ≠ ·)
 lo : lo.Le G
 pp : pp = n0.pp
theorem Dfs.mono {n0 : Base} {G G' : Ghost} {l ds : List Deferred} {lo : Ghost} {pp : Value → Heap → Prop} (h : Dfs n0 G l ds lo pp) (hle : G.Le G') : Dfs n0 G' l ds lo pp :=
 ⟨h.eq, fun d hd => let ⟨D, a, b, c⟩ := h.ok d hd; ⟨D, a, b, hle.b _ _ c⟩, h.nd, h.lo.trans hle, h.pp⟩
theorem Ghost.none_le (G : Ghost) : Ghost.Le ⟨fun _ _ => none, fun _ => none, fun _ => none⟩ G := ⟨(fun _ _ _ h => by cases h), (fun _ _ h => by cases h), (fun _ _ h => by cases h)⟩
theorem Dfs.nil {n : Nat} {G : Ghost} {pp : Value → Heap → Prop} : Dfs ⟨n, [], pp⟩ G [] [] ⟨fun _ _ => none, fun _ => none, fun _ => none⟩ pp := ⟨rfl, (fun d h => by cases h), List.Pairwise.nil, G.none_le, rfl⟩
structure ARel (n0 : Base) (G : Ghost) (be : Nat → Option Nat) (st : St) (a : Act) (w : World) : Prop where
 hr : HRel G st.s w
 n : a.tmps.size = st.n
 df : Dfs n0 G a.defers st.ds st.lo st.pp
 tmps : ∀ t, LRep G be st.loc (st.E t) (a.tmps.getD t undef)
 loc : ∀ t cs ty, st.loc t = some (cs, ty) → ∃ b, be t = some b ∧ n0.n ≤ b ∧ (∃ ccs : Array Value, w.heap[b]? = some (.cells ccs ty (0, 0)) ∧ RepL G cs ccs.toList ∧ (∀ v ∈ ccs.toList, v.oneCell' = true)) ∧ (∀ o, G.F b o = none) ∧ ¬ foot G st.s b
 inj : ∀ t t' b, st.loc t ≠ none → st.loc t' ≠ none → be t = some b → be t' = some b → t = t'
theorem ARel.eval {n0 : Base} {G : Ghost} {be : Nat → Option Nat} {st : St} {a : Act} {w : World} (h : ARel n0 G be st a w) (x : Operand) : LRep G be st.loc (st.eval x) (a.eval x) := by
 cases x with
 | tmp t => exact h.tmps t
 | const v => exact LRep.of_rep (rep_ofVal G v)
 | global g => exact Rep.any _
 | func f => exact Rep.func f [] [] #[] #[] rfl rfl (fun i c v h => by simp at h) (fun i c v h => by simp at h)
/-- Where a call began. -/
structure Entry where
 G : Ghost
 s : Heap
 w : World
 tl : List Deferred := []
 pp : Value → Heap → Prop := noPan
abbrev Entry.base (e : Entry) : Base := ⟨e.w.heap.size, e.tl, e.pp⟩
/-- The machine is in an abstract state of a call that began there. -/
def In (e : Entry) (st : St) (a : Act) (w : World) : Prop := ∃ G be, Ext e.G e.s e.w G st.s w ∧ ARel e.base G be st a w
/-- A weaker state. -/
structure St.le (st st' : St) : Prop where
 E : ∀ t, st'.E t = st.E t ∨ st'.E t = .any
 loc : ∀ t, st'.loc t = st.loc t ∨ (st'.loc t = none ∧ ∀ t' off, st'.E t' ≠ .loc t off)
 box : ∀ b, st'.s.box b = st.s.box b ∨ st'.s.box b = none
 own : ∀ g, st'.s.own g = st.s.own g ∨ st'.s.own g = none
 n : st'.n = st.n
 ds : st'.ds = st.ds
 lo : st'.lo.Le st.lo
 pp : st'.pp = st.pp
structure Heap.le (s s' : Heap) : Prop where
 box : ∀ b, s'.box b = s.box b ∨ s'.box b = none
 own : ∀ g, s'.own g = s.own g ∨ s'.own g = none
theorem Heap.le.refl (s : Heap) : s.le s := ⟨fun _ => .inl rfl, fun _ => .inl rfl⟩
theorem foot_le {G : Ghost} {s s' : Heap} (h : s.le s') {b : Nat} (hb : foot G s' b) : foot G s b := by
 rcases hb with hb | ⟨g, x, v, h1, h2, h3⟩
 ·refine .inl ?_
  rcases h.box b with e | e
  ·rw [← e]; exact hb
  ·exact absurd e hb
 ·refine .inr ⟨g, x, v, ?_, h2, h3⟩
  rcases h.own g with e | e
  ·rw [← e]; exact h1
  ·rw [e] at h1; cases h1
theorem HRel.weaken {G : Ghost} {s s' : Heap} {w : World} (h : HRel G s w) (hle : s.le s') : HRel G s' w where
 frz := h.frz
 box := fun b cs ty hb => by
  rcases hle.box b with e | e
  ·exact h.box b cs ty (e ▸ hb)
  ·rw [e] at hb; cases hb
 own := fun g e sz hg => by
  rcases hle.own g with e' | e'
  ·exact h.own g e sz (e' ▸ hg)
  ·rw [e'] at hg; cases hg
 sep := fun g g' x x' v v' b h1 h2 => by
  rcases hle.own g with e | e
  ·rcases hle.own g' with e' | e'
   ·exact h.sep g g' x x' v v' b (e ▸ h1) (e' ▸ h2)
   ·rw [e'] at h2; cases h2
  ·rw [e] at h1; cases h1
 nobox := fun g x v b h1 h2 h3 => by
  rcases hle.own g with e | e
  ·rcases hle.box b with e' | e'
   ·rw [e']; exact h.nobox g x v b (e ▸ h1) h2 h3
   ·exact e'
  ·rw [e] at h1; cases h1
 fin := by
  obtain ⟨N, hN⟩ := h.fin
  refine ⟨N, fun g hg => ⟨(hN g hg).1, ?_⟩⟩
  rcases hle.own g with e | e
  ·rw [e]; exact (hN g hg).2
  ·exact e
 ob := h.ob
 tab := h.tab
 siz := h.siz
theorem Ext.weaken {G G' : Ghost} {s s' s'' : Heap} {w w' : World} (h : Ext G s w G' s' w') (hle : s'.le s'') : Ext G s w G' s'' w' :=
 { h with
  foot := fun b hb => h.foot b (foot_le hle hb)
  keys := fun g hg => h.keys g (by rcases hle.own g with e | e; rwa [e] at hg; exact absurd e hg) }
theorem In.weaken {e : Entry} {st st' : St} {a : Act} {w : World} (h : In e st a w) (hle : st.le st') : In e st' a w := by
 obtain ⟨G, be, hx, hr⟩ := h
 have hs : st.s.le st'.s := ⟨hle.box, hle.own⟩
 refine ⟨G, be, hx.weaken hs, hr.hr.weaken hs, hr.n.trans hle.n.symm, ⟨by rw [hle.ds]; exact hr.df.eq, fun d hd => hr.df.ok d (hle.ds ▸ hd), hle.ds ▸ hr.df.nd, hle.lo.trans hr.df.lo, hle.pp.trans hr.df.pp⟩, fun t => ?_, fun t cs ty ht => ?_, fun t t' b h1 h2 => ?_⟩
 ·rcases hle.E t with e | e
  ·have := hr.tmps t
   rw [← e] at this
   cases hv : st'.E t <;> rw [hv] at this <;> first | exact this | skip
   rename_i t0 off
   refine ⟨?_, this.2⟩
   rcases hle.loc t0 with e' | ⟨_, e'⟩
   ·rw [e']; exact this.1
   ·exact absurd hv (e' t off)
  ·rw [e]; exact .any _
 ·rcases hle.loc t with e | ⟨e, _⟩
  ·obtain ⟨b, h1, h2, h3, h4, h5⟩ := hr.loc t cs ty (e ▸ ht)
   exact ⟨b, h1, h2, h3, h4, fun h => h5 (foot_le hs h)⟩
  ·rw [e] at ht; cases ht
 ·have f : ∀ t, st'.loc t ≠ none → st.loc t ≠ none := fun t h => by
   rcases hle.loc t with e | ⟨e, _⟩
   ·rw [← e]; exact h
   ·exact absurd e h
  exact hr.inj t t' b (f t h1) (f t' h2)
/-- A temporary is written. -/
theorem ARel.put {n0 : Base} {G : Ghost} {be : Nat → Option Nat} {st : St} {a : Act} {w : World} (h : ARel n0 G be st a w) (d : Option Tmp) {c : V} {v : Value} (hd : ∀ t, d = some t → t < st.n) (hv : LRep G be st.loc c v) :
  ARel n0 G be (st.put d c) (a.put d v) w := by
 cases d with
 | none => exact h
 | some d =>
  refine ⟨h.hr, by simp [Act.put, St.put, h.n], h.df, fun t => ?_, h.loc, h.inj⟩
  have hlt : d < a.tmps.size := by rw [h.n]; exact hd d rfl
  by_cases ht : t = d
  ·subst ht
   simp only [Act.put, St.put, upd_same, Array.getD_eq_getD_getElem?, Array.getElem?_setIfInBounds_self_of_lt hlt, Option.getD_some]
   exact hv
  ·simp only [Act.put, St.put, upd_other _ _ _ _ ht, Array.getD_eq_getD_getElem?, Array.getElem?_setIfInBounds_ne (Ne.symm ht)]
   have := h.tmps t
   rwa [Array.getD_eq_getD_getElem?] at this
end Go.Am
