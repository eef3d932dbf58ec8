/- The tables that a seat's program leans on. -/
import Derived.Calls
import Derived.Orders
import Derived.Laws.AppendOwn
import Derived.Laws.Cells
import Derived.Laws.NewBlocks
set_option linter.unusedVariables false
namespace Go.Am
/-- They stand in the world: the word that internal/bytealg sets at the start. -/
def Tables (w : World) : Prop := ∃ m : Int, w.cell? ⟨1, 0, none⟩ = some (.int .i64 m)
/-- Blocks of a known length. -/
def tabSizes : List (Nat × Nat) := []
end Go.Am
namespace Go.Am
/-- Abstract values. A slice is the list of its elements, each the list of its cells. -/
inductive V where
 | any
 | base (v : Value)
 | agg (cs : List V)
 | nil
 | zcap
 | slice (sz : Nat) (es : List (List V))
 | own (g sz : Nat) (es : List (List V))
 | ptr (b off : Nat)
 | loc (t off : Nat)
 | elt (cs : List V) (off : Nat)
 | func (f : FuncId) (first captured : List V)
 | tuple (vs : List V)
instance : Inhabited V := ⟨.any⟩
/-- What is known beside memory: the cells that never turn again; of each slice that may still grow, its value. -/
structure Ghost where
 F : Nat → Nat → Option Value
 om : Nat → Option Value
 ob : Nat → Option Obj := fun _ => none
structure Ghost.Le (G G' : Ghost) : Prop where
 f : ∀ b o v, G.F b o = some v → G'.F b o = some v
 o : ∀ g v, G.om g = some v → G'.om g = some v
 b : ∀ k x, G.ob k = some x → G'.ob k = some x
theorem Ghost.Le.refl (G : Ghost) : G.Le G := ⟨fun _ _ _ h => h, fun _ _ h => h, fun _ _ h => h⟩
theorem Ghost.Le.trans {A B C : Ghost} (h : A.Le B) (h' : B.Le C) : A.Le C := ⟨fun _ _ _ x => h'.f _ _ _ (h.f _ _ _ x), fun _ _ x => h'.o _ _ (h.o _ _ x), fun _ _ x => h'.b _ _ (h.b _ _ x)⟩
/-- A value stands for an abstract one. -/
inductive Rep (G : Ghost) : V → Value → Prop
 | any (v : Value) : Rep G .any v
 | base (v : Value) : Rep G (.base v) v
 | agg (cs : List V) (ccs : Array Value) : cs.length = ccs.size → (∀ (i : Nat) c v, cs[i]? = some c → ccs[i]? = some v → Rep G c v) → Rep G (.agg cs) (.agg ccs)
 | nil : Rep G .nil (.slice none 0 0)
 | zcap (a : Option Addr) : Rep G .zcap (.slice a 0 0)
 | slice (sz : Nat) (es : List (List V)) (b o cap : Nat) (cells : Nat → Value) : (∀ cs ∈ es, cs.length = sz) → es.length ≤ cap → cap ≤ maxLen →
   (∀ k, k < es.length * sz → G.F b (o + k) = some (cells k)) →
   (∀ (i j : Nat) cs c, es[i]? = some cs → cs[j]? = some c → Rep G c (cells (i * sz + j))) → (∀ k, k < es.length * sz → (cells k).oneCell' = true) → Rep G (.slice sz es) (.slice (some ⟨b, o, none⟩) es.length cap)
 | slice0 (sz : Nat) (a : Option Addr) (cap : Nat) : Rep G (.slice sz []) (.slice a 0 cap)
 | own (g sz : Nat) (es : List (List V)) (v : Value) : Rep G (.slice sz es) v → G.om g = some v → Rep G (.own g sz es) v
 | ptr (b off : Nat) : Rep G (.ptr b off) (.pointer (some ⟨b, off, none⟩))
 | elt (cs : List V) (off b o : Nat) (cells : Nat → Value) : (∀ (j : Nat) c, cs[j]? = some c → G.F b (o + j) = some (cells j)) → (∀ (j : Nat) c, cs[j]? = some c → Rep G c (cells j)) →
   (∀ (j : Nat) c, cs[j]? = some c → (cells j).oneCell' = true) → Rep G (.elt cs off) (.pointer (some ⟨b, o + off, none⟩))
 | func (f : FuncId) (first cap : List V) (cf cc : Array Value) : first.length = cf.size → cap.length = cc.size → (∀ (i : Nat) c v, first[i]? = some c → cf[i]? = some v → Rep G c v) →
   (∀ (i : Nat) c v, cap[i]? = some c → cc[i]? = some v → Rep G c v) → Rep G (.func f first cap) (.func (.func f) cf cc)
 | tuple (cs : List V) (ccs : Array Value) : cs.length = ccs.size → (∀ (i : Nat) c v, cs[i]? = some c → ccs[i]? = some v → Rep G c v) → Rep G (.tuple cs) (.tuple ccs)
theorem Rep.mono0 {G G' : Ghost} (hgf : ∀ b o v, G.F b o = some v → G'.F b o = some v) (hgo : ∀ g v, G.om g = some v → G'.om g = some v) {c : V} {v : Value} (h : Rep G c v) : Rep G' c v := by
 induction h with
 | any v => exact .any v
 | base v => exact .base v
 | agg cs ccs hl _ ih => exact .agg cs ccs hl ih
 | nil => exact .nil
 | zcap a => exact .zcap a
 | slice sz es b o cap cells hs h1 h2 hf _ h3 ih => exact .slice sz es b o cap cells hs h1 h2 (fun k hk => hgf _ _ _ (hf k hk)) ih h3
 | slice0 sz a cap => exact .slice0 sz a cap
 | own g sz es v _ ho ih => exact .own g sz es v ih (hgo _ _ ho)
 | ptr b off => exact .ptr b off
 | elt cs off b o cells hf _ h1 ih => exact .elt cs off b o cells (fun j c h => hgf _ _ _ (hf j c h)) ih h1
 | func f first cap cf cc h1 h2 _ _ i1 i2 => exact .func f first cap cf cc h1 h2 i1 i2
 | tuple cs ccs hl _ ih => exact .tuple cs ccs hl ih
theorem Rep.mono {G G' : Ghost} (hg : G.Le G') {c : V} {v : Value} (h : Rep G c v) : Rep G' c v := h.mono0 hg.f hg.o
/-- Lists stand for lists. -/
def RepL (G : Ghost) (cs : List V) (vs : List Value) : Prop := cs.length = vs.length ∧ ∀ (i : Nat) c v, cs[i]? = some c → vs[i]? = some v → Rep G c v
theorem RepL.mono {G G' : Ghost} (hg : G.Le G') {cs : List V} {vs : List Value} (h : RepL G cs vs) : RepL G' cs vs := ⟨h.1, fun i c v a b => (h.2 i c v a b).mono hg⟩
theorem RepL.nil (G : Ghost) : RepL G [] [] := ⟨rfl, fun i c v h => by simp at h⟩
theorem RepL.cons {G : Ghost} {c : V} {v : Value} {cs : List V} {vs : List Value} (h : Rep G c v) (hs : RepL G cs vs) : RepL G (c :: cs) (v :: vs) := by
 refine ⟨by simp [hs.1], fun i c' v' a b => ?_⟩
 cases i with
 | zero => simp at a b; subst a; subst b; exact h
 | succ i => simp at a b; exact hs.2 i c' v' a b
theorem RepL.uncons {G : Ghost} {c : V} {cs : List V} {vs : List Value} (h : RepL G (c :: cs) vs) : ∃ v vs', vs = v :: vs' ∧ Rep G c v ∧ RepL G cs vs' := by
 cases vs with
 | nil => have := h.1; simp at this
 | cons v vs' =>
  refine ⟨v, vs', rfl, h.2 0 c v rfl rfl, by have := h.1; simpa using this, fun i c' v' a b => h.2 (i + 1) c' v' (by simpa using a) (by simpa using b)⟩
theorem RepL.nil_inv {G : Ghost} {vs : List Value} (h : RepL G [] vs) : vs = [] := List.eq_nil_of_length_eq_zero (by have := h.1; simpa using this.symm)
theorem RepL.append {G : Ghost} {cs cs' : List V} {vs vs' : List Value} (h : RepL G cs vs) (h' : RepL G cs' vs') : RepL G (cs ++ cs') (vs ++ vs') := by
 refine ⟨by simp [h.1, h'.1], fun i c v a b => ?_⟩
 by_cases hi : i < cs.length
 ·rw [List.getElem?_append_left hi] at a
  rw [List.getElem?_append_left (by rw [← h.1]; exact hi)] at b
  exact h.2 i c v a b
 ·rw [List.getElem?_append_right (by omega)] at a
  rw [List.getElem?_append_right (by rw [← h.1]; omega), ← h.1] at b
  exact h'.2 _ c v a b
theorem RepL.get {G : Ghost} {cs : List V} {vs : List Value} (h : RepL G cs vs) {i : Nat} {c : V} (hc : cs[i]? = some c) : ∃ v, vs[i]? = some v ∧ Rep G c v := by
 have hi : i < vs.length := by rw [← h.1]; exact (List.getElem?_eq_some_iff.1 hc).1
 exact ⟨vs[i], List.getElem?_eq_getElem hi, h.2 i c _ hc (List.getElem?_eq_getElem hi)⟩
theorem RepL.set {G : Ghost} {cs : List V} {vs : List Value} (h : RepL G cs vs) (i : Nat) {c : V} {v : Value} (hc : Rep G c v) : RepL G (cs.set i c) (vs.set i v) := by
 refine ⟨by simp [h.1], fun j c' v' a b => ?_⟩
 rw [List.getElem?_set] at a b
 by_cases hj : i = j
 ·subst hj
  by_cases hi : i < cs.length
  ·have hi' : i < vs.length := by rw [← h.1]; exact hi
   simp [hi, hi'] at a b; subst a; subst b; exact hc
  ·simp [hi] at a
 ·simp [hj] at a b; exact h.2 j c' v' a b
theorem RepL.take {G : Ghost} {cs : List V} {vs : List Value} (h : RepL G cs vs) (n : Nat) : RepL G (cs.take n) (vs.take n) := by
 refine ⟨by simp [h.1], fun i c v a b => ?_⟩
 rw [List.getElem?_take] at a b
 split at a
 ·rename_i hi; simp [hi] at b; exact h.2 i c v a b
 ·simp at a
theorem RepL.drop {G : Ghost} {cs : List V} {vs : List Value} (h : RepL G cs vs) (n : Nat) : RepL G (cs.drop n) (vs.drop n) := by
 refine ⟨by simp [h.1], fun i c v a b => ?_⟩
 rw [List.getElem?_drop] at a b
 exact h.2 _ c v a b
theorem repL_of_arr {G : Ghost} {cs : List V} {ccs : Array Value} (hl : cs.length = ccs.size) (h : ∀ (i : Nat) c v, cs[i]? = some c → ccs[i]? = some v → Rep G c v) : RepL G cs ccs.toList :=
 ⟨by simpa using hl, fun i c v a b => h i c v a (by simpa using b)⟩
theorem RepL.agg {G : Ghost} {cs : List V} {ccs : Array Value} (h : RepL G cs ccs.toList) : Rep G (.agg cs) (.agg ccs) :=
 .agg cs ccs (by simpa using h.1) fun i c v a b => h.2 i c v a (by simpa using b)
theorem RepL.tuple {G : Ghost} {cs : List V} {ccs : Array Value} (h : RepL G cs ccs.toList) : Rep G (.tuple cs) (.tuple ccs) :=
 .tuple cs ccs (by simpa using h.1) fun i c v a b => h.2 i c v a (by simpa using b)
/-- What fills one cell of memory. -/
def V.isCell : V → Bool
 | .base v => v.oneCell'
 | .any | .agg _ | .tuple _ | .loc _ _ => false
 | _ => true
theorem Rep.oneCell {G : Ghost} {c : V} {v : Value} (h : Rep G c v) (hc : c.isCell = true) : v.oneCell' = true := by
 cases h <;> first | exact hc | (simp [V.isCell] at hc; done) | rfl | skip
 case own h _ => cases h <;> rfl
/-- The tables that stand in cells which never turn. -/
def TabOk (F : Nat → Nat → Option Value) : Prop := ∀ w : World, (∀ b o v, F b o = some v → w.cell? ⟨b, o, none⟩ = some v) → Tables w
/-- The tables' blocks are as long as they were. -/
def SizOk (w : World) : Prop := ∀ p ∈ tabSizes, ∃ (cs : Array Value) (ty : TypeId) (fr : Nat × Nat), w.heap[p.1]? = some (.cells cs ty fr) ∧ cs.size = p.2
theorem SizOk.of {w w' : World} (h : SizOk w) (hw : ∀ (b : Nat) (cs : Array Value) (ty : TypeId) (fr : Nat × Nat), w.heap[b]? = some (.cells cs ty fr) → ∃ (cs' : Array Value) (ty' : TypeId) (fr' : Nat × Nat), w'.heap[b]? = some (.cells cs' ty' fr') ∧ cs'.size = cs.size) : SizOk w' := fun p hp => by
 obtain ⟨cs, ty, fr, h1, h2⟩ := h p hp
 obtain ⟨cs', ty', fr', h3, h4⟩ := hw _ _ _ _ h1
 exact ⟨cs', ty', fr', h3, h4.trans h2⟩
theorem TabOk.mono {F F' : Nat → Nat → Option Value} (h : TabOk F) (hle : ∀ b o v, F b o = some v → F' b o = some v) : TabOk F' := fun w hw => h w fun b o v hv => hw b o v (hle b o v hv)
/-- The abstract heap: boxes that may be written, and slices that may still grow (the element's type, its cells). -/
structure Heap where
 box : Nat → Option (List V × TypeId)
 own : Nat → Option (TypeId × Nat)
def blk : Value → Option Nat
 | .slice (some a) _ (_ + 1) => some a.block
 | _ => none
def OwnOk (G : Ghost) (w : World) (e : TypeId) (sz : Nat) (v : Value) : Prop :=
 (∃ a, v = .slice a 0 0) ∨ ∃ b n cap cur, v = .slice (some ⟨b, 0, none⟩) n (cap + 1) ∧ w.heap[b]? = some (.cells cur e (0, 0)) ∧ cur.size = (cap + 1) * sz ∧ n ≤ cap + 1 ∧ cap + 1 ≤ maxLen ∧
  (∀ o, n * sz ≤ o → G.F b o = none)
/-- Is an object a row of cells? -/
def isC : Obj → Bool
 | .cells .. => true
 | _ => false
structure HRel (G : Ghost) (s : Heap) (w : World) : Prop where
 frz : ∀ b o v, G.F b o = some v → w.cell? ⟨b, o, none⟩ = some v
 box : ∀ b cs ty, s.box b = some (cs, ty) → ∃ ccs : Array Value, w.heap[b]? = some (.cells ccs ty (0, 0)) ∧ RepL G cs ccs.toList ∧ (∀ v ∈ ccs.toList, v.oneCell' = true) ∧ ∀ o, G.F b o = none
 own : ∀ g e sz, s.own g = some (e, sz) → ∃ v, G.om g = some v ∧ OwnOk G w e sz v
 sep : ∀ g g' x x' v v' b, s.own g = some x → s.own g' = some x' → G.om g = some v → G.om g' = some v' → blk v = some b → blk v' = some b → g = g'
 nobox : ∀ g x v b, s.own g = some x → G.om g = some v → blk v = some b → s.box b = none
 fin : ∃ N, ∀ g, N ≤ g → G.om g = none ∧ s.own g = none
 ob : ∀ k x, G.ob k = some x → isC x = false ∧ w.heap[k]? = some x
 tab : TabOk G.F
 siz : SizOk w
/-- The blocks that are told in the abstract heap. -/
def foot (G : Ghost) (s : Heap) (b : Nat) : Prop := s.box b ≠ none ∨ ∃ g x v, s.own g = some x ∧ G.om g = some v ∧ blk v = some b
/-- One moment and a later one. -/
structure Ext (G : Ghost) (s : Heap) (w : World) (G' : Ghost) (s' : Heap) (w' : World) : Prop where
 le : G.Le G'
 size : w.heap.size ≤ w'.heap.size
 os : w'.os = w.os
 tape : w'.tape = w.tape
 output : w'.output = w.output
 keep : ∀ b, b < w.heap.size → ¬ foot G s b → w'.heap[b]? = w.heap[b]?
 foot : ∀ b, foot G' s' b → foot G s b ∨ w.heap.size ≤ b
 frz : ∀ b o, G'.F b o ≠ none → G.F b o ≠ none ∨ Am.foot G s b ∨ w.heap.size ≤ b
 keys : ∀ g, s'.own g ≠ none → s.own g ≠ none ∨ G.om g = none
theorem Ext.refl (G : Ghost) (s : Heap) (w : World) : Ext G s w G s w :=
 ⟨.refl G, Nat.le_refl _, rfl, rfl, rfl, fun _ _ _ => rfl, fun _ h => .inl h, fun _ _ h => .inl h, fun _ h => .inl h⟩
theorem Ext.trans {G G' G'' : Ghost} {s s' s'' : Heap} {w w' w'' : World} (h : Ext G s w G' s' w') (h' : Ext G' s' w' G'' s'' w'') : Ext G s w G'' s'' w'' where
 le := h.le.trans h'.le
 size := Nat.le_trans h.size h'.size
 os := h'.os.trans h.os
 tape := h'.tape.trans h.tape
 output := h'.output.trans h.output
 keep := fun b hb hf => (h'.keep b (Nat.lt_of_lt_of_le hb h.size) fun hf' => by rcases h.foot b hf' with x | x; exact hf x; omega).trans (h.keep b hb hf)
 foot := fun b hb => by
  rcases h'.foot b hb with x | x
  ·exact h.foot b x
  ·exact .inr (Nat.le_trans h.size x)
 frz := fun b o hb => by
  rcases h'.frz b o hb with x | x | x
  ·exact h.frz b o x
  ·rcases h.foot b x with y | y
   ·exact .inr (.inl y)
   ·exact .inr (.inr y)
  ·exact .inr (.inr (Nat.le_trans h.size x))
 keys := fun g hg => by
  rcases h'.keys g hg with x | x
  ·exact h.keys g x
  ·refine .inr ?_
   cases hq : G.om g with
   | none => rfl
   | some v => rw [h.le.o g v hq] at x; cases x
theorem HRel.foot_lt {G : Ghost} {s : Heap} {w : World} (h : HRel G s w) {b : Nat} (hb : foot G s b) : b < w.heap.size := by
 rcases hb with hb | ⟨g, ⟨e, sz⟩, v, h1, h2, h3⟩
 ·cases hx : s.box b with
  | none => exact absurd hx hb
  | some x =>
   obtain ⟨cs, ty⟩ := x
   obtain ⟨ccs, hc, _⟩ := h.box b cs ty hx
   exact (Array.getElem?_eq_some_iff.1 hc).1
 ·obtain ⟨v', hv, ho⟩ := h.own g e sz h1
  obtain rfl : v' = v := Option.some.inj (hv.symm.trans h2)
  rcases ho with ⟨a, rfl⟩ | ⟨b', n, cap, cur, rfl, hc, _⟩
  ·cases a <;> simp [blk] at h3
  ·simp [blk] at h3; subst h3; exact (Array.getElem?_eq_some_iff.1 hc).1
theorem HRel.frz_lt {G : Ghost} {s : Heap} {w : World} (h : HRel G s w) {b o : Nat} (hb : G.F b o ≠ none) : b < w.heap.size := by
 cases hx : G.F b o with
 | none => exact absurd hx hb
 | some v => exact block_lt_of_cell (h.frz b o v hx)
end Go.Am
