/- The plain data of layer 24 beside terms: tables, indexes, comparisons, paths; first places in lists. -/
import Derived.Test.YtcckhbconihagaaGreatDoorVPlUse
set_option linter.unusedVariables false
namespace Go.Pl
open Go.Am
structure Table where
 name : ByteArray
 cols : List (List Value)
 pk : Int
structure Index where
 name : ByteArray
 table : ByteArray
 keys : List Sorted
 unique : Bool
 auto : Bool
structure Schema where
 tables : List Table
 indexes : List Index
 views : V
structure Said where
 op : Int
 col : Int
 coll : Int
 fin : Term
structure Path where
 kind : Int
 index : ByteArray
 eq : List Term
 low : List Bound
 high : List Bound
def Table.v (t : Table) : List V := [vstr t.name, .slice 8 (t.cols.map fun l => l.map V.base), vint t.pk]
def Index.v (t : Index) : List V := [vstr t.name, vstr t.table, .slice 3 (t.keys.map Sorted.v), vbool t.unique, vbool t.auto]
def Schema.v (t : Schema) : List V := [.slice 3 (t.tables.map Table.v), .slice 5 (t.indexes.map Index.v), t.views]
def Said.v (t : Said) : List V := [vint t.op, vint t.col, vint t.coll] ++ t.fin.v
def Path.v (t : Path) : List V := [vint t.kind, vstr t.index, .slice 14 (t.eq.map Term.v), .slice 15 (t.low.map Bound.v), .slice 15 (t.high.map Bound.v)]
theorem Table.v_eq (t : Table) : t.v = [vstr t.name, .slice 8 (t.cols.map fun l => l.map V.base), vint t.pk] := rfl
theorem Index.v_eq (t : Index) : t.v = [vstr t.name, vstr t.table, .slice 3 (t.keys.map Sorted.v), vbool t.unique, vbool t.auto] := rfl
theorem Schema.v_eq (t : Schema) : t.v = [.slice 3 (t.tables.map Table.v), .slice 5 (t.indexes.map Index.v), t.views] := rfl
theorem Said.v_eq (t : Said) : t.v = [vint t.op, vint t.col, vint t.coll, vint t.fin.op, vbool t.fin.neg, vint t.fin.n, vint t.fin.frm, vint t.fin.col, vstr t.fin.name, vint t.fin.vk, vint t.fin.vi, vstr t.fin.vt, vint t.fin.coll, vint t.fin.l, vint t.fin.r, .slice 14 (t.fin.args.map Term.v), .slice 5 (t.fin.sub.map Query.v)] := by rw [Said.v, Term.v_eq]; rfl
theorem Path.v_eq (t : Path) : t.v = [vint t.kind, vstr t.index, .slice 14 (t.eq.map Term.v), .slice 15 (t.low.map Bound.v), .slice 15 (t.high.map Bound.v)] := rfl
def Step.path (t : Step) : Path := ⟨t.kind, t.index, t.eq, t.low, t.high⟩
/-- The first place of which something holds; -1: there is none. -/
def idx {α : Type} (p : α → Bool) (l : List α) : Int := if l.any p = true then (l.findIdx p : Int) else -1
theorem idx_none {α : Type} {p : α → Bool} {l : List α} (h : (l.take l.length).any p = false) : idx p l = -1 := by
 rw [List.take_length] at h; simp [idx, h]
theorem idx_at {α : Type} {p : α → Bool} {l : List α} {i : Nat} (hi : i < l.length) (h : (l.take i).any p = false) (hp : p l[i] = true) : idx p l = i := by
 have ha : l.any p = true := List.any_eq_true.2 ⟨l[i], List.getElem_mem hi, hp⟩
 have hf : l.findIdx p = i := by
  rw [List.findIdx_eq hi]
  refine ⟨hp, fun j hj => ?_⟩
  rw [List.any_eq_false] at h
  have : l[j] ∈ l.take i := by
   rw [List.mem_take_iff_getElem]; exact ⟨j, by omega, rfl⟩
  simpa using h _ this
 simp [idx, ha, hf]
theorem any_take_succ {α : Type} {p : α → Bool} {l : List α} {i : Nat} (hi : i < l.length) (h : (l.take i).any p = false) (hp : p l[i] = false) : (l.take (i + 1)).any p = false := by
 rw [List.take_succ_eq_append_getElem hi, List.any_append, h]; simp [hp]
theorem idx_ge {α : Type} (p : α → Bool) (l : List α) : decide (idx p l ≥ 0) = l.any p := by
 unfold idx
 split
 ·rename_i h; rw [h]; simp
 ·rename_i h; rw [Bool.not_eq_true] at h; rw [h]; simp
theorem idx_lt {α : Type} (p : α → Bool) (l : List α) (h : l.any p = true) : 0 ≤ idx p l ∧ idx p l < l.length := by
 unfold idx
 rw [if_pos h]
 have := List.findIdx_lt_length_of_exists (p := p) (xs := l) (by simpa using h)
 omega
theorem idx_sat {α : Type} (p : α → Bool) (l : List α) (h : l.any p = true) : ∃ (i : Nat) (hi : i < l.length), idx p l = i ∧ p l[i] = true ∧ ∀ j (hj : j < i), p l[j] = false := by
 have hl := List.findIdx_lt_length_of_exists (p := p) (xs := l) (by simpa using h)
 have := (List.findIdx_eq hl).1 rfl
 exact ⟨l.findIdx p, hl, by simp [idx, h], this.1, fun j hj => this.2 j hj⟩
end Go.Pl
namespace Go.Am
/-- A call at one heap that leaves it as it is. -/
def GivesAt (P : Program) (f : FuncId) (args : List V) (s : Heap) (v : V) : Prop := ACalls P f args s fun v' s' => v' = v ∧ s' = s
end Go.Am
