/- The plain data of resolved queries: what they are, their cells, how much they hold. -/
import Derived.Test.YtcckhbconihagaaGreatDoorVAmShort
set_option linter.unusedVariables false
namespace Go.Pl
open Go.Am
abbrev vint (n : Int) : V := .base (.int .i64 n)
abbrev vbool (b : Bool) : V := .base (.bool b)
abbrev vstr (s : ByteArray) : V := .base (.string s)
abbrev vints (l : List Int) : V := .slice 1 (l.map fun x => [vint x])
abbrev vstrs (l : List ByteArray) : V := .slice 1 (l.map fun x => [vstr x])
structure Sorted where
 col : Int
 coll : Int
 desc : Bool
mutual
structure Term where
 op : Int
 neg : Bool
 n : Int
 frm : Int
 col : Int
 name : ByteArray
 vk : Int
 vi : Int
 vt : ByteArray
 coll : Int
 l : Int
 r : Int
 args : List Term
 sub : List Query
structure Query where
 names : List ByteArray
 arms : List Arm
 order : List Sorted
 limit : List Term
 offset : List Term
structure Arm where
 comp : Int
 distinct : Bool
 values : Bool
 rows : List (List Term)
 frm : List From
 whr : List Term
 grouped : Bool
 group : List Term
 aggs : List Agg
 having : List Term
 out : List Term
 extra : List Term
 steps : List Step
structure From where
 join : Int
 kind : Int
 name : ByteArray
 n : Int
 width : Int
 sub : List Query
 on : List Term
structure Agg where
 name : ByteArray
 distinct : Bool
 star : Bool
 coll : Int
 arg : List Term
structure Bound where
 term : Term
 opn : Bool
structure Step where
 frm : Int
 kind : Int
 index : ByteArray
 eq : List Term
 low : List Bound
 high : List Bound
 whr : List Int
end
structure With where
 name : ByteArray
 names : List ByteArray
 query : Query
 step : List Query
 all : Bool
structure Resolved where
 withs : List With
 query : Query
def Sorted.v (t : Sorted) : List V := [vint t.col, vint t.coll, vbool t.desc]
mutual
def Term.v : Term → List V
  | ⟨op', neg', n', frm', col', name', vk', vi', vt', coll', l', r', args', sub'⟩ => [vint op', vbool neg', vint n', vint frm', vint col', vstr name', vint vk', vint vi', vstr vt', vint coll', vint l', vint r', .slice 14 (args'.map Term.v), .slice 5 (sub'.map Query.v)]
 termination_by t => SizeOf.sizeOf t
 decreasing_by
  all_goals first
    | (have h1 := List.sizeOf_lt_of_mem (‹_› : (_ : List Term) ∈ (_ : List (List Term))); have h2 := List.sizeOf_lt_of_mem (‹_› : (_ : Term) ∈ (_ : List Term)); simp; omega)
    | decreasing_tactic
def Query.v : Query → List V
  | ⟨names', arms', order', limit', offset'⟩ => [vstrs names', .slice 13 (arms'.map Arm.v), .slice 3 (order'.map Sorted.v), .slice 14 (limit'.map Term.v), .slice 14 (offset'.map Term.v)]
 termination_by t => SizeOf.sizeOf t
 decreasing_by
  all_goals first
    | (have h1 := List.sizeOf_lt_of_mem (‹_› : (_ : List Term) ∈ (_ : List (List Term))); have h2 := List.sizeOf_lt_of_mem (‹_› : (_ : Term) ∈ (_ : List Term)); simp; omega)
    | decreasing_tactic
def Arm.v : Arm → List V
  | ⟨comp', distinct', values', rows', frm', whr', grouped', group', aggs', having', out', extra', steps'⟩ => [vint comp', vbool distinct', vbool values', .slice 1 (rows'.map fun l => [.slice 14 (l.map Term.v)]), .slice 7 (frm'.map From.v), .slice 14 (whr'.map Term.v), vbool grouped', .slice 14 (group'.map Term.v), .slice 5 (aggs'.map Agg.v), .slice 14 (having'.map Term.v), .slice 14 (out'.map Term.v), .slice 14 (extra'.map Term.v), .slice 7 (steps'.map Step.v)]
 termination_by t => SizeOf.sizeOf t
 decreasing_by
  all_goals first
    | (have h1 := List.sizeOf_lt_of_mem (‹_› : (_ : List Term) ∈ (_ : List (List Term))); have h2 := List.sizeOf_lt_of_mem (‹_› : (_ : Term) ∈ (_ : List Term)); simp; omega)
    | decreasing_tactic
def From.v : From → List V
  | ⟨join', kind', name', n', width', sub', on'⟩ => [vint join', vint kind', vstr name', vint n', vint width', .slice 5 (sub'.map Query.v), .slice 14 (on'.map Term.v)]
 termination_by t => SizeOf.sizeOf t
 decreasing_by
  all_goals first
    | (have h1 := List.sizeOf_lt_of_mem (‹_› : (_ : List Term) ∈ (_ : List (List Term))); have h2 := List.sizeOf_lt_of_mem (‹_› : (_ : Term) ∈ (_ : List Term)); simp; omega)
    | decreasing_tactic
def Agg.v : Agg → List V
  | ⟨name', distinct', star', coll', arg'⟩ => [vstr name', vbool distinct', vbool star', vint coll', .slice 14 (arg'.map Term.v)]
 termination_by t => SizeOf.sizeOf t
 decreasing_by
  all_goals first
    | (have h1 := List.sizeOf_lt_of_mem (‹_› : (_ : List Term) ∈ (_ : List (List Term))); have h2 := List.sizeOf_lt_of_mem (‹_› : (_ : Term) ∈ (_ : List Term)); simp; omega)
    | decreasing_tactic
def Bound.v : Bound → List V
  | ⟨term', opn'⟩ => Term.v term' ++ [vbool opn']
 termination_by t => SizeOf.sizeOf t
 decreasing_by
  all_goals first
    | (have h1 := List.sizeOf_lt_of_mem (‹_› : (_ : List Term) ∈ (_ : List (List Term))); have h2 := List.sizeOf_lt_of_mem (‹_› : (_ : Term) ∈ (_ : List Term)); simp; omega)
    | decreasing_tactic
def Step.v : Step → List V
  | ⟨frm', kind', index', eq', low', high', whr'⟩ => [vint frm', vint kind', vstr index', .slice 14 (eq'.map Term.v), .slice 15 (low'.map Bound.v), .slice 15 (high'.map Bound.v), vints whr']
 termination_by t => SizeOf.sizeOf t
 decreasing_by
  all_goals first
    | (have h1 := List.sizeOf_lt_of_mem (‹_› : (_ : List Term) ∈ (_ : List (List Term))); have h2 := List.sizeOf_lt_of_mem (‹_› : (_ : Term) ∈ (_ : List Term)); simp; omega)
    | decreasing_tactic
end
def With.v (t : With) : List V := [vstr t.name, vstrs t.names] ++ Query.v t.query ++ [.slice 5 (t.step.map Query.v), vbool t.all]
def Resolved.v (t : Resolved) : List V := [.slice 9 (t.withs.map With.v)] ++ Query.v t.query
mutual
def Term.w : Term → Nat
  | ⟨op', neg', n', frm', col', name', vk', vi', vt', coll', l', r', args', sub'⟩ => 1 + (args'.map Term.w).sum + (sub'.map Query.w).sum
 termination_by t => SizeOf.sizeOf t
 decreasing_by
  all_goals first
    | (have h1 := List.sizeOf_lt_of_mem (‹_› : (_ : List Term) ∈ (_ : List (List Term))); have h2 := List.sizeOf_lt_of_mem (‹_› : (_ : Term) ∈ (_ : List Term)); simp; omega)
    | decreasing_tactic
def Query.w : Query → Nat
  | ⟨names', arms', order', limit', offset'⟩ => 1 + names'.length + (arms'.map Arm.w).sum + order'.length + (limit'.map Term.w).sum + (offset'.map Term.w).sum
 termination_by t => SizeOf.sizeOf t
 decreasing_by
  all_goals first
    | (have h1 := List.sizeOf_lt_of_mem (‹_› : (_ : List Term) ∈ (_ : List (List Term))); have h2 := List.sizeOf_lt_of_mem (‹_› : (_ : Term) ∈ (_ : List Term)); simp; omega)
    | decreasing_tactic
def Arm.w : Arm → Nat
  | ⟨comp', distinct', values', rows', frm', whr', grouped', group', aggs', having', out', extra', steps'⟩ => 1 + (rows'.map fun l => 1 + (l.map Term.w).sum).sum + (frm'.map From.w).sum + (whr'.map Term.w).sum + (group'.map Term.w).sum + (aggs'.map Agg.w).sum + (having'.map Term.w).sum + (out'.map Term.w).sum + (extra'.map Term.w).sum + (steps'.map Step.w).sum
 termination_by t => SizeOf.sizeOf t
 decreasing_by
  all_goals first
    | (have h1 := List.sizeOf_lt_of_mem (‹_› : (_ : List Term) ∈ (_ : List (List Term))); have h2 := List.sizeOf_lt_of_mem (‹_› : (_ : Term) ∈ (_ : List Term)); simp; omega)
    | decreasing_tactic
def From.w : From → Nat
  | ⟨join', kind', name', n', width', sub', on'⟩ => 1 + name'.size + (sub'.map Query.w).sum + (on'.map Term.w).sum
 termination_by t => SizeOf.sizeOf t
 decreasing_by
  all_goals first
    | (have h1 := List.sizeOf_lt_of_mem (‹_› : (_ : List Term) ∈ (_ : List (List Term))); have h2 := List.sizeOf_lt_of_mem (‹_› : (_ : Term) ∈ (_ : List Term)); simp; omega)
    | decreasing_tactic
def Agg.w : Agg → Nat
  | ⟨name', distinct', star', coll', arg'⟩ => 1 + (arg'.map Term.w).sum
 termination_by t => SizeOf.sizeOf t
 decreasing_by
  all_goals first
    | (have h1 := List.sizeOf_lt_of_mem (‹_› : (_ : List Term) ∈ (_ : List (List Term))); have h2 := List.sizeOf_lt_of_mem (‹_› : (_ : Term) ∈ (_ : List Term)); simp; omega)
    | decreasing_tactic
def Bound.w : Bound → Nat
  | ⟨term', opn'⟩ => 1 + Term.w term'
 termination_by t => SizeOf.sizeOf t
 decreasing_by
  all_goals first
    | (have h1 := List.sizeOf_lt_of_mem (‹_› : (_ : List Term) ∈ (_ : List (List Term))); have h2 := List.sizeOf_lt_of_mem (‹_› : (_ : Term) ∈ (_ : List Term)); simp; omega)
    | decreasing_tactic
def Step.w : Step → Nat
  | ⟨frm', kind', index', eq', low', high', whr'⟩ => 1 + (eq'.map Term.w).sum + (low'.map Bound.w).sum + (high'.map Bound.w).sum + whr'.length
 termination_by t => SizeOf.sizeOf t
 decreasing_by
  all_goals first
    | (have h1 := List.sizeOf_lt_of_mem (‹_› : (_ : List Term) ∈ (_ : List (List Term))); have h2 := List.sizeOf_lt_of_mem (‹_› : (_ : Term) ∈ (_ : List Term)); simp; omega)
    | decreasing_tactic
end
def With.w (t : With) : Nat := 1 + t.names.length + Query.w t.query + (t.step.map Query.w).sum
def Resolved.w (t : Resolved) : Nat := 1 + (t.withs.map With.w).sum + Query.w t.query
theorem Sorted.v_eq (t : Sorted) : Sorted.v t = [vint t.col, vint t.coll, vbool t.desc] := by rfl
theorem Term.v_eq (t : Term) : Term.v t = [vint t.op, vbool t.neg, vint t.n, vint t.frm, vint t.col, vstr t.name, vint t.vk, vint t.vi, vstr t.vt, vint t.coll, vint t.l, vint t.r, .slice 14 (t.args.map Term.v), .slice 5 (t.sub.map Query.v)] := by cases t; rw [Term.v]
theorem Term.w_eq (t : Term) : Term.w t = 1 + (t.args.map Term.w).sum + (t.sub.map Query.w).sum := by cases t; rw [Term.w]
theorem Query.v_eq (t : Query) : Query.v t = [vstrs t.names, .slice 13 (t.arms.map Arm.v), .slice 3 (t.order.map Sorted.v), .slice 14 (t.limit.map Term.v), .slice 14 (t.offset.map Term.v)] := by cases t; rw [Query.v]
theorem Query.w_eq (t : Query) : Query.w t = 1 + t.names.length + (t.arms.map Arm.w).sum + t.order.length + (t.limit.map Term.w).sum + (t.offset.map Term.w).sum := by cases t; rw [Query.w]
theorem Arm.v_eq (t : Arm) : Arm.v t = [vint t.comp, vbool t.distinct, vbool t.values, .slice 1 (t.rows.map fun l => [.slice 14 (l.map Term.v)]), .slice 7 (t.frm.map From.v), .slice 14 (t.whr.map Term.v), vbool t.grouped, .slice 14 (t.group.map Term.v), .slice 5 (t.aggs.map Agg.v), .slice 14 (t.having.map Term.v), .slice 14 (t.out.map Term.v), .slice 14 (t.extra.map Term.v), .slice 7 (t.steps.map Step.v)] := by cases t; rw [Arm.v]
theorem Arm.w_eq (t : Arm) : Arm.w t = 1 + (t.rows.map fun l => 1 + (l.map Term.w).sum).sum + (t.frm.map From.w).sum + (t.whr.map Term.w).sum + (t.group.map Term.w).sum + (t.aggs.map Agg.w).sum + (t.having.map Term.w).sum + (t.out.map Term.w).sum + (t.extra.map Term.w).sum + (t.steps.map Step.w).sum := by cases t; rw [Arm.w]
theorem From.v_eq (t : From) : From.v t = [vint t.join, vint t.kind, vstr t.name, vint t.n, vint t.width, .slice 5 (t.sub.map Query.v), .slice 14 (t.on.map Term.v)] := by cases t; rw [From.v]
theorem From.w_eq (t : From) : From.w t = 1 + t.name.size + (t.sub.map Query.w).sum + (t.on.map Term.w).sum := by cases t; rw [From.w]
theorem Agg.v_eq (t : Agg) : Agg.v t = [vstr t.name, vbool t.distinct, vbool t.star, vint t.coll, .slice 14 (t.arg.map Term.v)] := by cases t; rw [Agg.v]
theorem Agg.w_eq (t : Agg) : Agg.w t = 1 + (t.arg.map Term.w).sum := by cases t; rw [Agg.w]
theorem Bound.v_eq (t : Bound) : Bound.v t = Term.v t.term ++ [vbool t.opn] := by cases t; rw [Bound.v]
theorem Bound.w_eq (t : Bound) : Bound.w t = 1 + Term.w t.term := by cases t; rw [Bound.w]
theorem Step.v_eq (t : Step) : Step.v t = [vint t.frm, vint t.kind, vstr t.index, .slice 14 (t.eq.map Term.v), .slice 15 (t.low.map Bound.v), .slice 15 (t.high.map Bound.v), vints t.whr] := by cases t; rw [Step.v]
theorem Step.w_eq (t : Step) : Step.w t = 1 + (t.eq.map Term.w).sum + (t.low.map Bound.w).sum + (t.high.map Bound.w).sum + t.whr.length := by cases t; rw [Step.w]
theorem With.v_eq (t : With) : With.v t = [vstr t.name, vstrs t.names] ++ Query.v t.query ++ [.slice 5 (t.step.map Query.v), vbool t.all] := by rfl
theorem With.w_eq (t : With) : With.w t = 1 + t.names.length + Query.w t.query + (t.step.map Query.w).sum := by rfl
theorem Resolved.v_eq (t : Resolved) : Resolved.v t = [.slice 9 (t.withs.map With.v)] ++ Query.v t.query := by rfl
theorem Resolved.w_eq (t : Resolved) : Resolved.w t = 1 + (t.withs.map With.w).sum + Query.w t.query := by rfl
theorem Sorted.v_len (t : Sorted) : (Sorted.v t).length = 3 := by rw [Sorted.v_eq]; rfl
theorem Term.v_len (t : Term) : (Term.v t).length = 14 := by rw [Term.v_eq]; rfl
theorem Query.v_len (t : Query) : (Query.v t).length = 5 := by rw [Query.v_eq]; rfl
theorem Arm.v_len (t : Arm) : (Arm.v t).length = 13 := by rw [Arm.v_eq]; rfl
theorem From.v_len (t : From) : (From.v t).length = 7 := by rw [From.v_eq]; rfl
theorem Agg.v_len (t : Agg) : (Agg.v t).length = 5 := by rw [Agg.v_eq]; rfl
theorem Bound.v_len (t : Bound) : (Bound.v t).length = 15 := by rw [Bound.v_eq]; simp [Term.v_len]
theorem Step.v_len (t : Step) : (Step.v t).length = 7 := by rw [Step.v_eq]; rfl
theorem With.v_len (t : With) : (With.v t).length = 9 := by rw [With.v_eq]; simp [Query.v_len]
theorem Resolved.v_len (t : Resolved) : (Resolved.v t).length = 6 := by rw [Resolved.v_eq]; simp [Query.v_len]
end Go.Pl
