/- Queries without their plans: what they are, and that they hold no more. -/
import Derived.Test.YtcckhbconihagaaGreatDoorPlData
set_option linter.unusedVariables false
namespace Go.Pl
open Go.Am
mutual
def Term.plain : Term → Term
  | ⟨op, neg, n, frm, col, name, vk, vi, vt, coll, l, r, args, sub⟩ => ⟨op, neg, n, frm, col, name, vk, vi, vt, coll, l, r, args.map Term.plain, sub.map Query.plain⟩
 termination_by t => SizeOf.sizeOf t
def Query.plain : Query → Query
  | ⟨names, arms, order, limit, offset⟩ => ⟨names, arms.map Arm.plain, order, limit.map Term.plain, offset.map Term.plain⟩
 termination_by t => SizeOf.sizeOf t
def Arm.plain : Arm → Arm
  | ⟨comp, distinct, values, rows, frm, whr, grouped, group, aggs, having, out, extra, steps⟩ =>
    ⟨comp, distinct, values, rows.map fun l => l.map Term.plain, frm.map From.plain, whr.map Term.plain, grouped, group.map Term.plain, aggs.map Agg.plain, having.map Term.plain, out.map Term.plain, extra.map Term.plain, []⟩
 termination_by t => SizeOf.sizeOf t
 decreasing_by
  all_goals first
    | (have h1 := List.sizeOf_lt_of_mem (‹_› : (_ : List Term) ∈ (_ : List (List Term))); have h2 := List.sizeOf_lt_of_mem (‹_› : (_ : Term) ∈ (_ : List Term)); simp; omega)
    | decreasing_tactic
def From.plain : From → From
  | ⟨join, kind, name, n, width, sub, on⟩ => ⟨join, kind, name, n, width, sub.map Query.plain, on.map Term.plain⟩
 termination_by t => SizeOf.sizeOf t
def Agg.plain : Agg → Agg
  | ⟨name, distinct, star, coll, arg⟩ => ⟨name, distinct, star, coll, arg.map Term.plain⟩
 termination_by t => SizeOf.sizeOf t
end
def With.plain (w : With) : With := { w with query := w.query.plain, step := w.step.map Query.plain }
def Resolved.plain (r : Resolved) : Resolved := ⟨r.withs.map With.plain, r.query.plain⟩
theorem Term.plain_eq (t : Term) : t.plain = { t with args := t.args.map Term.plain, sub := t.sub.map Query.plain } := by cases t; rw [Term.plain]
theorem Query.plain_eq (t : Query) : t.plain = { t with arms := t.arms.map Arm.plain, limit := t.limit.map Term.plain, offset := t.offset.map Term.plain } := by cases t; rw [Query.plain]
theorem From.plain_eq (t : From) : t.plain = { t with sub := t.sub.map Query.plain, on := t.on.map Term.plain } := by cases t; rw [From.plain]
theorem Agg.plain_eq (t : Agg) : t.plain = { t with arg := t.arg.map Term.plain } := by cases t; rw [Agg.plain]
end Go.Pl
