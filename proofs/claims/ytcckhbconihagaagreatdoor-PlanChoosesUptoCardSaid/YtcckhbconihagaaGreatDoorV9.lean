/- Queries without their plans: what they are, and that they hold no more. -/
import Derived.Test.YtcckhbconihagaaGreatDoorVPlData
import Derived.Test.YtcckhbconihagaaGreatDoorV8
import Derived.Lib.SlicesCompact
set_option linter.unusedVariables false
set_option linter.unusedSimpArgs false
set_option linter.unusedSectionVars false
namespace Go.Pl
open Go.Am
mutual
def Term.plain : Term → Term
  | ⟨op, neg, n, frm, col, name, vk, vi, vt, coll, l, r, args, sub⟩ => ⟨op, neg, n, frm, col, name, vk, vi, vt, coll, l, r, args.map Term.plain, sub.map Query.plain⟩
 termination_by t => SizeOf.sizeOf t
def Query.plain : Query → Query
  | ⟨names, arms, order, limit, offset⟩ => ⟨names, arms.map Arm.plain, order, limit.map Term.plain, offset.map Term.plain⟩
 termination_by t => SizeOf.sizeOf t
def Arm.plain : Arm → Arm
  | ⟨comp, distinct, values, rows, frm, whr, grouped, group, aggs, having, out, extra, steps⟩ =>
    ⟨comp, distinct, values, rows.map fun l => l.map Term.plain, frm.map From.plain, whr.map Term.plain, grouped, group.map Term.plain, aggs.map Agg.plain, having.map Term.plain, out.map Term.plain, extra.map Term.plain, []⟩
 termination_by t => SizeOf.sizeOf t
 decreasing_by
  all_goals first
    | (have h1 := List.sizeOf_lt_of_mem (‹_› : (_ : List Term) ∈ (_ : List (List Term))); have h2 := List.sizeOf_lt_of_mem (‹_› : (_ : Term) ∈ (_ : List Term)); simp; omega)
    | decreasing_tactic
def From.plain : From → From
  | ⟨join, kind, name, n, width, sub, on⟩ => ⟨join, kind, name, n, width, sub.map Query.plain, on.map Term.plain⟩
 termination_by t => SizeOf.sizeOf t
def Agg.plain : Agg → Agg
  | ⟨name, distinct, star, coll, arg⟩ => ⟨name, distinct, star, coll, arg.map Term.plain⟩
 termination_by t => SizeOf.sizeOf t
end
def With.plain (w : With) : With := { w with query := w.query.plain, step := w.step.map Query.plain }
def Resolved.plain (r : Resolved) : Resolved := ⟨r.withs.map With.plain, r.query.plain⟩
theorem Term.plain_eq (t : Term) : t.plain = { t with args := t.args.map Term.plain, sub := t.sub.map Query.plain } := by cases t; rw [Term.plain]
theorem Query.plain_eq (t : Query) : t.plain = { t with arms := t.arms.map Arm.plain, limit := t.limit.map Term.plain, offset := t.offset.map Term.plain } := by cases t; rw [Query.plain]
theorem From.plain_eq (t : From) : t.plain = { t with sub := t.sub.map Query.plain, on := t.on.map Term.plain } := by cases t; rw [From.plain]
theorem Agg.plain_eq (t : Agg) : t.plain = { t with arg := t.arg.map Term.plain } := by cases t; rw [Agg.plain]
/-- A list gone through from its head on, the state borne along. -/
def mapS {σ α β : Type} (f : σ → α → σ × β) : σ → List α → σ × List β
 | s, [] => (s, [])
 | s, x :: l => ((mapS f (f s x).1 l).1, (f s x).2 :: (mapS f (f s x).1 l).2)
theorem mapS_append {σ α β : Type} (f : σ → α → σ × β) : ∀ (l m : List α) (s : σ), mapS f s (l ++ m) = ((mapS f (mapS f s l).1 m).1, (mapS f s l).2 ++ (mapS f (mapS f s l).1 m).2)
 | [], m, s => rfl
 | x :: l, m, s => by simp only [List.cons_append, mapS, mapS_append f l m]
theorem mapS_len {σ α β : Type} (f : σ → α → σ × β) : ∀ (l : List α) (s : σ), (mapS f s l).2.length = l.length
 | [], s => rfl
 | x :: l, s => by simp only [mapS, List.length_cons, mapS_len f l]
theorem mapS_succ {σ α β : Type} (f : σ → α → σ × β) (l : List α) (s : σ) (i : Nat) (h : i < l.length) :
  mapS f s (l.take (i + 1)) = ((f (mapS f s (l.take i)).1 l[i]).1, (mapS f s (l.take i)).2 ++ [(f (mapS f s (l.take i)).1 l[i]).2]) := by
 rw [List.take_succ_eq_append_getElem h, mapS_append]; rfl
variable {σ : Type} (fa : σ → Arm → σ × Arm) (ff : σ → Term → Nat → σ)
/-- What a field does. -/
def fldS (d : Nat) (s : σ) (t : Term) : σ := if t.op = 100 then ff s t d else s
mutual
def wTerm : Term → Nat → σ → σ × Term
  | ⟨op, neg, n, frm, col, name, vk, vi, vt, coll, l, r, args, sub⟩, d, s =>
    ((wQueries sub (d + 1) (wTerms args d (fldS ff d s ⟨op, neg, n, frm, col, name, vk, vi, vt, coll, l, r, args, sub⟩)).1).1,
     ⟨op, neg, n, frm, col, name, vk, vi, vt, coll, l, r, (wTerms args d (fldS ff d s ⟨op, neg, n, frm, col, name, vk, vi, vt, coll, l, r, args, sub⟩)).2,
       (wQueries sub (d + 1) (wTerms args d (fldS ff d s ⟨op, neg, n, frm, col, name, vk, vi, vt, coll, l, r, args, sub⟩)).1).2⟩)
def wTerms : List Term → Nat → σ → σ × List Term
 | [], _, s => (s, [])
 | t :: l, d, s => ((wTerms l d (wTerm t d s).1).1, (wTerm t d s).2 :: (wTerms l d (wTerm t d s).1).2)
def wQuery : Query → Nat → σ → σ × Query
 | ⟨names, arms, order, limit, offset⟩, d, s =>
  let r1 := wTerms limit d s
  let r2 := wTerms offset d r1.1
  let r3 := wArms arms d r2.1
  (r3.1, ⟨names, r3.2, order, r1.2, r2.2⟩)
def wQueries : List Query → Nat → σ → σ × List Query
 | [], _, s => (s, [])
 | t :: l, d, s => ((wQueries l d (wQuery t d s).1).1, (wQuery t d s).2 :: (wQueries l d (wQuery t d s).1).2)
def wArm : Arm → Nat → σ → σ × Arm
 | ⟨comp, distinct, values, rows, frm, whr, grouped, group, aggs, having, out, extra, steps⟩, d, s =>
  let r1 := wRows rows d s
  let r2 := wFroms frm d r1.1
  let r3 := wAggs aggs d r2.1
  let r4 := wSteps steps d r3.1
  let r5 := wTerms whr d r4.1
  let r6 := wTerms group d r5.1
  let r7 := wTerms having d r6.1
  let r8 := wTerms out d r7.1
  let r9 := wTerms extra d r8.1
  fa r9.1 ⟨comp, distinct, values, r1.2, r2.2, r5.2, grouped, r6.2, r3.2, r7.2, r8.2, r9.2, r4.2⟩
def wArms : List Arm → Nat → σ → σ × List Arm
 | [], _, s => (s, [])
 | t :: l, d, s => ((wArms l d (wArm t d s).1).1, (wArm t d s).2 :: (wArms l d (wArm t d s).1).2)
def wRows : List (List Term) → Nat → σ → σ × List (List Term)
 | [], _, s => (s, [])
 | t :: l, d, s => ((wRows l d (wTerms t d s).1).1, (wTerms t d s).2 :: (wRows l d (wTerms t d s).1).2)
def wFrom : From → Nat → σ → σ × From
 | ⟨join, kind, name, n, width, sub, on⟩, d, s =>
  let r1 := wQueries sub d s
  let r2 := wTerms on d r1.1
  (r2.1, ⟨join, kind, name, n, width, r1.2, r2.2⟩)
def wFroms : List From → Nat → σ → σ × List From
 | [], _, s => (s, [])
 | t :: l, d, s => ((wFroms l d (wFrom t d s).1).1, (wFrom t d s).2 :: (wFroms l d (wFrom t d s).1).2)
def wAgg : Agg → Nat → σ → σ × Agg
 | ⟨name, distinct, star, coll, arg⟩, d, s =>
  let r1 := wTerms arg d s
  (r1.1, ⟨name, distinct, star, coll, r1.2⟩)
def wAggs : List Agg → Nat → σ → σ × List Agg
 | [], _, s => (s, [])
 | t :: l, d, s => ((wAggs l d (wAgg t d s).1).1, (wAgg t d s).2 :: (wAggs l d (wAgg t d s).1).2)
def wBound : Bound → Nat → σ → σ × Bound
 | ⟨term, opn⟩, d, s =>
  let r1 := wTerm term d s
  (r1.1, ⟨r1.2, opn⟩)
def wBounds : List Bound → Nat → σ → σ × List Bound
 | [], _, s => (s, [])
 | t :: l, d, s => ((wBounds l d (wBound t d s).1).1, (wBound t d s).2 :: (wBounds l d (wBound t d s).1).2)
def wStep : Step → Nat → σ → σ × Step
 | ⟨frm, kind, index, eq, low, high, whr⟩, d, s =>
  let r1 := wTerms eq d s
  let r2 := wBounds low d r1.1
  let r3 := wBounds high d r2.1
  (r3.1, ⟨frm, kind, index, r1.2, r2.2, r3.2, whr⟩)
def wSteps : List Step → Nat → σ → σ × List Step
 | [], _, s => (s, [])
 | t :: l, d, s => ((wSteps l d (wStep t d s).1).1, (wStep t d s).2 :: (wSteps l d (wStep t d s).1).2)
end
theorem wTerms_map (d : Nat) : ∀ (l : List Term) (s : σ), wTerms fa ff l d s = mapS (fun s t => wTerm fa ff t d s) s l
 | [], s => by rw [wTerms]; rfl
 | t :: l, s => by rw [wTerms, wTerms_map d l]; rfl
theorem wQueries_map (d : Nat) : ∀ (l : List Query) (s : σ), wQueries fa ff l d s = mapS (fun s t => wQuery fa ff t d s) s l
 | [], s => by rw [wQueries]; rfl
 | t :: l, s => by rw [wQueries, wQueries_map d l]; rfl
theorem wArms_map (d : Nat) : ∀ (l : List Arm) (s : σ), wArms fa ff l d s = mapS (fun s t => wArm fa ff t d s) s l
 | [], s => by rw [wArms]; rfl
 | t :: l, s => by rw [wArms, wArms_map d l]; rfl
theorem wRows_map (d : Nat) : ∀ (l : List (List Term)) (s : σ), wRows fa ff l d s = mapS (fun s t => wTerms fa ff t d s) s l
 | [], s => by rw [wRows]; rfl
 | t :: l, s => by rw [wRows, wRows_map d l]; rfl
theorem wFroms_map (d : Nat) : ∀ (l : List From) (s : σ), wFroms fa ff l d s = mapS (fun s t => wFrom fa ff t d s) s l
 | [], s => by rw [wFroms]; rfl
 | t :: l, s => by rw [wFroms, wFroms_map d l]; rfl
theorem wAggs_map (d : Nat) : ∀ (l : List Agg) (s : σ), wAggs fa ff l d s = mapS (fun s t => wAgg fa ff t d s) s l
 | [], s => by rw [wAggs]; rfl
 | t :: l, s => by rw [wAggs, wAggs_map d l]; rfl
theorem wBounds_map (d : Nat) : ∀ (l : List Bound) (s : σ), wBounds fa ff l d s = mapS (fun s t => wBound fa ff t d s) s l
 | [], s => by rw [wBounds]; rfl
 | t :: l, s => by rw [wBounds, wBounds_map d l]; rfl
theorem wSteps_map (d : Nat) : ∀ (l : List Step) (s : σ), wSteps fa ff l d s = mapS (fun s t => wStep fa ff t d s) s l
 | [], s => by rw [wSteps]; rfl
 | t :: l, s => by rw [wSteps, wSteps_map d l]; rfl
theorem wTerm_eq (t : Term) (d : Nat) (s : σ) : wTerm fa ff t d s = ((wQueries fa ff t.sub (d + 1) (wTerms fa ff t.args d (fldS ff d s t)).1).1, { t with args := (wTerms fa ff t.args d (fldS ff d s t)).2, sub := (wQueries fa ff t.sub (d + 1) (wTerms fa ff t.args d (fldS ff d s t)).1).2 }) := by cases t; rw [wTerm]
theorem wQuery_eq (q : Query) (d : Nat) (s : σ) : wQuery fa ff q d s = ((wArms fa ff q.arms d (wTerms fa ff q.offset d (wTerms fa ff q.limit d s).1).1).1, ⟨q.names, (wArms fa ff q.arms d (wTerms fa ff q.offset d (wTerms fa ff q.limit d s).1).1).2, q.order, (wTerms fa ff q.limit d s).2, (wTerms fa ff q.offset d (wTerms fa ff q.limit d s).1).2⟩) := by cases q; rw [wQuery]
theorem wFrom_eq (q : From) (d : Nat) (s : σ) : wFrom fa ff q d s = ((wTerms fa ff q.on d (wQueries fa ff q.sub d s).1).1, { q with sub := (wQueries fa ff q.sub d s).2, on := (wTerms fa ff q.on d (wQueries fa ff q.sub d s).1).2 }) := by cases q; rw [wFrom]
theorem wAgg_eq (q : Agg) (d : Nat) (s : σ) : wAgg fa ff q d s = ((wTerms fa ff q.arg d s).1, { q with arg := (wTerms fa ff q.arg d s).2 }) := by cases q; rw [wAgg]
theorem wBound_eq (q : Bound) (d : Nat) (s : σ) : wBound fa ff q d s = ((wTerm fa ff q.term d s).1, { q with term := (wTerm fa ff q.term d s).2 }) := by cases q; rw [wBound]
theorem wStep_eq (q : Step) (d : Nat) (s : σ) : wStep fa ff q d s = ((wBounds fa ff q.high d (wBounds fa ff q.low d (wTerms fa ff q.eq d s).1).1).1, { q with eq := (wTerms fa ff q.eq d s).2, low := (wBounds fa ff q.low d (wTerms fa ff q.eq d s).1).2, high := (wBounds fa ff q.high d (wBounds fa ff q.low d (wTerms fa ff q.eq d s).1).1).2 }) := by cases q; rw [wStep]
theorem wTerms_succ (d : Nat) (l : List Term) (s : σ) (i : Nat) (h : i < l.length) : wTerms fa ff (l.take (i + 1)) d s = ((wTerm fa ff l[i] d (wTerms fa ff (l.take i) d s).1).1, (wTerms fa ff (l.take i) d s).2 ++ [(wTerm fa ff l[i] d (wTerms fa ff (l.take i) d s).1).2]) := by
 rw [wTerms_map, wTerms_map, mapS_succ _ _ _ _ h]
theorem wTerms_len (d : Nat) (l : List Term) (s : σ) : (wTerms fa ff l d s).2.length = l.length := by rw [wTerms_map, mapS_len]
theorem wTerms_zero (d : Nat) (l : List Term) (s : σ) : wTerms fa ff (l.take 0) d s = (s, []) := by rw [List.take_zero, wTerms]
theorem wQueries_succ (d : Nat) (l : List Query) (s : σ) (i : Nat) (h : i < l.length) : wQueries fa ff (l.take (i + 1)) d s = ((wQuery fa ff l[i] d (wQueries fa ff (l.take i) d s).1).1, (wQueries fa ff (l.take i) d s).2 ++ [(wQuery fa ff l[i] d (wQueries fa ff (l.take i) d s).1).2]) := by
 rw [wQueries_map, wQueries_map, mapS_succ _ _ _ _ h]
theorem wQueries_len (d : Nat) (l : List Query) (s : σ) : (wQueries fa ff l d s).2.length = l.length := by rw [wQueries_map, mapS_len]
theorem wQueries_zero (d : Nat) (l : List Query) (s : σ) : wQueries fa ff (l.take 0) d s = (s, []) := by rw [List.take_zero, wQueries]
theorem wArms_succ (d : Nat) (l : List Arm) (s : σ) (i : Nat) (h : i < l.length) : wArms fa ff (l.take (i + 1)) d s = ((wArm fa ff l[i] d (wArms fa ff (l.take i) d s).1).1, (wArms fa ff (l.take i) d s).2 ++ [(wArm fa ff l[i] d (wArms fa ff (l.take i) d s).1).2]) := by
 rw [wArms_map, wArms_map, mapS_succ _ _ _ _ h]
theorem wArms_len (d : Nat) (l : List Arm) (s : σ) : (wArms fa ff l d s).2.length = l.length := by rw [wArms_map, mapS_len]
theorem wArms_zero (d : Nat) (l : List Arm) (s : σ) : wArms fa ff (l.take 0) d s = (s, []) := by rw [List.take_zero, wArms]
theorem wRows_succ (d : Nat) (l : List (List Term)) (s : σ) (i : Nat) (h : i < l.length) : wRows fa ff (l.take (i + 1)) d s = ((wTerms fa ff l[i] d (wRows fa ff (l.take i) d s).1).1, (wRows fa ff (l.take i) d s).2 ++ [(wTerms fa ff l[i] d (wRows fa ff (l.take i) d s).1).2]) := by
 rw [wRows_map, wRows_map, mapS_succ _ _ _ _ h]
theorem wRows_len (d : Nat) (l : List (List Term)) (s : σ) : (wRows fa ff l d s).2.length = l.length := by rw [wRows_map, mapS_len]
theorem wRows_zero (d : Nat) (l : List (List Term)) (s : σ) : wRows fa ff (l.take 0) d s = (s, []) := by rw [List.take_zero, wRows]
theorem wFroms_succ (d : Nat) (l : List From) (s : σ) (i : Nat) (h : i < l.length) : wFroms fa ff (l.take (i + 1)) d s = ((wFrom fa ff l[i] d (wFroms fa ff (l.take i) d s).1).1, (wFroms fa ff (l.take i) d s).2 ++ [(wFrom fa ff l[i] d (wFroms fa ff (l.take i) d s).1).2]) := by
 rw [wFroms_map, wFroms_map, mapS_succ _ _ _ _ h]
theorem wFroms_len (d : Nat) (l : List From) (s : σ) : (wFroms fa ff l d s).2.length = l.length := by rw [wFroms_map, mapS_len]
theorem wFroms_zero (d : Nat) (l : List From) (s : σ) : wFroms fa ff (l.take 0) d s = (s, []) := by rw [List.take_zero, wFroms]
theorem wAggs_succ (d : Nat) (l : List Agg) (s : σ) (i : Nat) (h : i < l.length) : wAggs fa ff (l.take (i + 1)) d s = ((wAgg fa ff l[i] d (wAggs fa ff (l.take i) d s).1).1, (wAggs fa ff (l.take i) d s).2 ++ [(wAgg fa ff l[i] d (wAggs fa ff (l.take i) d s).1).2]) := by
 rw [wAggs_map, wAggs_map, mapS_succ _ _ _ _ h]
theorem wAggs_len (d : Nat) (l : List Agg) (s : σ) : (wAggs fa ff l d s).2.length = l.length := by rw [wAggs_map, mapS_len]
theorem wAggs_zero (d : Nat) (l : List Agg) (s : σ) : wAggs fa ff (l.take 0) d s = (s, []) := by rw [List.take_zero, wAggs]
theorem wBounds_succ (d : Nat) (l : List Bound) (s : σ) (i : Nat) (h : i < l.length) : wBounds fa ff (l.take (i + 1)) d s = ((wBound fa ff l[i] d (wBounds fa ff (l.take i) d s).1).1, (wBounds fa ff (l.take i) d s).2 ++ [(wBound fa ff l[i] d (wBounds fa ff (l.take i) d s).1).2]) := by
 rw [wBounds_map, wBounds_map, mapS_succ _ _ _ _ h]
theorem wBounds_len (d : Nat) (l : List Bound) (s : σ) : (wBounds fa ff l d s).2.length = l.length := by rw [wBounds_map, mapS_len]
theorem wBounds_zero (d : Nat) (l : List Bound) (s : σ) : wBounds fa ff (l.take 0) d s = (s, []) := by rw [List.take_zero, wBounds]
theorem wSteps_succ (d : Nat) (l : List Step) (s : σ) (i : Nat) (h : i < l.length) : wSteps fa ff (l.take (i + 1)) d s = ((wStep fa ff l[i] d (wSteps fa ff (l.take i) d s).1).1, (wSteps fa ff (l.take i) d s).2 ++ [(wStep fa ff l[i] d (wSteps fa ff (l.take i) d s).1).2]) := by
 rw [wSteps_map, wSteps_map, mapS_succ _ _ _ _ h]
theorem wSteps_len (d : Nat) (l : List Step) (s : σ) : (wSteps fa ff l d s).2.length = l.length := by rw [wSteps_map, mapS_len]
theorem wSteps_zero (d : Nat) (l : List Step) (s : σ) : wSteps fa ff (l.take 0) d s = (s, []) := by rw [List.take_zero, wSteps]
/-- An arm's parts, one behind the other. -/
structure ArmW (a : Arm) (d : Nat) (s : σ) where
 r1 : σ × List (List Term)
 r2 : σ × List From
 r3 : σ × List Agg
 r4 : σ × List Step
 r5 : σ × List Term
 r6 : σ × List Term
 r7 : σ × List Term
 r8 : σ × List Term
 r9 : σ × List Term
def armW (a : Arm) (d : Nat) (s : σ) : ArmW a d s :=
 let r1 := wRows fa ff a.rows d s
 let r2 := wFroms fa ff a.frm d r1.1
 let r3 := wAggs fa ff a.aggs d r2.1
 let r4 := wSteps fa ff a.steps d r3.1
 let r5 := wTerms fa ff a.whr d r4.1
 let r6 := wTerms fa ff a.group d r5.1
 let r7 := wTerms fa ff a.having d r6.1
 let r8 := wTerms fa ff a.out d r7.1
 let r9 := wTerms fa ff a.extra d r8.1
 ⟨r1, r2, r3, r4, r5, r6, r7, r8, r9⟩
def ArmW.arm {a : Arm} {d : Nat} {s : σ} (x : ArmW a d s) : Arm := ⟨a.comp, a.distinct, a.values, x.r1.2, x.r2.2, x.r5.2, a.grouped, x.r6.2, x.r3.2, x.r7.2, x.r8.2, x.r9.2, x.r4.2⟩
theorem wArm_eq (a : Arm) (d : Nat) (s : σ) : wArm fa ff a d s = fa (armW fa ff a d s).r9.1 (armW fa ff a d s).arm := by cases a; rw [wArm]; rfl
end Go.Pl
namespace Go.Pl
open Go.Lib
def put : List Int → Int → List Int
 | [], n => [n]
 | x :: r, n => if x < n then x :: put r n else if x = n then x :: r else n :: x :: r
def puts (l m : List Int) : List Int := m.foldl put l
def canon (l : List Int) : List Int := puts [] l
abbrev Up (l : List Int) : Prop := l.Pairwise (· < ·)
theorem mem_put : ∀ (l : List Int) (n x : Int), x ∈ put l n ↔ x = n ∨ x ∈ l
 | [], n, x => by simp [put]
 | y :: r, n, x => by
  unfold put
  split
  ·simp only [List.mem_cons, mem_put r n x]
   constructor <;> (intro h; rcases h with h | h | h <;> simp [h])
  ·split
   ·rename_i h; subst h; simp
   ·simp
theorem up_put : ∀ (l : List Int) (n : Int), Up l → Up (put l n)
 | [], n, h => by simp [put, Up]
 | y :: r, n, h => by
  obtain ⟨h1, h2⟩ := List.pairwise_cons.1 h
  unfold put
  split
  ·rename_i hlt
   refine List.pairwise_cons.2 ⟨fun z hz => ?_, up_put r n h2⟩
   rcases (mem_put r n z).1 hz with rfl | hz
   ·exact hlt
   ·exact h1 z hz
  ·split
   ·exact h
   ·refine List.pairwise_cons.2 ⟨fun z hz => ?_, h⟩
    rcases List.mem_cons.1 hz with rfl | hz
    ·omega
    ·have := h1 z hz; omega
theorem mem_puts : ∀ (m l : List Int) (x : Int), x ∈ puts l m ↔ x ∈ l ∨ x ∈ m
 | [], l, x => by simp [puts]
 | y :: m, l, x => by
  have := mem_puts m (put l y) x
  unfold puts at this ⊢
  rw [List.foldl_cons, this, mem_put]
  simp only [List.mem_cons]
  constructor
  ·rintro ((h | h) | h)
   ·exact .inr (.inl h)
   ·exact .inl h
   ·exact .inr (.inr h)
  ·rintro (h | h | h)
   ·exact .inl (.inr h)
   ·exact .inl (.inl h)
   ·exact .inr h
theorem up_puts : ∀ (m l : List Int), Up l → Up (puts l m)
 | [], l, h => h
 | y :: m, l, h => up_puts m (put l y) (up_put l y h)
theorem mem_canon (l : List Int) (x : Int) : x ∈ canon l ↔ x ∈ l := by unfold canon; rw [mem_puts]; simp
theorem up_canon (l : List Int) : Up (canon l) := up_puts l [] List.Pairwise.nil
/-- Two lists that rise and have the same members are the same. -/
theorem up_ext : ∀ (l m : List Int), Up l → Up m → (∀ x, x ∈ l ↔ x ∈ m) → l = m
 | [], [], _, _, _ => rfl
 | [], y :: m, _, _, h => by have := (h y).2 (by simp); simp at this
 | x :: l, [], _, _, h => by have := (h x).1 (by simp); simp at this
 | x :: l, y :: m, hl, hm, h => by
  obtain ⟨a1, a2⟩ := List.pairwise_cons.1 hl
  obtain ⟨b1, b2⟩ := List.pairwise_cons.1 hm
  have e : x = y := by
   rcases List.mem_cons.1 ((h x).1 (by simp)) with e | hx
   ·exact e
   ·rcases List.mem_cons.1 ((h y).2 (by simp)) with e | hy
    ·exact e.symm
    ·have := b1 x hx; have := a1 y hy; omega
  subst e
  rw [up_ext l m a2 b2 fun z => ?_]
  have hz := h z
  simp only [List.mem_cons] at hz
  constructor
  ·intro hm'
   rcases hz.1 (.inr hm') with rfl | h2
   ·have := a1 z hm'; omega
   ·exact h2
  ·intro hm'
   rcases hz.2 (.inr hm') with rfl | h2
   ·have := b1 z hm'; omega
   ·exact h2
theorem canon_ext {l m : List Int} (h : ∀ x, x ∈ l ↔ x ∈ m) : canon l = canon m :=
 up_ext _ _ (up_canon l) (up_canon m) fun x => by rw [mem_canon, mem_canon, h]
theorem puts_canon (l m : List Int) : puts (canon l) (canon m) = canon (l ++ m) :=
 up_ext _ _ (up_puts _ _ (up_canon l)) (up_canon _) fun x => by rw [mem_puts, mem_canon, mem_canon, mem_canon, List.mem_append]
theorem put_canon (l : List Int) (n : Int) : put (canon l) n = canon (l ++ [n]) :=
 up_ext _ _ (up_put _ _ (up_canon l)) (up_canon _) fun x => by rw [mem_put, mem_canon, mem_canon, List.mem_append, List.mem_singleton, or_comm]
theorem canon_nil : canon [] = [] := rfl
theorem len_put : ∀ (l : List Int) (n : Int), (put l n).length ≤ l.length + 1
 | [], n => by simp [put]
 | y :: r, n => by
  have := len_put r n
  unfold put
  split
  ·simp only [List.length_cons]; omega
  ·split <;> simp
theorem len_puts : ∀ (m l : List Int), (puts l m).length ≤ l.length + m.length
 | [], l => by simp [puts]
 | y :: m, l => by
  have h1 := len_put l y
  have h2 := len_puts m (put l y)
  unfold puts at h2 ⊢
  rw [List.foldl_cons]
  simp only [List.length_cons]; omega
theorem len_canon (l : List Int) : (canon l).length ≤ l.length := by have := len_puts l []; simpa [canon] using this
/-- A number put in, seen from the list's end. -/
theorem put_all_lt : ∀ (l : List Int) (n : Int), (∀ x ∈ l, x < n) → put l n = l ++ [n]
 | [], n, _ => rfl
 | y :: r, n, h => by
  unfold put
  rw [if_pos (h y (by simp)), put_all_lt r n fun x hx => h x (by simp [hx])]; rfl
theorem put_snoc_done : ∀ (l : List Int) (n x : Int), (∃ y ∈ l, n ≤ y) → put (l ++ [x]) n = put l n ++ [x]
 | [], n, x, h => by obtain ⟨y, hy, _⟩ := h; simp at hy
 | z :: r, n, x, h => by
  simp only [List.cons_append, put]
  split
  ·rename_i hlt
   rw [put_snoc_done r n x ?_]; rfl
   obtain ⟨y, hy, hn⟩ := h
   rcases List.mem_cons.1 hy with rfl | hy
   ·omega
   ·exact ⟨y, hy, hn⟩
  ·split <;> rfl
theorem put_snoc_now : ∀ (l : List Int) (n x : Int), (∀ y ∈ l, y < n) → n ≤ x → put (l ++ [x]) n = l ++ (if n < x then [n] else []) ++ [x]
 | [], n, x, _, hx => by
  simp only [List.nil_append, put]
  by_cases e : x = n
  ·subst e; simp
  ·have h1 : ¬ x < n := by omega
   have h2 : n < x := by omega
   simp [h1, e, h2]
 | z :: r, n, x, h, hx => by
  simp only [List.cons_append, put]
  rw [if_pos (h z (by simp)), put_snoc_now r n x (fun y hy => h y (by simp [hy])) hx]
/-- Sorted and compacted. -/
theorem compactUpTo_up (d : Array Int) (hs : ∀ i j, i < j → j < d.size → d[i]! ≤ d[j]!) : ∀ m, m ≤ d.size → Up (compactUpTo d m) ∧ (∀ x, x ∈ compactUpTo d m ↔ ∃ j, j < m ∧ x = d[j]!)
 | 0, _ => by simp [compactUpTo, Up]
 | m + 1, hm => by
  obtain ⟨h1, h2⟩ := compactUpTo_up d hs m (by omega)
  rw [compactUpTo_succ]
  by_cases hk : keeps d m = true
  ·rw [if_pos hk]
   refine ⟨List.pairwise_append.2 ⟨h1, by simp, fun a ha b hb => ?_⟩, fun x => ?_⟩
   ·simp at hb; subst hb
    obtain ⟨j, hj, rfl⟩ := (h2 a).1 ha
    have hle : d[j]! ≤ d[m - 1]! := by
     by_cases e : j = m - 1
     ·rw [e]; exact Int.le_refl _
     ·exact hs j (m - 1) (by omega) (by omega)
    have hle2 := hs (m - 1) m (by omega) (by omega)
    have hne : d[m]! ≠ d[m - 1]! := by
     have : m ≠ 0 := by omega
     simpa [keeps, this] using hk
    omega
   ·rw [List.mem_append, h2, List.mem_singleton]
    constructor
    ·rintro (⟨j, hj, rfl⟩ | rfl)
     ·exact ⟨j, by omega, rfl⟩
     ·exact ⟨m, by omega, rfl⟩
    ·rintro ⟨j, hj, rfl⟩
     by_cases e : j = m
     ·exact .inr (by rw [e])
     ·exact .inl ⟨j, by omega, rfl⟩
  ·rw [if_neg hk, List.append_nil]
   refine ⟨h1, fun x => ?_⟩
   rw [h2]
   have hk' : m ≠ 0 ∧ d[m]! = d[m - 1]! := by simpa [keeps] using hk
   constructor
   ·rintro ⟨j, hj, rfl⟩; exact ⟨j, by omega, rfl⟩
   ·rintro ⟨j, hj, rfl⟩
    by_cases e : j = m
    ·subst e; exact ⟨j - 1, by omega, hk'.2⟩
    ·exact ⟨j, by omega, rfl⟩
theorem compact_sort (l : List Int) : compact (l.mergeSort fun x y => decide (x ≤ y)) = canon l := by
 have hs : (l.mergeSort fun x y => decide (x ≤ y)).Pairwise fun a b => decide (a ≤ b) = true := List.pairwise_mergeSort (by intro a b c; simp <;> omega) (by intro a b; simp <;> omega) l
 have hmem : ∀ x, x ∈ (l.mergeSort fun x y => decide (x ≤ y)) ↔ x ∈ l := fun x => (List.mergeSort_perm l _).mem_iff
 generalize (l.mergeSort fun x y => decide (x ≤ y)) = zs at hs hmem
 have hget : ∀ j, j < zs.length → ∃ h : j < zs.length, zs.toArray[j]! = zs[j] := fun j h => ⟨h, by simp [getElem!_pos, h]⟩
 obtain ⟨h1, h2⟩ := compactUpTo_up zs.toArray (fun i j hij hj => by
  have hj' : j < zs.length := by simpa using hj
  obtain ⟨_, e1⟩ := hget i (by omega)
  obtain ⟨_, e2⟩ := hget j hj'
  rw [e1, e2]
  have := List.pairwise_iff_getElem.1 hs i j (by omega) hj' hij
  simpa using this) zs.length (by simp)
 refine up_ext _ _ h1 (up_canon l) fun x => ?_
 rw [mem_canon, ← hmem]
 unfold compact
 rw [h2]
 constructor
 ·rintro ⟨j, hj, rfl⟩
  obtain ⟨h, e⟩ := hget j hj
  rw [e]; exact List.getElem_mem h
 ·intro hx
  obtain ⟨j, hj, rfl⟩ := List.mem_iff_getElem.1 hx
  obtain ⟨_, e⟩ := hget j hj
  exact ⟨j, hj, e.symm⟩
mutual
def hTerm : Term → Nat → List Int
 | ⟨op, neg, n, frm, col, name, vk, vi, vt, coll, l, r, args, sub⟩, d => (if op = 100 ∧ n = (d : Int) then [frm] else []) ++ hTerms args d ++ hQueries sub (d + 1)
def hQuery : Query → Nat → List Int
 | ⟨names, arms, order, limit, offset⟩, d => hTerms limit d ++ hTerms offset d ++ hArms arms d
def hArm : Arm → Nat → List Int
 | ⟨comp, distinct, values, rows, frm, whr, grouped, group, aggs, having, out, extra, steps⟩, d => hRows rows d ++ hFroms frm d ++ hAggs aggs d ++ hSteps steps d ++ hTerms whr d ++ hTerms group d ++ hTerms having d ++ hTerms out d ++ hTerms extra d
def hFrom : From → Nat → List Int
 | ⟨join, kind, name, n, width, sub, on⟩, d => hQueries sub d ++ hTerms on d
def hAgg : Agg → Nat → List Int
 | ⟨name, distinct, star, coll, arg⟩, d => hTerms arg d
def hBound : Bound → Nat → List Int
 | ⟨term, opn⟩, d => hTerm term d
def hStep : Step → Nat → List Int
 | ⟨frm, kind, index, eq, low, high, whr⟩, d => hTerms eq d ++ hBounds low d ++ hBounds high d
def hTerms : List Term → Nat → List Int
 | [], _ => []
 | t :: l, d => hTerm t d ++ hTerms l d
def hQueries : List Query → Nat → List Int
 | [], _ => []
 | t :: l, d => hQuery t d ++ hQueries l d
def hArms : List Arm → Nat → List Int
 | [], _ => []
 | t :: l, d => hArm t d ++ hArms l d
def hRows : List (List Term) → Nat → List Int
 | [], _ => []
 | t :: l, d => hTerms t d ++ hRows l d
def hFroms : List From → Nat → List Int
 | [], _ => []
 | t :: l, d => hFrom t d ++ hFroms l d
def hAggs : List Agg → Nat → List Int
 | [], _ => []
 | t :: l, d => hAgg t d ++ hAggs l d
def hBounds : List Bound → Nat → List Int
 | [], _ => []
 | t :: l, d => hBound t d ++ hBounds l d
def hSteps : List Step → Nat → List Int
 | [], _ => []
 | t :: l, d => hStep t d ++ hSteps l d
end
theorem hTerm_eq (t : Term) (d : Nat) : hTerm t d = (if t.op = 100 ∧ t.n = (d : Int) then [t.frm] else []) ++ hTerms t.args d ++ hQueries t.sub (d + 1) := by cases t; rw [hTerm]
theorem hQuery_eq (t : Query) (d : Nat) : hQuery t d = hTerms t.limit d ++ hTerms t.offset d ++ hArms t.arms d := by cases t; rw [hQuery]
theorem hArm_eq (t : Arm) (d : Nat) : hArm t d = hRows t.rows d ++ hFroms t.frm d ++ hAggs t.aggs d ++ hSteps t.steps d ++ hTerms t.whr d ++ hTerms t.group d ++ hTerms t.having d ++ hTerms t.out d ++ hTerms t.extra d := by cases t; rw [hArm]
theorem hFrom_eq (t : From) (d : Nat) : hFrom t d = hQueries t.sub d ++ hTerms t.on d := by cases t; rw [hFrom]
theorem hAgg_eq (t : Agg) (d : Nat) : hAgg t d = hTerms t.arg d := by cases t; rw [hAgg]
theorem hBound_eq (t : Bound) (d : Nat) : hBound t d = hTerm t.term d := by cases t; rw [hBound]
theorem hStep_eq (t : Step) (d : Nat) : hStep t d = hTerms t.eq d ++ hBounds t.low d ++ hBounds t.high d := by cases t; rw [hStep]
theorem hTerms_append (d : Nat) : ∀ (l m : List Term), hTerms (l ++ m) d = hTerms l d ++ hTerms m d
 | [], m => by rw [hTerms]; rfl
 | t :: l, m => by rw [List.cons_append, hTerms, hTerms, hTerms_append d l m, List.append_assoc]
theorem hTerms_mem (d : Nat) (x : Int) : ∀ (l : List Term), x ∈ hTerms l d ↔ ∃ t ∈ l, x ∈ hTerm t d
 | [] => by rw [hTerms]; simp
 | t :: l => by rw [hTerms, List.mem_append, hTerms_mem d x l]; simp
theorem hQueries_append (d : Nat) : ∀ (l m : List Query), hQueries (l ++ m) d = hQueries l d ++ hQueries m d
 | [], m => by rw [hQueries]; rfl
 | t :: l, m => by rw [List.cons_append, hQueries, hQueries, hQueries_append d l m, List.append_assoc]
theorem hArms_append (d : Nat) : ∀ (l m : List Arm), hArms (l ++ m) d = hArms l d ++ hArms m d
 | [], m => by rw [hArms]; rfl
 | t :: l, m => by rw [List.cons_append, hArms, hArms, hArms_append d l m, List.append_assoc]
theorem hRows_mem (d : Nat) (x : Int) : ∀ (l : List (List Term)), x ∈ hRows l d ↔ ∃ t ∈ l, x ∈ hTerms t d
 | [] => by rw [hRows]; simp
 | t :: l => by rw [hRows, List.mem_append, hRows_mem d x l]; simp
theorem hFroms_mem (d : Nat) (x : Int) : ∀ (l : List From), x ∈ hFroms l d ↔ ∃ t ∈ l, x ∈ hFrom t d
 | [] => by rw [hFroms]; simp
 | t :: l => by rw [hFroms, List.mem_append, hFroms_mem d x l]; simp
theorem hAggs_mem (d : Nat) (x : Int) : ∀ (l : List Agg), x ∈ hAggs l d ↔ ∃ t ∈ l, x ∈ hAgg t d
 | [] => by rw [hAggs]; simp
 | t :: l => by rw [hAggs, List.mem_append, hAggs_mem d x l]; simp
theorem hBounds_mem (d : Nat) (x : Int) : ∀ (l : List Bound), x ∈ hBounds l d ↔ ∃ t ∈ l, x ∈ hBound t d
 | [] => by rw [hBounds]; simp
 | t :: l => by rw [hBounds, List.mem_append, hBounds_mem d x l]; simp
theorem hSteps_mem (d : Nat) (x : Int) : ∀ (l : List Step), x ∈ hSteps l d ↔ ∃ t ∈ l, x ∈ hStep t d
 | [] => by rw [hSteps]; simp
 | t :: l => by rw [hSteps, List.mem_append, hSteps_mem d x l]; simp
mutual
theorem hlTerm : ∀ (t : Term) (d : Nat), (hTerm t d).length ≤ t.w
 | ⟨op, neg, n, frm, col, name, vk, vi, vt, coll, l, r, args, sub⟩, d => by
  rw [hTerm, Term.w]
  have i0 := hlTerms args d
  have i1 := hlQueries sub (d + 1)
  simp only [List.length_append]
  split
  ·simp only [List.length_cons, List.length_nil]; omega
  ·simp only [List.length_nil]; omega
theorem hlQuery : ∀ (t : Query) (d : Nat), (hQuery t d).length ≤ t.w
 | ⟨names, arms, order, limit, offset⟩, d => by
  rw [hQuery, Query.w]
  have i0 := hlTerms limit d
  have i1 := hlTerms offset d
  have i2 := hlArms arms d
  simp only [List.length_append]
  omega
theorem hlArm : ∀ (t : Arm) (d : Nat), (hArm t d).length ≤ t.w
 | ⟨comp, distinct, values, rows, frm, whr, grouped, group, aggs, having, out, extra, steps⟩, d => by
  rw [hArm, Arm.w]
  have i0 := hlRows rows d
  have i1 := hlFroms frm d
  have i2 := hlAggs aggs d
  have i3 := hlSteps steps d
  have i4 := hlTerms whr d
  have i5 := hlTerms group d
  have i6 := hlTerms having d
  have i7 := hlTerms out d
  have i8 := hlTerms extra d
  simp only [List.length_append]
  omega
theorem hlFrom : ∀ (t : From) (d : Nat), (hFrom t d).length ≤ t.w
 | ⟨join, kind, name, n, width, sub, on⟩, d => by
  rw [hFrom, From.w]
  have i0 := hlQueries sub d
  have i1 := hlTerms on d
  simp only [List.length_append]
  omega
theorem hlAgg : ∀ (t : Agg) (d : Nat), (hAgg t d).length ≤ t.w
 | ⟨name, distinct, star, coll, arg⟩, d => by
  rw [hAgg, Agg.w]
  have i0 := hlTerms arg d
  omega
theorem hlBound : ∀ (t : Bound) (d : Nat), (hBound t d).length ≤ t.w
 | ⟨term, opn⟩, d => by
  rw [hBound, Bound.w]
  have i0 := hlTerm term d
  omega
theorem hlStep : ∀ (t : Step) (d : Nat), (hStep t d).length ≤ t.w
 | ⟨frm, kind, index, eq, low, high, whr⟩, d => by
  rw [hStep, Step.w]
  have i0 := hlTerms eq d
  have i1 := hlBounds low d
  have i2 := hlBounds high d
  simp only [List.length_append]
  omega
theorem hlTerms : ∀ (l : List Term) (d : Nat), (hTerms l d).length ≤ (l.map Term.w).sum
 | [], d => by rw [hTerms]; simp
 | t :: l, d => by
  rw [hTerms, List.length_append, List.map_cons, List.sum_cons]
  have i1 := hlTerm t d
  have i2 := hlTerms l d
  omega
theorem hlQueries : ∀ (l : List Query) (d : Nat), (hQueries l d).length ≤ (l.map Query.w).sum
 | [], d => by rw [hQueries]; simp
 | t :: l, d => by
  rw [hQueries, List.length_append, List.map_cons, List.sum_cons]
  have i1 := hlQuery t d
  have i2 := hlQueries l d
  omega
theorem hlArms : ∀ (l : List Arm) (d : Nat), (hArms l d).length ≤ (l.map Arm.w).sum
 | [], d => by rw [hArms]; simp
 | t :: l, d => by
  rw [hArms, List.length_append, List.map_cons, List.sum_cons]
  have i1 := hlArm t d
  have i2 := hlArms l d
  omega
theorem hlRows : ∀ (l : List (List Term)) (d : Nat), (hRows l d).length ≤ (l.map (fun l : List Term => 1 + (l.map Term.w).sum)).sum
 | [], d => by rw [hRows]; simp
 | t :: l, d => by
  rw [hRows, List.length_append, List.map_cons, List.sum_cons]
  have i1 := hlTerms t d
  have i2 := hlRows l d
  omega
theorem hlFroms : ∀ (l : List From) (d : Nat), (hFroms l d).length ≤ (l.map From.w).sum
 | [], d => by rw [hFroms]; simp
 | t :: l, d => by
  rw [hFroms, List.length_append, List.map_cons, List.sum_cons]
  have i1 := hlFrom t d
  have i2 := hlFroms l d
  omega
theorem hlAggs : ∀ (l : List Agg) (d : Nat), (hAggs l d).length ≤ (l.map Agg.w).sum
 | [], d => by rw [hAggs]; simp
 | t :: l, d => by
  rw [hAggs, List.length_append, List.map_cons, List.sum_cons]
  have i1 := hlAgg t d
  have i2 := hlAggs l d
  omega
theorem hlBounds : ∀ (l : List Bound) (d : Nat), (hBounds l d).length ≤ (l.map Bound.w).sum
 | [], d => by rw [hBounds]; simp
 | t :: l, d => by
  rw [hBounds, List.length_append, List.map_cons, List.sum_cons]
  have i1 := hlBound t d
  have i2 := hlBounds l d
  omega
theorem hlSteps : ∀ (l : List Step) (d : Nat), (hSteps l d).length ≤ (l.map Step.w).sum
 | [], d => by rw [hSteps]; simp
 | t :: l, d => by
  rw [hSteps, List.length_append, List.map_cons, List.sum_cons]
  have i1 := hlStep t d
  have i2 := hlSteps l d
  omega
end
/-- The gatherer. -/
def gff (s : List Int) (t : Term) (d : Nat) : List Int := if t.n = (d : Int) then s ++ [t.frm] else s
def gfa (s : List Int) (a : Arm) : List Int × Arm := (s, a)
mutual
theorem whTerm : ∀ (t : Term) (d : Nat) (s : List Int), (wTerm gfa gff t d s).1 = s ++ hTerm t d
 | ⟨op, neg, n, frm, col, name, vk, vi, vt, coll, l, r, args, sub⟩, d, s => by
  rw [wTerm, hTerm]
  simp only []
  rw [whQueries sub (d + 1), whTerms args d]
  simp only [fldS, gff]
  by_cases h1 : op = 100
  ·by_cases h2 : n = (d : Int)
   ·simp [h1, h2]
   ·simp [h1, h2]
  ·simp [h1]
theorem whQuery : ∀ (t : Query) (d : Nat) (s : List Int), (wQuery gfa gff t d s).1 = s ++ hQuery t d
 | ⟨names, arms, order, limit, offset⟩, d, s => by
  rw [wQuery, hQuery]
  simp only []
  rw [whArms arms d, whTerms offset d, whTerms limit d]
  simp only [List.append_assoc]
theorem whArm : ∀ (t : Arm) (d : Nat) (s : List Int), (wArm gfa gff t d s).1 = s ++ hArm t d
 | ⟨comp, distinct, values, rows, frm, whr, grouped, group, aggs, having, out, extra, steps⟩, d, s => by
  rw [wArm, hArm]
  simp only [gfa, ]
  rw [whTerms extra d, whTerms out d, whTerms having d, whTerms group d, whTerms whr d, whSteps steps d, whAggs aggs d, whFroms frm d, whRows rows d]
  simp only [List.append_assoc]
theorem whFrom : ∀ (t : From) (d : Nat) (s : List Int), (wFrom gfa gff t d s).1 = s ++ hFrom t d
 | ⟨join, kind, name, n, width, sub, on⟩, d, s => by
  rw [wFrom, hFrom]
  simp only []
  rw [whTerms on d, whQueries sub d]
  simp only [List.append_assoc]
theorem whAgg : ∀ (t : Agg) (d : Nat) (s : List Int), (wAgg gfa gff t d s).1 = s ++ hAgg t d
 | ⟨name, distinct, star, coll, arg⟩, d, s => by
  rw [wAgg, hAgg]
  simp only []
  rw [whTerms arg d]
theorem whBound : ∀ (t : Bound) (d : Nat) (s : List Int), (wBound gfa gff t d s).1 = s ++ hBound t d
 | ⟨term, opn⟩, d, s => by
  rw [wBound, hBound]
  simp only []
  rw [whTerm term d]
theorem whStep : ∀ (t : Step) (d : Nat) (s : List Int), (wStep gfa gff t d s).1 = s ++ hStep t d
 | ⟨frm, kind, index, eq, low, high, whr⟩, d, s => by
  rw [wStep, hStep]
  simp only []
  rw [whBounds high d, whBounds low d, whTerms eq d]
  simp only [List.append_assoc]
theorem whTerms : ∀ (l : List Term) (d : Nat) (s : List Int), (wTerms gfa gff l d s).1 = s ++ hTerms l d
 | [], d, s => by rw [wTerms, hTerms]; simp
 | t :: l, d, s => by
  rw [wTerms, hTerms]
  simp only []
  rw [whTerms l d, whTerm t d, List.append_assoc]
theorem whQueries : ∀ (l : List Query) (d : Nat) (s : List Int), (wQueries gfa gff l d s).1 = s ++ hQueries l d
 | [], d, s => by rw [wQueries, hQueries]; simp
 | t :: l, d, s => by
  rw [wQueries, hQueries]
  simp only []
  rw [whQueries l d, whQuery t d, List.append_assoc]
theorem whArms : ∀ (l : List Arm) (d : Nat) (s : List Int), (wArms gfa gff l d s).1 = s ++ hArms l d
 | [], d, s => by rw [wArms, hArms]; simp
 | t :: l, d, s => by
  rw [wArms, hArms]
  simp only []
  rw [whArms l d, whArm t d, List.append_assoc]
theorem whRows : ∀ (l : List (List Term)) (d : Nat) (s : List Int), (wRows gfa gff l d s).1 = s ++ hRows l d
 | [], d, s => by rw [wRows, hRows]; simp
 | t :: l, d, s => by
  rw [wRows, hRows]
  simp only []
  rw [whRows l d, whTerms t d, List.append_assoc]
theorem whFroms : ∀ (l : List From) (d : Nat) (s : List Int), (wFroms gfa gff l d s).1 = s ++ hFroms l d
 | [], d, s => by rw [wFroms, hFroms]; simp
 | t :: l, d, s => by
  rw [wFroms, hFroms]
  simp only []
  rw [whFroms l d, whFrom t d, List.append_assoc]
theorem whAggs : ∀ (l : List Agg) (d : Nat) (s : List Int), (wAggs gfa gff l d s).1 = s ++ hAggs l d
 | [], d, s => by rw [wAggs, hAggs]; simp
 | t :: l, d, s => by
  rw [wAggs, hAggs]
  simp only []
  rw [whAggs l d, whAgg t d, List.append_assoc]
theorem whBounds : ∀ (l : List Bound) (d : Nat) (s : List Int), (wBounds gfa gff l d s).1 = s ++ hBounds l d
 | [], d, s => by rw [wBounds, hBounds]; simp
 | t :: l, d, s => by
  rw [wBounds, hBounds]
  simp only []
  rw [whBounds l d, whBound t d, List.append_assoc]
theorem whSteps : ∀ (l : List Step) (d : Nat) (s : List Int), (wSteps gfa gff l d s).1 = s ++ hSteps l d
 | [], d, s => by rw [wSteps, hSteps]; simp
 | t :: l, d, s => by
  rw [wSteps, hSteps]
  simp only []
  rw [whSteps l d, whStep t d, List.append_assoc]
end
section
variable {σ : Type} (fa : σ → Arm → σ × Arm) (ff : σ → Term → Nat → σ) (good : σ → Prop) (hgf : ∀ s t d, good (ff s t d) → good s) (hga : ∀ s a, good (fa s a).1 → good s)
include hgf hga
mutual
theorem gdTerm : ∀ (t : Term) (d : Nat) (s : σ), good (wTerm fa ff t d s).1 → good s
 | ⟨op, neg, n, frm, col, name, vk, vi, vt, coll, l, r, args, sub⟩, d, s, h => by
  rw [wTerm] at h
  have h := gdQueries sub (d + 1) _ h
  have h := gdTerms args d _ h
  unfold fldS at h
  split at h
  ·exact hgf _ _ _ h
  ·exact h
theorem gdQuery : ∀ (t : Query) (d : Nat) (s : σ), good (wQuery fa ff t d s).1 → good s
 | ⟨names, arms, order, limit, offset⟩, d, s, h => by
  rw [wQuery] at h
  have h := gdArms arms d _ h
  have h := gdTerms offset d _ h
  have h := gdTerms limit d _ h
  exact h
theorem gdArm : ∀ (t : Arm) (d : Nat) (s : σ), good (wArm fa ff t d s).1 → good s
 | ⟨comp, distinct, values, rows, frm, whr, grouped, group, aggs, having, out, extra, steps⟩, d, s, h => by
  rw [wArm] at h
  have h := hga _ _ h
  have h := gdTerms extra d _ h
  have h := gdTerms out d _ h
  have h := gdTerms having d _ h
  have h := gdTerms group d _ h
  have h := gdTerms whr d _ h
  have h := gdSteps steps d _ h
  have h := gdAggs aggs d _ h
  have h := gdFroms frm d _ h
  have h := gdRows rows d _ h
  exact h
theorem gdFrom : ∀ (t : From) (d : Nat) (s : σ), good (wFrom fa ff t d s).1 → good s
 | ⟨join, kind, name, n, width, sub, on⟩, d, s, h => by
  rw [wFrom] at h
  have h := gdTerms on d _ h
  have h := gdQueries sub d _ h
  exact h
theorem gdAgg : ∀ (t : Agg) (d : Nat) (s : σ), good (wAgg fa ff t d s).1 → good s
 | ⟨name, distinct, star, coll, arg⟩, d, s, h => by
  rw [wAgg] at h
  have h := gdTerms arg d _ h
  exact h
theorem gdBound : ∀ (t : Bound) (d : Nat) (s : σ), good (wBound fa ff t d s).1 → good s
 | ⟨term, opn⟩, d, s, h => by
  rw [wBound] at h
  have h := gdTerm term d _ h
  exact h
theorem gdStep : ∀ (t : Step) (d : Nat) (s : σ), good (wStep fa ff t d s).1 → good s
 | ⟨frm, kind, index, eq, low, high, whr⟩, d, s, h => by
  rw [wStep] at h
  have h := gdBounds high d _ h
  have h := gdBounds low d _ h
  have h := gdTerms eq d _ h
  exact h
theorem gdTerms : ∀ (l : List Term) (d : Nat) (s : σ), good (wTerms fa ff l d s).1 → good s
 | [], d, s, h => by rw [wTerms] at h; exact h
 | t :: l, d, s, h => by rw [wTerms] at h; exact gdTerm t d s (gdTerms l d _ h)
theorem gdQueries : ∀ (l : List Query) (d : Nat) (s : σ), good (wQueries fa ff l d s).1 → good s
 | [], d, s, h => by rw [wQueries] at h; exact h
 | t :: l, d, s, h => by rw [wQueries] at h; exact gdQuery t d s (gdQueries l d _ h)
theorem gdArms : ∀ (l : List Arm) (d : Nat) (s : σ), good (wArms fa ff l d s).1 → good s
 | [], d, s, h => by rw [wArms] at h; exact h
 | t :: l, d, s, h => by rw [wArms] at h; exact gdArm t d s (gdArms l d _ h)
theorem gdRows : ∀ (l : List (List Term)) (d : Nat) (s : σ), good (wRows fa ff l d s).1 → good s
 | [], d, s, h => by rw [wRows] at h; exact h
 | t :: l, d, s, h => by rw [wRows] at h; exact gdTerms t d s (gdRows l d _ h)
theorem gdFroms : ∀ (l : List From) (d : Nat) (s : σ), good (wFroms fa ff l d s).1 → good s
 | [], d, s, h => by rw [wFroms] at h; exact h
 | t :: l, d, s, h => by rw [wFroms] at h; exact gdFrom t d s (gdFroms l d _ h)
theorem gdAggs : ∀ (l : List Agg) (d : Nat) (s : σ), good (wAggs fa ff l d s).1 → good s
 | [], d, s, h => by rw [wAggs] at h; exact h
 | t :: l, d, s, h => by rw [wAggs] at h; exact gdAgg t d s (gdAggs l d _ h)
theorem gdBounds : ∀ (l : List Bound) (d : Nat) (s : σ), good (wBounds fa ff l d s).1 → good s
 | [], d, s, h => by rw [wBounds] at h; exact h
 | t :: l, d, s, h => by rw [wBounds] at h; exact gdBound t d s (gdBounds l d _ h)
theorem gdSteps : ∀ (l : List Step) (d : Nat) (s : σ), good (wSteps fa ff l d s).1 → good s
 | [], d, s, h => by rw [wSteps] at h; exact h
 | t :: l, d, s, h => by rw [wSteps] at h; exact gdStep t d s (gdSteps l d _ h)
end
theorem gdTerms_take (l : List Term) (d : Nat) (s : σ) (k : Nat) (h : good (wTerms fa ff l d s).1) : good (wTerms fa ff (l.take k) d s).1 := by
 have e : wTerms fa ff l d s = wTerms fa ff (l.take k ++ l.drop k) d s := by rw [List.take_append_drop]
 rw [e, wTerms_map, mapS_append, ← wTerms_map, ← wTerms_map] at h
 exact gdTerms fa ff good hgf hga _ _ _ h
theorem gdTerms_at (l : List Term) (d : Nat) (s : σ) (i : Nat) (hi : i < l.length) (h : good (wTerms fa ff l d s).1) : good (wTerm fa ff l[i] d (wTerms fa ff (l.take i) d s).1).1 := by
 have h := gdTerms_take fa ff good hgf hga l d s (i + 1) h
 rw [wTerms_succ _ _ _ _ _ _ hi] at h
 exact h
theorem gdQueries_take (l : List Query) (d : Nat) (s : σ) (k : Nat) (h : good (wQueries fa ff l d s).1) : good (wQueries fa ff (l.take k) d s).1 := by
 have e : wQueries fa ff l d s = wQueries fa ff (l.take k ++ l.drop k) d s := by rw [List.take_append_drop]
 rw [e, wQueries_map, mapS_append, ← wQueries_map, ← wQueries_map] at h
 exact gdQueries fa ff good hgf hga _ _ _ h
theorem gdQueries_at (l : List Query) (d : Nat) (s : σ) (i : Nat) (hi : i < l.length) (h : good (wQueries fa ff l d s).1) : good (wQuery fa ff l[i] d (wQueries fa ff (l.take i) d s).1).1 := by
 have h := gdQueries_take fa ff good hgf hga l d s (i + 1) h
 rw [wQueries_succ _ _ _ _ _ _ hi] at h
 exact h
theorem gdArms_take (l : List Arm) (d : Nat) (s : σ) (k : Nat) (h : good (wArms fa ff l d s).1) : good (wArms fa ff (l.take k) d s).1 := by
 have e : wArms fa ff l d s = wArms fa ff (l.take k ++ l.drop k) d s := by rw [List.take_append_drop]
 rw [e, wArms_map, mapS_append, ← wArms_map, ← wArms_map] at h
 exact gdArms fa ff good hgf hga _ _ _ h
theorem gdArms_at (l : List Arm) (d : Nat) (s : σ) (i : Nat) (hi : i < l.length) (h : good (wArms fa ff l d s).1) : good (wArm fa ff l[i] d (wArms fa ff (l.take i) d s).1).1 := by
 have h := gdArms_take fa ff good hgf hga l d s (i + 1) h
 rw [wArms_succ _ _ _ _ _ _ hi] at h
 exact h
theorem gdRows_take (l : List (List Term)) (d : Nat) (s : σ) (k : Nat) (h : good (wRows fa ff l d s).1) : good (wRows fa ff (l.take k) d s).1 := by
 have e : wRows fa ff l d s = wRows fa ff (l.take k ++ l.drop k) d s := by rw [List.take_append_drop]
 rw [e, wRows_map, mapS_append, ← wRows_map, ← wRows_map] at h
 exact gdRows fa ff good hgf hga _ _ _ h
theorem gdRows_at (l : List (List Term)) (d : Nat) (s : σ) (i : Nat) (hi : i < l.length) (h : good (wRows fa ff l d s).1) : good (wTerms fa ff l[i] d (wRows fa ff (l.take i) d s).1).1 := by
 have h := gdRows_take fa ff good hgf hga l d s (i + 1) h
 rw [wRows_succ _ _ _ _ _ _ hi] at h
 exact h
theorem gdFroms_take (l : List From) (d : Nat) (s : σ) (k : Nat) (h : good (wFroms fa ff l d s).1) : good (wFroms fa ff (l.take k) d s).1 := by
 have e : wFroms fa ff l d s = wFroms fa ff (l.take k ++ l.drop k) d s := by rw [List.take_append_drop]
 rw [e, wFroms_map, mapS_append, ← wFroms_map, ← wFroms_map] at h
 exact gdFroms fa ff good hgf hga _ _ _ h
theorem gdFroms_at (l : List From) (d : Nat) (s : σ) (i : Nat) (hi : i < l.length) (h : good (wFroms fa ff l d s).1) : good (wFrom fa ff l[i] d (wFroms fa ff (l.take i) d s).1).1 := by
 have h := gdFroms_take fa ff good hgf hga l d s (i + 1) h
 rw [wFroms_succ _ _ _ _ _ _ hi] at h
 exact h
theorem gdAggs_take (l : List Agg) (d : Nat) (s : σ) (k : Nat) (h : good (wAggs fa ff l d s).1) : good (wAggs fa ff (l.take k) d s).1 := by
 have e : wAggs fa ff l d s = wAggs fa ff (l.take k ++ l.drop k) d s := by rw [List.take_append_drop]
 rw [e, wAggs_map, mapS_append, ← wAggs_map, ← wAggs_map] at h
 exact gdAggs fa ff good hgf hga _ _ _ h
theorem gdAggs_at (l : List Agg) (d : Nat) (s : σ) (i : Nat) (hi : i < l.length) (h : good (wAggs fa ff l d s).1) : good (wAgg fa ff l[i] d (wAggs fa ff (l.take i) d s).1).1 := by
 have h := gdAggs_take fa ff good hgf hga l d s (i + 1) h
 rw [wAggs_succ _ _ _ _ _ _ hi] at h
 exact h
theorem gdBounds_take (l : List Bound) (d : Nat) (s : σ) (k : Nat) (h : good (wBounds fa ff l d s).1) : good (wBounds fa ff (l.take k) d s).1 := by
 have e : wBounds fa ff l d s = wBounds fa ff (l.take k ++ l.drop k) d s := by rw [List.take_append_drop]
 rw [e, wBounds_map, mapS_append, ← wBounds_map, ← wBounds_map] at h
 exact gdBounds fa ff good hgf hga _ _ _ h
theorem gdBounds_at (l : List Bound) (d : Nat) (s : σ) (i : Nat) (hi : i < l.length) (h : good (wBounds fa ff l d s).1) : good (wBound fa ff l[i] d (wBounds fa ff (l.take i) d s).1).1 := by
 have h := gdBounds_take fa ff good hgf hga l d s (i + 1) h
 rw [wBounds_succ _ _ _ _ _ _ hi] at h
 exact h
theorem gdSteps_take (l : List Step) (d : Nat) (s : σ) (k : Nat) (h : good (wSteps fa ff l d s).1) : good (wSteps fa ff (l.take k) d s).1 := by
 have e : wSteps fa ff l d s = wSteps fa ff (l.take k ++ l.drop k) d s := by rw [List.take_append_drop]
 rw [e, wSteps_map, mapS_append, ← wSteps_map, ← wSteps_map] at h
 exact gdSteps fa ff good hgf hga _ _ _ h
theorem gdSteps_at (l : List Step) (d : Nat) (s : σ) (i : Nat) (hi : i < l.length) (h : good (wSteps fa ff l d s).1) : good (wStep fa ff l[i] d (wSteps fa ff (l.take i) d s).1).1 := by
 have h := gdSteps_take fa ff good hgf hga l d s (i + 1) h
 rw [wSteps_succ _ _ _ _ _ _ hi] at h
 exact h
end
end Go.Pl
