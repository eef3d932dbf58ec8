/- Terms and queries gone through by a walker that bears a state: what comes of them. -/
import Derived.Test.YtcckhbconihagaaGreatDoorPlPlain
import Derived.Test.YtcckhbconihagaaGreatDoorPlBound
set_option linter.unusedVariables false
namespace Go.Pl
open Go.Am

/-- A list gone through from its head on, the state borne along. -/
def mapS {σ α β : Type} (f : σ → α → σ × β) : σ → List α → σ × List β
  | s, [] => (s, [])
  | s, x :: l => ((mapS f (f s x).1 l).1, (f s x).2 :: (mapS f (f s x).1 l).2)
theorem mapS_append {σ α β : Type} (f : σ → α → σ × β) : ∀ (l m : List α) (s : σ), mapS f s (l ++ m) = ((mapS f (mapS f s l).1 m).1, (mapS f s l).2 ++ (mapS f (mapS f s l).1 m).2)
  | [], m, s => rfl
  | x :: l, m, s => by simp only [List.cons_append, mapS, mapS_append f l m]
theorem mapS_len {σ α β : Type} (f : σ → α → σ × β) : ∀ (l : List α) (s : σ), (mapS f s l).2.length = l.length
  | [], s => rfl
  | x :: l, s => by simp only [mapS, List.length_cons, mapS_len f l]
theorem mapS_succ {σ α β : Type} (f : σ → α → σ × β) (l : List α) (s : σ) (i : Nat) (h : i < l.length) :
    mapS f s (l.take (i + 1)) = ((f (mapS f s (l.take i)).1 l[i]).1, (mapS f s (l.take i)).2 ++ [(f (mapS f s (l.take i)).1 l[i]).2]) := by
  rw [List.take_succ_eq_append_getElem h, mapS_append]; rfl
theorem mapS_le {σ α β : Type} (f : σ → α → σ × β) (c : σ → Nat) (w : α → Nat) (h : ∀ s x, c (f s x).1 ≤ c s + w x) : ∀ (l : List α) (s : σ), c (mapS f s l).1 ≤ c s + (l.map w).sum
  | [], s => by simp [mapS]
  | x :: l, s => by
    have h1 := h s x
    have h2 := mapS_le f c w h l (f s x).1
    simp only [mapS, List.map_cons, List.sum_cons]; omega

variable {σ : Type} (fa : σ → Arm → σ × Arm) (ff : σ → Term → Nat → σ)

/-- What a field does. -/
def fldS (d : Nat) (s : σ) (t : Term) : σ := if t.op = 100 then ff s t d else s

mutual
def wTerm : Term → Nat → σ → σ × Term
  | ⟨op, neg, n, frm, col, name, vk, vi, vt, coll, l, r, args, sub⟩, d, s =>
    ((wQueries sub (d + 1) (wTerms args d (fldS ff d s ⟨op, neg, n, frm, col, name, vk, vi, vt, coll, l, r, args, sub⟩)).1).1,
     ⟨op, neg, n, frm, col, name, vk, vi, vt, coll, l, r, (wTerms args d (fldS ff d s ⟨op, neg, n, frm, col, name, vk, vi, vt, coll, l, r, args, sub⟩)).2,
       (wQueries sub (d + 1) (wTerms args d (fldS ff d s ⟨op, neg, n, frm, col, name, vk, vi, vt, coll, l, r, args, sub⟩)).1).2⟩)
def wTerms : List Term → Nat → σ → σ × List Term
  | [], _, s => (s, [])
  | t :: l, d, s => ((wTerms l d (wTerm t d s).1).1, (wTerm t d s).2 :: (wTerms l d (wTerm t d s).1).2)
def wQuery : Query → Nat → σ → σ × Query
  | ⟨names, arms, order, limit, offset⟩, d, s =>
    let r1 := wTerms limit d s
    let r2 := wTerms offset d r1.1
    let r3 := wArms arms d r2.1
    (r3.1, ⟨names, r3.2, order, r1.2, r2.2⟩)
def wQueries : List Query → Nat → σ → σ × List Query
  | [], _, s => (s, [])
  | t :: l, d, s => ((wQueries l d (wQuery t d s).1).1, (wQuery t d s).2 :: (wQueries l d (wQuery t d s).1).2)
def wArm : Arm → Nat → σ → σ × Arm
  | ⟨comp, distinct, values, rows, frm, whr, grouped, group, aggs, having, out, extra, steps⟩, d, s =>
    let r1 := wRows rows d s
    let r2 := wFroms frm d r1.1
    let r3 := wAggs aggs d r2.1
    let r4 := wSteps steps d r3.1
    let r5 := wTerms whr d r4.1
    let r6 := wTerms group d r5.1
    let r7 := wTerms having d r6.1
    let r8 := wTerms out d r7.1
    let r9 := wTerms extra d r8.1
    fa r9.1 ⟨comp, distinct, values, r1.2, r2.2, r5.2, grouped, r6.2, r3.2, r7.2, r8.2, r9.2, r4.2⟩
def wArms : List Arm → Nat → σ → σ × List Arm
  | [], _, s => (s, [])
  | t :: l, d, s => ((wArms l d (wArm t d s).1).1, (wArm t d s).2 :: (wArms l d (wArm t d s).1).2)
def wRows : List (List Term) → Nat → σ → σ × List (List Term)
  | [], _, s => (s, [])
  | t :: l, d, s => ((wRows l d (wTerms t d s).1).1, (wTerms t d s).2 :: (wRows l d (wTerms t d s).1).2)
def wFrom : From → Nat → σ → σ × From
  | ⟨join, kind, name, n, width, sub, on⟩, d, s =>
    let r1 := wQueries sub d s
    let r2 := wTerms on d r1.1
    (r2.1, ⟨join, kind, name, n, width, r1.2, r2.2⟩)
def wFroms : List From → Nat → σ → σ × List From
  | [], _, s => (s, [])
  | t :: l, d, s => ((wFroms l d (wFrom t d s).1).1, (wFrom t d s).2 :: (wFroms l d (wFrom t d s).1).2)
def wAgg : Agg → Nat → σ → σ × Agg
  | ⟨name, distinct, star, coll, arg⟩, d, s =>
    let r1 := wTerms arg d s
    (r1.1, ⟨name, distinct, star, coll, r1.2⟩)
def wAggs : List Agg → Nat → σ → σ × List Agg
  | [], _, s => (s, [])
  | t :: l, d, s => ((wAggs l d (wAgg t d s).1).1, (wAgg t d s).2 :: (wAggs l d (wAgg t d s).1).2)
def wBound : Bound → Nat → σ → σ × Bound
  | ⟨term, opn⟩, d, s =>
    let r1 := wTerm term d s
    (r1.1, ⟨r1.2, opn⟩)
def wBounds : List Bound → Nat → σ → σ × List Bound
  | [], _, s => (s, [])
  | t :: l, d, s => ((wBounds l d (wBound t d s).1).1, (wBound t d s).2 :: (wBounds l d (wBound t d s).1).2)
def wStep : Step → Nat → σ → σ × Step
  | ⟨frm, kind, index, eq, low, high, whr⟩, d, s =>
    let r1 := wTerms eq d s
    let r2 := wBounds low d r1.1
    let r3 := wBounds high d r2.1
    (r3.1, ⟨frm, kind, index, r1.2, r2.2, r3.2, whr⟩)
def wSteps : List Step → Nat → σ → σ × List Step
  | [], _, s => (s, [])
  | t :: l, d, s => ((wSteps l d (wStep t d s).1).1, (wStep t d s).2 :: (wSteps l d (wStep t d s).1).2)
end
theorem wTerms_map (d : Nat) : ∀ (l : List Term) (s : σ), wTerms fa ff l d s = mapS (fun s t => wTerm fa ff t d s) s l
  | [], s => by rw [wTerms]; rfl
  | t :: l, s => by rw [wTerms, wTerms_map d l]; rfl
theorem wQueries_map (d : Nat) : ∀ (l : List Query) (s : σ), wQueries fa ff l d s = mapS (fun s t => wQuery fa ff t d s) s l
  | [], s => by rw [wQueries]; rfl
  | t :: l, s => by rw [wQueries, wQueries_map d l]; rfl
theorem wArms_map (d : Nat) : ∀ (l : List Arm) (s : σ), wArms fa ff l d s = mapS (fun s t => wArm fa ff t d s) s l
  | [], s => by rw [wArms]; rfl
  | t :: l, s => by rw [wArms, wArms_map d l]; rfl
theorem wRows_map (d : Nat) : ∀ (l : List (List Term)) (s : σ), wRows fa ff l d s = mapS (fun s t => wTerms fa ff t d s) s l
  | [], s => by rw [wRows]; rfl
  | t :: l, s => by rw [wRows, wRows_map d l]; rfl
theorem wFroms_map (d : Nat) : ∀ (l : List From) (s : σ), wFroms fa ff l d s = mapS (fun s t => wFrom fa ff t d s) s l
  | [], s => by rw [wFroms]; rfl
  | t :: l, s => by rw [wFroms, wFroms_map d l]; rfl
theorem wAggs_map (d : Nat) : ∀ (l : List Agg) (s : σ), wAggs fa ff l d s = mapS (fun s t => wAgg fa ff t d s) s l
  | [], s => by rw [wAggs]; rfl
  | t :: l, s => by rw [wAggs, wAggs_map d l]; rfl
theorem wBounds_map (d : Nat) : ∀ (l : List Bound) (s : σ), wBounds fa ff l d s = mapS (fun s t => wBound fa ff t d s) s l
  | [], s => by rw [wBounds]; rfl
  | t :: l, s => by rw [wBounds, wBounds_map d l]; rfl
theorem wSteps_map (d : Nat) : ∀ (l : List Step) (s : σ), wSteps fa ff l d s = mapS (fun s t => wStep fa ff t d s) s l
  | [], s => by rw [wSteps]; rfl
  | t :: l, s => by rw [wSteps, wSteps_map d l]; rfl
theorem wTerm_eq (t : Term) (d : Nat) (s : σ) : wTerm fa ff t d s = ((wQueries fa ff t.sub (d + 1) (wTerms fa ff t.args d (fldS ff d s t)).1).1, { t with args := (wTerms fa ff t.args d (fldS ff d s t)).2, sub := (wQueries fa ff t.sub (d + 1) (wTerms fa ff t.args d (fldS ff d s t)).1).2 }) := by cases t; rw [wTerm]
theorem wQuery_eq (q : Query) (d : Nat) (s : σ) : wQuery fa ff q d s = ((wArms fa ff q.arms d (wTerms fa ff q.offset d (wTerms fa ff q.limit d s).1).1).1, ⟨q.names, (wArms fa ff q.arms d (wTerms fa ff q.offset d (wTerms fa ff q.limit d s).1).1).2, q.order, (wTerms fa ff q.limit d s).2, (wTerms fa ff q.offset d (wTerms fa ff q.limit d s).1).2⟩) := by cases q; rw [wQuery]
theorem wFrom_eq (q : From) (d : Nat) (s : σ) : wFrom fa ff q d s = ((wTerms fa ff q.on d (wQueries fa ff q.sub d s).1).1, { q with sub := (wQueries fa ff q.sub d s).2, on := (wTerms fa ff q.on d (wQueries fa ff q.sub d s).1).2 }) := by cases q; rw [wFrom]
theorem wAgg_eq (q : Agg) (d : Nat) (s : σ) : wAgg fa ff q d s = ((wTerms fa ff q.arg d s).1, { q with arg := (wTerms fa ff q.arg d s).2 }) := by cases q; rw [wAgg]
theorem wBound_eq (q : Bound) (d : Nat) (s : σ) : wBound fa ff q d s = ((wTerm fa ff q.term d s).1, { q with term := (wTerm fa ff q.term d s).2 }) := by cases q; rw [wBound]
theorem wStep_eq (q : Step) (d : Nat) (s : σ) : wStep fa ff q d s = ((wBounds fa ff q.high d (wBounds fa ff q.low d (wTerms fa ff q.eq d s).1).1).1, { q with eq := (wTerms fa ff q.eq d s).2, low := (wBounds fa ff q.low d (wTerms fa ff q.eq d s).1).2, high := (wBounds fa ff q.high d (wBounds fa ff q.low d (wTerms fa ff q.eq d s).1).1).2 }) := by cases q; rw [wStep]
theorem wTerms_succ (d : Nat) (l : List Term) (s : σ) (i : Nat) (h : i < l.length) : wTerms fa ff (l.take (i + 1)) d s = ((wTerm fa ff l[i] d (wTerms fa ff (l.take i) d s).1).1, (wTerms fa ff (l.take i) d s).2 ++ [(wTerm fa ff l[i] d (wTerms fa ff (l.take i) d s).1).2]) := by
  rw [wTerms_map, wTerms_map, mapS_succ _ _ _ _ h]
theorem wTerms_len (d : Nat) (l : List Term) (s : σ) : (wTerms fa ff l d s).2.length = l.length := by rw [wTerms_map, mapS_len]
theorem wTerms_zero (d : Nat) (l : List Term) (s : σ) : wTerms fa ff (l.take 0) d s = (s, []) := by rw [List.take_zero, wTerms]
theorem wQueries_succ (d : Nat) (l : List Query) (s : σ) (i : Nat) (h : i < l.length) : wQueries fa ff (l.take (i + 1)) d s = ((wQuery fa ff l[i] d (wQueries fa ff (l.take i) d s).1).1, (wQueries fa ff (l.take i) d s).2 ++ [(wQuery fa ff l[i] d (wQueries fa ff (l.take i) d s).1).2]) := by
  rw [wQueries_map, wQueries_map, mapS_succ _ _ _ _ h]
theorem wQueries_len (d : Nat) (l : List Query) (s : σ) : (wQueries fa ff l d s).2.length = l.length := by rw [wQueries_map, mapS_len]
theorem wQueries_zero (d : Nat) (l : List Query) (s : σ) : wQueries fa ff (l.take 0) d s = (s, []) := by rw [List.take_zero, wQueries]
theorem wArms_succ (d : Nat) (l : List Arm) (s : σ) (i : Nat) (h : i < l.length) : wArms fa ff (l.take (i + 1)) d s = ((wArm fa ff l[i] d (wArms fa ff (l.take i) d s).1).1, (wArms fa ff (l.take i) d s).2 ++ [(wArm fa ff l[i] d (wArms fa ff (l.take i) d s).1).2]) := by
  rw [wArms_map, wArms_map, mapS_succ _ _ _ _ h]
theorem wArms_len (d : Nat) (l : List Arm) (s : σ) : (wArms fa ff l d s).2.length = l.length := by rw [wArms_map, mapS_len]
theorem wArms_zero (d : Nat) (l : List Arm) (s : σ) : wArms fa ff (l.take 0) d s = (s, []) := by rw [List.take_zero, wArms]
theorem wRows_succ (d : Nat) (l : List (List Term)) (s : σ) (i : Nat) (h : i < l.length) : wRows fa ff (l.take (i + 1)) d s = ((wTerms fa ff l[i] d (wRows fa ff (l.take i) d s).1).1, (wRows fa ff (l.take i) d s).2 ++ [(wTerms fa ff l[i] d (wRows fa ff (l.take i) d s).1).2]) := by
  rw [wRows_map, wRows_map, mapS_succ _ _ _ _ h]
theorem wRows_len (d : Nat) (l : List (List Term)) (s : σ) : (wRows fa ff l d s).2.length = l.length := by rw [wRows_map, mapS_len]
theorem wRows_zero (d : Nat) (l : List (List Term)) (s : σ) : wRows fa ff (l.take 0) d s = (s, []) := by rw [List.take_zero, wRows]
theorem wFroms_succ (d : Nat) (l : List From) (s : σ) (i : Nat) (h : i < l.length) : wFroms fa ff (l.take (i + 1)) d s = ((wFrom fa ff l[i] d (wFroms fa ff (l.take i) d s).1).1, (wFroms fa ff (l.take i) d s).2 ++ [(wFrom fa ff l[i] d (wFroms fa ff (l.take i) d s).1).2]) := by
  rw [wFroms_map, wFroms_map, mapS_succ _ _ _ _ h]
theorem wFroms_len (d : Nat) (l : List From) (s : σ) : (wFroms fa ff l d s).2.length = l.length := by rw [wFroms_map, mapS_len]
theorem wFroms_zero (d : Nat) (l : List From) (s : σ) : wFroms fa ff (l.take 0) d s = (s, []) := by rw [List.take_zero, wFroms]
theorem wAggs_succ (d : Nat) (l : List Agg) (s : σ) (i : Nat) (h : i < l.length) : wAggs fa ff (l.take (i + 1)) d s = ((wAgg fa ff l[i] d (wAggs fa ff (l.take i) d s).1).1, (wAggs fa ff (l.take i) d s).2 ++ [(wAgg fa ff l[i] d (wAggs fa ff (l.take i) d s).1).2]) := by
  rw [wAggs_map, wAggs_map, mapS_succ _ _ _ _ h]
theorem wAggs_len (d : Nat) (l : List Agg) (s : σ) : (wAggs fa ff l d s).2.length = l.length := by rw [wAggs_map, mapS_len]
theorem wAggs_zero (d : Nat) (l : List Agg) (s : σ) : wAggs fa ff (l.take 0) d s = (s, []) := by rw [List.take_zero, wAggs]
theorem wBounds_succ (d : Nat) (l : List Bound) (s : σ) (i : Nat) (h : i < l.length) : wBounds fa ff (l.take (i + 1)) d s = ((wBound fa ff l[i] d (wBounds fa ff (l.take i) d s).1).1, (wBounds fa ff (l.take i) d s).2 ++ [(wBound fa ff l[i] d (wBounds fa ff (l.take i) d s).1).2]) := by
  rw [wBounds_map, wBounds_map, mapS_succ _ _ _ _ h]
theorem wBounds_len (d : Nat) (l : List Bound) (s : σ) : (wBounds fa ff l d s).2.length = l.length := by rw [wBounds_map, mapS_len]
theorem wBounds_zero (d : Nat) (l : List Bound) (s : σ) : wBounds fa ff (l.take 0) d s = (s, []) := by rw [List.take_zero, wBounds]
theorem wSteps_succ (d : Nat) (l : List Step) (s : σ) (i : Nat) (h : i < l.length) : wSteps fa ff (l.take (i + 1)) d s = ((wStep fa ff l[i] d (wSteps fa ff (l.take i) d s).1).1, (wSteps fa ff (l.take i) d s).2 ++ [(wStep fa ff l[i] d (wSteps fa ff (l.take i) d s).1).2]) := by
  rw [wSteps_map, wSteps_map, mapS_succ _ _ _ _ h]
theorem wSteps_len (d : Nat) (l : List Step) (s : σ) : (wSteps fa ff l d s).2.length = l.length := by rw [wSteps_map, mapS_len]
theorem wSteps_zero (d : Nat) (l : List Step) (s : σ) : wSteps fa ff (l.take 0) d s = (s, []) := by rw [List.take_zero, wSteps]
/-- An arm's parts, one behind the other. -/
structure ArmW (a : Arm) (d : Nat) (s : σ) where
  r1 : σ × List (List Term)
  r2 : σ × List From
  r3 : σ × List Agg
  r4 : σ × List Step
  r5 : σ × List Term
  r6 : σ × List Term
  r7 : σ × List Term
  r8 : σ × List Term
  r9 : σ × List Term
def armW (a : Arm) (d : Nat) (s : σ) : ArmW a d s :=
  let r1 := wRows fa ff a.rows d s
  let r2 := wFroms fa ff a.frm d r1.1
  let r3 := wAggs fa ff a.aggs d r2.1
  let r4 := wSteps fa ff a.steps d r3.1
  let r5 := wTerms fa ff a.whr d r4.1
  let r6 := wTerms fa ff a.group d r5.1
  let r7 := wTerms fa ff a.having d r6.1
  let r8 := wTerms fa ff a.out d r7.1
  let r9 := wTerms fa ff a.extra d r8.1
  ⟨r1, r2, r3, r4, r5, r6, r7, r8, r9⟩
def ArmW.arm {a : Arm} {d : Nat} {s : σ} (x : ArmW a d s) : Arm := ⟨a.comp, a.distinct, a.values, x.r1.2, x.r2.2, x.r5.2, a.grouped, x.r6.2, x.r3.2, x.r7.2, x.r8.2, x.r9.2, x.r4.2⟩
theorem wArm_eq (a : Arm) (d : Nat) (s : σ) : wArm fa ff a d s = fa (armW fa ff a d s).r9.1 (armW fa ff a d s).arm := by cases a; rw [wArm]; rfl
end Go.Pl
