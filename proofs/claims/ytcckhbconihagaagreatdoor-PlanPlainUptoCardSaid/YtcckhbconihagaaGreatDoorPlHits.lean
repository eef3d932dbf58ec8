/- What a walker that gathers meets; that its state only grows. -/
import Derived.Test.YtcckhbconihagaaGreatDoorPlWalk
import Derived.Test.YtcckhbconihagaaGreatDoorPlCanon
set_option linter.unusedVariables false
set_option linter.unusedSimpArgs false
set_option linter.unusedSectionVars false
namespace Go.Pl
open Go.Am
mutual
def hTerm : Term → Nat → List Int
  | ⟨op, neg, n, frm, col, name, vk, vi, vt, coll, l, r, args, sub⟩, d => (if op = 100 ∧ n = (d : Int) then [frm] else []) ++ hTerms args d ++ hQueries sub (d + 1)
def hQuery : Query → Nat → List Int
  | ⟨names, arms, order, limit, offset⟩, d => hTerms limit d ++ hTerms offset d ++ hArms arms d
def hArm : Arm → Nat → List Int
  | ⟨comp, distinct, values, rows, frm, whr, grouped, group, aggs, having, out, extra, steps⟩, d => hRows rows d ++ hFroms frm d ++ hAggs aggs d ++ hSteps steps d ++ hTerms whr d ++ hTerms group d ++ hTerms having d ++ hTerms out d ++ hTerms extra d
def hFrom : From → Nat → List Int
  | ⟨join, kind, name, n, width, sub, on⟩, d => hQueries sub d ++ hTerms on d
def hAgg : Agg → Nat → List Int
  | ⟨name, distinct, star, coll, arg⟩, d => hTerms arg d
def hBound : Bound → Nat → List Int
  | ⟨term, opn⟩, d => hTerm term d
def hStep : Step → Nat → List Int
  | ⟨frm, kind, index, eq, low, high, whr⟩, d => hTerms eq d ++ hBounds low d ++ hBounds high d
def hTerms : List Term → Nat → List Int
  | [], _ => []
  | t :: l, d => hTerm t d ++ hTerms l d
def hQueries : List Query → Nat → List Int
  | [], _ => []
  | t :: l, d => hQuery t d ++ hQueries l d
def hArms : List Arm → Nat → List Int
  | [], _ => []
  | t :: l, d => hArm t d ++ hArms l d
def hRows : List (List Term) → Nat → List Int
  | [], _ => []
  | t :: l, d => hTerms t d ++ hRows l d
def hFroms : List From → Nat → List Int
  | [], _ => []
  | t :: l, d => hFrom t d ++ hFroms l d
def hAggs : List Agg → Nat → List Int
  | [], _ => []
  | t :: l, d => hAgg t d ++ hAggs l d
def hBounds : List Bound → Nat → List Int
  | [], _ => []
  | t :: l, d => hBound t d ++ hBounds l d
def hSteps : List Step → Nat → List Int
  | [], _ => []
  | t :: l, d => hStep t d ++ hSteps l d
end
theorem hTerm_eq (t : Term) (d : Nat) : hTerm t d = (if t.op = 100 ∧ t.n = (d : Int) then [t.frm] else []) ++ hTerms t.args d ++ hQueries t.sub (d + 1) := by cases t; rw [hTerm]
theorem hQuery_eq (t : Query) (d : Nat) : hQuery t d = hTerms t.limit d ++ hTerms t.offset d ++ hArms t.arms d := by cases t; rw [hQuery]
theorem hArm_eq (t : Arm) (d : Nat) : hArm t d = hRows t.rows d ++ hFroms t.frm d ++ hAggs t.aggs d ++ hSteps t.steps d ++ hTerms t.whr d ++ hTerms t.group d ++ hTerms t.having d ++ hTerms t.out d ++ hTerms t.extra d := by cases t; rw [hArm]
theorem hFrom_eq (t : From) (d : Nat) : hFrom t d = hQueries t.sub d ++ hTerms t.on d := by cases t; rw [hFrom]
theorem hAgg_eq (t : Agg) (d : Nat) : hAgg t d = hTerms t.arg d := by cases t; rw [hAgg]
theorem hBound_eq (t : Bound) (d : Nat) : hBound t d = hTerm t.term d := by cases t; rw [hBound]
theorem hStep_eq (t : Step) (d : Nat) : hStep t d = hTerms t.eq d ++ hBounds t.low d ++ hBounds t.high d := by cases t; rw [hStep]
theorem hTerms_append (d : Nat) : ∀ (l m : List Term), hTerms (l ++ m) d = hTerms l d ++ hTerms m d
  | [], m => by rw [hTerms]; rfl
  | t :: l, m => by rw [List.cons_append, hTerms, hTerms, hTerms_append d l m, List.append_assoc]
theorem hTerms_mem (d : Nat) (x : Int) : ∀ (l : List Term), x ∈ hTerms l d ↔ ∃ t ∈ l, x ∈ hTerm t d
  | [] => by rw [hTerms]; simp
  | t :: l => by rw [hTerms, List.mem_append, hTerms_mem d x l]; simp
theorem hQueries_append (d : Nat) : ∀ (l m : List Query), hQueries (l ++ m) d = hQueries l d ++ hQueries m d
  | [], m => by rw [hQueries]; rfl
  | t :: l, m => by rw [List.cons_append, hQueries, hQueries, hQueries_append d l m, List.append_assoc]
theorem hQueries_mem (d : Nat) (x : Int) : ∀ (l : List Query), x ∈ hQueries l d ↔ ∃ t ∈ l, x ∈ hQuery t d
  | [] => by rw [hQueries]; simp
  | t :: l => by rw [hQueries, List.mem_append, hQueries_mem d x l]; simp
theorem hArms_append (d : Nat) : ∀ (l m : List Arm), hArms (l ++ m) d = hArms l d ++ hArms m d
  | [], m => by rw [hArms]; rfl
  | t :: l, m => by rw [List.cons_append, hArms, hArms, hArms_append d l m, List.append_assoc]
theorem hArms_mem (d : Nat) (x : Int) : ∀ (l : List Arm), x ∈ hArms l d ↔ ∃ t ∈ l, x ∈ hArm t d
  | [] => by rw [hArms]; simp
  | t :: l => by rw [hArms, List.mem_append, hArms_mem d x l]; simp
theorem hRows_append (d : Nat) : ∀ (l m : List (List Term)), hRows (l ++ m) d = hRows l d ++ hRows m d
  | [], m => by rw [hRows]; rfl
  | t :: l, m => by rw [List.cons_append, hRows, hRows, hRows_append d l m, List.append_assoc]
theorem hRows_mem (d : Nat) (x : Int) : ∀ (l : List (List Term)), x ∈ hRows l d ↔ ∃ t ∈ l, x ∈ hTerms t d
  | [] => by rw [hRows]; simp
  | t :: l => by rw [hRows, List.mem_append, hRows_mem d x l]; simp
theorem hFroms_append (d : Nat) : ∀ (l m : List From), hFroms (l ++ m) d = hFroms l d ++ hFroms m d
  | [], m => by rw [hFroms]; rfl
  | t :: l, m => by rw [List.cons_append, hFroms, hFroms, hFroms_append d l m, List.append_assoc]
theorem hFroms_mem (d : Nat) (x : Int) : ∀ (l : List From), x ∈ hFroms l d ↔ ∃ t ∈ l, x ∈ hFrom t d
  | [] => by rw [hFroms]; simp
  | t :: l => by rw [hFroms, List.mem_append, hFroms_mem d x l]; simp
theorem hAggs_append (d : Nat) : ∀ (l m : List Agg), hAggs (l ++ m) d = hAggs l d ++ hAggs m d
  | [], m => by rw [hAggs]; rfl
  | t :: l, m => by rw [List.cons_append, hAggs, hAggs, hAggs_append d l m, List.append_assoc]
theorem hAggs_mem (d : Nat) (x : Int) : ∀ (l : List Agg), x ∈ hAggs l d ↔ ∃ t ∈ l, x ∈ hAgg t d
  | [] => by rw [hAggs]; simp
  | t :: l => by rw [hAggs, List.mem_append, hAggs_mem d x l]; simp
theorem hBounds_append (d : Nat) : ∀ (l m : List Bound), hBounds (l ++ m) d = hBounds l d ++ hBounds m d
  | [], m => by rw [hBounds]; rfl
  | t :: l, m => by rw [List.cons_append, hBounds, hBounds, hBounds_append d l m, List.append_assoc]
theorem hBounds_mem (d : Nat) (x : Int) : ∀ (l : List Bound), x ∈ hBounds l d ↔ ∃ t ∈ l, x ∈ hBound t d
  | [] => by rw [hBounds]; simp
  | t :: l => by rw [hBounds, List.mem_append, hBounds_mem d x l]; simp
theorem hSteps_append (d : Nat) : ∀ (l m : List Step), hSteps (l ++ m) d = hSteps l d ++ hSteps m d
  | [], m => by rw [hSteps]; rfl
  | t :: l, m => by rw [List.cons_append, hSteps, hSteps, hSteps_append d l m, List.append_assoc]
theorem hSteps_mem (d : Nat) (x : Int) : ∀ (l : List Step), x ∈ hSteps l d ↔ ∃ t ∈ l, x ∈ hStep t d
  | [] => by rw [hSteps]; simp
  | t :: l => by rw [hSteps, List.mem_append, hSteps_mem d x l]; simp
mutual
theorem hlTerm : ∀ (t : Term) (d : Nat), (hTerm t d).length ≤ t.w
  | ⟨op, neg, n, frm, col, name, vk, vi, vt, coll, l, r, args, sub⟩, d => by
    rw [hTerm, Term.w]
    have i0 := hlTerms args d
    have i1 := hlQueries sub (d + 1)
    simp only [List.length_append]
    split
    · simp only [List.length_cons, List.length_nil]; omega
    · simp only [List.length_nil]; omega
theorem hlQuery : ∀ (t : Query) (d : Nat), (hQuery t d).length ≤ t.w
  | ⟨names, arms, order, limit, offset⟩, d => by
    rw [hQuery, Query.w]
    have i0 := hlTerms limit d
    have i1 := hlTerms offset d
    have i2 := hlArms arms d
    simp only [List.length_append]
    omega
theorem hlArm : ∀ (t : Arm) (d : Nat), (hArm t d).length ≤ t.w
  | ⟨comp, distinct, values, rows, frm, whr, grouped, group, aggs, having, out, extra, steps⟩, d => by
    rw [hArm, Arm.w]
    have i0 := hlRows rows d
    have i1 := hlFroms frm d
    have i2 := hlAggs aggs d
    have i3 := hlSteps steps d
    have i4 := hlTerms whr d
    have i5 := hlTerms group d
    have i6 := hlTerms having d
    have i7 := hlTerms out d
    have i8 := hlTerms extra d
    simp only [List.length_append]
    omega
theorem hlFrom : ∀ (t : From) (d : Nat), (hFrom t d).length ≤ t.w
  | ⟨join, kind, name, n, width, sub, on⟩, d => by
    rw [hFrom, From.w]
    have i0 := hlQueries sub d
    have i1 := hlTerms on d
    simp only [List.length_append]
    omega
theorem hlAgg : ∀ (t : Agg) (d : Nat), (hAgg t d).length ≤ t.w
  | ⟨name, distinct, star, coll, arg⟩, d => by
    rw [hAgg, Agg.w]
    have i0 := hlTerms arg d
    omega
theorem hlBound : ∀ (t : Bound) (d : Nat), (hBound t d).length ≤ t.w
  | ⟨term, opn⟩, d => by
    rw [hBound, Bound.w]
    have i0 := hlTerm term d
    omega
theorem hlStep : ∀ (t : Step) (d : Nat), (hStep t d).length ≤ t.w
  | ⟨frm, kind, index, eq, low, high, whr⟩, d => by
    rw [hStep, Step.w]
    have i0 := hlTerms eq d
    have i1 := hlBounds low d
    have i2 := hlBounds high d
    simp only [List.length_append]
    omega
theorem hlTerms : ∀ (l : List Term) (d : Nat), (hTerms l d).length ≤ (l.map Term.w).sum
  | [], d => by rw [hTerms]; simp
  | t :: l, d => by
    rw [hTerms, List.length_append, List.map_cons, List.sum_cons]
    have i1 := hlTerm t d
    have i2 := hlTerms l d
    omega
theorem hlQueries : ∀ (l : List Query) (d : Nat), (hQueries l d).length ≤ (l.map Query.w).sum
  | [], d => by rw [hQueries]; simp
  | t :: l, d => by
    rw [hQueries, List.length_append, List.map_cons, List.sum_cons]
    have i1 := hlQuery t d
    have i2 := hlQueries l d
    omega
theorem hlArms : ∀ (l : List Arm) (d : Nat), (hArms l d).length ≤ (l.map Arm.w).sum
  | [], d => by rw [hArms]; simp
  | t :: l, d => by
    rw [hArms, List.length_append, List.map_cons, List.sum_cons]
    have i1 := hlArm t d
    have i2 := hlArms l d
    omega
theorem hlRows : ∀ (l : List (List Term)) (d : Nat), (hRows l d).length ≤ (l.map (fun l : List Term => 1 + (l.map Term.w).sum)).sum
  | [], d => by rw [hRows]; simp
  | t :: l, d => by
    rw [hRows, List.length_append, List.map_cons, List.sum_cons]
    have i1 := hlTerms t d
    have i2 := hlRows l d
    omega
theorem hlFroms : ∀ (l : List From) (d : Nat), (hFroms l d).length ≤ (l.map From.w).sum
  | [], d => by rw [hFroms]; simp
  | t :: l, d => by
    rw [hFroms, List.length_append, List.map_cons, List.sum_cons]
    have i1 := hlFrom t d
    have i2 := hlFroms l d
    omega
theorem hlAggs : ∀ (l : List Agg) (d : Nat), (hAggs l d).length ≤ (l.map Agg.w).sum
  | [], d => by rw [hAggs]; simp
  | t :: l, d => by
    rw [hAggs, List.length_append, List.map_cons, List.sum_cons]
    have i1 := hlAgg t d
    have i2 := hlAggs l d
    omega
theorem hlBounds : ∀ (l : List Bound) (d : Nat), (hBounds l d).length ≤ (l.map Bound.w).sum
  | [], d => by rw [hBounds]; simp
  | t :: l, d => by
    rw [hBounds, List.length_append, List.map_cons, List.sum_cons]
    have i1 := hlBound t d
    have i2 := hlBounds l d
    omega
theorem hlSteps : ∀ (l : List Step) (d : Nat), (hSteps l d).length ≤ (l.map Step.w).sum
  | [], d => by rw [hSteps]; simp
  | t :: l, d => by
    rw [hSteps, List.length_append, List.map_cons, List.sum_cons]
    have i1 := hlStep t d
    have i2 := hlSteps l d
    omega
end
/-- The gatherer. -/
def gff (s : List Int) (t : Term) (d : Nat) : List Int := if t.n = (d : Int) then s ++ [t.frm] else s
def gfa (s : List Int) (a : Arm) : List Int × Arm := (s, a)
mutual
theorem whTerm : ∀ (t : Term) (d : Nat) (s : List Int), (wTerm gfa gff t d s).1 = s ++ hTerm t d
  | ⟨op, neg, n, frm, col, name, vk, vi, vt, coll, l, r, args, sub⟩, d, s => by
    rw [wTerm, hTerm]
    simp only []
    rw [whQueries sub (d + 1), whTerms args d]
    simp only [fldS, gff]
    by_cases h1 : op = 100
    · by_cases h2 : n = (d : Int)
      · simp [h1, h2]
      · simp [h1, h2]
    · simp [h1]
theorem whQuery : ∀ (t : Query) (d : Nat) (s : List Int), (wQuery gfa gff t d s).1 = s ++ hQuery t d
  | ⟨names, arms, order, limit, offset⟩, d, s => by
    rw [wQuery, hQuery]
    simp only []
    rw [whArms arms d, whTerms offset d, whTerms limit d]
    simp only [List.append_assoc]
theorem whArm : ∀ (t : Arm) (d : Nat) (s : List Int), (wArm gfa gff t d s).1 = s ++ hArm t d
  | ⟨comp, distinct, values, rows, frm, whr, grouped, group, aggs, having, out, extra, steps⟩, d, s => by
    rw [wArm, hArm]
    simp only [gfa, ]
    rw [whTerms extra d, whTerms out d, whTerms having d, whTerms group d, whTerms whr d, whSteps steps d, whAggs aggs d, whFroms frm d, whRows rows d]
    simp only [List.append_assoc]
theorem whFrom : ∀ (t : From) (d : Nat) (s : List Int), (wFrom gfa gff t d s).1 = s ++ hFrom t d
  | ⟨join, kind, name, n, width, sub, on⟩, d, s => by
    rw [wFrom, hFrom]
    simp only []
    rw [whTerms on d, whQueries sub d]
    simp only [List.append_assoc]
theorem whAgg : ∀ (t : Agg) (d : Nat) (s : List Int), (wAgg gfa gff t d s).1 = s ++ hAgg t d
  | ⟨name, distinct, star, coll, arg⟩, d, s => by
    rw [wAgg, hAgg]
    simp only []
    rw [whTerms arg d]
theorem whBound : ∀ (t : Bound) (d : Nat) (s : List Int), (wBound gfa gff t d s).1 = s ++ hBound t d
  | ⟨term, opn⟩, d, s => by
    rw [wBound, hBound]
    simp only []
    rw [whTerm term d]
theorem whStep : ∀ (t : Step) (d : Nat) (s : List Int), (wStep gfa gff t d s).1 = s ++ hStep t d
  | ⟨frm, kind, index, eq, low, high, whr⟩, d, s => by
    rw [wStep, hStep]
    simp only []
    rw [whBounds high d, whBounds low d, whTerms eq d]
    simp only [List.append_assoc]
theorem whTerms : ∀ (l : List Term) (d : Nat) (s : List Int), (wTerms gfa gff l d s).1 = s ++ hTerms l d
  | [], d, s => by rw [wTerms, hTerms]; simp
  | t :: l, d, s => by
    rw [wTerms, hTerms]
    simp only []
    rw [whTerms l d, whTerm t d, List.append_assoc]
theorem whQueries : ∀ (l : List Query) (d : Nat) (s : List Int), (wQueries gfa gff l d s).1 = s ++ hQueries l d
  | [], d, s => by rw [wQueries, hQueries]; simp
  | t :: l, d, s => by
    rw [wQueries, hQueries]
    simp only []
    rw [whQueries l d, whQuery t d, List.append_assoc]
theorem whArms : ∀ (l : List Arm) (d : Nat) (s : List Int), (wArms gfa gff l d s).1 = s ++ hArms l d
  | [], d, s => by rw [wArms, hArms]; simp
  | t :: l, d, s => by
    rw [wArms, hArms]
    simp only []
    rw [whArms l d, whArm t d, List.append_assoc]
theorem whRows : ∀ (l : List (List Term)) (d : Nat) (s : List Int), (wRows gfa gff l d s).1 = s ++ hRows l d
  | [], d, s => by rw [wRows, hRows]; simp
  | t :: l, d, s => by
    rw [wRows, hRows]
    simp only []
    rw [whRows l d, whTerms t d, List.append_assoc]
theorem whFroms : ∀ (l : List From) (d : Nat) (s : List Int), (wFroms gfa gff l d s).1 = s ++ hFroms l d
  | [], d, s => by rw [wFroms, hFroms]; simp
  | t :: l, d, s => by
    rw [wFroms, hFroms]
    simp only []
    rw [whFroms l d, whFrom t d, List.append_assoc]
theorem whAggs : ∀ (l : List Agg) (d : Nat) (s : List Int), (wAggs gfa gff l d s).1 = s ++ hAggs l d
  | [], d, s => by rw [wAggs, hAggs]; simp
  | t :: l, d, s => by
    rw [wAggs, hAggs]
    simp only []
    rw [whAggs l d, whAgg t d, List.append_assoc]
theorem whBounds : ∀ (l : List Bound) (d : Nat) (s : List Int), (wBounds gfa gff l d s).1 = s ++ hBounds l d
  | [], d, s => by rw [wBounds, hBounds]; simp
  | t :: l, d, s => by
    rw [wBounds, hBounds]
    simp only []
    rw [whBounds l d, whBound t d, List.append_assoc]
theorem whSteps : ∀ (l : List Step) (d : Nat) (s : List Int), (wSteps gfa gff l d s).1 = s ++ hSteps l d
  | [], d, s => by rw [wSteps, hSteps]; simp
  | t :: l, d, s => by
    rw [wSteps, hSteps]
    simp only []
    rw [whSteps l d, whStep t d, List.append_assoc]
end
section
variable {σ : Type} (fa : σ → Arm → σ × Arm) (ff : σ → Term → Nat → σ) (good : σ → Prop) (hgf : ∀ s t d, good (ff s t d) → good s) (hga : ∀ s a, good (fa s a).1 → good s)
include hgf hga
mutual
theorem gdTerm : ∀ (t : Term) (d : Nat) (s : σ), good (wTerm fa ff t d s).1 → good s
  | ⟨op, neg, n, frm, col, name, vk, vi, vt, coll, l, r, args, sub⟩, d, s, h => by
    rw [wTerm] at h
    have h := gdQueries sub (d + 1) _ h
    have h := gdTerms args d _ h
    unfold fldS at h
    split at h
    · exact hgf _ _ _ h
    · exact h
theorem gdQuery : ∀ (t : Query) (d : Nat) (s : σ), good (wQuery fa ff t d s).1 → good s
  | ⟨names, arms, order, limit, offset⟩, d, s, h => by
    rw [wQuery] at h
    have h := gdArms arms d _ h
    have h := gdTerms offset d _ h
    have h := gdTerms limit d _ h
    exact h
theorem gdArm : ∀ (t : Arm) (d : Nat) (s : σ), good (wArm fa ff t d s).1 → good s
  | ⟨comp, distinct, values, rows, frm, whr, grouped, group, aggs, having, out, extra, steps⟩, d, s, h => by
    rw [wArm] at h
    have h := hga _ _ h
    have h := gdTerms extra d _ h
    have h := gdTerms out d _ h
    have h := gdTerms having d _ h
    have h := gdTerms group d _ h
    have h := gdTerms whr d _ h
    have h := gdSteps steps d _ h
    have h := gdAggs aggs d _ h
    have h := gdFroms frm d _ h
    have h := gdRows rows d _ h
    exact h
theorem gdFrom : ∀ (t : From) (d : Nat) (s : σ), good (wFrom fa ff t d s).1 → good s
  | ⟨join, kind, name, n, width, sub, on⟩, d, s, h => by
    rw [wFrom] at h
    have h := gdTerms on d _ h
    have h := gdQueries sub d _ h
    exact h
theorem gdAgg : ∀ (t : Agg) (d : Nat) (s : σ), good (wAgg fa ff t d s).1 → good s
  | ⟨name, distinct, star, coll, arg⟩, d, s, h => by
    rw [wAgg] at h
    have h := gdTerms arg d _ h
    exact h
theorem gdBound : ∀ (t : Bound) (d : Nat) (s : σ), good (wBound fa ff t d s).1 → good s
  | ⟨term, opn⟩, d, s, h => by
    rw [wBound] at h
    have h := gdTerm term d _ h
    exact h
theorem gdStep : ∀ (t : Step) (d : Nat) (s : σ), good (wStep fa ff t d s).1 → good s
  | ⟨frm, kind, index, eq, low, high, whr⟩, d, s, h => by
    rw [wStep] at h
    have h := gdBounds high d _ h
    have h := gdBounds low d _ h
    have h := gdTerms eq d _ h
    exact h
theorem gdTerms : ∀ (l : List Term) (d : Nat) (s : σ), good (wTerms fa ff l d s).1 → good s
  | [], d, s, h => by rw [wTerms] at h; exact h
  | t :: l, d, s, h => by rw [wTerms] at h; exact gdTerm t d s (gdTerms l d _ h)
theorem gdQueries : ∀ (l : List Query) (d : Nat) (s : σ), good (wQueries fa ff l d s).1 → good s
  | [], d, s, h => by rw [wQueries] at h; exact h
  | t :: l, d, s, h => by rw [wQueries] at h; exact gdQuery t d s (gdQueries l d _ h)
theorem gdArms : ∀ (l : List Arm) (d : Nat) (s : σ), good (wArms fa ff l d s).1 → good s
  | [], d, s, h => by rw [wArms] at h; exact h
  | t :: l, d, s, h => by rw [wArms] at h; exact gdArm t d s (gdArms l d _ h)
theorem gdRows : ∀ (l : List (List Term)) (d : Nat) (s : σ), good (wRows fa ff l d s).1 → good s
  | [], d, s, h => by rw [wRows] at h; exact h
  | t :: l, d, s, h => by rw [wRows] at h; exact gdTerms t d s (gdRows l d _ h)
theorem gdFroms : ∀ (l : List From) (d : Nat) (s : σ), good (wFroms fa ff l d s).1 → good s
  | [], d, s, h => by rw [wFroms] at h; exact h
  | t :: l, d, s, h => by rw [wFroms] at h; exact gdFrom t d s (gdFroms l d _ h)
theorem gdAggs : ∀ (l : List Agg) (d : Nat) (s : σ), good (wAggs fa ff l d s).1 → good s
  | [], d, s, h => by rw [wAggs] at h; exact h
  | t :: l, d, s, h => by rw [wAggs] at h; exact gdAgg t d s (gdAggs l d _ h)
theorem gdBounds : ∀ (l : List Bound) (d : Nat) (s : σ), good (wBounds fa ff l d s).1 → good s
  | [], d, s, h => by rw [wBounds] at h; exact h
  | t :: l, d, s, h => by rw [wBounds] at h; exact gdBound t d s (gdBounds l d _ h)
theorem gdSteps : ∀ (l : List Step) (d : Nat) (s : σ), good (wSteps fa ff l d s).1 → good s
  | [], d, s, h => by rw [wSteps] at h; exact h
  | t :: l, d, s, h => by rw [wSteps] at h; exact gdStep t d s (gdSteps l d _ h)
end
theorem gdTerms_take (l : List Term) (d : Nat) (s : σ) (k : Nat) (h : good (wTerms fa ff l d s).1) : good (wTerms fa ff (l.take k) d s).1 := by
  have e : wTerms fa ff l d s = wTerms fa ff (l.take k ++ l.drop k) d s := by rw [List.take_append_drop]
  rw [e, wTerms_map, mapS_append, ← wTerms_map, ← wTerms_map] at h
  exact gdTerms fa ff good hgf hga _ _ _ h
theorem gdTerms_at (l : List Term) (d : Nat) (s : σ) (i : Nat) (hi : i < l.length) (h : good (wTerms fa ff l d s).1) : good (wTerm fa ff l[i] d (wTerms fa ff (l.take i) d s).1).1 := by
  have h := gdTerms_take fa ff good hgf hga l d s (i + 1) h
  rw [wTerms_succ _ _ _ _ _ _ hi] at h
  exact h
theorem gdQueries_take (l : List Query) (d : Nat) (s : σ) (k : Nat) (h : good (wQueries fa ff l d s).1) : good (wQueries fa ff (l.take k) d s).1 := by
  have e : wQueries fa ff l d s = wQueries fa ff (l.take k ++ l.drop k) d s := by rw [List.take_append_drop]
  rw [e, wQueries_map, mapS_append, ← wQueries_map, ← wQueries_map] at h
  exact gdQueries fa ff good hgf hga _ _ _ h
theorem gdQueries_at (l : List Query) (d : Nat) (s : σ) (i : Nat) (hi : i < l.length) (h : good (wQueries fa ff l d s).1) : good (wQuery fa ff l[i] d (wQueries fa ff (l.take i) d s).1).1 := by
  have h := gdQueries_take fa ff good hgf hga l d s (i + 1) h
  rw [wQueries_succ _ _ _ _ _ _ hi] at h
  exact h
theorem gdArms_take (l : List Arm) (d : Nat) (s : σ) (k : Nat) (h : good (wArms fa ff l d s).1) : good (wArms fa ff (l.take k) d s).1 := by
  have e : wArms fa ff l d s = wArms fa ff (l.take k ++ l.drop k) d s := by rw [List.take_append_drop]
  rw [e, wArms_map, mapS_append, ← wArms_map, ← wArms_map] at h
  exact gdArms fa ff good hgf hga _ _ _ h
theorem gdArms_at (l : List Arm) (d : Nat) (s : σ) (i : Nat) (hi : i < l.length) (h : good (wArms fa ff l d s).1) : good (wArm fa ff l[i] d (wArms fa ff (l.take i) d s).1).1 := by
  have h := gdArms_take fa ff good hgf hga l d s (i + 1) h
  rw [wArms_succ _ _ _ _ _ _ hi] at h
  exact h
theorem gdRows_take (l : List (List Term)) (d : Nat) (s : σ) (k : Nat) (h : good (wRows fa ff l d s).1) : good (wRows fa ff (l.take k) d s).1 := by
  have e : wRows fa ff l d s = wRows fa ff (l.take k ++ l.drop k) d s := by rw [List.take_append_drop]
  rw [e, wRows_map, mapS_append, ← wRows_map, ← wRows_map] at h
  exact gdRows fa ff good hgf hga _ _ _ h
theorem gdRows_at (l : List (List Term)) (d : Nat) (s : σ) (i : Nat) (hi : i < l.length) (h : good (wRows fa ff l d s).1) : good (wTerms fa ff l[i] d (wRows fa ff (l.take i) d s).1).1 := by
  have h := gdRows_take fa ff good hgf hga l d s (i + 1) h
  rw [wRows_succ _ _ _ _ _ _ hi] at h
  exact h
theorem gdFroms_take (l : List From) (d : Nat) (s : σ) (k : Nat) (h : good (wFroms fa ff l d s).1) : good (wFroms fa ff (l.take k) d s).1 := by
  have e : wFroms fa ff l d s = wFroms fa ff (l.take k ++ l.drop k) d s := by rw [List.take_append_drop]
  rw [e, wFroms_map, mapS_append, ← wFroms_map, ← wFroms_map] at h
  exact gdFroms fa ff good hgf hga _ _ _ h
theorem gdFroms_at (l : List From) (d : Nat) (s : σ) (i : Nat) (hi : i < l.length) (h : good (wFroms fa ff l d s).1) : good (wFrom fa ff l[i] d (wFroms fa ff (l.take i) d s).1).1 := by
  have h := gdFroms_take fa ff good hgf hga l d s (i + 1) h
  rw [wFroms_succ _ _ _ _ _ _ hi] at h
  exact h
theorem gdAggs_take (l : List Agg) (d : Nat) (s : σ) (k : Nat) (h : good (wAggs fa ff l d s).1) : good (wAggs fa ff (l.take k) d s).1 := by
  have e : wAggs fa ff l d s = wAggs fa ff (l.take k ++ l.drop k) d s := by rw [List.take_append_drop]
  rw [e, wAggs_map, mapS_append, ← wAggs_map, ← wAggs_map] at h
  exact gdAggs fa ff good hgf hga _ _ _ h
theorem gdAggs_at (l : List Agg) (d : Nat) (s : σ) (i : Nat) (hi : i < l.length) (h : good (wAggs fa ff l d s).1) : good (wAgg fa ff l[i] d (wAggs fa ff (l.take i) d s).1).1 := by
  have h := gdAggs_take fa ff good hgf hga l d s (i + 1) h
  rw [wAggs_succ _ _ _ _ _ _ hi] at h
  exact h
theorem gdBounds_take (l : List Bound) (d : Nat) (s : σ) (k : Nat) (h : good (wBounds fa ff l d s).1) : good (wBounds fa ff (l.take k) d s).1 := by
  have e : wBounds fa ff l d s = wBounds fa ff (l.take k ++ l.drop k) d s := by rw [List.take_append_drop]
  rw [e, wBounds_map, mapS_append, ← wBounds_map, ← wBounds_map] at h
  exact gdBounds fa ff good hgf hga _ _ _ h
theorem gdBounds_at (l : List Bound) (d : Nat) (s : σ) (i : Nat) (hi : i < l.length) (h : good (wBounds fa ff l d s).1) : good (wBound fa ff l[i] d (wBounds fa ff (l.take i) d s).1).1 := by
  have h := gdBounds_take fa ff good hgf hga l d s (i + 1) h
  rw [wBounds_succ _ _ _ _ _ _ hi] at h
  exact h
theorem gdSteps_take (l : List Step) (d : Nat) (s : σ) (k : Nat) (h : good (wSteps fa ff l d s).1) : good (wSteps fa ff (l.take k) d s).1 := by
  have e : wSteps fa ff l d s = wSteps fa ff (l.take k ++ l.drop k) d s := by rw [List.take_append_drop]
  rw [e, wSteps_map, mapS_append, ← wSteps_map, ← wSteps_map] at h
  exact gdSteps fa ff good hgf hga _ _ _ h
theorem gdSteps_at (l : List Step) (d : Nat) (s : σ) (i : Nat) (hi : i < l.length) (h : good (wSteps fa ff l d s).1) : good (wStep fa ff l[i] d (wSteps fa ff (l.take i) d s).1).1 := by
  have h := gdSteps_take fa ff good hgf hga l d s (i + 1) h
  rw [wSteps_succ _ _ _ _ _ _ hi] at h
  exact h
end
end Go.Pl
