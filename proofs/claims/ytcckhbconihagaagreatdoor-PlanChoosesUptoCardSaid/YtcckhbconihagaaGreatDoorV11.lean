/- A resolved query gone through. -/
import Derived.Test.YtcckhbconihagaaGreatDoorV9
set_option linter.unusedVariables false
set_option linter.unusedSimpArgs false
set_option linter.unusedSectionVars false
namespace Go.Pl
open Go.Am
variable {σ : Type} (fa : σ → Arm → σ × Arm) (ff : σ → Term → Nat → σ)
def wWith (s : σ) (x : With) : σ × With :=
 ((wQueries fa ff x.step 0 (wQuery fa ff x.query 0 s).1).1, { x with query := (wQuery fa ff x.query 0 s).2, step := (wQueries fa ff x.step 0 (wQuery fa ff x.query 0 s).1).2 })
def wWiths (l : List With) (s : σ) : σ × List With := mapS (wWith fa ff) s l
def wResolved (r : Resolved) (s : σ) : σ × Resolved :=
 ((wWiths fa ff r.withs (wQuery fa ff r.query 0 s).1).1, ⟨(wWiths fa ff r.withs (wQuery fa ff r.query 0 s).1).2, (wQuery fa ff r.query 0 s).2⟩)
theorem wWiths_succ (l : List With) (s : σ) (i : Nat) (h : i < l.length) : wWiths fa ff (l.take (i + 1)) s = ((wWith fa ff (wWiths fa ff (l.take i) s).1 l[i]).1, (wWiths fa ff (l.take i) s).2 ++ [(wWith fa ff (wWiths fa ff (l.take i) s).1 l[i]).2]) := mapS_succ _ _ _ _ h
theorem wWiths_len (l : List With) (s : σ) : (wWiths fa ff l s).2.length = l.length := mapS_len _ _ _
theorem wWiths_zero (l : List With) (s : σ) : wWiths fa ff (l.take 0) s = (s, []) := rfl
theorem take_flatMap {α β : Type} (f : α → List β) (l : List α) (i : Nat) (h : i < l.length) : (l.take (i + 1)).flatMap f = (l.take i).flatMap f ++ f l[i] := by
 rw [List.take_succ_eq_append_getElem h, List.flatMap_append]; simp
theorem flatMap_take_le {α β : Type} (f : α → List β) : ∀ (l : List α) (i : Nat) (h : i < l.length), ((l.take i).flatMap f).length + (f l[i]).length ≤ (l.flatMap f).length
 | x :: l, 0, h => by simp
 | x :: l, i + 1, h => by
  have := flatMap_take_le f l i (by simpa using h)
  simp only [List.take_succ_cons, List.flatMap_cons, List.length_append, List.getElem_cons_succ]; omega
def stepTerms (s : Step) : List Term := s.eq ++ s.low.map Bound.term ++ s.high.map Bound.term
def armTerms (a : Arm) : List Term :=
 a.rows.flatMap (fun l => l) ++ a.frm.flatMap From.on ++ a.aggs.flatMap Agg.arg ++ a.steps.flatMap stepTerms ++ a.whr ++ a.group ++ a.having ++ a.out ++ a.extra
def hSubs (l : List From) (d : Nat) : List Int := l.flatMap fun f => hQueries f.sub d
theorem sum_flatMap {α β : Type} (f : α → List β) (w : β → Nat) (v : α → Nat) (h : ∀ x, ((f x).map w).sum ≤ v x) : ∀ l : List α, ((l.flatMap f).map w).sum ≤ (l.map v).sum
 | [] => by simp
 | x :: l => by
  have h1 := h x
  have h2 := sum_flatMap f w v h l
  simp only [List.flatMap_cons, List.map_append, List.sum_append, List.map_cons, List.sum_cons]; omega
theorem sum_map_le {α β : Type} (f : α → β) (w : β → Nat) (v : α → Nat) (h : ∀ x, w (f x) ≤ v x) : ∀ l : List α, ((l.map f).map w).sum ≤ (l.map v).sum
 | [] => by simp
 | x :: l => by
  have h1 := h x
  have h2 := sum_map_le f w v h l
  simp only [List.map_cons, List.sum_cons]; omega
theorem armTerms_w (a : Arm) : ((armTerms a).map Term.w).sum + 1 ≤ a.w := by
 rw [Arm.w_eq]
 have h1 := sum_flatMap (fun l : List Term => l) Term.w (fun l => 1 + (l.map Term.w).sum) (fun x => by omega) a.rows
 have h2 := sum_flatMap From.on Term.w From.w (fun x => by rw [From.w_eq]; omega) a.frm
 have h3 := sum_flatMap Agg.arg Term.w Agg.w (fun x => by rw [Agg.w_eq]; omega) a.aggs
 have h4 := sum_flatMap stepTerms Term.w Step.w (fun x => by
  rw [Step.w_eq]
  have i1 := sum_map_le Bound.term Term.w Bound.w (fun x => by rw [Bound.w_eq]; omega) x.low
  have i2 := sum_map_le Bound.term Term.w Bound.w (fun x => by rw [Bound.w_eq]; omega) x.high
  simp only [stepTerms, List.map_append, List.sum_append]; omega) a.steps
 simp only [armTerms, List.map_append, List.sum_append]; omega
theorem hTerms_flatMap {α : Type} (f : α → List Term) (d : Nat) (x : Int) (l : List α) : x ∈ hTerms (l.flatMap f) d ↔ ∃ y ∈ l, x ∈ hTerms (f y) d := by
 rw [hTerms_mem]
 constructor
 ·rintro ⟨t, ht, hx⟩
  obtain ⟨y, hy, ht⟩ := List.mem_flatMap.1 ht
  exact ⟨y, hy, (hTerms_mem d x _).2 ⟨t, ht, hx⟩⟩
 ·rintro ⟨y, hy, hx⟩
  obtain ⟨t, ht, hx⟩ := (hTerms_mem d x _).1 hx
  exact ⟨t, List.mem_flatMap.2 ⟨y, hy, ht⟩, hx⟩
theorem hTerms_bounds (d : Nat) (x : Int) (l : List Bound) : x ∈ hTerms (l.map Bound.term) d ↔ x ∈ hBounds l d := by
 rw [hTerms_mem, hBounds_mem]
 constructor
 ·rintro ⟨t, ht, hx⟩
  obtain ⟨b, hb, rfl⟩ := List.mem_map.1 ht
  exact ⟨b, hb, by rw [hBound_eq]; exact hx⟩
 ·rintro ⟨b, hb, hx⟩
  rw [hBound_eq] at hx
  exact ⟨b.term, List.mem_map.2 ⟨b, hb, rfl⟩, hx⟩
/-- What an arm reaches. -/
theorem arm_mem (a : Arm) (d : Nat) (x : Int) : x ∈ hArm a d ↔ x ∈ hTerms (armTerms a) d ++ hSubs a.frm d := by
 rw [hArm_eq]
 unfold armTerms hSubs
 simp only [hTerms_append, List.mem_append, hTerms_flatMap, List.mem_flatMap, hRows_mem, hFroms_mem, hAggs_mem, hSteps_mem, hFrom_eq, hAgg_eq, hStep_eq, stepTerms, hTerms_bounds]
 constructor
 ·rintro ((((((((h | ⟨f, hf, h | h⟩) | h) | ⟨s, hs, (h | h) | h⟩) | h) | h) | h) | h) | h)
  ·simp [h]
  ·exact .inr ⟨f, hf, h⟩
  ·exact .inl (.inl (.inl (.inl (.inl (.inl (.inl (.inl (.inr ⟨f, hf, h⟩))))))))
  ·simp [h]
  ·exact .inl (.inl (.inl (.inl (.inl (.inl (.inr ⟨s, hs, .inl (.inl h)⟩))))))
  ·exact .inl (.inl (.inl (.inl (.inl (.inl (.inr ⟨s, hs, .inl (.inr h)⟩))))))
  ·exact .inl (.inl (.inl (.inl (.inl (.inl (.inr ⟨s, hs, .inr h⟩))))))
  all_goals simp [h]
 ·rintro (((((((((h | ⟨f, hf, h⟩) | h) | ⟨s, hs, (h | h) | h⟩) | h) | h) | h) | h) | h) | ⟨f, hf, h⟩)
  ·simp [h]
  ·exact .inl (.inl (.inl (.inl (.inl (.inl (.inl (.inr ⟨f, hf, .inr h⟩)))))))
  ·simp [h]
  ·exact .inl (.inl (.inl (.inl (.inl (.inr ⟨s, hs, .inl (.inl h)⟩)))))
  ·exact .inl (.inl (.inl (.inl (.inl (.inr ⟨s, hs, .inl (.inr h)⟩)))))
  ·exact .inl (.inl (.inl (.inl (.inl (.inr ⟨s, hs, .inr h⟩)))))
  ·simp [h]
  ·simp [h]
  ·simp [h]
  ·simp [h]
  ·simp [h]
  ·exact .inl (.inl (.inl (.inl (.inl (.inl (.inl (.inr ⟨f, hf, .inl h⟩)))))))
theorem sum_take_le {α : Type} (w : α → Nat) : ∀ (l : List α) (i : Nat), ((l.take i).map w).sum ≤ (l.map w).sum
 | [], i => by simp
 | x :: l, 0 => by simp
 | x :: l, i + 1 => by
  have := sum_take_le w l i
  simp only [List.take_succ_cons, List.map_cons, List.sum_cons]; omega
theorem hSubs_len (l : List From) (d : Nat) : (hSubs l d).length ≤ (l.map From.w).sum := by
 unfold hSubs
 induction l with
 | nil => simp
 | cons x l ih =>
  have h1 := hlQueries x.sub d
  have h2 := From.w_eq x
  simp only [List.flatMap_cons, List.length_append, List.map_cons, List.sum_cons]; omega
theorem arm_acc (A : List Int) (l : List Arm) (k : Nat) (a : Arm) (h : k < l.length) (e : l[k] = a) (d : Nat) : canon (A ++ hArms (l.take k) d ++ hTerms (armTerms a) d ++ hSubs a.frm d) = canon (A ++ hArms (l.take (k + 1)) d) := by
 subst e
 refine canon_ext fun x => ?_
 rw [List.take_succ_eq_append_getElem h, hArms_append, hArms, hArms]
 have := arm_mem l[k] d x
 simp only [List.mem_append] at this ⊢
 rw [this]
 simp [or_assoc]
theorem query_acc (l : List Query) (i : Nat) (q : Query) (h : i < l.length) (e : l[i] = q) (d : Nat) : hQueries (l.take (i + 1)) d = hQueries (l.take i) d ++ hTerms q.limit d ++ hTerms q.offset d ++ hArms q.arms d := by
 subst e
 rw [List.take_succ_eq_append_getElem h, hQueries_append, hQueries, hQueries, hQuery_eq]; simp
theorem subs_acc (l : List From) (j : Nat) (f : From) (h : j < l.length) (e : l[j] = f) (d : Nat) : hSubs (l.take (j + 1)) d = hSubs (l.take j) d ++ hQueries f.sub d := by
 subst e
 unfold hSubs
 rw [take_flatMap _ _ _ h]
theorem getD_of {α : Type} (f : α → List V) (l : List α) (i : Nat) (x : α) (h : i < l.length) (e : l[i] = x) : (l.map f).getD (i : Int).toNat [] = f x := by
 subst e; simp [List.getD_eq_getElem?_getD, h]
mutual
def cTerm : Term → List Arm
 | ⟨op, neg, n, frm, col, name, vk, vi, vt, coll, l, r, args, sub⟩ => cTerms args ++ cQueries sub
def cQuery : Query → List Arm
 | ⟨names, arms, order, limit, offset⟩ => cTerms limit ++ cTerms offset ++ cArms arms
def cArm : Arm → List Arm
 | ⟨comp, distinct, values, rows, frm, whr, grouped, group, aggs, having, out, extra, steps⟩ => cRows rows ++ cFroms frm ++ cAggs aggs ++ cSteps steps ++ cTerms whr ++ cTerms group ++ cTerms having ++ cTerms out ++ cTerms extra ++ [⟨comp, distinct, values, rows, frm, whr, grouped, group, aggs, having, out, extra, steps⟩]
def cFrom : From → List Arm
 | ⟨join, kind, name, n, width, sub, on⟩ => cQueries sub ++ cTerms on
def cAgg : Agg → List Arm
 | ⟨name, distinct, star, coll, arg⟩ => cTerms arg
def cBound : Bound → List Arm
 | ⟨term, opn⟩ => cTerm term
def cStep : Step → List Arm
 | ⟨frm, kind, index, eq, low, high, whr⟩ => cTerms eq ++ cBounds low ++ cBounds high
def cTerms : List Term → List Arm
 | [] => []
 | t :: l => cTerm t ++ cTerms l
def cQueries : List Query → List Arm
 | [] => []
 | t :: l => cQuery t ++ cQueries l
def cArms : List Arm → List Arm
 | [] => []
 | t :: l => cArm t ++ cArms l
def cRows : List (List Term) → List Arm
 | [] => []
 | t :: l => cTerms t ++ cRows l
def cFroms : List From → List Arm
 | [] => []
 | t :: l => cFrom t ++ cFroms l
def cAggs : List Agg → List Arm
 | [] => []
 | t :: l => cAgg t ++ cAggs l
def cBounds : List Bound → List Arm
 | [] => []
 | t :: l => cBound t ++ cBounds l
def cSteps : List Step → List Arm
 | [] => []
 | t :: l => cStep t ++ cSteps l
end
theorem cTerm_eq (t : Term) : cTerm t = cTerms t.args ++ cQueries t.sub := by cases t; rw [cTerm]
theorem cQuery_eq (t : Query) : cQuery t = cTerms t.limit ++ cTerms t.offset ++ cArms t.arms := by cases t; rw [cQuery]
theorem cArm_eq (t : Arm) : cArm t = cRows t.rows ++ cFroms t.frm ++ cAggs t.aggs ++ cSteps t.steps ++ cTerms t.whr ++ cTerms t.group ++ cTerms t.having ++ cTerms t.out ++ cTerms t.extra ++ [t] := by cases t; rw [cArm]
theorem cFrom_eq (t : From) : cFrom t = cQueries t.sub ++ cTerms t.on := by cases t; rw [cFrom]
theorem cAgg_eq (t : Agg) : cAgg t = cTerms t.arg := by cases t; rw [cAgg]
theorem cBound_eq (t : Bound) : cBound t = cTerm t.term := by cases t; rw [cBound]
theorem cStep_eq (t : Step) : cStep t = cTerms t.eq ++ cBounds t.low ++ cBounds t.high := by cases t; rw [cStep]
theorem cTerms_append : ∀ (l m : List Term), cTerms (l ++ m) = cTerms l ++ cTerms m
 | [], m => by rw [cTerms]; rfl
 | t :: l, m => by rw [List.cons_append, cTerms, cTerms, cTerms_append l m, List.append_assoc]
theorem cTerms_mem (x : Arm) : ∀ (l : List Term), x ∈ cTerms l ↔ ∃ t ∈ l, x ∈ cTerm t
 | [] => by rw [cTerms]; simp
 | t :: l => by rw [cTerms, List.mem_append, cTerms_mem x l]; simp
theorem cTerms_succ (l : List Term) (i : Nat) (h : i < l.length) : cTerms (l.take (i + 1)) = cTerms (l.take i) ++ cTerm l[i] := by
 rw [List.take_succ_eq_append_getElem h, cTerms_append, cTerms, cTerms, List.append_nil]
theorem cQueries_append : ∀ (l m : List Query), cQueries (l ++ m) = cQueries l ++ cQueries m
 | [], m => by rw [cQueries]; rfl
 | t :: l, m => by rw [List.cons_append, cQueries, cQueries, cQueries_append l m, List.append_assoc]
theorem cQueries_mem (x : Arm) : ∀ (l : List Query), x ∈ cQueries l ↔ ∃ t ∈ l, x ∈ cQuery t
 | [] => by rw [cQueries]; simp
 | t :: l => by rw [cQueries, List.mem_append, cQueries_mem x l]; simp
theorem cQueries_succ (l : List Query) (i : Nat) (h : i < l.length) : cQueries (l.take (i + 1)) = cQueries (l.take i) ++ cQuery l[i] := by
 rw [List.take_succ_eq_append_getElem h, cQueries_append, cQueries, cQueries, List.append_nil]
theorem cArms_append : ∀ (l m : List Arm), cArms (l ++ m) = cArms l ++ cArms m
 | [], m => by rw [cArms]; rfl
 | t :: l, m => by rw [List.cons_append, cArms, cArms, cArms_append l m, List.append_assoc]
theorem cArms_mem (x : Arm) : ∀ (l : List Arm), x ∈ cArms l ↔ ∃ t ∈ l, x ∈ cArm t
 | [] => by rw [cArms]; simp
 | t :: l => by rw [cArms, List.mem_append, cArms_mem x l]; simp
theorem cArms_succ (l : List Arm) (i : Nat) (h : i < l.length) : cArms (l.take (i + 1)) = cArms (l.take i) ++ cArm l[i] := by
 rw [List.take_succ_eq_append_getElem h, cArms_append, cArms, cArms, List.append_nil]
theorem cRows_mem (x : Arm) : ∀ (l : List (List Term)), x ∈ cRows l ↔ ∃ t ∈ l, x ∈ cTerms t
 | [] => by rw [cRows]; simp
 | t :: l => by rw [cRows, List.mem_append, cRows_mem x l]; simp
theorem cFroms_mem (x : Arm) : ∀ (l : List From), x ∈ cFroms l ↔ ∃ t ∈ l, x ∈ cFrom t
 | [] => by rw [cFroms]; simp
 | t :: l => by rw [cFroms, List.mem_append, cFroms_mem x l]; simp
theorem cAggs_mem (x : Arm) : ∀ (l : List Agg), x ∈ cAggs l ↔ ∃ t ∈ l, x ∈ cAgg t
 | [] => by rw [cAggs]; simp
 | t :: l => by rw [cAggs, List.mem_append, cAggs_mem x l]; simp
theorem cBounds_mem (x : Arm) : ∀ (l : List Bound), x ∈ cBounds l ↔ ∃ t ∈ l, x ∈ cBound t
 | [] => by rw [cBounds]; simp
 | t :: l => by rw [cBounds, List.mem_append, cBounds_mem x l]; simp
theorem cSteps_mem (x : Arm) : ∀ (l : List Step), x ∈ cSteps l ↔ ∃ t ∈ l, x ∈ cStep t
 | [] => by rw [cSteps]; simp
 | t :: l => by rw [cSteps, List.mem_append, cSteps_mem x l]; simp
section
variable {σ : Type} (fa : σ → Arm → σ × Arm) (ff : σ → Term → Nat → σ) (hfa : ∀ s a, (fa s a).2 = a) (hff : ∀ s t d, ff s t d = s)
include hfa hff
theorem fldS_keep (d : Nat) (s : σ) (t : Term) : fldS ff d s t = s := by unfold fldS; split <;> simp [hff]
mutual
theorem kwTerm : ∀ (t : Term) (d : Nat) (s : σ), wTerm fa ff t d s = ((cTerm t).foldl (fun s a => (fa s a).1) s, t)
 | ⟨op, neg, n, frm, col, name, vk, vi, vt, coll, l, r, args, sub⟩, d, s => by
  rw [wTerm, cTerm]
  simp only [fldS_keep fa ff hfa hff, kwTerms args d, kwQueries sub (d + 1), List.foldl_append]
theorem kwQuery : ∀ (t : Query) (d : Nat) (s : σ), wQuery fa ff t d s = ((cQuery t).foldl (fun s a => (fa s a).1) s, t)
 | ⟨names, arms, order, limit, offset⟩, d, s => by
  rw [wQuery, cQuery]
  simp only [kwTerms limit d, kwTerms offset d, kwArms arms d, List.foldl_append]
theorem kwArm : ∀ (t : Arm) (d : Nat) (s : σ), wArm fa ff t d s = ((cArm t).foldl (fun s a => (fa s a).1) s, t)
 | ⟨comp, distinct, values, rows, frm, whr, grouped, group, aggs, having, out, extra, steps⟩, d, s => by
  rw [wArm, cArm]
  simp only [kwRows rows d, kwFroms frm d, kwAggs aggs d, kwSteps steps d, kwTerms whr d, kwTerms group d, kwTerms having d, kwTerms out d, kwTerms extra d, List.foldl_append, List.foldl_cons, List.foldl_nil]
  exact Prod.ext rfl (hfa _ _)
theorem kwFrom : ∀ (t : From) (d : Nat) (s : σ), wFrom fa ff t d s = ((cFrom t).foldl (fun s a => (fa s a).1) s, t)
 | ⟨join, kind, name, n, width, sub, on⟩, d, s => by
  rw [wFrom, cFrom]
  simp only [kwQueries sub d, kwTerms on d, List.foldl_append]
theorem kwAgg : ∀ (t : Agg) (d : Nat) (s : σ), wAgg fa ff t d s = ((cAgg t).foldl (fun s a => (fa s a).1) s, t)
 | ⟨name, distinct, star, coll, arg⟩, d, s => by
  rw [wAgg, cAgg]
  simp only [kwTerms arg d, List.foldl_append]
theorem kwBound : ∀ (t : Bound) (d : Nat) (s : σ), wBound fa ff t d s = ((cBound t).foldl (fun s a => (fa s a).1) s, t)
 | ⟨term, opn⟩, d, s => by
  rw [wBound, cBound]
  simp only [kwTerm term d, List.foldl_append]
theorem kwStep : ∀ (t : Step) (d : Nat) (s : σ), wStep fa ff t d s = ((cStep t).foldl (fun s a => (fa s a).1) s, t)
 | ⟨frm, kind, index, eq, low, high, whr⟩, d, s => by
  rw [wStep, cStep]
  simp only [kwTerms eq d, kwBounds low d, kwBounds high d, List.foldl_append]
theorem kwTerms : ∀ (l : List Term) (d : Nat) (s : σ), wTerms fa ff l d s = ((cTerms l).foldl (fun s a => (fa s a).1) s, l)
 | [], d, s => by rw [wTerms, cTerms]; rfl
 | t :: l, d, s => by
  rw [wTerms, cTerms]
  simp only [kwTerm t d, kwTerms l d, List.foldl_append]
theorem kwQueries : ∀ (l : List Query) (d : Nat) (s : σ), wQueries fa ff l d s = ((cQueries l).foldl (fun s a => (fa s a).1) s, l)
 | [], d, s => by rw [wQueries, cQueries]; rfl
 | t :: l, d, s => by
  rw [wQueries, cQueries]
  simp only [kwQuery t d, kwQueries l d, List.foldl_append]
theorem kwArms : ∀ (l : List Arm) (d : Nat) (s : σ), wArms fa ff l d s = ((cArms l).foldl (fun s a => (fa s a).1) s, l)
 | [], d, s => by rw [wArms, cArms]; rfl
 | t :: l, d, s => by
  rw [wArms, cArms]
  simp only [kwArm t d, kwArms l d, List.foldl_append]
theorem kwRows : ∀ (l : List (List Term)) (d : Nat) (s : σ), wRows fa ff l d s = ((cRows l).foldl (fun s a => (fa s a).1) s, l)
 | [], d, s => by rw [wRows, cRows]; rfl
 | t :: l, d, s => by
  rw [wRows, cRows]
  simp only [kwTerms t d, kwRows l d, List.foldl_append]
theorem kwFroms : ∀ (l : List From) (d : Nat) (s : σ), wFroms fa ff l d s = ((cFroms l).foldl (fun s a => (fa s a).1) s, l)
 | [], d, s => by rw [wFroms, cFroms]; rfl
 | t :: l, d, s => by
  rw [wFroms, cFroms]
  simp only [kwFrom t d, kwFroms l d, List.foldl_append]
theorem kwAggs : ∀ (l : List Agg) (d : Nat) (s : σ), wAggs fa ff l d s = ((cAggs l).foldl (fun s a => (fa s a).1) s, l)
 | [], d, s => by rw [wAggs, cAggs]; rfl
 | t :: l, d, s => by
  rw [wAggs, cAggs]
  simp only [kwAgg t d, kwAggs l d, List.foldl_append]
theorem kwBounds : ∀ (l : List Bound) (d : Nat) (s : σ), wBounds fa ff l d s = ((cBounds l).foldl (fun s a => (fa s a).1) s, l)
 | [], d, s => by rw [wBounds, cBounds]; rfl
 | t :: l, d, s => by
  rw [wBounds, cBounds]
  simp only [kwBound t d, kwBounds l d, List.foldl_append]
theorem kwSteps : ∀ (l : List Step) (d : Nat) (s : σ), wSteps fa ff l d s = ((cSteps l).foldl (fun s a => (fa s a).1) s, l)
 | [], d, s => by rw [wSteps, cSteps]; rfl
 | t :: l, d, s => by
  rw [wSteps, cSteps]
  simp only [kwStep t d, kwSteps l d, List.foldl_append]
end
def cWith (x : With) : List Arm := cQuery x.query ++ cQueries x.step
def cResolved (r : Resolved) : List Arm := cQuery r.query ++ r.withs.flatMap cWith
theorem kwWiths : ∀ (l : List With) (s : σ), wWiths fa ff l s = ((l.flatMap cWith).foldl (fun s a => (fa s a).1) s, l)
 | [], s => rfl
 | x :: l, s => by
  have h1 := kwWiths l (wWith fa ff s x).1
  unfold wWiths at h1 ⊢
  simp only [mapS, h1, List.flatMap_cons, List.foldl_append]
  simp only [wWith, kwQuery fa ff hfa hff, kwQueries fa ff hfa hff, cWith, List.foldl_append]
theorem kwResolved (r : Resolved) (s : σ) : wResolved fa ff r s = ((cResolved r).foldl (fun s a => (fa s a).1) s, r) := by
 simp only [wResolved, cResolved, kwWiths fa ff hfa hff, kwQuery fa ff hfa hff, List.foldl_append]
end
/-- An arm's arms: those of its terms, itself, those of its sources' queries. -/
theorem cArm_mem (a y : Arm) : y ∈ cArm a ↔ y ∈ cTerms (armTerms a) ∨ y = a ∨ ∃ f ∈ a.frm, y ∈ cQueries f.sub := by
 rw [cArm_eq]
 unfold armTerms
 simp only [cTerms_append, List.mem_append, List.mem_singleton, cRows_mem, cFroms_mem, cAggs_mem, cSteps_mem, cTerms_mem, List.mem_flatMap, cFrom_eq, cAgg_eq, cStep_eq, stepTerms, List.mem_map, cBounds_mem, cBound_eq]
 constructor
 ·intro h
  rcases h with ((((((((⟨x, h1, z, h2, h3⟩ | ⟨f, h1, h2⟩) | ⟨g, h1, z, h2, h3⟩) | ⟨s, h1, h2⟩) | h) | h) | h) | h) | h) | h
  all_goals grind
 ·intro h
  rcases h with ((((((((⟨t, ⟨z, h1, h2⟩, h3⟩ | ⟨t, ⟨z, h1, h2⟩, h3⟩) | ⟨t, ⟨z, h1, h2⟩, h3⟩) | ⟨t, ⟨z, h1, h2⟩, h3⟩) | h) | h) | h) | h) | h) | rfl | ⟨f, h1, h2⟩
  ·exact .inl (.inl (.inl (.inl (.inl (.inl (.inl (.inl (.inl ⟨z, h1, t, h2, h3⟩))))))))
  ·exact .inl (.inl (.inl (.inl (.inl (.inl (.inl (.inl (.inr ⟨z, h1, .inr ⟨t, h2, h3⟩⟩))))))))
  ·exact .inl (.inl (.inl (.inl (.inl (.inl (.inl (.inr ⟨z, h1, t, h2, h3⟩)))))))
  ·refine .inl (.inl (.inl (.inl (.inl (.inl (.inr ⟨z, h1, ?_⟩))))))
   rcases h2 with (h2 | ⟨b, h2, rfl⟩) | ⟨b, h2, rfl⟩
   ·exact .inl (.inl ⟨t, h2, h3⟩)
   ·exact .inl (.inr ⟨b, h2, h3⟩)
   ·exact .inr ⟨b, h2, h3⟩
  ·exact .inl (.inl (.inl (.inl (.inl (.inr h)))))
  ·exact .inl (.inl (.inl (.inl (.inr h))))
  ·exact .inl (.inl (.inl (.inr h)))
  ·exact .inl (.inl (.inr h))
  ·exact .inl (.inr h)
  ·exact .inr rfl
  ·exact .inl (.inl (.inl (.inl (.inl (.inl (.inl (.inl (.inr ⟨f, h1, .inl h2⟩))))))))
/-- The walker that asks each arm. -/
def kfa (q : Arm → Option Bool) (s : Option Bool) (a : Arm) : Option Bool × Arm := (s.bind fun b => (q a).map (b && ·), a)
end Go.Pl
