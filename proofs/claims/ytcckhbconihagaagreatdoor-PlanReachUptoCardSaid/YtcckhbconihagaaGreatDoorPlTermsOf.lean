/- The terms that stand right in an arm; that it reaches what they reach, and its sources' queries. -/
import Derived.Test.YtcckhbconihagaaGreatDoorPlHits
set_option linter.unusedVariables false
namespace Go.Pl
open Go.Am
theorem take_flatMap {α β : Type} (f : α → List β) (l : List α) (i : Nat) (h : i < l.length) : (l.take (i + 1)).flatMap f = (l.take i).flatMap f ++ f l[i] := by
  rw [List.take_succ_eq_append_getElem h, List.flatMap_append]; simp
theorem flatMap_take_le {α β : Type} (f : α → List β) : ∀ (l : List α) (i : Nat) (h : i < l.length), ((l.take i).flatMap f).length + (f l[i]).length ≤ (l.flatMap f).length
  | x :: l, 0, h => by simp
  | x :: l, i + 1, h => by
    have := flatMap_take_le f l i (by simpa using h)
    simp only [List.take_succ_cons, List.flatMap_cons, List.length_append, List.getElem_cons_succ]; omega
def stepTerms (s : Step) : List Term := s.eq ++ s.low.map Bound.term ++ s.high.map Bound.term
def armTerms (a : Arm) : List Term :=
  a.rows.flatMap (fun l => l) ++ a.frm.flatMap From.on ++ a.aggs.flatMap Agg.arg ++ a.steps.flatMap stepTerms ++ a.whr ++ a.group ++ a.having ++ a.out ++ a.extra
def hSubs (l : List From) (d : Nat) : List Int := l.flatMap fun f => hQueries f.sub d
theorem sum_flatMap {α β : Type} (f : α → List β) (w : β → Nat) (v : α → Nat) (h : ∀ x, ((f x).map w).sum ≤ v x) : ∀ l : List α, ((l.flatMap f).map w).sum ≤ (l.map v).sum
  | [] => by simp
  | x :: l => by
    have h1 := h x
    have h2 := sum_flatMap f w v h l
    simp only [List.flatMap_cons, List.map_append, List.sum_append, List.map_cons, List.sum_cons]; omega
theorem sum_map_le {α β : Type} (f : α → β) (w : β → Nat) (v : α → Nat) (h : ∀ x, w (f x) ≤ v x) : ∀ l : List α, ((l.map f).map w).sum ≤ (l.map v).sum
  | [] => by simp
  | x :: l => by
    have h1 := h x
    have h2 := sum_map_le f w v h l
    simp only [List.map_cons, List.sum_cons]; omega
theorem armTerms_w (a : Arm) : ((armTerms a).map Term.w).sum + 1 ≤ a.w := by
  rw [Arm.w_eq]
  have h1 := sum_flatMap (fun l : List Term => l) Term.w (fun l => 1 + (l.map Term.w).sum) (fun x => by omega) a.rows
  have h2 := sum_flatMap From.on Term.w From.w (fun x => by rw [From.w_eq]; omega) a.frm
  have h3 := sum_flatMap Agg.arg Term.w Agg.w (fun x => by rw [Agg.w_eq]; omega) a.aggs
  have h4 := sum_flatMap stepTerms Term.w Step.w (fun x => by
    rw [Step.w_eq]
    have i1 := sum_map_le Bound.term Term.w Bound.w (fun x => by rw [Bound.w_eq]; omega) x.low
    have i2 := sum_map_le Bound.term Term.w Bound.w (fun x => by rw [Bound.w_eq]; omega) x.high
    simp only [stepTerms, List.map_append, List.sum_append]; omega) a.steps
  simp only [armTerms, List.map_append, List.sum_append]; omega
theorem hTerms_flatMap {α : Type} (f : α → List Term) (d : Nat) (x : Int) (l : List α) : x ∈ hTerms (l.flatMap f) d ↔ ∃ y ∈ l, x ∈ hTerms (f y) d := by
  rw [hTerms_mem]
  constructor
  · rintro ⟨t, ht, hx⟩
    obtain ⟨y, hy, ht⟩ := List.mem_flatMap.1 ht
    exact ⟨y, hy, (hTerms_mem d x _).2 ⟨t, ht, hx⟩⟩
  · rintro ⟨y, hy, hx⟩
    obtain ⟨t, ht, hx⟩ := (hTerms_mem d x _).1 hx
    exact ⟨t, List.mem_flatMap.2 ⟨y, hy, ht⟩, hx⟩
theorem hTerms_bounds (d : Nat) (x : Int) (l : List Bound) : x ∈ hTerms (l.map Bound.term) d ↔ x ∈ hBounds l d := by
  rw [hTerms_mem, hBounds_mem]
  constructor
  · rintro ⟨t, ht, hx⟩
    obtain ⟨b, hb, rfl⟩ := List.mem_map.1 ht
    exact ⟨b, hb, by rw [hBound_eq]; exact hx⟩
  · rintro ⟨b, hb, hx⟩
    rw [hBound_eq] at hx
    exact ⟨b.term, List.mem_map.2 ⟨b, hb, rfl⟩, hx⟩
/-- What an arm reaches. -/
theorem arm_mem (a : Arm) (d : Nat) (x : Int) : x ∈ hArm a d ↔ x ∈ hTerms (armTerms a) d ++ hSubs a.frm d := by
  rw [hArm_eq]
  unfold armTerms hSubs
  simp only [hTerms_append, List.mem_append, hTerms_flatMap, List.mem_flatMap, hRows_mem, hFroms_mem, hAggs_mem, hSteps_mem, hFrom_eq, hAgg_eq, hStep_eq, stepTerms, hTerms_bounds]
  constructor
  · rintro ((((((((h | ⟨f, hf, h | h⟩) | h) | ⟨s, hs, (h | h) | h⟩) | h) | h) | h) | h) | h)
    · simp [h]
    · exact .inr ⟨f, hf, h⟩
    · exact .inl (.inl (.inl (.inl (.inl (.inl (.inl (.inl (.inr ⟨f, hf, h⟩))))))))
    · simp [h]
    · exact .inl (.inl (.inl (.inl (.inl (.inl (.inr ⟨s, hs, .inl (.inl h)⟩))))))
    · exact .inl (.inl (.inl (.inl (.inl (.inl (.inr ⟨s, hs, .inl (.inr h)⟩))))))
    · exact .inl (.inl (.inl (.inl (.inl (.inl (.inr ⟨s, hs, .inr h⟩))))))
    all_goals simp [h]
  · rintro (((((((((h | ⟨f, hf, h⟩) | h) | ⟨s, hs, (h | h) | h⟩) | h) | h) | h) | h) | h) | ⟨f, hf, h⟩)
    · simp [h]
    · exact .inl (.inl (.inl (.inl (.inl (.inl (.inl (.inr ⟨f, hf, .inr h⟩)))))))
    · simp [h]
    · exact .inl (.inl (.inl (.inl (.inl (.inr ⟨s, hs, .inl (.inl h)⟩)))))
    · exact .inl (.inl (.inl (.inl (.inl (.inr ⟨s, hs, .inl (.inr h)⟩)))))
    · exact .inl (.inl (.inl (.inl (.inl (.inr ⟨s, hs, .inr h⟩)))))
    · simp [h]
    · simp [h]
    · simp [h]
    · simp [h]
    · simp [h]
    · exact .inl (.inl (.inl (.inl (.inl (.inl (.inl (.inr ⟨f, hf, .inl h⟩)))))))
theorem sum_take_le {α : Type} (w : α → Nat) : ∀ (l : List α) (i : Nat), ((l.take i).map w).sum ≤ (l.map w).sum
  | [], i => by simp
  | x :: l, 0 => by simp
  | x :: l, i + 1 => by
    have := sum_take_le w l i
    simp only [List.take_succ_cons, List.map_cons, List.sum_cons]; omega
theorem hSubs_len (l : List From) (d : Nat) : (hSubs l d).length ≤ (l.map From.w).sum := by
  unfold hSubs
  induction l with
  | nil => simp
  | cons x l ih =>
    have h1 := hlQueries x.sub d
    have h2 := From.w_eq x
    simp only [List.flatMap_cons, List.length_append, List.map_cons, List.sum_cons]; omega
theorem arm_acc (A : List Int) (l : List Arm) (k : Nat) (a : Arm) (h : k < l.length) (e : l[k] = a) (d : Nat) : canon (A ++ hArms (l.take k) d ++ hTerms (armTerms a) d ++ hSubs a.frm d) = canon (A ++ hArms (l.take (k + 1)) d) := by
  subst e
  refine canon_ext fun x => ?_
  rw [List.take_succ_eq_append_getElem h, hArms_append, hArms, hArms]
  have := arm_mem l[k] d x
  simp only [List.mem_append] at this ⊢
  rw [this]
  simp [or_assoc]
theorem query_acc (l : List Query) (i : Nat) (q : Query) (h : i < l.length) (e : l[i] = q) (d : Nat) : hQueries (l.take (i + 1)) d = hQueries (l.take i) d ++ hTerms q.limit d ++ hTerms q.offset d ++ hArms q.arms d := by
  subst e
  rw [List.take_succ_eq_append_getElem h, hQueries_append, hQueries, hQueries, hQuery_eq]; simp
theorem subs_acc (l : List From) (j : Nat) (f : From) (h : j < l.length) (e : l[j] = f) (d : Nat) : hSubs (l.take (j + 1)) d = hSubs (l.take j) d ++ hQueries f.sub d := by
  subst e
  unfold hSubs
  rw [take_flatMap _ _ _ h]
theorem getD_of {α : Type} (f : α → List V) (l : List α) (i : Nat) (x : α) (h : i < l.length) (e : l[i] = x) : (l.map f).getD (i : Int).toNat [] = f x := by
  subst e; simp [List.getD_eq_getElem?_getD, h]
end Go.Pl
