/- Lists that rise, each number once: put one in, put many in; sorted and compacted is the same. No program in sight. -/
import Derived.Lib.SlicesCompact
set_option linter.unusedVariables false
namespace Go.Pl
open Go.Lib
def put : List Int → Int → List Int
  | [], n => [n]
  | x :: r, n => if x < n then x :: put r n else if x = n then x :: r else n :: x :: r
def puts (l m : List Int) : List Int := m.foldl put l
def canon (l : List Int) : List Int := puts [] l
abbrev Up (l : List Int) : Prop := l.Pairwise (· < ·)

theorem mem_put : ∀ (l : List Int) (n x : Int), x ∈ put l n ↔ x = n ∨ x ∈ l
  | [], n, x => by simp [put]
  | y :: r, n, x => by
    unfold put
    split
    · simp only [List.mem_cons, mem_put r n x]
      constructor <;> (intro h; rcases h with h | h | h <;> simp [h])
    · split
      · rename_i h; subst h; simp
      · simp
theorem up_put : ∀ (l : List Int) (n : Int), Up l → Up (put l n)
  | [], n, h => by simp [put, Up]
  | y :: r, n, h => by
    obtain ⟨h1, h2⟩ := List.pairwise_cons.1 h
    unfold put
    split
    · rename_i hlt
      refine List.pairwise_cons.2 ⟨fun z hz => ?_, up_put r n h2⟩
      rcases (mem_put r n z).1 hz with rfl | hz
      · exact hlt
      · exact h1 z hz
    · split
      · exact h
      · refine List.pairwise_cons.2 ⟨fun z hz => ?_, h⟩
        rcases List.mem_cons.1 hz with rfl | hz
        · omega
        · have := h1 z hz; omega
theorem mem_puts : ∀ (m l : List Int) (x : Int), x ∈ puts l m ↔ x ∈ l ∨ x ∈ m
  | [], l, x => by simp [puts]
  | y :: m, l, x => by
    have := mem_puts m (put l y) x
    unfold puts at this ⊢
    rw [List.foldl_cons, this, mem_put]
    simp only [List.mem_cons]
    constructor
    · rintro ((h | h) | h)
      · exact .inr (.inl h)
      · exact .inl h
      · exact .inr (.inr h)
    · rintro (h | h | h)
      · exact .inl (.inr h)
      · exact .inl (.inl h)
      · exact .inr h
theorem up_puts : ∀ (m l : List Int), Up l → Up (puts l m)
  | [], l, h => h
  | y :: m, l, h => up_puts m (put l y) (up_put l y h)
theorem mem_canon (l : List Int) (x : Int) : x ∈ canon l ↔ x ∈ l := by unfold canon; rw [mem_puts]; simp
theorem up_canon (l : List Int) : Up (canon l) := up_puts l [] List.Pairwise.nil
/-- Two lists that rise and have the same members are the same. -/
theorem up_ext : ∀ (l m : List Int), Up l → Up m → (∀ x, x ∈ l ↔ x ∈ m) → l = m
  | [], [], _, _, _ => rfl
  | [], y :: m, _, _, h => by have := (h y).2 (by simp); simp at this
  | x :: l, [], _, _, h => by have := (h x).1 (by simp); simp at this
  | x :: l, y :: m, hl, hm, h => by
    obtain ⟨a1, a2⟩ := List.pairwise_cons.1 hl
    obtain ⟨b1, b2⟩ := List.pairwise_cons.1 hm
    have e : x = y := by
      rcases List.mem_cons.1 ((h x).1 (by simp)) with e | hx
      · exact e
      · rcases List.mem_cons.1 ((h y).2 (by simp)) with e | hy
        · exact e.symm
        · have := b1 x hx; have := a1 y hy; omega
    subst e
    rw [up_ext l m a2 b2 fun z => ?_]
    have hz := h z
    simp only [List.mem_cons] at hz
    constructor
    · intro hm'
      rcases hz.1 (.inr hm') with rfl | h2
      · have := a1 z hm'; omega
      · exact h2
    · intro hm'
      rcases hz.2 (.inr hm') with rfl | h2
      · have := b1 z hm'; omega
      · exact h2
theorem canon_ext {l m : List Int} (h : ∀ x, x ∈ l ↔ x ∈ m) : canon l = canon m :=
  up_ext _ _ (up_canon l) (up_canon m) fun x => by rw [mem_canon, mem_canon, h]
theorem puts_canon (l m : List Int) : puts (canon l) (canon m) = canon (l ++ m) :=
  up_ext _ _ (up_puts _ _ (up_canon l)) (up_canon _) fun x => by rw [mem_puts, mem_canon, mem_canon, mem_canon, List.mem_append]
theorem put_canon (l : List Int) (n : Int) : put (canon l) n = canon (l ++ [n]) :=
  up_ext _ _ (up_put _ _ (up_canon l)) (up_canon _) fun x => by rw [mem_put, mem_canon, mem_canon, List.mem_append, List.mem_singleton, or_comm]
theorem canon_nil : canon [] = [] := rfl
theorem len_put : ∀ (l : List Int) (n : Int), (put l n).length ≤ l.length + 1
  | [], n => by simp [put]
  | y :: r, n => by
    have := len_put r n
    unfold put
    split
    · simp only [List.length_cons]; omega
    · split <;> simp
theorem len_puts : ∀ (m l : List Int), (puts l m).length ≤ l.length + m.length
  | [], l => by simp [puts]
  | y :: m, l => by
    have h1 := len_put l y
    have h2 := len_puts m (put l y)
    unfold puts at h2 ⊢
    rw [List.foldl_cons]
    simp only [List.length_cons]; omega
theorem len_canon (l : List Int) : (canon l).length ≤ l.length := by have := len_puts l []; simpa [canon] using this

/-- A number put in, seen from the list's end. -/
theorem put_all_lt : ∀ (l : List Int) (n : Int), (∀ x ∈ l, x < n) → put l n = l ++ [n]
  | [], n, _ => rfl
  | y :: r, n, h => by
    unfold put
    rw [if_pos (h y (by simp)), put_all_lt r n fun x hx => h x (by simp [hx])]; rfl
theorem put_snoc_done : ∀ (l : List Int) (n x : Int), (∃ y ∈ l, n ≤ y) → put (l ++ [x]) n = put l n ++ [x]
  | [], n, x, h => by obtain ⟨y, hy, _⟩ := h; simp at hy
  | z :: r, n, x, h => by
    simp only [List.cons_append, put]
    split
    · rename_i hlt
      rw [put_snoc_done r n x ?_]; rfl
      obtain ⟨y, hy, hn⟩ := h
      rcases List.mem_cons.1 hy with rfl | hy
      · omega
      · exact ⟨y, hy, hn⟩
    · split <;> rfl
theorem put_snoc_now : ∀ (l : List Int) (n x : Int), (∀ y ∈ l, y < n) → n ≤ x → put (l ++ [x]) n = l ++ (if n < x then [n] else []) ++ [x]
  | [], n, x, _, hx => by
    simp only [List.nil_append, put]
    by_cases e : x = n
    · subst e; simp
    · have h1 : ¬ x < n := by omega
      have h2 : n < x := by omega
      simp [h1, e, h2]
  | z :: r, n, x, h, hx => by
    simp only [List.cons_append, put]
    rw [if_pos (h z (by simp)), put_snoc_now r n x (fun y hy => h y (by simp [hy])) hx]

/-- Sorted and compacted. -/
theorem compactUpTo_up (d : Array Int) (hs : ∀ i j, i < j → j < d.size → d[i]! ≤ d[j]!) : ∀ m, m ≤ d.size → Up (compactUpTo d m) ∧ (∀ x, x ∈ compactUpTo d m ↔ ∃ j, j < m ∧ x = d[j]!)
  | 0, _ => by simp [compactUpTo, Up]
  | m + 1, hm => by
    obtain ⟨h1, h2⟩ := compactUpTo_up d hs m (by omega)
    rw [compactUpTo_succ]
    by_cases hk : keeps d m = true
    · rw [if_pos hk]
      refine ⟨List.pairwise_append.2 ⟨h1, by simp, fun a ha b hb => ?_⟩, fun x => ?_⟩
      · simp at hb; subst hb
        obtain ⟨j, hj, rfl⟩ := (h2 a).1 ha
        have hle : d[j]! ≤ d[m - 1]! := by
          by_cases e : j = m - 1
          · rw [e]; exact Int.le_refl _
          · exact hs j (m - 1) (by omega) (by omega)
        have hle2 := hs (m - 1) m (by omega) (by omega)
        have hne : d[m]! ≠ d[m - 1]! := by
          have : m ≠ 0 := by omega
          simpa [keeps, this] using hk
        omega
      · rw [List.mem_append, h2, List.mem_singleton]
        constructor
        · rintro (⟨j, hj, rfl⟩ | rfl)
          · exact ⟨j, by omega, rfl⟩
          · exact ⟨m, by omega, rfl⟩
        · rintro ⟨j, hj, rfl⟩
          by_cases e : j = m
          · exact .inr (by rw [e])
          · exact .inl ⟨j, by omega, rfl⟩
    · rw [if_neg hk, List.append_nil]
      refine ⟨h1, fun x => ?_⟩
      rw [h2]
      have hk' : m ≠ 0 ∧ d[m]! = d[m - 1]! := by simpa [keeps] using hk
      constructor
      · rintro ⟨j, hj, rfl⟩; exact ⟨j, by omega, rfl⟩
      · rintro ⟨j, hj, rfl⟩
        by_cases e : j = m
        · subst e; exact ⟨j - 1, by omega, hk'.2⟩
        · exact ⟨j, by omega, rfl⟩
theorem compact_sort (l : List Int) : compact (l.mergeSort fun x y => decide (x ≤ y)) = canon l := by
  have hs : (l.mergeSort fun x y => decide (x ≤ y)).Pairwise fun a b => decide (a ≤ b) = true := List.pairwise_mergeSort (by intro a b c; simp <;> omega) (by intro a b; simp <;> omega) l
  have hmem : ∀ x, x ∈ (l.mergeSort fun x y => decide (x ≤ y)) ↔ x ∈ l := fun x => (List.mergeSort_perm l _).mem_iff
  generalize (l.mergeSort fun x y => decide (x ≤ y)) = zs at hs hmem
  have hget : ∀ j, j < zs.length → ∃ h : j < zs.length, zs.toArray[j]! = zs[j] := fun j h => ⟨h, by simp [getElem!_pos, h]⟩
  obtain ⟨h1, h2⟩ := compactUpTo_up zs.toArray (fun i j hij hj => by
    have hj' : j < zs.length := by simpa using hj
    obtain ⟨_, e1⟩ := hget i (by omega)
    obtain ⟨_, e2⟩ := hget j hj'
    rw [e1, e2]
    have := List.pairwise_iff_getElem.1 hs i j (by omega) hj' hij
    simpa using this) zs.length (by simp)
  refine up_ext _ _ h1 (up_canon l) fun x => ?_
  rw [mem_canon, ← hmem]
  unfold compact
  rw [h2]
  constructor
  · rintro ⟨j, hj, rfl⟩
    obtain ⟨h, e⟩ := hget j hj
    rw [e]; exact List.getElem_mem h
  · intro hx
    obtain ⟨j, hj, rfl⟩ := List.mem_iff_getElem.1 hx
    obtain ⟨_, e⟩ := hget j hj
    exact ⟨j, hj, e.symm⟩
end Go.Pl
