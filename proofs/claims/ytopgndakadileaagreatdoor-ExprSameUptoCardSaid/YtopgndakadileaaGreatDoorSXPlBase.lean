/- Plain laws of told functions: loops, recursion by fuel, equality. -/
import Derived.Test.YtopgndakadileaaGreatDoorSAmPanic
set_option linter.unusedVariables false
namespace Go.Am
theorem wrap_succ {i n : Nat} (hi : i < n) (hn : n ≤ 4611686018427387000) : IntKind.i64.wrap ((i : Int) + 1) = ((i + 1 : Nat) : Int) := by
  rw [wrap_id (by omega) (by omega)]; simp
theorem need_t {α : Type} {p : Prop} [Decidable p] {k : Option α} (h : p) : need p k = k := if_pos h
theorem way_tt {α : Type} {a b : Option α} : way true a b = a := rfl
theorem way_ff {α : Type} {a b : Option α} : way false a b = b := rfl
theorem call_of {α β : Type} {y : α} {f : α → Option β} : call (some y) f = f y := rfl
theorem join_of {X α : Type} {b : (X → Option α) → Option α} {k : X → Option α} : join b k = b k := rfl
theorem loopC_succ {X α : Type} {b : (X → Option α) → X → Option α} {n : Nat} {q : X} : loopC b (n + 1) q = b (loopC b n) q := rfl
theorem way_and {b c : Bool} : way b (some c) (some false) = some (b && c) := by cases b <;> rfl
theorem way_if {α : Type} {b : Bool} {x y : Option α} : way b x y = if b = true then x else y := by cases b <;> rfl
/-- A loop over places that ends at the first that is not so, and goes on behind the last. -/
theorem loop_to {α : Type} {n : Nat} (hn : n ≤ 4611686018427387000) (p : Nat → Bool) {b : (Int → Option α) → Int → Option α} {E N : Option α}
    (hb : ∀ k (i : Nat), i < n → b k (i : Int) = if p i = true then k ((i + 1 : Nat) : Int) else N) (he : ∀ k, b k (n : Int) = E) : loopC b manyC 0 = if (List.range n).all p = true then E else N := by
  have key : ∀ i : Nat, i ≤ n → ∀ m, n - i < m → loopC b m (i : Int) = if (List.range' i (n - i)).all p = true then E else N := by
    intro i hi m hm
    induction h : n - i generalizing i m with
    | zero =>
      obtain rfl : i = n := by omega
      cases m with
      | zero => omega
      | succ m => rw [loopC_succ, he]; rfl
    | succ d ih =>
      cases m with
      | zero => omega
      | succ m =>
        rw [loopC_succ, hb _ i (by omega), List.range'_succ, List.all_cons]
        cases hp : p i with
        | false => rfl
        | true => simp only [if_true, Bool.true_and]; exact ih (i + 1) (by omega) m (by omega) (by omega)
  have := key 0 (Nat.zero_le _) manyC (by unfold manyC; omega)
  rw [← List.range_eq_range'] at this
  exact this
/-- Are they one? -/
noncomputable def eqb {α : Type} (x y : α) : Bool := @decide (x = y) (Classical.propDecidable _)
theorem eqb_iff {α : Type} {x y : α} : eqb x y = true ↔ x = y := by unfold eqb; exact @decide_eq_true_iff _ (Classical.propDecidable _)
theorem eqb_refl {α : Type} (x : α) : eqb x x = true := eqb_iff.2 rfl
theorem eqb_of {α : Type} {x y : α} {b : Bool} (h : b = true ↔ x = y) : b = eqb x y := by
  rw [Bool.eq_iff_iff, h, eqb_iff]
theorem beq_text (x y : ByteArray) : (x.data.toList == y.data.toList) = eqb x y := eqb_of (by
  rw [beq_iff_eq, Array.toList_inj]
  exact ⟨fun h => ByteArray.ext h, fun h => by rw [h]⟩)
theorem beq_int (x y : Int) : (x == y) = eqb x y := eqb_of beq_iff_eq
theorem beq_bool (x y : Bool) : (x == y) = eqb x y := eqb_of beq_iff_eq
theorem bne_int (x y : Int) : (x != y) = !eqb x y := by rw [← beq_int]; rfl
/-- All places alike, and as many: one list. -/
theorem all_eqb {α : Type} (z : α) {l m : List α} (h : l.length = m.length) : (List.range l.length).all (fun i => eqb (l.getD i z) (m.getD i z)) = eqb l m := eqb_of (by
  rw [List.all_eq_true]
  constructor
  · intro hp
    refine List.ext_getElem h fun i h1 h2 => ?_
    have := eqb_iff.1 (hp i (List.mem_range.2 h1))
    simpa [List.getD_eq_getElem?_getD, h1, h2] using this
  · rintro rfl i hi
    exact eqb_refl _)
theorem eqb_len {α : Type} {l m : List α} (h : l.length ≠ m.length) : eqb l m = false := by
  cases e : eqb l m with
  | false => rfl
  | true => exact absurd (by rw [eqb_iff.1 e]) h
/-- The usual loop over two lists. -/
theorem list_same {α : Type} (p : α → α → Option Bool) (z : α) (l m : List α) (hl : l.length ≤ 4611686018427387000) (hp : ∀ x ∈ l, ∀ y, p x y = some (eqb x y)) :
    (way (((((l.length : Nat) : Int)) != (((m.length : Nat) : Int)))) (some false) (loopC (fun (k10 : Int → Option (Bool)) (q9 : Int) => (way ((decide (q9 < (((l.length : Nat) : Int))))) (need (0 ≤ q9 ∧ q9 < ((l.length : Nat) : Int)) (need (0 ≤ q9 ∧ q9 < ((m.length : Nat) : Int)) (call (p ((l.getD q9.toNat z)) ((m.getD q9.toNat z))) fun y22 => (way ((!y22)) (some false) (k10 (IntKind.i64.wrap (q9 + 1))))))) (some true))) manyC 0)) = some (eqb l m) := by
  by_cases h : l.length = m.length
  · rw [show ((((l.length : Nat) : Int)) != (((m.length : Nat) : Int))) = false by rw [h]; simp, way_ff]
    rw [loop_to (n := l.length) hl (fun i => eqb (l.getD i z) (m.getD i z)) (E := some true) (N := some false)]
    · rw [all_eqb z h]; cases eqb l m <;> rfl
    · intro k i hi
      rw [show decide ((i : Int) < ((l.length : Nat) : Int)) = true by simp; exact hi, way_tt, need_t (by omega), need_t (by omega), Int.toNat_natCast, hp _ (by
        rw [List.getD_eq_getElem?_getD, List.getElem?_eq_getElem hi]; exact List.getElem_mem hi), call_of, wrap_succ hi hl, way_if]
      cases eqb (l.getD i z) (m.getD i z) <;> rfl
    · intro k
      rw [show decide (((l.length : Nat) : Int) < ((l.length : Nat) : Int)) = false by simp]; rfl
  · rw [show ((((l.length : Nat) : Int)) != (((m.length : Nat) : Int))) = true by simp; omega, way_tt, eqb_len h]
theorem length_le_sum {α : Type} (f : α → Nat) (h : ∀ x, 1 ≤ f x) : ∀ l : List α, l.length ≤ (l.map f).sum
  | [] => Nat.le_refl _
  | x :: l => by have := length_le_sum f h l; have := h x; simp only [List.length_cons, List.map_cons, List.sum_cons]; omega
theorem mem_le_sum {α : Type} (f : α → Nat) : ∀ {l : List α} {x : α}, x ∈ l → f x ≤ (l.map f).sum
  | y :: l, x, h => by
    simp only [List.map_cons, List.sum_cons]
    rcases List.mem_cons.1 h with rfl | h
    · omega
    · have := mem_le_sum f h; omega
end Go.Am
