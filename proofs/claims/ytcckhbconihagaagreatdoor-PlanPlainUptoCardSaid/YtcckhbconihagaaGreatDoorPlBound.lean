/- How long lists are, by how much they hold. -/
import Derived.Test.YtcckhbconihagaaGreatDoorPlData
namespace Go.Pl
theorem Term.w_pos (t : Term) : 1 ≤ t.w := by rw [Term.w_eq]; omega
theorem Query.w_pos (t : Query) : 1 ≤ t.w := by rw [Query.w_eq]; omega
theorem Arm.w_pos (t : Arm) : 1 ≤ t.w := by rw [Arm.w_eq]; omega
theorem From.w_pos (t : From) : 1 ≤ t.w := by rw [From.w_eq]; omega
theorem Agg.w_pos (t : Agg) : 1 ≤ t.w := by rw [Agg.w_eq]; omega
theorem Bound.w_pos (t : Bound) : 1 ≤ t.w := by rw [Bound.w_eq]; omega
theorem Step.w_pos (t : Step) : 1 ≤ t.w := by rw [Step.w_eq]; omega
theorem With.w_pos (t : With) : 1 ≤ t.w := by rw [With.w_eq]; omega
theorem len_le {α : Type} {f : α → Nat} (hf : ∀ x, 1 ≤ f x) : ∀ l : List α, l.length ≤ (l.map f).sum
  | [] => Nat.zero_le _
  | x :: l => by
    have h1 := hf x
    have h2 := len_le hf l
    rw [List.length_cons, List.map_cons, List.sum_cons]; omega
end Go.Pl
