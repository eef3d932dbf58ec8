/- The reference's Reach, all together: by how much there is. -/
import Derived.Test.YtcckhbconihagaaGreatDoorPlRef3
import Derived.Test.YtcckhbconihagaaGreatDoorPlRef4
set_option linter.unusedVariables false
namespace Go.Proofs.YtcckhbconihagaaGreatDoor
open Go.Am Go.Pl
theorem sum_mem_le {α : Type} (f : α → Nat) : ∀ (l : List α) (x : α), x ∈ l → f x ≤ (l.map f).sum
  | y :: l, x, h => by
    rw [List.map_cons, List.sum_cons]
    rcases List.mem_cons.1 h with rfl | h
    · omega
    · have := sum_mem_le f l x h; omega
theorem getElem_w (l : List Term) (i : Nat) (hi : i < l.length) : l[i].w ≤ (l.map Term.w).sum := sum_mem_le Term.w l _ (List.getElem_mem hi)
theorem terms_ok (a : Arm) (hw : a.w ≤ 2 ^ 30) : Gives Tryz.prog 46 [.agg a.v] (.slice 14 ((armTerms a).map Term.v)) := by
  have h1 := armTerms_w a
  have h2 := len_le Term.w_pos (armTerms a)
  have h3 := Arm.w_eq a
  have l1 := len_le (f := fun l : List Term => 1 + (l.map Term.w).sum) (fun x => Nat.le_add_right 1 _) a.rows
  have l2 := len_le From.w_pos a.frm
  have l3 := len_le Agg.w_pos a.aggs
  have l4 := len_le Step.w_pos a.steps
  refine f46_spec a ?_ ⟨by omega, by omega, by omega, by omega, fun i hi => ?_⟩
  · generalize ((armTerms a).map Term.w).sum = S at h1 h2
    simp only [armTerms, List.length_append] at h2; omega
  · have := sum_mem_le Step.w a.steps _ (List.getElem_mem hi)
    rw [Step.w_eq] at this
    have b1 := len_le Bound.w_pos a.steps[i].low
    have b2 := len_le Bound.w_pos a.steps[i].high
    omega
theorem reach_all : ∀ n : Nat, n ≤ 2 ^ 30 → (∀ (l : List Term) (d : Nat), (l.map Term.w).sum ≤ n → d + n < 2 ^ 40 → Gives Tryz.prog 12 [.slice 14 (l.map Term.v), vint d] (vints (canon (hTerms l d)))) ∧
    (∀ (l : List Query) (d : Nat), (l.map Query.w).sum ≤ n → d + n < 2 ^ 40 → Gives Tryz.prog 30 [.slice 5 (l.map Query.v), vint d] (vints (canon (hQueries l d))))
  | 0, _ => by
    refine ⟨fun l d hl hd => ?_, fun l d hl hd => ?_⟩
    · have := len_le Term.w_pos l
      obtain rfl : l = [] := List.eq_nil_of_length_eq_zero (by omega)
      exact f12_spec [] d (by simp) (by omega) (fun i hi => by simp at hi) (fun i hi => by simp at hi) fun i hi => by simp at hi
    · have := len_le Query.w_pos l
      obtain rfl : l = [] := List.eq_nil_of_length_eq_zero (by omega)
      exact f30_spec [] d (by simp) (by simp) fun q hq => by simp at hq
  | n + 1, hn => by
    obtain ⟨hT, hQ⟩ := reach_all n (by omega)
    refine ⟨fun l d hl hd => ?_, fun l d hl hd => ?_⟩
    · have hlen := len_le Term.w_pos l
      have hw : ∀ i (hi : i < l.length), (l[i].args.map Term.w).sum ≤ n ∧ (l[i].sub.map Query.w).sum ≤ n := fun i hi => by
        have := getElem_w l i hi
        rw [Term.w_eq] at this
        omega
      refine f12_spec l d (by omega) (by omega) (fun i hi => ?_) (fun i hi => hT _ _ (hw i hi).1 (by omega)) fun i hi => hQ _ _ (hw i hi).2 (by omega)
      have h1 := Nat.le_trans (hlTerms (l.take i) d) (sum_take_le Term.w l i)
      have h2 := hlTerms l[i].args d
      have h3 := hlQueries l[i].sub (d + 1)
      have := hw i hi
      omega
    · have hlen := len_le Query.w_pos l
      refine f30_spec l d (by omega) (by omega) fun q hq => ?_
      have hqw := sum_mem_le Query.w l q hq
      have hqe := Query.w_eq q
      refine ⟨by omega, hT _ _ (by omega) (by omega), hT _ _ (by omega) (by omega), fun a ha => ?_⟩
      have haw := sum_mem_le Arm.w q.arms a ha
      have hae := Arm.w_eq a
      have ht := armTerms_w a
      refine ⟨by omega, terms_ok a (by omega), hT _ _ (by omega) (by omega), fun f hf => ?_, fun f hf => ?_⟩
      · have hfw := sum_mem_le From.w a.frm f hf
        have hfe := From.w_eq f
        exact hQ _ _ (by omega) (by omega)
      · have hfw := sum_mem_le From.w a.frm f hf
        have hfe := From.w_eq f
        omega
end Go.Proofs.YtcckhbconihagaaGreatDoor
