/- A region whose order is open, told as two: one where an operation stands ahead of another, one where it stands behind. -/
import Derived.Test.YtdomhnkffghmlaaGreatDoorSAmSpec
set_option linter.unusedVariables false
set_option linter.unusedSimpArgs false
namespace Go.Am
variable {P : Program}
/-- What stands of the operations that are left. -/
structure Left (all : Array Oper) (listed : Array Bool) (rem : List Nat) : Prop where
 hsz : listed.size = all.size
 hmem : ∀ i, i ∈ rem ↔ i < all.size ∧ listed.getD i true = false
 hnd : rem.Nodup
 hpw : rem.Pairwise (fun j i => Anc all j i ∨ ∃ oj oi, all[j]? = some oj ∧ all[i]? = some oi ∧ passes all oj oi = true)
 hcl : ∀ i o, listed.getD i false = true → all[i]? = some o → ∀ ed ∈ o.after, Region.binds .any ed = true → listed.getD ed.on false = true
theorem Left.step {all : Array Oper} {listed : Array Bool} {rem : List Nat} (h : Left all listed rem) {i : Nat} (hi : i ∈ Region.ready .any all listed) : ∃ rem', Left all (listed.setIfInBounds i true) rem' ∧ rem'.length < rem.length ∧ ∀ st (K : St → Prop), aopsD P all rem st K → ∃ o, all[i]? = some o ∧ gstepD P all o st fun st' => aopsD P all rem' st' K := by
 obtain ⟨hsz, hmem, hnd, hpw, hcl⟩ := h
 obtain ⟨h1, oi, ho, hdeps⟩ := mem_ready.1 hi
 have hlt : i < all.size := (Array.getElem?_eq_some_iff.1 ho).1
 have hirem : i ∈ rem := (hmem i).2 ⟨hlt, h1⟩
 obtain ⟨pre, post, rfl⟩ := List.append_of_mem hirem
 have hnotanc : ∀ j ∈ pre, ¬ Anc all j i := by
  intro j hj hanc
  -- whatever i hangs on is listed
  have up : ∀ k, Anc all j k → (∀ o, all[k]? = some o → ∀ ed ∈ o.after, Region.binds .any ed = true → listed.getD ed.on false = true) → listed.getD j false = true := by
   intro k hk
   induction hk with
   | direct ho' he hb hon => intro hd; rw [← hon]; exact hd _ ho' _ he hb
   | step ho' he hb _ ih' =>
    intro hd
    exact ih' fun o ho2 => hcl _ o (hd _ ho' _ he hb) ho2
  have hl := up i hanc (fun o ho2 => by
   obtain rfl : o = oi := Option.some.inj (ho2.symm.trans ho)
   exact hdeps)
  have hjm := ((hmem j).1 (by simp [hj])).2
  have hjs := ((hmem j).1 (by simp [hj])).1
  rw [Array.getD_eq_getD_getElem?, Array.getElem?_eq_getElem (by omega)] at hl hjm
  rw [Option.getD_some] at hl hjm
  rw [hl] at hjm; cases hjm
 have hpass : ∀ j ∈ pre, ∃ oj, all[j]? = some oj ∧ passes all oj oi = true := by
  intro j hj
  have := (List.pairwise_append.1 hpw).2.2 j hj i (by simp)
  rcases this with hA | ⟨oj, oi', k1, k2, k3⟩
  ·exact absurd hA (hnotanc j hj)
  ·obtain rfl : oi' = oi := Option.some.inj (k2.symm.trans ho)
   exact ⟨oj, k1, k3⟩
 have hsub : (pre ++ post).Sublist (pre ++ i :: post) := List.Sublist.append_left (List.sublist_cons_self i post) pre
 have hnd' := List.nodup_append.1 hnd
 have hni : i ∉ pre ++ post := by
  have h3 := (List.nodup_cons.1 hnd'.2.1).1
  intro hmm
  rcases List.mem_append.1 hmm with hm | hm
  ·exact hnd'.2.2 i hm i (by simp) rfl
  ·exact h3 hm
 have hset : ∀ (k : Nat) (d : Bool), (listed.setIfInBounds i true).getD k d = if k = i then true else listed.getD k d := fun k d => by
  simp only [Array.getD_eq_getD_getElem?, Array.getElem?_setIfInBounds]
  by_cases e : i = k
  ·subst e; simp [hsz, hlt]
  ·simp [e, Ne.symm e]
 refine ⟨pre ++ post, ⟨by simpa using hsz, fun k => ?_, hnd.sublist hsub, hpw.sublist hsub, ?_⟩, by simp, fun st K h => ⟨oi, ho, bubble ho pre hpass st h⟩⟩
 ·rw [hset]
  by_cases e : k = i
  ·subst e; simp only [↓reduceIte, Bool.true_eq_false, and_false, iff_false]; exact hni
  ·rw [if_neg e, ← hmem k]; simp [e]
 ·intro k o hk hok ed hed hbd
  rw [hset]
  split
  ·rfl
  ·rw [hset] at hk
   by_cases e : k = i
   ·subst e
    obtain rfl : o = oi := Option.some.inj (hok.symm.trans ho)
    exact hdeps ed hed hbd
   ·rw [if_neg e] at hk; exact hcl k o hk hok ed hed hbd
/-- Where nothing is ready nothing is left. -/
theorem Left.none {all : Array Oper} {listed : Array Bool} {rem : List Nat} (h : Left all listed rem) (hlow : ∀ (i : Nat) (o : Oper), all[i]? = some o → ∀ ed ∈ o.after, Region.binds .any ed = true → ed.on < all.size ∧ (ed.on < i ∨ listed.getD ed.on false = true)) (hr : Region.ready .any all listed = []) : rem = [] := by
 cases hrem : rem with
 | nil => rfl
 | cons x xs =>
  exfalso
  have least : ∀ n, ∀ i, i < n → i ∈ rem → False := by
   intro n
   induction n with
   | zero => intro i hi; omega
   | succ n ihn =>
    intro i hi hirem
    by_cases hin' : i < n
    ·exact ihn i hin' hirem
    ·obtain rfl : i = n := by omega
     obtain ⟨h1, h2⟩ := (h.hmem i).1 hirem
     have hready : i ∈ Region.ready .any all listed := by
      refine mem_ready.2 ⟨h2, all[i], by simp [h1], fun ed hed hb => ?_⟩
      obtain ⟨hsz, hlt | hl⟩ := hlow i all[i] (by simp [h1]) ed hed hb
      ·cases hq : listed.getD ed.on false with
       | true => rfl
       | false =>
        exfalso
        refine ihn ed.on hlt ((h.hmem ed.on).2 ⟨hsz, ?_⟩)
        rw [Array.getD_eq_getD_getElem?] at hq ⊢
        have : ed.on < listed.size := by rw [h.hsz]; exact hsz
        rw [Array.getElem?_eq_getElem this] at hq ⊢
        exact hq
      ·exact hl
     rw [hr] at hready; simp at hready
  exact least (x + 1) x (by omega) (by rw [hrem]; simp)
end Go.Am
