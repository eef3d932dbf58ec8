/- Small facts for walks over lists: loops' counters, slices that grow. -/
import Derived.Test.YtcckhbconihagaaGreatDoorVPlTy
import Derived.Test.YtcckhbconihagaaGreatDoorVPlData
set_option linter.unusedSimpArgs false
set_option linter.unusedVariables false
namespace Go.Proofs.YtcckhbconihagaaGreatDoor
open Go.Am Go.Pl
theorem wrap_id {n : Int} (h1 : -2^63 ≤ n) (h2 : n < 2^63) : IntKind.i64.wrap n = n := by
 simp only [IntKind.wrap, IntKind.bits, IntKind.signed]; simp; omega
theorem getD_map {α : Type} (f : α → List V) (l : List α) (i : Nat) (h : i < l.length) : (l.map f).getD (i : Int).toNat [] = f l[i] := by
 simp [List.getD_eq_getElem?_getD, h]
theorem own_same (s : Heap) (g : Nat) (x : Option (TypeId × Nat)) : (s.setOwn g x).own g = x := upd_same _ _ _
theorem own_fresh {s : Heap} {g g' : Nat} {x : TypeId × Nat} (h : (s.setOwn g (some x)).own g' = none) : s.own g' = none := by
 by_cases e : g' = g
 ·subst e; rw [own_same] at h; cases h
 ·simpa only [Heap.setOwn, upd_other _ _ _ _ e] using h
theorem own_step {s : Heap} {g : Nat} (hg : s.own g = none) (g' : Nat) (x y : Option (TypeId × Nat)) : (((s.setOwn g x).setOwn g none).setOwn g' y).le (s.setOwn g' y) := by
 refine ⟨fun b => .inl rfl, fun k => .inl ?_⟩
 simp only [Heap.setOwn]
 by_cases e : k = g'
 ·subst e; simp only [upd_same]
 ·simp only [upd_other _ _ _ _ e]
  by_cases e2 : k = g
  ·subst e2; rw [upd_same, hg]
  ·simp only [upd_other _ _ _ _ e2]
theorem own_drop {s : Heap} {g : Nat} (hg : s.own g = none) (x : Option (TypeId × Nat)) : (s.setOwn g x).le s := (Heap.le.refl s).setOwn hg x
theorem own_ne {s : Heap} {g g' : Nat} {x : TypeId × Nat} (h : (s.setOwn g (some x)).own g' = none) : g' ≠ g := fun e => by subst e; rw [own_same] at h; cases h
theorem own_under {s : Heap} {g g' : Nat} {x : TypeId × Nat} (h : (s.setOwn g (some x)).own g' = none) (y : Option (TypeId × Nat)) : ((s.setOwn g (some x)).setOwn g' y).own g = some x := by
 have := own_ne h
 simp only [Heap.setOwn, upd_other _ _ _ _ this.symm, upd_same]
/-- The outer slice grows; the inner one is let go. -/
theorem own_step2 {s : Heap} {g g2 : Nat} {x : TypeId × Nat} (hg : s.own g = none) (hg2 : (s.setOwn g (some x)).own g2 = none) (g' : Nat) (y z : Option (TypeId × Nat)) : ((((s.setOwn g (some x)).setOwn g2 z).setOwn g none).setOwn g' y).le (s.setOwn g' y) := by
 have h2 := own_fresh hg2
 refine ⟨fun b => .inl rfl, fun k => ?_⟩
 simp only [Heap.setOwn]
 by_cases e : k = g'
 ·subst e; exact .inl (by simp only [upd_same])
 ·simp only [upd_other _ _ _ _ e]
  by_cases e2 : k = g
  ·subst e2; exact .inl (by rw [upd_same, hg])
  ·simp only [upd_other _ _ _ _ e2]
   by_cases e3 : k = g2
   ·subst e3; exact .inr h2
   ·exact .inl (by simp only [upd_other _ _ _ _ e3, upd_other _ _ _ _ e2])
theorem mixed : Tryz.prog.follows .mixedOrders = true := by kernel_rfl
/-- What a loop's counter tells. -/
theorem lt_of_dec {i n : Nat} (h : decide ((i : Int) < n) = true) : i < n := by simpa using h
theorem eq_of_dec {i n : Nat} (h : decide ((i : Int) < n) = false) (hi : i ≤ n) : i = n := by
 have : ¬ i < n := by simpa using h
 omega
theorem bytes_beq {a b : ByteArray} : (a.toList == b.toList) = true ↔ a = b := by
 rw [beq_iff_eq, ByteArray.toList_eq, ByteArray.toList_eq]
 refine ⟨fun h => ?_, fun h => by rw [h]⟩
 cases a; cases b; rw [Array.toList_inj] at h; exact congrArg ByteArray.mk h
theorem bytes_eq {a b : ByteArray} : a.toList = b.toList ↔ a = b := by rw [← bytes_beq, beq_iff_eq]
/-- Are two things the same? -/
noncomputable def same {α : Type} (a b : α) : Bool := @decide (a = b) (Classical.propDecidable _)
theorem same_iff {α : Type} {a b : α} : same a b = true ↔ a = b := by unfold same; simp
theorem same_false {α : Type} {a b : α} : same a b = false ↔ a ≠ b := by unfold same; simp
theorem maxLen_lt : maxLen < 2 ^ 63 := by unfold maxLen; omega
theorem take_succ_eq {α : Type} {la lb : List α} {i : Nat} (h : la.take i = lb.take i) (h1 : i < la.length) (h2 : i < lb.length) (he : la[i] = lb[i]) : la.take (i + 1) = lb.take (i + 1) := by
 rw [List.take_succ_eq_append_getElem h1, List.take_succ_eq_append_getElem h2, h, he]
theorem same_of_imp {α : Type} {a b : α} {c : Bool} (h1 : a = b → c = true) (hc : c = false) : same a b = false := same_false.2 fun e => by rw [h1 e] at hc; cases hc
theorem same_self {α : Type} (a : α) : same a a = true := same_iff.2 rfl
theorem same_eq_of {α β : Type} {a b : α} {x y : β} (h : a = b ↔ x = y) : same a b = same x y := by
 by_cases e : a = b
 ·rw [same_iff.2 e, same_iff.2 (h.1 e)]
 ·rw [same_false.2 e, same_false.2 fun e' => e (h.2 e')]
theorem teq44 : eqTy Tryz.prog 44 = some [1, 1, 2] := by kernel_rfl
theorem teq118 : eqTy Tryz.prog 118 = some [1, 1, 0] := by kernel_rfl
end Go.Proofs.YtcckhbconihagaaGreatDoor
