/- A range over a list's values: what a sequence yields, and its rounds told as a partial function. -/
import Derived.Test.YtdomhnkffghmlaaGreatDoorSAmSpec
import Derived.Test.YtdomhnkffghmlaaGreatDoorS11
import Derived.Test.YtdomhnkffghmlaaGreatDoorS12
set_option linter.unusedVariables false
set_option linter.unusedSimpArgs false
namespace Go.Am
variable {P : Program}
/-- Heap boxes. -/
theorem setBox_same {h : Heap} {b : Nat} {x : List V × TypeId} : (h.setBox b x).box b = some x := upd_same _ _ _
theorem setBox_ne {h : Heap} {b b' : Nat} {x : List V × TypeId} (hb : b' ≠ b) : (h.setBox b x).box b' = h.box b' := upd_other _ _ _ _ hb
theorem setBox_own {h : Heap} {b : Nat} {x : List V × TypeId} {g : Nat} : (h.setBox b x).own g = h.own g := rfl
theorem Heap.le.bx {a b : Heap} (h : a.le b) (k : Nat) (x : List V × TypeId) : (a.setBox k x).le (b.setBox k x) :=
 ⟨fun j => by
  by_cases e : j = k
  ·subst e; exact .inl (by rw [setBox_same, setBox_same])
  ·rw [setBox_ne e, setBox_ne e]; exact h.box j, h.own⟩
/-- A call that bears a box along. -/
def Gives1 (P : Program) (f : FuncId) (a : Nat → List V) (v : V) (X X' : List V × TypeId) : Prop := ∀ s b, s.box b = some X → ACalls P f (a b) s fun v' s' => v' = v ∧ s' = s.setBox b X'
def Gives2 (P : Program) (f : FuncId) (a : Nat → Nat → List V) (v : V) (X Y X' Y' : List V × TypeId) : Prop := ∀ s b c, b ≠ c → s.box b = some X → s.box c = some Y → ACalls P f (a b c) s fun v' s' => v' = v ∧ s' = (s.setBox b X').setBox c Y'
def WkLL : List (List V) → List (List V) → Prop
 | [], [] => True
 | c :: l, c' :: l' => WkL c c' ∧ WkLL l l'
 | _, _ => False
theorem WkL.len : ∀ {l l' : List V}, WkL l l' → l.length = l'.length
 | [], [], _ => rfl
 | [], _ :: _, h => h.elim
 | _ :: _, [], h => h.elim
 | _ :: l, _ :: l', h => by simp [WkL.len h.2]
theorem WkL.get : ∀ {l l' : List V}, WkL l l' → ∀ {j : Nat} {c' : V}, l'[j]? = some c' → ∃ c, l[j]? = some c ∧ Wk c c'
 | [], [], _, j, c', e => by simp at e
 | [], _ :: _, h, _, _, _ => h.elim
 | _ :: _, [], h, _, _, _ => h.elim
 | x :: l, x' :: l', h, 0, c', e => by simp at e; subst e; exact ⟨x, rfl, h.1⟩
 | x :: l, x' :: l', h, j + 1, c', e => by simpa using WkL.get h.2 (by simpa using e)
theorem WkLL.len : ∀ {l l' : List (List V)}, WkLL l l' → l.length = l'.length
 | [], [], _ => rfl
 | [], _ :: _, h => h.elim
 | _ :: _, [], h => h.elim
 | _ :: l, _ :: l', h => by simp [WkLL.len h.2]
theorem WkLL.get : ∀ {l l' : List (List V)}, WkLL l l' → ∀ {j : Nat} {c' : List V}, l'[j]? = some c' → ∃ c, l[j]? = some c ∧ WkL c c'
 | [], [], _, j, c', e => by simp at e
 | [], _ :: _, h, _, _, _ => h.elim
 | _ :: _, [], h, _, _, _ => h.elim
 | x :: l, x' :: l', h, 0, c', e => by simp at e; subst e; exact ⟨x, rfl, h.1⟩
 | x :: l, x' :: l', h, j + 1, c', e => by simpa using WkLL.get h.2 (by simpa using e)
theorem Wk.slice {sz : Nat} {es es' : List (List V)} (h : WkLL es es') : Wk (.slice sz es) (.slice sz es') := fun G v hv => by
 have hl := h.len
 cases hv with
 | slice0 _ a cap =>
  obtain rfl : es' = [] := List.eq_nil_of_length_eq_zero (by simpa using hl.symm)
  exact .slice0 sz a cap
 | slice _ _ b o cap cells h1 h2 h3 h4 h5 h6 =>
  rw [hl]
  refine .slice sz es' b o cap cells (fun cs hcs => ?_) (by omega) h3 (fun k hk => h4 k (by rw [hl]; exact hk)) (fun i j cs c hi hj => ?_) (fun k hk => h6 k (by rw [hl]; exact hk))
  ·obtain ⟨i, hi, e⟩ := List.mem_iff_getElem.1 hcs
   obtain ⟨c, hc, hw⟩ := h.get (List.getElem?_eq_some_iff.2 ⟨hi, e⟩)
   rw [← hw.len]
   exact h1 c (List.mem_of_getElem? hc)
  ·obtain ⟨c0, hc0, hw⟩ := h.get hi
   obtain ⟨d, hd, hwd⟩ := hw.get hj
   exact hwd G _ (h5 i j c0 d hc0 hd)
/-- Some of the keys, in whatever order. -/
theorem Fr.sub {s : Heap} {l l' : List (Nat × (TypeId × Nat))} (h : Fr s (l.map Prod.fst)) (hs : ∀ x ∈ l', x ∈ l) (hn : (l'.map Prod.fst).Nodup) : Fr s (l'.map Prod.fst) ∧ (owns s l).le (owns s l') := by
 have hf : Fr s (l'.map Prod.fst) := ⟨fun g hg => by
  obtain ⟨x, hx, rfl⟩ := List.mem_map.1 hg
  exact h.1 _ (List.mem_map.2 ⟨x, hs x hx, rfl⟩), hn⟩
 refine ⟨hf, ⟨fun k => .inl (by rw [owns_box, owns_box]), fun k => ?_⟩⟩
 by_cases e : k ∈ l'.map Prod.fst
 ·obtain ⟨⟨k', x⟩, hx, e'⟩ := List.mem_map.1 e
  simp only at e'; subst e'
  exact .inl (by rw [owns_at l' s hn hx, owns_at l s h.2 (hs _ hx)])
 ·rw [owns_out l' s e]
  by_cases e2 : k ∈ l.map Prod.fst
  ·exact .inr (h.1 k e2)
  ·exact .inl (owns_out l s e2).symm
theorem wrap_id {n : Int} (h1 : -2^63 ≤ n) (h2 : n < 2^63) : IntKind.i64.wrap n = n := by
 simp only [IntKind.wrap, IntKind.bits, IntKind.signed]; simp; omega
end Go.Am
