/- A region whose order is open, by layers: one state for each set of operations done. -/
import Derived.Test.YtdomhnkffghmlaaGreatDoorS22
set_option linter.unusedVariables false
set_option linter.unusedSimpArgs false
namespace Go.Ev
noncomputable section
open Go.Am
variable {P : Program}
def Hd.q (a b : Hd) : Bool := Nat.beq a.k b.k && EV.q a.c b.c && Nat.beq a.ty b.ty && Nat.beq a.off b.off && Nat.beq a.n b.n && (bif a.ag then b.ag else !b.ag)
theorem Hd.q_eq {a b : Hd} (h : Hd.q a b = true) : a = b := by
 unfold Hd.q at h
 simp only [Bool.and_eq_true] at h
 obtain ⟨⟨⟨⟨⟨h1, h2⟩, h3⟩, h4⟩, h5⟩, h6⟩ := h
 have e1 := Nat.eq_of_beq_eq_true h1
 have e2 := EV.q_eq h2
 have e3 := Nat.eq_of_beq_eq_true h3
 have e4 := Nat.eq_of_beq_eq_true h4
 have e5 := Nat.eq_of_beq_eq_true h5
 obtain ⟨k, off, ag, n, c, ty⟩ := a
 obtain ⟨k', off', ag', n', c', ty'⟩ := b
 simp only at e1 e2 e3 e4 e5 h6
 subst e1; subst e2; subst e3; subst e4; subst e5
 cases ag <;> cases ag' <;> first | rfl | (cases h6)
def hq : List Hd → List Hd → Bool
 | [], [] => true
 | x :: l, y :: m => Hd.q x y && hq l m
 | _, _ => false
theorem hq_eq : ∀ {x y : List Hd}, hq x y = true → x = y
 | [], [], _ => rfl
 | x :: l, y :: m, h => by
  simp only [hq, Bool.and_eq_true] at h
  rw [Hd.q_eq h.1, hq_eq h.2]
 | [], _ :: _, h => by cases h
 | _ :: _, [], h => by cases h
def bq : List Bool → List Bool → Bool
 | [], [] => true
 | true :: l, true :: m => bq l m
 | false :: l, false :: m => bq l m
 | _, _ => false
theorem bq_eq : ∀ {x y : List Bool}, bq x y = true → x = y
 | [], [], _ => rfl
 | true :: l, true :: m, h => congrArg (List.cons true) (bq_eq (x := l) (y := m) h)
 | false :: l, false :: m, h => congrArg (List.cons false) (bq_eq (x := l) (y := m) h)
 | true :: _, false :: _, h => by cases h
 | false :: _, true :: _, h => by cases h
 | [], _ :: _, h => by cases h
 | b :: _, [], h => by cases b <;> cases h
/-- A member of a layer. -/
abbrev M := Array Bool × List Hd × S
def M.q (a b : M) : Bool := bq a.1.toList b.1.toList && hq a.2.1 b.2.1 && S.q a.2.2 b.2.2
theorem M.q_eq {a b : M} (h : M.q a b = true) : a = b := by
 unfold M.q at h
 simp only [Bool.and_eq_true] at h
 obtain ⟨a1, a2, a3⟩ := a
 obtain ⟨b1, b2, b3⟩ := b
 have e1 : a1 = b1 := Array.toList_inj.1 (bq_eq h.1.1)
 have e2 := hq_eq h.1.2
 have e3 := S.q_eq h.2
 simp only at e2 e3
 rw [e1, e2, e3]
def hasM (x : M) : List M → Bool
 | [] => false
 | y :: l => bif M.q y x then true else hasM x l
theorem hasM_mem {x : M} : ∀ {l : List M}, hasM x l = true → x ∈ l
 | [], h => by cases h
 | y :: l, h => by
  simp only [hasM] at h
  cases hq : M.q y x with
  | true => rw [M.q_eq hq]; simp
  | false => rw [hq] at h; exact List.mem_cons_of_mem _ (hasM_mem h)
def insM (x : M) (l : List M) : List M := bif hasM x l then l else x :: l
theorem insM_mem {x y : M} {l : List M} (h : y = x ∨ y ∈ l) : y ∈ insM x l := by
 unfold insM
 cases hx : hasM x l with
 | true => rcases h with rfl | h; exact hasM_mem hx; exact h
 | false => rcases h with rfl | h; simp; exact List.mem_cons_of_mem _ h
/-- What each of some operations makes of a member. -/
def brM (f : Nat → Option S) (listed : Array Bool) (L : List Hd) (fl : Array Bool → Nat → Array Bool) : List Nat → List M → Option (List M)
 | [], acc => some acc
 | i :: r, acc => match f i with
  | some s => brM f listed L fl r (insM (fl listed i, L, s) acc)
  | none => none
theorem brM_spec {f : Nat → Option S} {listed : Array Bool} {L : List Hd} {fl : Array Bool → Nat → Array Bool} : ∀ {l : List Nat} {acc res : List M}, brM f listed L fl l acc = some res → (∀ m ∈ acc, m ∈ res) ∧ ∀ i ∈ l, ∃ s, f i = some s ∧ (fl listed i, L, s) ∈ res
 | [], acc, res, h => by cases h; exact ⟨fun m h => h, fun i h => by cases h⟩
 | i :: r, acc, res, h => by
  simp only [brM] at h
  split at h
  ·rename_i s hs
   obtain ⟨h1, h2⟩ := brM_spec h
   refine ⟨fun m hm => h1 m (insM_mem (.inr hm)), fun j hj => ?_⟩
   rcases List.mem_cons.1 hj with rfl | hj
   ·exact ⟨s, hs, h1 _ (insM_mem (.inl rfl))⟩
   ·exact h2 j hj
  ·cases h
theorem brE_all {f : Nat → Option S} {s : S} (hq : S.q s s = true) : ∀ {l : List Nat}, l ≠ [] → (∀ i ∈ l, f i = some s) → brE f l = some s
 | [], h, _ => absurd rfl h
 | [i], _, h => h i (by simp)
 | i :: k :: r, _, h => by
  simp only [brE, h i (by simp), brE_all hq (by simp) (fun j hj => h j (List.mem_cons_of_mem _ hj)), hq, cond_true]
/-- All that a member's next operation may leave. -/
def sucE (P : Program) (call : CallF) (g n k0 : Nat) (all : Array Oper) (m : M) (acc : List M) : Option (List M) :=
 match Region.ready .any all m.1 with
 | [] => none
 | rs => match pickE2 (quickE P n all m.1 m.2.2) rs with
  | some (i, o, c) => some (insM (m.1.setIfInBounds i true, m.2.1, m.2.2.put o.dst c) acc)
  | none => match pickE2 (quickL P n all m.1 m.2.2) rs with
   | some (i, o, c, x) => some (insM (m.1.setIfInBounds i true, x :: m.2.1, m.2.2.put o.dst c) acc)
   | none => brM (fun i => match all[i]? with
     | some o => match stepE P call n (k0 + i) all o (m.2.2.setK (k0 + all.size + i * g)) with
      | some s' => bif heldE s'.H m.2.1 then some (s'.setK (k0 + all.size + all.size * g)) else none
      | none => none
     | none => none) m.1 m.2.1 (fun l i => l.setIfInBounds i true) rs acc
def sucL (P : Program) (call : CallF) (g n k0 : Nat) (all : Array Oper) : List M → List M → Option (List M)
 | [], acc => some acc
 | m :: l, acc => match sucE P call g n k0 all m acc with
  | some acc' => sucL P call g n k0 all l acc'
  | none => none
/-- The last layer: one state. -/
def finE (all : Array Oper) (s : S) : List M → Bool
 | [] => true
 | m :: l => (match Region.ready .any all m.1 with | [] => true | _ => false) && S.q m.2.2 s && finE all s l
def layE (P : Program) (call : CallF) (g n k0 : Nat) (all : Array Oper) : Nat → List M → Option S
 | 0, ls => match ls with
  | [] => none
  | m :: _ => bif S.q m.2.2 m.2.2 && finE all m.2.2 ls then some m.2.2 else none
 | fuel + 1, ls => match ls with
  | [] => none
  | m :: _ => match Region.ready .any all m.1 with
   | [] => bif S.q m.2.2 m.2.2 && finE all m.2.2 ls then some m.2.2 else none
   | _ => match sucL P call g n k0 all ls [] with
    | some nx => layE P call g n k0 all fuel nx
    | none => none
theorem finE_spec {all : Array Oper} {s : S} : ∀ {ls : List M}, finE all s ls = true → ∀ m ∈ ls, Region.ready .any all m.1 = [] ∧ m.2.2 = s
 | [], _, m, hm => by cases hm
 | x :: l, h, m, hm => by
  simp only [finE, Bool.and_eq_true] at h
  rcases List.mem_cons.1 hm with rfl | hm
  ·refine ⟨?_, S.q_eq h.1.2⟩
   have := h.1.1
   split at this
   ·assumption
   ·cases this
  ·exact finE_spec h.2 m hm
theorem any_fin {call : CallF} {g n k0 : Nat} {all : Array Oper} {s : S} {m : M} (hr : Region.ready .any all m.1 = []) (hs : m.2.2 = s) (fuel : Nat) : anyE P call g n k0 all fuel m.1 m.2.1 m.2.2 = some s := by
 cases fuel <;> simp only [anyE, hr, hs]
theorem layE_q {call : CallF} {g n k0 : Nat} {all : Array Oper} {s : S} : ∀ {fuel : Nat} {ls : List M}, layE P call g n k0 all fuel ls = some s → S.q s s = true
 | 0, [], h => by cases h
 | 0, m :: l, h => by
  simp only [layE] at h
  cases hc : (S.q m.2.2 m.2.2 && finE all m.2.2 (m :: l)) with
  | false => rw [hc] at h; cases h
  | true => rw [hc] at h; cases h; simp only [Bool.and_eq_true] at hc; exact hc.1
 | fuel + 1, [], h => by cases h
 | fuel + 1, m :: l, h => by
  simp only [layE] at h
  split at h
  ·cases hc : (S.q m.2.2 m.2.2 && finE all m.2.2 (m :: l)) with
   | false => rw [hc] at h; cases h
   | true => rw [hc] at h; cases h; simp only [Bool.and_eq_true] at hc; exact hc.1
  ·split at h
   ·exact layE_q h
   ·cases h
theorem sucE_spec {call : CallF} {g n k0 : Nat} {all : Array Oper} {m : M} {acc acc' : List M} (h : sucE P call g n k0 all m acc = some acc') : (∀ x ∈ acc, x ∈ acc') ∧
  ∀ (fuel : Nat) (s' : S), S.q s' s' = true → (∀ x ∈ acc', anyE P call g n k0 all fuel x.1 x.2.1 x.2.2 = some s') → anyE P call g n k0 all (fuel + 1) m.1 m.2.1 m.2.2 = some s' := by
 unfold sucE at h
 cases hr : Region.ready .any all m.1 with
 | nil => rw [hr] at h; cases h
 | cons j rs =>
  rw [hr] at h
  simp only at h
  cases h1 : pickE2 (quickE P n all m.1 m.2.2) (j :: rs) with
  | some x =>
   obtain ⟨i, o, c⟩ := x
   rw [h1] at h
   cases h
   refine ⟨fun x hx => insM_mem (.inr hx), fun fuel s' hq hall => ?_⟩
   simp only [anyE, hr, h1]
   exact hall _ (insM_mem (.inl rfl))
  | none =>
   rw [h1] at h
   simp only at h
   cases h2 : pickE2 (quickL P n all m.1 m.2.2) (j :: rs) with
   | some x =>
    obtain ⟨i, o, c, x⟩ := x
    rw [h2] at h
    cases h
    refine ⟨fun x hx => insM_mem (.inr hx), fun fuel s' hq hall => ?_⟩
    simp only [anyE, hr, h1, h2]
    exact hall _ (insM_mem (.inl rfl))
   | none =>
    rw [h2] at h
    simp only at h
    obtain ⟨k1, k2⟩ := brM_spec h
    refine ⟨k1, fun fuel s' hq hall => ?_⟩
    simp only [anyE, hr, h1, h2]
    refine brE_all hq (by simp) fun i hi => ?_
    obtain ⟨s1, e1, e2⟩ := k2 i hi
    have e3 := hall _ e2
    simp only at e3
    cases ha : all[i]? with
    | none => rw [ha] at e1; cases e1
    | some o =>
     rw [ha] at e1
     simp only at e1 ⊢
     cases hs : stepE P call n (k0 + i) all o (m.2.2.setK (k0 + all.size + i * g)) with
     | none => rw [hs] at e1; cases e1
     | some s2 =>
      rw [hs] at e1
      simp only at e1 ⊢
      cases hh : heldE s2.H m.2.1 with
      | false => rw [hh] at e1; cases e1
      | true =>
       rw [hh] at e1
       simp only [cond_true] at e1 ⊢
       cases e1
       exact e3
theorem sucL_spec {call : CallF} {g n k0 : Nat} {all : Array Oper} : ∀ {ls acc nx : List M}, sucL P call g n k0 all ls acc = some nx → (∀ x ∈ acc, x ∈ nx) ∧
  ∀ (fuel : Nat) (s' : S), S.q s' s' = true → (∀ x ∈ nx, anyE P call g n k0 all fuel x.1 x.2.1 x.2.2 = some s') → ∀ m ∈ ls, anyE P call g n k0 all (fuel + 1) m.1 m.2.1 m.2.2 = some s'
 | [], acc, nx, h => by cases h; exact ⟨fun x h => h, fun fuel s' _ _ m hm => by cases hm⟩
 | m :: l, acc, nx, h => by
  simp only [sucL] at h
  cases hs : sucE P call g n k0 all m acc with
  | none => rw [hs] at h; cases h
  | some acc' =>
   rw [hs] at h
   obtain ⟨a1, a2⟩ := sucE_spec hs
   obtain ⟨b1, b2⟩ := sucL_spec h
   refine ⟨fun x hx => b1 x (a1 x hx), fun fuel s' hq hall k hk => ?_⟩
   rcases List.mem_cons.1 hk with rfl | hk
   ·exact a2 fuel s' hq fun x hx => hall x (b1 x hx)
   ·exact b2 fuel s' hq hall k hk
/-- **Layers speak for all orders.** -/
theorem lay_any {call : CallF} {g n k0 : Nat} {all : Array Oper} {s : S} : ∀ {fuel : Nat} {ls : List M}, layE P call g n k0 all fuel ls = some s → ∀ m ∈ ls, anyE P call g n k0 all fuel m.1 m.2.1 m.2.2 = some s
 | 0, [], h, m, hm => by cases hm
 | 0, x :: l, h, m, hm => by
  simp only [layE] at h
  cases hc : (S.q x.2.2 x.2.2 && finE all x.2.2 (x :: l)) with
  | false => rw [hc] at h; cases h
  | true =>
   rw [hc] at h; cases h
   simp only [Bool.and_eq_true] at hc
   obtain ⟨h1, h2⟩ := finE_spec hc.2 m hm
   exact any_fin h1 h2 0
 | fuel + 1, [], h, m, hm => by cases hm
 | fuel + 1, x :: l, h, m, hm => by
  have hq := layE_q h
  simp only [layE] at h
  split at h
  ·cases hc : (S.q x.2.2 x.2.2 && finE all x.2.2 (x :: l)) with
   | false => rw [hc] at h; cases h
   | true =>
    rw [hc] at h; cases h
    simp only [Bool.and_eq_true] at hc
    obtain ⟨h1, h2⟩ := finE_spec hc.2 m hm
    exact any_fin h1 h2 _
  ·cases hs : sucL P call g n k0 all (x :: l) [] with
   | none => rw [hs] at h; cases h
   | some nx =>
    rw [hs] at h
    exact (sucL_spec hs).2 fuel s hq (lay_any h) m hm
end
end Go.Ev
