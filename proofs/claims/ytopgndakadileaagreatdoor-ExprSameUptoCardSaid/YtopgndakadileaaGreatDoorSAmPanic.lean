/- Calls that may panic, told: a value or a place that is wrong; the operation that panics. -/
import Derived.Test.YtopgndakadileaaGreatDoorSAmSeq
import Derived.Test.YtopgndakadileaaGreatDoorS12
import Derived.Test.YtopgndakadileaaGreatDoorSAmEdge
set_option linter.unusedVariables false
set_option linter.unusedSimpArgs false
namespace Go.Am
variable {P : Program}
/-- An answer, or a panic. -/
inductive PX (β α : Type) where
  | ok (a : α)
  | bad (b : β)
def callP {α β γ δ : Type} (x : Option (PX β α)) (g : β → δ) (f : α → Option (PX δ γ)) : Option (PX δ γ) := x.bind fun y => match y with | .ok y => f y | .bad b => some (.bad (g b))
theorem callP_some {α β γ δ : Type} {x : Option (PX β α)} {g : β → δ} {f : α → Option (PX δ γ)} {r : PX δ γ} (h : callP x g f = some r) : ∃ y, x = some y ∧ ((∃ z, y = .ok z ∧ f z = some r) ∨ ∃ b, y = .bad b ∧ r = .bad (g b)) := by
  unfold callP at h
  obtain ⟨y, hy, h⟩ := Option.bind_eq_some_iff.1 h
  cases y with
  | ok z => exact ⟨_, hy, .inl ⟨z, rfl, h⟩⟩
  | bad b => exact ⟨_, hy, .inr ⟨b, rfl, (Option.some.inj h).symm⟩⟩
/-- The panic's value: a place. -/
def wrongV (t : TypeId) (n : Int) : Value := .iface t (.agg #[.int .i64 n])
def GivesP1 {B R : Type} (P : Program) (f : FuncId) (a : Nat → List V) (pv : Int → Value) (r : PX (Int × B) R) (v : R → V) (X : List V × TypeId) (Xb : Int × B → List V × TypeId) (Xa : R → List V × TypeId) : Prop :=
  ∀ s b, s.box b = some X → ACallsP P f (a b) s (fun p s' => ∃ q, r = .bad q ∧ p = pv q.1 ∧ s' = s.setBox b (Xb q)) fun v' s' => ∃ y, r = .ok y ∧ v' = v y ∧ s' = s.setBox b (Xa y)
theorem givesP1_of {B R : Type} {f : FuncId} {a : Nat → List V} {pv : Int → Value} {r : PX (Int × B) R} {v : R → V} {X : List V × TypeId} {Xb : Int × B → List V × TypeId} {Xa : R → List V × TypeId}
    (h : ∀ (s : Heap) b (pp : Value → Heap → Prop), (∀ q, r = .bad q → pp (pv q.1) (s.setBox b (Xb q))) → ACallsP P f (a b) (s.setBox b X) pp fun v' s' => ∃ y, r = .ok y ∧ v' = v y ∧ s' = s.setBox b (Xa y)) : GivesP1 P f a pv r v X Xb Xa := fun s b hb => by
  have := h s b (fun p s' => ∃ q, r = .bad q ∧ p = pv q.1 ∧ s' = s.setBox b (Xb q)) (fun q hq => ⟨q, hq, rfl, rfl⟩)
  rwa [setBox_self hb] at this
/-- A call that may panic: its panic is let out, else on with its answer. -/
theorem goP {α β γ δ : Type} {x : Option (PX β α)} {g : β → δ} {k : α → Option (PX δ γ)} {r : PX δ γ} (h : callP x g k = some r) {f : FuncId} {args : List V} {s : Heap} {pv : β → Value} {ve : α → V} {S : β → Heap} {T : α → Heap} {PP : Value → Heap → Prop} {R : V → Heap → Prop}
    (hc : ∀ y, x = some y → ACallsP P f args s (fun p s' => ∃ q, y = .bad q ∧ p = pv q ∧ s' = S q) fun v' s' => ∃ z, y = .ok z ∧ v' = ve z ∧ s' = T z)
    (hb : ∀ q, r = .bad (g q) → ∃ s'', (S q).le s'' ∧ PP (pv q) s'') (hk : ∀ z, x = some (.ok z) → k z = some r → R (ve z) (T z)) : ACallsP P f args s PP R := by
  obtain ⟨y, hy, h⟩ := callP_some h
  refine (hc y hy).mono ?_ ?_
  · rintro _ _ ⟨q, rfl, rfl, rfl⟩
    rcases h with ⟨z, hz, _⟩ | ⟨b, hb', hr⟩
    · cases hz
    · cases hb'; exact hb q hr
  · rintro _ _ ⟨z, rfl, rfl, rfl⟩
    rcases h with ⟨z', hz, h⟩ | ⟨b, hb', hr⟩
    · cases hz; exact hk z hy h
    · cases hb'
/-- A call that hands back a box of its own. -/
theorem ACalls.goNew {f : FuncId} {args : List V} {s : Heap} {v : Nat → V} {X : List V × TypeId} {PP : Value → Heap → Prop} {R : V → Heap → Prop} (h : ACalls P f args s fun v' s' => ∃ b, s.box b = none ∧ v' = v b ∧ s' = s.setBox b X) (hr : ∀ b, s.box b = none → R (v b) (s.setBox b X)) : ACallsP P f args s PP R :=
  (h.mono fun v' s' ⟨b, hb, hv, hs⟩ => by rw [hv, hs]; exact hr b hb).toP
end Go.Am
