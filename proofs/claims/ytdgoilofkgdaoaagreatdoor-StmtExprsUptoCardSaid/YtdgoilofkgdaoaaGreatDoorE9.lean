/- A literal slice that is the call's own: it may grow. -/
import Derived.Test.YtdgoilofkgdaoaaGreatDoorEAmSpec
import Derived.Test.YtdgoilofkgdaoaaGreatDoorEAmYield
import Derived.Scope
set_option linter.unusedVariables false
set_option linter.unusedSimpArgs false
namespace Go.Am
variable {P : Program}
theorem foot_lt' {G : Ghost} {s : Heap} {w : World} (h : HRel G s w) {b : Nat} (hf : foot G s b) : b < w.heap.size := by
 rcases hf with hf | ⟨g, x, v, k1, k2, k3⟩
 ·cases hx : s.box b with
  | none => exact absurd hx hf
  | some y =>
   obtain ⟨cs, ty⟩ := y
   obtain ⟨ccs, e, _⟩ := h.box b cs ty hx
   exact (Array.getElem?_eq_some_iff.1 e).1
 ·obtain ⟨e, sz⟩ := x
  obtain ⟨v', hv, ho⟩ := h.own g e sz k1
  rw [k2] at hv; cases hv
  rcases ho with ⟨a, rfl⟩ | ⟨b', n, cap, cur, rfl, hb, _⟩
  ·cases a <;> simp [blk] at k3
  ·simp [blk] at k3
   rw [← k3]; exact (Array.getElem?_eq_some_iff.1 hb).1
theorem ARel.claimV {n0 : Base} {G G1 : Ghost} {be : Nat → Option Nat} {st : St} {a : Act} {w w1 : World} (hr : ARel n0 G1 be st a w1) (hx : Ext G st.s w G1 st.s w1) (x : TypeId × Nat) (v : Value) (hown : OwnOk G1 w1 x.1 x.2 v)
  (hb : ∀ b, blk v = some b → w.heap.size ≤ b) (hfr : ∀ b, blk v = some b → ¬ foot G1 st.s b) (hloc : ∀ t b, st.loc t ≠ none → be t = some b → blk v ≠ some b) :
  ∃ G' g, st.s.own g = none ∧ G'.om g = some v ∧ G1.Le G' ∧ Ext G st.s w G' (st.s.setOwn g (some x)) w1 ∧ ARel n0 G' be { st with s := st.s.setOwn g (some x) } a w1 := by
 obtain ⟨N, hN⟩ := hr.hr.fin
 obtain ⟨hNo, hNs⟩ := hN N (Nat.le_refl _)
 have hle : G1.Le { G1 with om := upd G1.om N (some v) } := ⟨fun _ _ _ h => h, fun g' u hu => by
  have : g' ≠ N := fun e => by subst e; rw [hNo] at hu; cases hu
  simpa [upd, this] using hu, fun _ _ hx => hx⟩
 have old : ∀ g x' v', (st.s.setOwn N (some x)).own g = some x' → upd G1.om N (some v) g = some v' → (g = N ∧ v' = v) ∨ (g ≠ N ∧ st.s.own g = some x' ∧ G1.om g = some v') := fun g x' v' k1 k2 => by
  by_cases e : g = N
  ·subst e
   rw [upd_same] at k2
   cases k2
   exact .inl ⟨rfl, rfl⟩
  ·simp only [Heap.setOwn, upd_other _ _ _ _ e] at k1 k2
   exact .inr ⟨e, k1, k2⟩
 have hfoot : ∀ b, foot { G1 with om := upd G1.om N (some v) } (st.s.setOwn N (some x)) b → foot G1 st.s b ∨ blk v = some b := fun b hf => by
  rcases hf with hf | ⟨g, x', v', k1, k2, k3⟩
  ·exact .inl (.inl hf)
  ·rcases old g x' v' k1 k2 with ⟨_, rfl⟩ | ⟨_, j1, j2⟩
   ·exact .inr k3
   ·exact .inl (.inr ⟨g, x', v', j1, j2, k3⟩)
 have hNG : G.om N = none := by
  cases hq : G.om N with
  | none => rfl
  | some u => have := hx.le.o N u hq; rw [hNo] at this; cases this
 refine ⟨{ G1 with om := upd G1.om N (some v) }, N, hNs, upd_same _ _ _, hle, ⟨hx.le.trans hle, hx.size, hx.os, hx.tape, hx.output, hx.keep, fun b hf => ?_, hx.frz, fun g hg => ?_⟩, ?_⟩
 ·rcases hfoot b hf with k | k
  ·exact hx.foot b k
  ·exact .inr (hb b k)
 ·by_cases e : g = N
  ·exact .inr (e ▸ hNG)
  ·simp only [Heap.setOwn, upd_other _ _ _ _ e] at hg; exact hx.keys g hg
 ·have h := hr.hr
  refine ⟨⟨h.frz, fun b cs ty hbx => ?_, fun g e sz hg => ?_, fun g g' y y' u u' b k1 k2 k3 k4 k5 k6 => ?_, fun g y u b k1 k2 k3 => ?_, ⟨N + 1, fun g hg => ?_⟩, h.ob, h.tab, h.siz⟩, hr.n, hr.df.mono hle, fun t => (hr.tmps t).mono hle, fun t cs ty ht => ?_, hr.inj⟩
  ·obtain ⟨ccs, k1, k2, k3⟩ := h.box b cs ty hbx
   exact ⟨ccs, k1, k2.mono hle, k3⟩
  ·by_cases e' : g = N
   ·subst e'
    simp only [Heap.setOwn, upd_same, Option.some.injEq] at hg
    subst hg
    exact ⟨v, upd_same _ _ _, hown⟩
   ·simp only [Heap.setOwn, upd_other _ _ _ _ e'] at hg
    obtain ⟨u, hu, ho⟩ := h.own g e sz hg
    exact ⟨u, hle.o g u hu, ho⟩
  ·rcases old g y u k1 k3 with ⟨e1, rfl⟩ | ⟨e1, j1, j2⟩
   ·rcases old g' y' u' k2 k4 with ⟨e2, rfl⟩ | ⟨e2, j3, j4⟩
    ·rw [e1, e2]
    ·exact absurd (.inr ⟨g', y', u', j3, j4, k6⟩) (hfr b k5)
   ·rcases old g' y' u' k2 k4 with ⟨e2, rfl⟩ | ⟨e2, j3, j4⟩
    ·exact absurd (.inr ⟨g, y, u, j1, j2, k5⟩) (hfr b k6)
    ·exact h.sep g g' y y' u u' b j1 j3 j2 j4 k5 k6
  ·rcases old g y u k1 k2 with ⟨e1, rfl⟩ | ⟨e1, j1, j2⟩
   ·cases hq : st.s.box b with
    | none => exact hq
    | some z => exact absurd (.inl (by rw [hq]; simp)) (hfr b k3)
   ·exact h.nobox g y u b j1 j2 k3
  ·have e : g ≠ N := by omega
   simp only [Heap.setOwn, upd_other _ _ _ _ e]
   exact hN g (by omega)
  ·obtain ⟨b, k1, k2, ⟨ccs, k3, k4, k5⟩, k6, k7⟩ := hr.loc t cs ty ht
   refine ⟨b, k1, k2, ⟨ccs, k3, k4.mono hle, k5⟩, k6, fun hf => ?_⟩
   rcases hfoot b hf with k | k
   ·exact k7 k
   ·exact hloc t b (by rw [ht]; simp) k1 k
end Go.Am
namespace Go.Am
variable {P : Program}
def scopeQ (Q : Exit → St → Prop) : Exit → St → Prop
 | .goto _, _ => False
 | e, st => Q e st
theorem AWp.scope {c : Code} {Q : Exit → St → Prop} {st : St} (h : AWp P c (scopeQ Q) st) : AWp P (.scope c) Q st := fun e a w hin =>
 wp_scope_straight (wp_mono (h e a w hin) fun x a' w' h => by
  rcases h with ⟨st', h1, h2⟩ | hp
  ·cases x <;> first | exact .inl ⟨st', h1, h2⟩ | exact h1.elim
  ·cases x <;> first | exact hp.goto.elim | exact .inr hp)
theorem YieldOk.wk {lo : Ghost} {l : Nat} {args args' : List V} {s : Heap} {R : V → Heap → Prop} (hw : WkL args args') (h : YieldOk P lo l args' s R) : YieldOk P lo l args s R :=
 fun G w cargs h1 h2 h3 => h G w cargs h1 h2 (hw.rep h3)
end Go.Am
