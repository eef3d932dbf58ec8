/- What a call leaves of the keys that it does not see; a box whose cells turn no more. -/
import Derived.Test.YtcckhbconihagaaGreatDoorVAmMore
set_option linter.unusedVariables false
set_option linter.unusedSimpArgs false
namespace Go.Am
variable {P : Program}
theorem setOwn_le {s : Heap} {g : Nat} {x : TypeId × Nat} (hg : s.own g = none) : (s.setOwn g (some x)).le s :=
 ⟨fun b => .inl rfl, fun g' => by
  by_cases e : g' = g
  ·subst e; exact .inr hg
  ·exact .inl (by simp [Heap.setOwn, upd, e])⟩
/-- Of a slice of nothing its value is one of these. -/
theorem ACalls.empty {f : FuncId} {sz : Nat} {s : Heap} {R : V → Heap → Prop} (h : ∀ a cap, ACalls P f [.base (.slice a 0 cap)] s R) : ACalls P f [.slice sz []] s R :=
 ⟨(h none 0).1, fun G w cargs hh ha => by
  obtain ⟨v, vs, e, hv, hr⟩ := ha.uncons
  have e2 := hr.nil_inv
  subst e2
  obtain ⟨a, cap, rfl⟩ : ∃ a cap, v = .slice a 0 cap := by cases hv <;> exact ⟨_, _, rfl⟩
  exact (h a cap).2 G w cargs hh (by rw [e]; exact RepL.cons (Rep.base _) (RepL.nil G))⟩
/-- A call keeps a slice that may grow and that it does not see. -/
theorem ACalls.frame1 {f : FuncId} {args : List V} {s : Heap} {R : V → Heap → Prop} {g : Nat} (x : TypeId × Nat) (hg : s.own g = none) (h : ACalls P f args s R) :
  ACalls P f args (s.setOwn g (some x)) fun v s'' => ∃ s', R v s' ∧ s'.own g = none ∧ s'' = s'.setOwn g (some x) := by
 refine ⟨h.1, fun G w cargs hh ha => ?_⟩
 have hle := setOwn_le (x := x) hg
 refine (h.2 G w cargs (hh.weaken hle) ha).mono ?_
 rintro e w' ⟨G', s', v, cv, rfl, hv, hx, hh', hR⟩
 obtain ⟨ee, sz⟩ := x
 have hsame : (s.setOwn g (some (ee, sz))).own g = some (ee, sz) := upd_same _ _ _
 obtain ⟨vo, ho1, ho2⟩ := hh.own g ee sz hsame
 have hk : s'.own g = none := by
  cases hq : s'.own g with
  | none => rfl
  | some y =>
   rcases hx.keys g (by rw [hq]; simp) with k | k
   ·exact absurd hg k
   ·rw [ho1] at k; cases k
 have ho1' := hx.le.o g vo ho1
 have hblk : ∀ b, blk vo = some b → b < w.heap.size ∧ ¬ foot G s b := fun b hb => by
  refine ⟨hh.foot_lt (.inr ⟨g, _, vo, hsame, ho1, hb⟩), fun hf => ?_⟩
  rcases hf with hf | ⟨g', y, v', j1, j2, j3⟩
  ·exact hf (hh.nobox g _ vo b hsame ho1 hb)
  ·have hne : g' ≠ g := fun e => by subst e; rw [hg] at j1; cases j1
   exact hne (hh.sep g' g y _ v' vo b (by simpa [Heap.setOwn, upd, hne] using j1) hsame j2 ho1 j3 hb)
 have hfoot' : ∀ b, blk vo = some b → ¬ foot G' s' b := fun b hb hf => by
  rcases hx.foot b hf with k | k
  ·exact (hblk b hb).2 k
  ·have := (hblk b hb).1; omega
 refine ⟨G', s'.setOwn g (some (ee, sz)), v, cv, rfl, hv, ?_, ?_, s', hR, hk, rfl⟩
 ·refine ⟨hx.le, hx.size, hx.os, hx.tape, hx.output, fun b hb hf => hx.keep b hb fun k => hf (foot_le hle k), fun b hf => ?_, fun b o hf => ?_, fun g' hg' => ?_⟩
  ·have old : foot G' s' b → foot G (s.setOwn g (some (ee, sz))) b ∨ w.heap.size ≤ b := fun k => (hx.foot b k).imp (foot_le hle) id
   rcases hf with hf | ⟨g', y, v', j1, j2, j3⟩
   ·exact old (.inl hf)
   ·by_cases e : g' = g
    ·subst e
     obtain rfl : vo = v' := Option.some.inj (ho1'.symm.trans j2)
     exact .inl (.inr ⟨g', _, vo, hsame, ho1, j3⟩)
    ·exact old (.inr ⟨g', y, v', by simpa [Heap.setOwn, upd, e] using j1, j2, j3⟩)
  ·rcases hx.frz b o hf with k | k | k
   ·exact .inl k
   ·exact .inr (.inl (foot_le hle k))
   ·exact .inr (.inr k)
  ·by_cases e : g' = g
   ·exact .inl (by rw [e, hsame]; simp)
   ·rcases hx.keys g' (by simpa [Heap.setOwn, upd, e] using hg') with k | k
    ·exact .inl (by simpa [Heap.setOwn, upd, e] using k)
    ·exact .inr k
 ·refine ⟨hh'.frz, hh'.box, fun g' e' sz' hg' => ?_, fun g1 g2 x1 x2 v1 v2 b j1 j2 j3 j4 j5 j6 => ?_, fun g' y v' b j1 j2 j3 => ?_, ?_, hh'.ob⟩
  ·by_cases e : g' = g
   ·subst e
    have hq : (ee, sz) = (e', sz') := Option.some.inj ((upd_same s'.own g' (some (ee, sz))).symm.trans hg')
    cases hq
    refine ⟨vo, ho1', ?_⟩
    rcases ho2 with ⟨a, rfl⟩ | ⟨b, n, cap, cur, rfl, k1, k2, k3, k4, k5⟩
    ·exact .inl ⟨a, rfl⟩
    ·obtain ⟨hlt, hnf⟩ := hblk b rfl
     refine .inr ⟨b, n, cap, cur, rfl, (hx.keep b hlt hnf).trans k1, k2, k3, k4, fun o ho => ?_⟩
     cases hq : G'.F b o with
     | none => rfl
     | some y =>
      rcases hx.frz b o (by rw [hq]; simp) with k | k | k
      ·exact absurd (k5 o ho) k
      ·exact absurd k hnf
      ·omega
   ·exact hh'.own g' e' sz' (by simpa [Heap.setOwn, upd, e] using hg')
  ·by_cases e1 : g1 = g
   ·by_cases e2 : g2 = g
    ·rw [e1, e2]
    ·subst e1
     obtain rfl : vo = v1 := Option.some.inj (ho1'.symm.trans j3)
     exact absurd (.inr ⟨g2, x2, v2, by simpa [Heap.setOwn, upd, e2] using j2, j4, j6⟩) (hfoot' b j5)
   ·by_cases e2 : g2 = g
    ·subst e2
     obtain rfl : vo = v2 := Option.some.inj (ho1'.symm.trans j4)
     exact absurd (.inr ⟨g1, x1, v1, by simpa [Heap.setOwn, upd, e1] using j1, j3, j5⟩) (hfoot' b j6)
    ·exact hh'.sep g1 g2 x1 x2 v1 v2 b (by simpa [Heap.setOwn, upd, e1] using j1) (by simpa [Heap.setOwn, upd, e2] using j2) j3 j4 j5 j6
  ·by_cases e : g' = g
   ·subst e
    obtain rfl : vo = v' := Option.some.inj (ho1'.symm.trans j2)
    cases hq : s'.box b with
    | none => exact hq
    | some z => exact absurd (.inl (by rw [hq]; simp)) (hfoot' b j3)
   ·exact hh'.nobox g' y v' b (by simpa [Heap.setOwn, upd, e] using j1) j2 j3
  ·obtain ⟨N, hN⟩ := hh'.fin
   refine ⟨max N (g + 1), fun g' hg' => ?_⟩
   have : g' ≠ g := by omega
   have := hN g' (by omega)
   simp [Heap.setOwn, upd, *]
theorem ACalls.frame2 {f : FuncId} {args : List V} {s : Heap} {R : V → Heap → Prop} {g g2 : Nat} (x x2 : TypeId × Nat) (hg : s.own g = none) (hg2 : s.own g2 = none) (hne : g2 ≠ g) (h : ACalls P f args s R) :
  ACalls P f args ((s.setOwn g (some x)).setOwn g2 (some x2)) fun v s'' => ∃ s', R v s' ∧ s'.own g = none ∧ s'.own g2 = none ∧ s'' = (s'.setOwn g (some x)).setOwn g2 (some x2) := by
 refine ((h.frame1 x hg).frame1 (g := g2) x2 (by simpa [Heap.setOwn, upd, hne] using hg2)).mono ?_
 rintro v s'' ⟨_, ⟨s', hR, k1, rfl⟩, k2, rfl⟩
 exact ⟨s', hR, k1, by simpa [Heap.setOwn, upd, hne] using k2, rfl⟩
def Heap.delBox (s : Heap) (b : Nat) : Heap := { s with box := upd s.box b none }
theorem delBox_le (s : Heap) (b : Nat) : s.le (s.delBox b) :=
 ⟨fun b' => by
  by_cases e : b' = b
  ·subst e; exact .inr (upd_same _ _ _)
  ·exact .inl (upd_other _ _ _ _ e), fun g => .inl rfl⟩
/-- A result in a heap box of its own turns no more. -/
theorem ACalls.freeze {f : FuncId} {args : List V} {s : Heap} {R R' : V → Heap → Prop} (h : ACalls P f args s R)
  (hr : ∀ v s', R v s' → (∃ a cap, v = .base (.slice a 0 cap) ∧ R' (.slice 1 []) s') ∨ ∃ b n cap cs ty, v = .base (.slice (some ⟨b, 0, none⟩) n cap) ∧ s'.box b = some (cs, ty) ∧ n ≤ cs.length ∧ cs.length = cap ∧ cap ≤ maxLen ∧ R' (.slice 1 ((cs.take n).map fun c => [c])) (s'.delBox b)) : ACalls P f args s R' := by
 refine ⟨h.1, fun G w cargs hh ha => (h.2 G w cargs hh ha).mono ?_⟩
 rintro e w' ⟨G', s', v, cv, rfl, hv, hx, hh', hR⟩
 rcases hr v s' hR with ⟨a, cap, rfl, hR'⟩ | ⟨b, n, cap, cs, ty, rfl, hb, hn, hl, hc, hR'⟩
 ·cases hv
  exact ⟨G', s', _, _, rfl, .slice0 1 a cap, hx, hh', hR'⟩
 ·cases hv
  obtain ⟨ccs, k1, k2, k3, k4⟩ := hh'.box b cs ty hb
  have hnf : ¬ foot G' (s'.delBox b) b := fun hf => by
   rcases hf with hf | ⟨g, y, v', j1, j2, j3⟩
   ·exact hf (upd_same _ _ _)
   ·have := hh'.nobox g y v' b j1 j2 j3
    rw [hb] at this; cases this
  have hfz := (hh'.weaken (delBox_le s' b)).freeze k1 hnf k4
  have hle := Ghost.freeze_le (G := G') ccs k4
  refine ⟨G'.freeze b ccs, s'.delBox b, _, _, rfl, ?_, ?_, hfz, hR'⟩
  ·have hlen : ((cs.take n).map fun c => [c]).length = n := by simp; omega
   have hcs : ccs.size = cs.length := by rw [k2.1]; simp
   have key := Rep.slice (G := G'.freeze b ccs) 1 ((cs.take n).map fun c => [c]) b 0 cap (fun k => ccs.getD k undef) (fun r hr => by obtain ⟨c, _, rfl⟩ := List.mem_map.1 hr; rfl) (by rw [hlen]; omega) hc (fun k hk => ?_) (fun i j r c hi hj => ?_) (fun k hk => ?_)
   ·rw [hlen] at key; exact key
   ·rw [hlen] at hk
    have : k < ccs.size := by omega
    simp [Ghost.freeze, this]
   ·rw [List.getElem?_map] at hi
    cases hq : (cs.take n)[i]? with
    | none => rw [hq] at hi; simp at hi
    | some c0 =>
     rw [hq] at hi
     simp only [Option.map_some, Option.some.injEq] at hi
     subst hi
     have hj0 : j = 0 := by
      have := (List.getElem?_eq_some_iff.1 hj).1
      simp at this; exact this
     subst hj0
     simp at hj
     subst hj
     rw [List.getElem?_take] at hq
     split at hq
     ·have hlt : i < ccs.size := by rw [hcs]; exact (List.getElem?_eq_some_iff.1 hq).1
      refine (k2.2 i c0 (ccs.getD (i * 1 + 0) undef) hq ?_).mono hle
      simp [hlt]
     ·cases hq
   ·rw [hlen] at hk
    have : k < ccs.size := by omega
    refine k3 _ ?_
    simp [this]
  ·refine ⟨hx.le.trans hle, hx.size, hx.os, hx.tape, hx.output, hx.keep, fun b' hf => hx.foot b' (foot_le (delBox_le s' b) hf), fun b' o hf => ?_, fun g hg => hx.keys g hg⟩
   by_cases e : b' = b
   ·subst e
    rcases hx.foot b' (.inl (by rw [hb]; simp)) with k | k
    ·exact .inr (.inl k)
    ·exact .inr (.inr k)
   ·simp only [Ghost.freeze, e, if_false] at hf
    exact hx.frz b' o hf
end Go.Am
