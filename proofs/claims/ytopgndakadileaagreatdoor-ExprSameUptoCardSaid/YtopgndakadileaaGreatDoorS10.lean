/- A call that hands back an empty slice of its own, with room. -/
import Derived.Test.YtopgndakadileaaGreatDoorS12
import Derived.Test.YtopgndakadileaaGreatDoorSAmSeq
import Derived.Test.YtopgndakadileaaGreatDoorSXData
import Derived.Test.YtopgndakadileaaGreatDoorSXTy
import Derived.Shelf.Spec.SlicesGrow
set_option linter.unusedVariables false
namespace Go.Am
variable {P : Program}
theorem ACalls.ownNew {f : FuncId} {args : List V} {s : Heap} {e : TypeId} {sz : Nat} (hf : ∃ fn, P.funcs[f]? = some fn ∧ fn.body.isNone = false ∧ (fn.name == "runtime.NumGoroutine") = false)
    (h : ∀ G w (cargs : Array Value), HRel G s w → RepL G args cargs.toList → Calls P f cargs w fun e' w' => More w w' ∧ ((∃ a, e' = .returned (.slice a 0 0) ∧ ∀ b, blk (.slice a 0 0) = some b → w.heap.size ≤ b) ∨
      ∃ cap cur, e' = .returned (.slice (some ⟨w.heap.size, 0, none⟩) 0 (cap + 1)) ∧ w'.heap[w.heap.size]? = some (.cells cur e (0, 0)) ∧ cur.size = (cap + 1) * sz ∧ cap + 1 ≤ maxLen)) :
    ACalls P f args s fun v' s' => ∃ g, s.own g = none ∧ v' = .own g sz [] ∧ s' = s.setOwn g (some (e, sz)) := by
  refine ⟨hf, fun G w cargs hh hargs => (h G w cargs hh hargs).mono ?_⟩
  rintro e' w' ⟨hm, hr⟩
  have key : ∀ v : Value, OwnOk G w' e sz v → (∀ b, blk v = some b → w.heap.size ≤ b) → (∃ a cap, v = .slice a 0 cap) →
      ∃ G' s' v' cv, Ending.returned v = .returned cv ∧ Rep G' v' cv ∧ Ext G s w G' s' w' ∧ HRel G' s' w' ∧ ∃ g, s.own g = none ∧ v' = .own g sz [] ∧ s' = s.setOwn g (some (e, sz)) := fun v hv hb hs => by
    have ha : ARel ⟨0, [], noPan⟩ G (fun _ => none) { E := fun _ => .base undef, loc := fun _ => none, s := s, n := 0 } { tmps := #[], defers := [] } w' :=
      ⟨hh.more hm, rfl, Dfs.nil, (fun t => by
        have : (#[] : Array Value).getD t undef = undef := by simp [Array.getD]
        show LRep _ _ _ _ ((#[] : Array Value).getD t undef)
        rw [this]; exact Rep.base _), (fun t cs ty ht => by cases ht), fun t t' b h1 => absurd rfl h1⟩
    obtain ⟨G', g, e1, e2, e3, e4, e5⟩ := ARel.claimV ha (Ext.more hm) (e, sz) v hv hb (fun b hb' hf => by
      have := foot_lt' hh hf
      have := hb b hb'
      omega) (fun t b ht => absurd rfl ht)
    obtain ⟨a, cap, rfl⟩ := hs
    exact ⟨G', s.setOwn g (some (e, sz)), .own g sz [], _, rfl, Rep.own g sz [] _ (Rep.slice0 sz a cap) e2, e4, e5.hr, g, e1, rfl, rfl⟩
  rcases hr with ⟨a, rfl, hb⟩ | ⟨cap, cur, rfl, h1, h2, h3⟩
  · exact key _ (.inl ⟨a, rfl⟩) hb ⟨a, 0, rfl⟩
  · refine key _ (.inr ⟨w.heap.size, 0, cap, cur, rfl, h1, h2, Nat.zero_le _, h3, fun o _ => ?_⟩) (fun b hb => by simp [blk] at hb; omega) ⟨_, _, rfl⟩
    cases hx : G.F w.heap.size o with
    | none => rfl
    | some v => have := hh.frz_lt (b := w.heap.size) (o := o) (by rw [hx]; simp); omega
end Go.Am
namespace Go.Proofs.YtopgndakadileaaGreatDoor.Ex
open Go.Am Go.Ex Go.Proofs.YtopgndakadileaaGreatDoor Go.Shelf
def growRen : Ren := ⟨fun | 4 => 202 | n => n, fun | 22 => 26 | 25 => 29 | n => n, fun | n => n⟩
theorem growLays : Lays8.n4 Tryz.prog growRen := {
  mixed := by kernel_rfl
  f4 := ⟨Tryz.f202.name, by decide, Tryz.func202.trans (congrArg some (by kernel_rfl))⟩
  t0 := Tryz.underlying0
  a0 := Tryz.isAgg0
  z0 := Tryz.sizeOf0
  v0 := Tryz.zeroValue0
  t3 := Tryz.underlying3
  a3 := Tryz.isAgg3
  z3 := Tryz.sizeOf3
  v3 := Tryz.zeroValue3
  t4 := Tryz.underlying4
  a4 := Tryz.isAgg4
  z4 := Tryz.sizeOf4
  v4 := Tryz.zeroValue4
  t9 := Tryz.underlying9
  a9 := Tryz.isAgg9
  z9 := Tryz.sizeOf9
  v9 := Tryz.zeroValue9
  t20 := Tryz.underlying20
  a20 := Tryz.isAgg20
  z20 := Tryz.sizeOf20
  v20 := Tryz.zeroValue20
  t22 := Tryz.underlying26
  a22 := Tryz.isAgg26
  z22 := Tryz.sizeOf26
  v22 := Tryz.zeroValue26 }
theorem zeroCells_size (z : Array Value) (n : Nat) : (Builtin.zeroCells z n).size = n * z.size := by
  unfold Builtin.zeroCells; simp
theorem grow202 (n : Int) (h : 0 ≤ n ∧ n * 136 ≤ 140737488355328) : GivesOwn Tryz.prog 202 [.nil, vint n] 29 10 (List.map XExpr.v []) := fun s => by
  obtain ⟨i, u, z, hi, hu, hz, h1, h2, h3, h4, h5⟩ := tyOf_some ty29
  refine ACalls.ownNew ⟨_, Tryz.func202, rfl, by decide⟩ fun G w cargs hh hargs => ?_
  obtain ⟨v, l, e, k1, k2⟩ := RepL.uncons hargs
  obtain ⟨v', l', rfl, k3, k4⟩ := RepL.uncons k2
  obtain rfl := k4.nil_inv
  cases k1; cases k3
  obtain rfl : cargs = #[.slice none 0 0, .int .i64 n] := by rw [← Array.toList_inj]; exact e
  obtain ⟨m, rfl⟩ : ∃ m : Nat, n = (m : Int) := ⟨n.toNat, by omega⟩
  have hn : m * 136 ≤ 140737488355328 := by omega
  rcases Nat.eq_zero_or_pos m with rfl | hp
  · refine (Any8.slices_Grow_room growLays none 0 0 0 w (by omega) (by omega) (by omega) (by omega)).mono ?_
    rintro e' w' ⟨rfl, rfl⟩
    exact ⟨⟨Nat.le_refl _, rfl, rfl, rfl, fun b hb => rfl⟩, .inl ⟨none, rfl, fun b hb => by simp [blk] at hb⟩⟩
  · have hs : i.size = 10 := by rw [← h1]
    have hb : i.bytes = 136 := by rw [← h2]
    refine (Any8.slices_Grow_grow growLays i z hi hz (by omega) none 0 0 m [] w (by omega) (by omega) (by rw [hb]; omega) (by omega) (by simp) (fun _ => rfl) (fun a ha => by cases ha)).mono ?_
    rintro e' w' ⟨rfl, rfl⟩
    have hge := grownCap_ge w (0 + m) 0 (growRen.t 25)
    have hle := grownCap_le_maxLen w (0 + m) 0 (growRen.t 25) (by unfold maxLen; omega)
    obtain ⟨c, hc⟩ : ∃ c, grownCap w (0 + m) 0 (growRen.t 25) = c + 1 := ⟨grownCap w (0 + m) 0 (growRen.t 25) - 1, by omega⟩
    rw [hc] at hge hle ⊢
    have hzs : z.cells.size = 10 := by have := congrArg List.length h3; simpa using this.symm
    refine ⟨(More.drew w).trans (More.alloc _ _), .inr ⟨c, _, rfl, World.alloc_heap_new _ _, ?_, hle⟩⟩
    simp only [Array.size_append, zeroCells_size, hzs]
    simp only [List.size_toArray, List.length_nil]
    omega
end Go.Proofs.YtopgndakadileaaGreatDoor.Ex
