/- token.Scan: the tokens of a text, or the first place that is wrong. -/
import Derived.Test.YtopgndakadileaaGreatDoorS15
import Derived.Test.YtopgndakadileaaGreatDoorSAmPanic
import Derived.Test.YtopgndakadileaaGreatDoorS9
import Derived.Test.YtopgndakadileaaGreatDoorSXB1
set_option linter.unusedVariables false
set_option linter.unusedSimpArgs false
set_option maxRecDepth 100000
set_option maxHeartbeats 4000000
namespace Go.Proofs.YtopgndakadileaaGreatDoor.Ex
open Go.Am Go.Ex Go.Proofs.YtopgndakadileaaGreatDoor
/-- The tokens from a place on, each with where it ends, and the place that is wrong. -/
def scanGo (x : ByteArray) : Nat → Int → Option (List (Int × XToken) × Option Int)
  | 0, _ => none
  | n + 1, a => way (decide (a < ((x.size : Nat) : Int))) (call (s207 x a) fun t => way t.2.2 (call (s206 x t.2.1) fun b => call (scanGo x n b) fun r => some ((t.2.1, t.1) :: r.1, r.2)) (some ([], some a))) (some ([], none))
def s71 (x : ByteArray) : Option (List XToken × Int × Int) := way (decide (((x.size : Nat) : Int) > 2000)) (some ([], 0, 3)) (call (s206 x 0) fun a => call (scanGo x 5000 a) fun r => match r.2 with
  | some b => if 0 ≤ b then some ([], b, 250) else none
  | none => some (r.1.map Prod.snd, 0, 0))
theorem scanGo_len (x : ByteArray) : ∀ (n : Nat) (a : Int) r, scanGo x n a = some r → r.1.length ≤ n
  | 0, _, _, h => by cases h
  | n + 1, a, r, h => by
    unfold scanGo at h
    cases hc : decide (a < ((x.size : Nat) : Int)) with
    | false => rw [hc] at h; cases h; exact Nat.zero_le _
    | true =>
      rw [hc] at h
      obtain ⟨t, ht, h⟩ := call_some (show call (s207 x a) _ = some r from h)
      cases hw : t.2.2 with
      | false => rw [hw] at h; cases h; exact Nat.zero_le _
      | true =>
        rw [hw] at h
        obtain ⟨b, hb, h⟩ := call_some (show call (s206 x t.2.1) _ = some r from h)
        obtain ⟨r', hr, h⟩ := call_some h
        cases h
        have := scanGo_len x n b r' hr
        simp; omega
theorem c136 (x : ByteArray) (b : Nat) : Gives Tryz.prog 136 [vstr x, .func 137 [] [.ptr b 0]] (.func 205 [] [.elt [vstr x] 0, .elt [.func 137 [] [.ptr b 0]] 0]) := by
  intro s
  refine acalls_of (fn := Tryz.f136) Tryz.func136 rfl (by decide) (by show 2 ≤ 6; decide) ?_
  rw [Tryz.ntmps136]
  refine AWp.reg fun Z1 hZ1 => ?_
  simp only [ty9, ty175, am, seval, reduceCtorEq]
  refine hZ1 _ ?_; clear hZ1 Z1
  refine AWp.frz 2 (cs := [vstr x]) (ty := 9) (by first | rfl | simp only [am, seval, reduceCtorEq]) ?_
  refine AWp.frz 3 (cs := [.func 137 [] [.ptr b 0]]) (ty := 175) (by first | rfl | simp only [St.frz, frzV, am, seval, reduceCtorEq]) ?_
  refine AWp.reg fun Z1 hZ1 => ?_
  simp only [St.frz, frzV, am, seval, reduceCtorEq]
  refine hZ1 _ ?_; clear hZ1 Z1
  refine AWp.ret ?_
  refine ret_go (vs := [.func 205 [] [.elt [vstr x] 0, .elt [.func 137 [] [.ptr b 0]] 0]]) (v := .func 205 [] [.elt [vstr x] 0, .elt [.func 137 [] [.ptr b 0]] 0]) (by show resV Tryz.prog _ [.tmp 4] = _; simp only [resV, St.frz, frzV, am, seval, reduceCtorEq]) (Wk.refl _) (Heap.le.refl _) ⟨rfl, rfl⟩
theorem c137 (n m : Int) : Gives1 Tryz.prog 137 (fun b => [vint n, .ptr b 0]) (.tuple []) ([vint m], 3) ([vint n], 3) := by
  refine gives1_of fun s b => ?_
  refine acalls_of (fn := Tryz.f137) Tryz.func137 rfl (by decide) (by show 2 ≤ 4; decide) ?_
  rw [Tryz.ntmps137]
  refine AWp.reg1 fun Z1 hZ1 => ?_
  simp only [ty3, setBox_same, am, seval, reduceCtorEq]
  refine hZ1 _ ?_
  exact ret_go (vs := []) (v := .tuple []) (by rfl) (Wk.refl _) (Heap.le.refl _) ⟨rfl, by rw [setBox_set]⟩
/-- The heap after some tokens: the list so far, the wrong place. -/
def scanH (s : Heap) (b5 b6 g : Nat) (l : List (Int × XToken)) (b : Int) : Heap := ((s.setOwn g (some (121, 3))).setBox b5 ([vint b], 3)).setBox b6 ([.own g 3 (List.map XToken.v (l.map Prod.snd))], 72)
def scanHp (s : Heap) (b5 b6 : Nat) (l : List (Int × XToken)) (h : Heap) : Prop := ∃ g, s.own g = none ∧ h = scanH s b5 b6 g l (-1)
/-- The tokens of a range over all of them, and one more for the wrong place. -/
def scanHs (s : Heap) (b5 b6 : Nat) (bad : Option Int) (l : List (Option (Int × XToken))) (h : Heap) : Prop := ∃ P, (l = P.map some ∧ scanHp s b5 b6 P h) ∨ (l = P.map some ++ [none] ∧ ∃ b g, bad = some b ∧ s.own g = none ∧ h = scanH s b5 b6 g P b)
theorem map_some_none {α : Type} {P T : List α} (h : T.map some = P.map some ++ [none]) : False := by
  have : none ∈ T.map some := by rw [h]; simp
  simp at this
theorem map_some_inj {α : Type} : ∀ {P T : List α}, P.map some = T.map some → P = T
  | [], [], _ => rfl
  | a :: P, b :: T, h => by
    simp only [List.map_cons, List.cons.injEq, Option.some.injEq] at h
    rw [h.1, map_some_inj h.2]
  | [], _ :: _, h => by cases h
  | _ :: _, [], h => by cases h
theorem scanHs_inl {s : Heap} {b5 b6 : Nat} {bad : Option Int} {pre : List (Int × XToken)} {h : Heap} (hH : scanHs s b5 b6 bad (pre.map some) h) : scanHp s b5 b6 pre h := by
  obtain ⟨P, ⟨e, k⟩ | ⟨e, k⟩⟩ := hH
  · rw [map_some_inj e]; exact k
  · exact (map_some_none e).elim
theorem scanHs_bad {s : Heap} {b5 b6 : Nat} {bad : Option Int} {pre : List (Int × XToken)} {h : Heap} (hH : scanHs s b5 b6 bad (pre.map some ++ [none]) h) : ∃ b g, bad = some b ∧ s.own g = none ∧ h = scanH s b5 b6 g pre b := by
  obtain ⟨P, ⟨e, k⟩ | ⟨e, k⟩⟩ := hH
  · exact (map_some_none e.symm).elim
  · rw [map_some_inj (List.append_cancel_right e)]; exact k
theorem c205 {x : ByteArray} {s : Heap} {b5 b6 : Nat} (h56 : b5 ≠ b6) {a0 : Int} {T : List (Int × XToken)} {bad : Option Int} (h0 : s206 x 0 = some a0) (hT : scanGo x 5000 a0 = some (T, bad)) (lo : Ghost) (yl : Nat)
    (hY : ∀ pre y h, scanHp s b5 b6 pre h → (∃ suf, T = pre ++ y :: suf) → YieldOk Tryz.prog lo yl [vint y.1, .agg y.2.v] h fun v s' => v = .base (.bool true) ∧ scanHs s b5 b6 bad (pre.map some ++ [some y]) s') {g0 : Nat} (hg0 : s.own g0 = none) :
    ACallsO Tryz.prog lo 205 ([yieldV yl] ++ [.elt [vstr x] 0, .elt [.func 137 [] [.ptr b5 0]] 0]) (scanH s b5 b6 g0 [] (-1)) fun _ s' => (bad = none ∧ scanHp s b5 b6 T s') ∨ ∃ b g, bad = some b ∧ s.own g = none ∧ s' = scanH s b5 b6 g T b := by
  refine acallsO_of (fn := Tryz.f205) Tryz.func205 rfl (by decide) (by show 3 ≤ 35; decide) ?_
  rw [Tryz.ntmps205]
  refine AWp.reg fun Z1 hZ1 => ?_
  simp only [List.cons_append, List.nil_append, ty9, ty3, k12, k13, k14, am, seval, reduceCtorEq]
  refine (c206 _ _ _ h0 _).go ?_
  simp only [ty9, ty3, am, seval, reduceCtorEq]
  refine hZ1 _ ?_; clear hZ1 Z1
  refine AWp.block ?_
  refine AWp.loopT (ι := List (Int × XToken) × Int × Nat × List (Int × XToken) × Heap) (fun i => T = i.1 ++ i.2.2.2.1 ∧ scanGo x i.2.2.1 i.2.1 = some (i.2.2.2.1, bad) ∧ ∃ g, s.own g = none ∧ i.2.2.2.2 = scanH s b5 b6 g i.1 (-1)) (fun i => tstO lo [(0, yieldV yl), (1, .elt [vstr x] 0), (2, .elt [.func 137 [] [.ptr b5 0]] 0), (4, vint i.2.1)] [] i.2.2.2.2 35) (fun i => i.2.2.1) ([], a0, 5000, T, scanH s b5 b6 g0 [] (-1)) ⟨⟨rfl, hT, g0, hg0, rfl⟩, ?_⟩ ?_
  · refine le_tstO ?_ ?_ ?_ (Heap.le.refl _) rfl
    · simp only [leE, yieldV, am, seval, reduceCtorEq] <;> simp
    · simp only [okL, yieldV, keyIn, Nat.reduceBEq, Bool.or_true, Bool.true_or, Bool.or_false, and_self]
    · simp only [leB, am, seval, reduceCtorEq] <;> simp
  · rintro ⟨pre, a, n, suf, h1⟩ ⟨hTe, hgo, g, hg, hq⟩
    simp only at hTe hgo hq ⊢
    subst hq
    cases n with
    | zero => cases hgo
    | succ n =>
    unfold scanGo at hgo
    refine AWp.seq_k fun K hK => ?_
    refine AWp.reg fun Z1 hZ1 => ?_
    simp only [tstO, ty9, ty3, am, seval, reduceCtorEq]
    refine hZ1 _ ?_; clear hZ1 Z1
    refine AWp.wayS hgo (by simp only [am, seval, reduceCtorEq]) (fun hc hgo => ?_) (fun hc hgo => ?_)
    · refine AWp.skip ?_
      refine hK _ ?_; clear hK K
      refine AWp.seq_k fun K hK => ?_
      refine AWp.block ?_
      obtain ⟨t, ht, hgo⟩ := call_some hgo
      refine AWp.reg fun Z1 hZ1 => ?_
      simp only [ty9, ty3, ty121, XToken.vs, am, seval, reduceCtorEq]
      refine (c207 _ _ _ ht _).go ?_
      simp only [ty9, ty3, ty121, ty4, XToken.vs, am, seval, reduceCtorEq]
      refine hZ1 _ ?_; clear hZ1 Z1
      refine AWp.seq_k fun K2 hK2 => ?_
      refine AWp.reg fun Z1 hZ1 => ?_
      simp only [ty4, am, seval, reduceCtorEq]
      refine hZ1 _ ?_; clear hZ1 Z1
      cases hw : t.2.2 with
      | false =>
        rw [hw] at hgo
        cases hgo
        refine AWp.cond (t := true) (by simp only [Bool.not_false, am, seval, reduceCtorEq]) (fun _ => ?_) (fun hf => by cases hf)
        refine AWp.reg fun Z1 hZ1 => ?_
        simp only [ty175, am, seval, reduceCtorEq]
        refine (c137 a (-1) _ b5 (by simp only [scanH, setBox_same, setBox_ne, ne_eq, not_false_eq_true, h56])).go ?_
        simp only [am, seval, reduceCtorEq]
        refine hZ1 _ ?_; clear hZ1 Z1
        refine AWp.ret ?_
        refine ⟨[], .tuple [], scanH s b5 b6 g pre a, rfl, Wk.refl _, ⟨fun k => .inl ?_, fun _ => .inl rfl⟩, .inr ⟨a, g, rfl, hg, by rw [show T = pre by simpa using hTe]⟩⟩
        simp only [scanH, Heap.setBox, Heap.setOwn, upd] <;> (repeat' split) <;> first | with_reducible rfl | (simp_all; done)
      | true =>
        rw [hw] at hgo
        obtain ⟨a', ha', hgo⟩ := call_some (show call (s206 x t.2.1) _ = _ from hgo)
        obtain ⟨r', hr', hgo⟩ := call_some hgo
        obtain ⟨suf', bad'⟩ := r'
        simp only [Option.some.injEq, Prod.mk.injEq] at hgo
        obtain ⟨rfl, rfl⟩ := hgo
        refine AWp.cond (t := false) (by simp only [Bool.not_true, am, seval, reduceCtorEq]) (fun hf => by cases hf) (fun _ => ?_)
        refine AWp.skip ?_
        refine hK2 _ ?_; clear hK2 K2
        refine AWp.seq_k fun K2 hK2 => ?_
        refine AWp.regY' 3 rfl (by decide +kernel) fun Z1 hZ1 => ?_
        simp only [ty121, XToken.vs, k12, k13, k14, am, seval, reduceCtorEq]
        refine ⟨?_, ?_, yl, [vint t.2.1, .agg t.1.v], _, ?_, ?_, hY pre (t.2.1, t.1) _ ⟨g, hg, rfl⟩ ⟨suf', hTe⟩, ?_⟩
        · simp only [gdOf, am, seval, reduceCtorEq]
        · simp only [am, seval, reduceCtorEq]
        · simp only [yieldV, am, seval, reduceCtorEq]
        · simp only [am, seval, reduceCtorEq]
        rintro _ s2 ⟨rfl, hH2⟩
        obtain ⟨g2, hg2, hq2⟩ := scanHs_inl (pre := pre ++ [(t.2.1, t.1)]) (by rw [List.map_append]; exact hH2)
        simp only [Bool.not_true, ty4, k15, k16, k17, am, seval, reduceCtorEq]
        refine hZ1 _ ?_; clear hZ1 Z1
        refine AWp.cond (t := false) (by simp only [am, seval, reduceCtorEq]) (fun hf => by cases hf) (fun _ => ?_)
        refine AWp.skip ?_
        refine hK2 _ ?_; clear hK2 K2
        refine AWp.reg1 fun Z1 hZ1 => ?_
        simp only [am, seval, reduceCtorEq]
        refine hZ1 _ ?_; clear hZ1 Z1
        refine hK _ ?_; clear hK K
        refine AWp.reg1 fun Z1 hZ1 => ?_
        simp only [ty9, ty3, am, seval, reduceCtorEq]
        refine (c206 _ _ _ ha' _).go ?_
        simp only [ty9, ty3, am, seval, reduceCtorEq]
        refine hZ1 _ ?_; clear hZ1 Z1
        refine ⟨(pre ++ [(t.2.1, t.1)], a', n, suf', s2), ⟨⟨by simpa using hTe, hr', g2, hg2, hq2⟩, by simp only; omega⟩, ?_⟩
        · refine le_tstO ?_ ?_ ?_ (Heap.le.refl _) rfl
          · simp only [leE, yieldV, am, seval, reduceCtorEq] <;> simp
          · simp only [okL, yieldV, keyIn, Nat.reduceBEq, Bool.or_true, Bool.true_or, Bool.or_false, and_self]
          · simp only [leB, am, seval, reduceCtorEq] <;> simp
    · cases hgo
      refine AWp.exit ?_
      simp only [thenQ, blockQ, ↓reduceIte]
      refine ⟨[], .tuple [], scanH s b5 b6 g pre (-1), rfl, Wk.refl _, Heap.le.refl _, .inl ⟨by first | rfl | trivial, g, hg, by rw [show T = pre by simpa using hTe]⟩⟩
theorem scan_round {s : Heap} {b5 b6 b8 g g2 : Nat} {P : List (Int × XToken)} {x y : List V × TypeId} (hg : s.own g = none) (hb8 : s.box b8 = none) (h58 : b5 ≠ b8) (h68 : b6 ≠ b8) :
    ((((((scanH s b5 b6 g P (-1)).setBox b8 x).setOwn g none).setOwn g2 (some (121, 3))).setBox b6 y)).le (((s.setOwn g2 (some (121, 3))).setBox b5 ([vint (-1)], 3)).setBox b6 y) := by
  refine ⟨fun b => ?_, fun k => ?_⟩
  · simp only [scanH, Heap.setOwn, Heap.setBox, upd]
    by_cases e : b = b6
    · simp [e]
    · by_cases e8 : b = b8
      · subst e8; refine .inr ?_; simp [e, Ne.symm h58, Ne.symm h68, hb8]
      · left; simp [e, e8]
  · simp only [scanH, Heap.setOwn, Heap.setBox, upd]
    by_cases e : k = g2
    · simp [e]
    · by_cases eg : k = g
      · subst eg; simp [e, hg]
      · simp [e, eg]
theorem own_fresh {s : Heap} {g g' : Nat} {x : TypeId × Nat} (h : (s.setOwn g (some x)).own g' = none) : s.own g' = none := by
  simp only [Heap.setOwn, upd] at h
  split at h
  · cases h
  · exact h
theorem scan_drop {s : Heap} {b5 b6 g : Nat} {l : List (Int × XToken)} {b : Int} (hg : s.own g = none) (h5 : s.box b5 = none) (h6 : s.box b6 = none) : (scanH s b5 b6 g l b).le s := by
  refine ⟨fun b' => ?_, fun k => ?_⟩
  · simp only [scanH, Heap.setOwn, Heap.setBox, upd]
    by_cases e : b' = b6
    · subst e; exact .inr h6
    · by_cases e8 : b' = b5
      · subst e8; exact .inr h5
      · left; simp [e, e8]
  · simp only [scanH, Heap.setOwn, Heap.setBox, upd]
    by_cases eg : k = g
    · subst eg; exact .inr hg
    · left; simp [eg]
theorem c71 (x : ByteArray) (r : List XToken × Int × Int) (h : s71 x = some r) : Gives Tryz.prog 71 [vstr x] (.tuple [.slice 3 (List.map XToken.v r.1), vint r.2.1, vint r.2.2]) := by
  intro s
  unfold s71 at h
  refine acalls_of (fn := Tryz.f71) Tryz.func71 rfl (by decide) (by show 1 ≤ 25; decide) ?_
  rw [Tryz.ntmps71]
  refine AWp.reg fun Z1 hZ1 => ?_
  simp only [ty3, ty72, k12, k13, k14, am, seval, reduceCtorEq]
  refine hZ1 _ ?_; clear hZ1 Z1
  refine AWp.seq_k fun K hK => ?_
  refine AWp.reg fun Z1 hZ1 => ?_
  simp only [ty9, ty3, am, seval, reduceCtorEq]
  refine hZ1 _ ?_; clear hZ1 Z1
  refine AWp.wayS h (by simp only [am, seval, reduceCtorEq]) (fun hc h => ?_) (fun hc h => ?_)
  · cases h
    refine AWp.reg fun Z1 hZ1 => ?_
    simp only [ty3, ty72, am, seval, reduceCtorEq]
    refine hZ1 _ ?_; clear hZ1 Z1
    refine AWp.ret ?_
    refine ret_go (vs := [.nil, vint 0, vint 3]) (by show resV Tryz.prog _ [.tmp 2, .tmp 3, .tmp 4] = _; simp only [resV, am, seval, reduceCtorEq]) ?_ (Heap.le.refl _) ⟨rfl, rfl⟩
    exact Wk.tuple ⟨Wk.nil _, Wk.refl _, Wk.refl _, trivial⟩
  obtain ⟨a0, ha0, h⟩ := call_some h
  obtain ⟨r', hr', h⟩ := call_some h
  obtain ⟨T, bad⟩ := r'
  simp only at h
  refine AWp.skip ?_
  refine hK _ ?_; clear hK K
  refine AWp.reg fun Z1 hZ1 => ?_
  simp only [ty3, ty72, ty9, am, seval, reduceCtorEq]
  refine hZ1 _ ?_; clear hZ1 Z1
  refine AWp.reg fun Z1 hZ1 => ?_
  simp only [ty3, ty72, ty9, am, seval, reduceCtorEq]
  refine hZ1 _ ?_; clear hZ1 Z1
  refine AWp.weaken (st' := tst [(0, vstr x), (5, .loc 5 0), (6, .loc 6 0)] [(5, ([vint (-1)], 3)), (6, ([.nil], 72))] s 25) ?_ ?_
  · refine le_tst ?_ ?_ ?_ (Heap.le.refl _) rfl
    · simp only [leE, am, seval, reduceCtorEq] <;> simp
    · simp only [okL, keyIn, Nat.reduceBEq, Bool.or_true, Bool.true_or, Bool.or_false, and_self]
    · simp only [leB, am, seval, reduceCtorEq] <;> simp
  refine AWp.adoptB 6 0 (121, 3) (cs := [.nil]) (ty := 72) (by simp only [tst, am, seval, reduceCtorEq]) (.inl rfl) fun g hg => ?_
  simp only [List.set]
  refine AWp.publish (t0 := 5) (x := ([vint (-1)], 3)) (by simp only [tst, am, seval, reduceCtorEq]) fun b5 hb5 => ?_
  refine AWp.publish (t0 := 6) (x := ([.own g 3 []], 72)) (by simp only [tst, St.publish, am, seval, reduceCtorEq]) fun b6 hb6 => ?_
  have h56 : b5 ≠ b6 := fun e => by
    subst e
    simp only [tst, St.publish] at hb6
    rw [setBox_same] at hb6
    cases hb6
  simp only [tst, St.publish] at hb5 hg hb6
  rw [setBox_ne (Ne.symm h56)] at hb6
  have hb5' : s.box b5 = none := hb5
  have hb6' : s.box b6 = none := hb6
  refine AWp.weaken (st' := tst [(0, vstr x), (5, .ptr b5 0), (6, .ptr b6 0)] [] (scanH s b5 b6 g [] (-1)) 25) ?_ ?_
  · refine le_tst ?_ ?_ ?_ (Heap.le.refl _) rfl
    · simp only [leE, tst, St.publish, substV, am, seval, reduceCtorEq] <;> simp
    · simp only [okL, keyIn, Nat.reduceBEq, Bool.or_true, Bool.true_or, Bool.or_false, and_self]
    · simp only [leB, am, seval, reduceCtorEq] <;> simp
  refine AWp.seq_k fun K hK => ?_
  refine AWp.reg fun Z1 hZ1 => ?_
  simp only [tst, ty3, ty72, ty9, ty175, am, seval, reduceCtorEq]
  refine (c136 _ _ _).go ?_
  simp only [ty3, ty72, ty9, ty175, am, seval, reduceCtorEq]
  refine hZ1 _ ?_; clear hZ1 Z1
  refine AWp.block ?_
  refine AWp.weaken (st' := tst [(5, .ptr b5 0), (6, .ptr b6 0), (14, .func 205 [] [.elt [vstr x] 0, .elt [.func 137 [] [.ptr b5 0]] 0])] [] (scanH s b5 b6 g [] (-1)) 25) ?_ ?_
  · refine le_tst ?_ ?_ ?_ (Heap.le.refl _) rfl
    · simp only [leE, am, seval, reduceCtorEq] <;> simp
    · simp only [okL, keyIn, Nat.reduceBEq, Bool.or_true, Bool.true_or, Bool.or_false, and_self]
    · simp only [leB, am, seval, reduceCtorEq] <;> simp
  refine AWp.rangeFunc2 (α := Option (Int × XToken)) (dB := none) (fun y => match y with | some y => (vint y.1, .agg y.2.v) | none => (.nil, .nil)) (scanHs s b5 b6 bad) (fun xs => (bad = none ∧ xs = T.map some) ∨ ((∃ b, bad = some b) ∧ xs = T.map some ++ [none])) (fun pre y => ∃ P z suf, pre = P.map some ∧ y = some z ∧ T = P ++ z :: suf) (f := 205) (caps := [.elt [vstr x] 0, .elt [.func 137 [] [.ptr b5 0]] 0]) (by simp only [tst, am, seval, reduceCtorEq]) (by funext z; simp only [tst, am, seval, reduceCtorEq]) (by simp only [tst]; decide) (by simp only [tst]; decide) (by decide +kernel) (by decide +kernel) ?_ ?_ ?_
  · rintro _ _ h1 hH ⟨P, z, suf, rfl, rfl, hTe⟩ K1 hK1
    obtain ⟨g1, hg1, rfl⟩ := scanHs_inl hH
    have hlen : P.length + 1 ≤ 5000 := by
      have h1 := scanGo_len x 5000 a0 _ hr'
      have h2 := congrArg List.length hTe
      simp only [List.length_append, List.length_cons] at h1 h2
      omega
    simp only [tst, ty121, XToken.v_eq, am, seval, reduceCtorEq]
    refine hK1 _ 8 [vint z.2.kind, vint z.2.at_, vstr z.2.text] 121 (by simp only [am, seval, reduceCtorEq]; funext y; simp only [upd]; split <;> rfl) rfl rfl ?_
    intro b8 hb8 KK hKK
    have hb8' : (scanH s b5 b6 g1 P (-1)).box b8 = none := hb8
    have h68 : b6 ≠ b8 := fun e => by
      subst e; simp only [scanH] at hb8'; rw [setBox_same] at hb8'; cases hb8'
    have h58 : b5 ≠ b8 := fun e => by
      subst e; simp only [scanH] at hb8'; rw [setBox_ne h56, setBox_same] at hb8'; cases hb8'
    have hb8s : s.box b8 = none := by
      simp only [scanH] at hb8'
      rw [setBox_ne (Ne.symm h68), setBox_ne (Ne.symm h58)] at hb8'
      exact hb8'
    have hx6 : ((scanH s b5 b6 g1 P (-1)).setBox b8 ([vint z.2.kind, vint z.2.at_, vstr z.2.text], 121)).box b6 = some ([.own g1 3 (List.map XToken.v (P.map Prod.snd))], 72) := by
      rw [setBox_ne h68]; simp only [scanH]; rw [setBox_same]
    have hx8 : ((scanH s b5 b6 g1 P (-1)).setBox b8 ([vint z.2.kind, vint z.2.at_, vstr z.2.text], 121)).box b8 = some ([vint z.2.kind, vint z.2.at_, vstr z.2.text], 121) := setBox_same
    have hxo : ((scanH s b5 b6 g1 P (-1)).setBox b8 ([vint z.2.kind, vint z.2.at_, vstr z.2.text], 121)).own g1 = some (121, 3) := by
      simp only [scanH, Heap.setBox, Heap.setOwn, upd_same]
    simp only [St.publish, substV, rops, hx6, hx8, ty3, ty121, ty72, am, seval, reduceCtorEq]
    refine ⟨hxo, by omega, by simp only [maxLen]; omega, fun g2 hg2 => ?_⟩
    have hx6' : ((((scanH s b5 b6 g1 P (-1)).setBox b8 ([vint z.2.kind, vint z.2.at_, vstr z.2.text], 121)).setOwn g1 none).setOwn g2 (some (121, 3))).box b6 = some ([.own g1 3 (List.map XToken.v (P.map Prod.snd))], 72) := hx6
    have hs2 : s.own g2 = none := by
      have h1 : (scanH s b5 b6 g1 P (-1)).own g2 = none := hg2
      simp only [scanH, Heap.setBox] at h1
      exact own_fresh (x := (121, 3)) h1
    rw [hx6']
    refine ⟨by simp, ?_⟩
    refine hKK _ (scanH s b5 b6 g2 (P ++ [z]) (-1)) ?_ ⟨P ++ [z], .inl ⟨by simp only [List.map_append, List.map_cons, List.map_nil], g2, hs2, rfl⟩⟩
    have e : List.map XToken.v ((P ++ [z]).map Prod.snd) = List.map XToken.v (P.map Prod.snd) ++ [XToken.v z.2] := by simp only [List.map_append, List.map_cons, List.map_nil]
    simp only [scanH, e]
    exact scan_round hg1 hb8s h58 h68
  · intro lo l hY
    have hI := c205 (b5 := b5) (b6 := b6) h56 ha0 hr' lo l (fun pre y h1 hp hs => hY (pre.map some) (some y) h1 ⟨pre, .inl ⟨rfl, hp⟩⟩ (hs.elim fun suf hs => ⟨pre, y, suf, rfl, rfl, hs⟩)) hg
    refine ⟨hI.1, fun G w cargs h1 h2 h3 => (hI.2 G w cargs h1 h2 h3).mono ?_⟩
    rintro e w' ⟨G', s', v, cv, k1, k2, k3, k4, k5⟩
    refine ⟨G', s', v, cv, k1, k2, k3, k4, ?_⟩
    rcases k5 with ⟨e1, hp⟩ | ⟨b, g1, e1, hg1, e2⟩
    · exact ⟨_, .inl ⟨e1, rfl⟩, T, .inl ⟨rfl, hp⟩⟩
    · exact ⟨_, .inr ⟨⟨b, e1⟩, rfl⟩, T, .inr ⟨rfl, b, g1, e1, hg1, e2⟩⟩
  · rintro xs s' D hS hH
    refine hK _ ?_; clear hK K
    refine AWp.seq_k fun K hK => ?_
    have hend : (bad = none ∧ scanHp s b5 b6 T s') ∨ ∃ b g, bad = some b ∧ s.own g = none ∧ s' = scanH s b5 b6 g T b := by
      rcases hS with ⟨e1, rfl⟩ | ⟨-, rfl⟩
      · exact .inl ⟨e1, scanHs_inl hH⟩
      · exact .inr (scanHs_bad hH)
    rcases hend with ⟨rfl, g1, hg1, rfl⟩ | ⟨b, g1, rfl, hg1, rfl⟩
    · simp only [Option.some.injEq] at h
      subst h
      refine AWp.weaken (st' := tstD [Go.Am.mark D] [(5, .ptr b5 0), (6, .ptr b6 0)] [] (scanH s b5 b6 g1 T (-1)) 25) ?_ ?_
      · refine le_tstD ?_ ?_ ?_ (Heap.le.refl _) rfl
        · simp only [leE, tst, am, seval, reduceCtorEq] <;> simp
        · simp only [okL, keyIn, Nat.reduceBEq, Bool.or_true, Bool.true_or, Bool.or_false, and_self]
        · simp only [leB, am, seval, reduceCtorEq] <;> simp
      have e5 : (scanH s b5 b6 g1 T (-1)).box b5 = some ([vint (-1)], 3) := by simp only [scanH]; rw [setBox_ne h56, setBox_same]
      have e6 : (scanH s b5 b6 g1 T (-1)).box b6 = some ([.own g1 3 (List.map XToken.v (T.map Prod.snd))], 72) := by simp only [scanH]; rw [setBox_same]
      refine AWp.reg fun Z1 hZ1 => ?_
      simp only [tstD, e5, ty3, am, seval, reduceCtorEq]
      refine hZ1 _ ?_; clear hZ1 Z1
      refine AWp.cond (t := false) (by simp only [am, seval, reduceCtorEq]; simp) (fun hf => by cases hf) (fun _ => ?_)
      refine AWp.skip ?_
      refine hK _ ?_; clear hK K
      refine AWp.reg fun Z1 hZ1 => ?_
      simp only [e6, ty72, ty3, am, seval, reduceCtorEq]
      refine hZ1 _ ?_; clear hZ1 Z1
      refine AWp.ret ?_
      refine ret_go (vs := [.own g1 3 (List.map XToken.v (T.map Prod.snd)), vint 0, vint 0]) (by show resV Tryz.prog _ [.tmp 2, .tmp 3, .tmp 4] = _; simp only [resV, am, seval, reduceCtorEq]) ?_ ?_ ⟨rfl, rfl⟩
      · exact Wk.tuple ⟨Wk.own _ _ _, Wk.refl _, Wk.refl _, trivial⟩
      · exact scan_drop hg1 hb5' hb6'
    · by_cases hb0 : 0 ≤ b
      rotate_left
      · simp only [hb0, if_false] at h; cases h
      simp only [hb0, if_true, Option.some.injEq] at h
      subst h
      refine AWp.weaken (st' := tstD [Go.Am.mark D] [(5, .ptr b5 0), (6, .ptr b6 0)] [] (scanH s b5 b6 g1 T b) 25) ?_ ?_
      · refine le_tstD ?_ ?_ ?_ (Heap.le.refl _) rfl
        · simp only [leE, tst, am, seval, reduceCtorEq] <;> simp
        · simp only [okL, keyIn, Nat.reduceBEq, Bool.or_true, Bool.true_or, Bool.or_false, and_self]
        · simp only [leB, am, seval, reduceCtorEq] <;> simp
      have e5 : (scanH s b5 b6 g1 T b).box b5 = some ([vint b], 3) := by simp only [scanH]; rw [setBox_ne h56, setBox_same]
      refine AWp.reg fun Z1 hZ1 => ?_
      simp only [tstD, e5, ty3, am, seval, reduceCtorEq]
      refine hZ1 _ ?_; clear hZ1 Z1
      refine AWp.cond (t := true) (by simp only [am, seval, reduceCtorEq]; simp [hb0]) (fun _ => ?_) (fun hf => by cases hf)
      refine AWp.regL rfl [0, 1, 2, 3] (by decide +kernel) [] (by decide +kernel) fun Z1 hZ1 => ?_
      simp only [e5, ty72, ty3, aml, Nat.reduceBEq, Nat.reduceAdd, am, seval, reduceCtorEq]
      refine hZ1 _ ?_; clear hZ1 Z1
      refine AWp.ret ?_
      refine ret_go (vs := [.nil, vint b, vint 250]) (by show resV Tryz.prog _ [.tmp 2, .tmp 3, .tmp 4] = _; simp only [resV, am, seval, reduceCtorEq]) ?_ ?_ ⟨rfl, rfl⟩
      · exact Wk.tuple ⟨Wk.nil _, Wk.refl _, Wk.refl _, trivial⟩
      · exact scan_drop hg1 hb5' hb6'
end Go.Proofs.YtopgndakadileaaGreatDoor.Ex
