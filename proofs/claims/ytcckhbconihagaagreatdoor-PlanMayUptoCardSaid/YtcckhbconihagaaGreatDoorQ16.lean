/- The laws' head: the answers that the document fixes. -/
import Derived.Test.YtcckhbconihagaaGreatDoorQ7
import Derived.Test.YtcckhbconihagaaGreatDoorQPlReach
import Derived.Test.YtcckhbconihagaaGreatDoorQ6
import Derived.Test.YtcckhbconihagaaGreatDoorQ12
set_option linter.unusedSimpArgs false
set_option linter.unusedVariables false
set_option maxRecDepth 100000
namespace Go.Am
/-- A slice whose elements are told less of. -/
def WkLL : List (List V) → List (List V) → Prop
  | [], [] => True
  | c :: l, c' :: l' => WkL c c' ∧ WkLL l l'
  | _, _ => False
theorem WkL.len : ∀ {l l' : List V}, WkL l l' → l.length = l'.length
  | [], [], _ => rfl
  | [], _ :: _, h => h.elim
  | _ :: _, [], h => h.elim
  | _ :: l, _ :: l', h => by simp [WkL.len h.2]
theorem WkL.get : ∀ {l l' : List V}, WkL l l' → ∀ {j : Nat} {c' : V}, l'[j]? = some c' → ∃ c, l[j]? = some c ∧ Wk c c'
  | [], [], _, j, c', e => by simp at e
  | [], _ :: _, h, _, _, _ => h.elim
  | _ :: _, [], h, _, _, _ => h.elim
  | x :: l, x' :: l', h, 0, c', e => by simp at e; subst e; exact ⟨x, rfl, h.1⟩
  | x :: l, x' :: l', h, j + 1, c', e => by simpa using WkL.get h.2 (by simpa using e)
theorem WkLL.len : ∀ {l l' : List (List V)}, WkLL l l' → l.length = l'.length
  | [], [], _ => rfl
  | [], _ :: _, h => h.elim
  | _ :: _, [], h => h.elim
  | _ :: l, _ :: l', h => by simp [WkLL.len h.2]
theorem WkLL.get : ∀ {l l' : List (List V)}, WkLL l l' → ∀ {j : Nat} {c' : List V}, l'[j]? = some c' → ∃ c, l[j]? = some c ∧ WkL c c'
  | [], [], _, j, c', e => by simp at e
  | [], _ :: _, h, _, _, _ => h.elim
  | _ :: _, [], h, _, _, _ => h.elim
  | x :: l, x' :: l', h, 0, c', e => by simp at e; subst e; exact ⟨x, rfl, h.1⟩
  | x :: l, x' :: l', h, j + 1, c', e => by simpa using WkLL.get h.2 (by simpa using e)
theorem Wk.slice {sz : Nat} {es es' : List (List V)} (h : WkLL es es') : Wk (.slice sz es) (.slice sz es') := fun G v hv => by
  have hl := h.len
  cases hv with
  | slice0 _ a cap =>
    obtain rfl : es' = [] := List.eq_nil_of_length_eq_zero (by simpa using hl.symm)
    exact .slice0 sz a cap
  | slice _ _ b o cap cells h1 h2 h3 h4 h5 h6 =>
    rw [hl]
    refine .slice sz es' b o cap cells (fun cs hcs => ?_) (by omega) h3 (fun k hk => h4 k (by rw [hl]; exact hk)) (fun i j cs c hi hj => ?_) (fun k hk => h6 k (by rw [hl]; exact hk))
    · obtain ⟨i, hi, e⟩ := List.mem_iff_getElem.1 hcs
      obtain ⟨c, hc, hw⟩ := h.get (List.getElem?_eq_some_iff.2 ⟨hi, e⟩)
      rw [← hw.len]
      exact h1 c (List.mem_of_getElem? hc)
    · obtain ⟨c0, hc0, hw⟩ := h.get hi
      obtain ⟨d, hd, hwd⟩ := hw.get hj
      exact hwd G _ (h5 i j c0 d hc0 hd)
end Go.Am
namespace Go.Proofs.YtcckhbconihagaaGreatDoor
open Go.Am Go.Pl
def hF (n frm : Int) : Term := ⟨100, false, n, frm, 0, .empty, 0, 0, .empty, 0, 0, 0, [], []⟩
def hT : Term := ⟨7, false, 0, 0, 0, .empty, 0, 0, .empty, 0, 0, 0, [hF 0 3, hF 1 2, hF 0 1], []⟩
def hS : Step := ⟨0, 0, .empty, [], [], [], []⟩
def hA : Arm := ⟨0, false, false, [], [], [], false, [], [], [], [], [], [hS]⟩
def hR : Resolved := ⟨[], ⟨[], [hA], [], [], []⟩⟩
theorem hT_hits : canon (hTerm hT 0) = [1, 3] := by
  simp [hT, hF, hTerm, hTerms, hQueries, canon, puts, put]
theorem hT_w : hT.w ≤ 2 ^ 28 := by simp [hT, hF, Term.w]
theorem hR_w : hR.w ≤ 2 ^ 26 := by simp [hR, hA, hS, Resolved.w, Query.w, Arm.w, Step.w]
def hSc : Schema := ⟨[], [], .nil⟩
theorem hR_may : mayR hSc hR = false := by
  simp [mayR, cResolved, hR, cQuery, cTerms, cArms, cArm, hA, cRows, cFroms, cAggs, cSteps, cStep, hS, cBounds, okA, armOk, stepsOk, stepBad]
def fv (n frm : Int) : List V := [vint 100, vbool false, vint n, vint frm, vint 0, vstr .empty, vint 0, vint 0, vstr .empty, vint 0, vint 0, vint 0, .nil, .nil]
def tv : List V := [vint 7, vbool false, vint 0, vint 0, vint 0, vstr .empty, vint 0, vint 0, vstr .empty, vint 0, vint 0, vint 0, .slice 14 [fv 0 3, fv 1 2, fv 0 1], .nil]
theorem fv_wk (n frm : Int) : WkL (fv n frm) (hF n frm).v := by
  rw [Term.v_eq]
  exact ⟨Wk.refl _, Wk.refl _, Wk.refl _, Wk.refl _, Wk.refl _, Wk.refl _, Wk.refl _, Wk.refl _, Wk.refl _, Wk.refl _, Wk.refl _, Wk.refl _, Wk.nil _, Wk.nil _, trivial⟩
theorem tv_wk : WkL tv hT.v := by
  rw [Term.v_eq]
  exact ⟨Wk.refl _, Wk.refl _, Wk.refl _, Wk.refl _, Wk.refl _, Wk.refl _, Wk.refl _, Wk.refl _, Wk.refl _, Wk.refl _, Wk.refl _, Wk.refl _, Wk.slice ⟨fv_wk _ _, fv_wk _ _, fv_wk _ _, trivial⟩, Wk.nil _, trivial⟩
def sv : List V := [vint 0, vint 0, vstr .empty, .nil, .nil, .nil, .nil]
def av : List V := [vint 0, vbool false, vbool false, .nil, .nil, .nil, vbool false, .nil, .nil, .nil, .nil, .nil, .slice 7 [sv]]
def rv : List V := [.nil, .nil, .slice 13 [av], .nil, .nil, .nil]
theorem sv_wk : WkL sv hS.v := by
  rw [Step.v_eq]
  exact ⟨Wk.refl _, Wk.refl _, Wk.refl _, Wk.nil _, Wk.nil _, Wk.nil _, Wk.nil _, trivial⟩
theorem av_wk : WkL av hA.v := by
  rw [Arm.v_eq]
  exact ⟨Wk.refl _, Wk.refl _, Wk.refl _, Wk.nil _, Wk.nil _, Wk.nil _, Wk.refl _, Wk.nil _, Wk.nil _, Wk.nil _, Wk.nil _, Wk.nil _, Wk.slice ⟨sv_wk, trivial⟩, trivial⟩
theorem rv_wk : WkL rv hR.v := by
  rw [Resolved.v_eq, Query.v_eq]
  exact ⟨Wk.nil _, Wk.nil _, Wk.slice ⟨av_wk, trivial⟩, Wk.nil _, Wk.nil _, Wk.nil _, trivial⟩
theorem head_reach (s : Heap) : ACalls Tryz.prog 11 [.agg tv] s fun v s' => v = .slice 1 [[vint 1], [vint 3]] ∧ s' = s := by
  have h := (f11_spec hT hT_w s).wk (show WkL [.agg tv] [.agg hT.v] from ⟨Wk.agg tv_wk, trivial⟩)
  rw [hT_hits] at h
  exact h
theorem head_may (s : Heap) : ACalls Tryz.prog 9 [.agg [.nil, .nil, .nil], .agg rv] s fun v s' => v = vint 340 ∧ s' = s :=
  by
  have h := (f9_all hSc ⟨rfl, fun t ht => by cases ht⟩ hR hR_w s).wk (show WkL [.agg [.nil, .nil, .nil], .agg rv] [.agg hSc.v, .agg hR.v] from ⟨Wk.agg ⟨Wk.nil _, Wk.nil _, Wk.refl _, trivial⟩, Wk.agg rv_wk, trivial⟩)
  rw [hR_may] at h
  exact h
/-- **The head.** -/
theorem f8_spec : Gives Tryz.prog 8 [] (vbool true) := by
 intro s
 refine acalls_of (fn := Tryz.f8) Tryz.func8 rfl (by decide) (by show 0 ≤ 38; decide) ?_
 rw [Tryz.ntmps8]
 have r1 := head_reach
 have r2 := head_may
 simp only [tv, fv, rv, av, sv, vint, vbool, vstr] at r1 r2
 refine AWp.reg fun R1 hR1 => ?_
 simp only [am, seval, reduceCtorEq]
 refine hR1 _ ?_; clear hR1 R1
 refine AWp.reg fun R1 hR1 => ?_
 simp only [ty31, ty49, am, seval, reduceCtorEq]
 refine hR1 _ ?_; clear hR1 R1
 refine AWp.reg fun R1 hR1 => ?_
 simp only [ty49, am, seval, reduceCtorEq]
 refine (r1 _).mono fun v' s' h => ?_
 rw [h.1, h.2]; clear h v' s'
 simp only [ty49, am, seval, reduceCtorEq]
 refine hR1 _ ?_; clear hR1 R1
 refine AWp.reg fun R1 hR1 => ?_
 simp only [ty29, ty33, ty35, ty68, ty69, ty75, am, seval, reduceCtorEq]
 refine hR1 _ ?_; clear hR1 R1
 refine AWp.reg fun R1 hR1 => ?_
 have a1 : (((2 : Nat) : Int) == 2) = true := rfl
 have a2 : ((0 : Int) ≤ 0) = True := by simp
 have a3 : ((0 : Int) < ((2 : Nat) : Int)) = True := by simp
 have a4 : ((0 : Int) ≤ 1) = True := by simp
 have a5 : ((1 : Int) < ((2 : Nat) : Int)) = True := by simp
 have a6 : ((1 : Int) == 1) = true := rfl
 have a7 : ((3 : Int) == 3) = true := rfl
 have a8 : ((340 : Int) == 340) = true := rfl
 have a9 : (1 : Int).toNat = 1 := rfl
 simp only [a1, a2, a3, a4, a5, a6, a7, a9, Int.toNat_zero, ty3, ty26, ty35, ty37, ty50, am, seval, reduceCtorEq]
 refine (r2 _).mono fun v' s' h => ?_
 rw [h.1, h.2]; clear h v' s'
 simp only [a8, ty3, ty26, ty35, ty37, ty50, am, seval, reduceCtorEq]
 refine hR1 _ ?_; clear hR1 R1
 refine AWp.ret ?_
 exact ret_intro (vs := [vbool true]) rfl (Wk.refl _) (Heap.le.refl _) ⟨rfl, rfl⟩
end Go.Proofs.YtcckhbconihagaaGreatDoor
set_option linter.unusedSimpArgs false
set_option linter.unusedVariables false
set_option maxRecDepth 100000
namespace Go.Proofs.YtcckhbconihagaaGreatDoor
open Go.Am Go.Pl
theorem ScOk.of {sc : Schema} (h1 : sc.views.isCell = true) (h : sc.w ≤ 2^28) : ScOk sc := by
  unfold Schema.w at h
  have ht : ∀ t ∈ sc.tables, t.w ≤ 2^28 := fun t ht => by have := mem_w Table.w _ t ht; omega
  refine ⟨⟨h1, fun t hm => ?_⟩, fun t hm => ?_, ?_⟩
  · have := ht t hm; unfold Table.w at this; omega
  · have := ht t hm; unfold Table.w at this; omega
  · have := len_le (f := Index.w) (fun x => by unfold Index.w; omega) sc.indexes; omega
theorem f3_spec (sc : Schema) (hs : ScOk sc) (r : Resolved) (hw : r.w ≤ 2^26) : Gives Tryz.prog 3 [.agg sc.v, .agg r.v] (vbool true) := by
 have z0 : ((if mayR sc r = true then (0 : Int) else 340) == (if mayR sc r = true then (0 : Int) else 340)) = true := by simp
 intro s
 refine acalls_of (fn := Tryz.f3) Tryz.func3 rfl (by decide) (by show 2 ≤ 15; decide) ?_
 rw [Tryz.ntmps3]
 refine AWp.reg fun R1 hR1 => ?_
 simp only [Sch.v_all hs.s.1, Sch.v_len, Sch.v_take, Res.v_len, Res.v_all, Res.v_take, z0, ty26, ty35, am, seval, reduceCtorEq]
 refine hR1 _ ?_; clear hR1 R1
 refine AWp.regL mixed [0, 1, 2, 3, 5, 6, 4, 7, 8, 9, 10] (by decide +kernel) [] (by decide +kernel) fun R2 hR2 => ?_
 simp only [Sch.v_all hs.s.1, Sch.v_len, Sch.v_take, Res.v_len, Res.v_all, Res.v_take, z0, ty3, ty26, ty35, undef, aml, Nat.reduceBEq, am, seval, reduceCtorEq]
 refine (f8_spec _).mono fun v' s' h => ?_
 rw [h.1, h.2]; clear h v' s'
 simp only [Sch.v_all hs.s.1, Sch.v_len, Sch.v_take, Res.v_len, Res.v_all, Res.v_take, z0, ty3, ty26, ty35, undef, aml, Nat.reduceBEq, am, seval, reduceCtorEq]
 refine (f9_all sc hs.s r hw _).mono fun v' s' h => ?_
 rw [h.1, h.2]; clear h v' s'
 simp only [Sch.v_all hs.s.1, Sch.v_len, Sch.v_take, Res.v_len, Res.v_all, Res.v_take, z0, ty3, ty26, ty35, undef, aml, Nat.reduceBEq, am, seval, reduceCtorEq]
 refine (f10_all sc hs r hw _).mono fun v' s' h => ?_
 rw [h.1, h.2]; clear h v' s'
 simp only [Sch.v_all hs.s.1, Sch.v_len, Sch.v_take, Res.v_len, Res.v_all, Res.v_take, z0, ty3, ty26, ty35, undef, aml, Nat.reduceBEq, am, seval, reduceCtorEq]
 refine hR2 _ ?_; clear hR2 R2
 refine AWp.ret ?_
 refine ret_intro (by show resV Tryz.prog _ [.tmp 4] = _; simp only [resV, am, seval, reduceCtorEq]; rfl) (Wk.refl _) (Heap.le.refl _) ⟨?_, rfl⟩
 rfl
end Go.Proofs.YtcckhbconihagaaGreatDoor
