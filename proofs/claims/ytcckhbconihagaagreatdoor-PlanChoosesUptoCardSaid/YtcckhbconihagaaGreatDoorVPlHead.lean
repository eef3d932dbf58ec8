/- The laws' head: the answers that the document fixes. -/
import Derived.Test.YtcckhbconihagaaGreatDoorV3
import Derived.Test.YtcckhbconihagaaGreatDoorVPlReach
set_option linter.unusedSimpArgs false
set_option linter.unusedVariables false
set_option maxRecDepth 100000
namespace Go.Am
/-- A slice whose elements are told less of. -/
def WkLL : List (List V) → List (List V) → Prop
 | [], [] => True
 | c :: l, c' :: l' => WkL c c' ∧ WkLL l l'
 | _, _ => False
theorem WkL.len : ∀ {l l' : List V}, WkL l l' → l.length = l'.length
 | [], [], _ => rfl
 | [], _ :: _, h => h.elim
 | _ :: _, [], h => h.elim
 | _ :: l, _ :: l', h => by simp [WkL.len h.2]
theorem WkL.get : ∀ {l l' : List V}, WkL l l' → ∀ {j : Nat} {c' : V}, l'[j]? = some c' → ∃ c, l[j]? = some c ∧ Wk c c'
 | [], [], _, j, c', e => by simp at e
 | [], _ :: _, h, _, _, _ => h.elim
 | _ :: _, [], h, _, _, _ => h.elim
 | x :: l, x' :: l', h, 0, c', e => by simp at e; subst e; exact ⟨x, rfl, h.1⟩
 | x :: l, x' :: l', h, j + 1, c', e => by simpa using WkL.get h.2 (by simpa using e)
theorem WkLL.len : ∀ {l l' : List (List V)}, WkLL l l' → l.length = l'.length
 | [], [], _ => rfl
 | [], _ :: _, h => h.elim
 | _ :: _, [], h => h.elim
 | _ :: l, _ :: l', h => by simp [WkLL.len h.2]
theorem WkLL.get : ∀ {l l' : List (List V)}, WkLL l l' → ∀ {j : Nat} {c' : List V}, l'[j]? = some c' → ∃ c, l[j]? = some c ∧ WkL c c'
 | [], [], _, j, c', e => by simp at e
 | [], _ :: _, h, _, _, _ => h.elim
 | _ :: _, [], h, _, _, _ => h.elim
 | x :: l, x' :: l', h, 0, c', e => by simp at e; subst e; exact ⟨x, rfl, h.1⟩
 | x :: l, x' :: l', h, j + 1, c', e => by simpa using WkLL.get h.2 (by simpa using e)
theorem Wk.slice {sz : Nat} {es es' : List (List V)} (h : WkLL es es') : Wk (.slice sz es) (.slice sz es') := fun G v hv => by
 have hl := h.len
 cases hv with
 | slice0 _ a cap =>
  obtain rfl : es' = [] := List.eq_nil_of_length_eq_zero (by simpa using hl.symm)
  exact .slice0 sz a cap
 | slice _ _ b o cap cells h1 h2 h3 h4 h5 h6 =>
  rw [hl]
  refine .slice sz es' b o cap cells (fun cs hcs => ?_) (by omega) h3 (fun k hk => h4 k (by rw [hl]; exact hk)) (fun i j cs c hi hj => ?_) (fun k hk => h6 k (by rw [hl]; exact hk))
  ·obtain ⟨i, hi, e⟩ := List.mem_iff_getElem.1 hcs
   obtain ⟨c, hc, hw⟩ := h.get (List.getElem?_eq_some_iff.2 ⟨hi, e⟩)
   rw [← hw.len]
   exact h1 c (List.mem_of_getElem? hc)
  ·obtain ⟨c0, hc0, hw⟩ := h.get hi
   obtain ⟨d, hd, hwd⟩ := hw.get hj
   exact hwd G _ (h5 i j c0 d hc0 hd)
end Go.Am
namespace Go.Proofs.YtcckhbconihagaaGreatDoor
open Go.Am Go.Pl
def hF (n frm : Int) : Term := ⟨100, false, n, frm, 0, .empty, 0, 0, .empty, 0, 0, 0, [], []⟩
def hT : Term := ⟨7, false, 0, 0, 0, .empty, 0, 0, .empty, 0, 0, 0, [hF 0 3, hF 1 2, hF 0 1], []⟩
def hS : Step := ⟨0, 0, .empty, [], [], [], []⟩
def hA : Arm := ⟨0, false, false, [], [], [], false, [], [], [], [], [], [hS]⟩
def hR : Resolved := ⟨[], ⟨[], [hA], [], [], []⟩⟩
theorem hT_hits : canon (hTerm hT 0) = [1, 3] := by
 simp [hT, hF, hTerm, hTerms, hQueries, canon, puts, put]
theorem hT_w : hT.w ≤ 274945015808 := by simp [hT, hF, Term.w]
theorem hR_w : hR.w ≤ 137455730688 := by simp [hR, hA, hS, Resolved.w, Query.w, Arm.w, Step.w]
theorem hR_may : (wResolved (kfa okN) mff hR (some true)).1 = some false := by
 rw [kwResolved (kfa okN) mff (fun s a => rfl) (fun s t d => rfl)]
 simp [cResolved, hR, cQuery, cTerms, cArms, cArm, hA, cRows, cFroms, cAggs, cSteps, cStep, hS, cBounds, kfa, okN]
def fv (n frm : Int) : List V := [vint 100, vbool false, vint n, vint frm, vint 0, vstr .empty, vint 0, vint 0, vstr .empty, vint 0, vint 0, vint 0, .nil, .nil]
def tv : List V := [vint 7, vbool false, vint 0, vint 0, vint 0, vstr .empty, vint 0, vint 0, vstr .empty, vint 0, vint 0, vint 0, .slice 14 [fv 0 3, fv 1 2, fv 0 1], .nil]
theorem fv_wk (n frm : Int) : WkL (fv n frm) (hF n frm).v := by
 rw [Term.v_eq]
 exact ⟨Wk.refl _, Wk.refl _, Wk.refl _, Wk.refl _, Wk.refl _, Wk.refl _, Wk.refl _, Wk.refl _, Wk.refl _, Wk.refl _, Wk.refl _, Wk.refl _, Wk.nil _, Wk.nil _, trivial⟩
theorem tv_wk : WkL tv hT.v := by
 rw [Term.v_eq]
 exact ⟨Wk.refl _, Wk.refl _, Wk.refl _, Wk.refl _, Wk.refl _, Wk.refl _, Wk.refl _, Wk.refl _, Wk.refl _, Wk.refl _, Wk.refl _, Wk.refl _, Wk.slice ⟨fv_wk _ _, fv_wk _ _, fv_wk _ _, trivial⟩, Wk.nil _, trivial⟩
def sv : List V := [vint 0, vint 0, vstr .empty, .nil, .nil, .nil, .nil]
def av : List V := [vint 0, vbool false, vbool false, .nil, .nil, .nil, vbool false, .nil, .nil, .nil, .nil, .nil, .slice 7 [sv]]
def rv : List V := [.nil, .nil, .slice 13 [av], .nil, .nil, .nil]
theorem sv_wk : WkL sv hS.v := by
 rw [Step.v_eq]
 exact ⟨Wk.refl _, Wk.refl _, Wk.refl _, Wk.nil _, Wk.nil _, Wk.nil _, Wk.nil _, trivial⟩
theorem av_wk : WkL av hA.v := by
 rw [Arm.v_eq]
 exact ⟨Wk.refl _, Wk.refl _, Wk.refl _, Wk.nil _, Wk.nil _, Wk.nil _, Wk.refl _, Wk.nil _, Wk.nil _, Wk.nil _, Wk.nil _, Wk.nil _, Wk.slice ⟨sv_wk, trivial⟩, trivial⟩
theorem rv_wk : WkL rv hR.v := by
 rw [Resolved.v_eq, Query.v_eq]
 exact ⟨Wk.nil _, Wk.nil _, Wk.slice ⟨av_wk, trivial⟩, Wk.nil _, Wk.nil _, Wk.nil _, trivial⟩
theorem head_reach (s : Heap) : ACalls Tryz.prog 11 [.agg tv] s fun v s' => v = .slice 1 [[vint 1], [vint 3]] ∧ s' = s := by
 have h := (f11_spec hT hT_w s).wk (show WkL [.agg tv] [.agg hT.v] from ⟨Wk.agg tv_wk, trivial⟩)
 rw [hT_hits] at h
 exact h
theorem head_may (s : Heap) : ACalls Tryz.prog 9 [.agg [.nil, .nil, .nil], .agg rv] s fun v s' => v = vint 340 ∧ s' = s :=
 by
 have h := (f9_gen _ _ _ rfl rfl rfl _ _ vis_none hR (Nat.le_trans hR_w (by decide)) false hR_may s).wk (show WkL [.agg [.nil, .nil, .nil], .agg rv] [.agg scN.v, .agg hR.v] from ⟨Wk.agg ⟨Wk.nil _, Wk.nil _, Wk.refl _, trivial⟩, Wk.agg rv_wk, trivial⟩)
 exact h
/-- **The head.** -/
theorem f8_spec : Gives Tryz.prog 8 [] (vbool true) := by
 intro s; refine acalls_of (fn := Tryz.f8) Tryz.func8 rfl (by decide) (by show 0 ≤ 38; decide) ?_; rw [Tryz.ntmps8]; have r1 := head_reach; have r2 := head_may; simp only [tv, fv, rv, av, sv, vint, vbool, vstr] at r1 r2; refine rg fun Z z' => ?_; simp only [am, seval, reduceCtorEq]; refine z' _ ?_; clear z' Z; refine rg fun Z z' => ?_; simp only [amt, seval, reduceCtorEq]; refine z' _ ?_; clear z' Z; refine rg fun Z z' => ?_; simp only [amt, seval, reduceCtorEq]; refine (r1 _).go ?_; simp only [amt, seval, reduceCtorEq]; refine z' _ ?_; clear z' Z; refine rg fun Z z' => ?_; simp only [amt, seval, reduceCtorEq]; refine z' _ ?_; clear z' Z; refine rg fun Z z' => ?_; have a1 : (((2 : Nat) : Int) == 2) = true := rfl; have a2 : ((0 : Int) ≤ 0) = True := by simp
 have a3 : ((0 : Int) < ((2 : Nat) : Int)) = True := by simp
 have a4 : ((0 : Int) ≤ 1) = True := by simp
 have a5 : ((1 : Int) < ((2 : Nat) : Int)) = True := by simp
 have a6 : ((1 : Int) == 1) = true := rfl; have a7 : ((3 : Int) == 3) = true := rfl; have a8 : ((340 : Int) == 340) = true := rfl; have a9 : (1 : Int).toNat = 1 := rfl; simp only [a1, a2, a3, a4, a5, a6, a7, a9, Int.toNat_zero, amt, seval, reduceCtorEq]; refine (r2 _).go ?_; simp only [a8, amt, seval, reduceCtorEq]; refine z' _ ?_; clear z' Z; refine AWp.ret ?_; exact rt (vs := [vbool true]) rfl ⟨rfl, rfl⟩
end Go.Proofs.YtcckhbconihagaaGreatDoor
