/- The laws' head: the answers that the document fixes. -/
import Derived.Test.YtcckhbconihagaaGreatDoorS4
import Derived.Test.YtcckhbconihagaaGreatDoorSPlReach
import Derived.Test.YtcckhbconihagaaGreatDoorS10
import Derived.Test.YtcckhbconihagaaGreatDoorS9
import Derived.Test.YtcckhbconihagaaGreatDoorS15
import Derived.Test.YtcckhbconihagaaGreatDoorS2
set_option linter.unusedSimpArgs false
set_option linter.unusedVariables false
set_option maxRecDepth 100000
namespace Go.Am
/-- A slice whose elements are told less of. -/
def WkLL : List (List V) → List (List V) → Prop
  | [], [] => True
  | c :: l, c' :: l' => WkL c c' ∧ WkLL l l'
  | _, _ => False
theorem WkL.len : ∀ {l l' : List V}, WkL l l' → l.length = l'.length
  | [], [], _ => rfl
  | [], _ :: _, h => h.elim
  | _ :: _, [], h => h.elim
  | _ :: l, _ :: l', h => by simp [WkL.len h.2]
theorem WkL.get : ∀ {l l' : List V}, WkL l l' → ∀ {j : Nat} {c' : V}, l'[j]? = some c' → ∃ c, l[j]? = some c ∧ Wk c c'
  | [], [], _, j, c', e => by simp at e
  | [], _ :: _, h, _, _, _ => h.elim
  | _ :: _, [], h, _, _, _ => h.elim
  | x :: l, x' :: l', h, 0, c', e => by simp at e; subst e; exact ⟨x, rfl, h.1⟩
  | x :: l, x' :: l', h, j + 1, c', e => by simpa using WkL.get h.2 (by simpa using e)
theorem WkLL.len : ∀ {l l' : List (List V)}, WkLL l l' → l.length = l'.length
  | [], [], _ => rfl
  | [], _ :: _, h => h.elim
  | _ :: _, [], h => h.elim
  | _ :: l, _ :: l', h => by simp [WkLL.len h.2]
theorem WkLL.get : ∀ {l l' : List (List V)}, WkLL l l' → ∀ {j : Nat} {c' : List V}, l'[j]? = some c' → ∃ c, l[j]? = some c ∧ WkL c c'
  | [], [], _, j, c', e => by simp at e
  | [], _ :: _, h, _, _, _ => h.elim
  | _ :: _, [], h, _, _, _ => h.elim
  | x :: l, x' :: l', h, 0, c', e => by simp at e; subst e; exact ⟨x, rfl, h.1⟩
  | x :: l, x' :: l', h, j + 1, c', e => by simpa using WkLL.get h.2 (by simpa using e)
theorem Wk.slice {sz : Nat} {es es' : List (List V)} (h : WkLL es es') : Wk (.slice sz es) (.slice sz es') := fun G v hv => by
  have hl := h.len
  cases hv with
  | slice0 _ a cap =>
    obtain rfl : es' = [] := List.eq_nil_of_length_eq_zero (by simpa using hl.symm)
    exact .slice0 sz a cap
  | slice _ _ b o cap cells h1 h2 h3 h4 h5 h6 =>
    rw [hl]
    refine .slice sz es' b o cap cells (fun cs hcs => ?_) (by omega) h3 (fun k hk => h4 k (by rw [hl]; exact hk)) (fun i j cs c hi hj => ?_) (fun k hk => h6 k (by rw [hl]; exact hk))
    · obtain ⟨i, hi, e⟩ := List.mem_iff_getElem.1 hcs
      obtain ⟨c, hc, hw⟩ := h.get (List.getElem?_eq_some_iff.2 ⟨hi, e⟩)
      rw [← hw.len]
      exact h1 c (List.mem_of_getElem? hc)
    · obtain ⟨c0, hc0, hw⟩ := h.get hi
      obtain ⟨d, hd, hwd⟩ := hw.get hj
      exact hwd G _ (h5 i j c0 d hc0 hd)
end Go.Am
namespace Go.Proofs.YtcckhbconihagaaGreatDoor
open Go.Am Go.Pl
def hF (n frm : Int) : Term := ⟨100, false, n, frm, 0, .empty, 0, 0, .empty, 0, 0, 0, [], []⟩
def hT : Term := ⟨7, false, 0, 0, 0, .empty, 0, 0, .empty, 0, 0, 0, [hF 0 3, hF 1 2, hF 0 1], []⟩
def hS : Step := ⟨0, 0, .empty, [], [], [], []⟩
def hA : Arm := ⟨0, false, false, [], [], [], false, [], [], [], [], [], [hS]⟩
def hR : Resolved := ⟨[], ⟨[], [hA], [], [], []⟩⟩
theorem hT_hits : canon (hTerm hT 0) = [1, 3] := by
  simp [hT, hF, hTerm, hTerms, hQueries, canon, puts, put]
theorem hT_w : hT.w ≤ 274945015808 := by simp [hT, hF, Term.w]
theorem hR_w : hR.w ≤ 137455730688 := by simp [hR, hA, hS, Resolved.w, Query.w, Arm.w, Step.w]
def hSc : Schema := ⟨[], [], .nil⟩
theorem hR_may : mayR hSc hR = false := by
  simp [mayR, cResolved, hR, cQuery, cTerms, cArms, cArm, hA, cRows, cFroms, cAggs, cSteps, cStep, hS, cBounds, okA, armOk, stepsOk, stepBad]
def fv (n frm : Int) : List V := [vint 100, vbool false, vint n, vint frm, vint 0, vstr .empty, vint 0, vint 0, vstr .empty, vint 0, vint 0, vint 0, .nil, .nil]
def tv : List V := [vint 7, vbool false, vint 0, vint 0, vint 0, vstr .empty, vint 0, vint 0, vstr .empty, vint 0, vint 0, vint 0, .slice 14 [fv 0 3, fv 1 2, fv 0 1], .nil]
theorem fv_wk (n frm : Int) : WkL (fv n frm) (hF n frm).v := by
  rw [Term.v_eq]
  exact ⟨Wk.refl _, Wk.refl _, Wk.refl _, Wk.refl _, Wk.refl _, Wk.refl _, Wk.refl _, Wk.refl _, Wk.refl _, Wk.refl _, Wk.refl _, Wk.refl _, Wk.nil _, Wk.nil _, trivial⟩
theorem tv_wk : WkL tv hT.v := by
  rw [Term.v_eq]
  exact ⟨Wk.refl _, Wk.refl _, Wk.refl _, Wk.refl _, Wk.refl _, Wk.refl _, Wk.refl _, Wk.refl _, Wk.refl _, Wk.refl _, Wk.refl _, Wk.refl _, Wk.slice ⟨fv_wk _ _, fv_wk _ _, fv_wk _ _, trivial⟩, Wk.nil _, trivial⟩
def sv : List V := [vint 0, vint 0, vstr .empty, .nil, .nil, .nil, .nil]
def av : List V := [vint 0, vbool false, vbool false, .nil, .nil, .nil, vbool false, .nil, .nil, .nil, .nil, .nil, .slice 7 [sv]]
def rv : List V := [.nil, .nil, .slice 13 [av], .nil, .nil, .nil]
theorem sv_wk : WkL sv hS.v := by
  rw [Step.v_eq]
  exact ⟨Wk.refl _, Wk.refl _, Wk.refl _, Wk.nil _, Wk.nil _, Wk.nil _, Wk.nil _, trivial⟩
theorem av_wk : WkL av hA.v := by
  rw [Arm.v_eq]
  exact ⟨Wk.refl _, Wk.refl _, Wk.refl _, Wk.nil _, Wk.nil _, Wk.nil _, Wk.refl _, Wk.nil _, Wk.nil _, Wk.nil _, Wk.nil _, Wk.nil _, Wk.slice ⟨sv_wk, trivial⟩, trivial⟩
theorem rv_wk : WkL rv hR.v := by
  rw [Resolved.v_eq, Query.v_eq]
  exact ⟨Wk.nil _, Wk.nil _, Wk.slice ⟨av_wk, trivial⟩, Wk.nil _, Wk.nil _, Wk.nil _, trivial⟩
theorem head_reach (s : Heap) : ACalls Tryz.prog 11 [.agg tv] s fun v s' => v = .slice 1 [[vint 1], [vint 3]] ∧ s' = s := by
  have h := (f11_spec hT hT_w s).wk (show WkL [.agg tv] [.agg hT.v] from ⟨Wk.agg tv_wk, trivial⟩)
  rw [hT_hits] at h
  exact h
theorem head_may (s : Heap) : ACalls Tryz.prog 9 [.agg [.nil, .nil, .nil], .agg rv] s fun v s' => v = vint 340 ∧ s' = s :=
  by
  have h := (f9_all hSc ⟨rfl, fun t ht => by cases ht⟩ hR hR_w s).wk (show WkL [.agg [.nil, .nil, .nil], .agg rv] [.agg hSc.v, .agg hR.v] from ⟨Wk.agg ⟨Wk.nil _, Wk.nil _, Wk.refl _, trivial⟩, Wk.agg rv_wk, trivial⟩)
  rw [hR_may] at h
  exact h
/-- **The head.** -/
theorem f8_spec : Gives Tryz.prog 8 [] (vbool true) := by
 intro s
 refine acalls_of (fn := Tryz.f8) Tryz.func8 rfl (by decide) (by show 0 ≤ 38; decide) ?_
 rw [Tryz.ntmps8]
 have r1 := head_reach
 have r2 := head_may
 simp only [tv, fv, rv, av, sv, vint, vbool, vstr] at r1 r2
 refine AWp.reg fun R1 hR1 => ?_
 simp only [am, seval, reduceCtorEq]
 refine hR1 _ ?_; clear hR1 R1
 refine AWp.reg fun R1 hR1 => ?_
 simp only [ty31, ty49, am, seval, reduceCtorEq]
 refine hR1 _ ?_; clear hR1 R1
 refine AWp.reg fun R1 hR1 => ?_
 simp only [ty49, am, seval, reduceCtorEq]
 refine (r1 _).mono fun v' s' h => ?_
 rw [h.1, h.2]; clear h v' s'
 simp only [ty49, am, seval, reduceCtorEq]
 refine hR1 _ ?_; clear hR1 R1
 refine AWp.reg fun R1 hR1 => ?_
 simp only [ty29, ty33, ty35, ty68, ty69, ty75, am, seval, reduceCtorEq]
 refine hR1 _ ?_; clear hR1 R1
 refine AWp.reg fun R1 hR1 => ?_
 have a1 : (((2 : Nat) : Int) == 2) = true := rfl
 have a2 : ((0 : Int) ≤ 0) = True := by simp
 have a3 : ((0 : Int) < ((2 : Nat) : Int)) = True := by simp
 have a4 : ((0 : Int) ≤ 1) = True := by simp
 have a5 : ((1 : Int) < ((2 : Nat) : Int)) = True := by simp
 have a6 : ((1 : Int) == 1) = true := rfl
 have a7 : ((3 : Int) == 3) = true := rfl
 have a8 : ((340 : Int) == 340) = true := rfl
 have a9 : (1 : Int).toNat = 1 := rfl
 simp only [a1, a2, a3, a4, a5, a6, a7, a9, Int.toNat_zero, ty3, ty26, ty35, ty37, ty50, am, seval, reduceCtorEq]
 refine (r2 _).mono fun v' s' h => ?_
 rw [h.1, h.2]; clear h v' s'
 simp only [a8, ty3, ty26, ty35, ty37, ty50, am, seval, reduceCtorEq]
 refine hR1 _ ?_; clear hR1 R1
 refine AWp.ret ?_
 exact ret_intro (vs := [vbool true]) rfl (Wk.refl _) (Heap.le.refl _) ⟨rfl, rfl⟩
end Go.Proofs.YtcckhbconihagaaGreatDoor
set_option linter.unusedVariables false
set_option linter.unusedSimpArgs false
namespace Go.Proofs.YtcckhbconihagaaGreatDoor
open Go.Am Go.Pl
mutual
theorem wwTerm : ∀ (t : Term), t.plain.w ≤ t.w
  | ⟨op, neg, n, frm, col, name, vk, vi, vt, coll, l, r, args, sub⟩ => by
    rw [Term.plain, Term.w, Term.w]
    have i0 := wwTerms args
    have i1 := wwQueries sub
    omega
theorem wwQuery : ∀ (t : Query), t.plain.w ≤ t.w
  | ⟨names, arms, order, limit, offset⟩ => by
    rw [Query.plain, Query.w, Query.w]
    have i0 := wwTerms limit
    have i1 := wwTerms offset
    have i2 := wwArms arms
    omega
theorem wwArm : ∀ (t : Arm), t.plain.w ≤ t.w
  | ⟨comp, distinct, values, rows, frm, whr, grouped, group, aggs, having, out, extra, steps⟩ => by
    rw [Arm.plain, Arm.w, Arm.w]
    have i0 := wwRows rows
    have i1 := wwFroms frm
    have i2 := wwAggs aggs
    have i4 := wwTerms whr
    have i5 := wwTerms group
    have i6 := wwTerms having
    have i7 := wwTerms out
    have i8 := wwTerms extra
    simp only [List.map_nil, List.sum_nil]
    omega
theorem wwFrom : ∀ (t : From), t.plain.w ≤ t.w
  | ⟨join, kind, name, n, width, sub, on⟩ => by
    rw [From.plain, From.w, From.w]
    have i0 := wwQueries sub
    have i1 := wwTerms on
    omega
theorem wwAgg : ∀ (t : Agg), t.plain.w ≤ t.w
  | ⟨name, distinct, star, coll, arg⟩ => by
    rw [Agg.plain, Agg.w, Agg.w]
    have i0 := wwTerms arg
    omega
theorem wwTerms : ∀ (l : List Term), ((l.map Term.plain).map Term.w).sum ≤ (l.map Term.w).sum
  | [] => Nat.le_refl _
  | t :: l => by
    have i1 := wwTerm t
    have i2 := wwTerms l
    simp only [List.map_cons, List.sum_cons]
    omega
theorem wwQueries : ∀ (l : List Query), ((l.map Query.plain).map Query.w).sum ≤ (l.map Query.w).sum
  | [] => Nat.le_refl _
  | t :: l => by
    have i1 := wwQuery t
    have i2 := wwQueries l
    simp only [List.map_cons, List.sum_cons]
    omega
theorem wwArms : ∀ (l : List Arm), ((l.map Arm.plain).map Arm.w).sum ≤ (l.map Arm.w).sum
  | [] => Nat.le_refl _
  | t :: l => by
    have i1 := wwArm t
    have i2 := wwArms l
    simp only [List.map_cons, List.sum_cons]
    omega
theorem wwRows : ∀ (l : List (List Term)), ((l.map fun l => l.map Term.plain).map (fun l : List Term => 1 + (l.map Term.w).sum)).sum ≤ (l.map (fun l : List Term => 1 + (l.map Term.w).sum)).sum
  | [] => Nat.le_refl _
  | t :: l => by
    have i1 := wwTerms t
    have i2 := wwRows l
    simp only [List.map_cons, List.sum_cons]
    omega
theorem wwFroms : ∀ (l : List From), ((l.map From.plain).map From.w).sum ≤ (l.map From.w).sum
  | [] => Nat.le_refl _
  | t :: l => by
    have i1 := wwFrom t
    have i2 := wwFroms l
    simp only [List.map_cons, List.sum_cons]
    omega
theorem wwAggs : ∀ (l : List Agg), ((l.map Agg.plain).map Agg.w).sum ≤ (l.map Agg.w).sum
  | [] => Nat.le_refl _
  | t :: l => by
    have i1 := wwAgg t
    have i2 := wwAggs l
    simp only [List.map_cons, List.sum_cons]
    omega
end
theorem wwWiths : ∀ (l : List With), ((l.map With.plain).map With.w).sum ≤ (l.map With.w).sum
  | [] => Nat.le_refl _
  | x :: l => by
    have i1 := wwQuery x.query
    have i2 := wwQueries x.step
    have i3 := wwWiths l
    simp only [List.map_cons, List.sum_cons, With.w_eq, With.plain]
    omega
theorem wwResolved (r : Resolved) : r.plain.w ≤ r.w := by
  have i1 := wwQuery r.query
  have i2 := wwWiths r.withs
  simp only [Resolved.w_eq, Resolved.plain]
  omega
end Go.Proofs.YtcckhbconihagaaGreatDoor
set_option linter.unusedSimpArgs false
set_option linter.unusedVariables false
set_option maxRecDepth 100000
namespace Go.Proofs.YtcckhbconihagaaGreatDoor
open Go.Am Go.Pl
theorem SchP.v_take (sc : Schema) : sc.v.take 3 = sc.v := rfl
theorem ResP.v_len (r : Resolved) : r.v.length = 6 := Resolved.v_len r
theorem ResP.v_all (r : Resolved) : r.v.all V.isCell = true := by rw [Resolved.v_eq, List.all_append, Query.v_eq]; rfl
theorem ResP.v_take (r : Resolved) : r.v.take 6 = r.v := List.take_of_length_le (by rw [ResP.v_len]; exact Nat.le_refl _)
theorem f6_spec (sc : Schema) (hs : SchOk sc) (hsp : ScPl sc) (r : Resolved) (picks : List Int) (K : Nat) (hK : ∀ i ∈ sc.indexes, i.keys.length ≤ K) (hcb : (2 * K + 6) * r.w ≤ 137455730688) (hsz : 2 * r.w + sc.indexes.length ≤ 2^21) (hw : r.w ≤ 1048576) : Gives Tryz.prog 6 [.agg sc.v, .agg r.v, vints picks] (vbool true) := by
 obtain ⟨q1, y, hy, _, hpl, hall, hyw⟩ := pkResolved (ch := chP picks) (s := sc) (K := K) (C := 2 * K + 6) (B := r.w) (W := 137455730688) ⟨hcb, hsz, chP_mem picks, chP_inc picks, hK, Nat.le_refl _⟩ r 0 (by omega) (Nat.le_refl _)
 have z0 : ((0 : Int) == 0) = true := rfl
 have hpw : r.plain.w ≤ r.w := wwResolved r
 have hyw' : y.w ≤ 137455730688 := by omega
 have h16 : Gives Tryz.prog 16 [.agg sc.v, .agg r.v, vints picks] (.agg y.v) := f16_spec sc hsp r (by omega) (by omega) picks q1 y hy
 have h9 : Gives Tryz.prog 9 [.agg sc.v, .agg y.v] (vint 0) := by
  have := f9_all sc hs y hyw'
  rwa [show mayR sc y = true from hall, if_pos rfl] at this
 have h13r := f13_spec r (by omega)
 have h13y := f13_spec y (by omega)
 rw [hpl] at h13y
 have h17a := f17_spec r.plain r.plain
 rw [same_self] at h17a
 have h17b := f17_spec y y
 rw [same_self] at h17b
 intro s
 refine acalls_of (fn := Tryz.f6) Tryz.func6 rfl (by decide) (by show 3 ≤ 34; decide) ?_
 rw [Tryz.ntmps6]
 refine AWp.reg fun R1 hR1 => ?_
 simp only [Sch.v_all hs.1, Sch.v_len, SchP.v_take, ResP.v_len, ResP.v_all, ResP.v_take, z0, ty26, ty35, am, seval, reduceCtorEq]
 refine hR1 _ ?_; clear hR1 R1
 refine AWp.reg fun R2 hR2 => ?_
 simp only [Sch.v_all hs.1, Sch.v_len, SchP.v_take, ResP.v_len, ResP.v_all, ResP.v_take, z0, ty26, ty35, am, seval, reduceCtorEq]
 refine (h16 _).mono fun v' s' h => ?_
 rw [h.1, h.2]; clear h v' s'
 simp only [Sch.v_all hs.1, Sch.v_len, SchP.v_take, ResP.v_len, ResP.v_all, ResP.v_take, z0, ty26, ty35, am, seval, reduceCtorEq]
 refine hR2 _ ?_; clear hR2 R2
 refine AWp.regL mixed [0, 1, 2, 3, 4, 5, 6, 7, 8, 10, 9, 11, 12, 13, 14, 15, 16, 17, 19, 18, 20, 21, 22] (by decide +kernel) [99999] (by decide +kernel) fun R3 hR3 => ?_
 simp only [Sch.v_all hs.1, Sch.v_len, SchP.v_take, ResP.v_len, ResP.v_all, ResP.v_take, z0, ty26, ty35, ty37, undef, aml, Nat.reduceBEq, am, seval, reduceCtorEq]
 refine (f8_spec _).mono fun v' s' h => ?_
 rw [h.1, h.2]; clear h v' s'
 simp only [Sch.v_all hs.1, Sch.v_len, SchP.v_take, ResP.v_len, ResP.v_all, ResP.v_take, z0, ty26, ty35, ty37, undef, aml, Nat.reduceBEq, am, seval, reduceCtorEq]
 refine (h9 _).mono fun v' s' h => ?_
 rw [h.1, h.2]; clear h v' s'
 simp only [Sch.v_all hs.1, Sch.v_len, SchP.v_take, ResP.v_len, ResP.v_all, ResP.v_take, z0, ty26, ty35, ty37, undef, aml, Nat.reduceBEq, am, seval, reduceCtorEq]
 refine (h13y _).mono fun v' s' h => ?_
 rw [h.1, h.2]; clear h v' s'
 simp only [Sch.v_all hs.1, Sch.v_len, SchP.v_take, ResP.v_len, ResP.v_all, ResP.v_take, z0, ty26, ty35, ty37, undef, aml, Nat.reduceBEq, am, seval, reduceCtorEq]
 refine (h13r _).mono fun v' s' h => ?_
 rw [h.1, h.2]; clear h v' s'
 simp only [Sch.v_all hs.1, Sch.v_len, SchP.v_take, ResP.v_len, ResP.v_all, ResP.v_take, z0, ty26, ty35, ty37, undef, aml, Nat.reduceBEq, am, seval, reduceCtorEq]
 refine (h17a _).mono fun v' s' h => ?_
 rw [h.1, h.2]; clear h v' s'
 simp only [Sch.v_all hs.1, Sch.v_len, SchP.v_take, ResP.v_len, ResP.v_all, ResP.v_take, z0, ty26, ty35, ty37, undef, aml, Nat.reduceBEq, am, seval, reduceCtorEq]
 refine (h16 _).mono fun v' s' h => ?_
 rw [h.1, h.2]; clear h v' s'
 simp only [Sch.v_all hs.1, Sch.v_len, SchP.v_take, ResP.v_len, ResP.v_all, ResP.v_take, z0, ty26, ty35, ty37, undef, aml, Nat.reduceBEq, am, seval, reduceCtorEq]
 refine (h17b _).mono fun v' s' h => ?_
 rw [h.1, h.2]; clear h v' s'
 simp only [Sch.v_all hs.1, Sch.v_len, SchP.v_take, ResP.v_len, ResP.v_all, ResP.v_take, z0, ty26, ty35, ty37, undef, aml, Nat.reduceBEq, am, seval, reduceCtorEq]
 refine hR3 _ ?_; clear hR3 R3
 refine AWp.ret ?_
 refine ret_intro (by show resV Tryz.prog _ [.tmp 6] = _; simp only [resV, am, seval, reduceCtorEq]; rfl) (Wk.refl _) (Heap.le.refl _) ⟨?_, rfl⟩
 rfl
theorem four_mul (x y : Nat) : 4 * (x * y) ≤ (x + y) * (x + y) := by
  have one : ∀ x d : Nat, 4 * (x * (x + d)) ≤ (x + (x + d)) * (x + (x + d)) := by
    intro x d
    simp only [Nat.mul_add, Nat.add_mul, Nat.mul_comm d x]
    omega
  rcases Nat.le_total x y with hx | hx
  · obtain ⟨d, rfl⟩ := Nat.le.dest hx; exact one x d
  · obtain ⟨d, rfl⟩ := Nat.le.dest hx
    have := one y d
    rw [Nat.mul_comm (y + d) y, Nat.add_comm (y + d) y]; exact this
theorem keys_of {sc : Schema} {i : Index} (h : i ∈ sc.indexes) : i.keys.length ≤ sc.w / 4 := by
  have := mem_w Index.w sc.indexes i h
  unfold Schema.w
  unfold Index.w at *
  omega
theorem pl_bound {x w : Nat} (h : x + w ≤ 1048576) : (2 * (x / 4) + 6) * w ≤ 137455730688 := by
  have h1 : 4 * (x / 4) ≤ x := by omega
  generalize x / 4 = k at h1
  have h2 := four_mul (4 * k) w
  have h3 : (4 * k + w) * (4 * k + w) ≤ 1048576 * 1048576 := Nat.mul_le_mul (by omega) (by omega)
  rw [Nat.mul_assoc] at h2
  rw [Nat.add_mul, Nat.mul_assoc]
  omega
theorem ScPl.of {sc : Schema} (h1 : sc.views.isCell = true) (h : sc.w ≤ 1048576) : ScPl sc := by
  have hi := len_le (f := Index.w) (fun x => by unfold Index.w; omega) sc.indexes
  have hs : SchOk sc := ⟨h1, fun t ht => by
    have e1 := mem_w Table.w sc.tables t ht
    unfold Schema.w at h
    unfold Table.w at e1 h
    omega⟩
  refine ⟨hs, fun i hi => by have := keys_of hi; omega, ?_⟩
  have : sc.indexes.length ≤ sc.w := by unfold Schema.w; omega
  omega
theorem f6_all (sc : Schema) (h1 : sc.views.isCell = true) (r : Resolved) (picks : List Int) (hb : sc.w + r.w ≤ 1048576) : Gives Tryz.prog 6 [.agg sc.v, .agg r.v, vints picks] (vbool true) := by
  have hsp := ScPl.of h1 (by omega : sc.w ≤ 1048576)
  have hi := len_le (f := Index.w) (fun x => by unfold Index.w; omega) sc.indexes
  have : sc.indexes.length ≤ sc.w := by unfold Schema.w; omega
  exact f6_spec sc hsp.ok hsp r picks (sc.w / 4) (fun i hi => keys_of hi) (pl_bound hb) (by omega) (by omega)
theorem rep_one {G : Ghost} {c : V} {v : Value} (h : RepL G [c] [v]) : Rep G c v := by
  obtain ⟨v', vs', e, h1, h2⟩ := h.uncons
  cases e; exact h1
theorem rd50_any {H : Type} (enc : TypeId × Value → H) (W : World) : ∀ n, Rd enc Tryz.prog W n 50 (fun l : List Int => [vints l]) (fun l : List Int => 1 + (l.map fun _ => 1).sum) := fun m => by
  cases m with
  | zero => exact rd_zero
  | succ m => exact rd_slice Tryz.underlying50 (by kernel_rfl : Tryz.prog.cellsOf 3 = 1) (by decide) (fun a => ⟨rfl, rfl⟩) (rd_int Tryz.underlying3)
end Go.Proofs.YtcckhbconihagaaGreatDoor
