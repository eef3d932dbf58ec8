/- What a call leaves of the keys that it does not see; a box whose cells turn no more. -/
import Derived.Test.YtdomhnkffghmlaaGreatDoorSAmMore
set_option linter.unusedVariables false
set_option linter.unusedSimpArgs false
namespace Go.Am
variable {P : Program}
/-- Of a slice of nothing its value is one of these. -/
theorem ACalls.empty {f : FuncId} {sz : Nat} {s : Heap} {R : V → Heap → Prop} (h : ∀ a cap, ACalls P f [.base (.slice a 0 cap)] s R) : ACalls P f [.slice sz []] s R :=
 ⟨(h none 0).1, fun G w cargs hh ha => by
  obtain ⟨v, vs, e, hv, hr⟩ := ha.uncons
  have e2 := hr.nil_inv
  subst e2
  obtain ⟨a, cap, rfl⟩ : ∃ a cap, v = .slice a 0 cap := by cases hv <;> exact ⟨_, _, rfl⟩
  exact (h a cap).2 G w cargs hh (by rw [e]; exact RepL.cons (Rep.base _) (RepL.nil G))⟩
def Heap.delBox (s : Heap) (b : Nat) : Heap := { s with box := upd s.box b none }
theorem delBox_le (s : Heap) (b : Nat) : s.le (s.delBox b) :=
 ⟨fun b' => by
  by_cases e : b' = b
  ·subst e; exact .inr (upd_same _ _ _)
  ·exact .inl (upd_other _ _ _ _ e), fun g => .inl rfl⟩
/-- A result in a heap box of its own turns no more. -/
theorem ACalls.freeze {f : FuncId} {args : List V} {s : Heap} {R R' : V → Heap → Prop} (h : ACalls P f args s R)
  (hr : ∀ v s', R v s' → (∃ a cap, v = .base (.slice a 0 cap) ∧ R' (.slice 1 []) s') ∨ ∃ b n cap cs ty, v = .base (.slice (some ⟨b, 0, none⟩) n cap) ∧ s'.box b = some (cs, ty) ∧ n ≤ cs.length ∧ cs.length = cap ∧ cap ≤ maxLen ∧ R' (.slice 1 ((cs.take n).map fun c => [c])) (s'.delBox b)) : ACalls P f args s R' := by
 refine ⟨h.1, fun G w cargs hh ha => (h.2 G w cargs hh ha).mono ?_⟩
 rintro e w' ⟨G', s', v, cv, rfl, hv, hx, hh', hR⟩
 rcases hr v s' hR with ⟨a, cap, rfl, hR'⟩ | ⟨b, n, cap, cs, ty, rfl, hb, hn, hl, hc, hR'⟩
 ·cases hv
  exact ⟨G', s', _, _, rfl, .slice0 1 a cap, hx, hh', hR'⟩
 ·cases hv
  obtain ⟨ccs, k1, k2, k3, k4⟩ := hh'.box b cs ty hb
  have hnf : ¬ foot G' (s'.delBox b) b := fun hf => by
   rcases hf with hf | ⟨g, y, v', j1, j2, j3⟩
   ·exact hf (upd_same _ _ _)
   ·have := hh'.nobox g y v' b j1 j2 j3
    rw [hb] at this; cases this
  have hfz := (hh'.weaken (delBox_le s' b)).freeze k1 hnf k4
  have hle := Ghost.freeze_le (G := G') ccs k4
  refine ⟨G'.freeze b ccs, s'.delBox b, _, _, rfl, ?_, ?_, hfz, hR'⟩
  ·have hlen : ((cs.take n).map fun c => [c]).length = n := by simp; omega
   have hcs : ccs.size = cs.length := by rw [k2.1]; simp
   have key := Rep.slice (G := G'.freeze b ccs) 1 ((cs.take n).map fun c => [c]) b 0 cap (fun k => ccs.getD k undef) (fun r hr => by obtain ⟨c, _, rfl⟩ := List.mem_map.1 hr; rfl) (by rw [hlen]; omega) hc (fun k hk => ?_) (fun i j r c hi hj => ?_) (fun k hk => ?_)
   ·rw [hlen] at key; exact key
   ·rw [hlen] at hk
    have : k < ccs.size := by omega
    simp [Ghost.freeze, this]
   ·rw [List.getElem?_map] at hi
    cases hq : (cs.take n)[i]? with
    | none => rw [hq] at hi; simp at hi
    | some c0 =>
     rw [hq] at hi
     simp only [Option.map_some, Option.some.injEq] at hi
     subst hi
     have hj0 : j = 0 := by
      have := (List.getElem?_eq_some_iff.1 hj).1
      simp at this; exact this
     subst hj0
     simp at hj
     subst hj
     rw [List.getElem?_take] at hq
     split at hq
     ·have hlt : i < ccs.size := by rw [hcs]; exact (List.getElem?_eq_some_iff.1 hq).1
      refine (k2.2 i c0 (ccs.getD (i * 1 + 0) undef) hq ?_).mono hle
      simp [hlt]
     ·cases hq
   ·rw [hlen] at hk
    have : k < ccs.size := by omega
    refine k3 _ ?_
    simp [this]
  ·refine ⟨hx.le.trans hle, hx.size, hx.os, hx.tape, hx.output, hx.keep, fun b' hf => hx.foot b' (foot_le (delBox_le s' b) hf), fun b' o hf => ?_, fun g hg => hx.keys g hg⟩
   by_cases e : b' = b
   ·subst e
    rcases hx.foot b' (.inl (by rw [hb]; simp)) with k | k
    ·exact .inr (.inl k)
    ·exact .inr (.inr k)
   ·simp only [Ghost.freeze, e, if_false] at hf
    exact hx.frz b' o hf
end Go.Am
namespace Go.Am
variable {P : Program}
/-- A cell of an element. -/
theorem flat_cell {sz : Nat} {es : List (List V)} (hs : ∀ r ∈ es, r.length = sz) {tl : List V} {i j : Nat} (hi : i < es.length) (hj : j < sz) : (es.flatten ++ tl)[i * sz + j]? = es[i][j]? := by
 have h := flat_get hs i j es[i] (List.getElem?_eq_getElem hi) hj
 have hr : es[i].length = sz := hs _ (List.getElem_mem hi)
 have : i * sz + j < es.flatten.length := by
  rw [flat_len hs]
  have : (i + 1) * sz ≤ es.length * sz := Nat.mul_le_mul_right _ hi
  rw [Nat.add_mul] at this; omega
 rw [List.getElem?_append_left this, h]
/-- Some elements are appended to nothing: their new array is a heap box. -/
theorem append_box {o : Oper} {x y : Operand} {t el : TypeId} (ho : o.op = .call { callee := .builtin .append, args := #[x, y], argTypes := #[t, t] }) {d de : TyD} (hd : tyOf P t = some d) (hs : d.shape = .slice el) (hde : tyOf P el = some de) (hsz : 0 < de.size)
  {st : St} {es : List (List V)} (hx : st.eval x = .zcap ∨ st.eval x = .nil) (hy : sliceV (st.eval y) = some (de.size, es)) (hpos : 0 < es.length) (hfit : es.length * de.bytes ≤ 2 ^ 47) (hmax : es.length ≤ maxLen) (hdst : dstOk o st) :
  ∀ ent a w Q, In ent st a w → o.wp P a w (Then ent fun st' => ∃ b cap tl, st.s.box b = none ∧ es.length ≤ cap ∧ cap ≤ maxLen ∧ (es.flatten ++ tl).length = cap * de.size ∧ (∀ r ∈ es, r.length = de.size) ∧
   st' = ({ st with s := st.s.setBox b (es.flatten ++ tl, el) } : St).put o.dst (.base (.slice (some ⟨b, 0, none⟩) es.length cap))) Q := fun ent a w Q hin => by
 obtain ⟨G, be, hxx, hr⟩ := hin
 obtain ⟨i', u, z', hi', hu, hz', h1, h2, h3, h4, h5⟩ := tyOf_some hd
 obtain ⟨ie, ue, z, hie, hue, hze, k1, k2, k3, k4, k5⟩ := tyOf_some hde
 obtain ⟨hzl, hz1⟩ := tyOf_zero hde
 obtain rfl := shape_slice (hs.symm.trans h5)
 have hzs : z.cells.size = ie.size := by rw [← k1, ← hzl, k3]; simp
 have hyr := sliceV_rep (hr.eval y) hy
 have hxe : ∃ b, a.eval x = .slice b 0 0 := by
  have hh := hr.eval x
  rcases hx with e | e <;> rw [e] at hh
  ·generalize a.eval x = q at hh
   cases (show Rep G .zcap q from hh); exact ⟨_, rfl⟩
  ·generalize a.eval x = q at hh
   cases (show Rep G .nil q from hh); exact ⟨_, rfl⟩
 obtain ⟨bx, hxe⟩ := hxe
 rcases news_of hr.hr hyr with ⟨h0, _⟩ | ⟨ay, cy, cells, hyv, _, hnews, hone, hlen, hrepx⟩
 ·rw [h0] at hpos; simp at hpos
 have hm63 : es.length ≤ 9223372036854775807 := by unfold maxLen at hmax; omega
 have hfit' : es.length * de.bytes ≤ 140737488355328 := hfit
 have hrun0 := run_append_nil (P := P) w t o.type el ie z hu hie hze ay es.length cy ((List.range (es.length * de.size)).map cells) (by simp [k1]) (by simpa [← k1] using hnews) hpos (by omega) (by rw [← k2]; omega)
 have hrun : (Builtin.append_ #[t, t] o.type #[a.eval x, a.eval y]).run P w = .ok (.slice (some ⟨w.heap.size, 0, none⟩) es.length (grownCap w es.length 0 el)) (w.drew.alloc (.cells (((List.range (es.length * de.size)).map cells).toArray ++ Builtin.zeroCells z.cells (grownCap w es.length 0 el - es.length)) el)) := by
  rw [hxe, hyv]
  cases bx with
  | none => exact hrun0
  | some bx =>
   have hr2 := run_append_grow (P := P) w t o.type el ie z hu hie hze bx 0 0 [] (by simp) (fun j v hv => by simp at hv) ay es.length cy ((List.range (es.length * de.size)).map cells) (by simp [k1]) (by simpa [← k1] using hnews) (by omega) (by omega) (growslice_fits (by omega) (by rw [Nat.zero_add, ← k2]; omega))
   simpa using hr2
 have hg1 := grownCap_ge w es.length 0 el
 have hg2 := grownCap_le_maxLen w es.length 0 el hmax
 generalize hcap : grownCap w es.length 0 el = cap at hrun hg1 hg2
 have hm : More w (w.drew.alloc (.cells (((List.range (es.length * de.size)).map cells).toArray ++ Builtin.zeroCells z.cells (cap - es.length)) el)) := (More.drew w).trans (More.alloc _ _)
 have hbn : st.s.box w.heap.size = none := by
  cases hq : st.s.box w.heap.size with
  | none => rfl
  | some y => have := hr.hr.foot_lt (b := w.heap.size) (.inl (by rw [hq]; simp)); omega
 have hzl' : (Builtin.zeroCells z.cells (cap - es.length)).size = (cap - es.length) * de.size := by rw [size_zeroCells, hzs, k1]
 have hfl := flat_len hlen
 have hrep : RepL G es.flatten ((List.range (es.length * de.size)).map cells) := by
  refine ⟨by simp [hfl], fun j c v hc hv => ?_⟩
  have hj : j < es.length * de.size := by rw [← hfl]; exact (List.getElem?_eq_some_iff.1 hc).1
  have e : j = (j / de.size) * de.size + j % de.size := by rw [Nat.mul_comm]; exact (Nat.div_add_mod j de.size).symm
  have hq : j / de.size < es.length := Nat.div_lt_of_lt_mul (by rw [Nat.mul_comm]; exact hj)
  have hmod := Nat.mod_lt j hsz
  have hc' := flat_get hlen (j / de.size) (j % de.size) es[j / de.size] (List.getElem?_eq_getElem hq) hmod
  rw [← e, hc] at hc'
  have := hrepx (j / de.size) (j % de.size) _ c (List.getElem?_eq_getElem hq) hc'.symm
  rw [← e] at this
  rw [List.getElem?_map, List.getElem?_range hj] at hv
  cases hv
  exact this
 have hnb := hr.hr.newBox hm (b := w.heap.size) (Nat.le_refl _) (cs := es.flatten ++ List.replicate (Builtin.zeroCells z.cells (cap - es.length)).toList.length .any) (t := el) (heap_alloc_new w.drew _)
  (by simpa using hrep.append (repL_anys (G := G) (Builtin.zeroCells z.cells (cap - es.length)).toList))
  (by
   intro v hv
   simp only [Array.toList_append, List.mem_append] at hv
   rcases hv with hv | hv
   ·exact hone v (by simpa using hv)
   ·unfold Builtin.zeroCells at hv
    simp only [Array.toList_map, List.mem_map] at hv
    obtain ⟨k, _, rfl⟩ := hv
    have hk : k % z.cells.size < z.cells.size := Nat.mod_lt _ (by omega)
    rw [getElem!_pos z.cells _ hk]
    exact hz1 _ (by rw [k3]; simp))
 unfold Oper.wp
 rw [append_exec ho hrun]
 refine ⟨_, ⟨w.heap.size, cap, List.replicate (Builtin.zeroCells z.cells (cap - es.length)).toList.length .any, hbn, hg1, hg2, ?_, hlen, rfl⟩, G, be, ?_, ?_⟩
 ·have e9 : (Builtin.zeroCells z.cells (cap - es.length)).toList.length = (cap - es.length) * de.size := by rw [Array.length_toList]; exact hzl'
  rw [List.length_append, hfl, List.length_replicate, e9, ← Nat.add_mul]; congr 1; omega
 ·rw [put_s]; exact hxx.trans hnb.2
 ·exact (hr.ext hnb.2 hnb.1).put o.dst (dstOk_lt hdst) (LRep.of_rep (Rep.base _))
/-- A slice in a heap box turns no more. -/
theorem ARel.freezeBox {n0 : Base} {G : Ghost} {be : Nat → Option Nat} {st : St} {a : Act} {w : World} (hr : ARel n0 G be st a w) {b cap : Nat} {es : List (List V)} {tl : List V} {e : TypeId} {sz : Nat} (hb : st.s.box b = some (es.flatten ++ tl, e)) (hes : ∀ r ∈ es, r.length = sz) (hc : es.length ≤ cap) (hm : cap ≤ maxLen) :
  ∃ G', G.Le G' ∧ Ext G st.s w G' (st.s.delBox b) w ∧ ARel n0 G' be { st with s := st.s.delBox b } a w ∧ Rep G' (.slice sz es) (.slice (some ⟨b, 0, none⟩) es.length cap) := by
 obtain ⟨ccs, k1, k2, k3, k4⟩ := hr.hr.box b _ e hb
 have hnf : ¬ foot G (st.s.delBox b) b := fun hf => by
  rcases hf with hf | ⟨g, y, v', j1, j2, j3⟩
  ·exact hf (upd_same _ _ _)
  ·have := hr.hr.nobox g y v' b j1 j2 j3
   rw [hb] at this; cases this
 have hfz := (hr.hr.weaken (delBox_le st.s b)).freeze k1 hnf k4
 have hle := Ghost.freeze_le (G := G) ccs k4
 refine ⟨G.freeze b ccs, hle, ⟨hle, Nat.le_refl _, rfl, rfl, rfl, fun _ _ _ => rfl, fun b' hf => .inl (foot_le (delBox_le st.s b) ?_), fun b' o hf => ?_, fun g hg => .inl hg⟩, ⟨hfz, hr.n, hr.df.mono hle, fun t => (hr.tmps t).mono hle, fun t cs ty ht => ?_, hr.inj⟩, ?_⟩
 ·rcases hf with hf | ⟨g, x, v, j1, j2, j3⟩
  ·exact .inl hf
  ·exact .inr ⟨g, x, v, j1, j2, j3⟩
 ·by_cases eb : b' = b
  ·subst eb; exact .inr (.inl (.inl (by rw [hb]; simp)))
  ·simp only [Ghost.freeze, eb, if_false] at hf; exact .inl hf
 ·obtain ⟨b', j1, j2, ⟨c', j3, j4, j5⟩, j6, j7⟩ := hr.loc t cs ty ht
  have hne : b' ≠ b := fun eb => j7 (by subst eb; exact .inl (by rw [hb]; simp))
  refine ⟨b', j1, j2, ⟨c', j3, j4.mono hle, j5⟩, fun o => by simp only [Ghost.freeze, hne, if_false]; exact j6 o, fun hf => j7 (foot_le (delBox_le st.s b) ?_)⟩
  rcases hf with hf | ⟨g, x, v, q1, q2, q3⟩
  ·exact .inl hf
  ·exact .inr ⟨g, x, v, q1, q2, q3⟩
 ·have hfl := flat_len hes
  have hsz : es.length * sz ≤ ccs.size := by
   have := k2.1
   rw [List.length_append, hfl] at this
   rw [← Array.length_toList]; omega
  refine Rep.slice sz es b 0 cap (fun k => ccs.getD k undef) hes hc hm (fun k hk => ?_) (fun i j r c hi hj => ?_) (fun k hk => ?_)
  ·have : k < ccs.size := by omega
   simp [Ghost.freeze, this]
  ·have hj' : j < sz := by rw [← hes r (List.mem_of_getElem? hi)]; exact (List.getElem?_eq_some_iff.1 hj).1
   have hi' := (List.getElem?_eq_some_iff.1 hi).1
   have hg := flat_cell hes (tl := tl) hi' hj'
   have hr' : es[i] = r := by have := List.getElem?_eq_getElem hi'; rw [hi] at this; exact (Option.some.inj this).symm
   rw [hr', hj] at hg
   have hlt : i * sz + j < ccs.size := by
    have : (i + 1) * sz ≤ es.length * sz := Nat.mul_le_mul_right _ hi'
    rw [Nat.add_mul] at this; omega
   refine (k2.2 _ c (ccs.getD (i * sz + j) undef) hg ?_).mono hle
   simp [hlt]
  ·have : k < ccs.size := by omega
   exact k3 _ (by simp [this])
def frz (b n cap : Nat) : V := .base (.slice (some ⟨b, 0, none⟩) n cap)
section
variable {Q : Exit → St → Prop} {st : St} {c : Code}
/-- .. held by a temporary. -/
theorem AWp.freezeE (t b : Nat) {cap sz : Nat} {es : List (List V)} {tl : List V} {e : TypeId} (hb : st.s.box b = some (es.flatten ++ tl, e)) (hE : st.E t = frz b es.length cap) (hes : ∀ r ∈ es, r.length = sz) (hc : es.length ≤ cap) (hm : cap ≤ maxLen)
  (h : AWp P c Q { st with E := upd st.E t (.slice sz es), s := st.s.delBox b }) : AWp P c Q st := fun en a w hin => by
 obtain ⟨G, be, hx, hr⟩ := hin
 obtain ⟨G', hle, hx', hr', hrep⟩ := hr.freezeBox hb hes hc hm
 refine h en a w ⟨G', be, hx.trans hx', hr'.hr, hr'.n, hr'.df, fun t' => ?_, hr'.loc, hr'.inj⟩
 by_cases et : t' = t
 ·subst et
  simp only [upd_same]
  have hv := hr.tmps t'
  rw [hE] at hv
  generalize a.tmps.getD t' undef = q at hv
  cases (show Rep G (frz b es.length cap) q from hv)
  exact LRep.of_rep hrep
 ·simp only [upd_other _ _ _ _ et]; exact hr'.tmps t'
/-! A slice that is empty, or stands in a heap box of which the base knows nothing. -/
def Mx (s0 h : Heap) (x : V) (sz : Nat) (e : TypeId) (rows : List (List V)) : Prop := (∀ r ∈ rows, r.length = sz) ∧ ((rows = [] ∧ x = .slice sz []) ∨ ∃ b cap tl, x = frz b rows.length cap ∧ rows.length ≤ cap ∧ cap ≤ maxLen ∧ s0.box b = none ∧ h.box b = some (rows.flatten ++ tl, e))
theorem Mx.len {s0 h : Heap} {x : V} {sz : Nat} {e : TypeId} {rows : List (List V)} (hm : Mx s0 h x sz e rows) : lenV x = some rows.length := by
 rcases hm.2 with ⟨rfl, rfl⟩ | ⟨b, cap, tl, rfl, _⟩ <;> rfl
theorem Mx.cell {s0 h : Heap} {x : V} {sz : Nat} {e : TypeId} {rows : List (List V)} (hm : Mx s0 h x sz e rows) : x.isCell = true := by
 rcases hm.2 with ⟨rfl, rfl⟩ | ⟨b, cap, tl, rfl, _⟩ <;> rfl
theorem Mx.noLoc {s0 h : Heap} {x : V} {sz : Nat} {e : TypeId} {rows : List (List V)} (hm : Mx s0 h x sz e rows) : noLoc x = some x := by
 rcases hm.2 with ⟨rfl, rfl⟩ | ⟨b, cap, tl, rfl, _⟩ <;> rfl
theorem Mx.pos {s0 h : Heap} {x : V} {sz : Nat} {e : TypeId} {rows : List (List V)} (hm : Mx s0 h x sz e rows) (hn : 0 < rows.length) : ∃ b cap tl, x = frz b rows.length cap ∧ rows.length ≤ cap ∧ cap ≤ maxLen ∧ s0.box b = none ∧ h.box b = some (rows.flatten ++ tl, e) := by
 rcases hm.2 with ⟨rfl, rfl⟩ | h
 ·simp at hn
 ·exact h
/-- Another heap box is written, or made. -/
theorem Mx.other {s0 h : Heap} {x : V} {sz : Nat} {e : TypeId} {rows : List (List V)} (hm : Mx s0 h x sz e rows) {h' : Heap} (hh : ∀ b cs, h.box b = some (cs, e) → h'.box b = some (cs, e)) : Mx s0 h' x sz e rows := by
 refine ⟨hm.1, hm.2.imp id ?_⟩
 rintro ⟨b, cap, tl, h1, h2, h3, h4, h5⟩
 exact ⟨b, cap, tl, h1, h2, h3, h4, hh _ _ h5⟩
section
variable {Q : Exit → St → Prop} {st : St} {c : Code}
end
end
theorem Mx.base {s0 s1 h : Heap} {x : V} {sz : Nat} {e : TypeId} {rows : List (List V)} (hm : Mx s1 h x sz e rows) (hle : s1.le s0) : Mx s0 h x sz e rows := by
 refine ⟨hm.1, hm.2.imp id ?_⟩
 rintro ⟨b, cap, tl, h1, h2, h3, h4, h5⟩
 exact ⟨b, cap, tl, h1, h2, h3, hle.none_box h4, h5⟩
theorem Mx.cells {s0 h : Heap} {x : V} {sz : Nat} {e : TypeId} {rows : List (List V)} (hm : Mx s0 h x sz e rows) : V.cells x = [x] := by
 rcases hm.2 with ⟨rfl, rfl⟩ | ⟨b, cap, tl, rfl, _⟩ <;> rfl
end Go.Am
namespace Go.Am
variable {P : Program}
/-- A call, or an append. -/
def isCl (o : Oper) : Bool := decide (kd o = .eff) && (match o.op with | .store _ _ _ => false | _ => true)
def dcondW (A : List Nat) (o : Oper) (st : St) : Prop := match o.op with
 | .load _ x => match st.eval x with
  | .loc k _ => A.contains k = false
  | .elt _ _ => True
  | .ptr _ _ => True
  | _ => False
 | .store _ x _ => match st.eval x with
  | .loc b _ => match x with
   | .tmp t => if A.contains t = true then b = t else A.contains b = false
   | _ => False
  | .ptr _ _ => match x with
   | .tmp t => A.contains t = false
   | _ => False
  | _ => False
 | _ => True
/-- What the later operation leaves untouched. -/
structure KeptW (m : Mod) (o : Oper) (A : List Nat) (st st' : St) : Prop where
 E : ∀ t, o.dst ≠ some t → st'.E t = st.E t
 n : st'.n = st.n
 locE : kd o ≠ .alloc → (∀ t x y, o.op ≠ .store t x y) → st'.loc = st.loc
 locA : kd o = .alloc → ∃ t0, o.dst = some t0 ∧ st.loc t0 = none ∧ ∀ k, k ≠ t0 → st'.loc k = st.loc k
 locS : ∀ t x y, o.op = .store t x y → ∀ k, (∀ off, st.eval x ≠ .loc k off) → st'.loc k = st.loc k
 locM : ∀ t0 x, m.box = some (t0, x) → st'.loc t0 = st.loc t0
 dc : dcondW A o st
 s : kd o ≠ .eff → st'.s = st.s
 keepB : isCl o = true → ∀ b x, st.s.box b = some x → st'.s.box b = some x
 keepS : ∀ t x y, o.op = .store t x y → (∃ k off, st.eval x = .loc k off) → st'.s = st.s
theorem KeptW.of {m : Mod} {o : Oper} {A : List Nat} {st st' : St} (h : Kept m o A st st') (hd : dcondW A o st) (hb : isCl o = true → ∀ b x, st.s.box b = some x → st'.s.box b = some x) (hs : ∀ t x y, o.op = .store t x y → (∃ k off, st.eval x = .loc k off) → st'.s = st.s) : KeptW m o A st st' :=
 ⟨h.E, h.n, h.locE, h.locA, h.locS, h.locM, hd, h.s, hb, hs⟩
variable {all : Array Oper} {o : Oper} {m : Mod} {st : St} {K : St → Prop}
set_option linter.defProp false
end Go.Am
