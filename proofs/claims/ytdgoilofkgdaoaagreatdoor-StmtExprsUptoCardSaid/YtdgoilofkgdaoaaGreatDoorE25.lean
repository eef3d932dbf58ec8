/- What a call leaves of the keys that it does not see; a box whose cells turn no more. -/
import Derived.Test.YtdgoilofkgdaoaaGreatDoorEAmMore
set_option linter.unusedVariables false
set_option linter.unusedSimpArgs false
namespace Go.Am
variable {P : Program}
/-- Of a slice of nothing its value is one of these. -/
theorem ACalls.empty {f : FuncId} {sz : Nat} {s : Heap} {R : V → Heap → Prop} (h : ∀ a cap, ACalls P f [.base (.slice a 0 cap)] s R) : ACalls P f [.slice sz []] s R :=
 ⟨(h none 0).1, fun G w cargs hh ha => by
  obtain ⟨v, vs, e, hv, hr⟩ := ha.uncons
  have e2 := hr.nil_inv
  subst e2
  obtain ⟨a, cap, rfl⟩ : ∃ a cap, v = .slice a 0 cap := by cases hv <;> exact ⟨_, _, rfl⟩
  exact (h a cap).2 G w cargs hh (by rw [e]; exact RepL.cons (Rep.base _) (RepL.nil G))⟩
def Heap.delBox (s : Heap) (b : Nat) : Heap := { s with box := upd s.box b none }
theorem delBox_le (s : Heap) (b : Nat) : s.le (s.delBox b) :=
 ⟨fun b' => by
  by_cases e : b' = b
  ·subst e; exact .inr (upd_same _ _ _)
  ·exact .inl (upd_other _ _ _ _ e), fun g => .inl rfl⟩
/-- A result in a heap box of its own turns no more. -/
theorem ACalls.freeze {f : FuncId} {args : List V} {s : Heap} {R R' : V → Heap → Prop} (h : ACalls P f args s R)
  (hr : ∀ v s', R v s' → (∃ a cap, v = .base (.slice a 0 cap) ∧ R' (.slice 1 []) s') ∨ ∃ b n cap cs ty, v = .base (.slice (some ⟨b, 0, none⟩) n cap) ∧ s'.box b = some (cs, ty) ∧ n ≤ cs.length ∧ cs.length = cap ∧ cap ≤ maxLen ∧ R' (.slice 1 ((cs.take n).map fun c => [c])) (s'.delBox b)) : ACalls P f args s R' := by
 refine ⟨h.1, fun G w cargs hh ha => (h.2 G w cargs hh ha).mono ?_⟩
 rintro e w' ⟨G', s', v, cv, rfl, hv, hx, hh', hR⟩
 rcases hr v s' hR with ⟨a, cap, rfl, hR'⟩ | ⟨b, n, cap, cs, ty, rfl, hb, hn, hl, hc, hR'⟩
 ·cases hv
  exact ⟨G', s', _, _, rfl, .slice0 1 a cap, hx, hh', hR'⟩
 ·cases hv
  obtain ⟨ccs, k1, k2, k3, k4⟩ := hh'.box b cs ty hb
  have hnf : ¬ foot G' (s'.delBox b) b := fun hf => by
   rcases hf with hf | ⟨g, y, v', j1, j2, j3⟩
   ·exact hf (upd_same _ _ _)
   ·have := hh'.nobox g y v' b j1 j2 j3
    rw [hb] at this; cases this
  have hfz := (hh'.weaken (delBox_le s' b)).freeze k1 hnf k4
  have hle := Ghost.freeze_le (G := G') ccs k4
  refine ⟨G'.freeze b ccs, s'.delBox b, _, _, rfl, ?_, ?_, hfz, hR'⟩
  ·have hlen : ((cs.take n).map fun c => [c]).length = n := by simp; omega
   have hcs : ccs.size = cs.length := by rw [k2.1]; simp
   have key := Rep.slice (G := G'.freeze b ccs) 1 ((cs.take n).map fun c => [c]) b 0 cap (fun k => ccs.getD k undef) (fun r hr => by obtain ⟨c, _, rfl⟩ := List.mem_map.1 hr; rfl) (by rw [hlen]; omega) hc (fun k hk => ?_) (fun i j r c hi hj => ?_) (fun k hk => ?_)
   ·rw [hlen] at key; exact key
   ·rw [hlen] at hk
    have : k < ccs.size := by omega
    simp [Ghost.freeze, this]
   ·rw [List.getElem?_map] at hi
    cases hq : (cs.take n)[i]? with
    | none => rw [hq] at hi; simp at hi
    | some c0 =>
     rw [hq] at hi
     simp only [Option.map_some, Option.some.injEq] at hi
     subst hi
     have hj0 : j = 0 := by
      have := (List.getElem?_eq_some_iff.1 hj).1
      simp at this; exact this
     subst hj0
     simp at hj
     subst hj
     rw [List.getElem?_take] at hq
     split at hq
     ·have hlt : i < ccs.size := by rw [hcs]; exact (List.getElem?_eq_some_iff.1 hq).1
      refine (k2.2 i c0 (ccs.getD (i * 1 + 0) undef) hq ?_).mono hle
      simp [hlt]
     ·cases hq
   ·rw [hlen] at hk
    have : k < ccs.size := by omega
    refine k3 _ ?_
    simp [this]
  ·refine ⟨hx.le.trans hle, hx.size, hx.os, hx.tape, hx.output, hx.keep, fun b' hf => hx.foot b' (foot_le (delBox_le s' b) hf), fun b' o hf => ?_, fun g hg => hx.keys g hg⟩
   by_cases e : b' = b
   ·subst e
    rcases hx.foot b' (.inl (by rw [hb]; simp)) with k | k
    ·exact .inr (.inl k)
    ·exact .inr (.inr k)
   ·simp only [Ghost.freeze, e, if_false] at hf
    exact hx.frz b' o hf
end Go.Am
namespace Go.Am
variable {P : Program}
theorem flat_drop {sz : Nat} {es : List (List V)} (hs : ∀ r ∈ es, r.length = sz) {tl : List V} {i : Nat} (hi : i ≤ es.length) : (es.flatten ++ tl).drop (i * sz) = (es.drop i).flatten ++ tl := by
 have h1 : es = es.take i ++ es.drop i := (List.take_append_drop i es).symm
 have h2 : (es.take i).flatten.length = i * sz := by rw [flat_len (sz := sz) fun r hr => hs r (List.mem_of_mem_take hr), List.length_take, Nat.min_eq_left hi]
 have h3 : es.flatten = (es.take i).flatten ++ (es.drop i).flatten := by rw [← List.flatten_append, List.take_append_drop]
 rw [h3, List.append_assoc, ← h2, List.drop_left]
/-- A cell of an element. -/
theorem flat_cell {sz : Nat} {es : List (List V)} (hs : ∀ r ∈ es, r.length = sz) {tl : List V} {i j : Nat} (hi : i < es.length) (hj : j < sz) : (es.flatten ++ tl)[i * sz + j]? = es[i][j]? := by
 have h := flat_get hs i j es[i] (List.getElem?_eq_getElem hi) hj
 have hr : es[i].length = sz := hs _ (List.getElem_mem hi)
 have : i * sz + j < es.flatten.length := by
  rw [flat_len hs]
  have : (i + 1) * sz ≤ es.length * sz := Nat.mul_le_mul_right _ hi
  rw [Nat.add_mul] at this; omega
 rw [List.getElem?_append_left this, h]
/-- A part of an element. -/
theorem flat_part {sz : Nat} {es : List (List V)} (hs : ∀ r ∈ es, r.length = sz) {tl : List V} {i j n : Nat} (hi : i < es.length) (hj : j + n ≤ sz) : ((es.flatten ++ tl).drop (i * sz + j)).take n = (es[i].drop j).take n := by
 have hr : es[i].length = sz := hs _ (List.getElem_mem hi)
 rw [← List.drop_drop, flat_drop hs (Nat.le_of_lt hi), List.drop_eq_getElem_cons hi, List.flatten_cons, List.append_assoc, List.drop_append_of_le_length (by omega), List.take_append_of_le_length (by simp; omega)]
/-- A part of an element is written. -/
theorem flat_splice {sz : Nat} {es : List (List V)} (hs : ∀ r ∈ es, r.length = sz) {tl l : List V} {i j : Nat} (hi : i < es.length) (hj : j + l.length ≤ sz) : splice (es.flatten ++ tl) (i * sz + j) l = (es.set i (splice es[i] j l)).flatten ++ tl := by
 have hr : es[i].length = sz := hs _ (List.getElem_mem hi)
 have h3 : es = es.take i ++ es[i] :: es.drop (i + 1) := by rw [List.getElem_cons_drop, List.take_append_drop]
 have ht : (es.take i).flatten.length = i * sz := by rw [flat_len (sz := sz) fun r hr => hs r (List.mem_of_mem_take hr), List.length_take, Nat.min_eq_left (Nat.le_of_lt hi)]
 have hset : es.set i (splice es[i] j l) = es.take i ++ splice es[i] j l :: es.drop (i + 1) := by
  rw [List.set_eq_take_append_cons_drop, if_pos hi]
 rw [hset]
 have hfl : es.flatten = (es.take i).flatten ++ (es[i] ++ (es.drop (i + 1)).flatten) := by
  conv => lhs; rw [h3]
  rw [List.flatten_append, List.flatten_cons]
 rw [hfl, List.flatten_append, List.flatten_cons]
 generalize (es.take i).flatten = a at ht
 generalize (es.drop (i + 1)).flatten = c
 generalize es[i] = r at hr
 unfold splice
 rw [← ht]
 simp only [List.append_assoc]
 rw [List.take_append, List.take_of_length_le (by omega), Nat.add_sub_cancel_left, List.take_append_of_le_length (by omega)]
 rw [show a.length + j + l.length = a.length + (j + l.length) by omega, ← List.drop_drop, List.drop_left, List.drop_append_of_le_length (by omega)]
 simp only [List.append_assoc]
theorem set_len {sz : Nat} {es : List (List V)} (hs : ∀ r ∈ es, r.length = sz) {i : Nat} {x : List V} (hx : x.length = sz) : ∀ r ∈ es.set i x, r.length = sz := fun r hr => by
 rcases List.mem_or_eq_of_mem_set hr with h | rfl
 ·exact hs r h
 ·exact hx
/-- Some elements are appended to nothing: their new array is a heap box. -/
theorem append_box {o : Oper} {x y : Operand} {t el : TypeId} (ho : o.op = .call { callee := .builtin .append, args := #[x, y], argTypes := #[t, t] }) {d de : TyD} (hd : tyOf P t = some d) (hs : d.shape = .slice el) (hde : tyOf P el = some de) (hsz : 0 < de.size)
  {st : St} {es : List (List V)} (hx : st.eval x = .zcap ∨ st.eval x = .nil) (hy : sliceV (st.eval y) = some (de.size, es)) (hpos : 0 < es.length) (hfit : es.length * de.bytes ≤ 2 ^ 47) (hmax : es.length ≤ maxLen) (hdst : dstOk o st) :
  ∀ ent a w Q, In ent st a w → o.wp P a w (Then ent fun st' => ∃ b cap tl, st.s.box b = none ∧ es.length ≤ cap ∧ cap ≤ maxLen ∧ (es.flatten ++ tl).length = cap * de.size ∧ (∀ r ∈ es, r.length = de.size) ∧
   st' = ({ st with s := st.s.setBox b (es.flatten ++ tl, el) } : St).put o.dst (.base (.slice (some ⟨b, 0, none⟩) es.length cap))) Q := fun ent a w Q hin => by
 obtain ⟨G, be, hxx, hr⟩ := hin
 obtain ⟨i', u, z', hi', hu, hz', h1, h2, h3, h4, h5⟩ := tyOf_some hd
 obtain ⟨ie, ue, z, hie, hue, hze, k1, k2, k3, k4, k5⟩ := tyOf_some hde
 obtain ⟨hzl, hz1⟩ := tyOf_zero hde
 obtain rfl := shape_slice (hs.symm.trans h5)
 have hzs : z.cells.size = ie.size := by rw [← k1, ← hzl, k3]; simp
 have hyr := sliceV_rep (hr.eval y) hy
 have hxe : ∃ b, a.eval x = .slice b 0 0 := by
  have hh := hr.eval x
  rcases hx with e | e <;> rw [e] at hh
  ·generalize a.eval x = q at hh
   cases (show Rep G .zcap q from hh); exact ⟨_, rfl⟩
  ·generalize a.eval x = q at hh
   cases (show Rep G .nil q from hh); exact ⟨_, rfl⟩
 obtain ⟨bx, hxe⟩ := hxe
 rcases news_of hr.hr hyr with ⟨h0, _⟩ | ⟨ay, cy, cells, hyv, _, hnews, hone, hlen, hrepx⟩
 ·rw [h0] at hpos; simp at hpos
 have hm63 : es.length ≤ 9223372036854775807 := by unfold maxLen at hmax; omega
 have hfit' : es.length * de.bytes ≤ 140737488355328 := hfit
 have hrun0 := run_append_nil (P := P) w t o.type el ie z hu hie hze ay es.length cy ((List.range (es.length * de.size)).map cells) (by simp [k1]) (by simpa [← k1] using hnews) hpos (by omega) (by rw [← k2]; omega)
 have hrun : (Builtin.append_ #[t, t] o.type #[a.eval x, a.eval y]).run P w = .ok (.slice (some ⟨w.heap.size, 0, none⟩) es.length (grownCap w es.length 0 el)) (w.drew.alloc (.cells (((List.range (es.length * de.size)).map cells).toArray ++ Builtin.zeroCells z.cells (grownCap w es.length 0 el - es.length)) el)) := by
  rw [hxe, hyv]
  cases bx with
  | none => exact hrun0
  | some bx =>
   have hr2 := run_append_grow (P := P) w t o.type el ie z hu hie hze bx 0 0 [] (by simp) (fun j v hv => by simp at hv) ay es.length cy ((List.range (es.length * de.size)).map cells) (by simp [k1]) (by simpa [← k1] using hnews) (by omega) (by omega) (growslice_fits (by omega) (by rw [Nat.zero_add, ← k2]; omega))
   simpa using hr2
 have hg1 := grownCap_ge w es.length 0 el
 have hg2 := grownCap_le_maxLen w es.length 0 el hmax
 generalize hcap : grownCap w es.length 0 el = cap at hrun hg1 hg2
 have hm : More w (w.drew.alloc (.cells (((List.range (es.length * de.size)).map cells).toArray ++ Builtin.zeroCells z.cells (cap - es.length)) el)) := (More.drew w).trans (More.alloc _ _)
 have hbn : st.s.box w.heap.size = none := by
  cases hq : st.s.box w.heap.size with
  | none => rfl
  | some y => have := hr.hr.foot_lt (b := w.heap.size) (.inl (by rw [hq]; simp)); omega
 have hzl' : (Builtin.zeroCells z.cells (cap - es.length)).size = (cap - es.length) * de.size := by rw [size_zeroCells, hzs, k1]
 have hfl := flat_len hlen
 have hrep : RepL G es.flatten ((List.range (es.length * de.size)).map cells) := by
  refine ⟨by simp [hfl], fun j c v hc hv => ?_⟩
  have hj : j < es.length * de.size := by rw [← hfl]; exact (List.getElem?_eq_some_iff.1 hc).1
  have e : j = (j / de.size) * de.size + j % de.size := by rw [Nat.mul_comm]; exact (Nat.div_add_mod j de.size).symm
  have hq : j / de.size < es.length := Nat.div_lt_of_lt_mul (by rw [Nat.mul_comm]; exact hj)
  have hmod := Nat.mod_lt j hsz
  have hc' := flat_get hlen (j / de.size) (j % de.size) es[j / de.size] (List.getElem?_eq_getElem hq) hmod
  rw [← e, hc] at hc'
  have := hrepx (j / de.size) (j % de.size) _ c (List.getElem?_eq_getElem hq) hc'.symm
  rw [← e] at this
  rw [List.getElem?_map, List.getElem?_range hj] at hv
  cases hv
  exact this
 have hnb := hr.hr.newBox hm (b := w.heap.size) (Nat.le_refl _) (cs := es.flatten ++ List.replicate (Builtin.zeroCells z.cells (cap - es.length)).toList.length .any) (t := el) (heap_alloc_new w.drew _)
  (by simpa using hrep.append (repL_anys (G := G) (Builtin.zeroCells z.cells (cap - es.length)).toList))
  (by
   intro v hv
   simp only [Array.toList_append, List.mem_append] at hv
   rcases hv with hv | hv
   ·exact hone v (by simpa using hv)
   ·unfold Builtin.zeroCells at hv
    simp only [Array.toList_map, List.mem_map] at hv
    obtain ⟨k, _, rfl⟩ := hv
    have hk : k % z.cells.size < z.cells.size := Nat.mod_lt _ (by omega)
    rw [getElem!_pos z.cells _ hk]
    exact hz1 _ (by rw [k3]; simp))
 unfold Oper.wp
 rw [append_exec ho hrun]
 refine ⟨_, ⟨w.heap.size, cap, List.replicate (Builtin.zeroCells z.cells (cap - es.length)).toList.length .any, hbn, hg1, hg2, ?_, hlen, rfl⟩, G, be, ?_, ?_⟩
 ·have e9 : (Builtin.zeroCells z.cells (cap - es.length)).toList.length = (cap - es.length) * de.size := by rw [Array.length_toList]; exact hzl'
  rw [List.length_append, hfl, List.length_replicate, e9, ← Nat.add_mul]; congr 1; omega
 ·rw [put_s]; exact hxx.trans hnb.2
 ·exact (hr.ext hnb.2 hnb.1).put o.dst (dstOk_lt hdst) (LRep.of_rep (Rep.base _))
/-- A slice in a heap box turns no more. -/
theorem ARel.freezeBox {n0 : Base} {G : Ghost} {be : Nat → Option Nat} {st : St} {a : Act} {w : World} (hr : ARel n0 G be st a w) {b cap : Nat} {es : List (List V)} {tl : List V} {e : TypeId} {sz : Nat} (hb : st.s.box b = some (es.flatten ++ tl, e)) (hes : ∀ r ∈ es, r.length = sz) (hc : es.length ≤ cap) (hm : cap ≤ maxLen) :
  ∃ G', G.Le G' ∧ Ext G st.s w G' (st.s.delBox b) w ∧ ARel n0 G' be { st with s := st.s.delBox b } a w ∧ Rep G' (.slice sz es) (.slice (some ⟨b, 0, none⟩) es.length cap) := by
 obtain ⟨ccs, k1, k2, k3, k4⟩ := hr.hr.box b _ e hb
 have hnf : ¬ foot G (st.s.delBox b) b := fun hf => by
  rcases hf with hf | ⟨g, y, v', j1, j2, j3⟩
  ·exact hf (upd_same _ _ _)
  ·have := hr.hr.nobox g y v' b j1 j2 j3
   rw [hb] at this; cases this
 have hfz := (hr.hr.weaken (delBox_le st.s b)).freeze k1 hnf k4
 have hle := Ghost.freeze_le (G := G) ccs k4
 refine ⟨G.freeze b ccs, hle, ⟨hle, Nat.le_refl _, rfl, rfl, rfl, fun _ _ _ => rfl, fun b' hf => .inl (foot_le (delBox_le st.s b) ?_), fun b' o hf => ?_, fun g hg => .inl hg⟩, ⟨hfz, hr.n, hr.df.mono hle, fun t => (hr.tmps t).mono hle, fun t cs ty ht => ?_, hr.inj⟩, ?_⟩
 ·rcases hf with hf | ⟨g, x, v, j1, j2, j3⟩
  ·exact .inl hf
  ·exact .inr ⟨g, x, v, j1, j2, j3⟩
 ·by_cases eb : b' = b
  ·subst eb; exact .inr (.inl (.inl (by rw [hb]; simp)))
  ·simp only [Ghost.freeze, eb, if_false] at hf; exact .inl hf
 ·obtain ⟨b', j1, j2, ⟨c', j3, j4, j5⟩, j6, j7⟩ := hr.loc t cs ty ht
  have hne : b' ≠ b := fun eb => j7 (by subst eb; exact .inl (by rw [hb]; simp))
  refine ⟨b', j1, j2, ⟨c', j3, j4.mono hle, j5⟩, fun o => by simp only [Ghost.freeze, hne, if_false]; exact j6 o, fun hf => j7 (foot_le (delBox_le st.s b) ?_)⟩
  rcases hf with hf | ⟨g, x, v, q1, q2, q3⟩
  ·exact .inl hf
  ·exact .inr ⟨g, x, v, q1, q2, q3⟩
 ·have hfl := flat_len hes
  have hsz : es.length * sz ≤ ccs.size := by
   have := k2.1
   rw [List.length_append, hfl] at this
   rw [← Array.length_toList]; omega
  refine Rep.slice sz es b 0 cap (fun k => ccs.getD k undef) hes hc hm (fun k hk => ?_) (fun i j r c hi hj => ?_) (fun k hk => ?_)
  ·have : k < ccs.size := by omega
   simp [Ghost.freeze, this]
  ·have hj' : j < sz := by rw [← hes r (List.mem_of_getElem? hi)]; exact (List.getElem?_eq_some_iff.1 hj).1
   have hi' := (List.getElem?_eq_some_iff.1 hi).1
   have hg := flat_cell hes (tl := tl) hi' hj'
   have hr' : es[i] = r := by have := List.getElem?_eq_getElem hi'; rw [hi] at this; exact (Option.some.inj this).symm
   rw [hr', hj] at hg
   have hlt : i * sz + j < ccs.size := by
    have : (i + 1) * sz ≤ es.length * sz := Nat.mul_le_mul_right _ hi'
    rw [Nat.add_mul] at this; omega
   refine (k2.2 _ c (ccs.getD (i * sz + j) undef) hg ?_).mono hle
   simp [hlt]
  ·have : k < ccs.size := by omega
   exact k3 _ (by simp [this])
def frz (b n cap : Nat) : V := .base (.slice (some ⟨b, 0, none⟩) n cap)
section
variable {Q : Exit → St → Prop} {st : St} {c : Code}
/-- .. held by a temporary. -/
theorem AWp.freezeE (t b : Nat) {cap sz : Nat} {es : List (List V)} {tl : List V} {e : TypeId} (hb : st.s.box b = some (es.flatten ++ tl, e)) (hE : st.E t = frz b es.length cap) (hes : ∀ r ∈ es, r.length = sz) (hc : es.length ≤ cap) (hm : cap ≤ maxLen)
  (h : AWp P c Q { st with E := upd st.E t (.slice sz es), s := st.s.delBox b }) : AWp P c Q st := fun en a w hin => by
 obtain ⟨G, be, hx, hr⟩ := hin
 obtain ⟨G', hle, hx', hr', hrep⟩ := hr.freezeBox hb hes hc hm
 refine h en a w ⟨G', be, hx.trans hx', hr'.hr, hr'.n, hr'.df, fun t' => ?_, hr'.loc, hr'.inj⟩
 by_cases et : t' = t
 ·subst et
  simp only [upd_same]
  have hv := hr.tmps t'
  rw [hE] at hv
  generalize a.tmps.getD t' undef = q at hv
  cases (show Rep G (frz b es.length cap) q from hv)
  exact LRep.of_rep hrep
 ·simp only [upd_other _ _ _ _ et]; exact hr'.tmps t'
theorem repL_set {G : Ghost} {ls : List V} {vs : List Value} (h : RepL G ls vs) {i : Nat} {c : V} (hc : ∀ v, vs[i]? = some v → Rep G c v) : RepL G (ls.set i c) vs := by
 refine ⟨by simp [h.1], fun j c' v hj hv => ?_⟩
 rw [List.getElem?_set] at hj
 by_cases e : i = j
 ·subst e
  rw [if_pos rfl] at hj
  split at hj
  ·cases hj; exact hc v hv
  ·cases hj
 ·rw [if_neg e] at hj; exact h.2 j c' v hj hv
/-- .. held by an own box. -/
theorem AWp.freezeB (t i b : Nat) {cap sz : Nat} {es : List (List V)} {tl : List V} {e : TypeId} {ls : List V} {lty : TypeId} (hb : st.s.box b = some (es.flatten ++ tl, e)) (hl : st.loc t = some (ls, lty)) (hi : ls[i]? = some (frz b es.length cap)) (hes : ∀ r ∈ es, r.length = sz) (hc : es.length ≤ cap) (hm : cap ≤ maxLen)
  (h : AWp P c Q { st with loc := upd st.loc t (some (ls.set i (.slice sz es), lty)), s := st.s.delBox b }) : AWp P c Q st := fun en a w hin => by
 obtain ⟨G, be, hx, hr⟩ := hin
 obtain ⟨G', hle, hx', hr', hrep⟩ := hr.freezeBox hb hes hc hm
 have hne : ∀ t0, upd st.loc t (some (ls.set i (.slice sz es), lty)) t0 ≠ none → st.loc t0 ≠ none := fun t0 h => by
  by_cases ht : t0 = t
  ·subst ht; rw [hl]; simp
  ·rwa [upd_other _ _ _ _ ht] at h
 refine h en a w ⟨G', be, hx.trans hx', hr'.hr, hr'.n, hr'.df, fun t' => ?_, fun t' cs1 ty1 ht => ?_, fun t1 t2 b' k1 k2 => hr.inj t1 t2 b' (hne _ k1) (hne _ k2)⟩
 ·have := hr'.tmps t'
  change LRep G' be st.loc (st.E t') _ at this
  show LRep G' be _ (st.E t') _
  cases hv : st.E t' <;> rw [hv] at this <;> first | exact this | skip
  rename_i t0 off
  refine ⟨?_, this.2⟩
  show upd st.loc t (some (ls.set i (.slice sz es), lty)) t0 ≠ none
  by_cases e0 : t0 = t
  ·subst e0; rw [upd_same]; simp
  ·rw [upd_other _ _ _ _ e0]; exact this.1
 ·change upd st.loc t _ t' = _ at ht
  by_cases ht' : t' = t
  ·subst ht'
   rw [upd_same] at ht
   cases ht
   obtain ⟨b', k1, k2, ⟨ccs, k3, k4, k5⟩, k6⟩ := hr'.loc t' ls lty hl
   refine ⟨b', k1, k2, ⟨ccs, k3, repL_set k4 fun v hv => ?_, k5⟩, k6⟩
   have hq := k4.2 i _ v hi hv
   cases (show Rep G' (frz b es.length cap) v from hq)
   exact hrep
  ·rw [upd_other _ _ _ _ ht'] at ht
   exact hr'.loc t' cs1 ty1 ht
/-- .. held by another heap box. -/
theorem AWp.freezeH (b2 i b : Nat) {cap sz : Nat} {es : List (List V)} {tl : List V} {e : TypeId} {ls : List V} {lty : TypeId} (hb : st.s.box b = some (es.flatten ++ tl, e)) (hne : b2 ≠ b) (hl : st.s.box b2 = some (ls, lty)) (hi : ls[i]? = some (frz b es.length cap)) (hes : ∀ r ∈ es, r.length = sz) (hc : es.length ≤ cap) (hm : cap ≤ maxLen)
  (h : AWp P c Q { st with s := (st.s.delBox b).setBox b2 (ls.set i (.slice sz es), lty) }) : AWp P c Q st := fun en a w hin => by
 obtain ⟨G, be, hx, hr⟩ := hin
 obtain ⟨G', hle, hx', hr', hrep⟩ := hr.freezeBox hb hes hc hm
 have hl' : (st.s.delBox b).box b2 = some (ls, lty) := by simp only [Heap.delBox, upd_other _ _ _ _ hne]; exact hl
 have hf : ∀ b', foot G' ((st.s.delBox b).setBox b2 (ls.set i (.slice sz es), lty)) b' → foot G' (st.s.delBox b) b' := fun b' => (foot_setBox hl').1
 have hx2 := hx.trans hx'
 refine h en a w ⟨G', be, { hx2 with foot := fun b' hb => hx2.foot b' (hf b' hb) }, ?_, hr'.n, hr'.df, hr'.tmps, fun t cs1 ty1 ht => ?_, hr'.inj⟩
 ·have hh := hr'.hr
  exact { hh with
   box := fun b' cs1 ty1 hb' => by
    by_cases e0 : b' = b2
    ·subst e0
     simp only [Heap.setBox, upd_same, Option.some.injEq, Prod.mk.injEq] at hb'
     obtain ⟨rfl, rfl⟩ := hb'
     obtain ⟨ccs, k1, k2, k3⟩ := hh.box b' ls lty hl'
     refine ⟨ccs, k1, repL_set k2 fun v hv => ?_, k3⟩
     have hq := k2.2 i _ v hi hv
     cases (show Rep G' (frz b es.length cap) v from hq)
     exact hrep
    ·simp only [Heap.setBox, upd_other _ _ _ _ e0] at hb'
     exact hh.box b' cs1 ty1 hb'
   nobox := fun g x v b' k1 k2 k3 => by
    have := hh.nobox g x v b' k1 k2 k3
    have e0 : b' ≠ b2 := fun e0 => by subst e0; rw [hl'] at this; cases this
    simpa only [Heap.setBox, upd_other _ _ _ _ e0] using this }
 ·obtain ⟨b', k1, k2, k3, k4, k5⟩ := hr'.loc t cs1 ty1 ht
  exact ⟨b', k1, k2, k3, k4, fun hh => k5 (hf b' hh)⟩
/-! A slice that is empty, or stands in a heap box of which the base knows nothing. -/
def Mx (s0 h : Heap) (x : V) (sz : Nat) (e : TypeId) (rows : List (List V)) : Prop := (∀ r ∈ rows, r.length = sz) ∧ ((rows = [] ∧ x = .slice sz []) ∨ ∃ b cap tl, x = frz b rows.length cap ∧ rows.length ≤ cap ∧ cap ≤ maxLen ∧ s0.box b = none ∧ h.box b = some (rows.flatten ++ tl, e))
theorem Mx.len {s0 h : Heap} {x : V} {sz : Nat} {e : TypeId} {rows : List (List V)} (hm : Mx s0 h x sz e rows) : lenV x = some rows.length := by
 rcases hm.2 with ⟨rfl, rfl⟩ | ⟨b, cap, tl, rfl, _⟩ <;> rfl
theorem Mx.cell {s0 h : Heap} {x : V} {sz : Nat} {e : TypeId} {rows : List (List V)} (hm : Mx s0 h x sz e rows) : x.isCell = true := by
 rcases hm.2 with ⟨rfl, rfl⟩ | ⟨b, cap, tl, rfl, _⟩ <;> rfl
theorem Mx.noLoc {s0 h : Heap} {x : V} {sz : Nat} {e : TypeId} {rows : List (List V)} (hm : Mx s0 h x sz e rows) : noLoc x = some x := by
 rcases hm.2 with ⟨rfl, rfl⟩ | ⟨b, cap, tl, rfl, _⟩ <;> rfl
theorem Mx.pos {s0 h : Heap} {x : V} {sz : Nat} {e : TypeId} {rows : List (List V)} (hm : Mx s0 h x sz e rows) (hn : 0 < rows.length) : ∃ b cap tl, x = frz b rows.length cap ∧ rows.length ≤ cap ∧ cap ≤ maxLen ∧ s0.box b = none ∧ h.box b = some (rows.flatten ++ tl, e) := by
 rcases hm.2 with ⟨rfl, rfl⟩ | h
 ·simp at hn
 ·exact h
/-- Another heap box is written, or made. -/
theorem Mx.other {s0 h : Heap} {x : V} {sz : Nat} {e : TypeId} {rows : List (List V)} (hm : Mx s0 h x sz e rows) {h' : Heap} (hh : ∀ b cs, h.box b = some (cs, e) → h'.box b = some (cs, e)) : Mx s0 h' x sz e rows := by
 refine ⟨hm.1, hm.2.imp id ?_⟩
 rintro ⟨b, cap, tl, h1, h2, h3, h4, h5⟩
 exact ⟨b, cap, tl, h1, h2, h3, h4, hh _ _ h5⟩
theorem keepT {h : Heap} {b : Nat} {cs cs' : List V} {e e' : TypeId} (hb : h.box b = some (cs, e')) (hne : e ≠ e') : ∀ k ks, h.box k = some (ks, e) → (h.setBox b (cs', e')).box k = some (ks, e) := fun k ks hk => by
 have : k ≠ b := fun ek => by subst ek; rw [hb] at hk; cases hk; exact hne rfl
 simp only [Heap.setBox, upd_other _ _ _ _ this]; exact hk
theorem keepN {h : Heap} {b : Nat} {y : List V × TypeId} (hb : h.box b = none) : ∀ k z, h.box k = some z → (h.setBox b y).box k = some z := fun k z hk => by
 have : k ≠ b := fun ek => by subst ek; rw [hb] at hk; cases hk
 simp only [Heap.setBox, upd_other _ _ _ _ this]; exact hk
/-- What goes when such a slice is settled: a box of this type. -/
def Del (h h' : Heap) (e : TypeId) : Prop := ∀ k x, h.box k = some x → x.2 ≠ e → h'.box k = some x
section
variable {Q : Exit → St → Prop} {st : St} {c : Code}
theorem le_del {h s0 : Heap} {b : Nat} (hle : h.le s0) (hb : s0.box b = none) : (h.delBox b).le s0 := ⟨fun k => by
  by_cases e : k = b
  ·subst e; exact .inr hb
  ·simp only [Heap.delBox, upd_other _ _ _ _ e]; exact hle.box k, hle.own⟩
theorem del_del {h : Heap} {b : Nat} {cs : List V} {e : TypeId} (hb : h.box b = some (cs, e)) : Del h (h.delBox b) e := fun k x hk hne => by
 have : k ≠ b := fun ek => by subst ek; rw [hb] at hk; cases hk; exact hne rfl
 simp only [Heap.delBox, upd_other _ _ _ _ this]; exact hk
theorem AWp.settleE (t : Nat) {s0 : Heap} {x : V} {sz : Nat} {e : TypeId} {rows : List (List V)} (hm : Mx s0 st.s x sz e rows) (hle : st.s.le s0) (hE : st.E t = x)
  (h : ∀ h', h'.le s0 → Del st.s h' e → AWp P c Q { st with E := upd st.E t (.slice sz rows), s := h' }) : AWp P c Q st := by
 obtain ⟨hr, ⟨rfl, rfl⟩ | ⟨b, cap, tl, rfl, h2, h3, h4, h5⟩⟩ := hm
 ·have := h st.s hle (fun k x hk _ => hk)
  have e1 : upd st.E t (.slice sz []) = st.E := by funext k; by_cases ek : k = t <;> simp [upd, ek, hE]
  rwa [e1] at this
 ·exact AWp.freezeE t b h5 hE hr h2 h3 (h _ (le_del hle h4) (del_del h5))
theorem AWp.settleB (t i : Nat) {s0 : Heap} {x : V} {sz : Nat} {e : TypeId} {rows : List (List V)} {ls : List V} {lty : TypeId} (hm : Mx s0 st.s x sz e rows) (hle : st.s.le s0) (hl : st.loc t = some (ls, lty)) (hi : ls[i]? = some x)
  (h : ∀ h', h'.le s0 → Del st.s h' e → AWp P c Q { st with loc := upd st.loc t (some (ls.set i (.slice sz rows), lty)), s := h' }) : AWp P c Q st := by
 obtain ⟨hr, ⟨rfl, rfl⟩ | ⟨b, cap, tl, rfl, h2, h3, h4, h5⟩⟩ := hm
 ·have := h st.s hle (fun k x hk _ => hk)
  have e0 : ls.set i (.slice sz []) = ls := by
   apply List.ext_getElem?
   intro j
   rw [List.getElem?_set]
   by_cases ej : i = j
   ·subst ej
    rw [if_pos rfl, if_pos (List.getElem?_eq_some_iff.1 hi).1, hi]
   ·rw [if_neg ej]
  have e1 : upd st.loc t (some (ls.set i (.slice sz []), lty)) = st.loc := by
   rw [e0]
   funext k; by_cases ek : k = t <;> simp [upd, ek, hl]
  rwa [e1] at this
 ·exact AWp.freezeB t i b h5 hl hi hr h2 h3 (h _ (le_del hle h4) (del_del h5))
theorem AWp.settleH (b2 i : Nat) {s0 : Heap} {x : V} {sz : Nat} {e : TypeId} {rows : List (List V)} {ls : List V} {lty : TypeId} (hm : Mx s0 st.s x sz e rows) (hle : st.s.le s0) (hne : lty ≠ e) (hl : st.s.box b2 = some (ls, lty)) (h0 : s0.box b2 = none) (hi : ls[i]? = some x)
  (h : ∀ h', h'.le s0 → (∀ k x, st.s.box k = some x → x.2 ≠ e → x.2 ≠ lty → h'.box k = some x) → h'.box b2 = some (ls.set i (.slice sz rows), lty) → AWp P c Q { st with s := h' }) : AWp P c Q st := by
 obtain ⟨hr, ⟨rfl, rfl⟩ | ⟨b, cap, tl, rfl, h2, h3, h4, h5⟩⟩ := hm
 ·have e0 : ls.set i (.slice sz []) = ls := by
   apply List.ext_getElem?
   intro j
   rw [List.getElem?_set]
   by_cases ej : i = j
   ·subst ej
    rw [if_pos rfl, if_pos (List.getElem?_eq_some_iff.1 hi).1, hi]
   ·rw [if_neg ej]
  exact h st.s hle (fun k x hk _ _ => hk) (by rw [e0]; exact hl)
 ·have hb2 : b2 ≠ b := fun eb => by subst eb; rw [hl] at h5; cases h5; exact hne rfl
  refine AWp.freezeH b2 i b h5 hb2 hl hi hr h2 h3 (h _ ?_ (fun k z hk h7 h8 => ?_) (upd_same _ _ _))
  ·have := (le_del hle h4)
   refine ⟨fun k => ?_, this.own⟩
   by_cases ek : k = b2
   ·subst ek; exact .inr h0
   ·simp only [Heap.setBox, upd_other _ _ _ _ ek]; exact this.box k
  ·have e1 : k ≠ b2 := fun ek => by subst ek; rw [hl] at hk; cases hk; exact h8 rfl
   simp only [Heap.setBox, upd_other _ _ _ _ e1]
   exact del_del h5 k z hk h7
end
end
/-- What is written stands there already. -/
theorem splice_same {cs l : List V} {off : Nat} (h : (cs.drop off).take l.length = l) : splice cs off l = cs := by
 unfold splice
 conv => lhs; arg 1; arg 2; rw [← h]
 rw [List.append_assoc, ← List.drop_drop, List.take_append_drop, List.take_append_drop]
theorem flat_row {sz : Nat} {es : List (List V)} (hs : ∀ r ∈ es, r.length = sz) (tl : List V) {i : Nat} {r : List V} (hr : es[i]? = some r) : i * sz + sz ≤ (es.flatten ++ tl).length ∧ ((es.flatten ++ tl).drop (i * sz)).take sz = r ∧ splice (es.flatten ++ tl) (i * sz) r = es.flatten ++ tl := by
 have hi : i < es.length := (List.getElem?_eq_some_iff.1 hr).1
 have hri : es[i] = r := (List.getElem?_eq_some_iff.1 hr).2
 have hl : r.length = sz := hs r (List.mem_of_getElem? hr)
 have h2 : ((es.flatten ++ tl).drop (i * sz)).take sz = r := by
  have := flat_part hs (tl := tl) (i := i) (j := 0) (n := sz) hi (by omega)
  rw [Nat.add_zero, hri] at this
  rw [this, List.drop_zero, List.take_of_length_le (by omega)]
 refine ⟨?_, h2, splice_same (by rw [hl]; exact h2)⟩
 rw [List.length_append, flat_len hs]
 have : (i + 1) * sz ≤ es.length * sz := Nat.mul_le_mul_right _ hi
 rw [Nat.add_mul] at this; omega
theorem flat_at {sz : Nat} {es : List (List V)} (hs : ∀ r ∈ es, r.length = sz) (tl : List V) {i : Nat} {r : List V} (hr : es[i]? = some r) {j : Nat} {c : V} (hj : r[j]? = some c) : (es.flatten ++ tl)[i * sz + j]? = some c ∧ i * sz + j + 1 ≤ (es.flatten ++ tl).length ∧ splice (es.flatten ++ tl) (i * sz + j) [c] = es.flatten ++ tl := by
 have hi : i < es.length := (List.getElem?_eq_some_iff.1 hr).1
 have hri : es[i] = r := (List.getElem?_eq_some_iff.1 hr).2
 have hl : r.length = sz := hs r (List.mem_of_getElem? hr)
 have hjs : j < sz := by rw [← hl]; exact (List.getElem?_eq_some_iff.1 hj).1
 have h1 : (es.flatten ++ tl)[i * sz + j]? = some c := by rw [flat_cell hs hi hjs, hri, hj]
 have h2 := (List.getElem?_eq_some_iff.1 h1).1
 refine ⟨h1, h2, splice_same ?_⟩
 rw [List.length_singleton, List.drop_eq_getElem_cons h2, List.take_succ_cons, List.take_zero, (List.getElem?_eq_some_iff.1 h1).2]
theorem set_splice {cs : List V} {k : Nat} {c : V} (h : k < cs.length) : splice cs k [c] = cs.set k c := by
 rw [List.set_eq_take_append_cons_drop, if_pos h]
 unfold splice
 rw [List.append_assoc]; rfl
/-- A cell of an element is written. -/
theorem flat_put {sz : Nat} {es : List (List V)} (hs : ∀ r ∈ es, r.length = sz) (tl : List V) {i : Nat} {r : List V} (hr : es[i]? = some r) (j : Nat) (hj : j < sz) (c : V) : (es.flatten ++ tl).set (i * sz + j) c = (es.set i (r.set j c)).flatten ++ tl ∧ splice (es.flatten ++ tl) (i * sz + j) [c] = (es.set i (r.set j c)).flatten ++ tl ∧ i * sz + j + 1 ≤ (es.flatten ++ tl).length ∧
  (∀ q ∈ es.set i (r.set j c), q.length = sz) ∧ (es.set i (r.set j c))[i]? = some (r.set j c) := by
 have hi : i < es.length := (List.getElem?_eq_some_iff.1 hr).1
 have hri : es[i] = r := (List.getElem?_eq_some_iff.1 hr).2
 have hl : r.length = sz := hs r (List.mem_of_getElem? hr)
 have hlen : i * sz + j < (es.flatten ++ tl).length := by
  rw [List.length_append, flat_len hs]
  have : (i + 1) * sz ≤ es.length * sz := Nat.mul_le_mul_right _ hi
  rw [Nat.add_mul] at this; omega
 have h1 := flat_splice hs (tl := tl) (l := [c]) hi (j := j) (by simp; omega)
 rw [hri, set_splice (cs := r) (by omega)] at h1
 exact ⟨by rw [← set_splice hlen]; exact h1, h1, hlen, set_len hs (by simp [hl]), by rw [List.getElem?_set_self hi]⟩
theorem set_back {es : List (List V)} {i : Nat} {r : List V} (hr : es[i]? = some r) : es.set i r = es := by
 apply List.ext_getElem?
 intro j
 rw [List.getElem?_set]
 by_cases ej : i = j
 ·subst ej
  rw [if_pos rfl, if_pos (List.getElem?_eq_some_iff.1 hr).1, hr]
 ·rw [if_neg ej]
theorem Mx.base {s0 s1 h : Heap} {x : V} {sz : Nat} {e : TypeId} {rows : List (List V)} (hm : Mx s1 h x sz e rows) (hle : s1.le s0) : Mx s0 h x sz e rows := by
 refine ⟨hm.1, hm.2.imp id ?_⟩
 rintro ⟨b, cap, tl, h1, h2, h3, h4, h5⟩
 exact ⟨b, cap, tl, h1, h2, h3, hle.none_box h4, h5⟩
theorem Mx.cells {s0 h : Heap} {x : V} {sz : Nat} {e : TypeId} {rows : List (List V)} (hm : Mx s0 h x sz e rows) : V.cells x = [x] := by
 rcases hm.2 with ⟨rfl, rfl⟩ | ⟨b, cap, tl, rfl, _⟩ <;> rfl
/-- A part of an element. -/
theorem flat_sub {sz : Nat} {es : List (List V)} (hs : ∀ r ∈ es, r.length = sz) (tl : List V) {i : Nat} {r : List V} (hr : es[i]? = some r) {j n : Nat} (hj : j + n ≤ sz) {q : List V} (hq : (r.drop j).take n = q) : i * sz + j + n ≤ (es.flatten ++ tl).length ∧ ((es.flatten ++ tl).drop (i * sz + j)).take n = q ∧ splice (es.flatten ++ tl) (i * sz + j) q = es.flatten ++ tl := by
 have hi : i < es.length := (List.getElem?_eq_some_iff.1 hr).1
 have hri : es[i] = r := (List.getElem?_eq_some_iff.1 hr).2
 have hl : r.length = sz := hs r (List.mem_of_getElem? hr)
 have h2 := flat_part hs (tl := tl) hi hj
 rw [hri, hq] at h2
 have hql : q.length = n := by rw [← hq]; simp; omega
 refine ⟨?_, h2, splice_same (by rw [hql]; exact h2)⟩
 rw [List.length_append, flat_len hs]
 have : (i + 1) * sz ≤ es.length * sz := Nat.mul_le_mul_right _ hi
 rw [Nat.add_mul] at this; omega
theorem flat_undo {sz : Nat} {es : List (List V)} (hs : ∀ r ∈ es, r.length = sz) (tl : List V) {i : Nat} {r : List V} (hr : es[i]? = some r) {j : Nat} (hj : j < sz) {c : V} (hc : r[j]? = some c) (v : V) : ((es.set i (r.set j v)).flatten ++ tl).set (i * sz + j) c = es.flatten ++ tl := by
 obtain ⟨_, _, _, q4, q5⟩ := flat_put hs tl hr j hj v
 rw [(flat_put q4 tl q5 j hj c).1, List.set_set, List.set_set]
 have : r.set j c = r := by
  apply List.ext_getElem?
  intro k
  rw [List.getElem?_set]
  by_cases ek : j = k
  ·subst ek
   rw [if_pos rfl, if_pos (List.getElem?_eq_some_iff.1 hc).1, hc]
  ·rw [if_neg ek]
 rw [this, set_back hr]
end Go.Am
