/- Rows of cells, filled and read: the abstract row follows the machine's. -/
import Derived.Test.YtdomhnkffghmlaaGreatDoorSAmPure
import Derived.Test.YtdomhnkffghmlaaGreatDoorSAmWorld
set_option linter.unusedVariables false
set_option linter.unusedSimpArgs false
namespace Go.Am
variable {P : Program}
theorem foldl_set : ∀ (l : List Value) (k : Nat) (cells : Array Value) (off : Nat), off + k + l.length ≤ cells.size →
  ((l.zipIdx k).foldl (fun (cs : Array Value) (x : Value × Nat) => cs.setIfInBounds (off + x.2) x.1) cells).toList = cells.toList.take (off + k) ++ l ++ cells.toList.drop (off + k + l.length)
 | [], k, cells, off, h => by simp
 | v :: l, k, cells, off, h => by
  simp only [List.zipIdx_cons, List.foldl_cons]
  simp only [List.length_cons] at h
  rw [foldl_set l (k + 1) _ off (by simp; omega)]
  have e := list_seg_step cells.toList (off + k) v l (by simpa using h)
  simpa [Array.toList_setIfInBounds, Nat.add_assoc] using e
theorem fill_step (off : Nat) (v cells : Array Value) (h : off + v.size ≤ cells.size) :
  (v.zipIdx.foldl (fun (cs : Array Value) (x : Value × Nat) => cs.setIfInBounds (off + x.2) x.1) cells).toList = cells.toList.take off ++ v.toList ++ cells.toList.drop (off + v.size) := by
 have := foldl_set v.toList 0 cells off (by simpa using h)
 rw [← Array.foldl_toList]
 simpa using this
/-- A part's cells. -/
theorem cells_rep {G : Ghost} {be : Nat → Option Nat} {loc : Nat → Option (List V × TypeId)} {c : V} {v : Value} (h : LRep G be loc c v) (hc : c.cells.all V.isCell = true) :
  RepL G c.cells v.cells.toList ∧ ∀ x ∈ v.cells.toList, x.oneCell' = true := by
 have one : ∀ (cs : List V) (vs : List Value), RepL G cs vs → cs.all V.isCell = true → ∀ x ∈ vs, x.oneCell' = true := by
  intro cs vs hr hall x hx
  obtain ⟨i, hi, rfl⟩ := List.mem_iff_getElem.1 hx
  have hi' : i < cs.length := by rw [hr.1]; exact hi
  exact (hr.2 i _ _ (List.getElem?_eq_getElem hi') (List.getElem?_eq_getElem hi)).oneCell (List.all_eq_true.1 hall _ (List.getElem_mem hi'))
 by_cases hagg : ∃ cs, c = .agg cs
 ·obtain ⟨cs, rfl⟩ := hagg
  cases (show Rep G (.agg cs) v from h) with
  | agg _ ccs hl hh =>
   have := repL_of_arr hl hh
   exact ⟨this, one _ _ this hc⟩
 ·have hcs : c.cells = [c] := by cases c <;> first | rfl | exact absurd ⟨_, rfl⟩ hagg
  rw [hcs] at hc ⊢
  have hcell : c.isCell = true := by simpa using hc
  have hr : Rep G c v := h.rep (fun t off e => by subst e; simp [V.isCell] at hcell)
  have h1 := hr.oneCell hcell
  have hv : v.cells = #[v] := by cases v <;> first | rfl | (simp [Value.oneCell'] at h1)
  rw [hv]
  exact ⟨RepL.cons hr (RepL.nil G), by simpa using h1⟩
theorem fill_rep {G : Ghost} {be : Nat → Option Nat} {loc : Nat → Option (List V × TypeId)} (place : Nat → Option (Nat × Nat)) : ∀ (parts : List (Nat × V)) (vparts : List (Nat × Value)) (cs cs' : List V) (ccs : Array Value),
  fillV place cs parts = some cs' → RepL G cs ccs.toList → (∀ x ∈ ccs.toList, x.oneCell' = true) → parts.length = vparts.length → (∀ (i : Nat) p q, parts[i]? = some p → vparts[i]? = some q → p.1 = q.1 ∧ LRep G be loc p.2 q.2) →
  ∃ ccs', Instr.fill place ccs vparts = some ccs' ∧ RepL G cs' ccs'.toList ∧ (∀ x ∈ ccs'.toList, x.oneCell' = true)
 | [], vparts, cs, cs', ccs, h, hr, h1, hl, hp => by
  obtain rfl : vparts = [] := List.eq_nil_of_length_eq_zero (by simpa using hl.symm)
  simp [fillV] at h; subst h
  exact ⟨ccs, rfl, hr, h1⟩
 | (i, c) :: parts, vparts, cs, cs', ccs, h, hr, h1, hl, hp => by
  cases vparts with
  | nil => simp at hl
  | cons q vparts =>
   obtain ⟨j, v⟩ := q
   obtain ⟨rfl, hv⟩ := hp 0 (i, c) (j, v) rfl rfl
   simp only [fillV] at h
   cases hpl : place i with
   | none => rw [hpl] at h; cases h
   | some x =>
    obtain ⟨off, size⟩ := x
    rw [hpl] at h
    simp only at h
    split at h
    ·rename_i hc
     obtain ⟨hsz, hoff, hall⟩ := hc
     obtain ⟨hrc, hone⟩ := cells_rep hv hall
     have hvs : v.cells.size = c.cells.length := by rw [hrc.1]; simp
     have hcs : ccs.size = cs.length := by rw [hr.1]; simp
     have hstep := fill_step off v.cells ccs (by omega)
     have hsp : RepL G (splice cs off c.cells) (v.cells.zipIdx.foldl (fun (cs : Array Value) (x : Value × Nat) => cs.setIfInBounds (off + x.2) x.1) ccs).toList := by
      rw [hstep, splice, hvs]
      exact ((hr.take off).append hrc).append (hr.drop _)
     have hone' : ∀ x ∈ (v.cells.zipIdx.foldl (fun (cs : Array Value) (x : Value × Nat) => cs.setIfInBounds (off + x.2) x.1) ccs).toList, x.oneCell' = true := by
      rw [hstep]
      intro x hx
      simp only [List.mem_append] at hx
      rcases hx with (hx | hx) | hx
      ·exact h1 x (List.mem_of_mem_take hx)
      ·exact hone x hx
      ·exact h1 x (List.mem_of_mem_drop hx)
     obtain ⟨ccs', hf, hres⟩ := fill_rep place parts vparts _ cs' _ h hsp hone' (by simpa using hl) (fun k p q a b => hp (k + 1) p q (by simpa using a) (by simpa using b))
     refine ⟨ccs', ?_, hres⟩
     simp only [Instr.fill, hpl]
     rw [if_neg (by simp; omega)]
     exact hf
    ·cases h
theorem isAgg_run {t : TypeId} {u : TypeDesc} (hu : P.underlying t = some u) (w : World) : (isAgg t).run P w = .ok (isAggOf P t) w := by
 unfold isAgg isAggOf
 rw [Sem.run_bind, run_underlying hu w, hu]
 cases u <;> simp
/-- A variable is read out of a row. -/
theorem rd_run {G : Ghost} {w : World} {b o off : Nat} {cs : List V} {vs : List Value} {t : TypeId} {d : TyD} {v : V} (hr : RepL G cs vs) (hc : w.rangeAt b o vs) (ht : tyOf P t = some d) (h : rd d cs off = some v) :
  ∃ cv, (Instr.loadAt t (.pointer (some ⟨b, o + off, none⟩))).run P w = .ok cv w ∧ Rep G v cv := by
 obtain ⟨i, u, z, hi, hu, hz, h1, h2, h3, h4, h5⟩ := tyOf_some ht
 unfold rd at h
 by_cases ha : d.agg = true
 ·rw [if_pos ha] at h
  split at h
  ·rename_i hle
   cases h
   have hlen : ((vs.drop off).take d.size).length = d.size := by rw [List.length_take, List.length_drop]; have := hr.1; omega
   refine ⟨.agg ((vs.drop off).take d.size).toArray, ?_, ?_⟩
   ·refine run_loadAt_mid w b (o + off) t _ u (fun j v hv => ?_) hu ?_ (by rw [hi, hlen, h1]; rfl)
    ·rw [List.getElem?_take] at hv
     split at hv
     ·rw [List.getElem?_drop] at hv
      have := hc (off + j) v hv
      rwa [← Nat.add_assoc] at this
     ·cases hv
    ·rw [h4] at ha
     unfold isAggOf at ha
     rw [hu] at ha
     cases u <;> simp_all
   ·exact (show RepL G _ _ from by simpa using ((hr.drop off).take d.size)).agg
  ·cases h
 ·rw [if_neg ha] at h
  obtain ⟨cv, hv, hrep⟩ := hr.get h
  refine ⟨cv, ?_, hrep⟩
  have hcell := hc off cv hv
  have hagg : isAggOf P t = false := by rw [← h4]; simpa using ha
  simp [Instr.loadAt, Instr.sureAddr, loadVar, isAgg_run hu, hagg, run_load, hcell]
end Go.Am
