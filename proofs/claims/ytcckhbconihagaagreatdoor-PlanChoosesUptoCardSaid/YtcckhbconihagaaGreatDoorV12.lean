/- The planner in plain terms: offers, the next steps, the plan of an arm; its plan may be. -/
import Derived.Test.YtcckhbconihagaaGreatDoorV10
import Derived.Test.YtcckhbconihagaaGreatDoorV8
import Derived.Test.YtcckhbconihagaaGreatDoorV11
import Derived.Test.YtcckhbconihagaaGreatDoorV9
set_option linter.unusedVariables false
set_option linter.unusedSimpArgs false
namespace Go.Pl
open Go.Am
open Go.Proofs.YtcckhbconihagaaGreatDoor (same)
/-- A source that may come next, and a path of it. -/
structure Stp where
 frm : Int
 path : Path
def Stp.v (x : Stp) : List V := [vint x.frm] ++ x.path.v
theorem Stp.v_eq (x : Stp) : x.v = [vint x.frm, vint x.path.kind, vstr x.path.index, .slice 14 (x.path.eq.map Term.v), .slice 15 (x.path.low.map Bound.v), .slice 15 (x.path.high.map Bound.v)] := rfl
def scanP : Path := ⟨0, .empty, [], [], []⟩
def rowidP (t : Term) : Path := ⟨1, .empty, [t], [], []⟩
def isFirst (k : Sorted) (opn closed : Int) (x : Said) : Bool := keyed k x && (x.op == opn || x.op == closed)
def firstB (l : List Said) (k : Sorted) (opn closed : Int) : List Bound :=
 match l.find? (isFirst k opn closed) with
 | some x => [⟨x.fin, x.op == opn⟩]
 | none => []
def isEq (k : Sorted) (x : Said) : Bool := (x.op == 13) && keyed k x
def idxd (l : List Said) : List Sorted → List Term × List Bound × List Bound
 | [] => ([], [], [])
 | k :: ks => match l.find? (isEq k) with
  | some x => (x.fin :: (idxd l ks).1, (idxd l ks).2)
  | none => ([], firstB l k 17 18, firstB l k 15 16)
def indexed (i : Index) (l : List Said) : Path := ⟨2, i.name, (idxd l i.keys).1, (idxd l i.keys).2.1, (idxd l i.keys).2.2⟩
def oneIf {α β : Type} (p : α → Bool) (f : α → β) (x : α) : List β := if p x then [f x] else []
def sayable (a : Arm) (k : Int) (ahead : List Int) : List Said := (usable a k).flatMap (oneIf (fun x => within x.fin ahead) id)
def rowids (l : List Said) (pk : Int) : List Path := l.flatMap (oneIf (fun x => (x.op == 13) && rowid pk x) fun x => rowidP x.fin)
def isIndex (s : Schema) (t : Table) (n : Nat) : Bool := ((n : Nat) : Int) == s.index t.name (s.indexes.getD n zindex).name
def indexPaths (s : Schema) (t : Table) (l : List Said) : List Path := (List.range s.indexes.length).flatMap (oneIf (isIndex s t) fun n => indexed (s.indexes.getD n zindex) l)
def noTable (s : Schema) (a : Arm) (k : Int) : Bool := ((a.src k).kind != 0) || !s.hasTable (a.src k).name
def offers (s : Schema) (a : Arm) (k : Int) (ahead : List Int) : List Path :=
 if noTable s a k then [scanP]
 else rowids (sayable a k ahead) (s.table (a.src k).name).pk ++ (indexPaths s (s.table (a.src k).name) (sayable a k ahead) ++ [scanP])
def nextAt (s : Schema) (a : Arm) (ahead : List Int) (k : Nat) : List Stp :=
 if ahead.any ((k : Int) == ·) || !ready a k ahead then [] else (offers s a k ahead).map (Stp.mk k)
def next (s : Schema) (a : Arm) (ahead : List Int) : List Stp := (List.range a.frm.length).flatMap (nextAt s a ahead)
/-- Which of Where's terms come with a step. -/
def newW (a : Arm) (ahead met : List Int) : Nat → List Int
 | 0 => []
 | n + 1 => newW a ahead met n ++ (if !((met ++ newW a ahead met n).any ((n : Int) == ·)) && within (a.whr.getD n zterm) ahead then [(n : Int)] else [])
def stepOf (x : Stp) (w : List Int) : Step := ⟨x.frm, x.path.kind, x.path.index, x.path.eq, x.path.low, x.path.high, w⟩
section
variable {σ : Type} (ch : σ → List Stp → σ × Stp) (s : Schema) (a : Arm)
def planGo : Nat → σ → List Int → List Int → List Step → σ × List Step
 | 0, q, ahead, met, st => (q, if decide (((met.length : Nat) : Int) < ((a.whr.length : Nat) : Int)) then [] else st)
 | n + 1, q, ahead, met, st =>
  if (((next s a ahead).length : Nat) : Int) == 0 then (q, [])
  else planGo n (ch q (next s a ahead)).1 (ahead ++ [(ch q (next s a ahead)).2.frm]) (met ++ newW a (ahead ++ [(ch q (next s a ahead)).2.frm]) met a.whr.length)
   (st ++ [stepOf (ch q (next s a ahead)).2 (newW a (ahead ++ [(ch q (next s a ahead)).2.frm]) met a.whr.length)])
def planA (q : σ) : σ × Arm := ((planGo ch s a a.frm.length q [] [] []).1, { a with steps := (planGo ch s a a.frm.length q [] [] []).2 })
end
/-! What is offered may be. -/
theorem mem_oneIf {α β : Type} {p : α → Bool} {f : α → β} {y : β} {l : List α} : y ∈ l.flatMap (oneIf p f) ↔ ∃ x ∈ l, p x = true ∧ y = f x := by
 unfold oneIf
 rw [List.mem_flatMap]
 constructor
 ·rintro ⟨x, hx, h⟩
  split at h
  ·rename_i hp; exact ⟨x, hx, hp, List.mem_singleton.1 h⟩
  ·cases h
 ·rintro ⟨x, hx, hp, rfl⟩
  exact ⟨x, hx, by rw [if_pos hp]; simp⟩
theorem mem_sayable {a : Arm} {k : Int} {ahead : List Int} {x : Said} (h : x ∈ sayable a k ahead) : x ∈ usable a k ∧ within x.fin ahead = true := by
 obtain ⟨y, hy, hp, rfl⟩ := mem_oneIf.1 h
 exact ⟨hy, hp⟩
theorem has_of {a : Arm} {k : Int} {ops ahead : List Int} {is : Said → Bool} {x : Said} (h : x ∈ sayable a k ahead) (ho : ops.any (x.op == ·) = true) (hi : is x = true) : has a k ops ahead x.fin is = true := by
 obtain ⟨h1, h2⟩ := mem_sayable h
 unfold has
 rw [h2, Bool.true_and, List.any_eq_true]
 exact ⟨x, h1, by rw [ho, hi]; simp [same]⟩
theorem bounded_first {a : Arm} {k : Int} {ahead : List Int} {opn closed : Int} {ky : Sorted} {ks : List Sorted} : bounded a k (firstB (sayable a k ahead) ky opn closed) ahead opn closed (ky :: ks) = true := by
 unfold firstB
 split
 ·rename_i x hx
  have hm := List.mem_of_find?_eq_some hx
  have hp := List.find?_some hx
  unfold isFirst at hp
  rw [Bool.and_eq_true, Bool.or_eq_true] at hp
  unfold bounded
  refine has_of (x := x) hm ?_ hp.1
  simp only [List.any_cons, List.any_nil, Bool.or_false]
  by_cases e : (x.op == opn) = true
  ·rw [if_pos e]; exact e
  ·rw [if_neg e]; exact hp.2.resolve_left e
 ·rfl
theorem idxd_ok {a : Arm} {k : Int} {ahead : List Int} : ∀ ks : List Sorted, (idxd (sayable a k ahead) ks).1.length ≤ ks.length ∧ eqs a k ahead (idxd (sayable a k ahead) ks).1 ks = true ∧
  bounded a k (idxd (sayable a k ahead) ks).2.1 ahead 17 18 (ks.drop (idxd (sayable a k ahead) ks).1.length) = true ∧ bounded a k (idxd (sayable a k ahead) ks).2.2 ahead 15 16 (ks.drop (idxd (sayable a k ahead) ks).1.length) = true
 | [] => by simp [idxd, eqs, bounded]
 | ky :: ks => by
  obtain ⟨h1, h2, h3, h4⟩ := idxd_ok ks
  unfold idxd
  split
  ·rename_i x hx
   have hm := List.mem_of_find?_eq_some hx
   have hp := List.find?_some hx
   unfold isEq at hp
   rw [Bool.and_eq_true] at hp
   refine ⟨Nat.succ_le_succ h1, ?_, by simpa using h3, by simpa using h4⟩
   unfold eqs
   rw [has_of hm (by simpa using hp.1) hp.2, h2]; rfl
  ·exact ⟨Nat.zero_le _, rfl, by simpa using bounded_first, by simpa using bounded_first⟩
theorem noName_empty : noName ByteArray.empty = true := by
 have : ByteArray.empty = ⟨#[]⟩ := rfl
 rw [noName, this]; exact beq_self_eq_true _
theorem path_scan {s : Schema} {a : Arm} {k : Int} {ahead : List Int} : pathOk s a k scanP ahead = true := by
 unfold pathOk scanP
 simp [noName_empty]
theorem offers_ok {s : Schema} {a : Arm} {k : Int} {ahead : List Int} {x : Path} (h : x ∈ offers s a k ahead) : pathOk s a k x ahead = true := by
 unfold offers at h
 split at h
 ·rw [List.mem_singleton.1 h]; exact path_scan
 ·rename_i hn
  have hn' : (((a.src k).kind != 0) || !s.hasTable (a.src k).name) = false := by
   have := hn; unfold noTable at this; simpa using this
  rcases List.mem_append.1 h with h | h
  ·obtain ⟨y, hy, hp, rfl⟩ := mem_oneIf.1 h
   rw [Bool.and_eq_true] at hp
   unfold pathOk
   rw [hn', Bool.and_false]
   have : has a k [13] ahead y.fin (rowid (s.table (a.src k).name).pk) = true := has_of hy (by simpa using hp.1) hp.2
   simp [rowidP, rowidOk, this, noName_empty]
  ·rcases List.mem_append.1 h with h | h
   ·obtain ⟨n, hnr, hp, rfl⟩ := mem_oneIf.1 h
    unfold isIndex at hp
    rw [beq_iff_eq] at hp
    obtain ⟨h1, h2, h3, h4⟩ := idxd_ok (a := a) (k := k) (ahead := ahead) (s.indexes.getD n zindex).keys
    have hk : s.keys ((n : Nat) : Int) = (s.indexes.getD n zindex).keys := by unfold Schema.keys; rw [Int.toNat_natCast]
    unfold pathOk
    rw [hn', Bool.and_false]
    have e2 : indexOk s a k (indexed (s.indexes.getD n zindex) (sayable a k ahead)) ahead (s.index (s.table (a.src k).name).name (indexed (s.indexes.getD n zindex) (sayable a k ahead)).index) = true := by
     have : s.index (s.table (a.src k).name).name (indexed (s.indexes.getD n zindex) (sayable a k ahead)).index = ((n : Nat) : Int) := hp.symm
     rw [this]
     unfold indexOk
     rw [hk]
     have l1 : decide (((n : Nat) : Int) < 0) = false := by simp
     have l2 : decide ((((indexed (s.indexes.getD n zindex) (sayable a k ahead)).eq.length : Nat) : Int) > (((s.indexes.getD n zindex).keys.length : Nat) : Int)) = false := by
      have h1' : (idxd (sayable a k ahead) (s.indexes.getD n zindex).keys).1.length ≤ (s.indexes.getD n zindex).keys.length := h1
      rw [decide_eq_false_iff_not]
      show ¬ ((((idxd (sayable a k ahead) (s.indexes.getD n zindex).keys).1.length : Nat) : Int) > (((s.indexes.getD n zindex).keys.length : Nat) : Int))
      omega
     rw [l1, l2]
     simp only [indexed, h2, h3, h4]; rfl
    rw [e2]
    simp [indexed]
   ·rw [List.mem_singleton.1 h]; exact path_scan
theorem next_ok {s : Schema} {a : Arm} {ahead : List Int} {x : Stp} (h : x ∈ next s a ahead) (w : List Int) : stepBad s a ahead (stepOf x w) = false := by
 unfold next at h
 obtain ⟨k, hk, h⟩ := List.mem_flatMap.1 h
 unfold nextAt at h
 split at h
 ·cases h
 ·rename_i hn
  obtain ⟨p, hp, rfl⟩ := List.mem_map.1 h
  rw [Bool.not_eq_true, Bool.or_eq_false_iff] at hn
  have hk' := List.mem_range.1 hk
  unfold stepBad
  show (decide (((k : Nat) : Int) < 0) || decide (((k : Nat) : Int) ≥ ((a.frm.length : Nat) : Int)) || ahead.any (((k : Nat) : Int) == ·) || !ready a ((k : Nat) : Int) ahead || !pathOk s a ((k : Nat) : Int) p ahead) = false
  rw [hn.1, hn.2, offers_ok hp]
  simp; omega
theorem whereOk_append {a : Arm} {ahead : List Int} : ∀ (w met : List Int) (k : Int), whereOk a ahead met (w ++ [k]) = (whereOk a ahead met w).bind fun m => if whereBad a ahead m k then none else some (m ++ [k])
 | [], met, k => by simp only [List.nil_append, whereOk, Option.bind_some]
 | x :: w, met, k => by
  simp only [List.cons_append, whereOk]
  split
  ·rfl
  ·exact whereOk_append w _ k
theorem where_newW {a : Arm} {ahead met : List Int} : ∀ n, n ≤ a.whr.length → whereOk a ahead met (newW a ahead met n) = some (met ++ newW a ahead met n)
 | 0, _ => by simp [newW, whereOk]
 | n + 1, h => by
  have ih := where_newW (a := a) (ahead := ahead) (met := met) n (by omega)
  unfold newW
  split
  ·rename_i hc
   rw [Bool.and_eq_true, Bool.not_eq_true'] at hc
   rw [whereOk_append, ih, Option.bind_some, ← List.append_assoc]
   have : whereBad a ahead (met ++ newW a ahead met n) (n : Int) = false := by
    unfold whereBad
    rw [hc.1, Int.toNat_natCast, hc.2]
    simp; omega
   rw [this]; rfl
  ·rw [List.append_nil]; exact ih
/-- Distinct places of Where. -/
def Dist (n : Nat) (l : List Int) : Prop := l.Nodup ∧ ∀ k ∈ l, 0 ≤ k ∧ k < (n : Int)
theorem dist_len : ∀ (n : Nat) (l : List Int), Dist n l → l.length ≤ n
 | 0, l, h => by
  cases l with
  | nil => exact Nat.le_refl _
  | cons x r => have := h.2 x (by simp); omega
 | n + 1, l, h => by
  have h1 : Dist n (l.erase (n : Int)) := by
   refine ⟨h.1.erase _, fun k hk => ?_⟩
   have h2 := (h.1.mem_erase_iff).1 hk
   have h3 := h.2 k h2.2
   omega
  have h2 := dist_len n _ h1
  have h3 : l.length ≤ (l.erase (n : Int)).length + 1 := by rw [List.length_erase]; split <;> omega
  omega
theorem whereOk_dist {a : Arm} {ahead : List Int} : ∀ (w met m : List Int), whereOk a ahead met w = some m → Dist a.whr.length met → Dist a.whr.length m
 | [], met, m, h, hd => by simp only [whereOk, Option.some.injEq] at h; exact h ▸ hd
 | k :: w, met, m, h, hd => by
  simp only [whereOk] at h
  split at h
  ·cases h
  ·rename_i hb
   refine whereOk_dist w _ m h ⟨?_, fun x hx => ?_⟩
   all_goals
    unfold whereBad at hb
    simp only [Bool.not_eq_true, Bool.or_eq_false_iff, decide_eq_false_iff_not] at hb
    obtain ⟨⟨⟨b1, b2⟩, b3⟩, b4⟩ := hb
   ·rw [List.nodup_append]
    refine ⟨hd.1, by simp, fun x hx y hy e => ?_⟩
    rw [List.mem_singleton] at hy
    have := any_mem.2 hx
    rw [e, hy, b3] at this; cases this
   ·rcases List.mem_append.1 hx with hx | hx
    ·exact hd.2 x hx
    ·rw [List.mem_singleton.1 hx]; omega
section
variable {σ : Type} {ch : σ → List Stp → σ × Stp} {s : Schema} {a : Arm}
theorem planGo_ok (hch : ∀ q l, l ≠ [] → (ch q l).2 ∈ l) : ∀ (n : Nat) (q : σ) (ahead met : List Int) (st : List Step), (planGo ch s a n q ahead met st).2 = [] ∨
  ∃ rest ahead' met', (planGo ch s a n q ahead met st).2 = st ++ rest ∧ stepsOk s a ahead met rest = some (ahead', met') ∧ ahead'.length = ahead.length + n ∧ a.whr.length ≤ met'.length ∧ (Dist a.whr.length met → Dist a.whr.length met')
 | 0, q, ahead, met, st => by
  unfold planGo
  by_cases h : ((met.length : Nat) : Int) < ((a.whr.length : Nat) : Int)
  ·rw [if_pos (by simpa using h)]; exact .inl rfl
  ·rw [if_neg (by simpa using h)]
   exact .inr ⟨[], ahead, met, by simp, rfl, by simp, by omega, id⟩
 | n + 1, q, ahead, met, st => by
  unfold planGo
  by_cases h : next s a ahead = []
  ·rw [if_pos (by rw [h]; rfl)]; exact .inl rfl
  ·rw [if_neg (by rw [beq_iff_eq]; intro e; exact h (List.eq_nil_of_length_eq_zero (by omega)))]
   have hm := hch q _ h
   rcases planGo_ok hch n (ch q (next s a ahead)).1 (ahead ++ [(ch q (next s a ahead)).2.frm]) (met ++ newW a (ahead ++ [(ch q (next s a ahead)).2.frm]) met a.whr.length) (st ++ [stepOf (ch q (next s a ahead)).2 (newW a (ahead ++ [(ch q (next s a ahead)).2.frm]) met a.whr.length)]) with h1 | ⟨rest, ah, m, h1, h2, h3, h4, h5⟩
   ·exact .inl h1
   ·have hw := where_newW (a := a) (ahead := ahead ++ [(ch q (next s a ahead)).2.frm]) (met := met) _ (Nat.le_refl _)
    refine .inr ⟨stepOf (ch q (next s a ahead)).2 (newW a (ahead ++ [(ch q (next s a ahead)).2.frm]) met a.whr.length) :: rest, ah, m, by rw [h1]; simp, ?_, by rw [h3]; simp; omega, h4, fun hd => h5 (whereOk_dist _ _ _ hw hd)⟩
    unfold stepsOk
    rw [next_ok hm]
    show (match whereOk a (ahead ++ [(ch q (next s a ahead)).2.frm]) met (newW a (ahead ++ [(ch q (next s a ahead)).2.frm]) met a.whr.length) with | none => none | some m => stepsOk s a (ahead ++ [(ch q (next s a ahead)).2.frm]) m rest) = _
    rw [hw]; exact h2
theorem eqs_steps (x : List Step) {k : Int} {ahead : List Int} : ∀ (l : List Term) (ks : List Sorted), eqs { a with steps := x } k ahead l ks = eqs a k ahead l ks
 | [], _ => rfl
 | e :: l, q :: ks => by
  have e1 : has { a with steps := x } k [13] ahead e (keyed q) = has a k [13] ahead e (keyed q) := rfl
  simp only [eqs, eqs_steps x l ks, e1]
 | _ :: _, [] => rfl
theorem bounded_steps (x : List Step) {k : Int} {l : List Bound} {ahead : List Int} {o c : Int} {ks : List Sorted} : bounded { a with steps := x } k l ahead o c ks = bounded a k l ahead o c ks := by
 unfold bounded
 split <;> rfl
theorem pathOk_steps (x : List Step) {k : Int} {p : Path} {ahead : List Int} : pathOk s { a with steps := x } k p ahead = pathOk s a k p ahead := by
 unfold pathOk indexOk
 simp only [eqs_steps, bounded_steps]
 rfl
theorem stepsOk_steps (x : List Step) : ∀ (l : List Step) (ahead met : List Int), stepsOk s { a with steps := x } ahead met l = stepsOk s a ahead met l
 | [], _, _ => rfl
 | y :: l, ahead, met => by
  have e1 : stepBad s { a with steps := x } ahead y = stepBad s a ahead y := by unfold stepBad; rw [pathOk_steps]; rfl
  have e2 : ∀ (w met : List Int), whereOk { a with steps := x } (ahead ++ [y.frm]) met w = whereOk a (ahead ++ [y.frm]) met w := fun w => by
   induction w with
   | nil => intro met; rfl
   | cons k w ih =>
    intro met
    simp only [whereOk, ih]; rfl
  simp only [stepsOk, e1, e2, stepsOk_steps x l]
/-- **A planned arm's plan may be.** -/
theorem planA_ok (hch : ∀ q l, l ≠ [] → (ch q l).2 ∈ l) (q : σ) : (((((planA ch s a q).2.steps.length : Nat) : Int) == 0) || armOk s (planA ch s a q).2) = true := by
 rcases planGo_ok (s := s) (a := a) hch a.frm.length q [] [] [] with h | ⟨rest, ah, m, h1, h2, h3, h4, h5⟩
 ·unfold planA; rw [h]; rfl
 ·have hm := dist_len _ _ (h5 ⟨List.nodup_nil, by simp⟩)
  rw [List.nil_append] at h1
  unfold armOk planA
  simp only [h1, stepsOk_steps, h2]
  have : m.length = a.whr.length := by omega
  rw [h3, this]; simp
end
/-- A term's nodes outside of its selects. -/
def Term.nw : Term → Nat
  | ⟨_, _, _, _, _, _, _, _, _, _, _, _, args', _⟩ => 1 + (args'.map Term.nw).sum
 termination_by t => SizeOf.sizeOf t
theorem Term.nw_eq (t : Term) : t.nw = 1 + (t.args.map Term.nw).sum := by cases t; rw [Term.nw]
theorem sum_le_of {α : Type} {f g : α → Nat} : ∀ l : List α, (∀ x ∈ l, f x ≤ g x) → (l.map f).sum ≤ (l.map g).sum
 | [], _ => Nat.le_refl _
 | x :: l, h => by
  have h1 := h x (by simp); have h2 := sum_le_of l fun y hy => h y (by simp [hy])
  simp only [List.map_cons, List.sum_cons]; omega
theorem nw_le : ∀ (n : Nat) (t : Term), t.w ≤ n → t.nw ≤ t.w
 | 0, t, h => by rw [Term.w_eq] at h; omega
 | n + 1, t, h => by
  rw [Term.nw_eq]
  have e := Term.w_eq t
  have : (t.args.map Term.nw).sum ≤ (t.args.map Term.w).sum := sum_le_of _ fun x hx => by
   have hm : x.w ≤ (t.args.map Term.w).sum := by
    have : ∀ (l : List Term), x ∈ l → x.w ≤ (l.map Term.w).sum := by
     intro l
     induction l with
     | nil => intro h; cases h
     | cons z l ih =>
      intro h
      simp only [List.map_cons, List.sum_cons]
      rcases List.mem_cons.1 h with rfl | h
      ·omega
      ·have := ih h; omega
    exact this _ hx
   exact nw_le n x (by omega)
  omega
def Term.sw (t : Term) : Nat := t.w - t.nw
theorem Term.w_ns (t : Term) : t.w = t.nw + t.sw := by have := nw_le _ t (Nat.le_refl _); unfold Term.sw; omega
theorem sum_ns : ∀ l : List Term, (l.map Term.w).sum = (l.map Term.nw).sum + (l.map Term.sw).sum
 | [] => rfl
 | t :: l => by have := t.w_ns; have := sum_ns l; simp only [List.map_cons, List.sum_cons]; omega
theorem Term.sw_eq (t : Term) : t.sw = (t.args.map Term.sw).sum + (t.sub.map Query.w).sum := by
 have h1 := t.w_ns; have h2 := Term.w_eq t; have h3 := t.nw_eq; have h4 := sum_ns t.args; omega
theorem Term.nw_pos (t : Term) : 1 ≤ t.nw := by rw [t.nw_eq]; omega
/-- A term in which no select stands is all nodes. -/
theorem sw_zero : ∀ (n : Nat) (t : Term), t.w ≤ n → selects t = false → t.sw = 0
 | 0, t, h, _ => by rw [Term.w_eq] at h; omega
 | n + 1, t, h, hs => by
  rw [selects_eq, Bool.or_eq_false_iff, decide_eq_false_iff_not] at hs
  rw [Term.sw_eq]
  have hsub : t.sub = [] := List.eq_nil_of_length_eq_zero (by omega)
  have e := Term.w_eq t
  have : ∀ (l : List Term), (l.map Term.w).sum ≤ n → l.any selects = false → (l.map Term.sw).sum = 0 := by
   intro l
   induction l with
   | nil => intro _ _; rfl
   | cons x l ih =>
    intro h1 h2
    rw [List.any_cons, Bool.or_eq_false_iff] at h2
    simp only [List.map_cons, List.sum_cons] at h1 ⊢
    rw [sw_zero n x (by omega) h2.1, ih (by omega) h2.2]
  rw [this t.args (by omega) hs.2, hsub]; rfl
/-- Whose column a comparison may be of. -/
def serves (k : Int) (t : Term) : Bool := match t.args with
 | [c, o] => c.frm == k || o.frm == k
 | _ => false
def conj (a : Arm) : List Term := a.whr ++ a.frm.flatMap From.on
def endW (k : Int) (l : List Term) : Nat := (l.map fun t => if serves k t then t.nw else 0).sum
theorem endW_mem {k : Int} {t : Term} : ∀ {l : List Term}, t ∈ l → serves k t = true → t.nw ≤ endW k l
 | x :: l, h, hs => by
  unfold endW
  simp only [List.map_cons, List.sum_cons]
  rcases List.mem_cons.1 h with rfl | h
  ·rw [if_pos hs]; omega
  ·have := endW_mem h hs; unfold endW at this; omega
theorem usableTerms_mem {a : Arm} {k : Int} {t : Term} (h0 : 0 ≤ k) (h1 : k < ((a.frm.length : Nat) : Int)) (h : t ∈ usableTerms a k) : t ∈ conj a := by
 unfold usableTerms at h
 unfold conj
 split at h
 ·have : a.src k ∈ a.frm := by
   have h : k.toNat < a.frm.length := by omega
   simp [Arm.src, List.getD_eq_getElem?_getD, h]
  exact List.mem_append.2 (.inr (List.mem_flatMap.2 ⟨_, this, h⟩))
 ·rcases List.mem_append.1 h with h | h
  ·exact List.mem_append.2 (.inl h)
  ·obtain ⟨f, hf, h⟩ := List.mem_flatMap.1 h
   unfold innerOn at h
   split at h
   ·exact List.mem_append.2 (.inr (List.mem_flatMap.2 ⟨f, hf, h⟩))
   ·cases h
theorem two_args {t : Term} (h : saysBad t = false) : ∃ c o, t.args = [c, o] := by
 unfold saysBad at h
 simp only [Bool.or_eq_false_iff] at h
 have : t.args.length = 2 := by
  have := h.2
  simp only [bne_eq_false_iff_eq] at this
  omega
 match e : t.args, this with
 | [c, o], _ => exact ⟨c, o, rfl⟩
theorem side_mem {k op coll : Int} {c o : Term} {x y : Int} {z : Said} (h : z ∈ side k op coll c o x y) : c.frm = k ∧ selects z.fin = false ∧ z.fin.w ≤ 1 + o.nw := by
 unfold side at h
 split at h
 ·cases h
 ·rename_i hb
  rw [Bool.not_eq_true] at hb
  unfold sideBad at hb
  simp only [Bool.or_eq_false_iff, bne_eq_false_iff_eq] at hb
  obtain ⟨⟨⟨⟨⟨b1, b2⟩, b3⟩, b4⟩, b5⟩, b6⟩ := hb
  have ho : o.w = o.nw := by have := o.w_ns; rw [sw_zero _ o (Nat.le_refl _) b6] at this; omega
  split at h
  ·rename_i hk
   rw [List.mem_singleton.1 h]
   refine ⟨b4, ?_, ?_⟩
   ·show selects (endT o x y) = false
    unfold endT
    split
    ·rw [selects_eq]; simp [affine, b6]
    ·split
     ·exact b6
     ·rw [selects_eq]; rfl
   ·show (endT o x y).w ≤ 1 + o.nw
    unfold endT
    split
    ·rw [Term.w_eq]; simp [affine]; omega
    ·split
     ·omega
     ·rw [Term.w_eq]; simp
  ·cases h
theorem says_mem {k : Int} {t : Term} {z : Said} (h : z ∈ says k t) : serves k t = true ∧ selects z.fin = false ∧ z.fin.w + 1 ≤ t.nw := by
 unfold says at h
 split at h
 ·cases h
 ·rename_i hb
  obtain ⟨c, o, e⟩ := two_args (by simpa using hb)
  have hn := t.nw_eq
  rw [e] at hn
  simp only [List.map_cons, List.map_nil, List.sum_cons, List.sum_nil] at hn
  have hc := c.nw_pos; have ho := o.nw_pos
  unfold side0 side1 at h
  rw [e] at h
  simp only [List.getD_cons_zero, List.getD_cons_succ] at h
  unfold serves
  rw [e]
  rcases List.mem_append.1 h with h | h
  ·obtain ⟨h1, h2, h3⟩ := side_mem h
   exact ⟨by simp [h1], h2, by omega⟩
  ·obtain ⟨h1, h2, h3⟩ := side_mem h
   exact ⟨by simp [h1], h2, by omega⟩
theorem usable_mem {a : Arm} {k : Int} (h0 : 0 ≤ k) (h1 : k < ((a.frm.length : Nat) : Int)) {z : Said} (h : z ∈ usable a k) : selects z.fin = false ∧ z.fin.w + 1 ≤ endW k (conj a) := by
 unfold usable at h
 obtain ⟨t, ht, hz⟩ := List.mem_flatMap.1 h
 obtain ⟨s1, s2, s3⟩ := says_mem hz
 have := endW_mem (usableTerms_mem h0 h1 ht) s1
 exact ⟨s2, by omega⟩
/-- Each comparison serves two sources at most. -/
theorem serves_two (t : Term) : ∀ ks : List Int, ks.Nodup → (ks.map fun k => if serves k t then t.nw else 0).sum ≤ 2 * t.nw := by
 intro ks hks
 have one : ∀ (x n : Nat) (y : Int) (ks : List Int), ks.Nodup → (ks.map fun k => if (y == k) = true then n else 0).sum ≤ n := by
  intro x n y ks
  induction ks with
  | nil => intro _; simp
  | cons k ks ih =>
   intro h
   rw [List.nodup_cons] at h
   simp only [List.map_cons, List.sum_cons]
   by_cases e : (y == k) = true
   ·rw [if_pos e]
    have : (ks.map fun k => if (y == k) = true then n else 0).sum = 0 := by
     have : ∀ l : List Int, (∀ z ∈ l, z ≠ y) → (l.map fun k => if (y == k) = true then n else 0).sum = 0 := by
      intro l
      induction l with
      | nil => intro _; rfl
      | cons z l ih =>
       intro h
       simp only [List.map_cons, List.sum_cons]
       rw [if_neg (by rw [beq_iff_eq]; exact fun e => h z (by simp) e.symm), ih fun w hw => h w (by simp [hw])]
     refine this ks fun z hz e' => h.1 ?_
     rw [beq_iff_eq] at e
     rw [← e, ← e']; exact hz
    omega
   ·rw [if_neg e]; have := ih h.2; omega
 unfold serves
 split
 ·rename_i c o e
  have h1 := one 0 t.nw c.frm ks hks
  have h2 := one 0 t.nw o.frm ks hks
  have h3 : ∀ l : List Int, (l.map fun k => if (c.frm == k || o.frm == k) = true then t.nw else 0).sum ≤ (l.map fun k => if (c.frm == k) = true then t.nw else 0).sum + (l.map fun k => if (o.frm == k) = true then t.nw else 0).sum := by
   intro l
   induction l with
   | nil => simp
   | cons z l ih =>
    simp only [List.map_cons, List.sum_cons]
    have : (if (c.frm == z || o.frm == z) = true then t.nw else 0) ≤ (if (c.frm == z) = true then t.nw else 0) + (if (o.frm == z) = true then t.nw else 0) := by
     cases (c.frm == z) <;> cases (o.frm == z) <;> simp
    omega
  have := h3 ks
  omega
 ·have : ∀ l : List Int, (l.map fun _ => 0).sum = 0 := by
   intro l
   induction l with
   | nil => rfl
   | cons z l ih => simpa using ih
  simp [this ks]
theorem endW_sum (l : List Term) : ∀ ks : List Int, ks.Nodup → (ks.map fun k => endW k l).sum ≤ 2 * (l.map Term.nw).sum := by
 induction l with
 | nil =>
  intro ks _
  have : ∀ ks : List Int, (ks.map fun k => endW k []).sum = 0 := by
   intro ks
   induction ks with
   | nil => rfl
   | cons z l ih => simpa [endW] using ih
  rw [this]; omega
 | cons t l ih =>
  intro ks h
  have h1 := ih ks h
  have h2 := serves_two t ks h
  have h3 : ∀ ks : List Int, (ks.map fun k => endW k (t :: l)).sum = (ks.map fun k => if serves k t then t.nw else 0).sum + (ks.map fun k => endW k l).sum := by
   intro ks
   induction ks with
   | nil => rfl
   | cons z ks ih =>
    simp only [List.map_cons, List.sum_cons, ih]
    have : endW z (t :: l) = (if serves z t then t.nw else 0) + endW z l := by simp [endW]
    omega
  rw [h3]
  simp only [List.map_cons, List.sum_cons]; omega
def Path.w (p : Path) : Nat := (p.eq.map Term.w).sum + (p.low.map Bound.w).sum + (p.high.map Bound.w).sum
/-- Terms in which no select stands. -/
def Path.flat (p : Path) : Prop := (∀ t ∈ p.eq, selects t = false) ∧ (∀ b ∈ p.low, selects b.term = false) ∧ ∀ b ∈ p.high, selects b.term = false
theorem firstB_w {l : List Said} {k : Sorted} {o c : Int} {E : Nat} (h : ∀ z ∈ l, selects z.fin = false ∧ z.fin.w + 1 ≤ E) : ((firstB l k o c).map Bound.w).sum ≤ E ∧ ∀ b ∈ firstB l k o c, selects b.term = false := by
 unfold firstB
 split
 ·rename_i x hx
  have := h x (List.mem_of_find?_eq_some hx)
  refine ⟨?_, fun b hb => ?_⟩
  ·simp only [List.map_cons, List.map_nil, List.sum_cons, List.sum_nil, Bound.w_eq]; omega
  ·rw [List.mem_singleton.1 hb]; exact this.1
 ·exact ⟨by simp, fun b hb => by cases hb⟩
theorem idxd_w {l : List Said} {E : Nat} (h : ∀ z ∈ l, selects z.fin = false ∧ z.fin.w + 1 ≤ E) : ∀ ks : List Sorted, ((idxd l ks).1.map Term.w).sum ≤ ks.length * E ∧ ((idxd l ks).2.1.map Bound.w).sum ≤ E ∧ ((idxd l ks).2.2.map Bound.w).sum ≤ E ∧
  (∀ t ∈ (idxd l ks).1, selects t = false) ∧ (∀ b ∈ (idxd l ks).2.1, selects b.term = false) ∧ ∀ b ∈ (idxd l ks).2.2, selects b.term = false
 | [] => by simp [idxd]
 | k :: ks => by
  obtain ⟨h1, h2, h3, h4, h5, h6⟩ := idxd_w h ks
  unfold idxd
  split
  ·rename_i x hx
   have := h x (List.mem_of_find?_eq_some hx)
   refine ⟨?_, h2, h3, fun t ht => ?_, h5, h6⟩
   ·simp only [List.map_cons, List.sum_cons, List.length_cons, Nat.add_mul, Nat.one_mul]; omega
   ·rcases List.mem_cons.1 ht with rfl | ht
    ·exact this.1
    ·exact h4 t ht
  ·have f1 := firstB_w (k := k) (o := 17) (c := 18) h
   have f2 := firstB_w (k := k) (o := 15) (c := 16) h
   exact ⟨by simp, f1.1, f2.1, (fun t ht => by cases ht), f1.2, f2.2⟩
theorem offers_w {s : Schema} {a : Arm} {k : Int} {ahead : List Int} {K : Nat} (hK : ∀ i ∈ s.indexes, i.keys.length ≤ K) (h0 : 0 ≤ k) (h1 : k < ((a.frm.length : Nat) : Int)) {p : Path} (h : p ∈ offers s a k ahead) : p.w ≤ (K + 2) * endW k (conj a) ∧ p.flat := by
 have hu : ∀ z ∈ sayable a k ahead, selects z.fin = false ∧ z.fin.w + 1 ≤ endW k (conj a) := fun z hz => usable_mem h0 h1 (mem_sayable hz).1
 have scan : scanP.w ≤ (K + 2) * endW k (conj a) ∧ scanP.flat := ⟨by simp [Path.w, scanP], (fun t h => by cases h), (fun t h => by cases h), (fun t h => by cases h)⟩
 unfold offers at h
 split at h
 ·rw [List.mem_singleton.1 h]; exact scan
 ·rcases List.mem_append.1 h with h | h
  ·obtain ⟨y, hy, _, rfl⟩ := mem_oneIf.1 h
   obtain ⟨u1, u2⟩ := hu y hy
   have : 1 * endW k (conj a) ≤ (K + 2) * endW k (conj a) := Nat.mul_le_mul_right _ (by omega)
   refine ⟨by simp [Path.w, rowidP]; omega, fun t ht => ?_, (fun t h => by cases h), (fun t h => by cases h)⟩
   rw [List.mem_singleton.1 ht]; exact u1
  ·rcases List.mem_append.1 h with h | h
   ·obtain ⟨n, hn, _, rfl⟩ := mem_oneIf.1 h
    obtain ⟨i1, i2, i3, i4, i5, i6⟩ := idxd_w hu (s.indexes.getD n zindex).keys
    have hi : s.indexes.getD n zindex ∈ s.indexes := by
     have := List.mem_range.1 hn
     simp [List.getD_eq_getElem?_getD, this]
    have := Nat.mul_le_mul_right (endW k (conj a)) (hK _ hi)
    refine ⟨?_, i4, i5, i6⟩
    simp only [Path.w, indexed, Nat.add_mul]; omega
   ·rw [List.mem_singleton.1 h]; exact scan
theorem next_mem {s : Schema} {a : Arm} {ahead : List Int} {x : Stp} (h : x ∈ next s a ahead) : 0 ≤ x.frm ∧ x.frm < ((a.frm.length : Nat) : Int) ∧ x.frm ∉ ahead ∧ x.path ∈ offers s a x.frm ahead := by
 unfold next at h
 obtain ⟨k, hk, h⟩ := List.mem_flatMap.1 h
 unfold nextAt at h
 split at h
 ·cases h
 ·rename_i hn
  obtain ⟨p, hp, rfl⟩ := List.mem_map.1 h
  rw [Bool.not_eq_true, Bool.or_eq_false_iff] at hn
  have := List.mem_range.1 hk
  refine ⟨by show (0 : Int) ≤ (k : Int); omega, by show (k : Int) < _; omega, fun hm => ?_, hp⟩
  have := any_mem.2 hm
  rw [show (ahead.any (((Stp.mk (k : Int) p).frm) == ·)) = ahead.any ((k : Int) == ·) from rfl, hn.1] at this; cases this
/-- What holds of each step of a plan. -/
def Step.flat (x : Step) : Prop := x.path.flat
section
variable {ch : Nat → List Stp → Nat × Stp} {s : Schema} {a : Arm}
theorem planGo_w {K : Nat} (hK : ∀ i ∈ s.indexes, i.keys.length ≤ K) (hch : ∀ q l, l ≠ [] → (ch q l).2 ∈ l) (hin : ∀ q l, (ch q l).1 ≤ q + 1) : ∀ (n q : Nat) (ahead met : List Int) (st : List Step), Dist a.whr.length met → (planGo ch s a n q ahead met st).1 ≤ q + n ∧ ((planGo ch s a n q ahead met st).2 = [] ∨
  ∃ rest met', (planGo ch s a n q ahead met st).2 = st ++ rest ∧ (rest.map Step.w).sum + met.length ≤ n + (K + 2) * ((rest.map Step.frm).map fun k => endW k (conj a)).sum + met'.length ∧ Dist a.whr.length met' ∧ (rest.map Step.frm).Nodup ∧ (∀ k ∈ rest.map Step.frm, k ∉ ahead) ∧ ∀ x ∈ rest, x.flat)
 | 0, q, ahead, met, st, hd => by
  unfold planGo
  refine ⟨by simp, ?_⟩
  by_cases h : ((met.length : Nat) : Int) < ((a.whr.length : Nat) : Int)
  ·rw [if_pos (by simpa using h)]; exact .inl rfl
  ·rw [if_neg (by simpa using h)]
   exact .inr ⟨[], met, by simp, by simp, hd, by simp, by simp, by simp⟩
 | n + 1, q, ahead, met, st, hd => by
  unfold planGo
  by_cases h : next s a ahead = []
  ·rw [if_pos (by rw [h]; rfl)]; exact ⟨Nat.le_add_right _ _, .inl rfl⟩
  ·rw [if_neg (by rw [beq_iff_eq]; intro e; exact h (List.eq_nil_of_length_eq_zero (by omega)))]
   have hm := hch q _ h
   have hi := hin q (next s a ahead)
   obtain ⟨m1, m2, m3, m4⟩ := next_mem hm
   obtain ⟨o1, o2⟩ := offers_w hK m1 m2 m4
   have hw := where_newW (a := a) (ahead := ahead ++ [(ch q (next s a ahead)).2.frm]) (met := met) _ (Nat.le_refl _)
   have hd' := whereOk_dist _ _ _ hw hd
   generalize ch q (next s a ahead) = c at hi m1 m2 m3 m4 o1 o2 hw hd' ⊢
   generalize newW a (ahead ++ [c.2.frm]) met a.whr.length = w at hd' ⊢
   obtain ⟨g1, g2⟩ := planGo_w hK hch hin n c.1 (ahead ++ [c.2.frm]) (met ++ w) (st ++ [stepOf c.2 w]) hd'
   refine ⟨by omega, ?_⟩
   rcases g2 with g2 | ⟨rest, m, r1, r2, r3, r4, r5, r6⟩
   ·exact .inl g2
   ·refine .inr ⟨stepOf c.2 w :: rest, m, by rw [r1]; simp, ?_, r3, ?_, ?_, ?_⟩
    ·have e : (stepOf c.2 w).w = 1 + c.2.path.w + w.length := by rw [Step.w_eq]; simp only [stepOf, Path.w]; omega
     have e2 : (stepOf c.2 w).frm = c.2.frm := rfl
     simp only [List.map_cons, List.sum_cons, Nat.mul_add, e, e2]
     rw [List.length_append] at r2
     omega
    ·rw [List.map_cons, List.nodup_cons]
     refine ⟨fun hx => r5 _ hx ?_, r4⟩
     exact List.mem_append.2 (.inr (by simp [stepOf]))
    ·intro k hk
     rw [List.map_cons] at hk
     rcases List.mem_cons.1 hk with rfl | hk
     ·exact m3
     ·exact fun hx => r5 k hk (List.mem_append.2 (.inl hx))
    ·intro x hx
     rcases List.mem_cons.1 hx with rfl | hx
     ·exact o2
     ·exact r6 x hx
/-- A plan's weight. -/
theorem planA_w {K : Nat} (hK : ∀ i ∈ s.indexes, i.keys.length ≤ K) (hch : ∀ q l, l ≠ [] → (ch q l).2 ∈ l) (hin : ∀ q l, (ch q l).1 ≤ q + 1) (q : Nat) : (planA ch s a q).1 ≤ q + a.frm.length ∧
  ((planA ch s a q).2.steps.map Step.w).sum ≤ a.frm.length + (2 * K + 4) * ((conj a).map Term.nw).sum + a.whr.length ∧ ∀ x ∈ (planA ch s a q).2.steps, x.flat := by
 obtain ⟨g1, g2⟩ := planGo_w (s := s) (a := a) hK hch hin a.frm.length q [] [] [] ⟨List.nodup_nil, by simp⟩
 refine ⟨g1, ?_⟩
 show ((planGo ch s a a.frm.length q [] [] []).2.map Step.w).sum ≤ _ ∧ ∀ x ∈ (planGo ch s a a.frm.length q [] [] []).2, x.flat
 rcases g2 with g2 | ⟨rest, m, r1, r2, r3, r4, r5, r6⟩
 ·rw [g2]; exact ⟨by simp, fun x hx => by cases hx⟩
 ·rw [r1, List.nil_append]
  refine ⟨?_, r6⟩
  have h1 := dist_len _ _ r3
  have h2 := endW_sum (conj a) _ r4
  have h3 := Nat.mul_le_mul_left (K + 2) h2
  have h4 : (K + 2) * (2 * ((conj a).map Term.nw).sum) = (2 * K + 4) * ((conj a).map Term.nw).sum := by rw [← Nat.mul_assoc]; congr 1; omega
  simp only [List.length_nil] at r2
  omega
end
noncomputable def okB (s : Schema) (a : Arm) : Bool := (((a.steps.length : Nat) : Int) == 0) || armOk s a
/-- Each arm planned, as long as it is small. -/
def pkfa (ch : Nat → List Stp → Nat × Stp) (s : Schema) (W : Nat) (q : Option Nat) (a : Arm) : Option Nat × Arm := match q with
 | none => (none, a)
 | some k => if a.w ≤ W ∧ k + a.frm.length ≤ 2^62 ∧ (a.frm.length + 1) * (2 * (conj a).length + s.indexes.length + 1) ≤ 2^40 then (some (planA ch s a k).1, (planA ch s a k).2) else (none, a)
def idff {σ : Type} (s : σ) (t : Term) (d : Nat) : σ := s
structure PkH (ch : Nat → List Stp → Nat × Stp) (s : Schema) (K C B W : Nat) (pp : Arm → Bool) : Prop where
 cb : C * B ≤ W
 sz : 2 * B + s.indexes.length ≤ 2^21
 mem : ∀ q l, l ≠ [] → (ch q l).2 ∈ l
 inc : ∀ q l, (ch q l).1 ≤ q + 1
 keys : ∀ i ∈ s.indexes, i.keys.length ≤ K
 c : 2 * K + 6 ≤ C
 ok : ∀ a q, pp (planA ch s a q).2 = true
theorem cTerm_nil : ∀ (n : Nat) (t : Term), t.w ≤ n → selects t = false → cTerm t = []
 | 0, t, h, _ => by rw [Term.w_eq] at h; omega
 | n + 1, t, h, hs => by
  rw [selects_eq, Bool.or_eq_false_iff, decide_eq_false_iff_not] at hs
  rw [cTerm_eq]
  have hsub : t.sub = [] := List.eq_nil_of_length_eq_zero (by omega)
  have e := Term.w_eq t
  have : ∀ (l : List Term), (l.map Term.w).sum ≤ n → l.any selects = false → cTerms l = [] := by
   intro l
   induction l with
   | nil => intro _ _; rw [cTerms]
   | cons x l ih =>
    intro h1 h2
    rw [List.any_cons, Bool.or_eq_false_iff] at h2
    simp only [List.map_cons, List.sum_cons] at h1
    rw [cTerms, cTerm_nil n x (by omega) h2.1, ih (by omega) h2.2]; rfl
  rw [this t.args (by omega) hs.2, hsub, cQueries]; rfl
theorem cTerms_nil : ∀ (l : List Term), (∀ t ∈ l, selects t = false) → cTerms l = []
 | [], _ => by rw [cTerms]
 | t :: l, h => by rw [cTerms, cTerm_nil _ t (Nat.le_refl _) (h t (by simp)), cTerms_nil l fun x hx => h x (by simp [hx])]; rfl
theorem cBounds_nil : ∀ (l : List Bound), (∀ t ∈ l, selects t.term = false) → cBounds l = []
 | [], _ => by rw [cBounds]
 | t :: l, h => by rw [cBounds, cBound_eq, cTerm_nil _ t.term (Nat.le_refl _) (h t (by simp)), cBounds_nil l fun x hx => h x (by simp [hx])]; rfl
theorem cSteps_nil : ∀ (l : List Step), (∀ x ∈ l, x.flat) → cSteps l = []
 | [], _ => by rw [cSteps]
 | t :: l, h => by
  have ht := h t (by simp)
  have e : cTerms t.eq = [] ∧ cBounds t.low = [] ∧ cBounds t.high = [] := ⟨cTerms_nil _ ht.1, cBounds_nil _ ht.2.1, cBounds_nil _ ht.2.2⟩
  rw [cSteps, cStep_eq, e.1, e.2.1, e.2.2, cSteps_nil l fun x hx => h x (by simp [hx])]; rfl
def From.nw (f : From) : Nat := (f.on.map Term.nw).sum
def From.cw (f : From) : Nat := 1 + f.name.size
def From.sw (f : From) : Nat := (f.sub.map Query.w).sum + (f.on.map Term.sw).sum
theorem From.w_ns (f : From) : f.w = f.cw + f.nw + f.sw := by
 have h1 := From.w_eq f; have h2 := sum_ns f.on
 unfold From.cw From.nw From.sw; omega
theorem sumF_ns : ∀ l : List From, (l.map From.w).sum = (l.map From.cw).sum + (l.map From.nw).sum + (l.map From.sw).sum ∧ l.length ≤ (l.map From.cw).sum
 | [] => ⟨rfl, Nat.le_refl _⟩
 | t :: l => by
  have h1 := t.w_ns; have h2 := sumF_ns l
  simp only [List.map_cons, List.sum_cons, List.length_cons]
  have h3 : 1 ≤ t.cw := Nat.le_add_right _ _
  omega
theorem conj_nw (a : Arm) : ((conj a).map Term.nw).sum = (a.whr.map Term.nw).sum + (a.frm.map From.nw).sum := by
 unfold conj
 rw [List.map_append, List.sum_append_nat]
 congr 1
 have : ∀ l : List From, ((l.flatMap From.on).map Term.nw).sum = (l.map From.nw).sum := by
  intro l
  induction l with
  | nil => rfl
  | cons f l ih => simp only [List.flatMap_cons, List.map_append, List.sum_append_nat, List.map_cons, List.sum_cons, ih]; rfl
 exact this _
theorem len_nw : ∀ l : List Term, l.length ≤ (l.map Term.nw).sum
 | [] => Nat.le_refl _
 | t :: l => by have h1 := t.nw_pos; have h2 := len_nw l; simp only [List.map_cons, List.sum_cons, List.length_cons]; omega
theorem szl (u v : Nat) (h : 2 * u + v ≤ 2^21 + 3) : u * v ≤ 2^40 := by
 have four : ∀ x y : Nat, 4 * (x * y) ≤ (x + y) * (x + y) := by
  have one : ∀ x d : Nat, 4 * (x * (x + d)) ≤ (x + (x + d)) * (x + (x + d)) := by
   intro x d
   simp only [Nat.mul_add, Nat.add_mul, Nat.mul_comm d x]
   omega
  intro x y
  rcases Nat.le_total x y with hx | hx
  ·obtain ⟨d, rfl⟩ := Nat.le.dest hx; exact one x d
  ·obtain ⟨d, rfl⟩ := Nat.le.dest hx
   have := one y d
   rw [Nat.mul_comm (y + d) y, Nat.add_comm (y + d) y]; exact this
 have h1 := four (2 * u) v
 have h2 : (2 * u + v) * (2 * u + v) ≤ (2^21 + 3) * (2^21 + 3) := Nat.mul_le_mul h h
 rw [Nat.mul_assoc] at h1
 omega
section
variable {ch : Nat → List Stp → Nat × Stp} {s : Schema} {K C B W : Nat} {pp : Arm → Bool}
theorem PkH.c1 (h : PkH ch s K C B W pp) (x : Nat) : 2 * x ≤ C * x := Nat.mul_le_mul_right x (by have := h.c; omega)
theorem PkH.c2 (h : PkH ch s K C B W pp) (x : Nat) : (2 * K + 4) * x + 2 * x ≤ C * x := by
 rw [← Nat.add_mul]; exact Nat.mul_le_mul_right x (by have := h.c; omega)
mutual
theorem pkTerm (h : PkH ch s K C B W pp) : ∀ (x : Term) (d q : Nat), q + x.w ≤ 2^62 → x.w ≤ B → ∃ q' y, wTerm (pkfa ch s W) idff x.plain d (some q) = (some q', y) ∧ q' ≤ q + x.w ∧ y.plain = x.plain ∧ (cTerm y).all pp = true ∧ y.w ≤ x.nw + C * x.sw ∧ y.nw = x.nw
 | ⟨op, neg, n, frm, col, name, vk, vi, vt, coll, l, r, args, sub⟩, d, q, hq, hw => by
  have e0 := Term.w_eq ⟨op, neg, n, frm, col, name, vk, vi, vt, coll, l, r, args, sub⟩
  have e1 := Term.sw_eq ⟨op, neg, n, frm, col, name, vk, vi, vt, coll, l, r, args, sub⟩
  have e2 := Term.nw_eq ⟨op, neg, n, frm, col, name, vk, vi, vt, coll, l, r, args, sub⟩
  simp only at e0 e1 e2
  obtain ⟨q1, a1, a2, a3, a4, a5, a6, a7⟩ := pkTerms h args d q (by omega) (by omega)
  obtain ⟨q2, b1, b2, b3, b4, b5, b6⟩ := pkQueries h sub (d + 1) q1 (by omega) (by omega)
  have f0 := Term.w_eq ⟨op, neg, n, frm, col, name, vk, vi, vt, coll, l, r, a1, b1⟩
  have f2 := Term.nw_eq ⟨op, neg, n, frm, col, name, vk, vi, vt, coll, l, r, a1, b1⟩
  simp only at f0 f2
  refine ⟨q2, ⟨op, neg, n, frm, col, name, vk, vi, vt, coll, l, r, a1, b1⟩, ?_, by omega, ?_, ?_, ?_, by omega⟩
  ·rw [Term.plain, wTerm]; simp only [fldS, idff, ite_self, a2, b2]
  ·rw [Term.plain, Term.plain, a4, b4]
  ·rw [cTerm, List.all_append, a5, b5]; rfl
  ·rw [f0, e1, e2, Nat.mul_add]; omega
theorem pkQuery (h : PkH ch s K C B W pp) : ∀ (x : Query) (d q : Nat), q + x.w ≤ 2^62 → x.w ≤ B → ∃ q' y, wQuery (pkfa ch s W) idff x.plain d (some q) = (some q', y) ∧ q' ≤ q + x.w ∧ y.plain = x.plain ∧ (cQuery y).all pp = true ∧ y.w ≤ C * x.w
 | ⟨names, arms, order, limit, offset⟩, d, q, hq, hw => by
  have e0 := Query.w_eq ⟨names, arms, order, limit, offset⟩
  simp only at e0
  have n1 := sum_ns limit; have n2 := sum_ns offset
  obtain ⟨q1, a1, a2, a3, a4, a5, a6, a7⟩ := pkTerms h limit d q (by omega) (by omega)
  obtain ⟨q2, b1, b2, b3, b4, b5, b6, b7⟩ := pkTerms h offset d q1 (by omega) (by omega)
  obtain ⟨q3, c1, c2, c3, c4, c5, c6⟩ := pkArms h arms d q2 (by omega) (by omega)
  have f0 := Query.w_eq ⟨names, c1, order, a1, b1⟩
  simp only at f0
  refine ⟨q3, ⟨names, c1, order, a1, b1⟩, ?_, by omega, ?_, ?_, ?_⟩
  ·rw [Query.plain, wQuery]; simp only [a2, b2, c2]
  ·rw [Query.plain, Query.plain, a4, b4, c4]
  ·rw [cQuery, List.all_append, List.all_append, a5, b5, c5]; rfl
  ·have g1 := h.c1 1; have g2 := h.c1 names.length; have g3 := h.c1 order.length; have g4 := h.c1 (limit.map Term.nw).sum; have g5 := h.c1 (offset.map Term.nw).sum
   rw [f0, e0, n1, n2]; simp only [Nat.mul_add]; omega
theorem pkArm (h : PkH ch s K C B W pp) : ∀ (x : Arm) (d q : Nat), q + x.w ≤ 2^62 → x.w ≤ B → ∃ q' y, wArm (pkfa ch s W) idff x.plain d (some q) = (some q', y) ∧ q' ≤ q + x.w ∧ y.plain = x.plain ∧ (cArm y).all pp = true ∧ y.w ≤ C * x.w
 | ⟨comp, distinct, values, rows, frm, whr, grouped, group, aggs, having, out, extra, steps⟩, d, q, hq, hw => by
  have w0 := Arm.w_eq ⟨comp, distinct, values, rows, frm, whr, grouped, group, aggs, having, out, extra, steps⟩
  simp only at w0
  have n0 := sumF_ns frm; have n1 := sum_ns whr; have n2 := sum_ns group; have n3 := sum_ns having; have n4 := sum_ns out; have n5 := sum_ns extra
  obtain ⟨q1, a1, a2, a3, a4, a5, a6⟩ := pkRows h rows d q (by omega) (by omega)
  obtain ⟨q2, b1, b2, b3, b4, b5, b6, b7, b8⟩ := pkFroms h frm d q1 (by omega) (by omega)
  obtain ⟨q3, c1, c2, c3, c4, c5, c6⟩ := pkAggs h aggs d q2 (by omega) (by omega)
  obtain ⟨q5, d1, d2, d3, d4, d5, d6, d7⟩ := pkTerms h whr d q3 (by omega) (by omega)
  obtain ⟨q6, e1, e2, e3, e4, e5, e6, e7⟩ := pkTerms h group d q5 (by omega) (by omega)
  obtain ⟨q7, f1, f2, f3, f4, f5, f6, f7⟩ := pkTerms h having d q6 (by omega) (by omega)
  obtain ⟨q8, g1, g2, g3, g4, g5, g6, g7⟩ := pkTerms h out d q7 (by omega) (by omega)
  obtain ⟨q9, i1, i2, i3, i4, i5, i6, i7⟩ := pkTerms h extra d q8 (by omega) (by omega)
  obtain ⟨b, hb⟩ : ∃ b : Arm, b = ⟨comp, distinct, values, a1, b1, d1, grouped, e1, c1, f1, g1, i1, []⟩ := ⟨_, rfl⟩
  have w1 := Arm.w_eq b
  have pb : b.plain = Arm.plain ⟨comp, distinct, values, rows, frm, whr, grouped, group, aggs, having, out, extra, steps⟩ := by
   rw [hb, Arm.plain, Arm.plain, a4, b4, c4, d4, e4, f4, g4, i4]
  have hbf : b.frm = b1 := by rw [hb]
  have hbw : b.whr = d1 := by rw [hb]
  have t1 := h.c1 1; have t2 := h.c1 (frm.map From.cw).sum; have t3 := h.c1 (group.map Term.nw).sum; have t4 := h.c1 (having.map Term.nw).sum; have t5 := h.c1 (out.map Term.nw).sum; have t6 := h.c1 (extra.map Term.nw).sum
  have u1 := h.c2 (whr.map Term.nw).sum; have u2 := h.c2 (frm.map From.nw).sum
  have m0 : C * Arm.w ⟨comp, distinct, values, rows, frm, whr, grouped, group, aggs, having, out, extra, steps⟩ = C * 1 + C * (rows.map fun l => 1 + (l.map Term.w).sum).sum + (C * (frm.map From.cw).sum + C * (frm.map From.nw).sum + C * (frm.map From.sw).sum) + (C * (whr.map Term.nw).sum + C * (whr.map Term.sw).sum) + (C * (group.map Term.nw).sum + C * (group.map Term.sw).sum) + C * (aggs.map Agg.w).sum + (C * (having.map Term.nw).sum + C * (having.map Term.sw).sum) + (C * (out.map Term.nw).sum + C * (out.map Term.sw).sum) + (C * (extra.map Term.nw).sum + C * (extra.map Term.sw).sum) + C * (steps.map Step.w).sum := by
   rw [w0, n0.1, n1, n2, n3, n4, n5]; simp only [Nat.mul_add]
  have hcw : C * Arm.w ⟨comp, distinct, values, rows, frm, whr, grouped, group, aggs, having, out, extra, steps⟩ ≤ W := Nat.le_trans (Nat.mul_le_mul_left C hw) h.cb
  have hcl : (conj b).length ≤ (whr.map Term.nw).sum + (frm.map From.nw).sum := by have e1 := len_nw (conj b); rw [conj_nw, hbf, hbw, d7, b7] at e1; exact e1
  have hsz : (b1.length + 1) * (2 * (conj b).length + s.indexes.length + 1) ≤ 2^40 := szl _ _ (by have := h.sz; omega)
  obtain ⟨p1, p2, p3⟩ := planA_w (s := s) (a := b) h.keys h.mem h.inc q9
  rw [conj_nw, hbf, hbw, d7, b7, Nat.mul_add] at p2
  rw [hbf] at p1
  have lw := len_nw d1
  rw [d7] at lw
  have pk := h.ok b q9
  have w2 := Arm.w_eq (planA ch s b q9).2
  have k1 : (planA ch s b q9).2.rows = a1 ∧ (planA ch s b q9).2.frm = b1 ∧ (planA ch s b q9).2.whr = d1 ∧ (planA ch s b q9).2.group = e1 ∧ (planA ch s b q9).2.aggs = c1 ∧ (planA ch s b q9).2.having = f1 ∧ (planA ch s b q9).2.out = g1 ∧ (planA ch s b q9).2.extra = i1 := by
   rw [hb]; exact ⟨rfl, rfl, rfl, rfl, rfl, rfl, rfl, rfl⟩
  obtain ⟨k1, k2, k3, k4, k5, k6, k7, k8⟩ := k1
  rw [k1, k2, k3, k4, k5, k6, k7, k8] at w2
  have hbs : b.w = 1 + (a1.map fun l => 1 + (l.map Term.w).sum).sum + (b1.map From.w).sum + (d1.map Term.w).sum + (e1.map Term.w).sum + (c1.map Agg.w).sum + (f1.map Term.w).sum + (g1.map Term.w).sum + (i1.map Term.w).sum := by
   rw [w1, hb]; simp
  refine ⟨(planA ch s b q9).1, (planA ch s b q9).2, ?_, by omega, ?_, ?_, ?_⟩
  ·rw [Arm.plain, wArm]
   simp only [a2, b2, c2, d2, e2, f2, g2, i2, wSteps]
   rw [← hb]
   unfold pkfa
   simp only
   rw [if_pos ⟨by omega, by rw [hbf]; omega, by rw [hbf]; exact hsz⟩]
  ·rw [← pb]
   have : ∀ (b : Arm) (st : List Step), Arm.plain { b with steps := st } = b.plain := fun b st => by cases b; rw [Arm.plain, Arm.plain]
   exact this b _
  ·rw [cArm_eq, k1, k2, k3, k4, k5, k6, k7, k8, cSteps_nil _ p3]
   simp only [List.all_append, a5, b5, c5, d5, e5, f5, g5, i5, List.all_nil, List.all_cons, Bool.and_true, Bool.true_and]
   exact pk
  ·rw [w2, m0]; omega
theorem pkFrom (h : PkH ch s K C B W pp) : ∀ (x : From) (d q : Nat), q + x.w ≤ 2^62 → x.w ≤ B → ∃ q' y, wFrom (pkfa ch s W) idff x.plain d (some q) = (some q', y) ∧ q' + 1 ≤ q + x.w ∧ y.plain = x.plain ∧ (cFrom y).all pp = true ∧ y.w ≤ x.cw + x.nw + C * x.sw ∧ y.nw = x.nw
 | ⟨join, kind, name, n, width, sub, on⟩, d, q, hq, hw => by
  have w0 := From.w_eq ⟨join, kind, name, n, width, sub, on⟩
  simp only at w0
  obtain ⟨q1, a1, a2, a3, a4, a5, a6⟩ := pkQueries h sub d q (by omega) (by omega)
  obtain ⟨q2, b1, b2, b3, b4, b5, b6, b7⟩ := pkTerms h on d q1 (by omega) (by omega)
  have w1 := From.w_eq ⟨join, kind, name, n, width, a1, b1⟩
  simp only at w1
  refine ⟨q2, ⟨join, kind, name, n, width, a1, b1⟩, ?_, by omega, ?_, ?_, ?_, b7⟩
  ·rw [From.plain, wFrom]; simp only [a2, b2]
  ·rw [From.plain, From.plain, a4, b4]
  ·rw [cFrom, List.all_append, a5, b5]; rfl
  ·rw [w1]; unfold From.cw From.nw From.sw; simp only [Nat.mul_add]; omega
theorem pkAgg (h : PkH ch s K C B W pp) : ∀ (x : Agg) (d q : Nat), q + x.w ≤ 2^62 → x.w ≤ B → ∃ q' y, wAgg (pkfa ch s W) idff x.plain d (some q) = (some q', y) ∧ q' ≤ q + x.w ∧ y.plain = x.plain ∧ (cAgg y).all pp = true ∧ y.w ≤ C * x.w
 | ⟨name, distinct, star, coll, arg⟩, d, q, hq, hw => by
  have w0 := Agg.w_eq ⟨name, distinct, star, coll, arg⟩
  simp only at w0
  have n1 := sum_ns arg
  obtain ⟨q1, a1, a2, a3, a4, a5, a6, a7⟩ := pkTerms h arg d q (by omega) (by omega)
  have w1 := Agg.w_eq ⟨name, distinct, star, coll, a1⟩
  simp only at w1
  refine ⟨q1, ⟨name, distinct, star, coll, a1⟩, ?_, by omega, ?_, ?_, ?_⟩
  ·rw [Agg.plain, wAgg]; simp only [a2]
  ·rw [Agg.plain, Agg.plain, a4]
  ·rw [cAgg, a5]
  ·have g1 := h.c1 1; have g4 := h.c1 (arg.map Term.nw).sum
   rw [w1, w0, n1]; simp only [Nat.mul_add]; omega
theorem pkTerms (h : PkH ch s K C B W pp) : ∀ (x : List Term) (d q : Nat), q + (x.map Term.w).sum ≤ 2^62 → (x.map Term.w).sum ≤ B → ∃ q' y, wTerms (pkfa ch s W) idff (x.map Term.plain) d (some q) = (some q', y) ∧ q' ≤ q + (x.map Term.w).sum ∧ y.map Term.plain = x.map Term.plain ∧ (cTerms y).all pp = true ∧ (y.map Term.w).sum ≤ (x.map Term.nw).sum + C * (x.map Term.sw).sum ∧ (y.map Term.nw).sum = (x.map Term.nw).sum
 | [], d, q, hq, hw => ⟨q, [], by rw [List.map_nil, wTerms], by simp, rfl, by rw [cTerms]; rfl, by simp, by simp⟩
 | t :: l, d, q, hq, hw => by
  simp only [List.map_cons, List.sum_cons] at hq hw
  obtain ⟨q1, a1, a2, a3, a4, a5, a6, a7⟩ := pkTerm h t d q (by omega) (by omega)
  obtain ⟨q2, b1, b2, b3, b4, b5, b6, b7⟩ := pkTerms h l d q1 (by omega) (by omega)
  refine ⟨q2, a1 :: b1, ?_, by simp only [List.map_cons, List.sum_cons]; omega, by simp only [List.map_cons]; rw [a4, b4], by rw [cTerms, List.all_append, a5, b5]; rfl, by simp only [List.map_cons, List.sum_cons, Nat.mul_add]; omega, by simp only [List.map_cons, List.sum_cons]; omega⟩
  rw [List.map_cons, wTerms]; simp only [a2, b2]
theorem pkQueries (h : PkH ch s K C B W pp) : ∀ (x : List Query) (d q : Nat), q + (x.map Query.w).sum ≤ 2^62 → (x.map Query.w).sum ≤ B → ∃ q' y, wQueries (pkfa ch s W) idff (x.map Query.plain) d (some q) = (some q', y) ∧ q' ≤ q + (x.map Query.w).sum ∧ y.map Query.plain = x.map Query.plain ∧ (cQueries y).all pp = true ∧ (y.map Query.w).sum ≤ C * (x.map Query.w).sum
 | [], d, q, hq, hw => ⟨q, [], by rw [List.map_nil, wQueries], by simp, rfl, by rw [cQueries]; rfl, by simp⟩
 | t :: l, d, q, hq, hw => by
  simp only [List.map_cons, List.sum_cons] at hq hw
  obtain ⟨q1, a1, a2, a3, a4, a5, a6⟩ := pkQuery h t d q (by omega) (by omega)
  obtain ⟨q2, b1, b2, b3, b4, b5, b6⟩ := pkQueries h l d q1 (by omega) (by omega)
  refine ⟨q2, a1 :: b1, ?_, by simp only [List.map_cons, List.sum_cons]; omega, by simp only [List.map_cons]; rw [a4, b4], by rw [cQueries, List.all_append, a5, b5]; rfl, by simp only [List.map_cons, List.sum_cons, Nat.mul_add]; omega⟩
  rw [List.map_cons, wQueries]; simp only [a2, b2]
theorem pkArms (h : PkH ch s K C B W pp) : ∀ (x : List Arm) (d q : Nat), q + (x.map Arm.w).sum ≤ 2^62 → (x.map Arm.w).sum ≤ B → ∃ q' y, wArms (pkfa ch s W) idff (x.map Arm.plain) d (some q) = (some q', y) ∧ q' ≤ q + (x.map Arm.w).sum ∧ y.map Arm.plain = x.map Arm.plain ∧ (cArms y).all pp = true ∧ (y.map Arm.w).sum ≤ C * (x.map Arm.w).sum
 | [], d, q, hq, hw => ⟨q, [], by rw [List.map_nil, wArms], by simp, rfl, by rw [cArms]; rfl, by simp⟩
 | t :: l, d, q, hq, hw => by
  simp only [List.map_cons, List.sum_cons] at hq hw
  obtain ⟨q1, a1, a2, a3, a4, a5, a6⟩ := pkArm h t d q (by omega) (by omega)
  obtain ⟨q2, b1, b2, b3, b4, b5, b6⟩ := pkArms h l d q1 (by omega) (by omega)
  refine ⟨q2, a1 :: b1, ?_, by simp only [List.map_cons, List.sum_cons]; omega, by simp only [List.map_cons]; rw [a4, b4], by rw [cArms, List.all_append, a5, b5]; rfl, by simp only [List.map_cons, List.sum_cons, Nat.mul_add]; omega⟩
  rw [List.map_cons, wArms]; simp only [a2, b2]
theorem pkAggs (h : PkH ch s K C B W pp) : ∀ (x : List Agg) (d q : Nat), q + (x.map Agg.w).sum ≤ 2^62 → (x.map Agg.w).sum ≤ B → ∃ q' y, wAggs (pkfa ch s W) idff (x.map Agg.plain) d (some q) = (some q', y) ∧ q' ≤ q + (x.map Agg.w).sum ∧ y.map Agg.plain = x.map Agg.plain ∧ (cAggs y).all pp = true ∧ (y.map Agg.w).sum ≤ C * (x.map Agg.w).sum
 | [], d, q, hq, hw => ⟨q, [], by rw [List.map_nil, wAggs], by simp, rfl, by rw [cAggs]; rfl, by simp⟩
 | t :: l, d, q, hq, hw => by
  simp only [List.map_cons, List.sum_cons] at hq hw
  obtain ⟨q1, a1, a2, a3, a4, a5, a6⟩ := pkAgg h t d q (by omega) (by omega)
  obtain ⟨q2, b1, b2, b3, b4, b5, b6⟩ := pkAggs h l d q1 (by omega) (by omega)
  refine ⟨q2, a1 :: b1, ?_, by simp only [List.map_cons, List.sum_cons]; omega, by simp only [List.map_cons]; rw [a4, b4], by rw [cAggs, List.all_append, a5, b5]; rfl, by simp only [List.map_cons, List.sum_cons, Nat.mul_add]; omega⟩
  rw [List.map_cons, wAggs]; simp only [a2, b2]
theorem pkFroms (h : PkH ch s K C B W pp) : ∀ (x : List From) (d q : Nat), q + (x.map From.w).sum ≤ 2^62 → (x.map From.w).sum ≤ B → ∃ q' y, wFroms (pkfa ch s W) idff (x.map From.plain) d (some q) = (some q', y) ∧ q' + x.length ≤ q + (x.map From.w).sum ∧ y.map From.plain = x.map From.plain ∧ (cFroms y).all pp = true ∧ (y.map From.w).sum ≤ (x.map From.cw).sum + (x.map From.nw).sum + C * (x.map From.sw).sum ∧ (y.map From.nw).sum = (x.map From.nw).sum ∧ y.length = x.length
 | [], d, q, hq, hw => ⟨q, [], by rw [List.map_nil, wFroms], by simp, rfl, by rw [cFroms]; rfl, by simp, rfl, rfl⟩
 | t :: l, d, q, hq, hw => by
  simp only [List.map_cons, List.sum_cons] at hq hw
  obtain ⟨q1, a1, a2, a3, a4, a5, a6, a7⟩ := pkFrom h t d q (by omega) (by omega)
  obtain ⟨q2, b1, b2, b3, b4, b5, b6, b7, b8⟩ := pkFroms h l d q1 (by omega) (by omega)
  refine ⟨q2, a1 :: b1, ?_, by simp only [List.map_cons, List.sum_cons, List.length_cons]; omega, by simp only [List.map_cons]; rw [a4, b4], by rw [cFroms, List.all_append, a5, b5]; rfl, by simp only [List.map_cons, List.sum_cons, Nat.mul_add]; omega, by simp only [List.map_cons, List.sum_cons]; omega, by rw [List.length_cons, List.length_cons, b8]⟩
  rw [List.map_cons, wFroms]; simp only [a2, b2]
theorem pkRows (h : PkH ch s K C B W pp) : ∀ (x : List (List Term)) (d q : Nat), q + (x.map fun l => 1 + (l.map Term.w).sum).sum ≤ 2^62 → (x.map fun l => 1 + (l.map Term.w).sum).sum ≤ B → ∃ q' y, wRows (pkfa ch s W) idff (x.map fun l => l.map Term.plain) d (some q) = (some q', y) ∧ q' ≤ q + (x.map fun l => 1 + (l.map Term.w).sum).sum ∧ (y.map fun l => l.map Term.plain) = (x.map fun l => l.map Term.plain) ∧ (cRows y).all pp = true ∧ (y.map fun l => 1 + (l.map Term.w).sum).sum ≤ C * (x.map fun l => 1 + (l.map Term.w).sum).sum
 | [], d, q, hq, hw => ⟨q, [], by rw [List.map_nil, wRows], by simp, rfl, by rw [cRows]; rfl, by simp⟩
 | t :: l, d, q, hq, hw => by
  simp only [List.map_cons, List.sum_cons] at hq hw
  have n1 := sum_ns t
  obtain ⟨q1, a1, a2, a3, a4, a5, a6, a7⟩ := pkTerms h t d q (by omega) (by omega)
  obtain ⟨q2, b1, b2, b3, b4, b5, b6⟩ := pkRows h l d q1 (by omega) (by omega)
  refine ⟨q2, a1 :: b1, ?_, by simp only [List.map_cons, List.sum_cons]; omega, by simp only [List.map_cons]; rw [a4, b4], by rw [cRows, List.all_append, a5, b5]; rfl, ?_⟩
  ·rw [List.map_cons, wRows]; simp only [a2, b2]
  ·have g1 := h.c1 1; have g2 := h.c1 (t.map Term.nw).sum
   simp only [List.map_cons, List.sum_cons]; rw [n1]; simp only [Nat.mul_add]; omega
end
/-- **What is planned: the same query, plans that may be, of no great weight.** -/
theorem pkWith (h : PkH ch s K C B W pp) (x : With) (q : Nat) (hq : q + x.w ≤ 2^62) (hw : x.w ≤ B) : ∃ q' y, wWith (pkfa ch s W) idff (some q) x.plain = (some q', y) ∧ q' ≤ q + x.w ∧ y.plain = x.plain ∧ (cWith y).all pp = true ∧ y.w ≤ C * x.w := by
 have w0 := With.w_eq x
 obtain ⟨q1, a1, a2, a3, a4, a5, a6⟩ := pkQuery h x.query 0 q (by omega) (by omega)
 obtain ⟨q2, b1, b2, b3, b4, b5, b6⟩ := pkQueries h x.step 0 q1 (by omega) (by omega)
 refine ⟨q2, { x with query := a1, step := b1 }, ?_, by omega, ?_, ?_, ?_⟩
 ·unfold wWith With.plain; simp only [a2, b2]
 ·unfold With.plain; simp only [a4, b4]
 ·unfold cWith; simp only [List.all_append, a5, b5]; rfl
 ·rw [With.w_eq, w0]
  have g1 := h.c1 1; have g2 := h.c1 x.names.length
  simp only [Nat.mul_add]; omega
theorem pkWiths (h : PkH ch s K C B W pp) : ∀ (x : List With) (q : Nat), q + (x.map With.w).sum ≤ 2^62 → (x.map With.w).sum ≤ B → ∃ q' y, wWiths (pkfa ch s W) idff (x.map With.plain) (some q) = (some q', y) ∧ q' ≤ q + (x.map With.w).sum ∧ y.map With.plain = x.map With.plain ∧ (y.flatMap cWith).all pp = true ∧ (y.map With.w).sum ≤ C * (x.map With.w).sum
 | [], q, hq, hw => ⟨q, [], rfl, by simp, rfl, rfl, by simp⟩
 | t :: l, q, hq, hw => by
  simp only [List.map_cons, List.sum_cons] at hq hw
  obtain ⟨q1, a1, a2, a3, a4, a5, a6⟩ := pkWith h t q (by omega) (by omega)
  obtain ⟨q2, b1, b2, b3, b4, b5, b6⟩ := pkWiths h l q1 (by omega) (by omega)
  unfold wWiths at b2 ⊢
  refine ⟨q2, a1 :: b1, ?_, by simp only [List.map_cons, List.sum_cons]; omega, by simp only [List.map_cons]; rw [a4, b4], by rw [List.flatMap_cons, List.all_append, a5, b5]; rfl, by simp only [List.map_cons, List.sum_cons, Nat.mul_add]; omega⟩
  rw [List.map_cons, mapS]; simp only [a2, b2]
theorem pkResolved (h : PkH ch s K C B W pp) (r : Resolved) (q : Nat) (hq : q + r.w ≤ 2^62) (hw : r.w ≤ B) : ∃ q' y, wResolved (pkfa ch s W) idff r.plain (some q) = (some q', y) ∧ q' ≤ q + r.w ∧ y.plain = r.plain ∧ (cResolved y).all pp = true ∧ y.w ≤ C * r.w := by
 have w0 := Resolved.w_eq r
 obtain ⟨q1, a1, a2, a3, a4, a5, a6⟩ := pkQuery h r.query 0 q (by omega) (by omega)
 obtain ⟨q2, b1, b2, b3, b4, b5, b6⟩ := pkWiths h r.withs q1 (by omega) (by omega)
 refine ⟨q2, ⟨b1, a1⟩, ?_, by omega, ?_, ?_, ?_⟩
 ·unfold wResolved Resolved.plain; simp only [a2, b2]
 ·unfold Resolved.plain; simp only [a4, b4]
 ·unfold cResolved; simp only [List.all_append, a5, b5]; rfl
 ·rw [Resolved.w_eq, w0]
  have g1 := h.c1 1
  simp only [Nat.mul_add]; omega
end
open Go.Proofs.YtcckhbconihagaaGreatDoor (same)
def worth (p : Path) : Int :=
 if p.kind == 1 then 0
 else if (p.kind == 2) && decide (((p.eq.length : Nat) : Int) > 0) then 100 - ((p.eq.length : Nat) : Int)
 else if (p.kind == 2) && decide (((p.low.length : Nat) : Int) + ((p.high.length : Nat) : Int) > 0) then 200 - ((p.low.length : Nat) : Int) - ((p.high.length : Nat) : Int)
 else if p.kind == 0 then 300 else 400
def lessB (x y : Stp) : Bool := decide (worth x.path - worth y.path < 0)
def bestF (m : Stp) (l : List Stp) : Stp := l.foldl (fun m y => if lessB y m then y else m) m
def best : List Stp → Stp
 | [] => ⟨0, scanP⟩
 | x :: l => bestF x l
theorem bestF_ok : ∀ (l : List Stp) (m : Stp), (bestF m l = m ∨ bestF m l ∈ l) ∧ worth (bestF m l).path ≤ worth m.path ∧ ∀ y ∈ l, worth (bestF m l).path ≤ worth y.path
 | [], m => ⟨.inl rfl, Int.le_refl _, fun y h => by cases h⟩
 | x :: l, m => by
  have e : bestF m (x :: l) = bestF (if lessB x m then x else m) l := rfl
  rw [e]
  obtain ⟨h1, h2, h3⟩ := bestF_ok l (if lessB x m then x else m)
  by_cases hb : lessB x m = true
  ·rw [if_pos hb] at h1 h2 h3 ⊢
   have := of_decide_eq_true hb
   refine ⟨.inr ?_, by omega, fun y hy => ?_⟩
   ·rcases h1 with h1 | h1
    ·rw [h1]; simp
    ·exact List.mem_cons_of_mem _ h1
   ·rcases List.mem_cons.1 hy with rfl | hy
    ·exact h2
    ·exact h3 y hy
  ·rw [if_neg hb] at h1 h2 h3 ⊢
   have : ¬ (worth x.path - worth m.path < 0) := fun h => hb (decide_eq_true h)
   refine ⟨?_, h2, fun y hy => ?_⟩
   ·rcases h1 with h1 | h1
    ·exact .inl h1
    ·exact .inr (List.mem_cons_of_mem _ h1)
   ·rcases List.mem_cons.1 hy with rfl | hy
    ·omega
    ·exact h3 y hy
theorem best_mem {l : List Stp} (h : l ≠ []) : best l ∈ l := by
 cases l with
 | nil => exact absurd rfl h
 | cons x l =>
  rcases (bestF_ok l x).1 with e | e
  ·show bestF x l ∈ _; rw [e]; simp
  ·exact List.mem_cons_of_mem _ e
theorem best_le {l : List Stp} {y : Stp} (h : y ∈ l) : worth (best l).path ≤ worth y.path := by
 cases l with
 | nil => cases h
 | cons x l =>
  rcases List.mem_cons.1 h with rfl | h
  ·exact (bestF_ok l _).2.1
  ·exact (bestF_ok l x).2.2 y h
def eqP (t : Term) : Path := ⟨1, .empty, [t], [], []⟩
def ixP (n : ByteArray) (t : Term) : Path := ⟨2, n, [t], [], []⟩
/-- May there be a path by the rowid, or by an index with an Eq? -/
noncomputable def better (s : Schema) (a : Arm) (k : Int) (ahead : List Int) : Bool :=
 (usable a k).any fun x => (x.op == 13) && (pathOk s a k (eqP x.fin) ahead || s.indexes.any fun i => pathOk s a k (ixP i.name x.fin) ahead)
theorem has_mem {a : Arm} {k : Int} {ahead : List Int} {t : Term} {is : Said → Bool} (h : has a k [13] ahead t is = true) : ∃ y ∈ sayable a k ahead, (y.op == 13) = true ∧ is y = true := by
 unfold has at h
 rw [Bool.and_eq_true, List.any_eq_true] at h
 obtain ⟨h1, y, hy, h2⟩ := h
 simp only [List.any_cons, List.any_nil, Bool.or_false, Bool.and_eq_true] at h2
 obtain ⟨h3, h4, h5⟩ := h2
 have e : y.fin = t := by simpa [same] using h5
 exact ⟨y, mem_oneIf.2 ⟨y, hy, by rw [e]; exact h1, rfl⟩, h3, h4⟩
/-- Where there is a better path, one is offered. -/
theorem better_offer {s : Schema} {a : Arm} {k : Int} {ahead : List Int} (h : better s a k ahead = true) : ∃ p ∈ offers s a k ahead, worth p < 300 := by
 unfold better at h
 rw [List.any_eq_true] at h
 obtain ⟨x, hx, h⟩ := h
 rw [Bool.and_eq_true, Bool.or_eq_true] at h
 obtain ⟨ho, h⟩ := h
 have tab : ∀ p : Path, (p.kind != 0) = true → pathOk s a k p ahead = true → noTable s a k = false := fun p hp h => by
  cases hn : noTable s a k with
  | false => rfl
  | true =>
   unfold noTable at hn
   unfold pathOk at h
   rw [hp, hn] at h
   simp at h
 rcases h with h | h
 ·have hn := tab _ rfl h
  have hr : rowidOk s a k (eqP x.fin) ahead = true := by
   unfold noTable at hn
   unfold pathOk at h
   rw [hn, Bool.and_false] at h
   exact h
  unfold rowidOk at hr
  simp only [Bool.and_eq_true] at hr
  obtain ⟨y, hy, h1, h2⟩ := has_mem hr.2.2.2
  refine ⟨rowidP y.fin, ?_, by simp [worth, rowidP]⟩
  unfold offers
  rw [if_neg (by rw [hn]; decide)]
  exact List.mem_append.2 (.inl (mem_oneIf.2 ⟨y, hy, by rw [h1, h2]; rfl, rfl⟩))
 ·rw [List.any_eq_true] at h
  obtain ⟨i, hi, h⟩ := h
  have hn := tab _ rfl h
  have hr : indexOk s a k (ixP i.name x.fin) ahead (s.index (s.table (a.src k).name).name i.name) = true := by
   unfold noTable at hn
   unfold pathOk at h
   rw [hn, Bool.and_false] at h
   exact h
  unfold indexOk at hr
  simp only [Bool.and_eq_true, Bool.not_eq_true', Bool.or_eq_false_iff, decide_eq_false_iff_not] at hr
  obtain ⟨⟨k0, k1⟩, k2, -, -⟩ := hr
  have hany : s.indexes.any (fun j => j.name.toList == i.name.toList && j.table.toList == (s.table (a.src k).name).name.toList) = true := by
   cases e : s.indexes.any (fun j => j.name.toList == i.name.toList && j.table.toList == (s.table (a.src k).name).name.toList) with
   | true => rfl
   | false => unfold Schema.index idx at k0; rw [e] at k0; simp at k0
  obtain ⟨n, hnl, e1, e2, e3⟩ := idx_sat _ _ hany
  have hidx : s.index (s.table (a.src k).name).name i.name = ((n : Nat) : Int) := e1
  rw [Bool.and_eq_true, beq_iff_eq, beq_iff_eq] at e2
  have hg : s.indexes.getD n zindex = s.indexes[n] := by simp [List.getD_eq_getElem?_getD, hnl]
  have hkeys : s.keys ((n : Nat) : Int) = s.indexes[n].keys := by unfold Schema.keys; rw [Int.toNat_natCast, hg]
  rw [hidx, hkeys] at k1 k2
  have hix : isIndex s (s.table (a.src k).name) n = true := by
   unfold isIndex
   rw [hg, beq_iff_eq]
   unfold Schema.index
   have : (fun j : Index => j.name.toList == s.indexes[n].name.toList && j.table.toList == (s.table (a.src k).name).name.toList) = fun j => j.name.toList == i.name.toList && j.table.toList == (s.table (a.src k).name).name.toList := by
    rw [e2.1]
   rw [this]; exact e1.symm
  refine ⟨indexed s.indexes[n] (sayable a k ahead), ?_, ?_⟩
  ·unfold offers
   rw [if_neg (by rw [hn]; decide)]
   exact List.mem_append.2 (.inr (List.mem_append.2 (.inl (mem_oneIf.2 ⟨n, List.mem_range.2 hnl, hix, by rw [hg]⟩))))
  ·cases hk : s.indexes[n].keys with
   | nil => rw [hk] at k1; simp [ixP] at k1
   | cons q ks =>
    rw [hk] at k2
    unfold eqs at k2
    simp only [ixP, Bool.and_eq_true] at k2
    obtain ⟨y, hy, h1, h2⟩ := has_mem k2.1
    have hf : ∃ z, (sayable a k ahead).find? (isEq q) = some z := by
     cases e : (sayable a k ahead).find? (isEq q) with
     | some z => exact ⟨z, rfl⟩
     | none =>
      have := List.find?_eq_none.1 e y hy
      unfold isEq at this
      rw [h1, h2] at this; simp at this
    obtain ⟨z, hz⟩ := hf
    unfold worth indexed
    rw [hk]
    simp only [idxd, hz, List.length_cons]
    simp
    omega
theorem offers_ne {s : Schema} {a : Arm} {k : Int} {ahead : List Int} : offers s a k ahead ≠ [] := by
 unfold offers
 split
 ·simp
 ·simp
/-- What is best is scanned only where it need be. -/
theorem best_scan {s : Schema} {a : Arm} {ahead : List Int} (h : next s a ahead ≠ []) (h0 : ((best (next s a ahead)).path.kind == 0) = true) : better s a (best (next s a ahead)).frm ahead = false := by
 cases hb : better s a (best (next s a ahead)).frm ahead with
 | false => rfl
 | true =>
  exfalso
  obtain ⟨p, hp, hw⟩ := better_offer hb
  have hm := best_mem h
  generalize hx : best (next s a ahead) = x at *
  have hm2 := hm
  unfold next at hm2
  obtain ⟨k, hk, hm2⟩ := List.mem_flatMap.1 hm2
  unfold nextAt at hm2
  split at hm2
  ·cases hm2
  ·rename_i hn
   obtain ⟨p0, hp0, rfl⟩ := List.mem_map.1 hm2
   have hin : (⟨(k : Int), p⟩ : Stp) ∈ next s a ahead := by
    unfold next
    refine List.mem_flatMap.2 ⟨k, hk, ?_⟩
    unfold nextAt
    rw [if_neg hn]
    exact List.mem_map.2 ⟨p, hp, rfl⟩
   have hle := best_le hin
   rw [hx] at hle
   have h3 : worth p0 = 300 := by
    have h0' : p0.kind = 0 := by simpa using h0
    unfold worth; simp [h0']
   have : worth (Stp.mk (k : Int) p0).path = 300 := h3
   rw [this] at hle
   have : worth (Stp.mk (k : Int) p).path = worth p := rfl
   omega
def natAhead : Nat → List Int
 | 0 => []
 | n + 1 => put (natAhead n) (n : Int)
def natReady (a : Arm) : Nat → Bool
 | 0 => true
 | n + 1 => natReady a n && ready a (n : Int) (natAhead n)
def natural (a : Arm) : Bool := natReady a a.frm.length && !(a.whr.any fun t => !within t (natAhead a.frm.length))
noncomputable def scanBad (s : Schema) (a : Arm) (ahead : List Int) (x : Step) : Bool := decide (x.frm < 0) || decide (x.frm ≥ ((a.frm.length : Nat) : Int)) || ((x.kind == 0) && better s a x.frm ahead)
noncomputable def goodSteps (s : Schema) (a : Arm) : List Int → List Step → Bool
 | _, [] => true
 | ahead, x :: l => !scanBad s a ahead x && goodSteps s a (put ahead x.frm) l
noncomputable def goodA (s : Schema) (a : Arm) : Bool :=
 if ((a.steps.length : Nat) : Int) == 0 then (((a.frm.length : Nat) : Int) == 0) || !natural a else goodSteps s a [] a.steps
def chB (q : Nat) (l : List Stp) : Nat × Stp := (q, best l)
theorem mem_natAhead : ∀ (n : Nat) (k : Int), k ∈ natAhead n ↔ 0 ≤ k ∧ k < (n : Int)
 | 0, k => by simp [natAhead] <;> omega
 | n + 1, k => by
  rw [natAhead, mem_put, mem_natAhead n k]; omega
theorem within_iff {t : Term} {l : List Int} : within t l = true ↔ ∀ k ∈ reachT t, k ∈ l := by
 unfold within
 rw [Bool.not_eq_true', List.any_eq_false]
 constructor
 ·intro h k hk
  have := h k hk
  rw [Bool.not_eq_true, Bool.not_eq_false'] at this
  exact any_mem.1 this
 ·intro h k hk
  rw [Bool.not_eq_true, Bool.not_eq_false']
  exact any_mem.2 (h k hk)
theorem within_mono {t : Term} {l m : List Int} (h : ∀ k ∈ l, k ∈ m) (hw : within t l = true) : within t m = true :=
 within_iff.2 fun k hk => h k (within_iff.1 hw k hk)
theorem ready_mono {a : Arm} {k : Int} {l m : List Int} (h : ∀ k ∈ l, k ∈ m) (hw : ready a k l = true) : ready a k m = true := by
 unfold ready at hw ⊢
 rw [Bool.not_eq_true', List.any_eq_false] at hw ⊢
 intro t ht
 have := hw t ht
 rw [Bool.not_eq_true, Bool.not_eq_false'] at this ⊢
 refine within_mono (fun x hx => ?_) this
 rcases List.mem_append.1 hx with hx | hx
 ·exact List.mem_append.2 (.inl (h x hx))
 ·exact List.mem_append.2 (.inr hx)
theorem natReady_at {a : Arm} : ∀ (n : Nat), natReady a n = true → ∀ k : Nat, k < n → ready a (k : Int) (natAhead k) = true
 | 0, _, k, hk => by omega
 | n + 1, h, k, hk => by
  rw [natReady, Bool.and_eq_true] at h
  by_cases e : k = n
  ·subst e; exact h.2
  ·exact natReady_at n h.1 k (by omega)
theorem better_ext {s : Schema} {a : Arm} {k : Int} {l m : List Int} (h : Mem l m) : better s a k l = better s a k m := by
 unfold better
 simp only [pathOk_ext h]
theorem scanBad_ext {s : Schema} {a : Arm} {x : Step} {l m : List Int} (h : Mem l m) : scanBad s a l x = scanBad s a m x := by
 unfold scanBad
 rw [better_ext h]
theorem goodSteps_ext {s : Schema} {a : Arm} : ∀ (x : List Step) {l m : List Int}, Mem l m → goodSteps s a l x = goodSteps s a m x
 | [], _, _, _ => rfl
 | y :: x, l, m, h => by
  have h' : Mem (put l y.frm) (put m y.frm) := mem_iff_any.2 fun k => by rw [mem_put, mem_put, (mem_iff_any.1 h) k]
  rw [goodSteps, goodSteps, scanBad_ext h, goodSteps_ext x h']
/-- The least that is not there. -/
theorem least_out : ∀ (n : Nat) (l : List Int), (∃ k : Nat, k < n ∧ (k : Int) ∉ l) → ∃ k : Nat, k < n ∧ (k : Int) ∉ l ∧ ∀ i : Nat, i < k → (i : Int) ∈ l
 | 0, l, ⟨k, h, _⟩ => by omega
 | n + 1, l, ⟨k, h, h2⟩ => by
  by_cases e : ∃ k : Nat, k < n ∧ (k : Int) ∉ l
  ·obtain ⟨k', h1, h2, h3⟩ := least_out n l e
   exact ⟨k', by omega, h2, h3⟩
  ·refine ⟨n, by omega, ?_, fun i hi => ?_⟩
   ·have : k = n := by
     by_cases hk : k < n
     ·exact absurd ⟨k, hk, h2⟩ e
     ·omega
    exact this ▸ h2
   ·by_cases hm : (i : Int) ∈ l
    ·exact hm
    ·exact absurd ⟨i, hi, hm⟩ e
theorem some_out {n : Nat} {l : List Int} (h : l.length < n) : ∃ k : Nat, k < n ∧ (k : Int) ∉ l := by
 by_cases e : ∃ k : Nat, k < n ∧ (k : Int) ∉ l
 ·exact e
 ·exfalso
  have hall : ∀ k : Nat, k < n → (k : Int) ∈ l := fun k hk => by
   by_cases hm : (k : Int) ∈ l
   ·exact hm
   ·exact absurd ⟨k, hk, hm⟩ e
  exact absurd (all_len n l hall) (by omega)
where all_len : ∀ (n : Nat) (l : List Int), (∀ k : Nat, k < n → (k : Int) ∈ l) → n ≤ l.length
 | 0, _, _ => Nat.zero_le _
 | n + 1, l, h => by
  have hn := h n (by omega)
  have h2 := all_len n (l.erase (n : Int)) fun k hk => (List.mem_erase_of_ne (by omega)).2 (h k (by omega))
  have h3 := List.length_erase_of_mem hn
  have h4 := List.length_pos_of_mem hn
  omega
theorem all_len {n : Nat} {l : List Int} (h : ∀ k : Nat, k < n → (k : Int) ∈ l) : n ≤ l.length := by
 by_cases e : l.length < n
 ·obtain ⟨k, hk, hk2⟩ := some_out e
  exact absurd (h k hk) hk2
 ·omega
theorem next_ne {s : Schema} {a : Arm} {ahead : List Int} (hn : natural a = true) (hl : ahead.length < a.frm.length) : next s a ahead ≠ [] := by
 obtain ⟨k, h1, h2, h3⟩ := least_out _ _ (some_out hl)
 unfold natural at hn
 rw [Bool.and_eq_true] at hn
 have hr := ready_mono (fun x hx => by
  obtain ⟨x0, x1⟩ := (mem_natAhead k x).1 hx
  have := h3 x.toNat (by omega)
  rwa [Int.toNat_of_nonneg x0] at this) (natReady_at _ hn.1 k h1)
 intro e
 have hnil : nextAt s a ahead k = [] := by
  unfold next at e
  exact List.flatMap_eq_nil_iff.1 e k (List.mem_range.2 h1)
 unfold nextAt at hnil
 have : ahead.any ((k : Int) == ·) = false := by
  cases hq : ahead.any ((k : Int) == ·) with
  | false => rfl
  | true => exact absurd (any_mem.1 hq) h2
 rw [this, hr] at hnil
 simp only [Bool.not_true, Bool.or_false, Bool.false_eq_true, if_false, List.map_eq_nil_iff] at hnil
 exact offers_ne hnil
theorem newW_all {a : Arm} {ahead met : List Int} : ∀ (n : Nat) (k : Nat), k < n → within (a.whr.getD k zterm) ahead = true → (k : Int) ∈ met ++ newW a ahead met n
 | 0, k, h, _ => by omega
 | n + 1, k, h, hw => by
  unfold newW
  by_cases e : k = n
  ·subst e
   by_cases hm : (k : Int) ∈ met ++ newW a ahead met k
   ·rw [← List.append_assoc]; exact List.mem_append.2 (.inl hm)
   ·have : (met ++ newW a ahead met k).any ((k : Int) == ·) = false := by
     cases hq : (met ++ newW a ahead met k).any ((k : Int) == ·) with
     | false => rfl
     | true => exact absurd (any_mem.1 hq) hm
    rw [this, hw]
    simp
  ·have := newW_all (met := met) n k (by omega) hw
   rw [← List.append_assoc]; exact List.mem_append.2 (.inl this)
/-- What is planned is good, as long as the natural order is possible there is a plan. -/
theorem planGo_good {s : Schema} {a : Arm} : ∀ (n : Nat) (q : Nat) (ahead met : List Int) (st : List Step), ahead.length + n = a.frm.length → Dist a.frm.length ahead → (∀ k : Nat, k < a.whr.length → within (a.whr.getD k zterm) ahead = true → 0 < ahead.length → (k : Int) ∈ met) →
  ((natural a = true → 0 < a.frm.length → ∃ rest, (planGo chB s a n q ahead met st).2 = st ++ rest ∧ goodSteps s a ahead rest = true ∧ rest.length = n) ∧
  ((planGo chB s a n q ahead met st).2 = [] ∨ ∃ rest, (planGo chB s a n q ahead met st).2 = st ++ rest ∧ goodSteps s a ahead rest = true))
 | 0, q, ahead, met, st, hl, hd, hm => by
  unfold planGo
  refine ⟨fun hn hf => ⟨[], ?_, rfl, rfl⟩, ?_⟩
  ·have hall : a.whr.length ≤ met.length := all_len fun k hk => hm k hk (by
    unfold natural at hn
    rw [Bool.and_eq_true, Bool.not_eq_true', List.any_eq_false] at hn
    have hw := hn.2 (a.whr.getD k zterm) (by simp [List.getD_eq_getElem?_getD, hk])
    rw [Bool.not_eq_true, Bool.not_eq_false'] at hw
    refine within_mono (fun x hx => ?_) hw
    have hx' := (mem_natAhead _ _).1 hx
    by_cases hxm : x ∈ ahead
    ·exact hxm
    ·exfalso
     have hd2 : Dist a.frm.length (x :: ahead) := ⟨List.nodup_cons.2 ⟨hxm, hd.1⟩, fun y hy => by
      rcases List.mem_cons.1 hy with rfl | hy
      ·exact hx'
      ·exact hd.2 y hy⟩
     have := dist_len _ _ hd2
     simp at this; omega) (by omega)
   rw [if_neg (by simp; omega)]; simp
  ·split
   ·exact .inl rfl
   ·exact .inr ⟨[], by simp, rfl⟩
 | n + 1, q, ahead, met, st, hl, hd, hm => by
  unfold planGo
  by_cases h : next s a ahead = []
  ·rw [if_pos (by rw [h]; rfl)]
   exact ⟨fun hn _ => absurd h (next_ne hn (by omega)), .inl rfl⟩
  ·rw [if_neg (by rw [beq_iff_eq]; intro e; exact h (List.eq_nil_of_length_eq_zero (by omega)))]
   have hx := next_mem (best_mem h)
   have hsc := best_scan (s := s) (a := a) (ahead := ahead) h
   have e1 : (chB q (next s a ahead)).2 = best (next s a ahead) := rfl
   have e0 : (chB q (next s a ahead)).1 = q := rfl
   rw [e1, e0]
   generalize best (next s a ahead) = x at hx hsc
   have hd2 : Dist a.frm.length (ahead ++ [x.frm]) := by
    refine ⟨?_, fun y hy => ?_⟩
    ·rw [List.nodup_append]
     refine ⟨hd.1, by simp, fun u hu v hv e => ?_⟩
     rw [List.mem_singleton] at hv
     exact hx.2.2.1 (by rw [← hv, ← e]; exact hu)
    ·rcases List.mem_append.1 hy with hy | hy
     ·exact hd.2 y hy
     ·rw [List.mem_singleton.1 hy]; exact ⟨hx.1, hx.2.1⟩
   have ih := planGo_good (s := s) (a := a) n q (ahead ++ [x.frm]) (met ++ newW a (ahead ++ [x.frm]) met a.whr.length) (st ++ [stepOf x (newW a (ahead ++ [x.frm]) met a.whr.length)]) (by simp; omega) hd2 (fun k hk hw _ => newW_all _ k hk hw)
   have hg : ∀ w rest, goodSteps s a (ahead ++ [x.frm]) rest = true → goodSteps s a ahead (stepOf x w :: rest) = true := fun w rest hr => by
    rw [goodSteps, Bool.and_eq_true]
    refine ⟨?_, ?_⟩
    ·have : scanBad s a ahead (stepOf x w) = false := by
      unfold scanBad
      show (decide (x.frm < 0) || decide (x.frm ≥ ((a.frm.length : Nat) : Int)) || ((x.path.kind == 0) && better s a x.frm ahead)) = false
      have h1 := hx.1; have h2 := hx.2.1
      rw [show decide (x.frm < 0) = false from decide_eq_false (by omega), show decide (x.frm ≥ ((a.frm.length : Nat) : Int)) = false from decide_eq_false (by omega)]
      cases hk : (x.path.kind == 0) with
      | false => rfl
      | true => rw [hsc hk]; rfl
     rw [this]; rfl
    ·rw [← hr]
     exact goodSteps_ext _ ((Mem.refl ahead).put x.frm)
   refine ⟨fun hn hf => ?_, ?_⟩
   ·obtain ⟨rest, h1, h2, h3⟩ := ih.1 hn hf
    exact ⟨stepOf x (newW a (ahead ++ [x.frm]) met a.whr.length) :: rest, by rw [h1]; simp, hg _ _ h2, by simp [h3]⟩
   ·rcases ih.2 with h1 | ⟨rest, h1, h2⟩
    ·exact .inl h1
    ·exact .inr ⟨stepOf x (newW a (ahead ++ [x.frm]) met a.whr.length) :: rest, by rw [h1]; simp, hg _ _ h2⟩
theorem goodSteps_steps {s : Schema} {a : Arm} (x : List Step) : ∀ (l : List Step) (ahead : List Int), goodSteps s { a with steps := x } ahead l = goodSteps s a ahead l
 | [], _ => rfl
 | y :: l, ahead => by
  have e1 : scanBad s { a with steps := x } ahead y = scanBad s a ahead y := by
   unfold scanBad better
   simp only [pathOk_steps]; rfl
  rw [goodSteps, goodSteps, e1, goodSteps_steps x l]
theorem natReady_steps {a : Arm} (x : List Step) : ∀ n, natReady { a with steps := x } n = natReady a n
 | 0 => rfl
 | n + 1 => by rw [natReady, natReady, natReady_steps x n]; rfl
theorem natural_steps {a : Arm} (x : List Step) : natural { a with steps := x } = natural a := by
 unfold natural
 rw [natReady_steps]
/-- **A planned arm is good.** -/
theorem planA_good {s : Schema} {a : Arm} (q : Nat) : goodA s (planA chB s a q).2 = true := by
 have h := planGo_good (s := s) (a := a) a.frm.length q [] [] [] (by simp) ⟨List.nodup_nil, by simp⟩ (fun k _ _ h => by simp at h)
 unfold planA goodA
 simp only [natural_steps, goodSteps_steps]
 by_cases e : (planGo chB s a a.frm.length q [] [] []).2 = []
 ·rw [e, if_pos (by rfl)]
  by_cases hf : a.frm.length = 0
  ·rw [hf]; rfl
  ·cases hn : natural a with
   | false => simp
   | true =>
    obtain ⟨rest, h1, h2, h3⟩ := h.1 hn (by omega)
    rw [e, List.nil_append] at h1
    rw [← h1] at h3
    simp at h3
    omega
 ·rw [if_neg (by rw [beq_iff_eq]; intro e2; exact e (List.eq_nil_of_length_eq_zero (by omega)))]
  rcases h.2 with h1 | ⟨rest, h1, h2⟩
  ·exact absurd h1 e
  ·rw [List.nil_append] at h1
   rw [h1]; exact h2
end Go.Pl
