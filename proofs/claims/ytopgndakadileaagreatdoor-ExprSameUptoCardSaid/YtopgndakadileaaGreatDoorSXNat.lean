/- The library's contracts, in abstract states. -/
import Derived.Test.YtopgndakadileaaGreatDoorSXData
import Derived.Test.YtopgndakadileaaGreatDoorS12
import Derived.Test.YtopgndakadileaaGreatDoorSXTy
import Derived.Test.YtopgndakadileaaGreatDoorSXShelf
set_option linter.unusedVariables false
namespace Go.Proofs.YtopgndakadileaaGreatDoor.Ex
open Go.Am Go.Ex Go.Proofs.YtopgndakadileaaGreatDoor
theorem repL_base {G : Ghost} : ∀ {vs l : List Value}, RepL G (vs.map V.base) l → l = vs
  | [], l, h => h.nil_inv
  | v :: vs, l, h => by
    obtain ⟨v', l', rfl, h1, h2⟩ := RepL.uncons (by simpa using h)
    cases h1
    rw [repL_base h2]
theorem More.below {w w' : World} (h : Go.RowKit.Below w.heap.size w w') : More w w' := ⟨h.size, h.os, h.tape, h.output, fun b hb => h.block b hb⟩
/-- A call of the library on plain values, with a plain answer. -/
theorem gives_lib {f : FuncId} (vs : List Value) (r : Value) (hf : ∃ fn, Tryz.prog.funcs[f]? = some fn ∧ fn.body.isNone = false ∧ (fn.name == "runtime.NumGoroutine") = false) (h : ∀ w, Go.Am.Tables w → Calls Tryz.prog f vs.toArray w fun e w' => e = .returned r ∧ More w w') : Gives Tryz.prog f (vs.map V.base) (.base r) := by
  intro s
  refine ⟨hf, fun G w cargs hh hargs => ?_⟩
  obtain rfl : cargs = vs.toArray := by rw [← Array.toList_inj]; exact repL_base hargs
  refine (h w (hh.tab w hh.frz)).mono ?_
  rintro e w' ⟨rfl, hm⟩
  exact ⟨G, s, .base r, r, rfl, .base r, Ext.more hm, hh.more hm, rfl, rfl⟩
theorem More.same (w : World) : More w w := ⟨Nat.le_refl _, rfl, rfl, rfl, fun _ _ => rfl⟩
def dec2 (i : Nat) : List UInt8 := if i < 10 then [UInt8.ofNat (48 + i)] else [UInt8.ofNat (48 + i / 10), UInt8.ofNat (48 + i % 10)]
theorem dec2_eq (i : Nat) (hi : i < 100) : Lib.decDigits i = dec2 i := by
  unfold Lib.decDigits dec2
  split
  · rfl
  · unfold Lib.decDigits
    rw [dif_pos (by omega)]; rfl
def n151 (x0 : Int) (x1 : Int) : Option ByteArray := need (0 ≤ x0 ∧ x0 < 100 ∧ x1 = 10) (some ⟨(dec2 x0.toNat).toArray⟩)
theorem N151 (x0 : Int) (x1 : Int) (r : ByteArray) (h : n151 x0 x1 = some r) : Gives Tryz.prog 151 [vint x0, vint x1] (vstr r) := by
  unfold n151 at h
  obtain ⟨⟨h1, h2, h3⟩, h'⟩ := need_some h
  clear h
  subst h3
  cases h'
  refine gives_lib [.int .i64 x0, .int .i64 10] _ ⟨_, Tryz.func151, rfl, by decide⟩ fun w ht => ?_
  have := Tryz.strconv_FormatInt_10_small x0.toNat (by omega) w
  rw [show ((x0.toNat : Nat) : Int) = x0 by omega, dec2_eq _ (by omega)] at this
  exact this.mono fun e w' ⟨e1, e2⟩ => ⟨e1, e2 ▸ More.same w⟩
def n89 (x0 x1 x2 : ByteArray) : Option ByteArray := need (x0.size < 4294967281 ∧ 1 ≤ x1.size ∧ x0.size + Lib.countB x0 x1 * x2.size ≤ 140737488355328) (some ⟨(Lib.replaceAll x0.data.toList x1.data.toList x2.data.toList).toArray⟩)
theorem N89 (x0 : ByteArray) (x1 : ByteArray) (x2 : ByteArray) (r : ByteArray) (h : n89 x0 x1 x2 = some r) : Gives Tryz.prog 89 [vstr x0, vstr x1, vstr x2] (vstr r) := by
  unfold n89 at h
  obtain ⟨⟨h1, h2, h3⟩, h⟩ := need_some h
  cases h
  refine gives_lib [.string x0, .string x1, .string x2] _ ⟨_, Tryz.func89, rfl, by decide⟩ fun w ⟨m, hm⟩ => ?_
  exact (Tryz.strings_ReplaceAll x0 x1 x2 m w h1 hm h2 h3).mono fun e w' ⟨e1, e2⟩ => ⟨e1, More.below e2⟩
def n243 (x0 : ByteArray) : Option ByteArray := need (x0.size ≤ 140737488355328 ∧ x0.data.toList.all (fun b => decide (b.toNat < 128)) = true) (some ⟨(Lib.toUpperA x0.data.toList).toArray⟩)
theorem N243 (x0 : ByteArray) (r : ByteArray) (h : n243 x0 = some r) : Gives Tryz.prog 243 [vstr x0] (vstr r) := by
  unfold n243 at h
  obtain ⟨⟨h1, h2⟩, h⟩ := need_some h
  cases h
  refine gives_lib [.string x0] _ ⟨_, Tryz.func243, rfl, by decide⟩ fun w ht => ?_
  exact (Tryz.strings_ToUpper_ascii x0 w h1 fun j b hb => by
    have := List.all_eq_true.1 h2 b (List.mem_of_getElem? hb)
    simpa using this).mono fun e w' ⟨e1, e2⟩ => ⟨e1, More.below e2⟩
def n244 (x0 x1 : ByteArray) : Option Bool := need (x0.size < 4294967281) (some (Lib.contains x0.data.toList x1.data.toList))
theorem N244 (x0 : ByteArray) (x1 : ByteArray) (r : Bool) (h : n244 x0 x1 = some r) : Gives Tryz.prog 244 [vstr x0, vstr x1] (vbool r) := by
  unfold n244 at h
  obtain ⟨h1, h⟩ := need_some h
  cases h
  refine gives_lib [.string x0, .string x1] _ ⟨_, Tryz.func244, rfl, by decide⟩ fun w ⟨m, hm⟩ => ?_
  exact (Tryz.strings_Contains x0 x1 m w h1 hm).mono fun e w' ⟨e1, e2⟩ => ⟨e1, e2 ▸ More.same w⟩
def n258 (x0 x1 : ByteArray) : Option Bool := some (Lib.hasPrefix x0.data.toList x1.data.toList)
theorem N258 (x0 : ByteArray) (x1 : ByteArray) (r : Bool) (h : n258 x0 x1 = some r) : Gives Tryz.prog 258 [vstr x0, vstr x1] (vbool r) := by
  unfold n258 at h
  cases h
  refine gives_lib [.string x0, .string x1] _ ⟨_, Tryz.func258, rfl, by decide⟩ fun w ht => ?_
  exact (Tryz.strings_HasPrefix x0 x1 w).mono fun e w' ⟨e1, e2⟩ => ⟨e1, e2 ▸ More.same w⟩
def n259 (x0 : ByteArray) (x1 : Int) : Option Int := some (Lib.indexByte x0.data.toList x1.toNat.toUInt8)
theorem N259 (x0 : ByteArray) (x1 : Int) (r : Int) (h : n259 x0 x1 = some r) : Gives Tryz.prog 259 [vstr x0, .base (.int .u8 x1)] (vint r) := by
  unfold n259 at h
  cases h
  refine gives_lib [.string x0, .int .u8 x1] _ ⟨_, Tryz.func259, rfl, by decide⟩ fun w ht => ?_
  exact (Tryz.strings_IndexByte x0 x1 w).mono fun e w' ⟨e1, e2⟩ => ⟨e1, e2 ▸ More.same w⟩
/-- A list of texts, newly laid. -/
theorem rep_texts {G : Ghost} {b cap : Nat} {l : List ByteArray} (hF : ∀ k (hk : k < l.length), G.F b k = some (.string l[k])) (hc : l.length ≤ cap) (hm : cap ≤ maxLen) : Rep G (.slice 1 (l.map fun x => [vstr x])) (.slice (some ⟨b, 0, none⟩) l.length cap) := by
  have e := Rep.slice (G := G) 1 (l.map fun x => [vstr x]) b 0 cap (fun k => .string (l.getD k ByteArray.empty)) (fun cs hcs => by
    obtain ⟨x, _, rfl⟩ := List.mem_map.1 hcs; rfl) (by simpa using hc) hm (fun k hk => by
    simp only [List.length_map, Nat.mul_one] at hk
    rw [Nat.zero_add, hF k hk]; simp [List.getD_eq_getElem?_getD, hk]) (fun i j cs c hi hj => by
    rw [List.getElem?_map] at hi
    cases hx : l[i]? with
    | none => rw [hx] at hi; cases hi
    | some x =>
      rw [hx] at hi; cases hi
      cases j with
      | succ j => cases hj
      | zero =>
        cases hj
        simp only [Nat.mul_one, Nat.add_zero, List.getD_eq_getElem?_getD, hx, Option.getD_some]
        exact .base _) (fun k hk => rfl)
  simpa using e
def n157 (x0 x1 : ByteArray) : Option (List ByteArray) := need (x0.size < 4294967281 ∧ 1 ≤ x1.size ∧ (Lib.splitB x1 0 (Lib.countB x0 x1) x0).length = Lib.countB x0 x1 + 1 ∧ Lib.countB x0 x1 + 1 ≤ maxLen) (some (Lib.splitB x1 0 (Lib.countB x0 x1) x0))
theorem N157 (x0 : ByteArray) (x1 : ByteArray) (r : (List ByteArray)) (h : n157 x0 x1 = some r) : Gives Tryz.prog 157 [vstr x0, vstr x1] (.slice 1 (List.map (fun x => [vstr x]) r)) := by
  unfold n157 at h
  obtain ⟨⟨h1, h2, h3, h4⟩, h⟩ := need_some h
  cases h
  intro s
  refine ⟨⟨_, Tryz.func157, rfl, by decide⟩, fun G w cargs hh hargs => ?_⟩
  obtain rfl : cargs = #[.string x0, .string x1] := by rw [← Array.toList_inj]; exact repL_base (vs := [.string x0, .string x1]) hargs
  obtain ⟨m, hm⟩ := hh.tab w hh.frz
  refine (Tryz.strings_Split x0 x1 m w h1 hm h2).mono ?_
  rintro e w' ⟨rfl, rfl⟩
  generalize hcc : ((Lib.splitB x1 0 (Lib.countB x0 x1) x0).map Value.string).toArray = ccs
  have hF : ∀ o, G.F w.heap.size o = none := fun o => by
    cases hx : G.F w.heap.size o with
    | none => rfl
    | some v => have := hh.frz_lt (b := w.heap.size) (o := o) (by rw [hx]; simp); omega
  have hf : ¬ foot G s w.heap.size := fun hf => by have := hh.foot_lt hf; omega
  have hma := More.alloc w (.cells ccs 9)
  refine ⟨G.freeze w.heap.size ccs, s, _, _, rfl, ?_, ?_, (hh.more hma).freeze (heap_alloc_new w _) hf hF, rfl, rfl⟩
  · rw [← h3]
    refine rep_texts (fun k hk => ?_) (Nat.le_refl _) (by rw [h3]; exact h4)
    simp [Ghost.freeze, ← hcc, hk]
  · refine ⟨Ghost.freeze_le ccs hF, hma.size, hma.os, hma.tape, hma.output, fun b hb _ => hma.keep b hb, fun b hb => .inl hb, fun b o hb => ?_, fun _ h => .inl h⟩
    by_cases e' : b = w.heap.size
    · exact .inr (.inr (by omega))
    · simp [Ghost.freeze, e'] at hb; exact .inl hb
end Go.Proofs.YtopgndakadileaaGreatDoor.Ex
