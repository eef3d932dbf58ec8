/- Same: are two values one? -/
import Derived.Test.YtdgoilofkgdaoaaGreatDoorE5
import Derived.Test.YtdgoilofkgdaoaaGreatDoorE1
set_option linter.unusedVariables false
set_option linter.unusedSimpArgs false
set_option maxRecDepth 100000
set_option maxHeartbeats 4000000
namespace Go.Proofs.YtdgoilofkgdaoaaGreatDoor.Ex
open Go.Am Go.Ex Go.Proofs.YtdgoilofkgdaoaaGreatDoor
theorem value_same (x y : XValue) : (eqb x.kind y.kind && (eqb x.int y.int && eqb x.text y.text)) = eqb x y := eqb_of (by
 cases x; cases y
 simp only [Bool.and_eq_true, eqb_iff, XValue.mk.injEq])
theorem cols_le (t : XCte) : t.cols.length ≤ XCte.w t := by
 have := length_le_sum (fun z : ByteArray => (z.size + 1)) (fun _ => Nat.le_add_left _ _) t.cols
 rw [XCte.w_eq]; omega
end Go.Proofs.YtdgoilofkgdaoaaGreatDoor.Ex
namespace Go.Proofs.YtdgoilofkgdaoaaGreatDoor.Ex
open Go.Am Go.Ex Go.Proofs.YtdgoilofkgdaoaaGreatDoor
theorem s30_eq (l m : List ByteArray) (hl : l.length ≤ 4611686018427387000) : s30 l m = some (eqb l m) := by
 have h := list_same (fun x y => some (x.data.toList == y.data.toList)) ByteArray.empty l m hl (fun x _ y => by rw [beq_text])
 exact h
theorem lenb (a b : Nat) : (((a : Int)) != ((b : Int))) = !decide (a = b) := by
 by_cases h : a = b
 ·subst h; simp
 ·have : ¬ ((a : Int) = (b : Int)) := by omega
  simp [h]; exact this
theorem dec_lt {i n : Nat} (h : i < n) : decide ((i : Int) < ((n : Nat) : Int)) = true := by simp; exact h
theorem dec_self (n : Nat) : decide (((n : Nat) : Int) < ((n : Nat) : Int)) = false := by simp
theorem loop_eqb {α β : Type} (z : α) {l m : List α} (heq : l.length = m.length) (hl : l.length ≤ 4611686018427387000) {b : (Int → Option β) → Int → Option β} {N : Option β}
  (hb : ∀ k (i : Nat), i < l.length → b k (i : Int) = if eqb (l.getD i z) (m.getD i z) = true then k ((i + 1 : Nat) : Int) else N) (he : ∀ k, b k ((l.length : Nat) : Int) = b (fun _ => none) ((l.length : Nat) : Int)) : loopC b manyC 0 = if eqb l m = true then b (fun _ => none) ((l.length : Nat) : Int) else N := by
 rw [loop_to hl (fun i => eqb (l.getD i z) (m.getD i z)) hb he, all_eqb z heq]
theorem getD_mem {α : Type} {l : List α} {i : Nat} (z : α) (h : i < l.length) : l.getD i z ∈ l := by
 rw [List.getD_eq_getElem?_getD, List.getElem?_eq_getElem h]; exact List.getElem_mem h
theorem cte_same (x y : XCte) : (eqb x.name y.name && (eqb x.cols y.cols && eqb x.body y.body)) = eqb x y := eqb_of (by
 cases x; cases y; simp only [Bool.and_eq_true, eqb_iff, XCte.mk.injEq])
theorem sort_same (x y : XSort) : (eqb x.desc_ y.desc_ && eqb x.expr y.expr) = eqb x y := eqb_of (by
 cases x; cases y; simp only [Bool.and_eq_true, eqb_iff, XSort.mk.injEq]; exact And.comm)
theorem item_same (x y : XItem) : (eqb x.star y.star && (eqb x.table y.table && (eqb x.as y.as && eqb x.expr y.expr))) = eqb x y := eqb_of (by
 cases x; cases y; simp only [Bool.and_eq_true, eqb_iff, XItem.mk.injEq]; constructor <;> intro hh <;> simp_all)
theorem source_same (x y : XSource) : (eqb x.join y.join && (eqb x.name y.name && (eqb x.as y.as && (eqb x.sub y.sub && eqb x.on y.on)))) = eqb x y := eqb_of (by
 cases x; cases y; simp only [Bool.and_eq_true, eqb_iff, XSource.mk.injEq]; constructor <;> intro hh <;> simp_all)
structure RefOk (F : F101_) (n : Nat) : Prop where
 e : ∀ x y, 2 * XExpr.w x < n → F.p8 x y = some (eqb x y)
 q : ∀ x y, 2 * XSelect.w x < n → F.p62 x y = some (eqb x y)
 part : ∀ x y, 2 * XPart.w x < n → F.p101 x y = some (eqb x y)
 el : ∀ (l m : List XExpr), 2 * (1 + (l.map XExpr.w).sum) < n → F.p18 l m = some (eqb l m)
 ql : ∀ (l m : List XSelect), 2 * (1 + (l.map XSelect.w).sum) < n → F.p19 l m = some (eqb l m)
theorem ref_e {F : F101_} {n : Nat} (ih : RefOk F n) (hn : n + 1 ≤ manyC) (x y : XExpr) (h : 2 * XExpr.w x < n + 1) : b8 F x y = some (eqb x y) := by
 have hw := XExpr.w_eq x
 unfold b8
 rw [join_of]
 simp only [ih.el x.args y.args (by omega), ih.ql x.sub y.sub (by omega), call_of, way_and, beq_text, beq_int, beq_bool, value_same]
 refine congrArg some (eqb_of ?_)
 cases x; cases y
 simp only [Bool.and_eq_true, eqb_iff, XExpr.mk.injEq]
theorem ref_el {F : F101_} {n : Nat} (ih : RefOk F n) (hn : n + 1 ≤ manyC) (l m : List XExpr) (h : 2 * (1 + (l.map XExpr.w).sum) < n + 1) : b18 F l m = some (eqb l m) := by
 unfold b18
 exact list_same F.p8 XExpr.z l m (by have := length_le_sum XExpr.w XExpr.w_pos l; unfold manyC at hn; omega) fun x hx y => ih.e x y (by have := mem_le_sum XExpr.w hx; omega)
theorem ref_ql {F : F101_} {n : Nat} (ih : RefOk F n) (hn : n + 1 ≤ manyC) (l m : List XSelect) (h : 2 * (1 + (l.map XSelect.w).sum) < n + 1) : b19 F l m = some (eqb l m) := by
 unfold b19
 exact list_same F.p62 XSelect.z l m (by have := length_le_sum XSelect.w XSelect.w_pos l; unfold manyC at hn; omega) fun x hx y => ih.q x y (by have := mem_le_sum XSelect.w hx; omega)
theorem ref_q {F : F101_} {n : Nat} (ih : RefOk F n) (hn : n + 1 ≤ manyC) (x y : XSelect) (h : 2 * XSelect.w x < n + 1) : b62 F x y = some (eqb x y) := by
 have hw := XSelect.w_eq x
 have hc := length_le_sum XCte.w XCte.w_pos x.with_
 have hp := length_le_sum XPart.w XPart.w_pos x.parts
 have ho := length_le_sum XSort.w XSort.w_pos x.order
 unfold manyC at hn
 have hx : (eqb x.with_ y.with_ && (eqb x.parts y.parts && (eqb x.order y.order && (eqb x.limit y.limit && eqb x.offset y.offset)))) = eqb x y := eqb_of (by cases x; cases y; simp only [Bool.and_eq_true, eqb_iff, XSelect.mk.injEq])
 unfold b62
 rw [join_of, ← hx]
 simp only [ih.el x.limit y.limit (by omega), ih.el x.offset y.offset (by omega), call_of, lenb]
 by_cases h1 : x.with_.length = y.with_.length
 rotate_left
 ·rw [decide_eq_false h1, Bool.not_false, way_tt, way_tt, eqb_len h1]; rfl
 rw [decide_eq_true h1, Bool.not_true, way_ff]
 by_cases h2 : x.parts.length = y.parts.length
 rotate_left
 ·rw [decide_eq_false h2, Bool.not_false, way_tt, way_tt, eqb_len h2]; simp
 rw [decide_eq_true h2, Bool.not_true, way_ff]
 by_cases h3 : x.order.length = y.order.length
 rotate_left
 ·rw [decide_eq_false h3, Bool.not_false, way_tt, way_tt, eqb_len h3]; simp
 rw [decide_eq_true h3, Bool.not_true, way_ff]
 cases eqb x.limit y.limit with
 | false => rw [Bool.not_false, way_tt, way_tt]; simp
 | true =>
 rw [Bool.not_true, way_ff]
 cases eqb x.offset y.offset with
 | false => rw [Bool.not_false, way_tt]; simp
 | true =>
 rw [Bool.not_true, way_ff]
 refine (loop_eqb XCte.z h1 (by omega) (N := some false) (fun k i hi => ?_) (fun k => by rw [dec_self]; rfl)).trans ?_
 rotate_left
 ·rw [dec_self, way_ff]
  cases eqb x.with_ y.with_ with
  | false => rfl
  | true =>
  rw [if_pos rfl]
  refine (loop_eqb XPart.z h2 (by omega) (N := some false) (fun k i hi => ?_) (fun k => by rw [dec_self]; rfl)).trans ?_
  rotate_left
  ·rw [dec_self, way_ff]
   cases eqb x.parts y.parts with
   | false => rfl
   | true =>
   rw [if_pos rfl]
   refine (loop_eqb XSort.z h3 (by omega) (N := some false) (fun k i hi => ?_) (fun k => by rw [dec_self]; rfl)).trans ?_
   rotate_left
   ·rw [dec_self, way_ff]
    cases eqb x.order y.order <;> rfl
   ·rw [dec_lt hi, way_tt, join_of, need_t (by omega), need_t (by omega), need_t (by omega), need_t (by omega), Int.toNat_natCast, wrap_succ hi (by omega)]
    have hm := mem_le_sum XSort.w (getD_mem XSort.z hi)
    have hsw := XSort.w_eq (x.order.getD i XSort.z)
    rw [ih.e _ _ (by omega), call_of, ← sort_same, beq_bool]
    cases eqb (x.order.getD i XSort.z).desc_ (y.order.getD i XSort.z).desc_ <;> cases eqb (x.order.getD i XSort.z).expr (y.order.getD i XSort.z).expr <;> rfl
  ·have hm := mem_le_sum XPart.w (getD_mem XPart.z hi)
   rw [dec_lt hi, way_tt, need_t (by omega), need_t (by omega), Int.toNat_natCast, wrap_succ hi (by omega), ih.part _ _ (by omega), call_of]
   cases eqb (x.parts.getD i XPart.z) (y.parts.getD i XPart.z) <;> rfl
 ·have hm := mem_le_sum XCte.w (getD_mem XCte.z hi)
  have hsw := XCte.w_eq (x.with_.getD i XCte.z)
  have hcl := cols_le (x.with_.getD i XCte.z)
  rw [dec_lt hi, way_tt, need_t (by omega), need_t (by omega), join_of, Int.toNat_natCast, wrap_succ hi (by omega), s30_eq _ _ (by omega), call_of, ih.ql _ _ (by omega), call_of, ← cte_same, beq_text]
  cases eqb (x.with_.getD i XCte.z).name (y.with_.getD i XCte.z).name <;> cases eqb (x.with_.getD i XCte.z).cols (y.with_.getD i XCte.z).cols <;> cases eqb (x.with_.getD i XCte.z).body (y.with_.getD i XCte.z).body <;> rfl
theorem ref_part {F : F101_} {n : Nat} (ih : RefOk F n) (hn : n + 1 ≤ manyC) (x y : XPart) (h : 2 * XPart.w x < n + 1) : b101 F x y = some (eqb x y) := by
 have hw := XPart.w_eq x
 have hc := length_le_sum XItem.w XItem.w_pos x.items
 have hp := length_le_sum XSource.w XSource.w_pos x.from_
 have ho := length_le_sum (fun z : List XExpr => (1 + (z.map XExpr.w).sum)) (fun _ => Nat.le_add_right _ _) x.values
 unfold manyC at hn
 have hx : (eqb x.comp y.comp && (eqb x.distinct y.distinct && (eqb x.items y.items && (eqb x.from_ y.from_ && (eqb x.values y.values && (eqb x.where_ y.where_ && (eqb x.group y.group && eqb x.having y.having))))))) = eqb x y := eqb_of (by cases x; cases y; simp only [Bool.and_eq_true, eqb_iff, XPart.mk.injEq]; constructor <;> intro hh <;> simp_all)
 unfold b101
 rw [join_of, ← hx]
 simp only [ih.el x.where_ y.where_ (by omega), ih.el x.group y.group (by omega), ih.el x.having y.having (by omega), call_of, lenb]
 simp only [bne_int, beq_bool]
 cases eqb x.comp y.comp with
 | false => rw [Bool.not_false, way_tt, way_tt]; simp
 | true =>
 rw [Bool.not_true, way_ff]
 cases eqb x.distinct y.distinct with
 | false => rw [Bool.not_false, way_tt, way_tt]; simp
 | true =>
 rw [Bool.not_true, way_ff]
 by_cases h1 : x.items.length = y.items.length
 rotate_left
 ·rw [decide_eq_false h1, Bool.not_false, way_tt, way_tt, eqb_len h1]; simp
 rw [decide_eq_true h1, Bool.not_true, way_ff]
 by_cases h2 : x.from_.length = y.from_.length
 rotate_left
 ·rw [decide_eq_false h2, Bool.not_false, way_tt, way_tt, eqb_len h2]; simp
 rw [decide_eq_true h2, Bool.not_true, way_ff]
 by_cases h3 : x.values.length = y.values.length
 rotate_left
 ·rw [decide_eq_false h3, Bool.not_false, way_tt, eqb_len h3]; simp
 rw [decide_eq_true h3, Bool.not_true, way_ff]
 refine (loop_eqb XItem.z h1 (by omega) (N := some false) (fun k i hi => ?_) (fun k => by rw [dec_self]; rfl)).trans ?_
 rotate_left
 ·rw [dec_self, way_ff]
  cases eqb x.items y.items with
  | false => rfl
  | true =>
  rw [if_pos rfl]
  refine (loop_eqb XSource.z h2 (by omega) (N := some false) (fun k i hi => ?_) (fun k => by rw [dec_self]; rfl)).trans ?_
  rotate_left
  ·rw [dec_self, way_ff]
   cases eqb x.from_ y.from_ with
   | false => rfl
   | true =>
   rw [if_pos rfl]
   refine (loop_eqb ([] : List XExpr) h3 (by omega) (N := some false) (fun k i hi => ?_) (fun k => by rw [dec_self]; rfl)).trans ?_
   rotate_left
   ·rw [dec_self, way_ff, join_of]
    simp only [way_and]
    cases eqb x.values y.values <;> rfl
   ·have hm := mem_le_sum (fun z : List XExpr => (1 + (z.map XExpr.w).sum)) (getD_mem ([] : List XExpr) hi)
    rw [dec_lt hi, way_tt, need_t (by omega), need_t (by omega), Int.toNat_natCast, wrap_succ hi (by omega), ih.el _ _ (by (try simp only at hm); omega), call_of]
    cases eqb (x.values.getD i []) (y.values.getD i []) <;> rfl
  ·have hm := mem_le_sum XSource.w (getD_mem XSource.z hi)
   have hsw := XSource.w_eq (x.from_.getD i XSource.z)
   rw [dec_lt hi, way_tt, need_t (by omega), need_t (by omega), join_of, Int.toNat_natCast, wrap_succ hi (by omega), ih.ql _ _ (by omega), call_of, ih.el _ _ (by omega), call_of, ← source_same]
   simp only [beq_text]
   cases eqb (x.from_.getD i XSource.z).join (y.from_.getD i XSource.z).join <;> cases eqb (x.from_.getD i XSource.z).name (y.from_.getD i XSource.z).name <;> cases eqb (x.from_.getD i XSource.z).as (y.from_.getD i XSource.z).as <;> cases eqb (x.from_.getD i XSource.z).sub (y.from_.getD i XSource.z).sub <;> cases eqb (x.from_.getD i XSource.z).on (y.from_.getD i XSource.z).on <;> rfl
 ·have hm := mem_le_sum XItem.w (getD_mem XItem.z hi)
  have hsw := XItem.w_eq (x.items.getD i XItem.z)
  rw [dec_lt hi, way_tt, need_t (by omega), need_t (by omega), join_of, Int.toNat_natCast, wrap_succ hi (by omega), ih.el _ _ (by omega), call_of, ← item_same]
  simp only [beq_text]
  cases eqb (x.items.getD i XItem.z).star (y.items.getD i XItem.z).star <;> cases eqb (x.items.getD i XItem.z).table (y.items.getD i XItem.z).table <;> cases eqb (x.items.getD i XItem.z).as (y.items.getD i XItem.z).as <;> cases eqb (x.items.getD i XItem.z).expr (y.items.getD i XItem.z).expr <;> rfl
theorem refOk : ∀ n, n ≤ manyC → RefOk (F101_.fix n) n
 | 0, _ => ⟨fun _ _ h => absurd h (Nat.not_lt_zero _), fun _ _ h => absurd h (Nat.not_lt_zero _), fun _ _ h => absurd h (Nat.not_lt_zero _), fun _ _ h => absurd h (Nat.not_lt_zero _), fun _ _ h => absurd h (Nat.not_lt_zero _)⟩
 | n + 1, hn =>
  have ih := refOk n (Nat.le_of_succ_le hn)
  ⟨ref_e ih hn, ref_q ih hn, ref_part ih hn, ref_el ih hn, ref_ql ih hn⟩
theorem s8_eq (x y : XExpr) (h : 2 * XExpr.w x < manyC) : s8 x y = some (eqb x y) := (refOk manyC (Nat.le_refl _)).e x y h
end Go.Proofs.YtdgoilofkgdaoaaGreatDoor.Ex
