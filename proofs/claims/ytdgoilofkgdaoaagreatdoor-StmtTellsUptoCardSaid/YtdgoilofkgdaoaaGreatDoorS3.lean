/- Same: are two values one? -/
import Derived.Test.YtdgoilofkgdaoaaGreatDoorS5
import Derived.Test.YtdgoilofkgdaoaaGreatDoorS1
import Derived.Test.YtdgoilofkgdaoaaGreatDoorS2
set_option linter.unusedVariables false
set_option linter.unusedSimpArgs false
set_option maxRecDepth 100000
set_option maxHeartbeats 4000000
namespace Go.Proofs.YtdgoilofkgdaoaaGreatDoor.Ex
open Go.Am Go.Ex Go.Proofs.YtdgoilofkgdaoaaGreatDoor
theorem value_same (x y : XValue) : (eqb x.kind y.kind && (eqb x.int y.int && eqb x.text y.text)) = eqb x y := eqb_of (by
 cases x; cases y
 simp only [Bool.and_eq_true, eqb_iff, XValue.mk.injEq])
theorem cols_le (t : XCte) : t.cols.length ≤ XCte.w t := by
 have := length_le_sum (fun z : ByteArray => (z.size + 1)) (fun _ => Nat.le_add_left _ _) t.cols
 rw [XCte.w_eq]; omega
theorem s20_eq (l m : List ByteArray) (hl : l.length ≤ 4611686018427387000) : s20 l m = some (eqb l m) := by
 have h := list_same (fun x y => some (x.data.toList == y.data.toList)) ByteArray.empty l m hl (fun x _ y => by rw [beq_text])
 exact h
structure SameOk (F : F102_1_) (n : Nat) : Prop where
 e : ∀ x y, 2 * XExpr.w x < n → F.p26 x y = some (eqb x y)
 q : ∀ x y, 2 * XSelect.w x < n → F.p29 x y = some (eqb x y)
 item : ∀ x y, 2 * XItem.w x < n → F.p103 x y = some (eqb x y)
 src : ∀ x y, 2 * XSource.w x < n → F.p105 x y = some (eqb x y)
 cte : ∀ x y, 2 * XCte.w x < n → F.p64 x y = some (eqb x y)
 part : ∀ x y, 2 * XPart.w x < n → F.p66 x y = some (eqb x y)
 sort : ∀ x y, 2 * XSort.w x < n → F.p68 x y = some (eqb x y)
 row : ∀ (x y : List XExpr), 2 * (1 + (x.map XExpr.w).sum) + 1 < n → F.p107 x y = some (eqb x y)
 el : ∀ (l m : List XExpr), 2 * (1 + (l.map XExpr.w).sum) < n → F.p27_1 l m = some (eqb l m)
 ql : ∀ (l m : List XSelect), 2 * (1 + (l.map XSelect.w).sum) < n → F.p28_1 l m = some (eqb l m)
 il : ∀ (l m : List XItem), 2 * (1 + (l.map XItem.w).sum) < n → F.p102_1 l m = some (eqb l m)
 sl : ∀ (l m : List XSource), 2 * (1 + (l.map XSource.w).sum) < n → F.p104_1 l m = some (eqb l m)
 cl : ∀ (l m : List XCte), 2 * (1 + (l.map XCte.w).sum) < n → F.p63_1 l m = some (eqb l m)
 pl : ∀ (l m : List XPart), 2 * (1 + (l.map XPart.w).sum) < n → F.p65_1 l m = some (eqb l m)
 ol : ∀ (l m : List XSort), 2 * (1 + (l.map XSort.w).sum) < n → F.p67_1 l m = some (eqb l m)
 rl : ∀ (l m : List (List XExpr)), 2 * (1 + (l.map (fun z : List XExpr => (1 + (z.map XExpr.w).sum))).sum) < n → F.p106_1 l m = some (eqb l m)
theorem same_e {F : F102_1_} {n : Nat} (ih : SameOk F n) (hn : n + 1 ≤ manyC) (x y : XExpr) (h : 2 * XExpr.w x < n + 1) : b26 F x y = some (eqb x y) := by
 have hw := XExpr.w_eq x
 unfold b26
 rw [join_of]
 simp only [ih.el x.args y.args (by omega), ih.ql x.sub y.sub (by omega), call_of, way_and, beq_text, beq_int, beq_bool, value_same]
 refine congrArg some (eqb_of ?_)
 cases x; cases y
 simp only [Bool.and_eq_true, eqb_iff, XExpr.mk.injEq]
 try (constructor <;> intro hh <;> simp_all)
theorem same_q {F : F102_1_} {n : Nat} (ih : SameOk F n) (hn : n + 1 ≤ manyC) (x y : XSelect) (h : 2 * XSelect.w x < n + 1) : b29 F x y = some (eqb x y) := by
 have hw := XSelect.w_eq x
 unfold b29
 rw [join_of]
 simp only [ih.cl x.with_ y.with_ (by omega), ih.pl x.parts y.parts (by omega), ih.ol x.order y.order (by omega), ih.el x.limit y.limit (by omega), ih.el x.offset y.offset (by omega), call_of, way_and, beq_text, beq_int, beq_bool, value_same]
 refine congrArg some (eqb_of ?_)
 cases x; cases y
 simp only [Bool.and_eq_true, eqb_iff, XSelect.mk.injEq]
 try (constructor <;> intro hh <;> simp_all)
theorem same_item {F : F102_1_} {n : Nat} (ih : SameOk F n) (hn : n + 1 ≤ manyC) (x y : XItem) (h : 2 * XItem.w x < n + 1) : b103 F x y = some (eqb x y) := by
 have hw := XItem.w_eq x
 unfold b103
 rw [join_of]
 simp only [ih.el x.expr y.expr (by omega), call_of, way_and, beq_text, beq_int, beq_bool, value_same]
 refine congrArg some (eqb_of ?_)
 cases x; cases y
 simp only [Bool.and_eq_true, eqb_iff, XItem.mk.injEq]
 try (constructor <;> intro hh <;> simp_all)
theorem same_src {F : F102_1_} {n : Nat} (ih : SameOk F n) (hn : n + 1 ≤ manyC) (x y : XSource) (h : 2 * XSource.w x < n + 1) : b105 F x y = some (eqb x y) := by
 have hw := XSource.w_eq x
 unfold b105
 rw [join_of]
 simp only [ih.ql x.sub y.sub (by omega), ih.el x.on y.on (by omega), call_of, way_and, beq_text, beq_int, beq_bool, value_same]
 refine congrArg some (eqb_of ?_)
 cases x; cases y
 simp only [Bool.and_eq_true, eqb_iff, XSource.mk.injEq]
 try (constructor <;> intro hh <;> simp_all)
theorem same_cte {F : F102_1_} {n : Nat} (ih : SameOk F n) (hn : n + 1 ≤ manyC) (x y : XCte) (h : 2 * XCte.w x < n + 1) : b64 F x y = some (eqb x y) := by
 have hw := XCte.w_eq x
 unfold b64
 rw [join_of]
 simp only [s20_eq x.cols y.cols (by have := cols_le x; unfold manyC at hn; omega), ih.ql x.body y.body (by omega), call_of, way_and, beq_text, beq_int, beq_bool, value_same]
 refine congrArg some (eqb_of ?_)
 cases x; cases y
 simp only [Bool.and_eq_true, eqb_iff, XCte.mk.injEq]
 try (constructor <;> intro hh <;> simp_all)
theorem same_part {F : F102_1_} {n : Nat} (ih : SameOk F n) (hn : n + 1 ≤ manyC) (x y : XPart) (h : 2 * XPart.w x < n + 1) : b66 F x y = some (eqb x y) := by
 have hw := XPart.w_eq x
 unfold b66
 rw [join_of]
 simp only [ih.il x.items y.items (by omega), ih.sl x.from_ y.from_ (by omega), ih.el x.where_ y.where_ (by omega), ih.el x.group y.group (by omega), ih.el x.having y.having (by omega), ih.rl x.values y.values (by omega), call_of, way_and, beq_text, beq_int, beq_bool, value_same]
 refine congrArg some (eqb_of ?_)
 cases x; cases y
 simp only [Bool.and_eq_true, eqb_iff, XPart.mk.injEq]
 try (constructor <;> intro hh <;> simp_all)
theorem same_sort {F : F102_1_} {n : Nat} (ih : SameOk F n) (hn : n + 1 ≤ manyC) (x y : XSort) (h : 2 * XSort.w x < n + 1) : b68 F x y = some (eqb x y) := by
 have hw := XSort.w_eq x
 unfold b68
 rw [join_of]
 simp only [ih.e x.expr y.expr (by omega), call_of, way_and, beq_text, beq_int, beq_bool, value_same]
 refine congrArg some (eqb_of ?_)
 cases x; cases y
 simp only [Bool.and_eq_true, eqb_iff, XSort.mk.injEq]
 try (constructor <;> intro hh <;> simp_all)
theorem same_row {F : F102_1_} {n : Nat} (ih : SameOk F n) (x y : List XExpr) (h : 2 * (1 + (x.map XExpr.w).sum) + 1 < n + 1) : b107 F x y = some (eqb x y) := by
 unfold b107
 rw [ih.el x y (by omega), call_of]
theorem same_el {F : F102_1_} {n : Nat} (ih : SameOk F n) (hn : n + 1 ≤ manyC) (l m : List XExpr) (h : 2 * (1 + (l.map XExpr.w).sum) < n + 1) : b27_1 F l m = some (eqb l m) := by
 unfold b27_1
 exact list_same F.p26 XExpr.z l m (by have := length_le_sum XExpr.w XExpr.w_pos l; unfold manyC at hn; omega) fun x hx y => ih.e x y (by have := mem_le_sum XExpr.w hx; omega)
theorem same_ql {F : F102_1_} {n : Nat} (ih : SameOk F n) (hn : n + 1 ≤ manyC) (l m : List XSelect) (h : 2 * (1 + (l.map XSelect.w).sum) < n + 1) : b28_1 F l m = some (eqb l m) := by
 unfold b28_1
 exact list_same F.p29 XSelect.z l m (by have := length_le_sum XSelect.w XSelect.w_pos l; unfold manyC at hn; omega) fun x hx y => ih.q x y (by have := mem_le_sum XSelect.w hx; omega)
theorem same_il {F : F102_1_} {n : Nat} (ih : SameOk F n) (hn : n + 1 ≤ manyC) (l m : List XItem) (h : 2 * (1 + (l.map XItem.w).sum) < n + 1) : b102_1 F l m = some (eqb l m) := by
 unfold b102_1
 exact list_same F.p103 XItem.z l m (by have := length_le_sum XItem.w XItem.w_pos l; unfold manyC at hn; omega) fun x hx y => ih.item x y (by have := mem_le_sum XItem.w hx; omega)
theorem same_sl {F : F102_1_} {n : Nat} (ih : SameOk F n) (hn : n + 1 ≤ manyC) (l m : List XSource) (h : 2 * (1 + (l.map XSource.w).sum) < n + 1) : b104_1 F l m = some (eqb l m) := by
 unfold b104_1
 exact list_same F.p105 XSource.z l m (by have := length_le_sum XSource.w XSource.w_pos l; unfold manyC at hn; omega) fun x hx y => ih.src x y (by have := mem_le_sum XSource.w hx; omega)
theorem same_cl {F : F102_1_} {n : Nat} (ih : SameOk F n) (hn : n + 1 ≤ manyC) (l m : List XCte) (h : 2 * (1 + (l.map XCte.w).sum) < n + 1) : b63_1 F l m = some (eqb l m) := by
 unfold b63_1
 exact list_same F.p64 XCte.z l m (by have := length_le_sum XCte.w XCte.w_pos l; unfold manyC at hn; omega) fun x hx y => ih.cte x y (by have := mem_le_sum XCte.w hx; omega)
theorem same_pl {F : F102_1_} {n : Nat} (ih : SameOk F n) (hn : n + 1 ≤ manyC) (l m : List XPart) (h : 2 * (1 + (l.map XPart.w).sum) < n + 1) : b65_1 F l m = some (eqb l m) := by
 unfold b65_1
 exact list_same F.p66 XPart.z l m (by have := length_le_sum XPart.w XPart.w_pos l; unfold manyC at hn; omega) fun x hx y => ih.part x y (by have := mem_le_sum XPart.w hx; omega)
theorem same_ol {F : F102_1_} {n : Nat} (ih : SameOk F n) (hn : n + 1 ≤ manyC) (l m : List XSort) (h : 2 * (1 + (l.map XSort.w).sum) < n + 1) : b67_1 F l m = some (eqb l m) := by
 unfold b67_1
 exact list_same F.p68 XSort.z l m (by have := length_le_sum XSort.w XSort.w_pos l; unfold manyC at hn; omega) fun x hx y => ih.sort x y (by have := mem_le_sum XSort.w hx; omega)
theorem same_rl {F : F102_1_} {n : Nat} (ih : SameOk F n) (hn : n + 1 ≤ manyC) (l m : List (List XExpr)) (h : 2 * (1 + (l.map (fun z : List XExpr => (1 + (z.map XExpr.w).sum))).sum) < n + 1) : b106_1 F l m = some (eqb l m) := by
 unfold b106_1
 exact list_same F.p107 [] l m (by have := length_le_sum (fun z : List XExpr => (1 + (z.map XExpr.w).sum)) (fun _ => Nat.le_add_right _ _) l; unfold manyC at hn; omega) fun x hx y => ih.row x y (by have := mem_le_sum (fun z : List XExpr => (1 + (z.map XExpr.w).sum)) hx; (try simp only at this); omega)
theorem sameOk : ∀ n, n ≤ manyC → SameOk (F102_1_.fix n) n
 | 0, _ => ⟨fun _ _ h => absurd h (Nat.not_lt_zero _), fun _ _ h => absurd h (Nat.not_lt_zero _), fun _ _ h => absurd h (Nat.not_lt_zero _), fun _ _ h => absurd h (Nat.not_lt_zero _), fun _ _ h => absurd h (Nat.not_lt_zero _), fun _ _ h => absurd h (Nat.not_lt_zero _), fun _ _ h => absurd h (Nat.not_lt_zero _), fun _ _ h => absurd h (Nat.not_lt_zero _), fun _ _ h => absurd h (Nat.not_lt_zero _), fun _ _ h => absurd h (Nat.not_lt_zero _), fun _ _ h => absurd h (Nat.not_lt_zero _), fun _ _ h => absurd h (Nat.not_lt_zero _), fun _ _ h => absurd h (Nat.not_lt_zero _), fun _ _ h => absurd h (Nat.not_lt_zero _), fun _ _ h => absurd h (Nat.not_lt_zero _), fun _ _ h => absurd h (Nat.not_lt_zero _)⟩
 | n + 1, hn =>
  have ih := sameOk n (Nat.le_of_succ_le hn)
  ⟨same_e ih hn, same_q ih hn, same_item ih hn, same_src ih hn, same_cte ih hn, same_part ih hn, same_sort ih hn, same_row ih, same_el ih hn, same_ql ih hn, same_il ih hn, same_sl ih hn, same_cl ih hn, same_pl ih hn, same_ol ih hn, same_rl ih hn⟩
theorem s26_eq (x y : XExpr) (h : 2 * XExpr.w x < manyC) : s26 x y = some (eqb x y) := (sameOk manyC (Nat.le_refl _)).e x y h
end Go.Proofs.YtdgoilofkgdaoaaGreatDoor.Ex
namespace Go.Proofs.YtdgoilofkgdaoaaGreatDoor.Ex
open Go.Am Go.Ex Go.Proofs.YtdgoilofkgdaoaaGreatDoor
theorem s30_eq (l m : List ByteArray) (hl : l.length ≤ 4611686018427387000) : s30 l m = some (eqb l m) := by
 have h := list_same (fun x y => some (x.data.toList == y.data.toList)) ByteArray.empty l m hl (fun x _ y => by rw [beq_text])
 exact h
theorem lenb (a b : Nat) : (((a : Int)) != ((b : Int))) = !decide (a = b) := by
 by_cases h : a = b
 ·subst h; simp
 ·have : ¬ ((a : Int) = (b : Int)) := by omega
  simp [h]; exact this
theorem dec_lt {i n : Nat} (h : i < n) : decide ((i : Int) < ((n : Nat) : Int)) = true := by simp; exact h
theorem dec_self (n : Nat) : decide (((n : Nat) : Int) < ((n : Nat) : Int)) = false := by simp
theorem loop_eqb {α β : Type} (z : α) {l m : List α} (heq : l.length = m.length) (hl : l.length ≤ 4611686018427387000) {b : (Int → Option β) → Int → Option β} {N : Option β}
  (hb : ∀ k (i : Nat), i < l.length → b k (i : Int) = if eqb (l.getD i z) (m.getD i z) = true then k ((i + 1 : Nat) : Int) else N) (he : ∀ k, b k ((l.length : Nat) : Int) = b (fun _ => none) ((l.length : Nat) : Int)) : loopC b manyC 0 = if eqb l m = true then b (fun _ => none) ((l.length : Nat) : Int) else N := by
 rw [loop_to hl (fun i => eqb (l.getD i z) (m.getD i z)) hb he, all_eqb z heq]
theorem getD_mem {α : Type} {l : List α} {i : Nat} (z : α) (h : i < l.length) : l.getD i z ∈ l := by
 rw [List.getD_eq_getElem?_getD, List.getElem?_eq_getElem h]; exact List.getElem_mem h
theorem cte_same (x y : XCte) : (eqb x.name y.name && (eqb x.cols y.cols && eqb x.body y.body)) = eqb x y := eqb_of (by
 cases x; cases y; simp only [Bool.and_eq_true, eqb_iff, XCte.mk.injEq])
theorem sort_same (x y : XSort) : (eqb x.desc_ y.desc_ && eqb x.expr y.expr) = eqb x y := eqb_of (by
 cases x; cases y; simp only [Bool.and_eq_true, eqb_iff, XSort.mk.injEq]; exact And.comm)
theorem item_same (x y : XItem) : (eqb x.star y.star && (eqb x.table y.table && (eqb x.as y.as && eqb x.expr y.expr))) = eqb x y := eqb_of (by
 cases x; cases y; simp only [Bool.and_eq_true, eqb_iff, XItem.mk.injEq]; constructor <;> intro hh <;> simp_all)
theorem source_same (x y : XSource) : (eqb x.join y.join && (eqb x.name y.name && (eqb x.as y.as && (eqb x.sub y.sub && eqb x.on y.on)))) = eqb x y := eqb_of (by
 cases x; cases y; simp only [Bool.and_eq_true, eqb_iff, XSource.mk.injEq]; constructor <;> intro hh <;> simp_all)
structure RefOk (F : F101_) (n : Nat) : Prop where
 e : ∀ x y, 2 * XExpr.w x < n → F.p8 x y = some (eqb x y)
 q : ∀ x y, 2 * XSelect.w x < n → F.p62 x y = some (eqb x y)
 part : ∀ x y, 2 * XPart.w x < n → F.p101 x y = some (eqb x y)
 el : ∀ (l m : List XExpr), 2 * (1 + (l.map XExpr.w).sum) < n → F.p18 l m = some (eqb l m)
 ql : ∀ (l m : List XSelect), 2 * (1 + (l.map XSelect.w).sum) < n → F.p19 l m = some (eqb l m)
theorem ref_e {F : F101_} {n : Nat} (ih : RefOk F n) (hn : n + 1 ≤ manyC) (x y : XExpr) (h : 2 * XExpr.w x < n + 1) : b8 F x y = some (eqb x y) := by
 have hw := XExpr.w_eq x
 unfold b8
 rw [join_of]
 simp only [ih.el x.args y.args (by omega), ih.ql x.sub y.sub (by omega), call_of, way_and, beq_text, beq_int, beq_bool, value_same]
 refine congrArg some (eqb_of ?_)
 cases x; cases y
 simp only [Bool.and_eq_true, eqb_iff, XExpr.mk.injEq]
theorem ref_el {F : F101_} {n : Nat} (ih : RefOk F n) (hn : n + 1 ≤ manyC) (l m : List XExpr) (h : 2 * (1 + (l.map XExpr.w).sum) < n + 1) : b18 F l m = some (eqb l m) := by
 unfold b18
 exact list_same F.p8 XExpr.z l m (by have := length_le_sum XExpr.w XExpr.w_pos l; unfold manyC at hn; omega) fun x hx y => ih.e x y (by have := mem_le_sum XExpr.w hx; omega)
theorem ref_ql {F : F101_} {n : Nat} (ih : RefOk F n) (hn : n + 1 ≤ manyC) (l m : List XSelect) (h : 2 * (1 + (l.map XSelect.w).sum) < n + 1) : b19 F l m = some (eqb l m) := by
 unfold b19
 exact list_same F.p62 XSelect.z l m (by have := length_le_sum XSelect.w XSelect.w_pos l; unfold manyC at hn; omega) fun x hx y => ih.q x y (by have := mem_le_sum XSelect.w hx; omega)
theorem ref_q {F : F101_} {n : Nat} (ih : RefOk F n) (hn : n + 1 ≤ manyC) (x y : XSelect) (h : 2 * XSelect.w x < n + 1) : b62 F x y = some (eqb x y) := by
 have hw := XSelect.w_eq x
 have hc := length_le_sum XCte.w XCte.w_pos x.with_
 have hp := length_le_sum XPart.w XPart.w_pos x.parts
 have ho := length_le_sum XSort.w XSort.w_pos x.order
 unfold manyC at hn
 have hx : (eqb x.with_ y.with_ && (eqb x.parts y.parts && (eqb x.order y.order && (eqb x.limit y.limit && eqb x.offset y.offset)))) = eqb x y := eqb_of (by cases x; cases y; simp only [Bool.and_eq_true, eqb_iff, XSelect.mk.injEq])
 unfold b62
 rw [join_of, ← hx]
 simp only [ih.el x.limit y.limit (by omega), ih.el x.offset y.offset (by omega), call_of, lenb]
 by_cases h1 : x.with_.length = y.with_.length
 rotate_left
 ·rw [decide_eq_false h1, Bool.not_false, way_tt, way_tt, eqb_len h1]; rfl
 rw [decide_eq_true h1, Bool.not_true, way_ff]
 by_cases h2 : x.parts.length = y.parts.length
 rotate_left
 ·rw [decide_eq_false h2, Bool.not_false, way_tt, way_tt, eqb_len h2]; simp
 rw [decide_eq_true h2, Bool.not_true, way_ff]
 by_cases h3 : x.order.length = y.order.length
 rotate_left
 ·rw [decide_eq_false h3, Bool.not_false, way_tt, way_tt, eqb_len h3]; simp
 rw [decide_eq_true h3, Bool.not_true, way_ff]
 cases eqb x.limit y.limit with
 | false => rw [Bool.not_false, way_tt, way_tt]; simp
 | true =>
 rw [Bool.not_true, way_ff]
 cases eqb x.offset y.offset with
 | false => rw [Bool.not_false, way_tt]; simp
 | true =>
 rw [Bool.not_true, way_ff]
 refine (loop_eqb XCte.z h1 (by omega) (N := some false) (fun k i hi => ?_) (fun k => by rw [dec_self]; rfl)).trans ?_
 rotate_left
 ·rw [dec_self, way_ff]
  cases eqb x.with_ y.with_ with
  | false => rfl
  | true =>
  rw [if_pos rfl]
  refine (loop_eqb XPart.z h2 (by omega) (N := some false) (fun k i hi => ?_) (fun k => by rw [dec_self]; rfl)).trans ?_
  rotate_left
  ·rw [dec_self, way_ff]
   cases eqb x.parts y.parts with
   | false => rfl
   | true =>
   rw [if_pos rfl]
   refine (loop_eqb XSort.z h3 (by omega) (N := some false) (fun k i hi => ?_) (fun k => by rw [dec_self]; rfl)).trans ?_
   rotate_left
   ·rw [dec_self, way_ff]
    cases eqb x.order y.order <;> rfl
   ·rw [dec_lt hi, way_tt, join_of, need_t (by omega), need_t (by omega), need_t (by omega), need_t (by omega), Int.toNat_natCast, wrap_succ hi (by omega)]
    have hm := mem_le_sum XSort.w (getD_mem XSort.z hi)
    have hsw := XSort.w_eq (x.order.getD i XSort.z)
    rw [ih.e _ _ (by omega), call_of, ← sort_same, beq_bool]
    cases eqb (x.order.getD i XSort.z).desc_ (y.order.getD i XSort.z).desc_ <;> cases eqb (x.order.getD i XSort.z).expr (y.order.getD i XSort.z).expr <;> rfl
  ·have hm := mem_le_sum XPart.w (getD_mem XPart.z hi)
   rw [dec_lt hi, way_tt, need_t (by omega), need_t (by omega), Int.toNat_natCast, wrap_succ hi (by omega), ih.part _ _ (by omega), call_of]
   cases eqb (x.parts.getD i XPart.z) (y.parts.getD i XPart.z) <;> rfl
 ·have hm := mem_le_sum XCte.w (getD_mem XCte.z hi)
  have hsw := XCte.w_eq (x.with_.getD i XCte.z)
  have hcl := cols_le (x.with_.getD i XCte.z)
  rw [dec_lt hi, way_tt, need_t (by omega), need_t (by omega), join_of, Int.toNat_natCast, wrap_succ hi (by omega), s30_eq _ _ (by omega), call_of, ih.ql _ _ (by omega), call_of, ← cte_same, beq_text]
  cases eqb (x.with_.getD i XCte.z).name (y.with_.getD i XCte.z).name <;> cases eqb (x.with_.getD i XCte.z).cols (y.with_.getD i XCte.z).cols <;> cases eqb (x.with_.getD i XCte.z).body (y.with_.getD i XCte.z).body <;> rfl
theorem ref_part {F : F101_} {n : Nat} (ih : RefOk F n) (hn : n + 1 ≤ manyC) (x y : XPart) (h : 2 * XPart.w x < n + 1) : b101 F x y = some (eqb x y) := by
 have hw := XPart.w_eq x
 have hc := length_le_sum XItem.w XItem.w_pos x.items
 have hp := length_le_sum XSource.w XSource.w_pos x.from_
 have ho := length_le_sum (fun z : List XExpr => (1 + (z.map XExpr.w).sum)) (fun _ => Nat.le_add_right _ _) x.values
 unfold manyC at hn
 have hx : (eqb x.comp y.comp && (eqb x.distinct y.distinct && (eqb x.items y.items && (eqb x.from_ y.from_ && (eqb x.values y.values && (eqb x.where_ y.where_ && (eqb x.group y.group && eqb x.having y.having))))))) = eqb x y := eqb_of (by cases x; cases y; simp only [Bool.and_eq_true, eqb_iff, XPart.mk.injEq]; constructor <;> intro hh <;> simp_all)
 unfold b101
 rw [join_of, ← hx]
 simp only [ih.el x.where_ y.where_ (by omega), ih.el x.group y.group (by omega), ih.el x.having y.having (by omega), call_of, lenb]
 simp only [bne_int, beq_bool]
 cases eqb x.comp y.comp with
 | false => rw [Bool.not_false, way_tt, way_tt]; simp
 | true =>
 rw [Bool.not_true, way_ff]
 cases eqb x.distinct y.distinct with
 | false => rw [Bool.not_false, way_tt, way_tt]; simp
 | true =>
 rw [Bool.not_true, way_ff]
 by_cases h1 : x.items.length = y.items.length
 rotate_left
 ·rw [decide_eq_false h1, Bool.not_false, way_tt, way_tt, eqb_len h1]; simp
 rw [decide_eq_true h1, Bool.not_true, way_ff]
 by_cases h2 : x.from_.length = y.from_.length
 rotate_left
 ·rw [decide_eq_false h2, Bool.not_false, way_tt, way_tt, eqb_len h2]; simp
 rw [decide_eq_true h2, Bool.not_true, way_ff]
 by_cases h3 : x.values.length = y.values.length
 rotate_left
 ·rw [decide_eq_false h3, Bool.not_false, way_tt, eqb_len h3]; simp
 rw [decide_eq_true h3, Bool.not_true, way_ff]
 refine (loop_eqb XItem.z h1 (by omega) (N := some false) (fun k i hi => ?_) (fun k => by rw [dec_self]; rfl)).trans ?_
 rotate_left
 ·rw [dec_self, way_ff]
  cases eqb x.items y.items with
  | false => rfl
  | true =>
  rw [if_pos rfl]
  refine (loop_eqb XSource.z h2 (by omega) (N := some false) (fun k i hi => ?_) (fun k => by rw [dec_self]; rfl)).trans ?_
  rotate_left
  ·rw [dec_self, way_ff]
   cases eqb x.from_ y.from_ with
   | false => rfl
   | true =>
   rw [if_pos rfl]
   refine (loop_eqb ([] : List XExpr) h3 (by omega) (N := some false) (fun k i hi => ?_) (fun k => by rw [dec_self]; rfl)).trans ?_
   rotate_left
   ·rw [dec_self, way_ff, join_of]
    simp only [way_and]
    cases eqb x.values y.values <;> rfl
   ·have hm := mem_le_sum (fun z : List XExpr => (1 + (z.map XExpr.w).sum)) (getD_mem ([] : List XExpr) hi)
    rw [dec_lt hi, way_tt, need_t (by omega), need_t (by omega), Int.toNat_natCast, wrap_succ hi (by omega), ih.el _ _ (by (try simp only at hm); omega), call_of]
    cases eqb (x.values.getD i []) (y.values.getD i []) <;> rfl
  ·have hm := mem_le_sum XSource.w (getD_mem XSource.z hi)
   have hsw := XSource.w_eq (x.from_.getD i XSource.z)
   rw [dec_lt hi, way_tt, need_t (by omega), need_t (by omega), join_of, Int.toNat_natCast, wrap_succ hi (by omega), ih.ql _ _ (by omega), call_of, ih.el _ _ (by omega), call_of, ← source_same]
   simp only [beq_text]
   cases eqb (x.from_.getD i XSource.z).join (y.from_.getD i XSource.z).join <;> cases eqb (x.from_.getD i XSource.z).name (y.from_.getD i XSource.z).name <;> cases eqb (x.from_.getD i XSource.z).as (y.from_.getD i XSource.z).as <;> cases eqb (x.from_.getD i XSource.z).sub (y.from_.getD i XSource.z).sub <;> cases eqb (x.from_.getD i XSource.z).on (y.from_.getD i XSource.z).on <;> rfl
 ·have hm := mem_le_sum XItem.w (getD_mem XItem.z hi)
  have hsw := XItem.w_eq (x.items.getD i XItem.z)
  rw [dec_lt hi, way_tt, need_t (by omega), need_t (by omega), join_of, Int.toNat_natCast, wrap_succ hi (by omega), ih.el _ _ (by omega), call_of, ← item_same]
  simp only [beq_text]
  cases eqb (x.items.getD i XItem.z).star (y.items.getD i XItem.z).star <;> cases eqb (x.items.getD i XItem.z).table (y.items.getD i XItem.z).table <;> cases eqb (x.items.getD i XItem.z).as (y.items.getD i XItem.z).as <;> cases eqb (x.items.getD i XItem.z).expr (y.items.getD i XItem.z).expr <;> rfl
theorem refOk : ∀ n, n ≤ manyC → RefOk (F101_.fix n) n
 | 0, _ => ⟨fun _ _ h => absurd h (Nat.not_lt_zero _), fun _ _ h => absurd h (Nat.not_lt_zero _), fun _ _ h => absurd h (Nat.not_lt_zero _), fun _ _ h => absurd h (Nat.not_lt_zero _), fun _ _ h => absurd h (Nat.not_lt_zero _)⟩
 | n + 1, hn =>
  have ih := refOk n (Nat.le_of_succ_le hn)
  ⟨ref_e ih hn, ref_q ih hn, ref_part ih hn, ref_el ih hn, ref_ql ih hn⟩
theorem s8_eq (x y : XExpr) (h : 2 * XExpr.w x < manyC) : s8 x y = some (eqb x y) := (refOk manyC (Nat.le_refl _)).e x y h
end Go.Proofs.YtdgoilofkgdaoaaGreatDoor.Ex
namespace Go.Proofs.YtdgoilofkgdaoaaGreatDoor.Ex
open Go.Am Go.Ex Go.Proofs.YtdgoilofkgdaoaaGreatDoor
theorem coldef_same (x y : XColDef) : (eqb x.name y.name && (eqb x.type_ y.type_ && (eqb x.coll y.coll && (eqb x.primary y.primary && (eqb x.unique y.unique && (eqb x.notNull y.notNull && (eqb x.default y.default && eqb x.check y.check))))))) = eqb x y := eqb_of (by
 cases x; cases y; simp only [Bool.and_eq_true, eqb_iff, XColDef.mk.injEq])
theorem set_same (x y : XSet) : (eqb x.name y.name && eqb x.expr y.expr) = eqb x y := eqb_of (by
 cases x; cases y; simp only [Bool.and_eq_true, eqb_iff, XSet.mk.injEq])
theorem key_same (x y : XIndexCol) : (eqb x.name y.name && (eqb x.coll y.coll && (eqb x.own y.own && eqb x.desc_ y.desc_))) = eqb x y := eqb_of (by
 cases x; cases y; simp only [Bool.and_eq_true, eqb_iff, XIndexCol.mk.injEq])
theorem s27_eq (l m : List XExpr) (h : 2 * (1 + (l.map XExpr.w).sum) < manyC) : s27_1 l m = some (eqb l m) := (sameOk manyC (Nat.le_refl _)).el l m h
theorem s28_eq (l m : List XSelect) (h : 2 * (1 + (l.map XSelect.w).sum) < manyC) : s28_1 l m = some (eqb l m) := (sameOk manyC (Nat.le_refl _)).ql l m h
theorem s18_eq (l m : List XExpr) (h : 2 * (1 + (l.map XExpr.w).sum) < manyC) : s18 l m = some (eqb l m) := (refOk manyC (Nat.le_refl _)).el l m h
theorem s19_eq (l m : List XSelect) (h : 2 * (1 + (l.map XSelect.w).sum) < manyC) : s19 l m = some (eqb l m) := (refOk manyC (Nat.le_refl _)).ql l m h
theorem s23_eq (x y : XColDef) (h : 2 * XColDef.w x < manyC) : s23 x y = some (eqb x y) := by
 have hw := x.w_eq
 unfold s23
 rw [join_of, ← coldef_same]
 simp only [s27_eq x.default y.default (by omega), s27_eq x.check y.check (by omega), call_of, way_and, beq_text, beq_int, beq_bool]
theorem s25_eq (x y : XSet) (h : 2 * XSet.w x < manyC) : s25 x y = some (eqb x y) := by
 have hw := x.w_eq
 unfold s25
 rw [join_of, ← set_same]
 simp only [s26_eq x.expr y.expr (by omega), call_of, way_and, beq_text, beq_int, beq_bool]
theorem s22_eq (l m : List XColDef) (h : 2 * (l.map XColDef.w).sum < manyC) : s22_1 l m = some (eqb l m) :=
 list_same s23 XColDef.z l m (by have := length_le_sum XColDef.w XColDef.w_pos l; unfold manyC at h; omega) fun x hx y => s23_eq x y (by have := mem_le_sum XColDef.w hx; omega)
theorem s24_eq (l m : List XSet) (h : 2 * (l.map XSet.w).sum < manyC) : s24_1 l m = some (eqb l m) :=
 list_same s25 XSet.z l m (by have := length_le_sum XSet.w XSet.w_pos l; unfold manyC at h; omega) fun x hx y => s25_eq x y (by have := mem_le_sum XSet.w hx; omega)
theorem s21_eq (l m : List XIndexCol) (hl : l.length ≤ 4611686018427387000) : s21 l m = some (eqb l m) := by
 have h := list_same (fun x y => some ((x.name.data.toList == y.name.data.toList) && ((x.coll == y.coll) && ((x.own == y.own) && (x.desc_ == y.desc_))))) XIndexCol.z l m hl (fun x _ y => by rw [beq_text, beq_int, beq_bool, beq_bool, key_same])
 exact h
theorem s32_eq (l m : List XIndexCol) (hl : l.length ≤ 4611686018427387000) : s32 l m = some (eqb l m) := by
 have h := list_same (fun x y => some ((x.name.data.toList == y.name.data.toList) && ((x.coll == y.coll) && ((x.own == y.own) && (x.desc_ == y.desc_))))) XIndexCol.z l m hl (fun x _ y => by rw [beq_text, beq_int, beq_bool, beq_bool, key_same])
 exact h
theorem s31_eq (l m : List XColDef) (h : 2 * (l.map XColDef.w).sum < manyC) : s31 l m = some (eqb l m) := by
 have hl := length_le_sum XColDef.w XColDef.w_pos l
 unfold manyC at h
 unfold s31
 rw [lenb]
 by_cases h2 : l.length = m.length
 rotate_left
 ·rw [decide_eq_false h2, Bool.not_false, way_tt, eqb_len h2]
 rw [decide_eq_true h2, Bool.not_true, way_ff]
 refine (loop_eqb XColDef.z h2 (by omega) (N := some false) (fun k i hi => ?_) (fun k => by rw [dec_self]; rfl)).trans ?_
 rotate_left
 ·rw [dec_self, way_ff]
  cases eqb l m <;> rfl
 ·have hm := mem_le_sum XColDef.w (getD_mem XColDef.z hi)
  have hw := XColDef.w_eq (l.getD i XColDef.z)
  rw [dec_lt hi, way_tt, need_t (by omega), need_t (by omega), join_of, Int.toNat_natCast, wrap_succ hi (by omega), ← coldef_same]
  generalize l.getD i XColDef.z = x at *
  generalize m.getD i XColDef.z = y at *
  simp only [beq_text, beq_bool, bne_int]
  cases eqb x.name y.name with
  | false => rfl
  | true =>
  cases eqb x.type_ y.type_ with
  | false => rfl
  | true =>
  cases eqb x.coll y.coll with
  | false => rfl
  | true =>
  cases eqb x.primary y.primary with
  | false => rfl
  | true =>
  cases eqb x.unique y.unique with
  | false => rfl
  | true =>
  cases eqb x.notNull y.notNull with
  | false => rfl
  | true =>
  simp only [Bool.not_true, Bool.true_and, way_ff, join_of, s18_eq x.default y.default (by unfold manyC; omega), s18_eq x.check y.check (by unfold manyC; omega), call_of]
  cases eqb x.default y.default <;> cases eqb x.check y.check <;> rfl
theorem s9_eq (x y : XStmt) (h : 2 * XStmt.w x < manyC) : s9 x y = some (eqb x y) := by
 have hw := x.w_eq
 have hc := length_le_sum (fun z : ByteArray => (z.size + 1)) (fun _ => Nat.le_add_left _ _) x.cols
 have hk := length_le_sum XIndexCol.w XIndexCol.w_pos x.keys
 have hb : 2 * XStmt.w x < 4611686018427387904 := by unfold manyC at h; omega
 unfold s9
 rw [join_of]
 simp only [s20_eq x.cols y.cols (by omega), s21_eq x.keys y.keys (by omega), s22_eq x.defs y.defs (by omega), s24_eq x.sets y.sets (by omega), s27_eq x.where_ y.where_ (by omega), s28_eq x.select y.select (by omega), call_of, way_and, beq_text, beq_int, beq_bool]
 refine congrArg some (eqb_of ?_)
 cases x; cases y
 simp only [Bool.and_eq_true, eqb_iff, XStmt.mk.injEq]
 constructor <;> intro hh <;> simp_all
theorem s10_eq (x y : XStmt) (h : 2 * XStmt.w x < manyC) : s10 x y = some (eqb x y) := by
 have hw := x.w_eq
 have hc := length_le_sum (fun z : ByteArray => (z.size + 1)) (fun _ => Nat.le_add_left _ _) x.cols
 have hk := length_le_sum XIndexCol.w XIndexCol.w_pos x.keys
 have hs := length_le_sum XSet.w XSet.w_pos x.sets
 have hb : 2 * XStmt.w x < 4611686018427387904 := by unfold manyC at h; omega
 have hx : (eqb x.kind y.kind && (eqb x.what y.what && (eqb x.if_ y.if_ && (eqb x.unique y.unique && (eqb x.or y.or && (eqb x.name y.name && (eqb x.table y.table && (eqb x.to y.to && (eqb x.sets y.sets && (eqb x.cols y.cols && (eqb x.defs y.defs && (eqb x.keys y.keys && (eqb x.where_ y.where_ && eqb x.select y.select))))))))))))) = eqb x y := eqb_of (by
  cases x; cases y
  simp only [Bool.and_eq_true, eqb_iff, XStmt.mk.injEq]
  constructor <;> intro hh <;> simp_all)
 unfold s10
 rw [join_of, ← hx, lenb]
 simp only [beq_text, beq_bool, bne_int]
 cases eqb x.kind y.kind with
 | false => rfl
 | true =>
 cases eqb x.what y.what with
 | false => rfl
 | true =>
 cases eqb x.if_ y.if_ with
 | false => rfl
 | true =>
 cases eqb x.unique y.unique with
 | false => rfl
 | true =>
 cases eqb x.or y.or with
 | false => rfl
 | true =>
 cases eqb x.name y.name with
 | false => rfl
 | true =>
 cases eqb x.table y.table with
 | false => rfl
 | true =>
 cases eqb x.to y.to with
 | false => rfl
 | true =>
 simp only [Bool.not_true, Bool.true_and, way_ff]
 by_cases h1 : x.sets.length = y.sets.length
 rotate_left
 ·rw [decide_eq_false h1, Bool.not_false, way_tt, eqb_len h1, Bool.false_and]
 rw [decide_eq_true h1, Bool.not_true, way_ff]
 refine (loop_eqb XSet.z h1 (by omega) (N := some false) (fun k i hi => ?_) (fun k => by rw [dec_self]; rfl)).trans ?_
 rotate_left
 ·rw [dec_self, way_ff, join_of]
  cases eqb x.sets y.sets with
  | false => rfl
  | true =>
  rw [if_pos rfl]
  simp only [s30_eq x.cols y.cols (by omega), s31_eq x.defs y.defs (by omega), s32_eq x.keys y.keys (by omega), s18_eq x.where_ y.where_ (by omega), s19_eq x.select y.select (by omega), call_of, way_and, Bool.true_and]
 ·have hm := mem_le_sum XSet.w (getD_mem XSet.z hi)
  have hsw := XSet.w_eq (x.sets.getD i XSet.z)
  rw [dec_lt hi, way_tt, join_of, need_t (by omega), need_t (by omega), need_t (by omega), need_t (by omega), Int.toNat_natCast, wrap_succ hi (by omega), s8_eq _ _ (by omega), call_of, ← set_same]
  cases eqb (x.sets.getD i XSet.z).name (y.sets.getD i XSet.z).name <;> cases eqb (x.sets.getD i XSet.z).expr (y.sets.getD i XSet.z).expr <;> rfl
end Go.Proofs.YtdgoilofkgdaoaaGreatDoor.Ex
