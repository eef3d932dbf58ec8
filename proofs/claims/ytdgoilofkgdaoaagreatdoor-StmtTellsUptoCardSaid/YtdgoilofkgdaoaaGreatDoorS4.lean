/- Depth and parameters, as plain functions, and the expressions and selects within a select. -/
import Derived.Test.YtdgoilofkgdaoaaGreatDoorS5
import Derived.Test.YtdgoilofkgdaoaaGreatDoorS3
import Derived.Test.YtdgoilofkgdaoaaGreatDoorS1
import Derived.Test.YtdgoilofkgdaoaaGreatDoorS2
set_option linter.unusedVariables false
set_option linter.unusedSimpArgs false
set_option maxRecDepth 100000
set_option maxHeartbeats 4000000
namespace Go.Ex
open Go.Am
def XPart.exprs (p : XPart) : List XExpr := (p.items.map XItem.expr).flatten ++ (p.from_.map XSource.on).flatten ++ p.where_ ++ p.group ++ p.having ++ p.values.flatten
def XPart.subs (p : XPart) : List XSelect := (p.from_.map XSource.sub).flatten
def XSelect.exprs (q : XSelect) : List XExpr := (q.parts.map XPart.exprs).flatten ++ q.order.map XSort.expr ++ q.limit ++ q.offset
def XSelect.subs (q : XSelect) : List XSelect := (q.with_.map XCte.body).flatten ++ (q.parts.map XPart.subs).flatten
theorem sum_flatten {α β : Type} (f : β → Nat) (g : α → List β) (w : α → Nat) : ∀ l : List α, (∀ x ∈ l, ((g x).map f).sum ≤ w x) → (((l.map g).flatten).map f).sum ≤ (l.map w).sum
 | [], _ => Nat.le_refl _
 | x :: l, h => by
  have h1 := h x (by simp)
  have h2 := sum_flatten f g w l fun y hy => h y (by simp [hy])
  simp only [List.map_cons, List.flatten_cons, List.map_append, List.sum_append, List.sum_cons]
  omega
theorem XPart.exprs_w (p : XPart) : (p.exprs.map XExpr.w).sum + 1 ≤ XPart.w p := by
 rw [XPart.w_eq]
 have h1 := sum_flatten XExpr.w XItem.expr XItem.w p.items fun x _ => by rw [XItem.w_eq]; omega
 have h2 := sum_flatten XExpr.w XSource.on XSource.w p.from_ fun x _ => by rw [XSource.w_eq]; omega
 have h3 := sum_flatten XExpr.w (fun z : List XExpr => z) (fun z : List XExpr => (1 + (z.map XExpr.w).sum)) p.values fun x _ => by simp
 simp only [List.map_id'] at h3
 simp only [XPart.exprs, List.map_append, List.sum_append]
 omega
theorem XPart.subs_w (p : XPart) : (p.subs.map XSelect.w).sum + 1 ≤ XPart.w p := by
 rw [XPart.w_eq]
 have h2 := sum_flatten XSelect.w XSource.sub XSource.w p.from_ fun x _ => by rw [XSource.w_eq]; omega
 simp only [XPart.subs]
 omega
theorem XSelect.exprs_w (q : XSelect) : (q.exprs.map XExpr.w).sum + 1 ≤ XSelect.w q := by
 rw [XSelect.w_eq]
 have h1 := sum_flatten XExpr.w XPart.exprs XPart.w q.parts fun x _ => by have := x.exprs_w; omega
 have h2 := sum_flatten XExpr.w (fun t : XSort => [t.expr]) XSort.w q.order fun x _ => by rw [XSort.w_eq]; simp; omega
 have e : (q.order.map fun t : XSort => [t.expr]).flatten = q.order.map XSort.expr := by
  induction q.order with
  | nil => rfl
  | cons x l ih => simp [ih]
 rw [e] at h2
 simp only [XSelect.exprs, List.map_append, List.sum_append]
 omega
theorem XSelect.subs_w (q : XSelect) : (q.subs.map XSelect.w).sum + 1 ≤ XSelect.w q := by
 rw [XSelect.w_eq]
 have h1 := sum_flatten XSelect.w XPart.subs XPart.w q.parts fun x _ => by have := x.subs_w; omega
 have h2 := sum_flatten XSelect.w XCte.body XCte.w q.with_ fun x _ => by rw [XCte.w_eq]; omega
 simp only [XSelect.subs, List.map_append, List.sum_append]
 omega
theorem XSelect.exprs_lt {q : XSelect} {e : XExpr} (h : e ∈ q.exprs) : XExpr.w e < XSelect.w q := by
 have := mem_le_sum XExpr.w h; have := q.exprs_w; omega
theorem XSelect.subs_lt {q s : XSelect} (h : s ∈ q.subs) : XSelect.w s < XSelect.w q := by
 have := mem_le_sum XSelect.w h; have := q.subs_w; omega
theorem XExpr.args_lt {t e : XExpr} (h : e ∈ t.args) : XExpr.w e < XExpr.w t := by
 have := mem_le_sum XExpr.w h; have := t.w_eq; omega
theorem XExpr.sub_lt {t : XExpr} {s : XSelect} (h : s ∈ t.sub) : XSelect.w s < XExpr.w t := by
 have := mem_le_sum XSelect.w h; have := t.w_eq; omega
/-- The most of a list, and 0. -/
def most (b : Int) (l : List Int) : Int := l.foldl mxI b
theorem most_cons (b x : Int) (l : List Int) : most b (x :: l) = most (mxI b x) l := rfl
theorem most_append (b : Int) (l m : List Int) : most b (l ++ m) = most (most b l) m := List.foldl_append
theorem mxI_eq (a b : Int) : mxI a b = max a b := by unfold mxI; split <;> omega
theorem most_max (b c : Int) : ∀ l : List Int, most (max b c) l = max b (most c l)
 | [] => rfl
 | x :: l => by rw [most_cons, most_cons, mxI_eq, mxI_eq, Int.max_assoc, most_max b (max c x) l]
/-- A walk over expressions and the selects within: by fuel. -/
structure Meas where
 own : XExpr → Int
 up : Int
/-- The measure of an expression and of a select: the most of what is within, and what it adds. -/
def meas (a : Meas) : Nat → (XExpr → Int) × (XSelect → Int)
 | 0 => (fun _ => 0, fun _ => 0)
 | n + 1 => (fun e => most (most (a.own e) (e.args.map (meas a n).1)) (e.sub.map (meas a n).2) + a.up,
   fun q => most (most 0 (q.exprs.map (meas a n).1)) (q.subs.map (meas a n).2) + a.up)
theorem map_congr' {α β : Type} {f g : α → β} : ∀ {l : List α}, (∀ x ∈ l, f x = g x) → l.map f = l.map g
 | [], _ => rfl
 | x :: l, h => by rw [List.map_cons, List.map_cons, h x (by simp), map_congr' fun y hy => h y (by simp [hy])]
theorem meas_eq (a : Meas) : ∀ n m, (∀ e, XExpr.w e ≤ n → XExpr.w e ≤ m → (meas a n).1 e = (meas a m).1 e) ∧ (∀ q, XSelect.w q ≤ n → XSelect.w q ≤ m → (meas a n).2 q = (meas a m).2 q)
 | 0, m => ⟨fun e h => by have := e.w_pos; omega, fun q h => by have := q.w_pos; omega⟩
 | n + 1, 0 => ⟨fun e _ h => by have := e.w_pos; omega, fun q _ h => by have := q.w_pos; omega⟩
 | n + 1, m + 1 => by
  obtain ⟨i1, i2⟩ := meas_eq a n m
  refine ⟨fun e h1 h2 => ?_, fun q h1 h2 => ?_⟩
  ·show most (most (a.own e) (e.args.map (meas a n).1)) (e.sub.map (meas a n).2) + a.up = most (most (a.own e) (e.args.map (meas a m).1)) (e.sub.map (meas a m).2) + a.up
   rw [map_congr' fun x hx => i1 x (by have := XExpr.args_lt hx; omega) (by have := XExpr.args_lt hx; omega), map_congr' fun x hx => i2 x (by have := XExpr.sub_lt hx; omega) (by have := XExpr.sub_lt hx; omega)]
  ·show most (most 0 (q.exprs.map (meas a n).1)) (q.subs.map (meas a n).2) + a.up = most (most 0 (q.exprs.map (meas a m).1)) (q.subs.map (meas a m).2) + a.up
   rw [map_congr' fun x hx => i1 x (by have := XSelect.exprs_lt hx; omega) (by have := XSelect.exprs_lt hx; omega), map_congr' fun x hx => i2 x (by have := XSelect.subs_lt hx; omega) (by have := XSelect.subs_lt hx; omega)]
def Meas.e (a : Meas) (e : XExpr) : Int := (meas a (XExpr.w e)).1 e
def Meas.q (a : Meas) (q : XSelect) : Int := (meas a (XSelect.w q)).2 q
theorem Meas.e_eq (a : Meas) (e : XExpr) : a.e e = most (most (a.own e) (e.args.map a.e)) (e.sub.map a.q) + a.up := by
 have h := e.w_pos
 unfold Meas.e
 obtain ⟨n, hn⟩ : ∃ n, XExpr.w e = n + 1 := ⟨XExpr.w e - 1, by omega⟩
 rw [hn]
 show most (most (a.own e) (e.args.map (meas a n).1)) (e.sub.map (meas a n).2) + a.up = _
 rw [map_congr' (g := a.e) fun x hx => (meas_eq a n _).1 x (by have := XExpr.args_lt hx; omega) (Nat.le_refl _), map_congr' (g := a.q) fun x hx => (meas_eq a n _).2 x (by have := XExpr.sub_lt hx; omega) (Nat.le_refl _)]
 rfl
theorem Meas.q_eq (a : Meas) (q : XSelect) : a.q q = most (most 0 (q.exprs.map a.e)) (q.subs.map a.q) + a.up := by
 have h := q.w_pos
 unfold Meas.q
 obtain ⟨n, hn⟩ : ∃ n, XSelect.w q = n + 1 := ⟨XSelect.w q - 1, by omega⟩
 rw [hn]
 show most (most 0 (q.exprs.map (meas a n).1)) (q.subs.map (meas a n).2) + a.up = _
 rw [map_congr' (g := a.e) fun x hx => (meas_eq a n _).1 x (by have := XSelect.exprs_lt hx; omega) (Nat.le_refl _), map_congr' (g := a.q) fun x hx => (meas_eq a n _).2 x (by have := XSelect.subs_lt hx; omega) (Nat.le_refl _)]
 rfl
/-- Parameters. -/
def parsM : Meas := ⟨fun e => if e.op = 3 then mxI 0 e.n else 0, 0⟩
/-- A loop that runs along a row of states. -/
theorem loop_st {X β : Type} (st : Nat → X) (n : Nat) (hn : n ≤ 4611686018427387000) {b : (X → Option β) → X → Option β} (hb : ∀ k i, i < n → b k (st i) = k (st (i + 1))) (he : ∀ k, b k (st n) = b (fun _ => none) (st n)) : loopC b manyC (st 0) = b (fun _ => none) (st n) := by
 have key : ∀ d i m, i + d = n → d < m → loopC b m (st i) = b (fun _ => none) (st n) := by
  intro d
  induction d with
  | zero =>
   intro i m hi hm
   obtain rfl : i = n := by omega
   cases m with
   | zero => omega
   | succ m => rw [loopC_succ, he]
  | succ d ih =>
   intro i m hi hm
   cases m with
   | zero => omega
   | succ m => rw [loopC_succ, hb _ i (by omega)]; exact ih (i + 1) m (by omega) (by omega)
 exact key n 0 manyC (by omega) (by unfold manyC; omega)
theorem take_succ_map {α β : Type} (f : α → β) (z : α) {l : List α} {i : Nat} (h : i < l.length) : (l.take (i + 1)).map f = (l.take i).map f ++ [f (l.getD i z)] := by
 have e : l[i]? = some (l.getD i z) := by rw [List.getD_eq_getElem?_getD, List.getElem?_eq_getElem h]; rfl
 rw [List.take_add_one, e]
 simp only [Option.toList, List.map_append, List.map_cons, List.map_nil]
theorem most_take {α : Type} (f : α → Int) (z : α) (b : Int) {l : List α} {i : Nat} (h : i < l.length) : most b ((l.take (i + 1)).map f) = mxI (most b ((l.take i).map f)) (f (l.getD i z)) := by
 rw [take_succ_map f z h, most_append]; rfl
theorem flat_take {α β : Type} (f : α → List β) (z : α) (b : List β) {l : List α} {i : Nat} (h : i < l.length) : b ++ ((l.take (i + 1)).map f).flatten = (b ++ ((l.take i).map f).flatten) ++ f (l.getD i z) := by
 rw [take_succ_map f z h, List.flatten_append]; simp
end Go.Ex
namespace Go.Proofs.YtdgoilofkgdaoaaGreatDoor.Ex
open Go.Am Go.Ex Go.Proofs.YtdgoilofkgdaoaaGreatDoor
theorem loop_from {X β : Type} (st : Nat → X) (n : Nat) (hn : n ≤ 4611686018427387000) {b : (X → Option β) → X → Option β} {x0 : X} (h0 : st 0 = x0) (hb : ∀ k i, i < n → b k (st i) = k (st (i + 1))) (he : ∀ k, b k (st n) = b (fun _ => none) (st n)) : loopC b manyC x0 = b (fun _ => none) (st n) := h0 ▸ loop_st st n hn hb he
theorem flat_len {α β : Type} (f : α → List β) (z : α) (b : List β) {l : List α} {i : Nat} (h : i < l.length) : (b ++ ((l.take i).map f).flatten).length + (f (l.getD i z)).length ≤ b.length + ((l.map f).flatten).length := by
 have e1 := congrArg List.length (flat_take f z b h)
 have e2 := congrArg List.length (congrArg List.flatten (congrArg (List.map f) (List.take_append_drop (i + 1) l)))
 simp only [List.map_append, List.flatten_append, List.length_append] at e1 e2 ⊢
 omega
theorem exprs_len (q : XSelect) : q.exprs.length < XSelect.w q := by have := q.exprs_w; have := length_le_sum XExpr.w XExpr.w_pos q.exprs; omega
theorem subs_len (q : XSelect) : q.subs.length < XSelect.w q := by have := q.subs_w; have := length_le_sum XSelect.w XSelect.w_pos q.subs; omega
theorem parts_len (q : XSelect) : q.parts.length < XSelect.w q := by have := q.w_eq; have := length_le_sum XPart.w XPart.w_pos q.parts; omega
theorem with_len (q : XSelect) : q.with_.length < XSelect.w q := by have := q.w_eq; have := length_le_sum XCte.w XCte.w_pos q.with_; omega
theorem order_len (q : XSelect) : q.order.length < XSelect.w q := by have := q.w_eq; have := length_le_sum XSort.w XSort.w_pos q.order; omega
theorem part_w {q : XSelect} {i : Nat} (h : i < q.parts.length) : XPart.w (q.parts.getD i XPart.z) < XSelect.w q := by have := q.w_eq; have := mem_le_sum XPart.w (getD_mem XPart.z h); omega
theorem items_len (p : XPart) : p.items.length < XPart.w p := by have := p.w_eq; have := length_le_sum XItem.w XItem.w_pos p.items; omega
theorem from_len (p : XPart) : p.from_.length < XPart.w p := by have := p.w_eq; have := length_le_sum XSource.w XSource.w_pos p.from_; omega
theorem values_len (p : XPart) : p.values.length < XPart.w p := by have := p.w_eq; have := length_le_sum (fun z : List XExpr => (1 + (z.map XExpr.w).sum)) (fun _ => Nat.le_add_right _ _) p.values; omega
theorem s72_eq (q : XSelect) (h : XSelect.w q < 549755813888) : s72 q = some q.subs := by
 have hs := subs_len q
 have hq : q.subs.length = ((q.with_.map XCte.body).flatten).length + ((q.parts.map XPart.subs).flatten).length := by rw [XSelect.subs, List.length_append]
 have hw := with_len q
 have hp := parts_len q
 unfold s72
 refine (loop_from (fun j : Nat => (([] : List XSelect) ++ ((q.with_.take j).map XCte.body).flatten, (j : Int))) q.with_.length (by omega) (by simp) (fun k j hj => ?_) (fun k => ?_)).trans ?_
 ·dsimp only
  have hf := flat_len XCte.body XCte.z ([] : List XSelect) hj
  rw [dec_lt hj, way_tt, need_t (by omega), Int.toNat_natCast, need_t (by simp only [List.length_nil] at hf; omega), wrap_succ hj (by omega), flat_take XCte.body XCte.z _ hj]
 ·dsimp only; rw [dec_self, way_ff, way_ff]
 dsimp only
 rw [dec_self, way_ff, List.take_length]
 rw [List.nil_append]
 refine (loop_from (fun j : Nat => ((q.with_.map XCte.body).flatten ++ ((q.parts.take j).map XPart.subs).flatten, (j : Int))) q.parts.length (by omega) (by simp) (fun k j hj => ?_) (fun k => ?_)).trans ?_
 ·dsimp only
  have hf := flat_len XPart.subs XPart.z ((q.with_.map XCte.body).flatten) hj
  have hpw := part_w hj
  have hfl := from_len (q.parts.getD j XPart.z)
  rw [dec_lt hj, way_tt, wrap_succ hj (by omega), flat_take XPart.subs XPart.z _ hj]
  generalize hacc : (q.with_.map XCte.body).flatten ++ ((q.parts.take j).map XPart.subs).flatten = acc at hf ⊢
  simp only [Int.toNat_natCast]
  refine (loop_from (fun i : Nat => (acc ++ (((q.parts.getD j XPart.z).from_.take i).map XSource.sub).flatten, (i : Int))) (q.parts.getD j XPart.z).from_.length (by omega) (by simp) (fun k2 i hi => ?_) (fun k2 => ?_)).trans ?_
  ·have hg := flat_len XSource.sub XSource.z acc hi
   have hsub : (q.parts.getD j XPart.z).subs.length = (((q.parts.getD j XPart.z).from_.map XSource.sub).flatten).length := rfl
   dsimp only
   rw [need_t (by omega), dec_lt hi, way_tt, need_t (by omega), need_t (by omega), Int.toNat_natCast, need_t (by omega), wrap_succ hi (by omega), flat_take XSource.sub XSource.z _ hi]
  ·dsimp only; simp only [need_t (show 0 ≤ (j : Int) ∧ (j : Int) < ((q.parts.length : Nat) : Int) by omega), dec_self, way_ff]
  dsimp only
  rw [need_t (by omega), dec_self, way_ff, List.take_length]
  rfl
 ·dsimp only; rw [dec_self, way_ff, way_ff]
 dsimp only
 rw [dec_self, way_ff, List.take_length]
 rfl
theorem s15_eq (L : List (List XExpr)) (h1 : L.length < 549755813888) (h2 : L.flatten.length < 549755813888) : s15 L = some L.flatten := by
 unfold s15
 have hid : ∀ i, i < L.length → ((L.take i).flatten).length + (L.getD i []).length ≤ L.flatten.length := fun i hi => by
  have := flat_len (fun z : List XExpr => z) [] [] hi
  simpa using this
 refine (loop_from (fun j : Nat => ((((L.take j).flatten.length : Nat) : Int), (j : Int))) L.length (by omega) (by simp) (fun k j hj => ?_) (fun k => ?_)).trans ?_
 ·dsimp only
  have hf := hid j hj
  have he : (L.take (j + 1)).flatten.length = (L.take j).flatten.length + (L.getD j []).length := by
   have := congrArg List.length (flat_take (fun z : List XExpr => z) [] [] hj)
   simpa using this
  rw [dec_lt hj, way_tt, need_t (by omega), Int.toNat_natCast, wrap_succ hj (by omega), wrap_id (by omega) (by omega), decide_eq_false (by omega), way_ff, he]
  simp
 ·dsimp only; rw [dec_self, way_ff, way_ff]
 dsimp only
 rw [dec_self, way_ff, List.take_length]
 rw [need_t (by omega)]
 refine (loop_from (fun j : Nat => (([] : List XExpr) ++ ((L.take j).map fun z : List XExpr => z).flatten, (j : Int))) L.length (by omega) (by simp) (fun k j hj => ?_) (fun k => ?_)).trans ?_
 ·dsimp only
  have hf := flat_len (fun z : List XExpr => z) [] ([] : List XExpr) hj
  simp only [List.map_id', List.length_nil, Nat.zero_add] at hf
  have e := flat_take (fun z : List XExpr => z) [] ([] : List XExpr) hj
  rw [e, dec_lt hj, way_tt, need_t (by omega), Int.toNat_natCast, wrap_succ hj (by omega), need_t (by simp only [List.map_id']; omega)]
 ·dsimp only; rw [dec_self, way_ff, way_ff]
 dsimp only
 rw [dec_self, way_ff, List.take_length]
 simp
theorem part_len (p : XPart) : p.exprs.length = ((p.items.map XItem.expr).flatten).length + ((p.from_.map XSource.on).flatten).length + p.where_.length + p.group.length + p.having.length + (p.values.flatten).length := by
 simp only [XPart.exprs, List.length_append]
theorem flat_snoc (acc : List XExpr) (p : XPart) : acc ++ (p.items.map XItem.expr).flatten ++ (p.from_.map XSource.on).flatten ++ p.where_ ++ p.group ++ p.having ++ p.values.flatten = acc ++ p.exprs := by
 simp only [XPart.exprs, List.append_assoc]
theorem exprs_parts (q : XSelect) : q.exprs.length = ((q.parts.map XPart.exprs).flatten).length + q.order.length + q.limit.length + q.offset.length := by
 simp only [XSelect.exprs, List.length_append, List.length_map]
theorem ord_flat (l : List XSort) : (l.map fun t : XSort => [t.expr]).flatten = l.map XSort.expr := by
 induction l with
 | nil => rfl
 | cons x l ih => simp [ih]
theorem s71_eq (q : XSelect) (h : XSelect.w q < 549755813888) : s71 q = some q.exprs := by
 have hs := exprs_len q
 have hq := exprs_parts q
 have hp := parts_len q
 have ho := order_len q
 unfold s71
 refine (loop_from (fun j : Nat => (([] : List XExpr) ++ ((q.parts.take j).map XPart.exprs).flatten, (j : Int))) q.parts.length (by omega) (by simp) (fun k j hj => ?_) (fun k => ?_)).trans ?_
 ·dsimp only
  have hf := flat_len XPart.exprs XPart.z ([] : List XExpr) hj
  simp only [List.length_nil, Nat.zero_add] at hf
  have hpw := part_w hj
  have hfl := from_len (q.parts.getD j XPart.z)
  have hil := items_len (q.parts.getD j XPart.z)
  have hvl := values_len (q.parts.getD j XPart.z)
  have hpl := part_len (q.parts.getD j XPart.z)
  rw [dec_lt hj, way_tt, need_t (by omega), wrap_succ hj (by omega), flat_take XPart.exprs XPart.z _ hj]
  generalize hacc : ([] : List XExpr) ++ ((q.parts.take j).map XPart.exprs).flatten = acc at hf ⊢
  simp only [Int.toNat_natCast]
  refine (loop_from (fun i : Nat => (acc ++ (((q.parts.getD j XPart.z).items.take i).map XItem.expr).flatten, (i : Int))) (q.parts.getD j XPart.z).items.length (by omega) (by simp) (fun k2 i hi => ?_) (fun k2 => ?_)).trans ?_
  ·have hg := flat_len XItem.expr XItem.z acc hi
   dsimp only
   rw [dec_lt hi, way_tt, need_t (by omega), Int.toNat_natCast, need_t (by omega), wrap_succ hi (by omega), flat_take XItem.expr XItem.z _ hi]
  ·dsimp only; rw [dec_self, way_ff, way_ff]
  dsimp only
  rw [dec_self, way_ff, List.take_length]
  refine (loop_from (fun i : Nat => (acc ++ ((q.parts.getD j XPart.z).items.map XItem.expr).flatten ++ (((q.parts.getD j XPart.z).from_.take i).map XSource.on).flatten, (i : Int))) (q.parts.getD j XPart.z).from_.length (by omega) (by simp) (fun k2 i hi => ?_) (fun k2 => ?_)).trans ?_
  ·have hg := flat_len XSource.on XSource.z (acc ++ ((q.parts.getD j XPart.z).items.map XItem.expr).flatten) hi
   simp only [List.length_append] at hg
   dsimp only
   rw [dec_lt hi, way_tt, need_t (by omega), Int.toNat_natCast, need_t (by simp only [List.length_append]; omega), wrap_succ hi (by omega), flat_take XSource.on XSource.z _ hi]
  ·dsimp only; rw [dec_self, way_ff, way_ff]
  dsimp only
  rw [dec_self, way_ff, List.take_length]
  rw [need_t (by simp only [List.length_append]; omega), need_t (by simp only [List.length_append]; omega), need_t (by simp only [List.length_append]; omega)]
  refine (loop_from (fun i : Nat => ((acc ++ ((q.parts.getD j XPart.z).items.map XItem.expr).flatten ++ ((q.parts.getD j XPart.z).from_.map XSource.on).flatten ++ (q.parts.getD j XPart.z).where_ ++ (q.parts.getD j XPart.z).group ++ (q.parts.getD j XPart.z).having) ++ (((q.parts.getD j XPart.z).values.take i).map fun z : List XExpr => z).flatten, (i : Int))) (q.parts.getD j XPart.z).values.length (by omega) (by simp) (fun k2 i hi => ?_) (fun k2 => ?_)).trans ?_
  ·have hg := flat_len (fun z : List XExpr => z) [] ((acc ++ ((q.parts.getD j XPart.z).items.map XItem.expr).flatten ++ ((q.parts.getD j XPart.z).from_.map XSource.on).flatten ++ (q.parts.getD j XPart.z).where_ ++ (q.parts.getD j XPart.z).group ++ (q.parts.getD j XPart.z).having)) hi
   simp only [List.map_id', List.length_append] at hg
   dsimp only
   rw [flat_take (fun z : List XExpr => z) [] ((acc ++ ((q.parts.getD j XPart.z).items.map XItem.expr).flatten ++ ((q.parts.getD j XPart.z).from_.map XSource.on).flatten ++ (q.parts.getD j XPart.z).where_ ++ (q.parts.getD j XPart.z).group ++ (q.parts.getD j XPart.z).having)) hi, dec_lt hi, way_tt, need_t (by omega), Int.toNat_natCast, need_t (by simp only [List.map_id', List.length_append]; omega), wrap_succ hi (by omega)]
  ·dsimp only; rw [dec_self, way_ff, way_ff]
  dsimp only
  rw [dec_self, way_ff, List.take_length, List.map_id', flat_snoc]
 ·dsimp only; rw [dec_self, way_ff, way_ff]
 dsimp only
 rw [dec_self, way_ff, List.take_length]
 rw [List.nil_append]
 refine (loop_from (fun j : Nat => ((q.parts.map XPart.exprs).flatten ++ ((q.order.take j).map fun t : XSort => [t.expr]).flatten, (j : Int))) q.order.length (by omega) (by simp) (fun k j hj => ?_) (fun k => ?_)).trans ?_
 ·dsimp only
  have e := flat_take (fun t : XSort => [t.expr]) XSort.z ((q.parts.map XPart.exprs).flatten) hj
  have hf := flat_len (fun t : XSort => [t.expr]) XSort.z ((q.parts.map XPart.exprs).flatten) hj
  rw [ord_flat q.order] at hf
  simp only [List.length_append, List.length_map, List.length_cons, List.length_nil] at hf
  rw [e, dec_lt hj, way_tt, need_t (by omega), Int.toNat_natCast, need_t (by simp only [List.length_append]; omega), wrap_succ hj (by omega)]
 ·dsimp only; rw [dec_self, way_ff, way_ff]
 dsimp only
 rw [dec_self, way_ff, List.take_length]
 rw [ord_flat, need_t (by simp only [List.length_append, List.length_map]; omega), need_t (by simp only [List.length_append, List.length_map]; omega)]
 rfl
theorem s69_eq (q : XSelect) (h : XSelect.w q < 549755813888) : s69 q = some (q.exprs, q.subs) := by
 have hs := exprs_len q
 have hq := exprs_parts q
 have hs2 := subs_len q
 have hq2 : q.subs.length = ((q.with_.map XCte.body).flatten).length + ((q.parts.map XPart.subs).flatten).length := by rw [XSelect.subs, List.length_append]
 have hw := with_len q
 have hp := parts_len q
 have ho := order_len q
 unfold s69
 refine (loop_from (fun j : Nat => (([] : List XSelect) ++ ((q.with_.take j).map XCte.body).flatten, (j : Int))) q.with_.length (by omega) (by simp) (fun k j hj => ?_) (fun k => ?_)).trans ?_
 ·dsimp only
  have hf := flat_len XCte.body XCte.z ([] : List XSelect) hj
  rw [dec_lt hj, way_tt, need_t (by omega), Int.toNat_natCast, need_t (by simp only [List.length_nil] at hf; omega), wrap_succ hj (by omega), flat_take XCte.body XCte.z _ hj]
 ·dsimp only; rw [dec_self, way_ff, way_ff]
 dsimp only
 rw [dec_self, way_ff, List.take_length]
 rw [List.nil_append]
 refine (loop_from (fun j : Nat => (([] : List XExpr) ++ ((q.parts.take j).map XPart.exprs).flatten, (q.with_.map XCte.body).flatten ++ ((q.parts.take j).map XPart.subs).flatten, (j : Int))) q.parts.length (by omega) (by simp) (fun k j hj => ?_) (fun k => ?_)).trans ?_
 ·dsimp only
  have hf2 := flat_len XPart.subs XPart.z ((q.with_.map XCte.body).flatten) hj
  have hf := flat_len XPart.exprs XPart.z ([] : List XExpr) hj
  simp only [List.length_nil, Nat.zero_add] at hf
  have hpw := part_w hj
  have hfl := from_len (q.parts.getD j XPart.z)
  have hil := items_len (q.parts.getD j XPart.z)
  have hvl := values_len (q.parts.getD j XPart.z)
  have hpl := part_len (q.parts.getD j XPart.z)
  rw [dec_lt hj, way_tt, need_t (by omega), wrap_succ hj (by omega), flat_take XPart.exprs XPart.z _ hj, flat_take XPart.subs XPart.z _ hj]
  generalize hacc : ([] : List XExpr) ++ ((q.parts.take j).map XPart.exprs).flatten = acc at hf ⊢
  generalize hacc2 : (q.with_.map XCte.body).flatten ++ ((q.parts.take j).map XPart.subs).flatten = acc2 at hf2 ⊢
  simp only [Int.toNat_natCast]
  have hsub : (q.parts.getD j XPart.z).subs.length = (((q.parts.getD j XPart.z).from_.map XSource.sub).flatten).length := rfl
  refine (loop_from (fun i : Nat => (acc ++ (((q.parts.getD j XPart.z).items.take i).map XItem.expr).flatten, (i : Int))) (q.parts.getD j XPart.z).items.length (by omega) (by simp) (fun k2 i hi => ?_) (fun k2 => ?_)).trans ?_
  ·have hg := flat_len XItem.expr XItem.z acc hi
   dsimp only
   rw [dec_lt hi, way_tt, need_t (by omega), Int.toNat_natCast, need_t (by omega), wrap_succ hi (by omega), flat_take XItem.expr XItem.z _ hi]
  ·dsimp only; rw [dec_self, way_ff, way_ff]
  dsimp only
  rw [dec_self, way_ff, List.take_length]
  refine (loop_from (fun i : Nat => (acc ++ ((q.parts.getD j XPart.z).items.map XItem.expr).flatten ++ (((q.parts.getD j XPart.z).from_.take i).map XSource.on).flatten, acc2 ++ (((q.parts.getD j XPart.z).from_.take i).map XSource.sub).flatten, (i : Int))) (q.parts.getD j XPart.z).from_.length (by omega) (by simp) (fun k2 i hi => ?_) (fun k2 => ?_)).trans ?_
  ·have hg := flat_len XSource.on XSource.z (acc ++ ((q.parts.getD j XPart.z).items.map XItem.expr).flatten) hi
   have hg2 := flat_len XSource.sub XSource.z acc2 hi
   simp only [List.length_append] at hg hg2
   dsimp only
   rw [dec_lt hi, way_tt, need_t (by omega), Int.toNat_natCast, need_t (by simp only [List.length_append]; omega), need_t (by simp only [List.length_append]; omega), wrap_succ hi (by omega), flat_take XSource.on XSource.z _ hi, flat_take XSource.sub XSource.z _ hi]
  ·dsimp only; rw [dec_self, way_ff, way_ff]
  dsimp only
  rw [dec_self, way_ff, List.take_length]
  rw [s15_eq _ (by simp) (by simp only [List.flatten_cons, List.flatten_nil, List.length_append, List.length_nil]; omega), call_of]
  simp only [List.flatten_cons, List.flatten_nil, List.append_nil, ← List.append_assoc]
  refine (loop_from (fun i : Nat => ((acc ++ ((q.parts.getD j XPart.z).items.map XItem.expr).flatten ++ ((q.parts.getD j XPart.z).from_.map XSource.on).flatten ++ (q.parts.getD j XPart.z).where_ ++ (q.parts.getD j XPart.z).group ++ (q.parts.getD j XPart.z).having) ++ (((q.parts.getD j XPart.z).values.take i).map fun z : List XExpr => z).flatten, (i : Int))) (q.parts.getD j XPart.z).values.length (by omega) (by simp) (fun k2 i hi => ?_) (fun k2 => ?_)).trans ?_
  ·have hg := flat_len (fun z : List XExpr => z) [] ((acc ++ ((q.parts.getD j XPart.z).items.map XItem.expr).flatten ++ ((q.parts.getD j XPart.z).from_.map XSource.on).flatten ++ (q.parts.getD j XPart.z).where_ ++ (q.parts.getD j XPart.z).group ++ (q.parts.getD j XPart.z).having)) hi
   simp only [List.map_id', List.length_append] at hg
   dsimp only
   rw [flat_take (fun z : List XExpr => z) [] ((acc ++ ((q.parts.getD j XPart.z).items.map XItem.expr).flatten ++ ((q.parts.getD j XPart.z).from_.map XSource.on).flatten ++ (q.parts.getD j XPart.z).where_ ++ (q.parts.getD j XPart.z).group ++ (q.parts.getD j XPart.z).having)) hi, dec_lt hi, way_tt, need_t (by omega), Int.toNat_natCast, need_t (by simp only [List.map_id', List.length_append]; omega), wrap_succ hi (by omega)]
  ·dsimp only; rw [dec_self, way_ff, way_ff]
  dsimp only
  rw [dec_self, way_ff, List.take_length, List.map_id', flat_snoc]
  rfl
 ·dsimp only; rw [dec_self, way_ff, way_ff]
 dsimp only
 rw [dec_self, way_ff, List.take_length]
 rw [List.nil_append]
 refine (loop_from (fun j : Nat => ((q.parts.map XPart.exprs).flatten ++ ((q.order.take j).map fun t : XSort => [t.expr]).flatten, (j : Int))) q.order.length (by omega) (by simp) (fun k j hj => ?_) (fun k => ?_)).trans ?_
 ·dsimp only
  have e := flat_take (fun t : XSort => [t.expr]) XSort.z ((q.parts.map XPart.exprs).flatten) hj
  have hf := flat_len (fun t : XSort => [t.expr]) XSort.z ((q.parts.map XPart.exprs).flatten) hj
  rw [ord_flat q.order] at hf
  simp only [List.length_append, List.length_map, List.length_cons, List.length_nil] at hf
  rw [e, dec_lt hj, way_tt, need_t (by omega), Int.toNat_natCast, need_t (by simp only [List.length_append]; omega), wrap_succ hj (by omega)]
 ·dsimp only; rw [dec_self, way_ff, way_ff]
 dsimp only
 rw [dec_self, way_ff, List.take_length]
 rw [ord_flat, s15_eq _ (by simp) (by simp only [List.flatten_cons, List.flatten_nil, List.length_append, List.length_nil, List.length_map]; omega), call_of]
 simp only [List.flatten_cons, List.flatten_nil, List.append_nil, ← List.append_assoc]
 rfl
end Go.Proofs.YtdgoilofkgdaoaaGreatDoor.Ex
namespace Go.Proofs.YtdgoilofkgdaoaaGreatDoor.Ex
open Go.Am Go.Ex Go.Proofs.YtdgoilofkgdaoaaGreatDoor
theorem way_gt {α : Type} (f : Int → Option α) (y q : Int) : way (decide (y > q)) (f y) (f q) = f (mxI q y) := by
 rw [mxI_eq]
 by_cases h : y > q
 ·rw [decide_eq_true h, way_tt, Int.max_eq_right (by omega)]
 ·rw [decide_eq_false h, way_ff, Int.max_eq_left (by omega)]
theorem foldC_most {α : Type} (p : α → Option Int) (f : α → Int) : ∀ (l : List α) (b : Int), (∀ x ∈ l, p x = some (f x)) → foldC (fun (q : Int) (y : α) => call (p y) fun z => some (mxI q z)) l b = some (most b (l.map f))
 | [], b, _ => rfl
 | x :: l, b, h => by
  simp only [foldC, h x (List.mem_cons_self ..), call_of]
  exact foldC_most p f l (mxI b (f x)) fun y hy => h y (List.mem_cons_of_mem _ hy)
theorem join_way {X α : Type} {c : Bool} {a b : X} {G : X → Option α} : join (fun k => way c (k a) (k b)) G = G (if c = true then a else b) := by cases c <;> rfl
theorem args_len (e : XExpr) : e.args.length < XExpr.w e := by have := e.w_eq; have := length_le_sum XExpr.w XExpr.w_pos e.args; omega
theorem sub_len (e : XExpr) : e.sub.length < XExpr.w e := by have := e.w_eq; have := length_le_sum XSelect.w XSelect.w_pos e.sub; omega
structure ProgP (F : F33_34) (n : Nat) : Prop where
 e : ∀ e, XExpr.w e < n → XExpr.w e < 549755813888 → F.p33 e = some (parsM.e e)
 q : ∀ q, XSelect.w q < n → XSelect.w q < 549755813888 → F.p34 q = some (parsM.q q)
theorem ProgP_e {F : F33_34} {n : Nat} (ih : ProgP F n) (e : XExpr) (h : XExpr.w e < n + 1) (hk : XExpr.w e < 549755813888) : b33 F e = some (parsM.e e) := by
 have ha := args_len e
 have hs := sub_len e
 unfold b33
 rw [join_way, show (if (e.op == 3) = true then mxI 0 e.n else 0) = parsM.own e by simp [parsM]]
 refine (loop_from (fun j : Nat => (most (parsM.own e) ((e.args.take j).map parsM.e), (j : Int))) e.args.length (by omega) (by simp [most]) (fun k j hj => ?_) (fun k => ?_)).trans ?_
 ·have hm := getD_mem XExpr.z hj
  have hlt := XExpr.args_lt hm
  dsimp only
  rw [dec_lt hj, way_tt, need_t (by omega), Int.toNat_natCast, ih.e _ (by omega) (by omega), call_of, wrap_succ hj (by omega), most_take parsM.e XExpr.z _ hj]
 ·dsimp only; rw [dec_self, way_ff, way_ff]
 dsimp only
 rw [dec_self, way_ff, List.take_length]
 refine (loop_from (fun j : Nat => (most (most (parsM.own e) (e.args.map parsM.e)) ((e.sub.take j).map parsM.q), (j : Int))) e.sub.length (by omega) (by simp [most]) (fun k j hj => ?_) (fun k => ?_)).trans ?_
 ·have hm := getD_mem XSelect.z hj
  have hlt := XExpr.sub_lt hm
  dsimp only
  rw [dec_lt hj, way_tt, need_t (by omega), Int.toNat_natCast, ih.q _ (by omega) (by omega), call_of, wrap_succ hj (by omega), most_take parsM.q XSelect.z _ hj]
 ·dsimp only; rw [dec_self, way_ff, way_ff]
 dsimp only
 rw [dec_self, way_ff, List.take_length]
 rw [Meas.e_eq]
 exact congrArg some (Int.add_zero _).symm
theorem ProgP_q {F : F33_34} {n : Nat} (ih : ProgP F n) (q : XSelect) (h : XSelect.w q < n + 1) (hk : XSelect.w q < 549755813888) : b34 F q = some (parsM.q q) := by
 unfold b34
 rw [s69_eq q hk, call_of]
 dsimp only
 rw [foldC_most F.p33 parsM.e q.exprs 0 (fun x hx => ih.e x (by have := XSelect.exprs_lt hx; omega) (by have := XSelect.exprs_lt hx; omega)), call_of, foldC_most F.p34 parsM.q q.subs _ (fun x hx => ih.q x (by have := XSelect.subs_lt hx; omega) (by have := XSelect.subs_lt hx; omega)), call_of]
 rw [Meas.q_eq]
 exact congrArg some (Int.add_zero _).symm
theorem ProgP_all : ∀ n, ProgP (F33_34.fix n) n
 | 0 => ⟨fun _ h => absurd h (Nat.not_lt_zero _), fun _ h => absurd h (Nat.not_lt_zero _)⟩
 | n + 1 => ⟨ProgP_e (ProgP_all n), ProgP_q (ProgP_all n)⟩
theorem s33_eq (e : XExpr) (h : XExpr.w e < 549755813888) : s33 e = some (parsM.e e) := (ProgP_all manyC).e e (by unfold manyC; omega) h
theorem s34_eq (q : XSelect) (h : XSelect.w q < 549755813888) : s34 q = some (parsM.q q) := (ProgP_all manyC).q q (by unfold manyC; omega) h
structure RefP (F : F35_70) (n : Nat) : Prop where
 e : ∀ e, 2 * XExpr.w e < n → XExpr.w e < 549755813888 → F.p70 e = some (parsM.e e)
 l : ∀ (l : List XExpr) (m : List XSelect) (h0 : 0 < n) (hl : ∀ x ∈ l, 2 * XExpr.w x + 1 < n ∧ XExpr.w x < 549755813888) (hm : ∀ x ∈ m, 2 * XSelect.w x + 1 < n ∧ XSelect.w x < 549755813888) (h1 : l.length < 549755813888) (h2 : m.length < 549755813888), F.p35 l m = some (most (most 0 (l.map parsM.e)) (m.map parsM.q))
theorem RefP_l {F : F35_70} {n : Nat} (ih : RefP F n) (l : List XExpr) (m : List XSelect) (h0 : 0 < n + 1) (hl : ∀ x ∈ l, 2 * XExpr.w x + 1 < n + 1 ∧ XExpr.w x < 549755813888) (hm : ∀ x ∈ m, 2 * XSelect.w x + 1 < n + 1 ∧ XSelect.w x < 549755813888) (h1 : l.length < 549755813888) (h2 : m.length < 549755813888) : b35 F l m = some (most (most 0 (l.map parsM.e)) (m.map parsM.q)) := by
 unfold b35
 refine (loop_from (fun j : Nat => (most (0 : Int) ((l.take j).map parsM.e), (j : Int))) l.length (by omega) (by simp [most]) (fun k j hj => ?_) (fun k => ?_)).trans ?_
 ·have hm' := getD_mem XExpr.z hj
  obtain ⟨g1, g2⟩ := hl _ hm'
  dsimp only
  rw [dec_lt hj, way_tt, join_of, need_t (by omega), Int.toNat_natCast, ih.e _ (by omega) g2, call_of, wrap_succ hj (by omega), way_gt (fun z => k (z, _)), most_take parsM.e XExpr.z _ hj]
 ·dsimp only; rw [dec_self, way_ff, way_ff]
 dsimp only
 rw [dec_self, way_ff, List.take_length]
 refine (loop_from (fun j : Nat => (most (most 0 (l.map parsM.e)) ((m.take j).map parsM.q), (j : Int))) m.length (by omega) (by simp [most]) (fun k j hj => ?_) (fun k => ?_)).trans ?_
 ·have hm' := getD_mem XSelect.z hj
  obtain ⟨g1, g2⟩ := hm _ hm'
  have hel := exprs_len (m.getD j XSelect.z)
  have hsl := subs_len (m.getD j XSelect.z)
  have hp := (m.getD j XSelect.z).w_pos
  dsimp only
  rw [dec_lt hj, way_tt, join_of, need_t (by omega), need_t (by omega), Int.toNat_natCast, s71_eq _ g2, call_of, s72_eq _ g2, call_of, ih.l _ _ (by omega) (fun x hx => by have := XSelect.exprs_lt hx; omega) (fun x hx => by have := XSelect.subs_lt hx; omega) (by omega) (by omega), call_of, wrap_succ hj (by omega), way_gt (fun z => k (z, _)), most_take parsM.q XSelect.z _ hj, Meas.q_eq]
  rw [show parsM.up = 0 from rfl, Int.add_zero]
 ·dsimp only; rw [dec_self, way_ff, way_ff]
 dsimp only
 rw [dec_self, way_ff, List.take_length]
theorem RefP_e {F : F35_70} {n : Nat} (ih : RefP F n) (e : XExpr) (h : 2 * XExpr.w e < n + 1) (hk : XExpr.w e < 549755813888) : b70 F e = some (parsM.e e) := by
 have ha := args_len e
 have hs := sub_len e
 have hp := e.w_pos
 unfold b70
 rw [ih.l _ _ (by omega) (fun x hx => by have := XExpr.args_lt hx; omega) (fun x hx => by have := XExpr.sub_lt hx; omega) (by omega) (by omega), call_of, join_of]
 rw [Meas.e_eq]
 generalize hY : most (most 0 (e.args.map parsM.e)) (e.sub.map parsM.q) = y
 have hup : parsM.up = 0 := rfl
 by_cases h3 : e.op = 3
 ·rw [show (e.op == 3) = true by simp [h3], way_tt]
  have ho : parsM.own e = max e.n 0 := by simp [parsM, h3, mxI_eq, Int.max_comm]
  rw [ho, most_max, most_max, hY, hup, Int.add_zero]
  by_cases h4 : e.n > y
  ·rw [decide_eq_true h4]; dsimp only; rw [way_tt, Int.max_eq_left (by omega)]
  ·rw [decide_eq_false h4]; dsimp only; rw [way_ff, Int.max_eq_right (by omega)]
 ·rw [show (e.op == 3) = false by simp [h3], way_ff]; dsimp only; rw [way_ff]
  have ho : parsM.own e = 0 := by simp [parsM, h3]
  rw [ho, hY, hup, Int.add_zero]
theorem RefP_all : ∀ n, RefP (F35_70.fix n) n
 | 0 => ⟨fun _ h => absurd h (Nat.not_lt_zero _), fun _ _ h => absurd h (Nat.not_lt_zero _)⟩
 | n + 1 => ⟨RefP_e (RefP_all n), RefP_l (RefP_all n)⟩
theorem refp_l (l : List XExpr) (m : List XSelect) (hl : ∀ x ∈ l, XExpr.w x < 549755813888) (hm : ∀ x ∈ m, XSelect.w x < 549755813888) (h1 : l.length < 549755813888) (h2 : m.length < 549755813888) : s35 l m = some (most (most 0 (l.map parsM.e)) (m.map parsM.q)) :=
 (RefP_all manyC).l l m (by unfold manyC; omega) (fun x hx => by have := hl x hx; unfold manyC; omega) (fun x hx => by have := hm x hx; unfold manyC; omega) h1 h2
end Go.Proofs.YtdgoilofkgdaoaaGreatDoor.Ex
