/- Depth and parameters, as plain functions, and the expressions and selects within a select. -/
import Derived.Test.YtdgoilofkgdaoaaGreatDoorE5
import Derived.Test.YtdgoilofkgdaoaaGreatDoorE3
import Derived.Test.YtdgoilofkgdaoaaGreatDoorE1
import Derived.Test.YtdgoilofkgdaoaaGreatDoorE2
set_option linter.unusedVariables false
set_option linter.unusedSimpArgs false
set_option maxRecDepth 100000
set_option maxHeartbeats 4000000
namespace Go.Ex
open Go.Am
def XPart.exprs (p : XPart) : List XExpr := (p.items.map XItem.expr).flatten ++ (p.from_.map XSource.on).flatten ++ p.where_ ++ p.group ++ p.having ++ p.values.flatten
def XPart.subs (p : XPart) : List XSelect := (p.from_.map XSource.sub).flatten
def XSelect.exprs (q : XSelect) : List XExpr := (q.parts.map XPart.exprs).flatten ++ q.order.map XSort.expr ++ q.limit ++ q.offset
def XSelect.subs (q : XSelect) : List XSelect := (q.with_.map XCte.body).flatten ++ (q.parts.map XPart.subs).flatten
theorem sum_flatten {α β : Type} (f : β → Nat) (g : α → List β) (w : α → Nat) : ∀ l : List α, (∀ x ∈ l, ((g x).map f).sum ≤ w x) → (((l.map g).flatten).map f).sum ≤ (l.map w).sum
 | [], _ => Nat.le_refl _
 | x :: l, h => by
  have h1 := h x (by simp)
  have h2 := sum_flatten f g w l fun y hy => h y (by simp [hy])
  simp only [List.map_cons, List.flatten_cons, List.map_append, List.sum_append, List.sum_cons]
  omega
theorem XPart.exprs_w (p : XPart) : (p.exprs.map XExpr.w).sum + 1 ≤ XPart.w p := by
 rw [XPart.w_eq]
 have h1 := sum_flatten XExpr.w XItem.expr XItem.w p.items fun x _ => by rw [XItem.w_eq]; omega
 have h2 := sum_flatten XExpr.w XSource.on XSource.w p.from_ fun x _ => by rw [XSource.w_eq]; omega
 have h3 := sum_flatten XExpr.w (fun z : List XExpr => z) (fun z : List XExpr => (1 + (z.map XExpr.w).sum)) p.values fun x _ => by simp
 simp only [List.map_id'] at h3
 simp only [XPart.exprs, List.map_append, List.sum_append]
 omega
theorem XPart.subs_w (p : XPart) : (p.subs.map XSelect.w).sum + 1 ≤ XPart.w p := by
 rw [XPart.w_eq]
 have h2 := sum_flatten XSelect.w XSource.sub XSource.w p.from_ fun x _ => by rw [XSource.w_eq]; omega
 simp only [XPart.subs]
 omega
theorem XSelect.exprs_w (q : XSelect) : (q.exprs.map XExpr.w).sum + 1 ≤ XSelect.w q := by
 rw [XSelect.w_eq]
 have h1 := sum_flatten XExpr.w XPart.exprs XPart.w q.parts fun x _ => by have := x.exprs_w; omega
 have h2 := sum_flatten XExpr.w (fun t : XSort => [t.expr]) XSort.w q.order fun x _ => by rw [XSort.w_eq]; simp; omega
 have e : (q.order.map fun t : XSort => [t.expr]).flatten = q.order.map XSort.expr := by
  induction q.order with
  | nil => rfl
  | cons x l ih => simp [ih]
 rw [e] at h2
 simp only [XSelect.exprs, List.map_append, List.sum_append]
 omega
theorem XSelect.subs_w (q : XSelect) : (q.subs.map XSelect.w).sum + 1 ≤ XSelect.w q := by
 rw [XSelect.w_eq]
 have h1 := sum_flatten XSelect.w XPart.subs XPart.w q.parts fun x _ => by have := x.subs_w; omega
 have h2 := sum_flatten XSelect.w XCte.body XCte.w q.with_ fun x _ => by rw [XCte.w_eq]; omega
 simp only [XSelect.subs, List.map_append, List.sum_append]
 omega
theorem XSelect.exprs_lt {q : XSelect} {e : XExpr} (h : e ∈ q.exprs) : XExpr.w e < XSelect.w q := by
 have := mem_le_sum XExpr.w h; have := q.exprs_w; omega
theorem XSelect.subs_lt {q s : XSelect} (h : s ∈ q.subs) : XSelect.w s < XSelect.w q := by
 have := mem_le_sum XSelect.w h; have := q.subs_w; omega
theorem XExpr.args_lt {t e : XExpr} (h : e ∈ t.args) : XExpr.w e < XExpr.w t := by
 have := mem_le_sum XExpr.w h; have := t.w_eq; omega
theorem XExpr.sub_lt {t : XExpr} {s : XSelect} (h : s ∈ t.sub) : XSelect.w s < XExpr.w t := by
 have := mem_le_sum XSelect.w h; have := t.w_eq; omega
/-- The most of a list, and 0. -/
def most (b : Int) (l : List Int) : Int := l.foldl mxI b
/-- A walk over expressions and the selects within: by fuel. -/
structure Meas where
 own : XExpr → Int
 up : Int
/-- The measure of an expression and of a select: the most of what is within, and what it adds. -/
def meas (a : Meas) : Nat → (XExpr → Int) × (XSelect → Int)
 | 0 => (fun _ => 0, fun _ => 0)
 | n + 1 => (fun e => most (most (a.own e) (e.args.map (meas a n).1)) (e.sub.map (meas a n).2) + a.up,
   fun q => most (most 0 (q.exprs.map (meas a n).1)) (q.subs.map (meas a n).2) + a.up)
theorem map_congr' {α β : Type} {f g : α → β} : ∀ {l : List α}, (∀ x ∈ l, f x = g x) → l.map f = l.map g
 | [], _ => rfl
 | x :: l, h => by rw [List.map_cons, List.map_cons, h x (by simp), map_congr' fun y hy => h y (by simp [hy])]
theorem meas_eq (a : Meas) : ∀ n m, (∀ e, XExpr.w e ≤ n → XExpr.w e ≤ m → (meas a n).1 e = (meas a m).1 e) ∧ (∀ q, XSelect.w q ≤ n → XSelect.w q ≤ m → (meas a n).2 q = (meas a m).2 q)
 | 0, m => ⟨fun e h => by have := e.w_pos; omega, fun q h => by have := q.w_pos; omega⟩
 | n + 1, 0 => ⟨fun e _ h => by have := e.w_pos; omega, fun q _ h => by have := q.w_pos; omega⟩
 | n + 1, m + 1 => by
  obtain ⟨i1, i2⟩ := meas_eq a n m
  refine ⟨fun e h1 h2 => ?_, fun q h1 h2 => ?_⟩
  ·show most (most (a.own e) (e.args.map (meas a n).1)) (e.sub.map (meas a n).2) + a.up = most (most (a.own e) (e.args.map (meas a m).1)) (e.sub.map (meas a m).2) + a.up
   rw [map_congr' fun x hx => i1 x (by have := XExpr.args_lt hx; omega) (by have := XExpr.args_lt hx; omega), map_congr' fun x hx => i2 x (by have := XExpr.sub_lt hx; omega) (by have := XExpr.sub_lt hx; omega)]
  ·show most (most 0 (q.exprs.map (meas a n).1)) (q.subs.map (meas a n).2) + a.up = most (most 0 (q.exprs.map (meas a m).1)) (q.subs.map (meas a m).2) + a.up
   rw [map_congr' fun x hx => i1 x (by have := XSelect.exprs_lt hx; omega) (by have := XSelect.exprs_lt hx; omega), map_congr' fun x hx => i2 x (by have := XSelect.subs_lt hx; omega) (by have := XSelect.subs_lt hx; omega)]
def Meas.e (a : Meas) (e : XExpr) : Int := (meas a (XExpr.w e)).1 e
def Meas.q (a : Meas) (q : XSelect) : Int := (meas a (XSelect.w q)).2 q
theorem Meas.q_eq (a : Meas) (q : XSelect) : a.q q = most (most 0 (q.exprs.map a.e)) (q.subs.map a.q) + a.up := by
 have h := q.w_pos
 unfold Meas.q
 obtain ⟨n, hn⟩ : ∃ n, XSelect.w q = n + 1 := ⟨XSelect.w q - 1, by omega⟩
 rw [hn]
 show most (most 0 (q.exprs.map (meas a n).1)) (q.subs.map (meas a n).2) + a.up = _
 rw [map_congr' (g := a.e) fun x hx => (meas_eq a n _).1 x (by have := XSelect.exprs_lt hx; omega) (Nat.le_refl _), map_congr' (g := a.q) fun x hx => (meas_eq a n _).2 x (by have := XSelect.subs_lt hx; omega) (Nat.le_refl _)]
 rfl
/-- A loop that runs along a row of states. -/
theorem loop_st {X β : Type} (st : Nat → X) (n : Nat) (hn : n ≤ 4611686018427387000) {b : (X → Option β) → X → Option β} (hb : ∀ k i, i < n → b k (st i) = k (st (i + 1))) (he : ∀ k, b k (st n) = b (fun _ => none) (st n)) : loopC b manyC (st 0) = b (fun _ => none) (st n) := by
 have key : ∀ d i m, i + d = n → d < m → loopC b m (st i) = b (fun _ => none) (st n) := by
  intro d
  induction d with
  | zero =>
   intro i m hi hm
   obtain rfl : i = n := by omega
   cases m with
   | zero => omega
   | succ m => rw [loopC_succ, he]
  | succ d ih =>
   intro i m hi hm
   cases m with
   | zero => omega
   | succ m => rw [loopC_succ, hb _ i (by omega)]; exact ih (i + 1) m (by omega) (by omega)
 exact key n 0 manyC (by omega) (by unfold manyC; omega)
theorem take_succ_map {α β : Type} (f : α → β) (z : α) {l : List α} {i : Nat} (h : i < l.length) : (l.take (i + 1)).map f = (l.take i).map f ++ [f (l.getD i z)] := by
 have e : l[i]? = some (l.getD i z) := by rw [List.getD_eq_getElem?_getD, List.getElem?_eq_getElem h]; rfl
 rw [List.take_add_one, e]
 simp only [Option.toList, List.map_append, List.map_cons, List.map_nil]
theorem flat_take {α β : Type} (f : α → List β) (z : α) (b : List β) {l : List α} {i : Nat} (h : i < l.length) : b ++ ((l.take (i + 1)).map f).flatten = (b ++ ((l.take i).map f).flatten) ++ f (l.getD i z) := by
 rw [take_succ_map f z h, List.flatten_append]; simp
end Go.Ex
namespace Go.Proofs.YtdgoilofkgdaoaaGreatDoor.Ex
open Go.Am Go.Ex Go.Proofs.YtdgoilofkgdaoaaGreatDoor
theorem loop_from {X β : Type} (st : Nat → X) (n : Nat) (hn : n ≤ 4611686018427387000) {b : (X → Option β) → X → Option β} {x0 : X} (h0 : st 0 = x0) (hb : ∀ k i, i < n → b k (st i) = k (st (i + 1))) (he : ∀ k, b k (st n) = b (fun _ => none) (st n)) : loopC b manyC x0 = b (fun _ => none) (st n) := h0 ▸ loop_st st n hn hb he
theorem flat_len {α β : Type} (f : α → List β) (z : α) (b : List β) {l : List α} {i : Nat} (h : i < l.length) : (b ++ ((l.take i).map f).flatten).length + (f (l.getD i z)).length ≤ b.length + ((l.map f).flatten).length := by
 have e1 := congrArg List.length (flat_take f z b h)
 have e2 := congrArg List.length (congrArg List.flatten (congrArg (List.map f) (List.take_append_drop (i + 1) l)))
 simp only [List.map_append, List.flatten_append, List.length_append] at e1 e2 ⊢
 omega
theorem s15_eq (L : List (List XExpr)) (h1 : L.length < 549755813888) (h2 : L.flatten.length < 549755813888) : s15 L = some L.flatten := by
 unfold s15
 have hid : ∀ i, i < L.length → ((L.take i).flatten).length + (L.getD i []).length ≤ L.flatten.length := fun i hi => by
  have := flat_len (fun z : List XExpr => z) [] [] hi
  simpa using this
 refine (loop_from (fun j : Nat => ((((L.take j).flatten.length : Nat) : Int), (j : Int))) L.length (by omega) (by simp) (fun k j hj => ?_) (fun k => ?_)).trans ?_
 ·dsimp only
  have hf := hid j hj
  have he : (L.take (j + 1)).flatten.length = (L.take j).flatten.length + (L.getD j []).length := by
   have := congrArg List.length (flat_take (fun z : List XExpr => z) [] [] hj)
   simpa using this
  rw [dec_lt hj, way_tt, need_t (by omega), Int.toNat_natCast, wrap_succ hj (by omega), wrap_id (by omega) (by omega), decide_eq_false (by omega), way_ff, he]
  simp
 ·dsimp only; rw [dec_self, way_ff, way_ff]
 dsimp only
 rw [dec_self, way_ff, List.take_length]
 rw [need_t (by omega)]
 refine (loop_from (fun j : Nat => (([] : List XExpr) ++ ((L.take j).map fun z : List XExpr => z).flatten, (j : Int))) L.length (by omega) (by simp) (fun k j hj => ?_) (fun k => ?_)).trans ?_
 ·dsimp only
  have hf := flat_len (fun z : List XExpr => z) [] ([] : List XExpr) hj
  simp only [List.map_id', List.length_nil, Nat.zero_add] at hf
  have e := flat_take (fun z : List XExpr => z) [] ([] : List XExpr) hj
  rw [e, dec_lt hj, way_tt, need_t (by omega), Int.toNat_natCast, wrap_succ hj (by omega), need_t (by simp only [List.map_id']; omega)]
 ·dsimp only; rw [dec_self, way_ff, way_ff]
 dsimp only
 rw [dec_self, way_ff, List.take_length]
 simp
end Go.Proofs.YtdgoilofkgdaoaaGreatDoor.Ex
