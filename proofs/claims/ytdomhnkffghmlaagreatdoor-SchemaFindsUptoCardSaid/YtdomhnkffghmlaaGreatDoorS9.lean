/- What is read of a value as data, in abstract values: of whatever the type. -/
import Derived.ChangeArms
import Derived.Test.YtdomhnkffghmlaaGreatDoorRows
import Derived.Test.YtdomhnkffghmlaaGreatDoorSXData
import Derived.Test.YtdomhnkffghmlaaGreatDoorSAmSeq
import Derived.Test.YtdomhnkffghmlaaGreatDoorSAmSpec
import Derived.Test.YtdomhnkffghmlaaGreatDoorSAmEdge
set_option linter.unusedVariables false
set_option linter.unusedSimpArgs false
set_option maxRecDepth 100000
namespace Go.Proofs.YtdomhnkffghmlaaGreatDoor
open Go.Am Go.Ex
/-- All of memory turns no more. -/
def G0 (W : World) : Ghost := ⟨fun b o => W.cell? ⟨b, o, none⟩, fun _ => none, fun _ => none⟩
def H0 : Heap := ⟨fun _ => none, fun _ => none⟩
theorem hrel0 (W : World) (hT : Go.Am.Tables W) : HRel (G0 W) H0 W where
 frz := fun b o v h => h
 box := fun b cs ty h => by cases h
 own := fun g e sz h => by cases h
 sep := fun g g' x x' v v' b h => by cases h
 nobox := fun g x v b h => by cases h
 fin := ⟨0, fun g _ => ⟨rfl, rfl⟩⟩
 ob := fun k x h => by cases h
 tab := fun w hw => by obtain ⟨m, hm⟩ := hT; exact ⟨m, hw 1 0 _ hm⟩
 siz := fun p hp => by cases hp
variable {H : Type} {enc : TypeId × Value → H} {P : Program} {W : World}
/-- A type's readings are of these values, with so much bulk. -/
def Rd (enc : TypeId × Value → H) (P : Program) (W : World) (n : Nat) (T : TypeId) {α : Type} (e : α → List V) (w : α → Nat) : Prop :=
 ∀ cs x, DataW.trod enc P W 0 (fun _ => true) true n T cs = some x → ∃ a, RepL (G0 W) (e a) cs ∧ w a ≤ Rows.uptoBulk x.1
theorem rd_zero {T : TypeId} {α : Type} {e : α → List V} {w : α → Nat} : Rd enc P W 0 T e w := fun cs x h => by simp [DataW.trod] at h
theorem bulk_pos (d : DataW H) : 1 ≤ Rows.uptoBulk d := by
 cases d with
 | lit l => cases l <;> simp [Rows.uptoBulk]
 | nil => simp [Rows.uptoBulk]
 | ptr d => simp [Rows.uptoBulk]
 | slice elems spare => simp [Rows.uptoBulk]
 | agg parts => simp [Rows.uptoBulk]
 | iface t d => simp [Rows.uptoBulk]
 | map entries => simp [Rows.uptoBulk]
 | held h => simp [Rows.uptoBulk]
theorem bulk_append (l r : List (DataW H)) : Rows.uptoBulkAll (l ++ r) = Rows.uptoBulkAll l + Rows.uptoBulkAll r := by
 induction l with
 | nil => simp [Rows.uptoBulkAll]
 | cons x l ih => simp only [List.cons_append, Rows.uptoBulkAll, ih]; omega
theorem rd_bool {n : Nat} {T : TypeId} (h : P.underlying T = some .bool) : Rd enc P W n T (fun z : Bool => [vbool z]) (fun _ => 1) := fun cs x hx => by
 obtain ⟨z, rfl, rfl⟩ := DataW.trod_bool h hx
 exact ⟨z, RepL.cons (Rep.base _) (RepL.nil _), bulk_pos _⟩
theorem rd_strw {n : Nat} {T : TypeId} (h : P.underlying T = some .string) : Rd enc P W n T (fun z : ByteArray => [vstr z]) (fun z => z.size + 1) := fun cs x hx => by
 obtain ⟨z, rfl, rfl, _⟩ := DataW.trod_string h hx
 refine ⟨z, RepL.cons (Rep.base _) (RepL.nil _), ?_⟩
 simp only [Rows.uptoBulk, ByteArray.toList_eq, Array.length_toList]
 exact Nat.le_refl _
theorem mapM_get {α β : Type} (f : α → Option β) : ∀ (l : List α) (ys : List β), l.mapM f = some ys → ys.length = l.length ∧ ∀ (i : Nat) x, l[i]? = some x → f x = ys[i]?
 | [], ys, h => by simp at h; subst h; simp
 | x :: l, ys, h => by
  rw [List.mapM_cons] at h
  cases hx : f x with
  | none => rw [hx] at h; cases h
  | some y =>
   rw [hx] at h
   cases hl : l.mapM f with
   | none => rw [hl] at h; cases h
   | some zs =>
    rw [hl] at h
    cases h
    obtain ⟨h1, h2⟩ := mapM_get f l zs hl
    refine ⟨by simp [h1], fun i z hz => ?_⟩
    cases i with
    | zero => simp at hz; subst hz; simpa using hx
    | succ i => simpa using h2 i z (by simpa using hz)
theorem add_add (b o m j : Nat) : (Addr.add (Addr.add ⟨b, o, none⟩ m) j) = ⟨b, o + (m + j), none⟩ := by
 unfold Addr.add
 by_cases h1 : m = 0 <;> by_cases h2 : j = 0 <;> simp [h1, h2] <;> omega
theorem cells_get {a : Addr} {n : Nat} {cs : List Value} (h : W.cells? 0 a n = some cs) : cs.length = n ∧ ∀ j, j < n → W.cell? (a.add j) = cs[j]? := by
 unfold World.cells? at h
 rw [if_pos (Nat.zero_le _)] at h
 obtain ⟨h1, h2⟩ := mapM_get _ _ _ h
 refine ⟨by simpa using h1, fun j hj => h2 j j (by simp [hj])⟩
theorem rd_slice {n : Nat} {T e : TypeId} {sz : Nat} (ht : P.underlying T = some (.slice e)) (hc : P.cellsOf e = sz) (hsz : 0 < sz) {α : Type} {en : α → List V} {w : α → Nat} (hcell : ∀ a, (en a).length = sz ∧ (en a).all V.isCell = true) (h : Rd enc P W n e en w) :
  Rd enc P W (n + 1) T (fun l : List α => [.slice sz (l.map en)]) (fun l => 1 + (l.map w).sum) := fun cs x hx => by
 rcases DataW.trod_slice ht hx with ⟨rfl, rfl⟩ | ⟨a, len, cap, elems, rest, m, hm, rfl, rfl, _, hlc, hcm, hel, hget, _⟩
 ·exact ⟨[], RepL.cons (Rep.slice0 sz none 0) (RepL.nil _), by simp [Rows.uptoBulk]⟩
 ·obtain rfl : n = m := by omega
  rw [hc] at hget
  have build : ∀ k, k ≤ len → ∃ l : List α, l.length = k ∧ (∀ i (hi : i < l.length), ∃ ci, W.cells? 0 (a.add (i * sz)) sz = some ci ∧ RepL (G0 W) (en l[i]) ci) ∧ (l.map w).sum ≤ Rows.uptoBulkAll ((elems.take k).map (·.1)) := by
   intro k
   induction k with
   | zero => exact fun _ => ⟨[], rfl, fun i hi => by simp at hi, by simp⟩
   | succ k ih =>
    intro hk
    obtain ⟨l, hl, h1, h2⟩ := ih (by omega)
    have hk' : k < elems.length := by omega
    have hg := hget k (by omega)
    rw [List.getElem?_eq_getElem hk'] at hg
    cases hci : W.cells? 0 (a.add (k * sz)) sz with
    | none => rw [hci] at hg; cases hg
    | some ci =>
     rw [hci] at hg
     obtain ⟨y, hy, hw⟩ := h ci _ hg
     refine ⟨l ++ [y], by simp [hl], fun i hi => ?_, ?_⟩
     ·by_cases hlt : i < l.length
      ·rw [List.getElem_append_left hlt]; exact h1 i hlt
      ·obtain rfl : i = l.length := by simp at hi; omega
       rw [List.getElem_append_right (Nat.le_refl _)]
       simp only [Nat.sub_self, List.getElem_cons_zero]
       rw [hl]
       exact ⟨ci, hci, hy⟩
     ·rw [List.take_succ_eq_append_getElem hk', List.map_append, List.map_append, bulk_append, List.sum_append]
      simp only [List.map_cons, List.map_nil, List.sum_cons, List.sum_nil, Rows.uptoBulkAll]
      omega
  obtain ⟨l, hl, h1, h2⟩ := build len (Nat.le_refl _)
  refine ⟨l, RepL.cons ?_ (RepL.nil _), ?_⟩
  ·by_cases h0 : len = 0
   ·subst h0
    obtain rfl := List.eq_nil_of_length_eq_zero hl
    exact Rep.slice0 sz (some a) cap
   ·have hspot : a.spot = none := by
     obtain ⟨ci, hci, _⟩ := h1 0 (by omega)
     obtain ⟨k1, k2⟩ := cells_get hci
     have := k2 0 hsz
     rw [List.getElem?_eq_getElem (by omega)] at this
     simpa [Addr.add] using World.cell?_spot this
    obtain ⟨b, o, sp⟩ := a
    simp only at hspot
    subst hspot
    have cell : ∀ i (hi : i < l.length) j c, (en l[i])[j]? = some c → ∃ v, W.cell? ⟨b, o + (i * sz + j), none⟩ = some v ∧ Rep (G0 W) c v ∧ v.oneCell' = true := fun i hi j c hj => by
     obtain ⟨ci, hci, hr⟩ := h1 i hi
     obtain ⟨k1, k2⟩ := cells_get hci
     obtain ⟨v, hv, hrv⟩ := hr.get hj
     have hjlt : j < sz := by rw [← (hcell l[i]).1]; exact (List.getElem?_eq_some_iff.1 hj).1
     have := k2 j hjlt
     rw [add_add, hv] at this
     exact ⟨v, this, hrv, hrv.oneCell (List.all_eq_true.1 (hcell l[i]).2 c (List.mem_of_getElem? hj))⟩
    have at' : ∀ k, k < l.length * sz → ∃ v, W.cell? ⟨b, o + k, none⟩ = some v ∧ v.oneCell' = true := fun k hk => by
     have hi : k / sz < l.length := Nat.div_lt_of_lt_mul (by rw [Nat.mul_comm]; exact hk)
     have hj : k % sz < (en l[k / sz]).length := by rw [(hcell _).1]; exact Nat.mod_lt _ hsz
     obtain ⟨v, hv, _, h1⟩ := cell (k / sz) hi (k % sz) _ (List.getElem?_eq_getElem hj)
     have e : k / sz * sz + k % sz = k := by rw [Nat.mul_comm]; exact Nat.div_add_mod k sz
     rw [e] at hv
     exact ⟨v, hv, h1⟩
    have key := Rep.slice (G := G0 W) sz (l.map en) b o cap (fun k => (W.cell? ⟨b, o + k, none⟩).getD undef) (fun cs hcs => by
      obtain ⟨y, _, rfl⟩ := List.mem_map.1 hcs
      exact (hcell y).1) (by rw [List.length_map]; omega) hcm (fun k hk => ?_) (fun i j cs c hi hj => ?_) (fun k hk => ?_)
    ·rw [List.length_map, hl] at key; exact key
    ·rw [List.length_map] at hk
     obtain ⟨v, hv, _⟩ := at' k hk
     show W.cell? _ = _
     rw [hv]; rfl
    ·rw [List.getElem?_map] at hi
     by_cases hlt : i < l.length
     ·rw [List.getElem?_eq_getElem hlt] at hi
      cases hi
      obtain ⟨v, hv, hr, _⟩ := cell i hlt j c hj
      rw [hv]; exact hr
     ·rw [List.getElem?_eq_none (by omega)] at hi; cases hi
    ·rw [List.length_map] at hk
     obtain ⟨v, hv, h1⟩ := at' k hk
     rw [hv]; exact h1
  ·have : elems.take len = elems := by rw [← hel, List.take_length]
   rw [this] at h2
   simp only [Rows.uptoBulk]
   omega
theorem len_succ {α : Type} {l : List α} {k : Nat} (h : l.length = k + 1) : ∃ x r, l = x :: r ∧ r.length = k := by
 cases l with
 | nil => simp at h
 | cons x r => exact ⟨x, r, rfl, by simpa using h⟩
theorem fld {n : Nat} {fs : Array Field} {xs : List (DataW H × List MemPlace)} {cs : List Value} (hq : ∀ (i : Nat) (f : Field), fs[i]? = some f → DataW.trod enc P W 0 (fun _ => true) true n f.type ((cs.drop f.offset).take (P.cellsOf f.type)) = xs[i]?)
  (i : Nat) {f : Field} (hf : fs[i]? = some f) {d : DataW H × List MemPlace} (hd : xs[i]? = some d) (T off sz : Nat) (hT : f.type = T) (ho : f.offset = off) (hs : P.cellsOf T = sz) {α : Type} {en : α → List V} {w : α → Nat} (hr : Rd enc P W n T en w) :
  ∃ a, RepL (G0 W) (en a) ((cs.drop off).take sz) ∧ w a ≤ Rows.uptoBulk d.1 := by
 subst hT ho hs
 exact hr _ _ ((hq i f hf).trans hd)
theorem rep_step {G : Ghost} {A B : List V} {cs : List Value} {m k : Nat} (h1 : RepL G A (cs.take m)) (h2 : RepL G B ((cs.drop m).take k)) : RepL G (A ++ B) (cs.take (m + k)) := by
 rw [List.take_add]; exact h1.append h2
end Go.Proofs.YtdomhnkffghmlaaGreatDoor
namespace Go.Ex
open Go.Am
def XKey.w : XKey → Nat
  | ⟨col', coll', desc_'⟩ => 1 + 1 + 1 + 1
theorem XKey.w_eq (t : XKey) : XKey.w t = 1 + 1 + 1 + 1 := by cases t; rw [XKey.w]
theorem XKey.w_pos (t : XKey) : 1 ≤ XKey.w t := by rw [XKey.w_eq]; omega
def XIndex.w : XIndex → Nat
  | ⟨name', table', keys', unique', auto'⟩ => 1 + (name'.size + 1) + (table'.size + 1) + (1 + (keys'.map XKey.w).sum) + 1 + 1
theorem XIndex.w_eq (t : XIndex) : XIndex.w t = 1 + (t.name.size + 1) + (t.table.size + 1) + (1 + (t.keys.map XKey.w).sum) + 1 + 1 := by cases t; rw [XIndex.w]
theorem XIndex.w_pos (t : XIndex) : 1 ≤ XIndex.w t := by rw [XIndex.w_eq]; omega
def XValue.w : XValue → Nat
  | ⟨kind', int', text'⟩ => 1 + 1 + 1 + (text'.size + 1)
theorem XValue.w_eq (t : XValue) : XValue.w t = 1 + 1 + 1 + (t.text.size + 1) := by cases t; rw [XValue.w]
theorem XValue.w_pos (t : XValue) : 1 ≤ XValue.w t := by rw [XValue.w_eq]; omega
mutual
def XSelect.w : XSelect → Nat
  | ⟨with_', parts', order', limit', offset'⟩ => 1 + (1 + (with_'.map XCte.w).sum) + (1 + (parts'.map XPart.w).sum) + (1 + (order'.map XSort.w).sum) + (1 + (limit'.map XExpr.w).sum) + (1 + (offset'.map XExpr.w).sum)
 termination_by t => SizeOf.sizeOf t
 decreasing_by
  all_goals first
    | (have h1 := List.sizeOf_lt_of_mem (‹_› : (_ : _) ∈ (_ : List (List _))); have h2 := List.sizeOf_lt_of_mem (‹_› : (_ : _) ∈ (_ : List _)); simp; omega)
    | decreasing_tactic
def XExpr.w : XExpr → Nat
  | ⟨op', not', table', name', n', v_', args', sub'⟩ => 1 + 1 + 1 + (table'.size + 1) + (name'.size + 1) + 1 + (XValue.w v_') + (1 + (args'.map XExpr.w).sum) + (1 + (sub'.map XSelect.w).sum)
 termination_by t => SizeOf.sizeOf t
 decreasing_by
  all_goals first
    | (have h1 := List.sizeOf_lt_of_mem (‹_› : (_ : _) ∈ (_ : List (List _))); have h2 := List.sizeOf_lt_of_mem (‹_› : (_ : _) ∈ (_ : List _)); simp; omega)
    | decreasing_tactic
def XCte.w : XCte → Nat
  | ⟨name', cols', body'⟩ => 1 + (name'.size + 1) + (1 + (cols'.map (fun z : ByteArray => (z.size + 1))).sum) + (1 + (body'.map XSelect.w).sum)
 termination_by t => SizeOf.sizeOf t
 decreasing_by
  all_goals first
    | (have h1 := List.sizeOf_lt_of_mem (‹_› : (_ : _) ∈ (_ : List (List _))); have h2 := List.sizeOf_lt_of_mem (‹_› : (_ : _) ∈ (_ : List _)); simp; omega)
    | decreasing_tactic
def XPart.w : XPart → Nat
  | ⟨comp', distinct', items', from_', where_', group', having', values'⟩ => 1 + 1 + 1 + (1 + (items'.map XItem.w).sum) + (1 + (from_'.map XSource.w).sum) + (1 + (where_'.map XExpr.w).sum) + (1 + (group'.map XExpr.w).sum) + (1 + (having'.map XExpr.w).sum) + (1 + (values'.map (fun z : (List XExpr) => (1 + (z.map XExpr.w).sum))).sum)
 termination_by t => SizeOf.sizeOf t
 decreasing_by
  all_goals first
    | (have h1 := List.sizeOf_lt_of_mem (‹_› : (_ : _) ∈ (_ : List (List _))); have h2 := List.sizeOf_lt_of_mem (‹_› : (_ : _) ∈ (_ : List _)); simp; omega)
    | decreasing_tactic
def XSort.w : XSort → Nat
  | ⟨expr', desc_'⟩ => 1 + (XExpr.w expr') + 1
 termination_by t => SizeOf.sizeOf t
 decreasing_by
  all_goals first
    | (have h1 := List.sizeOf_lt_of_mem (‹_› : (_ : _) ∈ (_ : List (List _))); have h2 := List.sizeOf_lt_of_mem (‹_› : (_ : _) ∈ (_ : List _)); simp; omega)
    | decreasing_tactic
def XItem.w : XItem → Nat
  | ⟨star', table', expr', as'⟩ => 1 + 1 + (table'.size + 1) + (1 + (expr'.map XExpr.w).sum) + (as'.size + 1)
 termination_by t => SizeOf.sizeOf t
 decreasing_by
  all_goals first
    | (have h1 := List.sizeOf_lt_of_mem (‹_› : (_ : _) ∈ (_ : List (List _))); have h2 := List.sizeOf_lt_of_mem (‹_› : (_ : _) ∈ (_ : List _)); simp; omega)
    | decreasing_tactic
def XSource.w : XSource → Nat
  | ⟨join', name', sub', as', on'⟩ => 1 + 1 + (name'.size + 1) + (1 + (sub'.map XSelect.w).sum) + (as'.size + 1) + (1 + (on'.map XExpr.w).sum)
 termination_by t => SizeOf.sizeOf t
 decreasing_by
  all_goals first
    | (have h1 := List.sizeOf_lt_of_mem (‹_› : (_ : _) ∈ (_ : List (List _))); have h2 := List.sizeOf_lt_of_mem (‹_› : (_ : _) ∈ (_ : List _)); simp; omega)
    | decreasing_tactic
end
theorem XSelect.w_eq (t : XSelect) : XSelect.w t = 1 + (1 + (t.with_.map XCte.w).sum) + (1 + (t.parts.map XPart.w).sum) + (1 + (t.order.map XSort.w).sum) + (1 + (t.limit.map XExpr.w).sum) + (1 + (t.offset.map XExpr.w).sum) := by cases t; rw [XSelect.w]
theorem XSelect.w_pos (t : XSelect) : 1 ≤ XSelect.w t := by rw [XSelect.w_eq]; omega
theorem XExpr.w_eq (t : XExpr) : XExpr.w t = 1 + 1 + 1 + (t.table.size + 1) + (t.name.size + 1) + 1 + (XValue.w t.v_) + (1 + (t.args.map XExpr.w).sum) + (1 + (t.sub.map XSelect.w).sum) := by cases t; rw [XExpr.w]
theorem XExpr.w_pos (t : XExpr) : 1 ≤ XExpr.w t := by rw [XExpr.w_eq]; omega
theorem XCte.w_eq (t : XCte) : XCte.w t = 1 + (t.name.size + 1) + (1 + (t.cols.map (fun z : ByteArray => (z.size + 1))).sum) + (1 + (t.body.map XSelect.w).sum) := by cases t; rw [XCte.w]
theorem XCte.w_pos (t : XCte) : 1 ≤ XCte.w t := by rw [XCte.w_eq]; omega
theorem XPart.w_eq (t : XPart) : XPart.w t = 1 + 1 + 1 + (1 + (t.items.map XItem.w).sum) + (1 + (t.from_.map XSource.w).sum) + (1 + (t.where_.map XExpr.w).sum) + (1 + (t.group.map XExpr.w).sum) + (1 + (t.having.map XExpr.w).sum) + (1 + (t.values.map (fun z : (List XExpr) => (1 + (z.map XExpr.w).sum))).sum) := by cases t; rw [XPart.w]
theorem XPart.w_pos (t : XPart) : 1 ≤ XPart.w t := by rw [XPart.w_eq]; omega
theorem XSort.w_eq (t : XSort) : XSort.w t = 1 + (XExpr.w t.expr) + 1 := by cases t; rw [XSort.w]
theorem XSort.w_pos (t : XSort) : 1 ≤ XSort.w t := by rw [XSort.w_eq]; omega
theorem XItem.w_eq (t : XItem) : XItem.w t = 1 + 1 + (t.table.size + 1) + (1 + (t.expr.map XExpr.w).sum) + (t.as.size + 1) := by cases t; rw [XItem.w]
theorem XItem.w_pos (t : XItem) : 1 ≤ XItem.w t := by rw [XItem.w_eq]; omega
theorem XSource.w_eq (t : XSource) : XSource.w t = 1 + 1 + (t.name.size + 1) + (1 + (t.sub.map XSelect.w).sum) + (t.as.size + 1) + (1 + (t.on.map XExpr.w).sum) := by cases t; rw [XSource.w]
theorem XSource.w_pos (t : XSource) : 1 ≤ XSource.w t := by rw [XSource.w_eq]; omega
def XColDef.w : XColDef → Nat
  | ⟨name', type_', coll', primary', unique', notNull', default', check'⟩ => 1 + (name'.size + 1) + (type_'.size + 1) + 1 + 1 + 1 + 1 + (1 + (default'.map XExpr.w).sum) + (1 + (check'.map XExpr.w).sum)
theorem XColDef.w_eq (t : XColDef) : XColDef.w t = 1 + (t.name.size + 1) + (t.type_.size + 1) + 1 + 1 + 1 + 1 + (1 + (t.default.map XExpr.w).sum) + (1 + (t.check.map XExpr.w).sum) := by cases t; rw [XColDef.w]
theorem XColDef.w_pos (t : XColDef) : 1 ≤ XColDef.w t := by rw [XColDef.w_eq]; omega
def XTable.w : XTable → Nat
  | ⟨name', cols', pk'⟩ => 1 + (name'.size + 1) + (1 + (cols'.map XColDef.w).sum) + 1
theorem XTable.w_eq (t : XTable) : XTable.w t = 1 + (t.name.size + 1) + (1 + (t.cols.map XColDef.w).sum) + 1 := by cases t; rw [XTable.w]
theorem XTable.w_pos (t : XTable) : 1 ≤ XTable.w t := by rw [XTable.w_eq]; omega
def XView.w : XView → Nat
  | ⟨name', cols', select'⟩ => 1 + (name'.size + 1) + (1 + (cols'.map (fun z : ByteArray => (z.size + 1))).sum) + (XSelect.w select')
theorem XView.w_eq (t : XView) : XView.w t = 1 + (t.name.size + 1) + (1 + (t.cols.map (fun z : ByteArray => (z.size + 1))).sum) + (XSelect.w t.select) := by cases t; rw [XView.w]
theorem XView.w_pos (t : XView) : 1 ≤ XView.w t := by rw [XView.w_eq]; omega
def XSchema.w : XSchema → Nat
  | ⟨tables', indexes', views'⟩ => 1 + (1 + (tables'.map XTable.w).sum) + (1 + (indexes'.map XIndex.w).sum) + (1 + (views'.map XView.w).sum)
theorem XSchema.w_eq (t : XSchema) : XSchema.w t = 1 + (1 + (t.tables.map XTable.w).sum) + (1 + (t.indexes.map XIndex.w).sum) + (1 + (t.views.map XView.w).sum) := by cases t; rw [XSchema.w]
theorem XSchema.w_pos (t : XSchema) : 1 ≤ XSchema.w t := by rw [XSchema.w_eq]; omega
end Go.Ex
namespace Go.Proofs.YtdomhnkffghmlaaGreatDoor
open Go.Am Go.Ex
variable {H : Type} {enc : TypeId × Value → H} {W : World}
theorem rd_intk {n : Nat} {T : TypeId} {k : IntKind} (h : Tryz.prog.underlying T = some (.int k)) : Rd enc Tryz.prog W n T (fun z : Int => [V.base (.int k z)]) (fun _ => 1) := fun cs x hx => by
 obtain ⟨z, rfl, rfl, _⟩ := DataW.trod_int h hx
 exact ⟨z, RepL.cons (Rep.base _) (RepL.nil _), bulk_pos _⟩
theorem XIndex_cell (t : XIndex) : (XIndex.v t).length = 5 ∧ (XIndex.v t).all V.isCell = true := ⟨XIndex.v_len t, XIndex.v_all t⟩
theorem XTable_cell (t : XTable) : (XTable.v t).length = 3 ∧ (XTable.v t).all V.isCell = true := ⟨XTable.v_len t, XTable.v_all t⟩
theorem XColDef_cell (t : XColDef) : (XColDef.v t).length = 8 ∧ (XColDef.v t).all V.isCell = true := ⟨XColDef.v_len t, XColDef.v_all t⟩
theorem XKey_cell (t : XKey) : (XKey.v t).length = 3 ∧ (XKey.v t).all V.isCell = true := ⟨XKey.v_len t, XKey.v_all t⟩
theorem XSelect_cell (t : XSelect) : (XSelect.v t).length = 5 ∧ (XSelect.v t).all V.isCell = true := ⟨XSelect.v_len t, XSelect.v_all t⟩
theorem XView_cell (t : XView) : (XView.v t).length = 7 ∧ (XView.v t).all V.isCell = true := ⟨XView.v_len t, XView.v_all t⟩
theorem XExpr_cell (t : XExpr) : (XExpr.v t).length = 10 ∧ (XExpr.v t).all V.isCell = true := ⟨XExpr.v_len t, XExpr.v_all t⟩
theorem XCte_cell (t : XCte) : (XCte.v t).length = 3 ∧ (XCte.v t).all V.isCell = true := ⟨XCte.v_len t, XCte.v_all t⟩
theorem XPart_cell (t : XPart) : (XPart.v t).length = 8 ∧ (XPart.v t).all V.isCell = true := ⟨XPart.v_len t, XPart.v_all t⟩
theorem XSort_cell (t : XSort) : (XSort.v t).length = 11 ∧ (XSort.v t).all V.isCell = true := ⟨XSort.v_len t, XSort.v_all t⟩
theorem XItem_cell (t : XItem) : (XItem.v t).length = 4 ∧ (XItem.v t).all V.isCell = true := ⟨XItem.v_len t, XItem.v_all t⟩
theorem XSource_cell (t : XSource) : (XSource.v t).length = 5 ∧ (XSource.v t).all V.isCell = true := ⟨XSource.v_len t, XSource.v_all t⟩
theorem rd26 {n : Nat} (h22 : Rd enc Tryz.prog W n 22 (fun x : (List XTable) => [V.slice 3 (List.map XTable.v x)]) (fun z : (List XTable) => (1 + (z.map XTable.w).sum))) (h23 : Rd enc Tryz.prog W n 23 (fun x : (List XIndex) => [V.slice 5 (List.map XIndex.v x)]) (fun z : (List XIndex) => (1 + (z.map XIndex.w).sum))) (h24 : Rd enc Tryz.prog W n 24 (fun x : (List XView) => [V.slice 7 (List.map XView.v x)]) (fun z : (List XView) => (1 + (z.map XView.w).sum))) : Rd enc Tryz.prog W (n + 1) 26 XSchema.v XSchema.w := fun cs x hx => by
 obtain ⟨xs, m, hm, rfl, hcs, hl, hq⟩ := DataW.trod_struct Tryz.underlying26 hx
 obtain rfl : n = m := by omega
 have hcs : cs.length = 3 := hcs.trans (by kernel_rfl)
 have hl : xs.length = 3 := hl
 obtain ⟨x0, y0, rfl, l0⟩ := len_succ hl
 obtain ⟨x1, y1, rfl, l1⟩ := len_succ l0
 obtain ⟨x2, y2, rfl, l2⟩ := len_succ l1
 obtain rfl := List.eq_nil_of_length_eq_zero l2
 obtain ⟨a0, r0, w0⟩ := fld hq 0 rfl (d := x0) rfl 22 0 1 rfl rfl (by kernel_rfl) h22
 obtain ⟨a1, r1, w1⟩ := fld hq 1 rfl (d := x1) rfl 23 1 1 rfl rfl (by kernel_rfl) h23
 obtain ⟨a2, r2, w2⟩ := fld hq 2 rfl (d := x2) rfl 24 2 1 rfl rfl (by kernel_rfl) h24
 have q0 : RepL (G0 W) [] (cs.take 0) := by rw [List.take_zero]; exact RepL.nil _
 have q1 := rep_step q0 r0
 have q2 := rep_step q1 r1
 have q3 := rep_step q2 r2
 have e : cs.take 3 = cs := by rw [← hcs, List.take_length]
 simp only [Rows.uptoBulk, Rows.uptoBulkAll, List.map_cons, List.map_nil]
 refine ⟨⟨a0, a1, a2⟩, ?_, ?_⟩
 ·rw [e] at q3; rw [XSchema.v_eq']; simp only [List.nil_append, List.append_assoc, List.cons_append] at q3 ⊢; exact q3
 ·rw [XSchema.w_eq]; simp only at *; omega
theorem rd30 {n : Nat} (h28 : Rd enc Tryz.prog W n 28 (fun x : (List XKey) => [V.slice 3 (List.map XKey.v x)]) (fun z : (List XKey) => (1 + (z.map XKey.w).sum))) : Rd enc Tryz.prog W (n + 1) 30 XIndex.v XIndex.w := fun cs x hx => by
 obtain ⟨xs, m, hm, rfl, hcs, hl, hq⟩ := DataW.trod_struct Tryz.underlying30 hx
 obtain rfl : n = m := by omega
 have hcs : cs.length = 5 := hcs.trans (by kernel_rfl)
 have hl : xs.length = 5 := hl
 obtain ⟨x0, y0, rfl, l0⟩ := len_succ hl
 obtain ⟨x1, y1, rfl, l1⟩ := len_succ l0
 obtain ⟨x2, y2, rfl, l2⟩ := len_succ l1
 obtain ⟨x3, y3, rfl, l3⟩ := len_succ l2
 obtain ⟨x4, y4, rfl, l4⟩ := len_succ l3
 obtain rfl := List.eq_nil_of_length_eq_zero l4
 obtain ⟨a0, r0, w0⟩ := fld hq 0 rfl (d := x0) rfl 9 0 1 rfl rfl (by kernel_rfl) (rd_strw Tryz.underlying9)
 obtain ⟨a1, r1, w1⟩ := fld hq 1 rfl (d := x1) rfl 9 1 1 rfl rfl (by kernel_rfl) (rd_strw Tryz.underlying9)
 obtain ⟨a2, r2, w2⟩ := fld hq 2 rfl (d := x2) rfl 28 2 1 rfl rfl (by kernel_rfl) h28
 obtain ⟨a3, r3, w3⟩ := fld hq 3 rfl (d := x3) rfl 4 3 1 rfl rfl (by kernel_rfl) (rd_bool Tryz.underlying4)
 obtain ⟨a4, r4, w4⟩ := fld hq 4 rfl (d := x4) rfl 4 4 1 rfl rfl (by kernel_rfl) (rd_bool Tryz.underlying4)
 have q0 : RepL (G0 W) [] (cs.take 0) := by rw [List.take_zero]; exact RepL.nil _
 have q1 := rep_step q0 r0
 have q2 := rep_step q1 r1
 have q3 := rep_step q2 r2
 have q4 := rep_step q3 r3
 have q5 := rep_step q4 r4
 have e : cs.take 5 = cs := by rw [← hcs, List.take_length]
 simp only [Rows.uptoBulk, Rows.uptoBulkAll, List.map_cons, List.map_nil]
 refine ⟨⟨a0, a1, a2, a3, a4⟩, ?_, ?_⟩
 ·rw [e] at q5; rw [XIndex.v_eq']; simp only [List.nil_append, List.append_assoc, List.cons_append] at q5 ⊢; exact q5
 ·rw [XIndex.w_eq]; simp only at *; omega
theorem rd34 {n : Nat} (h32 : Rd enc Tryz.prog W n 32 (fun x : (List XColDef) => [V.slice 8 (List.map XColDef.v x)]) (fun z : (List XColDef) => (1 + (z.map XColDef.w).sum))) : Rd enc Tryz.prog W (n + 1) 34 XTable.v XTable.w := fun cs x hx => by
 obtain ⟨xs, m, hm, rfl, hcs, hl, hq⟩ := DataW.trod_struct Tryz.underlying34 hx
 obtain rfl : n = m := by omega
 have hcs : cs.length = 3 := hcs.trans (by kernel_rfl)
 have hl : xs.length = 3 := hl
 obtain ⟨x0, y0, rfl, l0⟩ := len_succ hl
 obtain ⟨x1, y1, rfl, l1⟩ := len_succ l0
 obtain ⟨x2, y2, rfl, l2⟩ := len_succ l1
 obtain rfl := List.eq_nil_of_length_eq_zero l2
 obtain ⟨a0, r0, w0⟩ := fld hq 0 rfl (d := x0) rfl 9 0 1 rfl rfl (by kernel_rfl) (rd_strw Tryz.underlying9)
 obtain ⟨a1, r1, w1⟩ := fld hq 1 rfl (d := x1) rfl 32 1 1 rfl rfl (by kernel_rfl) h32
 obtain ⟨a2, r2, w2⟩ := fld hq 2 rfl (d := x2) rfl 3 2 1 rfl rfl (by kernel_rfl) (rd_intk Tryz.underlying3)
 have q0 : RepL (G0 W) [] (cs.take 0) := by rw [List.take_zero]; exact RepL.nil _
 have q1 := rep_step q0 r0
 have q2 := rep_step q1 r1
 have q3 := rep_step q2 r2
 have e : cs.take 3 = cs := by rw [← hcs, List.take_length]
 simp only [Rows.uptoBulk, Rows.uptoBulkAll, List.map_cons, List.map_nil]
 refine ⟨⟨a0, a1, a2⟩, ?_, ?_⟩
 ·rw [e] at q3; rw [XTable.v_eq']; simp only [List.nil_append, List.append_assoc, List.cons_append] at q3 ⊢; exact q3
 ·rw [XTable.w_eq]; simp only at *; omega
theorem rd44 {n : Nat} (h42 : Rd enc Tryz.prog W n 42 (fun x : (List XExpr) => [V.slice 10 (List.map XExpr.v x)]) (fun z : (List XExpr) => (1 + (z.map XExpr.w).sum))) : Rd enc Tryz.prog W (n + 1) 44 XColDef.v XColDef.w := fun cs x hx => by
 obtain ⟨xs, m, hm, rfl, hcs, hl, hq⟩ := DataW.trod_struct Tryz.underlying44 hx
 obtain rfl : n = m := by omega
 have hcs : cs.length = 8 := hcs.trans (by kernel_rfl)
 have hl : xs.length = 8 := hl
 obtain ⟨x0, y0, rfl, l0⟩ := len_succ hl
 obtain ⟨x1, y1, rfl, l1⟩ := len_succ l0
 obtain ⟨x2, y2, rfl, l2⟩ := len_succ l1
 obtain ⟨x3, y3, rfl, l3⟩ := len_succ l2
 obtain ⟨x4, y4, rfl, l4⟩ := len_succ l3
 obtain ⟨x5, y5, rfl, l5⟩ := len_succ l4
 obtain ⟨x6, y6, rfl, l6⟩ := len_succ l5
 obtain ⟨x7, y7, rfl, l7⟩ := len_succ l6
 obtain rfl := List.eq_nil_of_length_eq_zero l7
 obtain ⟨a0, r0, w0⟩ := fld hq 0 rfl (d := x0) rfl 9 0 1 rfl rfl (by kernel_rfl) (rd_strw Tryz.underlying9)
 obtain ⟨a1, r1, w1⟩ := fld hq 1 rfl (d := x1) rfl 9 1 1 rfl rfl (by kernel_rfl) (rd_strw Tryz.underlying9)
 obtain ⟨a2, r2, w2⟩ := fld hq 2 rfl (d := x2) rfl 40 2 1 rfl rfl (by kernel_rfl) (rd_intk Tryz.underlying40)
 obtain ⟨a3, r3, w3⟩ := fld hq 3 rfl (d := x3) rfl 4 3 1 rfl rfl (by kernel_rfl) (rd_bool Tryz.underlying4)
 obtain ⟨a4, r4, w4⟩ := fld hq 4 rfl (d := x4) rfl 4 4 1 rfl rfl (by kernel_rfl) (rd_bool Tryz.underlying4)
 obtain ⟨a5, r5, w5⟩ := fld hq 5 rfl (d := x5) rfl 4 5 1 rfl rfl (by kernel_rfl) (rd_bool Tryz.underlying4)
 obtain ⟨a6, r6, w6⟩ := fld hq 6 rfl (d := x6) rfl 42 6 1 rfl rfl (by kernel_rfl) h42
 obtain ⟨a7, r7, w7⟩ := fld hq 7 rfl (d := x7) rfl 42 7 1 rfl rfl (by kernel_rfl) h42
 have q0 : RepL (G0 W) [] (cs.take 0) := by rw [List.take_zero]; exact RepL.nil _
 have q1 := rep_step q0 r0
 have q2 := rep_step q1 r1
 have q3 := rep_step q2 r2
 have q4 := rep_step q3 r3
 have q5 := rep_step q4 r4
 have q6 := rep_step q5 r5
 have q7 := rep_step q6 r6
 have q8 := rep_step q7 r7
 have e : cs.take 8 = cs := by rw [← hcs, List.take_length]
 simp only [Rows.uptoBulk, Rows.uptoBulkAll, List.map_cons, List.map_nil]
 refine ⟨⟨a0, a1, a2, a3, a4, a5, a6, a7⟩, ?_, ?_⟩
 ·rw [e] at q8; rw [XColDef.v_eq']; simp only [List.nil_append, List.append_assoc, List.cons_append] at q8 ⊢; exact q8
 ·rw [XColDef.w_eq]; simp only at *; omega
theorem rd62 {n : Nat}  : Rd enc Tryz.prog W (n + 1) 62 XKey.v XKey.w := fun cs x hx => by
 obtain ⟨xs, m, hm, rfl, hcs, hl, hq⟩ := DataW.trod_struct Tryz.underlying62 hx
 obtain rfl : n = m := by omega
 have hcs : cs.length = 3 := hcs.trans (by kernel_rfl)
 have hl : xs.length = 3 := hl
 obtain ⟨x0, y0, rfl, l0⟩ := len_succ hl
 obtain ⟨x1, y1, rfl, l1⟩ := len_succ l0
 obtain ⟨x2, y2, rfl, l2⟩ := len_succ l1
 obtain rfl := List.eq_nil_of_length_eq_zero l2
 obtain ⟨a0, r0, w0⟩ := fld hq 0 rfl (d := x0) rfl 3 0 1 rfl rfl (by kernel_rfl) (rd_intk Tryz.underlying3)
 obtain ⟨a1, r1, w1⟩ := fld hq 1 rfl (d := x1) rfl 40 1 1 rfl rfl (by kernel_rfl) (rd_intk Tryz.underlying40)
 obtain ⟨a2, r2, w2⟩ := fld hq 2 rfl (d := x2) rfl 4 2 1 rfl rfl (by kernel_rfl) (rd_bool Tryz.underlying4)
 have q0 : RepL (G0 W) [] (cs.take 0) := by rw [List.take_zero]; exact RepL.nil _
 have q1 := rep_step q0 r0
 have q2 := rep_step q1 r1
 have q3 := rep_step q2 r2
 have e : cs.take 3 = cs := by rw [← hcs, List.take_length]
 simp only [Rows.uptoBulk, Rows.uptoBulkAll, List.map_cons, List.map_nil]
 refine ⟨⟨a0, a1, a2⟩, ?_, ?_⟩
 ·rw [e] at q3; rw [XKey.v_eq']; simp only [List.nil_append, List.append_assoc, List.cons_append] at q3 ⊢; exact q3
 ·rw [XKey.w_eq]; simp only at *; omega
theorem rd126 {n : Nat} (h122 : Rd enc Tryz.prog W n 122 (fun x : (List XCte) => [V.slice 3 (List.map XCte.v x)]) (fun z : (List XCte) => (1 + (z.map XCte.w).sum))) (h123 : Rd enc Tryz.prog W n 123 (fun x : (List XPart) => [V.slice 8 (List.map XPart.v x)]) (fun z : (List XPart) => (1 + (z.map XPart.w).sum))) (h124 : Rd enc Tryz.prog W n 124 (fun x : (List XSort) => [V.slice 11 (List.map XSort.v x)]) (fun z : (List XSort) => (1 + (z.map XSort.w).sum))) (h42 : Rd enc Tryz.prog W n 42 (fun x : (List XExpr) => [V.slice 10 (List.map XExpr.v x)]) (fun z : (List XExpr) => (1 + (z.map XExpr.w).sum))) : Rd enc Tryz.prog W (n + 1) 126 XSelect.v XSelect.w := fun cs x hx => by
 obtain ⟨xs, m, hm, rfl, hcs, hl, hq⟩ := DataW.trod_struct Tryz.underlying126 hx
 obtain rfl : n = m := by omega
 have hcs : cs.length = 5 := hcs.trans (by kernel_rfl)
 have hl : xs.length = 5 := hl
 obtain ⟨x0, y0, rfl, l0⟩ := len_succ hl
 obtain ⟨x1, y1, rfl, l1⟩ := len_succ l0
 obtain ⟨x2, y2, rfl, l2⟩ := len_succ l1
 obtain ⟨x3, y3, rfl, l3⟩ := len_succ l2
 obtain ⟨x4, y4, rfl, l4⟩ := len_succ l3
 obtain rfl := List.eq_nil_of_length_eq_zero l4
 obtain ⟨a0, r0, w0⟩ := fld hq 0 rfl (d := x0) rfl 122 0 1 rfl rfl (by kernel_rfl) h122
 obtain ⟨a1, r1, w1⟩ := fld hq 1 rfl (d := x1) rfl 123 1 1 rfl rfl (by kernel_rfl) h123
 obtain ⟨a2, r2, w2⟩ := fld hq 2 rfl (d := x2) rfl 124 2 1 rfl rfl (by kernel_rfl) h124
 obtain ⟨a3, r3, w3⟩ := fld hq 3 rfl (d := x3) rfl 42 3 1 rfl rfl (by kernel_rfl) h42
 obtain ⟨a4, r4, w4⟩ := fld hq 4 rfl (d := x4) rfl 42 4 1 rfl rfl (by kernel_rfl) h42
 have q0 : RepL (G0 W) [] (cs.take 0) := by rw [List.take_zero]; exact RepL.nil _
 have q1 := rep_step q0 r0
 have q2 := rep_step q1 r1
 have q3 := rep_step q2 r2
 have q4 := rep_step q3 r3
 have q5 := rep_step q4 r4
 have e : cs.take 5 = cs := by rw [← hcs, List.take_length]
 simp only [Rows.uptoBulk, Rows.uptoBulkAll, List.map_cons, List.map_nil]
 refine ⟨⟨a0, a1, a2, a3, a4⟩, ?_, ?_⟩
 ·rw [e] at q5; rw [XSelect.v_eq']; simp only [List.nil_append, List.append_assoc, List.cons_append] at q5 ⊢; exact q5
 ·rw [XSelect.w_eq]; simp only at *; omega
theorem rd128 {n : Nat} (h54 : Rd enc Tryz.prog W n 54 (fun x : (List ByteArray) => [V.slice 1 (List.map (fun x => [vstr x]) x)]) (fun z : (List ByteArray) => (1 + (z.map (fun z : ByteArray => (z.size + 1))).sum))) (h126 : Rd enc Tryz.prog W n 126 XSelect.v XSelect.w) : Rd enc Tryz.prog W (n + 1) 128 XView.v XView.w := fun cs x hx => by
 obtain ⟨xs, m, hm, rfl, hcs, hl, hq⟩ := DataW.trod_struct Tryz.underlying128 hx
 obtain rfl : n = m := by omega
 have hcs : cs.length = 7 := hcs.trans (by kernel_rfl)
 have hl : xs.length = 3 := hl
 obtain ⟨x0, y0, rfl, l0⟩ := len_succ hl
 obtain ⟨x1, y1, rfl, l1⟩ := len_succ l0
 obtain ⟨x2, y2, rfl, l2⟩ := len_succ l1
 obtain rfl := List.eq_nil_of_length_eq_zero l2
 obtain ⟨a0, r0, w0⟩ := fld hq 0 rfl (d := x0) rfl 9 0 1 rfl rfl (by kernel_rfl) (rd_strw Tryz.underlying9)
 obtain ⟨a1, r1, w1⟩ := fld hq 1 rfl (d := x1) rfl 54 1 1 rfl rfl (by kernel_rfl) h54
 obtain ⟨a2, r2, w2⟩ := fld hq 2 rfl (d := x2) rfl 126 2 5 rfl rfl (by kernel_rfl) h126
 have q0 : RepL (G0 W) [] (cs.take 0) := by rw [List.take_zero]; exact RepL.nil _
 have q1 := rep_step q0 r0
 have q2 := rep_step q1 r1
 have q3 := rep_step q2 r2
 have e : cs.take 7 = cs := by rw [← hcs, List.take_length]
 simp only [Rows.uptoBulk, Rows.uptoBulkAll, List.map_cons, List.map_nil]
 refine ⟨⟨a0, a1, a2⟩, ?_, ?_⟩
 ·rw [e] at q3; rw [XView.v_eq']; simp only [List.nil_append, List.append_assoc, List.cons_append] at q3 ⊢; exact q3
 ·rw [XView.w_eq]; simp only at *; omega
theorem rd154 {n : Nat}  : Rd enc Tryz.prog W (n + 1) 154 XValue.v XValue.w := fun cs x hx => by
 obtain ⟨xs, m, hm, rfl, hcs, hl, hq⟩ := DataW.trod_struct Tryz.underlying154 hx
 obtain rfl : n = m := by omega
 have hcs : cs.length = 3 := hcs.trans (by kernel_rfl)
 have hl : xs.length = 3 := hl
 obtain ⟨x0, y0, rfl, l0⟩ := len_succ hl
 obtain ⟨x1, y1, rfl, l1⟩ := len_succ l0
 obtain ⟨x2, y2, rfl, l2⟩ := len_succ l1
 obtain rfl := List.eq_nil_of_length_eq_zero l2
 obtain ⟨a0, r0, w0⟩ := fld hq 0 rfl (d := x0) rfl 152 0 1 rfl rfl (by kernel_rfl) (rd_intk Tryz.underlying152)
 obtain ⟨a1, r1, w1⟩ := fld hq 1 rfl (d := x1) rfl 2 1 1 rfl rfl (by kernel_rfl) (rd_intk Tryz.underlying2)
 obtain ⟨a2, r2, w2⟩ := fld hq 2 rfl (d := x2) rfl 9 2 1 rfl rfl (by kernel_rfl) (rd_strw Tryz.underlying9)
 have q0 : RepL (G0 W) [] (cs.take 0) := by rw [List.take_zero]; exact RepL.nil _
 have q1 := rep_step q0 r0
 have q2 := rep_step q1 r1
 have q3 := rep_step q2 r2
 have e : cs.take 3 = cs := by rw [← hcs, List.take_length]
 simp only [Rows.uptoBulk, Rows.uptoBulkAll, List.map_cons, List.map_nil]
 refine ⟨⟨a0, a1, a2⟩, ?_, ?_⟩
 ·rw [e] at q3; rw [XValue.v_eq']; simp only [List.nil_append, List.append_assoc, List.cons_append] at q3 ⊢; exact q3
 ·rw [XValue.w_eq]; simp only at *; omega
theorem rd156 {n : Nat} (h154 : Rd enc Tryz.prog W n 154 XValue.v XValue.w) (h42 : Rd enc Tryz.prog W n 42 (fun x : (List XExpr) => [V.slice 10 (List.map XExpr.v x)]) (fun z : (List XExpr) => (1 + (z.map XExpr.w).sum))) (h57 : Rd enc Tryz.prog W n 57 (fun x : (List XSelect) => [V.slice 5 (List.map XSelect.v x)]) (fun z : (List XSelect) => (1 + (z.map XSelect.w).sum))) : Rd enc Tryz.prog W (n + 1) 156 XExpr.v XExpr.w := fun cs x hx => by
 obtain ⟨xs, m, hm, rfl, hcs, hl, hq⟩ := DataW.trod_struct Tryz.underlying156 hx
 obtain rfl : n = m := by omega
 have hcs : cs.length = 10 := hcs.trans (by kernel_rfl)
 have hl : xs.length = 8 := hl
 obtain ⟨x0, y0, rfl, l0⟩ := len_succ hl
 obtain ⟨x1, y1, rfl, l1⟩ := len_succ l0
 obtain ⟨x2, y2, rfl, l2⟩ := len_succ l1
 obtain ⟨x3, y3, rfl, l3⟩ := len_succ l2
 obtain ⟨x4, y4, rfl, l4⟩ := len_succ l3
 obtain ⟨x5, y5, rfl, l5⟩ := len_succ l4
 obtain ⟨x6, y6, rfl, l6⟩ := len_succ l5
 obtain ⟨x7, y7, rfl, l7⟩ := len_succ l6
 obtain rfl := List.eq_nil_of_length_eq_zero l7
 obtain ⟨a0, r0, w0⟩ := fld hq 0 rfl (d := x0) rfl 151 0 1 rfl rfl (by kernel_rfl) (rd_intk Tryz.underlying151)
 obtain ⟨a1, r1, w1⟩ := fld hq 1 rfl (d := x1) rfl 4 1 1 rfl rfl (by kernel_rfl) (rd_bool Tryz.underlying4)
 obtain ⟨a2, r2, w2⟩ := fld hq 2 rfl (d := x2) rfl 9 2 1 rfl rfl (by kernel_rfl) (rd_strw Tryz.underlying9)
 obtain ⟨a3, r3, w3⟩ := fld hq 3 rfl (d := x3) rfl 9 3 1 rfl rfl (by kernel_rfl) (rd_strw Tryz.underlying9)
 obtain ⟨a4, r4, w4⟩ := fld hq 4 rfl (d := x4) rfl 3 4 1 rfl rfl (by kernel_rfl) (rd_intk Tryz.underlying3)
 obtain ⟨a5, r5, w5⟩ := fld hq 5 rfl (d := x5) rfl 154 5 3 rfl rfl (by kernel_rfl) h154
 obtain ⟨a6, r6, w6⟩ := fld hq 6 rfl (d := x6) rfl 42 8 1 rfl rfl (by kernel_rfl) h42
 obtain ⟨a7, r7, w7⟩ := fld hq 7 rfl (d := x7) rfl 57 9 1 rfl rfl (by kernel_rfl) h57
 have q0 : RepL (G0 W) [] (cs.take 0) := by rw [List.take_zero]; exact RepL.nil _
 have q1 := rep_step q0 r0
 have q2 := rep_step q1 r1
 have q3 := rep_step q2 r2
 have q4 := rep_step q3 r3
 have q5 := rep_step q4 r4
 have q6 := rep_step q5 r5
 have q7 := rep_step q6 r6
 have q8 := rep_step q7 r7
 have e : cs.take 10 = cs := by rw [← hcs, List.take_length]
 simp only [Rows.uptoBulk, Rows.uptoBulkAll, List.map_cons, List.map_nil]
 refine ⟨⟨a0, a1, a2, a3, a4, a5, a6, a7⟩, ?_, ?_⟩
 ·rw [e] at q8; rw [XExpr.v_eq']; simp only [List.nil_append, List.append_assoc, List.cons_append] at q8 ⊢; exact q8
 ·rw [XExpr.w_eq]; simp only at *; omega
theorem rd284 {n : Nat} (h54 : Rd enc Tryz.prog W n 54 (fun x : (List ByteArray) => [V.slice 1 (List.map (fun x => [vstr x]) x)]) (fun z : (List ByteArray) => (1 + (z.map (fun z : ByteArray => (z.size + 1))).sum))) (h57 : Rd enc Tryz.prog W n 57 (fun x : (List XSelect) => [V.slice 5 (List.map XSelect.v x)]) (fun z : (List XSelect) => (1 + (z.map XSelect.w).sum))) : Rd enc Tryz.prog W (n + 1) 284 XCte.v XCte.w := fun cs x hx => by
 obtain ⟨xs, m, hm, rfl, hcs, hl, hq⟩ := DataW.trod_struct Tryz.underlying284 hx
 obtain rfl : n = m := by omega
 have hcs : cs.length = 3 := hcs.trans (by kernel_rfl)
 have hl : xs.length = 3 := hl
 obtain ⟨x0, y0, rfl, l0⟩ := len_succ hl
 obtain ⟨x1, y1, rfl, l1⟩ := len_succ l0
 obtain ⟨x2, y2, rfl, l2⟩ := len_succ l1
 obtain rfl := List.eq_nil_of_length_eq_zero l2
 obtain ⟨a0, r0, w0⟩ := fld hq 0 rfl (d := x0) rfl 9 0 1 rfl rfl (by kernel_rfl) (rd_strw Tryz.underlying9)
 obtain ⟨a1, r1, w1⟩ := fld hq 1 rfl (d := x1) rfl 54 1 1 rfl rfl (by kernel_rfl) h54
 obtain ⟨a2, r2, w2⟩ := fld hq 2 rfl (d := x2) rfl 57 2 1 rfl rfl (by kernel_rfl) h57
 have q0 : RepL (G0 W) [] (cs.take 0) := by rw [List.take_zero]; exact RepL.nil _
 have q1 := rep_step q0 r0
 have q2 := rep_step q1 r1
 have q3 := rep_step q2 r2
 have e : cs.take 3 = cs := by rw [← hcs, List.take_length]
 simp only [Rows.uptoBulk, Rows.uptoBulkAll, List.map_cons, List.map_nil]
 refine ⟨⟨a0, a1, a2⟩, ?_, ?_⟩
 ·rw [e] at q3; rw [XCte.v_eq']; simp only [List.nil_append, List.append_assoc, List.cons_append] at q3 ⊢; exact q3
 ·rw [XCte.w_eq]; simp only at *; omega
theorem rd292 {n : Nat} (h288 : Rd enc Tryz.prog W n 288 (fun x : (List XItem) => [V.slice 4 (List.map XItem.v x)]) (fun z : (List XItem) => (1 + (z.map XItem.w).sum))) (h289 : Rd enc Tryz.prog W n 289 (fun x : (List XSource) => [V.slice 5 (List.map XSource.v x)]) (fun z : (List XSource) => (1 + (z.map XSource.w).sum))) (h42 : Rd enc Tryz.prog W n 42 (fun x : (List XExpr) => [V.slice 10 (List.map XExpr.v x)]) (fun z : (List XExpr) => (1 + (z.map XExpr.w).sum))) (h290 : Rd enc Tryz.prog W n 290 (fun x : (List (List XExpr)) => [V.slice 1 (List.map (fun x => [V.slice 10 (List.map XExpr.v x)]) x)]) (fun z : (List (List XExpr)) => (1 + (z.map (fun z : (List XExpr) => (1 + (z.map XExpr.w).sum))).sum))) : Rd enc Tryz.prog W (n + 1) 292 XPart.v XPart.w := fun cs x hx => by
 obtain ⟨xs, m, hm, rfl, hcs, hl, hq⟩ := DataW.trod_struct Tryz.underlying292 hx
 obtain rfl : n = m := by omega
 have hcs : cs.length = 8 := hcs.trans (by kernel_rfl)
 have hl : xs.length = 8 := hl
 obtain ⟨x0, y0, rfl, l0⟩ := len_succ hl
 obtain ⟨x1, y1, rfl, l1⟩ := len_succ l0
 obtain ⟨x2, y2, rfl, l2⟩ := len_succ l1
 obtain ⟨x3, y3, rfl, l3⟩ := len_succ l2
 obtain ⟨x4, y4, rfl, l4⟩ := len_succ l3
 obtain ⟨x5, y5, rfl, l5⟩ := len_succ l4
 obtain ⟨x6, y6, rfl, l6⟩ := len_succ l5
 obtain ⟨x7, y7, rfl, l7⟩ := len_succ l6
 obtain rfl := List.eq_nil_of_length_eq_zero l7
 obtain ⟨a0, r0, w0⟩ := fld hq 0 rfl (d := x0) rfl 287 0 1 rfl rfl (by kernel_rfl) (rd_intk Tryz.underlying287)
 obtain ⟨a1, r1, w1⟩ := fld hq 1 rfl (d := x1) rfl 4 1 1 rfl rfl (by kernel_rfl) (rd_bool Tryz.underlying4)
 obtain ⟨a2, r2, w2⟩ := fld hq 2 rfl (d := x2) rfl 288 2 1 rfl rfl (by kernel_rfl) h288
 obtain ⟨a3, r3, w3⟩ := fld hq 3 rfl (d := x3) rfl 289 3 1 rfl rfl (by kernel_rfl) h289
 obtain ⟨a4, r4, w4⟩ := fld hq 4 rfl (d := x4) rfl 42 4 1 rfl rfl (by kernel_rfl) h42
 obtain ⟨a5, r5, w5⟩ := fld hq 5 rfl (d := x5) rfl 42 5 1 rfl rfl (by kernel_rfl) h42
 obtain ⟨a6, r6, w6⟩ := fld hq 6 rfl (d := x6) rfl 42 6 1 rfl rfl (by kernel_rfl) h42
 obtain ⟨a7, r7, w7⟩ := fld hq 7 rfl (d := x7) rfl 290 7 1 rfl rfl (by kernel_rfl) h290
 have q0 : RepL (G0 W) [] (cs.take 0) := by rw [List.take_zero]; exact RepL.nil _
 have q1 := rep_step q0 r0
 have q2 := rep_step q1 r1
 have q3 := rep_step q2 r2
 have q4 := rep_step q3 r3
 have q5 := rep_step q4 r4
 have q6 := rep_step q5 r5
 have q7 := rep_step q6 r6
 have q8 := rep_step q7 r7
 have e : cs.take 8 = cs := by rw [← hcs, List.take_length]
 simp only [Rows.uptoBulk, Rows.uptoBulkAll, List.map_cons, List.map_nil]
 refine ⟨⟨a0, a1, a2, a3, a4, a5, a6, a7⟩, ?_, ?_⟩
 ·rw [e] at q8; rw [XPart.v_eq']; simp only [List.nil_append, List.append_assoc, List.cons_append] at q8 ⊢; exact q8
 ·rw [XPart.w_eq]; simp only at *; omega
theorem rd296 {n : Nat} (h156 : Rd enc Tryz.prog W n 156 XExpr.v XExpr.w) : Rd enc Tryz.prog W (n + 1) 296 XSort.v XSort.w := fun cs x hx => by
 obtain ⟨xs, m, hm, rfl, hcs, hl, hq⟩ := DataW.trod_struct Tryz.underlying296 hx
 obtain rfl : n = m := by omega
 have hcs : cs.length = 11 := hcs.trans (by kernel_rfl)
 have hl : xs.length = 2 := hl
 obtain ⟨x0, y0, rfl, l0⟩ := len_succ hl
 obtain ⟨x1, y1, rfl, l1⟩ := len_succ l0
 obtain rfl := List.eq_nil_of_length_eq_zero l1
 obtain ⟨a0, r0, w0⟩ := fld hq 0 rfl (d := x0) rfl 156 0 10 rfl rfl (by kernel_rfl) h156
 obtain ⟨a1, r1, w1⟩ := fld hq 1 rfl (d := x1) rfl 4 10 1 rfl rfl (by kernel_rfl) (rd_bool Tryz.underlying4)
 have q0 : RepL (G0 W) [] (cs.take 0) := by rw [List.take_zero]; exact RepL.nil _
 have q1 := rep_step q0 r0
 have q2 := rep_step q1 r1
 have e : cs.take 11 = cs := by rw [← hcs, List.take_length]
 simp only [Rows.uptoBulk, Rows.uptoBulkAll, List.map_cons, List.map_nil]
 refine ⟨⟨a0, a1⟩, ?_, ?_⟩
 ·rw [e] at q2; rw [XSort.v_eq']; simp only [List.nil_append, List.append_assoc, List.cons_append] at q2 ⊢; exact q2
 ·rw [XSort.w_eq]; simp only at *; omega
theorem rd320 {n : Nat} (h42 : Rd enc Tryz.prog W n 42 (fun x : (List XExpr) => [V.slice 10 (List.map XExpr.v x)]) (fun z : (List XExpr) => (1 + (z.map XExpr.w).sum))) : Rd enc Tryz.prog W (n + 1) 320 XItem.v XItem.w := fun cs x hx => by
 obtain ⟨xs, m, hm, rfl, hcs, hl, hq⟩ := DataW.trod_struct Tryz.underlying320 hx
 obtain rfl : n = m := by omega
 have hcs : cs.length = 4 := hcs.trans (by kernel_rfl)
 have hl : xs.length = 4 := hl
 obtain ⟨x0, y0, rfl, l0⟩ := len_succ hl
 obtain ⟨x1, y1, rfl, l1⟩ := len_succ l0
 obtain ⟨x2, y2, rfl, l2⟩ := len_succ l1
 obtain ⟨x3, y3, rfl, l3⟩ := len_succ l2
 obtain rfl := List.eq_nil_of_length_eq_zero l3
 obtain ⟨a0, r0, w0⟩ := fld hq 0 rfl (d := x0) rfl 4 0 1 rfl rfl (by kernel_rfl) (rd_bool Tryz.underlying4)
 obtain ⟨a1, r1, w1⟩ := fld hq 1 rfl (d := x1) rfl 9 1 1 rfl rfl (by kernel_rfl) (rd_strw Tryz.underlying9)
 obtain ⟨a2, r2, w2⟩ := fld hq 2 rfl (d := x2) rfl 42 2 1 rfl rfl (by kernel_rfl) h42
 obtain ⟨a3, r3, w3⟩ := fld hq 3 rfl (d := x3) rfl 9 3 1 rfl rfl (by kernel_rfl) (rd_strw Tryz.underlying9)
 have q0 : RepL (G0 W) [] (cs.take 0) := by rw [List.take_zero]; exact RepL.nil _
 have q1 := rep_step q0 r0
 have q2 := rep_step q1 r1
 have q3 := rep_step q2 r2
 have q4 := rep_step q3 r3
 have e : cs.take 4 = cs := by rw [← hcs, List.take_length]
 simp only [Rows.uptoBulk, Rows.uptoBulkAll, List.map_cons, List.map_nil]
 refine ⟨⟨a0, a1, a2, a3⟩, ?_, ?_⟩
 ·rw [e] at q4; rw [XItem.v_eq']; simp only [List.nil_append, List.append_assoc, List.cons_append] at q4 ⊢; exact q4
 ·rw [XItem.w_eq]; simp only at *; omega
theorem rd323 {n : Nat} (h57 : Rd enc Tryz.prog W n 57 (fun x : (List XSelect) => [V.slice 5 (List.map XSelect.v x)]) (fun z : (List XSelect) => (1 + (z.map XSelect.w).sum))) (h42 : Rd enc Tryz.prog W n 42 (fun x : (List XExpr) => [V.slice 10 (List.map XExpr.v x)]) (fun z : (List XExpr) => (1 + (z.map XExpr.w).sum))) : Rd enc Tryz.prog W (n + 1) 323 XSource.v XSource.w := fun cs x hx => by
 obtain ⟨xs, m, hm, rfl, hcs, hl, hq⟩ := DataW.trod_struct Tryz.underlying323 hx
 obtain rfl : n = m := by omega
 have hcs : cs.length = 5 := hcs.trans (by kernel_rfl)
 have hl : xs.length = 5 := hl
 obtain ⟨x0, y0, rfl, l0⟩ := len_succ hl
 obtain ⟨x1, y1, rfl, l1⟩ := len_succ l0
 obtain ⟨x2, y2, rfl, l2⟩ := len_succ l1
 obtain ⟨x3, y3, rfl, l3⟩ := len_succ l2
 obtain ⟨x4, y4, rfl, l4⟩ := len_succ l3
 obtain rfl := List.eq_nil_of_length_eq_zero l4
 obtain ⟨a0, r0, w0⟩ := fld hq 0 rfl (d := x0) rfl 321 0 1 rfl rfl (by kernel_rfl) (rd_intk Tryz.underlying321)
 obtain ⟨a1, r1, w1⟩ := fld hq 1 rfl (d := x1) rfl 9 1 1 rfl rfl (by kernel_rfl) (rd_strw Tryz.underlying9)
 obtain ⟨a2, r2, w2⟩ := fld hq 2 rfl (d := x2) rfl 57 2 1 rfl rfl (by kernel_rfl) h57
 obtain ⟨a3, r3, w3⟩ := fld hq 3 rfl (d := x3) rfl 9 3 1 rfl rfl (by kernel_rfl) (rd_strw Tryz.underlying9)
 obtain ⟨a4, r4, w4⟩ := fld hq 4 rfl (d := x4) rfl 42 4 1 rfl rfl (by kernel_rfl) h42
 have q0 : RepL (G0 W) [] (cs.take 0) := by rw [List.take_zero]; exact RepL.nil _
 have q1 := rep_step q0 r0
 have q2 := rep_step q1 r1
 have q3 := rep_step q2 r2
 have q4 := rep_step q3 r3
 have q5 := rep_step q4 r4
 have e : cs.take 5 = cs := by rw [← hcs, List.take_length]
 simp only [Rows.uptoBulk, Rows.uptoBulkAll, List.map_cons, List.map_nil]
 refine ⟨⟨a0, a1, a2, a3, a4⟩, ?_, ?_⟩
 ·rw [e] at q5; rw [XSource.v_eq']; simp only [List.nil_append, List.append_assoc, List.cons_append] at q5 ⊢; exact q5
 ·rw [XSource.w_eq]; simp only at *; omega
/-- All at once. -/
structure RdAll (enc : TypeId × Value → H) (W : World) (n : Nat) : Prop where
 h26 : Rd enc Tryz.prog W n 26 XSchema.v XSchema.w
 h30 : Rd enc Tryz.prog W n 30 XIndex.v XIndex.w
 h34 : Rd enc Tryz.prog W n 34 XTable.v XTable.w
 h44 : Rd enc Tryz.prog W n 44 XColDef.v XColDef.w
 h62 : Rd enc Tryz.prog W n 62 XKey.v XKey.w
 h126 : Rd enc Tryz.prog W n 126 XSelect.v XSelect.w
 h128 : Rd enc Tryz.prog W n 128 XView.v XView.w
 h154 : Rd enc Tryz.prog W n 154 XValue.v XValue.w
 h156 : Rd enc Tryz.prog W n 156 XExpr.v XExpr.w
 h284 : Rd enc Tryz.prog W n 284 XCte.v XCte.w
 h292 : Rd enc Tryz.prog W n 292 XPart.v XPart.w
 h296 : Rd enc Tryz.prog W n 296 XSort.v XSort.w
 h320 : Rd enc Tryz.prog W n 320 XItem.v XItem.w
 h323 : Rd enc Tryz.prog W n 323 XSource.v XSource.w
 h22 : Rd enc Tryz.prog W n 22 (fun x : (List XTable) => [V.slice 3 (List.map XTable.v x)]) (fun z : (List XTable) => (1 + (z.map XTable.w).sum))
 h23 : Rd enc Tryz.prog W n 23 (fun x : (List XIndex) => [V.slice 5 (List.map XIndex.v x)]) (fun z : (List XIndex) => (1 + (z.map XIndex.w).sum))
 h24 : Rd enc Tryz.prog W n 24 (fun x : (List XView) => [V.slice 7 (List.map XView.v x)]) (fun z : (List XView) => (1 + (z.map XView.w).sum))
 h28 : Rd enc Tryz.prog W n 28 (fun x : (List XKey) => [V.slice 3 (List.map XKey.v x)]) (fun z : (List XKey) => (1 + (z.map XKey.w).sum))
 h32 : Rd enc Tryz.prog W n 32 (fun x : (List XColDef) => [V.slice 8 (List.map XColDef.v x)]) (fun z : (List XColDef) => (1 + (z.map XColDef.w).sum))
 h42 : Rd enc Tryz.prog W n 42 (fun x : (List XExpr) => [V.slice 10 (List.map XExpr.v x)]) (fun z : (List XExpr) => (1 + (z.map XExpr.w).sum))
 h122 : Rd enc Tryz.prog W n 122 (fun x : (List XCte) => [V.slice 3 (List.map XCte.v x)]) (fun z : (List XCte) => (1 + (z.map XCte.w).sum))
 h123 : Rd enc Tryz.prog W n 123 (fun x : (List XPart) => [V.slice 8 (List.map XPart.v x)]) (fun z : (List XPart) => (1 + (z.map XPart.w).sum))
 h124 : Rd enc Tryz.prog W n 124 (fun x : (List XSort) => [V.slice 11 (List.map XSort.v x)]) (fun z : (List XSort) => (1 + (z.map XSort.w).sum))
 h54 : Rd enc Tryz.prog W n 54 (fun x : (List ByteArray) => [V.slice 1 (List.map (fun x => [vstr x]) x)]) (fun z : (List ByteArray) => (1 + (z.map (fun z : ByteArray => (z.size + 1))).sum))
 h57 : Rd enc Tryz.prog W n 57 (fun x : (List XSelect) => [V.slice 5 (List.map XSelect.v x)]) (fun z : (List XSelect) => (1 + (z.map XSelect.w).sum))
 h288 : Rd enc Tryz.prog W n 288 (fun x : (List XItem) => [V.slice 4 (List.map XItem.v x)]) (fun z : (List XItem) => (1 + (z.map XItem.w).sum))
 h289 : Rd enc Tryz.prog W n 289 (fun x : (List XSource) => [V.slice 5 (List.map XSource.v x)]) (fun z : (List XSource) => (1 + (z.map XSource.w).sum))
 h290 : Rd enc Tryz.prog W n 290 (fun x : (List (List XExpr)) => [V.slice 1 (List.map (fun x => [V.slice 10 (List.map XExpr.v x)]) x)]) (fun z : (List (List XExpr)) => (1 + (z.map (fun z : (List XExpr) => (1 + (z.map XExpr.w).sum))).sum))
theorem rd_all (enc : TypeId × Value → H) (W : World) : ∀ n, RdAll enc W n
 | 0 => by constructor <;> exact rd_zero
 | n + 1 => by
  have h := rd_all enc W n
  have g26 : Rd enc Tryz.prog W (n + 1) 26 XSchema.v XSchema.w := rd26 h.h22 h.h23 h.h24
  have g30 : Rd enc Tryz.prog W (n + 1) 30 XIndex.v XIndex.w := rd30 h.h28
  have g34 : Rd enc Tryz.prog W (n + 1) 34 XTable.v XTable.w := rd34 h.h32
  have g44 : Rd enc Tryz.prog W (n + 1) 44 XColDef.v XColDef.w := rd44 h.h42
  have g62 : Rd enc Tryz.prog W (n + 1) 62 XKey.v XKey.w := rd62
  have g126 : Rd enc Tryz.prog W (n + 1) 126 XSelect.v XSelect.w := rd126 h.h122 h.h123 h.h124 h.h42
  have g128 : Rd enc Tryz.prog W (n + 1) 128 XView.v XView.w := rd128 h.h54 h.h126
  have g154 : Rd enc Tryz.prog W (n + 1) 154 XValue.v XValue.w := rd154
  have g156 : Rd enc Tryz.prog W (n + 1) 156 XExpr.v XExpr.w := rd156 h.h154 h.h42 h.h57
  have g284 : Rd enc Tryz.prog W (n + 1) 284 XCte.v XCte.w := rd284 h.h54 h.h57
  have g292 : Rd enc Tryz.prog W (n + 1) 292 XPart.v XPart.w := rd292 h.h288 h.h289 h.h42 h.h290
  have g296 : Rd enc Tryz.prog W (n + 1) 296 XSort.v XSort.w := rd296 h.h156
  have g320 : Rd enc Tryz.prog W (n + 1) 320 XItem.v XItem.w := rd320 h.h42
  have g323 : Rd enc Tryz.prog W (n + 1) 323 XSource.v XSource.w := rd323 h.h57 h.h42
  have g22 : Rd enc Tryz.prog W (n + 1) 22 (fun x : (List XTable) => [V.slice 3 (List.map XTable.v x)]) (fun z : (List XTable) => (1 + (z.map XTable.w).sum)) := rd_slice Tryz.underlying22 (by kernel_rfl : Tryz.prog.cellsOf 34 = 3) (by decide) XTable_cell h.h34
  have g23 : Rd enc Tryz.prog W (n + 1) 23 (fun x : (List XIndex) => [V.slice 5 (List.map XIndex.v x)]) (fun z : (List XIndex) => (1 + (z.map XIndex.w).sum)) := rd_slice Tryz.underlying23 (by kernel_rfl : Tryz.prog.cellsOf 30 = 5) (by decide) XIndex_cell h.h30
  have g24 : Rd enc Tryz.prog W (n + 1) 24 (fun x : (List XView) => [V.slice 7 (List.map XView.v x)]) (fun z : (List XView) => (1 + (z.map XView.w).sum)) := rd_slice Tryz.underlying24 (by kernel_rfl : Tryz.prog.cellsOf 128 = 7) (by decide) XView_cell h.h128
  have g28 : Rd enc Tryz.prog W (n + 1) 28 (fun x : (List XKey) => [V.slice 3 (List.map XKey.v x)]) (fun z : (List XKey) => (1 + (z.map XKey.w).sum)) := rd_slice Tryz.underlying28 (by kernel_rfl : Tryz.prog.cellsOf 62 = 3) (by decide) XKey_cell h.h62
  have g32 : Rd enc Tryz.prog W (n + 1) 32 (fun x : (List XColDef) => [V.slice 8 (List.map XColDef.v x)]) (fun z : (List XColDef) => (1 + (z.map XColDef.w).sum)) := rd_slice Tryz.underlying32 (by kernel_rfl : Tryz.prog.cellsOf 44 = 8) (by decide) XColDef_cell h.h44
  have g42 : Rd enc Tryz.prog W (n + 1) 42 (fun x : (List XExpr) => [V.slice 10 (List.map XExpr.v x)]) (fun z : (List XExpr) => (1 + (z.map XExpr.w).sum)) := rd_slice Tryz.underlying42 (by kernel_rfl : Tryz.prog.cellsOf 156 = 10) (by decide) XExpr_cell h.h156
  have g122 : Rd enc Tryz.prog W (n + 1) 122 (fun x : (List XCte) => [V.slice 3 (List.map XCte.v x)]) (fun z : (List XCte) => (1 + (z.map XCte.w).sum)) := rd_slice Tryz.underlying122 (by kernel_rfl : Tryz.prog.cellsOf 284 = 3) (by decide) XCte_cell h.h284
  have g123 : Rd enc Tryz.prog W (n + 1) 123 (fun x : (List XPart) => [V.slice 8 (List.map XPart.v x)]) (fun z : (List XPart) => (1 + (z.map XPart.w).sum)) := rd_slice Tryz.underlying123 (by kernel_rfl : Tryz.prog.cellsOf 292 = 8) (by decide) XPart_cell h.h292
  have g124 : Rd enc Tryz.prog W (n + 1) 124 (fun x : (List XSort) => [V.slice 11 (List.map XSort.v x)]) (fun z : (List XSort) => (1 + (z.map XSort.w).sum)) := rd_slice Tryz.underlying124 (by kernel_rfl : Tryz.prog.cellsOf 296 = 11) (by decide) XSort_cell h.h296
  have g54 : Rd enc Tryz.prog W (n + 1) 54 (fun x : (List ByteArray) => [V.slice 1 (List.map (fun x => [vstr x]) x)]) (fun z : (List ByteArray) => (1 + (z.map (fun z : ByteArray => (z.size + 1))).sum)) := rd_slice Tryz.underlying54 (by kernel_rfl : Tryz.prog.cellsOf 9 = 1) (by decide) (fun a => ⟨rfl, rfl⟩) (rd_strw Tryz.underlying9)
  have g57 : Rd enc Tryz.prog W (n + 1) 57 (fun x : (List XSelect) => [V.slice 5 (List.map XSelect.v x)]) (fun z : (List XSelect) => (1 + (z.map XSelect.w).sum)) := rd_slice Tryz.underlying57 (by kernel_rfl : Tryz.prog.cellsOf 126 = 5) (by decide) XSelect_cell h.h126
  have g288 : Rd enc Tryz.prog W (n + 1) 288 (fun x : (List XItem) => [V.slice 4 (List.map XItem.v x)]) (fun z : (List XItem) => (1 + (z.map XItem.w).sum)) := rd_slice Tryz.underlying288 (by kernel_rfl : Tryz.prog.cellsOf 320 = 4) (by decide) XItem_cell h.h320
  have g289 : Rd enc Tryz.prog W (n + 1) 289 (fun x : (List XSource) => [V.slice 5 (List.map XSource.v x)]) (fun z : (List XSource) => (1 + (z.map XSource.w).sum)) := rd_slice Tryz.underlying289 (by kernel_rfl : Tryz.prog.cellsOf 323 = 5) (by decide) XSource_cell h.h323
  have g290 : Rd enc Tryz.prog W (n + 1) 290 (fun x : (List (List XExpr)) => [V.slice 1 (List.map (fun x => [V.slice 10 (List.map XExpr.v x)]) x)]) (fun z : (List (List XExpr)) => (1 + (z.map (fun z : (List XExpr) => (1 + (z.map XExpr.w).sum))).sum)) := rd_slice Tryz.underlying290 (by kernel_rfl : Tryz.prog.cellsOf 42 = 1) (by decide) (fun a => ⟨rfl, rfl⟩) h.h42
  exact ⟨g26, g30, g34, g44, g62, g126, g128, g154, g156, g284, g292, g296, g320, g323, g22, g23, g24, g28, g32, g42, g122, g123, g124, g54, g57, g288, g289, g290⟩
end Go.Proofs.YtdomhnkffghmlaaGreatDoor
namespace Go.Proofs.YtdomhnkffghmlaaGreatDoor
open Go.Am Go.Ex
theorem rep_one {G : Ghost} {c : V} {v : Value} (h : RepL G [c] [v]) : Rep G c v := by
 obtain ⟨v', vs', e, h1, h2⟩ := h.uncons
 cases e; exact h1
end Go.Proofs.YtdomhnkffghmlaaGreatDoor
namespace Go.Am
theorem wrap_succ {i n : Nat} (hi : i < n) (hn : n ≤ 4611686018427387000) : IntKind.i64.wrap ((i : Int) + 1) = ((i + 1 : Nat) : Int) := by
 rw [wrap_id (by omega) (by omega)]; simp
theorem need_t {α : Type} {p : Prop} [Decidable p] {k : Option α} (h : p) : need p k = k := if_pos h
theorem way_tt {α : Type} {a b : Option α} : way true a b = a := rfl
theorem way_ff {α : Type} {a b : Option α} : way false a b = b := rfl
theorem call_of {α β : Type} {y : α} {f : α → Option β} : call (some y) f = f y := rfl
theorem join_of {X α : Type} {b : (X → Option α) → Option α} {k : X → Option α} : join b k = b k := rfl
theorem loopC_succ {X α : Type} {b : (X → Option α) → X → Option α} {n : Nat} {q : X} : loopC b (n + 1) q = b (loopC b n) q := rfl
theorem way_if {α : Type} {b : Bool} {x y : Option α} : way b x y = if b = true then x else y := by cases b <;> rfl
theorem length_le_sum {α : Type} (f : α → Nat) (h : ∀ x, 1 ≤ f x) : ∀ l : List α, l.length ≤ (l.map f).sum
 | [] => Nat.le_refl _
 | x :: l => by have := length_le_sum f h l; have := h x; simp only [List.length_cons, List.map_cons, List.sum_cons]; omega
theorem mem_le_sum {α : Type} (f : α → Nat) : ∀ {l : List α} {x : α}, x ∈ l → f x ≤ (l.map f).sum
 | y :: l, x, h => by
  simp only [List.map_cons, List.sum_cons]
  rcases List.mem_cons.1 h with rfl | h
  ·omega
  ·have := mem_le_sum f h; omega
end Go.Am
