/- What is read of a value as data, in abstract values: of whatever the type. -/
import Derived.ChangeArms
import Derived.Test.YtdgoilofkgdaoaaGreatDoorRows
import Derived.Test.YtdgoilofkgdaoaaGreatDoorEXData
import Derived.Test.YtdgoilofkgdaoaaGreatDoorEAmSeq
import Derived.Test.YtdgoilofkgdaoaaGreatDoorE9
import Derived.Test.YtdgoilofkgdaoaaGreatDoorE14
set_option linter.unusedVariables false
set_option linter.unusedSimpArgs false
set_option maxRecDepth 100000
namespace Go.Proofs.YtdgoilofkgdaoaaGreatDoor
open Go.Am Go.Ex
/-- All of memory turns no more. -/
def G0 (W : World) : Ghost := ⟨fun b o => W.cell? ⟨b, o, none⟩, fun _ => none, fun _ => none⟩
def H0 : Heap := ⟨fun _ => none, fun _ => none⟩
theorem hrel0 (W : World) (hT : Go.Am.Tables W) : HRel (G0 W) H0 W where
 frz := fun b o v h => h
 box := fun b cs ty h => by cases h
 own := fun g e sz h => by cases h
 sep := fun g g' x x' v v' b h => by cases h
 nobox := fun g x v b h => by cases h
 fin := ⟨0, fun g _ => ⟨rfl, rfl⟩⟩
 ob := fun k x h => by cases h
 tab := fun w hw => by obtain ⟨m, hm⟩ := hT; exact ⟨m, hw 1 0 _ hm⟩
 siz := fun p hp => by cases hp
variable {H : Type} {enc : TypeId × Value → H} {P : Program} {W : World}
/-- A type's readings are of these values, with so much bulk. -/
def Rd (enc : TypeId × Value → H) (P : Program) (W : World) (n : Nat) (T : TypeId) {α : Type} (e : α → List V) (w : α → Nat) : Prop :=
 ∀ cs x, DataW.trod enc P W 0 (fun _ => true) true n T cs = some x → ∃ a, RepL (G0 W) (e a) cs ∧ w a ≤ Rows.uptoBulk x.1
theorem rd_zero {T : TypeId} {α : Type} {e : α → List V} {w : α → Nat} : Rd enc P W 0 T e w := fun cs x h => by simp [DataW.trod] at h
theorem bulk_pos (d : DataW H) : 1 ≤ Rows.uptoBulk d := by
 cases d with
 | lit l => cases l <;> simp [Rows.uptoBulk]
 | nil => simp [Rows.uptoBulk]
 | ptr d => simp [Rows.uptoBulk]
 | slice elems spare => simp [Rows.uptoBulk]
 | agg parts => simp [Rows.uptoBulk]
 | iface t d => simp [Rows.uptoBulk]
 | map entries => simp [Rows.uptoBulk]
 | held h => simp [Rows.uptoBulk]
theorem bulk_append (l r : List (DataW H)) : Rows.uptoBulkAll (l ++ r) = Rows.uptoBulkAll l + Rows.uptoBulkAll r := by
 induction l with
 | nil => simp [Rows.uptoBulkAll]
 | cons x l ih => simp only [List.cons_append, Rows.uptoBulkAll, ih]; omega
theorem rd_int {n : Nat} {T : TypeId} (h : P.underlying T = some (.int .i64)) : Rd enc P W n T (fun z : Int => [vint z]) (fun _ => 1) := fun cs x hx => by
 obtain ⟨z, rfl, rfl, _⟩ := DataW.trod_int h hx
 exact ⟨z, RepL.cons (Rep.base _) (RepL.nil _), bulk_pos _⟩
theorem rd_bool {n : Nat} {T : TypeId} (h : P.underlying T = some .bool) : Rd enc P W n T (fun z : Bool => [vbool z]) (fun _ => 1) := fun cs x hx => by
 obtain ⟨z, rfl, rfl⟩ := DataW.trod_bool h hx
 exact ⟨z, RepL.cons (Rep.base _) (RepL.nil _), bulk_pos _⟩
theorem rd_strw {n : Nat} {T : TypeId} (h : P.underlying T = some .string) : Rd enc P W n T (fun z : ByteArray => [vstr z]) (fun z => z.size + 1) := fun cs x hx => by
 obtain ⟨z, rfl, rfl, _⟩ := DataW.trod_string h hx
 refine ⟨z, RepL.cons (Rep.base _) (RepL.nil _), ?_⟩
 simp only [Rows.uptoBulk, ByteArray.toList_eq, Array.length_toList]
 exact Nat.le_refl _
theorem mapM_get {α β : Type} (f : α → Option β) : ∀ (l : List α) (ys : List β), l.mapM f = some ys → ys.length = l.length ∧ ∀ (i : Nat) x, l[i]? = some x → f x = ys[i]?
 | [], ys, h => by simp at h; subst h; simp
 | x :: l, ys, h => by
  rw [List.mapM_cons] at h
  cases hx : f x with
  | none => rw [hx] at h; cases h
  | some y =>
   rw [hx] at h
   cases hl : l.mapM f with
   | none => rw [hl] at h; cases h
   | some zs =>
    rw [hl] at h
    cases h
    obtain ⟨h1, h2⟩ := mapM_get f l zs hl
    refine ⟨by simp [h1], fun i z hz => ?_⟩
    cases i with
    | zero => simp at hz; subst hz; simpa using hx
    | succ i => simpa using h2 i z (by simpa using hz)
theorem add_add (b o m j : Nat) : (Addr.add (Addr.add ⟨b, o, none⟩ m) j) = ⟨b, o + (m + j), none⟩ := by
 unfold Addr.add
 by_cases h1 : m = 0 <;> by_cases h2 : j = 0 <;> simp [h1, h2] <;> omega
theorem cells_get {a : Addr} {n : Nat} {cs : List Value} (h : W.cells? 0 a n = some cs) : cs.length = n ∧ ∀ j, j < n → W.cell? (a.add j) = cs[j]? := by
 unfold World.cells? at h
 rw [if_pos (Nat.zero_le _)] at h
 obtain ⟨h1, h2⟩ := mapM_get _ _ _ h
 refine ⟨by simpa using h1, fun j hj => h2 j j (by simp [hj])⟩
theorem rd_slice {n : Nat} {T e : TypeId} {sz : Nat} (ht : P.underlying T = some (.slice e)) (hc : P.cellsOf e = sz) (hsz : 0 < sz) {α : Type} {en : α → List V} {w : α → Nat} (hcell : ∀ a, (en a).length = sz ∧ (en a).all V.isCell = true) (h : Rd enc P W n e en w) :
  Rd enc P W (n + 1) T (fun l : List α => [.slice sz (l.map en)]) (fun l => 1 + (l.map w).sum) := fun cs x hx => by
 rcases DataW.trod_slice ht hx with ⟨rfl, rfl⟩ | ⟨a, len, cap, elems, rest, m, hm, rfl, rfl, _, hlc, hcm, hel, hget, _⟩
 ·exact ⟨[], RepL.cons (Rep.slice0 sz none 0) (RepL.nil _), by simp [Rows.uptoBulk]⟩
 ·obtain rfl : n = m := by omega
  rw [hc] at hget
  have build : ∀ k, k ≤ len → ∃ l : List α, l.length = k ∧ (∀ i (hi : i < l.length), ∃ ci, W.cells? 0 (a.add (i * sz)) sz = some ci ∧ RepL (G0 W) (en l[i]) ci) ∧ (l.map w).sum ≤ Rows.uptoBulkAll ((elems.take k).map (·.1)) := by
   intro k
   induction k with
   | zero => exact fun _ => ⟨[], rfl, fun i hi => by simp at hi, by simp⟩
   | succ k ih =>
    intro hk
    obtain ⟨l, hl, h1, h2⟩ := ih (by omega)
    have hk' : k < elems.length := by omega
    have hg := hget k (by omega)
    rw [List.getElem?_eq_getElem hk'] at hg
    cases hci : W.cells? 0 (a.add (k * sz)) sz with
    | none => rw [hci] at hg; cases hg
    | some ci =>
     rw [hci] at hg
     obtain ⟨y, hy, hw⟩ := h ci _ hg
     refine ⟨l ++ [y], by simp [hl], fun i hi => ?_, ?_⟩
     ·by_cases hlt : i < l.length
      ·rw [List.getElem_append_left hlt]; exact h1 i hlt
      ·obtain rfl : i = l.length := by simp at hi; omega
       rw [List.getElem_append_right (Nat.le_refl _)]
       simp only [Nat.sub_self, List.getElem_cons_zero]
       rw [hl]
       exact ⟨ci, hci, hy⟩
     ·rw [List.take_succ_eq_append_getElem hk', List.map_append, List.map_append, bulk_append, List.sum_append]
      simp only [List.map_cons, List.map_nil, List.sum_cons, List.sum_nil, Rows.uptoBulkAll]
      omega
  obtain ⟨l, hl, h1, h2⟩ := build len (Nat.le_refl _)
  refine ⟨l, RepL.cons ?_ (RepL.nil _), ?_⟩
  ·by_cases h0 : len = 0
   ·subst h0
    obtain rfl := List.eq_nil_of_length_eq_zero hl
    exact Rep.slice0 sz (some a) cap
   ·have hspot : a.spot = none := by
     obtain ⟨ci, hci, _⟩ := h1 0 (by omega)
     obtain ⟨k1, k2⟩ := cells_get hci
     have := k2 0 hsz
     rw [List.getElem?_eq_getElem (by omega)] at this
     simpa [Addr.add] using World.cell?_spot this
    obtain ⟨b, o, sp⟩ := a
    simp only at hspot
    subst hspot
    have cell : ∀ i (hi : i < l.length) j c, (en l[i])[j]? = some c → ∃ v, W.cell? ⟨b, o + (i * sz + j), none⟩ = some v ∧ Rep (G0 W) c v ∧ v.oneCell' = true := fun i hi j c hj => by
     obtain ⟨ci, hci, hr⟩ := h1 i hi
     obtain ⟨k1, k2⟩ := cells_get hci
     obtain ⟨v, hv, hrv⟩ := hr.get hj
     have hjlt : j < sz := by rw [← (hcell l[i]).1]; exact (List.getElem?_eq_some_iff.1 hj).1
     have := k2 j hjlt
     rw [add_add, hv] at this
     exact ⟨v, this, hrv, hrv.oneCell (List.all_eq_true.1 (hcell l[i]).2 c (List.mem_of_getElem? hj))⟩
    have at' : ∀ k, k < l.length * sz → ∃ v, W.cell? ⟨b, o + k, none⟩ = some v ∧ v.oneCell' = true := fun k hk => by
     have hi : k / sz < l.length := Nat.div_lt_of_lt_mul (by rw [Nat.mul_comm]; exact hk)
     have hj : k % sz < (en l[k / sz]).length := by rw [(hcell _).1]; exact Nat.mod_lt _ hsz
     obtain ⟨v, hv, _, h1⟩ := cell (k / sz) hi (k % sz) _ (List.getElem?_eq_getElem hj)
     have e : k / sz * sz + k % sz = k := by rw [Nat.mul_comm]; exact Nat.div_add_mod k sz
     rw [e] at hv
     exact ⟨v, hv, h1⟩
    have key := Rep.slice (G := G0 W) sz (l.map en) b o cap (fun k => (W.cell? ⟨b, o + k, none⟩).getD undef) (fun cs hcs => by
      obtain ⟨y, _, rfl⟩ := List.mem_map.1 hcs
      exact (hcell y).1) (by rw [List.length_map]; omega) hcm (fun k hk => ?_) (fun i j cs c hi hj => ?_) (fun k hk => ?_)
    ·rw [List.length_map, hl] at key; exact key
    ·rw [List.length_map] at hk
     obtain ⟨v, hv, _⟩ := at' k hk
     show W.cell? _ = _
     rw [hv]; rfl
    ·rw [List.getElem?_map] at hi
     by_cases hlt : i < l.length
     ·rw [List.getElem?_eq_getElem hlt] at hi
      cases hi
      obtain ⟨v, hv, hr, _⟩ := cell i hlt j c hj
      rw [hv]; exact hr
     ·rw [List.getElem?_eq_none (by omega)] at hi; cases hi
    ·rw [List.length_map] at hk
     obtain ⟨v, hv, h1⟩ := at' k hk
     rw [hv]; exact h1
  ·have : elems.take len = elems := by rw [← hel, List.take_length]
   rw [this] at h2
   simp only [Rows.uptoBulk]
   omega
theorem len_succ {α : Type} {l : List α} {k : Nat} (h : l.length = k + 1) : ∃ x r, l = x :: r ∧ r.length = k := by
 cases l with
 | nil => simp at h
 | cons x r => exact ⟨x, r, rfl, by simpa using h⟩
theorem fld {n : Nat} {fs : Array Field} {xs : List (DataW H × List MemPlace)} {cs : List Value} (hq : ∀ (i : Nat) (f : Field), fs[i]? = some f → DataW.trod enc P W 0 (fun _ => true) true n f.type ((cs.drop f.offset).take (P.cellsOf f.type)) = xs[i]?)
  (i : Nat) {f : Field} (hf : fs[i]? = some f) {d : DataW H × List MemPlace} (hd : xs[i]? = some d) (T off sz : Nat) (hT : f.type = T) (ho : f.offset = off) (hs : P.cellsOf T = sz) {α : Type} {en : α → List V} {w : α → Nat} (hr : Rd enc P W n T en w) :
  ∃ a, RepL (G0 W) (en a) ((cs.drop off).take sz) ∧ w a ≤ Rows.uptoBulk d.1 := by
 subst hT ho hs
 exact hr _ _ ((hq i f hf).trans hd)
theorem rep_step {G : Ghost} {A B : List V} {cs : List Value} {m k : Nat} (h1 : RepL G A (cs.take m)) (h2 : RepL G B ((cs.drop m).take k)) : RepL G (A ++ B) (cs.take (m + k)) := by
 rw [List.take_add]; exact h1.append h2
end Go.Proofs.YtdgoilofkgdaoaaGreatDoor
namespace Go.Ex
open Go.Am
def XValue.w : XValue → Nat
  | ⟨kind', int', text'⟩ => 1 + 1 + 1 + (text'.size + 1)
theorem XValue.w_eq (t : XValue) : XValue.w t = 1 + 1 + 1 + (t.text.size + 1) := by cases t; rw [XValue.w]
theorem XValue.w_pos (t : XValue) : 1 ≤ XValue.w t := by rw [XValue.w_eq]; omega
mutual
def XExpr.w : XExpr → Nat
  | ⟨op', not', table', name', n', v_', args', sub'⟩ => 1 + 1 + 1 + (table'.size + 1) + (name'.size + 1) + 1 + (XValue.w v_') + (1 + (args'.map XExpr.w).sum) + (1 + (sub'.map XSelect.w).sum)
 termination_by t => SizeOf.sizeOf t
 decreasing_by
  all_goals first
    | (have h1 := List.sizeOf_lt_of_mem (‹_› : (_ : _) ∈ (_ : List (List _))); have h2 := List.sizeOf_lt_of_mem (‹_› : (_ : _) ∈ (_ : List _)); simp; omega)
    | decreasing_tactic
def XSelect.w : XSelect → Nat
  | ⟨with_', parts', order', limit', offset'⟩ => 1 + (1 + (with_'.map XCte.w).sum) + (1 + (parts'.map XPart.w).sum) + (1 + (order'.map XSort.w).sum) + (1 + (limit'.map XExpr.w).sum) + (1 + (offset'.map XExpr.w).sum)
 termination_by t => SizeOf.sizeOf t
 decreasing_by
  all_goals first
    | (have h1 := List.sizeOf_lt_of_mem (‹_› : (_ : _) ∈ (_ : List (List _))); have h2 := List.sizeOf_lt_of_mem (‹_› : (_ : _) ∈ (_ : List _)); simp; omega)
    | decreasing_tactic
def XCte.w : XCte → Nat
  | ⟨name', cols', body'⟩ => 1 + (name'.size + 1) + (1 + (cols'.map (fun z : ByteArray => (z.size + 1))).sum) + (1 + (body'.map XSelect.w).sum)
 termination_by t => SizeOf.sizeOf t
 decreasing_by
  all_goals first
    | (have h1 := List.sizeOf_lt_of_mem (‹_› : (_ : _) ∈ (_ : List (List _))); have h2 := List.sizeOf_lt_of_mem (‹_› : (_ : _) ∈ (_ : List _)); simp; omega)
    | decreasing_tactic
def XPart.w : XPart → Nat
  | ⟨comp', distinct', items', from_', where_', group', having', values'⟩ => 1 + 1 + 1 + (1 + (items'.map XItem.w).sum) + (1 + (from_'.map XSource.w).sum) + (1 + (where_'.map XExpr.w).sum) + (1 + (group'.map XExpr.w).sum) + (1 + (having'.map XExpr.w).sum) + (1 + (values'.map (fun z : (List XExpr) => (1 + (z.map XExpr.w).sum))).sum)
 termination_by t => SizeOf.sizeOf t
 decreasing_by
  all_goals first
    | (have h1 := List.sizeOf_lt_of_mem (‹_› : (_ : _) ∈ (_ : List (List _))); have h2 := List.sizeOf_lt_of_mem (‹_› : (_ : _) ∈ (_ : List _)); simp; omega)
    | decreasing_tactic
def XSort.w : XSort → Nat
  | ⟨expr', desc_'⟩ => 1 + (XExpr.w expr') + 1
 termination_by t => SizeOf.sizeOf t
 decreasing_by
  all_goals first
    | (have h1 := List.sizeOf_lt_of_mem (‹_› : (_ : _) ∈ (_ : List (List _))); have h2 := List.sizeOf_lt_of_mem (‹_› : (_ : _) ∈ (_ : List _)); simp; omega)
    | decreasing_tactic
def XItem.w : XItem → Nat
  | ⟨star', table', expr', as'⟩ => 1 + 1 + (table'.size + 1) + (1 + (expr'.map XExpr.w).sum) + (as'.size + 1)
 termination_by t => SizeOf.sizeOf t
 decreasing_by
  all_goals first
    | (have h1 := List.sizeOf_lt_of_mem (‹_› : (_ : _) ∈ (_ : List (List _))); have h2 := List.sizeOf_lt_of_mem (‹_› : (_ : _) ∈ (_ : List _)); simp; omega)
    | decreasing_tactic
def XSource.w : XSource → Nat
  | ⟨join', name', sub', as', on'⟩ => 1 + 1 + (name'.size + 1) + (1 + (sub'.map XSelect.w).sum) + (as'.size + 1) + (1 + (on'.map XExpr.w).sum)
 termination_by t => SizeOf.sizeOf t
 decreasing_by
  all_goals first
    | (have h1 := List.sizeOf_lt_of_mem (‹_› : (_ : _) ∈ (_ : List (List _))); have h2 := List.sizeOf_lt_of_mem (‹_› : (_ : _) ∈ (_ : List _)); simp; omega)
    | decreasing_tactic
end
theorem XExpr.w_eq (t : XExpr) : XExpr.w t = 1 + 1 + 1 + (t.table.size + 1) + (t.name.size + 1) + 1 + (XValue.w t.v_) + (1 + (t.args.map XExpr.w).sum) + (1 + (t.sub.map XSelect.w).sum) := by cases t; rw [XExpr.w]
theorem XExpr.w_pos (t : XExpr) : 1 ≤ XExpr.w t := by rw [XExpr.w_eq]; omega
theorem XSelect.w_eq (t : XSelect) : XSelect.w t = 1 + (1 + (t.with_.map XCte.w).sum) + (1 + (t.parts.map XPart.w).sum) + (1 + (t.order.map XSort.w).sum) + (1 + (t.limit.map XExpr.w).sum) + (1 + (t.offset.map XExpr.w).sum) := by cases t; rw [XSelect.w]
theorem XSelect.w_pos (t : XSelect) : 1 ≤ XSelect.w t := by rw [XSelect.w_eq]; omega
theorem XCte.w_eq (t : XCte) : XCte.w t = 1 + (t.name.size + 1) + (1 + (t.cols.map (fun z : ByteArray => (z.size + 1))).sum) + (1 + (t.body.map XSelect.w).sum) := by cases t; rw [XCte.w]
theorem XCte.w_pos (t : XCte) : 1 ≤ XCte.w t := by rw [XCte.w_eq]; omega
theorem XPart.w_eq (t : XPart) : XPart.w t = 1 + 1 + 1 + (1 + (t.items.map XItem.w).sum) + (1 + (t.from_.map XSource.w).sum) + (1 + (t.where_.map XExpr.w).sum) + (1 + (t.group.map XExpr.w).sum) + (1 + (t.having.map XExpr.w).sum) + (1 + (t.values.map (fun z : (List XExpr) => (1 + (z.map XExpr.w).sum))).sum) := by cases t; rw [XPart.w]
theorem XPart.w_pos (t : XPart) : 1 ≤ XPart.w t := by rw [XPart.w_eq]; omega
theorem XSort.w_eq (t : XSort) : XSort.w t = 1 + (XExpr.w t.expr) + 1 := by cases t; rw [XSort.w]
theorem XSort.w_pos (t : XSort) : 1 ≤ XSort.w t := by rw [XSort.w_eq]; omega
theorem XItem.w_eq (t : XItem) : XItem.w t = 1 + 1 + (t.table.size + 1) + (1 + (t.expr.map XExpr.w).sum) + (t.as.size + 1) := by cases t; rw [XItem.w]
theorem XItem.w_pos (t : XItem) : 1 ≤ XItem.w t := by rw [XItem.w_eq]; omega
theorem XSource.w_eq (t : XSource) : XSource.w t = 1 + 1 + (t.name.size + 1) + (1 + (t.sub.map XSelect.w).sum) + (t.as.size + 1) + (1 + (t.on.map XExpr.w).sum) := by cases t; rw [XSource.w]
theorem XSource.w_pos (t : XSource) : 1 ≤ XSource.w t := by rw [XSource.w_eq]; omega
def XSet.w : XSet → Nat
  | ⟨name', expr'⟩ => 1 + (name'.size + 1) + (XExpr.w expr')
theorem XSet.w_eq (t : XSet) : XSet.w t = 1 + (t.name.size + 1) + (XExpr.w t.expr) := by cases t; rw [XSet.w]
theorem XSet.w_pos (t : XSet) : 1 ≤ XSet.w t := by rw [XSet.w_eq]; omega
def XColDef.w : XColDef → Nat
  | ⟨name', type_', coll', primary', unique', notNull', default', check'⟩ => 1 + (name'.size + 1) + (type_'.size + 1) + 1 + 1 + 1 + 1 + (1 + (default'.map XExpr.w).sum) + (1 + (check'.map XExpr.w).sum)
theorem XColDef.w_eq (t : XColDef) : XColDef.w t = 1 + (t.name.size + 1) + (t.type_.size + 1) + 1 + 1 + 1 + 1 + (1 + (t.default.map XExpr.w).sum) + (1 + (t.check.map XExpr.w).sum) := by cases t; rw [XColDef.w]
theorem XColDef.w_pos (t : XColDef) : 1 ≤ XColDef.w t := by rw [XColDef.w_eq]; omega
def XIndexCol.w : XIndexCol → Nat
  | ⟨name', coll', own', desc_'⟩ => 1 + (name'.size + 1) + 1 + 1 + 1
theorem XIndexCol.w_eq (t : XIndexCol) : XIndexCol.w t = 1 + (t.name.size + 1) + 1 + 1 + 1 := by cases t; rw [XIndexCol.w]
theorem XIndexCol.w_pos (t : XIndexCol) : 1 ≤ XIndexCol.w t := by rw [XIndexCol.w_eq]; omega
def XStmt.w : XStmt → Nat
  | ⟨kind', what', if_', unique', or', name', table', to', cols', defs', keys', sets', where_', select'⟩ => 1 + 1 + (what'.size + 1) + 1 + 1 + 1 + (name'.size + 1) + (table'.size + 1) + (to'.size + 1) + (1 + (cols'.map (fun z : ByteArray => (z.size + 1))).sum) + (1 + (defs'.map XColDef.w).sum) + (1 + (keys'.map XIndexCol.w).sum) + (1 + (sets'.map XSet.w).sum) + (1 + (where_'.map XExpr.w).sum) + (1 + (select'.map XSelect.w).sum)
theorem XStmt.w_eq (t : XStmt) : XStmt.w t = 1 + 1 + (t.what.size + 1) + 1 + 1 + 1 + (t.name.size + 1) + (t.table.size + 1) + (t.to.size + 1) + (1 + (t.cols.map (fun z : ByteArray => (z.size + 1))).sum) + (1 + (t.defs.map XColDef.w).sum) + (1 + (t.keys.map XIndexCol.w).sum) + (1 + (t.sets.map XSet.w).sum) + (1 + (t.where_.map XExpr.w).sum) + (1 + (t.select.map XSelect.w).sum) := by cases t; rw [XStmt.w]
theorem XStmt.w_pos (t : XStmt) : 1 ≤ XStmt.w t := by rw [XStmt.w_eq]; omega
end Go.Ex
namespace Go.Proofs.YtdgoilofkgdaoaaGreatDoor
open Go.Am Go.Ex
variable {H : Type} {enc : TypeId × Value → H} {W : World}
theorem rd_intk {n : Nat} {T : TypeId} {k : IntKind} (h : Tryz.prog.underlying T = some (.int k)) : Rd enc Tryz.prog W n T (fun z : Int => [V.base (.int k z)]) (fun _ => 1) := fun cs x hx => by
 obtain ⟨z, rfl, rfl, _⟩ := DataW.trod_int h hx
 exact ⟨z, RepL.cons (Rep.base _) (RepL.nil _), bulk_pos _⟩
theorem XExpr_cell (t : XExpr) : (XExpr.v t).length = 10 ∧ (XExpr.v t).all V.isCell = true := ⟨XExpr.v_len t, XExpr.v_all t⟩
theorem XSet_cell (t : XSet) : (XSet.v t).length = 11 ∧ (XSet.v t).all V.isCell = true := ⟨XSet.v_len t, XSet.v_all t⟩
theorem XColDef_cell (t : XColDef) : (XColDef.v t).length = 8 ∧ (XColDef.v t).all V.isCell = true := ⟨XColDef.v_len t, XColDef.v_all t⟩
theorem XIndexCol_cell (t : XIndexCol) : (XIndexCol.v t).length = 4 ∧ (XIndexCol.v t).all V.isCell = true := ⟨XIndexCol.v_len t, XIndexCol.v_all t⟩
theorem XSelect_cell (t : XSelect) : (XSelect.v t).length = 5 ∧ (XSelect.v t).all V.isCell = true := ⟨XSelect.v_len t, XSelect.v_all t⟩
theorem XCte_cell (t : XCte) : (XCte.v t).length = 3 ∧ (XCte.v t).all V.isCell = true := ⟨XCte.v_len t, XCte.v_all t⟩
theorem XPart_cell (t : XPart) : (XPart.v t).length = 8 ∧ (XPart.v t).all V.isCell = true := ⟨XPart.v_len t, XPart.v_all t⟩
theorem XSort_cell (t : XSort) : (XSort.v t).length = 11 ∧ (XSort.v t).all V.isCell = true := ⟨XSort.v_len t, XSort.v_all t⟩
theorem XItem_cell (t : XItem) : (XItem.v t).length = 4 ∧ (XItem.v t).all V.isCell = true := ⟨XItem.v_len t, XItem.v_all t⟩
theorem XSource_cell (t : XSource) : (XSource.v t).length = 5 ∧ (XSource.v t).all V.isCell = true := ⟨XSource.v_len t, XSource.v_all t⟩
theorem rd31 {n : Nat} (h24 : Rd enc Tryz.prog W n 24 (fun x : (List ByteArray) => [V.slice 1 (List.map (fun x => [vstr x]) x)]) (fun z : (List ByteArray) => (1 + (z.map (fun z : ByteArray => (z.size + 1))).sum))) (h25 : Rd enc Tryz.prog W n 25 (fun x : (List XColDef) => [V.slice 8 (List.map XColDef.v x)]) (fun z : (List XColDef) => (1 + (z.map XColDef.w).sum))) (h26 : Rd enc Tryz.prog W n 26 (fun x : (List XIndexCol) => [V.slice 4 (List.map XIndexCol.v x)]) (fun z : (List XIndexCol) => (1 + (z.map XIndexCol.w).sum))) (h27 : Rd enc Tryz.prog W n 27 (fun x : (List XSet) => [V.slice 11 (List.map XSet.v x)]) (fun z : (List XSet) => (1 + (z.map XSet.w).sum))) (h28 : Rd enc Tryz.prog W n 28 (fun x : (List XExpr) => [V.slice 10 (List.map XExpr.v x)]) (fun z : (List XExpr) => (1 + (z.map XExpr.w).sum))) (h29 : Rd enc Tryz.prog W n 29 (fun x : (List XSelect) => [V.slice 5 (List.map XSelect.v x)]) (fun z : (List XSelect) => (1 + (z.map XSelect.w).sum))) : Rd enc Tryz.prog W (n + 1) 31 XStmt.v XStmt.w := fun cs x hx => by
 obtain ⟨xs, m, hm, rfl, hcs, hl, hq⟩ := DataW.trod_struct Tryz.underlying31 hx
 obtain rfl : n = m := by omega
 have hcs : cs.length = 14 := hcs.trans (by kernel_rfl)
 have hl : xs.length = 14 := hl
 obtain ⟨x0, y0, rfl, l0⟩ := len_succ hl
 obtain ⟨x1, y1, rfl, l1⟩ := len_succ l0
 obtain ⟨x2, y2, rfl, l2⟩ := len_succ l1
 obtain ⟨x3, y3, rfl, l3⟩ := len_succ l2
 obtain ⟨x4, y4, rfl, l4⟩ := len_succ l3
 obtain ⟨x5, y5, rfl, l5⟩ := len_succ l4
 obtain ⟨x6, y6, rfl, l6⟩ := len_succ l5
 obtain ⟨x7, y7, rfl, l7⟩ := len_succ l6
 obtain ⟨x8, y8, rfl, l8⟩ := len_succ l7
 obtain ⟨x9, y9, rfl, l9⟩ := len_succ l8
 obtain ⟨x10, y10, rfl, l10⟩ := len_succ l9
 obtain ⟨x11, y11, rfl, l11⟩ := len_succ l10
 obtain ⟨x12, y12, rfl, l12⟩ := len_succ l11
 obtain ⟨x13, y13, rfl, l13⟩ := len_succ l12
 obtain rfl := List.eq_nil_of_length_eq_zero l13
 obtain ⟨a0, r0, w0⟩ := fld hq 0 rfl (d := x0) rfl 22 0 1 rfl rfl (by kernel_rfl) (rd_intk Tryz.underlying22)
 obtain ⟨a1, r1, w1⟩ := fld hq 1 rfl (d := x1) rfl 9 1 1 rfl rfl (by kernel_rfl) (rd_strw Tryz.underlying9)
 obtain ⟨a2, r2, w2⟩ := fld hq 2 rfl (d := x2) rfl 4 2 1 rfl rfl (by kernel_rfl) (rd_bool Tryz.underlying4)
 obtain ⟨a3, r3, w3⟩ := fld hq 3 rfl (d := x3) rfl 4 3 1 rfl rfl (by kernel_rfl) (rd_bool Tryz.underlying4)
 obtain ⟨a4, r4, w4⟩ := fld hq 4 rfl (d := x4) rfl 23 4 1 rfl rfl (by kernel_rfl) (rd_intk Tryz.underlying23)
 obtain ⟨a5, r5, w5⟩ := fld hq 5 rfl (d := x5) rfl 9 5 1 rfl rfl (by kernel_rfl) (rd_strw Tryz.underlying9)
 obtain ⟨a6, r6, w6⟩ := fld hq 6 rfl (d := x6) rfl 9 6 1 rfl rfl (by kernel_rfl) (rd_strw Tryz.underlying9)
 obtain ⟨a7, r7, w7⟩ := fld hq 7 rfl (d := x7) rfl 9 7 1 rfl rfl (by kernel_rfl) (rd_strw Tryz.underlying9)
 obtain ⟨a8, r8, w8⟩ := fld hq 8 rfl (d := x8) rfl 24 8 1 rfl rfl (by kernel_rfl) h24
 obtain ⟨a9, r9, w9⟩ := fld hq 9 rfl (d := x9) rfl 25 9 1 rfl rfl (by kernel_rfl) h25
 obtain ⟨a10, r10, w10⟩ := fld hq 10 rfl (d := x10) rfl 26 10 1 rfl rfl (by kernel_rfl) h26
 obtain ⟨a11, r11, w11⟩ := fld hq 11 rfl (d := x11) rfl 27 11 1 rfl rfl (by kernel_rfl) h27
 obtain ⟨a12, r12, w12⟩ := fld hq 12 rfl (d := x12) rfl 28 12 1 rfl rfl (by kernel_rfl) h28
 obtain ⟨a13, r13, w13⟩ := fld hq 13 rfl (d := x13) rfl 29 13 1 rfl rfl (by kernel_rfl) h29
 have q0 : RepL (G0 W) [] (cs.take 0) := by rw [List.take_zero]; exact RepL.nil _
 have q1 := rep_step q0 r0
 have q2 := rep_step q1 r1
 have q3 := rep_step q2 r2
 have q4 := rep_step q3 r3
 have q5 := rep_step q4 r4
 have q6 := rep_step q5 r5
 have q7 := rep_step q6 r6
 have q8 := rep_step q7 r7
 have q9 := rep_step q8 r8
 have q10 := rep_step q9 r9
 have q11 := rep_step q10 r10
 have q12 := rep_step q11 r11
 have q13 := rep_step q12 r12
 have q14 := rep_step q13 r13
 have e : cs.take 14 = cs := by rw [← hcs, List.take_length]
 simp only [Rows.uptoBulk, Rows.uptoBulkAll, List.map_cons, List.map_nil]
 refine ⟨⟨a0, a1, a2, a3, a4, a5, a6, a7, a8, a9, a10, a11, a12, a13⟩, ?_, ?_⟩
 ·rw [e] at q14; rw [XStmt.v_eq']; simp only [List.nil_append, List.append_assoc, List.cons_append] at q14 ⊢; exact q14
 ·rw [XStmt.w_eq]; simp only at *; omega
theorem rd40 {n : Nat}  : Rd enc Tryz.prog W (n + 1) 40 XValue.v XValue.w := fun cs x hx => by
 obtain ⟨xs, m, hm, rfl, hcs, hl, hq⟩ := DataW.trod_struct Tryz.underlying40 hx
 obtain rfl : n = m := by omega
 have hcs : cs.length = 3 := hcs.trans (by kernel_rfl)
 have hl : xs.length = 3 := hl
 obtain ⟨x0, y0, rfl, l0⟩ := len_succ hl
 obtain ⟨x1, y1, rfl, l1⟩ := len_succ l0
 obtain ⟨x2, y2, rfl, l2⟩ := len_succ l1
 obtain rfl := List.eq_nil_of_length_eq_zero l2
 obtain ⟨a0, r0, w0⟩ := fld hq 0 rfl (d := x0) rfl 38 0 1 rfl rfl (by kernel_rfl) (rd_intk Tryz.underlying38)
 obtain ⟨a1, r1, w1⟩ := fld hq 1 rfl (d := x1) rfl 2 1 1 rfl rfl (by kernel_rfl) (rd_intk Tryz.underlying2)
 obtain ⟨a2, r2, w2⟩ := fld hq 2 rfl (d := x2) rfl 9 2 1 rfl rfl (by kernel_rfl) (rd_strw Tryz.underlying9)
 have q0 : RepL (G0 W) [] (cs.take 0) := by rw [List.take_zero]; exact RepL.nil _
 have q1 := rep_step q0 r0
 have q2 := rep_step q1 r1
 have q3 := rep_step q2 r2
 have e : cs.take 3 = cs := by rw [← hcs, List.take_length]
 simp only [Rows.uptoBulk, Rows.uptoBulkAll, List.map_cons, List.map_nil]
 refine ⟨⟨a0, a1, a2⟩, ?_, ?_⟩
 ·rw [e] at q3; rw [XValue.v_eq']; simp only [List.nil_append, List.append_assoc, List.cons_append] at q3 ⊢; exact q3
 ·rw [XValue.w_eq]; simp only at *; omega
theorem rd42 {n : Nat} (h40 : Rd enc Tryz.prog W n 40 XValue.v XValue.w) (h28 : Rd enc Tryz.prog W n 28 (fun x : (List XExpr) => [V.slice 10 (List.map XExpr.v x)]) (fun z : (List XExpr) => (1 + (z.map XExpr.w).sum))) (h29 : Rd enc Tryz.prog W n 29 (fun x : (List XSelect) => [V.slice 5 (List.map XSelect.v x)]) (fun z : (List XSelect) => (1 + (z.map XSelect.w).sum))) : Rd enc Tryz.prog W (n + 1) 42 XExpr.v XExpr.w := fun cs x hx => by
 obtain ⟨xs, m, hm, rfl, hcs, hl, hq⟩ := DataW.trod_struct Tryz.underlying42 hx
 obtain rfl : n = m := by omega
 have hcs : cs.length = 10 := hcs.trans (by kernel_rfl)
 have hl : xs.length = 8 := hl
 obtain ⟨x0, y0, rfl, l0⟩ := len_succ hl
 obtain ⟨x1, y1, rfl, l1⟩ := len_succ l0
 obtain ⟨x2, y2, rfl, l2⟩ := len_succ l1
 obtain ⟨x3, y3, rfl, l3⟩ := len_succ l2
 obtain ⟨x4, y4, rfl, l4⟩ := len_succ l3
 obtain ⟨x5, y5, rfl, l5⟩ := len_succ l4
 obtain ⟨x6, y6, rfl, l6⟩ := len_succ l5
 obtain ⟨x7, y7, rfl, l7⟩ := len_succ l6
 obtain rfl := List.eq_nil_of_length_eq_zero l7
 obtain ⟨a0, r0, w0⟩ := fld hq 0 rfl (d := x0) rfl 37 0 1 rfl rfl (by kernel_rfl) (rd_intk Tryz.underlying37)
 obtain ⟨a1, r1, w1⟩ := fld hq 1 rfl (d := x1) rfl 4 1 1 rfl rfl (by kernel_rfl) (rd_bool Tryz.underlying4)
 obtain ⟨a2, r2, w2⟩ := fld hq 2 rfl (d := x2) rfl 9 2 1 rfl rfl (by kernel_rfl) (rd_strw Tryz.underlying9)
 obtain ⟨a3, r3, w3⟩ := fld hq 3 rfl (d := x3) rfl 9 3 1 rfl rfl (by kernel_rfl) (rd_strw Tryz.underlying9)
 obtain ⟨a4, r4, w4⟩ := fld hq 4 rfl (d := x4) rfl 3 4 1 rfl rfl (by kernel_rfl) (rd_intk Tryz.underlying3)
 obtain ⟨a5, r5, w5⟩ := fld hq 5 rfl (d := x5) rfl 40 5 3 rfl rfl (by kernel_rfl) h40
 obtain ⟨a6, r6, w6⟩ := fld hq 6 rfl (d := x6) rfl 28 8 1 rfl rfl (by kernel_rfl) h28
 obtain ⟨a7, r7, w7⟩ := fld hq 7 rfl (d := x7) rfl 29 9 1 rfl rfl (by kernel_rfl) h29
 have q0 : RepL (G0 W) [] (cs.take 0) := by rw [List.take_zero]; exact RepL.nil _
 have q1 := rep_step q0 r0
 have q2 := rep_step q1 r1
 have q3 := rep_step q2 r2
 have q4 := rep_step q3 r3
 have q5 := rep_step q4 r4
 have q6 := rep_step q5 r5
 have q7 := rep_step q6 r6
 have q8 := rep_step q7 r7
 have e : cs.take 10 = cs := by rw [← hcs, List.take_length]
 simp only [Rows.uptoBulk, Rows.uptoBulkAll, List.map_cons, List.map_nil]
 refine ⟨⟨a0, a1, a2, a3, a4, a5, a6, a7⟩, ?_, ?_⟩
 ·rw [e] at q8; rw [XExpr.v_eq']; simp only [List.nil_append, List.append_assoc, List.cons_append] at q8 ⊢; exact q8
 ·rw [XExpr.w_eq]; simp only at *; omega
theorem rd53 {n : Nat} (h42 : Rd enc Tryz.prog W n 42 XExpr.v XExpr.w) : Rd enc Tryz.prog W (n + 1) 53 XSet.v XSet.w := fun cs x hx => by
 obtain ⟨xs, m, hm, rfl, hcs, hl, hq⟩ := DataW.trod_struct Tryz.underlying53 hx
 obtain rfl : n = m := by omega
 have hcs : cs.length = 11 := hcs.trans (by kernel_rfl)
 have hl : xs.length = 2 := hl
 obtain ⟨x0, y0, rfl, l0⟩ := len_succ hl
 obtain ⟨x1, y1, rfl, l1⟩ := len_succ l0
 obtain rfl := List.eq_nil_of_length_eq_zero l1
 obtain ⟨a0, r0, w0⟩ := fld hq 0 rfl (d := x0) rfl 9 0 1 rfl rfl (by kernel_rfl) (rd_strw Tryz.underlying9)
 obtain ⟨a1, r1, w1⟩ := fld hq 1 rfl (d := x1) rfl 42 1 10 rfl rfl (by kernel_rfl) h42
 have q0 : RepL (G0 W) [] (cs.take 0) := by rw [List.take_zero]; exact RepL.nil _
 have q1 := rep_step q0 r0
 have q2 := rep_step q1 r1
 have e : cs.take 11 = cs := by rw [← hcs, List.take_length]
 simp only [Rows.uptoBulk, Rows.uptoBulkAll, List.map_cons, List.map_nil]
 refine ⟨⟨a0, a1⟩, ?_, ?_⟩
 ·rw [e] at q2; rw [XSet.v_eq']; simp only [List.nil_append, List.append_assoc, List.cons_append] at q2 ⊢; exact q2
 ·rw [XSet.w_eq]; simp only at *; omega
theorem rd56 {n : Nat} (h28 : Rd enc Tryz.prog W n 28 (fun x : (List XExpr) => [V.slice 10 (List.map XExpr.v x)]) (fun z : (List XExpr) => (1 + (z.map XExpr.w).sum))) : Rd enc Tryz.prog W (n + 1) 56 XColDef.v XColDef.w := fun cs x hx => by
 obtain ⟨xs, m, hm, rfl, hcs, hl, hq⟩ := DataW.trod_struct Tryz.underlying56 hx
 obtain rfl : n = m := by omega
 have hcs : cs.length = 8 := hcs.trans (by kernel_rfl)
 have hl : xs.length = 8 := hl
 obtain ⟨x0, y0, rfl, l0⟩ := len_succ hl
 obtain ⟨x1, y1, rfl, l1⟩ := len_succ l0
 obtain ⟨x2, y2, rfl, l2⟩ := len_succ l1
 obtain ⟨x3, y3, rfl, l3⟩ := len_succ l2
 obtain ⟨x4, y4, rfl, l4⟩ := len_succ l3
 obtain ⟨x5, y5, rfl, l5⟩ := len_succ l4
 obtain ⟨x6, y6, rfl, l6⟩ := len_succ l5
 obtain ⟨x7, y7, rfl, l7⟩ := len_succ l6
 obtain rfl := List.eq_nil_of_length_eq_zero l7
 obtain ⟨a0, r0, w0⟩ := fld hq 0 rfl (d := x0) rfl 9 0 1 rfl rfl (by kernel_rfl) (rd_strw Tryz.underlying9)
 obtain ⟨a1, r1, w1⟩ := fld hq 1 rfl (d := x1) rfl 9 1 1 rfl rfl (by kernel_rfl) (rd_strw Tryz.underlying9)
 obtain ⟨a2, r2, w2⟩ := fld hq 2 rfl (d := x2) rfl 54 2 1 rfl rfl (by kernel_rfl) (rd_intk Tryz.underlying54)
 obtain ⟨a3, r3, w3⟩ := fld hq 3 rfl (d := x3) rfl 4 3 1 rfl rfl (by kernel_rfl) (rd_bool Tryz.underlying4)
 obtain ⟨a4, r4, w4⟩ := fld hq 4 rfl (d := x4) rfl 4 4 1 rfl rfl (by kernel_rfl) (rd_bool Tryz.underlying4)
 obtain ⟨a5, r5, w5⟩ := fld hq 5 rfl (d := x5) rfl 4 5 1 rfl rfl (by kernel_rfl) (rd_bool Tryz.underlying4)
 obtain ⟨a6, r6, w6⟩ := fld hq 6 rfl (d := x6) rfl 28 6 1 rfl rfl (by kernel_rfl) h28
 obtain ⟨a7, r7, w7⟩ := fld hq 7 rfl (d := x7) rfl 28 7 1 rfl rfl (by kernel_rfl) h28
 have q0 : RepL (G0 W) [] (cs.take 0) := by rw [List.take_zero]; exact RepL.nil _
 have q1 := rep_step q0 r0
 have q2 := rep_step q1 r1
 have q3 := rep_step q2 r2
 have q4 := rep_step q3 r3
 have q5 := rep_step q4 r4
 have q6 := rep_step q5 r5
 have q7 := rep_step q6 r6
 have q8 := rep_step q7 r7
 have e : cs.take 8 = cs := by rw [← hcs, List.take_length]
 simp only [Rows.uptoBulk, Rows.uptoBulkAll, List.map_cons, List.map_nil]
 refine ⟨⟨a0, a1, a2, a3, a4, a5, a6, a7⟩, ?_, ?_⟩
 ·rw [e] at q8; rw [XColDef.v_eq']; simp only [List.nil_append, List.append_assoc, List.cons_append] at q8 ⊢; exact q8
 ·rw [XColDef.w_eq]; simp only at *; omega
theorem rd65 {n : Nat}  : Rd enc Tryz.prog W (n + 1) 65 XIndexCol.v XIndexCol.w := fun cs x hx => by
 obtain ⟨xs, m, hm, rfl, hcs, hl, hq⟩ := DataW.trod_struct Tryz.underlying65 hx
 obtain rfl : n = m := by omega
 have hcs : cs.length = 4 := hcs.trans (by kernel_rfl)
 have hl : xs.length = 4 := hl
 obtain ⟨x0, y0, rfl, l0⟩ := len_succ hl
 obtain ⟨x1, y1, rfl, l1⟩ := len_succ l0
 obtain ⟨x2, y2, rfl, l2⟩ := len_succ l1
 obtain ⟨x3, y3, rfl, l3⟩ := len_succ l2
 obtain rfl := List.eq_nil_of_length_eq_zero l3
 obtain ⟨a0, r0, w0⟩ := fld hq 0 rfl (d := x0) rfl 9 0 1 rfl rfl (by kernel_rfl) (rd_strw Tryz.underlying9)
 obtain ⟨a1, r1, w1⟩ := fld hq 1 rfl (d := x1) rfl 54 1 1 rfl rfl (by kernel_rfl) (rd_intk Tryz.underlying54)
 obtain ⟨a2, r2, w2⟩ := fld hq 2 rfl (d := x2) rfl 4 2 1 rfl rfl (by kernel_rfl) (rd_bool Tryz.underlying4)
 obtain ⟨a3, r3, w3⟩ := fld hq 3 rfl (d := x3) rfl 4 3 1 rfl rfl (by kernel_rfl) (rd_bool Tryz.underlying4)
 have q0 : RepL (G0 W) [] (cs.take 0) := by rw [List.take_zero]; exact RepL.nil _
 have q1 := rep_step q0 r0
 have q2 := rep_step q1 r1
 have q3 := rep_step q2 r2
 have q4 := rep_step q3 r3
 have e : cs.take 4 = cs := by rw [← hcs, List.take_length]
 simp only [Rows.uptoBulk, Rows.uptoBulkAll, List.map_cons, List.map_nil]
 refine ⟨⟨a0, a1, a2, a3⟩, ?_, ?_⟩
 ·rw [e] at q4; rw [XIndexCol.v_eq']; simp only [List.nil_append, List.append_assoc, List.cons_append] at q4 ⊢; exact q4
 ·rw [XIndexCol.w_eq]; simp only at *; omega
theorem rd76 {n : Nat} (h72 : Rd enc Tryz.prog W n 72 (fun x : (List XCte) => [V.slice 3 (List.map XCte.v x)]) (fun z : (List XCte) => (1 + (z.map XCte.w).sum))) (h73 : Rd enc Tryz.prog W n 73 (fun x : (List XPart) => [V.slice 8 (List.map XPart.v x)]) (fun z : (List XPart) => (1 + (z.map XPart.w).sum))) (h74 : Rd enc Tryz.prog W n 74 (fun x : (List XSort) => [V.slice 11 (List.map XSort.v x)]) (fun z : (List XSort) => (1 + (z.map XSort.w).sum))) (h28 : Rd enc Tryz.prog W n 28 (fun x : (List XExpr) => [V.slice 10 (List.map XExpr.v x)]) (fun z : (List XExpr) => (1 + (z.map XExpr.w).sum))) : Rd enc Tryz.prog W (n + 1) 76 XSelect.v XSelect.w := fun cs x hx => by
 obtain ⟨xs, m, hm, rfl, hcs, hl, hq⟩ := DataW.trod_struct Tryz.underlying76 hx
 obtain rfl : n = m := by omega
 have hcs : cs.length = 5 := hcs.trans (by kernel_rfl)
 have hl : xs.length = 5 := hl
 obtain ⟨x0, y0, rfl, l0⟩ := len_succ hl
 obtain ⟨x1, y1, rfl, l1⟩ := len_succ l0
 obtain ⟨x2, y2, rfl, l2⟩ := len_succ l1
 obtain ⟨x3, y3, rfl, l3⟩ := len_succ l2
 obtain ⟨x4, y4, rfl, l4⟩ := len_succ l3
 obtain rfl := List.eq_nil_of_length_eq_zero l4
 obtain ⟨a0, r0, w0⟩ := fld hq 0 rfl (d := x0) rfl 72 0 1 rfl rfl (by kernel_rfl) h72
 obtain ⟨a1, r1, w1⟩ := fld hq 1 rfl (d := x1) rfl 73 1 1 rfl rfl (by kernel_rfl) h73
 obtain ⟨a2, r2, w2⟩ := fld hq 2 rfl (d := x2) rfl 74 2 1 rfl rfl (by kernel_rfl) h74
 obtain ⟨a3, r3, w3⟩ := fld hq 3 rfl (d := x3) rfl 28 3 1 rfl rfl (by kernel_rfl) h28
 obtain ⟨a4, r4, w4⟩ := fld hq 4 rfl (d := x4) rfl 28 4 1 rfl rfl (by kernel_rfl) h28
 have q0 : RepL (G0 W) [] (cs.take 0) := by rw [List.take_zero]; exact RepL.nil _
 have q1 := rep_step q0 r0
 have q2 := rep_step q1 r1
 have q3 := rep_step q2 r2
 have q4 := rep_step q3 r3
 have q5 := rep_step q4 r4
 have e : cs.take 5 = cs := by rw [← hcs, List.take_length]
 simp only [Rows.uptoBulk, Rows.uptoBulkAll, List.map_cons, List.map_nil]
 refine ⟨⟨a0, a1, a2, a3, a4⟩, ?_, ?_⟩
 ·rw [e] at q5; rw [XSelect.v_eq']; simp only [List.nil_append, List.append_assoc, List.cons_append] at q5 ⊢; exact q5
 ·rw [XSelect.w_eq]; simp only at *; omega
theorem rd119 {n : Nat} (h24 : Rd enc Tryz.prog W n 24 (fun x : (List ByteArray) => [V.slice 1 (List.map (fun x => [vstr x]) x)]) (fun z : (List ByteArray) => (1 + (z.map (fun z : ByteArray => (z.size + 1))).sum))) (h29 : Rd enc Tryz.prog W n 29 (fun x : (List XSelect) => [V.slice 5 (List.map XSelect.v x)]) (fun z : (List XSelect) => (1 + (z.map XSelect.w).sum))) : Rd enc Tryz.prog W (n + 1) 119 XCte.v XCte.w := fun cs x hx => by
 obtain ⟨xs, m, hm, rfl, hcs, hl, hq⟩ := DataW.trod_struct Tryz.underlying119 hx
 obtain rfl : n = m := by omega
 have hcs : cs.length = 3 := hcs.trans (by kernel_rfl)
 have hl : xs.length = 3 := hl
 obtain ⟨x0, y0, rfl, l0⟩ := len_succ hl
 obtain ⟨x1, y1, rfl, l1⟩ := len_succ l0
 obtain ⟨x2, y2, rfl, l2⟩ := len_succ l1
 obtain rfl := List.eq_nil_of_length_eq_zero l2
 obtain ⟨a0, r0, w0⟩ := fld hq 0 rfl (d := x0) rfl 9 0 1 rfl rfl (by kernel_rfl) (rd_strw Tryz.underlying9)
 obtain ⟨a1, r1, w1⟩ := fld hq 1 rfl (d := x1) rfl 24 1 1 rfl rfl (by kernel_rfl) h24
 obtain ⟨a2, r2, w2⟩ := fld hq 2 rfl (d := x2) rfl 29 2 1 rfl rfl (by kernel_rfl) h29
 have q0 : RepL (G0 W) [] (cs.take 0) := by rw [List.take_zero]; exact RepL.nil _
 have q1 := rep_step q0 r0
 have q2 := rep_step q1 r1
 have q3 := rep_step q2 r2
 have e : cs.take 3 = cs := by rw [← hcs, List.take_length]
 simp only [Rows.uptoBulk, Rows.uptoBulkAll, List.map_cons, List.map_nil]
 refine ⟨⟨a0, a1, a2⟩, ?_, ?_⟩
 ·rw [e] at q3; rw [XCte.v_eq']; simp only [List.nil_append, List.append_assoc, List.cons_append] at q3 ⊢; exact q3
 ·rw [XCte.w_eq]; simp only at *; omega
theorem rd126 {n : Nat} (h123 : Rd enc Tryz.prog W n 123 (fun x : (List XItem) => [V.slice 4 (List.map XItem.v x)]) (fun z : (List XItem) => (1 + (z.map XItem.w).sum))) (h124 : Rd enc Tryz.prog W n 124 (fun x : (List XSource) => [V.slice 5 (List.map XSource.v x)]) (fun z : (List XSource) => (1 + (z.map XSource.w).sum))) (h28 : Rd enc Tryz.prog W n 28 (fun x : (List XExpr) => [V.slice 10 (List.map XExpr.v x)]) (fun z : (List XExpr) => (1 + (z.map XExpr.w).sum))) (h112 : Rd enc Tryz.prog W n 112 (fun x : (List (List XExpr)) => [V.slice 1 (List.map (fun x => [V.slice 10 (List.map XExpr.v x)]) x)]) (fun z : (List (List XExpr)) => (1 + (z.map (fun z : (List XExpr) => (1 + (z.map XExpr.w).sum))).sum))) : Rd enc Tryz.prog W (n + 1) 126 XPart.v XPart.w := fun cs x hx => by
 obtain ⟨xs, m, hm, rfl, hcs, hl, hq⟩ := DataW.trod_struct Tryz.underlying126 hx
 obtain rfl : n = m := by omega
 have hcs : cs.length = 8 := hcs.trans (by kernel_rfl)
 have hl : xs.length = 8 := hl
 obtain ⟨x0, y0, rfl, l0⟩ := len_succ hl
 obtain ⟨x1, y1, rfl, l1⟩ := len_succ l0
 obtain ⟨x2, y2, rfl, l2⟩ := len_succ l1
 obtain ⟨x3, y3, rfl, l3⟩ := len_succ l2
 obtain ⟨x4, y4, rfl, l4⟩ := len_succ l3
 obtain ⟨x5, y5, rfl, l5⟩ := len_succ l4
 obtain ⟨x6, y6, rfl, l6⟩ := len_succ l5
 obtain ⟨x7, y7, rfl, l7⟩ := len_succ l6
 obtain rfl := List.eq_nil_of_length_eq_zero l7
 obtain ⟨a0, r0, w0⟩ := fld hq 0 rfl (d := x0) rfl 122 0 1 rfl rfl (by kernel_rfl) (rd_intk Tryz.underlying122)
 obtain ⟨a1, r1, w1⟩ := fld hq 1 rfl (d := x1) rfl 4 1 1 rfl rfl (by kernel_rfl) (rd_bool Tryz.underlying4)
 obtain ⟨a2, r2, w2⟩ := fld hq 2 rfl (d := x2) rfl 123 2 1 rfl rfl (by kernel_rfl) h123
 obtain ⟨a3, r3, w3⟩ := fld hq 3 rfl (d := x3) rfl 124 3 1 rfl rfl (by kernel_rfl) h124
 obtain ⟨a4, r4, w4⟩ := fld hq 4 rfl (d := x4) rfl 28 4 1 rfl rfl (by kernel_rfl) h28
 obtain ⟨a5, r5, w5⟩ := fld hq 5 rfl (d := x5) rfl 28 5 1 rfl rfl (by kernel_rfl) h28
 obtain ⟨a6, r6, w6⟩ := fld hq 6 rfl (d := x6) rfl 28 6 1 rfl rfl (by kernel_rfl) h28
 obtain ⟨a7, r7, w7⟩ := fld hq 7 rfl (d := x7) rfl 112 7 1 rfl rfl (by kernel_rfl) h112
 have q0 : RepL (G0 W) [] (cs.take 0) := by rw [List.take_zero]; exact RepL.nil _
 have q1 := rep_step q0 r0
 have q2 := rep_step q1 r1
 have q3 := rep_step q2 r2
 have q4 := rep_step q3 r3
 have q5 := rep_step q4 r4
 have q6 := rep_step q5 r5
 have q7 := rep_step q6 r6
 have q8 := rep_step q7 r7
 have e : cs.take 8 = cs := by rw [← hcs, List.take_length]
 simp only [Rows.uptoBulk, Rows.uptoBulkAll, List.map_cons, List.map_nil]
 refine ⟨⟨a0, a1, a2, a3, a4, a5, a6, a7⟩, ?_, ?_⟩
 ·rw [e] at q8; rw [XPart.v_eq']; simp only [List.nil_append, List.append_assoc, List.cons_append] at q8 ⊢; exact q8
 ·rw [XPart.w_eq]; simp only at *; omega
theorem rd130 {n : Nat} (h42 : Rd enc Tryz.prog W n 42 XExpr.v XExpr.w) : Rd enc Tryz.prog W (n + 1) 130 XSort.v XSort.w := fun cs x hx => by
 obtain ⟨xs, m, hm, rfl, hcs, hl, hq⟩ := DataW.trod_struct Tryz.underlying130 hx
 obtain rfl : n = m := by omega
 have hcs : cs.length = 11 := hcs.trans (by kernel_rfl)
 have hl : xs.length = 2 := hl
 obtain ⟨x0, y0, rfl, l0⟩ := len_succ hl
 obtain ⟨x1, y1, rfl, l1⟩ := len_succ l0
 obtain rfl := List.eq_nil_of_length_eq_zero l1
 obtain ⟨a0, r0, w0⟩ := fld hq 0 rfl (d := x0) rfl 42 0 10 rfl rfl (by kernel_rfl) h42
 obtain ⟨a1, r1, w1⟩ := fld hq 1 rfl (d := x1) rfl 4 10 1 rfl rfl (by kernel_rfl) (rd_bool Tryz.underlying4)
 have q0 : RepL (G0 W) [] (cs.take 0) := by rw [List.take_zero]; exact RepL.nil _
 have q1 := rep_step q0 r0
 have q2 := rep_step q1 r1
 have e : cs.take 11 = cs := by rw [← hcs, List.take_length]
 simp only [Rows.uptoBulk, Rows.uptoBulkAll, List.map_cons, List.map_nil]
 refine ⟨⟨a0, a1⟩, ?_, ?_⟩
 ·rw [e] at q2; rw [XSort.v_eq']; simp only [List.nil_append, List.append_assoc, List.cons_append] at q2 ⊢; exact q2
 ·rw [XSort.w_eq]; simp only at *; omega
theorem rd175 {n : Nat} (h28 : Rd enc Tryz.prog W n 28 (fun x : (List XExpr) => [V.slice 10 (List.map XExpr.v x)]) (fun z : (List XExpr) => (1 + (z.map XExpr.w).sum))) : Rd enc Tryz.prog W (n + 1) 175 XItem.v XItem.w := fun cs x hx => by
 obtain ⟨xs, m, hm, rfl, hcs, hl, hq⟩ := DataW.trod_struct Tryz.underlying175 hx
 obtain rfl : n = m := by omega
 have hcs : cs.length = 4 := hcs.trans (by kernel_rfl)
 have hl : xs.length = 4 := hl
 obtain ⟨x0, y0, rfl, l0⟩ := len_succ hl
 obtain ⟨x1, y1, rfl, l1⟩ := len_succ l0
 obtain ⟨x2, y2, rfl, l2⟩ := len_succ l1
 obtain ⟨x3, y3, rfl, l3⟩ := len_succ l2
 obtain rfl := List.eq_nil_of_length_eq_zero l3
 obtain ⟨a0, r0, w0⟩ := fld hq 0 rfl (d := x0) rfl 4 0 1 rfl rfl (by kernel_rfl) (rd_bool Tryz.underlying4)
 obtain ⟨a1, r1, w1⟩ := fld hq 1 rfl (d := x1) rfl 9 1 1 rfl rfl (by kernel_rfl) (rd_strw Tryz.underlying9)
 obtain ⟨a2, r2, w2⟩ := fld hq 2 rfl (d := x2) rfl 28 2 1 rfl rfl (by kernel_rfl) h28
 obtain ⟨a3, r3, w3⟩ := fld hq 3 rfl (d := x3) rfl 9 3 1 rfl rfl (by kernel_rfl) (rd_strw Tryz.underlying9)
 have q0 : RepL (G0 W) [] (cs.take 0) := by rw [List.take_zero]; exact RepL.nil _
 have q1 := rep_step q0 r0
 have q2 := rep_step q1 r1
 have q3 := rep_step q2 r2
 have q4 := rep_step q3 r3
 have e : cs.take 4 = cs := by rw [← hcs, List.take_length]
 simp only [Rows.uptoBulk, Rows.uptoBulkAll, List.map_cons, List.map_nil]
 refine ⟨⟨a0, a1, a2, a3⟩, ?_, ?_⟩
 ·rw [e] at q4; rw [XItem.v_eq']; simp only [List.nil_append, List.append_assoc, List.cons_append] at q4 ⊢; exact q4
 ·rw [XItem.w_eq]; simp only at *; omega
theorem rd179 {n : Nat} (h29 : Rd enc Tryz.prog W n 29 (fun x : (List XSelect) => [V.slice 5 (List.map XSelect.v x)]) (fun z : (List XSelect) => (1 + (z.map XSelect.w).sum))) (h28 : Rd enc Tryz.prog W n 28 (fun x : (List XExpr) => [V.slice 10 (List.map XExpr.v x)]) (fun z : (List XExpr) => (1 + (z.map XExpr.w).sum))) : Rd enc Tryz.prog W (n + 1) 179 XSource.v XSource.w := fun cs x hx => by
 obtain ⟨xs, m, hm, rfl, hcs, hl, hq⟩ := DataW.trod_struct Tryz.underlying179 hx
 obtain rfl : n = m := by omega
 have hcs : cs.length = 5 := hcs.trans (by kernel_rfl)
 have hl : xs.length = 5 := hl
 obtain ⟨x0, y0, rfl, l0⟩ := len_succ hl
 obtain ⟨x1, y1, rfl, l1⟩ := len_succ l0
 obtain ⟨x2, y2, rfl, l2⟩ := len_succ l1
 obtain ⟨x3, y3, rfl, l3⟩ := len_succ l2
 obtain ⟨x4, y4, rfl, l4⟩ := len_succ l3
 obtain rfl := List.eq_nil_of_length_eq_zero l4
 obtain ⟨a0, r0, w0⟩ := fld hq 0 rfl (d := x0) rfl 177 0 1 rfl rfl (by kernel_rfl) (rd_intk Tryz.underlying177)
 obtain ⟨a1, r1, w1⟩ := fld hq 1 rfl (d := x1) rfl 9 1 1 rfl rfl (by kernel_rfl) (rd_strw Tryz.underlying9)
 obtain ⟨a2, r2, w2⟩ := fld hq 2 rfl (d := x2) rfl 29 2 1 rfl rfl (by kernel_rfl) h29
 obtain ⟨a3, r3, w3⟩ := fld hq 3 rfl (d := x3) rfl 9 3 1 rfl rfl (by kernel_rfl) (rd_strw Tryz.underlying9)
 obtain ⟨a4, r4, w4⟩ := fld hq 4 rfl (d := x4) rfl 28 4 1 rfl rfl (by kernel_rfl) h28
 have q0 : RepL (G0 W) [] (cs.take 0) := by rw [List.take_zero]; exact RepL.nil _
 have q1 := rep_step q0 r0
 have q2 := rep_step q1 r1
 have q3 := rep_step q2 r2
 have q4 := rep_step q3 r3
 have q5 := rep_step q4 r4
 have e : cs.take 5 = cs := by rw [← hcs, List.take_length]
 simp only [Rows.uptoBulk, Rows.uptoBulkAll, List.map_cons, List.map_nil]
 refine ⟨⟨a0, a1, a2, a3, a4⟩, ?_, ?_⟩
 ·rw [e] at q5; rw [XSource.v_eq']; simp only [List.nil_append, List.append_assoc, List.cons_append] at q5 ⊢; exact q5
 ·rw [XSource.w_eq]; simp only at *; omega
/-- All at once. -/
structure RdAll (enc : TypeId × Value → H) (W : World) (n : Nat) : Prop where
 h31 : Rd enc Tryz.prog W n 31 XStmt.v XStmt.w
 h40 : Rd enc Tryz.prog W n 40 XValue.v XValue.w
 h42 : Rd enc Tryz.prog W n 42 XExpr.v XExpr.w
 h53 : Rd enc Tryz.prog W n 53 XSet.v XSet.w
 h56 : Rd enc Tryz.prog W n 56 XColDef.v XColDef.w
 h65 : Rd enc Tryz.prog W n 65 XIndexCol.v XIndexCol.w
 h76 : Rd enc Tryz.prog W n 76 XSelect.v XSelect.w
 h119 : Rd enc Tryz.prog W n 119 XCte.v XCte.w
 h126 : Rd enc Tryz.prog W n 126 XPart.v XPart.w
 h130 : Rd enc Tryz.prog W n 130 XSort.v XSort.w
 h175 : Rd enc Tryz.prog W n 175 XItem.v XItem.w
 h179 : Rd enc Tryz.prog W n 179 XSource.v XSource.w
 h24 : Rd enc Tryz.prog W n 24 (fun x : (List ByteArray) => [V.slice 1 (List.map (fun x => [vstr x]) x)]) (fun z : (List ByteArray) => (1 + (z.map (fun z : ByteArray => (z.size + 1))).sum))
 h25 : Rd enc Tryz.prog W n 25 (fun x : (List XColDef) => [V.slice 8 (List.map XColDef.v x)]) (fun z : (List XColDef) => (1 + (z.map XColDef.w).sum))
 h26 : Rd enc Tryz.prog W n 26 (fun x : (List XIndexCol) => [V.slice 4 (List.map XIndexCol.v x)]) (fun z : (List XIndexCol) => (1 + (z.map XIndexCol.w).sum))
 h27 : Rd enc Tryz.prog W n 27 (fun x : (List XSet) => [V.slice 11 (List.map XSet.v x)]) (fun z : (List XSet) => (1 + (z.map XSet.w).sum))
 h28 : Rd enc Tryz.prog W n 28 (fun x : (List XExpr) => [V.slice 10 (List.map XExpr.v x)]) (fun z : (List XExpr) => (1 + (z.map XExpr.w).sum))
 h29 : Rd enc Tryz.prog W n 29 (fun x : (List XSelect) => [V.slice 5 (List.map XSelect.v x)]) (fun z : (List XSelect) => (1 + (z.map XSelect.w).sum))
 h72 : Rd enc Tryz.prog W n 72 (fun x : (List XCte) => [V.slice 3 (List.map XCte.v x)]) (fun z : (List XCte) => (1 + (z.map XCte.w).sum))
 h73 : Rd enc Tryz.prog W n 73 (fun x : (List XPart) => [V.slice 8 (List.map XPart.v x)]) (fun z : (List XPart) => (1 + (z.map XPart.w).sum))
 h74 : Rd enc Tryz.prog W n 74 (fun x : (List XSort) => [V.slice 11 (List.map XSort.v x)]) (fun z : (List XSort) => (1 + (z.map XSort.w).sum))
 h123 : Rd enc Tryz.prog W n 123 (fun x : (List XItem) => [V.slice 4 (List.map XItem.v x)]) (fun z : (List XItem) => (1 + (z.map XItem.w).sum))
 h124 : Rd enc Tryz.prog W n 124 (fun x : (List XSource) => [V.slice 5 (List.map XSource.v x)]) (fun z : (List XSource) => (1 + (z.map XSource.w).sum))
 h112 : Rd enc Tryz.prog W n 112 (fun x : (List (List XExpr)) => [V.slice 1 (List.map (fun x => [V.slice 10 (List.map XExpr.v x)]) x)]) (fun z : (List (List XExpr)) => (1 + (z.map (fun z : (List XExpr) => (1 + (z.map XExpr.w).sum))).sum))
theorem rd_all (enc : TypeId × Value → H) (W : World) : ∀ n, RdAll enc W n
 | 0 => by constructor <;> exact rd_zero
 | n + 1 => by
  have h := rd_all enc W n
  have g31 : Rd enc Tryz.prog W (n + 1) 31 XStmt.v XStmt.w := rd31 h.h24 h.h25 h.h26 h.h27 h.h28 h.h29
  have g40 : Rd enc Tryz.prog W (n + 1) 40 XValue.v XValue.w := rd40
  have g42 : Rd enc Tryz.prog W (n + 1) 42 XExpr.v XExpr.w := rd42 h.h40 h.h28 h.h29
  have g53 : Rd enc Tryz.prog W (n + 1) 53 XSet.v XSet.w := rd53 h.h42
  have g56 : Rd enc Tryz.prog W (n + 1) 56 XColDef.v XColDef.w := rd56 h.h28
  have g65 : Rd enc Tryz.prog W (n + 1) 65 XIndexCol.v XIndexCol.w := rd65
  have g76 : Rd enc Tryz.prog W (n + 1) 76 XSelect.v XSelect.w := rd76 h.h72 h.h73 h.h74 h.h28
  have g119 : Rd enc Tryz.prog W (n + 1) 119 XCte.v XCte.w := rd119 h.h24 h.h29
  have g126 : Rd enc Tryz.prog W (n + 1) 126 XPart.v XPart.w := rd126 h.h123 h.h124 h.h28 h.h112
  have g130 : Rd enc Tryz.prog W (n + 1) 130 XSort.v XSort.w := rd130 h.h42
  have g175 : Rd enc Tryz.prog W (n + 1) 175 XItem.v XItem.w := rd175 h.h28
  have g179 : Rd enc Tryz.prog W (n + 1) 179 XSource.v XSource.w := rd179 h.h29 h.h28
  have g24 : Rd enc Tryz.prog W (n + 1) 24 (fun x : (List ByteArray) => [V.slice 1 (List.map (fun x => [vstr x]) x)]) (fun z : (List ByteArray) => (1 + (z.map (fun z : ByteArray => (z.size + 1))).sum)) := rd_slice Tryz.underlying24 (by kernel_rfl : Tryz.prog.cellsOf 9 = 1) (by decide) (fun a => ⟨rfl, rfl⟩) (rd_strw Tryz.underlying9)
  have g25 : Rd enc Tryz.prog W (n + 1) 25 (fun x : (List XColDef) => [V.slice 8 (List.map XColDef.v x)]) (fun z : (List XColDef) => (1 + (z.map XColDef.w).sum)) := rd_slice Tryz.underlying25 (by kernel_rfl : Tryz.prog.cellsOf 56 = 8) (by decide) XColDef_cell h.h56
  have g26 : Rd enc Tryz.prog W (n + 1) 26 (fun x : (List XIndexCol) => [V.slice 4 (List.map XIndexCol.v x)]) (fun z : (List XIndexCol) => (1 + (z.map XIndexCol.w).sum)) := rd_slice Tryz.underlying26 (by kernel_rfl : Tryz.prog.cellsOf 65 = 4) (by decide) XIndexCol_cell h.h65
  have g27 : Rd enc Tryz.prog W (n + 1) 27 (fun x : (List XSet) => [V.slice 11 (List.map XSet.v x)]) (fun z : (List XSet) => (1 + (z.map XSet.w).sum)) := rd_slice Tryz.underlying27 (by kernel_rfl : Tryz.prog.cellsOf 53 = 11) (by decide) XSet_cell h.h53
  have g28 : Rd enc Tryz.prog W (n + 1) 28 (fun x : (List XExpr) => [V.slice 10 (List.map XExpr.v x)]) (fun z : (List XExpr) => (1 + (z.map XExpr.w).sum)) := rd_slice Tryz.underlying28 (by kernel_rfl : Tryz.prog.cellsOf 42 = 10) (by decide) XExpr_cell h.h42
  have g29 : Rd enc Tryz.prog W (n + 1) 29 (fun x : (List XSelect) => [V.slice 5 (List.map XSelect.v x)]) (fun z : (List XSelect) => (1 + (z.map XSelect.w).sum)) := rd_slice Tryz.underlying29 (by kernel_rfl : Tryz.prog.cellsOf 76 = 5) (by decide) XSelect_cell h.h76
  have g72 : Rd enc Tryz.prog W (n + 1) 72 (fun x : (List XCte) => [V.slice 3 (List.map XCte.v x)]) (fun z : (List XCte) => (1 + (z.map XCte.w).sum)) := rd_slice Tryz.underlying72 (by kernel_rfl : Tryz.prog.cellsOf 119 = 3) (by decide) XCte_cell h.h119
  have g73 : Rd enc Tryz.prog W (n + 1) 73 (fun x : (List XPart) => [V.slice 8 (List.map XPart.v x)]) (fun z : (List XPart) => (1 + (z.map XPart.w).sum)) := rd_slice Tryz.underlying73 (by kernel_rfl : Tryz.prog.cellsOf 126 = 8) (by decide) XPart_cell h.h126
  have g74 : Rd enc Tryz.prog W (n + 1) 74 (fun x : (List XSort) => [V.slice 11 (List.map XSort.v x)]) (fun z : (List XSort) => (1 + (z.map XSort.w).sum)) := rd_slice Tryz.underlying74 (by kernel_rfl : Tryz.prog.cellsOf 130 = 11) (by decide) XSort_cell h.h130
  have g123 : Rd enc Tryz.prog W (n + 1) 123 (fun x : (List XItem) => [V.slice 4 (List.map XItem.v x)]) (fun z : (List XItem) => (1 + (z.map XItem.w).sum)) := rd_slice Tryz.underlying123 (by kernel_rfl : Tryz.prog.cellsOf 175 = 4) (by decide) XItem_cell h.h175
  have g124 : Rd enc Tryz.prog W (n + 1) 124 (fun x : (List XSource) => [V.slice 5 (List.map XSource.v x)]) (fun z : (List XSource) => (1 + (z.map XSource.w).sum)) := rd_slice Tryz.underlying124 (by kernel_rfl : Tryz.prog.cellsOf 179 = 5) (by decide) XSource_cell h.h179
  have g112 : Rd enc Tryz.prog W (n + 1) 112 (fun x : (List (List XExpr)) => [V.slice 1 (List.map (fun x => [V.slice 10 (List.map XExpr.v x)]) x)]) (fun z : (List (List XExpr)) => (1 + (z.map (fun z : (List XExpr) => (1 + (z.map XExpr.w).sum))).sum)) := rd_slice Tryz.underlying112 (by kernel_rfl : Tryz.prog.cellsOf 28 = 1) (by decide) (fun a => ⟨rfl, rfl⟩) h.h28
  exact ⟨g31, g40, g42, g53, g56, g65, g76, g119, g126, g130, g175, g179, g24, g25, g26, g27, g28, g29, g72, g73, g74, g123, g124, g112⟩
end Go.Proofs.YtdgoilofkgdaoaaGreatDoor
namespace Go.Proofs.YtdgoilofkgdaoaaGreatDoor
open Go.Am Go.Ex
theorem rep_one {G : Ghost} {c : V} {v : Value} (h : RepL G [c] [v]) : Rep G c v := by
 obtain ⟨v', vs', e, h1, h2⟩ := h.uncons
 cases e; exact h1
end Go.Proofs.YtdgoilofkgdaoaaGreatDoor
namespace Go.Am
theorem wrap_succ {i n : Nat} (hi : i < n) (hn : n ≤ 4611686018427387000) : IntKind.i64.wrap ((i : Int) + 1) = ((i + 1 : Nat) : Int) := by
 rw [wrap_id (by omega) (by omega)]; simp
theorem need_t {α : Type} {p : Prop} [Decidable p] {k : Option α} (h : p) : need p k = k := if_pos h
theorem way_tt {α : Type} {a b : Option α} : way true a b = a := rfl
theorem way_ff {α : Type} {a b : Option α} : way false a b = b := rfl
theorem call_of {α β : Type} {y : α} {f : α → Option β} : call (some y) f = f y := rfl
theorem join_of {X α : Type} {b : (X → Option α) → Option α} {k : X → Option α} : join b k = b k := rfl
theorem loopC_succ {X α : Type} {b : (X → Option α) → X → Option α} {n : Nat} {q : X} : loopC b (n + 1) q = b (loopC b n) q := rfl
theorem way_and {b c : Bool} : way b (some c) (some false) = some (b && c) := by cases b <;> rfl
theorem way_if {α : Type} {b : Bool} {x y : Option α} : way b x y = if b = true then x else y := by cases b <;> rfl
/-- A loop over places that ends at the first that is not so, and goes on behind the last. -/
theorem loop_to {α : Type} {n : Nat} (hn : n ≤ 4611686018427387000) (p : Nat → Bool) {b : (Int → Option α) → Int → Option α} {E N : Option α}
  (hb : ∀ k (i : Nat), i < n → b k (i : Int) = if p i = true then k ((i + 1 : Nat) : Int) else N) (he : ∀ k, b k (n : Int) = E) : loopC b manyC 0 = if (List.range n).all p = true then E else N := by
 have key : ∀ i : Nat, i ≤ n → ∀ m, n - i < m → loopC b m (i : Int) = if (List.range' i (n - i)).all p = true then E else N := by
  intro i hi m hm
  induction h : n - i generalizing i m with
  | zero =>
   obtain rfl : i = n := by omega
   cases m with
   | zero => omega
   | succ m => rw [loopC_succ, he]; rfl
  | succ d ih =>
   cases m with
   | zero => omega
   | succ m =>
    rw [loopC_succ, hb _ i (by omega), List.range'_succ, List.all_cons]
    cases hp : p i with
    | false => rfl
    | true => simp only [if_true, Bool.true_and]; exact ih (i + 1) (by omega) m (by omega) (by omega)
 have := key 0 (Nat.zero_le _) manyC (by unfold manyC; omega)
 rw [← List.range_eq_range'] at this
 exact this
/-- Are they one? -/
noncomputable def eqb {α : Type} (x y : α) : Bool := @decide (x = y) (Classical.propDecidable _)
theorem eqb_iff {α : Type} {x y : α} : eqb x y = true ↔ x = y := by unfold eqb; exact @decide_eq_true_iff _ (Classical.propDecidable _)
theorem eqb_refl {α : Type} (x : α) : eqb x x = true := eqb_iff.2 rfl
theorem eqb_of {α : Type} {x y : α} {b : Bool} (h : b = true ↔ x = y) : b = eqb x y := by
 rw [Bool.eq_iff_iff, h, eqb_iff]
theorem beq_text (x y : ByteArray) : (x.data.toList == y.data.toList) = eqb x y := eqb_of (by
 rw [beq_iff_eq, Array.toList_inj]
 exact ⟨fun h => ByteArray.ext h, fun h => by rw [h]⟩)
theorem beq_int (x y : Int) : (x == y) = eqb x y := eqb_of beq_iff_eq
theorem beq_bool (x y : Bool) : (x == y) = eqb x y := eqb_of beq_iff_eq
theorem bne_int (x y : Int) : (x != y) = !eqb x y := by rw [← beq_int]; rfl
/-- All places alike, and as many: one list. -/
theorem all_eqb {α : Type} (z : α) {l m : List α} (h : l.length = m.length) : (List.range l.length).all (fun i => eqb (l.getD i z) (m.getD i z)) = eqb l m := eqb_of (by
 rw [List.all_eq_true]
 constructor
 ·intro hp
  refine List.ext_getElem h fun i h1 h2 => ?_
  have := eqb_iff.1 (hp i (List.mem_range.2 h1))
  simpa [List.getD_eq_getElem?_getD, h1, h2] using this
 ·rintro rfl i hi
  exact eqb_refl _)
theorem eqb_len {α : Type} {l m : List α} (h : l.length ≠ m.length) : eqb l m = false := by
 cases e : eqb l m with
 | false => rfl
 | true => exact absurd (by rw [eqb_iff.1 e]) h
/-- The usual loop over two lists. -/
theorem list_same {α : Type} (p : α → α → Option Bool) (z : α) (l m : List α) (hl : l.length ≤ 4611686018427387000) (hp : ∀ x ∈ l, ∀ y, p x y = some (eqb x y)) :
  (way (((((l.length : Nat) : Int)) != (((m.length : Nat) : Int)))) (some false) (loopC (fun (k10 : Int → Option (Bool)) (q9 : Int) => (way ((decide (q9 < (((l.length : Nat) : Int))))) (need (0 ≤ q9 ∧ q9 < ((l.length : Nat) : Int)) (need (0 ≤ q9 ∧ q9 < ((m.length : Nat) : Int)) (call (p ((l.getD q9.toNat z)) ((m.getD q9.toNat z))) fun y22 => (way ((!y22)) (some false) (k10 (IntKind.i64.wrap (q9 + 1))))))) (some true))) manyC 0)) = some (eqb l m) := by
 by_cases h : l.length = m.length
 ·rw [show ((((l.length : Nat) : Int)) != (((m.length : Nat) : Int))) = false by rw [h]; simp, way_ff]
  rw [loop_to (n := l.length) hl (fun i => eqb (l.getD i z) (m.getD i z)) (E := some true) (N := some false)]
  ·rw [all_eqb z h]; cases eqb l m <;> rfl
  ·intro k i hi
   rw [show decide ((i : Int) < ((l.length : Nat) : Int)) = true by simp; exact hi, way_tt, need_t (by omega), need_t (by omega), Int.toNat_natCast, hp _ (by
    rw [List.getD_eq_getElem?_getD, List.getElem?_eq_getElem hi]; exact List.getElem_mem hi), call_of, wrap_succ hi hl, way_if]
   cases eqb (l.getD i z) (m.getD i z) <;> rfl
  ·intro k
   rw [show decide (((l.length : Nat) : Int) < ((l.length : Nat) : Int)) = false by simp]; rfl
 ·rw [show ((((l.length : Nat) : Int)) != (((m.length : Nat) : Int))) = true by simp; omega, way_tt, eqb_len h]
theorem length_le_sum {α : Type} (f : α → Nat) (h : ∀ x, 1 ≤ f x) : ∀ l : List α, l.length ≤ (l.map f).sum
 | [] => Nat.le_refl _
 | x :: l => by have := length_le_sum f h l; have := h x; simp only [List.length_cons, List.map_cons, List.sum_cons]; omega
theorem mem_le_sum {α : Type} (f : α → Nat) : ∀ {l : List α} {x : α}, x ∈ l → f x ≤ (l.map f).sum
 | y :: l, x, h => by
  simp only [List.map_cons, List.sum_cons]
  rcases List.mem_cons.1 h with rfl | h
  ·omega
  ·have := mem_le_sum f h; omega
end Go.Am
