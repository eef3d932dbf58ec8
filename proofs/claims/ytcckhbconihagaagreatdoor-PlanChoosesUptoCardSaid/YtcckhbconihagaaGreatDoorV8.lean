/- What is read of a value as data, in abstract values: of whatever the type. -/
import Derived.ChangeArms
import Derived.Test.YtcckhbconihagaaGreatDoorRows
import Derived.Test.YtcckhbconihagaaGreatDoorVPlData
import Derived.Test.YtcckhbconihagaaGreatDoorVPlData2
set_option linter.unusedVariables false
set_option linter.unusedSimpArgs false
set_option maxRecDepth 100000
namespace Go.Proofs.YtcckhbconihagaaGreatDoor
open Go.Am Go.Pl
/-- All of memory turns no more. -/
def G0 (W : World) : Ghost := ⟨fun b o => W.cell? ⟨b, o, none⟩, fun _ => none, fun _ => none⟩
def H0 : Heap := ⟨fun _ => none, fun _ => none⟩
theorem hrel0 (W : World) : HRel (G0 W) H0 W where
 frz := fun b o v h => h
 box := fun b cs ty h => by cases h
 own := fun g e sz h => by cases h
 sep := fun g g' x x' v v' b h => by cases h
 nobox := fun g x v b h => by cases h
 fin := ⟨0, fun g _ => ⟨rfl, rfl⟩⟩
 ob := fun k x h => by cases h
variable {H : Type} {enc : TypeId × Value → H} {P : Program} {W : World}
/-- A type's readings are of these values, with so much bulk. -/
def Rd (enc : TypeId × Value → H) (P : Program) (W : World) (n : Nat) (T : TypeId) {α : Type} (e : α → List V) (w : α → Nat) : Prop :=
 ∀ cs x, DataW.trod enc P W 0 (fun _ => true) true n T cs = some x → ∃ a, RepL (G0 W) (e a) cs ∧ w a ≤ Rows.uptoBulk x.1
theorem rd_zero {T : TypeId} {α : Type} {e : α → List V} {w : α → Nat} : Rd enc P W 0 T e w := fun cs x h => by simp [DataW.trod] at h
theorem bulk_pos (d : DataW H) : 1 ≤ Rows.uptoBulk d := by
 cases d with
 | lit l => cases l <;> simp [Rows.uptoBulk]
 | nil => simp [Rows.uptoBulk]
 | ptr d => simp [Rows.uptoBulk]
 | slice elems spare => simp [Rows.uptoBulk]
 | agg parts => simp [Rows.uptoBulk]
 | iface t d => simp [Rows.uptoBulk]
 | map entries => simp [Rows.uptoBulk]
 | held h => simp [Rows.uptoBulk]
theorem bulk_append (l r : List (DataW H)) : Rows.uptoBulkAll (l ++ r) = Rows.uptoBulkAll l + Rows.uptoBulkAll r := by
 induction l with
 | nil => simp [Rows.uptoBulkAll]
 | cons x l ih => simp only [List.cons_append, Rows.uptoBulkAll, ih]; omega
theorem rd_int {n : Nat} {T : TypeId} (h : P.underlying T = some (.int .i64)) : Rd enc P W n T (fun z : Int => [vint z]) (fun _ => 1) := fun cs x hx => by
 obtain ⟨z, rfl, rfl, _⟩ := DataW.trod_int h hx
 exact ⟨z, RepL.cons (Rep.base _) (RepL.nil _), bulk_pos _⟩
theorem rd_bool {n : Nat} {T : TypeId} (h : P.underlying T = some .bool) : Rd enc P W n T (fun z : Bool => [vbool z]) (fun _ => 1) := fun cs x hx => by
 obtain ⟨z, rfl, rfl⟩ := DataW.trod_bool h hx
 exact ⟨z, RepL.cons (Rep.base _) (RepL.nil _), bulk_pos _⟩
theorem rd_str {n : Nat} {T : TypeId} (h : P.underlying T = some .string) : Rd enc P W n T (fun z : ByteArray => [vstr z]) (fun _ => 1) := fun cs x hx => by
 obtain ⟨z, rfl, rfl, _⟩ := DataW.trod_string h hx
 exact ⟨z, RepL.cons (Rep.base _) (RepL.nil _), bulk_pos _⟩
theorem rd_strw {n : Nat} {T : TypeId} (h : P.underlying T = some .string) : Rd enc P W n T (fun z : ByteArray => [vstr z]) (fun z => z.size + 1) := fun cs x hx => by
 obtain ⟨z, rfl, rfl, _⟩ := DataW.trod_string h hx
 refine ⟨z, RepL.cons (Rep.base _) (RepL.nil _), ?_⟩
 simp only [Rows.uptoBulk, ByteArray.toList_eq, Array.length_toList]
 exact Nat.le_refl _
theorem mapM_get {α β : Type} (f : α → Option β) : ∀ (l : List α) (ys : List β), l.mapM f = some ys → ys.length = l.length ∧ ∀ (i : Nat) x, l[i]? = some x → f x = ys[i]?
 | [], ys, h => by simp at h; subst h; simp
 | x :: l, ys, h => by
  rw [List.mapM_cons] at h
  cases hx : f x with
  | none => rw [hx] at h; cases h
  | some y =>
   rw [hx] at h
   cases hl : l.mapM f with
   | none => rw [hl] at h; cases h
   | some zs =>
    rw [hl] at h
    cases h
    obtain ⟨h1, h2⟩ := mapM_get f l zs hl
    refine ⟨by simp [h1], fun i z hz => ?_⟩
    cases i with
    | zero => simp at hz; subst hz; simpa using hx
    | succ i => simpa using h2 i z (by simpa using hz)
theorem add_add (b o m j : Nat) : (Addr.add (Addr.add ⟨b, o, none⟩ m) j) = ⟨b, o + (m + j), none⟩ := by
 unfold Addr.add
 by_cases h1 : m = 0 <;> by_cases h2 : j = 0 <;> simp [h1, h2] <;> omega
theorem cells_get {a : Addr} {n : Nat} {cs : List Value} (h : W.cells? 0 a n = some cs) : cs.length = n ∧ ∀ j, j < n → W.cell? (a.add j) = cs[j]? := by
 unfold World.cells? at h
 rw [if_pos (Nat.zero_le _)] at h
 obtain ⟨h1, h2⟩ := mapM_get _ _ _ h
 refine ⟨by simpa using h1, fun j hj => h2 j j (by simp [hj])⟩
theorem rd_slice {n : Nat} {T e : TypeId} {sz : Nat} (ht : P.underlying T = some (.slice e)) (hc : P.cellsOf e = sz) (hsz : 0 < sz) {α : Type} {en : α → List V} {w : α → Nat} (hcell : ∀ a, (en a).length = sz ∧ (en a).all V.isCell = true) (h : Rd enc P W n e en w) :
  Rd enc P W (n + 1) T (fun l : List α => [.slice sz (l.map en)]) (fun l => 1 + (l.map w).sum) := fun cs x hx => by
 rcases DataW.trod_slice ht hx with ⟨rfl, rfl⟩ | ⟨a, len, cap, elems, rest, m, hm, rfl, rfl, _, hlc, hcm, hel, hget, _⟩
 ·exact ⟨[], RepL.cons (Rep.slice0 sz none 0) (RepL.nil _), by simp [Rows.uptoBulk]⟩
 ·obtain rfl : n = m := by omega
  rw [hc] at hget
  have build : ∀ k, k ≤ len → ∃ l : List α, l.length = k ∧ (∀ i (hi : i < l.length), ∃ ci, W.cells? 0 (a.add (i * sz)) sz = some ci ∧ RepL (G0 W) (en l[i]) ci) ∧ (l.map w).sum ≤ Rows.uptoBulkAll ((elems.take k).map (·.1)) := by
   intro k
   induction k with
   | zero => exact fun _ => ⟨[], rfl, fun i hi => by simp at hi, by simp⟩
   | succ k ih =>
    intro hk
    obtain ⟨l, hl, h1, h2⟩ := ih (by omega)
    have hk' : k < elems.length := by omega
    have hg := hget k (by omega)
    rw [List.getElem?_eq_getElem hk'] at hg
    cases hci : W.cells? 0 (a.add (k * sz)) sz with
    | none => rw [hci] at hg; cases hg
    | some ci =>
     rw [hci] at hg
     obtain ⟨y, hy, hw⟩ := h ci _ hg
     refine ⟨l ++ [y], by simp [hl], fun i hi => ?_, ?_⟩
     ·by_cases hlt : i < l.length
      ·rw [List.getElem_append_left hlt]; exact h1 i hlt
      ·obtain rfl : i = l.length := by simp at hi; omega
       rw [List.getElem_append_right (Nat.le_refl _)]
       simp only [Nat.sub_self, List.getElem_cons_zero]
       rw [hl]
       exact ⟨ci, hci, hy⟩
     ·rw [List.take_succ_eq_append_getElem hk', List.map_append, List.map_append, bulk_append, List.sum_append]
      simp only [List.map_cons, List.map_nil, List.sum_cons, List.sum_nil, Rows.uptoBulkAll]
      omega
  obtain ⟨l, hl, h1, h2⟩ := build len (Nat.le_refl _)
  refine ⟨l, RepL.cons ?_ (RepL.nil _), ?_⟩
  ·by_cases h0 : len = 0
   ·subst h0
    obtain rfl := List.eq_nil_of_length_eq_zero hl
    exact Rep.slice0 sz (some a) cap
   ·have hspot : a.spot = none := by
     obtain ⟨ci, hci, _⟩ := h1 0 (by omega)
     obtain ⟨k1, k2⟩ := cells_get hci
     have := k2 0 hsz
     rw [List.getElem?_eq_getElem (by omega)] at this
     simpa [Addr.add] using World.cell?_spot this
    obtain ⟨b, o, sp⟩ := a
    simp only at hspot
    subst hspot
    have cell : ∀ i (hi : i < l.length) j c, (en l[i])[j]? = some c → ∃ v, W.cell? ⟨b, o + (i * sz + j), none⟩ = some v ∧ Rep (G0 W) c v ∧ v.oneCell' = true := fun i hi j c hj => by
     obtain ⟨ci, hci, hr⟩ := h1 i hi
     obtain ⟨k1, k2⟩ := cells_get hci
     obtain ⟨v, hv, hrv⟩ := hr.get hj
     have hjlt : j < sz := by rw [← (hcell l[i]).1]; exact (List.getElem?_eq_some_iff.1 hj).1
     have := k2 j hjlt
     rw [add_add, hv] at this
     exact ⟨v, this, hrv, hrv.oneCell (List.all_eq_true.1 (hcell l[i]).2 c (List.mem_of_getElem? hj))⟩
    have at' : ∀ k, k < l.length * sz → ∃ v, W.cell? ⟨b, o + k, none⟩ = some v ∧ v.oneCell' = true := fun k hk => by
     have hi : k / sz < l.length := Nat.div_lt_of_lt_mul (by rw [Nat.mul_comm]; exact hk)
     have hj : k % sz < (en l[k / sz]).length := by rw [(hcell _).1]; exact Nat.mod_lt _ hsz
     obtain ⟨v, hv, _, h1⟩ := cell (k / sz) hi (k % sz) _ (List.getElem?_eq_getElem hj)
     have e : k / sz * sz + k % sz = k := by rw [Nat.mul_comm]; exact Nat.div_add_mod k sz
     rw [e] at hv
     exact ⟨v, hv, h1⟩
    have key := Rep.slice (G := G0 W) sz (l.map en) b o cap (fun k => (W.cell? ⟨b, o + k, none⟩).getD undef) (fun cs hcs => by
      obtain ⟨y, _, rfl⟩ := List.mem_map.1 hcs
      exact (hcell y).1) (by rw [List.length_map]; omega) hcm (fun k hk => ?_) (fun i j cs c hi hj => ?_) (fun k hk => ?_)
    ·rw [List.length_map, hl] at key; exact key
    ·rw [List.length_map] at hk
     obtain ⟨v, hv, _⟩ := at' k hk
     show W.cell? _ = _
     rw [hv]; rfl
    ·rw [List.getElem?_map] at hi
     by_cases hlt : i < l.length
     ·rw [List.getElem?_eq_getElem hlt] at hi
      cases hi
      obtain ⟨v, hv, hr, _⟩ := cell i hlt j c hj
      rw [hv]; exact hr
     ·rw [List.getElem?_eq_none (by omega)] at hi; cases hi
    ·rw [List.length_map] at hk
     obtain ⟨v, hv, h1⟩ := at' k hk
     rw [hv]; exact h1
  ·have : elems.take len = elems := by rw [← hel, List.take_length]
   rw [this] at h2
   simp only [Rows.uptoBulk]
   omega
theorem len_succ {α : Type} {l : List α} {k : Nat} (h : l.length = k + 1) : ∃ x r, l = x :: r ∧ r.length = k := by
 cases l with
 | nil => simp at h
 | cons x r => exact ⟨x, r, rfl, by simpa using h⟩
theorem fld {n : Nat} {fs : Array Field} {xs : List (DataW H × List MemPlace)} {cs : List Value} (hq : ∀ (i : Nat) (f : Field), fs[i]? = some f → DataW.trod enc P W 0 (fun _ => true) true n f.type ((cs.drop f.offset).take (P.cellsOf f.type)) = xs[i]?)
  (i : Nat) {f : Field} (hf : fs[i]? = some f) {d : DataW H × List MemPlace} (hd : xs[i]? = some d) (T off sz : Nat) (hT : f.type = T) (ho : f.offset = off) (hs : P.cellsOf T = sz) {α : Type} {en : α → List V} {w : α → Nat} (hr : Rd enc P W n T en w) :
  ∃ a, RepL (G0 W) (en a) ((cs.drop off).take sz) ∧ w a ≤ Rows.uptoBulk d.1 := by
 subst hT ho hs
 exact hr _ _ ((hq i f hf).trans hd)
theorem rep_step {G : Ghost} {A B : List V} {cs : List Value} {m k : Nat} (h1 : RepL G A (cs.take m)) (h2 : RepL G B ((cs.drop m).take k)) : RepL G (A ++ B) (cs.take (m + k)) := by
 rw [List.take_add]; exact h1.append h2
end Go.Proofs.YtcckhbconihagaaGreatDoor
namespace Go.Pl
theorem Term.w_pos (t : Term) : 1 ≤ t.w := by rw [Term.w_eq]; omega
theorem Query.w_pos (t : Query) : 1 ≤ t.w := by rw [Query.w_eq]; omega
theorem Arm.w_pos (t : Arm) : 1 ≤ t.w := by rw [Arm.w_eq]; omega
theorem From.w_pos (t : From) : 1 ≤ t.w := by rw [From.w_eq]; omega
theorem Agg.w_pos (t : Agg) : 1 ≤ t.w := by rw [Agg.w_eq]; omega
theorem Bound.w_pos (t : Bound) : 1 ≤ t.w := by rw [Bound.w_eq]; omega
theorem Step.w_pos (t : Step) : 1 ≤ t.w := by rw [Step.w_eq]; omega
theorem With.w_pos (t : With) : 1 ≤ t.w := by rw [With.w_eq]; omega
theorem len_le {α : Type} {f : α → Nat} (hf : ∀ x, 1 ≤ f x) : ∀ l : List α, l.length ≤ (l.map f).sum
 | [] => Nat.zero_le _
 | x :: l => by
  have h1 := hf x
  have h2 := len_le hf l
  rw [List.length_cons, List.map_cons, List.sum_cons]; omega
end Go.Pl
namespace Go.Proofs.YtcckhbconihagaaGreatDoor
open Go.Am Go.Pl
variable {H : Type} {enc : TypeId × Value → H} {W : World}
theorem Term_cell (t : Term) : (Term.v t).length = 14 ∧ (Term.v t).all V.isCell = true := by rw [Term.v_eq]; exact ⟨rfl, rfl⟩
theorem Query_cell (t : Query) : (Query.v t).length = 5 ∧ (Query.v t).all V.isCell = true := by rw [Query.v_eq]; exact ⟨rfl, rfl⟩
theorem Arm_cell (t : Arm) : (Arm.v t).length = 13 ∧ (Arm.v t).all V.isCell = true := by rw [Arm.v_eq]; exact ⟨rfl, rfl⟩
theorem From_cell (t : From) : (From.v t).length = 7 ∧ (From.v t).all V.isCell = true := by rw [From.v_eq]; exact ⟨rfl, rfl⟩
theorem Agg_cell (t : Agg) : (Agg.v t).length = 5 ∧ (Agg.v t).all V.isCell = true := by rw [Agg.v_eq]; exact ⟨rfl, rfl⟩
theorem Step_cell (t : Step) : (Step.v t).length = 7 ∧ (Step.v t).all V.isCell = true := by rw [Step.v_eq]; exact ⟨rfl, rfl⟩
theorem Sorted_cell (t : Sorted) : (Sorted.v t).length = 3 ∧ (Sorted.v t).all V.isCell = true := by rw [Sorted.v_eq]; exact ⟨rfl, rfl⟩
theorem Bound_cell (t : Bound) : (Bound.v t).length = 15 ∧ (Bound.v t).all V.isCell = true := by rw [Bound.v_eq, Term.v_eq]; exact ⟨rfl, rfl⟩
theorem With_cell (t : With) : (With.v t).length = 9 ∧ (With.v t).all V.isCell = true := by rw [With.v_eq, Query.v_eq]; exact ⟨rfl, rfl⟩
theorem rd44 {n : Nat}  : Rd enc Tryz.prog W (n + 1) 44 (fun z : Int × Int × ByteArray => [vint z.1, vint z.2.1, vstr z.2.2]) (fun _ => 1) := fun cs x hx => by
 obtain ⟨xs, m, hm, rfl, hcs, hl, hq⟩ := DataW.trod_struct Tryz.underlying44 hx
 obtain rfl : n = m := by omega
 have hcs : cs.length = 3 := hcs.trans (by kernel_rfl)
 have hl : xs.length = 3 := hl
 obtain ⟨x0, y0, rfl, l0⟩ := len_succ hl
 obtain ⟨x1, y1, rfl, l1⟩ := len_succ l0
 obtain ⟨x2, y2, rfl, l2⟩ := len_succ l1
 obtain rfl := List.eq_nil_of_length_eq_zero l2
 obtain ⟨a0, r0, w0⟩ := fld hq 0 rfl (d := x0) rfl 42 0 1 rfl rfl (by kernel_rfl) (rd_int Tryz.underlying42)
 obtain ⟨a1, r1, w1⟩ := fld hq 1 rfl (d := x1) rfl 2 1 1 rfl rfl (by kernel_rfl) (rd_int Tryz.underlying2)
 obtain ⟨a2, r2, w2⟩ := fld hq 2 rfl (d := x2) rfl 9 2 1 rfl rfl (by kernel_rfl) (rd_str Tryz.underlying9)
 have q0 : RepL (G0 W) [] (cs.take 0) := by rw [List.take_zero]; exact RepL.nil _
 have q1 := rep_step q0 r0
 have q2 := rep_step q1 r1
 have q3 := rep_step q2 r2
 have e : cs.take 3 = cs := by rw [← hcs, List.take_length]
 simp only [Rows.uptoBulk, Rows.uptoBulkAll, List.map_cons, List.map_nil]
 refine ⟨⟨a0, a1, a2⟩, ?_, ?_⟩
 ·rw [e] at q3; exact q3
 ·simp only at *; omega
theorem rd118 {n : Nat}  : Rd enc Tryz.prog W (n + 1) 118 Sorted.v (fun _ => 1) := fun cs x hx => by
 obtain ⟨xs, m, hm, rfl, hcs, hl, hq⟩ := DataW.trod_struct Tryz.underlying118 hx
 obtain rfl : n = m := by omega
 have hcs : cs.length = 3 := hcs.trans (by kernel_rfl)
 have hl : xs.length = 3 := hl
 obtain ⟨x0, y0, rfl, l0⟩ := len_succ hl
 obtain ⟨x1, y1, rfl, l1⟩ := len_succ l0
 obtain ⟨x2, y2, rfl, l2⟩ := len_succ l1
 obtain rfl := List.eq_nil_of_length_eq_zero l2
 obtain ⟨a0, r0, w0⟩ := fld hq 0 rfl (d := x0) rfl 3 0 1 rfl rfl (by kernel_rfl) (rd_int Tryz.underlying3)
 obtain ⟨a1, r1, w1⟩ := fld hq 1 rfl (d := x1) rfl 45 1 1 rfl rfl (by kernel_rfl) (rd_int Tryz.underlying45)
 obtain ⟨a2, r2, w2⟩ := fld hq 2 rfl (d := x2) rfl 4 2 1 rfl rfl (by kernel_rfl) (rd_bool Tryz.underlying4)
 have q0 : RepL (G0 W) [] (cs.take 0) := by rw [List.take_zero]; exact RepL.nil _
 have q1 := rep_step q0 r0
 have q2 := rep_step q1 r1
 have q3 := rep_step q2 r2
 have e : cs.take 3 = cs := by rw [← hcs, List.take_length]
 simp only [Rows.uptoBulk, Rows.uptoBulkAll, List.map_cons, List.map_nil]
 refine ⟨⟨a0, a1, a2⟩, ?_, ?_⟩
 ·rw [e] at q3; rw [Sorted.v_eq]; exact q3
 ·show 1 ≤ _; omega
theorem rd49 {n : Nat} (h44 : Rd enc Tryz.prog W n 44 (fun z : Int × Int × ByteArray => [vint z.1, vint z.2.1, vstr z.2.2]) (fun _ => 1)) (h31 : Rd enc Tryz.prog W n 31 (fun l : List Term => [V.slice 14 (l.map Term.v)]) (fun l : List Term => 1 + (l.map Term.w).sum)) (h47 : Rd enc Tryz.prog W n 47 (fun l : List Query => [V.slice 5 (l.map Query.v)]) (fun l : List Query => 1 + (l.map Query.w).sum)) : Rd enc Tryz.prog W (n + 1) 49 Term.v Term.w := fun cs x hx => by
 obtain ⟨xs, m, hm, rfl, hcs, hl, hq⟩ := DataW.trod_struct Tryz.underlying49 hx
 obtain rfl : n = m := by omega
 have hcs : cs.length = 14 := hcs.trans (by kernel_rfl)
 have hl : xs.length = 12 := hl
 obtain ⟨x0, y0, rfl, l0⟩ := len_succ hl
 obtain ⟨x1, y1, rfl, l1⟩ := len_succ l0
 obtain ⟨x2, y2, rfl, l2⟩ := len_succ l1
 obtain ⟨x3, y3, rfl, l3⟩ := len_succ l2
 obtain ⟨x4, y4, rfl, l4⟩ := len_succ l3
 obtain ⟨x5, y5, rfl, l5⟩ := len_succ l4
 obtain ⟨x6, y6, rfl, l6⟩ := len_succ l5
 obtain ⟨x7, y7, rfl, l7⟩ := len_succ l6
 obtain ⟨x8, y8, rfl, l8⟩ := len_succ l7
 obtain ⟨x9, y9, rfl, l9⟩ := len_succ l8
 obtain ⟨x10, y10, rfl, l10⟩ := len_succ l9
 obtain ⟨x11, y11, rfl, l11⟩ := len_succ l10
 obtain rfl := List.eq_nil_of_length_eq_zero l11
 obtain ⟨a0, r0, w0⟩ := fld hq 0 rfl (d := x0) rfl 41 0 1 rfl rfl (by kernel_rfl) (rd_int Tryz.underlying41)
 obtain ⟨a1, r1, w1⟩ := fld hq 1 rfl (d := x1) rfl 4 1 1 rfl rfl (by kernel_rfl) (rd_bool Tryz.underlying4)
 obtain ⟨a2, r2, w2⟩ := fld hq 2 rfl (d := x2) rfl 3 2 1 rfl rfl (by kernel_rfl) (rd_int Tryz.underlying3)
 obtain ⟨a3, r3, w3⟩ := fld hq 3 rfl (d := x3) rfl 3 3 1 rfl rfl (by kernel_rfl) (rd_int Tryz.underlying3)
 obtain ⟨a4, r4, w4⟩ := fld hq 4 rfl (d := x4) rfl 3 4 1 rfl rfl (by kernel_rfl) (rd_int Tryz.underlying3)
 obtain ⟨a5, r5, w5⟩ := fld hq 5 rfl (d := x5) rfl 9 5 1 rfl rfl (by kernel_rfl) (rd_str Tryz.underlying9)
 obtain ⟨a6, r6, w6⟩ := fld hq 6 rfl (d := x6) rfl 44 6 3 rfl rfl (by kernel_rfl) h44
 obtain ⟨a7, r7, w7⟩ := fld hq 7 rfl (d := x7) rfl 45 9 1 rfl rfl (by kernel_rfl) (rd_int Tryz.underlying45)
 obtain ⟨a8, r8, w8⟩ := fld hq 8 rfl (d := x8) rfl 46 10 1 rfl rfl (by kernel_rfl) (rd_int Tryz.underlying46)
 obtain ⟨a9, r9, w9⟩ := fld hq 9 rfl (d := x9) rfl 46 11 1 rfl rfl (by kernel_rfl) (rd_int Tryz.underlying46)
 obtain ⟨a10, r10, w10⟩ := fld hq 10 rfl (d := x10) rfl 31 12 1 rfl rfl (by kernel_rfl) h31
 obtain ⟨a11, r11, w11⟩ := fld hq 11 rfl (d := x11) rfl 47 13 1 rfl rfl (by kernel_rfl) h47
 have q0 : RepL (G0 W) [] (cs.take 0) := by rw [List.take_zero]; exact RepL.nil _
 have q1 := rep_step q0 r0
 have q2 := rep_step q1 r1
 have q3 := rep_step q2 r2
 have q4 := rep_step q3 r3
 have q5 := rep_step q4 r4
 have q6 := rep_step q5 r5
 have q7 := rep_step q6 r6
 have q8 := rep_step q7 r7
 have q9 := rep_step q8 r8
 have q10 := rep_step q9 r9
 have q11 := rep_step q10 r10
 have q12 := rep_step q11 r11
 have e : cs.take 14 = cs := by rw [← hcs, List.take_length]
 simp only [Rows.uptoBulk, Rows.uptoBulkAll, List.map_cons, List.map_nil]
 refine ⟨⟨a0, a1, a2, a3, a4, a5, a6.1, a6.2.1, a6.2.2, a7, a8, a9, a10, a11⟩, ?_, ?_⟩
 ·rw [e] at q12; rw [Term.v_eq]; exact q12
 ·rw [Term.w_eq]; simp only [List.map_const', List.sum_replicate_nat, Nat.mul_one] at *; omega
theorem rd66 {n : Nat} (h31 : Rd enc Tryz.prog W n 31 (fun l : List Term => [V.slice 14 (l.map Term.v)]) (fun l : List Term => 1 + (l.map Term.w).sum)) (h64 : Rd enc Tryz.prog W n 64 (fun l : List Bound => [V.slice 15 (l.map Bound.v)]) (fun l : List Bound => 1 + (l.map Bound.w).sum)) : Rd enc Tryz.prog W (n + 1) 66 (fun z : Int × ByteArray × List Term × List Bound × List Bound => [vint z.1, vstr z.2.1, V.slice 14 (z.2.2.1.map Term.v), V.slice 15 (z.2.2.2.1.map Bound.v), V.slice 15 (z.2.2.2.2.map Bound.v)]) (fun z => 1 + (z.2.2.1.map Term.w).sum + (z.2.2.2.1.map Bound.w).sum + (z.2.2.2.2.map Bound.w).sum) := fun cs x hx => by
 obtain ⟨xs, m, hm, rfl, hcs, hl, hq⟩ := DataW.trod_struct Tryz.underlying66 hx
 obtain rfl : n = m := by omega
 have hcs : cs.length = 5 := hcs.trans (by kernel_rfl)
 have hl : xs.length = 5 := hl
 obtain ⟨x0, y0, rfl, l0⟩ := len_succ hl
 obtain ⟨x1, y1, rfl, l1⟩ := len_succ l0
 obtain ⟨x2, y2, rfl, l2⟩ := len_succ l1
 obtain ⟨x3, y3, rfl, l3⟩ := len_succ l2
 obtain ⟨x4, y4, rfl, l4⟩ := len_succ l3
 obtain rfl := List.eq_nil_of_length_eq_zero l4
 obtain ⟨a0, r0, w0⟩ := fld hq 0 rfl (d := x0) rfl 63 0 1 rfl rfl (by kernel_rfl) (rd_int Tryz.underlying63)
 obtain ⟨a1, r1, w1⟩ := fld hq 1 rfl (d := x1) rfl 9 1 1 rfl rfl (by kernel_rfl) (rd_str Tryz.underlying9)
 obtain ⟨a2, r2, w2⟩ := fld hq 2 rfl (d := x2) rfl 31 2 1 rfl rfl (by kernel_rfl) h31
 obtain ⟨a3, r3, w3⟩ := fld hq 3 rfl (d := x3) rfl 64 3 1 rfl rfl (by kernel_rfl) h64
 obtain ⟨a4, r4, w4⟩ := fld hq 4 rfl (d := x4) rfl 64 4 1 rfl rfl (by kernel_rfl) h64
 have q0 : RepL (G0 W) [] (cs.take 0) := by rw [List.take_zero]; exact RepL.nil _
 have q1 := rep_step q0 r0
 have q2 := rep_step q1 r1
 have q3 := rep_step q2 r2
 have q4 := rep_step q3 r3
 have q5 := rep_step q4 r4
 have e : cs.take 5 = cs := by rw [← hcs, List.take_length]
 simp only [Rows.uptoBulk, Rows.uptoBulkAll, List.map_cons, List.map_nil]
 refine ⟨⟨a0, a1, a2, a3, a4⟩, ?_, ?_⟩
 ·rw [e] at q5; exact q5
 ·simp only at *; omega
theorem rd33 {n : Nat} (h28 : Rd enc Tryz.prog W n 28 (fun l : List ByteArray => [V.slice 1 (l.map (fun z : ByteArray => [vstr z]))]) (fun l : List ByteArray => 1 + (l.map (fun _ => 1)).sum)) (h29 : Rd enc Tryz.prog W n 29 (fun l : List Arm => [V.slice 13 (l.map Arm.v)]) (fun l : List Arm => 1 + (l.map Arm.w).sum)) (h30 : Rd enc Tryz.prog W n 30 (fun l : List Sorted => [V.slice 3 (l.map Sorted.v)]) (fun l : List Sorted => 1 + (l.map (fun _ => 1)).sum)) (h31 : Rd enc Tryz.prog W n 31 (fun l : List Term => [V.slice 14 (l.map Term.v)]) (fun l : List Term => 1 + (l.map Term.w).sum)) : Rd enc Tryz.prog W (n + 1) 33 Query.v Query.w := fun cs x hx => by
 obtain ⟨xs, m, hm, rfl, hcs, hl, hq⟩ := DataW.trod_struct Tryz.underlying33 hx
 obtain rfl : n = m := by omega
 have hcs : cs.length = 5 := hcs.trans (by kernel_rfl)
 have hl : xs.length = 5 := hl
 obtain ⟨x0, y0, rfl, l0⟩ := len_succ hl
 obtain ⟨x1, y1, rfl, l1⟩ := len_succ l0
 obtain ⟨x2, y2, rfl, l2⟩ := len_succ l1
 obtain ⟨x3, y3, rfl, l3⟩ := len_succ l2
 obtain ⟨x4, y4, rfl, l4⟩ := len_succ l3
 obtain rfl := List.eq_nil_of_length_eq_zero l4
 obtain ⟨a0, r0, w0⟩ := fld hq 0 rfl (d := x0) rfl 28 0 1 rfl rfl (by kernel_rfl) h28
 obtain ⟨a1, r1, w1⟩ := fld hq 1 rfl (d := x1) rfl 29 1 1 rfl rfl (by kernel_rfl) h29
 obtain ⟨a2, r2, w2⟩ := fld hq 2 rfl (d := x2) rfl 30 2 1 rfl rfl (by kernel_rfl) h30
 obtain ⟨a3, r3, w3⟩ := fld hq 3 rfl (d := x3) rfl 31 3 1 rfl rfl (by kernel_rfl) h31
 obtain ⟨a4, r4, w4⟩ := fld hq 4 rfl (d := x4) rfl 31 4 1 rfl rfl (by kernel_rfl) h31
 have q0 : RepL (G0 W) [] (cs.take 0) := by rw [List.take_zero]; exact RepL.nil _
 have q1 := rep_step q0 r0
 have q2 := rep_step q1 r1
 have q3 := rep_step q2 r2
 have q4 := rep_step q3 r3
 have q5 := rep_step q4 r4
 have e : cs.take 5 = cs := by rw [← hcs, List.take_length]
 simp only [Rows.uptoBulk, Rows.uptoBulkAll, List.map_cons, List.map_nil]
 refine ⟨⟨a0, a1, a2, a3, a4⟩, ?_, ?_⟩
 ·rw [e] at q5; rw [Query.v_eq]; exact q5
 ·rw [Query.w_eq]; simp only [List.map_const', List.sum_replicate_nat, Nat.mul_one] at *; omega
theorem rd75 {n : Nat} (h71 : Rd enc Tryz.prog W n 71 (fun l : List (List Term) => [V.slice 1 (l.map (fun l : List Term => [V.slice 14 (l.map Term.v)]))]) (fun l : List (List Term) => 1 + (l.map (fun l : List Term => 1 + (l.map Term.w).sum)).sum)) (h72 : Rd enc Tryz.prog W n 72 (fun l : List From => [V.slice 7 (l.map From.v)]) (fun l : List From => 1 + (l.map From.w).sum)) (h31 : Rd enc Tryz.prog W n 31 (fun l : List Term => [V.slice 14 (l.map Term.v)]) (fun l : List Term => 1 + (l.map Term.w).sum)) (h73 : Rd enc Tryz.prog W n 73 (fun l : List Agg => [V.slice 5 (l.map Agg.v)]) (fun l : List Agg => 1 + (l.map Agg.w).sum)) (h69 : Rd enc Tryz.prog W n 69 (fun l : List Step => [V.slice 7 (l.map Step.v)]) (fun l : List Step => 1 + (l.map Step.w).sum)) : Rd enc Tryz.prog W (n + 1) 75 Arm.v Arm.w := fun cs x hx => by
 obtain ⟨xs, m, hm, rfl, hcs, hl, hq⟩ := DataW.trod_struct Tryz.underlying75 hx
 obtain rfl : n = m := by omega
 have hcs : cs.length = 13 := hcs.trans (by kernel_rfl)
 have hl : xs.length = 13 := hl
 obtain ⟨x0, y0, rfl, l0⟩ := len_succ hl
 obtain ⟨x1, y1, rfl, l1⟩ := len_succ l0
 obtain ⟨x2, y2, rfl, l2⟩ := len_succ l1
 obtain ⟨x3, y3, rfl, l3⟩ := len_succ l2
 obtain ⟨x4, y4, rfl, l4⟩ := len_succ l3
 obtain ⟨x5, y5, rfl, l5⟩ := len_succ l4
 obtain ⟨x6, y6, rfl, l6⟩ := len_succ l5
 obtain ⟨x7, y7, rfl, l7⟩ := len_succ l6
 obtain ⟨x8, y8, rfl, l8⟩ := len_succ l7
 obtain ⟨x9, y9, rfl, l9⟩ := len_succ l8
 obtain ⟨x10, y10, rfl, l10⟩ := len_succ l9
 obtain ⟨x11, y11, rfl, l11⟩ := len_succ l10
 obtain ⟨x12, y12, rfl, l12⟩ := len_succ l11
 obtain rfl := List.eq_nil_of_length_eq_zero l12
 obtain ⟨a0, r0, w0⟩ := fld hq 0 rfl (d := x0) rfl 70 0 1 rfl rfl (by kernel_rfl) (rd_int Tryz.underlying70)
 obtain ⟨a1, r1, w1⟩ := fld hq 1 rfl (d := x1) rfl 4 1 1 rfl rfl (by kernel_rfl) (rd_bool Tryz.underlying4)
 obtain ⟨a2, r2, w2⟩ := fld hq 2 rfl (d := x2) rfl 4 2 1 rfl rfl (by kernel_rfl) (rd_bool Tryz.underlying4)
 obtain ⟨a3, r3, w3⟩ := fld hq 3 rfl (d := x3) rfl 71 3 1 rfl rfl (by kernel_rfl) h71
 obtain ⟨a4, r4, w4⟩ := fld hq 4 rfl (d := x4) rfl 72 4 1 rfl rfl (by kernel_rfl) h72
 obtain ⟨a5, r5, w5⟩ := fld hq 5 rfl (d := x5) rfl 31 5 1 rfl rfl (by kernel_rfl) h31
 obtain ⟨a6, r6, w6⟩ := fld hq 6 rfl (d := x6) rfl 4 6 1 rfl rfl (by kernel_rfl) (rd_bool Tryz.underlying4)
 obtain ⟨a7, r7, w7⟩ := fld hq 7 rfl (d := x7) rfl 31 7 1 rfl rfl (by kernel_rfl) h31
 obtain ⟨a8, r8, w8⟩ := fld hq 8 rfl (d := x8) rfl 73 8 1 rfl rfl (by kernel_rfl) h73
 obtain ⟨a9, r9, w9⟩ := fld hq 9 rfl (d := x9) rfl 31 9 1 rfl rfl (by kernel_rfl) h31
 obtain ⟨a10, r10, w10⟩ := fld hq 10 rfl (d := x10) rfl 31 10 1 rfl rfl (by kernel_rfl) h31
 obtain ⟨a11, r11, w11⟩ := fld hq 11 rfl (d := x11) rfl 31 11 1 rfl rfl (by kernel_rfl) h31
 obtain ⟨a12, r12, w12⟩ := fld hq 12 rfl (d := x12) rfl 69 12 1 rfl rfl (by kernel_rfl) h69
 have q0 : RepL (G0 W) [] (cs.take 0) := by rw [List.take_zero]; exact RepL.nil _
 have q1 := rep_step q0 r0
 have q2 := rep_step q1 r1
 have q3 := rep_step q2 r2
 have q4 := rep_step q3 r3
 have q5 := rep_step q4 r4
 have q6 := rep_step q5 r5
 have q7 := rep_step q6 r6
 have q8 := rep_step q7 r7
 have q9 := rep_step q8 r8
 have q10 := rep_step q9 r9
 have q11 := rep_step q10 r10
 have q12 := rep_step q11 r11
 have q13 := rep_step q12 r12
 have e : cs.take 13 = cs := by rw [← hcs, List.take_length]
 simp only [Rows.uptoBulk, Rows.uptoBulkAll, List.map_cons, List.map_nil]
 refine ⟨⟨a0, a1, a2, a3, a4, a5, a6, a7, a8, a9, a10, a11, a12⟩, ?_, ?_⟩
 ·rw [e] at q13; rw [Arm.v_eq]; exact q13
 ·rw [Arm.w_eq]; simp only [List.map_const', List.sum_replicate_nat, Nat.mul_one] at *; omega
theorem rd107 {n : Nat} (h47 : Rd enc Tryz.prog W n 47 (fun l : List Query => [V.slice 5 (l.map Query.v)]) (fun l : List Query => 1 + (l.map Query.w).sum)) (h31 : Rd enc Tryz.prog W n 31 (fun l : List Term => [V.slice 14 (l.map Term.v)]) (fun l : List Term => 1 + (l.map Term.w).sum)) : Rd enc Tryz.prog W (n + 1) 107 From.v From.w := fun cs x hx => by
 obtain ⟨xs, m, hm, rfl, hcs, hl, hq⟩ := DataW.trod_struct Tryz.underlying107 hx
 obtain rfl : n = m := by omega
 have hcs : cs.length = 7 := hcs.trans (by kernel_rfl)
 have hl : xs.length = 7 := hl
 obtain ⟨x0, y0, rfl, l0⟩ := len_succ hl
 obtain ⟨x1, y1, rfl, l1⟩ := len_succ l0
 obtain ⟨x2, y2, rfl, l2⟩ := len_succ l1
 obtain ⟨x3, y3, rfl, l3⟩ := len_succ l2
 obtain ⟨x4, y4, rfl, l4⟩ := len_succ l3
 obtain ⟨x5, y5, rfl, l5⟩ := len_succ l4
 obtain ⟨x6, y6, rfl, l6⟩ := len_succ l5
 obtain rfl := List.eq_nil_of_length_eq_zero l6
 obtain ⟨a0, r0, w0⟩ := fld hq 0 rfl (d := x0) rfl 104 0 1 rfl rfl (by kernel_rfl) (rd_int Tryz.underlying104)
 obtain ⟨a1, r1, w1⟩ := fld hq 1 rfl (d := x1) rfl 105 1 1 rfl rfl (by kernel_rfl) (rd_int Tryz.underlying105)
 obtain ⟨a2, r2, w2⟩ := fld hq 2 rfl (d := x2) rfl 9 2 1 rfl rfl (by kernel_rfl) (rd_strw Tryz.underlying9)
 obtain ⟨a3, r3, w3⟩ := fld hq 3 rfl (d := x3) rfl 3 3 1 rfl rfl (by kernel_rfl) (rd_int Tryz.underlying3)
 obtain ⟨a4, r4, w4⟩ := fld hq 4 rfl (d := x4) rfl 3 4 1 rfl rfl (by kernel_rfl) (rd_int Tryz.underlying3)
 obtain ⟨a5, r5, w5⟩ := fld hq 5 rfl (d := x5) rfl 47 5 1 rfl rfl (by kernel_rfl) h47
 obtain ⟨a6, r6, w6⟩ := fld hq 6 rfl (d := x6) rfl 31 6 1 rfl rfl (by kernel_rfl) h31
 have q0 : RepL (G0 W) [] (cs.take 0) := by rw [List.take_zero]; exact RepL.nil _
 have q1 := rep_step q0 r0
 have q2 := rep_step q1 r1
 have q3 := rep_step q2 r2
 have q4 := rep_step q3 r3
 have q5 := rep_step q4 r4
 have q6 := rep_step q5 r5
 have q7 := rep_step q6 r6
 have e : cs.take 7 = cs := by rw [← hcs, List.take_length]
 simp only [Rows.uptoBulk, Rows.uptoBulkAll, List.map_cons, List.map_nil]
 refine ⟨⟨a0, a1, a2, a3, a4, a5, a6⟩, ?_, ?_⟩
 ·rw [e] at q7; rw [From.v_eq]; exact q7
 ·rw [From.w_eq]; simp only [List.map_const', List.sum_replicate_nat, Nat.mul_one] at *; omega
theorem rd130 {n : Nat} (h31 : Rd enc Tryz.prog W n 31 (fun l : List Term => [V.slice 14 (l.map Term.v)]) (fun l : List Term => 1 + (l.map Term.w).sum)) : Rd enc Tryz.prog W (n + 1) 130 Agg.v Agg.w := fun cs x hx => by
 obtain ⟨xs, m, hm, rfl, hcs, hl, hq⟩ := DataW.trod_struct Tryz.underlying130 hx
 obtain rfl : n = m := by omega
 have hcs : cs.length = 5 := hcs.trans (by kernel_rfl)
 have hl : xs.length = 5 := hl
 obtain ⟨x0, y0, rfl, l0⟩ := len_succ hl
 obtain ⟨x1, y1, rfl, l1⟩ := len_succ l0
 obtain ⟨x2, y2, rfl, l2⟩ := len_succ l1
 obtain ⟨x3, y3, rfl, l3⟩ := len_succ l2
 obtain ⟨x4, y4, rfl, l4⟩ := len_succ l3
 obtain rfl := List.eq_nil_of_length_eq_zero l4
 obtain ⟨a0, r0, w0⟩ := fld hq 0 rfl (d := x0) rfl 9 0 1 rfl rfl (by kernel_rfl) (rd_str Tryz.underlying9)
 obtain ⟨a1, r1, w1⟩ := fld hq 1 rfl (d := x1) rfl 4 1 1 rfl rfl (by kernel_rfl) (rd_bool Tryz.underlying4)
 obtain ⟨a2, r2, w2⟩ := fld hq 2 rfl (d := x2) rfl 4 2 1 rfl rfl (by kernel_rfl) (rd_bool Tryz.underlying4)
 obtain ⟨a3, r3, w3⟩ := fld hq 3 rfl (d := x3) rfl 45 3 1 rfl rfl (by kernel_rfl) (rd_int Tryz.underlying45)
 obtain ⟨a4, r4, w4⟩ := fld hq 4 rfl (d := x4) rfl 31 4 1 rfl rfl (by kernel_rfl) h31
 have q0 : RepL (G0 W) [] (cs.take 0) := by rw [List.take_zero]; exact RepL.nil _
 have q1 := rep_step q0 r0
 have q2 := rep_step q1 r1
 have q3 := rep_step q2 r2
 have q4 := rep_step q3 r3
 have q5 := rep_step q4 r4
 have e : cs.take 5 = cs := by rw [← hcs, List.take_length]
 simp only [Rows.uptoBulk, Rows.uptoBulkAll, List.map_cons, List.map_nil]
 refine ⟨⟨a0, a1, a2, a3, a4⟩, ?_, ?_⟩
 ·rw [e] at q5; rw [Agg.v_eq]; exact q5
 ·rw [Agg.w_eq]; simp only [List.map_const', List.sum_replicate_nat, Nat.mul_one] at *; omega
theorem rd132 {n : Nat} (h49 : Rd enc Tryz.prog W n 49 Term.v Term.w) : Rd enc Tryz.prog W (n + 1) 132 Bound.v Bound.w := fun cs x hx => by
 obtain ⟨xs, m, hm, rfl, hcs, hl, hq⟩ := DataW.trod_struct Tryz.underlying132 hx
 obtain rfl : n = m := by omega
 have hcs : cs.length = 15 := hcs.trans (by kernel_rfl)
 have hl : xs.length = 2 := hl
 obtain ⟨x0, y0, rfl, l0⟩ := len_succ hl
 obtain ⟨x1, y1, rfl, l1⟩ := len_succ l0
 obtain rfl := List.eq_nil_of_length_eq_zero l1
 obtain ⟨a0, r0, w0⟩ := fld hq 0 rfl (d := x0) rfl 49 0 14 rfl rfl (by kernel_rfl) h49
 obtain ⟨a1, r1, w1⟩ := fld hq 1 rfl (d := x1) rfl 4 14 1 rfl rfl (by kernel_rfl) (rd_bool Tryz.underlying4)
 have q0 : RepL (G0 W) [] (cs.take 0) := by rw [List.take_zero]; exact RepL.nil _
 have q1 := rep_step q0 r0
 have q2 := rep_step q1 r1
 have e : cs.take 15 = cs := by rw [← hcs, List.take_length]
 simp only [Rows.uptoBulk, Rows.uptoBulkAll, List.map_cons, List.map_nil]
 refine ⟨⟨a0, a1⟩, ?_, ?_⟩
 ·rw [e] at q2; rw [Bound.v_eq]; exact q2
 ·rw [Bound.w_eq]; simp only [List.map_const', List.sum_replicate_nat, Nat.mul_one] at *; omega
theorem rd68 {n : Nat} (h66 : Rd enc Tryz.prog W n 66 (fun z : Int × ByteArray × List Term × List Bound × List Bound => [vint z.1, vstr z.2.1, V.slice 14 (z.2.2.1.map Term.v), V.slice 15 (z.2.2.2.1.map Bound.v), V.slice 15 (z.2.2.2.2.map Bound.v)]) (fun z => 1 + (z.2.2.1.map Term.w).sum + (z.2.2.2.1.map Bound.w).sum + (z.2.2.2.2.map Bound.w).sum)) (h50 : Rd enc Tryz.prog W n 50 (fun l : List Int => [V.slice 1 (l.map (fun z : Int => [vint z]))]) (fun l : List Int => 1 + (l.map (fun _ => 1)).sum)) : Rd enc Tryz.prog W (n + 1) 68 Step.v Step.w := fun cs x hx => by
 obtain ⟨xs, m, hm, rfl, hcs, hl, hq⟩ := DataW.trod_struct Tryz.underlying68 hx
 obtain rfl : n = m := by omega
 have hcs : cs.length = 7 := hcs.trans (by kernel_rfl)
 have hl : xs.length = 3 := hl
 obtain ⟨x0, y0, rfl, l0⟩ := len_succ hl
 obtain ⟨x1, y1, rfl, l1⟩ := len_succ l0
 obtain ⟨x2, y2, rfl, l2⟩ := len_succ l1
 obtain rfl := List.eq_nil_of_length_eq_zero l2
 obtain ⟨a0, r0, w0⟩ := fld hq 0 rfl (d := x0) rfl 3 0 1 rfl rfl (by kernel_rfl) (rd_int Tryz.underlying3)
 obtain ⟨a1, r1, w1⟩ := fld hq 1 rfl (d := x1) rfl 66 1 5 rfl rfl (by kernel_rfl) h66
 obtain ⟨a2, r2, w2⟩ := fld hq 2 rfl (d := x2) rfl 50 6 1 rfl rfl (by kernel_rfl) h50
 have q0 : RepL (G0 W) [] (cs.take 0) := by rw [List.take_zero]; exact RepL.nil _
 have q1 := rep_step q0 r0
 have q2 := rep_step q1 r1
 have q3 := rep_step q2 r2
 have e : cs.take 7 = cs := by rw [← hcs, List.take_length]
 simp only [Rows.uptoBulk, Rows.uptoBulkAll, List.map_cons, List.map_nil]
 refine ⟨⟨a0, a1.1, a1.2.1, a1.2.2.1, a1.2.2.2.1, a1.2.2.2.2, a2⟩, ?_, ?_⟩
 ·rw [e] at q3; rw [Step.v_eq]; exact q3
 ·rw [Step.w_eq]; simp only [List.map_const', List.sum_replicate_nat, Nat.mul_one] at *; omega
/-- All at once. -/
structure RdAll (enc : TypeId × Value → H) (W : World) (n : Nat) : Prop where
 h49 : Rd enc Tryz.prog W n 49 Term.v Term.w
 h33 : Rd enc Tryz.prog W n 33 Query.v Query.w
 h75 : Rd enc Tryz.prog W n 75 Arm.v Arm.w
 h107 : Rd enc Tryz.prog W n 107 From.v From.w
 h130 : Rd enc Tryz.prog W n 130 Agg.v Agg.w
 h132 : Rd enc Tryz.prog W n 132 Bound.v Bound.w
 h68 : Rd enc Tryz.prog W n 68 Step.v Step.w
 h31 : Rd enc Tryz.prog W n 31 (fun l : List Term => [V.slice 14 (l.map Term.v)]) (fun l : List Term => 1 + (l.map Term.w).sum)
 h47 : Rd enc Tryz.prog W n 47 (fun l : List Query => [V.slice 5 (l.map Query.v)]) (fun l : List Query => 1 + (l.map Query.w).sum)
 h29 : Rd enc Tryz.prog W n 29 (fun l : List Arm => [V.slice 13 (l.map Arm.v)]) (fun l : List Arm => 1 + (l.map Arm.w).sum)
 h71 : Rd enc Tryz.prog W n 71 (fun l : List (List Term) => [V.slice 1 (l.map (fun l : List Term => [V.slice 14 (l.map Term.v)]))]) (fun l : List (List Term) => 1 + (l.map (fun l : List Term => 1 + (l.map Term.w).sum)).sum)
 h72 : Rd enc Tryz.prog W n 72 (fun l : List From => [V.slice 7 (l.map From.v)]) (fun l : List From => 1 + (l.map From.w).sum)
 h73 : Rd enc Tryz.prog W n 73 (fun l : List Agg => [V.slice 5 (l.map Agg.v)]) (fun l : List Agg => 1 + (l.map Agg.w).sum)
 h69 : Rd enc Tryz.prog W n 69 (fun l : List Step => [V.slice 7 (l.map Step.v)]) (fun l : List Step => 1 + (l.map Step.w).sum)
 h64 : Rd enc Tryz.prog W n 64 (fun l : List Bound => [V.slice 15 (l.map Bound.v)]) (fun l : List Bound => 1 + (l.map Bound.w).sum)
 h66 : Rd enc Tryz.prog W n 66 (fun z : Int × ByteArray × List Term × List Bound × List Bound => [vint z.1, vstr z.2.1, V.slice 14 (z.2.2.1.map Term.v), V.slice 15 (z.2.2.2.1.map Bound.v), V.slice 15 (z.2.2.2.2.map Bound.v)]) (fun z => 1 + (z.2.2.1.map Term.w).sum + (z.2.2.2.1.map Bound.w).sum + (z.2.2.2.2.map Bound.w).sum)
theorem rd_all (enc : TypeId × Value → H) (W : World) : ∀ n, RdAll enc W n
 | 0 => by constructor <;> exact rd_zero
 | n + 1 => by
  have h := rd_all enc W n
  have h28 : ∀ m, Rd enc Tryz.prog W m 28 (fun l : List ByteArray => [V.slice 1 (l.map (fun z : ByteArray => [vstr z]))]) (fun l : List ByteArray => 1 + (l.map (fun _ => 1)).sum) := fun m => by
   cases m with
   | zero => exact rd_zero
   | succ m => exact rd_slice Tryz.underlying28 (by kernel_rfl : Tryz.prog.cellsOf 9 = 1) (by decide) (fun a => ⟨rfl, rfl⟩) (rd_str Tryz.underlying9)
  have h50 : ∀ m, Rd enc Tryz.prog W m 50 (fun l : List Int => [V.slice 1 (l.map (fun z : Int => [vint z]))]) (fun l : List Int => 1 + (l.map (fun _ => 1)).sum) := fun m => by
   cases m with
   | zero => exact rd_zero
   | succ m => exact rd_slice Tryz.underlying50 (by kernel_rfl : Tryz.prog.cellsOf 3 = 1) (by decide) (fun a => ⟨rfl, rfl⟩) (rd_int Tryz.underlying3)
  have h44 : ∀ m, Rd enc Tryz.prog W m 44 (fun z : Int × Int × ByteArray => [vint z.1, vint z.2.1, vstr z.2.2]) (fun _ => 1) := fun m => by
   cases m with
   | zero => exact rd_zero
   | succ m => exact rd44
  have h118 : ∀ m, Rd enc Tryz.prog W m 118 Sorted.v (fun _ => 1) := fun m => by
   cases m with
   | zero => exact rd_zero
   | succ m => exact rd118
  have h30 : ∀ m, Rd enc Tryz.prog W m 30 (fun l : List Sorted => [V.slice 3 (l.map Sorted.v)]) (fun l : List Sorted => 1 + (l.map (fun _ => 1)).sum) := fun m => by
   cases m with
   | zero => exact rd_zero
   | succ m => exact rd_slice Tryz.underlying30 (by kernel_rfl : Tryz.prog.cellsOf 118 = 3) (by decide) Sorted_cell (h118 m)
  have g49 : Rd enc Tryz.prog W (n + 1) 49 Term.v Term.w := rd49 (h44 n) h.h31 h.h47
  have g33 : Rd enc Tryz.prog W (n + 1) 33 Query.v Query.w := rd33 (h28 n) h.h29 (h30 n) h.h31
  have g75 : Rd enc Tryz.prog W (n + 1) 75 Arm.v Arm.w := rd75 h.h71 h.h72 h.h31 h.h73 h.h69
  have g107 : Rd enc Tryz.prog W (n + 1) 107 From.v From.w := rd107 h.h47 h.h31
  have g130 : Rd enc Tryz.prog W (n + 1) 130 Agg.v Agg.w := rd130 h.h31
  have g132 : Rd enc Tryz.prog W (n + 1) 132 Bound.v Bound.w := rd132 h.h49
  have g68 : Rd enc Tryz.prog W (n + 1) 68 Step.v Step.w := rd68 h.h66 (h50 n)
  have g31 : Rd enc Tryz.prog W (n + 1) 31 (fun l : List Term => [V.slice 14 (l.map Term.v)]) (fun l : List Term => 1 + (l.map Term.w).sum) := rd_slice Tryz.underlying31 (by kernel_rfl : Tryz.prog.cellsOf 49 = 14) (by decide) Term_cell h.h49
  have g47 : Rd enc Tryz.prog W (n + 1) 47 (fun l : List Query => [V.slice 5 (l.map Query.v)]) (fun l : List Query => 1 + (l.map Query.w).sum) := rd_slice Tryz.underlying47 (by kernel_rfl : Tryz.prog.cellsOf 33 = 5) (by decide) Query_cell h.h33
  have g29 : Rd enc Tryz.prog W (n + 1) 29 (fun l : List Arm => [V.slice 13 (l.map Arm.v)]) (fun l : List Arm => 1 + (l.map Arm.w).sum) := rd_slice Tryz.underlying29 (by kernel_rfl : Tryz.prog.cellsOf 75 = 13) (by decide) Arm_cell h.h75
  have g71 : Rd enc Tryz.prog W (n + 1) 71 (fun l : List (List Term) => [V.slice 1 (l.map (fun l : List Term => [V.slice 14 (l.map Term.v)]))]) (fun l : List (List Term) => 1 + (l.map (fun l : List Term => 1 + (l.map Term.w).sum)).sum) := rd_slice Tryz.underlying71 (by kernel_rfl : Tryz.prog.cellsOf 31 = 1) (by decide) (fun a => ⟨rfl, rfl⟩) h.h31
  have g72 : Rd enc Tryz.prog W (n + 1) 72 (fun l : List From => [V.slice 7 (l.map From.v)]) (fun l : List From => 1 + (l.map From.w).sum) := rd_slice Tryz.underlying72 (by kernel_rfl : Tryz.prog.cellsOf 107 = 7) (by decide) From_cell h.h107
  have g73 : Rd enc Tryz.prog W (n + 1) 73 (fun l : List Agg => [V.slice 5 (l.map Agg.v)]) (fun l : List Agg => 1 + (l.map Agg.w).sum) := rd_slice Tryz.underlying73 (by kernel_rfl : Tryz.prog.cellsOf 130 = 5) (by decide) Agg_cell h.h130
  have g69 : Rd enc Tryz.prog W (n + 1) 69 (fun l : List Step => [V.slice 7 (l.map Step.v)]) (fun l : List Step => 1 + (l.map Step.w).sum) := rd_slice Tryz.underlying69 (by kernel_rfl : Tryz.prog.cellsOf 68 = 7) (by decide) Step_cell h.h68
  have g64 : Rd enc Tryz.prog W (n + 1) 64 (fun l : List Bound => [V.slice 15 (l.map Bound.v)]) (fun l : List Bound => 1 + (l.map Bound.w).sum) := rd_slice Tryz.underlying64 (by kernel_rfl : Tryz.prog.cellsOf 132 = 15) (by decide) Bound_cell h.h132
  have g66 : Rd enc Tryz.prog W (n + 1) 66 (fun z : Int × ByteArray × List Term × List Bound × List Bound => [vint z.1, vstr z.2.1, V.slice 14 (z.2.2.1.map Term.v), V.slice 15 (z.2.2.2.1.map Bound.v), V.slice 15 (z.2.2.2.2.map Bound.v)]) (fun z => 1 + (z.2.2.1.map Term.w).sum + (z.2.2.2.1.map Bound.w).sum + (z.2.2.2.2.map Bound.w).sum) := rd66 h.h31 h.h64
  exact ⟨g49, g33, g75, g107, g130, g132, g68, g31, g47, g29, g71, g72, g73, g69, g64, g66⟩
variable {H : Type} {enc : TypeId × Value → H} {W : World}
theorem rd62 {n : Nat} (h28 : Rd enc Tryz.prog W n 28 (fun l : List ByteArray => [V.slice 1 (l.map (fun z : ByteArray => [vstr z]))]) (fun l : List ByteArray => 1 + (l.map (fun _ => 1)).sum)) (h33 : Rd enc Tryz.prog W n 33 Query.v Query.w) (h47 : Rd enc Tryz.prog W n 47 (fun l : List Query => [V.slice 5 (l.map Query.v)]) (fun l : List Query => 1 + (l.map Query.w).sum)) : Rd enc Tryz.prog W (n + 1) 62 With.v With.w := fun cs x hx => by
 obtain ⟨xs, m, hm, rfl, hcs, hl, hq⟩ := DataW.trod_struct Tryz.underlying62 hx
 obtain rfl : n = m := by omega
 have hcs : cs.length = 9 := hcs.trans (by kernel_rfl)
 have hl : xs.length = 5 := hl
 obtain ⟨x0, y0, rfl, l0⟩ := len_succ hl
 obtain ⟨x1, y1, rfl, l1⟩ := len_succ l0
 obtain ⟨x2, y2, rfl, l2⟩ := len_succ l1
 obtain ⟨x3, y3, rfl, l3⟩ := len_succ l2
 obtain ⟨x4, y4, rfl, l4⟩ := len_succ l3
 obtain rfl := List.eq_nil_of_length_eq_zero l4
 obtain ⟨a0, r0, w0⟩ := fld hq 0 rfl (d := x0) rfl 9 0 1 rfl rfl (by kernel_rfl) (rd_str Tryz.underlying9)
 obtain ⟨a1, r1, w1⟩ := fld hq 1 rfl (d := x1) rfl 28 1 1 rfl rfl (by kernel_rfl) h28
 obtain ⟨a2, r2, w2⟩ := fld hq 2 rfl (d := x2) rfl 33 2 5 rfl rfl (by kernel_rfl) h33
 obtain ⟨a3, r3, w3⟩ := fld hq 3 rfl (d := x3) rfl 47 7 1 rfl rfl (by kernel_rfl) h47
 obtain ⟨a4, r4, w4⟩ := fld hq 4 rfl (d := x4) rfl 4 8 1 rfl rfl (by kernel_rfl) (rd_bool Tryz.underlying4)
 have q0 : RepL (G0 W) [] (cs.take 0) := by rw [List.take_zero]; exact RepL.nil _
 have q1 := rep_step q0 r0
 have q2 := rep_step q1 r1
 have q3 := rep_step q2 r2
 have q4 := rep_step q3 r3
 have q5 := rep_step q4 r4
 have e : cs.take 9 = cs := by rw [← hcs, List.take_length]
 simp only [Rows.uptoBulk, Rows.uptoBulkAll, List.map_cons, List.map_nil]
 refine ⟨⟨a0, a1, a2, a3, a4⟩, ?_, ?_⟩
 ·rw [e] at q5; rw [With.v_eq]; simp only [List.nil_append, List.append_assoc, List.cons_append] at q5 ⊢; exact q5
 ·rw [With.w_eq]; simp only [List.map_const', List.sum_replicate_nat, Nat.mul_one] at *; omega
theorem rd35 {n : Nat} (h27 : Rd enc Tryz.prog W n 27 (fun l : List With => [V.slice 9 (l.map With.v)]) (fun l : List With => 1 + (l.map With.w).sum)) (h33 : Rd enc Tryz.prog W n 33 Query.v Query.w) : Rd enc Tryz.prog W (n + 1) 35 Resolved.v Resolved.w := fun cs x hx => by
 obtain ⟨xs, m, hm, rfl, hcs, hl, hq⟩ := DataW.trod_struct Tryz.underlying35 hx
 obtain rfl : n = m := by omega
 have hcs : cs.length = 6 := hcs.trans (by kernel_rfl)
 have hl : xs.length = 2 := hl
 obtain ⟨x0, y0, rfl, l0⟩ := len_succ hl
 obtain ⟨x1, y1, rfl, l1⟩ := len_succ l0
 obtain rfl := List.eq_nil_of_length_eq_zero l1
 obtain ⟨a0, r0, w0⟩ := fld hq 0 rfl (d := x0) rfl 27 0 1 rfl rfl (by kernel_rfl) h27
 obtain ⟨a1, r1, w1⟩ := fld hq 1 rfl (d := x1) rfl 33 1 5 rfl rfl (by kernel_rfl) h33
 have q0 : RepL (G0 W) [] (cs.take 0) := by rw [List.take_zero]; exact RepL.nil _
 have q1 := rep_step q0 r0
 have q2 := rep_step q1 r1
 have e : cs.take 6 = cs := by rw [← hcs, List.take_length]
 simp only [Rows.uptoBulk, Rows.uptoBulkAll, List.map_cons, List.map_nil]
 refine ⟨⟨a0, a1⟩, ?_, ?_⟩
 ·rw [e] at q2; rw [Resolved.v_eq]; simp only [List.nil_append, List.append_assoc, List.cons_append] at q2 ⊢; exact q2
 ·rw [Resolved.w_eq]; simp only [List.map_const', List.sum_replicate_nat, Nat.mul_one] at *; omega
theorem rd35_any (enc : TypeId × Value → H) (W : World) : ∀ n, Rd enc Tryz.prog W n 35 Resolved.v Resolved.w := by
 have h28 : ∀ m, Rd enc Tryz.prog W m 28 (fun l : List ByteArray => [V.slice 1 (l.map (fun z : ByteArray => [vstr z]))]) (fun l : List ByteArray => 1 + (l.map (fun _ => 1)).sum) := fun m => by
  cases m with
  | zero => exact rd_zero
  | succ m => exact rd_slice Tryz.underlying28 (by kernel_rfl : Tryz.prog.cellsOf 9 = 1) (by decide) (fun a => ⟨rfl, rfl⟩) (rd_str Tryz.underlying9)
 have h62 : ∀ m, Rd enc Tryz.prog W m 62 With.v With.w := fun m => by
  cases m with
  | zero => exact rd_zero
  | succ m => exact rd62 (h28 m) (rd_all enc W m).h33 (rd_all enc W m).h47
 have h27 : ∀ m, Rd enc Tryz.prog W m 27 (fun l : List With => [V.slice 9 (l.map With.v)]) (fun l : List With => 1 + (l.map With.w).sum) := fun m => by
  cases m with
  | zero => exact rd_zero
  | succ m => exact rd_slice Tryz.underlying27 (by kernel_rfl : Tryz.prog.cellsOf 62 = 9) (by decide) With_cell (h62 m)
 intro n
 cases n with
 | zero => exact rd_zero
 | succ n => exact rd35 (h27 n) (rd_all enc W n).h33
variable {H : Type} {enc : TypeId × Value → H} {W : World}
abbrev Cv := {v : Value // v.oneCell' = true}
theorem rd_raw {P : Program} {n : Nat} {T e : TypeId} (ht : P.underlying T = some (.slice e)) : Rd enc P W n T (fun a : Cv => [V.base a.1]) (fun _ => 1) := fun cs x hx => by
 rcases DataW.trod_slice ht hx with ⟨rfl, rfl⟩ | ⟨a, len, cap, elems, rest, m, hm, rfl, rfl, _⟩
 ·exact ⟨⟨_, rfl⟩, RepL.cons (Rep.base _) (RepL.nil _), bulk_pos _⟩
 ·exact ⟨⟨_, rfl⟩, RepL.cons (Rep.base _) (RepL.nil _), bulk_pos _⟩
structure CD where
 name : ByteArray
 type : ByteArray
 coll : Int
 p : Bool
 u : Bool
 nn : Bool
 d : Cv
 c : Cv
def CD.vals (z : CD) : List Value := [.string z.name, .string z.type, .int .i64 z.coll, .bool z.p, .bool z.u, .bool z.nn, z.d.1, z.c.1]
def CD.v (z : CD) : List V := z.vals.map V.base
theorem CD_cell (z : CD) : z.v.length = 8 ∧ z.v.all V.isCell = true := by
 refine ⟨rfl, ?_⟩
 show (true && (true && (true && (true && (true && (true && (z.d.1.oneCell' && (z.c.1.oneCell' && true)))))))) = true
 rw [z.d.2, z.c.2]; rfl
def _root_.Go.Pl.Table.w (t : Table) : Nat := 1 + t.name.size + t.cols.length
def _root_.Go.Pl.Index.w (t : Index) : Nat := 1 + 4 * t.keys.length
def _root_.Go.Pl.Schema.w (t : Schema) : Nat := 1 + (t.tables.map Table.w).sum + (t.indexes.map Index.w).sum
theorem Table_cell (t : Table) : t.v.length = 3 ∧ t.v.all V.isCell = true := ⟨rfl, rfl⟩
theorem Index_cell (t : Index) : t.v.length = 5 ∧ t.v.all V.isCell = true := ⟨rfl, rfl⟩
abbrev Sc := {s : Schema // s.views.isCell = true}
theorem rd193 {n : Nat}  : Rd enc Tryz.prog W (n + 1) 193 CD.v (fun _ => 1) := fun cs x hx => by
 obtain ⟨xs, m, hm, rfl, hcs, hl, hq⟩ := DataW.trod_struct Tryz.underlying193 hx
 obtain rfl : n = m := by omega
 have hcs : cs.length = 8 := hcs.trans (by kernel_rfl)
 have hl : xs.length = 8 := hl
 obtain ⟨x0, y0, rfl, l0⟩ := len_succ hl
 obtain ⟨x1, y1, rfl, l1⟩ := len_succ l0
 obtain ⟨x2, y2, rfl, l2⟩ := len_succ l1
 obtain ⟨x3, y3, rfl, l3⟩ := len_succ l2
 obtain ⟨x4, y4, rfl, l4⟩ := len_succ l3
 obtain ⟨x5, y5, rfl, l5⟩ := len_succ l4
 obtain ⟨x6, y6, rfl, l6⟩ := len_succ l5
 obtain ⟨x7, y7, rfl, l7⟩ := len_succ l6
 obtain rfl := List.eq_nil_of_length_eq_zero l7
 obtain ⟨a0, r0, w0⟩ := fld hq 0 rfl (d := x0) rfl 9 0 1 rfl rfl (by kernel_rfl) (rd_str Tryz.underlying9)
 obtain ⟨a1, r1, w1⟩ := fld hq 1 rfl (d := x1) rfl 9 1 1 rfl rfl (by kernel_rfl) (rd_str Tryz.underlying9)
 obtain ⟨a2, r2, w2⟩ := fld hq 2 rfl (d := x2) rfl 45 2 1 rfl rfl (by kernel_rfl) (rd_int Tryz.underlying45)
 obtain ⟨a3, r3, w3⟩ := fld hq 3 rfl (d := x3) rfl 4 3 1 rfl rfl (by kernel_rfl) (rd_bool Tryz.underlying4)
 obtain ⟨a4, r4, w4⟩ := fld hq 4 rfl (d := x4) rfl 4 4 1 rfl rfl (by kernel_rfl) (rd_bool Tryz.underlying4)
 obtain ⟨a5, r5, w5⟩ := fld hq 5 rfl (d := x5) rfl 4 5 1 rfl rfl (by kernel_rfl) (rd_bool Tryz.underlying4)
 obtain ⟨a6, r6, w6⟩ := fld hq 6 rfl (d := x6) rfl 191 6 1 rfl rfl (by kernel_rfl) (rd_raw Tryz.underlying191)
 obtain ⟨a7, r7, w7⟩ := fld hq 7 rfl (d := x7) rfl 191 7 1 rfl rfl (by kernel_rfl) (rd_raw Tryz.underlying191)
 have q0 : RepL (G0 W) [] (cs.take 0) := by rw [List.take_zero]; exact RepL.nil _
 have q1 := rep_step q0 r0
 have q2 := rep_step q1 r1
 have q3 := rep_step q2 r2
 have q4 := rep_step q3 r3
 have q5 := rep_step q4 r4
 have q6 := rep_step q5 r5
 have q7 := rep_step q6 r6
 have q8 := rep_step q7 r7
 have e : cs.take 8 = cs := by rw [← hcs, List.take_length]
 simp only [Rows.uptoBulk, Rows.uptoBulkAll, List.map_cons, List.map_nil]
 refine ⟨⟨a0, a1, a2, a3, a4, a5, a6, a7⟩, ?_, ?_⟩
 ·rw [e] at q8; exact q8
 ·omega
theorem rd149 {n : Nat}  : Rd enc Tryz.prog W (n + 1) 149 Sorted.v (fun _ => 4) := fun cs x hx => by
 obtain ⟨xs, m, hm, rfl, hcs, hl, hq⟩ := DataW.trod_struct Tryz.underlying149 hx
 obtain rfl : n = m := by omega
 have hcs : cs.length = 3 := hcs.trans (by kernel_rfl)
 have hl : xs.length = 3 := hl
 obtain ⟨x0, y0, rfl, l0⟩ := len_succ hl
 obtain ⟨x1, y1, rfl, l1⟩ := len_succ l0
 obtain ⟨x2, y2, rfl, l2⟩ := len_succ l1
 obtain rfl := List.eq_nil_of_length_eq_zero l2
 obtain ⟨a0, r0, w0⟩ := fld hq 0 rfl (d := x0) rfl 3 0 1 rfl rfl (by kernel_rfl) (rd_int Tryz.underlying3)
 obtain ⟨a1, r1, w1⟩ := fld hq 1 rfl (d := x1) rfl 45 1 1 rfl rfl (by kernel_rfl) (rd_int Tryz.underlying45)
 obtain ⟨a2, r2, w2⟩ := fld hq 2 rfl (d := x2) rfl 4 2 1 rfl rfl (by kernel_rfl) (rd_bool Tryz.underlying4)
 have q0 : RepL (G0 W) [] (cs.take 0) := by rw [List.take_zero]; exact RepL.nil _
 have q1 := rep_step q0 r0
 have q2 := rep_step q1 r1
 have q3 := rep_step q2 r2
 have e : cs.take 3 = cs := by rw [← hcs, List.take_length]
 simp only [Rows.uptoBulk, Rows.uptoBulkAll, List.map_cons, List.map_nil]
 refine ⟨⟨a0, a1, a2⟩, ?_, ?_⟩
 ·rw [e] at q3; exact q3
 ·omega
theorem rd137 {n : Nat} (h135 : Rd enc Tryz.prog W n 135 (fun l : List CD => [V.slice 8 (l.map CD.v)]) (fun l : List CD => 1 + (l.map fun _ => 1).sum)) : Rd enc Tryz.prog W (n + 1) 137 Table.v Table.w := fun cs x hx => by
 obtain ⟨xs, m, hm, rfl, hcs, hl, hq⟩ := DataW.trod_struct Tryz.underlying137 hx
 obtain rfl : n = m := by omega
 have hcs : cs.length = 3 := hcs.trans (by kernel_rfl)
 have hl : xs.length = 3 := hl
 obtain ⟨x0, y0, rfl, l0⟩ := len_succ hl
 obtain ⟨x1, y1, rfl, l1⟩ := len_succ l0
 obtain ⟨x2, y2, rfl, l2⟩ := len_succ l1
 obtain rfl := List.eq_nil_of_length_eq_zero l2
 obtain ⟨a0, r0, w0⟩ := fld hq 0 rfl (d := x0) rfl 9 0 1 rfl rfl (by kernel_rfl) (rd_strw Tryz.underlying9)
 obtain ⟨a1, r1, w1⟩ := fld hq 1 rfl (d := x1) rfl 135 1 1 rfl rfl (by kernel_rfl) h135
 obtain ⟨a2, r2, w2⟩ := fld hq 2 rfl (d := x2) rfl 3 2 1 rfl rfl (by kernel_rfl) (rd_int Tryz.underlying3)
 have q0 : RepL (G0 W) [] (cs.take 0) := by rw [List.take_zero]; exact RepL.nil _
 have q1 := rep_step q0 r0
 have q2 := rep_step q1 r1
 have q3 := rep_step q2 r2
 have e : cs.take 3 = cs := by rw [← hcs, List.take_length]
 simp only [Rows.uptoBulk, Rows.uptoBulkAll, List.map_cons, List.map_nil]
 refine ⟨⟨a0, a1.map CD.vals, a2⟩, ?_, ?_⟩
 ·rw [e] at q3; rw [Table.v_eq]; simp only [List.map_map]; exact q3
 ·simp only [Table.w, List.length_map, List.map_const', List.sum_replicate_nat, Nat.mul_one] at *; omega
theorem rd147 {n : Nat} (h145 : Rd enc Tryz.prog W n 145 (fun l : List Sorted => [V.slice 3 (l.map Sorted.v)]) (fun l : List Sorted => 1 + (l.map fun _ => 4).sum)) : Rd enc Tryz.prog W (n + 1) 147 Index.v Index.w := fun cs x hx => by
 obtain ⟨xs, m, hm, rfl, hcs, hl, hq⟩ := DataW.trod_struct Tryz.underlying147 hx
 obtain rfl : n = m := by omega
 have hcs : cs.length = 5 := hcs.trans (by kernel_rfl)
 have hl : xs.length = 5 := hl
 obtain ⟨x0, y0, rfl, l0⟩ := len_succ hl
 obtain ⟨x1, y1, rfl, l1⟩ := len_succ l0
 obtain ⟨x2, y2, rfl, l2⟩ := len_succ l1
 obtain ⟨x3, y3, rfl, l3⟩ := len_succ l2
 obtain ⟨x4, y4, rfl, l4⟩ := len_succ l3
 obtain rfl := List.eq_nil_of_length_eq_zero l4
 obtain ⟨a0, r0, w0⟩ := fld hq 0 rfl (d := x0) rfl 9 0 1 rfl rfl (by kernel_rfl) (rd_str Tryz.underlying9)
 obtain ⟨a1, r1, w1⟩ := fld hq 1 rfl (d := x1) rfl 9 1 1 rfl rfl (by kernel_rfl) (rd_str Tryz.underlying9)
 obtain ⟨a2, r2, w2⟩ := fld hq 2 rfl (d := x2) rfl 145 2 1 rfl rfl (by kernel_rfl) h145
 obtain ⟨a3, r3, w3⟩ := fld hq 3 rfl (d := x3) rfl 4 3 1 rfl rfl (by kernel_rfl) (rd_bool Tryz.underlying4)
 obtain ⟨a4, r4, w4⟩ := fld hq 4 rfl (d := x4) rfl 4 4 1 rfl rfl (by kernel_rfl) (rd_bool Tryz.underlying4)
 have q0 : RepL (G0 W) [] (cs.take 0) := by rw [List.take_zero]; exact RepL.nil _
 have q1 := rep_step q0 r0
 have q2 := rep_step q1 r1
 have q3 := rep_step q2 r2
 have q4 := rep_step q3 r3
 have q5 := rep_step q4 r4
 have e : cs.take 5 = cs := by rw [← hcs, List.take_length]
 simp only [Rows.uptoBulk, Rows.uptoBulkAll, List.map_cons, List.map_nil]
 refine ⟨⟨a0, a1, a2, a3, a4⟩, ?_, ?_⟩
 ·rw [e] at q5; rw [Index.v_eq]; exact q5
 ·simp only [Index.w, List.map_const', List.sum_replicate_nat, Nat.mul_one] at *; omega
theorem rd26 {n : Nat} (h22 : Rd enc Tryz.prog W n 22 (fun l : List Table => [V.slice 3 (l.map Table.v)]) (fun l : List Table => 1 + (l.map Table.w).sum)) (h23 : Rd enc Tryz.prog W n 23 (fun l : List Index => [V.slice 5 (l.map Index.v)]) (fun l : List Index => 1 + (l.map Index.w).sum)) : Rd enc Tryz.prog W (n + 1) 26 (fun s : Sc => s.1.v) (fun s => s.1.w) := fun cs x hx => by
 obtain ⟨xs, m, hm, rfl, hcs, hl, hq⟩ := DataW.trod_struct Tryz.underlying26 hx
 obtain rfl : n = m := by omega
 have hcs : cs.length = 3 := hcs.trans (by kernel_rfl)
 have hl : xs.length = 3 := hl
 obtain ⟨x0, y0, rfl, l0⟩ := len_succ hl
 obtain ⟨x1, y1, rfl, l1⟩ := len_succ l0
 obtain ⟨x2, y2, rfl, l2⟩ := len_succ l1
 obtain rfl := List.eq_nil_of_length_eq_zero l2
 obtain ⟨a0, r0, w0⟩ := fld hq 0 rfl (d := x0) rfl 22 0 1 rfl rfl (by kernel_rfl) h22
 obtain ⟨a1, r1, w1⟩ := fld hq 1 rfl (d := x1) rfl 23 1 1 rfl rfl (by kernel_rfl) h23
 obtain ⟨a2, r2, w2⟩ := fld hq 2 rfl (d := x2) rfl 24 2 1 rfl rfl (by kernel_rfl) (rd_raw Tryz.underlying24)
 have q0 : RepL (G0 W) [] (cs.take 0) := by rw [List.take_zero]; exact RepL.nil _
 have q1 := rep_step q0 r0
 have q2 := rep_step q1 r1
 have q3 := rep_step q2 r2
 have e : cs.take 3 = cs := by rw [← hcs, List.take_length]
 simp only [Rows.uptoBulk, Rows.uptoBulkAll, List.map_cons, List.map_nil]
 refine ⟨⟨⟨a0, a1, .base a2.1⟩, a2.2⟩, ?_, ?_⟩
 ·rw [e] at q3; simp only [Schema.v_eq]; exact q3
 ·simp only [Schema.w] at *; omega
theorem rd193_any (enc : TypeId × Value → H) (W : World) : ∀ n, Rd enc Tryz.prog W n 193 CD.v (fun _ => 1) := by
 intro n
 cases n with
 | zero => exact rd_zero
 | succ n => exact rd193
theorem rd149_any (enc : TypeId × Value → H) (W : World) : ∀ n, Rd enc Tryz.prog W n 149 Sorted.v (fun _ => 4) := by
 intro n
 cases n with
 | zero => exact rd_zero
 | succ n => exact rd149
theorem rd135_any (enc : TypeId × Value → H) (W : World) : ∀ n, Rd enc Tryz.prog W n 135 (fun l : List CD => [V.slice 8 (l.map CD.v)]) (fun l : List CD => 1 + (l.map fun _ => 1).sum) := by
 intro n
 cases n with
 | zero => exact rd_zero
 | succ n => exact rd_slice Tryz.underlying135 (by kernel_rfl : Tryz.prog.cellsOf 193 = 8) (by decide) CD_cell (rd193_any enc W n)
theorem rd145_any (enc : TypeId × Value → H) (W : World) : ∀ n, Rd enc Tryz.prog W n 145 (fun l : List Sorted => [V.slice 3 (l.map Sorted.v)]) (fun l : List Sorted => 1 + (l.map fun _ => 4).sum) := by
 intro n
 cases n with
 | zero => exact rd_zero
 | succ n => exact rd_slice Tryz.underlying145 (by kernel_rfl : Tryz.prog.cellsOf 149 = 3) (by decide) Sorted_cell (rd149_any enc W n)
theorem rd137_any (enc : TypeId × Value → H) (W : World) : ∀ n, Rd enc Tryz.prog W n 137 Table.v Table.w := by
 intro n
 cases n with
 | zero => exact rd_zero
 | succ n => exact rd137 (rd135_any enc W n)
theorem rd147_any (enc : TypeId × Value → H) (W : World) : ∀ n, Rd enc Tryz.prog W n 147 Index.v Index.w := by
 intro n
 cases n with
 | zero => exact rd_zero
 | succ n => exact rd147 (rd145_any enc W n)
theorem rd22_any (enc : TypeId × Value → H) (W : World) : ∀ n, Rd enc Tryz.prog W n 22 (fun l : List Table => [V.slice 3 (l.map Table.v)]) (fun l : List Table => 1 + (l.map Table.w).sum) := by
 intro n
 cases n with
 | zero => exact rd_zero
 | succ n => exact rd_slice Tryz.underlying22 (by kernel_rfl : Tryz.prog.cellsOf 137 = 3) (by decide) Table_cell (rd137_any enc W n)
theorem rd23_any (enc : TypeId × Value → H) (W : World) : ∀ n, Rd enc Tryz.prog W n 23 (fun l : List Index => [V.slice 5 (l.map Index.v)]) (fun l : List Index => 1 + (l.map Index.w).sum) := by
 intro n
 cases n with
 | zero => exact rd_zero
 | succ n => exact rd_slice Tryz.underlying23 (by kernel_rfl : Tryz.prog.cellsOf 147 = 5) (by decide) Index_cell (rd147_any enc W n)
theorem rd26_any (enc : TypeId × Value → H) (W : World) : ∀ n, Rd enc Tryz.prog W n 26 (fun s : Sc => s.1.v) (fun s => s.1.w) := by
 intro n
 cases n with
 | zero => exact rd_zero
 | succ n => exact rd26 (rd22_any enc W n) (rd23_any enc W n)
end Go.Proofs.YtcckhbconihagaaGreatDoor
