/- What is read of a value as data, in abstract values: of whatever the type. -/
import Derived.ChangeArms
import Derived.Test.YtcckhbconihagaaGreatDoorRows
import Derived.Test.YtcckhbconihagaaGreatDoorPlData
set_option linter.unusedVariables false
namespace Go.Proofs.YtcckhbconihagaaGreatDoor
open Go.Am Go.Pl
/-- All of memory turns no more. -/
def G0 (W : World) : Ghost := ⟨fun b o => W.cell? ⟨b, o, none⟩, fun _ => none⟩
def H0 : Heap := ⟨fun _ => none, fun _ => none⟩
theorem hrel0 (W : World) : HRel (G0 W) H0 W where
  frz := fun b o v h => h
  box := fun b cs ty h => by cases h
  own := fun g e sz h => by cases h
  sep := fun g g' x x' v v' b h => by cases h
  nobox := fun g x v b h => by cases h
  fin := ⟨0, fun g _ => ⟨rfl, rfl⟩⟩

variable {H : Type} {enc : TypeId × Value → H} {P : Program} {W : World}
/-- A type's readings are of these values, with so much bulk. -/
def Rd (enc : TypeId × Value → H) (P : Program) (W : World) (n : Nat) (T : TypeId) {α : Type} (e : α → List V) (w : α → Nat) : Prop :=
  ∀ cs x, DataW.trod enc P W 0 (fun _ => true) true n T cs = some x → ∃ a, RepL (G0 W) (e a) cs ∧ w a ≤ Rows.uptoBulk x.1
theorem rd_zero {T : TypeId} {α : Type} {e : α → List V} {w : α → Nat} : Rd enc P W 0 T e w := fun cs x h => by simp [DataW.trod] at h
theorem bulk_pos (d : DataW H) : 1 ≤ Rows.uptoBulk d := by
  cases d with
  | lit l => cases l <;> simp [Rows.uptoBulk]
  | nil => simp [Rows.uptoBulk]
  | ptr d => simp [Rows.uptoBulk]
  | slice elems spare => simp [Rows.uptoBulk]
  | agg parts => simp [Rows.uptoBulk]
  | iface t d => simp [Rows.uptoBulk]
  | map entries => simp [Rows.uptoBulk]
  | held h => simp [Rows.uptoBulk]
theorem bulk_append (l r : List (DataW H)) : Rows.uptoBulkAll (l ++ r) = Rows.uptoBulkAll l + Rows.uptoBulkAll r := by
  induction l with
  | nil => simp [Rows.uptoBulkAll]
  | cons x l ih => simp only [List.cons_append, Rows.uptoBulkAll, ih]; omega
theorem rd_int {n : Nat} {T : TypeId} (h : P.underlying T = some (.int .i64)) : Rd enc P W n T (fun z : Int => [vint z]) (fun _ => 1) := fun cs x hx => by
  obtain ⟨z, rfl, rfl, _⟩ := DataW.trod_int h hx
  exact ⟨z, RepL.cons (Rep.base _) (RepL.nil _), bulk_pos _⟩
theorem rd_bool {n : Nat} {T : TypeId} (h : P.underlying T = some .bool) : Rd enc P W n T (fun z : Bool => [vbool z]) (fun _ => 1) := fun cs x hx => by
  obtain ⟨z, rfl, rfl⟩ := DataW.trod_bool h hx
  exact ⟨z, RepL.cons (Rep.base _) (RepL.nil _), bulk_pos _⟩
theorem rd_str {n : Nat} {T : TypeId} (h : P.underlying T = some .string) : Rd enc P W n T (fun z : ByteArray => [vstr z]) (fun _ => 1) := fun cs x hx => by
  obtain ⟨z, rfl, rfl, _⟩ := DataW.trod_string h hx
  exact ⟨z, RepL.cons (Rep.base _) (RepL.nil _), bulk_pos _⟩
theorem mapM_get {α β : Type} (f : α → Option β) : ∀ (l : List α) (ys : List β), l.mapM f = some ys → ys.length = l.length ∧ ∀ (i : Nat) x, l[i]? = some x → f x = ys[i]?
  | [], ys, h => by simp at h; subst h; simp
  | x :: l, ys, h => by
    rw [List.mapM_cons] at h
    cases hx : f x with
    | none => rw [hx] at h; cases h
    | some y =>
      rw [hx] at h
      cases hl : l.mapM f with
      | none => rw [hl] at h; cases h
      | some zs =>
        rw [hl] at h
        cases h
        obtain ⟨h1, h2⟩ := mapM_get f l zs hl
        refine ⟨by simp [h1], fun i z hz => ?_⟩
        cases i with
        | zero => simp at hz; subst hz; simpa using hx
        | succ i => simpa using h2 i z (by simpa using hz)
theorem add_add (b o m j : Nat) : (Addr.add (Addr.add ⟨b, o, none⟩ m) j) = ⟨b, o + (m + j), none⟩ := by
  unfold Addr.add
  by_cases h1 : m = 0 <;> by_cases h2 : j = 0 <;> simp [h1, h2] <;> omega
theorem cells_get {a : Addr} {n : Nat} {cs : List Value} (h : W.cells? 0 a n = some cs) : cs.length = n ∧ ∀ j, j < n → W.cell? (a.add j) = cs[j]? := by
  unfold World.cells? at h
  rw [if_pos (Nat.zero_le _)] at h
  obtain ⟨h1, h2⟩ := mapM_get _ _ _ h
  refine ⟨by simpa using h1, fun j hj => h2 j j (by simp [hj])⟩

theorem rd_slice {n : Nat} {T e : TypeId} {sz : Nat} (ht : P.underlying T = some (.slice e)) (hc : P.cellsOf e = sz) (hsz : 0 < sz) {α : Type} {en : α → List V} {w : α → Nat} (hcell : ∀ a, (en a).length = sz ∧ (en a).all V.isCell = true) (h : Rd enc P W n e en w) :
    Rd enc P W (n + 1) T (fun l : List α => [.slice sz (l.map en)]) (fun l => 1 + (l.map w).sum) := fun cs x hx => by
  rcases DataW.trod_slice ht hx with ⟨rfl, rfl⟩ | ⟨a, len, cap, elems, rest, m, hm, rfl, rfl, _, hlc, hcm, hel, hget, _⟩
  · exact ⟨[], RepL.cons (Rep.slice0 sz none 0) (RepL.nil _), by simp [Rows.uptoBulk]⟩
  · obtain rfl : n = m := by omega
    rw [hc] at hget
    have build : ∀ k, k ≤ len → ∃ l : List α, l.length = k ∧ (∀ i (hi : i < l.length), ∃ ci, W.cells? 0 (a.add (i * sz)) sz = some ci ∧ RepL (G0 W) (en l[i]) ci) ∧ (l.map w).sum ≤ Rows.uptoBulkAll ((elems.take k).map (·.1)) := by
      intro k
      induction k with
      | zero => exact fun _ => ⟨[], rfl, fun i hi => by simp at hi, by simp⟩
      | succ k ih =>
        intro hk
        obtain ⟨l, hl, h1, h2⟩ := ih (by omega)
        have hk' : k < elems.length := by omega
        have hg := hget k (by omega)
        rw [List.getElem?_eq_getElem hk'] at hg
        cases hci : W.cells? 0 (a.add (k * sz)) sz with
        | none => rw [hci] at hg; cases hg
        | some ci =>
          rw [hci] at hg
          obtain ⟨y, hy, hw⟩ := h ci _ hg
          refine ⟨l ++ [y], by simp [hl], fun i hi => ?_, ?_⟩
          · by_cases hlt : i < l.length
            · rw [List.getElem_append_left hlt]; exact h1 i hlt
            · obtain rfl : i = l.length := by simp at hi; omega
              rw [List.getElem_append_right (Nat.le_refl _)]
              simp only [Nat.sub_self, List.getElem_cons_zero]
              rw [hl]
              exact ⟨ci, hci, hy⟩
          · rw [List.take_succ_eq_append_getElem hk', List.map_append, List.map_append, bulk_append, List.sum_append]
            simp only [List.map_cons, List.map_nil, List.sum_cons, List.sum_nil, Rows.uptoBulkAll]
            omega
    obtain ⟨l, hl, h1, h2⟩ := build len (Nat.le_refl _)
    refine ⟨l, RepL.cons ?_ (RepL.nil _), ?_⟩
    · by_cases h0 : len = 0
      · subst h0
        obtain rfl := List.eq_nil_of_length_eq_zero hl
        exact Rep.slice0 sz (some a) cap
      · have hspot : a.spot = none := by
          obtain ⟨ci, hci, _⟩ := h1 0 (by omega)
          obtain ⟨k1, k2⟩ := cells_get hci
          have := k2 0 hsz
          rw [List.getElem?_eq_getElem (by omega)] at this
          simpa [Addr.add] using World.cell?_spot this
        obtain ⟨b, o, sp⟩ := a
        simp only at hspot
        subst hspot
        have cell : ∀ i (hi : i < l.length) j c, (en l[i])[j]? = some c → ∃ v, W.cell? ⟨b, o + (i * sz + j), none⟩ = some v ∧ Rep (G0 W) c v ∧ v.oneCell' = true := fun i hi j c hj => by
          obtain ⟨ci, hci, hr⟩ := h1 i hi
          obtain ⟨k1, k2⟩ := cells_get hci
          obtain ⟨v, hv, hrv⟩ := hr.get hj
          have hjlt : j < sz := by rw [← (hcell l[i]).1]; exact (List.getElem?_eq_some_iff.1 hj).1
          have := k2 j hjlt
          rw [add_add, hv] at this
          exact ⟨v, this, hrv, hrv.oneCell (List.all_eq_true.1 (hcell l[i]).2 c (List.mem_of_getElem? hj))⟩
        have at' : ∀ k, k < l.length * sz → ∃ v, W.cell? ⟨b, o + k, none⟩ = some v ∧ v.oneCell' = true := fun k hk => by
          have hi : k / sz < l.length := Nat.div_lt_of_lt_mul (by rw [Nat.mul_comm]; exact hk)
          have hj : k % sz < (en l[k / sz]).length := by rw [(hcell _).1]; exact Nat.mod_lt _ hsz
          obtain ⟨v, hv, _, h1⟩ := cell (k / sz) hi (k % sz) _ (List.getElem?_eq_getElem hj)
          have e : k / sz * sz + k % sz = k := by rw [Nat.mul_comm]; exact Nat.div_add_mod k sz
          rw [e] at hv
          exact ⟨v, hv, h1⟩
        have key := Rep.slice (G := G0 W) sz (l.map en) b o cap (fun k => (W.cell? ⟨b, o + k, none⟩).getD undef) (fun cs hcs => by
            obtain ⟨y, _, rfl⟩ := List.mem_map.1 hcs
            exact (hcell y).1) (by rw [List.length_map]; omega) hcm (fun k hk => ?_) (fun i j cs c hi hj => ?_) (fun k hk => ?_)
        · rw [List.length_map, hl] at key; exact key
        · rw [List.length_map] at hk
          obtain ⟨v, hv, _⟩ := at' k hk
          show W.cell? _ = _
          rw [hv]; rfl
        · rw [List.getElem?_map] at hi
          by_cases hlt : i < l.length
          · rw [List.getElem?_eq_getElem hlt] at hi
            cases hi
            obtain ⟨v, hv, hr, _⟩ := cell i hlt j c hj
            rw [hv]; exact hr
          · rw [List.getElem?_eq_none (by omega)] at hi; cases hi
        · rw [List.length_map] at hk
          obtain ⟨v, hv, h1⟩ := at' k hk
          rw [hv]; exact h1
    · have : elems.take len = elems := by rw [← hel, List.take_length]
      rw [this] at h2
      simp only [Rows.uptoBulk]
      omega

theorem len_succ {α : Type} {l : List α} {k : Nat} (h : l.length = k + 1) : ∃ x r, l = x :: r ∧ r.length = k := by
  cases l with
  | nil => simp at h
  | cons x r => exact ⟨x, r, rfl, by simpa using h⟩
theorem fld {n : Nat} {fs : Array Field} {xs : List (DataW H × List MemPlace)} {cs : List Value} (hq : ∀ (i : Nat) (f : Field), fs[i]? = some f → DataW.trod enc P W 0 (fun _ => true) true n f.type ((cs.drop f.offset).take (P.cellsOf f.type)) = xs[i]?)
    (i : Nat) {f : Field} (hf : fs[i]? = some f) {d : DataW H × List MemPlace} (hd : xs[i]? = some d) (T off sz : Nat) (hT : f.type = T) (ho : f.offset = off) (hs : P.cellsOf T = sz) {α : Type} {en : α → List V} {w : α → Nat} (hr : Rd enc P W n T en w) :
    ∃ a, RepL (G0 W) (en a) ((cs.drop off).take sz) ∧ w a ≤ Rows.uptoBulk d.1 := by
  subst hT ho hs
  exact hr _ _ ((hq i f hf).trans hd)
theorem rep_step {G : Ghost} {A B : List V} {cs : List Value} {m k : Nat} (h1 : RepL G A (cs.take m)) (h2 : RepL G B ((cs.drop m).take k)) : RepL G (A ++ B) (cs.take (m + k)) := by
  rw [List.take_add]; exact h1.append h2
end Go.Proofs.YtcckhbconihagaaGreatDoor
