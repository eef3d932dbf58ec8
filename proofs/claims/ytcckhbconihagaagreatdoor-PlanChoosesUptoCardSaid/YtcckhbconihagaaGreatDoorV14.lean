/- plan.each -/
import Derived.Test.YtcckhbconihagaaGreatDoorV13
import Derived.Test.YtcckhbconihagaaGreatDoorVPlMy5
import Derived.Test.YtcckhbconihagaaGreatDoorV15
import Derived.Test.YtcckhbconihagaaGreatDoorV12
import Derived.Test.YtcckhbconihagaaGreatDoorV18
set_option linter.unusedSimpArgs false
set_option linter.unusedVariables false
set_option maxRecDepth 100000
namespace Go.Proofs.YtcckhbconihagaaGreatDoor
open Go.Am Go.Pl
/-- What a chooser is asked. -/
def ChOk (sc : Schema) (ch : Nat → List Stp → Nat × Stp) (Hc : Nat → Heap → Prop) (kf : FuncId) (caps : List V) : Prop :=
 ∀ (q : Nat) (l : List Stp), l ≠ [] → l.length ≤ 2^40 → (∀ x ∈ l, ∃ b k m, x.path ∈ offers sc b k m) → ∀ {n : Nat}, q + (n + 1) ≤ 2^62 → ∀ (s : Heap), Hc q s → ACalls Tryz.prog kf ([] ++ [.slice 6 (l.map Stp.v)] ++ caps) s fun v s' => v = .agg (ch q l).2.v ∧ Hc (ch q l).1 s'
def HcO (Hc : Nat → Heap → Prop) (o : Option Nat) (s : Heap) : Prop := ∃ q, o = some q ∧ Hc q s
structure ScPl (sc : Schema) : Prop where
 ok : SchOk sc
 keys : ∀ i ∈ sc.indexes, i.keys.length ≤ 2^30
 il : sc.indexes.length ≤ 2^40
theorem conj_w {a : Arm} {t : Term} (h : t ∈ conj a) : t.w ≤ a.w := by
 rw [Arm.w_eq]
 unfold conj at h
 rcases List.mem_append.1 h with h | h
 ·have := mem_w Term.w a.whr t h; omega
 ·obtain ⟨f, hf, ht⟩ := List.mem_flatMap.1 h
  have e1 := mem_w From.w a.frm f hf
  have e2 := mem_w Term.w f.on t ht
  rw [From.w_eq] at e1; omega
theorem inner_sub (l : List From) : (l.flatMap innerOn).length ≤ (l.flatMap From.on).length := by
 induction l with
 | nil => simp
 | cons f l ih =>
  simp only [List.flatMap_cons, List.length_append]
  have : (innerOn f).length ≤ f.on.length := by unfold innerOn; split <;> simp
  omega
theorem mem_flat_len {α β : Type} (f : α → List β) : ∀ (l : List α) (x : α), x ∈ l → (f x).length ≤ (l.flatMap f).length
 | y :: l, x, h => by
  simp only [List.flatMap_cons, List.length_append]
  rcases List.mem_cons.1 h with rfl | h
  ·omega
  ·have := mem_flat_len f l x h; omega
theorem usable_len {a : Arm} {k : Int} (h0 : 0 ≤ k) (h1 : k < ((a.frm.length : Nat) : Int)) : (usable a k).length ≤ 2 * (conj a).length := by
 have h2 : (usableTerms a k).length ≤ (conj a).length := by
  unfold usableTerms conj
  split
  ·have := mem_flat_len From.on a.frm _ (src_mem h0 h1); rw [List.length_append]; omega
  ·have := inner_sub a.frm; rw [List.length_append, List.length_append]; omega
 have h3 := says_flat_len k (usableTerms a k) (usableTerms a k).length
 rw [List.take_length] at h3
 unfold usable; omega
theorem conj_len (a : Arm) : (conj a).length ≤ a.w := by
 have e0 := Arm.w_eq a
 have l1 := len_le Term.w_pos a.whr
 have l2 := flat_len From.on From.w (fun f => by have := len_le Term.w_pos f.on; rw [From.w_eq]; omega) a.frm
 unfold conj
 rw [List.length_append]; omega
theorem plok_of {sc : Schema} (hs : ScPl sc) {a : Arm} (hw : a.w ≤ 137455730688) (hz : (a.frm.length + 1) * (2 * (conj a).length + sc.indexes.length + 1) ≤ 2^40) : PlOk sc a (2 * (conj a).length + sc.indexes.length + 1) := by
 have hp := parm_of hw
 have e0 := Arm.w_eq a
 have l1 := len_le Term.w_pos a.whr
 have l2 := len_le From.w_pos a.frm
 have l3 : 1 * (2 * (conj a).length + sc.indexes.length + 1) ≤ (a.frm.length + 1) * (2 * (conj a).length + sc.indexes.length + 1) := Nat.mul_le_mul_right _ (by omega)
 refine ⟨⟨hp.u, hp.nm, fun k h0 h1 x hx => ?_, fun k h0 h1 => ?_, hs.keys, hs.il, fun k h0 h1 => ?_, hz, by omega, hp.on⟩, by omega, by omega, hp.whr⟩
 ·unfold usable at hx
  obtain ⟨t, ht, hx⟩ := List.mem_flatMap.1 hx
  have e1 := (says_mem hx).2.2
  have e2 := conj_w (usableTerms_mem h0 h1 ht)
  have e3 := t.w_ns
  omega
 ·have := usable_len h0 h1; have := conj_len a; omega
 ·have := usable_len h0 h1; omega
theorem f61_spec (sc : Schema) (hs : ScPl sc) (ch : Nat → List Stp → Nat × Stp) (Hc : Nat → Heap → Prop) (kf : FuncId) (caps : List V) (hin : ∀ q l, (ch q l).1 ≤ q + 1) (hch : ChOk sc ch Hc kf caps) (a : Arm) (q : Nat) (hw : a.w ≤ 137455730688) (hq : q + a.frm.length ≤ 2^62) (hz : (a.frm.length + 1) * (2 * (conj a).length + sc.indexes.length + 1) ≤ 2^40) (s : Heap) (hH : Hc q s) :
    ACalls Tryz.prog 61 ([] ++ [.agg a.v] ++ [.elt sc.v 0, .elt [.func kf [] caps] 0]) s fun v s' => v = .agg (planA ch sc a q).2.v ∧ Hc (planA ch sc a q).1 s' := by
 have hs1 := hs.ok.1; have hcall : ∀ s, Hc q s → ACalls Tryz.prog 62 [.agg (sc.v ++ a.v), .func kf [] caps] s fun v s' => v = .agg (planA ch sc a q).2.v ∧ Hc (planA ch sc a q).1 s' := fun s hH => f62_spec sc hs.ok a _ (plok_of hs hw hz) ch Hc kf caps hin hch q hq s hH; rw [Arm.v_eq, Schema.v_eq] at hcall; simp only [List.cons_append, List.nil_append] at hcall; refine acalls_of (fn := Tryz.f61) Tryz.func61 rfl (by decide) (by show 3 ≤ 10; decide) ?_; rw [Tryz.ntmps61]; refine rg fun Z z' => ?_; simp only [Arm.v_eq, Schema.v_eq, hs1, amt, seval, reduceCtorEq]; refine z' _ ?_; clear z' Z; refine rg fun Z z' => ?_; simp only [Arm.v_eq, Schema.v_eq, hs1, amt, seval, reduceCtorEq]; refine (hcall _ hH).mono ?_; rintro _ s1 ⟨rfl, hH1⟩; simp only [Arm.v_eq, Schema.v_eq, hs1, amt, seval, reduceCtorEq]; refine z' _ ?_; clear z' Z; refine AWp.ret ?_; refine rt (vs := [.agg (planA ch sc a q).2.v]) (by show resV Tryz.prog _ [.cell 4 75] = _; simp only [resV, Arm.v_eq, amt, seval, reduceCtorEq]) ⟨rfl, hH1⟩
theorem vis_each (sc : Schema) (hs : ScPl sc) (ch : Nat → List Stp → Nat × Stp) (Hc : Nat → Heap → Prop) (kf : FuncId) (caps : List V) (hin : ∀ q l, (ch q l).1 ≤ q + 1) (hch : ChOk sc ch Hc kf caps) : Vis (HcO Hc) (pkfa ch sc 137455730688) idff (.func 61 [] [.elt sc.v 0, .elt [.func kf [] caps] 0]) (.base .nilFunc) (fun o => o ≠ none) where
 hac := rfl
 hfc := rfl
 hgf := fun s t d h => h
 hga := fun s a h => by
  cases s with
  | none => exact absurd rfl h
  | some b => simp
 hfv := .inl ⟨rfl, fun s t d => rfl⟩
 hF := fun k a c e => by cases e
 hav := .inr ⟨61, [], [.elt sc.v 0, .elt [.func kf [] caps] 0], rfl, fun σ0 a hg s hH => by
  obtain ⟨q, rfl, hH⟩ := hH
  by_cases hc : a.w ≤ 137455730688 ∧ q + a.frm.length ≤ 2^62 ∧ (a.frm.length + 1) * (2 * (conj a).length + sc.indexes.length + 1) ≤ 2^40
  ·have e : pkfa ch sc 137455730688 (some q) a = (some (planA ch sc a q).1, (planA ch sc a q).2) := by unfold pkfa; simp only; rw [if_pos hc]
   rw [e]
   refine (f61_spec sc hs ch Hc kf caps hin hch a q hc.1 hc.2.1 hc.2.2 s hH).mono ?_
   rintro v s' ⟨rfl, h⟩
   exact ⟨rfl, _, rfl, h⟩
  ·exfalso
   refine hg ?_
   unfold pkfa; simp only; rw [if_neg hc]⟩
abbrev zR : List V := [.nil, .nil, .nil, .nil, .nil, .nil]
theorem f36_spec (sc : Schema) (hs : ScPl sc) (ch : Nat → List Stp → Nat × Stp) (Hc : Nat → Heap → Prop) (kf : FuncId) (caps : List V) (hin : ∀ q l, (ch q l).1 ≤ q + 1) (hch : ChOk sc ch Hc kf caps) (r : Resolved) (hw : r.w ≤ 550024249344) (hpw : r.plain.w ≤ 550024249344) (q0 q1 : Nat) (y : Resolved) (hy : wResolved (pkfa ch sc 137455730688) idff r.plain (some q0) = (some q1, y)) (s : Heap) (h0 : Hc q0 s) :
    ACalls Tryz.prog 36 [.agg sc.v, .agg r.v, .func kf [] caps] s fun v s' => v = .agg y.v ∧ HcO Hc (some q1) s' := by
 have hs1 := hs.ok.1; have hsv := Schema.v_eq sc; have hres := resolved_ok (vis_each sc hs ch Hc kf caps hin hch) r.plain hpw (some q0) (by rw [hy]; simp); rw [hy] at hres; have hH0 : HcO Hc (some q0) s := ⟨q0, rfl, h0⟩; have hrv := Resolved.v_eq r; rw [Query.v_eq] at hrv; simp only [List.cons_append, List.nil_append] at hrv; have hyv := Resolved.v_eq y; rw [Query.v_eq] at hyv; simp only [List.cons_append, List.nil_append] at hyv; have hpv := Resolved.v_eq r.plain; rw [Query.v_eq] at hpv; simp only [List.cons_append, List.nil_append] at hpv; refine acalls_of (fn := Tryz.f36) Tryz.func36 rfl (by decide) (by show 3 ≤ 12; decide) ?_; rw [Tryz.ntmps36]; refine rg fun Z z' => ?_; simp only [hrv, hsv, hs1, hyv, hpv, amt, seval, reduceCtorEq]; refine z' _ ?_; clear z' Z; refine AWp.frz 3 (cs := sc.v) (ty := 26) (by simp only [hsv, am, seval, reduceCtorEq]) ?_; refine AWp.weaken (st' := tst [(3, .elt sc.v 0), (4, .loc 4 0), (5, .loc 5 0), (6, .loc 6 0)] [(4, (r.v, 35)), (5, ([.func kf [] caps], 97)), (6, (zR, 35))] (s) 12) ?_ ?_
 ·refine lt0 ?_ ?_ ?_
  ·simp only [leE, St.frz, frzV, hrv, zR, hsv, am, seval, reduceCtorEq]
  ·simp only [oks, Nat.reduceBEq]
  ·simp only [leB, St.frz, hrv, zR, hsv, am, seval, reduceCtorEq]
 refine AWp.frz 5 (cs := [.func kf [] caps]) (ty := 97) (by simp only [am, seval, reduceCtorEq]) ?_; refine AWp.weaken (st' := tst [(3, .elt sc.v 0), (4, .loc 4 0), (5, .elt [.func kf [] caps] 0), (6, .loc 6 0)] [(4, (r.v, 35)), (6, (zR, 35))] (s) 12) ?_ ?_
 ·refine lt0 ?_ ?_ ?_
  ·simp only [leE, St.frz, frzV, hrv, zR, am, seval, reduceCtorEq]
  ·simp only [oks, Nat.reduceBEq]
  ·simp only [leB, St.frz, hrv, zR, am, seval, reduceCtorEq]
 refine rg fun Z z' => ?_; simp only [hrv, hsv, hs1, hyv, hpv, amt, seval, reduceCtorEq]; rw [← hrv]; refine (f13_spec r (by omega) _).go ?_; simp only [hrv, hsv, hs1, hyv, hpv, amt, seval, reduceCtorEq]
 (try rw [← hpv]); refine (hres _ hH0).mono ?_; rintro _ s1 ⟨rfl, hH1⟩; simp only [hrv, hsv, hs1, hyv, hpv, amt, seval, reduceCtorEq]; refine z' _ ?_; clear z' Z; refine AWp.ret ?_; refine rt (vs := [.agg y.v]) (by show resV Tryz.prog _ [.cell 6 35] = _; simp only [resV, hyv, amt, seval, reduceCtorEq]) ⟨rfl, hH1⟩
theorem Stp.v_all (x : Stp) : x.v.all V.isCell = true := by rw [Stp.v_eq]; rfl
theorem worth_le {p : Path} {M : Nat} (h1 : p.eq.length ≤ M) (h2 : p.low.length ≤ M) (h3 : p.high.length ≤ M) : -(2 * (M : Int)) ≤ worth p ∧ worth p ≤ 400 := by
 unfold worth
 split
 ·omega
 ·split
  ·omega
  ·split
   ·omega
   ·split <;> omega
/-- A path that is small. -/
def Small (p : Path) : Prop := p.eq.length ≤ 2^30 ∧ p.low.length ≤ 2^30 ∧ p.high.length ≤ 2^30
theorem firstB_small (l : List Said) (k : Sorted) (o c : Int) : (firstB l k o c).length ≤ 2^30 := by
 unfold firstB; split <;> simp
theorem idxd_small (l : List Said) : ∀ ks : List Sorted, (idxd l ks).1.length ≤ ks.length ∧ (idxd l ks).2.1.length ≤ 2^30 ∧ (idxd l ks).2.2.length ≤ 2^30
 | [] => ⟨Nat.le_refl _, Nat.zero_le _, Nat.zero_le _⟩
 | k :: ks => by
  have h := idxd_small l ks
  unfold idxd
  split
  ·exact ⟨by simpa using h.1, h.2⟩
  ·exact ⟨Nat.zero_le _, firstB_small _ _ _ _, firstB_small _ _ _ _⟩
theorem offers_small {s : Schema} {a : Arm} {k : Int} {ahead : List Int} (hK : ∀ i ∈ s.indexes, i.keys.length ≤ 2^30) {p : Path} (h : p ∈ offers s a k ahead) : Small p := by
 have scan : Small scanP := ⟨by simp [scanP], by simp [scanP], by simp [scanP]⟩
 unfold offers at h
 split at h
 ·rw [List.mem_singleton.1 h]; exact scan
 ·rcases List.mem_append.1 h with h | h
  ·obtain ⟨y, hy, _, rfl⟩ := mem_oneIf.1 h
   exact ⟨by simp [rowidP], by simp [rowidP], by simp [rowidP]⟩
  ·rcases List.mem_append.1 h with h | h
   ·obtain ⟨n, hn, _, rfl⟩ := mem_oneIf.1 h
    have hi : s.indexes.getD n zindex ∈ s.indexes := by
     have := List.mem_range.1 hn
     simp [List.getD_eq_getElem?_getD, this]
    have h1 := idxd_small (sayable a k ahead) (s.indexes.getD n zindex).keys
    exact ⟨Nat.le_trans h1.1 (hK _ hi), h1.2⟩
   ·rw [List.mem_singleton.1 h]; exact scan
theorem best_at (l : List Stp) (h : l ≠ []) {i : Nat} (h0 : 1 ≤ i) : best (l.take i) ∈ l := by
 cases l with
 | nil => exact absurd rfl h
 | cons x r =>
  obtain ⟨j, rfl⟩ : ∃ j, i = j + 1 := ⟨i - 1, by omega⟩
  rw [List.take_succ_cons]
  have := best_mem (l := x :: r.take j) (by simp)
  rcases List.mem_cons.1 this with e | e
  ·rw [e]; simp
  ·exact List.mem_cons_of_mem _ (List.mem_of_mem_take e)
def zS : List V := [vint 0, vint 0, vstr .empty, .nil, .nil, .nil]
theorem best_succ {l : List Stp} {i : Nat} (h0 : 1 ≤ i) (h : i < l.length) {m y : Stp} (hm : best (l.take i) = m) (hy : l[i] = y) : best (l.take (i + 1)) = if lessB y m then y else m := by
 cases l with
 | nil => simp at h
 | cons x r =>
  obtain ⟨j, rfl⟩ : ∃ j, i = j + 1 := ⟨i - 1, by omega⟩
  have hj : j < r.length := by simpa using h
  rw [List.take_succ_cons] at hm ⊢
  have e : r.take (j + 1) = r.take j ++ [r[j]] := (List.take_append_getElem hj).symm
  rw [List.getElem_cons_succ] at hy
  have hm' : bestF x (r.take j) = m := hm
  show bestF x (r.take (j + 1)) = _
  rw [e, hy]
  unfold bestF at hm' ⊢
  rw [List.foldl_append, hm']; rfl
theorem f69_spec (p : Path) (hp : Small p) : Gives Tryz.prog 69 [.agg p.v] (vint (worth p)) := by
 intro s; refine acalls_of (fn := Tryz.f69) Tryz.func69 rfl (by decide) (by show 1 ≤ 47; decide) ?_; rw [Tryz.ntmps69]; refine rg fun Z z' => ?_; simp only [Path.v_eq, amt, seval, reduceCtorEq]; refine z' _ ?_; clear z' Z; refine AWp.seq_k fun K2 hK2 => ?_; refine AWp.block ?_; obtain ⟨hm0, hm1, hm2⟩ := hp; have w1 : IntKind.i64.wrap (100 - ((p.eq.length : Nat) : Int)) = 100 - ((p.eq.length : Nat) : Int) := wrap_id (by omega) (by omega); have w2 : IntKind.i64.wrap (((p.low.length : Nat) : Int) + ((p.high.length : Nat) : Int)) = ((p.low.length : Nat) : Int) + ((p.high.length : Nat) : Int) := wrap_id (by omega) (by omega); have w3 : IntKind.i64.wrap (200 - ((p.low.length : Nat) : Int)) = 200 - ((p.low.length : Nat) : Int) := wrap_id (by omega) (by omega); have w4 : IntKind.i64.wrap (200 - ((p.low.length : Nat) : Int) - ((p.high.length : Nat) : Int)) = 200 - ((p.low.length : Nat) : Int) - ((p.high.length : Nat) : Int) := wrap_id (by omega) (by omega); refine rg fun Z z' => ?_; simp only [Path.v_eq, w1, w2, w3, w4, amt, seval, reduceCtorEq]; refine z' _ ?_; clear z' Z; refine AWp.condK fun C1 C2 hC1 hC2 => ?_; simp only [condP, am, seval, reduceCtorEq]; refine ⟨fun hc3 => hC1 ?_, fun hc3 => hC2 ?_⟩ <;> clear hC1 hC2 C1 C2
 ·refine rg fun Z z' => ?_; simp only [Path.v_eq, w1, w2, w3, w4, am, seval, reduceCtorEq]; refine z' _ ?_; clear z' Z; refine AWp.ret ?_; refine rt (by show resV Tryz.prog _ [.tmp 2] = _; simp only [resV, am, seval, reduceCtorEq]; rfl) ⟨?_, rfl⟩; first | (exfalso; rw [hg3_3] at hg5_3; cases hg5_3; done) | simp only [oneV, worth, hc3, ↓reduceIte, Bool.false_eq_true, bo, Bool.not_true, Bool.not_false, ↓reduceIte, Bool.false_eq_true]
 ·refine rg fun Z z' => ?_; simp only [Path.v_eq, w1, w2, w3, w4, undef, amt, seval, reduceCtorEq]; refine gT (fun hg3_3 => ?_) (fun hg3_3 => ?_)
  ·simp only [Path.v_eq, w1, w2, w3, w4, hg3_3, undef, amt, seval, reduceCtorEq]; refine z' _ ?_; clear z' Z; refine AWp.condK fun C1 C2 hC1 hC2 => ?_; simp only [condP, hc3, hg3_3, am, seval, reduceCtorEq]; refine ⟨fun hc7 => hC1 ?_, fun hc7 => hC2 ?_⟩ <;> clear hC1 hC2 C1 C2
   ·refine rg fun Z z' => ?_; simp only [Path.v_eq, w1, w2, w3, w4, amt, seval, reduceCtorEq]; refine z' _ ?_; clear z' Z; refine AWp.ret ?_; refine rt (by show resV Tryz.prog _ [.tmp 2] = _; simp only [resV, am, seval, reduceCtorEq]; rfl) ⟨?_, rfl⟩; first | (exfalso; rw [hg3_3] at hg5_3; cases hg5_3; done) | simp only [oneV, worth, hc3, hg3_3, hc7, ↓reduceIte, Bool.false_eq_true, bo, Bool.not_true, Bool.not_false, ↓reduceIte, Bool.false_eq_true]
   ·refine rg fun Z z' => ?_; simp only [Path.v_eq, w1, w2, w3, w4, undef, amt, seval, reduceCtorEq]; refine gT (fun hg5_3 => ?_) (fun hg5_3 => ?_)
    ·simp only [Path.v_eq, w1, w2, w3, w4, hg5_3, undef, amt, seval, reduceCtorEq]; refine z' _ ?_; clear z' Z; refine AWp.condK fun C1 C2 hC1 hC2 => ?_; simp only [condP, hc3, hg3_3, hc7, hg5_3, am, seval, reduceCtorEq]; refine ⟨fun hc21 => hC1 ?_, fun hc21 => hC2 ?_⟩ <;> clear hC1 hC2 C1 C2
     ·refine rg fun Z z' => ?_; simp only [Path.v_eq, w1, w2, w3, w4, amt, seval, reduceCtorEq]; refine z' _ ?_; clear z' Z; refine AWp.ret ?_; refine rt (by show resV Tryz.prog _ [.tmp 2] = _; simp only [resV, am, seval, reduceCtorEq]; rfl) ⟨?_, rfl⟩; first | (exfalso; rw [hg3_3] at hg5_3; cases hg5_3; done) | simp only [oneV, worth, hc3, hg3_3, hc7, hg5_3, hc21, ↓reduceIte, Bool.false_eq_true, bo, Bool.not_true, Bool.not_false, ↓reduceIte, Bool.false_eq_true]
     ·refine rg fun Z z' => ?_; simp only [Path.v_eq, w1, w2, w3, w4, amt, seval, reduceCtorEq]; refine z' _ ?_; clear z' Z; refine AWp.condK fun C1 C2 hC1 hC2 => ?_; simp only [condP, hc3, hg3_3, hc7, hg5_3, hc21, am, seval, reduceCtorEq]; refine ⟨fun hc43 => hC1 ?_, fun hc43 => hC2 ?_⟩ <;> clear hC1 hC2 C1 C2
      ·refine rg fun Z z' => ?_; simp only [Path.v_eq, w1, w2, w3, w4, am, seval, reduceCtorEq]; refine z' _ ?_; clear z' Z; refine AWp.ret ?_; refine rt (by show resV Tryz.prog _ [.tmp 2] = _; simp only [resV, am, seval, reduceCtorEq]; rfl) ⟨?_, rfl⟩; first | (exfalso; rw [hg3_3] at hg5_3; cases hg5_3; done) | simp only [oneV, worth, hc3, hg3_3, hc7, hg5_3, hc21, hc43, ↓reduceIte, Bool.false_eq_true, bo, Bool.not_true, Bool.not_false, ↓reduceIte, Bool.false_eq_true]
      ·refine AWp.skip ?_; refine hK2 _ ?_; clear hK2; refine rg fun Z z' => ?_; simp only [Path.v_eq, w1, w2, w3, w4, am, seval, reduceCtorEq]; refine z' _ ?_; clear z' Z; refine AWp.ret ?_; refine rt (by show resV Tryz.prog _ [.tmp 2] = _; simp only [resV, am, seval, reduceCtorEq]; rfl) ⟨?_, rfl⟩; first | (exfalso; rw [hg3_3] at hg5_3; cases hg5_3; done) | simp only [oneV, worth, hc3, hg3_3, hc7, hg5_3, hc21, hc43, ↓reduceIte, Bool.false_eq_true, bo, Bool.not_true, Bool.not_false, ↓reduceIte, Bool.false_eq_true]
    ·simp only [Path.v_eq, w1, w2, w3, w4, hg5_3, undef, amt, seval, reduceCtorEq]; refine z' _ ?_; clear z' Z; refine cF (by simp only [hc3, hg3_3, hc7, hg5_3, am, seval, reduceCtorEq]) ?_; refine rg fun Z z' => ?_; simp only [Path.v_eq, w1, w2, w3, w4, amt, seval, reduceCtorEq]; refine z' _ ?_; clear z' Z; refine AWp.condK fun C1 C2 hC1 hC2 => ?_; simp only [condP, hc3, hg3_3, hc7, hg5_3, am, seval, reduceCtorEq]; refine ⟨fun hc43 => hC1 ?_, fun hc43 => hC2 ?_⟩ <;> clear hC1 hC2 C1 C2
     ·refine rg fun Z z' => ?_; simp only [Path.v_eq, w1, w2, w3, w4, am, seval, reduceCtorEq]; refine z' _ ?_; clear z' Z; refine AWp.ret ?_; refine rt (by show resV Tryz.prog _ [.tmp 2] = _; simp only [resV, am, seval, reduceCtorEq]; rfl) ⟨?_, rfl⟩; first | (exfalso; rw [hg3_3] at hg5_3; cases hg5_3; done) | simp only [oneV, worth, hc3, hg3_3, hc7, hg5_3, hc43, ↓reduceIte, Bool.false_eq_true, bo, Bool.not_true, Bool.not_false, ↓reduceIte, Bool.false_eq_true]
     ·refine AWp.skip ?_; refine hK2 _ ?_; clear hK2; refine rg fun Z z' => ?_; simp only [Path.v_eq, w1, w2, w3, w4, am, seval, reduceCtorEq]; refine z' _ ?_; clear z' Z; refine AWp.ret ?_; refine rt (by show resV Tryz.prog _ [.tmp 2] = _; simp only [resV, am, seval, reduceCtorEq]; rfl) ⟨?_, rfl⟩; first | (exfalso; rw [hg3_3] at hg5_3; cases hg5_3; done) | simp only [oneV, worth, hc3, hg3_3, hc7, hg5_3, hc43, ↓reduceIte, Bool.false_eq_true, bo, Bool.not_true, Bool.not_false, ↓reduceIte, Bool.false_eq_true]
  ·simp only [Path.v_eq, w1, w2, w3, w4, hg3_3, undef, amt, seval, reduceCtorEq]; refine z' _ ?_; clear z' Z; refine cF (by simp only [hc3, hg3_3, am, seval, reduceCtorEq]) ?_; refine rg fun Z z' => ?_; simp only [Path.v_eq, w1, w2, w3, w4, undef, amt, seval, reduceCtorEq]; refine gT (fun hg5_3 => ?_) (fun hg5_3 => ?_)
   ·simp only [Path.v_eq, w1, w2, w3, w4, hg5_3, undef, amt, seval, reduceCtorEq]; refine z' _ ?_; clear z' Z; refine AWp.condK fun C1 C2 hC1 hC2 => ?_; simp only [condP, hc3, hg3_3, hg5_3, am, seval, reduceCtorEq]; refine ⟨fun hc21 => hC1 ?_, fun hc21 => hC2 ?_⟩ <;> clear hC1 hC2 C1 C2
    ·refine rg fun Z z' => ?_; simp only [Path.v_eq, w1, w2, w3, w4, amt, seval, reduceCtorEq]; refine z' _ ?_; clear z' Z; refine AWp.ret ?_; refine rt (by show resV Tryz.prog _ [.tmp 2] = _; simp only [resV, am, seval, reduceCtorEq]; rfl) ⟨?_, rfl⟩; first | (exfalso; rw [hg3_3] at hg5_3; cases hg5_3; done) | simp only [oneV, worth, hc3, hg3_3, hg5_3, hc21, ↓reduceIte, Bool.false_eq_true, bo, Bool.not_true, Bool.not_false, ↓reduceIte, Bool.false_eq_true]
    ·refine rg fun Z z' => ?_; simp only [Path.v_eq, w1, w2, w3, w4, amt, seval, reduceCtorEq]; refine z' _ ?_; clear z' Z; refine AWp.condK fun C1 C2 hC1 hC2 => ?_; simp only [condP, hc3, hg3_3, hg5_3, hc21, am, seval, reduceCtorEq]; refine ⟨fun hc43 => hC1 ?_, fun hc43 => hC2 ?_⟩ <;> clear hC1 hC2 C1 C2
     ·refine rg fun Z z' => ?_; simp only [Path.v_eq, w1, w2, w3, w4, am, seval, reduceCtorEq]; refine z' _ ?_; clear z' Z; refine AWp.ret ?_; refine rt (by show resV Tryz.prog _ [.tmp 2] = _; simp only [resV, am, seval, reduceCtorEq]; rfl) ⟨?_, rfl⟩; first | (exfalso; rw [hg3_3] at hg5_3; cases hg5_3; done) | simp only [oneV, worth, hc3, hg3_3, hg5_3, hc21, hc43, ↓reduceIte, Bool.false_eq_true, bo, Bool.not_true, Bool.not_false, ↓reduceIte, Bool.false_eq_true]
     ·refine AWp.skip ?_; refine hK2 _ ?_; clear hK2; refine rg fun Z z' => ?_; simp only [Path.v_eq, w1, w2, w3, w4, am, seval, reduceCtorEq]; refine z' _ ?_; clear z' Z; refine AWp.ret ?_; refine rt (by show resV Tryz.prog _ [.tmp 2] = _; simp only [resV, am, seval, reduceCtorEq]; rfl) ⟨?_, rfl⟩; first | (exfalso; rw [hg3_3] at hg5_3; cases hg5_3; done) | simp only [oneV, worth, hc3, hg3_3, hg5_3, hc21, hc43, ↓reduceIte, Bool.false_eq_true, bo, Bool.not_true, Bool.not_false, ↓reduceIte, Bool.false_eq_true]
   ·simp only [Path.v_eq, w1, w2, w3, w4, hg5_3, undef, amt, seval, reduceCtorEq]; refine z' _ ?_; clear z' Z; refine cF (by simp only [hc3, hg3_3, hg5_3, am, seval, reduceCtorEq]) ?_; refine rg fun Z z' => ?_; simp only [Path.v_eq, w1, w2, w3, w4, amt, seval, reduceCtorEq]; refine z' _ ?_; clear z' Z; refine AWp.condK fun C1 C2 hC1 hC2 => ?_; simp only [condP, hc3, hg3_3, hg5_3, am, seval, reduceCtorEq]; refine ⟨fun hc43 => hC1 ?_, fun hc43 => hC2 ?_⟩ <;> clear hC1 hC2 C1 C2
    ·refine rg fun Z z' => ?_; simp only [Path.v_eq, w1, w2, w3, w4, am, seval, reduceCtorEq]; refine z' _ ?_; clear z' Z; refine AWp.ret ?_; refine rt (by show resV Tryz.prog _ [.tmp 2] = _; simp only [resV, am, seval, reduceCtorEq]; rfl) ⟨?_, rfl⟩; first | (exfalso; rw [hg3_3] at hg5_3; cases hg5_3; done) | simp only [oneV, worth, hc3, hg3_3, hg5_3, hc43, ↓reduceIte, Bool.false_eq_true, bo, Bool.not_true, Bool.not_false, ↓reduceIte, Bool.false_eq_true]
    ·refine AWp.skip ?_; refine hK2 _ ?_; clear hK2; refine rg fun Z z' => ?_; simp only [Path.v_eq, w1, w2, w3, w4, am, seval, reduceCtorEq]; refine z' _ ?_; clear z' Z; refine AWp.ret ?_; refine rt (by show resV Tryz.prog _ [.tmp 2] = _; simp only [resV, am, seval, reduceCtorEq]; rfl) ⟨?_, rfl⟩; first | (exfalso; rw [hg3_3] at hg5_3; cases hg5_3; done) | simp only [oneV, worth, hc3, hg3_3, hg5_3, hc43, ↓reduceIte, Bool.false_eq_true, bo, Bool.not_true, Bool.not_false, ↓reduceIte, Bool.false_eq_true]
theorem f68_spec (x y : Stp) (hx : Small x.path) (hy : Small y.path) : Gives Tryz.prog 68 [.agg x.v, .agg y.v] (vint (worth x.path - worth y.path)) := by
 intro s; refine acalls_of (fn := Tryz.f68) Tryz.func68 rfl (by decide) (by show 2 ≤ 12; decide) ?_; rw [Tryz.ntmps68]; refine rg fun Z z' => ?_; simp only [Stp.v_eq, amt, seval, reduceCtorEq]; refine z' _ ?_; clear z' Z; have hx' := worth_le hx.1 hx.2.1 hx.2.2; have hy' := worth_le hy.1 hy.2.1 hy.2.2; have w1 : IntKind.i64.wrap (worth x.path - worth y.path) = worth x.path - worth y.path := wrap_id (by omega) (by omega); refine AWp.regL mixed [0, 1, 3, 4, 2, 5, 6, 7] (by decide +kernel) [99999] (by decide +kernel) fun Z z' => ?_; simp only [Stp.v_eq, w1, aml, Nat.reduceBEq, amt, seval, reduceCtorEq]
 (try rw [← Path.v_eq]); refine (f69_spec x.path hx _).go ?_; simp only [Stp.v_eq, w1, aml, Nat.reduceBEq, amt, seval, reduceCtorEq]
 (try rw [← Path.v_eq]); refine (f69_spec y.path hy _).go ?_; simp only [Stp.v_eq, w1, aml, Nat.reduceBEq, amt, seval, reduceCtorEq]; refine z' _ ?_; clear z' Z; refine AWp.ret ?_; refine rt (by show resV Tryz.prog _ [.tmp 4] = _; simp only [resV, am, seval, reduceCtorEq]; rfl) ⟨?_, rfl⟩; rfl
theorem f67_spec (l : List Stp) (hl : l ≠ []) (hsm : ∀ x ∈ l, Small x.path) : Gives Tryz.prog 67 [.slice 6 (l.map Stp.v), .func 68 [] []] (.agg (best l).v) := by
 have hl0 : 0 < l.length := List.length_pos_iff.2 hl; intro s; refine acalls_of (fn := Tryz.f67) Tryz.func67 rfl (by decide) (by show 2 ≤ 33; decide) ?_; rw [Tryz.ntmps67]; refine rg fun Z z' => ?_; simp only [amt, seval, reduceCtorEq]; refine z' _ ?_; clear z' Z; refine AWp.seq_k fun K2 hK2 => ?_; have hlen : decide (((l.length : Nat) : Int) < 1) = false := decide_eq_false (by omega); refine rg fun Z z' => ?_; simp only [hlen, amt, seval, reduceCtorEq]; refine z' _ ?_; clear z' Z; refine cF (by simp only [am, seval, reduceCtorEq]) ?_; refine AWp.skip ?_; refine hK2 _ ?_; clear hK2; obtain ⟨x0, hx0⟩ : ∃ x0, l[0] = x0 := ⟨_, rfl⟩; have hg0 : (l.map Stp.v).getD (0 : Int).toNat [] = x0.v := by rw [← hx0]; exact getD_map Stp.v l 0 hl0
 have hg0b : (l.map Stp.v).getD 0 [] = x0.v := hg0; have ixa0 : ((0:Int) ≤ 0) = True := by simp
 have ixa1 : ((0:Int) < ((l.length : Nat) : Int)) = True := by simp [hl0]
 refine rg fun Z z' => ?_; simp only [ixa0, ixa1, true_and, hg0, hg0b, Stp.v_eq, amt, seval, reduceCtorEq]; refine z' _ ?_; clear z' Z; refine AWp.seq_k fun K5 hK5 => ?_; refine rg fun Z z' => ?_; simp only [am, seval, reduceCtorEq]; refine z' _ ?_; clear z' Z; refine AWp.block ?_; refine AWp.slen 0 (sz := 6) (es := l.map Stp.v) (by simp only [am, seval, reduceCtorEq]) fun hmax => ?_; have hmx := maxLen_lt; rw [List.length_map] at hmax; refine AWp.loopT (ι := Nat) (fun i => 1 ≤ i ∧ i ≤ l.length) (fun i => tst [(0, .slice 6 (l.map Stp.v)), (1, .func 68 [] []), (4, .loc 4 0), (5, .loc 5 0), (6, vint i)] [(4, (zS, 95)), (5, ((best (l.take i)).v, 95))] s 33) (fun i => l.length - i) 1 ⟨⟨Nat.le_refl _, hl0⟩, ?_⟩ ?_
 ·have e1 : best (l.take 1) = x0 := by rw [List.take_one, List.head?_eq_getElem?, List.getElem?_eq_getElem hl0, hx0]; rfl
  rw [e1]; refine lt0 ?_ ?_ ?_
  ·simp only [leE, Stp.v_eq, zS, am, seval, reduceCtorEq]
  ·simp only [oks, Nat.reduceBEq]
  ·simp only [leB, Stp.v_eq, zS, am, seval, reduceCtorEq]
 ·rintro i ⟨hi0, hi⟩; refine AWp.seq_k fun K7 hK7 => ?_; refine rg fun Z z' => ?_; simp only [amt, seval, reduceCtorEq]; refine z' _ ?_; clear z' Z; refine AWp.cond (t := decide ((i:Int) < (l.length : Nat))) (by simp only [am, seval, reduceCtorEq]) (fun ht => ?_) (fun ht => ?_)
  ·have hlt : i < l.length := lt_of_dec ht; have ix0 : (0 ≤ (i : Int)) = True := by simp
   have ix1 : ((i : Int) < ((l.length : Nat) : Int)) = True := by simp [hlt]
   obtain ⟨y, hy⟩ : ∃ y, l[i] = y := ⟨_, rfl⟩; have hgy : (l.map Stp.v).getD (i : Int).toNat [] = y.v := by rw [getD_map _ _ _ hlt, hy]
   obtain ⟨m, hm⟩ : ∃ m, best (l.take i) = m := ⟨_, rfl⟩; have hsu := best_succ hi0 hlt hm hy; rw [hm]; refine AWp.skip ?_; refine hK7 _ ?_; clear hK7; refine AWp.seq_k fun K9 hK9 => ?_; refine AWp.block ?_; refine AWp.regL mixed [0, 1, 2, 3, 4, 5, 6, 7] (by decide +kernel) [99999] (by decide +kernel) fun Z z' => ?_; simp only [ix0, ix1, true_and, hgy, Stp.v_eq, aml, Nat.reduceBEq, amt, seval, reduceCtorEq]
   (try rw [← Stp.v_eq, ← Stp.v_eq]); refine (f68_spec y m (hsm _ (by rw [← hy]; exact List.getElem_mem hlt)) (hsm _ (by rw [← hm]; exact best_at l hl hi0)) _).go ?_; simp only [ix0, ix1, true_and, hgy, Stp.v_eq, aml, Nat.reduceBEq, amt, seval, reduceCtorEq]; refine z' _ ?_; clear z' Z; refine AWp.condK fun C1 C2 hC1 hC2 => ?_; simp only [condP, am, seval, reduceCtorEq]; refine ⟨fun hc27 => hC1 ?_, fun hc27 => hC2 ?_⟩ <;> clear hC1 hC2 C1 C2
   ·refine rg1 fun Z z' => ?_; simp only [ix0, ix1, true_and, hgy, Stp.v_eq, amt, seval, reduceCtorEq]; refine z' _ ?_; clear z' Z; refine hK9 _ ?_; clear hK9; refine rg1 fun Z z' => ?_; simp only [amt, seval, reduceCtorEq]; refine z' _ ?_; clear z' Z; refine ⟨i + 1, ⟨⟨by omega, hlt⟩, by omega⟩, ?_⟩; have e2 : best (l.take (i + 1)) = y := by rw [hsu, show lessB y m = true from hc27]; simp
    rw [e2]; refine lt0 ?_ ?_ ?_
    ·simp only [leE, Stp.v_eq, am, seval, reduceCtorEq]; (try (rw [wrap_id (by omega) (by omega)]; simp))
    ·simp only [oks, Nat.reduceBEq]
    ·simp only [leB, Stp.v_eq, am, seval, reduceCtorEq]
   ·refine AWp.skip ?_; refine hK9 _ ?_; clear hK9; refine rg1 fun Z z' => ?_; simp only [amt, seval, reduceCtorEq]; refine z' _ ?_; clear z' Z; refine ⟨i + 1, ⟨⟨by omega, hlt⟩, by omega⟩, ?_⟩; have e2 : best (l.take (i + 1)) = m := by rw [hsu, show lessB y m = false from hc27]; simp
    rw [e2]; refine lt0 ?_ ?_ ?_
    ·simp only [leE, Stp.v_eq, am, seval, reduceCtorEq]; (try (rw [wrap_id (by omega) (by omega)]; simp))
    ·simp only [oks, Nat.reduceBEq]
    ·simp only [leB, Stp.v_eq, am, seval, reduceCtorEq]
  ·obtain rfl : i = l.length := eq_of_dec ht hi; rw [List.take_length]; obtain ⟨m, hm⟩ : ∃ m, best l = m := ⟨_, rfl⟩; rw [hm]; refine AWp.exit ?_; simp only [exq, seval]; refine hK5 _ ?_; clear hK5; refine rg fun Z z' => ?_; simp only [Stp.v_eq, zS, amt, seval, reduceCtorEq]; refine z' _ ?_; clear z' Z; refine AWp.ret ?_; refine rt (vs := [.agg m.v]) (by show resV Tryz.prog _ [.cell 4 95] = _; simp only [resV, Stp.v_eq, amt, seval, reduceCtorEq]) ⟨by rw [hm]; rfl, rfl⟩
theorem f43_spec (l : List Stp) (hl : l ≠ []) (hsm : ∀ x ∈ l, Small x.path) : Gives Tryz.prog 43 [.slice 6 (l.map Stp.v)] (.agg (best l).v) := by
 intro s; refine acalls_of (fn := Tryz.f43) Tryz.func43 rfl (by decide) (by show 1 ≤ 5; decide) ?_; rw [Tryz.ntmps43]; refine rg fun Z z' => ?_; simp only [Stp.v_eq, zS, amt, seval, reduceCtorEq]; refine z' _ ?_; clear z' Z; refine rg fun Z z' => ?_; simp only [Stp.v_eq, zS, amt, seval, reduceCtorEq]; refine (f67_spec l hl hsm _).go ?_; simp only [Stp.v_eq, zS, amt, seval, reduceCtorEq]; refine z' _ ?_; clear z' Z; refine AWp.ret ?_; refine rt (vs := [.agg (best l).v]) (by show resV Tryz.prog _ [.cell 2 95] = _; simp only [resV, Stp.v_eq, amt, seval, reduceCtorEq]) ⟨rfl, rfl⟩
theorem chB_inc (q : Nat) (l : List Stp) : (chB q l).1 ≤ q + 1 := Nat.le_succ q
theorem chB_mem (q : Nat) (l : List Stp) (h : l ≠ []) : (chB q l).2 ∈ l := best_mem h
theorem f18_spec (sc : Schema) (hs : ScPl sc) (r : Resolved) (hw : r.w ≤ 550024249344) (hpw : r.plain.w ≤ 550024249344) (q1 : Nat) (y : Resolved) (hy : wResolved (pkfa chB sc 137455730688) idff r.plain (some 0) = (some q1, y)) : Gives Tryz.prog 18 [.agg sc.v, .agg r.v] (.agg y.v) := by
 have hs1 := hs.ok.1; have hsv := Schema.v_eq sc; have hrv := Resolved.v_eq r; rw [Query.v_eq] at hrv; simp only [List.cons_append, List.nil_append] at hrv; have hyv := Resolved.v_eq y; rw [Query.v_eq] at hyv; simp only [List.cons_append, List.nil_append] at hyv; intro s; refine acalls_of (fn := Tryz.f18) Tryz.func18 rfl (by decide) (by show 2 ≤ 8; decide) ?_; rw [Tryz.ntmps18]; refine rg fun Z z' => ?_; simp only [hrv, hsv, hs1, hyv, amt, seval, reduceCtorEq]; refine z' _ ?_; clear z' Z; refine rg fun Z z' => ?_; simp only [hrv, hsv, hs1, hyv, amt, seval, reduceCtorEq]
 (try rw [← hrv]); (try rw [← hsv]); refine (f36_spec sc hs chB (fun _ s' => s' = s) 43 [] chB_inc (fun q l h1 _ hb _ _ s1 hH => by subst hH; exact (f43_spec l h1 (fun x hx => by obtain ⟨b, k, m, h⟩ := hb x hx; exact offers_small hs.keys h) _).mono fun v s2 h => h) r hw hpw 0 q1 y hy _ rfl).mono ?_; rintro _ s1 ⟨rfl, q2, hq2, rfl⟩; simp only [hrv, hsv, hs1, hyv, amt, seval, reduceCtorEq]; refine z' _ ?_; clear z' Z; refine AWp.ret ?_; refine rt (vs := [.agg y.v]) (by show resV Tryz.prog _ [.cell 4 35] = _; simp only [resV, hyv, amt, seval, reduceCtorEq]) ⟨rfl, rfl⟩
end Go.Proofs.YtcckhbconihagaaGreatDoor
