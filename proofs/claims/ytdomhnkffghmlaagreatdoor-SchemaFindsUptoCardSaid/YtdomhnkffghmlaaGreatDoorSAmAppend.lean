/- append, in abstract values; and all operations together. -/
import Derived.Test.YtdomhnkffghmlaaGreatDoorS8
set_option linter.unusedVariables false
set_option linter.unusedSimpArgs false
namespace Go.Am
variable {P : Program}
/-- What is appended, as the machine has it. -/
theorem news_of {G : Ghost} {s : Heap} {w : World} (h : HRel G s w) {sz : Nat} {xs : List (List V)} {v : Value} (hr : Rep G (.slice sz xs) v) :
  (xs = [] ∧ ∃ a c, v = .slice a 0 c) ∨ ∃ a c, ∃ cells : Nat → Value, v = .slice (some a) xs.length c ∧ 0 < xs.length ∧ (∀ (j : Nat) u, ((List.range (xs.length * sz)).map cells)[j]? = some u → w.cell? (a.add j) = some u) ∧
   (∀ u ∈ (List.range (xs.length * sz)).map cells, u.oneCell' = true) ∧ (∀ cs ∈ xs, cs.length = sz) ∧ (∀ (i j : Nat) cs c, xs[i]? = some cs → cs[j]? = some c → Rep G c (cells (i * sz + j))) := by
 cases hr with
 | slice0 _ a c => exact .inl ⟨rfl, _, _, rfl⟩
 | slice _ _ b o cap cells c1 c2 c3 c4 c5 c6 =>
  by_cases hx : xs = []
  ·subst hx; exact .inl ⟨rfl, _, _, rfl⟩
  ·refine .inr ⟨_, cap, cells, rfl, List.length_pos_iff.2 hx, fun j u hu => ?_, fun u hu => ?_, c1, c5⟩
   ·rw [List.getElem?_map] at hu
    by_cases hj : j < xs.length * sz
    ·rw [List.getElem?_range hj] at hu
     obtain rfl := Option.some.inj hu
     rw [mid_add]
     exact h.frz _ _ _ (c4 j hj)
    ·rw [List.getElem?_eq_none (by simpa using hj)] at hu; cases hu
   ·obtain ⟨k, hk, rfl⟩ := List.mem_map.1 hu
    exact c6 k (List.mem_range.1 hk)
theorem run_append_zero {t ty e : TypeId} {i : TypeInfo} (ht : P.underlying t = some (.slice e)) (hi : P.info? e = some i) (b : Option Addr) (n cap : Nat) (hn : n ≤ cap) (a : Option Addr) (c : Nat) (w : World) :
  (Builtin.append_ #[t, t] ty #[.slice b n cap, .slice a 0 c]).run P w = .ok (.slice b n cap) w := by
 cases a <;> cases b <;> simp [Builtin.append_, run_underlying ht, sizeOf, typeInfo, hi, Builtin.lenOf, hn, Builtin.firstCells, loadCells, loadCellsFrom, storeCells]
theorem append_exec {o : Oper} {x y : Operand} {t : TypeId} (ho : o.op = .call { callee := .builtin .append, args := #[x, y], argTypes := #[t, t] }) {a : Act} {w w' : World} {v : Value} (h : (Builtin.append_ #[t, t] o.type #[a.eval x, a.eval y]).run P w = .ok v w') :
  (execOp a.eval o).run P w = .ok (.value v) w' := by
 unfold execOp
 simp [ho, resolve, invoke, builtin, h]
theorem slice_len {G : Ghost} {sz : Nat} {es : List (List V)} {v : Value} (h : Rep G (.slice sz es) v) : ∃ b cap, v = .slice b es.length cap := by
 cases h <;> exact ⟨_, _, rfl⟩
/-- The cells of a slice that stands in memory. -/
theorem slice_cells {G : Ghost} {s : Heap} {w : World} (h : HRel G s w) {sz : Nat} {es : List (List V)} {b o n cap : Nat} (hr : Rep G (.slice sz es) (.slice (some ⟨b, o, none⟩) n cap)) :
  ∃ cells : Nat → Value, (∀ k, k < es.length * sz → G.F b (o + k) = some (cells k)) ∧ (∀ cs ∈ es, cs.length = sz) ∧ (∀ (i j : Nat) cs c, es[i]? = some cs → cs[j]? = some c → Rep G c (cells (i * sz + j))) ∧ (∀ k, k < es.length * sz → (cells k).oneCell' = true) := by
 cases hr with
 | slice0 => exact ⟨fun _ => undef, by simp, by simp, by simp, by simp⟩
 | slice _ _ _ _ _ cells c1 c2 c3 c4 c5 c6 => exact ⟨cells, c4, c1, c5, c6⟩
/-- The concrete run of an append onto a slice that may grow, and what it leaves. -/
theorem append_run {G : Ghost} {s : Heap} {w : World} (h : HRel G s w) {t ty e : TypeId} {i : TypeInfo} {z : Value} (ht : P.underlying t = some (.slice e)) (hi : P.info? e = some i) (hz : i.zero = some z) (hzs : z.cells.size = i.size) (hsz : 0 < i.size)
  {v0 vy : Value} {es xs : List (List V)} (hv0 : Rep G (.slice i.size es) v0) (hy : Rep G (.slice i.size xs) vy) (hfit : (es.length + xs.length) * i.bytes ≤ 2 ^ 47) (hmax : es.length + xs.length ≤ maxLen)
  (hown : (∃ a, v0 = .slice a 0 0) ∨ ∃ g0, s.own g0 = some (e, i.size) ∧ G.om g0 = some v0) :
  ∃ v' w' G', (Builtin.append_ #[t, t] ty #[v0, vy]).run P w = .ok v' w' ∧ ∃ g, s.own g = none ∧ Rep G' (.own g i.size (es ++ xs)) v' ∧
   (∀ g0, (s.own g0 = some (e, i.size) ∧ G.om g0 = some v0) ∨ ((∃ a, v0 = .slice a 0 0) ∧ s.own g0 = none) → HRel G' ((s.setOwn g0 none).setOwn g (some (e, i.size))) w' ∧ Ext G s w G' ((s.setOwn g0 none).setOwn g (some (e, i.size))) w') := by
 obtain ⟨N, hN⟩ := h.fin
 obtain ⟨hNo, hNs⟩ := hN N (Nat.le_refl _)
 have hkill : ∀ g0, s.le (s.setOwn g0 none) := fun g0 => ⟨fun b => .inl rfl, fun g => by
  by_cases e : g = g0
  ·exact .inr (by simp [Heap.setOwn, upd, e])
  ·exact .inl (by simp [Heap.setOwn, upd, e])⟩
 have hkeys : ∀ g0 g, ((s.setOwn g0 none).setOwn N (some (e, i.size))).own g ≠ none → s.own g ≠ none ∨ G.om g = none := fun g0 g hg => by
  by_cases eN : g = N
  ·exact .inr (eN ▸ hNo)
  ·simp only [Heap.setOwn, upd_other _ _ _ _ eN] at hg
   by_cases e0 : g = g0
   ·subst e0; simp [upd] at hg
   ·simp only [upd_other _ _ _ _ e0] at hg; exact .inl hg
 -- the value of an owned slice
 have hval : (∃ a, v0 = .slice a 0 0) ∨ ∃ g0 b cap cur, s.own g0 = some (e, i.size) ∧ G.om g0 = some v0 ∧ v0 = .slice (some ⟨b, 0, none⟩) es.length (cap + 1) ∧ w.heap[b]? = some (.cells cur e (0, 0)) ∧ cur.size = (cap + 1) * i.size ∧ es.length ≤ cap + 1 ∧ cap + 1 ≤ maxLen ∧ (∀ o, es.length * i.size ≤ o → G.F b o = none) := by
  rcases hown with h0 | ⟨g0, k1, k2⟩
  ·exact .inl h0
  ·obtain ⟨v, hv, ho⟩ := h.own g0 e i.size k1
   obtain rfl : v = v0 := Option.some.inj (hv.symm.trans k2)
   rcases ho with ⟨a, rfl⟩ | ⟨b, n, cap, cur, rfl, j1, j2, j3, j4, j5⟩
   ·exact .inl ⟨a, rfl⟩
   ·have hn : n = es.length := by cases hv0 <;> first | rfl | simp
    subst hn
    exact .inr ⟨g0, b, cap, cur, k1, k2, rfl, j1, j2, j3, j4, j5⟩
 have hlen0 : ∀ a, v0 = .slice a 0 0 → es = [] := fun a e => by
  obtain ⟨b, cap, hq⟩ := slice_len hv0
  rw [e] at hq
  cases hq' : es with
  | nil => rfl
  | cons x r => rw [hq'] at hq; simp at hq
 rcases news_of h hy with ⟨rfl, ay, cy, rfl⟩ | ⟨ay, cy, cells, rfl, hpos, hnews, hone, hclen, hrepx⟩
 ·-- nothing is appended
  simp only [List.append_nil]
  have hn : ∃ b n cap, v0 = .slice b n cap ∧ n ≤ cap := by
   rcases hval with ⟨a, rfl⟩ | ⟨g0, b, cap, cur, _, _, rfl, _, _, hle, _⟩
   ·exact ⟨_, _, _, rfl, Nat.le_refl _⟩
   ·exact ⟨_, _, _, rfl, hle⟩
  obtain ⟨b, n, cap, rfl, hle⟩ := hn
  have hrun := run_append_zero (P := P) (ty := ty) ht hi b n cap hle ay cy w
  have hle' : G.Le { G with om := upd G.om N (some (.slice b n cap)) } := ⟨fun _ _ _ h => h, fun g' v hv => by
   have : g' ≠ N := fun e => by subst e; rw [hNo] at hv; cases hv
   simpa [upd, this] using hv, fun _ _ hx => hx⟩
  refine ⟨_, w, { G with om := upd G.om N (some (.slice b n cap)) }, hrun, N, hNs, .own _ _ _ _ (hv0.mono hle') (upd_same _ _ _), fun g0 hg0 => ?_⟩
  have hw := h.weaken (hkill g0)
  rcases hg0 with ⟨k1, k2⟩ | ⟨⟨a, hva⟩, k2⟩
  ·-- the key is renamed
   obtain ⟨v, hv, ho⟩ := h.own g0 e i.size k1
   obtain rfl : v = .slice b n cap := Option.some.inj (hv.symm.trans k2)
   have hne : g0 ≠ N := fun e => by subst e; rw [hNs] at k1; cases k1
   have hfoot : ∀ b', foot { G with om := upd G.om N (some (.slice b n cap)) } ((s.setOwn g0 none).setOwn N (some (e, i.size))) b' → foot G s b' := fun b' hf => by
    rcases hf with hf | ⟨g', x, v, j1, j2, j3⟩
    ·exact .inl hf
    ·by_cases eN : g' = N
     ·subst eN; simp only [upd_same, Option.some.injEq] at j2; subst j2; exact .inr ⟨g0, _, _, k1, k2, j3⟩
     ·simp only [Heap.setOwn, upd_other _ _ _ _ eN] at j1
      simp only [upd_other _ _ _ _ eN] at j2
      by_cases e0 : g' = g0
      ·subst e0; simp [upd] at j1
      ·simp only [upd_other _ _ _ _ e0] at j1; exact .inr ⟨g', x, v, j1, j2, j3⟩
   refine ⟨⟨h.frz, fun b' cs ty' hx => ?_, fun g' e' sz' hx => ?_, fun g1 g2 x1 x2 v1 v2 b' j1 j2 j3 j4 j5 j6 => ?_, fun g' x v b' j1 j2 j3 => ?_, ?_, h.ob, h.tab, h.siz⟩, ⟨hle', Nat.le_refl _, rfl, rfl, rfl, fun _ _ _ => rfl, fun b' hf => .inl (hfoot b' hf), fun _ _ h => .inl h, hkeys g0⟩⟩
   ·obtain ⟨c', h1, h2, h3⟩ := h.box b' cs ty' hx
    exact ⟨c', h1, h2.mono hle', h3⟩
   ·by_cases eN : g' = N
    ·subst eN
     simp only [Heap.setOwn, upd_same, Option.some.injEq, Prod.mk.injEq] at hx
     obtain ⟨rfl, rfl⟩ := hx
     exact ⟨_, upd_same _ _ _, ho⟩
    ·simp only [Heap.setOwn, upd_other _ _ _ _ eN] at hx
     obtain ⟨v, hv, ho'⟩ := hw.own g' e' sz' hx
     exact ⟨v, by simpa [upd, eN] using hv, ho'⟩
   ·have key : ∀ g1 x1 v1, ((s.setOwn g0 none).setOwn N (some (e, i.size))).own g1 = some x1 → (upd G.om N (some (.slice b n cap))) g1 = some v1 → ∃ gg xx, s.own gg = some xx ∧ G.om gg = some v1 ∧ (gg = g0 ↔ g1 = N) ∧ (g1 ≠ N → gg = g1) := by
     intro g1 x1 v1 j1 j2
     by_cases eN : g1 = N
     ·subst eN; simp only [upd_same, Option.some.injEq] at j2; subst j2; exact ⟨g0, _, k1, k2, by simp, by simp⟩
     ·simp only [Heap.setOwn, upd_other _ _ _ _ eN] at j1
      simp only [upd_other _ _ _ _ eN] at j2
      by_cases e0 : g1 = g0
      ·subst e0; simp [upd] at j1
      ·simp only [upd_other _ _ _ _ e0] at j1
       exact ⟨g1, x1, j1, j2, by simp [eN, e0], fun _ => rfl⟩
    obtain ⟨a1, y1, p1, p2, p3, p4⟩ := key g1 x1 v1 j1 j3
    obtain ⟨a2, y2, q1, q2, q3, q4⟩ := key g2 x2 v2 j2 j4
    have := h.sep a1 a2 y1 y2 v1 v2 b' p1 q1 p2 q2 j5 j6
    by_cases e1 : g1 = N
    ·by_cases e2 : g2 = N
     ·rw [e1, e2]
     ·have := q4 e2; have := p3.2 e1; have : a2 = g0 := by omega
      exact absurd (q3.1 this) e2
    ·by_cases e2 : g2 = N
     ·have := p4 e1; have := q3.2 e2; have : a1 = g0 := by omega
      exact absurd (p3.1 this) e1
     ·rw [← p4 e1, ← q4 e2]; exact this
   ·have : foot G s b' := hfoot b' (.inr ⟨g', x, v, j1, j2, j3⟩)
    by_cases eN : g' = N
    ·subst eN; simp only [upd_same, Option.some.injEq] at j2; subst j2; exact h.nobox g0 _ _ b' k1 k2 j3
    ·simp only [Heap.setOwn, upd_other _ _ _ _ eN] at j1
     simp only [upd_other _ _ _ _ eN] at j2
     exact hw.nobox g' x v b' j1 j2 j3
   ·refine ⟨N + 1, fun g' hg' => ?_⟩
    have : g' ≠ N := by omega
    have := hN g' (by omega)
    have e0 : g' ≠ g0 := fun e => by rw [e, k1] at this; simp at this
    simp [Heap.setOwn, upd, *]
  ·cases hva
   obtain ⟨c1, c2, c3⟩ := hw.claim0 (a := b) (e := e) (sz := i.size) (g := N) hNo
   exact ⟨c2, ⟨c1, Nat.le_refl _, rfl, rfl, rfl, fun _ _ _ => rfl, fun b' hf => .inl (foot_le (hkill g0) (c3 b' hf)), fun _ _ h => .inl h, hkeys g0⟩⟩
 ·-- what is appended has cells
  have hl : ((List.range (xs.length * i.size)).map cells).length = xs.length * i.size := by simp
  have hNk : ∀ g0, (s.own g0 = some (e, i.size) ∧ G.om g0 = some v0) ∨ ((∃ a, v0 = .slice a 0 0) ∧ s.own g0 = none) → (s.setOwn g0 none).own N = none := fun g0 _ => by
   by_cases e0 : N = g0
   ·simp [Heap.setOwn, upd, e0]
   ·simpa [Heap.setOwn, upd, e0] using hNs
  -- the new array: old cells, new cells
  have fresh : ∀ (olds : List Value) (cap : Nat) (zeros : Array Value), olds.length = es.length * i.size → (∀ (k : Nat), k < es.length * i.size → ∃ u, olds[k]? = some u ∧ u.oneCell' = true) → (∀ (i' j : Nat) cs c, es[i']? = some cs → cs[j]? = some c → ∃ u, olds[i' * i.size + j]? = some u ∧ Rep G c u) → (∀ cs ∈ es, cs.length = i.size) →
    es.length + xs.length ≤ cap + 1 → cap + 1 ≤ maxLen → (olds.toArray ++ ((List.range (xs.length * i.size)).map cells).toArray ++ zeros).size = (cap + 1) * i.size →
    (Builtin.append_ #[t, t] ty #[v0, .slice (some ay) xs.length cy]).run P w = .ok (.slice (some ⟨w.heap.size, 0, none⟩) (es.length + xs.length) (cap + 1)) (w.drew.alloc (.cells (olds.toArray ++ ((List.range (xs.length * i.size)).map cells).toArray ++ zeros) e)) →
    ∃ v' w' G', (Builtin.append_ #[t, t] ty #[v0, .slice (some ay) xs.length cy]).run P w = .ok v' w' ∧ ∃ g, s.own g = none ∧ Rep G' (.own g i.size (es ++ xs)) v' ∧
     (∀ g0, (s.own g0 = some (e, i.size) ∧ G.om g0 = some v0) ∨ ((∃ a, v0 = .slice a 0 0) ∧ s.own g0 = none) → HRel G' ((s.setOwn g0 none).setOwn g (some (e, i.size))) w' ∧ Ext G s w G' ((s.setOwn g0 none).setOwn g (some (e, i.size))) w') := by
   intro olds cap zeros ho1 ho2 ho3 hcl hle hcm hsize hrun
   have hm : More w (w.drew.alloc (.cells (olds.toArray ++ ((List.range (xs.length * i.size)).map cells).toArray ++ zeros) e)) := (More.drew w).trans (More.alloc _ _)
   have hF : ∀ o, G.F w.heap.size o = none := fun o => by
    cases hx : G.F w.heap.size o with
    | none => rfl
    | some v => have := h.frz_lt (b := w.heap.size) (o := o) (by rw [hx]; simp); omega
   have hnf : ∀ g0, ¬ foot G (s.setOwn g0 none) w.heap.size := fun g0 hf => by have := h.foot_lt (foot_le (hkill g0) hf); omega
   have hb : (w.drew.alloc (.cells (olds.toArray ++ ((List.range (xs.length * i.size)).map cells).toArray ++ zeros) e)).heap[w.heap.size]? = some (.cells (olds.toArray ++ ((List.range (xs.length * i.size)).map cells).toArray ++ zeros) e (0, 0)) := heap_alloc_new w.drew _
   have hcur : ∀ (j : Nat) v, (olds ++ (List.range (xs.length * i.size)).map cells)[j]? = some v → (olds.toArray ++ ((List.range (xs.length * i.size)).map cells).toArray ++ zeros)[0 + j]? = some v := fun j v hv => by
    rw [Nat.zero_add, ← Array.getElem?_toList]
    simp only [Array.toList_append]
    rw [List.getElem?_append_left (by have := (List.getElem?_eq_some_iff.1 hv).1; simpa using this)]
    exact hv
   have hlen : 0 + (olds ++ (List.range (xs.length * i.size)).map cells).length = (es.length + xs.length) * i.size := by simp [ho1, Nat.add_mul]
   refine ⟨_, _, G.seg w.heap.size 0 (olds ++ (List.range (xs.length * i.size)).map cells) N (.slice (some ⟨w.heap.size, 0, none⟩) (es.length + xs.length) (cap + 1)), hrun, N, hNs, ?_, fun g0 hg0 => ?_⟩
   ·refine .own _ _ _ _ ?_ (upd_same _ _ _)
    have hG := Ghost.seg_le (G := G) (b := w.heap.size) (lo := 0) (olds ++ (List.range (xs.length * i.size)).map cells) (g := N) (.slice (some ⟨w.heap.size, 0, none⟩) (es.length + xs.length) (cap + 1)) (fun o _ => hF o) hNo
    have hel : (es ++ xs).length = es.length + xs.length := by simp
    have hmul := Nat.add_mul es.length xs.length i.size
    have key := Rep.slice (G := G.seg w.heap.size 0 (olds ++ (List.range (xs.length * i.size)).map cells) N (.slice (some ⟨w.heap.size, 0, none⟩) (es.length + xs.length) (cap + 1))) i.size (es ++ xs) w.heap.size 0 (cap + 1) (fun k => (olds ++ (List.range (xs.length * i.size)).map cells).getD k undef) ?a (by rw [hel]; exact hle) hcm ?b ?c ?d
    ·rw [hel] at key; exact key
    ·intro cs hcs
     rcases List.mem_append.1 hcs with hc | hc
     ·exact hcl cs hc
     ·exact hclen cs hc
    ·intro k hk
     rw [hel] at hk
     simp only [Ghost.seg, Nat.zero_add, Nat.zero_le, true_and, Nat.sub_zero]
     rw [if_pos (by omega), List.getD_eq_getElem?_getD]
     rw [List.getElem?_eq_getElem (by omega)]
     rfl
    ·intro i' j cs c hi' hj
     refine Rep.mono hG ?_
     by_cases hlt : i' < es.length
     ·rw [List.getElem?_append_left hlt] at hi'
      obtain ⟨u, hu, hru⟩ := ho3 i' j cs c hi' hj
      rw [List.getD_eq_getElem?_getD, List.getElem?_append_left (List.getElem?_eq_some_iff.1 hu).1, hu]
      exact hru
     ·rw [List.getElem?_append_right (by omega)] at hi'
      have hj' : j < i.size := by rw [← hclen cs (List.mem_of_getElem? hi')]; exact (List.getElem?_eq_some_iff.1 hj).1
      have hi2 : i' - es.length < xs.length := (List.getElem?_eq_some_iff.1 hi').1
      have hidx : i' * i.size + j = olds.length + ((i' - es.length) * i.size + j) := by
       rw [ho1, ← Nat.add_assoc, ← Nat.add_mul]; congr 2; omega
      have hlt2 : (i' - es.length) * i.size + j < xs.length * i.size := by
       have : (i' - es.length + 1) * i.size ≤ xs.length * i.size := Nat.mul_le_mul_right _ hi2
       rw [Nat.add_mul] at this; omega
      rw [List.getD_eq_getElem?_getD, hidx, List.getElem?_append_right (by omega), Nat.add_sub_cancel_left, List.getElem?_map, List.getElem?_range hlt2]
      exact hrepx _ j cs c hi' hj
    ·intro k hk
     rw [hel] at hk
     by_cases hlt : k < olds.length
     ·obtain ⟨u, hu, h1⟩ := ho2 k (by omega)
      rw [List.getD_eq_getElem?_getD, List.getElem?_append_left hlt, hu]
      exact h1
     ·have hlt2 : k - olds.length < xs.length * i.size := by rw [ho1]; omega
      rw [List.getD_eq_getElem?_getD, List.getElem?_append_right (by omega), List.getElem?_map, List.getElem?_range hlt2]
      exact hone _ (List.mem_map.2 ⟨_, List.mem_range.2 hlt2, rfl⟩)
   ·have hw := (h.weaken (hkill g0)).more hm
    have hc := hw.claim (b := w.heap.size) (lo := 0) (n := es.length + xs.length) (cap := cap) (sz := i.size) (news := olds ++ (List.range (xs.length * i.size)).map cells) hb (hnf g0) (fun o _ => hF o) hNo hcur hlen hsize hle hcm
    refine ⟨hc, ⟨Ghost.seg_le _ _ (fun o _ => hF o) hNo, hm.size, rfl, rfl, rfl, fun b' hb' _ => hm.keep b' hb', fun b' hf => ?_, fun b' o hf => ?_, hkeys g0⟩⟩
    ·rcases hf with hf | ⟨g', x, v, j1, j2, j3⟩
     ·exact .inl (.inl hf)
     ·by_cases eN : g' = N
      ·subst eN
       simp only [Ghost.seg, upd_same, Option.some.injEq] at j2
       subst j2
       simp [blk] at j3
       exact .inr (by omega)
      ·simp only [Heap.setOwn, upd_other _ _ _ _ eN] at j1
       simp only [Ghost.seg, upd_other _ _ _ _ eN] at j2
       exact .inl (foot_le (hkill g0) (.inr ⟨g', x, v, j1, j2, j3⟩))
    ·simp only [Ghost.seg] at hf
     split at hf
     ·rename_i hc'; exact .inr (.inr (by omega))
     ·exact .inl hf
  have hfit' : (es.length + xs.length) * i.bytes ≤ 140737488355328 := hfit
  have hmax' : es.length + xs.length ≤ 9223372036854775807 := by unfold maxLen at hmax; omega
  have grown : ∀ (old : Nat), ∃ cap, grownCap w (es.length + xs.length) old e = cap + 1 ∧ es.length + xs.length ≤ cap + 1 ∧ cap + 1 ≤ maxLen := fun old => by
   have h1 := grownCap_ge w (es.length + xs.length) old e
   have h2 := grownCap_le_maxLen w (es.length + xs.length) old e hmax
   exact ⟨grownCap w (es.length + xs.length) old e - 1, by omega, by omega, by omega⟩
  have zsize : ∀ (olds : List Value) (cap : Nat), olds.length = es.length * i.size → es.length + xs.length ≤ cap + 1 →
    (olds.toArray ++ ((List.range (xs.length * i.size)).map cells).toArray ++ Builtin.zeroCells z.cells (cap + 1 - (es.length + xs.length))).size = (cap + 1) * i.size := fun olds cap ho hle => by
   simp only [Array.size_append, List.size_toArray, ho, List.length_map, List.length_range, size_zeroCells, hzs, ← Nat.add_mul]
   congr 1
   omega
  rcases hval with ⟨a, rfl⟩ | ⟨g0, b, cap, cur, k1, k2, rfl, j1, j2, j3, j4, j5⟩
  ·have he := hlen0 a rfl
   subst he
   obtain ⟨cap, hc1, hc2, hc3⟩ := grown 0
   refine fresh [] cap _ (by simp) (by simp) (by simp) (by simp) hc2 hc3 (zsize [] cap (by simp) hc2) ?_
   simp only [List.length_nil, Nat.zero_add] at hc1 hmax' hfit' ⊢
   cases a with
   | none =>
    have hr := run_append_nil (P := P) w t ty e i z ht hi hz ay xs.length cy _ hl hnews hpos (by omega) (by omega)
    rw [hc1] at hr
    simpa using hr
   | some ad =>
    have hr := run_append_grow (P := P) w t ty e i z ht hi hz ad 0 0 [] (by simp) (by simp) ay xs.length cy _ hl hnews (by omega) (by omega) (growslice_fits (by omega) (by simpa using hfit'))
    simp only [Nat.zero_add] at hr
    rw [hc1] at hr
    simpa using hr
  ·obtain ⟨oc, d1, d2, d3, d4⟩ := slice_cells h hv0
   simp only [Nat.zero_add] at d1
   by_cases hroom : es.length + xs.length ≤ cap + 1
   ·-- there is room
    have hrun := run_append_room (P := P) w t ty e i ht hi b es.length (cap + 1) cur j1 ay xs.length cy _ hl hnews hone hroom (by rw [hl, j2, ← Nat.add_mul]; exact Nat.mul_le_mul_right _ hroom)
    have hmul := Nat.add_mul es.length xs.length i.size
    have hle : es.length * i.size + xs.length * i.size ≤ cur.size := by rw [j2, ← Nat.add_mul]; exact Nat.mul_le_mul_right _ hroom
    refine ⟨_, _, G.seg b (es.length * i.size) ((List.range (xs.length * i.size)).map cells) N (.slice (some ⟨b, 0, none⟩) (es.length + xs.length) (cap + 1)), hrun, N, hNs, ?_, fun g1 hg1 => ?_⟩
    ·refine .own _ _ _ _ ?_ (upd_same _ _ _)
     have hG := Ghost.seg_le (G := G) (b := b) (lo := es.length * i.size) ((List.range (xs.length * i.size)).map cells) (g := N) (.slice (some ⟨b, 0, none⟩) (es.length + xs.length) (cap + 1)) j5 hNo
     have hel : (es ++ xs).length = es.length + xs.length := by simp
     have key := Rep.slice (G := G.seg b (es.length * i.size) ((List.range (xs.length * i.size)).map cells) N (.slice (some ⟨b, 0, none⟩) (es.length + xs.length) (cap + 1))) i.size (es ++ xs) b 0 (cap + 1)
      (fun k => if k < es.length * i.size then oc k else cells (k - es.length * i.size)) ?a2 (by rw [hel]; exact hroom) j4 ?b2 ?c2 ?d2
     ·rw [hel] at key; exact key
     ·intro cs hcs
      rcases List.mem_append.1 hcs with hc | hc
      ·exact d2 cs hc
      ·exact hclen cs hc
     ·intro k hk
      rw [hel] at hk
      simp only [Ghost.seg, Nat.zero_add, true_and, hl]
      by_cases hlt : k < es.length * i.size
      ·rw [if_neg (by omega), if_pos hlt]; exact d1 k hlt
      ·rw [if_pos (by omega), if_neg hlt, List.getElem?_map, List.getElem?_range (by omega)]; rfl
     ·intro i' j cs c hi' hj
      refine Rep.mono hG ?_
      by_cases hlt : i' < es.length
      ·rw [List.getElem?_append_left hlt] at hi'
       have hjs : j < i.size := by rw [← d2 cs (List.mem_of_getElem? hi')]; exact (List.getElem?_eq_some_iff.1 hj).1
       have : (i' + 1) * i.size ≤ es.length * i.size := Nat.mul_le_mul_right _ hlt
       rw [Nat.add_mul] at this
       rw [if_pos (by omega)]
       exact d3 i' j cs c hi' hj
      ·rw [List.getElem?_append_right (by omega)] at hi'
       have hidx : i' * i.size + j - es.length * i.size = (i' - es.length) * i.size + j := by
        rw [Nat.sub_mul]
        have : es.length * i.size ≤ i' * i.size := Nat.mul_le_mul_right _ (by omega)
        omega
       have : es.length * i.size ≤ i' * i.size := Nat.mul_le_mul_right _ (by omega)
       rw [if_neg (by omega), hidx]
       exact hrepx _ j cs c hi' hj
     ·intro k hk
      rw [hel] at hk
      by_cases hlt : k < es.length * i.size
      ·simp only [hlt, if_true]; exact d4 k hlt
      ·simp only [hlt, if_false]
       exact hone _ (List.mem_map.2 ⟨_, List.mem_range.2 (by omega), rfl⟩)
    ·have hg : s.own g1 = some (e, i.size) ∧ G.om g1 = some (.slice (some ⟨b, 0, none⟩) es.length (cap + 1)) := by
      rcases hg1 with hg1 | ⟨⟨a, ha⟩, _⟩
      ·exact hg1
      ·exact absurd (Value.slice.inj ha).2.2 (by omega)
     have hnf : ¬ foot G (s.setOwn g1 none) b := fun hf => by
      rcases hf with hf | ⟨g', x, v, m1, m2, m3⟩
      ·exact hf (h.nobox g1 _ _ b hg.1 hg.2 rfl)
      ·by_cases eg : g' = g1
       ·subst eg; simp [Heap.setOwn, upd] at m1
       ·simp only [Heap.setOwn, upd_other _ _ _ _ eg] at m1
        exact eg (h.sep g' g1 x _ v _ b m1 hg.1 m2 hg.2 m3 rfl)
     have hrow : (w.setRow b (cur.toList.take (es.length * i.size) ++ (List.range (xs.length * i.size)).map cells ++ cur.toList.drop (es.length * i.size + ((List.range (xs.length * i.size)).map cells).length)).toArray).heap[b]? = some (.cells _ e (0, 0)) := setRow_heap w b cur _ e _ j1
     have hw : HRel G (s.setOwn g1 none) (w.setRow b (cur.toList.take (es.length * i.size) ++ (List.range (xs.length * i.size)).map cells ++ cur.toList.drop (es.length * i.size + ((List.range (xs.length * i.size)).map cells).length)).toArray) := by
      refine (h.weaken (hkill g1)).same (fun b' o v hv => ?_) (fun b' hf => setRow_other _ _ _ _ (fun e' => hnf (e' ▸ hf))) (fun b' x hb' => setRow_other _ _ _ _ (fun e' => by
       have hx := h.ob b' x hb'
       rw [e', j1] at hx
       have := Option.some.inj hx.2; subst this; exact absurd hx.1 (by simp [isC]))) (setRow_siz j1 (by simp; omega))
      by_cases eb : b' = b
      ·subst eb
       have ho : o < es.length * i.size := by
        rcases Nat.lt_or_ge o (es.length * i.size) with hlt | hge
        ·exact hlt
        ·rw [j5 o hge] at hv; cases hv
       rw [cell_setRow_same w b' o cur _ e _ j1, cell_of_row w b' o cur e _ j1]
       simp only [List.getElem?_toArray, List.append_assoc]
       rw [List.getElem?_append_left (by simp; omega), List.getElem?_take, if_pos ho]
       simp
      ·exact cell_setRow_other _ _ _ _ eb
     have hc := hw.claim (b := b) (lo := es.length * i.size) (n := es.length + xs.length) (cap := cap) (sz := i.size) (news := (List.range (xs.length * i.size)).map cells) hrow hnf j5 hNo
      (fun j v hv => by
       have hlt : j < xs.length * i.size := by have := (List.getElem?_eq_some_iff.1 hv).1; simpa using this
       simp only [List.getElem?_toArray, List.append_assoc]
       rw [List.getElem?_append_right (by simp; omega), List.getElem?_append_left (by simp; omega)]
       rw [← hv]; congr 1; simp; omega)
      (by rw [hl]; omega) (by simp; omega) hroom j4
     refine ⟨hc, ⟨Ghost.seg_le _ _ j5 hNo, by simp, rfl, rfl, rfl, fun b' hb' hf => setRow_other _ _ _ _ (fun e' => hf (e' ▸ .inr ⟨g1, _, _, hg.1, hg.2, rfl⟩)), fun b' hf => ?_, fun b' o hf => ?_, hkeys g1⟩⟩
     ·rcases hf with hf | ⟨g', x, v, m1, m2, m3⟩
      ·exact .inl (.inl hf)
      ·by_cases eN : g' = N
       ·subst eN
        simp only [Ghost.seg, upd_same, Option.some.injEq] at m2
        subst m2
        exact .inl (.inr ⟨g1, _, _, hg.1, hg.2, m3⟩)
       ·simp only [Heap.setOwn, upd_other _ _ _ _ eN] at m1
        simp only [Ghost.seg, upd_other _ _ _ _ eN] at m2
        exact .inl (foot_le (hkill g1) (.inr ⟨g', x, v, m1, m2, m3⟩))
     ·simp only [Ghost.seg] at hf
      split at hf
      ·rename_i hc'; exact .inr (.inl (hc'.1 ▸ .inr ⟨g1, _, _, hg.1, hg.2, rfl⟩))
      ·exact .inl hf
   ·-- a new array
    obtain ⟨cap', hc1, hc2, hc3⟩ := grown (cap + 1)
    have hol : ((List.range (es.length * i.size)).map oc).length = es.length * i.size := by simp
    have hget : ∀ k, k < es.length * i.size → ((List.range (es.length * i.size)).map oc)[k]? = some (oc k) := fun k hk => by
     rw [List.getElem?_map, List.getElem?_range hk]; rfl
    refine fresh ((List.range (es.length * i.size)).map oc) cap' _ hol (fun k hk => ⟨_, hget k hk, d4 k hk⟩) (fun i' j cs c hi' hj => ?_) d2 hc2 hc3 (zsize _ cap' hol hc2) ?_
    ·have hjs : j < i.size := by rw [← d2 cs (List.mem_of_getElem? hi')]; exact (List.getElem?_eq_some_iff.1 hj).1
     have hi2 : i' < es.length := (List.getElem?_eq_some_iff.1 hi').1
     have : (i' + 1) * i.size ≤ es.length * i.size := Nat.mul_le_mul_right _ hi2
     rw [Nat.add_mul] at this
     exact ⟨_, hget _ (by omega), d3 i' j cs c hi' hj⟩
    ·have hr := run_append_grow (P := P) w t ty e i z ht hi hz ⟨b, 0, none⟩ es.length (cap + 1) ((List.range (es.length * i.size)).map oc) hol (fun j v hv => by
       have hlt : j < es.length * i.size := by have := (List.getElem?_eq_some_iff.1 hv).1; simpa using this
       rw [hget j hlt] at hv
       obtain rfl := Option.some.inj hv
       rw [mid_add, Nat.zero_add]
       exact h.frz _ _ _ (d1 j hlt)) ay xs.length cy _ hl hnews (by omega) (by omega) (growslice_fits (by omega) hfit')
     rw [hc1] at hr
     exact hr
theorem appendOk {e : Entry} {o : Oper} {x y : Operand} {t el : TypeId} (ho : o.op = .call { callee := .builtin .append, args := #[x, y], argTypes := #[t, t] }) {d de : TyD} (hd : tyOf P t = some d) (hs : d.shape = .slice el) (hde : tyOf P el = some de) (hsz : 0 < de.size) {st : St} (hdst : dstOk o st) {a : Act} {w : World} {Q : Exit → Act → World → Prop}
  {K : St → Prop} {G : Ghost} {be : Nat → Option Nat} (hx : Ext e.G e.s e.w G st.s w) (hr : ARel e.base G be st a w) {es xs : List (List V)} (h0 : Rep G (.slice de.size es) (a.eval x)) (hy : Rep G (.slice de.size xs) (a.eval y)) (hfit : (es.length + xs.length) * de.bytes ≤ 2 ^ 47) (hmax : es.length + xs.length ≤ maxLen) {g0 : Nat}
  (hg0 : (st.s.own g0 = some (el, de.size) ∧ G.om g0 = some (a.eval x)) ∨ ((∃ b, a.eval x = .slice b 0 0) ∧ st.s.own g0 = none))
  (hK : ∀ g, st.s.own g = none → K ({ st with s := (st.s.setOwn g0 none).setOwn g (some (el, de.size)) }.put o.dst (.own g de.size (es ++ xs)))) : o.wp P a w (Then e K) Q := by
 obtain ⟨i', u, z', hi', hu, hz', h1, h2, h3, h4, h5⟩ := tyOf_some hd
 obtain ⟨ie, ue, z, hie, hue, hze, k1, k2, k3, k4, k5⟩ := tyOf_some hde
 obtain ⟨hzl, _⟩ := tyOf_zero hde
 obtain rfl := shape_slice (hs.symm.trans h5)
 have hzs : z.cells.size = ie.size := by rw [← k1, ← hzl, k3]; simp
 rw [k1] at h0 hy hsz hg0
 obtain ⟨v', w', G', hrun, g, hg, hrep, hres⟩ := append_run (P := P) (ty := o.type) hr.hr hu hie hze hzs hsz h0 hy (by rw [← k2]; exact hfit) hmax (by
  rcases hg0 with h | h
  ·exact .inr ⟨g0, h⟩
  ·exact .inl h.1)
 obtain ⟨hh, hx'⟩ := hres g0 hg0
 unfold Oper.wp
 rw [append_exec ho hrun]
 refine ⟨_, hK g hg, G', be, ?_, ?_⟩
 ·rw [put_s, k1]; exact hx.trans hx'
 ·rw [k1]
  exact (hr.ext hx' hh).put o.dst (dstOk_lt hdst) (LRep.of_rep hrep)
theorem HRel.newBox {G : Ghost} {s : Heap} {w w' : World} (h : HRel G s w) (hm : More w w') {b : Nat} (hb : w.heap.size ≤ b) {cs : List V} {ccs : Array Value} {t : TypeId} (hc : w'.heap[b]? = some (.cells ccs t (0, 0))) (hr : RepL G cs ccs.toList) (h1 : ∀ v ∈ ccs.toList, v.oneCell' = true) :
  HRel G (s.setBox b (cs, t)) w' ∧ Ext G s w G (s.setBox b (cs, t)) w' := by
 have hF : ∀ o, G.F b o = none := fun o => by
  cases hx : G.F b o with
  | none => rfl
  | some v => have := h.frz_lt (b := b) (o := o) (by rw [hx]; simp); omega
 have hnf : ¬ foot G s b := fun hf => by have := h.foot_lt hf; omega
 have hh := h.more hm
 refine ⟨⟨hh.frz, fun b' cs' ty' hb' => ?_, hh.own, hh.sep, fun g x v b' j1 j2 j3 => ?_, hh.fin, hh.ob, hh.tab, hh.siz⟩, ⟨.refl G, hm.size, hm.os, hm.tape, hm.output, fun b' hb' _ => hm.keep b' hb', fun b' hf => ?_, fun _ _ h => .inl h, fun _ h => .inl h⟩⟩
 ·by_cases e : b' = b
  ·subst e
   simp only [Heap.setBox, upd_same, Option.some.injEq, Prod.mk.injEq] at hb'
   obtain ⟨rfl, rfl⟩ := hb'
   exact ⟨ccs, hc, hr, h1, hF⟩
  ·simp only [Heap.setBox, upd_other _ _ _ _ e] at hb'
   exact hh.box b' cs' ty' hb'
 ·by_cases e : b' = b
  ·subst e; exact absurd (.inr ⟨g, x, v, j1, j2, j3⟩) hnf
  ·simp only [Heap.setBox, upd_other _ _ _ _ e]
   exact hh.nobox g x v b' j1 j2 j3
 ·by_cases e : b' = b
  ·exact .inr (by omega)
  ·rcases hf with hf | hf
   ·exact .inl (.inl (by simpa [Heap.setBox, upd_other _ _ _ _ e] using hf))
   ·exact .inl (.inr hf)
theorem repL_anys {G : Ghost} (vs : List Value) : RepL G (List.replicate vs.length .any) vs := by
 refine ⟨by simp, fun i c v a b => ?_⟩
 rw [List.getElem?_replicate] at a
 split at a
 ·cases a; exact .any _
 ·cases a
theorem flat_len {sz : Nat} : ∀ {es : List (List V)}, (∀ r ∈ es, r.length = sz) → es.flatten.length = es.length * sz
 | [], _ => by simp
 | r :: es, h => by
  rw [List.flatten_cons, List.length_append, flat_len (fun x hx => h x (List.mem_cons_of_mem _ hx)), h r (by simp), List.length_cons, Nat.add_mul]; omega
theorem flat_get {sz : Nat} : ∀ {es : List (List V)}, (∀ r ∈ es, r.length = sz) → ∀ (i j : Nat) (r : List V), es[i]? = some r → j < sz → es.flatten[i * sz + j]? = r[j]?
 | [], _, i, j, r, h, _ => by simp at h
 | x :: es, hs, i, j, r, h, hj => by
  have hx : x.length = sz := hs x (by simp)
  rw [List.flatten_cons]
  cases i with
  | zero =>
   simp at h; subst h
   rw [Nat.zero_mul, Nat.zero_add, List.getElem?_append_left (by omega)]
  | succ i =>
   simp at h
   have e : (i + 1) * sz + j = x.length + (i * sz + j) := by rw [Nat.add_mul, hx]; omega
   rw [e, List.getElem?_append_right (by omega), Nat.add_sub_cancel_left]
   exact flat_get (fun r hr => hs r (List.mem_cons_of_mem _ hr)) i j r h hj
theorem news_rep {G : Ghost} {sz : Nat} (hsz : 0 < sz) {xs : List (List V)} {cells : Nat → Value} (hlen : ∀ cs ∈ xs, cs.length = sz) (hrepx : ∀ (i j : Nat) cs c, xs[i]? = some cs → cs[j]? = some c → Rep G c (cells (i * sz + j))) : RepL G xs.flatten ((List.range (xs.length * sz)).map cells) := by
 have hfl := flat_len hlen
 refine ⟨by simp [hfl], fun j c v hc hv => ?_⟩
 have hj : j < xs.length * sz := by rw [← hfl]; exact (List.getElem?_eq_some_iff.1 hc).1
 have e : j = (j / sz) * sz + j % sz := by rw [Nat.mul_comm]; exact (Nat.div_add_mod j sz).symm
 have hq : j / sz < xs.length := Nat.div_lt_of_lt_mul (by rw [Nat.mul_comm]; exact hj)
 have hmod := Nat.mod_lt j hsz
 have hc' := flat_get hlen (j / sz) (j % sz) xs[j / sz] (List.getElem?_eq_getElem hq) hmod
 rw [← e, hc] at hc'
 have := hrepx (j / sz) (j % sz) _ c (List.getElem?_eq_getElem hq) hc'.symm
 rw [← e] at this
 rw [List.getElem?_map, List.getElem?_range hj] at hv
 cases hv
 exact this
/-- The concrete run of an append of some elements onto a slice in a heap box. -/
theorem appendM_run {G : Ghost} {s : Heap} {w : World} (h : HRel G s w) {t ty e : TypeId} {i : TypeInfo} {z : Value} (ht : P.underlying t = some (.slice e)) (hi : P.info? e = some i) (hz : i.zero = some z) (hzs : z.cells.size = i.size) (hz1 : ∀ x ∈ z.cells.toList, x.oneCell' = true) (hsz : 0 < i.size)
  {vy : Value} {a : Option Addr} {n cap : Nat} {cs : List V} {xs : List (List V)} (hpos : 0 < xs.length) (hm : MutAt s a n cap cs e i.size) (hy : Rep G (.slice i.size xs) vy) (hfit : (n + xs.length) * i.bytes ≤ 2 ^ 47) (hmax : n + xs.length ≤ maxLen) :
  ∃ b' cap' cs' w', (Builtin.append_ #[t, t] ty #[.slice a n cap, vy]).run P w = .ok (.slice (some ⟨b', 0, none⟩) (n + xs.length) cap') w' ∧ (a = some ⟨b', 0, none⟩ ∨ s.box b' = none) ∧ cs'.length = cap' * i.size ∧ cs'.take ((n + xs.length) * i.size) = cs.take (n * i.size) ++ xs.flatten ∧ n + xs.length ≤ cap' ∧ cap' ≤ maxLen ∧
   HRel G (s.setBox b' (cs', e)) w' ∧ Ext G s w G (s.setBox b' (cs', e)) w' := by
 have hfit' : (n + xs.length) * i.bytes ≤ 140737488355328 := hfit
 have hmax' : n + xs.length ≤ 9223372036854775807 := by unfold maxLen at hmax; omega
 rcases news_of h hy with ⟨h0, _⟩ | ⟨ay, cy, cells, rfl, _, hnews, hone, hlen, hrepx⟩
 ·rw [h0] at hpos; simp at hpos
 have hrepn := news_rep hsz hlen hrepx
 have hfl := flat_len hlen
 -- a new array
 have fresh : ∀ (olds : List Value) (ocs : List V), olds.length = n * i.size → RepL G ocs olds → (∀ v ∈ olds, v.oneCell' = true) → ocs = cs.take (n * i.size) → ∀ old,
   (Builtin.append_ #[t, t] ty #[.slice a n cap, .slice (some ay) xs.length cy]).run P w = .ok (.slice (some ⟨w.heap.size, 0, none⟩) (n + xs.length) (grownCap w (n + xs.length) old e)) (w.drew.alloc (.cells (olds.toArray ++ ((List.range (xs.length * i.size)).map cells).toArray ++ Builtin.zeroCells z.cells (grownCap w (n + xs.length) old e - (n + xs.length))) e)) →
   ∃ b' cap' cs' w', (Builtin.append_ #[t, t] ty #[.slice a n cap, .slice (some ay) xs.length cy]).run P w = .ok (.slice (some ⟨b', 0, none⟩) (n + xs.length) cap') w' ∧ (a = some ⟨b', 0, none⟩ ∨ s.box b' = none) ∧ cs'.length = cap' * i.size ∧ cs'.take ((n + xs.length) * i.size) = cs.take (n * i.size) ++ xs.flatten ∧ n + xs.length ≤ cap' ∧ cap' ≤ maxLen ∧
   HRel G (s.setBox b' (cs', e)) w' ∧ Ext G s w G (s.setBox b' (cs', e)) w' := by
  intro olds ocs ho hrl ho1 hoc old hrun
  have hg1 := grownCap_ge w (n + xs.length) old e
  have hg2 := grownCap_le_maxLen w (n + xs.length) old e hmax
  have hm : More w (w.drew.alloc (.cells (olds.toArray ++ ((List.range (xs.length * i.size)).map cells).toArray ++ Builtin.zeroCells z.cells (grownCap w (n + xs.length) old e - (n + xs.length))) e)) := (More.drew w).trans (More.alloc _ _)
  have hbn : s.box w.heap.size = none := by
   cases hq : s.box w.heap.size with
   | none => rfl
   | some y => have := h.foot_lt (b := w.heap.size) (.inl (by rw [hq]; simp)); omega
  have hzl : (Builtin.zeroCells z.cells (grownCap w (n + xs.length) old e - (n + xs.length))).toList.length = (grownCap w (n + xs.length) old e - (n + xs.length)) * i.size := by rw [Array.length_toList, size_zeroCells, hzs]
  have hocl : ocs.length = n * i.size := by rw [hrl.1, ho]
  have hnb := h.newBox hm (b := w.heap.size) (Nat.le_refl _) (cs := ocs ++ xs.flatten ++ List.replicate (Builtin.zeroCells z.cells (grownCap w (n + xs.length) old e - (n + xs.length))).toList.length .any) (t := e) (heap_alloc_new w.drew _)
   (by
    have := (hrl.append hrepn).append (repL_anys (G := G) (Builtin.zeroCells z.cells (grownCap w (n + xs.length) old e - (n + xs.length))).toList)
    simpa using this)
   (by
    intro v hv
    simp only [Array.toList_append, List.mem_append] at hv
    rcases hv with (hv | hv) | hv
    ·exact ho1 v (by simpa using hv)
    ·exact hone v (by simpa using hv)
    ·unfold Builtin.zeroCells at hv
     simp only [Array.toList_map, List.mem_map] at hv
     obtain ⟨k, _, rfl⟩ := hv
     have hk : k % z.cells.size < z.cells.size := Nat.mod_lt _ (by omega)
     rw [getElem!_pos z.cells _ hk]
     exact hz1 _ (by simp))
  refine ⟨w.heap.size, _, _, _, hrun, .inr hbn, ?_, ?_, hg1, hg2, hnb⟩
  ·rw [List.length_append, List.length_append, hocl, hfl, List.length_replicate, hzl, ← Nat.add_mul, ← Nat.add_mul]
   congr 1; omega
  ·rw [List.take_append_of_le_length (by rw [List.length_append, hocl, hfl, ← Nat.add_mul]; exact Nat.le_refl _), List.take_of_length_le (by rw [List.length_append, hocl, hfl, ← Nat.add_mul]; exact Nat.le_refl _), hoc]
 have hnl : ((List.range (xs.length * i.size)).map cells).length = xs.length * i.size := by simp
 rcases hm with ⟨rfl, rfl, rfl, rfl⟩ | ⟨b, rfl, hb, hl, hn, hcm⟩
 ·refine fresh [] [] (by simp) (RepL.nil G) (by simp) (by simp) 0 ?_
  have hr := run_append_nil (P := P) w t ty e i z ht hi hz ay xs.length cy _ hnl hnews hpos (by omega) (by rw [Nat.zero_add] at hfit'; omega)
  simpa using hr
 ·obtain ⟨ccs, k1, k2, k3, k4⟩ := h.box b cs e hb
  have hcl : ccs.size = cap * i.size := by rw [← hl, k2.1]; simp
  by_cases hroom : n + xs.length ≤ cap
  ·have hle : (n + xs.length) * i.size ≤ cap * i.size := Nat.mul_le_mul_right _ hroom
   rw [Nat.add_mul] at hle
   have hrun := run_append_room (P := P) w t ty e i ht hi b n cap ccs k1 ay xs.length cy _ hnl hnews hone hroom (by rw [hcl]; omega)
   have hsb := h.setBox hb (cs' := cs.take (n * i.size) ++ xs.flatten ++ cs.drop ((n + xs.length) * i.size)) (ccs' := (ccs.toList.take (n * i.size) ++ (List.range (xs.length * i.size)).map cells ++ ccs.toList.drop ((n + xs.length) * i.size)).toArray) (by simp only [List.length_append, List.length_take, List.length_drop, hl, hfl, Nat.add_mul]; omega) (by
     simpa using ((k2.take _).append hrepn).append (k2.drop _)) (by
     intro v hv
     simp only [List.mem_append] at hv
     rcases hv with (hv | hv) | hv
     ·exact k3 v (List.mem_of_mem_take hv)
     ·exact hone v hv
     ·exact k3 v (List.mem_of_mem_drop hv))
   refine ⟨b, cap, cs.take (n * i.size) ++ xs.flatten ++ cs.drop ((n + xs.length) * i.size), _, hrun, .inl rfl, ?_, ?_, hroom, hcm, ?_⟩
   ·simp only [List.length_append, List.length_take, List.length_drop, hl, hfl, Nat.add_mul]; omega
   ·have hl2 : (cs.take (n * i.size) ++ xs.flatten).length = (n + xs.length) * i.size := by rw [List.length_append, List.length_take, hl, hfl, Nat.add_mul]; omega
    rw [List.take_append_of_le_length (by rw [hl2]; exact Nat.le_refl _), List.take_of_length_le (by rw [hl2]; exact Nat.le_refl _)]
   ·simpa [Nat.add_mul] using hsb
  ·have hle : n * i.size ≤ cap * i.size := Nat.mul_le_mul_right _ hn
   refine fresh (ccs.toList.take (n * i.size)) (cs.take (n * i.size)) (by rw [List.length_take, Array.length_toList, hcl]; omega) (k2.take _) (fun v hv => k3 v (List.mem_of_mem_take hv)) rfl cap ?_
   exact run_append_grow (P := P) w t ty e i z ht hi hz ⟨b, 0, none⟩ n cap (ccs.toList.take (n * i.size)) (by rw [List.length_take, Array.length_toList, hcl]; omega) (fun j v hv => by
     rw [mid_add, Nat.zero_add, cell_of_row w b j ccs e _ k1]
     rw [List.getElem?_take] at hv
     split at hv
     ·simpa using hv
     ·cases hv) ay xs.length cy _ hnl hnews (by omega) (by omega) (growslice_fits (by omega) hfit')
theorem aAppend_sound {e : Entry} {o : Oper} {args : Array Operand} {ts : Array TypeId} (ho : o.op = .call { callee := .builtin .append, args := args, argTypes := ts }) {st : St} {K : St → Prop} {a : Act} {w : World} {Q : Exit → Act → World → Prop}
  (h : aAppend P o args ts st K) (hin : In e st a w) : o.wp P a w (Then e K) Q := by
 unfold aAppend at h
 split at h
 ·rename_i t t' x y hts hargs
  obtain rfl : ts = #[t, t'] := by rw [← hts]
  obtain rfl : args = #[x, y] := by rw [← hargs]
  obtain ⟨rfl, h⟩ := h
  split at h
  ·rename_i d hd
   split at h
   ·rename_i el hs
    split at h
    ·rename_i de hde
     obtain ⟨hsz, hdst, h⟩ := h
     split at h
     ·rename_i xs hxs
      obtain ⟨G, be, hx, hr⟩ := hin
      have hy := appV_rep (hr.eval y) hxs
      have nil : ∀ b, a.eval x = .slice b 0 0 → Rep G (.slice de.size []) (a.eval x) → (xs.length * de.bytes ≤ 2 ^ 47 ∧ xs.length ≤ maxLen ∧ ∀ g, st.s.own g = none → K ({ st with s := st.s.setOwn g (some (el, de.size)) }.put o.dst (.own g de.size xs))) → o.wp P a w (Then e K) Q := by
       intro b hb h0 ⟨c1, c2, c3⟩
       obtain ⟨N, hN⟩ := hr.hr.fin
       have hNs := (hN N (Nat.le_refl _)).2
       have hsame : st.s.setOwn N none = st.s := by
        unfold Heap.setOwn
        have : upd st.s.own N none = st.s.own := by funext g; by_cases eg : g = N <;> simp [upd, eg, hNs]
        rw [this]
       refine appendOk ho hd hs hde hsz hdst hx hr h0 hy (by simpa using c1) (by simpa using c2) (g0 := N) (.inr ⟨⟨b, hb⟩, hNs⟩) (fun g hg => ?_)
       rw [hsame, List.nil_append]
       exact c3 g hg
      split at h
      ·rename_i hxv
       have hh := hr.eval x
       rw [hxv] at hh
       have hb : a.eval x = .slice none 0 0 := by
        generalize hq : a.eval x = q at hh
        cases (show Rep G .nil q from hh); rfl
       exact nil none hb (by rw [hb]; exact .slice0 _ _ _) h
      ·rename_i hxv
       have hh := hr.eval x
       rw [hxv] at hh
       obtain ⟨b, hb⟩ : ∃ b, a.eval x = .slice b 0 0 := by
        generalize hq : a.eval x = q at hh
        cases (show Rep G .zcap q from hh); exact ⟨_, rfl⟩
       exact nil b hb (by rw [hb]; exact .slice0 _ _ _) h
      ·rename_i g0 sz es hxv
       obtain ⟨rfl, c1, c2, c3, c4⟩ := h
       have hh := hr.eval x
       rw [hxv] at hh
       have h0 : Rep G (.slice de.size es) (a.eval x) ∧ G.om g0 = some (a.eval x) := by
        generalize a.eval x = q at hh ⊢
        cases (show Rep G (.own g0 de.size es) q from hh) with
        | own _ _ _ _ k1 k2 => exact ⟨k1, k2⟩
       exact appendOk ho hd hs hde hsz hdst hx hr h0.1 hy c2 c3 (g0 := g0) (.inl ⟨c1, h0.2⟩) c4
      ·rename_i v hxv
       unfold aAppendM at h
       split at h
       ·rename_i an n cap
        obtain ⟨i', u, z', hi', hu, hz', h1, h2, h3, h4, h5⟩ := tyOf_some hd
        obtain ⟨ie, ue, z, hie, hue, hze, k1, k2, k3, k4, k5⟩ := tyOf_some hde
        obtain ⟨hzl, hz1⟩ := tyOf_zero hde
        obtain rfl := shape_slice (hs.symm.trans h5)
        have hzs : z.cells.size = ie.size := by rw [← k1, ← hzl, k3]; simp
        have hxe : a.eval x = .slice an n cap := by
         have hh := hr.eval x
         rw [hxv] at hh
         generalize a.eval x = q at hh
         cases (show Rep G (.base (.slice an n cap)) q from hh); rfl
        split at h
        ·rename_i hx0
         obtain rfl : xs = [] := List.eq_nil_of_length_eq_zero hx0
         rcases news_of hr.hr hy with ⟨_, ay, cy, hyv⟩ | ⟨_, _, _, _, hp, _⟩
         ·have hrun := run_append_zero (P := P) (ty := o.type) hu hie an n cap h.1 ay cy w
          unfold Oper.wp
          rw [append_exec ho (by rw [hxe, hyv]; exact hrun)]
          exact ⟨_, h.2, G, be, by rw [put_s]; exact hx, hr.put o.dst (dstOk_lt hdst) (LRep.of_rep (Rep.base _))⟩
         ·simp at hp
        ·rename_i hx0
         obtain ⟨m2, m3, cs, m4, m5⟩ := h
         obtain ⟨b', cap', cs', w', hrun, q1, q2, q3, q4, q5, q6, q7⟩ := appendM_run (P := P) (ty := o.type) hr.hr hu hie hze hzs (by rw [← k3]; exact hz1) (by omega) (by omega) (by rw [← k1]; exact m4) (by rw [← k1]; exact hy) (by rw [← k2]; exact m2) m3
         unfold Oper.wp
         rw [append_exec ho (by rw [hxe]; exact hrun)]
         refine ⟨_, m5 b' cap' cs' q1 (by rw [k1]; exact q2) (by rw [k1]; exact q3) q4 q5, G, be, ?_, ?_⟩
         ·rw [put_s]; exact hx.trans q7
         ·exact (hr.ext q7 q6).put o.dst (dstOk_lt hdst) (LRep.of_rep (Rep.base _))
       ·exact h.elim
      ·exact h.elim
     ·exact h.elim
    ·exact h.elim
   ·exact h.elim
  ·exact h.elim
 ·exact h.elim
/-- **Every operation: what is said of it is so.** -/
theorem aop_sound {e : Entry} {o : Oper} {st : St} {K : St → Prop} {a : Act} {w : World} {Q : Exit → Act → World → Prop} (hQ : PQ e Q) (h : aop P o st K) (hin : In e st a w) : o.wp P a w (Then e K) Q := by
 unfold aop at h
 split at h
 ·rename_i t ho
  split at h
  ·rename_i d hd
   obtain ⟨G, be, hx, hr⟩ := hin
   obtain ⟨i, u, z, hi, hu, hz, e1, e2, e3, e4, e5⟩ := tyOf_some hd
   refine mkBox_sound h hx hr (ccs := z.cells) (by rw [e3]; exact repL_ofCells G _) (by rw [← e3]; exact (tyOf_zero hd).2) ?_
   unfold execOp
   simp [ho, Instr.alloc, zeroValue, typeInfo, hi, hz, newVar, newRow]
  ·exact h.elim
 ·rename_i t x ho
  obtain ⟨hall, h⟩ := h
  obtain ⟨G, be, hx, hr⟩ := hin
  obtain ⟨h1, h2⟩ := cells_rep (hr.eval x) hall
  refine mkBox_sound h hx hr h1 h2 ?_
  unfold execOp
  simp [ho, Instr.box, newVar, newRow]
 ·rename_i t x y ho; exact aStore_sound ho h hin
 ·rename_i t x ho; exact aLoad_sound ho h hin
 ·rename_i f args ts ho; exact aCall_sound ho hQ h hin
 ·rename_i args ts ho; exact aAppend_sound ho h hin
 ·exact aPure_sound h hin
end Go.Am
