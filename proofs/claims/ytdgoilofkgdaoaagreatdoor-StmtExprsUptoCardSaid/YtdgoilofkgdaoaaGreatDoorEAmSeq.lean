/- A range over a list's values: what a sequence yields, and its rounds told as a partial function. -/
import Derived.Test.YtdgoilofkgdaoaaGreatDoorE9
import Derived.Test.YtdgoilofkgdaoaaGreatDoorE8
set_option linter.unusedVariables false
set_option linter.unusedSimpArgs false
namespace Go.Am
variable {P : Program}
/-- Rounds over a list. -/
def foldC {X α : Type} (b : X → α → Option X) : List α → X → Option X
 | [], q => some q
 | x :: l, q => match b q x with
  | some q' => foldC b l q'
  | none => none
/-- A sequence that yields a list's members one by one. -/
def SeqOk (P : Program) {α : Type} (f : FuncId) (caps : List V) (enc : α → V) (xs : List α) : Prop :=
 ∀ (lo : Ghost) (l : Nat) (s : Heap) (Hs : List α → Heap → Prop), Hs [] s → (∀ pre x s, Hs pre s → (∃ suf, xs = pre ++ x :: suf) → YieldOk P lo l [enc x] s fun v s' => v = .base (.bool true) ∧ Hs (pre ++ [x]) s') →
  ACallsO P lo f ([yieldV l] ++ caps) s fun _ s' => Hs xs s'
/-- A tree of orders, step by step: what follows stays behind a name. -/
def aopsOK (P : Program) (all : Array Oper) (t : OT) (K : St → Prop) : St → Prop := fun st => aopsO P all t st K
theorem aopsO_op {all : Array Oper} {i : Nat} {t : OT} {st : St} {K : St → Prop} : aopsO P all (.op i t) st K = match all[i]? with
  | some o => gstep P all o st (aopsOK P all t K)
  | none => False := rfl
theorem aopsOK_eq {all : Array Oper} {t : OT} {st : St} {K : St → Prop} : aopsOK P all t K st = aopsO P all t st K := rfl
theorem aopsO_fin {all : Array Oper} {st : St} {K : St → Prop} : aopsO P all .fin st K = K st := rfl
theorem aopsO_both {all : Array Oper} {a b : OT} {st : St} {K : St → Prop} (h1 : aopsO P all a st K) (h2 : aopsO P all b st K) : aopsO P all (.both a b) st K := ⟨h1, h2⟩
/-- One round, from one heap to another. -/
def RoundOne (P : Program) (E : Nat → V) (n p : Nat) (v : V) (s s1 : Heap) (opsA opsB : Array Oper) (dB : Option OT) : Prop :=
 ∀ K1 : St → Prop,
  (∀ st1 t5 cs ty, st1.loc = upd (fun _ => none) t5 (some (cs, ty)) → st1.ds = [] → st1.lo = Ghost.bot →
   (∀ b, st1.s.box b = none → ∀ K2 : St → Prop, (∀ st2, st2.s.le s1 → K2 st2) → rops P dB opsB (st1.publish t5 b (cs, ty)) K2) → K1 st1) →
  aops P opsA opsA.toList { E := upd E p v, loc := fun _ => none, s := s, n := n } K1
/-- A range over such a sequence. -/
theorem AWp.rangeS {X α : Type} {Q : Exit → St → Prop} {st : St} {tf p ida ib idb : Nat} {opsA opsB : Array Oper} {f : FuncId} {caps : List V} {enc : α → V} {xs : List α} (hseq : SeqOk P f caps enc xs)
  {b : X → α → Option X} {q0 q1 : X} (h : foldC b xs q0 = some q1) (T : X → Heap) (dB : Option OT) (hs : st.s = T q0)
  (hE : st.E tf = .func f [] caps) (hloc : st.loc = fun _ => none) (hp : p < st.n) (hA : noDefer opsA = true) (hB : noDefer opsB = true)
  (round : ∀ x q q', b q x = some q' → RoundOne P st.E st.n p (enc x) (T q) (T q') opsA opsB dB)
  (hrest : ∀ D, Q .normal { E := st.E, loc := fun _ => none, s := T q1, n := st.n, ds := mark D :: st.ds, lo := st.lo, pp := st.pp }) :
  AWp P (.rangeFunc (.tmp tf) #[p] (.region ida opsA false) (.block ib (.region idb opsB dB.isSome))) Q st := by
 have step : ∀ (pre : List α) (x : α) (suf : List α) (q : X), xs = pre ++ x :: suf → foldC b (x :: suf) q = some q1 → ∃ q', b q x = some q' ∧ foldC b suf q' = some q1 := fun pre x suf q _ h => by
  simp only [foldC] at h
  cases hx : b q x with
  | none => rw [hx] at h; cases h
  | some q' => rw [hx] at h; exact ⟨q', rfl, h⟩
 refine AWp.rangeFunc enc (fun pre s => ∃ q, s = T q ∧ ∀ suf, xs = pre ++ suf → foldC b suf q = some q1) (fun l => l = xs) (fun pre x => ∃ suf, xs = pre ++ x :: suf) hE hloc hp hA hB ?_ ?_ ?_
 ·rintro pre x s ⟨q, rfl, hq⟩ ⟨suf, hx⟩ K1 hK1
  obtain ⟨q', hb, hr⟩ := step pre x suf q hx (hq _ hx)
  refine round x q q' hb K1 fun st1 t5 cs ty h1 h2 h3 h4 => hK1 st1 t5 cs ty h1 h2 h3 fun b' hb' K2 hK2 => h4 b' hb' K2 fun st2 hle => hK2 st2 _ hle ⟨q', rfl, fun suf' hx' => ?_⟩
  have e : suf' = suf := by
   rw [hx'] at hx
   simpa using hx
  rw [e]; exact hr
 ·intro lo l hy
  have h' := hseq lo l st.s _ ⟨q0, hs, fun suf hx => by
   simp only [List.nil_append] at hx; rw [← hx]; exact h⟩ hy
  refine ⟨h'.1, fun G w cargs g1 g2 g3 => (h'.2 G w cargs g1 g2 g3).mono ?_⟩
  rintro e w' ⟨G', s', v, cv, k1, k2, k3, k4, k5⟩
  exact ⟨G', s', v, cv, k1, k2, k3, k4, xs, rfl, k5⟩
 ·rintro l s' D rfl ⟨q, rfl, hq⟩
  have := hq [] (by simp)
  simp only [foldC, Option.some.injEq] at this
  subst this
  exact hrest D
/-- A state with marks of ranges. -/
def tstD (D : List Deferred) (L : List (Nat × V)) (B : List (Nat × (List V × TypeId))) (s : Heap) (n : Nat) : St := { E := env L, loc := locs B, s := s, n := n, ds := D }
theorem le_tstD {D : List Deferred} {L : List (Nat × V)} {B : List (Nat × (List V × TypeId))} {s : Heap} {n : Nat} {st : St} (h1 : leE L st.E) (h2 : okL B L) (h3 : leB B st.loc) (h4 : st.s.le s) (h5 : n = st.n) (h6 : st.ds = D := by rfl) (h7 : st.pp = noPan := by rfl) : st.le (tstD D L B s n) where
 E := env_le h1
 loc := fun t => (locs_le h3 t).imp id fun e => ⟨e, fun t' off h => okL_env h2 t' t off h e⟩
 box := h4.box
 own := h4.own
 n := h5
 ds := h6.symm
 lo := Ghost.none_le _
 pp := h7.symm
/-- Heap boxes. -/
theorem setBox_same {h : Heap} {b : Nat} {x : List V × TypeId} : (h.setBox b x).box b = some x := upd_same _ _ _
theorem setBox_ne {h : Heap} {b b' : Nat} {x : List V × TypeId} (hb : b' ≠ b) : (h.setBox b x).box b' = h.box b' := upd_other _ _ _ _ hb
theorem setBox_own {h : Heap} {b : Nat} {x : List V × TypeId} {g : Nat} : (h.setBox b x).own g = h.own g := rfl
theorem setBox_set {h : Heap} {b : Nat} {x y : List V × TypeId} : (h.setBox b x).setBox b y = h.setBox b y := by
 unfold Heap.setBox
 congr 1
 funext k
 simp only [upd]
 split <;> rfl
theorem setBox_self {h : Heap} {b : Nat} {x : List V × TypeId} (hb : h.box b = some x) : h.setBox b x = h := by
 unfold Heap.setBox
 cases h with
 | mk box own =>
  congr 1
  funext k
  simp only [upd]
  split
  ·rename_i e; subst e; exact hb.symm
  ·rfl
theorem Heap.le.bx {a b : Heap} (h : a.le b) (k : Nat) (x : List V × TypeId) : (a.setBox k x).le (b.setBox k x) :=
 ⟨fun j => by
  by_cases e : j = k
  ·subst e; exact .inl (by rw [setBox_same, setBox_same])
  ·rw [setBox_ne e, setBox_ne e]; exact h.box j, h.own⟩
theorem Heap.le.dropBox {a : Heap} {k : Nat} (h : a.box k = none) (x : List V × TypeId) : (a.setBox k x).le a :=
 ⟨fun j => by
  by_cases e : j = k
  ·subst e; exact .inr h
  ·exact .inl (setBox_ne e).symm, fun _ => .inl rfl⟩
/-- A call that bears a box along. -/
def Gives1 (P : Program) (f : FuncId) (a : Nat → List V) (v : V) (X X' : List V × TypeId) : Prop := ∀ s b, s.box b = some X → ACalls P f (a b) s fun v' s' => v' = v ∧ s' = s.setBox b X'
def Gives2 (P : Program) (f : FuncId) (a : Nat → Nat → List V) (v : V) (X Y X' Y' : List V × TypeId) : Prop := ∀ s b c, b ≠ c → s.box b = some X → s.box c = some Y → ACalls P f (a b c) s fun v' s' => v' = v ∧ s' = (s.setBox b X').setBox c Y'
def WkLL : List (List V) → List (List V) → Prop
 | [], [] => True
 | c :: l, c' :: l' => WkL c c' ∧ WkLL l l'
 | _, _ => False
theorem WkL.len : ∀ {l l' : List V}, WkL l l' → l.length = l'.length
 | [], [], _ => rfl
 | [], _ :: _, h => h.elim
 | _ :: _, [], h => h.elim
 | _ :: l, _ :: l', h => by simp [WkL.len h.2]
theorem WkL.get : ∀ {l l' : List V}, WkL l l' → ∀ {j : Nat} {c' : V}, l'[j]? = some c' → ∃ c, l[j]? = some c ∧ Wk c c'
 | [], [], _, j, c', e => by simp at e
 | [], _ :: _, h, _, _, _ => h.elim
 | _ :: _, [], h, _, _, _ => h.elim
 | x :: l, x' :: l', h, 0, c', e => by simp at e; subst e; exact ⟨x, rfl, h.1⟩
 | x :: l, x' :: l', h, j + 1, c', e => by simpa using WkL.get h.2 (by simpa using e)
theorem WkLL.len : ∀ {l l' : List (List V)}, WkLL l l' → l.length = l'.length
 | [], [], _ => rfl
 | [], _ :: _, h => h.elim
 | _ :: _, [], h => h.elim
 | _ :: l, _ :: l', h => by simp [WkLL.len h.2]
theorem WkLL.get : ∀ {l l' : List (List V)}, WkLL l l' → ∀ {j : Nat} {c' : List V}, l'[j]? = some c' → ∃ c, l[j]? = some c ∧ WkL c c'
 | [], [], _, j, c', e => by simp at e
 | [], _ :: _, h, _, _, _ => h.elim
 | _ :: _, [], h, _, _, _ => h.elim
 | x :: l, x' :: l', h, 0, c', e => by simp at e; subst e; exact ⟨x, rfl, h.1⟩
 | x :: l, x' :: l', h, j + 1, c', e => by simpa using WkLL.get h.2 (by simpa using e)
theorem Wk.slice {sz : Nat} {es es' : List (List V)} (h : WkLL es es') : Wk (.slice sz es) (.slice sz es') := fun G v hv => by
 have hl := h.len
 cases hv with
 | slice0 _ a cap =>
  obtain rfl : es' = [] := List.eq_nil_of_length_eq_zero (by simpa using hl.symm)
  exact .slice0 sz a cap
 | slice _ _ b o cap cells h1 h2 h3 h4 h5 h6 =>
  rw [hl]
  refine .slice sz es' b o cap cells (fun cs hcs => ?_) (by omega) h3 (fun k hk => h4 k (by rw [hl]; exact hk)) (fun i j cs c hi hj => ?_) (fun k hk => h6 k (by rw [hl]; exact hk))
  ·obtain ⟨i, hi, e⟩ := List.mem_iff_getElem.1 hcs
   obtain ⟨c, hc, hw⟩ := h.get (List.getElem?_eq_some_iff.2 ⟨hi, e⟩)
   rw [← hw.len]
   exact h1 c (List.mem_of_getElem? hc)
  ·obtain ⟨c0, hc0, hw⟩ := h.get hi
   obtain ⟨d, hd, hwd⟩ := hw.get hj
   exact hwd G _ (h5 i j c0 d hc0 hd)
/-- A call that hands back a slice of its own, which may still grow. -/
def GivesOwn (P : Program) (f : FuncId) (args : List V) (e : TypeId) (sz : Nat) (es : List (List V)) : Prop := ∀ s, ACalls P f args s fun v' s' => ∃ g, s.own g = none ∧ v' = .own g sz es ∧ s' = s.setOwn g (some (e, sz))
theorem ACalls.goOwn {f : FuncId} {args : List V} {s : Heap} {e : TypeId} {sz : Nat} {es : List (List V)} {R : V → Heap → Prop} (h : ACalls P f args s fun v' s' => ∃ g, s.own g = none ∧ v' = .own g sz es ∧ s' = s.setOwn g (some (e, sz))) {PP : Value → Heap → Prop} (hr : ∀ g, s.own g = none → R (.own g sz es) (s.setOwn g (some (e, sz)))) : ACallsP P f args s PP R :=
 (h.mono fun v' s' ⟨g, hg, hv, hs⟩ => by rw [hv, hs]; exact hr g hg).toP
/-- Some of the keys, in whatever order. -/
theorem Fr.sub {s : Heap} {l l' : List (Nat × (TypeId × Nat))} (h : Fr s (l.map Prod.fst)) (hs : ∀ x ∈ l', x ∈ l) (hn : (l'.map Prod.fst).Nodup) : Fr s (l'.map Prod.fst) ∧ (owns s l).le (owns s l') := by
 have hf : Fr s (l'.map Prod.fst) := ⟨fun g hg => by
  obtain ⟨x, hx, rfl⟩ := List.mem_map.1 hg
  exact h.1 _ (List.mem_map.2 ⟨x, hs x hx, rfl⟩), hn⟩
 refine ⟨hf, ⟨fun k => .inl (by rw [owns_box, owns_box]), fun k => ?_⟩⟩
 by_cases e : k ∈ l'.map Prod.fst
 ·obtain ⟨⟨k', x⟩, hx, e'⟩ := List.mem_map.1 e
  simp only at e'; subst e'
  exact .inl (by rw [owns_at l' s hn hx, owns_at l s h.2 (hs _ hx)])
 ·rw [owns_out l' s e]
  by_cases e2 : k ∈ l.map Prod.fst
  ·exact .inr (h.1 k e2)
  ·exact .inl (owns_out l s e2).symm
theorem wrap_id {n : Int} (h1 : -2^63 ≤ n) (h2 : n < 2^63) : IntKind.i64.wrap n = n := by
 simp only [IntKind.wrap, IntKind.bits, IntKind.signed]; simp; omega
theorem maxLen_lt : maxLen < 2 ^ 63 := by unfold maxLen; omega
/-- A state where some objects are known. -/
def tstO (lo : Ghost) (L : List (Nat × V)) (B : List (Nat × (List V × TypeId))) (s : Heap) (n : Nat) : St := { E := env L, loc := locs B, s := s, n := n, lo := lo }
theorem le_tstO {lo : Ghost} {L : List (Nat × V)} {B : List (Nat × (List V × TypeId))} {s : Heap} {n : Nat} {st : St} (h1 : leE L st.E) (h2 : okL B L) (h3 : leB B st.loc) (h4 : st.s.le s) (h5 : n = st.n) (h6 : st.ds = [] := by rfl) (h7 : lo = st.lo := by rfl) (h8 : st.pp = noPan := by rfl) : st.le (tstO lo L B s n) where
 E := env_le h1
 loc := fun t => (locs_le h3 t).imp id fun e => ⟨e, fun t' off h => okL_env h2 t' t off h e⟩
 box := h4.box
 own := h4.own
 n := h5
 ds := h6.symm
 lo := h7 ▸ Ghost.Le.refl _
 pp := h8.symm
end Go.Am
