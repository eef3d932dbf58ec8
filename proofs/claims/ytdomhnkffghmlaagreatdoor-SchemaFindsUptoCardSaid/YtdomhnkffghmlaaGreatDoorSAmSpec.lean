/- What a function computes, told as a partial function that follows the code: needs, calls, ways, joins, loops; and the walk's steps beside it. -/
import Derived.Test.YtdomhnkffghmlaaGreatDoorS11
import Derived.Test.YtdomhnkffghmlaaGreatDoorS2
set_option linter.unusedVariables false
namespace Go.Am
/-- What must be so, or there is no answer. -/
def need {α : Type} (p : Prop) [Decidable p] (k : Option α) : Option α := if p then k else none
theorem need_some {α : Type} {p : Prop} [Decidable p] {k : Option α} {r : α} (h : need p k = some r) : p ∧ k = some r := by
 unfold need at h
 split at h
 ·exact ⟨by assumption, h⟩
 ·cases h
def call {α β : Type} (x : Option α) (f : α → Option β) : Option β := x.bind f
theorem call_some {α β : Type} {x : Option α} {f : α → Option β} {r : β} (h : call x f = some r) : ∃ y, x = some y ∧ f y = some r := Option.bind_eq_some_iff.1 h
def way {α : Type} (c : Bool) (a b : Option α) : Option α := cond c a b
theorem way_t {α : Type} {c : Bool} {a b : Option α} {r : α} (hc : c = true) (h : way c a b = some r) : a = some r := by subst hc; exact h
theorem way_f {α : Type} {c : Bool} {a b : Option α} {r : α} (hc : c = false) (h : way c a b = some r) : b = some r := by subst hc; exact h
/-- Ways that meet again. -/
def join {X α : Type} (b : (X → Option α) → Option α) (k : X → Option α) : Option α := b k
/-- A loop: its body goes on with the loop. -/
def loopC {X α : Type} (b : (X → Option α) → X → Option α) : Nat → X → Option α
 | 0, _ => none
 | n + 1, q => b (loopC b n) q
def manyC : Nat := 4611686018427387904
variable {P : Program} {Q : Exit → St → Prop} {st : St}
/-- One state says no more than another. -/
def St.to (st st' : St) : Prop := ∀ e a w, In e st a w → In e st' a w
theorem St.le.to {st st' : St} (h : st.le st') : st.to st' := fun _ _ _ hin => hin.weaken h
theorem St.to.trans {a b c : St} (h : a.to b) (h' : b.to c) : a.to c := fun e x w hin => h' e x w (h e x w hin)
theorem AWp.to {c : Code} {st' : St} (hle : st.to st') (h : AWp P c Q st') : AWp P c Q st := fun e a w hin => h e a w (hle e a w hin)
theorem St.to.refl (st : St) : st.to st := fun _ _ _ h => h
/-- Of the state at an end less may be told. -/
theorem AWp.post {c : Code} (h : AWp P c (fun e st => ∃ st', st.to st' ∧ Q e st') st) : AWp P c Q st := fun e a w hin => wp_mono (h e a w hin) fun x a' w' h => h.imp (fun ⟨st1, ⟨st2, hto, hq⟩, hin⟩ => ⟨st2, hq, hto _ _ _ hin⟩) id
/-- The end of a way: the state is one of a family, the rest has an answer. -/
def Ends {X G α : Type} (k : X → Option α) (r : α) (F : G → Prop) (T : X → G → St) (st' : St) : Prop := ∃ q, k q = some r ∧ ∃ g, F g ∧ st'.to (T q g)
theorem AWp.joinS {X G α : Type} {x y : Code} {b : (X → Option α) → Option α} {k : X → Option α} {r : α} (h : join b k = some r) (F : G → Prop) (T : X → G → St)
  (hx : ∀ k' : X → Option α, b k' = some r → AWp P x (thenQ (Ends k' r F T) Q) st)
  (hy : ∀ q, k q = some r → ∀ g, F g → AWp P y Q (T q g)) : AWp P (.seq x y) Q st :=
 AWp.seq ((hx k h).mono fun e st' h => by
  cases e <;> first | exact h | skip
  obtain ⟨q, hq, g, hg, hle⟩ := h
  exact (hy q hq g hg).to hle)
theorem AWp.loopS {X G α : Type} {c : Code} {b : (X → Option α) → X → Option α} {n : Nat} {q0 : X} {r : α} (h : loopC b n q0 = some r) (F : G → Prop) (T : X → G → St)
  (h0 : ∃ g, F g ∧ st.to (T q0 g))
  (round : ∀ (k : X → Option α) q, b k q = some r → ∀ g, F g → AWp P c (thenQ (Ends k r F T) Q) (T q g)) : AWp P (.loop c) Q st := by
 refine AWp.loop (fun m st => ∃ q, loopC b m q = some r ∧ ∃ g, F g ∧ st.to (T q g)) n ⟨q0, h, h0⟩ ?_
 rintro m st1 ⟨q, hq, g, hg, hle⟩
 cases m with
 | zero => cases hq
 | succ m =>
  refine (AWp.to hle (round (loopC b m) q hq g hg)).mono fun e st' h => ?_
  cases e <;> first | exact h | skip
  obtain ⟨q', hq', g', hg', hle'⟩ := h
  exact ⟨m, Nat.lt_succ_self m, q', hq', g', hg', hle'⟩
theorem AWp.wayS {α : Type} {c : Operand} {x y : Code} {b : Bool} {A B : Option α} {r : α} (h : way b A B = some r) (hc : st.eval c = .base (.bool b)) (h1 : b = true → A = some r → AWp P x Q st) (h2 : b = false → B = some r → AWp P y Q st) : AWp P (.cond c x y) Q st :=
 AWp.cond hc (fun hb => h1 hb (way_t hb h)) fun hb => h2 hb (way_f hb h)
theorem app_ok {n b : Nat} (h : n * b ≤ 140737488355328) (hb : 1 ≤ b) : n ≤ maxLen := by
 have : n * 1 ≤ n * b := Nat.mul_le_mul_left n hb
 unfold maxLen; omega
theorem ACalls.go {f : FuncId} {args : List V} {s s0 : Heap} {v : V} {PP : Value → Heap → Prop} {R : V → Heap → Prop} (h : ACalls P f args s fun v' s' => v' = v ∧ s' = s0) (hr : R v s0) : ACallsP P f args s PP R := (h.mono fun v' s' h => by rw [h.1, h.2]; exact hr).toP
/-- An element by its place, as plain data. -/
theorem getD_enc {α : Type} (f : α → List V) (z : α) {l : List α} {n : Int} (h : 0 ≤ n ∧ n < ((l.length : Nat) : Int)) : (l.map f).getD n.toNat [] = f (l.getD n.toNat z) := by
 have : n.toNat < l.length := by omega
 simp [List.getD_eq_getElem?_getD, this]
/-- The heap with own slices in it, one behind the other. -/
def owns (s : Heap) : List (Nat × (TypeId × Nat)) → Heap
 | [] => s
 | (g, x) :: l => owns (s.setOwn g (some x)) l
/-- New keys, each another. -/
def Fr (s : Heap) (l : List Nat) : Prop := (∀ g ∈ l, s.own g = none) ∧ l.Nodup
theorem owns_box (l : List (Nat × (TypeId × Nat))) : ∀ s : Heap, (owns s l).box = s.box := by
 induction l with
 | nil => intro s; rfl
 | cons x l ih => intro s; obtain ⟨g, x⟩ := x; rw [owns, ih]; rfl
theorem owns_out {g : Nat} (l : List (Nat × (TypeId × Nat))) : ∀ s : Heap, g ∉ l.map Prod.fst → (owns s l).own g = s.own g := by
 induction l with
 | nil => intro s _; rfl
 | cons x l ih =>
  intro s h
  obtain ⟨k, x⟩ := x
  simp only [List.map_cons, List.mem_cons, not_or] at h
  rw [owns, ih _ h.2]
  exact upd_other _ _ _ _ h.1
theorem owns_at {g : Nat} {x : TypeId × Nat} (l : List (Nat × (TypeId × Nat))) : ∀ s : Heap, (l.map Prod.fst).Nodup → (g, x) ∈ l → (owns s l).own g = some x := by
 induction l with
 | nil => intro s _ h; cases h
 | cons y l ih =>
  intro s hn h
  obtain ⟨k, y⟩ := y
  simp only [List.map_cons, List.nodup_cons] at hn
  rcases List.mem_cons.1 h with e | h
  ·cases e
   rw [owns, owns_out _ _ hn.1]
   exact upd_same _ _ _
  ·rw [owns]; exact ih _ hn.2 h
theorem Fr.nil (s : Heap) : Fr s [] := ⟨(fun g h => by cases h), List.nodup_nil⟩
theorem Fr.out {s : Heap} {l : List (Nat × (TypeId × Nat))} (h : Fr s (l.map Prod.fst)) {g : Nat} (hg : (owns s l).own g = none) : g ∉ l.map Prod.fst ∧ s.own g = none := by
 have hn : g ∉ l.map Prod.fst := fun hm => by
  obtain ⟨⟨k, x⟩, hx, e⟩ := List.mem_map.1 hm
  simp only at e; subst e
  rw [owns_at l s h.2 hx] at hg; cases hg
 exact ⟨hn, by rwa [owns_out l s hn] at hg⟩
theorem Fr.snoc {s : Heap} {l : List (Nat × (TypeId × Nat))} (h : Fr s (l.map Prod.fst)) {g : Nat} (hg : (owns s l).own g = none) : Fr s (l.map Prod.fst ++ [g]) := by
 obtain ⟨h1, h2⟩ := h.out hg
 refine ⟨fun k hk => ?_, ?_⟩
 ·rcases List.mem_append.1 hk with hk | hk
  ·exact h.1 k hk
  ·rw [List.mem_singleton.1 hk]; exact h2
 ·rw [List.nodup_append]
  exact ⟨h.2, by simp, fun a ha b hb e => h1 (by rw [← List.mem_singleton.1 hb, ← e]; exact ha)⟩
theorem Fr.drop {s : Heap} {l : List (Nat × (TypeId × Nat))} (h : Fr s (l.map Prod.fst)) : (owns s l).le s :=
 ⟨fun b => .inl (by rw [owns_box]), fun g => by
  by_cases e : g ∈ l.map Prod.fst
  ·exact .inr (h.1 g e)
  ·exact .inl (owns_out l s e).symm⟩
/-- A key is taken by another. -/
theorem Fr.rep {s : Heap} {a b : List (Nat × (TypeId × Nat))} {g0 : Nat} {x : TypeId × Nat} (h : Fr s ((a ++ (g0, x) :: b).map Prod.fst)) {g : Nat} (hg : (owns s (a ++ (g0, x) :: b)).own g = none) : Fr s ((a ++ (g, x) :: b).map Prod.fst) := by
 obtain ⟨h1, h2⟩ := h.out hg
 simp only [List.map_append, List.map_cons, List.mem_append, List.mem_cons, not_or] at h1
 obtain ⟨ha, he, hb⟩ := h1
 obtain ⟨hs, hn⟩ := h
 simp only [List.map_append, List.map_cons] at hs hn ⊢
 rw [List.nodup_append, List.nodup_cons] at hn
 refine ⟨fun k hk => ?_, ?_⟩
 ·rcases List.mem_append.1 hk with hk | hk
  ·exact hs k (List.mem_append.2 (.inl hk))
  ·rcases List.mem_cons.1 hk with rfl | hk
   ·exact h2
   ·exact hs k (List.mem_append.2 (.inr (List.mem_cons_of_mem _ hk)))
 ·rw [List.nodup_append, List.nodup_cons]
  refine ⟨hn.1, ⟨hb, hn.2.1.2⟩, fun p hp q hq e => ?_⟩
  rcases List.mem_cons.1 hq with rfl | hq
  ·exact ha (e ▸ hp)
  ·exact hn.2.2 p hp q (List.mem_cons_of_mem _ hq) e
theorem Fr.repLe {s : Heap} {a b : List (Nat × (TypeId × Nat))} {g0 : Nat} {x : TypeId × Nat} (h : Fr s ((a ++ (g0, x) :: b).map Prod.fst)) {g : Nat} (hg : (owns s (a ++ (g0, x) :: b)).own g = none) :
  (((owns s (a ++ (g0, x) :: b)).setOwn g0 none).setOwn g (some x)).le (owns s (a ++ (g, x) :: b)) := by
 have h' := h.rep hg
 obtain ⟨h1, h2⟩ := h.out hg
 refine ⟨fun k => .inl ?_, fun k => ?_⟩
 ·rw [owns_box]; show s.box k = (owns s _).box k; rw [owns_box]
 ·by_cases e1 : k = g
  ·subst e1
   refine .inl ?_
   rw [owns_at (x := x) _ s h'.2 (List.mem_append.2 (.inr (List.mem_cons_self ..)))]
   exact (upd_same _ _ _).symm
  ·by_cases e2 : k = g0
   ·subst e2
    refine .inr ?_
    have hk : k ∉ (a ++ (g, x) :: b).map Prod.fst := by
     have hn := h.2
     simp only [List.map_append, List.map_cons] at hn ⊢
     rw [List.nodup_append, List.nodup_cons] at hn
     intro hm
     rcases List.mem_append.1 hm with hm | hm
     ·exact hn.2.2 k hm k (by simp) rfl
     ·rcases List.mem_cons.1 hm with e | hm
      ·exact e1 e
      ·exact hn.2.1.1 hm
    rw [owns_out _ s hk]
    exact h.1 k (by simp)
   ·refine .inl ?_
    have e3 : (((owns s (a ++ (g0, x) :: b)).setOwn g0 none).setOwn g (some x)).own k = (owns s (a ++ (g0, x) :: b)).own k := by
     simp only [Heap.setOwn, upd_other _ _ _ _ e1, upd_other _ _ _ _ e2]
    rw [e3]
    by_cases hm : k ∈ (a ++ (g0, x) :: b).map Prod.fst
    ·obtain ⟨⟨k', y⟩, hy, e⟩ := List.mem_map.1 hm
     simp only at e; subst e
     rw [owns_at _ s h.2 hy, owns_at _ s h'.2 (x := y)]
     rcases List.mem_append.1 hy with hy | hy
     ·exact List.mem_append.2 (.inl hy)
     ·rcases List.mem_cons.1 hy with e | hy
      ·cases e; exact absurd rfl e2
      ·exact List.mem_append.2 (.inr (List.mem_cons_of_mem _ hy))
    ·rw [owns_out _ s hm, owns_out _ s]
     simp only [List.map_append, List.map_cons, List.mem_append, List.mem_cons, not_or] at hm ⊢
     exact ⟨hm.1, e1, hm.2.2⟩
theorem owns_append (b : List (Nat × (TypeId × Nat))) : ∀ (a : List (Nat × (TypeId × Nat))) (s : Heap), owns s (a ++ b) = owns (owns s a) b
 | [], s => rfl
 | (g, x) :: a, s => owns_append b a (s.setOwn g (some x))
/-- The last keys are let go. -/
theorem Fr.cut {s : Heap} {a b : List (Nat × (TypeId × Nat))} (h : Fr s ((a ++ b).map Prod.fst)) : Fr s (a.map Prod.fst) ∧ (owns s (a ++ b)).le (owns s a) := by
 obtain ⟨h1, h2⟩ := h
 rw [List.map_append] at h1 h2
 rw [List.nodup_append] at h2
 refine ⟨⟨fun g hg => h1 g (List.mem_append.2 (.inl hg)), h2.1⟩, ⟨fun k => .inl (by rw [owns_box, owns_box]), fun k => ?_⟩⟩
 rw [owns_append]
 by_cases e : k ∈ b.map Prod.fst
 ·refine .inr ?_
  rw [owns_out a s fun ha => h2.2.2 k ha k e rfl]
  exact h1 k (List.mem_append.2 (.inr e))
 ·exact .inl (owns_out b _ e).symm
theorem AWp.heapLe {c : Code} {s' : Heap} (h : st.s.le s') (hc : AWp P c Q { st with s := s' }) : AWp P c Q st :=
 AWp.weaken (st' := { st with s := s' }) ⟨fun t => .inl rfl, fun t => .inl rfl, h.box, h.own, rfl, rfl, Ghost.Le.refl _, rfl⟩ hc
theorem St.to.heapLe {st' : St} {s' : Heap} (h : st.s.le s') (hc : St.to { st with s := s' } st') : st.to st' :=
 St.to.trans (b := { st with s := s' }) (St.le.to ⟨fun t => .inl rfl, fun t => .inl rfl, h.box, h.own, rfl, rfl, Ghost.Le.refl _, rfl⟩) hc
theorem mapDrop {α β : Type} {f : α → β} {l : List α} {n : Nat} : (l.map f).drop n = (l.drop n).map f := List.map_drop.symm
theorem mapTake {α β : Type} {f : α → β} {l : List α} {n : Nat} : (l.map f).take n = (l.take n).map f := List.map_take.symm
theorem mapAppend {α β : Type} {f : α → β} {l m : List α} : l.map f ++ m.map f = (l ++ m).map f := List.map_append.symm
theorem snocI {k : IntKind} {l : List Int} {x : Int} : l.map (fun x => [V.base (.int k x)]) ++ [[V.base (.int k x)]] = (l ++ [x]).map (fun x => [V.base (.int k x)]) := by rw [List.map_append]; rfl
theorem snocS {l : List ByteArray} {x : ByteArray} : l.map (fun x => [V.base (.string x)]) ++ [[V.base (.string x)]] = (l ++ [x]).map (fun x => [V.base (.string x)]) := by rw [List.map_append]; rfl
theorem snocB {l : List Bool} {x : Bool} : l.map (fun x => [V.base (.bool x)]) ++ [[V.base (.bool x)]] = (l ++ [x]).map (fun x => [V.base (.bool x)]) := by rw [List.map_append]; rfl
theorem snocL {α : Type} {f : α → List V} {sz : Nat} {l : List (List α)} {x : List α} : l.map (fun x => [V.slice sz (x.map f)]) ++ [[V.slice sz (x.map f)]] = (l ++ [x]).map (fun x => [V.slice sz (x.map f)]) := by rw [List.map_append]; rfl
/-- Numbers as bytes. -/
def toBytes (l : List Int) : List UInt8 := l.map fun x => UInt8.ofNat x.toNat
def bytesOk (l : List Int) : Bool := l.all fun x => decide (0 ≤ x ∧ x < 256)
theorem bytes_enc {l : List Int} (h : bytesOk l = true) : l.map (fun x => [V.base (.int .u8 x)]) = (toBytes l).map encB := by
 unfold toBytes
 rw [List.map_map]
 refine List.map_congr_left fun x hx => ?_
 have := of_decide_eq_true (List.all_eq_true.1 h x hx)
 have e : ((UInt8.ofNat x.toNat).toNat : Int) = x := by
  rw [UInt8.toNat_ofNat']; omega
 show _ = [V.base (.int .u8 ((UInt8.ofNat x.toNat).toNat : Int))]
 rw [e]
theorem isT {p : Prop} (h : p) : p = True := eq_true h
end Go.Am
