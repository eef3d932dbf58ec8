/- What a walk in abstract values is written with: states by lists, cuts, loops by a family of states. -/
import Derived.Test.YtdomhnkffghmlaaGreatDoorSAmCode
set_option linter.unusedVariables false
namespace Go.Am
variable {P : Program} {Q : Exit → St → Prop} {st : St}
def env : List (Nat × V) → Nat → V
  | [] => fun _ => .any
  | (t, v) :: r => upd (env r) t v
def locs : List (Nat × (List V × TypeId)) → Nat → Option (List V × TypeId)
  | [] => fun _ => none
  | (t, x) :: r => upd (locs r) t (some x)
def tst (L : List (Nat × V)) (B : List (Nat × (List V × TypeId))) (s : Heap) (n : Nat) : St := { E := env L, loc := locs B, s := s, n := n }
def leE : List (Nat × V) → (Nat → V) → Prop
  | [], _ => True
  | (k, v) :: r, g => v = g k ∧ leE r g
def leB : List (Nat × (List V × TypeId)) → (Nat → Option (List V × TypeId)) → Prop
  | [], _ => True
  | (k, x) :: r, g => g k = some x ∧ leB r g
def keyIn (b : Nat) : List (Nat × (List V × TypeId)) → Bool
  | [] => false
  | (k, _) :: r => b == k || keyIn b r
def okL (B : List (Nat × (List V × TypeId))) : List (Nat × V) → Prop
  | [] => True
  | (_, v) :: r => (match v with | .loc b _ => keyIn b B = true | _ => True) ∧ okL B r
theorem env_le {g : Nat → V} : ∀ {L : List (Nat × V)}, leE L g → ∀ t, env L t = g t ∨ env L t = .any
  | [], _, t => .inr rfl
  | (k, v) :: r, ⟨h1, h2⟩, t => by
    by_cases e : t = k
    · subst e; exact .inl (by simp only [env, upd_same]; exact h1)
    · simp only [env, upd_other _ _ _ _ e]; exact env_le h2 t
theorem locs_le {g : Nat → Option (List V × TypeId)} : ∀ {B : List (Nat × (List V × TypeId))}, leB B g → ∀ t, locs B t = g t ∨ locs B t = none
  | [], _, t => .inr rfl
  | (k, v) :: r, ⟨h1, h2⟩, t => by
    by_cases e : t = k
    · subst e; exact .inl (by simp only [locs, upd_same]; exact h1.symm)
    · simp only [locs, upd_other _ _ _ _ e]; exact locs_le h2 t
theorem keyIn_locs {b : Nat} : ∀ {B : List (Nat × (List V × TypeId))}, keyIn b B = true → locs B b ≠ none
  | [], h => by simp [keyIn] at h
  | (k, v) :: r, h => by
    by_cases e : b = k
    · subst e; simp [locs, upd]
    · simp only [locs, upd_other _ _ _ _ e]; exact keyIn_locs (by simpa [keyIn, e] using h)
theorem okL_env {B : List (Nat × (List V × TypeId))} : ∀ {L : List (Nat × V)}, okL B L → ∀ t b off, env L t = .loc b off → locs B b ≠ none
  | [], _, t, b, off, h => by simp [env] at h
  | (k, v) :: r, ⟨h1, h2⟩, t, b, off, h => by
    by_cases e : t = k
    · subst e
      simp only [env, upd_same] at h
      subst h
      exact keyIn_locs h1
    · simp only [env, upd_other _ _ _ _ e] at h; exact okL_env h2 t b off h
theorem le_tst {L : List (Nat × V)} {B : List (Nat × (List V × TypeId))} {s : Heap} {n : Nat} (h1 : leE L st.E) (h2 : okL B L) (h3 : leB B st.loc) (h4 : st.s.le s) (h5 : n = st.n) (h6 : st.ds = [] := by rfl) (h7 : st.pp = noPan := by rfl) : st.le (tst L B s n) where
  E := env_le h1
  loc := fun t => (locs_le h3 t).imp id fun e => ⟨e, fun t' off h => okL_env h2 t' t off h e⟩
  box := h4.box
  own := h4.own
  n := h5
  ds := h6.symm
  lo := Ghost.none_le _
  pp := h7.symm
/-- A state from which a panic may leave. -/
def tstP (pp : Value → Heap → Prop) (L : List (Nat × V)) (B : List (Nat × (List V × TypeId))) (s : Heap) (n : Nat) : St := { E := env L, loc := locs B, s := s, n := n, pp := pp }
theorem Heap.le.trans {a b c : Heap} (h : a.le b) (h' : b.le c) : a.le c :=
  ⟨fun k => by rcases h'.box k with e | e; · rw [e]; exact h.box k
               · exact .inr e,
   fun k => by rcases h'.own k with e | e; · rw [e]; exact h.own k
               · exact .inr e⟩
theorem Heap.le.none_box {a b : Heap} (h : a.le b) {g : Nat} (hg : a.box g = none) : b.box g = none := by
  rcases h.box g with e | e
  · rw [e]; exact hg
  · exact e
/-- A key that the smaller heap does not tell of. -/
theorem Heap.le.setOwn {a b : Heap} (h : a.le b) {g : Nat} (hg : b.own g = none) (x : Option (TypeId × Nat)) : (a.setOwn g x).le b :=
  ⟨h.box, fun k => by
    by_cases e : k = g
    · subst e; exact .inr hg
    · simp only [Heap.setOwn, upd_other _ _ _ _ e]; exact h.own k⟩
theorem Heap.le.setBox {a b : Heap} (h : a.le b) {g : Nat} (hg : b.box g = none) (x : List V × TypeId) : (a.setBox g x).le b :=
  ⟨fun k => by
    by_cases e : k = g
    · subst e; exact .inr hg
    · simp only [Heap.setBox, upd_other _ _ _ _ e]; exact h.box k, h.own⟩
theorem AWp.seq_k {x y : Code} (h : ∀ K : St → Prop, (∀ st, AWp P y Q st → K st) → AWp P x (thenQ K Q) st) : AWp P (.seq x y) Q st := AWp.seq (h _ fun _ h => h)
/-- A plain region at a sequence's head. -/
theorem AWp.reg {id : Nat} {ops : Array Oper} {y : Code} (h : ∀ K : St → Prop, (∀ st, AWp P y Q st → K st) → aops P ops ops.toList st K) : AWp P (.seq (.region id ops false) y) Q st := AWp.seq (AWp.region (h _ fun _ h => h))
/-- A plain region alone. -/
theorem AWp.reg1 {id : Nat} {ops : Array Oper} (h : ∀ K : St → Prop, (∀ st, Q .normal st → K st) → aops P ops ops.toList st K) : AWp P (.region id ops false) Q st := AWp.region (h _ fun _ h => h)
/-- A function's end. -/
theorem ret_intro {fn : Func} {R : V → Heap → Prop} {vs : List V} {v : V} {s' : Heap} (h1 : resV P st fn.results.toList = some vs) (h2 : Wk (oneV vs) v) (h3 : st.s.le s') (h4 : R v s') : ∃ vs v s', resV P st fn.results.toList = some vs ∧ Wk (oneV vs) v ∧ st.s.le s' ∧ R v s' := ⟨vs, v, s', h1, h2, h3, h4⟩
/-- A call that leaves the heap as it is, with one answer. -/
def Gives (P : Program) (f : FuncId) (args : List V) (v : V) : Prop := ∀ s, ACalls P f args s fun v' s' => v' = v ∧ s' = s
end Go.Am
