/- An evaluator for closed runs: values by abstract keys of blocks, what stands for what, the heap. No program in sight. -/
import Derived.Test.YtdomhnkffghmlaaGreatDoorSAmAppend
set_option linter.unusedVariables false
set_option linter.unusedSimpArgs false
namespace Go.Ev
open Go.Am
/-- Values. A block is named by a key. A slice's capacity: c, or (o) what its block holds less c. -/
inductive EV where
 | v (x : Value)
 | p (k off : Nat)
 | sl (k off len c : Nat) (o : Bool)
 | fn (f : FuncId) (first caps : List EV)
 | ifc (t : TypeId) (x : EV)
 | ag (cs : List EV)
 | tu (vs : List EV)
 | yl (k : Nat)
instance : Inhabited EV := ⟨.v undef⟩
/-- Which block a key names, how much a block that was appended to holds. -/
structure Env where
 b : Nat → Option Nat
 c : Nat → Nat
structure Env.Le (r r' : Env) : Prop where
 b : ∀ k x, r.b k = some x → r'.b k = some x
 c : ∀ k x, r.b k = some x → r'.c k = r.c k
theorem Env.Le.refl (r : Env) : r.Le r := ⟨fun _ _ h => h, fun _ _ _ => rfl⟩
theorem Env.Le.trans {a b c : Env} (h : a.Le b) (h' : b.Le c) : a.Le c := ⟨fun _ _ x => h'.b _ _ (h.b _ _ x), fun k x y => (h'.c k x (h.b k x y)).trans (h.c k x y)⟩
def capOf (r : Env) (k c : Nat) : Bool → Nat
 | true => r.c k - c
 | false => c
mutual
def ren (r : Env) : EV → Option Value
 | .v x => some x
 | .p k off => (r.b k).bind fun b => some (.pointer (some ⟨b, off, none⟩))
 | .sl k off len c o => (r.b k).bind fun b => some (.slice (some ⟨b, off, none⟩) len (capOf r k c o))
 | .fn f a c => (renL r a).bind fun x => (renL r c).bind fun y => some (.func (.func f) x.toArray y.toArray)
 | .ifc t x => (ren r x).bind fun y => some (.iface t y)
 | .ag cs => (renL r cs).bind fun l => some (.agg l.toArray)
 | .tu cs => (renL r cs).bind fun l => some (.tuple l.toArray)
 | .yl k => (r.b k).bind fun b => some (.func (.yield b) #[] #[])
def renL (r : Env) : List EV → Option (List Value)
 | [] => some []
 | c :: l => (ren r c).bind fun x => (renL r l).bind fun y => some (x :: y)
end
section
variable {r r' : Env}
mutual
theorem ren_mono (h : r.Le r') : ∀ (c : EV) (v : Value), ren r c = some v → ren r' c = some v
 | .v x, v, e => e
 | .p k off, v, e => by
  simp only [ren, Option.bind_eq_some_iff] at e ⊢
  obtain ⟨b, h1, h2⟩ := e
  exact ⟨b, h.b _ _ h1, h2⟩
 | .sl k off len c o, v, e => by
  simp only [ren, Option.bind_eq_some_iff] at e ⊢
  obtain ⟨b, h1, h2⟩ := e
  exact ⟨b, h.b _ _ h1, by unfold capOf at h2 ⊢; rw [h.c _ _ h1]; exact h2⟩
 | .fn f a c, v, e => by
  simp only [ren, Option.bind_eq_some_iff] at e ⊢
  obtain ⟨x, h1, y, h2, h3⟩ := e
  exact ⟨x, renL_mono h a x h1, y, renL_mono h c y h2, h3⟩
 | .ifc t x, v, e => by
  simp only [ren, Option.bind_eq_some_iff] at e ⊢
  obtain ⟨y, h1, h2⟩ := e
  exact ⟨y, ren_mono h x y h1, h2⟩
 | .ag cs, v, e => by
  simp only [ren, Option.bind_eq_some_iff] at e ⊢
  obtain ⟨y, h1, h2⟩ := e
  exact ⟨y, renL_mono h cs y h1, h2⟩
 | .tu cs, v, e => by
  simp only [ren, Option.bind_eq_some_iff] at e ⊢
  obtain ⟨y, h1, h2⟩ := e
  exact ⟨y, renL_mono h cs y h1, h2⟩
 | .yl k, v, e => by
  simp only [ren, Option.bind_eq_some_iff] at e ⊢
  obtain ⟨b, h1, h2⟩ := e
  exact ⟨b, h.b _ _ h1, h2⟩
theorem renL_mono (h : r.Le r') : ∀ (c : List EV) (v : List Value), renL r c = some v → renL r' c = some v
 | [], v, e => e
 | c :: l, v, e => by
  simp only [renL, Option.bind_eq_some_iff] at e ⊢
  obtain ⟨x, h1, y, h2, h3⟩ := e
  exact ⟨x, ren_mono h c x h1, y, renL_mono h l y h2, h3⟩
end
theorem renL_cons {c : EV} {l : List EV} {vs : List Value} : renL r (c :: l) = some vs ↔ ∃ x y, ren r c = some x ∧ renL r l = some y ∧ vs = x :: y := by
 simp only [renL, Option.bind_eq_some_iff]
 constructor
 ·rintro ⟨x, h1, y, h2, h3⟩; exact ⟨x, y, h1, h2, (Option.some.inj h3).symm⟩
 ·rintro ⟨x, y, h1, h2, h3⟩; exact ⟨x, h1, y, h2, by rw [h3]⟩
theorem renL_len : ∀ {l : List EV} {vs : List Value}, renL r l = some vs → vs.length = l.length
 | [], vs, h => by simp [renL] at h; subst h; rfl
 | c :: l, vs, h => by
  obtain ⟨x, y, _, h2, rfl⟩ := renL_cons.1 h
  simp [renL_len h2]
theorem renL_get : ∀ {l : List EV} {vs : List Value}, renL r l = some vs → ∀ {i : Nat} {c : EV}, l[i]? = some c → ∃ v, vs[i]? = some v ∧ ren r c = some v
 | [], _, _, i, c, hc => by simp at hc
 | c0 :: l, vs, h, i, c, hc => by
  obtain ⟨x, y, h1, h2, rfl⟩ := renL_cons.1 h
  cases i with
  | zero => simp at hc; subst hc; exact ⟨x, rfl, h1⟩
  | succ i => simp at hc; obtain ⟨v, a, b⟩ := renL_get h2 hc; exact ⟨v, by simpa using a, b⟩
theorem renL_append : ∀ {l m : List EV} {vs ws : List Value}, renL r l = some vs → renL r m = some ws → renL r (l ++ m) = some (vs ++ ws)
 | [], m, vs, ws, h, h' => by simp [renL] at h; subst h; exact h'
 | c :: l, m, vs, ws, h, h' => by
  obtain ⟨x, y, h1, h2, rfl⟩ := renL_cons.1 h
  exact renL_cons.2 ⟨x, y ++ ws, h1, renL_append h2 h', rfl⟩
theorem renL_take : ∀ {l : List EV} {vs : List Value}, renL r l = some vs → ∀ n, renL r (l.take n) = some (vs.take n)
 | [], vs, h, n => by simp [renL] at h; subst h; simp [renL]
 | c :: l, vs, h, 0 => by simp [renL]
 | c :: l, vs, h, n + 1 => by
  obtain ⟨x, y, h1, h2, rfl⟩ := renL_cons.1 h
  exact renL_cons.2 ⟨x, y.take n, h1, renL_take h2 n, rfl⟩
theorem renL_drop : ∀ {l : List EV} {vs : List Value}, renL r l = some vs → ∀ n, renL r (l.drop n) = some (vs.drop n)
 | [], vs, h, n => by simp [renL] at h; subst h; simp [renL]
 | c :: l, vs, h, 0 => h
 | c :: l, vs, h, n + 1 => by
  obtain ⟨x, y, h1, h2, rfl⟩ := renL_cons.1 h
  exact renL_drop h2 n
theorem renL_v : ∀ (l : List Value), renL r (l.map .v) = some l
 | [] => rfl
 | x :: l => renL_cons.2 ⟨x, l, rfl, renL_v l, rfl⟩
/-- What fills one cell. -/
def EV.one : EV → Bool
 | .v x => x.oneCell'
 | .ag _ | .tu _ => false
 | _ => true
theorem EV.one_ren {c : EV} {v : Value} (h : c.one = true) (hv : ren r c = some v) : v.oneCell' = true := by
 cases c with
 | v x => cases hv; exact h
 | ag cs => cases h
 | tu cs => cases h
 | p k off => simp only [ren, Option.bind_eq_some_iff] at hv; obtain ⟨_, _, hv⟩ := hv; cases hv; rfl
 | sl k off len c o => simp only [ren, Option.bind_eq_some_iff] at hv; obtain ⟨_, _, hv⟩ := hv; cases hv; rfl
 | fn f a c => simp only [ren, Option.bind_eq_some_iff] at hv; obtain ⟨_, _, _, _, hv⟩ := hv; cases hv; rfl
 | ifc t x => simp only [ren, Option.bind_eq_some_iff] at hv; obtain ⟨_, _, hv⟩ := hv; cases hv; rfl
 | yl k => simp only [ren, Option.bind_eq_some_iff] at hv; obtain ⟨_, _, hv⟩ := hv; cases hv; rfl
theorem one_renL : ∀ {l : List EV} {vs : List Value}, renL r l = some vs → l.all EV.one = true → ∀ v ∈ vs, v.oneCell' = true
 | [], vs, h, _, v, hv => by simp [renL] at h; subst h; cases hv
 | c :: l, vs, h, ha, v, hv => by
  obtain ⟨x, y, h1, h2, rfl⟩ := renL_cons.1 h
  simp only [List.all_cons, Bool.and_eq_true] at ha
  rcases List.mem_cons.1 hv with rfl | hv
  ·exact EV.one_ren ha.1 h1
  ·exact one_renL h2 ha.2 v hv
/-- A constant. -/
def EV.of : Value → EV
 | .agg cs => .ag (cs.toList.map .v)
 | x => .v x
theorem ren_of (x : Value) : ren r (EV.of x) = some x := by
 unfold EV.of
 split
 ·simp [ren, renL_v]
 ·rfl
/-- A value's cells. -/
def EV.cells : EV → List EV
 | .ag cs => cs
 | .v (.agg a) => a.toList.map .v
 | x => [x]
theorem cells_ren {c : EV} {v : Value} (h : ren r c = some v) : renL r c.cells = some v.cells.toList := by
 unfold EV.cells
 split
 ·simp only [ren, Option.bind_eq_some_iff] at h
  obtain ⟨l, h1, h2⟩ := h
  cases h2
  exact h1
 ·cases h; exact renL_v _
 ·rename_i h1 h2
  have : v.cells.toList = [v] := by
   cases v <;> first | rfl | skip
   rename_i a
   cases c <;> first | (exact absurd rfl (h1 _)) | (cases h; exact absurd rfl (h2 _)) | (simp only [ren, Option.bind_eq_some_iff] at h; (first | (obtain ⟨_, _, _, _, h⟩ := h; cases h) | (obtain ⟨_, _, h⟩ := h; cases h)))
  rw [this]
  exact renL_cons.2 ⟨v, [], h, rfl, rfl⟩
end
theorem beq_f {a b : Nat} (h : a ≠ b) : Nat.beq a b = false := by
 cases e : Nat.beq a b with
 | false => rfl
 | true => exact absurd (Nat.eq_of_beq_eq_true e) h
/-- A map by places: a tree of fixed depth, short lists at its ends. -/
inductive Tr (α : Type) where
 | l (xs : List (Nat × α))
 | n (a b : Tr α)
namespace Tr
variable {α : Type}
noncomputable section
def lk (xs : List (Nat × α)) (k : Nat) : Option α := List.rec (motive := fun _ => Option α) none (fun p _ ih => Prod.rec (motive := fun _ => Option α) (fun j v => Bool.rec (motive := fun _ => Option α) ih (some v) (Nat.beq j k)) p) xs
theorem lk_nil (k : Nat) : lk ([] : List (Nat × α)) k = none := rfl
theorem lk_cons (j : Nat) (v : α) (r : List (Nat × α)) (k : Nat) : lk ((j, v) :: r) k = bif Nat.beq j k then some v else lk r k := by
 show Bool.rec (motive := fun _ => Option α) (lk r k) (some v) (Nat.beq j k) = _
 cases Nat.beq j k <;> rfl
def up (xs : List (Nat × α)) (k : Nat) (v : α) : List (Nat × α) := List.rec (motive := fun _ => List (Nat × α)) [(k, v)] (fun p r ih => Prod.rec (motive := fun _ => List (Nat × α)) (fun j x => Bool.rec (motive := fun _ => List (Nat × α)) (Bool.rec (motive := fun _ => List (Nat × α)) ((j, x) :: ih) ((k, v) :: (j, x) :: r) (Nat.ble k j)) ((j, v) :: r) (Nat.beq j k)) p) xs
theorem up_nil (k : Nat) (v : α) : up [] k v = [(k, v)] := rfl
theorem up_cons (j : Nat) (x : α) (r : List (Nat × α)) (k : Nat) (v : α) : up ((j, x) :: r) k v = bif Nat.beq j k then (j, v) :: r else bif Nat.ble k j then (k, v) :: (j, x) :: r else (j, x) :: up r k v := by
 show Bool.rec (motive := fun _ => List (Nat × α)) (Bool.rec (motive := fun _ => List (Nat × α)) ((j, x) :: up r k v) ((k, v) :: (j, x) :: r) (Nat.ble k j)) ((j, v) :: r) (Nat.beq j k) = _
 cases Nat.beq j k <;> cases Nat.ble k j <;> rfl
def get (t : Tr α) : Nat → Option α := Tr.rec (motive := fun _ => Nat → Option α) (fun xs k => lk xs k) (fun _ _ ga gb k => Bool.rec (motive := fun _ => Option α) (gb (Nat.div k 2)) (ga (Nat.div k 2)) (Nat.beq (Nat.mod k 2) 0)) t
theorem get_n (a b : Tr α) (k : Nat) : get (.n a b) k = bif Nat.beq (k % 2) 0 then get a (k / 2) else get b (k / 2) := by
 show Bool.rec (motive := fun _ => Option α) (get b (k / 2)) (get a (k / 2)) (Nat.beq (k % 2) 0) = _
 cases Nat.beq (k % 2) 0 <;> rfl
def set (t : Tr α) (k : Nat) (v : α) : Tr α := Tr.rec (motive := fun _ => Nat → Tr α) (fun xs k => .l (up xs k v)) (fun a b ga gb k => Bool.rec (motive := fun _ => Tr α) (.n a (gb (Nat.div k 2))) (.n (ga (Nat.div k 2)) b) (Nat.beq (Nat.mod k 2) 0)) t k
theorem set_n (a b : Tr α) (k : Nat) (v : α) : set (.n a b) k v = bif Nat.beq (k % 2) 0 then .n (set a (k / 2) v) b else .n a (set b (k / 2) v) := by
 show Bool.rec (motive := fun _ => Tr α) (.n a (set b (k / 2) v)) (.n (set a (k / 2) v) b) (Nat.beq (k % 2) 0) = _
 cases Nat.beq (k % 2) 0 <;> rfl
def mk : Nat → Tr α
 | 0 => .l []
 | d + 1 => .n (mk d) (mk d)
theorem lk_up : ∀ (xs : List (Nat × α)) (k k' : Nat) (v : α), lk (up xs k v) k' = if k' = k then some v else lk xs k'
 | [], k, k', v => by
  simp only [up_nil, lk_cons, lk_nil]
  by_cases h : k' = k
  ·subst h; simp
  ·have : Nat.beq k k' = false := beq_f fun e => h e.symm
   simp [this, h]
 | (j, x) :: r, k, k', v => by
  simp only [up_cons]
  cases hj : Nat.beq j k with
  | true =>
   have := Nat.eq_of_beq_eq_true hj
   subst this
   simp only [cond_true, lk_cons]
   by_cases h : k' = j
   ·subst h; simp
   ·have : Nat.beq j k' = false := beq_f fun e => h e.symm
    simp [this, h]
  | false =>
   simp only [cond_false]
   cases hb : Nat.ble k j with
   | true =>
    simp only [cond_true, lk_cons]
    by_cases h : k' = k
    ·subst h; simp
    ·have : Nat.beq k k' = false := beq_f fun e => h e.symm
     simp [this, h]
   | false =>
   simp only [cond_false, lk_cons]
   cases hk : Nat.beq j k' with
   | true =>
    have := Nat.eq_of_beq_eq_true hk
    subst this
    have : j ≠ k := by rintro rfl; simp at hj
    simp [this]
   | false => simp only [cond_false]; exact lk_up r k k' v
theorem get_set : ∀ (t : Tr α) (k k' : Nat) (v : α), (t.set k v).get k' = if k' = k then some v else t.get k'
 | .l xs, k, k', v => lk_up xs k k' v
 | .n a b, k, k', v => by
  have e : k' = k ↔ k' % 2 = k % 2 ∧ k' / 2 = k / 2 := ⟨fun h => by subst h; exact ⟨rfl, rfl⟩, fun ⟨h1, h2⟩ => by omega⟩
  simp only [set_n]
  cases hk : Nat.beq (k % 2) 0 with
  | true =>
   have h0 := Nat.eq_of_beq_eq_true hk
   simp only [cond_true, get_n]
   cases hk' : Nat.beq (k' % 2) 0 with
   | true =>
    have h0' := Nat.eq_of_beq_eq_true hk'
    simp only [cond_true, get_set a]
    have : k' = k ↔ k' / 2 = k / 2 := by rw [e]; exact ⟨fun h => h.2, fun h => ⟨by omega, h⟩⟩
    simp only [this]
   | false =>
    have : k' ≠ k := by rintro rfl; rw [hk] at hk'; cases hk'
    simp [this]
  | false =>
   simp only [cond_false, get_n]
   cases hk' : Nat.beq (k' % 2) 0 with
   | true =>
    have : k' ≠ k := by rintro rfl; rw [hk] at hk'; cases hk'
    simp [this]
   | false =>
    simp only [cond_false, get_set b]
    have h0 : k % 2 = 1 := by
     rcases Nat.mod_two_eq_zero_or_one k with h | h
     ·rw [h] at hk; cases hk
     ·exact h
    have h0' : k' % 2 = 1 := by
     rcases Nat.mod_two_eq_zero_or_one k' with h | h
     ·rw [h] at hk'; cases hk'
     ·exact h
    have : k' = k ↔ k' / 2 = k / 2 := by rw [e]; exact ⟨fun h => h.2, fun h => ⟨by omega, h⟩⟩
    simp only [this]
theorem get_mk : ∀ (d k : Nat), (mk d : Tr α).get k = none
 | 0, k => rfl
 | d + 1, k => by simp only [mk, get_n]; cases Nat.beq (k % 2) 0 <;> exact get_mk d _
end
end Tr
/-- A loop over a function that is under way. -/
structure Lp where
 T : Tr EV
 n : Nat
 ps : Array Tmp
 assign : Code
 body : Code
 d : Nat
 busy : Bool
/-- A block: its cells as far as they are told, their type, of how many cells an element is that may be appended (0: all cells are told); a loop; what a loop's rounds have deferred (nothing). -/
inductive Blk where
 | live (cs : List EV) (ty : TypeId) (sz : Nat)
 | dead
 | loop (l : Lp)
 | none
abbrev Heap := Tr Blk
def BlkOk (r : Env) (k : Nat) (cs : List EV) (sz : Nat) (ccs : Array Value) : Prop :=
 ∃ vs, renL r cs = some vs ∧ (∀ x ∈ ccs.toList, x.oneCell' = true) ∧ ((sz = 0 ∧ ccs.toList = vs) ∨ (0 < sz ∧ (∃ tail, ccs.toList = vs ++ tail) ∧ ccs.size = r.c k * sz ∧ r.c k ≤ maxLen))
theorem BlkOk.mono {r r' : Env} {k : Nat} {cs : List EV} {sz : Nat} {ccs : Array Value} (hc : r'.c k = r.c k) (h : r.Le r') (hb : BlkOk r k cs sz ccs) : BlkOk r' k cs sz ccs := by
 obtain ⟨vs, h1, h2, h3⟩ := hb
 exact ⟨vs, renL_mono h _ _ h1, h2, by rw [hc]; exact h3⟩
structure LpRel (r : Env) (l : Lp) (x : Loop) : Prop where
 st : x.state = (match l.busy with | true => .busy | false => .ready)
 pe : x.pending = Option.none
 ps : x.params = l.ps
 as : x.assign = l.assign
 bo : x.body = l.body
 d : r.b l.d = some x.defers
 n : x.tmps.size = l.n
 tm : ∀ t c, l.T.get t = some c → ren r c = some (x.tmps.getD t undef)
/-- A block as the machine has it. -/
inductive ObjRel (r : Env) (k : Nat) : Blk → Obj → Prop
 | live {cs : List EV} {ty : TypeId} {sz : Nat} {ccs : Array Value} : BlkOk r k cs sz ccs → ObjRel r k (.live cs ty sz) (.cells ccs ty (0, 0))
 | loop {l : Lp} {x : Loop} : LpRel r l x → ObjRel r k (.loop l) (.loop x)
 | none : ObjRel r k .none (.deferred (some []))
theorem ObjRel.mono {r r' : Env} {k : Nat} {B : Blk} {o : Obj} (hc : r'.c k = r.c k) (h : r.Le r') (hb : ObjRel r k B o) : ObjRel r' k B o := by
 cases hb with
 | live hb => exact .live (hb.mono hc h)
 | loop hl => exact .loop ⟨hl.st, hl.pe, hl.ps, hl.as, hl.bo, h.b _ _ hl.d, hl.n, fun t c ht => ren_mono h _ _ (hl.tm t c ht)⟩
 | none => exact .none
/-- Where all began: a world, and which of its blocks stay as they are. -/
structure Base where
 w : World
 pr : Nat → Prop
def Base.free (B : Base) (b : Nat) : Prop := B.pr b → B.w.heap.size ≤ b
/-- The world beside the one in which all began. -/
structure WRel (w0 : Base) (r : Env) (H : Heap) (w : World) : Prop where
 size : w0.w.heap.size ≤ w.heap.size
 old : ∀ b, b < w0.w.heap.size → w0.pr b → w.heap[b]? = w0.w.heap[b]?
 os : w.os = w0.w.os
 tape : w.tape = w0.w.tape
 output : w.output = w0.w.output
 obj : ∀ k B, H.get k = some B → B ≠ .dead → ∃ b o, r.b k = some b ∧ w0.free b ∧ w.heap[b]? = some o ∧ ObjRel r k B o
 inj : ∀ k k' B B' b, H.get k = some B → H.get k' = some B' → B ≠ .dead → B' ≠ .dead → r.b k = some b → r.b k' = some b → k = k'
 used : ∀ k b, r.b k = some b → H.get k ≠ Option.none
section
variable {w0 : Base} {r : Env} {H : Heap} {w : World}
theorem WRel.blk (h : WRel w0 r H w) (k : Nat) (cs : List EV) (ty : TypeId) (sz : Nat) (hk : H.get k = some (.live cs ty sz)) : ∃ b ccs, r.b k = some b ∧ w0.free b ∧ w.heap[b]? = some (.cells ccs ty (0, 0)) ∧ BlkOk r k cs sz ccs := by
 obtain ⟨b, o, h1, h2, h3, h4⟩ := h.obj k _ hk (by simp)
 cases h4 with
 | live hb => exact ⟨b, _, h1, h2, h3, hb⟩
/-- The same memory, and more. -/
theorem WRel.more {w' : World} (h : WRel w0 r H w) (hs : w.heap.size ≤ w'.heap.size) (hh : ∀ b, b < w.heap.size → w'.heap[b]? = w.heap[b]?) (h1 : w'.os = w.os) (h2 : w'.tape = w.tape) (h3 : w'.output = w.output) : WRel w0 r H w' :=
 ⟨Nat.le_trans h.size hs, fun b hb hp => (hh b (by have := h.size; omega)).trans (h.old b hb hp), h1.trans h.os, h2.trans h.tape, h3.trans h.output, fun k B hk hB => by
  obtain ⟨b, o, j1, j2, j3, j4⟩ := h.obj k B hk hB
  exact ⟨b, o, j1, j2, (hh b (Array.getElem?_eq_some_iff.1 j3).1).trans j3, j4⟩, h.inj, h.used⟩
theorem WRel.same {w' : World} (h : WRel w0 r H w) (hh : w'.heap = w.heap) (h1 : w'.os = w.os) (h2 : w'.tape = w.tape) (h3 : w'.output = w.output) : WRel w0 r H w' :=
 h.more (by rw [hh]; exact Nat.le_refl _) (fun b _ => by rw [hh]) h1 h2 h3
theorem WRel.drew (h : WRel w0 r H w) : WRel w0 r H w.drew := h.same rfl rfl rfl rfl
def Env.add (r : Env) (k b c : Nat) : Env := ⟨fun k' => if k' = k then some b else r.b k', fun k' => if k' = k then c else r.c k'⟩
theorem Env.le_add {k b c : Nat} (h : r.b k = Option.none) : r.Le (r.add k b c) :=
 ⟨fun k' x hx => by
  have : k' ≠ k := fun e => by subst e; rw [h] at hx; cases hx
  simp [Env.add, this, hx], fun k' x hx => by
  have : k' ≠ k := fun e => by subst e; rw [h] at hx; cases hx
  simp [Env.add, this]⟩
theorem WRel.fresh (h : WRel w0 r H w) {k : Nat} (hk : H.get k = Option.none) : r.b k = Option.none := by
 cases hb : r.b k with
 | none => rfl
 | some b => exact absurd hk (h.used k b hb)
/-- A new block, at a new key. -/
theorem WRel.new (h : WRel w0 r H w) {k : Nat} (hk : H.get k = Option.none) {B : Blk} {c : Nat} {o : Obj} (hb : ObjRel (r.add k w.heap.size c) k B o) : WRel w0 (r.add k w.heap.size c) (H.set k B) (w.alloc o) := by
 have hf := h.fresh hk
 have hle := Env.le_add (b := w.heap.size) (c := c) hf
 refine ⟨by rw [World.size_alloc]; have := h.size; omega, fun b hb hp => by rw [heap_alloc_old w _ b (by have := h.size; omega)]; exact h.old b hb hp, h.os, h.tape, h.output, ?_, ?_, ?_⟩
 ·intro k' B' hk' hB'
  rw [Tr.get_set] at hk'
  by_cases e : k' = k
  ·subst e
   rw [if_pos rfl] at hk'
   cases hk'
   exact ⟨w.heap.size, o, by simp [Env.add], fun _ => h.size, heap_alloc_new w _, hb⟩
  ·rw [if_neg e] at hk'
   obtain ⟨b, o', h1, h2, h3, h4⟩ := h.obj k' B' hk' hB'
   have hlt : b < w.heap.size := (Array.getElem?_eq_some_iff.1 h3).1
   exact ⟨b, o', hle.b _ _ h1, h2, by rw [heap_alloc_old w _ b hlt]; exact h3, h4.mono (hle.c _ _ h1) hle⟩
 ·intro k1 k2 B1 B2 b h1 h2 d1 d2 h3 h4
  rw [Tr.get_set] at h1 h2
  by_cases e1 : k1 = k
  ·by_cases e2 : k2 = k
   ·rw [e1, e2]
   ·rw [if_neg e2] at h2
    obtain ⟨b', o', j1, j2, j3, j4⟩ := h.obj k2 _ h2 d2
    have hlt : b' < w.heap.size := (Array.getElem?_eq_some_iff.1 j3).1
    simp only [Env.add, e1, if_true, Option.some.injEq] at h3
    simp only [Env.add, if_neg e2, j1, Option.some.injEq] at h4
    omega
  ·rw [if_neg e1] at h1
   by_cases e2 : k2 = k
   ·obtain ⟨b', o', j1, j2, j3, j4⟩ := h.obj k1 _ h1 d1
    have hlt : b' < w.heap.size := (Array.getElem?_eq_some_iff.1 j3).1
    simp only [Env.add, e2, if_true, Option.some.injEq] at h4
    simp only [Env.add, if_neg e1, j1, Option.some.injEq] at h3
    omega
   ·rw [if_neg e2] at h2
    simp only [Env.add, if_neg e1] at h3
    simp only [Env.add, if_neg e2] at h4
    exact h.inj k1 k2 _ _ b h1 h2 d1 d2 h3 h4
 ·intro k' b hb'
  rw [Tr.get_set]
  by_cases e : k' = k
  ·simp [e]
  ·rw [if_neg e]
   simp only [Env.add, if_neg e] at hb'
   exact h.used k' b hb'
theorem WRel.alloc (h : WRel w0 r H w) {k : Nat} (hk : H.get k = Option.none) {cs : List EV} {ty : TypeId} {sz c : Nat} {ccs : Array Value}
  (hb : BlkOk (r.add k w.heap.size c) k cs sz ccs) : WRel w0 (r.add k w.heap.size c) (H.set k (.live cs ty sz)) (w.alloc (.cells ccs ty)) := h.new hk (.live hb)
/-- A block is turned. -/
theorem WRel.turn (h : WRel w0 r H w) {k b : Nat} {B B' : Blk} (hk : H.get k = some B) (hB : B ≠ .dead) (hb : r.b k = some b) {o : Obj} (hok : B' = .dead ∨ ObjRel r k B' o) {w' : World} (hs : w'.heap.size = w.heap.size) (ho : w'.heap[b]? = some o) (hne : ∀ c, c ≠ b → w'.heap[c]? = w.heap[c]?)
  (h1 : w'.os = w.os) (h2 : w'.tape = w.tape) (h3 : w'.output = w.output) : WRel w0 r (H.set k B') w' := by
 obtain ⟨b', o', g1, g2, g3, g4⟩ := h.obj k B hk hB
 obtain rfl : b' = b := Option.some.inj (g1.symm.trans hb)
 refine ⟨by rw [hs]; exact h.size, fun c hc hp => by rw [hne _ (fun e => by subst e; have := g2 hp; omega)]; exact h.old c hc hp, h1.trans h.os, h2.trans h.tape, h3.trans h.output, ?_, ?_, ?_⟩
 ·intro k' B1 hk' hB1
  rw [Tr.get_set] at hk'
  by_cases e : k' = k
  ·subst e
   rw [if_pos rfl] at hk'
   cases hk'
   exact ⟨b', o, hb, g2, ho, hok.resolve_left hB1⟩
  ·rw [if_neg e] at hk'
   obtain ⟨b1, o1, j1, j2, j3, j4⟩ := h.obj k' _ hk' hB1
   have hn : b1 ≠ b' := fun e' => e (h.inj k' k _ _ b1 hk' hk hB1 hB j1 (by rw [e']; exact hb))
   exact ⟨b1, o1, j1, j2, by rw [hne _ hn]; exact j3, j4⟩
 ·intro k1 k2 B1 B2 c j1 j2 d1 d2 j3 j4
  rw [Tr.get_set] at j1 j2
  have l1 : ∃ B, H.get k1 = some B ∧ B ≠ .dead := by
   by_cases e : k1 = k
   ·exact ⟨_, by rw [e]; exact hk, hB⟩
   ·rw [if_neg e] at j1; exact ⟨_, j1, d1⟩
  have l2 : ∃ B, H.get k2 = some B ∧ B ≠ .dead := by
   by_cases e : k2 = k
   ·exact ⟨_, by rw [e]; exact hk, hB⟩
   ·rw [if_neg e] at j2; exact ⟨_, j2, d2⟩
  obtain ⟨_, l1, l1'⟩ := l1
  obtain ⟨_, l2, l2'⟩ := l2
  exact h.inj k1 k2 _ _ c l1 l2 l1' l2' j3 j4
 ·intro k' c hc
  rw [Tr.get_set]
  by_cases e : k' = k
  ·simp [e]
  ·rw [if_neg e]; exact h.used k' c hc
/-- A block's cells are turned. -/
theorem WRel.setRow (h : WRel w0 r H w) {k b : Nat} {cs cs' : List EV} {ty : TypeId} {sz : Nat} (hk : H.get k = some (.live cs ty sz)) (hb : r.b k = some b) {ccs' : Array Value} (hok : BlkOk r k cs' sz ccs') :
  WRel w0 r (H.set k (.live cs' ty sz)) (w.setRow b ccs') := by
 obtain ⟨b', ccs, h1, h2, h3, h4⟩ := h.blk k cs ty sz hk
 obtain rfl : b' = b := Option.some.inj (h1.symm.trans hb)
 exact h.turn hk (by simp) hb (.inr (.live hok)) (by simp [World.setRow]) (setRow_heap w b' ccs ccs' ty (0, 0) h3) (fun c hc => setRow_other _ _ _ _ hc) rfl rfl rfl
/-- A block goes on under a new key, turned; the old key is dead. -/
theorem WRel.rekey (h : WRel w0 r H w) {k b k1 c : Nat} {cs cs' : List EV} {ty : TypeId} {sz sz' : Nat} (hk : H.get k = some (.live cs ty sz)) (hb : r.b k = some b) (hk1 : H.get k1 = Option.none) {ccs' : Array Value}
  (hok : BlkOk (r.add k1 b c) k1 cs' sz' ccs') : WRel w0 (r.add k1 b c) ((H.set k .dead).set k1 (.live cs' ty sz')) (w.setRow b ccs') := by
 have hf := h.fresh hk1
 have hle := Env.le_add (b := b) (c := c) hf
 have hne1 : k ≠ k1 := fun e => by rw [e, hk1] at hk; cases hk
 obtain ⟨b', ccs, h1, h2, h3, h4⟩ := h.blk k cs ty sz hk
 obtain rfl : b' = b := Option.some.inj (h1.symm.trans hb)
 have old : ∀ k' B, k' ≠ k1 → ((H.set k .dead).set k1 (.live cs' ty sz')).get k' = some B → B ≠ .dead → k' ≠ k ∧ H.get k' = some B := by
  intro k' B e hk' hB
  rw [Tr.get_set, if_neg e, Tr.get_set] at hk'
  by_cases e' : k' = k
  ·rw [if_pos e'] at hk'; cases hk'; exact absurd rfl hB
  ·rw [if_neg e'] at hk'; exact ⟨e', hk'⟩
 refine ⟨by simpa [World.setRow] using h.size, fun c hc hp => by rw [setRow_other _ _ _ _ (fun e => by subst e; have := h2 hp; omega)]; exact h.old c hc hp, h.os, h.tape, h.output, ?_, ?_, ?_⟩
 ·intro k' B1 hk' hB1
  by_cases e : k' = k1
  ·subst e
   rw [Tr.get_set, if_pos rfl] at hk'
   cases hk'
   exact ⟨b', _, by simp [Env.add], h2, setRow_heap w b' ccs ccs' ty (0, 0) h3, .live hok⟩
  ·obtain ⟨e', hk''⟩ := old _ _ e hk' hB1
   obtain ⟨b1, o1, j1, j2, j3, j4⟩ := h.obj k' _ hk'' hB1
   have hne : b1 ≠ b' := fun e2 => e' (h.inj k' k _ _ b1 hk'' hk hB1 (by simp) j1 (by rw [e2]; exact hb))
   exact ⟨b1, o1, hle.b _ _ j1, j2, by rw [setRow_other _ _ _ _ hne]; exact j3, j4.mono (hle.c _ _ j1) hle⟩
 ·intro ka kb B1 B2 d j1 j2 d1 d2 j3 j4
  by_cases ea : ka = k1
  ·by_cases eb : kb = k1
   ·rw [ea, eb]
   ·obtain ⟨e', hk''⟩ := old _ _ eb j2 d2
    simp only [Env.add, ea, if_true, Option.some.injEq] at j3
    simp only [Env.add, if_neg eb] at j4
    exact absurd (h.inj kb k _ _ d hk'' hk d2 (by simp) j4 (by rw [← j3]; exact hb)) e'
  ·obtain ⟨e', hk''⟩ := old _ _ ea j1 d1
   by_cases eb : kb = k1
   ·simp only [Env.add, eb, if_true, Option.some.injEq] at j4
    simp only [Env.add, if_neg ea] at j3
    exact absurd (h.inj ka k _ _ d hk'' hk d1 (by simp) j3 (by rw [← j4]; exact hb)) e'
   ·obtain ⟨e2, hk2⟩ := old _ _ eb j2 d2
    simp only [Env.add, if_neg ea] at j3
    simp only [Env.add, if_neg eb] at j4
    exact h.inj ka kb _ _ d hk'' hk2 d1 d2 j3 j4
 ·intro k' d hd
  rw [Tr.get_set]
  by_cases e : k' = k1
  ·simp [e]
  ·rw [if_neg e, Tr.get_set]
   by_cases e' : k' = k
   ·simp [e']
   ·rw [if_neg e']
    simp only [Env.add, if_neg e] at hd
    exact h.used k' d hd
/-- A block is done with. -/
theorem WRel.kill (h : WRel w0 r H w) {k : Nat} (hk : H.get k ≠ Option.none) : WRel w0 r (H.set k .dead) w := by
 have old : ∀ k' B, (H.set k .dead).get k' = some B → B ≠ .dead → H.get k' = some B := by
  intro k' B hk' hB
  rw [Tr.get_set] at hk'
  by_cases e : k' = k
  ·rw [if_pos e] at hk'; cases hk'; exact absurd rfl hB
  ·rw [if_neg e] at hk'; exact hk'
 refine ⟨h.size, h.old, h.os, h.tape, h.output, fun k' B hk' hB => h.obj k' B (old _ _ hk' hB) hB, fun k1 k2 B1 B2 b j1 j2 d1 d2 => h.inj k1 k2 B1 B2 b (old _ _ j1 d1) (old _ _ j2 d2) d1 d2, fun k' b hb => ?_⟩
 rw [Tr.get_set]
 by_cases e : k' = k
 ·simp [e]
 ·rw [if_neg e]; exact h.used k' b hb
end
end Go.Ev
