/- Calls of base values that have been reckoned once: their results, with the blocks that they lay. -/
import Derived.Test.YtdomhnkffghmlaaGreatDoorSEvPan
set_option linter.unusedVariables false
set_option linter.unusedSimpArgs false
namespace Go.Ev
noncomputable section
open Go.Am
variable {P : Program}
mutual
def mpE (g : Nat → Option Nat) : EV → Option EV
 | .v x => some (.v x)
 | .p k off => (g k).bind fun j => some (.p j off)
 | .sl k off len c o => (g k).bind fun j => some (.sl j off len c o)
 | .fn f a c => (mpL g a).bind fun x => (mpL g c).bind fun y => some (.fn f x y)
 | .ifc t x => (mpE g x).bind fun y => some (.ifc t y)
 | .ag cs => (mpL g cs).bind fun l => some (.ag l)
 | .tu cs => (mpL g cs).bind fun l => some (.tu l)
 | .yl _ => none
def mpL (g : Nat → Option Nat) : List EV → Option (List EV)
 | [] => some []
 | c :: l => (mpE g c).bind fun x => (mpL g l).bind fun y => some (x :: y)
end
/-- One naming beside another. -/
def Moves (g : Nat → Option Nat) (r r' : Env) : Prop := ∀ i j b, g i = some j → r.b i = some b → r'.b j = some b ∧ r'.c j = r.c i
section
variable {g : Nat → Option Nat} {r r' : Env}
mutual
theorem mpE_ren (h : Moves g r r') : ∀ (x : EV) (y : EV) (v : Value), mpE g x = some y → ren r x = some v → ren r' y = some v
 | .v x, y, v, h1, h2 => by cases h1; exact h2
 | .p k off, y, v, h1, h2 => by
  simp only [mpE, ren, Option.bind_eq_some_iff] at h1 h2
  obtain ⟨j, a1, a2⟩ := h1
  obtain ⟨b, b1, b2⟩ := h2
  cases a2
  simp only [ren, (h k j b a1 b1).1, Option.bind_some]
  exact b2
 | .sl k off len c o, y, v, h1, h2 => by
  simp only [mpE, ren, Option.bind_eq_some_iff] at h1 h2
  obtain ⟨j, a1, a2⟩ := h1
  obtain ⟨b, b1, b2⟩ := h2
  cases a2
  simp only [ren, (h k j b a1 b1).1, Option.bind_some]
  rw [← b2]
  unfold capOf
  rw [(h k j b a1 b1).2]
 | .fn f a c, y, v, h1, h2 => by
  simp only [mpE, ren, Option.bind_eq_some_iff] at h1 h2
  obtain ⟨x1, a1, x2, a2, a3⟩ := h1
  obtain ⟨y1, b1, y2, b2, b3⟩ := h2
  cases a3
  simp only [ren, mpL_ren h a x1 y1 a1 b1, mpL_ren h c x2 y2 a2 b2, Option.bind_some]
  exact b3
 | .ifc t x, y, v, h1, h2 => by
  simp only [mpE, ren, Option.bind_eq_some_iff] at h1 h2
  obtain ⟨x1, a1, a3⟩ := h1
  obtain ⟨y1, b1, b3⟩ := h2
  cases a3
  simp only [ren, mpE_ren h x x1 y1 a1 b1, Option.bind_some]
  exact b3
 | .ag cs, y, v, h1, h2 => by
  simp only [mpE, ren, Option.bind_eq_some_iff] at h1 h2
  obtain ⟨x1, a1, a3⟩ := h1
  obtain ⟨y1, b1, b3⟩ := h2
  cases a3
  simp only [ren, mpL_ren h cs x1 y1 a1 b1, Option.bind_some]
  exact b3
 | .tu cs, y, v, h1, h2 => by
  simp only [mpE, ren, Option.bind_eq_some_iff] at h1 h2
  obtain ⟨x1, a1, a3⟩ := h1
  obtain ⟨y1, b1, b3⟩ := h2
  cases a3
  simp only [ren, mpL_ren h cs x1 y1 a1 b1, Option.bind_some]
  exact b3
 | .yl k, y, v, h1, h2 => by cases h1
theorem mpL_ren (h : Moves g r r') : ∀ (x : List EV) (y : List EV) (v : List Value), mpL g x = some y → renL r x = some v → renL r' y = some v
 | [], y, v, h1, h2 => by cases h1; exact h2
 | c :: l, y, v, h1, h2 => by
  simp only [mpL, Option.bind_eq_some_iff] at h1
  obtain ⟨x1, a1, x2, a2, a3⟩ := h1
  cases a3
  obtain ⟨y1, y2, b1, b2, rfl⟩ := renL_cons.1 h2
  exact renL_cons.2 ⟨y1, y2, mpE_ren h c x1 y1 a1 b1, mpL_ren h l x2 y2 a2 b2, rfl⟩
end
end
def mpB (g : Nat → Option Nat) : Blk → Option Blk
 | .live cs ty sz => (mpL g cs).bind fun l => some (.live l ty sz)
 | _ => none
theorem mpB_rel {g : Nat → Option Nat} {r r' : Env} (h : Moves g r r') {i j b : Nat} (hij : g i = some j) (hb : r.b i = some b) {B B' : Blk} {o : Obj} (hB : mpB g B = some B') (hr : ObjRel r i B o) : ObjRel r' j B' o := by
 cases hr with
 | live hk =>
  simp only [mpB, Option.bind_eq_some_iff] at hB
  obtain ⟨l, h1, h2⟩ := hB
  cases h2
  obtain ⟨vs, k1, k2, k3⟩ := hk
  refine .live ⟨vs, mpL_ren h _ _ _ h1 k1, k2, ?_⟩
  rw [(h i j b hij hb).2]
  exact k3
 | loop hl => cases hB
 | none => cases hB
/-! ### A call is reckoned -/
mutual
def keysE : EV → List Nat
 | .v _ => []
 | .p k _ => [k]
 | .sl k _ _ _ _ => [k]
 | .fn _ a c => keysL a ++ keysL c
 | .ifc _ x => keysE x
 | .ag cs => keysL cs
 | .tu cs => keysL cs
 | .yl k => [k]
def keysL : List EV → List Nat
 | [] => []
 | c :: l => keysE c ++ keysL l
end
def elemN (k : Nat) : List Nat → Bool
 | [] => false
 | j :: l => bif Nat.beq j k then true else elemN k l
def reachE (H : Heap) : Nat → List Nat → List Nat → List Nat
 | 0, _, ds => ds
 | _ + 1, [], ds => ds
 | m + 1, k :: l, ds => bif elemN k ds then reachE H m l ds else match H.get k with
  | some (.live cs _ _) => reachE H m (l ++ keysL cs) (ds ++ [k])
  | _ => reachE H m l ds
def idxOf (k : Nat) : List Nat → Nat → Option Nat
 | [], _ => none
 | j :: l, i => bif Nat.beq j k then some i else idxOf k l (i + 1)
def gcL (H : Heap) (g : Nat → Option Nat) : List Nat → Nat → Option (List Blk)
 | [], _ => some []
 | k :: l, i => match H.get k, g k with
  | some (.live cs ty sz), some i' => bif Nat.beq i i' then (mpL g cs).bind fun c => (gcL H g l (i + 1)).bind fun bs => some (.live c ty sz :: bs) else none
  | _, _ => none
theorem idxOf_spec {k : Nat} : ∀ {ks : List Nat} {n i : Nat}, idxOf k ks n = some i → n ≤ i ∧ ks[i - n]? = some k
 | [], _, _, h => by cases h
 | j :: l, n, i, h => by
  simp only [idxOf] at h
  cases hj : Nat.beq j k with
  | true =>
   rw [hj] at h
   cases h
   have := Nat.eq_of_beq_eq_true hj
   exact ⟨Nat.le_refl _, by simp [this]⟩
  | false =>
   rw [hj] at h
   simp only [cond_false] at h
   obtain ⟨h1, h2⟩ := idxOf_spec h
   refine ⟨by omega, ?_⟩
   have : i - n = (i - (n + 1)) + 1 := by omega
   rw [this, List.getElem?_cons_succ]
   exact h2
theorem gcL_spec {H : Heap} {g : Nat → Option Nat} : ∀ {ks : List Nat} {n : Nat} {bs : List Blk}, gcL H g ks n = some bs → ks.length = bs.length ∧ ∀ (i : Nat) (k : Nat), ks[i]? = some k → ∃ cs cs' ty sz, H.get k = some (.live cs ty sz) ∧ g k = some (n + i) ∧ mpL g cs = some cs' ∧ bs[i]? = some (.live cs' ty sz)
 | [], n, bs, h => by cases h; exact ⟨rfl, fun i k h => by simp at h⟩
 | k0 :: l, n, bs, h => by
  simp only [gcL] at h
  split at h
  ·rename_i cs ty sz i' hk hg
   cases hi : Nat.beq n i' with
   | false => rw [hi] at h; cases h
   | true =>
    rw [hi] at h
    obtain rfl := Nat.eq_of_beq_eq_true hi
    simp only [cond_true, Option.bind_eq_some_iff] at h
    obtain ⟨c, h1, bs', h2, h3⟩ := h
    cases h3
    obtain ⟨j1, j2⟩ := gcL_spec h2
    refine ⟨by simp [j1], fun i k hik => ?_⟩
    cases i with
    | zero => simp at hik; subst hik; exact ⟨cs, c, ty, sz, hk, hg, h1, rfl⟩
    | succ i =>
     simp at hik
     obtain ⟨cs1, cs1', ty1, sz1, m1, m2, m3, m4⟩ := j2 i k hik
     exact ⟨cs1, cs1', ty1, sz1, m1, by rw [m2]; congr 1; omega, m3, by simpa using m4⟩
  ·cases h
/-- The blocks stand at the first keys. -/
def put0 : List Blk → Nat → Heap → Heap
 | [], _, H => H
 | B :: l, i, H => put0 l (i + 1) (H.set i B)
def heapOf (bs : List Blk) : Heap := put0 bs 0 (Tr.mk 8)
theorem put0_get : ∀ (l : List Blk) (i j : Nat) (H : Heap), (put0 l i H).get j = if i ≤ j ∧ j < i + l.length then l[j - i]? else H.get j
 | [], i, j, H => by simp [put0]; intro h1 h2; omega
 | B :: l, i, j, H => by
  simp only [put0, put0_get l, List.length_cons, Tr.get_set]
  by_cases h : i + 1 ≤ j ∧ j < i + 1 + l.length
  ·rw [if_pos h, if_pos (by omega)]
   have : j - i = (j - (i + 1)) + 1 := by omega
   rw [this, List.getElem?_cons_succ]
  ·rw [if_neg h]
   by_cases e : j = i
   ·subst e; simp
   ·rw [if_neg e, if_neg (by omega)]
theorem heapOf_get (bs : List Blk) (j : Nat) : (heapOf bs).get j = bs[j]? := by
 unfold heapOf
 rw [put0_get, Tr.get_mk]
 by_cases h : j < bs.length
 ·simp [h]
 ·simp [h] <;> omega
/-- The naming behind a cleaning. -/
def envOf (ks : List Nat) (r : Env) : Env := ⟨fun i => (ks[i]?).bind r.b, fun i => match ks[i]? with | some k => r.c k | none => 0⟩
theorem envOf_moves (ks : List Nat) (r : Env) : Moves (fun k => idxOf k ks 0) r (envOf ks r) := fun k i b hk hb => by
 have := (idxOf_spec hk).2
 rw [Nat.sub_zero] at this
 simp only [envOf, this, Option.bind_some]
 exact ⟨hb, trivial⟩
theorem wrel_gc {w0 : Base} {r : Env} {H : Heap} {w : World} (hW : WRel w0 r H w) {ks : List Nat} {bs : List Blk} (hg : gcL H (fun k => idxOf k ks 0) ks 0 = some bs) {B : Base} (hsz : B.w.heap.size ≤ w.heap.size) (hold : ∀ b, b < B.w.heap.size → B.pr b → w.heap[b]? = B.w.heap[b]?) (h1 : w.os = B.w.os) (h2 : w.tape = B.w.tape) (h3 : w.output = B.w.output)
  (hfree : ∀ (i k b : Nat), ks[i]? = some k → r.b k = some b → w0.free b → B.free b) : WRel B (envOf ks r) (heapOf bs) w := by
 obtain ⟨hlen, hks⟩ := gcL_spec hg
 have hob : ∀ i B, bs[i]? = some B → ∃ k cs cs' ty sz, ks[i]? = some k ∧ H.get k = some (.live cs ty sz) ∧ idxOf k ks 0 = some i ∧ mpL (fun k => idxOf k ks 0) cs = some cs' ∧ B = .live cs' ty sz := fun i B hB => by
  have hi' : i < ks.length := by have := (List.getElem?_eq_some_iff.1 hB).1; omega
  obtain ⟨cs, cs', ty, sz, m1, m2, m3, m4⟩ := hks i ks[i] (by simp [hi'])
  exact ⟨ks[i], cs, cs', ty, sz, by simp [hi'], m1, by simpa using m2, m3, Option.some.inj (hB.symm.trans m4)⟩
 refine ⟨hsz, hold, h1, h2, h3, fun i B' hB _ => ?_, fun i j B1 B2 b g1 g2 _ _ g3 g4 => ?_, fun i b hb => ?_⟩
 ·rw [heapOf_get] at hB
  obtain ⟨k, cs, cs', ty, sz, n1, n2, n3, n4, rfl⟩ := hob i B' hB
  obtain ⟨b, o, j1, j2, j3, j4⟩ := hW.obj k _ n2 (by simp)
  exact ⟨b, o, by simp [envOf, n1, j1], hfree i k b n1 j1 j2, j3, mpB_rel (envOf_moves ks r) n3 j1 (by simp [mpB, n4]) j4⟩
 ·rw [heapOf_get] at g1 g2
  obtain ⟨k, cs, cs', ty, sz, n1, n2, n3, n4, _⟩ := hob i B1 g1
  obtain ⟨k', cs2, cs2', ty2, sz2, p1, p2, p3, p4, _⟩ := hob j B2 g2
  simp only [envOf, n1, p1, Option.bind_some] at g3 g4
  have := hW.inj k k' _ _ b n2 p2 (by simp) (by simp) g3 g4
  subst this
  exact Option.some.inj (n3.symm.trans p3)
 ·rw [heapOf_get]
  simp only [envOf, Option.bind_eq_some_iff] at hb
  obtain ⟨k, hk, _⟩ := hb
  have := (List.getElem?_eq_some_iff.1 hk).1
  simp; omega
/-- A call that has been reckoned: its arguments, the blocks that they speak of; its result, the blocks as it leaves them. -/
structure Memo where
 f : FuncId
 args : List EV
 bs0 : List Blk
 v : EV
 bs1 : List Blk
/-- A condition on the start that all that can come keeps. -/
def Keeps (Tb : World → Prop) (B : Base) : Prop := ∀ r H w, WRel B r H w → Tb w
def MemoOk (P : Program) (Tb : World → Prop) (m : Memo) : Prop := ∀ B, Keeps Tb B → ∀ (r : Env) (w : World) (cargs : Array Value), WRel B r (heapOf m.bs0) w → renL r m.args = some cargs.toList →
 (∃ fn, P.funcs[m.f]? = some fn ∧ fn.body.isNone = false ∧ (fn.name == "runtime.NumGoroutine") = false) ∧
 Calls P m.f cargs w fun e w' => ∃ r' cv, e = .returned cv ∧ (∀ i b, i < m.bs0.length → r.b i = some b → r'.b i = some b ∧ r'.c i = r.c i) ∧ WRel B r' (heapOf m.bs1) w' ∧ ren r' m.v = some cv
def isRange : Nat → Nat → List Nat → Bool
 | _, 0, _ => true
 | i, n + 1, k :: l => Nat.beq k i && isRange (i + 1) n l
 | _, _, [] => false
theorem isRange_spec : ∀ {n i : Nat} {ks : List Nat}, isRange i n ks = true → ∀ j, j < n → ks[j]? = some (i + j)
 | 0, i, ks, h, j, hj => by omega
 | n + 1, i, [], h, j, hj => by cases h
 | n + 1, i, k :: l, h, j, hj => by
  simp only [isRange, Bool.and_eq_true] at h
  cases j with
  | zero => simp [Nat.eq_of_beq_eq_true h.1]
  | succ j =>
   have := isRange_spec h.2 j (by omega)
   rw [List.getElem?_cons_succ, this]
   congr 1; omega
def gcE (n0 : Nat) (v : EV) (H : Heap) : Option (EV × List Blk) :=
 let ks := reachE H 5000 (List.range n0 ++ keysE v) []
 bif isRange 0 n0 ks then (mpE (fun k => idxOf k ks 0) v).bind fun v' => (gcL H (fun k => idxOf k ks 0) ks 0).bind fun bs => some (v', bs) else none
theorem memo_ok {Tb : World → Prop} {call : CallF} (hcall : ∀ B, Keeps Tb B → CallOk P B call) {m : Memo} (h : ((call m.f m.args (heapOf m.bs0) m.bs0.length).bind fun x => gcE m.bs0.length x.1 x.2.1) = some (m.v, m.bs1)) : MemoOk P Tb m := by
 intro B hB r w cargs hW hargs
 simp only [Option.bind_eq_some_iff] at h
 obtain ⟨⟨v, H, k⟩, h1, h2⟩ := h
 obtain ⟨hf, hc⟩ := hcall B hB _ _ _ _ _ _ _ h1 r w cargs hW hargs
 refine ⟨hf, hc.mono ?_⟩
 rintro e w' ⟨r', cv, rfl, hle, hW', hv⟩
 simp only [gcE] at h2
 generalize reachE H 5000 (List.range m.bs0.length ++ keysE v) [] = ks at h2
 cases hr : isRange 0 m.bs0.length ks with
 | false => rw [hr] at h2; cases h2
 | true =>
  rw [hr] at h2
  simp only [cond_true, Option.bind_eq_some_iff] at h2
  obtain ⟨v', g1, bs, g2, g3⟩ := h2
  cases g3
  refine ⟨envOf ks r', cv, rfl, fun i b hi hb => ?_, wrel_gc hW' g2 hW'.size hW'.old hW'.os hW'.tape hW'.output (fun _ _ _ _ _ h => h), mpE_ren (envOf_moves ks r') _ _ _ g1 hv⟩
  have := isRange_spec hr i hi
  rw [Nat.zero_add] at this
  simp only [envOf, this, Option.bind_some]
  exact ⟨hle.b i b hb, hle.c i b hb⟩
/-! ### Such a call is made -/
theorem wrel_keep {w0 : Base} {r : Env} {H : Heap} {w w1 : World} {pr : Nat → Prop} (h : WRel w0 r H w) (hs : w.heap.size ≤ w1.heap.size) (h1 : w1.os = w.os) (h2 : w1.tape = w.tape) (h3 : w1.output = w.output) (hk : ∀ b, b < w.heap.size → pr b → w1.heap[b]? = w.heap[b]?) (hold : ∀ b, b < w0.w.heap.size → w0.pr b → pr b)
  (hlive : ∀ k B b, H.get k = some B → B ≠ .dead → r.b k = some b → pr b) : WRel w0 r H w1 :=
 ⟨Nat.le_trans h.size hs, fun b hb hp => (hk b (Nat.lt_of_lt_of_le hb h.size) (hold b hb hp)).trans (h.old b hb hp), h1.trans h.os, h2.trans h.tape, h3.trans h.output, fun k B hk' hB => by
  obtain ⟨b, o, j1, j2, j3, j4⟩ := h.obj k B hk' hB
  exact ⟨b, o, j1, j2, (hk b (Array.getElem?_eq_some_iff.1 j3).1 (hlive k B b hk' hB j1)).trans j3, j4⟩, h.inj, h.used⟩
def killL : List Nat → Heap → Heap
 | [], H => H
 | k :: l, H => killL l (H.set k .dead)
theorem killL_get : ∀ (l : List Nat) (H : Heap) (j : Nat), (j ∈ l → (killL l H).get j = some .dead) ∧ (j ∉ l → (killL l H).get j = H.get j)
 | [], H, j => ⟨fun h => (by cases h), fun _ => rfl⟩
 | k :: l, H, j => by
  obtain ⟨h1, h2⟩ := killL_get l (H.set k .dead) j
  refine ⟨fun h => ?_, fun h => ?_⟩
  ·by_cases e : j ∈ l
   ·exact h1 e
   ·simp only [killL]
    rw [h2 e]
    rcases List.mem_cons.1 h with rfl | h
    ·rw [Tr.get_set, if_pos rfl]
    ·exact absurd h e
  ·simp only [List.mem_cons, not_or] at h
   simp only [killL]
   rw [h2 h.2, Tr.get_set, if_neg h.1]
theorem killL_rel {w0 : Base} {r : Env} {w : World} : ∀ {l : List Nat} {H : Heap}, WRel w0 r H w → (∀ k ∈ l, H.get k ≠ none) → WRel w0 r (killL l H) w
 | [], H, h, _ => h
 | k :: l, H, h, hk => by
  refine killL_rel (l := l) (h.kill (hk k (by simp))) fun j hj => ?_
  rw [Tr.get_set]
  by_cases e : j = k
  ·simp [e]
  ·rw [if_neg e]; exact hk j (by simp [hj])
/-- The blocks that the arguments speak of, as the call leaves them. -/
def overBs (g : Nat → Option Nat) : List Nat → List Blk → Heap → Option Heap
 | [], _, H => some H
 | k :: l, B :: bs, H => match mpB g B with
  | some B' => overBs g l bs (H.set k B')
  | none => none
 | _ :: _, [], _ => none
theorem overBs_spec {g : Nat → Option Nat} : ∀ {ks : List Nat} {bs : List Blk} {H H' : Heap}, overBs g ks bs H = some H' → (∀ (i j k : Nat), ks[i]? = some k → ks[j]? = some k → i = j) → (∀ (i k : Nat), ks[i]? = some k → ∃ B B', bs[i]? = some B ∧ mpB g B = some B' ∧ H'.get k = some B') ∧ (∀ j, j ∉ ks → H'.get j = H.get j)
 | [], bs, H, H', h, _ => by cases h; exact ⟨fun i k h => by simp at h, fun _ _ => rfl⟩
 | k0 :: l, [], H, H', h, _ => by cases h
 | k0 :: l, B :: bs, H, H', h, hn => by
  simp only [overBs] at h
  split at h
  ·rename_i B' hB
   have hn' : ∀ (i j k : Nat), l[i]? = some k → l[j]? = some k → i = j := fun i j k h1 h2 => by
    have := hn (i + 1) (j + 1) k (by simpa using h1) (by simpa using h2)
    omega
   obtain ⟨h1, h2⟩ := overBs_spec h hn'
   have hk0 : k0 ∉ l := fun hm => by
    obtain ⟨i, hi⟩ := List.getElem?_of_mem hm
    have := hn 0 (i + 1) k0 (by simp) (by simpa using hi)
    omega
   refine ⟨fun i k hik => ?_, fun j hj => ?_⟩
   ·cases i with
    | zero =>
     simp at hik
     subst hik
     exact ⟨B, B', rfl, hB, by rw [h2 _ hk0, Tr.get_set, if_pos rfl]⟩
    | succ i => simpa using h1 i k (by simpa using hik)
   ·simp only [List.mem_cons, not_or] at hj
    rw [h2 j hj.2, Tr.get_set, if_neg hj.1]
  ·cases h
def newBs (g : Nat → Option Nat) (kc : Nat) : List Blk → Nat → Heap → Option Heap
 | [], _, H => some H
 | B :: l, i, H => match H.get (kc + i), mpB g B with
  | none, some B' => newBs g kc l (i + 1) (H.set (kc + i) B')
  | _, _ => none
theorem newBs_spec {g : Nat → Option Nat} {kc : Nat} : ∀ {l : List Blk} {i : Nat} {H H' : Heap}, newBs g kc l i H = some H' → (∀ (t : Nat) (B : Blk), l[t]? = some B → H.get (kc + i + t) = none ∧ ∃ B', mpB g B = some B' ∧ H'.get (kc + i + t) = some B') ∧ (∀ j, (j < kc + i ∨ kc + i + l.length ≤ j) → H'.get j = H.get j)
 | [], i, H, H', h => by cases h; exact ⟨fun t B h => by simp at h, fun _ _ => rfl⟩
 | B0 :: l, i, H, H', h => by
  simp only [newBs] at h
  split at h
  ·rename_i B' hk hB
   obtain ⟨h1, h2⟩ := newBs_spec h
   refine ⟨fun t B hB' => ?_, fun j hj => ?_⟩
   ·cases t with
    | zero =>
     simp at hB'
     subst hB'
     refine ⟨hk, B', hB, ?_⟩
     rw [Nat.add_zero, h2 _ (.inl (by omega)), Tr.get_set, if_pos rfl]
    | succ t =>
     obtain ⟨a1, B2, a2, a3⟩ := h1 t B (by simpa using hB')
     have e : kc + (i + 1) + t = kc + i + (t + 1) := by omega
     rw [e] at a1 a3
     rw [Tr.get_set, if_neg (by omega)] at a1
     exact ⟨a1, B2, a2, a3⟩
   ·simp only [List.length_cons] at hj
    rw [h2 j (by omega), Tr.get_set, if_neg (by omega)]
  ·cases h
def bsQ : List Blk → List Blk → Bool
 | [], [] => true
 | a :: l, b :: m => Blk.q a b && bsQ l m
 | _, _ => false
theorem bsQ_eq : ∀ {x y : List Blk}, bsQ x y = true → x = y
 | [], [], _ => rfl
 | [], _ :: _, h => by cases h
 | _ :: _, [], h => by cases h
 | a :: l, b :: m, h => by
  simp only [bsQ, Bool.and_eq_true] at h
  rw [Blk.q_eq h.1, bsQ_eq h.2]
/-- Where the blocks go. -/
def goesTo (ks : List Nat) (kc : Nat) (i : Nat) : Option Nat := match ks[i]? with
 | some k => some k
 | none => some (kc + (i - ks.length))
def memoAt (m : Memo) (ks : List Nat) (H : Heap) (kc : Nat) : Option (EV × Heap × Nat) :=
 match overBs (goesTo ks kc) ks m.bs1 H with
 | some H1 => match newBs (goesTo ks kc) kc (m.bs1.drop ks.length) 0 H1, mpE (goesTo ks kc) m.v with
  | some H2, some v => some (v, H2, kc + (m.bs1.length - ks.length))
  | _, _ => none
 | none => none
def fits (m : Memo) (ks : List Nat) (args : List EV) (H : Heap) : Bool := match mpL (fun k => idxOf k ks 0) args, gcL H (fun k => idxOf k ks 0) ks 0 with
 | some a, some bs => EV.qL a m.args && bsQ bs m.bs0
 | _, _ => false
def memoE : List Memo → CallF
 | [], _, _, _, _ => none
 | m :: tab, f, args, H, kc => bif Nat.beq f m.f && fits m (reachE H 5000 (keysL args) []) args H then memoAt m (reachE H 5000 (keysL args) []) H kc else memoE tab f args H kc
theorem memoAt_ok {Tb : World → Prop} {w0 : Base} (h0 : Keeps Tb w0) {m : Memo} (hm : MemoOk P Tb m) {ks : List Nat} {args : List EV} {H H' : Heap} {kc k' : Nat} {v : EV} (hfit : fits m ks args H = true) (h : memoAt m ks H kc = some (v, H', k')) {r : Env} {w : World} {cargs : Array Value} (hW : WRel w0 r H w) (hargs : renL r args = some cargs.toList) :
  (∃ fn, P.funcs[m.f]? = some fn ∧ fn.body.isNone = false ∧ (fn.name == "runtime.NumGoroutine") = false) ∧ Calls P m.f cargs w fun e w' => ∃ r' cv, e = .returned cv ∧ r.Le r' ∧ WRel w0 r' H' w' ∧ ren r' v = some cv := by
 unfold fits at hfit
 split at hfit
 ·rename_i a bs ha hg
  simp only [Bool.and_eq_true] at hfit
  obtain rfl := EV.qL_eq hfit.1
  have hbs := bsQ_eq hfit.2
  subst hbs
  obtain ⟨hlen, hks⟩ := gcL_spec hg
  have hin : ∀ (i k : Nat), ks[i]? = some k → ∃ cs ty sz, H.get k = some (.live cs ty sz) ∧ idxOf k ks 0 = some i := fun i k hik => by
   obtain ⟨cs, cs', ty, sz, m1, m2, m3, m4⟩ := hks i k hik
   exact ⟨cs, ty, sz, m1, by simpa using m2⟩
  have hnd : ∀ (i j k : Nat), ks[i]? = some k → ks[j]? = some k → i = j := fun i j k h1 h2 => by
   obtain ⟨_, _, _, _, h3⟩ := hin i k h1
   obtain ⟨_, _, _, _, h4⟩ := hin j k h2
   exact Option.some.inj (h3.symm.trans h4)
  generalize hpr : (fun b => ∀ (i k : Nat), ks[i]? = some k → r.b k ≠ some b : Nat → Prop) = pr
  have hfr : ∀ (i k b : Nat), ks[i]? = some k → r.b k = some b → ¬ pr b := fun i k b h1 h2 hp => by rw [← hpr] at hp; exact hp i k h1 h2
  have hold : ∀ b, b < w0.w.heap.size → w0.pr b → pr b := fun b hb hp => by
   rw [← hpr]
   intro i k hik hrb
   obtain ⟨cs, ty, sz, h1, _⟩ := hin i k hik
   obtain ⟨b', o, j1, j2, _⟩ := hW.obj k _ h1 (by simp)
   obtain rfl : b' = b := Option.some.inj (j1.symm.trans hrb)
   have := j2 hp
   omega
  have hWB : WRel ⟨w, pr⟩ (envOf ks r) (heapOf m.bs0) w := wrel_gc hW hg (B := ⟨w, pr⟩) (Nat.le_refl _) (fun _ _ _ => rfl) rfl rfl rfl (fun i k b h1 h2 _ hp => absurd hp (hfr i k b h1 h2))
  have hkill := killL_rel (l := ks) hW (fun k hk => by
   obtain ⟨i, hi⟩ := List.getElem?_of_mem hk
   obtain ⟨cs, ty, sz, h1, _⟩ := hin i k hi
   rw [h1]; simp)
  have hrest : ∀ {w1 : World}, w.heap.size ≤ w1.heap.size → w1.os = w.os → w1.tape = w.tape → w1.output = w.output → (∀ b, b < w.heap.size → pr b → w1.heap[b]? = w.heap[b]?) → WRel w0 r (killL ks H) w1 := fun hs e1 e2 e3 hk =>
   wrel_keep hkill hs e1 e2 e3 hk hold fun k B b hk' hB hb => by
    rw [← hpr]
    intro i k2 hik2 hrb
    obtain ⟨cs, ty, sz, q1, _⟩ := hin i k2 hik2
    by_cases hmem : k ∈ ks
    ·rw [(killL_get ks H k).1 hmem] at hk'
     cases hk'; exact hB rfl
    ·rw [(killL_get ks H k).2 hmem] at hk'
     have := hW.inj k k2 _ _ b hk' q1 hB (by simp) hb hrb
     subst this
     exact hmem (List.mem_of_getElem? hik2)
  have hkeeps : Keeps Tb ⟨w, pr⟩ := fun r1 H1 w1 h1 => h0 r (killL ks H) w1 (hrest h1.size h1.os h1.tape h1.output h1.old)
  obtain ⟨hf, hc⟩ := hm ⟨w, pr⟩ hkeeps (envOf ks r) w cargs hWB (mpL_ren (envOf_moves ks r) _ _ _ ha hargs)
  refine ⟨hf, hc.mono ?_⟩
  rintro e w1 ⟨r1, cv, rfl, hr1, hW1, hcv⟩
  unfold memoAt at h
  split at h
  ·rename_i H1 hH1
   split at h
   ·rename_i H2 v2 hH2 hv2
    obtain ⟨e3, e4, e5⟩ : v2 = v ∧ H2 = H' ∧ kc + (m.bs1.length - ks.length) = k' := by simpa using h
    subst e3; subst e5; subst e4
    obtain ⟨o1, o2⟩ := overBs_spec hH1 hnd
    obtain ⟨n1, n2⟩ := newBs_spec hH2
    simp only [Nat.add_zero, List.getElem?_drop, List.length_drop] at n1 n2
    have hA := hrest hW1.size hW1.os hW1.tape hW1.output hW1.old
    have hnew : ∀ j, kc ≤ j ∧ j < kc + (m.bs1.length - ks.length) → ∃ t B B', j = kc + t ∧ m.bs1[ks.length + t]? = some B ∧ H1.get j = Option.none ∧ mpB (goesTo ks kc) B = some B' ∧ H2.get j = some B' := fun j hj => by
     obtain ⟨t, rfl⟩ : ∃ t, j = kc + t := ⟨j - kc, by omega⟩
     have ht : ks.length + t < m.bs1.length := by omega
     obtain ⟨a1, B', a2, a3⟩ := n1 t m.bs1[ks.length + t] (by simp [ht])
     exact ⟨t, _, B', rfl, by simp [ht], a1, a2, a3⟩
    have hkin : ∀ k, k ∈ ks → (k < kc ∨ kc + (m.bs1.length - ks.length) ≤ k) := fun k hk => by
     rcases Nat.lt_or_ge k kc with h | h
     ·exact .inl h
     ·rcases Nat.lt_or_ge k (kc + (m.bs1.length - ks.length)) with h' | h'
      ·obtain ⟨t, B, B', _, _, q, _⟩ := hnew k ⟨h, h'⟩
       obtain ⟨i, hi⟩ := List.getElem?_of_mem hk
       obtain ⟨B2, B2', _, _, q2⟩ := o1 i k hi
       rw [q] at q2; cases q2
      ·exact .inr h'
    have hHnew : ∀ j, kc ≤ j ∧ j < kc + (m.bs1.length - ks.length) → H.get j = Option.none := fun j hj => by
     obtain ⟨t, B, B', _, _, q, _⟩ := hnew j hj
     rw [o2 j (fun hk => by have := hkin j hk; omega)] at q
     exact q
    generalize hr2 : (⟨fun j => if kc ≤ j ∧ j < kc + (m.bs1.length - ks.length) then r1.b (ks.length + (j - kc)) else r.b j, fun j => if kc ≤ j ∧ j < kc + (m.bs1.length - ks.length) then r1.c (ks.length + (j - kc)) else r.c j⟩ : Env) = r2
    have e1 : ∀ t, t < m.bs1.length - ks.length → r2.b (kc + t) = r1.b (ks.length + t) ∧ r2.c (kc + t) = r1.c (ks.length + t) := fun t ht => by
     rw [← hr2]
     simp only [show kc ≤ kc + t ∧ kc + t < kc + (m.bs1.length - ks.length) from ⟨by omega, by omega⟩, and_self, if_true, Nat.add_sub_cancel_left]
    have e2 : ∀ j, (j < kc ∨ kc + (m.bs1.length - ks.length) ≤ j) → r2.b j = r.b j ∧ r2.c j = r.c j := fun j hj => by
     rw [← hr2]
     have : ¬ (kc ≤ j ∧ j < kc + (m.bs1.length - ks.length)) := by omega
     simp only [this, if_false, and_self]
    have hcase : ∀ j, (kc ≤ j ∧ j < kc + (m.bs1.length - ks.length)) ∨ (j < kc ∨ kc + (m.bs1.length - ks.length) ≤ j) := fun j => by omega
    have hle : r.Le r2 := by
     have key : ∀ k x, r.b k = some x → (k < kc ∨ kc + (m.bs1.length - ks.length) ≤ k) := fun k x hx => by
      rcases hcase k with h | h
      ·rw [hW.fresh (hHnew k h)] at hx; cases hx
      ·exact h
     exact ⟨fun k x hx => (e2 k (key k x hx)).1.trans hx, fun k x hx => (e2 k (key k x hx)).2⟩
    -- a key of the arguments names the same block before and after
    have hkb : ∀ (i k b : Nat), ks[i]? = some k → r1.b i = some b → r.b k = some b ∧ r.c k = r1.c i := fun i k b hik hb => by
     obtain ⟨cs, ty, sz, q1, _⟩ := hin i k hik
     obtain ⟨b', o, j1, _⟩ := hW.obj k _ q1 (by simp)
     obtain ⟨p1, p2⟩ := hr1 i b' (by have := (List.getElem?_eq_some_iff.1 hik).1; omega) (by simp [envOf, hik, j1])
     obtain rfl : b' = b := Option.some.inj (p1.symm.trans hb)
     refine ⟨j1, ?_⟩
     rw [p2]
     simp [envOf, hik]
    have hmv : Moves (goesTo ks kc) r1 r2 := fun i j b hij hb => by
     unfold goesTo at hij
     split at hij
     ·rename_i k hik
      have hkj : k = j := Option.some.inj hij
      rw [hkj] at hik
      obtain ⟨p1, p2⟩ := hkb i j b hik hb
      obtain ⟨q1, q2⟩ := e2 j (hkin j (List.mem_of_getElem? hik))
      exact ⟨q1.trans p1, q2.trans p2⟩
     ·rename_i hno
      cases hij
      have hge : ks.length ≤ i := by simpa using hno
      have hlt : i < m.bs1.length := by
       have := hW1.used i b hb
       rw [heapOf_get] at this
       cases hq : m.bs1[i]? with
       | none => exact absurd hq this
       | some B => exact (List.getElem?_eq_some_iff.1 hq).1
      obtain ⟨q1, q2⟩ := e1 (i - ks.length) (by omega)
      have : ks.length + (i - ks.length) = i := by omega
      rw [this] at q1 q2
      exact ⟨q1.trans hb, q2⟩
    -- every key that is live is of one of three kinds
    have kinds : ∀ j B, H2.get j = some B → B ≠ .dead → (∃ i B0, m.bs1[i]? = some B0 ∧ mpB (goesTo ks kc) B0 = some B ∧ goesTo ks kc i = some j) ∨ ((killL ks H).get j = some B ∧ r2.b j = r.b j ∧ r2.c j = r.c j) := fun j B hj hB => by
     rcases hcase j with hc | hc
     ·obtain ⟨t, B0, B1, rfl, a1, a2, a3, a4⟩ := hnew j hc
      rw [a4] at hj
      cases hj
      refine .inl ⟨ks.length + t, B0, a1, a3, ?_⟩
      unfold goesTo
      rw [List.getElem?_eq_none (by omega)]
      simp
     ·rw [n2 j hc] at hj
      by_cases hmem : j ∈ ks
      ·obtain ⟨i, hi⟩ := List.getElem?_of_mem hmem
       obtain ⟨B0, B1, a1, a2, a3⟩ := o1 i j hi
       rw [a3] at hj
       cases hj
       exact .inl ⟨i, B0, a1, a2, by unfold goesTo; rw [hi]⟩
      ·rw [o2 j hmem] at hj
       exact .inr ⟨by rw [(killL_get ks H j).2 hmem]; exact hj, e2 j hc⟩
    refine ⟨r2, cv, rfl, hle, ⟨hA.size, hA.old, hA.os, hA.tape, hA.output, fun j B hj hB => ?_, fun j j' B B' b h1 h2 d1 d2 h3 h4 => ?_, fun j b hb => ?_⟩, mpE_ren hmv _ _ _ hv2 hcv⟩
    ·rcases kinds j B hj hB with ⟨i, B0, a1, a2, a3⟩ | ⟨a1, a2, a3⟩
     ·obtain ⟨b, o, j1, j2, j3, j4⟩ := hW1.obj i B0 (by rw [heapOf_get]; exact a1) (by rintro rfl; cases a2)
      refine ⟨b, o, (hmv i j b a3 j1).1, fun hp => ?_, j3, mpB_rel hmv a3 j1 a2 j4⟩
      rcases Nat.lt_or_ge b w0.w.heap.size with hlt | hge
      ·have := j2 (hold b hlt hp)
       have := hW.size
       simp only at *
       omega
      ·exact hge
     ·obtain ⟨b, o, j1, j2, j3, j4⟩ := hA.obj j B a1 hB
      exact ⟨b, o, a2.trans j1, j2, j3, j4.mono a3 hle⟩
    ·have low : ∀ j B b, (killL ks H).get j = some B → B ≠ .dead → r.b j = some b → pr b ∧ b < w.heap.size := fun j B b q1 q2 q3 => by
      have hnm : j ∉ ks := fun hmem => by rw [(killL_get ks H j).1 hmem] at q1; cases q1; exact q2 rfl
      rw [(killL_get ks H j).2 hnm] at q1
      obtain ⟨b', o, j1, j2, j3, j4⟩ := hW.obj j B q1 q2
      obtain rfl : b' = b := Option.some.inj (j1.symm.trans q3)
      refine ⟨?_, (Array.getElem?_eq_some_iff.1 j3).1⟩
      rw [← hpr]
      intro i k2 hik2 hrb
      obtain ⟨cs, ty, sz, p1, _⟩ := hin i k2 hik2
      have := hW.inj j k2 _ _ b' q1 p1 q2 (by simp) q3 hrb
      subst this
      exact hnm (List.mem_of_getElem? hik2)
     have high : ∀ i j B0 B b, m.bs1[i]? = some B0 → mpB (goesTo ks kc) B0 = some B → goesTo ks kc i = some j → r2.b j = some b → r1.b i = some b ∧ (pr b → w.heap.size ≤ b) := fun i j B0 B b q1 q2 q3 q4 => by
      obtain ⟨b', o, j1, j2, j3, j4⟩ := hW1.obj i B0 (by rw [heapOf_get]; exact q1) (by rintro rfl; cases q2)
      have := (hmv i j b' q3 j1).1
      obtain rfl : b' = b := Option.some.inj (this.symm.trans q4)
      exact ⟨j1, j2⟩
     rcases kinds j B h1 d1 with ⟨i, B0, a1, a2, a3⟩ | ⟨a1, a2, a3⟩ <;> rcases kinds j' B' h2 d2 with ⟨i', B0', a1', a2', a3'⟩ | ⟨a1', a2', a3'⟩
     ·obtain ⟨q1, _⟩ := high i j B0 B b a1 a2 a3 h3
      obtain ⟨q2, _⟩ := high i' j' B0' B' b a1' a2' a3' h4
      have := hW1.inj i i' _ _ b (by rw [heapOf_get]; exact a1) (by rw [heapOf_get]; exact a1') (by rintro rfl; cases a2) (by rintro rfl; cases a2') q1 q2
      subst this
      exact Option.some.inj (a3.symm.trans a3')
     ·obtain ⟨_, q1⟩ := high i j B0 B b a1 a2 a3 h3
      obtain ⟨q2, q3⟩ := low j' B' b a1' d2 (a2'.symm.trans h4)
      have := q1 q2
      omega
     ·obtain ⟨_, q1⟩ := high i' j' B0' B' b a1' a2' a3' h4
      obtain ⟨q2, q3⟩ := low j B b a1 d1 (a2.symm.trans h3)
      have := q1 q2
      omega
     ·exact hA.inj j j' B B' b a1 a1' d1 d2 (a2.symm.trans h3) (a2'.symm.trans h4)
    ·rcases hcase j with hc | hc
     ·obtain ⟨t, B0, B1, _, _, _, _, a4⟩ := hnew j hc
      rw [a4]; simp
     ·rw [n2 j hc]
      by_cases hmem : j ∈ ks
      ·obtain ⟨i, hi⟩ := List.getElem?_of_mem hmem
       obtain ⟨B0, B1, _, _, a3⟩ := o1 i j hi
       rw [a3]; simp
      ·rw [o2 j hmem]
       exact hW.used j b ((e2 j hc).1.symm.trans hb)
   ·cases h
  ·cases h
 ·cases hfit
theorem memoE_ok {Tb : World → Prop} {w0 : Base} (h0 : Keeps Tb w0) : ∀ {tab : List Memo}, (∀ m ∈ tab, MemoOk P Tb m) → CallOk P w0 (memoE tab)
 | [], _ => fun f args H kc v H' k' h => by cases h
 | m :: tab, hm => by
  intro f args H kc v H' k' h r w cargs hW hargs
  simp only [memoE] at h
  cases hq : (Nat.beq f m.f && fits m (reachE H 5000 (keysL args) []) args H) with
  | false => rw [hq] at h; exact memoE_ok h0 (fun x hx => hm x (List.mem_cons_of_mem _ hx)) _ _ _ _ _ _ _ h r w cargs hW hargs
  | true =>
   rw [hq] at h
   simp only [cond_true] at h
   simp only [Bool.and_eq_true] at hq
   obtain rfl := Nat.eq_of_beq_eq_true hq.1
   exact memoAt_ok h0 (hm m (List.mem_cons_self ..)) hq.2 h hW hargs
/-! ### The library's functions, by their contracts -/
def valsE : List EV → Option (List Value)
 | [] => some []
 | .v x :: l => (valsE l).bind fun m => some (x :: m)
 | _ :: _ => none
theorem valsE_eq : ∀ {l : List EV} {m : List Value}, valsE l = some m → l = m.map .v
 | [], m, h => by cases h; rfl
 | .v x :: l, m, h => by
  simp only [valsE, Option.bind_eq_some_iff] at h
  obtain ⟨y, h1, h2⟩ := h
  cases h2
  rw [valsE_eq h1]; rfl
 | .p .. :: _, _, h => by cases h
 | .sl .. :: _, _, h => by cases h
 | .fn .. :: _, _, h => by cases h
 | .ifc .. :: _, _, h => by cases h
 | .ag .. :: _, _, h => by cases h
 | .tu .. :: _, _, h => by cases h
 | .yl .. :: _, _, h => by cases h
def EV.ofR : Value → EV
 | .tuple vs => .tu (vs.toList.map EV.of)
 | x => EV.of x
theorem ren_ofL {r : Env} : ∀ l : List Value, renL r (l.map EV.of) = some l
 | [] => rfl
 | x :: l => renL_cons.2 ⟨x, l, ren_of x, ren_ofL l, rfl⟩
theorem ren_ofR {r : Env} (x : Value) : ren r (EV.ofR x) = some x := by
 unfold EV.ofR
 split
 ·simp [ren, ren_ofL]
 ·exact ren_of _
abbrev NatT := FuncId → List Value → Option Value
def natE (tab : NatT) : CallF := fun f args H k => (valsE args).bind fun vs => (tab f vs).bind fun v => some (EV.ofR v, H, k)
def NatOk (P : Program) (Tb : World → Prop) (tab : NatT) : Prop := ∀ f vs v, tab f vs = some v → (∃ fn, P.funcs[f]? = some fn ∧ fn.body.isNone = false ∧ (fn.name == "runtime.NumGoroutine") = false) ∧ ∀ w, Tb w → Calls P f vs.toArray w fun e w' => e = .returned v ∧ More w w'
theorem natE_ok {Tb : World → Prop} {w0 : Base} (h0 : Keeps Tb w0) {tab : NatT} (hn : NatOk P Tb tab) : CallOk P w0 (natE tab) := by
 intro f args H k v H' k' h r w cargs hW hargs
 simp only [natE, Option.bind_eq_some_iff] at h
 obtain ⟨vs, h1, y, h2, h3⟩ := h
 cases h3
 have ha := valsE_eq h1
 subst ha
 have hca : cargs = vs.toArray := by
  rw [renL_v] at hargs
  rw [Option.some.inj hargs]
 subst hca
 obtain ⟨hf, hc⟩ := hn f vs y h2
 refine ⟨hf, (hc w (h0 _ _ _ hW)).mono ?_⟩
 rintro e w' ⟨rfl, hm⟩
 exact ⟨r, y, rfl, Env.Le.refl r, hW.more hm.size hm.keep hm.os hm.tape hm.output, ren_ofR y⟩
/-- One contract behind another. -/
def orE (a b : CallF) : CallF := fun f args H k => match a f args H k with
 | some x => some x
 | none => b f args H k
theorem orE_ok {w0 : Base} {a b : CallF} (ha : CallOk P w0 a) (hb : CallOk P w0 b) : CallOk P w0 (orE a b) := by
 intro f args H k v H' k' h
 simp only [orE] at h
 split at h
 ·rename_i x hx
  cases h
  exact ha _ _ _ _ _ _ _ hx
 ·exact hb _ _ _ _ _ _ _ h
/-- The evaluator with contracts of the library and with memos. -/
abbrev runM (P : Program) (nt : NatT) (tab : List Memo) (L m : Nat) : CallF := (runP P (orE (natE nt) (memoE tab)) L m).call
theorem runM_ok {Tb : World → Prop} {nt : NatT} (hn : NatOk P Tb nt) {tab : List Memo} (hm : ∀ m ∈ tab, MemoOk P Tb m) (L m : Nat) : ∀ B, Keeps Tb B → CallOk P B (runM P nt tab L m) :=
 fun B h0 => (runP_ok (orE_ok (natE_ok h0 hn) (memoE_ok h0 hm)) m).1
/-- A call is reckoned, with memos. -/
theorem memo_run {Tb : World → Prop} {nt : NatT} (hn : NatOk P Tb nt) {tab : List Memo} (hm : ∀ m ∈ tab, MemoOk P Tb m) (L d : Nat) {m : Memo} (h : ((runM P nt tab L d m.f m.args (heapOf m.bs0) m.bs0.length).bind fun x => gcE m.bs0.length x.1 x.2.1) = some (m.v, m.bs1)) : MemoOk P Tb m :=
 memo_ok (runM_ok hn hm L d) h
/-- A closed run with a base value. -/
theorem memo_calls {Tb : World → Prop} (hT : ∀ w w', More w w' → Tb w → Tb w') {m : Memo} (h : MemoOk P Tb m) {vs : List Value} (ha : m.args = vs.map .v) (hb : m.bs0 = []) {x : Value} (hx : m.v = .v x) (w : World) (hw : Tb w) :
  (∃ fn, P.funcs[m.f]? = some fn ∧ fn.body.isNone = false ∧ (fn.name == "runtime.NumGoroutine") = false) ∧ Calls P m.f vs.toArray w fun e w' => e = .returned x ∧ More w w' := by
 have hmore : ∀ r H w', WRel ⟨w, fun _ => True⟩ r H w' → More w w' := fun r H w' hW => ⟨hW.size, hW.os, hW.tape, hW.output, fun b hb => hW.old b hb trivial⟩
 obtain ⟨hf, hc⟩ := h ⟨w, fun _ => True⟩ (fun r H w' hW => hT _ _ (hmore r H w' hW) hw) ⟨fun _ => none, fun _ => 0⟩ w vs.toArray
  (by rw [hb]; exact ⟨Nat.le_refl _, fun _ _ _ => rfl, rfl, rfl, rfl, fun k B h => (by rw [heapOf_get] at h; simp at h), fun k k' B B' b h => (by rw [heapOf_get] at h; simp at h), fun k b h => (by cases h)⟩)
  (by rw [ha, renL_v])
 refine ⟨hf, hc.mono ?_⟩
 rintro e w' ⟨r, cv, rfl, _, hW, hcv⟩
 rw [hx] at hcv
 cases hcv
 exact ⟨rfl, hmore _ _ _ hW⟩
end
end Go.Ev
