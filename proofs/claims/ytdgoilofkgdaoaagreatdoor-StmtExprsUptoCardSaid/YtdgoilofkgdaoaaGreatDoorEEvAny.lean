/- The evaluator's regions whose order is open. -/
import Derived.Test.YtdgoilofkgdaoaaGreatDoorEEvCode
set_option linter.unusedVariables false
set_option linter.unusedSimpArgs false
namespace Go.Ev
noncomputable section
open Go.Am
variable {P : Program}
def vq : Value → Value → Bool
 | .int k a, .int k' b => decide (k = k') && decide (a = b)
 | .bool a, .bool b => a == b
 | .string a, .string b => a.data.toList == b.data.toList
 | .pointer none, .pointer none => true
 | .slice none 0 0, .slice none 0 0 => true
 | .nilFunc, .nilFunc => true
 | .nilIface, .nilIface => true
 | .tuple a, .tuple b => a.isEmpty && b.isEmpty
 | _, _ => false
theorem vq_eq {x y : Value} (h : vq x y = true) : x = y := by
 unfold vq at h
 split at h <;> try (cases h; done)
 ·simp only [Bool.and_eq_true, decide_eq_true_eq] at h; rw [h.1, h.2]
 ·simp only [beq_iff_eq] at h; rw [h]
 ·simp only [beq_iff_eq] at h
  rename_i a b
  have : a.data = b.data := Array.toList_inj.1 h
  rw [show a = b from ByteArray.ext this]
 ·rfl
 ·rfl
 ·rfl
 ·rfl
 ·simp only [Bool.and_eq_true, Array.isEmpty_iff] at h; rw [h.1, h.2]
mutual
def EV.q : EV → EV → Bool
 | .v x, .v y => vq x y
 | .p k o, .p k' o' => Nat.beq k k' && Nat.beq o o'
 | .sl k o l c b, .sl k' o' l' c' b' => Nat.beq k k' && Nat.beq o o' && Nat.beq l l' && Nat.beq c c' && (b == b')
 | .fn f a c, .fn g b d => Nat.beq f g && EV.qL a b && EV.qL c d
 | .ifc t x, .ifc u y => Nat.beq t u && EV.q x y
 | .ag a, .ag b => EV.qL a b
 | .tu a, .tu b => EV.qL a b
 | .yl a, .yl b => Nat.beq a b
 | _, _ => false
def EV.qL : List EV → List EV → Bool
 | [], [] => true
 | x :: l, y :: m => EV.q x y && EV.qL l m
 | _, _ => false
end
mutual
theorem EV.q_eq : ∀ {x y : EV}, EV.q x y = true → x = y
 | .v x, y, h => by cases y <;> simp only [EV.q] at h <;> first | (cases h; done) | rw [vq_eq h]
 | .p k o, y, h => by
  cases y <;> simp only [EV.q] at h <;> first | (cases h; done) | skip
  simp only [Bool.and_eq_true] at h; rw [Nat.eq_of_beq_eq_true h.1, Nat.eq_of_beq_eq_true h.2]
 | .sl k o l c b, y, h => by
  cases y <;> simp only [EV.q] at h <;> first | (cases h; done) | skip
  simp only [Bool.and_eq_true, beq_iff_eq] at h
  obtain ⟨⟨⟨⟨h1, h2⟩, h3⟩, h4⟩, h5⟩ := h
  rw [Nat.eq_of_beq_eq_true h1, Nat.eq_of_beq_eq_true h2, Nat.eq_of_beq_eq_true h3, Nat.eq_of_beq_eq_true h4, h5]
 | .fn f a c, y, h => by
  cases y <;> simp only [EV.q] at h <;> first | (cases h; done) | skip
  simp only [Bool.and_eq_true] at h; rw [Nat.eq_of_beq_eq_true h.1.1, EV.qL_eq h.1.2, EV.qL_eq h.2]
 | .ifc t x, y, h => by
  cases y <;> simp only [EV.q] at h <;> first | (cases h; done) | skip
  simp only [Bool.and_eq_true] at h; rw [Nat.eq_of_beq_eq_true h.1, EV.q_eq h.2]
 | .ag a, y, h => by
  cases y <;> simp only [EV.q] at h <;> first | (cases h; done) | rw [EV.qL_eq h]
 | .tu a, y, h => by
  cases y <;> simp only [EV.q] at h <;> first | (cases h; done) | rw [EV.qL_eq h]
 | .yl a, y, h => by
  cases y <;> simp only [EV.q] at h <;> first | (cases h; done) | rw [Nat.eq_of_beq_eq_true h]
theorem EV.qL_eq : ∀ {x y : List EV}, EV.qL x y = true → x = y
 | [], y, h => by cases y <;> simp only [EV.qL] at h <;> first | (cases h; done) | rfl
 | x :: l, y, h => by
  cases y <;> simp only [EV.qL] at h <;> first | (cases h; done) | skip
  simp only [Bool.and_eq_true] at h; rw [EV.q_eq h.1, EV.qL_eq h.2]
end
def Blk.q : Blk → Blk → Bool
 | .live a t s, .live b u z => Nat.beq t u && Nat.beq s z && EV.qL a b
 | .dead, .dead => true
 | .none, .none => true
 | _, _ => false
theorem Blk.q_eq {x y : Blk} (h : Blk.q x y = true) : x = y := by
 cases x <;> cases y <;> simp only [Blk.q] at h <;> first | (cases h; done) | rfl | skip
 simp only [Bool.and_eq_true] at h
 rw [Nat.eq_of_beq_eq_true h.1.1, Nat.eq_of_beq_eq_true h.1.2, EV.qL_eq h.2]
def lq {α : Type} (f : α → α → Bool) : List (Nat × α) → List (Nat × α) → Bool
 | [], [] => true
 | (i, x) :: l, (j, y) :: m => Nat.beq i j && f x y && lq f l m
 | _, _ => false
theorem lq_eq {α : Type} {f : α → α → Bool} (hf : ∀ {x y}, f x y = true → x = y) : ∀ {x y : List (Nat × α)}, lq f x y = true → x = y
 | [], [], _ => rfl
 | [], _ :: _, h => by cases h
 | _ :: _, [], h => by cases h
 | (i, x) :: l, (j, y) :: m, h => by
  simp only [lq, Bool.and_eq_true] at h
  rw [Nat.eq_of_beq_eq_true h.1.1, hf h.1.2, lq_eq hf h.2]
def Tr.q {α : Type} (f : α → α → Bool) : Tr α → Tr α → Bool
 | .l x, .l y => lq f x y
 | .n a b, .n c d => Tr.q f a c && Tr.q f b d
 | _, _ => false
theorem Tr.q_eq {α : Type} {f : α → α → Bool} (hf : ∀ {x y}, f x y = true → x = y) : ∀ {x y : Tr α}, Tr.q f x y = true → x = y
 | .l x, .l y, h => by rw [lq_eq hf h]
 | .n a b, .n c d, h => by
  simp only [Tr.q, Bool.and_eq_true] at h
  rw [Tr.q_eq hf h.1, Tr.q_eq hf h.2]
 | .l _, .n _ _, h => by cases h
 | .n _ _, .l _, h => by cases h
def Df.q : Df → Df → Bool
 | .call f a c, .call g b d => Nat.beq f g && EV.qL a b && EV.qL c d
 | .mark k, .mark j => Nat.beq k j
 | _, _ => false
def dq : List Df → List Df → Bool
 | [], [] => true
 | a :: l, b :: m => Df.q a b && dq l m
 | _, _ => false
theorem dq_eq : ∀ {x y : List Df}, dq x y = true → x = y
 | [], [], _ => rfl
 | [], _ :: _, h => by cases h
 | _ :: _, [], h => by cases h
 | a :: l, b :: m, h => by
  simp only [dq, Bool.and_eq_true] at h
  have : a = b := by
   have h1 := h.1
   cases a <;> cases b <;> simp only [Df.q] at h1 <;> first | (cases h1; done) | skip
   ·simp only [Bool.and_eq_true] at h1
    rw [Nat.eq_of_beq_eq_true h1.1.1, EV.qL_eq h1.1.2, EV.qL_eq h1.2]
   ·rw [Nat.eq_of_beq_eq_true h1]
  rw [this, dq_eq h.2]
def S.q (a b : S) : Bool := Nat.beq a.k b.k && Tr.q EV.q a.T b.T && Tr.q Blk.q a.H b.H && dq a.D b.D
theorem S.q_eq {a b : S} (h : S.q a b = true) : a = b := by
 cases a; cases b
 simp only [S.q, Bool.and_eq_true] at h
 obtain ⟨⟨⟨h1, h2⟩, h3⟩, h4⟩ := h
 rw [Nat.eq_of_beq_eq_true h1, Tr.q_eq EV.q_eq h2, Tr.q_eq Blk.q_eq h3, dq_eq h4]
/-- A block that is held as it is: its key, its cells, their type, their kind. -/
structure Hd where
 k : Nat
 cs : List EV
 ty : TypeId
 sz : Nat
def heldE (H : Heap) : List Hd → Bool
 | [] => true
 | x :: l => (match H.get x.k with
  | some (.live cs ty sz) => Nat.beq ty x.ty && Nat.beq sz x.sz && EV.qL cs x.cs
  | _ => false) && heldE H l
def HeldNow (H : Heap) (L : List Hd) : Prop := ∀ x ∈ L, H.get x.k = some (.live x.cs x.ty x.sz)
theorem heldE_now {H : Heap} : ∀ {L : List Hd}, heldE H L = true → HeldNow H L
 | [], _, x, hx => by cases hx
 | y :: l, h, x, hx => by
  simp only [heldE, Bool.and_eq_true] at h
  rcases List.mem_cons.1 hx with rfl | hx
  ·have h1 := h.1
   split at h1
   ·rename_i cs ty sz hk
    simp only [Bool.and_eq_true] at h1
    rw [hk, Nat.eq_of_beq_eq_true h1.1.1, Nat.eq_of_beq_eq_true h1.1.2, EV.qL_eq h1.2]
   ·cases h1
  ·exact heldE_now h.2 x hx
/-- Those blocks stand in a world as they are held. -/
def HeldP (r : Env) (L : List Hd) (w : World) : Prop := ∀ x ∈ L, ∃ b vs ccs tail, r.b x.k = some b ∧ renL r x.cs = some vs ∧ w.heap[b]? = some (.cells ccs x.ty (0, 0)) ∧ ccs.toList = vs ++ tail
def pickE2 {α : Type} (f : Nat → Option α) : List Nat → Option (Nat × α)
 | [] => none
 | i :: r => match f i with
  | some x => some (i, x)
  | none => pickE2 f r
theorem pickE2_spec {α : Type} {f : Nat → Option α} {i : Nat} {x : α} : ∀ {l : List Nat}, pickE2 f l = some (i, x) → i ∈ l ∧ f i = some x
 | [], h => by cases h
 | j :: r, h => by
  simp only [pickE2] at h
  split at h
  ·rename_i y hy; cases h; exact ⟨by simp, hy⟩
  ·obtain ⟨h1, h2⟩ := pickE2_spec h; exact ⟨by simp [h1], h2⟩
/-- What may be taken first: it looks at no memory. -/
def quickE (P : Program) (n : Nat) (all : Array Oper) (listed : Array Bool) (s : S) (i : Nat) : Option (Oper × EV) := match all[i]? with
 | some o => bif dstOk n o.dst && Region.free .any all listed i then (match gdE all o s.T with
  | some false => some (o, .v undef)
  | some true => (evPure P s.T o).bind fun c => some (o, c)
  | none => none) else none
 | none => none
def defOf : List (Oper × Bool) → Nat → Option Oper
 | [], _ => none
 | (o, b) :: l, t => match b, o.dst with
  | false, some t' => bif Nat.beq t t' then some o else defOf l t
  | _, _ => defOf l t
/-- The block that an address will be in, as far as it can be seen ahead: unknown; a new one; one with a key. -/
def keyOf (l : List (Oper × Bool)) (T : Tr EV) : Nat → Operand → Option (Option Nat)
 | 0, _ => none
 | m + 1, .tmp t => match defOf l t with
  | some o => match o.op with
   | .move y => keyOf l T m y
   | .assign y => keyOf l T m y
   | .nilCheck y => keyOf l T m y
   | .fieldAddr _ y _ => keyOf l T m y
   | .indexAddr _ y _ => keyOf l T m y
   | .slice _ y _ _ _ => keyOf l T m y
   | .alloc _ => some none
   | .box _ _ => some none
   | _ => none
  | none => match T.get t with
   | some (.p k _) => some (some k)
   | some (.sl k _ _ _ _) => some (some k)
   | _ => none
 | _, _ => none
/-- No store of the region that is still to come is seen to turn a block. -/
def okHold (all : Array Oper) (listed : Array Bool) (T : Tr EV) (k : Nat) : Bool :=
 let l := all.toList.zip listed.toList
 l.all fun (o, b) => b || match o.op with
 | .store _ x _ => (match keyOf l T 8 x with
  | some (some k') => !Nat.beq k k'
  | _ => true)
 | _ => true
/-- A read that may be taken first, if what it reads stays. -/
def quickL (P : Program) (n : Nat) (all : Array Oper) (listed : Array Bool) (s : S) (i : Nat) : Option (Oper × EV × Hd) := match all[i]? with
 | some o => bif dstOk n o.dst && Region.free .any all listed i then (match gdE all o s.T, o.op with
  | some true, .load t x => match ldE P s.T s.H t x, evO s.T x with
   | some c, some (.p k _) => match s.H.get k with
    | some (.live cs ty sz) => bif okHold all listed s.T k then some (o, c, ⟨k, cs, ty, sz⟩) else none
    | _ => none
   | _, _ => none
  | _, _ => none) else none
 | none => none
def brE (f : Nat → Option S) : List Nat → Option S
 | [] => none
 | [i] => f i
 | i :: r => match f i, brE f r with
  | some s, some s' => bif S.q s s' then some s else none
  | _, _ => none
theorem brE_spec {f : Nat → Option S} {s : S} : ∀ {l : List Nat}, brE f l = some s → ∀ i ∈ l, f i = some s
 | [], h, i, hi => by cases hi
 | [j], h, i, hi => by
  have : i = j := by simpa using hi
  subst this; exact h
 | j :: k :: r, h, i, hi => by
  simp only [brE] at h
  split at h
  ·rename_i s1 s2 h1 h2
   cases hq : S.q s1 s2 with
   | false => rw [hq] at h; cases h
   | true =>
    rw [hq] at h
    cases h
    rcases List.mem_cons.1 hi with rfl | hi
    ·exact h1
    ·rw [S.q_eq hq]; exact brE_spec h2 i hi
  ·cases h
/-- A region in whatever order. -/
def anyE (P : Program) (call : CallF) (g n k0 : Nat) (all : Array Oper) : Nat → Array Bool → List Hd → S → Option S
 | 0, listed, _, s => match Region.ready .any all listed with
  | [] => some s
  | _ => none
 | fuel + 1, listed, L, s => match Region.ready .any all listed with
  | [] => some s
  | rs => match pickE2 (quickE P n all listed s) rs with
   | some (i, o, c) => anyE P call g n k0 all fuel (listed.setIfInBounds i true) L (s.put o.dst c)
   | none => match pickE2 (quickL P n all listed s) rs with
    | some (i, o, c, x) => anyE P call g n k0 all fuel (listed.setIfInBounds i true) (x :: L) (s.put o.dst c)
    | none => brE (fun i => match all[i]? with
     | some o => match stepE P call n (k0 + i) all o (s.setK (k0 + all.size + i * g)) with
      | some s' => bif heldE s'.H L then anyE P call g n k0 all fuel (listed.setIfInBounds i true) L (s'.setK (k0 + all.size + all.size * g)) else none
      | none => none
     | none => none) rs
section
variable {n : Nat} {w0 : Base} {r : Env} {a : Act} {w : World} {s s' : S} {call : CallF} {ops : Array Oper} {Q : Exit → Act → World → Prop}
theorem wpAnyH_mono {md : Region.Mode} {S1 S2 : World → Prop} (hs : ∀ w, S1 w → S2 w) : ∀ (fuel : Nat) (listed : Array Bool) (a : Act) (w : World), wpAnyH P md ops Q S1 fuel listed a w → wpAnyH P md ops Q S2 fuel listed a w
 | 0, _, _, _, h => h
 | fuel + 1, _, _, _, h => ⟨h.1, fun i hi => wpOp_mono (fun a' w' h' => ⟨hs _ h'.1, wpAnyH_mono hs fuel _ a' w' h'.2⟩) (h.2 i hi)⟩
theorem HeldP.of {L : List Hd} (h : HeldNow s.H L) (hW : WRel w0 r s.H w) : HeldP r L w := fun x hx => by
 obtain ⟨b, ccs, h1, h2, h3, vs, h4, h5, h6⟩ := hW.blk x.k _ _ _ (h x hx)
 have ht : ∃ tail, ccs.toList = vs ++ tail := by
  rcases h6 with ⟨_, h6⟩ | ⟨_, h6, _⟩
  ·exact ⟨[], by simpa using h6⟩
  ·exact h6
 obtain ⟨tail, ht⟩ := ht
 exact ⟨b, vs, ccs, tail, h1, h4, h3, ht⟩
theorem HeldP.back {r' : Env} (hle : r.Le r') {L : List Hd} (h0 : HeldP r L w) {w' : World} (h : HeldP r' L w') : HeldP r L w' := fun x hx => by
 obtain ⟨b0, vs0, _, _, k1, k2, _, _⟩ := h0 x hx
 obtain ⟨b, vs, ccs, tail, h1, h2, h3, h4⟩ := h x hx
 have e1 := hle.b _ _ k1
 have e2 := renL_mono hle _ _ k2
 obtain rfl : b0 = b := Option.some.inj (e1.symm.trans h1)
 obtain rfl : vs0 = vs := Option.some.inj (e2.symm.trans h2)
 exact ⟨b0, vs0, ccs, tail, k1, k2, h3, h4⟩
theorem SRel.reK {k : Nat} (h : SRel w0 n r s a w) : SRel w0 n r (s.setK k) a w := ⟨h.A, h.W, h.D⟩
theorem anyE_done (hcall : CallOk P w0 call) {g k0 : Nat} (hsel : Region.noSelect ops = true) (hQ : ∀ c a w, ¬ Q (.panic c) a w) : ∀ (fuel : Nat) (listed : Array Bool) (L : List Hd) (r : Env) (s : S) (a : Act) (w : World), anyE P call g n k0 ops fuel listed L s = some s' → SRel w0 n r s a w → HeldNow s.H L →
  (∀ a w, Later w0 n r s' a w → Q .normal a w) → wpAnyH P .any ops Q (HeldP r L) fuel listed a w
 | 0, listed, L, r, s, a, w, h, hS, hL, hq => by
  simp only [anyE] at h
  split at h
  ·rename_i hr
   cases h
   exact ⟨hr, hq a w ⟨r, Env.Le.refl r, hS⟩⟩
  ·cases h
 | fuel + 1, listed, L, r, s, a, w, h, hS, hL, hq => by
  simp only [anyE] at h
  split at h
  ·rename_i hr
   cases h
   exact wpAnyH_done hr (hq a w ⟨r, Env.Le.refl r, hS⟩) _
  ·rename_i rs hrs
   have hP := HeldP.of hL hS.W
   split at h
   ·rename_i i o c hp
    obtain ⟨hi, hqk⟩ := pickE2_spec hp
    unfold quickE at hqk
    split at hqk
    ·rename_i o' ho
     cases hd : (dstOk n o'.dst && Region.free .any ops listed i) with
     | false => rw [hd] at hqk; cases hqk
     | true =>
      rw [hd] at hqk
      simp only [Bool.and_eq_true] at hd
      simp only [cond_true] at hqk
      split at hqk
      ·rename_i hg
       cases hqk
       refine wpAnyH_take ho hsel hd.2 (by simpa using hi) (fun c a w hc => absurd hc (hQ _ _ _)) (v := undef) (.inr ⟨gdE_wanted hg hS.A, rfl⟩) hP ?_
       exact anyE_done hcall hsel hQ fuel _ L r _ _ w h ⟨hS.A.putT hd.1 rfl, hS.W, by rw [put_defers]; exact hS.D⟩ hL hq
      ·rename_i hg
       obtain ⟨c', h1, h2⟩ := Option.bind_eq_some_iff.1 hqk
       cases h2
       obtain ⟨cv, hrun, hcv⟩ := evPure_done h1 hS.A
       refine wpAnyH_take ho hsel hd.2 (by simpa using hi) (fun c a w hc => absurd hc (hQ _ _ _)) (v := cv) (.inl ⟨gdE_wanted hg hS.A, fun w _ => hrun w⟩) hP ?_
       exact anyE_done hcall hsel hQ fuel _ L r _ _ w h ⟨hS.A.putT hd.1 hcv, hS.W, by rw [put_defers]; exact hS.D⟩ hL hq
      ·cases hqk
    ·cases hqk
   ·split at h
    ·rename_i i o c x hp
     obtain ⟨hi, hqk⟩ := pickE2_spec hp
     unfold quickL at hqk
     split at hqk
     ·rename_i o' ho
      cases hd : (dstOk n o'.dst && Region.free .any ops listed i) with
      | false => rw [hd] at hqk; cases hqk
      | true =>
       rw [hd] at hqk
       simp only [Bool.and_eq_true] at hd
       simp only [cond_true] at hqk
       split at hqk
       ·rename_i t y hg hop
        split at hqk
        ·rename_i c' k off hld hx
         split at hqk
         ·rename_i cs ty sz hk
          cases hok : okHold ops listed s.T k with
          | false => rw [hok] at hqk; cases hqk
          | true =>
          rw [hok] at hqk
          cases hqk
          obtain ⟨k', off', cs', ty', sz', b, ccs, vs, tail, cv, k1, k2, k3, k4, k5, k6, k7, k8⟩ := ldE_spec (P := P) hld hS.A hS.W
          rw [hx] at k1
          cases k1
          rw [hk] at k2
          cases k2
          have hL' : HeldNow s.H (⟨k, cs, ty, sz⟩ :: L) := fun z hz => by
           rcases List.mem_cons.1 hz with rfl | hz
           ·exact hk
           ·exact hL z hz
          refine wpAnyH_mono (S1 := HeldP r (⟨k, cs, ty, sz⟩ :: L)) (fun w hw z hz => hw z (by simp [hz])) _ _ _ _ ?_
          refine wpAnyH_take ho hsel hd.2 (by simpa using hi) (fun c a w hc => absurd hc (hQ _ _ _)) (v := cv) (.inl ⟨gdE_wanted hg hS.A, fun w1 hw1 => ?_⟩) (HeldP.of hL' hS.W) ?_
          ·obtain ⟨b1, vs1, ccs1, tail1, j1, j2, j3, j4⟩ := hw1 ⟨k, cs, ty, sz⟩ (by simp)
           obtain rfl : b = b1 := Option.some.inj (k3.symm.trans j1)
           obtain rfl : vs = vs1 := Option.some.inj (k5.symm.trans j2)
           have := k8 w1 ccs1 tail1 j3 j4
           unfold execOp
           simp [hop, this]
          ·exact anyE_done hcall hsel hQ fuel _ _ r _ _ w h ⟨hS.A.putT hd.1 k7, hS.W, by rw [put_defers]; exact hS.D⟩ hL' hq
         ·cases hqk
        ·cases hqk
       ·cases hqk
     ·cases hqk
    ·refine wpAnyH_all (rs := Region.ready .any ops listed) rfl (fun e => hrs e) fun i hi => ?_
     have hb := brE_spec h i hi
     split at hb
     ·rename_i o ho
      split at hb
      ·rename_i s1 h1
       cases hh : heldE s1.H L with
       | false => rw [hh] at hb; cases hb
       | true =>
        rw [hh] at hb
        simp only [cond_true] at hb
        have hL1 := heldE_now hh
        refine wpOp_mono ?_ (stepE_done hcall ho h1 hS.reK Q)
        rintro a' w' ⟨r', hle, hS'⟩
        have hP' := HeldP.of hL1 hS'.W
        refine ⟨HeldP.back hle hP hP', wpAnyH_mono (S1 := HeldP r' L) (fun w1 hw1 => HeldP.back hle hP hw1) _ _ _ _ ?_⟩
        exact anyE_done hcall hsel hQ fuel _ L r' _ a' w' hb hS'.reK hL1 (fun a w hl => hq a w (hl.trans hle))
      ·cases hb
     ·cases hb
end
end
end Go.Ev
