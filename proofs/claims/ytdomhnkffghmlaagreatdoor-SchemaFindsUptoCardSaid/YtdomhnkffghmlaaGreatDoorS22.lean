/- The evaluator's regions and code. -/
import Derived.Test.YtdomhnkffghmlaaGreatDoorS5
import Derived.OrdersHeld
import Derived.LoopN
import Derived.Scope
set_option linter.unusedVariables false
set_option linter.unusedSimpArgs false
namespace Go.Ev
noncomputable section
open Go.Am
variable {P : Program}
/-- What is deferred: a function, its arguments, what it has captured; or a loop's mark. -/
inductive Df where
 | call (f : FuncId) (args caps : List EV)
 | mark (k : Nat)
/-- A call's state: its temporaries, memory, the next keys, what is deferred. -/
structure S where
 T : Tr EV
 H : Heap
 k : Nat
 D : List Df
def Df1 (r : Env) : Df → Deferred → Prop
 | .call f args caps, x => ∃ vs cs, renL r args = some vs ∧ renL r caps = some cs ∧ x = { target := .fn (.func f) cs.toArray, args := vs.toArray }
 | .mark k, x => ∃ b, r.b k = some b ∧ x = { target := .collected b, args := #[] }
theorem Df1.mono {r r' : Env} (hle : r.Le r') : ∀ {d : Df} {x : Deferred}, Df1 r d x → Df1 r' d x
 | .call _ _ _, _, ⟨vs, cs, h1, h2, h3⟩ => ⟨vs, cs, renL_mono hle _ _ h1, renL_mono hle _ _ h2, h3⟩
 | .mark _, _, ⟨b, h1, h2⟩ => ⟨b, hle.b _ _ h1, h2⟩
def DRel (r : Env) : List Df → List Deferred → Prop
 | [], [] => True
 | d :: l, x :: m => Df1 r d x ∧ DRel r l m
 | _, _ => False
theorem DRel.mono {r r' : Env} (hle : r.Le r') : ∀ {l : List Df} {m : List Deferred}, DRel r l m → DRel r' l m
 | [], [], _ => trivial
 | d :: l, x :: m, ⟨h1, h⟩ => ⟨h1.mono hle, h.mono hle⟩
 | [], _ :: _, h => h.elim
 | _ :: _, [], h => h.elim
structure SRel (w0 : Base) (n : Nat) (r : Env) (s : S) (a : Act) (w : World) : Prop where
 A : ARel n r s.T a
 W : WRel w0 r s.H w
 D : DRel r s.D a.defers
/-- Such a state, later. -/
def Later (w0 : Base) (n : Nat) (r : Env) (s : S) (a : Act) (w : World) : Prop := ∃ r', r.Le r' ∧ SRel w0 n r' s a w
/-- A contract for calls that are reckoned. -/
abbrev CallF := FuncId → List EV → Heap → Nat → Option (EV × Heap × Nat)
def CallOk (P : Program) (w0 : Base) (call : CallF) : Prop := ∀ f args H k v H' k', call f args H k = some (v, H', k') → ∀ (r : Env) (w : World) (cargs : Array Value), WRel w0 r H w → renL r args = some cargs.toList →
 (∃ fn, P.funcs[f]? = some fn ∧ fn.body.isNone = false ∧ (fn.name == "runtime.NumGoroutine") = false) ∧
 Calls P f cargs w fun e w' => ∃ r' cv, e = .returned cv ∧ r.Le r' ∧ WRel w0 r' H' w' ∧ ren r' v = some cv
/-- The method of a name. -/
def methE (P : Program) (t : TypeId) (name : String) : Option FuncId :=
 match P.info? t with
 | some i => match i.methods.find? (·.name == name) with
  | some m => match m.path.toList, m.func, P.underlying t with
   | [], some (f, false), some (.struct _) => some f
   | _, _, _ => none
  | none => none
 | none => none
def putT (T : Tr EV) (d : Option Tmp) (c : EV) : Tr EV := match d with
 | some t => T.set t c
 | none => T
def dstOk (n : Nat) (d : Option Tmp) : Bool := match d with
 | some t => Nat.blt t n
 | none => true
def callE (P : Program) (call : CallF) (T : Tr EV) (H : Heap) (kc : Nat) (o : Oper) : Option (EV × Heap × Nat) := match o.op with
 | .call { callee := .value f, args := args, argTypes := _ } => match evO T f, evL T args.toList with
  | some (.fn g first caps), some cs => call g (first ++ cs ++ caps) H kc
  | _, _ => none
 | .call { callee := .invoke x name, args := args, argTypes := _ } => match evO T x, evL T args.toList with
  | some (.ifc t c), some cs => match methE P t name with
   | some g => call g (c :: cs) H kc
   | none => none
  | _, _ => none
 | _ => none
/-- A call is deferred. -/
def deferE (T : Tr EV) (o : Oper) : Option Df := match o.op with
 | .defer { callee := .value f, args := args, argTypes := _ } => match evO T f, evL T args.toList with
  | some (.fn g first caps), some cs => some (.call g (first ++ cs) caps)
  | _, _ => none
 | _ => none
/-- One operation that is wanted. -/
def opE0 (P : Program) (call : CallF) (n k : Nat) (o : Oper) (s : S) : Option S :=
 bif dstOk n o.dst then
  match evPure P s.T o with
  | some c => some { s with T := putT s.T o.dst c }
  | none => match evHeap P s.T s.H k o with
   | some (c, H') => some { s with T := putT s.T o.dst c, H := H' }
   | none => match callE P call s.T s.H s.k o with
    | some (c, H', k') => some { s with T := putT s.T o.dst c, H := H', k := k' }
    | none => match deferE s.T o with
     | some d => some { s with T := putT s.T o.dst (.v undef), D := d :: s.D }
     | none => none
 else none
def opE (P : Program) (call : CallF) (n k : Nat) (o : Oper) (s : S) : Option S := match s with
 | ⟨T, H, kc, D⟩ => bif dstOk n o.dst then
  match evPure P T o with
  | some c => some ⟨putT T o.dst c, H, kc, D⟩
  | none => match evHeap P T H k o with
   | some (c, H') => some ⟨putT T o.dst c, H', kc, D⟩
   | none => match callE P call T H kc o with
    | some (c, H', k') => some ⟨putT T o.dst c, H', k', D⟩
    | none => match deferE T o with
     | some d => some ⟨putT T o.dst (.v undef), H, kc, d :: D⟩
     | none => none
 else none
theorem opE_eq (P : Program) (call : CallF) (n k : Nat) (o : Oper) (s : S) : opE P call n k o s = opE0 P call n k o s := rfl
def S.put (s : S) (d : Option Tmp) (c : EV) : S := match s with
 | ⟨T, H, k, D⟩ => ⟨putT T d c, H, k, D⟩
def S.setK (s : S) (k : Nat) : S := match s with
 | ⟨T, H, _, D⟩ => ⟨T, H, k, D⟩
def gdE (all : Array Oper) (o : Oper) (T : Tr EV) : Option Bool := match o.guard with
 | none => some true
 | some (j, b) => match (all[j]?).bind (·.dst) with
  | some t => match T.get t with
   | some (.v (.bool c)) => some (c == b)
   | some (.v (.tuple _)) => some false
   | _ => none
  | none => some false
def stepE (P : Program) (call : CallF) (n k : Nat) (all : Array Oper) (o : Oper) (s : S) : Option S := match gdE all o s.T with
 | some true => opE P call n k o s
 | some false => bif dstOk n o.dst then some (s.put o.dst (.v undef)) else none
 | none => none
section
variable {n : Nat} {w0 : Base} {r : Env} {a : Act} {w : World} {o : Oper} {s s' : S} {call : CallF}
theorem put_defers (a : Act) (d : Option Tmp) (v : Value) : (a.put d v).defers = a.defers := by cases d <;> rfl
theorem ARel.putT {T : Tr EV} (h : ARel n r T a) {d : Option Tmp} (hd : dstOk n d = true) {c : EV} {v : Value} (hc : ren r c = some v) : ARel n r (putT T d c) (a.put d v) := by
 cases d with
 | none => exact h
 | some t => exact h.put (by simpa [dstOk, Nat.blt_eq] using hd) hc
theorem gdE_wanted {all : Array Oper} {b : Bool} (h : gdE all o s.T = some b) (hA : ARel n r s.T a) : Region.wanted o (yielded all a.tmps) = b := by
 unfold gdE at h
 unfold Region.wanted
 split at h
 ·rename_i hg; cases h; simp [hg]
 ·rename_i j c hg
  simp only [hg]
  split at h
  ·rename_i t ht
   split at h
   ·rename_i c' hc
    have hv := (Option.some.inj (hA.tmps t _ hc)).symm
    cases h
    have hq : a.tmps[t]? = some (.bool c') := by
     rw [Array.getD_eq_getD_getElem?] at hv
     cases hq : a.tmps[t]? with
     | none => rw [hq] at hv; simp [undef] at hv
     | some x => rw [hq] at hv; simp at hv; rw [hv]
    simp [yielded, ht, hq]
   ·rename_i vs hc
    have hv := (Option.some.inj (hA.tmps t _ hc)).symm
    cases h
    have : yielded all a.tmps j = none := by
     simp only [yielded, ht, Option.bind_some]
     rw [Array.getD_eq_getD_getElem?] at hv
     cases hq : a.tmps[t]? with
     | none => rfl
     | some x => rw [hq] at hv; simp at hv; rw [hv]
    simp [this]
   ·cases h
  ·rename_i ht
   cases h
   simp [yielded, ht]
theorem run_method {t : TypeId} {name : String} {g : FuncId} (h : methE P t name = some g) (v : Value) (m : Nat) (w : World) : (method (m + 1) t v name).run P w = .ok (g, v) w := by
 unfold methE at h
 split at h
 ·rename_i i hi
  split at h
  ·rename_i me hm
   split at h
   ·rename_i f fs hp hf hu
    cases h
    simp only [method, typeInfo, Sem.run_bind, run_program, Result.andThen_ok, hi, hm, hp, hf, follow, Sem.run_pure, receiverAt, run_underlying hu, Place.get]
   ·cases h
  ·cases h
 ·cases h
theorem opE_done (hcall : CallOk P w0 call) {k : Nat} (h : opE P call n k o s = some s') (hS : SRel w0 n r s a w) (Q : Exit → Act → World → Prop) : o.wp P a w (Later w0 n r s') Q := by
 rw [opE_eq] at h
 unfold opE0 at h
 cases hd : dstOk n o.dst with
 | false => rw [hd] at h; cases h
 | true =>
  rw [hd] at h
  simp only [cond_true] at h
  have fin : ∀ {H' : Heap} {c : EV} {k'}, Done P w0 r H' o a w c → o.wp P a w (Later w0 n r { s with T := putT s.T o.dst c, H := H', k := k' }) Q := by
   rintro H' c k' ⟨r', w', cv, hrun, hle, hW, hc⟩
   have hl : Later w0 n r { s with T := putT s.T o.dst c, H := H', k := k' } (a.put o.dst cv) w' := ⟨r', hle, (hS.A.mono hle).putT hd hc, hW, by rw [put_defers]; exact hS.D.mono hle⟩
   unfold Oper.wp
   rcases hrun with hrun | ⟨hrun, rfl⟩
   ·rw [hrun]; exact hl
   ·rw [hrun]; exact hl
  split at h
  ·rename_i c hp
   cases h
   exact fin ((evPure_done hp hS.A).done hS.W)
  ·split at h
   ·rename_i c H' hp
    cases h
    exact fin (evHeap_done hp hS.A hS.W)
   ·split at h
    ·rename_i c H' k' hp
     cases h
     unfold callE at hp
     have go : ∀ {g : FuncId} {l : List EV} {cargs : Array Value}, call g l s.H s.k = some (c, H', k') → renL r l = some cargs.toList → ((∃ fn, P.funcs[g]? = some fn ∧ fn.body.isNone = false ∧ (fn.name == "runtime.NumGoroutine") = false) → (execOp a.eval o).run P w = .ok (.enter g cargs) w) →
       o.wp P a w (Later w0 n r { s with T := putT s.T o.dst c, H := H', k := k' }) Q := by
      intro g l cargs h1 h2 h3
      obtain ⟨h4, h5⟩ := hcall _ _ _ _ _ _ _ h1 r w cargs hS.W h2
      unfold Oper.wp
      rw [h3 h4]
      refine h5.mono ?_
      rintro e w' ⟨r', cv, rfl, hle, hW, hc⟩
      exact ⟨r', hle, (hS.A.mono hle).putT hd hc, hW, by rw [put_defers]; exact hS.D.mono hle⟩
     split at hp
     ·rename_i f args ts ho
      split at hp
      ·rename_i g first caps cs hf hargs
       have hfv := hS.A.eval hf
       simp only [ren, Option.bind_eq_some_iff] at hfv
       obtain ⟨x, hx, y, hy, hfv⟩ := hfv
       have hfv := (Option.some.inj hfv).symm
       refine go (cargs := x.toArray ++ args.map a.eval ++ y.toArray) hp ?_ ?_
       ·have := renL_append (renL_append hx (hS.A.evL hargs)) hy
        simpa using this
       ·rintro ⟨fn, hfn, hbody, hname⟩
        unfold execOp
        simp only [ho, resolve, hfv, Deferred.ofValue, Sem.run_bind, Sem.run_pure, Result.andThen_ok, invoke, callFunc, run_program, hfn, hname, Bool.false_eq_true, if_false, hbody]
      ·cases hp
     ·rename_i x name args ts ho
      split at hp
      ·rename_i t c' cs hx hargs
       split at hp
       ·rename_i g hg
        have hxv := hS.A.eval hx
        simp only [ren, Option.bind_eq_some_iff] at hxv
        obtain ⟨v, hv, hxv⟩ := hxv
        have hxv := (Option.some.inj hxv).symm
        refine go (cargs := #[v] ++ args.map a.eval) hp ?_ ?_
        ·exact renL_cons.2 ⟨v, args.toList.map a.eval, hv, hS.A.evL hargs, by simp⟩
        ·rintro ⟨fn, hfn, hbody, hname⟩
         have hm : ∀ m, 0 < m → (method m t v name).run P w = .ok (g, v) w := fun m hm => by
          cases m with
          | zero => cases hm
          | succ m => exact run_method hg v m w
         have hm' := hm (P.types.size + Made.depth) (by simp [Made.depth])
         have he : (#[Value.iface t v] ++ args.map a.eval).extract 1 (#[Value.iface t v] ++ args.map a.eval).size = args.map a.eval := by
          apply Array.ext'
          simp [List.take_of_length_le]
         unfold execOp
         simp only [ho, resolve, hxv, Sem.run_bind, Sem.run_pure, Result.andThen_ok, invoke]
         simp only [Array.getElem?_append, List.size_toArray, List.length_cons, List.length_nil, Nat.zero_add, Nat.lt_add_one, if_true, List.getElem?_toArray, List.getElem?_cons_zero, he, callMethod, Sem.run_bind, run_program, Result.andThen_ok, hm', callFunc, hfn, hname, Bool.false_eq_true, if_false, hbody, Sem.run_pure]
       ·cases hp
      ·cases hp
     ·cases hp
    ·split at h
     ·rename_i d hp
      cases h
      unfold deferE at hp
      split at hp
      ·rename_i f args ts ho
       split at hp
       ·rename_i g first caps cs hf hargs
        cases hp
        have hfv := hS.A.eval hf
        simp only [ren, Option.bind_eq_some_iff] at hfv
        obtain ⟨x, hx, y, hy, hfv⟩ := hfv
        have hfv := (Option.some.inj hfv).symm
        have hrun : (execOp a.eval o).run P w = .ok (.defer { target := .fn (.func g) y.toArray, args := x.toArray ++ args.map a.eval }) w := by
         unfold execOp
         simp [ho, resolve, hfv, Deferred.ofValue]
        unfold Oper.wp
        rw [hrun, Oper.upon_defer]
        have hA' : ARel n r (putT s.T o.dst (.v undef)) ({ a with defers := { target := .fn (.func g) y.toArray, args := x.toArray ++ args.map a.eval } :: a.defers }.put o.dst undef) := ARel.putT (a := { a with defers := { target := .fn (.func g) y.toArray, args := x.toArray ++ args.map a.eval } :: a.defers }) (c := .v undef) ⟨hS.A.n, hS.A.tmps⟩ hd rfl
        refine ⟨r, Env.Le.refl r, hA', hS.W, ?_⟩
        rw [put_defers]
        refine ⟨⟨x ++ args.toList.map a.eval, y, renL_append hx (hS.A.evL hargs), hy, ?_⟩, hS.D⟩
        congr 1
        apply Array.ext'
        simp
       ·cases hp
      ·cases hp
     ·cases h
theorem stepE_done (hcall : CallOk P w0 call) {all : Array Oper} {i k : Nat} (hi : all[i]? = some o) (h : stepE P call n k all o s = some s') (hS : SRel w0 n r s a w) (Q : Exit → Act → World → Prop) : wpOp P all Q i (Later w0 n r s') a w := by
 unfold stepE at h
 unfold wpOp
 simp only [hi]
 split at h
 ·rename_i hg
  rw [gdE_wanted hg hS.A, if_pos rfl]
  exact .inl (opE_done hcall h hS Q)
 ·rename_i hg
  rw [gdE_wanted hg hS.A]
  cases hd : dstOk n o.dst with
  | false => rw [hd] at h; cases h
  | true =>
   rw [hd] at h
   cases h
   exact ⟨r, Env.Le.refl r, hS.A.putT hd rfl, hS.W, by rw [put_defers]; exact hS.D⟩
 ·cases h
theorem Later.trans {r' : Env} (hle : r.Le r') (h : Later w0 n r' s a w) : Later w0 n r s a w := let ⟨r2, h1, h2⟩ := h; ⟨r2, hle.trans h1, h2⟩
/-- A region in the order of its text. -/
def seqE (P : Program) (call : CallF) (n : Nat) (all : Array Oper) : Nat → List Oper → S → Option S
 | _, [], s => some s
 | k, o :: l, s => match stepE P call n k all o s with
  | some s' => seqE P call n all (k + 1) l s'
  | none => none
theorem seqE_done (hcall : CallOk P w0 call) {all : Array Oper} {Q : Exit → Act → World → Prop} : ∀ (m i k : Nat), i + m = all.size → ∀ (r : Env) (s : S) (a : Act) (w : World), seqE P call n all k (all.toList.drop i) s = some s' → SRel w0 n r s a w → (∀ a w, Later w0 n r s' a w → Q .normal a w) → wpOps P all Q (List.range' i m) a w
 | 0, i, k, hi, r, s, a, w, h, hS, hQ => by
  rw [List.drop_eq_nil_of_le (by simp; omega)] at h
  cases h
  exact hQ a w ⟨r, Env.Le.refl r, hS⟩
 | m + 1, i, k, hi, r, s, a, w, h, hS, hQ => by
  have hlt : i < all.size := by omega
  rw [List.drop_eq_getElem_cons (by simpa using hlt)] at h
  simp only [seqE] at h
  rw [List.range'_succ, wpOps_cons]
  split at h
  ·rename_i s1 h1
   refine wpOp_mono ?_ (stepE_done hcall (i := i) (by simp [hlt]) h1 hS Q)
   rintro a' w' ⟨r', hle, hS'⟩
   exact seqE_done hcall m (i + 1) (k + 1) (by omega) r' s1 a' w' h hS' (fun a w hl => hQ a w (hl.trans hle))
  ·cases h
end
end
end Go.Ev
namespace Go.Ev
noncomputable section
open Go.Am
variable {P : Program}
def vq : Value → Value → Bool
 | .int k a, .int k' b => decide (k = k') && decide (a = b)
 | .bool a, .bool b => a == b
 | .string a, .string b => a.data.toList == b.data.toList
 | .pointer none, .pointer none => true
 | .slice none 0 0, .slice none 0 0 => true
 | .nilFunc, .nilFunc => true
 | .nilIface, .nilIface => true
 | .tuple a, .tuple b => a.isEmpty && b.isEmpty
 | _, _ => false
theorem vq_eq {x y : Value} (h : vq x y = true) : x = y := by
 unfold vq at h
 split at h <;> try (cases h; done)
 ·simp only [Bool.and_eq_true, decide_eq_true_eq] at h; rw [h.1, h.2]
 ·simp only [beq_iff_eq] at h; rw [h]
 ·simp only [beq_iff_eq] at h
  rename_i a b
  have : a.data = b.data := Array.toList_inj.1 h
  rw [show a = b from ByteArray.ext this]
 ·rfl
 ·rfl
 ·rfl
 ·rfl
 ·simp only [Bool.and_eq_true, Array.isEmpty_iff] at h; rw [h.1, h.2]
mutual
def EV.q : EV → EV → Bool
 | .v x, .v y => vq x y
 | .p k o, .p k' o' => Nat.beq k k' && Nat.beq o o'
 | .sl k o l c b, .sl k' o' l' c' b' => Nat.beq k k' && Nat.beq o o' && Nat.beq l l' && Nat.beq c c' && (b == b')
 | .fn f a c, .fn g b d => Nat.beq f g && EV.qL a b && EV.qL c d
 | .ifc t x, .ifc u y => Nat.beq t u && EV.q x y
 | .ag a, .ag b => EV.qL a b
 | .tu a, .tu b => EV.qL a b
 | .yl a, .yl b => Nat.beq a b
 | _, _ => false
def EV.qL : List EV → List EV → Bool
 | [], [] => true
 | x :: l, y :: m => EV.q x y && EV.qL l m
 | _, _ => false
end
mutual
theorem EV.q_eq : ∀ {x y : EV}, EV.q x y = true → x = y
 | .v x, y, h => by cases y <;> simp only [EV.q] at h <;> first | (cases h; done) | rw [vq_eq h]
 | .p k o, y, h => by
  cases y <;> simp only [EV.q] at h <;> first | (cases h; done) | skip
  simp only [Bool.and_eq_true] at h; rw [Nat.eq_of_beq_eq_true h.1, Nat.eq_of_beq_eq_true h.2]
 | .sl k o l c b, y, h => by
  cases y <;> simp only [EV.q] at h <;> first | (cases h; done) | skip
  simp only [Bool.and_eq_true, beq_iff_eq] at h
  obtain ⟨⟨⟨⟨h1, h2⟩, h3⟩, h4⟩, h5⟩ := h
  rw [Nat.eq_of_beq_eq_true h1, Nat.eq_of_beq_eq_true h2, Nat.eq_of_beq_eq_true h3, Nat.eq_of_beq_eq_true h4, h5]
 | .fn f a c, y, h => by
  cases y <;> simp only [EV.q] at h <;> first | (cases h; done) | skip
  simp only [Bool.and_eq_true] at h; rw [Nat.eq_of_beq_eq_true h.1.1, EV.qL_eq h.1.2, EV.qL_eq h.2]
 | .ifc t x, y, h => by
  cases y <;> simp only [EV.q] at h <;> first | (cases h; done) | skip
  simp only [Bool.and_eq_true] at h; rw [Nat.eq_of_beq_eq_true h.1, EV.q_eq h.2]
 | .ag a, y, h => by
  cases y <;> simp only [EV.q] at h <;> first | (cases h; done) | rw [EV.qL_eq h]
 | .tu a, y, h => by
  cases y <;> simp only [EV.q] at h <;> first | (cases h; done) | rw [EV.qL_eq h]
 | .yl a, y, h => by
  cases y <;> simp only [EV.q] at h <;> first | (cases h; done) | rw [Nat.eq_of_beq_eq_true h]
theorem EV.qL_eq : ∀ {x y : List EV}, EV.qL x y = true → x = y
 | [], y, h => by cases y <;> simp only [EV.qL] at h <;> first | (cases h; done) | rfl
 | x :: l, y, h => by
  cases y <;> simp only [EV.qL] at h <;> first | (cases h; done) | skip
  simp only [Bool.and_eq_true] at h; rw [EV.q_eq h.1, EV.qL_eq h.2]
end
def Blk.q : Blk → Blk → Bool
 | .live a t s, .live b u z => Nat.beq t u && Nat.beq s z && EV.qL a b
 | .dead, .dead => true
 | .none, .none => true
 | _, _ => false
theorem Blk.q_eq {x y : Blk} (h : Blk.q x y = true) : x = y := by
 cases x <;> cases y <;> simp only [Blk.q] at h <;> first | (cases h; done) | rfl | skip
 simp only [Bool.and_eq_true] at h
 rw [Nat.eq_of_beq_eq_true h.1.1, Nat.eq_of_beq_eq_true h.1.2, EV.qL_eq h.2]
def lq {α : Type} (f : α → α → Bool) : List (Nat × α) → List (Nat × α) → Bool
 | [], [] => true
 | (i, x) :: l, (j, y) :: m => Nat.beq i j && f x y && lq f l m
 | _, _ => false
theorem lq_eq {α : Type} {f : α → α → Bool} (hf : ∀ {x y}, f x y = true → x = y) : ∀ {x y : List (Nat × α)}, lq f x y = true → x = y
 | [], [], _ => rfl
 | [], _ :: _, h => by cases h
 | _ :: _, [], h => by cases h
 | (i, x) :: l, (j, y) :: m, h => by
  simp only [lq, Bool.and_eq_true] at h
  rw [Nat.eq_of_beq_eq_true h.1.1, hf h.1.2, lq_eq hf h.2]
def Tr.q {α : Type} (f : α → α → Bool) : Tr α → Tr α → Bool
 | .l x, .l y => lq f x y
 | .n a b, .n c d => Tr.q f a c && Tr.q f b d
 | _, _ => false
theorem Tr.q_eq {α : Type} {f : α → α → Bool} (hf : ∀ {x y}, f x y = true → x = y) : ∀ {x y : Tr α}, Tr.q f x y = true → x = y
 | .l x, .l y, h => by rw [lq_eq hf h]
 | .n a b, .n c d, h => by
  simp only [Tr.q, Bool.and_eq_true] at h
  rw [Tr.q_eq hf h.1, Tr.q_eq hf h.2]
 | .l _, .n _ _, h => by cases h
 | .n _ _, .l _, h => by cases h
def Df.q : Df → Df → Bool
 | .call f a c, .call g b d => Nat.beq f g && EV.qL a b && EV.qL c d
 | .mark k, .mark j => Nat.beq k j
 | _, _ => false
def dq : List Df → List Df → Bool
 | [], [] => true
 | a :: l, b :: m => Df.q a b && dq l m
 | _, _ => false
theorem dq_eq : ∀ {x y : List Df}, dq x y = true → x = y
 | [], [], _ => rfl
 | [], _ :: _, h => by cases h
 | _ :: _, [], h => by cases h
 | a :: l, b :: m, h => by
  simp only [dq, Bool.and_eq_true] at h
  have : a = b := by
   have h1 := h.1
   cases a <;> cases b <;> simp only [Df.q] at h1 <;> first | (cases h1; done) | skip
   ·simp only [Bool.and_eq_true] at h1
    rw [Nat.eq_of_beq_eq_true h1.1.1, EV.qL_eq h1.1.2, EV.qL_eq h1.2]
   ·rw [Nat.eq_of_beq_eq_true h1]
  rw [this, dq_eq h.2]
def S.q (a b : S) : Bool := Nat.beq a.k b.k && Tr.q EV.q a.T b.T && Tr.q Blk.q a.H b.H && dq a.D b.D
theorem S.q_eq {a b : S} (h : S.q a b = true) : a = b := by
 cases a; cases b
 simp only [S.q, Bool.and_eq_true] at h
 obtain ⟨⟨⟨h1, h2⟩, h3⟩, h4⟩ := h
 rw [Nat.eq_of_beq_eq_true h1, Tr.q_eq EV.q_eq h2, Tr.q_eq Blk.q_eq h3, dq_eq h4]
/-- A piece of a block that is held as it is: the block's key, the place, what is read there, the block's type. -/
structure Hd where
 k : Nat
 off : Nat
 ag : Bool
 n : Nat
 c : EV
 ty : TypeId
def heldE (H : Heap) : List Hd → Bool
 | [] => true
 | x :: l => (match H.get x.k with
  | some (.live cs ty _) => Nat.beq ty x.ty && (match rdA x.ag x.n cs x.off with | some c => EV.q c x.c | none => false)
  | _ => false) && heldE H l
def HeldNow (H : Heap) (L : List Hd) : Prop := ∀ x ∈ L, ∃ cs sz, H.get x.k = some (.live cs x.ty sz) ∧ rdA x.ag x.n cs x.off = some x.c
theorem heldE_now {H : Heap} : ∀ {L : List Hd}, heldE H L = true → HeldNow H L
 | [], _, x, hx => by cases hx
 | y :: l, h, x, hx => by
  simp only [heldE, Bool.and_eq_true] at h
  rcases List.mem_cons.1 hx with rfl | hx
  ·have h1 := h.1
   split at h1
   ·rename_i cs ty sz hk
    simp only [Bool.and_eq_true] at h1
    have h2 := h1.2
    split at h2
    ·rename_i c hc
     exact ⟨cs, sz, by rw [hk, Nat.eq_of_beq_eq_true h1.1], by rw [hc, EV.q_eq h2]⟩
    ·cases h2
   ·cases h1
  ·exact heldE_now h.2 x hx
/-- Those pieces stand in a world as they are held. -/
def HeldP (r : Env) (L : List Hd) (w : World) : Prop := ∀ x ∈ L, ∃ b ccs cv, r.b x.k = some b ∧ ren r x.c = some cv ∧ w.heap[b]? = some (.cells ccs x.ty (0, 0)) ∧ LdV x.ag x.n ccs.toList x.off cv
def pickE2 {α : Type} (f : Nat → Option α) : List Nat → Option (Nat × α)
 | [] => none
 | i :: r => match f i with
  | some x => some (i, x)
  | none => pickE2 f r
theorem pickE2_spec {α : Type} {f : Nat → Option α} {i : Nat} {x : α} : ∀ {l : List Nat}, pickE2 f l = some (i, x) → i ∈ l ∧ f i = some x
 | [], h => by cases h
 | j :: r, h => by
  simp only [pickE2] at h
  split at h
  ·rename_i y hy; cases h; exact ⟨by simp, hy⟩
  ·obtain ⟨h1, h2⟩ := pickE2_spec h; exact ⟨by simp [h1], h2⟩
/-- What may be taken first: it looks at no memory. -/
def quickE (P : Program) (n : Nat) (all : Array Oper) (listed : Array Bool) (s : S) (i : Nat) : Option (Oper × EV) := match all[i]? with
 | some o => bif dstOk n o.dst && Region.free .any all listed i then (match gdE all o s.T with
  | some false => some (o, .v undef)
  | some true => (evPure P s.T o).bind fun c => some (o, c)
  | none => none) else none
 | none => none
def defOf : List (Oper × Bool) → Nat → Option Oper
 | [], _ => none
 | (o, b) :: l, t => match b, o.dst with
  | false, some t' => bif Nat.beq t t' then some o else defOf l t
  | _, _ => defOf l t
/-- The block that an address will be in, as far as it can be seen ahead: unknown; a new one; one with a key. -/
def keyOf (l : List (Oper × Bool)) (T : Tr EV) : Nat → Operand → Option (Option Nat)
 | 0, _ => none
 | m + 1, .tmp t => match defOf l t with
  | some o => match o.op with
   | .move y => keyOf l T m y
   | .assign y => keyOf l T m y
   | .nilCheck y => keyOf l T m y
   | .fieldAddr _ y _ => keyOf l T m y
   | .indexAddr _ y _ => keyOf l T m y
   | .slice _ y _ _ _ => keyOf l T m y
   | .alloc _ => some none
   | .box _ _ => some none
   | _ => none
  | none => match T.get t with
   | some (.p k _) => some (some k)
   | some (.sl k _ _ _ _) => some (some k)
   | _ => none
 | _, _ => none
/-- No store of the region that is still to come is seen to turn a piece. -/
def okHold (P : Program) (all : Array Oper) (listed : Array Bool) (T : Tr EV) (k off n : Nat) : Bool :=
 let l := all.toList.zip listed.toList
 l.all fun (o, b) => b || match o.op with
 | .store t x _ => (match (match x with
   | .tmp u => (match defOf l u with
    | some o' => evPure P T o'
    | none => evO T x)
   | _ => evO T x), tyOf P t with
  | some (.p k' o'), some d => !Nat.beq k k' || Nat.ble (off + n) o' || Nat.ble (o' + d.size) off
  | _, _ => match keyOf l T 8 x with
   | some (some k') => !Nat.beq k k'
   | _ => true)
 | _ => true
/-- A read that may be taken first, if what it reads stays. -/
def quickL (P : Program) (n : Nat) (all : Array Oper) (listed : Array Bool) (s : S) (i : Nat) : Option (Oper × EV × Hd) := match all[i]? with
 | some o => bif dstOk n o.dst && Region.free .any all listed i then (match gdE all o s.T, o.op with
  | some true, .load t x => match ldE P s.T s.H t x, evO s.T x, tyOf P t with
   | some c, some (.p k off), some d => match s.H.get k with
    | some (.live cs ty sz) => bif okHold P all listed s.T k off d.size then some (o, c, ⟨k, off, d.agg, d.size, c, ty⟩) else none
    | _ => none
   | _, _, _ => none
  | _, _ => none) else none
 | none => none
def brE (f : Nat → Option S) : List Nat → Option S
 | [] => none
 | [i] => f i
 | i :: r => match f i, brE f r with
  | some s, some s' => bif S.q s s' then some s else none
  | _, _ => none
theorem brE_spec {f : Nat → Option S} {s : S} : ∀ {l : List Nat}, brE f l = some s → ∀ i ∈ l, f i = some s
 | [], h, i, hi => by cases hi
 | [j], h, i, hi => by
  have : i = j := by simpa using hi
  subst this; exact h
 | j :: k :: r, h, i, hi => by
  simp only [brE] at h
  split at h
  ·rename_i s1 s2 h1 h2
   cases hq : S.q s1 s2 with
   | false => rw [hq] at h; cases h
   | true =>
    rw [hq] at h
    cases h
    rcases List.mem_cons.1 hi with rfl | hi
    ·exact h1
    ·rw [S.q_eq hq]; exact brE_spec h2 i hi
  ·cases h
/-- A region in whatever order. -/
def anyE (P : Program) (call : CallF) (g n k0 : Nat) (all : Array Oper) : Nat → Array Bool → List Hd → S → Option S
 | 0, listed, _, s => match Region.ready .any all listed with
  | [] => some s
  | _ => none
 | fuel + 1, listed, L, s => match Region.ready .any all listed with
  | [] => some s
  | rs => match pickE2 (quickE P n all listed s) rs with
   | some (i, o, c) => anyE P call g n k0 all fuel (listed.setIfInBounds i true) L (s.put o.dst c)
   | none => match pickE2 (quickL P n all listed s) rs with
    | some (i, o, c, x) => anyE P call g n k0 all fuel (listed.setIfInBounds i true) (x :: L) (s.put o.dst c)
    | none => brE (fun i => match all[i]? with
     | some o => match stepE P call n (k0 + i) all o (s.setK (k0 + all.size + i * g)) with
      | some s' => bif heldE s'.H L then anyE P call g n k0 all fuel (listed.setIfInBounds i true) L (s'.setK (k0 + all.size + all.size * g)) else none
      | none => none
     | none => none) rs
section
variable {n : Nat} {w0 : Base} {r : Env} {a : Act} {w : World} {s s' : S} {call : CallF} {ops : Array Oper} {Q : Exit → Act → World → Prop}
theorem wpAnyH_mono {md : Region.Mode} {S1 S2 : World → Prop} (hs : ∀ w, S1 w → S2 w) : ∀ (fuel : Nat) (listed : Array Bool) (a : Act) (w : World), wpAnyH P md ops Q S1 fuel listed a w → wpAnyH P md ops Q S2 fuel listed a w
 | 0, _, _, _, h => h
 | fuel + 1, _, _, _, h => ⟨h.1, fun i hi => wpOp_mono (fun a' w' h' => ⟨hs _ h'.1, wpAnyH_mono hs fuel _ a' w' h'.2⟩) (h.2 i hi)⟩
theorem HeldP.of {L : List Hd} (h : HeldNow s.H L) (hW : WRel w0 r s.H w) : HeldP r L w := fun x hx => by
 obtain ⟨cs, sz, hk, hr⟩ := h x hx
 obtain ⟨b, ccs, h1, h2, h3, vs, h4, h5, h6⟩ := hW.blk x.k _ _ _ hk
 have ht : ∃ tail, ccs.toList = vs ++ tail := by
  rcases h6 with ⟨_, h6⟩ | ⟨_, h6, _⟩
  ·exact ⟨[], by simpa using h6⟩
  ·exact h6
 obtain ⟨tail, ht⟩ := ht
 obtain ⟨cv, h7, h8⟩ := rdA_ldV (tail := tail) hr h4
 exact ⟨b, ccs, cv, h1, h7, h3, by rw [ht]; exact h8⟩
theorem HeldP.back {r' : Env} (hle : r.Le r') {L : List Hd} (h0 : HeldP r L w) {w' : World} (h : HeldP r' L w') : HeldP r L w' := fun x hx => by
 obtain ⟨b0, _, cv0, k1, k2, _, _⟩ := h0 x hx
 obtain ⟨b, ccs, cv, h1, h2, h3, h4⟩ := h x hx
 have e1 := hle.b _ _ k1
 have e2 := ren_mono hle _ _ k2
 obtain rfl : b0 = b := Option.some.inj (e1.symm.trans h1)
 obtain rfl : cv0 = cv := Option.some.inj (e2.symm.trans h2)
 exact ⟨b0, ccs, cv0, k1, k2, h3, h4⟩
theorem SRel.reK {k : Nat} (h : SRel w0 n r s a w) : SRel w0 n r (s.setK k) a w := ⟨h.A, h.W, h.D⟩
theorem anyE_done (hcall : CallOk P w0 call) {g k0 : Nat} (hsel : Region.noSelect ops = true) (hQ : ∀ c a w, ¬ Q (.panic c) a w) : ∀ (fuel : Nat) (listed : Array Bool) (L : List Hd) (r : Env) (s : S) (a : Act) (w : World), anyE P call g n k0 ops fuel listed L s = some s' → SRel w0 n r s a w → HeldNow s.H L →
  (∀ a w, Later w0 n r s' a w → Q .normal a w) → wpAnyH P .any ops Q (HeldP r L) fuel listed a w
 | 0, listed, L, r, s, a, w, h, hS, hL, hq => by
  simp only [anyE] at h
  split at h
  ·rename_i hr
   cases h
   exact ⟨hr, hq a w ⟨r, Env.Le.refl r, hS⟩⟩
  ·cases h
 | fuel + 1, listed, L, r, s, a, w, h, hS, hL, hq => by
  simp only [anyE] at h
  split at h
  ·rename_i hr
   cases h
   exact wpAnyH_done hr (hq a w ⟨r, Env.Le.refl r, hS⟩) _
  ·rename_i rs hrs
   have hP := HeldP.of hL hS.W
   split at h
   ·rename_i i o c hp
    obtain ⟨hi, hqk⟩ := pickE2_spec hp
    unfold quickE at hqk
    split at hqk
    ·rename_i o' ho
     cases hd : (dstOk n o'.dst && Region.free .any ops listed i) with
     | false => rw [hd] at hqk; cases hqk
     | true =>
      rw [hd] at hqk
      simp only [Bool.and_eq_true] at hd
      simp only [cond_true] at hqk
      split at hqk
      ·rename_i hg
       cases hqk
       refine wpAnyH_take ho hsel hd.2 (by simpa using hi) (fun c a w hc => absurd hc (hQ _ _ _)) (v := undef) (.inr ⟨gdE_wanted hg hS.A, rfl⟩) hP ?_
       exact anyE_done hcall hsel hQ fuel _ L r _ _ w h ⟨hS.A.putT hd.1 rfl, hS.W, by rw [put_defers]; exact hS.D⟩ hL hq
      ·rename_i hg
       obtain ⟨c', h1, h2⟩ := Option.bind_eq_some_iff.1 hqk
       cases h2
       obtain ⟨cv, hrun, hcv⟩ := evPure_done h1 hS.A
       refine wpAnyH_take ho hsel hd.2 (by simpa using hi) (fun c a w hc => absurd hc (hQ _ _ _)) (v := cv) (.inl ⟨gdE_wanted hg hS.A, fun w _ => hrun w⟩) hP ?_
       exact anyE_done hcall hsel hQ fuel _ L r _ _ w h ⟨hS.A.putT hd.1 hcv, hS.W, by rw [put_defers]; exact hS.D⟩ hL hq
      ·cases hqk
    ·cases hqk
   ·split at h
    ·rename_i i o c x hp
     obtain ⟨hi, hqk⟩ := pickE2_spec hp
     unfold quickL at hqk
     split at hqk
     ·rename_i o' ho
      cases hd : (dstOk n o'.dst && Region.free .any ops listed i) with
      | false => rw [hd] at hqk; cases hqk
      | true =>
       rw [hd] at hqk
       simp only [Bool.and_eq_true] at hd
       simp only [cond_true] at hqk
       split at hqk
       ·rename_i t y hg hop
        split at hqk
        ·rename_i c' k off d hld hx hty
         split at hqk
         ·rename_i cs ty sz hk
          cases hok : okHold P ops listed s.T k off d.size with
          | false => rw [hok] at hqk; cases hqk
          | true =>
          rw [hok] at hqk
          cases hqk
          obtain ⟨k', off', d', cs', ty', sz', q1, q2, q3, q4, cv, k7, k8⟩ := ldE_spec2 (P := P) hld hS.A hS.W
          rw [hx] at q1
          cases q1
          rw [hk] at q3
          cases q3
          rw [hty] at q2
          cases q2
          have hL' : HeldNow s.H (⟨k, off, d.agg, d.size, c, ty⟩ :: L) := fun z hz => by
           rcases List.mem_cons.1 hz with rfl | hz
           ·exact ⟨cs, sz, hk, q4⟩
           ·exact hL z hz
          refine wpAnyH_mono (S1 := HeldP r (⟨k, off, d.agg, d.size, c, ty⟩ :: L)) (fun w hw z hz => hw z (by simp [hz])) _ _ _ _ ?_
          refine wpAnyH_take ho hsel hd.2 (by simpa using hi) (fun c a w hc => absurd hc (hQ _ _ _)) (v := cv) (.inl ⟨gdE_wanted hg hS.A, fun w1 hw1 => ?_⟩) (HeldP.of hL' hS.W) ?_
          ·obtain ⟨b1, ccs1, cv1, j1, j2, j3, j4⟩ := hw1 ⟨k, off, d.agg, d.size, c, ty⟩ (by simp)
           obtain rfl : cv = cv1 := Option.some.inj (k7.symm.trans j2)
           have := k8 b1 j1 w1 ccs1 j3 j4
           unfold execOp
           simp [hop, this]
          ·exact anyE_done hcall hsel hQ fuel _ _ r _ _ w h ⟨hS.A.putT hd.1 k7, hS.W, by rw [put_defers]; exact hS.D⟩ hL' hq
         ·cases hqk
        ·cases hqk
       ·cases hqk
     ·cases hqk
    ·refine wpAnyH_all (rs := Region.ready .any ops listed) rfl (fun e => hrs e) fun i hi => ?_
     have hb := brE_spec h i hi
     split at hb
     ·rename_i o ho
      split at hb
      ·rename_i s1 h1
       cases hh : heldE s1.H L with
       | false => rw [hh] at hb; cases hb
       | true =>
        rw [hh] at hb
        simp only [cond_true] at hb
        have hL1 := heldE_now hh
        refine wpOp_mono ?_ (stepE_done hcall ho h1 hS.reK Q)
        rintro a' w' ⟨r', hle, hS'⟩
        have hP' := HeldP.of hL1 hS'.W
        refine ⟨HeldP.back hle hP hP', wpAnyH_mono (S1 := HeldP r' L) (fun w1 hw1 => HeldP.back hle hP hw1) _ _ _ _ ?_⟩
        exact anyE_done hcall hsel hQ fuel _ L r' _ a' w' hb hS'.reK hL1 (fun a w hl => hq a w (hl.trans hle))
      ·cases hb
     ·cases hb
end
end
end Go.Ev
