/- The evaluator's regions and code. -/
import Derived.Test.YtdgoilofkgdaoaaGreatDoorE24
import Derived.OrdersHeld
import Derived.LoopN
import Derived.Scope
set_option linter.unusedVariables false
set_option linter.unusedSimpArgs false
namespace Go.Ev
noncomputable section
open Go.Am
variable {P : Program}
/-- What is deferred: a function, its arguments, what it has captured; or a loop's mark. -/
inductive Df where
 | call (f : FuncId) (args caps : List EV)
 | mark (k : Nat)
/-- A call's state: its temporaries, memory, the next keys, what is deferred. -/
structure S where
 T : Tr EV
 H : Heap
 k : Nat
 D : List Df
def Df1 (r : Env) : Df → Deferred → Prop
 | .call f args caps, x => ∃ vs cs, renL r args = some vs ∧ renL r caps = some cs ∧ x = { target := .fn (.func f) cs.toArray, args := vs.toArray }
 | .mark k, x => ∃ b, r.b k = some b ∧ x = { target := .collected b, args := #[] }
theorem Df1.mono {r r' : Env} (hle : r.Le r') : ∀ {d : Df} {x : Deferred}, Df1 r d x → Df1 r' d x
 | .call _ _ _, _, ⟨vs, cs, h1, h2, h3⟩ => ⟨vs, cs, renL_mono hle _ _ h1, renL_mono hle _ _ h2, h3⟩
 | .mark _, _, ⟨b, h1, h2⟩ => ⟨b, hle.b _ _ h1, h2⟩
def DRel (r : Env) : List Df → List Deferred → Prop
 | [], [] => True
 | d :: l, x :: m => Df1 r d x ∧ DRel r l m
 | _, _ => False
theorem DRel.mono {r r' : Env} (hle : r.Le r') : ∀ {l : List Df} {m : List Deferred}, DRel r l m → DRel r' l m
 | [], [], _ => trivial
 | d :: l, x :: m, ⟨h1, h⟩ => ⟨h1.mono hle, h.mono hle⟩
 | [], _ :: _, h => h.elim
 | _ :: _, [], h => h.elim
structure SRel (w0 : Base) (n : Nat) (r : Env) (s : S) (a : Act) (w : World) : Prop where
 A : ARel n r s.T a
 W : WRel w0 r s.H w
 D : DRel r s.D a.defers
/-- Such a state, later. -/
def Later (w0 : Base) (n : Nat) (r : Env) (s : S) (a : Act) (w : World) : Prop := ∃ r', r.Le r' ∧ SRel w0 n r' s a w
/-- A contract for calls that are reckoned. -/
abbrev CallF := FuncId → List EV → Heap → Nat → Option (EV × Heap × Nat)
def CallOk (P : Program) (w0 : Base) (call : CallF) : Prop := ∀ f args H k v H' k', call f args H k = some (v, H', k') → ∀ (r : Env) (w : World) (cargs : Array Value), WRel w0 r H w → renL r args = some cargs.toList →
 (∃ fn, P.funcs[f]? = some fn ∧ fn.body.isNone = false ∧ (fn.name == "runtime.NumGoroutine") = false) ∧
 Calls P f cargs w fun e w' => ∃ r' cv, e = .returned cv ∧ r.Le r' ∧ WRel w0 r' H' w' ∧ ren r' v = some cv
/-- The method of a name. -/
def methE (P : Program) (t : TypeId) (name : String) : Option FuncId :=
 match P.info? t with
 | some i => match i.methods.find? (·.name == name) with
  | some m => match m.path.toList, m.func, P.underlying t with
   | [], some (f, false), some (.struct _) => some f
   | _, _, _ => none
  | none => none
 | none => none
def putT (T : Tr EV) (d : Option Tmp) (c : EV) : Tr EV := match d with
 | some t => T.set t c
 | none => T
def dstOk (n : Nat) (d : Option Tmp) : Bool := match d with
 | some t => Nat.blt t n
 | none => true
def callE (P : Program) (call : CallF) (T : Tr EV) (H : Heap) (kc : Nat) (o : Oper) : Option (EV × Heap × Nat) := match o.op with
 | .call { callee := .value f, args := args, argTypes := _ } => match evO T f, evL T args.toList with
  | some (.fn g first caps), some cs => call g (first ++ cs ++ caps) H kc
  | _, _ => none
 | .call { callee := .invoke x name, args := args, argTypes := _ } => match evO T x, evL T args.toList with
  | some (.ifc t c), some cs => match methE P t name with
   | some g => call g (c :: cs) H kc
   | none => none
  | _, _ => none
 | _ => none
/-- A call is deferred. -/
def deferE (T : Tr EV) (o : Oper) : Option Df := match o.op with
 | .defer { callee := .value f, args := args, argTypes := _ } => match evO T f, evL T args.toList with
  | some (.fn g first caps), some cs => some (.call g (first ++ cs) caps)
  | _, _ => none
 | _ => none
/-- One operation that is wanted. -/
def opE0 (P : Program) (call : CallF) (n k : Nat) (o : Oper) (s : S) : Option S :=
 bif dstOk n o.dst then
  match evPure P s.T o with
  | some c => some { s with T := putT s.T o.dst c }
  | none => match evHeap P s.T s.H k o with
   | some (c, H') => some { s with T := putT s.T o.dst c, H := H' }
   | none => match callE P call s.T s.H s.k o with
    | some (c, H', k') => some { s with T := putT s.T o.dst c, H := H', k := k' }
    | none => match deferE s.T o with
     | some d => some { s with T := putT s.T o.dst (.v undef), D := d :: s.D }
     | none => none
 else none
def opE (P : Program) (call : CallF) (n k : Nat) (o : Oper) (s : S) : Option S := match s with
 | ⟨T, H, kc, D⟩ => bif dstOk n o.dst then
  match evPure P T o with
  | some c => some ⟨putT T o.dst c, H, kc, D⟩
  | none => match evHeap P T H k o with
   | some (c, H') => some ⟨putT T o.dst c, H', kc, D⟩
   | none => match callE P call T H kc o with
    | some (c, H', k') => some ⟨putT T o.dst c, H', k', D⟩
    | none => match deferE T o with
     | some d => some ⟨putT T o.dst (.v undef), H, kc, d :: D⟩
     | none => none
 else none
theorem opE_eq (P : Program) (call : CallF) (n k : Nat) (o : Oper) (s : S) : opE P call n k o s = opE0 P call n k o s := rfl
def S.put (s : S) (d : Option Tmp) (c : EV) : S := match s with
 | ⟨T, H, k, D⟩ => ⟨putT T d c, H, k, D⟩
def S.setK (s : S) (k : Nat) : S := match s with
 | ⟨T, H, _, D⟩ => ⟨T, H, k, D⟩
def gdE (all : Array Oper) (o : Oper) (T : Tr EV) : Option Bool := match o.guard with
 | none => some true
 | some (j, b) => match (all[j]?).bind (·.dst) with
  | some t => match T.get t with
   | some (.v (.bool c)) => some (c == b)
   | some (.v (.tuple _)) => some false
   | _ => none
  | none => some false
def stepE (P : Program) (call : CallF) (n k : Nat) (all : Array Oper) (o : Oper) (s : S) : Option S := match gdE all o s.T with
 | some true => opE P call n k o s
 | some false => bif dstOk n o.dst then some (s.put o.dst (.v undef)) else none
 | none => none
section
variable {n : Nat} {w0 : Base} {r : Env} {a : Act} {w : World} {o : Oper} {s s' : S} {call : CallF}
theorem put_defers (a : Act) (d : Option Tmp) (v : Value) : (a.put d v).defers = a.defers := by cases d <;> rfl
theorem ARel.putT {T : Tr EV} (h : ARel n r T a) {d : Option Tmp} (hd : dstOk n d = true) {c : EV} {v : Value} (hc : ren r c = some v) : ARel n r (putT T d c) (a.put d v) := by
 cases d with
 | none => exact h
 | some t => exact h.put (by simpa [dstOk, Nat.blt_eq] using hd) hc
theorem gdE_wanted {all : Array Oper} {b : Bool} (h : gdE all o s.T = some b) (hA : ARel n r s.T a) : Region.wanted o (yielded all a.tmps) = b := by
 unfold gdE at h
 unfold Region.wanted
 split at h
 ·rename_i hg; cases h; simp [hg]
 ·rename_i j c hg
  simp only [hg]
  split at h
  ·rename_i t ht
   split at h
   ·rename_i c' hc
    have hv := (Option.some.inj (hA.tmps t _ hc)).symm
    cases h
    have hq : a.tmps[t]? = some (.bool c') := by
     rw [Array.getD_eq_getD_getElem?] at hv
     cases hq : a.tmps[t]? with
     | none => rw [hq] at hv; simp [undef] at hv
     | some x => rw [hq] at hv; simp at hv; rw [hv]
    simp [yielded, ht, hq]
   ·rename_i vs hc
    have hv := (Option.some.inj (hA.tmps t _ hc)).symm
    cases h
    have : yielded all a.tmps j = none := by
     simp only [yielded, ht, Option.bind_some]
     rw [Array.getD_eq_getD_getElem?] at hv
     cases hq : a.tmps[t]? with
     | none => rfl
     | some x => rw [hq] at hv; simp at hv; rw [hv]
    simp [this]
   ·cases h
  ·rename_i ht
   cases h
   simp [yielded, ht]
theorem run_method {t : TypeId} {name : String} {g : FuncId} (h : methE P t name = some g) (v : Value) (m : Nat) (w : World) : (method (m + 1) t v name).run P w = .ok (g, v) w := by
 unfold methE at h
 split at h
 ·rename_i i hi
  split at h
  ·rename_i me hm
   split at h
   ·rename_i f fs hp hf hu
    cases h
    simp only [method, typeInfo, Sem.run_bind, run_program, Result.andThen_ok, hi, hm, hp, hf, follow, Sem.run_pure, receiverAt, run_underlying hu, Place.get]
   ·cases h
  ·cases h
 ·cases h
theorem opE_done (hcall : CallOk P w0 call) {k : Nat} (h : opE P call n k o s = some s') (hS : SRel w0 n r s a w) (Q : Exit → Act → World → Prop) : o.wp P a w (Later w0 n r s') Q := by
 rw [opE_eq] at h
 unfold opE0 at h
 cases hd : dstOk n o.dst with
 | false => rw [hd] at h; cases h
 | true =>
  rw [hd] at h
  simp only [cond_true] at h
  have fin : ∀ {H' : Heap} {c : EV} {k'}, Done P w0 r H' o a w c → o.wp P a w (Later w0 n r { s with T := putT s.T o.dst c, H := H', k := k' }) Q := by
   rintro H' c k' ⟨r', w', cv, hrun, hle, hW, hc⟩
   have hl : Later w0 n r { s with T := putT s.T o.dst c, H := H', k := k' } (a.put o.dst cv) w' := ⟨r', hle, (hS.A.mono hle).putT hd hc, hW, by rw [put_defers]; exact hS.D.mono hle⟩
   unfold Oper.wp
   rcases hrun with hrun | ⟨hrun, rfl⟩
   ·rw [hrun]; exact hl
   ·rw [hrun]; exact hl
  split at h
  ·rename_i c hp
   cases h
   exact fin ((evPure_done hp hS.A).done hS.W)
  ·split at h
   ·rename_i c H' hp
    cases h
    exact fin (evHeap_done hp hS.A hS.W)
   ·split at h
    ·rename_i c H' k' hp
     cases h
     unfold callE at hp
     have go : ∀ {g : FuncId} {l : List EV} {cargs : Array Value}, call g l s.H s.k = some (c, H', k') → renL r l = some cargs.toList → ((∃ fn, P.funcs[g]? = some fn ∧ fn.body.isNone = false ∧ (fn.name == "runtime.NumGoroutine") = false) → (execOp a.eval o).run P w = .ok (.enter g cargs) w) →
       o.wp P a w (Later w0 n r { s with T := putT s.T o.dst c, H := H', k := k' }) Q := by
      intro g l cargs h1 h2 h3
      obtain ⟨h4, h5⟩ := hcall _ _ _ _ _ _ _ h1 r w cargs hS.W h2
      unfold Oper.wp
      rw [h3 h4]
      refine h5.mono ?_
      rintro e w' ⟨r', cv, rfl, hle, hW, hc⟩
      exact ⟨r', hle, (hS.A.mono hle).putT hd hc, hW, by rw [put_defers]; exact hS.D.mono hle⟩
     split at hp
     ·rename_i f args ts ho
      split at hp
      ·rename_i g first caps cs hf hargs
       have hfv := hS.A.eval hf
       simp only [ren, Option.bind_eq_some_iff] at hfv
       obtain ⟨x, hx, y, hy, hfv⟩ := hfv
       have hfv := (Option.some.inj hfv).symm
       refine go (cargs := x.toArray ++ args.map a.eval ++ y.toArray) hp ?_ ?_
       ·have := renL_append (renL_append hx (hS.A.evL hargs)) hy
        simpa using this
       ·rintro ⟨fn, hfn, hbody, hname⟩
        unfold execOp
        simp only [ho, resolve, hfv, Deferred.ofValue, Sem.run_bind, Sem.run_pure, Result.andThen_ok, invoke, callFunc, run_program, hfn, hname, Bool.false_eq_true, if_false, hbody]
      ·cases hp
     ·rename_i x name args ts ho
      split at hp
      ·rename_i t c' cs hx hargs
       split at hp
       ·rename_i g hg
        have hxv := hS.A.eval hx
        simp only [ren, Option.bind_eq_some_iff] at hxv
        obtain ⟨v, hv, hxv⟩ := hxv
        have hxv := (Option.some.inj hxv).symm
        refine go (cargs := #[v] ++ args.map a.eval) hp ?_ ?_
        ·exact renL_cons.2 ⟨v, args.toList.map a.eval, hv, hS.A.evL hargs, by simp⟩
        ·rintro ⟨fn, hfn, hbody, hname⟩
         have hm : ∀ m, 0 < m → (method m t v name).run P w = .ok (g, v) w := fun m hm => by
          cases m with
          | zero => cases hm
          | succ m => exact run_method hg v m w
         have hm' := hm (P.types.size + Made.depth) (by simp [Made.depth])
         have he : (#[Value.iface t v] ++ args.map a.eval).extract 1 (#[Value.iface t v] ++ args.map a.eval).size = args.map a.eval := by
          apply Array.ext'
          simp [List.take_of_length_le]
         unfold execOp
         simp only [ho, resolve, hxv, Sem.run_bind, Sem.run_pure, Result.andThen_ok, invoke]
         simp only [Array.getElem?_append, List.size_toArray, List.length_cons, List.length_nil, Nat.zero_add, Nat.lt_add_one, if_true, List.getElem?_toArray, List.getElem?_cons_zero, he, callMethod, Sem.run_bind, run_program, Result.andThen_ok, hm', callFunc, hfn, hname, Bool.false_eq_true, if_false, hbody, Sem.run_pure]
       ·cases hp
      ·cases hp
     ·cases hp
    ·split at h
     ·rename_i d hp
      cases h
      unfold deferE at hp
      split at hp
      ·rename_i f args ts ho
       split at hp
       ·rename_i g first caps cs hf hargs
        cases hp
        have hfv := hS.A.eval hf
        simp only [ren, Option.bind_eq_some_iff] at hfv
        obtain ⟨x, hx, y, hy, hfv⟩ := hfv
        have hfv := (Option.some.inj hfv).symm
        have hrun : (execOp a.eval o).run P w = .ok (.defer { target := .fn (.func g) y.toArray, args := x.toArray ++ args.map a.eval }) w := by
         unfold execOp
         simp [ho, resolve, hfv, Deferred.ofValue]
        unfold Oper.wp
        rw [hrun, Oper.upon_defer]
        have hA' : ARel n r (putT s.T o.dst (.v undef)) ({ a with defers := { target := .fn (.func g) y.toArray, args := x.toArray ++ args.map a.eval } :: a.defers }.put o.dst undef) := ARel.putT (a := { a with defers := { target := .fn (.func g) y.toArray, args := x.toArray ++ args.map a.eval } :: a.defers }) (c := .v undef) ⟨hS.A.n, hS.A.tmps⟩ hd rfl
        refine ⟨r, Env.Le.refl r, hA', hS.W, ?_⟩
        rw [put_defers]
        refine ⟨⟨x ++ args.toList.map a.eval, y, renL_append hx (hS.A.evL hargs), hy, ?_⟩, hS.D⟩
        congr 1
        apply Array.ext'
        simp
       ·cases hp
      ·cases hp
     ·cases h
theorem stepE_done (hcall : CallOk P w0 call) {all : Array Oper} {i k : Nat} (hi : all[i]? = some o) (h : stepE P call n k all o s = some s') (hS : SRel w0 n r s a w) (Q : Exit → Act → World → Prop) : wpOp P all Q i (Later w0 n r s') a w := by
 unfold stepE at h
 unfold wpOp
 simp only [hi]
 split at h
 ·rename_i hg
  rw [gdE_wanted hg hS.A, if_pos rfl]
  exact .inl (opE_done hcall h hS Q)
 ·rename_i hg
  rw [gdE_wanted hg hS.A]
  cases hd : dstOk n o.dst with
  | false => rw [hd] at h; cases h
  | true =>
   rw [hd] at h
   cases h
   exact ⟨r, Env.Le.refl r, hS.A.putT hd rfl, hS.W, by rw [put_defers]; exact hS.D⟩
 ·cases h
theorem Later.trans {r' : Env} (hle : r.Le r') (h : Later w0 n r' s a w) : Later w0 n r s a w := let ⟨r2, h1, h2⟩ := h; ⟨r2, hle.trans h1, h2⟩
/-- A region in the order of its text. -/
def seqE (P : Program) (call : CallF) (n : Nat) (all : Array Oper) : Nat → List Oper → S → Option S
 | _, [], s => some s
 | k, o :: l, s => match stepE P call n k all o s with
  | some s' => seqE P call n all (k + 1) l s'
  | none => none
theorem seqE_done (hcall : CallOk P w0 call) {all : Array Oper} {Q : Exit → Act → World → Prop} : ∀ (m i k : Nat), i + m = all.size → ∀ (r : Env) (s : S) (a : Act) (w : World), seqE P call n all k (all.toList.drop i) s = some s' → SRel w0 n r s a w → (∀ a w, Later w0 n r s' a w → Q .normal a w) → wpOps P all Q (List.range' i m) a w
 | 0, i, k, hi, r, s, a, w, h, hS, hQ => by
  rw [List.drop_eq_nil_of_le (by simp; omega)] at h
  cases h
  exact hQ a w ⟨r, Env.Le.refl r, hS⟩
 | m + 1, i, k, hi, r, s, a, w, h, hS, hQ => by
  have hlt : i < all.size := by omega
  rw [List.drop_eq_getElem_cons (by simpa using hlt)] at h
  simp only [seqE] at h
  rw [List.range'_succ, wpOps_cons]
  split at h
  ·rename_i s1 h1
   refine wpOp_mono ?_ (stepE_done hcall (i := i) (by simp [hlt]) h1 hS Q)
   rintro a' w' ⟨r', hle, hS'⟩
   exact seqE_done hcall m (i + 1) (k + 1) (by omega) r' s1 a' w' h hS' (fun a w hl => hQ a w (hl.trans hle))
  ·cases h
end
end
end Go.Ev
