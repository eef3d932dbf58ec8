/- The operations that make boxes, write, call and append; that the machine does what is said of them. -/
import Derived.Test.YtdomhnkffghmlaaGreatDoorSAmSound2
set_option linter.unusedVariables false
set_option linter.unusedSimpArgs false
namespace Go.Am
variable {P : Program}
/-- A call of a function, in abstract values. -/
def ACalls (P : Program) (f : FuncId) (args : List V) (s : Heap) (R : V → Heap → Prop) : Prop :=
 (∃ fn, P.funcs[f]? = some fn ∧ fn.body.isNone = false ∧ (fn.name == "runtime.NumGoroutine") = false) ∧
 ∀ G w (cargs : Array Value), HRel G s w → RepL G args cargs.toList → Calls P f cargs w fun e w' => ∃ G' s' v cv, e = .returned cv ∧ Rep G' v cv ∧ Ext G s w G' s' w' ∧ HRel G' s' w' ∧ R v s'
theorem ACalls.mono {f : FuncId} {args : List V} {s : Heap} {R R' : V → Heap → Prop} (h : ACalls P f args s R) (hr : ∀ v s', R v s' → R' v s') : ACalls P f args s R' :=
 ⟨h.1, fun G w cargs h1 h2 => (h.2 G w cargs h1 h2).mono fun e w' ⟨G', s', v, cv, he, hv, hx, hh, r⟩ => ⟨G', s', v, cv, he, hv, hx, hh, hr v s' r⟩⟩
/-- A call that may panic, with a value and a heap of some kind. -/
def ACallsP (P : Program) (f : FuncId) (args : List V) (s : Heap) (PP : Value → Heap → Prop) (R : V → Heap → Prop) : Prop :=
 (∃ fn, P.funcs[f]? = some fn ∧ fn.body.isNone = false ∧ (fn.name == "runtime.NumGoroutine") = false) ∧
 ∀ G w (cargs : Array Value), HRel G s w → RepL G args cargs.toList → Calls P f cargs w fun e w' => (∃ G' s' v cv, e = .returned cv ∧ Rep G' v cv ∧ Ext G s w G' s' w' ∧ HRel G' s' w' ∧ R v s') ∨ ∃ G' s' v, e = .panicked [{ v := v, recovered := false }] ∧ Ext G s w G' s' w' ∧ HRel G' s' w' ∧ PP v s'
theorem ACalls.toP {f : FuncId} {args : List V} {s : Heap} {PP : Value → Heap → Prop} {R : V → Heap → Prop} (h : ACalls P f args s R) : ACallsP P f args s PP R :=
 ⟨h.1, fun G w cargs h1 h2 => (h.2 G w cargs h1 h2).mono fun e w' h => .inl h⟩
/-- More is let out: of the heap less need be told. -/
theorem ACallsP.mono {f : FuncId} {args : List V} {s : Heap} {PP PP' : Value → Heap → Prop} {R R' : V → Heap → Prop} (h : ACallsP P f args s PP R) (hp : ∀ v s', PP v s' → ∃ s'', s'.le s'' ∧ PP' v s'') (hr : ∀ v s', R v s' → R' v s') : ACallsP P f args s PP' R' :=
 ⟨h.1, fun G w cargs h1 h2 => (h.2 G w cargs h1 h2).mono fun e w' h => by
  rcases h with ⟨G', s', v, cv, he, hv, hx, hh, r⟩ | ⟨G', s', v, he, hx, hh, r⟩
  ·exact .inl ⟨G', s', v, cv, he, hv, hx, hh, hr v s' r⟩
  ·obtain ⟨s'', hle, r'⟩ := hp v s' r
   exact .inr ⟨G', s'', v, he, hx.weaken hle, hh.weaken hle, r'⟩⟩
theorem ACallsP.monoR {f : FuncId} {args : List V} {s : Heap} {PP : Value → Heap → Prop} {R R' : V → Heap → Prop} (h : ACallsP P f args s PP R) (hr : ∀ v s', R v s' → R' v s') : ACallsP P f args s PP R' :=
 h.mono (fun v s' h => ⟨s', Heap.le.refl _, h⟩) hr
/-- The first argument list says less. -/
def Wk (c c' : V) : Prop := ∀ G v, Rep G c v → Rep G c' v
theorem Wk.refl (c : V) : Wk c c := fun _ _ h => h
theorem Wk.own (g sz : Nat) (es : List (List V)) : Wk (.own g sz es) (.slice sz es) := fun G v h => by cases h with | own _ _ _ _ h _ => exact h
theorem Wk.nil (sz : Nat) : Wk .nil (.slice sz []) := fun G v h => by cases h; exact .slice0 sz _ _
theorem Wk.zcap (sz : Nat) : Wk .zcap (.slice sz []) := fun G v h => by cases h; exact .slice0 sz _ _
theorem Wk.any (c : V) : Wk c .any := fun G v _ => .any v
def WkL : List V → List V → Prop
 | [], [] => True
 | c :: l, c' :: l' => Wk c c' ∧ WkL l l'
 | _, _ => False
theorem WkL.rep {G : Ghost} : ∀ {l l' : List V} {vs : List Value}, WkL l l' → RepL G l vs → RepL G l' vs
 | [], [], _, _, h => h
 | [], _ :: _, _, h, _ => h.elim
 | _ :: _, [], _, h, _ => h.elim
 | c :: l, c' :: l', vs, ⟨h1, h2⟩, h => by
  obtain ⟨v, vs', rfl, hc, hl⟩ := h.uncons
  exact RepL.cons (h1 G v hc) (h2.rep hl)
theorem ACalls.wk {f : FuncId} {args args' : List V} {s : Heap} {R : V → Heap → Prop} (hw : WkL args args') (h : ACalls P f args' s R) : ACalls P f args s R :=
 ⟨h.1, fun G w cargs h1 h2 => h.2 G w cargs h1 (hw.rep h2)⟩
theorem ACallsP.wk {f : FuncId} {args args' : List V} {s : Heap} {PP : Value → Heap → Prop} {R : V → Heap → Prop} (hw : WkL args args') (h : ACallsP P f args' s PP R) : ACallsP P f args s PP R :=
 ⟨h.1, fun G w cargs h1 h2 => h.2 G w cargs h1 (hw.rep h2)⟩
def Heap.setBox (s : Heap) (b : Nat) (x : List V × TypeId) : Heap := { s with box := upd s.box b (some x) }
def Heap.setOwn (s : Heap) (g : Nat) (x : Option (TypeId × Nat)) : Heap := { s with own := upd s.own g x }
def dstOk (o : Oper) (st : St) : Prop := match o.dst with
 | some t => t < st.n
 | none => True
def mkBox (o : Oper) (t : TypeId) (cs : List V) (st : St) (K : St → Prop) : Prop :=
 match o.dst with
 | some t0 => t0 < st.n ∧ st.loc t0 = none ∧ K ({ st with loc := upd st.loc t0 (some (cs, t)) }.put (some t0) (.loc t0 0))
 | none => False
/-- What is appended. -/
def appV (sz : Nat) : V → Option (List (List V))
 | .nil | .zcap | .base (.slice _ 0 _) => some []
 | .slice sz' es | .own _ sz' es => if sz' = sz then some es else none
 | _ => none
/-- A slice in a heap box of its own, which may be written: its cells. -/
def MutAt (s : Heap) (a : Option Addr) (n cap : Nat) (cs : List V) (e : TypeId) (sz : Nat) : Prop :=
 (a = none ∧ n = 0 ∧ cap = 0 ∧ cs = []) ∨ ∃ b, a = some ⟨b, 0, none⟩ ∧ s.box b = some (cs, e) ∧ cs.length = cap * sz ∧ n ≤ cap ∧ cap ≤ maxLen
/-- Some elements are appended to such a slice. -/
def aAppendM (o : Oper) (e : TypeId) (de : TyD) (xs : List (List V)) (v : Value) (st : St) (K : St → Prop) : Prop :=
 match v with
 | .slice a n cap => if xs.length = 0 then n ≤ cap ∧ K (st.put o.dst (.base (.slice a n cap))) else
   (n + xs.length) * de.bytes ≤ 2 ^ 47 ∧ n + xs.length ≤ maxLen ∧ ∃ cs, MutAt st.s a n cap cs e de.size ∧ ∀ b' cap' cs', (a = some ⟨b', 0, none⟩ ∨ st.s.box b' = none) → cs'.length = cap' * de.size → cs'.take ((n + xs.length) * de.size) = cs.take (n * de.size) ++ xs.flatten → n + xs.length ≤ cap' → cap' ≤ maxLen →
   K ({ st with s := st.s.setBox b' (cs', e) }.put o.dst (.base (.slice (some ⟨b', 0, none⟩) (n + xs.length) cap')))
 | _ => False
def aAppend (P : Program) (o : Oper) (args : Array Operand) (ts : Array TypeId) (st : St) (K : St → Prop) : Prop :=
 match ts.toList, args.toList with
 | [t, t'], [x, y] => t = t' ∧ match tyOf P t with
  | some d => match d.shape with
   | .slice e => match tyOf P e with
    | some de => 0 < de.size ∧ dstOk o st ∧ match appV de.size (st.eval y) with
     | some xs => match st.eval x with
      | .nil => xs.length * de.bytes ≤ 2 ^ 47 ∧ xs.length ≤ maxLen ∧ ∀ g, st.s.own g = none → K ({ st with s := st.s.setOwn g (some (e, de.size)) }.put o.dst (.own g de.size xs))
      | .zcap => xs.length * de.bytes ≤ 2 ^ 47 ∧ xs.length ≤ maxLen ∧ ∀ g, st.s.own g = none → K ({ st with s := st.s.setOwn g (some (e, de.size)) }.put o.dst (.own g de.size xs))
      | .own g0 sz es => sz = de.size ∧ st.s.own g0 = some (e, sz) ∧ (es.length + xs.length) * de.bytes ≤ 2 ^ 47 ∧ es.length + xs.length ≤ maxLen ∧
        ∀ g, st.s.own g = none → K ({ st with s := (st.s.setOwn g0 none).setOwn g (some (e, de.size)) }.put o.dst (.own g de.size (es ++ xs)))
      | .base v => aAppendM o e de xs v st K
      | _ => False
     | none => False
    | none => False
   | _ => False
  | none => False
 | _, _ => False
def aStore (P : Program) (o : Oper) (t : TypeId) (x y : Operand) (st : St) (K : St → Prop) : Prop :=
 match tyOf P t with
 | some d => (st.eval y).cells.all V.isCell = true ∧ (st.eval y).cells.length = d.size ∧ dstOk o st ∧ match st.eval x with
  | .loc b off => match st.loc b with
   | some (cs, ty) => off + d.size ≤ cs.length ∧ K ({ st with loc := upd st.loc b (some (splice cs off (st.eval y).cells, ty)) }.put o.dst (.base undef))
   | none => False
  | .ptr b off => match st.s.box b with
   | some (cs, ty) => off + d.size ≤ cs.length ∧ K ({ st with s := st.s.setBox b (splice cs off (st.eval y).cells, ty) }.put o.dst (.base undef))
   | none => False
  | _ => False
 | none => False
def aPure (P : Program) (o : Oper) (st : St) (K : St → Prop) : Prop :=
 match pval P st o.op with
 | some (v, side) => side ∧ dstOk o st ∧ K (st.put o.dst v)
 | none => False
def aLoad (P : Program) (o : Oper) (t : TypeId) (x : Operand) (st : St) (K : St → Prop) : Prop :=
 match st.eval x with
 | .ptr b off => match tyOf P t, st.s.box b with
  | some d, some (cs, _) => match rd d cs off with
   | some v => dstOk o st ∧ K (st.put o.dst v)
   | none => False
  | _, _ => False
 | _ => aPure P o st K
def aCall (P : Program) (o : Oper) (f : Operand) (args : Array Operand) (st : St) (K : St → Prop) : Prop :=
 match st.eval f with
 | .func k first cap => match noLocs (args.toList.map st.eval) with
  | some vs => dstOk o st ∧ ACallsP P k (first ++ vs ++ cap) st.s (fun v s' => st.ds = [] ∧ st.pp v s') fun v s' => K ({ st with s := s' }.put o.dst v)
  | none => False
 | _ => False
/-- One operation. -/
def aop (P : Program) (o : Oper) (st : St) (K : St → Prop) : Prop :=
 match o.op with
 | .alloc t => match tyOf P t with
  | some d => mkBox o t (d.zero.map V.ofCell) st K
  | none => False
 | .box t x => (st.eval x).cells.all V.isCell = true ∧ mkBox o t (st.eval x).cells st K
 | .store t x y => aStore P o t x y st K
 | .load t x => aLoad P o t x st K
 | .call { callee := .value f, args := args, argTypes := _ } => aCall P o f args st K
 | .call { callee := .builtin .append, args := args, argTypes := ts } => aAppend P o args ts st K
 | _ => aPure P o st K
/-- Where the machine is, behind an operation. -/
def Then (e : Entry) (K : St → Prop) (a : Act) (w : World) : Prop := ∃ st, K st ∧ In e st a w
/-- A panic that may leave the call. -/
def Pan (e : Entry) (x : Exit) (a : Act) (w : World) : Prop := ∃ v G s', x = .panic [{ v := v, recovered := false }] ∧ a.defers = e.tl ∧ Ext e.G e.s e.w G s' w ∧ HRel G s' w ∧ e.pp v s'
/-- Such a panic is let out. -/
def PQ (e : Entry) (Q : Exit → Act → World → Prop) : Prop := ∀ x a w, Pan e x a w → Q x a w
theorem PQ.no {e : Entry} {Q : Exit → Act → World → Prop} (h : e.pp = noPan) : PQ e Q := fun x a w ⟨v, G, s', h1, h2, h3, h4, h5⟩ => by rw [h] at h5; exact h5.elim
theorem aPure_sound {e : Entry} {o : Oper} {st : St} {K : St → Prop} {a : Act} {w : World} {Q : Exit → Act → World → Prop} (h : aPure P o st K) (hin : In e st a w) : o.wp P a w (Then e K) Q := by
 unfold aPure at h
 split at h
 ·rename_i v side hp
  obtain ⟨hs, hd, hK⟩ := h
  obtain ⟨G, be, hx, hr⟩ := hin
  obtain ⟨cv, w1, G1, hrun, hr1, hx1, hv⟩ := pval_sound hr hp hs
  unfold Oper.wp
  rw [hrun]
  refine ⟨_, hK, G1, be, ?_, hr1.put o.dst (fun t ht => by unfold dstOk at hd; rw [ht] at hd; exact hd) hv⟩
  have : (st.put o.dst v).s = st.s := by cases hd' : o.dst <;> rfl
  rw [this]
  exact hx.trans hx1
 ·exact h.elim
end Go.Am
