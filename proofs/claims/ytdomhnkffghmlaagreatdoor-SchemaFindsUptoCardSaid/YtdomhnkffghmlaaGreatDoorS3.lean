/- The evaluator's operations: what is reckoned is what the machine does. -/
import Derived.Test.YtdomhnkffghmlaaGreatDoorSEvBase
set_option linter.unusedVariables false
set_option linter.unusedSimpArgs false
namespace Go.Ev
noncomputable section
open Go.Am
variable {P : Program}
/-- What needs no memory. -/
def pureS {α : Type} (P : Program) : Sem α → Option α
 | .pure v => some v
 | .program k => pureS P (k P)
 | .mark _ k => pureS P k
 | _ => none
theorem pureS_run {α : Type} {v : α} (w : World) : ∀ {s : Sem α}, pureS P s = some v → s.run P w = .ok v w
 | .pure v', h => by cases h; rfl
 | .program k, h => pureS_run (s := k P) w h
 | .mark m k, h => pureS_run (s := k) w h
 | .load .., h | .store .., h | .new .., h | .shape .., h | .freeze .., h | .frozen .., h | .getObj .., h | .setObj .., h | .choose .., h | .sys .., h | .halt _, h => by cases h
mutual
/-- A value without a block in it. -/
def toV : EV → Option Value
 | .v x => some x
 | .ag cs => (toVL cs).bind fun l => some (.agg l.toArray)
 | .tu cs => (toVL cs).bind fun l => some (.tuple l.toArray)
 | .ifc t x => (toV x).bind fun y => some (.iface t y)
 | _ => none
def toVL : List EV → Option (List Value)
 | [] => some []
 | c :: l => (toV c).bind fun x => (toVL l).bind fun y => some (x :: y)
end
section
variable {r : Env}
mutual
theorem toV_ren : ∀ (c : EV) (v : Value), toV c = some v → ren r c = some v
 | .v x, v, h => h
 | .ag cs, v, h => by
  simp only [toV, Option.bind_eq_some_iff] at h
  obtain ⟨l, h1, h2⟩ := h
  simp only [ren, toVL_ren cs l h1, Option.bind_some]; exact h2
 | .tu cs, v, h => by
  simp only [toV, Option.bind_eq_some_iff] at h
  obtain ⟨l, h1, h2⟩ := h
  simp only [ren, toVL_ren cs l h1, Option.bind_some]; exact h2
 | .ifc t x, v, h => by
  simp only [toV, Option.bind_eq_some_iff] at h
  obtain ⟨l, h1, h2⟩ := h
  simp only [ren, toV_ren x l h1, Option.bind_some]; exact h2
 | .p .., v, h | .sl .., v, h | .fn .., v, h | .yl .., v, h => by simp [toV] at h
theorem toVL_ren : ∀ (c : List EV) (v : List Value), toVL c = some v → renL r c = some v
 | [], v, h => h
 | c :: l, v, h => by
  simp only [toVL, Option.bind_eq_some_iff] at h
  obtain ⟨x, h1, y, h2, h3⟩ := h
  simp only [renL, toV_ren c x h1, toVL_ren l y h2, Option.bind_some]; exact h3
end
end
/-- Operands. -/
def evO (T : Tr EV) : Operand → Option EV
 | .tmp t => T.get t
 | .const v => some (EV.of v)
 | .func f => some (.fn f [] [])
 | .global _ => none
def evL (T : Tr EV) : List Operand → Option (List EV)
 | [] => some []
 | x :: l => (evO T x).bind fun c => (evL T l).bind fun y => some (c :: y)
structure ARel (n : Nat) (r : Env) (T : Tr EV) (a : Act) : Prop where
 n : a.tmps.size = n
 tmps : ∀ t c, T.get t = some c → ren r c = some (a.tmps.getD t undef)
section
variable {n : Nat} {r r' : Env} {T : Tr EV} {a : Act}
theorem ARel.eval (h : ARel n r T a) {x : Operand} {c : EV} (hx : evO T x = some c) : ren r c = some (a.eval x) := by
 cases x with
 | tmp t => exact h.tmps t c hx
 | const v => cases hx; exact ren_of v
 | func f => cases hx; rfl
 | global g => cases hx
theorem ARel.mono (h : ARel n r T a) (hle : r.Le r') : ARel n r' T a := ⟨h.n, fun t c ht => ren_mono hle _ _ (h.tmps t c ht)⟩
theorem ARel.evL (h : ARel n r T a) : ∀ {l : List Operand} {cs : List EV}, evL T l = some cs → renL r cs = some (l.map a.eval)
 | [], cs, e => by cases e; rfl
 | x :: l, cs, e => by
  simp only [Ev.evL, Option.bind_eq_some_iff] at e
  obtain ⟨c, h1, y, h2, h3⟩ := e
  cases h3
  exact renL_cons.2 ⟨_, _, h.eval h1, h.evL h2, rfl⟩
theorem ARel.plain (h : ARel n r T a) {x : Operand} {v : Value} (hx : (evO T x).bind toV = some v) : a.eval x = v := by
 obtain ⟨c, h1, h2⟩ := Option.bind_eq_some_iff.1 hx
 exact Option.some.inj ((h.eval h1).symm.trans (toV_ren c v h2))
theorem ARel.put (h : ARel n r T a) {t : Nat} (ht : t < n) {c : EV} {v : Value} (hc : ren r c = some v) : ARel n r (T.set t c) (a.put (some t) v) := by
 refine ⟨by simp [Act.put, h.n], fun t' c' h' => ?_⟩
 rw [Tr.get_set] at h'
 have ht' : t < a.tmps.size := by rw [h.n]; exact ht
 by_cases e : t' = t
 ·subst e
  rw [if_pos rfl] at h'
  cases h'
  rw [hc]; simp [Act.put, Array.getD_eq_getD_getElem?, ht']
 ·rw [if_neg e] at h'
  rw [h.tmps t' c' h']
  simp [Act.put, Array.getD_eq_getD_getElem?, Array.getElem?_setIfInBounds_ne (Ne.symm e)]
end
/-- The machine has done an operation, and what is told of it is so. -/
def Done (P : Program) (w0 : Base) (r : Env) (H' : Heap) (o : Oper) (a : Act) (w : World) (c : EV) : Prop :=
 ∃ r' w' cv, ((execOp a.eval o).run P w = .ok (.value cv) w' ∨ ((execOp a.eval o).run P w = .ok .skip w' ∧ cv = undef)) ∧ r.Le r' ∧ WRel w0 r' H' w' ∧ ren r' c = some cv
section
variable {n : Nat} {w0 : Base} {r : Env} {T : Tr EV} {H : Heap} {a : Act} {w : World} {o : Oper}
theorem Done.same {c : EV} {cv : Value} (hW : WRel w0 r H w) (h : (execOp a.eval o).run P w = .ok (.value cv) w) (hc : ren r c = some cv) : Done P w0 r H o a w c :=
 ⟨r, w, cv, .inl h, Env.Le.refl r, hW, hc⟩
/-- What needs no memory is done so in whatever world. -/
def PDone (P : Program) (r : Env) (o : Oper) (a : Act) (c : EV) : Prop := ∃ cv, (∀ w, (execOp a.eval o).run P w = .ok (.value cv) w) ∧ ren r c = some cv
theorem PDone.done {c : EV} (h : PDone P r o a c) (hW : WRel w0 r H w) : Done P w0 r H o a w c := by
 obtain ⟨cv, h1, h2⟩ := h
 exact Done.same hW (h1 w) h2
/-- A new block. -/
def newE (H : Heap) (k : Nat) (cs : List EV) (t : TypeId) : Option (EV × Heap) :=
 match H.get k with
 | none => bif cs.all EV.one then some (.p k 0, H.set k (.live cs t 0)) else none
 | some _ => none
theorem newE_done {k : Nat} {cs : List EV} {t : TypeId} {c : EV} {H' : Heap} (h : newE H k cs t = some (c, H')) (hW : WRel w0 r H w) {ccs : Array Value} (hcs : renL r cs = some ccs.toList)
  (hrun : (execOp a.eval o).run P w = .ok (.value (.pointer (some ⟨w.heap.size, 0, none⟩))) (w.alloc (.cells ccs t))) : Done P w0 r H' o a w c := by
 unfold newE at h
 split at h
 ·rename_i hk
  cases ho : cs.all EV.one with
  | false => rw [ho] at h; cases h
  | true =>
   rw [ho] at h
   cases h
   have hle := Env.le_add (b := w.heap.size) (c := 0) (hW.fresh hk)
   refine ⟨_, _, _, .inl hrun, hle, hW.alloc (c := 0) hk ⟨ccs.toList, renL_mono hle _ _ hcs, one_renL hcs ho, .inl ⟨rfl, rfl⟩⟩, ?_⟩
   simp [ren, Env.add]
 ·cases h
/-- A variable out of a row. -/
def rdE (d : TyD) (cs : List EV) (off : Nat) : Option EV :=
 bif d.agg then (bif Nat.ble (off + d.size) cs.length then some (.ag ((cs.drop off).take d.size)) else none) else cs[off]?
theorem rdE_ren {d : TyD} {cs : List EV} {vs : List Value} {off : Nat} {c : EV} (h : rdE d cs off = some c) (hcs : renL r cs = some vs) : rd d (vs.map V.base) off = (match d.agg with | true => some (.agg (((vs.map V.base).drop off).take d.size)) | false => (vs.map V.base)[off]?) ∧
  ∃ cv, ren r c = some cv ∧ (match d.agg with | true => cv = .agg ((vs.drop off).take d.size).toArray | false => vs[off]? = some cv) := by
 unfold rdE at h
 unfold rd
 have hl := renL_len hcs
 cases ha : d.agg with
 | true =>
  rw [ha] at h
  simp only [cond_true] at h
  cases hb : Nat.ble (off + d.size) cs.length with
  | false => rw [hb] at h; cases h
  | true =>
   rw [hb] at h
   cases h
   have := Nat.le_of_ble_eq_true hb
   refine ⟨by rw [if_pos rfl, if_pos (by simp; omega)], _, ?_, rfl⟩
   simp [ren, renL_take (renL_drop hcs off) d.size]
 | false =>
  rw [ha] at h
  simp only [cond_false] at h
  obtain ⟨cv, h1, h2⟩ := renL_get hcs h
  exact ⟨by simp, cv, h2, h1⟩
theorem repL_bases {G : Ghost} (vs : List Value) : RepL G (vs.map V.base) vs := by
 refine ⟨by simp, fun i c v h1 h2 => ?_⟩
 rw [List.getElem?_map, h2] at h1
 cases h1
 exact .base v
theorem bases_rep {G : Ghost} : ∀ {vs ws : List Value}, RepL G (vs.map V.base) ws → ws = vs
 | [], ws, h => h.nil_inv
 | v :: vs, ws, h => by
  obtain ⟨x, ws', rfl, h1, h2⟩ := RepL.uncons (by simpa using h)
  cases h1
  rw [bases_rep h2]
theorem loadE_run {t : TypeId} {d : TyD} (hd : tyOf P t = some d) {cs : List EV} {off : Nat} {c : EV} (h : rdE d cs off = some c) {vs : List Value} (hcs : renL r cs = some vs) {b : Nat} {ccs : Array Value} {ty : TypeId} (hb : w.heap[b]? = some (.cells ccs ty (0, 0))) {tail : List Value} (hv : ccs.toList = vs ++ tail) :
  ∃ cv, (Instr.loadAt t (.pointer (some ⟨b, off, none⟩))).run P w = .ok cv w ∧ ren r c = some cv := by
 obtain ⟨h1, cv, h2, h3⟩ := rdE_ren h hcs
 have hr : w.rangeAt b 0 vs := fun j v hj => by
  rw [Nat.zero_add, cell_of_row w b j ccs ty _ hb]
  have hlt := (List.getElem?_eq_some_iff.1 hj).1
  have : ccs.toList[j]? = some v := by rw [hv, List.getElem?_append_left hlt]; exact hj
  simpa using this
 cases ha : d.agg with
 | true =>
  rw [ha] at h1 h3
  obtain ⟨cv', hrun, hrep⟩ := rd_run (P := P) (G := ⟨fun _ _ => none, fun _ => none, fun _ => none⟩) (repL_bases vs) hr hd h1
  rw [Nat.zero_add] at hrun
  refine ⟨cv', hrun, ?_⟩
  rw [h2, h3]
  cases hrep with
  | agg _ ccs' hl hh =>
   have := repL_of_arr hl hh
   rw [← List.map_drop, ← List.map_take] at this
   rw [← bases_rep this]
 | false =>
  rw [ha] at h1 h3
  simp only at h1 h3
  rw [List.getElem?_map, h3] at h1
  obtain ⟨cv', hrun, hrep⟩ := rd_run (P := P) (G := ⟨fun _ _ => none, fun _ => none, fun _ => none⟩) (repL_bases vs) hr hd h1
  rw [Nat.zero_add] at hrun
  cases hrep
  exact ⟨cv, hrun, h2⟩
/-- A part of an aggregate. -/
def partE (ag : Bool) (size : Nat) (cs : List EV) (off : Nat) : Option EV :=
 bif ag then (bif Nat.ble (off + size) cs.length then some (.ag ((cs.drop off).take size)) else none) else cs[off]?
theorem partE_run {t : TypeId} {i : TypeInfo} {u : TypeDesc} (hi : P.info? t = some i) (hu : P.underlying t = some u) {cs : List EV} {ccs : Array Value} (hr : renL r cs = some ccs.toList) {off : Nat} {c : EV} (h : partE (isAggOf P t) i.size cs off = some c) :
  ∃ cv, (∀ w, (part t ccs off).run P w = .ok cv w) ∧ ren r c = some cv := by
 unfold partE at h
 unfold part
 cases ha : isAggOf P t with
 | true =>
  rw [ha] at h
  simp only [cond_true] at h
  cases hb : Nat.ble (off + i.size) cs.length with
  | false => rw [hb] at h; cases h
  | true =>
   rw [hb] at h
   cases h
   refine ⟨.agg (ccs.extract off (off + i.size)), fun w => ?_, ?_⟩
   ·simp [isAgg_run hu, ha, sizeOf, typeInfo, hi]
   ·simp only [ren, renL_take (renL_drop hr off) i.size, Option.bind_some, Option.some.injEq, Value.agg.injEq]
    apply Array.ext'
    simp [Array.toList_extract, List.extract_eq_take_drop]
 | false =>
  rw [ha] at h
  simp only [cond_false] at h
  obtain ⟨cv, h1, h2⟩ := renL_get hr h
  refine ⟨cv, fun w => ?_, h2⟩
  have hc' : ccs[off]? = some cv := by simpa using h1
  simp [isAgg_run hu, ha, hc']
/-- Parts are filled in. -/
def spliceE (cs : List EV) (off : Nat) (l : List EV) : List EV := cs.take off ++ l ++ cs.drop (off + l.length)
def fillE (place : Nat → Option (Nat × Nat)) : List EV → List (Nat × EV) → Option (List EV)
 | cs, [] => some cs
 | cs, (i, v) :: l => match place i with
  | some (off, size) => bif Nat.beq v.cells.length size && Nat.ble (off + v.cells.length) cs.length && v.cells.all EV.one then fillE place (spliceE cs off v.cells) l else none
  | none => none
theorem splice_ren {cs l : List EV} {vs vl : List Value} (h : renL r cs = some vs) (hl : renL r l = some vl) (off : Nat) : renL r (spliceE cs off l) = some (vs.take off ++ vl ++ vs.drop (off + vl.length)) := by
 unfold spliceE
 rw [← renL_len hl]
 exact renL_append (renL_append (renL_take h off) hl) (renL_drop h _)
def PartsRel (r : Env) : List (Nat × EV) → List (Nat × Value) → Prop
 | [], [] => True
 | (i, c) :: l, (j, v) :: m => i = j ∧ ren r c = some v ∧ PartsRel r l m
 | _, _ => False
theorem fill_ren (place : Nat → Option (Nat × Nat)) : ∀ (parts : List (Nat × EV)) (vparts : List (Nat × Value)) (cs cs' : List EV) (ccs : Array Value),
  fillE place cs parts = some cs' → renL r cs = some ccs.toList → (∀ x ∈ ccs.toList, x.oneCell' = true) → PartsRel r parts vparts →
  ∃ ccs', Instr.fill place ccs vparts = some ccs' ∧ renL r cs' = some ccs'.toList ∧ (∀ x ∈ ccs'.toList, x.oneCell' = true)
 | [], [], cs, cs', ccs, h, hr, h1, _ => by
  simp [fillE] at h; subst h
  exact ⟨ccs, rfl, hr, h1⟩
 | [], _ :: _, _, _, _, _, _, _, hp => hp.elim
 | (i, c) :: parts, [], cs, cs', ccs, h, hr, h1, hp => hp.elim
 | (i, c) :: parts, (j, v) :: vparts, cs, cs', ccs, h, hr, h1, hp => by
  obtain ⟨rfl, hv, hp⟩ := hp
  simp only [fillE] at h
  cases hpl : place i with
  | none => rw [hpl] at h; cases h
  | some x =>
   obtain ⟨off, size⟩ := x
   rw [hpl] at h
   simp only at h
   cases hc : (Nat.beq c.cells.length size && Nat.ble (off + c.cells.length) cs.length && c.cells.all EV.one) with
   | false => rw [hc] at h; cases h
   | true =>
    rw [hc] at h
    simp only [Bool.and_eq_true] at hc
    obtain ⟨⟨hsz, hoff⟩, hall⟩ := hc
    have hsz := Nat.eq_of_beq_eq_true hsz
    have hoff := Nat.le_of_ble_eq_true hoff
    have hrc := cells_ren hv
    have hone := one_renL hrc hall
    have hvs : v.cells.size = c.cells.length := by rw [← renL_len hrc]; simp
    have hcs : ccs.size = cs.length := by rw [← renL_len hr]; simp
    have hstep := fill_step off v.cells ccs (by omega)
    have hsp : renL r (spliceE cs off c.cells) = some (v.cells.zipIdx.foldl (fun (cs : Array Value) (x : Value × Nat) => cs.setIfInBounds (off + x.2) x.1) ccs).toList := by
     rw [hstep, splice_ren hr hrc]; simp
    have hone' : ∀ x ∈ (v.cells.zipIdx.foldl (fun (cs : Array Value) (x : Value × Nat) => cs.setIfInBounds (off + x.2) x.1) ccs).toList, x.oneCell' = true := by
     rw [hstep]
     intro x hx
     simp only [List.mem_append] at hx
     rcases hx with (hx | hx) | hx
     ·exact h1 x (List.mem_of_mem_take hx)
     ·exact hone x hx
     ·exact h1 x (List.mem_of_mem_drop hx)
    obtain ⟨ccs', hf, hres⟩ := fill_ren place parts vparts _ cs' _ h hsp hone' hp
    refine ⟨ccs', ?_, hres⟩
    simp only [Instr.fill, hpl]
    rw [if_neg (by simp; omega)]
    exact hf
/-- The parts' values. -/
def evParts (T : Tr EV) : List (Nat × Operand) → Option (List (Nat × EV))
 | [] => some []
 | (i, x) :: l => (evO T x).bind fun c => (evParts T l).bind fun y => some ((i, c) :: y)
theorem ARel.parts (h : ARel n r T a) : ∀ {l : List (Nat × Operand)} {ps : List (Nat × EV)}, evParts T l = some ps → PartsRel r ps (l.map fun x => (x.1, a.eval x.2))
 | [], ps, e => by cases e; trivial
 | (i, x) :: l, ps, e => by
  simp only [evParts, Option.bind_eq_some_iff] at e
  obtain ⟨c, h1, y, h2, h3⟩ := e
  cases h3
  exact ⟨rfl, h.eval h1, h.parts h2⟩
end
end
end Go.Ev
namespace Go.Ev
noncomputable section
open Go.Am
variable {P : Program}
section
variable {n : Nat} {w0 : Base} {r : Env} {T : Tr EV} {H : Heap} {a : Act} {w : World} {o : Oper}
def storeE (H : Heap) (d : TyD) (x y : EV) : Option (EV × Heap) :=
 match x with
 | .p k off => match H.get k with
  | some (.live cs ty sz) => bif y.cells.all EV.one && Nat.beq y.cells.length d.size && Nat.ble (off + d.size) cs.length then some (.v undef, H.set k (.live (spliceE cs off y.cells) ty sz)) else none
  | _ => none
 | _ => none
theorem storeE_done {t : TypeId} {x y : Operand} (ho : o.op = .store t x y) {d : TyD} (hd : tyOf P t = some d) {cx cy : EV} (hx : evO T x = some cx) (hy : evO T y = some cy) {c : EV} {H' : Heap} (h : storeE H d cx cy = some (c, H')) (hA : ARel n r T a) (hW : WRel w0 r H w) : Done P w0 r H' o a w c := by
 unfold storeE at h
 split at h
 ·rename_i k off
  split at h
  ·rename_i cs ty sz hk
   cases hc : (cy.cells.all EV.one && Nat.beq cy.cells.length d.size && Nat.ble (off + d.size) cs.length) with
   | false => rw [hc] at h; cases h
   | true =>
    rw [hc] at h
    cases h
    simp only [Bool.and_eq_true] at hc
    obtain ⟨⟨hall, hlen⟩, hle⟩ := hc
    have hlen := Nat.eq_of_beq_eq_true hlen
    have hle := Nat.le_of_ble_eq_true hle
    obtain ⟨b, ccs, h1, h2, h3, vs, h4, h5, h6⟩ := hW.blk k cs ty sz hk
    have hxv := hA.eval hx
    simp only [ren, h1, Option.bind_some, Option.some.injEq] at hxv
    have hyc := cells_ren (hA.eval hy)
    have hy1 := one_renL hyc hall
    have hyl := renL_len hyc
    simp only [Array.length_toList] at hyl
    have hvl := renL_len h4
    have htail : ∃ tail, ccs.toList = vs ++ tail := by
     rcases h6 with ⟨_, h6⟩ | ⟨_, h6, _⟩
     ·exact ⟨[], by simpa using h6⟩
     ·exact h6
    obtain ⟨tail, ht⟩ := htail
    have hcl : ccs.size = vs.length + tail.length := by have := congrArg List.length ht; simpa using this
    have hrun := storeAt_run (P := P) hd (v := a.eval y) (b := b) (off := off) w h3 (by omega) (by omega) hy1
    refine ⟨r, _, undef, .inr ⟨?_, rfl⟩, Env.Le.refl r, hW.setRow (cs' := spliceE cs off cy.cells) hk h1 (ccs' := (ccs.toList.take off ++ (a.eval y).cells.toList ++ ccs.toList.drop (off + (a.eval y).cells.toList.length)).toArray) ?_, rfl⟩
    ·unfold execOp
     simp only [ho, ← hxv, Sem.run_bind, hrun, Result.andThen_ok, Sem.run_pure]
    ·have hnew : ccs.toList.take off ++ (a.eval y).cells.toList ++ ccs.toList.drop (off + (a.eval y).cells.toList.length) = (vs.take off ++ (a.eval y).cells.toList ++ vs.drop (off + (a.eval y).cells.toList.length)) ++ tail := by
      have e1 : off ≤ vs.length := by omega
      have e2 : off + (a.eval y).cells.toList.length ≤ vs.length := by simp; omega
      rw [ht, List.take_append_of_le_length e1, List.drop_append_of_le_length e2]
      simp
     refine ⟨vs.take off ++ (a.eval y).cells.toList ++ vs.drop (off + (a.eval y).cells.toList.length), splice_ren h4 hyc off, ?_, ?_⟩
     ·simpa using mem_splice_one h5 hy1
     ·rcases h6 with ⟨z1, z2⟩ | ⟨z1, z2, z3, z4⟩
      ·refine .inl ⟨z1, ?_⟩
       have : tail = [] := by rw [z2] at ht; simpa using ht
       simp only [hnew, this, List.append_nil]
      ·refine .inr ⟨z1, ⟨tail, by simp only [hnew]⟩, ?_, z4⟩
       rw [← z3]
       simp; omega
  ·cases h
 ·cases h
/-- An index. -/
def ixE : EV → Option Int
 | .v (.int _ i) => some i
 | _ => none
def indexAddrE (sz : Nat) (x : EV) (i : Int) : Option EV :=
 match x with
 | .sl k off len c o => match i with
  | .ofNat j => bif Nat.blt j len then some (.p k (off + j * sz)) else none
  | _ => none
 | _ => none
theorem ixE_eq {c : EV} {i : Int} (h : ixE c = some i) : ∃ k, c = .v (.int k i) := by
 unfold ixE at h
 split at h
 ·cases h; exact ⟨_, rfl⟩
 ·cases h
theorem indexAddrE_done {t e : TypeId} {x y : Operand} (ho : o.op = .indexAddr t x y) {d de : TyD} (hd : tyOf P t = some d) (hfs : d.shape = .slice e) (hde : tyOf P e = some de) {cx cy : EV} (hx : evO T x = some cx) (hy : evO T y = some cy) {i : Int} (hi : ixE cy = some i) {c : EV} (h : indexAddrE de.size cx i = some c)
  (hA : ARel n r T a) : PDone P r o a c := by
 obtain ⟨i', u, z, hi', hu, hz, h1, h2, h3, h4, h5⟩ := tyOf_some hd
 obtain ⟨ie, ue, ze, hie, hue, hze, k1, k2, k3, k4, k5⟩ := tyOf_some hde
 obtain rfl := shape_slice (hfs.symm.trans h5)
 obtain ⟨ki, rfl⟩ := ixE_eq hi
 have hyv := hA.eval hy
 simp only [ren, Option.some.injEq] at hyv
 unfold indexAddrE at h
 split at h
 ·rename_i k off len cc oo
  split at h
  ·rename_i j
   cases hb : Nat.blt j len with
   | false => rw [hb] at h; cases h
   | true =>
    rw [hb] at h
    cases h
    have hlt : j < len := by simpa [Nat.blt_eq] using hb
    have hxv := hA.eval hx
    simp only [ren, Option.bind_eq_some_iff] at hxv
    obtain ⟨b, hb1, hxv⟩ := hxv
    have hxv := Option.some.inj hxv
    refine ⟨.pointer (some ⟨b, off + j * de.size, none⟩), fun w => ?_, (by simp [ren, hb1])⟩
    unfold execOp
    have e1 : (0 : Int) ≤ Int.ofNat j := Int.natCast_nonneg j
    have e2 : (Int.ofNat j) < (len : Int) := by exact Int.ofNat_lt.2 hlt
    simp [ho, ← hxv, ← hyv, Instr.indexAt, asIntOf, run_underlying hu, e1, e2, hlt, sizeOf, typeInfo, hie, ← k1, mid_add]
  ·cases h
 ·cases h
def sliceE (sz : Nat) (H : Heap) (x : EV) (lo hi : Nat) (mx : Option Nat) : Option EV :=
 match x with
 | .sl k off len c o => bif Nat.ble lo hi && Nat.ble hi len then (match mx with
  | none => (match o with
   | false => bif Nat.ble len c then some (.sl k (bif Nat.beq c lo then off else off + lo * sz) (hi - lo) (c - lo) false) else none
   | true => match H.get k with
    | some (.live cs _ s) => bif Nat.beq s sz && Nat.blt 0 sz && Nat.beq off (c * sz) && Nat.ble (off + len * sz) cs.length && (Nat.beq lo 0 || Nat.blt lo len) then some (.sl k (off + lo * sz) (hi - lo) (c + lo) true) else none
    | _ => none)
  | some m => bif Nat.ble hi m && Nat.ble m len && Nat.ble len c && !o || (Nat.beq m 0 && Nat.beq hi 0) then some (.sl k (bif Nat.beq m lo then off else off + lo * sz) (hi - lo) (m - lo) false) else none) else none
 | _ => none
def boundE (T : Tr EV) (dflt : Nat) : Option Operand → Option Nat
 | none => some dflt
 | some x => match (evO T x).bind ixE with
  | some (.ofNat i) => some i
  | _ => none
theorem boundE_run (hA : ARel n r T a) {d i : Nat} {x : Operand} (h : boundE T d (some x) = some i) : ∃ k, a.eval x = .int k (i : Int) := by
 unfold boundE at h
 simp only at h
 split at h
 ·rename_i j hj
  cases h
  obtain ⟨c, h1, h2⟩ := Option.bind_eq_some_iff.1 hj
  obtain ⟨k, rfl⟩ := ixE_eq h2
  have := hA.eval h1
  simp only [ren, Option.some.injEq] at this
  exact ⟨k, this.symm⟩
 ·cases h
theorem bound_run (k : IntKind) (i y : Nat) (code : BoundsCode) (h : i ≤ y) : (Instr.sliceBound (.int k (i : Int)) y code).run P w = .ok i w := by
 simp [Instr.sliceBound, asIntOf, h, Int.ofNat_le.2 h]
theorem boundsE_run (hA : ARel n r T a) (isSlice : Bool) {lo hi : Option Operand} {len cap l h : Nat} (hl : boundE T 0 lo = some l) (hh : boundE T len hi = some h) (h1 : l ≤ h) (h2 : h ≤ len) (hc : len ≤ cap) :
  (Instr.sliceBounds isSlice len cap (lo.map a.eval) (hi.map a.eval) none).run P w = .ok (l, h, cap) w := by
 cases lo with
 | none =>
  cases hl
  cases hi with
  | none => cases hh; simp [Instr.sliceBounds]
  | some x =>
   obtain ⟨k, e⟩ := boundE_run hA hh
   simp [Instr.sliceBounds, e, bound_run k h cap _ (by omega)]
 | some y =>
  obtain ⟨k', e'⟩ := boundE_run hA hl
  cases hi with
  | none => cases hh; simp [Instr.sliceBounds, e', bound_run k' l len _ h1]
  | some x =>
   obtain ⟨k, e⟩ := boundE_run hA hh
   simp [Instr.sliceBounds, e, e', bound_run k h cap _ (by omega), bound_run k' l h _ h1]
theorem boundsE_run3 (hA : ARel n r T a) {lo : Option Operand} {hi mx : Operand} {len cap l h m : Nat} (hl : boundE T 0 lo = some l) (hh : boundE T len (some hi) = some h) (hm : boundE T 0 (some mx) = some m) (h1 : l ≤ h) (h2 : h ≤ m) (hc : m ≤ cap) :
  (Instr.sliceBounds true len cap (lo.map a.eval) (some (a.eval hi)) (some (a.eval mx))).run P w = .ok (l, h, m) w := by
 obtain ⟨k, e⟩ := boundE_run hA hh
 obtain ⟨k2, e2⟩ := boundE_run hA hm
 cases lo with
 | none => cases hl; simp [Instr.sliceBounds, e, e2, bound_run k h m _ h2, bound_run k2 m cap _ hc]
 | some y =>
  obtain ⟨k', e'⟩ := boundE_run hA hl
  simp [Instr.sliceBounds, e, e2, e', bound_run k h m _ h2, bound_run k2 m cap _ hc, bound_run k' l h _ h1]
theorem sliceE_done {t e : TypeId} {x : Operand} {lo hi mx : Option Operand} (ho : o.op = .slice t x lo hi mx) {d de : TyD} (hd : tyOf P t = some d) (hfs : d.shape = .slice e) (hde : tyOf P e = some de) {cx : EV} (hx : evO T x = some cx) {k off len cc : Nat} {oo : Bool} (hcx : cx = .sl k off len cc oo) {l h : Nat} {m : Option Nat}
  (hl : boundE T 0 lo = some l) (hh : boundE T len hi = some h) (hm : (mx = none ∧ m = none) ∨ ∃ y j hy, mx = some y ∧ hi = some hy ∧ boundE T 0 (some y) = some j ∧ m = some j) {c : EV} (he : sliceE de.size H cx l h m = some c) (hA : ARel n r T a) (hW : WRel w0 r H w) : Done P w0 r H o a w c := by
 subst hcx
 obtain ⟨i', u, z, hi', hu, hz, h1, h2, h3, h4, h5⟩ := tyOf_some hd
 obtain ⟨ie, ue, ze, hie, hue, hze, k1, k2, k3, k4, k5⟩ := tyOf_some hde
 obtain rfl := shape_slice (hfs.symm.trans h5)
 have hxv := hA.eval hx
 simp only [ren, Option.bind_eq_some_iff] at hxv
 obtain ⟨b, hb1, hxv⟩ := hxv
 have hxv := Option.some.inj hxv
 unfold sliceE at he
 simp only at he
 cases hg : (Nat.ble l h && Nat.ble h len) with
 | false => rw [hg] at he; cases he
 | true =>
  rw [hg] at he
  simp only [cond_true] at he
  simp only [Bool.and_eq_true] at hg
  have g1 := Nat.le_of_ble_eq_true hg.1
  have g2 := Nat.le_of_ble_eq_true hg.2
  -- the run, once the bounds are known
  have run2 : ∀ (cap : Nat) (m : Nat), a.eval x = .slice (some ⟨b, off, none⟩) len cap → (Instr.sliceBounds true len cap (lo.map a.eval) (hi.map a.eval) (mx.map a.eval)).run P w = .ok (l, h, m) w →
    (execOp a.eval o).run P w = .ok (.value (.slice (some (if m = l then ⟨b, off, none⟩ else ⟨b, off + l * de.size, none⟩)) (h - l) (m - l))) w := by
   intro cap m hv hb
   have hs : (Instr.sliceAt t (a.eval x) (lo.map a.eval) (hi.map a.eval) (mx.map a.eval)).run P w = .ok (.slice (some (if m = l then ⟨b, off, none⟩ else ⟨b, off + l * de.size, none⟩)) (h - l) (m - l)) w := by
    rw [sliceAt_eq hu (by simp), hv]
    by_cases hml : m = l
    ·simp [Instr.slice, run_underlying hu, hb, sizeOf, typeInfo, hie, hml]
    ·simp [Instr.slice, run_underlying hu, hb, sizeOf, typeInfo, hie, hml, k1, mid_add]
   unfold execOp
   simp only [ho, Sem.run_bind, hs, Result.andThen_ok, Sem.run_pure]
  rcases hm with ⟨rfl, rfl⟩ | ⟨y, j, hy, rfl, rfl, hj, rfl⟩
  ·simp only at he
   cases oo with
   | false =>
    simp only [capOf] at he hxv
    cases hq : Nat.ble len cc with
    | false => rw [hq] at he; cases he
    | true =>
     rw [hq] at he
     cases he
     have hq := Nat.le_of_ble_eq_true hq
     have hb := boundsE_run (P := P) (w := w) hA true hl hh g1 g2 hq
     refine Done.same hW (run2 cc cc hxv.symm (by simpa using hb)) ?_
     by_cases e : cc = l
     ·simp [ren, capOf, hb1, e]
     ·have : Nat.beq cc l = false := beq_f e
      simp [ren, capOf, hb1, e, this]
   | true =>
    simp only [capOf] at he hxv
    split at he
    ·rename_i cs ty s hk
     cases hq : (Nat.beq s de.size && Nat.blt 0 de.size && Nat.beq off (cc * de.size) && Nat.ble (off + len * de.size) cs.length && (Nat.beq l 0 || Nat.blt l len)) with
     | false => rw [hq] at he; cases he
     | true =>
      rw [hq] at he
      cases he
      simp only [Bool.and_eq_true, Bool.or_eq_true, Nat.blt_eq] at hq
      obtain ⟨⟨⟨⟨q1, q2⟩, q3⟩, q4⟩, q5⟩ := hq
      have q1 := Nat.eq_of_beq_eq_true q1
      have q3 := Nat.eq_of_beq_eq_true q3
      have q4 := Nat.le_of_ble_eq_true q4
      have q5 : l = 0 ∨ l < len := q5.imp Nat.eq_of_beq_eq_true id
      obtain ⟨b', ccs, j1, j2, j3, vs, j4, j5, j6⟩ := hW.blk k cs ty s hk
      obtain rfl : b' = b := Option.some.inj (j1.symm.trans hb1)
      rcases j6 with ⟨z1, _⟩ | ⟨z1, ⟨tail, z2⟩, z3, z4⟩
      ·omega
      ·have hvl := renL_len j4
       have hcl : ccs.size = vs.length + tail.length := by have := congrArg List.length z2; simpa using this
       have hcap : cc + len ≤ r.c k := by
        have : (cc + len) * de.size ≤ r.c k * de.size := by rw [Nat.add_mul, ← q3]; rw [q1] at z3; omega
        exact Nat.le_of_mul_le_mul_right this q2
       have hb := boundsE_run (P := P) (w := w) (cap := r.c k - cc) hA true hl hh g1 g2 (by omega)
       refine Done.same hW (run2 (r.c k - cc) (r.c k - cc) hxv.symm (by simpa using hb)) ?_
       have e : r.c k - (cc + l) = r.c k - cc - l := by omega
       by_cases el : r.c k - cc = l
       ·have hl0 : l = 0 := by rcases q5 with q5 | q5 <;> omega
        simp [ren, capOf, hb1, el, e, hl0]
       ·simp [ren, capOf, hb1, el, e]
    ·cases he
  ·simp only at he
   cases hq : (Nat.ble h j && Nat.ble j len && Nat.ble len cc && !oo || (Nat.beq j 0 && Nat.beq h 0)) with
   | false => rw [hq] at he; cases he
   | true =>
    rw [hq] at he
    cases he
    simp only [Bool.or_eq_true, Bool.and_eq_true] at hq
    have fin : h ≤ j → j ≤ (capOf r k cc oo) → Done P w0 r H o a w (.sl k (bif Nat.beq j l then off else off + l * de.size) (h - l) (j - l) false) := by
     intro q1 q2
     have hb := boundsE_run3 (P := P) (w := w) (cap := (capOf r k cc oo)) hA hl hh hj g1 q1 q2
     refine Done.same hW (run2 _ j hxv.symm (by simpa using hb)) ?_
     by_cases e : j = l
     ·simp [ren, capOf, hb1, e]
     ·have : Nat.beq j l = false := beq_f e
      simp [ren, capOf, hb1, e, this]
    rcases hq with ⟨⟨⟨q1, q2⟩, q3⟩, q4⟩ | ⟨q1, q2⟩
    ·cases oo with
     | true => cases q4
     | false => exact fin (Nat.le_of_ble_eq_true q1) (Nat.le_trans (Nat.le_of_ble_eq_true q2) (Nat.le_of_ble_eq_true q3))
    ·have q1 := Nat.eq_of_beq_eq_true q1
     have q2 := Nat.eq_of_beq_eq_true q2
     exact fin (by omega) (by omega)
end
end
end Go.Ev
