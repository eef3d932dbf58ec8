/- Layer 24 in plain terms: reach, comparisons, paths, plans. -/
import Derived.Test.YtcckhbconihagaaGreatDoorVPlData2
import Derived.Test.YtcckhbconihagaaGreatDoorV9
import Derived.Test.YtcckhbconihagaaGreatDoorV1
set_option linter.unusedVariables false
namespace Go.Pl
open Go.Am
open Go.Proofs.YtcckhbconihagaaGreatDoor (same)
def reachT (t : Term) : List Int := canon (hTerm t 0)
def within (t : Term) (l : List Int) : Bool := !((reachT t).any fun k => !(l.any (k == ·)))
def selects : Term → Bool
  | ⟨_, _, _, _, _, _, _, _, _, _, _, _, args', sub'⟩ => decide (((sub'.length : Nat) : Int) > 0) || (args'.map selects).any id
 termination_by t => SizeOf.sizeOf t
theorem selects_eq (t : Term) : selects t = (decide (((t.sub.length : Nat) : Int) > 0) || t.args.any selects) := by
 cases t
 rw [selects, List.any_map]
 rfl
def turned (op : Int) : Int := if op == 15 then 17 else if op == 16 then 18 else if op == 17 then 15 else if op == 18 then 16 else op
abbrev zterm : Term := ⟨0, false, 0, 0, 0, .empty, 0, 0, .empty, 0, 0, 0, [], []⟩
def end1 (col other : Int) : Bool := (col == 1 && other != 1) || (col == 2 && other == 0)
def end2 (col other : Int) : Bool := col == 1 || ((col == 2 && other == 2) || (col == 0 && other == 0))
def affine (t : Term) (col : Int) : Term := ⟨103, false, 0, 0, 0, .empty, 0, 0, .empty, 0, col, 0, [t], []⟩
def endT (t : Term) (col other : Int) : Term := if end1 col other then affine t col else if end2 col other then t else zterm
def endOk (col other : Int) : Bool := end1 col other || end2 col other
def sideBad (source : Int) (c o : Term) : Bool := (c.op != 100) || c.neg || (c.n != 0) || (c.frm != source) || (reachT o).any (source == ·) || selects o
def side (source op coll : Int) (c o : Term) (x y : Int) : List Said := if sideBad source c o then [] else if endOk x y then [⟨op, c.col, coll, endT o x y⟩] else []
def saysBad (t : Term) : Bool := t.neg || ((t.op != 13) && (decide (t.op < 15) || decide (t.op > 18))) || (((t.args.length : Nat) : Int) != 2)
def side0 (t : Term) (source : Int) : List Said := side source t.op t.coll (t.args.getD 0 zterm) (t.args.getD 1 zterm) t.l t.r
def side1 (t : Term) (source : Int) : List Said := side source (turned t.op) t.coll (t.args.getD 1 zterm) (t.args.getD 0 zterm) t.r t.l
def says (source : Int) (t : Term) : List Said := if saysBad t then [] else side0 t source ++ side1 t source
def zfrom : From := ⟨0, 0, .empty, 0, 0, [], []⟩
def Arm.src (a : Arm) (k : Int) : From := a.frm.getD k.toNat zfrom
theorem src_get (a : Arm) (k : Int) (h0 : 0 ≤ k) (h1 : k < a.frm.length) : (a.frm.map From.v).getD k.toNat [] = (a.src k).v := by
 have : k.toNat < a.frm.length := by omega
 simp [Arm.src, List.getD_eq_getElem?_getD, this]
def innerOn (f : From) : List Term := if f.join != 1 then f.on else []
def usableTerms (a : Arm) (source : Int) : List Term := if (a.src source).join == 1 then (a.src source).on else a.whr ++ a.frm.flatMap innerOn
def usable (a : Arm) (source : Int) : List Said := (usableTerms a source).flatMap (says source)
noncomputable def has (a : Arm) (source : Int) (ops ahead : List Int) (t : Term) (is : Said → Bool) : Bool :=
 within t ahead && (usable a source).any fun x => ops.any (x.op == ·) && (is x && same x.fin t)
def keyed (k : Sorted) (x : Said) : Bool := x.col == k.col && x.coll == k.coll
def rowid (pk : Int) (x : Said) : Bool := x.col == -1 || (x.col == pk && decide (pk ≥ 0))
/-- A text's bytes, A to Z as a to z. -/
def low (b : UInt8) : UInt8 := if b ≥ 65 ∧ b ≤ 90 then b + 32 else b
def fold (s : ByteArray) : List UInt8 := s.toList.map low
def eqName (a b : ByteArray) : Bool := fold a == fold b
def ztable : Table := ⟨.empty, [], 0⟩
def Schema.tableIx (s : Schema) (name : ByteArray) : Int := idx (fun t => eqName t.name name) s.tables
def Schema.table (s : Schema) (name : ByteArray) : Table := if s.tables.any (fun t => eqName t.name name) then s.tables.getD (s.tableIx name).toNat ztable else ztable
def Schema.hasTable (s : Schema) (name : ByteArray) : Bool := s.tables.any fun t => eqName t.name name
def Schema.index (s : Schema) (table name : ByteArray) : Int := idx (fun i => i.name.toList == name.toList && i.table.toList == table.toList) s.indexes
def zindex : Index := ⟨.empty, .empty, [], false, false⟩
noncomputable def bounded (a : Arm) (source : Int) (l : List Bound) (ahead : List Int) (opn closed : Int) (keys : List Sorted) : Bool :=
 match l, keys with
 | [], _ => true
 | [b], k :: _ => has a source [if b.opn then opn else closed] ahead b.term (keyed k)
 | _, _ => false
noncomputable def eqs (a : Arm) (source : Int) (ahead : List Int) : List Term → List Sorted → Bool
 | [], _ => true
 | e :: l, k :: ks => has a source [13] ahead e (keyed k) && eqs a source ahead l ks
 | _ :: _, [] => false
def noName (s : ByteArray) : Bool := s.toList == (⟨#[]⟩ : ByteArray).toList
def Schema.keys (s : Schema) (k : Int) : List Sorted := (s.indexes.getD k.toNat zindex).keys
noncomputable def rowidOk (s : Schema) (a : Arm) (source : Int) (x : Path) (ahead : List Int) : Bool :=
 noName x.index && ((((x.eq.length : Nat) : Int) == 1) && (((((x.low.length : Nat) : Int) + ((x.high.length : Nat) : Int)) == 0) && has a source [13] ahead (x.eq.getD 0 zterm) (rowid (s.table (a.src source).name).pk)))
noncomputable def indexOk (s : Schema) (a : Arm) (source : Int) (x : Path) (ahead : List Int) (k : Int) : Bool :=
 !(decide (k < 0) || decide (((x.eq.length : Nat) : Int) > (((s.keys k).length : Nat) : Int))) && (eqs a source ahead x.eq (s.keys k) && (bounded a source x.low ahead 17 18 ((s.keys k).drop x.eq.length) && bounded a source x.high ahead 15 16 ((s.keys k).drop x.eq.length)))
noncomputable def pathOk (s : Schema) (a : Arm) (source : Int) (x : Path) (ahead : List Int) : Bool :=
 if (x.kind != 0) && (((a.src source).kind != 0) || !s.hasTable (a.src source).name) then false
 else if x.kind == 0 then noName x.index && ((((x.eq.length : Nat) : Int) + ((x.low.length : Nat) : Int) + ((x.high.length : Nat) : Int)) == 0)
 else if x.kind == 1 then rowidOk s a source x ahead
 else if x.kind == 2 then indexOk s a source x ahead (s.index (s.table (a.src source).name).name x.index)
 else false
def ready (a : Arm) (source : Int) (ahead : List Int) : Bool := !((a.src source).on.any fun t => !within t (ahead ++ [source]))
open Go.Proofs.YtcckhbconihagaaGreatDoor (same)
def whereBad (a : Arm) (ahead met : List Int) (k : Int) : Bool := decide (k < 0) || decide (k ≥ ((a.whr.length : Nat) : Int)) || met.any (k == ·) || !within (a.whr.getD k.toNat zterm) ahead
def whereOk (a : Arm) (ahead : List Int) : List Int → List Int → Option (List Int)
 | met, [] => some met
 | met, k :: l => if whereBad a ahead met k then none else whereOk a ahead (met ++ [k]) l
noncomputable def stepBad (s : Schema) (a : Arm) (ahead : List Int) (x : Step) : Bool := decide (x.frm < 0) || decide (x.frm ≥ ((a.frm.length : Nat) : Int)) || ahead.any (x.frm == ·) || !ready a x.frm ahead || !pathOk s a x.frm x.path ahead
noncomputable def stepsOk (s : Schema) (a : Arm) : List Int → List Int → List Step → Option (List Int × List Int)
 | ahead, met, [] => some (ahead, met)
 | ahead, met, x :: l => if stepBad s a ahead x then none else match whereOk a (ahead ++ [x.frm]) met x.whr with
  | none => none
  | some m => stepsOk s a (ahead ++ [x.frm]) m l
noncomputable def armOk (s : Schema) (a : Arm) : Bool := match stepsOk s a [] [] a.steps with
 | none => false
 | some (ahead, met) => (((ahead.length : Nat) : Int) == ((a.frm.length : Nat) : Int)) && (((met.length : Nat) : Int) == ((a.whr.length : Nat) : Int))
/-- The reference's way: lists that rise. -/
def rWhere (a : Arm) (ahead : List Int) : List Int → List Int → Option (List Int)
 | met, [] => some met
 | met, k :: l => if whereBad a ahead met k then none else rWhere a ahead (put met k) l
noncomputable def rSteps (s : Schema) (a : Arm) : List Int → List Int → List Step → Option (List Int × List Int)
 | ahead, met, [] => some (ahead, met)
 | ahead, met, x :: l => if stepBad s a ahead x then none else match rWhere a (put ahead x.frm) met x.whr with
  | none => none
  | some m => rSteps s a (put ahead x.frm) m l
noncomputable def rArm (s : Schema) (a : Arm) : Bool := match rSteps s a [] [] a.steps with
 | none => false
 | some (ahead, met) => (((ahead.length : Nat) : Int) == ((a.frm.length : Nat) : Int)) && (((met.length : Nat) : Int) == ((a.whr.length : Nat) : Int))
/-- The same members. -/
def Mem (l m : List Int) : Prop := ∀ k : Int, l.any (k == ·) = m.any (k == ·)
theorem any_mem {l : List Int} {k : Int} : l.any (k == ·) = true ↔ k ∈ l := by
 rw [List.any_eq_true]
 constructor
 ·rintro ⟨x, hx, e⟩; rw [beq_iff_eq] at e; rw [e]; exact hx
 ·intro h; exact ⟨k, h, by simp⟩
theorem mem_iff_any {l m : List Int} : Mem l m ↔ ∀ k, k ∈ l ↔ k ∈ m := by
 unfold Mem
 constructor
 ·intro h k; rw [← any_mem, ← any_mem, h k]
 ·intro h k; rw [Bool.eq_iff_iff, any_mem, any_mem, h k]
theorem Mem.refl (l : List Int) : Mem l l := fun _ => rfl
theorem Mem.put {l m : List Int} (h : Mem l m) (k : Int) : Mem (put l k) (m ++ [k]) := mem_iff_any.2 fun x => by
 rw [mem_put, List.mem_append, List.mem_singleton, (mem_iff_any.1 h) x, or_comm]
theorem Mem.snoc {l m : List Int} (h : Mem l m) (k : Int) : Mem (l ++ [k]) (m ++ [k]) := mem_iff_any.2 fun x => by
 rw [List.mem_append, List.mem_append, (mem_iff_any.1 h) x]
theorem within_ext {t : Term} {l m : List Int} (h : Mem l m) : within t l = within t m := by
 unfold within
 congr 2
 funext k
 rw [h k]
theorem ready_ext {a : Arm} {k : Int} {l m : List Int} (h : Mem l m) : ready a k l = ready a k m := by
 unfold ready
 congr 2
 funext t
 rw [within_ext (h.snoc k)]
theorem ready_put {a : Arm} {k : Int} {l : List Int} : (!((a.src k).on.any fun t => !within t (put l k))) = ready a k l := by
 unfold ready
 congr 2
 funext t
 rw [within_ext ((Mem.refl l).put k)]
theorem has_ext {a : Arm} {k : Int} {ops l m : List Int} {t : Term} {is : Said → Bool} (h : Mem l m) : has a k ops l t is = has a k ops m t is := by
 unfold has
 rw [within_ext h]
theorem bounded_ext {a : Arm} {k : Int} {x : List Bound} {l m : List Int} {o c : Int} {ks : List Sorted} (h : Mem l m) : bounded a k x l o c ks = bounded a k x m o c ks := by
 unfold bounded
 split <;> first | rfl | exact has_ext h
theorem eqs_ext {a : Arm} {k : Int} {l m : List Int} (h : Mem l m) : ∀ (x : List Term) (ks : List Sorted), eqs a k l x ks = eqs a k m x ks
 | [], _ => by simp only [eqs]
 | e :: x, q :: ks => by simp only [eqs, has_ext h, eqs_ext h x ks]
 | _ :: _, [] => by simp only [eqs]
theorem pathOk_ext {s : Schema} {a : Arm} {k : Int} {x : Path} {l m : List Int} (h : Mem l m) : pathOk s a k x l = pathOk s a k x m := by
 unfold pathOk rowidOk indexOk
 simp only [has_ext h, eqs_ext h, bounded_ext h]
theorem stepBad_ext {s : Schema} {a : Arm} {x : Step} {l m : List Int} (h : Mem l m) : stepBad s a l x = stepBad s a m x := by
 unfold stepBad
 rw [ready_ext h, pathOk_ext h, h]
theorem whereBad_ext {a : Arm} {k : Int} {l m p q : List Int} (h : Mem l m) (h' : Mem p q) : whereBad a l p k = whereBad a m q k := by
 unfold whereBad
 rw [within_ext h, h']
theorem len_put_new : ∀ (l : List Int) (n : Int), l.any (n == ·) = false → (put l n).length = l.length + 1
 | [], n, _ => rfl
 | x :: r, n, h => by
  simp only [List.any_cons, Bool.or_eq_false_iff, beq_eq_false_iff_ne] at h
  unfold put
  split
  ·rw [List.length_cons, len_put_new r n h.2, List.length_cons]
  ·rw [if_neg (fun e => h.1 e.symm)]; simp
def Sim (x : Option (List Int)) (y : Option (List Int)) : Prop := match x, y with
 | none, none => True
 | some l, some m => Mem l m ∧ l.length = m.length
 | _, _ => False
theorem where_sim {a : Arm} {l m : List Int} (h : Mem l m) : ∀ (w p q : List Int), Mem p q → p.length = q.length → Sim (rWhere a l p w) (whereOk a m q w)
 | [], p, q, h1, h2 => by simp only [rWhere, whereOk]; exact ⟨h1, h2⟩
 | k :: w, p, q, h1, h2 => by
  simp only [rWhere, whereOk, whereBad_ext h h1]
  by_cases hb : whereBad a m q k = true
  ·rw [if_pos hb, if_pos hb]; trivial
  ·rw [if_neg hb, if_neg hb]
   refine where_sim h w _ _ (h1.put k) ?_
   have hn : p.any (k == ·) = false := by
    rw [Bool.not_eq_true] at hb
    unfold whereBad at hb
    simp only [Bool.or_eq_false_iff] at hb
    rw [h1 k]; exact hb.1.2
   rw [len_put_new p k hn, h2]; simp
def Sim2 (x : Option (List Int × List Int)) (y : Option (List Int × List Int)) : Prop := match x, y with
 | none, none => True
 | some l, some m => l.1.length = m.1.length ∧ l.2.length = m.2.length
 | _, _ => False
theorem steps_sim {s : Schema} {a : Arm} : ∀ (w : List Step) (l m p q : List Int), Mem l m → l.length = m.length → Mem p q → p.length = q.length → Sim2 (rSteps s a l p w) (stepsOk s a m q w)
 | [], l, m, p, q, h1, h2, h3, h4 => by simp only [rSteps, stepsOk]; exact ⟨h2, h4⟩
 | x :: w, l, m, p, q, h1, h2, h3, h4 => by
  simp only [rSteps, stepsOk, stepBad_ext h1]
  by_cases hb : stepBad s a m x = true
  ·rw [if_pos hb, if_pos hb]; trivial
  ·rw [if_neg hb, if_neg hb]
   have hn : l.any (x.frm == ·) = false := by
    rw [Bool.not_eq_true] at hb
    unfold stepBad at hb
    simp only [Bool.or_eq_false_iff] at hb
    rw [h1]; exact hb.1.1.2
   have hw := where_sim (a := a) (h1.put x.frm) x.whr p q h3 h4
   revert hw
   cases rWhere a (put l x.frm) p x.whr <;> cases whereOk a (m ++ [x.frm]) q x.whr <;> intro hw <;> simp only [Sim] at hw ⊢
   ·trivial
   ·exact steps_sim w _ _ _ _ (h1.put x.frm) (by rw [len_put_new l _ hn, h2]; simp) hw.1 hw.2
/-- **The two ways say the same.** -/
theorem rArm_eq (s : Schema) (a : Arm) : rArm s a = armOk s a := by
 have h := steps_sim (s := s) (a := a) a.steps [] [] [] [] (Mem.refl _) rfl (Mem.refl _) rfl
 unfold rArm armOk
 revert h
 cases rSteps s a [] [] a.steps <;> cases stepsOk s a [] [] a.steps <;> intro h <;> simp only [Sim2] at h
 ·rfl
 ·obtain ⟨h1, h2⟩ := h
  simp only
  rw [h1, h2]
/-- What the reference asks of a comparison. -/
noncomputable def refHas (a : Arm) (source op : Int) (ahead : List Int) (t : Term) (col other coll : Int) (asked : Bool) : Bool :=
 ((usable a source).any fun x => (x.op == op) && ((x.col == col || x.col == other) && ((!asked || x.coll == coll) && same x.fin t))) && within t ahead
theorem refHas_key (a : Arm) (source op : Int) (ahead : List Int) (t : Term) (k : Sorted) : refHas a source op ahead t k.col k.col k.coll true = has a source [op] ahead t (keyed k) := by
 unfold refHas has
 rw [Bool.and_comm]
 congr 2
 funext x
 unfold keyed
 simp only [List.any_cons, List.any_nil, Bool.or_false, Bool.or_self, Bool.not_true, Bool.false_or, Bool.and_assoc]
theorem refHas_rowid (a : Arm) (source op : Int) (ahead : List Int) (t : Term) (pk c : Int) : refHas a source op ahead t (-1) (if pk < 0 then -1 else pk) c false = has a source [op] ahead t (rowid pk) := by
 unfold refHas has
 rw [Bool.and_comm]
 congr 2
 funext x
 unfold rowid
 by_cases h : pk < 0
 ·have h1 : decide (pk ≥ 0) = false := by simp; omega
  rw [if_pos h, h1]
  simp only [List.any_cons, List.any_nil, Bool.or_false, Bool.or_self, Bool.not_false, Bool.true_or, Bool.true_and, Bool.and_false]
 ·have h1 : decide (pk ≥ 0) = true := by simp; omega
  rw [if_neg h, h1]
  simp only [List.any_cons, List.any_nil, Bool.or_false, Bool.not_false, Bool.true_or, Bool.true_and, Bool.and_true]
end Go.Pl
