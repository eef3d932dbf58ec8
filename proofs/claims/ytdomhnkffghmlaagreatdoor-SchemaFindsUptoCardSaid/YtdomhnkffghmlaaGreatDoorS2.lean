/- Short names of laws of lists and numbers: the walks name them at every step. -/
import Derived.Test.YtdomhnkffghmlaaGreatDoorSAmMore

namespace Go.Am
theorem k00 {α : Type _} {d x : α} {l : List α} : (x :: l).getD 0 d = x := rfl
theorem k01 {α : Type _} {d x : α} {l : List α} {n : Nat} : (x :: l).getD (n + 1) d = l.getD n d := rfl
theorem k02 {α : Type _} {d : α} {n : Nat} : ([] : List α).getD n d = d := rfl
theorem k03 {α : Type _} {β : Type _} {f : α → β} {x : α} {l : List α} : (x :: l).map f = f x :: l.map f := rfl
theorem k04 {α : Type _} {β : Type _} {f : α → β} : ([] : List α).map f = [] := rfl
theorem k05 {α : Type _} {x : α} {l : List α} : (x :: l).length = l.length + 1 := rfl
theorem k06 {α : Type _} : ([] : List α).length = 0 := rfl
theorem k07 {α : Type _} {β : Type _} {l : List α} {f : α → β} : (l.map f).length = l.length := List.length_map _
theorem k08 {α : Type _} {l : List α} {i : Nat} : l.toArray[i]? = l[i]? := List.getElem?_toArray
theorem k09 {α : Type _} {x : α} {l : List α} : (x :: l)[0]? = some x := rfl
theorem k10 {α : Type _} {x : α} {l : List α} {i : Nat} : (x :: l)[i + 1]? = l[i]? := List.getElem?_cons_succ
theorem k11 {α : Type _} {i : Nat} : ([] : List α)[i]? = none := rfl
theorem k12 {α : Type _} {x : α} {l : List α} {i : Nat} : (x :: l).take (i + 1) = x :: l.take i := rfl
theorem k13 {α : Type _} {l : List α} : l.take 0 = [] := List.take_zero
theorem k14 {α : Type _} {i : Nat} : ([] : List α).take i = [] := List.take_nil
theorem k15 {α : Type _} {x : α} {l : List α} {i : Nat} : (x :: l).drop (i + 1) = l.drop i := rfl
theorem k16 {α : Type _} {l : List α} : l.drop 0 = l := rfl
theorem k17 {α : Type _} {i : Nat} : ([] : List α).drop i = [] := List.drop_nil
theorem k18 {α : Type _} {l : List α} : [] ++ l = l := rfl
theorem k19 {α : Type _} {x : α} {l m : List α} : x :: l ++ m = x :: (l ++ m) := rfl
theorem k20 {α : Type _} {l : List α} : l ++ [] = l := List.append_nil _
theorem k21 {α : Type _} {β : Type _} {f : α → β} {x : α} : (some x).map f = some (f x) := rfl
theorem k22 {α : Type _} {β : Type _} {f : α → β} : (none : Option α).map f = none := rfl
theorem k23 {α : Type _} {β : Type _} {f : α → Option β} {x : α} : (some x).bind f = f x := rfl
theorem k24 {α : Type _} {β : Type _} {f : α → Option β} : (none : Option α).bind f = none := rfl
theorem k25 {α : Type _} {x : α} : (some x).isNone = false := rfl
theorem k26 {α : Type _} : (none : Option α).isNone = true := rfl
theorem k27 {n : Nat} : n < n + 1 := Nat.lt_add_one n
theorem k28 : (1 : Nat) ≠ 0 := Nat.one_ne_zero
theorem k29 {α : Type _} {f : α → Bool} {x : α} {l : List α} : (x :: l).all f = (f x && l.all f) := rfl
theorem k30 {α : Type _} {f : α → Bool} : ([] : List α).all f = true := rfl
theorem k31 {n : Nat} : List.range (n + 1) = List.range n ++ [n] := List.range_succ
theorem k32 : List.range 0 = [] := rfl
theorem k33 {n : Nat} : 0 < n.succ := Nat.zero_lt_succ n
theorem k34 {n : Nat} : n.succ ≠ 0 := Nat.succ_ne_zero n
theorem pval_un {P : Program} {st : St} {op : UnOp} {t : TypeId} {x : Operand} : pval P st (.unOp op t x) = match op, st.eval x with
  | .not, .base (.bool b) => some (.base (.bool !b), True)
  | .neg, .base (.int k n) => some (.base (.int k (k.wrap (0 - n))), True)
  | _, _ => none := rfl
theorem pval_max {P : Program} {st : St} {args : Array Operand} {ts : Array TypeId} : pval P st (.call { callee := .builtin .max, args := args, argTypes := ts }) = mxVal true st args := rfl
theorem pval_min {P : Program} {st : St} {args : Array Operand} {ts : Array TypeId} : pval P st (.call { callee := .builtin .min, args := args, argTypes := ts }) = mxVal false st args := rfl
theorem pval_mi {P : Program} {st : St} {t : TypeId} {x : Operand} : pval P st (.makeInterface t x) = match tyOf P t, st.eval x with
  | some d, .base v => match d.shape with
   | .int _ => some (.base (.iface t v), True)
   | .string => some (.base (.iface t v), True)
   | _ => none
  | some d, .agg cs => match d.shape, basesOf cs with
   | .struct _, some vs => some (.base (.iface t (.agg vs.toArray)), True)
   | _, _ => none
  | _, _ => none := rfl
theorem pval_tat {P : Program} {st : St} {t xt : TypeId} {x : Operand} : pval P st (.typeAssert x xt t true) = match tyOf P t, st.eval x with
  | some d, .base (.iface t' v) => match d.shape with
   | .struct _ => if t' = t then some (.tuple [V.ofVal v, .base (.bool true)], True) else none
   | _ => none
  | _, _ => none := rfl
theorem pval_ta {P : Program} {st : St} {t xt : TypeId} {x : Operand} : pval P st (.typeAssert x xt t false) = match tyOf P t, st.eval x with
  | some d, .base (.iface t' v) => match d.shape with
   | .int _ => if t' = t then some (.base v, True) else none
   | _ => none
  | _, _ => none := rfl
theorem eqNilIf_def {P : Program} {t : TypeId} {c : Value} {op : BinOp} : eqNilIf P t (.const c) op = match P.underlying t, op with
 | some (.interface _), .eql => some (.base (.bool true), True)
 | some (.interface _), .neq => some (.base (.bool false), True)
 | _, _ => none := by
 unfold eqNilIf
 cases P.underlying t with
 | none => rfl
 | some d => cases d <;> first | rfl | (cases op <;> rfl)
theorem eqIfNil_def {P : Program} {t : TypeId} {c : Value} {op : BinOp} : eqIfNil P t (.const c) op = match P.underlying t, op with
 | some (.interface _), .eql => some (.base (.bool false), True)
 | some (.interface _), .neq => some (.base (.bool true), True)
 | _, _ => none := by
 unfold eqIfNil
 cases P.underlying t with
 | none => rfl
 | some d => cases d <;> first | rfl | (cases op <;> rfl)
theorem eqIfs_def {P : Program} {t tx ty : TypeId} {p q : ByteArray} : eqIfs P t tx ty p q .eql = match P.underlying t, P.underlying tx with
 | some (.interface _), some .string => if tx = ty ∧ (P.info? tx).map (·.comparable) = some true then some (.base (.bool (p.toList == q.toList)), True) else none
 | _, _ => none := by
 unfold eqIfs
 cases P.underlying t with
 | none => rfl
 | some d => cases d <;> first | rfl | (cases P.underlying tx with | none => rfl | some e => cases e <;> rfl)
theorem eqIfn_def {P : Program} {t tx ty : TypeId} : eqIfn P t tx ty .eql = match P.underlying t with
 | some (.interface _) => if tx ≠ ty then some (.base (.bool false), True) else none
 | _ => none := by
 unfold eqIfn
 cases P.underlying t with
 | none => rfl
 | some d => cases d <;> rfl
/-- The greater, the lesser of two numbers. -/
def mxI (n m : Int) : Int := if n < m then m else n
def mnI (n m : Int) : Int := if m < n then m else n
theorem mxVal_t {st : St} {x y : Operand} : mxVal true st #[x, y] = match st.eval x, st.eval y with
  | .base (.int k n), .base (.int _ m) => some (.base (.int k (mxI n m)), True)
  | _, _ => none := rfl
theorem mxVal_f {st : St} {x y : Operand} : mxVal false st #[x, y] = match st.eval x, st.eval y with
  | .base (.int k n), .base (.int _ m) => some (.base (.int k (mnI n m)), True)
  | _, _ => none := rfl
/-- A guard that is not known yet: what follows stays behind a name. -/
def gsel (P : Program) (o : Oper) (st : St) (K : St → Prop) (c b : Bool) : Prop := if c = b then aop P o st K else dstOk o st ∧ K (st.put o.dst (.base undef))
theorem gsel_tt {P : Program} {o : Oper} {st : St} {K : St → Prop} : gsel P o st K true true = aop P o st K := rfl
theorem gsel_ff {P : Program} {o : Oper} {st : St} {K : St → Prop} : gsel P o st K false false = aop P o st K := rfl
theorem gsel_tf {P : Program} {o : Oper} {st : St} {K : St → Prop} : gsel P o st K true false = (dstOk o st ∧ K (st.put o.dst (.base undef))) := rfl
theorem gsel_ft {P : Program} {o : Oper} {st : St} {K : St → Prop} : gsel P o st K false true = (dstOk o st ∧ K (st.put o.dst (.base undef))) := rfl
theorem gstep_sel {P : Program} {all : Array Oper} {o : Oper} {st : St} {K : St → Prop} : gstep P all o st K = match gdOf all o st with
  | .always => aop P o st K
  | .never => dstOk o st ∧ K (st.put o.dst (.base undef))
  | .test c b => gsel P o st K c b
  | .stuck => False := rfl
def gselL (P : Program) (A : List Nat) (o : Oper) (st : St) (K : St → Prop) (c b : Bool) : Prop := if c = b then dcond A o st ∧ aop P o st K else dstOk o st ∧ K (st.put o.dst (.base undef))
theorem gselL_tt {P : Program} {A : List Nat} {o : Oper} {st : St} {K : St → Prop} : gselL P A o st K true true = (dcond A o st ∧ aop P o st K) := rfl
theorem gselL_ff {P : Program} {A : List Nat} {o : Oper} {st : St} {K : St → Prop} : gselL P A o st K false false = (dcond A o st ∧ aop P o st K) := rfl
theorem gselL_tf {P : Program} {A : List Nat} {o : Oper} {st : St} {K : St → Prop} : gselL P A o st K true false = (dstOk o st ∧ K (st.put o.dst (.base undef))) := rfl
theorem gselL_ft {P : Program} {A : List Nat} {o : Oper} {st : St} {K : St → Prop} : gselL P A o st K false true = (dstOk o st ∧ K (st.put o.dst (.base undef))) := rfl
theorem gstepL_sel {P : Program} {all : Array Oper} {A : List Nat} {o : Oper} {st : St} {K : St → Prop} : gstepL P all A o st K = match gdOf all o st with
  | .always => dcond A o st ∧ aop P o st K
  | .never => dstOk o st ∧ K (st.put o.dst (.base undef))
  | .test c b => gselL P A o st K c b
  | .stuck => False := rfl
set_option linter.defProp false
/-- What a walk through an open order rewrites by. -/
def aml := And.intro @aopsL_nil <| And.intro @aopsL_cons <| And.intro @aopsLK.eq_1 <| And.intro @gstepL_sel <| And.intro @gselL_tt <| And.intro @gselL_ff <| And.intro @gselL_tf <| And.intro @gselL_ft <| And.intro @dcond.eq_1 <| And.intro @List.filterMap_cons.{0, 0} <| And.intro @List.filterMap_nil.{0, 0} <| And.intro @List.contains_cons.{0} <| And.intro @List.contains_nil.{0} <| And.intro @Option.getD_some.{0} <| And.intro @Bool.or_self <| And.intro @Bool.false_or <| And.intro @Bool.or_false <| True.intro
/-- All that a walk rewrites by: the laws above and the equations of the operations, under one name. -/
def am := And.intro @ByteArray.toList_eq <| And.intro @eqIfNil_def <| And.intro @pval_tat <| And.intro @basesOf.eq_1 <| And.intro @basesOf.eq_2 <| And.intro @V.ofVal.eq_2 <| And.intro @Go.Am.tstP.eq_1 <| And.intro @eqNilIf_def <| And.intro @eqIfs_def <| And.intro @eqIfn_def <| And.intro @pval_mi <| And.intro @pval_ta <| And.intro @pval_max <| And.intro @pval_min <| And.intro @mxVal_t <| And.intro @mxVal_f <| And.intro @Go.Am.nilV.eq_1 <| And.intro @Go.Am.nilV.eq_2 <| And.intro @Go.Am.nilV.eq_3 <| And.intro @Go.Am.nilV.eq_4 <| And.intro @Go.Am.k25.{0} <| And.intro @Go.Am.k26.{0} <| And.intro @Go.Am.cmpCells.eq_1 <| And.intro @Go.Am.cmpCells.eq_2 <| And.intro @Go.Am.cmpCells.eq_3 <| And.intro @Go.Am.cmpCells.eq_4 <| And.intro @Go.Am.cmpCells.eq_5 <| And.intro @Go.Am.aops_nil <| And.intro @Go.Am.aops_cons <| And.intro @Go.Am.aopsK.eq_1 <| And.intro @gstep_sel <| And.intro @gsel_tt <| And.intro @gsel_ff <| And.intro @gsel_tf <| And.intro @gsel_ft <| And.intro @Go.Am.gdOf.eq_1 <| And.intro @Go.Am.aop.eq_1 <| And.intro @Go.Am.aPure.eq_1 <| And.intro @Go.Am.pval.eq_1 <| And.intro @Go.Am.pval.eq_2 <| And.intro @Go.Am.pval.eq_3 <| And.intro @Go.Am.pval.eq_4 <| And.intro @Go.Am.pval.eq_5 <| And.intro @Go.Am.pval.eq_6 <| And.intro @Go.Am.pval.eq_7 <| And.intro @Go.Am.pval.eq_8 <| And.intro @pval_un <| And.intro @Go.Am.pval.eq_12 <| And.intro @Go.Am.pval.eq_13 <| And.intro @Go.Am.pval.eq_14 <| And.intro @Go.Am.pval.eq_15 <| And.intro @Go.Am.pval.eq_16 <| And.intro @Go.Am.pval.eq_17 <| And.intro @Go.Am.pval.eq_18 <| And.intro @Go.Am.pval.eq_19 <| And.intro @Go.Am.pval.eq_20 <| And.intro @Go.Am.pval.eq_21 <| And.intro @Go.Am.lenVal.eq_1 <| And.intro @Go.Am.lenV.eq_1 <| And.intro @Go.Am.lenV.eq_2 <| And.intro @Go.Am.lenV.eq_3 <| And.intro @Go.Am.lenV.eq_4 <| And.intro @Go.Am.lenV.eq_5 <| And.intro @Go.Am.lenV.eq_6 <| And.intro @Go.Am.mutAddr.eq_1 <| And.intro @Go.Am.sliceV.eq_1 <| And.intro @Go.Am.sliceV.eq_2 <| And.intro @Go.Am.sliceV.eq_3 <| And.intro @Go.Am.appV.eq_1 <| And.intro @Go.Am.appV.eq_2 <| And.intro @Go.Am.appV.eq_3 <| And.intro @Go.Am.appV.eq_4 <| And.intro @Go.Am.appV.eq_5 <| And.intro @Go.Am.appV.eq_6 <| And.intro @Go.Am.binV.eq_1 <| And.intro @Go.Am.binV.eq_2 <| And.intro @Go.Am.binV.eq_3 <| And.intro @Go.Am.binV.eq_4 <| And.intro @Go.Am.binV.eq_5 <| And.intro @Go.Am.binV.eq_6 <| And.intro @Go.Am.binV.eq_7 <| And.intro @Go.Am.binV.eq_8 <| And.intro @Go.Am.binV.eq_9 <| And.intro @Go.Am.binV.eq_10 <| And.intro @Go.Am.binV.eq_11 <| And.intro @Go.Am.binV.eq_12 <| And.intro @Go.Am.binV.eq_13 <| And.intro @Go.Am.binV.eq_14 <| And.intro @Go.Am.binV.eq_15 <| And.intro @Go.Am.binV.eq_16 <| And.intro @Go.Am.binV.eq_17 <| And.intro @Go.Am.binV.eq_18 <| And.intro @Go.Am.binV.eq_19 <| And.intro @Go.Am.binV.eq_20 <| And.intro @Go.Am.binV.eq_21 <| And.intro @Go.Am.rd.eq_1 <| And.intro @Go.Am.loV.eq_1 <| And.intro @Go.Am.loV.eq_2 <| And.intro @Go.Am.hiV.eq_1 <| And.intro @Go.Am.hiV.eq_2 <| And.intro @Go.Am.noLoc.eq_1 <| And.intro @Go.Am.noLoc.eq_2 <| And.intro @Go.Am.noLocs.eq_1 <| And.intro @Go.Am.noLocs.eq_2 <| And.intro @Go.Am.fillV.eq_1 <| And.intro @Go.Am.fillV.eq_2 <| And.intro @Go.Am.chunks.eq_1 <| And.intro @Go.Am.chunks.eq_2 <| And.intro @Go.Am.splice.eq_1 <| And.intro @Go.Am.mkBox.eq_1 <| And.intro @Go.Am.aStore.eq_1 <| And.intro @Go.Am.aLoad.eq_1 <| And.intro @Go.Am.aCall_eq <| And.intro @Go.Am.callK.eq_1 <| And.intro @Go.Am.aAppend.eq_1 <| And.intro @Go.Am.V.cells.eq_1 <| And.intro @Go.Am.V.cells.eq_2 <| And.intro @Go.Am.V.isCell.eq_1 <| And.intro @Go.Am.V.isCell.eq_2 <| And.intro @Go.Am.V.isCell.eq_3 <| And.intro @Go.Am.V.isCell.eq_4 <| And.intro @Go.Am.V.isCell.eq_5 <| And.intro @Go.Am.V.isCell.eq_6 <| And.intro @Go.Am.V.ofVal.eq_1 <| And.intro @Go.Am.V.ofVal.eq_2 <| And.intro @Go.Am.V.ofVal.eq_3 <| And.intro @Go.Am.V.ofCell.eq_1 <| And.intro @Go.Am.V.ofCell.eq_2 <| And.intro @Go.Value.oneCell'.eq_1 <| And.intro @Go.Value.oneCell'.eq_2 <| And.intro @Go.Value.oneCell'.eq_3 <| And.intro @Go.Am.St.eval.eq_1 <| And.intro @Go.Am.St.eval.eq_2 <| And.intro @Go.Am.St.eval.eq_3 <| And.intro @Go.Am.St.eval.eq_4 <| And.intro @Go.Am.St.put.eq_1 <| And.intro @Go.Am.St.put.eq_2 <| And.intro @Go.Am.dstOk.eq_1 <| And.intro @Go.Am.upd.eq_1 <| And.intro @Go.Am.entryE.eq_1 <| And.intro @Go.Am.env.eq_1 <| And.intro @Go.Am.env.eq_2 <| And.intro @Go.Am.locs.eq_1 <| And.intro @Go.Am.locs.eq_2 <| And.intro @Go.Am.tst.eq_1 <| And.intro @Go.Am.k00.{0} <| And.intro @Go.Am.k01.{0} <| And.intro @Go.Am.k02.{0} <| And.intro @Go.Am.k03.{0, 0} <| And.intro @Go.Am.k04.{0, 0} <| And.intro @Go.Am.k05.{0} <| And.intro @Go.Am.k06.{0} <| And.intro @Go.Am.k07.{0, 0} <| And.intro @Go.Am.k08.{0} <| And.intro @Go.Am.k09.{0} <| And.intro @Go.Am.k10.{0} <| And.intro @Go.Am.k11.{0} <| And.intro @Go.Am.k12.{0} <| And.intro @Go.Am.k13.{0} <| And.intro @Go.Am.k14.{0} <| And.intro @Go.Am.k15.{0} <| And.intro @Go.Am.k16.{0} <| And.intro @Go.Am.k17.{0} <| And.intro @Go.Am.k18.{0} <| And.intro @Go.Am.k19.{0} <| And.intro @Go.Am.k20.{0} <| And.intro @Go.Am.k21.{0, 0} <| And.intro @Go.Am.k22.{0, 0} <| And.intro @Go.Am.k23.{0, 0} <| And.intro @Go.Am.k24.{0, 0} <| And.intro @Go.Am.k27 <| And.intro @Nat.zero_add <| And.intro @Nat.add_zero <| And.intro @Go.Am.k28 <| And.intro @Go.Am.k29.{0} <| And.intro @Go.Am.k30.{0} <| And.intro @Bool.and_self <| And.intro @Bool.and_true <| And.intro @Bool.true_and <| And.intro @and_self <| And.intro @and_true <| And.intro @true_and <| And.intro @Go.Am.k31 <| And.intro @Go.Am.k32 <| And.intro @Nat.le_refl <| And.intro @Nat.zero_le <| And.intro @Go.Am.k33 <| And.intro @Go.Am.k34 <| True.intro
end Go.Am
