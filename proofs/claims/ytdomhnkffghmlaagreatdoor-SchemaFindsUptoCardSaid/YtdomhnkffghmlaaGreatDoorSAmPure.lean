/- The operations that only reckon and read, in abstract values; that the machine does what they say. -/
import Derived.Test.YtdomhnkffghmlaaGreatDoorSAmState
import Derived.Laws.Tables
import Derived.Laws.StructEq
import Derived.Laws.CopyRow
import Derived.Deep.MidRow
import Derived.Great.BuildSlice
set_option linter.unusedVariables false
set_option linter.unusedSimpArgs false
namespace Go.Am
variable {P : Program}
/-- What is asked of a type. -/
inductive Shape where
 | bool | int (k : IntKind) | string
 | struct (fs : List (Nat × Nat × Bool))
 | slice (e : TypeId)
 | func
 | other
structure TyD where
 size : Nat
 bytes : Nat
 zero : List Value
 agg : Bool
 shape : Shape
def isAggOf (P : Program) (t : TypeId) : Bool := match P.underlying t with
 | some (.struct _) | some (.array _ _) => true
 | _ => false
def fieldOf (P : Program) (f : Field) : Option (Nat × Nat × Bool) := match P.info? f.type, P.underlying f.type with
 | some i, some _ => some (f.offset, i.size, isAggOf P f.type)
 | _, _ => none
def fieldsOf (P : Program) : List Field → Option (List (Nat × Nat × Bool))
 | [] => some []
 | f :: r => match fieldOf P f, fieldsOf P r with
  | some x, some l => some (x :: l)
  | _, _ => none
def shapeOf (P : Program) : TypeDesc → Shape
 | .bool => .bool
 | .int k => .int k
 | .string => .string
 | .struct fs => match fieldsOf P fs.toList with
  | some l => .struct l
  | none => .other
 | .slice e => .slice e
 | .func _ _ _ => .func
 | _ => .other
def tyOf (P : Program) (t : TypeId) : Option TyD :=
 match P.info? t, P.underlying t with
 | some i, some u => match i.zero with
  | some z => if z.cells.toList.all (·.oneCell') = true ∧ z.cells.size = i.size then some { size := i.size, bytes := i.bytes, zero := z.cells.toList, agg := isAggOf P t, shape := shapeOf P u } else none
  | none => none
 | _, _ => none
theorem tyOf_some {t : TypeId} {d : TyD} (h : tyOf P t = some d) : ∃ i u z, P.info? t = some i ∧ P.underlying t = some u ∧ i.zero = some z ∧ d.size = i.size ∧ d.bytes = i.bytes ∧ d.zero = z.cells.toList ∧ d.agg = isAggOf P t ∧ d.shape = shapeOf P u := by
 unfold tyOf at h
 split at h
 ·rename_i i u hi hu
  split at h
  ·rename_i z hz
   split at h
   ·cases h
    exact ⟨i, u, z, hi, hu, hz, rfl, rfl, rfl, rfl, rfl⟩
   ·cases h
  ·cases h
 ·cases h
theorem tyOf_zero {t : TypeId} {d : TyD} (h : tyOf P t = some d) : d.zero.length = d.size ∧ ∀ x ∈ d.zero, x.oneCell' = true := by
 unfold tyOf at h
 split at h
 ·split at h
  ·split at h
   ·rename_i hc
    cases h
    exact ⟨by simpa using hc.2, fun x hx => List.all_eq_true.1 hc.1 x hx⟩
   ·cases h
  ·cases h
 ·cases h
def V.cells : V → List V
 | .agg cs => cs
 | v => [v]
def splice (cs : List V) (off : Nat) (l : List V) : List V := cs.take off ++ l ++ cs.drop (off + l.length)
/-- A variable out of a row of cells. -/
def rd (d : TyD) (cs : List V) (off : Nat) : Option V :=
 if d.agg then (if off + d.size ≤ cs.length then some (.agg ((cs.drop off).take d.size)) else none) else cs[off]?
def noLoc : V → Option V
 | .loc _ _ => none
 | v => some v
def noLocs : List V → Option (List V)
 | [] => some []
 | v :: r => match noLoc v, noLocs r with
  | some v, some r => some (v :: r)
  | _, _ => none
def fillV (place : Nat → Option (Nat × Nat)) : List V → List (Nat × V) → Option (List V)
 | cs, [] => some cs
 | cs, (i, v) :: r => match place i with
  | some (off, size) => if v.cells.length = size ∧ off + v.cells.length ≤ cs.length ∧ v.cells.all V.isCell = true then fillV place (splice cs off v.cells) r else none
  | none => none
def chunks (sz : Nat) : Nat → List V → List (List V)
 | 0, _ => []
 | n + 1, cs => cs.take sz :: chunks sz n (cs.drop sz)
/-- Operations on bits. -/
def andI (k : IntKind) (a b : Int) : Int := k.wrap (BitVec.ofInt k.bits a &&& BitVec.ofInt k.bits b).toNat
def orI (k : IntKind) (a b : Int) : Int := k.wrap (BitVec.ofInt k.bits a ||| BitVec.ofInt k.bits b).toNat
def shlI (k : IntKind) (a b : Int) : Int := k.wrap (a * 2 ^ (min b.toNat k.bits))
def shrI (k : IntKind) (a b : Int) : Int := a.fdiv (2 ^ (min b.toNat k.bits))
def binV (op : BinOp) (x y : V) : Option (V × Prop) :=
 match x, y with
 | .base (.int k a), .base (.int k' b) => match op with
  | .shl => some (.base (.int k (shlI k a b)), 0 ≤ b)
  | .shr => some (.base (.int k (shrI k a b)), 0 ≤ b)
  | _ => if k = k' then
   (match op with
   | .and => some (.base (.int k (andI k a b)), True)
   | .or => some (.base (.int k (orI k a b)), True)
   | .add => some (.base (.int k (k.wrap (a + b))), True)
   | .sub => some (.base (.int k (k.wrap (a - b))), True)
   | .mul => some (.base (.int k (k.wrap (a * b))), True)
   | .quo => some (.base (.int k (k.wrap (a.tdiv b))), b ≠ 0)
   | .rem => some (.base (.int k (a.tmod b)), b ≠ 0)
   | .eql => some (.base (.bool (a == b)), True)
   | .neq => some (.base (.bool (a != b)), True)
   | .lss => some (.base (.bool (decide (a < b))), True)
   | .leq => some (.base (.bool (decide (a ≤ b))), True)
   | .gtr => some (.base (.bool (decide (a > b))), True)
   | .geq => some (.base (.bool (decide (a ≥ b))), True)
   | _ => none) else none
 | .base (.string a), .base (.string b) => match op with
   | .eql => some (.base (.bool (a.toList == b.toList)), True)
   | .neq => some (.base (.bool (!(a.toList == b.toList))), True)
   | .add => some (.base (.string (a ++ b)), a.size + b.size ≤ maxLen)
   | .lss => some (.base (.bool (Op.bytesLess a.toList b.toList)), True)
   | .leq => some (.base (.bool (Op.bytesLess a.toList b.toList || a.toList == b.toList)), True)
   | .gtr => some (.base (.bool (!(Op.bytesLess a.toList b.toList || a.toList == b.toList))), True)
   | .geq => some (.base (.bool (!Op.bytesLess a.toList b.toList)), True)
   | _ => none
 | _, _ => none
/-- The kinds of a struct's fields, one cell each, where it may be compared cell by cell. -/
def eqTy (P : Program) (t : TypeId) : Option (List Nat) := match P.underlying t with
 | some (.struct fs) => if P.stoodInHeld t = false ∧ P.eqGuardType P.depth t = false ∧ (fs.toList.zipIdx.all fun x => x.1.name != "_" && x.1.offset == x.2) = true then
   fs.toList.mapM fun f => match P.underlying f.type with
    | some .bool => some 0
    | some (.int _) => some 1
    | some .string => some 2
    | _ => none
  else none
 | _ => none
def cmpCells : List Nat → List V → List V → Option Bool
 | [], [], [] => some true
 | 0 :: ks, .base (.bool a) :: r, .base (.bool b) :: r' => (cmpCells ks r r').map ((a == b) && ·)
 | 1 :: ks, .base (.int k a) :: r, .base (.int k' b) :: r' => if k = k' then (cmpCells ks r r').map ((a == b) && ·) else none
 | 2 :: ks, .base (.string a) :: r, .base (.string b) :: r' => (cmpCells ks r r').map ((a.toList == b.toList) && ·)
 | _, _, _ => none
def lenV : V → Option Nat
 | .slice _ es | .own _ _ es => some es.length
 | .nil | .zcap => some 0
 | .base (.slice _ n _) => some n
 | _ => none
/-- Is a slice nil? -/
def nilV : V → Option Bool
 | .nil => some true
 | .slice _ (_ :: _) => some false
 | .base (.slice a _ _) => some a.isNone
 | _ => none
def sliceV : V → Option (Nat × List (List V))
 | .slice sz es | .own _ sz es => some (sz, es)
 | _ => none
/-- The address of an element of a slice that stands in a heap box. -/
def mutAddr (de : TyD) : V → V → Option (V × Prop)
 | .base (.slice (some ⟨b, o, none⟩) len _), .base (.int _ n) => some (.ptr b (o + n.toNat * de.size), 0 ≤ n ∧ n < ((len : Nat) : Int))
 | _, _ => none
/-- The bounds of a slice expression. -/
def loV (st : St) : Option Operand → Option Int
 | none => some 0
 | some o => match st.eval o with | .base (.int _ n) => some n | _ => none
def hiV (st : St) (len : Nat) : Option Operand → Option Int
 | none => some len
 | some o => match st.eval o with | .base (.int _ n) => some n | _ => none
/-- len. -/
def lenVal (P : Program) (st : St) (args : Array Operand) (ts : Array TypeId) : Option (V × Prop) :=
 match ts[0]? with
 | some t => match tyOf P t, args[0]? with
  | some d, some x => match d.shape with
   | .slice _ => match lenV (st.eval x) with
    | some n => some (.base (.int .i64 (n : Int)), True)
    | none => none
   | .string => match st.eval x with
    | .base (.string s) => some (.base (.int .i64 s.size), True)
    | _ => none
   | _ => none
  | _, _ => none
 | none => none
/-- Two interface values. -/
def eqNilIf (P : Program) (t : TypeId) (y : Operand) (op : BinOp) : Option (V × Prop) := match P.underlying t, y, op with
 | some (.interface _), .const _, .eql => some (.base (.bool true), True)
 | some (.interface _), .const _, .neq => some (.base (.bool false), True)
 | _, _, _ => none
def eqIfNil (P : Program) (t : TypeId) (y : Operand) (op : BinOp) : Option (V × Prop) := match P.underlying t, y, op with
 | some (.interface _), .const _, .eql => some (.base (.bool false), True)
 | some (.interface _), .const _, .neq => some (.base (.bool true), True)
 | _, _, _ => none
def eqIfs (P : Program) (t tx ty : TypeId) (p q : ByteArray) (op : BinOp) : Option (V × Prop) := match P.underlying t, P.underlying tx, op with
 | some (.interface _), some .string, .eql => if tx = ty ∧ (P.info? tx).map (·.comparable) = some true then some (.base (.bool (p.toList == q.toList)), True) else none
 | _, _, _ => none
def eqIfn (P : Program) (t tx ty : TypeId) (op : BinOp) : Option (V × Prop) := match P.underlying t, op with
 | some (.interface _), .eql => if tx ≠ ty then some (.base (.bool false), True) else none
 | _, _ => none
/-- A text's bytes, as numbers. -/
def bytesI (s : ByteArray) : List Int := s.data.toList.map fun x => (x.toNat : Int)
/-- Cells that are all known. -/
def basesOf : List V → Option (List Value)
 | [] => some []
 | .base v :: l => match basesOf l with
  | some l => some (v :: l)
  | none => none
 | _ :: _ => none
/-- max, min of two numbers. -/
def mxVal (mx : Bool) (st : St) (args : Array Operand) : Option (V × Prop) :=
 match args.toList with
 | [x, y] => match st.eval x, st.eval y with
  | .base (.int k n), .base (.int _ m) => some (.base (.int k (if mx then (if n < m then m else n) else (if m < n then m else n))), True)
  | _, _ => none
 | _ => none
/-- What an operation that only reckons and reads hands out, and what must be so. -/
def pval (P : Program) (st : St) (op : Op) : Option (V × Prop) :=
 match op with
 | .move x | .assign x => some (st.eval x, True)
 | .pick c a b => match st.eval c with
  | .base (.bool t) => some (if t then st.eval a else st.eval b, True)
  | _ => none
 | .build t parts => match tyOf P t with
  | some d => match d.shape with
   | .struct fs => match fillV (fun i => (fs[i]?).map fun f => (f.1, f.2.1)) (d.zero.map V.ofCell) (parts.toList.map fun x => (x.1, st.eval x.2)) with
    | some cs => some (.agg cs, True)
    | none => none
   | _ => none
  | none => none
 | .buildSlice t len parts => match tyOf P t with
  | some d => match d.shape with
   | .slice e => match tyOf P e with
    | some de => if 0 < len * de.size ∧ len * de.size ≤ 2 ^ 24 then
      match fillV (fun i => some (i * de.size, de.size)) ((List.range (len * de.size)).map fun i => V.ofCell (de.zero.getD (i % de.size) undef)) (parts.toList.map fun x => (x.1, st.eval x.2)) with
      | some cs => some (.slice de.size (chunks de.size len cs), True)
      | none => none
     else if len = 0 ∧ parts.toList = [] then some (.zcap, True) else none
    | none => none
   | _ => none
  | none => none
 | .load t x => match tyOf P t with
  | some d => match st.eval x with
   | .loc b off => match st.loc b with
    | some (cs, _) => (rd d cs off).map fun v => (v, True)
    | none => none
   | .elt cs off => (rd d cs off).map fun v => (v, True)
   | _ => none
  | none => none
 | .nilCheck x => match st.eval x with
  | .ptr b o => some (.ptr b o, True)
  | .loc t o => some (.loc t o, True)
  | .elt cs o => some (.elt cs o, True)
  | .func f a c => some (.func f a c, True)
  | _ => none
 | .binOp op t x y _ => match st.eval x, st.eval y with
  | .base (.bool a), .base (.bool b) => match tyOf P t with
   | some d => match d.shape, op with
    | .bool, .eql => some (.base (.bool (a == b)), True)
    | .bool, .neq => some (.base (.bool (!(a == b))), True)
    | _, _ => none
   | none => none
  | .func _ _ _, .base .nilFunc => match tyOf P t with
   | some d => match d.shape, op with
    | .func, .eql => some (.base (.bool false), True)
    | .func, .neq => some (.base (.bool true), True)
    | _, _ => none
   | none => none
  | .base .nilFunc, .base .nilFunc => match tyOf P t with
   | some d => match d.shape, op with
    | .func, .eql => some (.base (.bool true), True)
    | .func, .neq => some (.base (.bool false), True)
    | _, _ => none
   | none => none
  | .agg cs, .agg cs' => match eqTy P t with
   | some ks => match cmpCells ks cs cs', op with
    | some r, .eql => some (.base (.bool r), True)
    | some r, .neq => some (.base (.bool !r), True)
    | _, _ => none
   | none => none
  | v, .nil => match nilV v, tyOf P t with
   | some r, some d => match d.shape, op with
    | .slice _, .eql => some (.base (.bool r), True)
    | .slice _, .neq => some (.base (.bool (!r)), True)
    | _, _ => none
   | _, _ => none
  | .base .nilIface, .base .nilIface => eqNilIf P t y op
  | .base (.iface _ _), .base .nilIface => eqIfNil P t y op
  | .base (.iface tx (.string p)), .base (.iface ty (.string q)) => eqIfs P t tx ty p q op
  | .base (.iface tx (.int _ _)), .base (.iface ty (.string _)) => eqIfn P t tx ty op
  | a, b => binV op a b
 | .unOp op _ x => match op, st.eval x with
  | .not, .base (.bool b) => some (.base (.bool !b), True)
  | .neg, .base (.int k n) => some (.base (.int k (k.wrap (0 - n))), True)
  | _, _ => none
 | .convert src dst x => match tyOf P src, tyOf P dst, st.eval x with
  | some ds, some dd, .base (.int k n) => match ds.shape, dd.shape with
   | .int _, .int k' => some (.base (.int k' (k'.wrap n)), True)
   | _, _ => none
  | some ds, some dd, .base (.string s) => match ds.shape, dd.shape with
   | .string, .string => some (.base (.string s), True)
   | .string, .slice e => match tyOf P e with
    | some de => match de.shape with
     | .int .u8 => some (.slice 1 ((bytesI s).map fun x => [.base (.int .u8 x)]), s.size ≤ maxLen)
     | _ => none
    | none => none
   | _, _ => none
  | _, _, _ => none
 | .makeFunc (.func f) first captured => match noLocs (first.toList.map st.eval), noLocs (captured.toList.map st.eval) with
  | some a, some c => some (.func f a c, True)
  | _, _ => none
 | .fieldAddr s x k => match tyOf P s with
  | some d => match d.shape with
   | .struct fs => match fs[k]? with
    | some (off, size, _) => if size = 0 then none else match st.eval x with
     | .loc t o => some (.loc t (o + off), True)
     | .elt cs o => some (.elt cs (o + off), True)
     | .ptr b o => some (.ptr b (o + off), True)
     | _ => none
    | none => none
   | _ => none
  | none => none
 | .field s x k => match tyOf P s with
  | some d => match d.shape with
   | .struct fs => match fs[k]? with
    | some (off, size, agg) => match st.eval x with
     | .agg cs => (if agg then (if off + size ≤ cs.length then some (.agg ((cs.drop off).take size)) else none) else cs[off]?).map fun v => (v, True)
     | _ => none
    | none => none
   | _ => none
  | none => none
 | .indexAddr t x i => match tyOf P t with
  | some d => match d.shape with
   | .slice e => match tyOf P e with
    | some de => match sliceV (st.eval x), st.eval i with
     | some (sz, es), .base (.int _ n) => if sz = de.size then some (.elt (es.getD n.toNat []) 0, 0 ≤ n ∧ n < es.length) else none
     | none, i => mutAddr de (st.eval x) i
     | _, _ => none
    | none => none
   | _ => none
  | none => none
 | .index t x i => match tyOf P t with
  | some d => match d.shape, st.eval x, st.eval i with
   | .string, .base (.string s), .base (.int _ n) => some (.base (.int .u8 (s.data.toList.getD n.toNat 0).toNat), 0 ≤ n ∧ n < s.size)
   | _, _, _ => none
  | none => none
 | .extract x i => match st.eval x with
  | .tuple vs => (vs[i]?).map fun v => (v, True)
  | _ => none
 | .slice t x lo hi none => match tyOf P t with
  | some d => match d.shape with
   | .string => match st.eval x with
    | .base (.string s) => match loV st lo, hiV st s.size hi with
     | some l, some h => some (.base (.string (s.extract l.toNat h.toNat)), 0 ≤ l ∧ l ≤ h ∧ h ≤ s.size)
     | _, _ => none
    | _ => none
   | .slice e => match sliceV (st.eval x), tyOf P e with
    | some (sz, es), some de => if sz = de.size then
      match loV st lo, hiV st es.length hi with
      | some l, some h => some (.slice sz ((es.drop l.toNat).take (h.toNat - l.toNat)), 0 ≤ l ∧ l ≤ h ∧ h ≤ es.length)
      | _, _ => none
     else none
    | _, _ => none
   | _ => none
  | none => none
 | .slice t x none (some hi) (some mx) => match tyOf P t with
  | some d => match d.shape with
   | .slice e => match tyOf P e, st.eval hi, st.eval mx with
    | some _, .base (.int _ n), .base (.int _ m) => if n = 0 ∧ m = 0 then
      match st.eval x with
      | .slice _ _ => some (.zcap, True)
      | .own _ _ _ => some (.zcap, True)
      | .nil => some (.zcap, True)
      | _ => none
     else none
    | _, _, _ => none
   | _ => none
  | none => none
 | .call { callee := .builtin .len, args := args, argTypes := ts } => lenVal P st args ts
 | .call { callee := .builtin .max, args := args, argTypes := _ } => mxVal true st args
 | .call { callee := .builtin .min, args := args, argTypes := _ } => mxVal false st args
 | .makeInterface t x => match tyOf P t, st.eval x with
  | some d, .base v => match d.shape with
   | .int _ => some (.base (.iface t v), True)
   | .string => some (.base (.iface t v), True)
   | _ => none
  | some d, .agg cs => match d.shape, basesOf cs with
   | .struct _, some vs => some (.base (.iface t (.agg vs.toArray)), True)
   | _, _ => none
  | _, _ => none
 | .typeAssert x _ t false => match tyOf P t, st.eval x with
  | some d, .base (.iface t' v) => match d.shape with
   | .int _ => if t' = t then some (.base v, True) else none
   | _ => none
  | _, _ => none
 | .typeAssert x _ t true => match tyOf P t, st.eval x with
  | some d, .base (.iface t' v) => match d.shape with
   | .struct _ => if t' = t then some (.tuple [V.ofVal v, .base (.bool true)], True) else none
   | _ => none
  | _, _ => none
 | _ => none
end Go.Am
