/- Plain data of the Expr seat. -/
import Derived.Test.YtdomhnkffghmlaaGreatDoorSAmSpec
set_option linter.unusedVariables false
namespace Go.Ex
open Go.Am
abbrev vint (n : Int) : V := .base (.int .i64 n)
abbrev vbool (b : Bool) : V := .base (.bool b)
abbrev vstr (s : ByteArray) : V := .base (.string s)
structure XKey where
  col : Int
  coll : Int
  desc_ : Bool
structure XIndex where
  name : ByteArray
  table : ByteArray
  keys : (List XKey)
  unique : Bool
  auto : Bool
structure XValue where
  kind : Int
  int : Int
  text : ByteArray
mutual
structure XSelect where
  with_ : (List XCte)
  parts : (List XPart)
  order : (List XSort)
  limit : (List XExpr)
  offset : (List XExpr)
structure XExpr where
  op : Int
  not : Bool
  table : ByteArray
  name : ByteArray
  n : Int
  v_ : XValue
  args : (List XExpr)
  sub : (List XSelect)
structure XCte where
  name : ByteArray
  cols : (List ByteArray)
  body : (List XSelect)
structure XPart where
  comp : Int
  distinct : Bool
  items : (List XItem)
  from_ : (List XSource)
  where_ : (List XExpr)
  group : (List XExpr)
  having : (List XExpr)
  values : (List (List XExpr))
structure XSort where
  expr : XExpr
  desc_ : Bool
structure XItem where
  star : Bool
  table : ByteArray
  expr : (List XExpr)
  as : ByteArray
structure XSource where
  join : Int
  name : ByteArray
  sub : (List XSelect)
  as : ByteArray
  on : (List XExpr)
end
structure XColDef where
  name : ByteArray
  type_ : ByteArray
  coll : Int
  primary : Bool
  unique : Bool
  notNull : Bool
  default : (List XExpr)
  check : (List XExpr)
structure XTable where
  name : ByteArray
  cols : (List XColDef)
  pk : Int
structure XView where
  name : ByteArray
  cols : (List ByteArray)
  select : XSelect
structure XSchema where
  tables : (List XTable)
  indexes : (List XIndex)
  views : (List XView)
def XKey.v : XKey → List V
  | ⟨col', coll', desc_'⟩ => [vint col', vint coll', vbool desc_']
theorem XKey.v_eq' (t : XKey) : XKey.v t = [vint t.col, vint t.coll, vbool t.desc_] := by cases t; rw [XKey.v]
theorem XKey.v_eq (t : XKey) : XKey.v t = [vint t.col, vint t.coll, vbool t.desc_] := by rw [XKey.v_eq']
def XKey.z : XKey := ⟨0, 0, false⟩
theorem XKey.v_len (t : XKey) : t.v.length = 3 := by rw [XKey.v_eq]; rfl
theorem XKey.v_all (t : XKey) : t.v.all V.isCell = true := by rw [XKey.v_eq]; rfl
theorem XKey.v_take (t : XKey) : t.v.take 3 = t.v := List.take_of_length_le (by rw [XKey.v_len]; exact Nat.le_refl _)
theorem XKey.v_take' (t : XKey) : (t.v.drop 0).take 3 = t.v := by rw [List.drop_zero]; exact XKey.v_take t
theorem XKey.v_drop (t : XKey) : t.v.drop 3 = [] := List.drop_of_length_le (by rw [XKey.v_len]; exact Nat.le_refl _)
theorem XKey.v_c0 (t : XKey) : t.v[0]? = some (vint t.col) := by rw [XKey.v_eq]; rfl
theorem XKey.v_c1 (t : XKey) : t.v[1]? = some (vint t.coll) := by rw [XKey.v_eq]; rfl
theorem XKey.v_c2 (t : XKey) : t.v[2]? = some (vbool t.desc_) := by rw [XKey.v_eq]; rfl
theorem XKey.snoc {l : List XKey} {t : XKey} : l.map XKey.v ++ [t.v] = (l ++ [t]).map XKey.v := by rw [List.map_append]; rfl
theorem XKey.snoc' {l : List XKey} {a0 : Int} {a1 : Int} {a2 : Bool} : l.map XKey.v ++ [[vint a0, vint a1, vbool a2]] = (l ++ [(XKey.mk a0 a1 a2)]).map XKey.v := by rw [List.map_append, List.map_cons, List.map_nil, XKey.v_eq]
theorem XKey.eta (t : XKey) : XKey.mk t.col t.coll t.desc_ = t := by cases t; first | rfl
set_option linter.defProp false in
def XKey.vs := And.intro @XKey.v_len <| And.intro @XKey.v_all <| And.intro @XKey.v_take <| And.intro @XKey.v_take' <| And.intro @XKey.v_drop <| And.intro @XKey.v_c0 <| And.intro @XKey.v_c1 <| And.intro @XKey.v_c2 <| True.intro
def XIndex.v : XIndex → List V
  | ⟨name', table', keys', unique', auto'⟩ => [vstr name', vstr table', V.slice 3 (List.map XKey.v keys'), vbool unique', vbool auto']
theorem XIndex.v_eq' (t : XIndex) : XIndex.v t = [vstr t.name, vstr t.table, V.slice 3 (List.map XKey.v t.keys), vbool t.unique, vbool t.auto] := by cases t; rw [XIndex.v]
theorem XIndex.v_eq (t : XIndex) : XIndex.v t = [vstr t.name, vstr t.table, V.slice 3 (List.map XKey.v t.keys), vbool t.unique, vbool t.auto] := by rw [XIndex.v_eq']
def XIndex.z : XIndex := ⟨ByteArray.empty, ByteArray.empty, [], false, false⟩
theorem XIndex.v_len (t : XIndex) : t.v.length = 5 := by rw [XIndex.v_eq]; rfl
theorem XIndex.v_all (t : XIndex) : t.v.all V.isCell = true := by rw [XIndex.v_eq]; rfl
theorem XIndex.v_take (t : XIndex) : t.v.take 5 = t.v := List.take_of_length_le (by rw [XIndex.v_len]; exact Nat.le_refl _)
theorem XIndex.v_take' (t : XIndex) : (t.v.drop 0).take 5 = t.v := by rw [List.drop_zero]; exact XIndex.v_take t
theorem XIndex.v_drop (t : XIndex) : t.v.drop 5 = [] := List.drop_of_length_le (by rw [XIndex.v_len]; exact Nat.le_refl _)
theorem XIndex.v_c0 (t : XIndex) : t.v[0]? = some (vstr t.name) := by rw [XIndex.v_eq]; rfl
theorem XIndex.v_c1 (t : XIndex) : t.v[1]? = some (vstr t.table) := by rw [XIndex.v_eq]; rfl
theorem XIndex.v_c2 (t : XIndex) : t.v[2]? = some (V.slice 3 (List.map XKey.v t.keys)) := by rw [XIndex.v_eq]; rfl
theorem XIndex.v_c3 (t : XIndex) : t.v[3]? = some (vbool t.unique) := by rw [XIndex.v_eq]; rfl
theorem XIndex.v_c4 (t : XIndex) : t.v[4]? = some (vbool t.auto) := by rw [XIndex.v_eq]; rfl
theorem XIndex.snoc {l : List XIndex} {t : XIndex} : l.map XIndex.v ++ [t.v] = (l ++ [t]).map XIndex.v := by rw [List.map_append]; rfl
theorem XIndex.snoc' {l : List XIndex} {a0 : ByteArray} {a1 : ByteArray} {a2 : (List XKey)} {a3 : Bool} {a4 : Bool} : l.map XIndex.v ++ [[vstr a0, vstr a1, V.slice 3 (List.map XKey.v a2), vbool a3, vbool a4]] = (l ++ [(XIndex.mk a0 a1 a2 a3 a4)]).map XIndex.v := by rw [List.map_append, List.map_cons, List.map_nil, XIndex.v_eq]
theorem XIndex.eta (t : XIndex) : XIndex.mk t.name t.table t.keys t.unique t.auto = t := by cases t; first | rfl
set_option linter.defProp false in
def XIndex.vs := And.intro @XIndex.v_len <| And.intro @XIndex.v_all <| And.intro @XIndex.v_take <| And.intro @XIndex.v_take' <| And.intro @XIndex.v_drop <| And.intro @XIndex.v_c0 <| And.intro @XIndex.v_c1 <| And.intro @XIndex.v_c2 <| And.intro @XIndex.v_c3 <| And.intro @XIndex.v_c4 <| True.intro
def XValue.v : XValue → List V
  | ⟨kind', int', text'⟩ => [vint kind', vint int', vstr text']
theorem XValue.v_eq' (t : XValue) : XValue.v t = [vint t.kind, vint t.int, vstr t.text] := by cases t; rw [XValue.v]
theorem XValue.v_eq (t : XValue) : XValue.v t = [vint t.kind, vint t.int, vstr t.text] := by rw [XValue.v_eq']
def XValue.z : XValue := ⟨0, 0, ByteArray.empty⟩
theorem XValue.v_len (t : XValue) : t.v.length = 3 := by rw [XValue.v_eq]; rfl
theorem XValue.v_all (t : XValue) : t.v.all V.isCell = true := by rw [XValue.v_eq]; rfl
theorem XValue.v_take (t : XValue) : t.v.take 3 = t.v := List.take_of_length_le (by rw [XValue.v_len]; exact Nat.le_refl _)
theorem XValue.v_take' (t : XValue) : (t.v.drop 0).take 3 = t.v := by rw [List.drop_zero]; exact XValue.v_take t
theorem XValue.v_drop (t : XValue) : t.v.drop 3 = [] := List.drop_of_length_le (by rw [XValue.v_len]; exact Nat.le_refl _)
theorem XValue.v_c0 (t : XValue) : t.v[0]? = some (vint t.kind) := by rw [XValue.v_eq]; rfl
theorem XValue.v_c1 (t : XValue) : t.v[1]? = some (vint t.int) := by rw [XValue.v_eq]; rfl
theorem XValue.v_c2 (t : XValue) : t.v[2]? = some (vstr t.text) := by rw [XValue.v_eq]; rfl
theorem XValue.snoc {l : List XValue} {t : XValue} : l.map XValue.v ++ [t.v] = (l ++ [t]).map XValue.v := by rw [List.map_append]; rfl
theorem XValue.snoc' {l : List XValue} {a0 : Int} {a1 : Int} {a2 : ByteArray} : l.map XValue.v ++ [[vint a0, vint a1, vstr a2]] = (l ++ [(XValue.mk a0 a1 a2)]).map XValue.v := by rw [List.map_append, List.map_cons, List.map_nil, XValue.v_eq]
theorem XValue.eta (t : XValue) : XValue.mk t.kind t.int t.text = t := by cases t; first | rfl
set_option linter.defProp false in
def XValue.vs := And.intro @XValue.v_len <| And.intro @XValue.v_all <| And.intro @XValue.v_take <| And.intro @XValue.v_take' <| And.intro @XValue.v_drop <| And.intro @XValue.v_c0 <| And.intro @XValue.v_c1 <| And.intro @XValue.v_c2 <| True.intro
mutual
def XSelect.v : XSelect → List V
  | ⟨with_', parts', order', limit', offset'⟩ => [V.slice 3 (List.map XCte.v with_'), V.slice 8 (List.map XPart.v parts'), V.slice 11 (List.map XSort.v order'), V.slice 10 (List.map XExpr.v limit'), V.slice 10 (List.map XExpr.v offset')]
 termination_by t => SizeOf.sizeOf t
 decreasing_by
  all_goals first
    | (have h1 := List.sizeOf_lt_of_mem (‹_› : (_ : _) ∈ (_ : List (List _))); have h2 := List.sizeOf_lt_of_mem (‹_› : (_ : _) ∈ (_ : List _)); simp; omega)
    | decreasing_tactic
def XExpr.v : XExpr → List V
  | ⟨op', not', table', name', n', v_', args', sub'⟩ => [vint op', vbool not', vstr table', vstr name', vint n'] ++ XValue.v v_' ++ [V.slice 10 (List.map XExpr.v args'), V.slice 5 (List.map XSelect.v sub')]
 termination_by t => SizeOf.sizeOf t
 decreasing_by
  all_goals first
    | (have h1 := List.sizeOf_lt_of_mem (‹_› : (_ : _) ∈ (_ : List (List _))); have h2 := List.sizeOf_lt_of_mem (‹_› : (_ : _) ∈ (_ : List _)); simp; omega)
    | decreasing_tactic
def XCte.v : XCte → List V
  | ⟨name', cols', body'⟩ => [vstr name', V.slice 1 (List.map (fun x => [vstr x]) cols'), V.slice 5 (List.map XSelect.v body')]
 termination_by t => SizeOf.sizeOf t
 decreasing_by
  all_goals first
    | (have h1 := List.sizeOf_lt_of_mem (‹_› : (_ : _) ∈ (_ : List (List _))); have h2 := List.sizeOf_lt_of_mem (‹_› : (_ : _) ∈ (_ : List _)); simp; omega)
    | decreasing_tactic
def XPart.v : XPart → List V
  | ⟨comp', distinct', items', from_', where_', group', having', values'⟩ => [vint comp', vbool distinct', V.slice 4 (List.map XItem.v items'), V.slice 5 (List.map XSource.v from_'), V.slice 10 (List.map XExpr.v where_'), V.slice 10 (List.map XExpr.v group'), V.slice 10 (List.map XExpr.v having'), V.slice 1 (List.map (fun x => [V.slice 10 (List.map XExpr.v x)]) values')]
 termination_by t => SizeOf.sizeOf t
 decreasing_by
  all_goals first
    | (have h1 := List.sizeOf_lt_of_mem (‹_› : (_ : _) ∈ (_ : List (List _))); have h2 := List.sizeOf_lt_of_mem (‹_› : (_ : _) ∈ (_ : List _)); simp; omega)
    | decreasing_tactic
def XSort.v : XSort → List V
  | ⟨expr', desc_'⟩ => XExpr.v expr' ++ [vbool desc_']
 termination_by t => SizeOf.sizeOf t
 decreasing_by
  all_goals first
    | (have h1 := List.sizeOf_lt_of_mem (‹_› : (_ : _) ∈ (_ : List (List _))); have h2 := List.sizeOf_lt_of_mem (‹_› : (_ : _) ∈ (_ : List _)); simp; omega)
    | decreasing_tactic
def XItem.v : XItem → List V
  | ⟨star', table', expr', as'⟩ => [vbool star', vstr table', V.slice 10 (List.map XExpr.v expr'), vstr as']
 termination_by t => SizeOf.sizeOf t
 decreasing_by
  all_goals first
    | (have h1 := List.sizeOf_lt_of_mem (‹_› : (_ : _) ∈ (_ : List (List _))); have h2 := List.sizeOf_lt_of_mem (‹_› : (_ : _) ∈ (_ : List _)); simp; omega)
    | decreasing_tactic
def XSource.v : XSource → List V
  | ⟨join', name', sub', as', on'⟩ => [vint join', vstr name', V.slice 5 (List.map XSelect.v sub'), vstr as', V.slice 10 (List.map XExpr.v on')]
 termination_by t => SizeOf.sizeOf t
 decreasing_by
  all_goals first
    | (have h1 := List.sizeOf_lt_of_mem (‹_› : (_ : _) ∈ (_ : List (List _))); have h2 := List.sizeOf_lt_of_mem (‹_› : (_ : _) ∈ (_ : List _)); simp; omega)
    | decreasing_tactic
end
theorem XSelect.v_eq' (t : XSelect) : XSelect.v t = [V.slice 3 (List.map XCte.v t.with_), V.slice 8 (List.map XPart.v t.parts), V.slice 11 (List.map XSort.v t.order), V.slice 10 (List.map XExpr.v t.limit), V.slice 10 (List.map XExpr.v t.offset)] := by cases t; rw [XSelect.v]
theorem XSelect.v_eq (t : XSelect) : XSelect.v t = [V.slice 3 (List.map XCte.v t.with_), V.slice 8 (List.map XPart.v t.parts), V.slice 11 (List.map XSort.v t.order), V.slice 10 (List.map XExpr.v t.limit), V.slice 10 (List.map XExpr.v t.offset)] := by rw [XSelect.v_eq']
def XSelect.z : XSelect := ⟨[], [], [], [], []⟩
theorem XSelect.v_len (t : XSelect) : t.v.length = 5 := by rw [XSelect.v_eq]; rfl
theorem XSelect.v_all (t : XSelect) : t.v.all V.isCell = true := by rw [XSelect.v_eq]; rfl
theorem XSelect.v_take (t : XSelect) : t.v.take 5 = t.v := List.take_of_length_le (by rw [XSelect.v_len]; exact Nat.le_refl _)
theorem XSelect.v_take' (t : XSelect) : (t.v.drop 0).take 5 = t.v := by rw [List.drop_zero]; exact XSelect.v_take t
theorem XSelect.v_drop (t : XSelect) : t.v.drop 5 = [] := List.drop_of_length_le (by rw [XSelect.v_len]; exact Nat.le_refl _)
theorem XSelect.v_c0 (t : XSelect) : t.v[0]? = some (V.slice 3 (List.map XCte.v t.with_)) := by rw [XSelect.v_eq]; rfl
theorem XSelect.v_c1 (t : XSelect) : t.v[1]? = some (V.slice 8 (List.map XPart.v t.parts)) := by rw [XSelect.v_eq]; rfl
theorem XSelect.v_c2 (t : XSelect) : t.v[2]? = some (V.slice 11 (List.map XSort.v t.order)) := by rw [XSelect.v_eq]; rfl
theorem XSelect.v_c3 (t : XSelect) : t.v[3]? = some (V.slice 10 (List.map XExpr.v t.limit)) := by rw [XSelect.v_eq]; rfl
theorem XSelect.v_c4 (t : XSelect) : t.v[4]? = some (V.slice 10 (List.map XExpr.v t.offset)) := by rw [XSelect.v_eq]; rfl
theorem XSelect.snoc {l : List XSelect} {t : XSelect} : l.map XSelect.v ++ [t.v] = (l ++ [t]).map XSelect.v := by rw [List.map_append]; rfl
theorem XSelect.snoc' {l : List XSelect} {a0 : (List XCte)} {a1 : (List XPart)} {a2 : (List XSort)} {a3 : (List XExpr)} {a4 : (List XExpr)} : l.map XSelect.v ++ [[V.slice 3 (List.map XCte.v a0), V.slice 8 (List.map XPart.v a1), V.slice 11 (List.map XSort.v a2), V.slice 10 (List.map XExpr.v a3), V.slice 10 (List.map XExpr.v a4)]] = (l ++ [(XSelect.mk a0 a1 a2 a3 a4)]).map XSelect.v := by rw [List.map_append, List.map_cons, List.map_nil, XSelect.v_eq]
theorem XSelect.eta (t : XSelect) : XSelect.mk t.with_ t.parts t.order t.limit t.offset = t := by cases t; first | rfl
set_option linter.defProp false in
def XSelect.vs := And.intro @XSelect.v_len <| And.intro @XSelect.v_all <| And.intro @XSelect.v_take <| And.intro @XSelect.v_take' <| And.intro @XSelect.v_drop <| And.intro @XSelect.v_c0 <| And.intro @XSelect.v_c1 <| And.intro @XSelect.v_c2 <| And.intro @XSelect.v_c3 <| And.intro @XSelect.v_c4 <| True.intro
theorem XExpr.v_eq' (t : XExpr) : XExpr.v t = [vint t.op, vbool t.not, vstr t.table, vstr t.name, vint t.n] ++ XValue.v t.v_ ++ [V.slice 10 (List.map XExpr.v t.args), V.slice 5 (List.map XSelect.v t.sub)] := by cases t; rw [XExpr.v]
theorem XExpr.v_eq (t : XExpr) : XExpr.v t = [vint t.op, vbool t.not, vstr t.table, vstr t.name, vint t.n, vint t.v_.kind, vint t.v_.int, vstr t.v_.text, V.slice 10 (List.map XExpr.v t.args), V.slice 5 (List.map XSelect.v t.sub)] := by rw [XExpr.v_eq', XValue.v_eq]; rfl
def XExpr.z : XExpr := ⟨0, false, ByteArray.empty, ByteArray.empty, 0, XValue.z, [], []⟩
theorem XExpr.v_len (t : XExpr) : t.v.length = 10 := by rw [XExpr.v_eq]; rfl
theorem XExpr.v_all (t : XExpr) : t.v.all V.isCell = true := by rw [XExpr.v_eq]; rfl
theorem XExpr.v_take (t : XExpr) : t.v.take 10 = t.v := List.take_of_length_le (by rw [XExpr.v_len]; exact Nat.le_refl _)
theorem XExpr.v_take' (t : XExpr) : (t.v.drop 0).take 10 = t.v := by rw [List.drop_zero]; exact XExpr.v_take t
theorem XExpr.v_drop (t : XExpr) : t.v.drop 10 = [] := List.drop_of_length_le (by rw [XExpr.v_len]; exact Nat.le_refl _)
theorem XExpr.v_c0 (t : XExpr) : t.v[0]? = some (vint t.op) := by rw [XExpr.v_eq]; rfl
theorem XExpr.v_c1 (t : XExpr) : t.v[1]? = some (vbool t.not) := by rw [XExpr.v_eq]; rfl
theorem XExpr.v_c2 (t : XExpr) : t.v[2]? = some (vstr t.table) := by rw [XExpr.v_eq]; rfl
theorem XExpr.v_c3 (t : XExpr) : t.v[3]? = some (vstr t.name) := by rw [XExpr.v_eq]; rfl
theorem XExpr.v_c4 (t : XExpr) : t.v[4]? = some (vint t.n) := by rw [XExpr.v_eq]; rfl
theorem XExpr.v_s5_3 (t : XExpr) : (t.v.drop 5).take 3 = (t.v_).v := by rw [XExpr.v_eq, XValue.v_eq]; rfl
theorem XExpr.v_c5 (t : XExpr) : t.v[5]? = some (vint t.v_.kind) := by rw [XExpr.v_eq]; rfl
theorem XExpr.v_c6 (t : XExpr) : t.v[6]? = some (vint t.v_.int) := by rw [XExpr.v_eq]; rfl
theorem XExpr.v_c7 (t : XExpr) : t.v[7]? = some (vstr t.v_.text) := by rw [XExpr.v_eq]; rfl
theorem XExpr.v_c8 (t : XExpr) : t.v[8]? = some (V.slice 10 (List.map XExpr.v t.args)) := by rw [XExpr.v_eq]; rfl
theorem XExpr.v_c9 (t : XExpr) : t.v[9]? = some (V.slice 5 (List.map XSelect.v t.sub)) := by rw [XExpr.v_eq]; rfl
theorem XExpr.snoc {l : List XExpr} {t : XExpr} : l.map XExpr.v ++ [t.v] = (l ++ [t]).map XExpr.v := by rw [List.map_append]; rfl
theorem XExpr.snoc' {l : List XExpr} {a0 : Int} {a1 : Bool} {a2 : ByteArray} {a3 : ByteArray} {a4 : Int} {a5 : Int} {a6 : Int} {a7 : ByteArray} {a8 : (List XExpr)} {a9 : (List XSelect)} : l.map XExpr.v ++ [[vint a0, vbool a1, vstr a2, vstr a3, vint a4, vint a5, vint a6, vstr a7, V.slice 10 (List.map XExpr.v a8), V.slice 5 (List.map XSelect.v a9)]] = (l ++ [(XExpr.mk a0 a1 a2 a3 a4 (XValue.mk a5 a6 a7) a8 a9)]).map XExpr.v := by rw [List.map_append, List.map_cons, List.map_nil, XExpr.v_eq]
theorem XExpr.eta (t : XExpr) : XExpr.mk t.op t.not t.table t.name t.n (XValue.mk t.v_.kind t.v_.int t.v_.text) t.args t.sub = t := by cases t; first | rfl | simp only [XValue.eta]
set_option linter.defProp false in
def XExpr.vs := And.intro @XExpr.v_len <| And.intro @XExpr.v_all <| And.intro @XExpr.v_take <| And.intro @XExpr.v_take' <| And.intro @XExpr.v_drop <| And.intro @XExpr.v_c0 <| And.intro @XExpr.v_c1 <| And.intro @XExpr.v_c2 <| And.intro @XExpr.v_c3 <| And.intro @XExpr.v_c4 <| And.intro @XExpr.v_s5_3 <| And.intro @XExpr.v_c5 <| And.intro @XExpr.v_c6 <| And.intro @XExpr.v_c7 <| And.intro @XExpr.v_c8 <| And.intro @XExpr.v_c9 <| True.intro
theorem XCte.v_eq' (t : XCte) : XCte.v t = [vstr t.name, V.slice 1 (List.map (fun x => [vstr x]) t.cols), V.slice 5 (List.map XSelect.v t.body)] := by cases t; rw [XCte.v]
theorem XCte.v_eq (t : XCte) : XCte.v t = [vstr t.name, V.slice 1 (List.map (fun x => [vstr x]) t.cols), V.slice 5 (List.map XSelect.v t.body)] := by rw [XCte.v_eq']
def XCte.z : XCte := ⟨ByteArray.empty, [], []⟩
theorem XCte.v_len (t : XCte) : t.v.length = 3 := by rw [XCte.v_eq]; rfl
theorem XCte.v_all (t : XCte) : t.v.all V.isCell = true := by rw [XCte.v_eq]; rfl
theorem XCte.v_take (t : XCte) : t.v.take 3 = t.v := List.take_of_length_le (by rw [XCte.v_len]; exact Nat.le_refl _)
theorem XCte.v_take' (t : XCte) : (t.v.drop 0).take 3 = t.v := by rw [List.drop_zero]; exact XCte.v_take t
theorem XCte.v_drop (t : XCte) : t.v.drop 3 = [] := List.drop_of_length_le (by rw [XCte.v_len]; exact Nat.le_refl _)
theorem XCte.v_c0 (t : XCte) : t.v[0]? = some (vstr t.name) := by rw [XCte.v_eq]; rfl
theorem XCte.v_c1 (t : XCte) : t.v[1]? = some (V.slice 1 (List.map (fun x => [vstr x]) t.cols)) := by rw [XCte.v_eq]; rfl
theorem XCte.v_c2 (t : XCte) : t.v[2]? = some (V.slice 5 (List.map XSelect.v t.body)) := by rw [XCte.v_eq]; rfl
theorem XCte.snoc {l : List XCte} {t : XCte} : l.map XCte.v ++ [t.v] = (l ++ [t]).map XCte.v := by rw [List.map_append]; rfl
theorem XCte.snoc' {l : List XCte} {a0 : ByteArray} {a1 : (List ByteArray)} {a2 : (List XSelect)} : l.map XCte.v ++ [[vstr a0, V.slice 1 (List.map (fun x => [vstr x]) a1), V.slice 5 (List.map XSelect.v a2)]] = (l ++ [(XCte.mk a0 a1 a2)]).map XCte.v := by rw [List.map_append, List.map_cons, List.map_nil, XCte.v_eq]
theorem XCte.eta (t : XCte) : XCte.mk t.name t.cols t.body = t := by cases t; first | rfl
set_option linter.defProp false in
def XCte.vs := And.intro @XCte.v_len <| And.intro @XCte.v_all <| And.intro @XCte.v_take <| And.intro @XCte.v_take' <| And.intro @XCte.v_drop <| And.intro @XCte.v_c0 <| And.intro @XCte.v_c1 <| And.intro @XCte.v_c2 <| True.intro
theorem XPart.v_eq' (t : XPart) : XPart.v t = [vint t.comp, vbool t.distinct, V.slice 4 (List.map XItem.v t.items), V.slice 5 (List.map XSource.v t.from_), V.slice 10 (List.map XExpr.v t.where_), V.slice 10 (List.map XExpr.v t.group), V.slice 10 (List.map XExpr.v t.having), V.slice 1 (List.map (fun x => [V.slice 10 (List.map XExpr.v x)]) t.values)] := by cases t; rw [XPart.v]
theorem XPart.v_eq (t : XPart) : XPart.v t = [vint t.comp, vbool t.distinct, V.slice 4 (List.map XItem.v t.items), V.slice 5 (List.map XSource.v t.from_), V.slice 10 (List.map XExpr.v t.where_), V.slice 10 (List.map XExpr.v t.group), V.slice 10 (List.map XExpr.v t.having), V.slice 1 (List.map (fun x => [V.slice 10 (List.map XExpr.v x)]) t.values)] := by rw [XPart.v_eq']
def XPart.z : XPart := ⟨0, false, [], [], [], [], [], []⟩
theorem XPart.v_len (t : XPart) : t.v.length = 8 := by rw [XPart.v_eq]; rfl
theorem XPart.v_all (t : XPart) : t.v.all V.isCell = true := by rw [XPart.v_eq]; rfl
theorem XPart.v_take (t : XPart) : t.v.take 8 = t.v := List.take_of_length_le (by rw [XPart.v_len]; exact Nat.le_refl _)
theorem XPart.v_take' (t : XPart) : (t.v.drop 0).take 8 = t.v := by rw [List.drop_zero]; exact XPart.v_take t
theorem XPart.v_drop (t : XPart) : t.v.drop 8 = [] := List.drop_of_length_le (by rw [XPart.v_len]; exact Nat.le_refl _)
theorem XPart.v_c0 (t : XPart) : t.v[0]? = some (vint t.comp) := by rw [XPart.v_eq]; rfl
theorem XPart.v_c1 (t : XPart) : t.v[1]? = some (vbool t.distinct) := by rw [XPart.v_eq]; rfl
theorem XPart.v_c2 (t : XPart) : t.v[2]? = some (V.slice 4 (List.map XItem.v t.items)) := by rw [XPart.v_eq]; rfl
theorem XPart.v_c3 (t : XPart) : t.v[3]? = some (V.slice 5 (List.map XSource.v t.from_)) := by rw [XPart.v_eq]; rfl
theorem XPart.v_c4 (t : XPart) : t.v[4]? = some (V.slice 10 (List.map XExpr.v t.where_)) := by rw [XPart.v_eq]; rfl
theorem XPart.v_c5 (t : XPart) : t.v[5]? = some (V.slice 10 (List.map XExpr.v t.group)) := by rw [XPart.v_eq]; rfl
theorem XPart.v_c6 (t : XPart) : t.v[6]? = some (V.slice 10 (List.map XExpr.v t.having)) := by rw [XPart.v_eq]; rfl
theorem XPart.v_c7 (t : XPart) : t.v[7]? = some (V.slice 1 (List.map (fun x => [V.slice 10 (List.map XExpr.v x)]) t.values)) := by rw [XPart.v_eq]; rfl
theorem XPart.snoc {l : List XPart} {t : XPart} : l.map XPart.v ++ [t.v] = (l ++ [t]).map XPart.v := by rw [List.map_append]; rfl
theorem XPart.snoc' {l : List XPart} {a0 : Int} {a1 : Bool} {a2 : (List XItem)} {a3 : (List XSource)} {a4 : (List XExpr)} {a5 : (List XExpr)} {a6 : (List XExpr)} {a7 : (List (List XExpr))} : l.map XPart.v ++ [[vint a0, vbool a1, V.slice 4 (List.map XItem.v a2), V.slice 5 (List.map XSource.v a3), V.slice 10 (List.map XExpr.v a4), V.slice 10 (List.map XExpr.v a5), V.slice 10 (List.map XExpr.v a6), V.slice 1 (List.map (fun x => [V.slice 10 (List.map XExpr.v x)]) a7)]] = (l ++ [(XPart.mk a0 a1 a2 a3 a4 a5 a6 a7)]).map XPart.v := by rw [List.map_append, List.map_cons, List.map_nil, XPart.v_eq]
theorem XPart.eta (t : XPart) : XPart.mk t.comp t.distinct t.items t.from_ t.where_ t.group t.having t.values = t := by cases t; first | rfl
set_option linter.defProp false in
def XPart.vs := And.intro @XPart.v_len <| And.intro @XPart.v_all <| And.intro @XPart.v_take <| And.intro @XPart.v_take' <| And.intro @XPart.v_drop <| And.intro @XPart.v_c0 <| And.intro @XPart.v_c1 <| And.intro @XPart.v_c2 <| And.intro @XPart.v_c3 <| And.intro @XPart.v_c4 <| And.intro @XPart.v_c5 <| And.intro @XPart.v_c6 <| And.intro @XPart.v_c7 <| True.intro
theorem XSort.v_eq' (t : XSort) : XSort.v t = XExpr.v t.expr ++ [vbool t.desc_] := by cases t; rw [XSort.v]
theorem XSort.v_eq (t : XSort) : XSort.v t = [vint t.expr.op, vbool t.expr.not, vstr t.expr.table, vstr t.expr.name, vint t.expr.n, vint t.expr.v_.kind, vint t.expr.v_.int, vstr t.expr.v_.text, V.slice 10 (List.map XExpr.v t.expr.args), V.slice 5 (List.map XSelect.v t.expr.sub), vbool t.desc_] := by rw [XSort.v_eq', XExpr.v_eq]; rfl
def XSort.z : XSort := ⟨XExpr.z, false⟩
theorem XSort.v_len (t : XSort) : t.v.length = 11 := by rw [XSort.v_eq]; rfl
theorem XSort.v_all (t : XSort) : t.v.all V.isCell = true := by rw [XSort.v_eq]; rfl
theorem XSort.v_take (t : XSort) : t.v.take 11 = t.v := List.take_of_length_le (by rw [XSort.v_len]; exact Nat.le_refl _)
theorem XSort.v_take' (t : XSort) : (t.v.drop 0).take 11 = t.v := by rw [List.drop_zero]; exact XSort.v_take t
theorem XSort.v_drop (t : XSort) : t.v.drop 11 = [] := List.drop_of_length_le (by rw [XSort.v_len]; exact Nat.le_refl _)
theorem XSort.v_s0_10 (t : XSort) : (t.v.drop 0).take 10 = (t.expr).v := by rw [XSort.v_eq, XExpr.v_eq]; rfl
theorem XSort.v_s0_10' (t : XSort) : t.v.take 10 = (t.expr).v := by rw [XSort.v_eq, XExpr.v_eq]; rfl
theorem XSort.v_c0 (t : XSort) : t.v[0]? = some (vint t.expr.op) := by rw [XSort.v_eq]; rfl
theorem XSort.v_c1 (t : XSort) : t.v[1]? = some (vbool t.expr.not) := by rw [XSort.v_eq]; rfl
theorem XSort.v_c2 (t : XSort) : t.v[2]? = some (vstr t.expr.table) := by rw [XSort.v_eq]; rfl
theorem XSort.v_c3 (t : XSort) : t.v[3]? = some (vstr t.expr.name) := by rw [XSort.v_eq]; rfl
theorem XSort.v_c4 (t : XSort) : t.v[4]? = some (vint t.expr.n) := by rw [XSort.v_eq]; rfl
theorem XSort.v_s5_3 (t : XSort) : (t.v.drop 5).take 3 = (t.expr.v_).v := by rw [XSort.v_eq, XValue.v_eq]; rfl
theorem XSort.v_c5 (t : XSort) : t.v[5]? = some (vint t.expr.v_.kind) := by rw [XSort.v_eq]; rfl
theorem XSort.v_c6 (t : XSort) : t.v[6]? = some (vint t.expr.v_.int) := by rw [XSort.v_eq]; rfl
theorem XSort.v_c7 (t : XSort) : t.v[7]? = some (vstr t.expr.v_.text) := by rw [XSort.v_eq]; rfl
theorem XSort.v_c8 (t : XSort) : t.v[8]? = some (V.slice 10 (List.map XExpr.v t.expr.args)) := by rw [XSort.v_eq]; rfl
theorem XSort.v_c9 (t : XSort) : t.v[9]? = some (V.slice 5 (List.map XSelect.v t.expr.sub)) := by rw [XSort.v_eq]; rfl
theorem XSort.v_c10 (t : XSort) : t.v[10]? = some (vbool t.desc_) := by rw [XSort.v_eq]; rfl
theorem XSort.snoc {l : List XSort} {t : XSort} : l.map XSort.v ++ [t.v] = (l ++ [t]).map XSort.v := by rw [List.map_append]; rfl
theorem XSort.snoc' {l : List XSort} {a0 : Int} {a1 : Bool} {a2 : ByteArray} {a3 : ByteArray} {a4 : Int} {a5 : Int} {a6 : Int} {a7 : ByteArray} {a8 : (List XExpr)} {a9 : (List XSelect)} {a10 : Bool} : l.map XSort.v ++ [[vint a0, vbool a1, vstr a2, vstr a3, vint a4, vint a5, vint a6, vstr a7, V.slice 10 (List.map XExpr.v a8), V.slice 5 (List.map XSelect.v a9), vbool a10]] = (l ++ [(XSort.mk (XExpr.mk a0 a1 a2 a3 a4 (XValue.mk a5 a6 a7) a8 a9) a10)]).map XSort.v := by rw [List.map_append, List.map_cons, List.map_nil, XSort.v_eq]
theorem XSort.eta (t : XSort) : XSort.mk (XExpr.mk t.expr.op t.expr.not t.expr.table t.expr.name t.expr.n (XValue.mk t.expr.v_.kind t.expr.v_.int t.expr.v_.text) t.expr.args t.expr.sub) t.desc_ = t := by cases t; first | rfl | simp only [XExpr.eta]
set_option linter.defProp false in
def XSort.vs := And.intro @XSort.v_len <| And.intro @XSort.v_all <| And.intro @XSort.v_take <| And.intro @XSort.v_take' <| And.intro @XSort.v_drop <| And.intro @XSort.v_s0_10 <| And.intro @XSort.v_s0_10' <| And.intro @XSort.v_c0 <| And.intro @XSort.v_c1 <| And.intro @XSort.v_c2 <| And.intro @XSort.v_c3 <| And.intro @XSort.v_c4 <| And.intro @XSort.v_s5_3 <| And.intro @XSort.v_c5 <| And.intro @XSort.v_c6 <| And.intro @XSort.v_c7 <| And.intro @XSort.v_c8 <| And.intro @XSort.v_c9 <| And.intro @XSort.v_c10 <| True.intro
theorem XItem.v_eq' (t : XItem) : XItem.v t = [vbool t.star, vstr t.table, V.slice 10 (List.map XExpr.v t.expr), vstr t.as] := by cases t; rw [XItem.v]
theorem XItem.v_eq (t : XItem) : XItem.v t = [vbool t.star, vstr t.table, V.slice 10 (List.map XExpr.v t.expr), vstr t.as] := by rw [XItem.v_eq']
def XItem.z : XItem := ⟨false, ByteArray.empty, [], ByteArray.empty⟩
theorem XItem.v_len (t : XItem) : t.v.length = 4 := by rw [XItem.v_eq]; rfl
theorem XItem.v_all (t : XItem) : t.v.all V.isCell = true := by rw [XItem.v_eq]; rfl
theorem XItem.v_take (t : XItem) : t.v.take 4 = t.v := List.take_of_length_le (by rw [XItem.v_len]; exact Nat.le_refl _)
theorem XItem.v_take' (t : XItem) : (t.v.drop 0).take 4 = t.v := by rw [List.drop_zero]; exact XItem.v_take t
theorem XItem.v_drop (t : XItem) : t.v.drop 4 = [] := List.drop_of_length_le (by rw [XItem.v_len]; exact Nat.le_refl _)
theorem XItem.v_c0 (t : XItem) : t.v[0]? = some (vbool t.star) := by rw [XItem.v_eq]; rfl
theorem XItem.v_c1 (t : XItem) : t.v[1]? = some (vstr t.table) := by rw [XItem.v_eq]; rfl
theorem XItem.v_c2 (t : XItem) : t.v[2]? = some (V.slice 10 (List.map XExpr.v t.expr)) := by rw [XItem.v_eq]; rfl
theorem XItem.v_c3 (t : XItem) : t.v[3]? = some (vstr t.as) := by rw [XItem.v_eq]; rfl
theorem XItem.snoc {l : List XItem} {t : XItem} : l.map XItem.v ++ [t.v] = (l ++ [t]).map XItem.v := by rw [List.map_append]; rfl
theorem XItem.snoc' {l : List XItem} {a0 : Bool} {a1 : ByteArray} {a2 : (List XExpr)} {a3 : ByteArray} : l.map XItem.v ++ [[vbool a0, vstr a1, V.slice 10 (List.map XExpr.v a2), vstr a3]] = (l ++ [(XItem.mk a0 a1 a2 a3)]).map XItem.v := by rw [List.map_append, List.map_cons, List.map_nil, XItem.v_eq]
theorem XItem.eta (t : XItem) : XItem.mk t.star t.table t.expr t.as = t := by cases t; first | rfl
set_option linter.defProp false in
def XItem.vs := And.intro @XItem.v_len <| And.intro @XItem.v_all <| And.intro @XItem.v_take <| And.intro @XItem.v_take' <| And.intro @XItem.v_drop <| And.intro @XItem.v_c0 <| And.intro @XItem.v_c1 <| And.intro @XItem.v_c2 <| And.intro @XItem.v_c3 <| True.intro
theorem XSource.v_eq' (t : XSource) : XSource.v t = [vint t.join, vstr t.name, V.slice 5 (List.map XSelect.v t.sub), vstr t.as, V.slice 10 (List.map XExpr.v t.on)] := by cases t; rw [XSource.v]
theorem XSource.v_eq (t : XSource) : XSource.v t = [vint t.join, vstr t.name, V.slice 5 (List.map XSelect.v t.sub), vstr t.as, V.slice 10 (List.map XExpr.v t.on)] := by rw [XSource.v_eq']
def XSource.z : XSource := ⟨0, ByteArray.empty, [], ByteArray.empty, []⟩
theorem XSource.v_len (t : XSource) : t.v.length = 5 := by rw [XSource.v_eq]; rfl
theorem XSource.v_all (t : XSource) : t.v.all V.isCell = true := by rw [XSource.v_eq]; rfl
theorem XSource.v_take (t : XSource) : t.v.take 5 = t.v := List.take_of_length_le (by rw [XSource.v_len]; exact Nat.le_refl _)
theorem XSource.v_take' (t : XSource) : (t.v.drop 0).take 5 = t.v := by rw [List.drop_zero]; exact XSource.v_take t
theorem XSource.v_drop (t : XSource) : t.v.drop 5 = [] := List.drop_of_length_le (by rw [XSource.v_len]; exact Nat.le_refl _)
theorem XSource.v_c0 (t : XSource) : t.v[0]? = some (vint t.join) := by rw [XSource.v_eq]; rfl
theorem XSource.v_c1 (t : XSource) : t.v[1]? = some (vstr t.name) := by rw [XSource.v_eq]; rfl
theorem XSource.v_c2 (t : XSource) : t.v[2]? = some (V.slice 5 (List.map XSelect.v t.sub)) := by rw [XSource.v_eq]; rfl
theorem XSource.v_c3 (t : XSource) : t.v[3]? = some (vstr t.as) := by rw [XSource.v_eq]; rfl
theorem XSource.v_c4 (t : XSource) : t.v[4]? = some (V.slice 10 (List.map XExpr.v t.on)) := by rw [XSource.v_eq]; rfl
theorem XSource.snoc {l : List XSource} {t : XSource} : l.map XSource.v ++ [t.v] = (l ++ [t]).map XSource.v := by rw [List.map_append]; rfl
theorem XSource.snoc' {l : List XSource} {a0 : Int} {a1 : ByteArray} {a2 : (List XSelect)} {a3 : ByteArray} {a4 : (List XExpr)} : l.map XSource.v ++ [[vint a0, vstr a1, V.slice 5 (List.map XSelect.v a2), vstr a3, V.slice 10 (List.map XExpr.v a4)]] = (l ++ [(XSource.mk a0 a1 a2 a3 a4)]).map XSource.v := by rw [List.map_append, List.map_cons, List.map_nil, XSource.v_eq]
theorem XSource.eta (t : XSource) : XSource.mk t.join t.name t.sub t.as t.on = t := by cases t; first | rfl
set_option linter.defProp false in
def XSource.vs := And.intro @XSource.v_len <| And.intro @XSource.v_all <| And.intro @XSource.v_take <| And.intro @XSource.v_take' <| And.intro @XSource.v_drop <| And.intro @XSource.v_c0 <| And.intro @XSource.v_c1 <| And.intro @XSource.v_c2 <| And.intro @XSource.v_c3 <| And.intro @XSource.v_c4 <| True.intro
def XColDef.v : XColDef → List V
  | ⟨name', type_', coll', primary', unique', notNull', default', check'⟩ => [vstr name', vstr type_', vint coll', vbool primary', vbool unique', vbool notNull', V.slice 10 (List.map XExpr.v default'), V.slice 10 (List.map XExpr.v check')]
theorem XColDef.v_eq' (t : XColDef) : XColDef.v t = [vstr t.name, vstr t.type_, vint t.coll, vbool t.primary, vbool t.unique, vbool t.notNull, V.slice 10 (List.map XExpr.v t.default), V.slice 10 (List.map XExpr.v t.check)] := by cases t; rw [XColDef.v]
theorem XColDef.v_eq (t : XColDef) : XColDef.v t = [vstr t.name, vstr t.type_, vint t.coll, vbool t.primary, vbool t.unique, vbool t.notNull, V.slice 10 (List.map XExpr.v t.default), V.slice 10 (List.map XExpr.v t.check)] := by rw [XColDef.v_eq']
def XColDef.z : XColDef := ⟨ByteArray.empty, ByteArray.empty, 0, false, false, false, [], []⟩
theorem XColDef.v_len (t : XColDef) : t.v.length = 8 := by rw [XColDef.v_eq]; rfl
theorem XColDef.v_all (t : XColDef) : t.v.all V.isCell = true := by rw [XColDef.v_eq]; rfl
theorem XColDef.v_take (t : XColDef) : t.v.take 8 = t.v := List.take_of_length_le (by rw [XColDef.v_len]; exact Nat.le_refl _)
theorem XColDef.v_take' (t : XColDef) : (t.v.drop 0).take 8 = t.v := by rw [List.drop_zero]; exact XColDef.v_take t
theorem XColDef.v_drop (t : XColDef) : t.v.drop 8 = [] := List.drop_of_length_le (by rw [XColDef.v_len]; exact Nat.le_refl _)
theorem XColDef.v_c0 (t : XColDef) : t.v[0]? = some (vstr t.name) := by rw [XColDef.v_eq]; rfl
theorem XColDef.v_c1 (t : XColDef) : t.v[1]? = some (vstr t.type_) := by rw [XColDef.v_eq]; rfl
theorem XColDef.v_c2 (t : XColDef) : t.v[2]? = some (vint t.coll) := by rw [XColDef.v_eq]; rfl
theorem XColDef.v_c3 (t : XColDef) : t.v[3]? = some (vbool t.primary) := by rw [XColDef.v_eq]; rfl
theorem XColDef.v_c4 (t : XColDef) : t.v[4]? = some (vbool t.unique) := by rw [XColDef.v_eq]; rfl
theorem XColDef.v_c5 (t : XColDef) : t.v[5]? = some (vbool t.notNull) := by rw [XColDef.v_eq]; rfl
theorem XColDef.v_c6 (t : XColDef) : t.v[6]? = some (V.slice 10 (List.map XExpr.v t.default)) := by rw [XColDef.v_eq]; rfl
theorem XColDef.v_c7 (t : XColDef) : t.v[7]? = some (V.slice 10 (List.map XExpr.v t.check)) := by rw [XColDef.v_eq]; rfl
theorem XColDef.snoc {l : List XColDef} {t : XColDef} : l.map XColDef.v ++ [t.v] = (l ++ [t]).map XColDef.v := by rw [List.map_append]; rfl
theorem XColDef.snoc' {l : List XColDef} {a0 : ByteArray} {a1 : ByteArray} {a2 : Int} {a3 : Bool} {a4 : Bool} {a5 : Bool} {a6 : (List XExpr)} {a7 : (List XExpr)} : l.map XColDef.v ++ [[vstr a0, vstr a1, vint a2, vbool a3, vbool a4, vbool a5, V.slice 10 (List.map XExpr.v a6), V.slice 10 (List.map XExpr.v a7)]] = (l ++ [(XColDef.mk a0 a1 a2 a3 a4 a5 a6 a7)]).map XColDef.v := by rw [List.map_append, List.map_cons, List.map_nil, XColDef.v_eq]
theorem XColDef.eta (t : XColDef) : XColDef.mk t.name t.type_ t.coll t.primary t.unique t.notNull t.default t.check = t := by cases t; first | rfl
set_option linter.defProp false in
def XColDef.vs := And.intro @XColDef.v_len <| And.intro @XColDef.v_all <| And.intro @XColDef.v_take <| And.intro @XColDef.v_take' <| And.intro @XColDef.v_drop <| And.intro @XColDef.v_c0 <| And.intro @XColDef.v_c1 <| And.intro @XColDef.v_c2 <| And.intro @XColDef.v_c3 <| And.intro @XColDef.v_c4 <| And.intro @XColDef.v_c5 <| And.intro @XColDef.v_c6 <| And.intro @XColDef.v_c7 <| True.intro
def XTable.v : XTable → List V
  | ⟨name', cols', pk'⟩ => [vstr name', V.slice 8 (List.map XColDef.v cols'), vint pk']
theorem XTable.v_eq' (t : XTable) : XTable.v t = [vstr t.name, V.slice 8 (List.map XColDef.v t.cols), vint t.pk] := by cases t; rw [XTable.v]
theorem XTable.v_eq (t : XTable) : XTable.v t = [vstr t.name, V.slice 8 (List.map XColDef.v t.cols), vint t.pk] := by rw [XTable.v_eq']
def XTable.z : XTable := ⟨ByteArray.empty, [], 0⟩
theorem XTable.v_len (t : XTable) : t.v.length = 3 := by rw [XTable.v_eq]; rfl
theorem XTable.v_all (t : XTable) : t.v.all V.isCell = true := by rw [XTable.v_eq]; rfl
theorem XTable.v_take (t : XTable) : t.v.take 3 = t.v := List.take_of_length_le (by rw [XTable.v_len]; exact Nat.le_refl _)
theorem XTable.v_take' (t : XTable) : (t.v.drop 0).take 3 = t.v := by rw [List.drop_zero]; exact XTable.v_take t
theorem XTable.v_drop (t : XTable) : t.v.drop 3 = [] := List.drop_of_length_le (by rw [XTable.v_len]; exact Nat.le_refl _)
theorem XTable.v_c0 (t : XTable) : t.v[0]? = some (vstr t.name) := by rw [XTable.v_eq]; rfl
theorem XTable.v_c1 (t : XTable) : t.v[1]? = some (V.slice 8 (List.map XColDef.v t.cols)) := by rw [XTable.v_eq]; rfl
theorem XTable.v_c2 (t : XTable) : t.v[2]? = some (vint t.pk) := by rw [XTable.v_eq]; rfl
theorem XTable.snoc {l : List XTable} {t : XTable} : l.map XTable.v ++ [t.v] = (l ++ [t]).map XTable.v := by rw [List.map_append]; rfl
theorem XTable.snoc' {l : List XTable} {a0 : ByteArray} {a1 : (List XColDef)} {a2 : Int} : l.map XTable.v ++ [[vstr a0, V.slice 8 (List.map XColDef.v a1), vint a2]] = (l ++ [(XTable.mk a0 a1 a2)]).map XTable.v := by rw [List.map_append, List.map_cons, List.map_nil, XTable.v_eq]
theorem XTable.eta (t : XTable) : XTable.mk t.name t.cols t.pk = t := by cases t; first | rfl
set_option linter.defProp false in
def XTable.vs := And.intro @XTable.v_len <| And.intro @XTable.v_all <| And.intro @XTable.v_take <| And.intro @XTable.v_take' <| And.intro @XTable.v_drop <| And.intro @XTable.v_c0 <| And.intro @XTable.v_c1 <| And.intro @XTable.v_c2 <| True.intro
def XView.v : XView → List V
  | ⟨name', cols', select'⟩ => [vstr name', V.slice 1 (List.map (fun x => [vstr x]) cols')] ++ XSelect.v select'
theorem XView.v_eq' (t : XView) : XView.v t = [vstr t.name, V.slice 1 (List.map (fun x => [vstr x]) t.cols)] ++ XSelect.v t.select := by cases t; rw [XView.v]
theorem XView.v_eq (t : XView) : XView.v t = [vstr t.name, V.slice 1 (List.map (fun x => [vstr x]) t.cols), V.slice 3 (List.map XCte.v t.select.with_), V.slice 8 (List.map XPart.v t.select.parts), V.slice 11 (List.map XSort.v t.select.order), V.slice 10 (List.map XExpr.v t.select.limit), V.slice 10 (List.map XExpr.v t.select.offset)] := by rw [XView.v_eq', XSelect.v_eq]; rfl
def XView.z : XView := ⟨ByteArray.empty, [], XSelect.z⟩
theorem XView.v_len (t : XView) : t.v.length = 7 := by rw [XView.v_eq]; rfl
theorem XView.v_all (t : XView) : t.v.all V.isCell = true := by rw [XView.v_eq]; rfl
theorem XView.v_take (t : XView) : t.v.take 7 = t.v := List.take_of_length_le (by rw [XView.v_len]; exact Nat.le_refl _)
theorem XView.v_take' (t : XView) : (t.v.drop 0).take 7 = t.v := by rw [List.drop_zero]; exact XView.v_take t
theorem XView.v_drop (t : XView) : t.v.drop 7 = [] := List.drop_of_length_le (by rw [XView.v_len]; exact Nat.le_refl _)
theorem XView.v_c0 (t : XView) : t.v[0]? = some (vstr t.name) := by rw [XView.v_eq]; rfl
theorem XView.v_c1 (t : XView) : t.v[1]? = some (V.slice 1 (List.map (fun x => [vstr x]) t.cols)) := by rw [XView.v_eq]; rfl
theorem XView.v_s2_5 (t : XView) : (t.v.drop 2).take 5 = (t.select).v := by rw [XView.v_eq, XSelect.v_eq]; rfl
theorem XView.v_c2 (t : XView) : t.v[2]? = some (V.slice 3 (List.map XCte.v t.select.with_)) := by rw [XView.v_eq]; rfl
theorem XView.v_c3 (t : XView) : t.v[3]? = some (V.slice 8 (List.map XPart.v t.select.parts)) := by rw [XView.v_eq]; rfl
theorem XView.v_c4 (t : XView) : t.v[4]? = some (V.slice 11 (List.map XSort.v t.select.order)) := by rw [XView.v_eq]; rfl
theorem XView.v_c5 (t : XView) : t.v[5]? = some (V.slice 10 (List.map XExpr.v t.select.limit)) := by rw [XView.v_eq]; rfl
theorem XView.v_c6 (t : XView) : t.v[6]? = some (V.slice 10 (List.map XExpr.v t.select.offset)) := by rw [XView.v_eq]; rfl
theorem XView.snoc {l : List XView} {t : XView} : l.map XView.v ++ [t.v] = (l ++ [t]).map XView.v := by rw [List.map_append]; rfl
theorem XView.snoc' {l : List XView} {a0 : ByteArray} {a1 : (List ByteArray)} {a2 : (List XCte)} {a3 : (List XPart)} {a4 : (List XSort)} {a5 : (List XExpr)} {a6 : (List XExpr)} : l.map XView.v ++ [[vstr a0, V.slice 1 (List.map (fun x => [vstr x]) a1), V.slice 3 (List.map XCte.v a2), V.slice 8 (List.map XPart.v a3), V.slice 11 (List.map XSort.v a4), V.slice 10 (List.map XExpr.v a5), V.slice 10 (List.map XExpr.v a6)]] = (l ++ [(XView.mk a0 a1 (XSelect.mk a2 a3 a4 a5 a6))]).map XView.v := by rw [List.map_append, List.map_cons, List.map_nil, XView.v_eq]
theorem XView.eta (t : XView) : XView.mk t.name t.cols (XSelect.mk t.select.with_ t.select.parts t.select.order t.select.limit t.select.offset) = t := by cases t; first | rfl | simp only [XSelect.eta]
set_option linter.defProp false in
def XView.vs := And.intro @XView.v_len <| And.intro @XView.v_all <| And.intro @XView.v_take <| And.intro @XView.v_take' <| And.intro @XView.v_drop <| And.intro @XView.v_c0 <| And.intro @XView.v_c1 <| And.intro @XView.v_s2_5 <| And.intro @XView.v_c2 <| And.intro @XView.v_c3 <| And.intro @XView.v_c4 <| And.intro @XView.v_c5 <| And.intro @XView.v_c6 <| True.intro
def XSchema.v : XSchema → List V
  | ⟨tables', indexes', views'⟩ => [V.slice 3 (List.map XTable.v tables'), V.slice 5 (List.map XIndex.v indexes'), V.slice 7 (List.map XView.v views')]
theorem XSchema.v_eq' (t : XSchema) : XSchema.v t = [V.slice 3 (List.map XTable.v t.tables), V.slice 5 (List.map XIndex.v t.indexes), V.slice 7 (List.map XView.v t.views)] := by cases t; rw [XSchema.v]
theorem XSchema.v_eq (t : XSchema) : XSchema.v t = [V.slice 3 (List.map XTable.v t.tables), V.slice 5 (List.map XIndex.v t.indexes), V.slice 7 (List.map XView.v t.views)] := by rw [XSchema.v_eq']
def XSchema.z : XSchema := ⟨[], [], []⟩
theorem XSchema.v_len (t : XSchema) : t.v.length = 3 := by rw [XSchema.v_eq]; rfl
theorem XSchema.v_all (t : XSchema) : t.v.all V.isCell = true := by rw [XSchema.v_eq]; rfl
theorem XSchema.v_take (t : XSchema) : t.v.take 3 = t.v := List.take_of_length_le (by rw [XSchema.v_len]; exact Nat.le_refl _)
theorem XSchema.v_take' (t : XSchema) : (t.v.drop 0).take 3 = t.v := by rw [List.drop_zero]; exact XSchema.v_take t
theorem XSchema.v_drop (t : XSchema) : t.v.drop 3 = [] := List.drop_of_length_le (by rw [XSchema.v_len]; exact Nat.le_refl _)
theorem XSchema.v_c0 (t : XSchema) : t.v[0]? = some (V.slice 3 (List.map XTable.v t.tables)) := by rw [XSchema.v_eq]; rfl
theorem XSchema.v_c1 (t : XSchema) : t.v[1]? = some (V.slice 5 (List.map XIndex.v t.indexes)) := by rw [XSchema.v_eq]; rfl
theorem XSchema.v_c2 (t : XSchema) : t.v[2]? = some (V.slice 7 (List.map XView.v t.views)) := by rw [XSchema.v_eq]; rfl
theorem XSchema.snoc {l : List XSchema} {t : XSchema} : l.map XSchema.v ++ [t.v] = (l ++ [t]).map XSchema.v := by rw [List.map_append]; rfl
theorem XSchema.snoc' {l : List XSchema} {a0 : (List XTable)} {a1 : (List XIndex)} {a2 : (List XView)} : l.map XSchema.v ++ [[V.slice 3 (List.map XTable.v a0), V.slice 5 (List.map XIndex.v a1), V.slice 7 (List.map XView.v a2)]] = (l ++ [(XSchema.mk a0 a1 a2)]).map XSchema.v := by rw [List.map_append, List.map_cons, List.map_nil, XSchema.v_eq]
theorem XSchema.eta (t : XSchema) : XSchema.mk t.tables t.indexes t.views = t := by cases t; first | rfl
set_option linter.defProp false in
def XSchema.vs := And.intro @XSchema.v_len <| And.intro @XSchema.v_all <| And.intro @XSchema.v_take <| And.intro @XSchema.v_take' <| And.intro @XSchema.v_drop <| And.intro @XSchema.v_c0 <| And.intro @XSchema.v_c1 <| And.intro @XSchema.v_c2 <| True.intro
end Go.Ex
