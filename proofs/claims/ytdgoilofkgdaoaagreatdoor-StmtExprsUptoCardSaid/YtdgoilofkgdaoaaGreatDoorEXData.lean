/- Plain data of the Expr seat. -/
import Derived.Test.YtdgoilofkgdaoaaGreatDoorEAmSpec
set_option linter.unusedVariables false
namespace Go.Ex
open Go.Am
abbrev vint (n : Int) : V := .base (.int .i64 n)
abbrev vbool (b : Bool) : V := .base (.bool b)
abbrev vstr (s : ByteArray) : V := .base (.string s)
structure XValue where
  kind : Int
  int : Int
  text : ByteArray
mutual
structure XExpr where
  op : Int
  not : Bool
  table : ByteArray
  name : ByteArray
  n : Int
  v_ : XValue
  args : (List XExpr)
  sub : (List XSelect)
structure XSelect where
  with_ : (List XCte)
  parts : (List XPart)
  order : (List XSort)
  limit : (List XExpr)
  offset : (List XExpr)
structure XCte where
  name : ByteArray
  cols : (List ByteArray)
  body : (List XSelect)
structure XPart where
  comp : Int
  distinct : Bool
  items : (List XItem)
  from_ : (List XSource)
  where_ : (List XExpr)
  group : (List XExpr)
  having : (List XExpr)
  values : (List (List XExpr))
structure XSort where
  expr : XExpr
  desc_ : Bool
structure XItem where
  star : Bool
  table : ByteArray
  expr : (List XExpr)
  as : ByteArray
structure XSource where
  join : Int
  name : ByteArray
  sub : (List XSelect)
  as : ByteArray
  on : (List XExpr)
end
structure XSet where
  name : ByteArray
  expr : XExpr
structure XColDef where
  name : ByteArray
  type_ : ByteArray
  coll : Int
  primary : Bool
  unique : Bool
  notNull : Bool
  default : (List XExpr)
  check : (List XExpr)
structure XIndexCol where
  name : ByteArray
  coll : Int
  own : Bool
  desc_ : Bool
structure XStmt where
  kind : Int
  what : ByteArray
  if_ : Bool
  unique : Bool
  or : Int
  name : ByteArray
  table : ByteArray
  to : ByteArray
  cols : (List ByteArray)
  defs : (List XColDef)
  keys : (List XIndexCol)
  sets : (List XSet)
  where_ : (List XExpr)
  select : (List XSelect)
def XValue.v : XValue → List V
  | ⟨kind', int', text'⟩ => [vint kind', vint int', vstr text']
theorem XValue.v_eq' (t : XValue) : XValue.v t = [vint t.kind, vint t.int, vstr t.text] := by cases t; rw [XValue.v]
theorem XValue.v_eq (t : XValue) : XValue.v t = [vint t.kind, vint t.int, vstr t.text] := by rw [XValue.v_eq']
def XValue.z : XValue := ⟨0, 0, ByteArray.empty⟩
theorem XValue.v_len (t : XValue) : t.v.length = 3 := by rw [XValue.v_eq]; rfl
theorem XValue.v_all (t : XValue) : t.v.all V.isCell = true := by rw [XValue.v_eq]; rfl
theorem XValue.v_take (t : XValue) : t.v.take 3 = t.v := List.take_of_length_le (by rw [XValue.v_len]; exact Nat.le_refl _)
theorem XValue.v_take' (t : XValue) : (t.v.drop 0).take 3 = t.v := by rw [List.drop_zero]; exact XValue.v_take t
theorem XValue.v_drop (t : XValue) : t.v.drop 3 = [] := List.drop_of_length_le (by rw [XValue.v_len]; exact Nat.le_refl _)
theorem XValue.v_c0 (t : XValue) : t.v[0]? = some (vint t.kind) := by rw [XValue.v_eq]; rfl
theorem XValue.v_c1 (t : XValue) : t.v[1]? = some (vint t.int) := by rw [XValue.v_eq]; rfl
theorem XValue.v_c2 (t : XValue) : t.v[2]? = some (vstr t.text) := by rw [XValue.v_eq]; rfl
theorem XValue.snoc {l : List XValue} {t : XValue} : l.map XValue.v ++ [t.v] = (l ++ [t]).map XValue.v := by rw [List.map_append]; rfl
theorem XValue.snoc' {l : List XValue} {a0 : Int} {a1 : Int} {a2 : ByteArray} : l.map XValue.v ++ [[vint a0, vint a1, vstr a2]] = (l ++ [(XValue.mk a0 a1 a2)]).map XValue.v := by rw [List.map_append, List.map_cons, List.map_nil, XValue.v_eq]
theorem XValue.eta (t : XValue) : XValue.mk t.kind t.int t.text = t := by cases t; first | rfl
set_option linter.defProp false in
def XValue.vs := And.intro @XValue.v_len <| And.intro @XValue.v_all <| And.intro @XValue.v_take <| And.intro @XValue.v_take' <| And.intro @XValue.v_drop <| And.intro @XValue.v_c0 <| And.intro @XValue.v_c1 <| And.intro @XValue.v_c2 <| True.intro
mutual
def XExpr.v : XExpr → List V
  | ⟨op', not', table', name', n', v_', args', sub'⟩ => [vint op', vbool not', vstr table', vstr name', vint n'] ++ XValue.v v_' ++ [V.slice 10 (List.map XExpr.v args'), V.slice 5 (List.map XSelect.v sub')]
 termination_by t => SizeOf.sizeOf t
 decreasing_by
  all_goals first
    | (have h1 := List.sizeOf_lt_of_mem (‹_› : (_ : _) ∈ (_ : List (List _))); have h2 := List.sizeOf_lt_of_mem (‹_› : (_ : _) ∈ (_ : List _)); simp; omega)
    | decreasing_tactic
def XSelect.v : XSelect → List V
  | ⟨with_', parts', order', limit', offset'⟩ => [V.slice 3 (List.map XCte.v with_'), V.slice 8 (List.map XPart.v parts'), V.slice 11 (List.map XSort.v order'), V.slice 10 (List.map XExpr.v limit'), V.slice 10 (List.map XExpr.v offset')]
 termination_by t => SizeOf.sizeOf t
 decreasing_by
  all_goals first
    | (have h1 := List.sizeOf_lt_of_mem (‹_› : (_ : _) ∈ (_ : List (List _))); have h2 := List.sizeOf_lt_of_mem (‹_› : (_ : _) ∈ (_ : List _)); simp; omega)
    | decreasing_tactic
def XCte.v : XCte → List V
  | ⟨name', cols', body'⟩ => [vstr name', V.slice 1 (List.map (fun x => [vstr x]) cols'), V.slice 5 (List.map XSelect.v body')]
 termination_by t => SizeOf.sizeOf t
 decreasing_by
  all_goals first
    | (have h1 := List.sizeOf_lt_of_mem (‹_› : (_ : _) ∈ (_ : List (List _))); have h2 := List.sizeOf_lt_of_mem (‹_› : (_ : _) ∈ (_ : List _)); simp; omega)
    | decreasing_tactic
def XPart.v : XPart → List V
  | ⟨comp', distinct', items', from_', where_', group', having', values'⟩ => [vint comp', vbool distinct', V.slice 4 (List.map XItem.v items'), V.slice 5 (List.map XSource.v from_'), V.slice 10 (List.map XExpr.v where_'), V.slice 10 (List.map XExpr.v group'), V.slice 10 (List.map XExpr.v having'), V.slice 1 (List.map (fun x => [V.slice 10 (List.map XExpr.v x)]) values')]
 termination_by t => SizeOf.sizeOf t
 decreasing_by
  all_goals first
    | (have h1 := List.sizeOf_lt_of_mem (‹_› : (_ : _) ∈ (_ : List (List _))); have h2 := List.sizeOf_lt_of_mem (‹_› : (_ : _) ∈ (_ : List _)); simp; omega)
    | decreasing_tactic
def XSort.v : XSort → List V
  | ⟨expr', desc_'⟩ => XExpr.v expr' ++ [vbool desc_']
 termination_by t => SizeOf.sizeOf t
 decreasing_by
  all_goals first
    | (have h1 := List.sizeOf_lt_of_mem (‹_› : (_ : _) ∈ (_ : List (List _))); have h2 := List.sizeOf_lt_of_mem (‹_› : (_ : _) ∈ (_ : List _)); simp; omega)
    | decreasing_tactic
def XItem.v : XItem → List V
  | ⟨star', table', expr', as'⟩ => [vbool star', vstr table', V.slice 10 (List.map XExpr.v expr'), vstr as']
 termination_by t => SizeOf.sizeOf t
 decreasing_by
  all_goals first
    | (have h1 := List.sizeOf_lt_of_mem (‹_› : (_ : _) ∈ (_ : List (List _))); have h2 := List.sizeOf_lt_of_mem (‹_› : (_ : _) ∈ (_ : List _)); simp; omega)
    | decreasing_tactic
def XSource.v : XSource → List V
  | ⟨join', name', sub', as', on'⟩ => [vint join', vstr name', V.slice 5 (List.map XSelect.v sub'), vstr as', V.slice 10 (List.map XExpr.v on')]
 termination_by t => SizeOf.sizeOf t
 decreasing_by
  all_goals first
    | (have h1 := List.sizeOf_lt_of_mem (‹_› : (_ : _) ∈ (_ : List (List _))); have h2 := List.sizeOf_lt_of_mem (‹_› : (_ : _) ∈ (_ : List _)); simp; omega)
    | decreasing_tactic
end
theorem XExpr.v_eq' (t : XExpr) : XExpr.v t = [vint t.op, vbool t.not, vstr t.table, vstr t.name, vint t.n] ++ XValue.v t.v_ ++ [V.slice 10 (List.map XExpr.v t.args), V.slice 5 (List.map XSelect.v t.sub)] := by cases t; rw [XExpr.v]
theorem XExpr.v_eq (t : XExpr) : XExpr.v t = [vint t.op, vbool t.not, vstr t.table, vstr t.name, vint t.n, vint t.v_.kind, vint t.v_.int, vstr t.v_.text, V.slice 10 (List.map XExpr.v t.args), V.slice 5 (List.map XSelect.v t.sub)] := by rw [XExpr.v_eq', XValue.v_eq]; rfl
def XExpr.z : XExpr := ⟨0, false, ByteArray.empty, ByteArray.empty, 0, XValue.z, [], []⟩
theorem XExpr.v_len (t : XExpr) : t.v.length = 10 := by rw [XExpr.v_eq]; rfl
theorem XExpr.v_all (t : XExpr) : t.v.all V.isCell = true := by rw [XExpr.v_eq]; rfl
theorem XExpr.v_take (t : XExpr) : t.v.take 10 = t.v := List.take_of_length_le (by rw [XExpr.v_len]; exact Nat.le_refl _)
theorem XExpr.v_take' (t : XExpr) : (t.v.drop 0).take 10 = t.v := by rw [List.drop_zero]; exact XExpr.v_take t
theorem XExpr.v_drop (t : XExpr) : t.v.drop 10 = [] := List.drop_of_length_le (by rw [XExpr.v_len]; exact Nat.le_refl _)
theorem XExpr.v_c0 (t : XExpr) : t.v[0]? = some (vint t.op) := by rw [XExpr.v_eq]; rfl
theorem XExpr.v_c1 (t : XExpr) : t.v[1]? = some (vbool t.not) := by rw [XExpr.v_eq]; rfl
theorem XExpr.v_c2 (t : XExpr) : t.v[2]? = some (vstr t.table) := by rw [XExpr.v_eq]; rfl
theorem XExpr.v_c3 (t : XExpr) : t.v[3]? = some (vstr t.name) := by rw [XExpr.v_eq]; rfl
theorem XExpr.v_c4 (t : XExpr) : t.v[4]? = some (vint t.n) := by rw [XExpr.v_eq]; rfl
theorem XExpr.v_s5_3 (t : XExpr) : (t.v.drop 5).take 3 = (t.v_).v := by rw [XExpr.v_eq, XValue.v_eq]; rfl
theorem XExpr.v_c5 (t : XExpr) : t.v[5]? = some (vint t.v_.kind) := by rw [XExpr.v_eq]; rfl
theorem XExpr.v_c6 (t : XExpr) : t.v[6]? = some (vint t.v_.int) := by rw [XExpr.v_eq]; rfl
theorem XExpr.v_c7 (t : XExpr) : t.v[7]? = some (vstr t.v_.text) := by rw [XExpr.v_eq]; rfl
theorem XExpr.v_c8 (t : XExpr) : t.v[8]? = some (V.slice 10 (List.map XExpr.v t.args)) := by rw [XExpr.v_eq]; rfl
theorem XExpr.v_c9 (t : XExpr) : t.v[9]? = some (V.slice 5 (List.map XSelect.v t.sub)) := by rw [XExpr.v_eq]; rfl
theorem XExpr.snoc {l : List XExpr} {t : XExpr} : l.map XExpr.v ++ [t.v] = (l ++ [t]).map XExpr.v := by rw [List.map_append]; rfl
theorem XExpr.snoc' {l : List XExpr} {a0 : Int} {a1 : Bool} {a2 : ByteArray} {a3 : ByteArray} {a4 : Int} {a5 : Int} {a6 : Int} {a7 : ByteArray} {a8 : (List XExpr)} {a9 : (List XSelect)} : l.map XExpr.v ++ [[vint a0, vbool a1, vstr a2, vstr a3, vint a4, vint a5, vint a6, vstr a7, V.slice 10 (List.map XExpr.v a8), V.slice 5 (List.map XSelect.v a9)]] = (l ++ [(XExpr.mk a0 a1 a2 a3 a4 (XValue.mk a5 a6 a7) a8 a9)]).map XExpr.v := by rw [List.map_append, List.map_cons, List.map_nil, XExpr.v_eq]
theorem XExpr.eta (t : XExpr) : XExpr.mk t.op t.not t.table t.name t.n (XValue.mk t.v_.kind t.v_.int t.v_.text) t.args t.sub = t := by cases t; first | rfl | simp only [XValue.eta]
set_option linter.defProp false in
def XExpr.vs := And.intro @XExpr.v_len <| And.intro @XExpr.v_all <| And.intro @XExpr.v_take <| And.intro @XExpr.v_take' <| And.intro @XExpr.v_drop <| And.intro @XExpr.v_c0 <| And.intro @XExpr.v_c1 <| And.intro @XExpr.v_c2 <| And.intro @XExpr.v_c3 <| And.intro @XExpr.v_c4 <| And.intro @XExpr.v_s5_3 <| And.intro @XExpr.v_c5 <| And.intro @XExpr.v_c6 <| And.intro @XExpr.v_c7 <| And.intro @XExpr.v_c8 <| And.intro @XExpr.v_c9 <| True.intro
theorem XSelect.v_eq' (t : XSelect) : XSelect.v t = [V.slice 3 (List.map XCte.v t.with_), V.slice 8 (List.map XPart.v t.parts), V.slice 11 (List.map XSort.v t.order), V.slice 10 (List.map XExpr.v t.limit), V.slice 10 (List.map XExpr.v t.offset)] := by cases t; rw [XSelect.v]
theorem XSelect.v_eq (t : XSelect) : XSelect.v t = [V.slice 3 (List.map XCte.v t.with_), V.slice 8 (List.map XPart.v t.parts), V.slice 11 (List.map XSort.v t.order), V.slice 10 (List.map XExpr.v t.limit), V.slice 10 (List.map XExpr.v t.offset)] := by rw [XSelect.v_eq']
def XSelect.z : XSelect := ⟨[], [], [], [], []⟩
theorem XSelect.v_len (t : XSelect) : t.v.length = 5 := by rw [XSelect.v_eq]; rfl
theorem XSelect.v_all (t : XSelect) : t.v.all V.isCell = true := by rw [XSelect.v_eq]; rfl
theorem XSelect.v_take (t : XSelect) : t.v.take 5 = t.v := List.take_of_length_le (by rw [XSelect.v_len]; exact Nat.le_refl _)
theorem XSelect.v_take' (t : XSelect) : (t.v.drop 0).take 5 = t.v := by rw [List.drop_zero]; exact XSelect.v_take t
theorem XSelect.v_drop (t : XSelect) : t.v.drop 5 = [] := List.drop_of_length_le (by rw [XSelect.v_len]; exact Nat.le_refl _)
theorem XSelect.v_c0 (t : XSelect) : t.v[0]? = some (V.slice 3 (List.map XCte.v t.with_)) := by rw [XSelect.v_eq]; rfl
theorem XSelect.v_c1 (t : XSelect) : t.v[1]? = some (V.slice 8 (List.map XPart.v t.parts)) := by rw [XSelect.v_eq]; rfl
theorem XSelect.v_c2 (t : XSelect) : t.v[2]? = some (V.slice 11 (List.map XSort.v t.order)) := by rw [XSelect.v_eq]; rfl
theorem XSelect.v_c3 (t : XSelect) : t.v[3]? = some (V.slice 10 (List.map XExpr.v t.limit)) := by rw [XSelect.v_eq]; rfl
theorem XSelect.v_c4 (t : XSelect) : t.v[4]? = some (V.slice 10 (List.map XExpr.v t.offset)) := by rw [XSelect.v_eq]; rfl
theorem XSelect.snoc {l : List XSelect} {t : XSelect} : l.map XSelect.v ++ [t.v] = (l ++ [t]).map XSelect.v := by rw [List.map_append]; rfl
theorem XSelect.snoc' {l : List XSelect} {a0 : (List XCte)} {a1 : (List XPart)} {a2 : (List XSort)} {a3 : (List XExpr)} {a4 : (List XExpr)} : l.map XSelect.v ++ [[V.slice 3 (List.map XCte.v a0), V.slice 8 (List.map XPart.v a1), V.slice 11 (List.map XSort.v a2), V.slice 10 (List.map XExpr.v a3), V.slice 10 (List.map XExpr.v a4)]] = (l ++ [(XSelect.mk a0 a1 a2 a3 a4)]).map XSelect.v := by rw [List.map_append, List.map_cons, List.map_nil, XSelect.v_eq]
theorem XSelect.eta (t : XSelect) : XSelect.mk t.with_ t.parts t.order t.limit t.offset = t := by cases t; first | rfl
set_option linter.defProp false in
def XSelect.vs := And.intro @XSelect.v_len <| And.intro @XSelect.v_all <| And.intro @XSelect.v_take <| And.intro @XSelect.v_take' <| And.intro @XSelect.v_drop <| And.intro @XSelect.v_c0 <| And.intro @XSelect.v_c1 <| And.intro @XSelect.v_c2 <| And.intro @XSelect.v_c3 <| And.intro @XSelect.v_c4 <| True.intro
theorem XCte.v_eq' (t : XCte) : XCte.v t = [vstr t.name, V.slice 1 (List.map (fun x => [vstr x]) t.cols), V.slice 5 (List.map XSelect.v t.body)] := by cases t; rw [XCte.v]
theorem XCte.v_eq (t : XCte) : XCte.v t = [vstr t.name, V.slice 1 (List.map (fun x => [vstr x]) t.cols), V.slice 5 (List.map XSelect.v t.body)] := by rw [XCte.v_eq']
def XCte.z : XCte := ⟨ByteArray.empty, [], []⟩
theorem XCte.v_len (t : XCte) : t.v.length = 3 := by rw [XCte.v_eq]; rfl
theorem XCte.v_all (t : XCte) : t.v.all V.isCell = true := by rw [XCte.v_eq]; rfl
theorem XCte.v_take (t : XCte) : t.v.take 3 = t.v := List.take_of_length_le (by rw [XCte.v_len]; exact Nat.le_refl _)
theorem XCte.v_take' (t : XCte) : (t.v.drop 0).take 3 = t.v := by rw [List.drop_zero]; exact XCte.v_take t
theorem XCte.v_drop (t : XCte) : t.v.drop 3 = [] := List.drop_of_length_le (by rw [XCte.v_len]; exact Nat.le_refl _)
theorem XCte.v_c0 (t : XCte) : t.v[0]? = some (vstr t.name) := by rw [XCte.v_eq]; rfl
theorem XCte.v_c1 (t : XCte) : t.v[1]? = some (V.slice 1 (List.map (fun x => [vstr x]) t.cols)) := by rw [XCte.v_eq]; rfl
theorem XCte.v_c2 (t : XCte) : t.v[2]? = some (V.slice 5 (List.map XSelect.v t.body)) := by rw [XCte.v_eq]; rfl
theorem XCte.snoc {l : List XCte} {t : XCte} : l.map XCte.v ++ [t.v] = (l ++ [t]).map XCte.v := by rw [List.map_append]; rfl
theorem XCte.snoc' {l : List XCte} {a0 : ByteArray} {a1 : (List ByteArray)} {a2 : (List XSelect)} : l.map XCte.v ++ [[vstr a0, V.slice 1 (List.map (fun x => [vstr x]) a1), V.slice 5 (List.map XSelect.v a2)]] = (l ++ [(XCte.mk a0 a1 a2)]).map XCte.v := by rw [List.map_append, List.map_cons, List.map_nil, XCte.v_eq]
theorem XCte.eta (t : XCte) : XCte.mk t.name t.cols t.body = t := by cases t; first | rfl
set_option linter.defProp false in
def XCte.vs := And.intro @XCte.v_len <| And.intro @XCte.v_all <| And.intro @XCte.v_take <| And.intro @XCte.v_take' <| And.intro @XCte.v_drop <| And.intro @XCte.v_c0 <| And.intro @XCte.v_c1 <| And.intro @XCte.v_c2 <| True.intro
theorem XPart.v_eq' (t : XPart) : XPart.v t = [vint t.comp, vbool t.distinct, V.slice 4 (List.map XItem.v t.items), V.slice 5 (List.map XSource.v t.from_), V.slice 10 (List.map XExpr.v t.where_), V.slice 10 (List.map XExpr.v t.group), V.slice 10 (List.map XExpr.v t.having), V.slice 1 (List.map (fun x => [V.slice 10 (List.map XExpr.v x)]) t.values)] := by cases t; rw [XPart.v]
theorem XPart.v_eq (t : XPart) : XPart.v t = [vint t.comp, vbool t.distinct, V.slice 4 (List.map XItem.v t.items), V.slice 5 (List.map XSource.v t.from_), V.slice 10 (List.map XExpr.v t.where_), V.slice 10 (List.map XExpr.v t.group), V.slice 10 (List.map XExpr.v t.having), V.slice 1 (List.map (fun x => [V.slice 10 (List.map XExpr.v x)]) t.values)] := by rw [XPart.v_eq']
def XPart.z : XPart := ⟨0, false, [], [], [], [], [], []⟩
theorem XPart.v_len (t : XPart) : t.v.length = 8 := by rw [XPart.v_eq]; rfl
theorem XPart.v_all (t : XPart) : t.v.all V.isCell = true := by rw [XPart.v_eq]; rfl
theorem XPart.v_take (t : XPart) : t.v.take 8 = t.v := List.take_of_length_le (by rw [XPart.v_len]; exact Nat.le_refl _)
theorem XPart.v_take' (t : XPart) : (t.v.drop 0).take 8 = t.v := by rw [List.drop_zero]; exact XPart.v_take t
theorem XPart.v_drop (t : XPart) : t.v.drop 8 = [] := List.drop_of_length_le (by rw [XPart.v_len]; exact Nat.le_refl _)
theorem XPart.v_c0 (t : XPart) : t.v[0]? = some (vint t.comp) := by rw [XPart.v_eq]; rfl
theorem XPart.v_c1 (t : XPart) : t.v[1]? = some (vbool t.distinct) := by rw [XPart.v_eq]; rfl
theorem XPart.v_c2 (t : XPart) : t.v[2]? = some (V.slice 4 (List.map XItem.v t.items)) := by rw [XPart.v_eq]; rfl
theorem XPart.v_c3 (t : XPart) : t.v[3]? = some (V.slice 5 (List.map XSource.v t.from_)) := by rw [XPart.v_eq]; rfl
theorem XPart.v_c4 (t : XPart) : t.v[4]? = some (V.slice 10 (List.map XExpr.v t.where_)) := by rw [XPart.v_eq]; rfl
theorem XPart.v_c5 (t : XPart) : t.v[5]? = some (V.slice 10 (List.map XExpr.v t.group)) := by rw [XPart.v_eq]; rfl
theorem XPart.v_c6 (t : XPart) : t.v[6]? = some (V.slice 10 (List.map XExpr.v t.having)) := by rw [XPart.v_eq]; rfl
theorem XPart.v_c7 (t : XPart) : t.v[7]? = some (V.slice 1 (List.map (fun x => [V.slice 10 (List.map XExpr.v x)]) t.values)) := by rw [XPart.v_eq]; rfl
theorem XPart.snoc {l : List XPart} {t : XPart} : l.map XPart.v ++ [t.v] = (l ++ [t]).map XPart.v := by rw [List.map_append]; rfl
theorem XPart.snoc' {l : List XPart} {a0 : Int} {a1 : Bool} {a2 : (List XItem)} {a3 : (List XSource)} {a4 : (List XExpr)} {a5 : (List XExpr)} {a6 : (List XExpr)} {a7 : (List (List XExpr))} : l.map XPart.v ++ [[vint a0, vbool a1, V.slice 4 (List.map XItem.v a2), V.slice 5 (List.map XSource.v a3), V.slice 10 (List.map XExpr.v a4), V.slice 10 (List.map XExpr.v a5), V.slice 10 (List.map XExpr.v a6), V.slice 1 (List.map (fun x => [V.slice 10 (List.map XExpr.v x)]) a7)]] = (l ++ [(XPart.mk a0 a1 a2 a3 a4 a5 a6 a7)]).map XPart.v := by rw [List.map_append, List.map_cons, List.map_nil, XPart.v_eq]
theorem XPart.eta (t : XPart) : XPart.mk t.comp t.distinct t.items t.from_ t.where_ t.group t.having t.values = t := by cases t; first | rfl
set_option linter.defProp false in
def XPart.vs := And.intro @XPart.v_len <| And.intro @XPart.v_all <| And.intro @XPart.v_take <| And.intro @XPart.v_take' <| And.intro @XPart.v_drop <| And.intro @XPart.v_c0 <| And.intro @XPart.v_c1 <| And.intro @XPart.v_c2 <| And.intro @XPart.v_c3 <| And.intro @XPart.v_c4 <| And.intro @XPart.v_c5 <| And.intro @XPart.v_c6 <| And.intro @XPart.v_c7 <| True.intro
theorem XSort.v_eq' (t : XSort) : XSort.v t = XExpr.v t.expr ++ [vbool t.desc_] := by cases t; rw [XSort.v]
theorem XSort.v_eq (t : XSort) : XSort.v t = [vint t.expr.op, vbool t.expr.not, vstr t.expr.table, vstr t.expr.name, vint t.expr.n, vint t.expr.v_.kind, vint t.expr.v_.int, vstr t.expr.v_.text, V.slice 10 (List.map XExpr.v t.expr.args), V.slice 5 (List.map XSelect.v t.expr.sub), vbool t.desc_] := by rw [XSort.v_eq', XExpr.v_eq]; rfl
def XSort.z : XSort := ⟨XExpr.z, false⟩
theorem XSort.v_len (t : XSort) : t.v.length = 11 := by rw [XSort.v_eq]; rfl
theorem XSort.v_all (t : XSort) : t.v.all V.isCell = true := by rw [XSort.v_eq]; rfl
theorem XSort.v_take (t : XSort) : t.v.take 11 = t.v := List.take_of_length_le (by rw [XSort.v_len]; exact Nat.le_refl _)
theorem XSort.v_take' (t : XSort) : (t.v.drop 0).take 11 = t.v := by rw [List.drop_zero]; exact XSort.v_take t
theorem XSort.v_drop (t : XSort) : t.v.drop 11 = [] := List.drop_of_length_le (by rw [XSort.v_len]; exact Nat.le_refl _)
theorem XSort.v_s0_10 (t : XSort) : (t.v.drop 0).take 10 = (t.expr).v := by rw [XSort.v_eq, XExpr.v_eq]; rfl
theorem XSort.v_s0_10' (t : XSort) : t.v.take 10 = (t.expr).v := by rw [XSort.v_eq, XExpr.v_eq]; rfl
theorem XSort.v_c0 (t : XSort) : t.v[0]? = some (vint t.expr.op) := by rw [XSort.v_eq]; rfl
theorem XSort.v_c1 (t : XSort) : t.v[1]? = some (vbool t.expr.not) := by rw [XSort.v_eq]; rfl
theorem XSort.v_c2 (t : XSort) : t.v[2]? = some (vstr t.expr.table) := by rw [XSort.v_eq]; rfl
theorem XSort.v_c3 (t : XSort) : t.v[3]? = some (vstr t.expr.name) := by rw [XSort.v_eq]; rfl
theorem XSort.v_c4 (t : XSort) : t.v[4]? = some (vint t.expr.n) := by rw [XSort.v_eq]; rfl
theorem XSort.v_s5_3 (t : XSort) : (t.v.drop 5).take 3 = (t.expr.v_).v := by rw [XSort.v_eq, XValue.v_eq]; rfl
theorem XSort.v_c5 (t : XSort) : t.v[5]? = some (vint t.expr.v_.kind) := by rw [XSort.v_eq]; rfl
theorem XSort.v_c6 (t : XSort) : t.v[6]? = some (vint t.expr.v_.int) := by rw [XSort.v_eq]; rfl
theorem XSort.v_c7 (t : XSort) : t.v[7]? = some (vstr t.expr.v_.text) := by rw [XSort.v_eq]; rfl
theorem XSort.v_c8 (t : XSort) : t.v[8]? = some (V.slice 10 (List.map XExpr.v t.expr.args)) := by rw [XSort.v_eq]; rfl
theorem XSort.v_c9 (t : XSort) : t.v[9]? = some (V.slice 5 (List.map XSelect.v t.expr.sub)) := by rw [XSort.v_eq]; rfl
theorem XSort.v_c10 (t : XSort) : t.v[10]? = some (vbool t.desc_) := by rw [XSort.v_eq]; rfl
theorem XSort.snoc {l : List XSort} {t : XSort} : l.map XSort.v ++ [t.v] = (l ++ [t]).map XSort.v := by rw [List.map_append]; rfl
theorem XSort.snoc' {l : List XSort} {a0 : Int} {a1 : Bool} {a2 : ByteArray} {a3 : ByteArray} {a4 : Int} {a5 : Int} {a6 : Int} {a7 : ByteArray} {a8 : (List XExpr)} {a9 : (List XSelect)} {a10 : Bool} : l.map XSort.v ++ [[vint a0, vbool a1, vstr a2, vstr a3, vint a4, vint a5, vint a6, vstr a7, V.slice 10 (List.map XExpr.v a8), V.slice 5 (List.map XSelect.v a9), vbool a10]] = (l ++ [(XSort.mk (XExpr.mk a0 a1 a2 a3 a4 (XValue.mk a5 a6 a7) a8 a9) a10)]).map XSort.v := by rw [List.map_append, List.map_cons, List.map_nil, XSort.v_eq]
theorem XSort.eta (t : XSort) : XSort.mk (XExpr.mk t.expr.op t.expr.not t.expr.table t.expr.name t.expr.n (XValue.mk t.expr.v_.kind t.expr.v_.int t.expr.v_.text) t.expr.args t.expr.sub) t.desc_ = t := by cases t; first | rfl | simp only [XExpr.eta]
set_option linter.defProp false in
def XSort.vs := And.intro @XSort.v_len <| And.intro @XSort.v_all <| And.intro @XSort.v_take <| And.intro @XSort.v_take' <| And.intro @XSort.v_drop <| And.intro @XSort.v_s0_10 <| And.intro @XSort.v_s0_10' <| And.intro @XSort.v_c0 <| And.intro @XSort.v_c1 <| And.intro @XSort.v_c2 <| And.intro @XSort.v_c3 <| And.intro @XSort.v_c4 <| And.intro @XSort.v_s5_3 <| And.intro @XSort.v_c5 <| And.intro @XSort.v_c6 <| And.intro @XSort.v_c7 <| And.intro @XSort.v_c8 <| And.intro @XSort.v_c9 <| And.intro @XSort.v_c10 <| True.intro
theorem XItem.v_eq' (t : XItem) : XItem.v t = [vbool t.star, vstr t.table, V.slice 10 (List.map XExpr.v t.expr), vstr t.as] := by cases t; rw [XItem.v]
theorem XItem.v_eq (t : XItem) : XItem.v t = [vbool t.star, vstr t.table, V.slice 10 (List.map XExpr.v t.expr), vstr t.as] := by rw [XItem.v_eq']
def XItem.z : XItem := ⟨false, ByteArray.empty, [], ByteArray.empty⟩
theorem XItem.v_len (t : XItem) : t.v.length = 4 := by rw [XItem.v_eq]; rfl
theorem XItem.v_all (t : XItem) : t.v.all V.isCell = true := by rw [XItem.v_eq]; rfl
theorem XItem.v_take (t : XItem) : t.v.take 4 = t.v := List.take_of_length_le (by rw [XItem.v_len]; exact Nat.le_refl _)
theorem XItem.v_take' (t : XItem) : (t.v.drop 0).take 4 = t.v := by rw [List.drop_zero]; exact XItem.v_take t
theorem XItem.v_drop (t : XItem) : t.v.drop 4 = [] := List.drop_of_length_le (by rw [XItem.v_len]; exact Nat.le_refl _)
theorem XItem.v_c0 (t : XItem) : t.v[0]? = some (vbool t.star) := by rw [XItem.v_eq]; rfl
theorem XItem.v_c1 (t : XItem) : t.v[1]? = some (vstr t.table) := by rw [XItem.v_eq]; rfl
theorem XItem.v_c2 (t : XItem) : t.v[2]? = some (V.slice 10 (List.map XExpr.v t.expr)) := by rw [XItem.v_eq]; rfl
theorem XItem.v_c3 (t : XItem) : t.v[3]? = some (vstr t.as) := by rw [XItem.v_eq]; rfl
theorem XItem.snoc {l : List XItem} {t : XItem} : l.map XItem.v ++ [t.v] = (l ++ [t]).map XItem.v := by rw [List.map_append]; rfl
theorem XItem.snoc' {l : List XItem} {a0 : Bool} {a1 : ByteArray} {a2 : (List XExpr)} {a3 : ByteArray} : l.map XItem.v ++ [[vbool a0, vstr a1, V.slice 10 (List.map XExpr.v a2), vstr a3]] = (l ++ [(XItem.mk a0 a1 a2 a3)]).map XItem.v := by rw [List.map_append, List.map_cons, List.map_nil, XItem.v_eq]
theorem XItem.eta (t : XItem) : XItem.mk t.star t.table t.expr t.as = t := by cases t; first | rfl
set_option linter.defProp false in
def XItem.vs := And.intro @XItem.v_len <| And.intro @XItem.v_all <| And.intro @XItem.v_take <| And.intro @XItem.v_take' <| And.intro @XItem.v_drop <| And.intro @XItem.v_c0 <| And.intro @XItem.v_c1 <| And.intro @XItem.v_c2 <| And.intro @XItem.v_c3 <| True.intro
theorem XSource.v_eq' (t : XSource) : XSource.v t = [vint t.join, vstr t.name, V.slice 5 (List.map XSelect.v t.sub), vstr t.as, V.slice 10 (List.map XExpr.v t.on)] := by cases t; rw [XSource.v]
theorem XSource.v_eq (t : XSource) : XSource.v t = [vint t.join, vstr t.name, V.slice 5 (List.map XSelect.v t.sub), vstr t.as, V.slice 10 (List.map XExpr.v t.on)] := by rw [XSource.v_eq']
def XSource.z : XSource := ⟨0, ByteArray.empty, [], ByteArray.empty, []⟩
theorem XSource.v_len (t : XSource) : t.v.length = 5 := by rw [XSource.v_eq]; rfl
theorem XSource.v_all (t : XSource) : t.v.all V.isCell = true := by rw [XSource.v_eq]; rfl
theorem XSource.v_take (t : XSource) : t.v.take 5 = t.v := List.take_of_length_le (by rw [XSource.v_len]; exact Nat.le_refl _)
theorem XSource.v_take' (t : XSource) : (t.v.drop 0).take 5 = t.v := by rw [List.drop_zero]; exact XSource.v_take t
theorem XSource.v_drop (t : XSource) : t.v.drop 5 = [] := List.drop_of_length_le (by rw [XSource.v_len]; exact Nat.le_refl _)
theorem XSource.v_c0 (t : XSource) : t.v[0]? = some (vint t.join) := by rw [XSource.v_eq]; rfl
theorem XSource.v_c1 (t : XSource) : t.v[1]? = some (vstr t.name) := by rw [XSource.v_eq]; rfl
theorem XSource.v_c2 (t : XSource) : t.v[2]? = some (V.slice 5 (List.map XSelect.v t.sub)) := by rw [XSource.v_eq]; rfl
theorem XSource.v_c3 (t : XSource) : t.v[3]? = some (vstr t.as) := by rw [XSource.v_eq]; rfl
theorem XSource.v_c4 (t : XSource) : t.v[4]? = some (V.slice 10 (List.map XExpr.v t.on)) := by rw [XSource.v_eq]; rfl
theorem XSource.snoc {l : List XSource} {t : XSource} : l.map XSource.v ++ [t.v] = (l ++ [t]).map XSource.v := by rw [List.map_append]; rfl
theorem XSource.snoc' {l : List XSource} {a0 : Int} {a1 : ByteArray} {a2 : (List XSelect)} {a3 : ByteArray} {a4 : (List XExpr)} : l.map XSource.v ++ [[vint a0, vstr a1, V.slice 5 (List.map XSelect.v a2), vstr a3, V.slice 10 (List.map XExpr.v a4)]] = (l ++ [(XSource.mk a0 a1 a2 a3 a4)]).map XSource.v := by rw [List.map_append, List.map_cons, List.map_nil, XSource.v_eq]
theorem XSource.eta (t : XSource) : XSource.mk t.join t.name t.sub t.as t.on = t := by cases t; first | rfl
set_option linter.defProp false in
def XSource.vs := And.intro @XSource.v_len <| And.intro @XSource.v_all <| And.intro @XSource.v_take <| And.intro @XSource.v_take' <| And.intro @XSource.v_drop <| And.intro @XSource.v_c0 <| And.intro @XSource.v_c1 <| And.intro @XSource.v_c2 <| And.intro @XSource.v_c3 <| And.intro @XSource.v_c4 <| True.intro
def XSet.v : XSet → List V
  | ⟨name', expr'⟩ => [vstr name'] ++ XExpr.v expr'
theorem XSet.v_eq' (t : XSet) : XSet.v t = [vstr t.name] ++ XExpr.v t.expr := by cases t; rw [XSet.v]
theorem XSet.v_eq (t : XSet) : XSet.v t = [vstr t.name, vint t.expr.op, vbool t.expr.not, vstr t.expr.table, vstr t.expr.name, vint t.expr.n, vint t.expr.v_.kind, vint t.expr.v_.int, vstr t.expr.v_.text, V.slice 10 (List.map XExpr.v t.expr.args), V.slice 5 (List.map XSelect.v t.expr.sub)] := by rw [XSet.v_eq', XExpr.v_eq]; rfl
def XSet.z : XSet := ⟨ByteArray.empty, XExpr.z⟩
theorem XSet.v_len (t : XSet) : t.v.length = 11 := by rw [XSet.v_eq]; rfl
theorem XSet.v_all (t : XSet) : t.v.all V.isCell = true := by rw [XSet.v_eq]; rfl
theorem XSet.v_take (t : XSet) : t.v.take 11 = t.v := List.take_of_length_le (by rw [XSet.v_len]; exact Nat.le_refl _)
theorem XSet.v_take' (t : XSet) : (t.v.drop 0).take 11 = t.v := by rw [List.drop_zero]; exact XSet.v_take t
theorem XSet.v_drop (t : XSet) : t.v.drop 11 = [] := List.drop_of_length_le (by rw [XSet.v_len]; exact Nat.le_refl _)
theorem XSet.v_c0 (t : XSet) : t.v[0]? = some (vstr t.name) := by rw [XSet.v_eq]; rfl
theorem XSet.v_s1_10 (t : XSet) : (t.v.drop 1).take 10 = (t.expr).v := by rw [XSet.v_eq, XExpr.v_eq]; rfl
theorem XSet.v_c1 (t : XSet) : t.v[1]? = some (vint t.expr.op) := by rw [XSet.v_eq]; rfl
theorem XSet.v_c2 (t : XSet) : t.v[2]? = some (vbool t.expr.not) := by rw [XSet.v_eq]; rfl
theorem XSet.v_c3 (t : XSet) : t.v[3]? = some (vstr t.expr.table) := by rw [XSet.v_eq]; rfl
theorem XSet.v_c4 (t : XSet) : t.v[4]? = some (vstr t.expr.name) := by rw [XSet.v_eq]; rfl
theorem XSet.v_c5 (t : XSet) : t.v[5]? = some (vint t.expr.n) := by rw [XSet.v_eq]; rfl
theorem XSet.v_s6_3 (t : XSet) : (t.v.drop 6).take 3 = (t.expr.v_).v := by rw [XSet.v_eq, XValue.v_eq]; rfl
theorem XSet.v_c6 (t : XSet) : t.v[6]? = some (vint t.expr.v_.kind) := by rw [XSet.v_eq]; rfl
theorem XSet.v_c7 (t : XSet) : t.v[7]? = some (vint t.expr.v_.int) := by rw [XSet.v_eq]; rfl
theorem XSet.v_c8 (t : XSet) : t.v[8]? = some (vstr t.expr.v_.text) := by rw [XSet.v_eq]; rfl
theorem XSet.v_c9 (t : XSet) : t.v[9]? = some (V.slice 10 (List.map XExpr.v t.expr.args)) := by rw [XSet.v_eq]; rfl
theorem XSet.v_c10 (t : XSet) : t.v[10]? = some (V.slice 5 (List.map XSelect.v t.expr.sub)) := by rw [XSet.v_eq]; rfl
theorem XSet.snoc {l : List XSet} {t : XSet} : l.map XSet.v ++ [t.v] = (l ++ [t]).map XSet.v := by rw [List.map_append]; rfl
theorem XSet.snoc' {l : List XSet} {a0 : ByteArray} {a1 : Int} {a2 : Bool} {a3 : ByteArray} {a4 : ByteArray} {a5 : Int} {a6 : Int} {a7 : Int} {a8 : ByteArray} {a9 : (List XExpr)} {a10 : (List XSelect)} : l.map XSet.v ++ [[vstr a0, vint a1, vbool a2, vstr a3, vstr a4, vint a5, vint a6, vint a7, vstr a8, V.slice 10 (List.map XExpr.v a9), V.slice 5 (List.map XSelect.v a10)]] = (l ++ [(XSet.mk a0 (XExpr.mk a1 a2 a3 a4 a5 (XValue.mk a6 a7 a8) a9 a10))]).map XSet.v := by rw [List.map_append, List.map_cons, List.map_nil, XSet.v_eq]
theorem XSet.eta (t : XSet) : XSet.mk t.name (XExpr.mk t.expr.op t.expr.not t.expr.table t.expr.name t.expr.n (XValue.mk t.expr.v_.kind t.expr.v_.int t.expr.v_.text) t.expr.args t.expr.sub) = t := by cases t; first | rfl | simp only [XExpr.eta]
set_option linter.defProp false in
def XSet.vs := And.intro @XSet.v_len <| And.intro @XSet.v_all <| And.intro @XSet.v_take <| And.intro @XSet.v_take' <| And.intro @XSet.v_drop <| And.intro @XSet.v_c0 <| And.intro @XSet.v_s1_10 <| And.intro @XSet.v_c1 <| And.intro @XSet.v_c2 <| And.intro @XSet.v_c3 <| And.intro @XSet.v_c4 <| And.intro @XSet.v_c5 <| And.intro @XSet.v_s6_3 <| And.intro @XSet.v_c6 <| And.intro @XSet.v_c7 <| And.intro @XSet.v_c8 <| And.intro @XSet.v_c9 <| And.intro @XSet.v_c10 <| True.intro
def XColDef.v : XColDef → List V
  | ⟨name', type_', coll', primary', unique', notNull', default', check'⟩ => [vstr name', vstr type_', vint coll', vbool primary', vbool unique', vbool notNull', V.slice 10 (List.map XExpr.v default'), V.slice 10 (List.map XExpr.v check')]
theorem XColDef.v_eq' (t : XColDef) : XColDef.v t = [vstr t.name, vstr t.type_, vint t.coll, vbool t.primary, vbool t.unique, vbool t.notNull, V.slice 10 (List.map XExpr.v t.default), V.slice 10 (List.map XExpr.v t.check)] := by cases t; rw [XColDef.v]
theorem XColDef.v_eq (t : XColDef) : XColDef.v t = [vstr t.name, vstr t.type_, vint t.coll, vbool t.primary, vbool t.unique, vbool t.notNull, V.slice 10 (List.map XExpr.v t.default), V.slice 10 (List.map XExpr.v t.check)] := by rw [XColDef.v_eq']
def XColDef.z : XColDef := ⟨ByteArray.empty, ByteArray.empty, 0, false, false, false, [], []⟩
theorem XColDef.v_len (t : XColDef) : t.v.length = 8 := by rw [XColDef.v_eq]; rfl
theorem XColDef.v_all (t : XColDef) : t.v.all V.isCell = true := by rw [XColDef.v_eq]; rfl
theorem XColDef.v_take (t : XColDef) : t.v.take 8 = t.v := List.take_of_length_le (by rw [XColDef.v_len]; exact Nat.le_refl _)
theorem XColDef.v_take' (t : XColDef) : (t.v.drop 0).take 8 = t.v := by rw [List.drop_zero]; exact XColDef.v_take t
theorem XColDef.v_drop (t : XColDef) : t.v.drop 8 = [] := List.drop_of_length_le (by rw [XColDef.v_len]; exact Nat.le_refl _)
theorem XColDef.v_c0 (t : XColDef) : t.v[0]? = some (vstr t.name) := by rw [XColDef.v_eq]; rfl
theorem XColDef.v_c1 (t : XColDef) : t.v[1]? = some (vstr t.type_) := by rw [XColDef.v_eq]; rfl
theorem XColDef.v_c2 (t : XColDef) : t.v[2]? = some (vint t.coll) := by rw [XColDef.v_eq]; rfl
theorem XColDef.v_c3 (t : XColDef) : t.v[3]? = some (vbool t.primary) := by rw [XColDef.v_eq]; rfl
theorem XColDef.v_c4 (t : XColDef) : t.v[4]? = some (vbool t.unique) := by rw [XColDef.v_eq]; rfl
theorem XColDef.v_c5 (t : XColDef) : t.v[5]? = some (vbool t.notNull) := by rw [XColDef.v_eq]; rfl
theorem XColDef.v_c6 (t : XColDef) : t.v[6]? = some (V.slice 10 (List.map XExpr.v t.default)) := by rw [XColDef.v_eq]; rfl
theorem XColDef.v_c7 (t : XColDef) : t.v[7]? = some (V.slice 10 (List.map XExpr.v t.check)) := by rw [XColDef.v_eq]; rfl
theorem XColDef.snoc {l : List XColDef} {t : XColDef} : l.map XColDef.v ++ [t.v] = (l ++ [t]).map XColDef.v := by rw [List.map_append]; rfl
theorem XColDef.snoc' {l : List XColDef} {a0 : ByteArray} {a1 : ByteArray} {a2 : Int} {a3 : Bool} {a4 : Bool} {a5 : Bool} {a6 : (List XExpr)} {a7 : (List XExpr)} : l.map XColDef.v ++ [[vstr a0, vstr a1, vint a2, vbool a3, vbool a4, vbool a5, V.slice 10 (List.map XExpr.v a6), V.slice 10 (List.map XExpr.v a7)]] = (l ++ [(XColDef.mk a0 a1 a2 a3 a4 a5 a6 a7)]).map XColDef.v := by rw [List.map_append, List.map_cons, List.map_nil, XColDef.v_eq]
theorem XColDef.eta (t : XColDef) : XColDef.mk t.name t.type_ t.coll t.primary t.unique t.notNull t.default t.check = t := by cases t; first | rfl
set_option linter.defProp false in
def XColDef.vs := And.intro @XColDef.v_len <| And.intro @XColDef.v_all <| And.intro @XColDef.v_take <| And.intro @XColDef.v_take' <| And.intro @XColDef.v_drop <| And.intro @XColDef.v_c0 <| And.intro @XColDef.v_c1 <| And.intro @XColDef.v_c2 <| And.intro @XColDef.v_c3 <| And.intro @XColDef.v_c4 <| And.intro @XColDef.v_c5 <| And.intro @XColDef.v_c6 <| And.intro @XColDef.v_c7 <| True.intro
def XIndexCol.v : XIndexCol → List V
  | ⟨name', coll', own', desc_'⟩ => [vstr name', vint coll', vbool own', vbool desc_']
theorem XIndexCol.v_eq' (t : XIndexCol) : XIndexCol.v t = [vstr t.name, vint t.coll, vbool t.own, vbool t.desc_] := by cases t; rw [XIndexCol.v]
theorem XIndexCol.v_eq (t : XIndexCol) : XIndexCol.v t = [vstr t.name, vint t.coll, vbool t.own, vbool t.desc_] := by rw [XIndexCol.v_eq']
def XIndexCol.z : XIndexCol := ⟨ByteArray.empty, 0, false, false⟩
theorem XIndexCol.v_len (t : XIndexCol) : t.v.length = 4 := by rw [XIndexCol.v_eq]; rfl
theorem XIndexCol.v_all (t : XIndexCol) : t.v.all V.isCell = true := by rw [XIndexCol.v_eq]; rfl
theorem XIndexCol.v_take (t : XIndexCol) : t.v.take 4 = t.v := List.take_of_length_le (by rw [XIndexCol.v_len]; exact Nat.le_refl _)
theorem XIndexCol.v_take' (t : XIndexCol) : (t.v.drop 0).take 4 = t.v := by rw [List.drop_zero]; exact XIndexCol.v_take t
theorem XIndexCol.v_drop (t : XIndexCol) : t.v.drop 4 = [] := List.drop_of_length_le (by rw [XIndexCol.v_len]; exact Nat.le_refl _)
theorem XIndexCol.v_c0 (t : XIndexCol) : t.v[0]? = some (vstr t.name) := by rw [XIndexCol.v_eq]; rfl
theorem XIndexCol.v_c1 (t : XIndexCol) : t.v[1]? = some (vint t.coll) := by rw [XIndexCol.v_eq]; rfl
theorem XIndexCol.v_c2 (t : XIndexCol) : t.v[2]? = some (vbool t.own) := by rw [XIndexCol.v_eq]; rfl
theorem XIndexCol.v_c3 (t : XIndexCol) : t.v[3]? = some (vbool t.desc_) := by rw [XIndexCol.v_eq]; rfl
theorem XIndexCol.snoc {l : List XIndexCol} {t : XIndexCol} : l.map XIndexCol.v ++ [t.v] = (l ++ [t]).map XIndexCol.v := by rw [List.map_append]; rfl
theorem XIndexCol.snoc' {l : List XIndexCol} {a0 : ByteArray} {a1 : Int} {a2 : Bool} {a3 : Bool} : l.map XIndexCol.v ++ [[vstr a0, vint a1, vbool a2, vbool a3]] = (l ++ [(XIndexCol.mk a0 a1 a2 a3)]).map XIndexCol.v := by rw [List.map_append, List.map_cons, List.map_nil, XIndexCol.v_eq]
theorem XIndexCol.eta (t : XIndexCol) : XIndexCol.mk t.name t.coll t.own t.desc_ = t := by cases t; first | rfl
set_option linter.defProp false in
def XIndexCol.vs := And.intro @XIndexCol.v_len <| And.intro @XIndexCol.v_all <| And.intro @XIndexCol.v_take <| And.intro @XIndexCol.v_take' <| And.intro @XIndexCol.v_drop <| And.intro @XIndexCol.v_c0 <| And.intro @XIndexCol.v_c1 <| And.intro @XIndexCol.v_c2 <| And.intro @XIndexCol.v_c3 <| True.intro
def XStmt.v : XStmt → List V
  | ⟨kind', what', if_', unique', or', name', table', to', cols', defs', keys', sets', where_', select'⟩ => [vint kind', vstr what', vbool if_', vbool unique', vint or', vstr name', vstr table', vstr to', V.slice 1 (List.map (fun x => [vstr x]) cols'), V.slice 8 (List.map XColDef.v defs'), V.slice 4 (List.map XIndexCol.v keys'), V.slice 11 (List.map XSet.v sets'), V.slice 10 (List.map XExpr.v where_'), V.slice 5 (List.map XSelect.v select')]
theorem XStmt.v_eq' (t : XStmt) : XStmt.v t = [vint t.kind, vstr t.what, vbool t.if_, vbool t.unique, vint t.or, vstr t.name, vstr t.table, vstr t.to, V.slice 1 (List.map (fun x => [vstr x]) t.cols), V.slice 8 (List.map XColDef.v t.defs), V.slice 4 (List.map XIndexCol.v t.keys), V.slice 11 (List.map XSet.v t.sets), V.slice 10 (List.map XExpr.v t.where_), V.slice 5 (List.map XSelect.v t.select)] := by cases t; rw [XStmt.v]
theorem XStmt.v_eq (t : XStmt) : XStmt.v t = [vint t.kind, vstr t.what, vbool t.if_, vbool t.unique, vint t.or, vstr t.name, vstr t.table, vstr t.to, V.slice 1 (List.map (fun x => [vstr x]) t.cols), V.slice 8 (List.map XColDef.v t.defs), V.slice 4 (List.map XIndexCol.v t.keys), V.slice 11 (List.map XSet.v t.sets), V.slice 10 (List.map XExpr.v t.where_), V.slice 5 (List.map XSelect.v t.select)] := by rw [XStmt.v_eq']
def XStmt.z : XStmt := ⟨0, ByteArray.empty, false, false, 0, ByteArray.empty, ByteArray.empty, ByteArray.empty, [], [], [], [], [], []⟩
theorem XStmt.v_len (t : XStmt) : t.v.length = 14 := by rw [XStmt.v_eq]; rfl
theorem XStmt.v_all (t : XStmt) : t.v.all V.isCell = true := by rw [XStmt.v_eq]; rfl
theorem XStmt.v_take (t : XStmt) : t.v.take 14 = t.v := List.take_of_length_le (by rw [XStmt.v_len]; exact Nat.le_refl _)
theorem XStmt.v_take' (t : XStmt) : (t.v.drop 0).take 14 = t.v := by rw [List.drop_zero]; exact XStmt.v_take t
theorem XStmt.v_drop (t : XStmt) : t.v.drop 14 = [] := List.drop_of_length_le (by rw [XStmt.v_len]; exact Nat.le_refl _)
theorem XStmt.v_c0 (t : XStmt) : t.v[0]? = some (vint t.kind) := by rw [XStmt.v_eq]; rfl
theorem XStmt.v_c1 (t : XStmt) : t.v[1]? = some (vstr t.what) := by rw [XStmt.v_eq]; rfl
theorem XStmt.v_c2 (t : XStmt) : t.v[2]? = some (vbool t.if_) := by rw [XStmt.v_eq]; rfl
theorem XStmt.v_c3 (t : XStmt) : t.v[3]? = some (vbool t.unique) := by rw [XStmt.v_eq]; rfl
theorem XStmt.v_c4 (t : XStmt) : t.v[4]? = some (vint t.or) := by rw [XStmt.v_eq]; rfl
theorem XStmt.v_c5 (t : XStmt) : t.v[5]? = some (vstr t.name) := by rw [XStmt.v_eq]; rfl
theorem XStmt.v_c6 (t : XStmt) : t.v[6]? = some (vstr t.table) := by rw [XStmt.v_eq]; rfl
theorem XStmt.v_c7 (t : XStmt) : t.v[7]? = some (vstr t.to) := by rw [XStmt.v_eq]; rfl
theorem XStmt.v_c8 (t : XStmt) : t.v[8]? = some (V.slice 1 (List.map (fun x => [vstr x]) t.cols)) := by rw [XStmt.v_eq]; rfl
theorem XStmt.v_c9 (t : XStmt) : t.v[9]? = some (V.slice 8 (List.map XColDef.v t.defs)) := by rw [XStmt.v_eq]; rfl
theorem XStmt.v_c10 (t : XStmt) : t.v[10]? = some (V.slice 4 (List.map XIndexCol.v t.keys)) := by rw [XStmt.v_eq]; rfl
theorem XStmt.v_c11 (t : XStmt) : t.v[11]? = some (V.slice 11 (List.map XSet.v t.sets)) := by rw [XStmt.v_eq]; rfl
theorem XStmt.v_c12 (t : XStmt) : t.v[12]? = some (V.slice 10 (List.map XExpr.v t.where_)) := by rw [XStmt.v_eq]; rfl
theorem XStmt.v_c13 (t : XStmt) : t.v[13]? = some (V.slice 5 (List.map XSelect.v t.select)) := by rw [XStmt.v_eq]; rfl
theorem XStmt.snoc {l : List XStmt} {t : XStmt} : l.map XStmt.v ++ [t.v] = (l ++ [t]).map XStmt.v := by rw [List.map_append]; rfl
theorem XStmt.snoc' {l : List XStmt} {a0 : Int} {a1 : ByteArray} {a2 : Bool} {a3 : Bool} {a4 : Int} {a5 : ByteArray} {a6 : ByteArray} {a7 : ByteArray} {a8 : (List ByteArray)} {a9 : (List XColDef)} {a10 : (List XIndexCol)} {a11 : (List XSet)} {a12 : (List XExpr)} {a13 : (List XSelect)} : l.map XStmt.v ++ [[vint a0, vstr a1, vbool a2, vbool a3, vint a4, vstr a5, vstr a6, vstr a7, V.slice 1 (List.map (fun x => [vstr x]) a8), V.slice 8 (List.map XColDef.v a9), V.slice 4 (List.map XIndexCol.v a10), V.slice 11 (List.map XSet.v a11), V.slice 10 (List.map XExpr.v a12), V.slice 5 (List.map XSelect.v a13)]] = (l ++ [(XStmt.mk a0 a1 a2 a3 a4 a5 a6 a7 a8 a9 a10 a11 a12 a13)]).map XStmt.v := by rw [List.map_append, List.map_cons, List.map_nil, XStmt.v_eq]
theorem XStmt.eta (t : XStmt) : XStmt.mk t.kind t.what t.if_ t.unique t.or t.name t.table t.to t.cols t.defs t.keys t.sets t.where_ t.select = t := by cases t; first | rfl
set_option linter.defProp false in
def XStmt.vs := And.intro @XStmt.v_len <| And.intro @XStmt.v_all <| And.intro @XStmt.v_take <| And.intro @XStmt.v_take' <| And.intro @XStmt.v_drop <| And.intro @XStmt.v_c0 <| And.intro @XStmt.v_c1 <| And.intro @XStmt.v_c2 <| And.intro @XStmt.v_c3 <| And.intro @XStmt.v_c4 <| And.intro @XStmt.v_c5 <| And.intro @XStmt.v_c6 <| And.intro @XStmt.v_c7 <| And.intro @XStmt.v_c8 <| And.intro @XStmt.v_c9 <| And.intro @XStmt.v_c10 <| And.intro @XStmt.v_c11 <| And.intro @XStmt.v_c12 <| And.intro @XStmt.v_c13 <| True.intro
end Go.Ex
