/- Plain data of the Expr seat. -/
import Derived.Test.YtopgndakadileaaGreatDoorSAmSpec
set_option linter.unusedVariables false
namespace Go.Ex
open Go.Am
abbrev vint (n : Int) : V := .base (.int .i64 n)
abbrev vbool (b : Bool) : V := .base (.bool b)
abbrev vstr (s : ByteArray) : V := .base (.string s)
structure XValue where
  kind : Int
  int : Int
  text : ByteArray
mutual
structure XExpr where
  op : Int
  not : Bool
  table : ByteArray
  name : ByteArray
  n : Int
  v_ : XValue
  args : (List XExpr)
  sub : (List XSelect)
structure XSelect where
  with_ : (List XCte)
  parts : (List XPart)
  order : (List XSort)
  limit : (List XExpr)
  offset : (List XExpr)
structure XPart where
  comp : Int
  distinct : Bool
  items : (List XItem)
  from_ : (List XSource)
  where_ : (List XExpr)
  group : (List XExpr)
  having : (List XExpr)
  values : (List (List XExpr))
structure XItem where
  star : Bool
  table : ByteArray
  expr : (List XExpr)
  as : ByteArray
structure XCte where
  name : ByteArray
  cols : (List ByteArray)
  body : (List XSelect)
structure XSort where
  expr : XExpr
  desc_ : Bool
structure XSource where
  join : Int
  name : ByteArray
  sub : (List XSelect)
  as : ByteArray
  on : (List XExpr)
end
structure XToken where
  kind : Int
  at_ : Int
  text : ByteArray
structure XR where
  l : (List XToken)
  at_ : Int
  params : Int
  bad : Bool
structure XReader where
  l : (List XToken)
  at_ : Int
  params : Int
structure XShape where
  least : Int
  most : Int
  not : Bool
def XValue.v : XValue → List V
  | ⟨kind', int', text'⟩ => [vint kind', vint int', vstr text']
theorem XValue.v_eq' (t : XValue) : XValue.v t = [vint t.kind, vint t.int, vstr t.text] := by cases t; rw [XValue.v]
theorem XValue.v_eq (t : XValue) : XValue.v t = [vint t.kind, vint t.int, vstr t.text] := by rw [XValue.v_eq']
def XValue.z : XValue := ⟨0, 0, ByteArray.empty⟩
theorem XValue.v_len (t : XValue) : t.v.length = 3 := by rw [XValue.v_eq]; rfl
theorem XValue.v_all (t : XValue) : t.v.all V.isCell = true := by rw [XValue.v_eq]; rfl
theorem XValue.v_take (t : XValue) : t.v.take 3 = t.v := List.take_of_length_le (by rw [XValue.v_len]; exact Nat.le_refl _)
theorem XValue.v_take' (t : XValue) : (t.v.drop 0).take 3 = t.v := by rw [List.drop_zero]; exact XValue.v_take t
theorem XValue.v_drop (t : XValue) : t.v.drop 3 = [] := List.drop_of_length_le (by rw [XValue.v_len]; exact Nat.le_refl _)
theorem XValue.v_c0 (t : XValue) : t.v[0]? = some (vint t.kind) := by rw [XValue.v_eq]; rfl
theorem XValue.v_c1 (t : XValue) : t.v[1]? = some (vint t.int) := by rw [XValue.v_eq]; rfl
theorem XValue.v_c2 (t : XValue) : t.v[2]? = some (vstr t.text) := by rw [XValue.v_eq]; rfl
theorem XValue.snoc {l : List XValue} {t : XValue} : l.map XValue.v ++ [t.v] = (l ++ [t]).map XValue.v := by rw [List.map_append]; rfl
theorem XValue.snoc' {l : List XValue} {a0 : Int} {a1 : Int} {a2 : ByteArray} : l.map XValue.v ++ [[vint a0, vint a1, vstr a2]] = (l ++ [(XValue.mk a0 a1 a2)]).map XValue.v := by rw [List.map_append, List.map_cons, List.map_nil, XValue.v_eq]
theorem XValue.eta (t : XValue) : XValue.mk t.kind t.int t.text = t := by cases t; first | rfl
set_option linter.defProp false in
def XValue.vs := And.intro @XValue.v_len <| And.intro @XValue.v_all <| And.intro @XValue.v_take <| And.intro @XValue.v_take' <| And.intro @XValue.v_drop <| And.intro @XValue.v_c0 <| And.intro @XValue.v_c1 <| And.intro @XValue.v_c2 <| True.intro
mutual
def XExpr.v : XExpr → List V
  | ⟨op', not', table', name', n', v_', args', sub'⟩ => [vint op', vbool not', vstr table', vstr name', vint n'] ++ XValue.v v_' ++ [V.slice 10 (List.map XExpr.v args'), V.slice 5 (List.map XSelect.v sub')]
 termination_by t => SizeOf.sizeOf t
 decreasing_by
  all_goals first
    | (have h1 := List.sizeOf_lt_of_mem (‹_› : (_ : _) ∈ (_ : List (List _))); have h2 := List.sizeOf_lt_of_mem (‹_› : (_ : _) ∈ (_ : List _)); simp; omega)
    | decreasing_tactic
def XSelect.v : XSelect → List V
  | ⟨with_', parts', order', limit', offset'⟩ => [V.slice 3 (List.map XCte.v with_'), V.slice 8 (List.map XPart.v parts'), V.slice 11 (List.map XSort.v order'), V.slice 10 (List.map XExpr.v limit'), V.slice 10 (List.map XExpr.v offset')]
 termination_by t => SizeOf.sizeOf t
 decreasing_by
  all_goals first
    | (have h1 := List.sizeOf_lt_of_mem (‹_› : (_ : _) ∈ (_ : List (List _))); have h2 := List.sizeOf_lt_of_mem (‹_› : (_ : _) ∈ (_ : List _)); simp; omega)
    | decreasing_tactic
def XPart.v : XPart → List V
  | ⟨comp', distinct', items', from_', where_', group', having', values'⟩ => [vint comp', vbool distinct', V.slice 4 (List.map XItem.v items'), V.slice 5 (List.map XSource.v from_'), V.slice 10 (List.map XExpr.v where_'), V.slice 10 (List.map XExpr.v group'), V.slice 10 (List.map XExpr.v having'), V.slice 1 (List.map (fun x => [V.slice 10 (List.map XExpr.v x)]) values')]
 termination_by t => SizeOf.sizeOf t
 decreasing_by
  all_goals first
    | (have h1 := List.sizeOf_lt_of_mem (‹_› : (_ : _) ∈ (_ : List (List _))); have h2 := List.sizeOf_lt_of_mem (‹_› : (_ : _) ∈ (_ : List _)); simp; omega)
    | decreasing_tactic
def XItem.v : XItem → List V
  | ⟨star', table', expr', as'⟩ => [vbool star', vstr table', V.slice 10 (List.map XExpr.v expr'), vstr as']
 termination_by t => SizeOf.sizeOf t
 decreasing_by
  all_goals first
    | (have h1 := List.sizeOf_lt_of_mem (‹_› : (_ : _) ∈ (_ : List (List _))); have h2 := List.sizeOf_lt_of_mem (‹_› : (_ : _) ∈ (_ : List _)); simp; omega)
    | decreasing_tactic
def XCte.v : XCte → List V
  | ⟨name', cols', body'⟩ => [vstr name', V.slice 1 (List.map (fun x => [vstr x]) cols'), V.slice 5 (List.map XSelect.v body')]
 termination_by t => SizeOf.sizeOf t
 decreasing_by
  all_goals first
    | (have h1 := List.sizeOf_lt_of_mem (‹_› : (_ : _) ∈ (_ : List (List _))); have h2 := List.sizeOf_lt_of_mem (‹_› : (_ : _) ∈ (_ : List _)); simp; omega)
    | decreasing_tactic
def XSort.v : XSort → List V
  | ⟨expr', desc_'⟩ => XExpr.v expr' ++ [vbool desc_']
 termination_by t => SizeOf.sizeOf t
 decreasing_by
  all_goals first
    | (have h1 := List.sizeOf_lt_of_mem (‹_› : (_ : _) ∈ (_ : List (List _))); have h2 := List.sizeOf_lt_of_mem (‹_› : (_ : _) ∈ (_ : List _)); simp; omega)
    | decreasing_tactic
def XSource.v : XSource → List V
  | ⟨join', name', sub', as', on'⟩ => [vint join', vstr name', V.slice 5 (List.map XSelect.v sub'), vstr as', V.slice 10 (List.map XExpr.v on')]
 termination_by t => SizeOf.sizeOf t
 decreasing_by
  all_goals first
    | (have h1 := List.sizeOf_lt_of_mem (‹_› : (_ : _) ∈ (_ : List (List _))); have h2 := List.sizeOf_lt_of_mem (‹_› : (_ : _) ∈ (_ : List _)); simp; omega)
    | decreasing_tactic
end
theorem XExpr.v_eq' (t : XExpr) : XExpr.v t = [vint t.op, vbool t.not, vstr t.table, vstr t.name, vint t.n] ++ XValue.v t.v_ ++ [V.slice 10 (List.map XExpr.v t.args), V.slice 5 (List.map XSelect.v t.sub)] := by cases t; rw [XExpr.v]
theorem XExpr.v_eq (t : XExpr) : XExpr.v t = [vint t.op, vbool t.not, vstr t.table, vstr t.name, vint t.n, vint t.v_.kind, vint t.v_.int, vstr t.v_.text, V.slice 10 (List.map XExpr.v t.args), V.slice 5 (List.map XSelect.v t.sub)] := by rw [XExpr.v_eq', XValue.v_eq]; rfl
def XExpr.z : XExpr := ⟨0, false, ByteArray.empty, ByteArray.empty, 0, XValue.z, [], []⟩
theorem XExpr.v_len (t : XExpr) : t.v.length = 10 := by rw [XExpr.v_eq]; rfl
theorem XExpr.v_all (t : XExpr) : t.v.all V.isCell = true := by rw [XExpr.v_eq]; rfl
theorem XExpr.v_take (t : XExpr) : t.v.take 10 = t.v := List.take_of_length_le (by rw [XExpr.v_len]; exact Nat.le_refl _)
theorem XExpr.v_take' (t : XExpr) : (t.v.drop 0).take 10 = t.v := by rw [List.drop_zero]; exact XExpr.v_take t
theorem XExpr.v_drop (t : XExpr) : t.v.drop 10 = [] := List.drop_of_length_le (by rw [XExpr.v_len]; exact Nat.le_refl _)
theorem XExpr.v_c0 (t : XExpr) : t.v[0]? = some (vint t.op) := by rw [XExpr.v_eq]; rfl
theorem XExpr.v_c1 (t : XExpr) : t.v[1]? = some (vbool t.not) := by rw [XExpr.v_eq]; rfl
theorem XExpr.v_c2 (t : XExpr) : t.v[2]? = some (vstr t.table) := by rw [XExpr.v_eq]; rfl
theorem XExpr.v_c3 (t : XExpr) : t.v[3]? = some (vstr t.name) := by rw [XExpr.v_eq]; rfl
theorem XExpr.v_c4 (t : XExpr) : t.v[4]? = some (vint t.n) := by rw [XExpr.v_eq]; rfl
theorem XExpr.v_s5_3 (t : XExpr) : (t.v.drop 5).take 3 = (t.v_).v := by rw [XExpr.v_eq, XValue.v_eq]; rfl
theorem XExpr.v_c5 (t : XExpr) : t.v[5]? = some (vint t.v_.kind) := by rw [XExpr.v_eq]; rfl
theorem XExpr.v_c6 (t : XExpr) : t.v[6]? = some (vint t.v_.int) := by rw [XExpr.v_eq]; rfl
theorem XExpr.v_c7 (t : XExpr) : t.v[7]? = some (vstr t.v_.text) := by rw [XExpr.v_eq]; rfl
theorem XExpr.v_c8 (t : XExpr) : t.v[8]? = some (V.slice 10 (List.map XExpr.v t.args)) := by rw [XExpr.v_eq]; rfl
theorem XExpr.v_c9 (t : XExpr) : t.v[9]? = some (V.slice 5 (List.map XSelect.v t.sub)) := by rw [XExpr.v_eq]; rfl
theorem XExpr.snoc {l : List XExpr} {t : XExpr} : l.map XExpr.v ++ [t.v] = (l ++ [t]).map XExpr.v := by rw [List.map_append]; rfl
theorem XExpr.snoc' {l : List XExpr} {a0 : Int} {a1 : Bool} {a2 : ByteArray} {a3 : ByteArray} {a4 : Int} {a5 : Int} {a6 : Int} {a7 : ByteArray} {a8 : (List XExpr)} {a9 : (List XSelect)} : l.map XExpr.v ++ [[vint a0, vbool a1, vstr a2, vstr a3, vint a4, vint a5, vint a6, vstr a7, V.slice 10 (List.map XExpr.v a8), V.slice 5 (List.map XSelect.v a9)]] = (l ++ [(XExpr.mk a0 a1 a2 a3 a4 (XValue.mk a5 a6 a7) a8 a9)]).map XExpr.v := by rw [List.map_append, List.map_cons, List.map_nil, XExpr.v_eq]
theorem XExpr.eta (t : XExpr) : XExpr.mk t.op t.not t.table t.name t.n (XValue.mk t.v_.kind t.v_.int t.v_.text) t.args t.sub = t := by cases t; first | rfl | simp only [XValue.eta]
set_option linter.defProp false in
def XExpr.vs := And.intro @XExpr.v_len <| And.intro @XExpr.v_all <| And.intro @XExpr.v_take <| And.intro @XExpr.v_take' <| And.intro @XExpr.v_drop <| And.intro @XExpr.v_c0 <| And.intro @XExpr.v_c1 <| And.intro @XExpr.v_c2 <| And.intro @XExpr.v_c3 <| And.intro @XExpr.v_c4 <| And.intro @XExpr.v_s5_3 <| And.intro @XExpr.v_c5 <| And.intro @XExpr.v_c6 <| And.intro @XExpr.v_c7 <| And.intro @XExpr.v_c8 <| And.intro @XExpr.v_c9 <| True.intro
theorem XSelect.v_eq' (t : XSelect) : XSelect.v t = [V.slice 3 (List.map XCte.v t.with_), V.slice 8 (List.map XPart.v t.parts), V.slice 11 (List.map XSort.v t.order), V.slice 10 (List.map XExpr.v t.limit), V.slice 10 (List.map XExpr.v t.offset)] := by cases t; rw [XSelect.v]
theorem XSelect.v_eq (t : XSelect) : XSelect.v t = [V.slice 3 (List.map XCte.v t.with_), V.slice 8 (List.map XPart.v t.parts), V.slice 11 (List.map XSort.v t.order), V.slice 10 (List.map XExpr.v t.limit), V.slice 10 (List.map XExpr.v t.offset)] := by rw [XSelect.v_eq']
def XSelect.z : XSelect := ⟨[], [], [], [], []⟩
theorem XSelect.v_len (t : XSelect) : t.v.length = 5 := by rw [XSelect.v_eq]; rfl
theorem XSelect.v_all (t : XSelect) : t.v.all V.isCell = true := by rw [XSelect.v_eq]; rfl
theorem XSelect.v_take (t : XSelect) : t.v.take 5 = t.v := List.take_of_length_le (by rw [XSelect.v_len]; exact Nat.le_refl _)
theorem XSelect.v_take' (t : XSelect) : (t.v.drop 0).take 5 = t.v := by rw [List.drop_zero]; exact XSelect.v_take t
theorem XSelect.v_drop (t : XSelect) : t.v.drop 5 = [] := List.drop_of_length_le (by rw [XSelect.v_len]; exact Nat.le_refl _)
theorem XSelect.v_c0 (t : XSelect) : t.v[0]? = some (V.slice 3 (List.map XCte.v t.with_)) := by rw [XSelect.v_eq]; rfl
theorem XSelect.v_c1 (t : XSelect) : t.v[1]? = some (V.slice 8 (List.map XPart.v t.parts)) := by rw [XSelect.v_eq]; rfl
theorem XSelect.v_c2 (t : XSelect) : t.v[2]? = some (V.slice 11 (List.map XSort.v t.order)) := by rw [XSelect.v_eq]; rfl
theorem XSelect.v_c3 (t : XSelect) : t.v[3]? = some (V.slice 10 (List.map XExpr.v t.limit)) := by rw [XSelect.v_eq]; rfl
theorem XSelect.v_c4 (t : XSelect) : t.v[4]? = some (V.slice 10 (List.map XExpr.v t.offset)) := by rw [XSelect.v_eq]; rfl
theorem XSelect.snoc {l : List XSelect} {t : XSelect} : l.map XSelect.v ++ [t.v] = (l ++ [t]).map XSelect.v := by rw [List.map_append]; rfl
theorem XSelect.snoc' {l : List XSelect} {a0 : (List XCte)} {a1 : (List XPart)} {a2 : (List XSort)} {a3 : (List XExpr)} {a4 : (List XExpr)} : l.map XSelect.v ++ [[V.slice 3 (List.map XCte.v a0), V.slice 8 (List.map XPart.v a1), V.slice 11 (List.map XSort.v a2), V.slice 10 (List.map XExpr.v a3), V.slice 10 (List.map XExpr.v a4)]] = (l ++ [(XSelect.mk a0 a1 a2 a3 a4)]).map XSelect.v := by rw [List.map_append, List.map_cons, List.map_nil, XSelect.v_eq]
theorem XSelect.eta (t : XSelect) : XSelect.mk t.with_ t.parts t.order t.limit t.offset = t := by cases t; first | rfl
set_option linter.defProp false in
def XSelect.vs := And.intro @XSelect.v_len <| And.intro @XSelect.v_all <| And.intro @XSelect.v_take <| And.intro @XSelect.v_take' <| And.intro @XSelect.v_drop <| And.intro @XSelect.v_c0 <| And.intro @XSelect.v_c1 <| And.intro @XSelect.v_c2 <| And.intro @XSelect.v_c3 <| And.intro @XSelect.v_c4 <| True.intro
theorem XPart.v_eq' (t : XPart) : XPart.v t = [vint t.comp, vbool t.distinct, V.slice 4 (List.map XItem.v t.items), V.slice 5 (List.map XSource.v t.from_), V.slice 10 (List.map XExpr.v t.where_), V.slice 10 (List.map XExpr.v t.group), V.slice 10 (List.map XExpr.v t.having), V.slice 1 (List.map (fun x => [V.slice 10 (List.map XExpr.v x)]) t.values)] := by cases t; rw [XPart.v]
theorem XPart.v_eq (t : XPart) : XPart.v t = [vint t.comp, vbool t.distinct, V.slice 4 (List.map XItem.v t.items), V.slice 5 (List.map XSource.v t.from_), V.slice 10 (List.map XExpr.v t.where_), V.slice 10 (List.map XExpr.v t.group), V.slice 10 (List.map XExpr.v t.having), V.slice 1 (List.map (fun x => [V.slice 10 (List.map XExpr.v x)]) t.values)] := by rw [XPart.v_eq']
def XPart.z : XPart := ⟨0, false, [], [], [], [], [], []⟩
theorem XPart.v_len (t : XPart) : t.v.length = 8 := by rw [XPart.v_eq]; rfl
theorem XPart.v_all (t : XPart) : t.v.all V.isCell = true := by rw [XPart.v_eq]; rfl
theorem XPart.v_take (t : XPart) : t.v.take 8 = t.v := List.take_of_length_le (by rw [XPart.v_len]; exact Nat.le_refl _)
theorem XPart.v_take' (t : XPart) : (t.v.drop 0).take 8 = t.v := by rw [List.drop_zero]; exact XPart.v_take t
theorem XPart.v_drop (t : XPart) : t.v.drop 8 = [] := List.drop_of_length_le (by rw [XPart.v_len]; exact Nat.le_refl _)
theorem XPart.v_c0 (t : XPart) : t.v[0]? = some (vint t.comp) := by rw [XPart.v_eq]; rfl
theorem XPart.v_c1 (t : XPart) : t.v[1]? = some (vbool t.distinct) := by rw [XPart.v_eq]; rfl
theorem XPart.v_c2 (t : XPart) : t.v[2]? = some (V.slice 4 (List.map XItem.v t.items)) := by rw [XPart.v_eq]; rfl
theorem XPart.v_c3 (t : XPart) : t.v[3]? = some (V.slice 5 (List.map XSource.v t.from_)) := by rw [XPart.v_eq]; rfl
theorem XPart.v_c4 (t : XPart) : t.v[4]? = some (V.slice 10 (List.map XExpr.v t.where_)) := by rw [XPart.v_eq]; rfl
theorem XPart.v_c5 (t : XPart) : t.v[5]? = some (V.slice 10 (List.map XExpr.v t.group)) := by rw [XPart.v_eq]; rfl
theorem XPart.v_c6 (t : XPart) : t.v[6]? = some (V.slice 10 (List.map XExpr.v t.having)) := by rw [XPart.v_eq]; rfl
theorem XPart.v_c7 (t : XPart) : t.v[7]? = some (V.slice 1 (List.map (fun x => [V.slice 10 (List.map XExpr.v x)]) t.values)) := by rw [XPart.v_eq]; rfl
theorem XPart.snoc {l : List XPart} {t : XPart} : l.map XPart.v ++ [t.v] = (l ++ [t]).map XPart.v := by rw [List.map_append]; rfl
theorem XPart.snoc' {l : List XPart} {a0 : Int} {a1 : Bool} {a2 : (List XItem)} {a3 : (List XSource)} {a4 : (List XExpr)} {a5 : (List XExpr)} {a6 : (List XExpr)} {a7 : (List (List XExpr))} : l.map XPart.v ++ [[vint a0, vbool a1, V.slice 4 (List.map XItem.v a2), V.slice 5 (List.map XSource.v a3), V.slice 10 (List.map XExpr.v a4), V.slice 10 (List.map XExpr.v a5), V.slice 10 (List.map XExpr.v a6), V.slice 1 (List.map (fun x => [V.slice 10 (List.map XExpr.v x)]) a7)]] = (l ++ [(XPart.mk a0 a1 a2 a3 a4 a5 a6 a7)]).map XPart.v := by rw [List.map_append, List.map_cons, List.map_nil, XPart.v_eq]
theorem XPart.eta (t : XPart) : XPart.mk t.comp t.distinct t.items t.from_ t.where_ t.group t.having t.values = t := by cases t; first | rfl
set_option linter.defProp false in
def XPart.vs := And.intro @XPart.v_len <| And.intro @XPart.v_all <| And.intro @XPart.v_take <| And.intro @XPart.v_take' <| And.intro @XPart.v_drop <| And.intro @XPart.v_c0 <| And.intro @XPart.v_c1 <| And.intro @XPart.v_c2 <| And.intro @XPart.v_c3 <| And.intro @XPart.v_c4 <| And.intro @XPart.v_c5 <| And.intro @XPart.v_c6 <| And.intro @XPart.v_c7 <| True.intro
theorem XItem.v_eq' (t : XItem) : XItem.v t = [vbool t.star, vstr t.table, V.slice 10 (List.map XExpr.v t.expr), vstr t.as] := by cases t; rw [XItem.v]
theorem XItem.v_eq (t : XItem) : XItem.v t = [vbool t.star, vstr t.table, V.slice 10 (List.map XExpr.v t.expr), vstr t.as] := by rw [XItem.v_eq']
def XItem.z : XItem := ⟨false, ByteArray.empty, [], ByteArray.empty⟩
theorem XItem.v_len (t : XItem) : t.v.length = 4 := by rw [XItem.v_eq]; rfl
theorem XItem.v_all (t : XItem) : t.v.all V.isCell = true := by rw [XItem.v_eq]; rfl
theorem XItem.v_take (t : XItem) : t.v.take 4 = t.v := List.take_of_length_le (by rw [XItem.v_len]; exact Nat.le_refl _)
theorem XItem.v_take' (t : XItem) : (t.v.drop 0).take 4 = t.v := by rw [List.drop_zero]; exact XItem.v_take t
theorem XItem.v_drop (t : XItem) : t.v.drop 4 = [] := List.drop_of_length_le (by rw [XItem.v_len]; exact Nat.le_refl _)
theorem XItem.v_c0 (t : XItem) : t.v[0]? = some (vbool t.star) := by rw [XItem.v_eq]; rfl
theorem XItem.v_c1 (t : XItem) : t.v[1]? = some (vstr t.table) := by rw [XItem.v_eq]; rfl
theorem XItem.v_c2 (t : XItem) : t.v[2]? = some (V.slice 10 (List.map XExpr.v t.expr)) := by rw [XItem.v_eq]; rfl
theorem XItem.v_c3 (t : XItem) : t.v[3]? = some (vstr t.as) := by rw [XItem.v_eq]; rfl
theorem XItem.snoc {l : List XItem} {t : XItem} : l.map XItem.v ++ [t.v] = (l ++ [t]).map XItem.v := by rw [List.map_append]; rfl
theorem XItem.snoc' {l : List XItem} {a0 : Bool} {a1 : ByteArray} {a2 : (List XExpr)} {a3 : ByteArray} : l.map XItem.v ++ [[vbool a0, vstr a1, V.slice 10 (List.map XExpr.v a2), vstr a3]] = (l ++ [(XItem.mk a0 a1 a2 a3)]).map XItem.v := by rw [List.map_append, List.map_cons, List.map_nil, XItem.v_eq]
theorem XItem.eta (t : XItem) : XItem.mk t.star t.table t.expr t.as = t := by cases t; first | rfl
set_option linter.defProp false in
def XItem.vs := And.intro @XItem.v_len <| And.intro @XItem.v_all <| And.intro @XItem.v_take <| And.intro @XItem.v_take' <| And.intro @XItem.v_drop <| And.intro @XItem.v_c0 <| And.intro @XItem.v_c1 <| And.intro @XItem.v_c2 <| And.intro @XItem.v_c3 <| True.intro
theorem XCte.v_eq' (t : XCte) : XCte.v t = [vstr t.name, V.slice 1 (List.map (fun x => [vstr x]) t.cols), V.slice 5 (List.map XSelect.v t.body)] := by cases t; rw [XCte.v]
theorem XCte.v_eq (t : XCte) : XCte.v t = [vstr t.name, V.slice 1 (List.map (fun x => [vstr x]) t.cols), V.slice 5 (List.map XSelect.v t.body)] := by rw [XCte.v_eq']
def XCte.z : XCte := ⟨ByteArray.empty, [], []⟩
theorem XCte.v_len (t : XCte) : t.v.length = 3 := by rw [XCte.v_eq]; rfl
theorem XCte.v_all (t : XCte) : t.v.all V.isCell = true := by rw [XCte.v_eq]; rfl
theorem XCte.v_take (t : XCte) : t.v.take 3 = t.v := List.take_of_length_le (by rw [XCte.v_len]; exact Nat.le_refl _)
theorem XCte.v_take' (t : XCte) : (t.v.drop 0).take 3 = t.v := by rw [List.drop_zero]; exact XCte.v_take t
theorem XCte.v_drop (t : XCte) : t.v.drop 3 = [] := List.drop_of_length_le (by rw [XCte.v_len]; exact Nat.le_refl _)
theorem XCte.v_c0 (t : XCte) : t.v[0]? = some (vstr t.name) := by rw [XCte.v_eq]; rfl
theorem XCte.v_c1 (t : XCte) : t.v[1]? = some (V.slice 1 (List.map (fun x => [vstr x]) t.cols)) := by rw [XCte.v_eq]; rfl
theorem XCte.v_c2 (t : XCte) : t.v[2]? = some (V.slice 5 (List.map XSelect.v t.body)) := by rw [XCte.v_eq]; rfl
theorem XCte.snoc {l : List XCte} {t : XCte} : l.map XCte.v ++ [t.v] = (l ++ [t]).map XCte.v := by rw [List.map_append]; rfl
theorem XCte.snoc' {l : List XCte} {a0 : ByteArray} {a1 : (List ByteArray)} {a2 : (List XSelect)} : l.map XCte.v ++ [[vstr a0, V.slice 1 (List.map (fun x => [vstr x]) a1), V.slice 5 (List.map XSelect.v a2)]] = (l ++ [(XCte.mk a0 a1 a2)]).map XCte.v := by rw [List.map_append, List.map_cons, List.map_nil, XCte.v_eq]
theorem XCte.eta (t : XCte) : XCte.mk t.name t.cols t.body = t := by cases t; first | rfl
set_option linter.defProp false in
def XCte.vs := And.intro @XCte.v_len <| And.intro @XCte.v_all <| And.intro @XCte.v_take <| And.intro @XCte.v_take' <| And.intro @XCte.v_drop <| And.intro @XCte.v_c0 <| And.intro @XCte.v_c1 <| And.intro @XCte.v_c2 <| True.intro
theorem XSort.v_eq' (t : XSort) : XSort.v t = XExpr.v t.expr ++ [vbool t.desc_] := by cases t; rw [XSort.v]
theorem XSort.v_eq (t : XSort) : XSort.v t = [vint t.expr.op, vbool t.expr.not, vstr t.expr.table, vstr t.expr.name, vint t.expr.n, vint t.expr.v_.kind, vint t.expr.v_.int, vstr t.expr.v_.text, V.slice 10 (List.map XExpr.v t.expr.args), V.slice 5 (List.map XSelect.v t.expr.sub), vbool t.desc_] := by rw [XSort.v_eq', XExpr.v_eq]; rfl
def XSort.z : XSort := ⟨XExpr.z, false⟩
theorem XSort.v_len (t : XSort) : t.v.length = 11 := by rw [XSort.v_eq]; rfl
theorem XSort.v_all (t : XSort) : t.v.all V.isCell = true := by rw [XSort.v_eq]; rfl
theorem XSort.v_take (t : XSort) : t.v.take 11 = t.v := List.take_of_length_le (by rw [XSort.v_len]; exact Nat.le_refl _)
theorem XSort.v_take' (t : XSort) : (t.v.drop 0).take 11 = t.v := by rw [List.drop_zero]; exact XSort.v_take t
theorem XSort.v_drop (t : XSort) : t.v.drop 11 = [] := List.drop_of_length_le (by rw [XSort.v_len]; exact Nat.le_refl _)
theorem XSort.v_s0_10 (t : XSort) : (t.v.drop 0).take 10 = (t.expr).v := by rw [XSort.v_eq, XExpr.v_eq]; rfl
theorem XSort.v_s0_10' (t : XSort) : t.v.take 10 = (t.expr).v := by rw [XSort.v_eq, XExpr.v_eq]; rfl
theorem XSort.v_c0 (t : XSort) : t.v[0]? = some (vint t.expr.op) := by rw [XSort.v_eq]; rfl
theorem XSort.v_c1 (t : XSort) : t.v[1]? = some (vbool t.expr.not) := by rw [XSort.v_eq]; rfl
theorem XSort.v_c2 (t : XSort) : t.v[2]? = some (vstr t.expr.table) := by rw [XSort.v_eq]; rfl
theorem XSort.v_c3 (t : XSort) : t.v[3]? = some (vstr t.expr.name) := by rw [XSort.v_eq]; rfl
theorem XSort.v_c4 (t : XSort) : t.v[4]? = some (vint t.expr.n) := by rw [XSort.v_eq]; rfl
theorem XSort.v_s5_3 (t : XSort) : (t.v.drop 5).take 3 = (t.expr.v_).v := by rw [XSort.v_eq, XValue.v_eq]; rfl
theorem XSort.v_c5 (t : XSort) : t.v[5]? = some (vint t.expr.v_.kind) := by rw [XSort.v_eq]; rfl
theorem XSort.v_c6 (t : XSort) : t.v[6]? = some (vint t.expr.v_.int) := by rw [XSort.v_eq]; rfl
theorem XSort.v_c7 (t : XSort) : t.v[7]? = some (vstr t.expr.v_.text) := by rw [XSort.v_eq]; rfl
theorem XSort.v_c8 (t : XSort) : t.v[8]? = some (V.slice 10 (List.map XExpr.v t.expr.args)) := by rw [XSort.v_eq]; rfl
theorem XSort.v_c9 (t : XSort) : t.v[9]? = some (V.slice 5 (List.map XSelect.v t.expr.sub)) := by rw [XSort.v_eq]; rfl
theorem XSort.v_c10 (t : XSort) : t.v[10]? = some (vbool t.desc_) := by rw [XSort.v_eq]; rfl
theorem XSort.snoc {l : List XSort} {t : XSort} : l.map XSort.v ++ [t.v] = (l ++ [t]).map XSort.v := by rw [List.map_append]; rfl
theorem XSort.snoc' {l : List XSort} {a0 : Int} {a1 : Bool} {a2 : ByteArray} {a3 : ByteArray} {a4 : Int} {a5 : Int} {a6 : Int} {a7 : ByteArray} {a8 : (List XExpr)} {a9 : (List XSelect)} {a10 : Bool} : l.map XSort.v ++ [[vint a0, vbool a1, vstr a2, vstr a3, vint a4, vint a5, vint a6, vstr a7, V.slice 10 (List.map XExpr.v a8), V.slice 5 (List.map XSelect.v a9), vbool a10]] = (l ++ [(XSort.mk (XExpr.mk a0 a1 a2 a3 a4 (XValue.mk a5 a6 a7) a8 a9) a10)]).map XSort.v := by rw [List.map_append, List.map_cons, List.map_nil, XSort.v_eq]
theorem XSort.eta (t : XSort) : XSort.mk (XExpr.mk t.expr.op t.expr.not t.expr.table t.expr.name t.expr.n (XValue.mk t.expr.v_.kind t.expr.v_.int t.expr.v_.text) t.expr.args t.expr.sub) t.desc_ = t := by cases t; first | rfl | simp only [XExpr.eta]
set_option linter.defProp false in
def XSort.vs := And.intro @XSort.v_len <| And.intro @XSort.v_all <| And.intro @XSort.v_take <| And.intro @XSort.v_take' <| And.intro @XSort.v_drop <| And.intro @XSort.v_s0_10 <| And.intro @XSort.v_s0_10' <| And.intro @XSort.v_c0 <| And.intro @XSort.v_c1 <| And.intro @XSort.v_c2 <| And.intro @XSort.v_c3 <| And.intro @XSort.v_c4 <| And.intro @XSort.v_s5_3 <| And.intro @XSort.v_c5 <| And.intro @XSort.v_c6 <| And.intro @XSort.v_c7 <| And.intro @XSort.v_c8 <| And.intro @XSort.v_c9 <| And.intro @XSort.v_c10 <| True.intro
theorem XSource.v_eq' (t : XSource) : XSource.v t = [vint t.join, vstr t.name, V.slice 5 (List.map XSelect.v t.sub), vstr t.as, V.slice 10 (List.map XExpr.v t.on)] := by cases t; rw [XSource.v]
theorem XSource.v_eq (t : XSource) : XSource.v t = [vint t.join, vstr t.name, V.slice 5 (List.map XSelect.v t.sub), vstr t.as, V.slice 10 (List.map XExpr.v t.on)] := by rw [XSource.v_eq']
def XSource.z : XSource := ⟨0, ByteArray.empty, [], ByteArray.empty, []⟩
theorem XSource.v_len (t : XSource) : t.v.length = 5 := by rw [XSource.v_eq]; rfl
theorem XSource.v_all (t : XSource) : t.v.all V.isCell = true := by rw [XSource.v_eq]; rfl
theorem XSource.v_take (t : XSource) : t.v.take 5 = t.v := List.take_of_length_le (by rw [XSource.v_len]; exact Nat.le_refl _)
theorem XSource.v_take' (t : XSource) : (t.v.drop 0).take 5 = t.v := by rw [List.drop_zero]; exact XSource.v_take t
theorem XSource.v_drop (t : XSource) : t.v.drop 5 = [] := List.drop_of_length_le (by rw [XSource.v_len]; exact Nat.le_refl _)
theorem XSource.v_c0 (t : XSource) : t.v[0]? = some (vint t.join) := by rw [XSource.v_eq]; rfl
theorem XSource.v_c1 (t : XSource) : t.v[1]? = some (vstr t.name) := by rw [XSource.v_eq]; rfl
theorem XSource.v_c2 (t : XSource) : t.v[2]? = some (V.slice 5 (List.map XSelect.v t.sub)) := by rw [XSource.v_eq]; rfl
theorem XSource.v_c3 (t : XSource) : t.v[3]? = some (vstr t.as) := by rw [XSource.v_eq]; rfl
theorem XSource.v_c4 (t : XSource) : t.v[4]? = some (V.slice 10 (List.map XExpr.v t.on)) := by rw [XSource.v_eq]; rfl
theorem XSource.snoc {l : List XSource} {t : XSource} : l.map XSource.v ++ [t.v] = (l ++ [t]).map XSource.v := by rw [List.map_append]; rfl
theorem XSource.snoc' {l : List XSource} {a0 : Int} {a1 : ByteArray} {a2 : (List XSelect)} {a3 : ByteArray} {a4 : (List XExpr)} : l.map XSource.v ++ [[vint a0, vstr a1, V.slice 5 (List.map XSelect.v a2), vstr a3, V.slice 10 (List.map XExpr.v a4)]] = (l ++ [(XSource.mk a0 a1 a2 a3 a4)]).map XSource.v := by rw [List.map_append, List.map_cons, List.map_nil, XSource.v_eq]
theorem XSource.eta (t : XSource) : XSource.mk t.join t.name t.sub t.as t.on = t := by cases t; first | rfl
set_option linter.defProp false in
def XSource.vs := And.intro @XSource.v_len <| And.intro @XSource.v_all <| And.intro @XSource.v_take <| And.intro @XSource.v_take' <| And.intro @XSource.v_drop <| And.intro @XSource.v_c0 <| And.intro @XSource.v_c1 <| And.intro @XSource.v_c2 <| And.intro @XSource.v_c3 <| And.intro @XSource.v_c4 <| True.intro
def XToken.v : XToken → List V
  | ⟨kind', at_', text'⟩ => [vint kind', vint at_', vstr text']
theorem XToken.v_eq' (t : XToken) : XToken.v t = [vint t.kind, vint t.at_, vstr t.text] := by cases t; rw [XToken.v]
theorem XToken.v_eq (t : XToken) : XToken.v t = [vint t.kind, vint t.at_, vstr t.text] := by rw [XToken.v_eq']
def XToken.z : XToken := ⟨0, 0, ByteArray.empty⟩
theorem XToken.v_len (t : XToken) : t.v.length = 3 := by rw [XToken.v_eq]; rfl
theorem XToken.v_all (t : XToken) : t.v.all V.isCell = true := by rw [XToken.v_eq]; rfl
theorem XToken.v_take (t : XToken) : t.v.take 3 = t.v := List.take_of_length_le (by rw [XToken.v_len]; exact Nat.le_refl _)
theorem XToken.v_take' (t : XToken) : (t.v.drop 0).take 3 = t.v := by rw [List.drop_zero]; exact XToken.v_take t
theorem XToken.v_drop (t : XToken) : t.v.drop 3 = [] := List.drop_of_length_le (by rw [XToken.v_len]; exact Nat.le_refl _)
theorem XToken.v_c0 (t : XToken) : t.v[0]? = some (vint t.kind) := by rw [XToken.v_eq]; rfl
theorem XToken.v_c1 (t : XToken) : t.v[1]? = some (vint t.at_) := by rw [XToken.v_eq]; rfl
theorem XToken.v_c2 (t : XToken) : t.v[2]? = some (vstr t.text) := by rw [XToken.v_eq]; rfl
theorem XToken.snoc {l : List XToken} {t : XToken} : l.map XToken.v ++ [t.v] = (l ++ [t]).map XToken.v := by rw [List.map_append]; rfl
theorem XToken.snoc' {l : List XToken} {a0 : Int} {a1 : Int} {a2 : ByteArray} : l.map XToken.v ++ [[vint a0, vint a1, vstr a2]] = (l ++ [(XToken.mk a0 a1 a2)]).map XToken.v := by rw [List.map_append, List.map_cons, List.map_nil, XToken.v_eq]
theorem XToken.eta (t : XToken) : XToken.mk t.kind t.at_ t.text = t := by cases t; first | rfl
set_option linter.defProp false in
def XToken.vs := And.intro @XToken.v_len <| And.intro @XToken.v_all <| And.intro @XToken.v_take <| And.intro @XToken.v_take' <| And.intro @XToken.v_drop <| And.intro @XToken.v_c0 <| And.intro @XToken.v_c1 <| And.intro @XToken.v_c2 <| True.intro
def XR.v : XR → List V
  | ⟨l', at_', params', bad'⟩ => [V.slice 3 (List.map XToken.v l'), vint at_', vint params', vbool bad']
theorem XR.v_eq' (t : XR) : XR.v t = [V.slice 3 (List.map XToken.v t.l), vint t.at_, vint t.params, vbool t.bad] := by cases t; rw [XR.v]
theorem XR.v_eq (t : XR) : XR.v t = [V.slice 3 (List.map XToken.v t.l), vint t.at_, vint t.params, vbool t.bad] := by rw [XR.v_eq']
def XR.z : XR := ⟨[], 0, 0, false⟩
theorem XR.v_len (t : XR) : t.v.length = 4 := by rw [XR.v_eq]; rfl
theorem XR.v_all (t : XR) : t.v.all V.isCell = true := by rw [XR.v_eq]; rfl
theorem XR.v_take (t : XR) : t.v.take 4 = t.v := List.take_of_length_le (by rw [XR.v_len]; exact Nat.le_refl _)
theorem XR.v_take' (t : XR) : (t.v.drop 0).take 4 = t.v := by rw [List.drop_zero]; exact XR.v_take t
theorem XR.v_drop (t : XR) : t.v.drop 4 = [] := List.drop_of_length_le (by rw [XR.v_len]; exact Nat.le_refl _)
theorem XR.v_c0 (t : XR) : t.v[0]? = some (V.slice 3 (List.map XToken.v t.l)) := by rw [XR.v_eq]; rfl
theorem XR.v_c1 (t : XR) : t.v[1]? = some (vint t.at_) := by rw [XR.v_eq]; rfl
theorem XR.v_c2 (t : XR) : t.v[2]? = some (vint t.params) := by rw [XR.v_eq]; rfl
theorem XR.v_c3 (t : XR) : t.v[3]? = some (vbool t.bad) := by rw [XR.v_eq]; rfl
theorem XR.snoc {l : List XR} {t : XR} : l.map XR.v ++ [t.v] = (l ++ [t]).map XR.v := by rw [List.map_append]; rfl
theorem XR.snoc' {l : List XR} {a0 : (List XToken)} {a1 : Int} {a2 : Int} {a3 : Bool} : l.map XR.v ++ [[V.slice 3 (List.map XToken.v a0), vint a1, vint a2, vbool a3]] = (l ++ [(XR.mk a0 a1 a2 a3)]).map XR.v := by rw [List.map_append, List.map_cons, List.map_nil, XR.v_eq]
theorem XR.eta (t : XR) : XR.mk t.l t.at_ t.params t.bad = t := by cases t; first | rfl
set_option linter.defProp false in
def XR.vs := And.intro @XR.v_len <| And.intro @XR.v_all <| And.intro @XR.v_take <| And.intro @XR.v_take' <| And.intro @XR.v_drop <| And.intro @XR.v_c0 <| And.intro @XR.v_c1 <| And.intro @XR.v_c2 <| And.intro @XR.v_c3 <| True.intro
def XReader.v : XReader → List V
  | ⟨l', at_', params'⟩ => [V.slice 3 (List.map XToken.v l'), vint at_', vint params']
theorem XReader.v_eq' (t : XReader) : XReader.v t = [V.slice 3 (List.map XToken.v t.l), vint t.at_, vint t.params] := by cases t; rw [XReader.v]
theorem XReader.v_eq (t : XReader) : XReader.v t = [V.slice 3 (List.map XToken.v t.l), vint t.at_, vint t.params] := by rw [XReader.v_eq']
def XReader.z : XReader := ⟨[], 0, 0⟩
theorem XReader.v_len (t : XReader) : t.v.length = 3 := by rw [XReader.v_eq]; rfl
theorem XReader.v_all (t : XReader) : t.v.all V.isCell = true := by rw [XReader.v_eq]; rfl
theorem XReader.v_take (t : XReader) : t.v.take 3 = t.v := List.take_of_length_le (by rw [XReader.v_len]; exact Nat.le_refl _)
theorem XReader.v_take' (t : XReader) : (t.v.drop 0).take 3 = t.v := by rw [List.drop_zero]; exact XReader.v_take t
theorem XReader.v_drop (t : XReader) : t.v.drop 3 = [] := List.drop_of_length_le (by rw [XReader.v_len]; exact Nat.le_refl _)
theorem XReader.v_c0 (t : XReader) : t.v[0]? = some (V.slice 3 (List.map XToken.v t.l)) := by rw [XReader.v_eq]; rfl
theorem XReader.v_c1 (t : XReader) : t.v[1]? = some (vint t.at_) := by rw [XReader.v_eq]; rfl
theorem XReader.v_c2 (t : XReader) : t.v[2]? = some (vint t.params) := by rw [XReader.v_eq]; rfl
theorem XReader.snoc {l : List XReader} {t : XReader} : l.map XReader.v ++ [t.v] = (l ++ [t]).map XReader.v := by rw [List.map_append]; rfl
theorem XReader.snoc' {l : List XReader} {a0 : (List XToken)} {a1 : Int} {a2 : Int} : l.map XReader.v ++ [[V.slice 3 (List.map XToken.v a0), vint a1, vint a2]] = (l ++ [(XReader.mk a0 a1 a2)]).map XReader.v := by rw [List.map_append, List.map_cons, List.map_nil, XReader.v_eq]
theorem XReader.eta (t : XReader) : XReader.mk t.l t.at_ t.params = t := by cases t; first | rfl
set_option linter.defProp false in
def XReader.vs := And.intro @XReader.v_len <| And.intro @XReader.v_all <| And.intro @XReader.v_take <| And.intro @XReader.v_take' <| And.intro @XReader.v_drop <| And.intro @XReader.v_c0 <| And.intro @XReader.v_c1 <| And.intro @XReader.v_c2 <| True.intro
def XShape.v : XShape → List V
  | ⟨least', most', not'⟩ => [vint least', vint most', vbool not']
theorem XShape.v_eq' (t : XShape) : XShape.v t = [vint t.least, vint t.most, vbool t.not] := by cases t; rw [XShape.v]
theorem XShape.v_eq (t : XShape) : XShape.v t = [vint t.least, vint t.most, vbool t.not] := by rw [XShape.v_eq']
def XShape.z : XShape := ⟨0, 0, false⟩
theorem XShape.v_len (t : XShape) : t.v.length = 3 := by rw [XShape.v_eq]; rfl
theorem XShape.v_all (t : XShape) : t.v.all V.isCell = true := by rw [XShape.v_eq]; rfl
theorem XShape.v_take (t : XShape) : t.v.take 3 = t.v := List.take_of_length_le (by rw [XShape.v_len]; exact Nat.le_refl _)
theorem XShape.v_take' (t : XShape) : (t.v.drop 0).take 3 = t.v := by rw [List.drop_zero]; exact XShape.v_take t
theorem XShape.v_drop (t : XShape) : t.v.drop 3 = [] := List.drop_of_length_le (by rw [XShape.v_len]; exact Nat.le_refl _)
theorem XShape.v_c0 (t : XShape) : t.v[0]? = some (vint t.least) := by rw [XShape.v_eq]; rfl
theorem XShape.v_c1 (t : XShape) : t.v[1]? = some (vint t.most) := by rw [XShape.v_eq]; rfl
theorem XShape.v_c2 (t : XShape) : t.v[2]? = some (vbool t.not) := by rw [XShape.v_eq]; rfl
theorem XShape.snoc {l : List XShape} {t : XShape} : l.map XShape.v ++ [t.v] = (l ++ [t]).map XShape.v := by rw [List.map_append]; rfl
theorem XShape.snoc' {l : List XShape} {a0 : Int} {a1 : Int} {a2 : Bool} : l.map XShape.v ++ [[vint a0, vint a1, vbool a2]] = (l ++ [(XShape.mk a0 a1 a2)]).map XShape.v := by rw [List.map_append, List.map_cons, List.map_nil, XShape.v_eq]
theorem XShape.eta (t : XShape) : XShape.mk t.least t.most t.not = t := by cases t; first | rfl
set_option linter.defProp false in
def XShape.vs := And.intro @XShape.v_len <| And.intro @XShape.v_all <| And.intro @XShape.v_take <| And.intro @XShape.v_take' <| And.intro @XShape.v_drop <| And.intro @XShape.v_c0 <| And.intro @XShape.v_c1 <| And.intro @XShape.v_c2 <| True.intro
end Go.Ex
