/- Short names of laws of lists and numbers: the walks name them at every step. -/
import Derived.Test.YtcckhbconihagaaGreatDoorAmMore
namespace Go.Am
theorem k00 {α : Type _} {d x : α} {l : List α} : (x :: l).getD 0 d = x := rfl
theorem k01 {α : Type _} {d x : α} {l : List α} {n : Nat} : (x :: l).getD (n + 1) d = l.getD n d := rfl
theorem k02 {α : Type _} {d : α} {n : Nat} : ([] : List α).getD n d = d := rfl
theorem k03 {α : Type _} {β : Type _} {f : α → β} {x : α} {l : List α} : (x :: l).map f = f x :: l.map f := rfl
theorem k04 {α : Type _} {β : Type _} {f : α → β} : ([] : List α).map f = [] := rfl
theorem k05 {α : Type _} {x : α} {l : List α} : (x :: l).length = l.length + 1 := rfl
theorem k06 {α : Type _} : ([] : List α).length = 0 := rfl
theorem k07 {α : Type _} {β : Type _} {l : List α} {f : α → β} : (l.map f).length = l.length := List.length_map _
theorem k08 {α : Type _} {l : List α} {i : Nat} : l.toArray[i]? = l[i]? := List.getElem?_toArray
theorem k09 {α : Type _} {x : α} {l : List α} : (x :: l)[0]? = some x := rfl
theorem k10 {α : Type _} {x : α} {l : List α} {i : Nat} : (x :: l)[i + 1]? = l[i]? := List.getElem?_cons_succ
theorem k11 {α : Type _} {i : Nat} : ([] : List α)[i]? = none := rfl
theorem k12 {α : Type _} {x : α} {l : List α} {i : Nat} : (x :: l).take (i + 1) = x :: l.take i := rfl
theorem k13 {α : Type _} {l : List α} : l.take 0 = [] := List.take_zero
theorem k14 {α : Type _} {i : Nat} : ([] : List α).take i = [] := List.take_nil
theorem k15 {α : Type _} {x : α} {l : List α} {i : Nat} : (x :: l).drop (i + 1) = l.drop i := rfl
theorem k16 {α : Type _} {l : List α} : l.drop 0 = l := rfl
theorem k17 {α : Type _} {i : Nat} : ([] : List α).drop i = [] := List.drop_nil
theorem k18 {α : Type _} {l : List α} : [] ++ l = l := rfl
theorem k19 {α : Type _} {x : α} {l m : List α} : x :: l ++ m = x :: (l ++ m) := rfl
theorem k20 {α : Type _} {l : List α} : l ++ [] = l := List.append_nil _
theorem k21 {α : Type _} {β : Type _} {f : α → β} {x : α} : (some x).map f = some (f x) := rfl
theorem k22 {α : Type _} {β : Type _} {f : α → β} : (none : Option α).map f = none := rfl
theorem k23 {α : Type _} {β : Type _} {f : α → Option β} {x : α} : (some x).bind f = f x := rfl
theorem k24 {α : Type _} {β : Type _} {f : α → Option β} : (none : Option α).bind f = none := rfl
theorem k25 {α : Type _} {x : α} : (some x).isNone = false := rfl
theorem k26 {α : Type _} : (none : Option α).isNone = true := rfl
theorem k27 {n : Nat} : n < n + 1 := Nat.lt_add_one n
theorem k28 : (1 : Nat) ≠ 0 := Nat.one_ne_zero
theorem k29 {α : Type _} {f : α → Bool} {x : α} {l : List α} : (x :: l).all f = (f x && l.all f) := rfl
theorem k30 {α : Type _} {f : α → Bool} : ([] : List α).all f = true := rfl
theorem k31 {n : Nat} : List.range (n + 1) = List.range n ++ [n] := List.range_succ
theorem k32 : List.range 0 = [] := rfl
theorem k33 {n : Nat} : 0 < n.succ := Nat.zero_lt_succ n
theorem k34 {n : Nat} : n.succ ≠ 0 := Nat.succ_ne_zero n
end Go.Am
