/- The library's functions in a form that the kernel reckons fast. -/
import Derived.Lib.IndexMore
import Derived.Test.YtdgoilofkgdaoaaGreatDoorEEvMemo
import Derived.Test.YtdgoilofkgdaoaaGreatDoorE18
set_option linter.unusedVariables false
namespace Go.Ev
noncomputable section
def nats (l : List UInt8) : List Nat := List.rec (motive := fun _ => List Nat) [] (fun a _ ih => a.toNat :: ih) l
def preN (p : List Nat) : List Nat → Bool := List.rec (motive := fun _ => List Nat → Bool) (fun _ => true) (fun a _ ih l => List.rec (motive := fun _ => Bool) false (fun b m _ => Bool.rec (motive := fun _ => Bool) false (ih m) (Nat.beq a b)) l) p
def hasN (p : Nat) (q : List Nat) (l : List Nat) : Bool := List.rec (motive := fun _ => Bool) false (fun a l ih => Bool.rec (motive := fun _ => Bool) ih (Bool.rec (motive := fun _ => Bool) ih true (preN q l)) (Nat.beq a p)) l
theorem toNat_beq (a b : UInt8) : Nat.beq a.toNat b.toNat = (a == b) := by
 by_cases h : a = b
 ·subst h; simp
 ·have : a.toNat ≠ b.toNat := fun e => h (UInt8.toNat_inj.1 e)
  have h1 : (a == b) = false := by simp [h]
  rw [h1]
  cases hq : Nat.beq a.toNat b.toNat with
  | false => rfl
  | true => exact absurd (Nat.eq_of_beq_eq_true hq) this
theorem preN_eq : ∀ (t l : List UInt8), preN (nats t) (nats l) = t.isPrefixOf l
 | [], l => by cases l <;> rfl
 | a :: t, [] => rfl
 | a :: t, b :: l => by
  show Bool.rec (motive := fun _ => Bool) false (preN (nats t) (nats l)) (Nat.beq a.toNat b.toNat) = (a == b && t.isPrefixOf l)
  rw [toNat_beq, preN_eq t l]
  cases a == b <;> rfl
theorem hasN_eq (a : UInt8) (t : List UInt8) : ∀ l : List UInt8, hasN a.toNat (nats t) (nats l) = Lib.contains l (a :: t)
 | [] => by simp [Lib.contains, Lib.index, hasN, nats]
 | b :: l => by
  show Bool.rec (motive := fun _ => Bool) (hasN a.toNat (nats t) (nats l)) (Bool.rec (motive := fun _ => Bool) (hasN a.toNat (nats t) (nats l)) true (preN (nats t) (nats l))) (Nat.beq b.toNat a.toNat) = _
  rw [toNat_beq, preN_eq, hasN_eq a t l]
  have hi : Lib.contains (b :: l) (a :: t) = ((a == b && t.isPrefixOf l) || Lib.contains l (a :: t)) := by
   unfold Lib.contains
   rw [Lib.index]
   have hp : (a :: t).isPrefixOf (b :: l) = (a == b && t.isPrefixOf l) := rfl
   rw [hp]
   have hge := Lib.index_ge l (a :: t)
   cases (a == b && t.isPrefixOf l) with
   | true => simp
   | false =>
    simp only [Bool.false_eq_true, if_false, Bool.false_or]
    split
    ·rename_i h
     have : Lib.index l (a :: t) = -1 := by simpa using h
     rw [this]
    ·rename_i h
     have : Lib.index l (a :: t) ≠ -1 := by simpa using h
     have h1 : 0 ≤ Lib.index l (a :: t) := by omega
     have h2 : 0 ≤ Lib.index l (a :: t) + 1 := by omega
     simp [h1, h2]
  rw [hi]
  have hs : (b == a) = (a == b) := by
   by_cases h : a = b
   ·subst h; rfl
   ·have h2 : b ≠ a := fun e => h e.symm
    have e1 : (a == b) = false := by simp [h]
    have e2 : (b == a) = false := by simp [h2]
    rw [e1, e2]
  rw [hs]
  cases a == b <;> cases t.isPrefixOf l <;> rfl
/-- strings.Contains. -/
def containsN (s sub : List UInt8) : Option Bool := match sub with
 | [] => none
 | a :: t => some (hasN a.toNat (nats t) (nats s))
theorem containsN_eq {s sub : List UInt8} {b : Bool} (h : containsN s sub = some b) : Lib.contains s sub = b := by
 unfold containsN at h
 split at h
 ·cases h
 ·rename_i a t
  rw [← hasN_eq]
  exact Option.some.inj h
end
end Go.Ev
namespace Go.Proofs.YtdgoilofkgdaoaaGreatDoor.Ex
open Go.Am Go.Ev Go.Proofs.YtdgoilofkgdaoaaGreatDoor
noncomputable section
theorem More.below {w w' : World} (h : Go.RowKit.Below w.heap.size w w') : More w w' := ⟨h.size, h.os, h.tape, h.output, fun b hb => h.block b hb⟩
theorem More.same (w : World) : More w w := ⟨Nat.le_refl _, rfl, rfl, rfl, fun _ _ => rfl⟩
def lowN (l : List UInt8) : Bool := List.rec (motive := fun _ => Bool) true (fun b _ ih => Bool.rec (motive := fun _ => Bool) false ih (Nat.blt b.toNat 128)) l
theorem lowN_spec : ∀ {l : List UInt8}, lowN l = true → ∀ (j : Nat) (b : UInt8), l[j]? = some b → b.toNat < 128
 | [], _, j, b, hb => by simp at hb
 | x :: l, h, j, b, hb => by
  have e : lowN (x :: l) = Bool.rec (motive := fun _ => Bool) false (lowN l) (Nat.blt x.toNat 128) := rfl
  rw [e] at h
  cases hx : Nat.blt x.toNat 128 with
  | false => rw [hx] at h; cases h
  | true =>
   rw [hx] at h
   cases j with
   | zero => simp at hb; subst hb; simpa [Nat.blt_eq] using hx
   | succ j => exact lowN_spec h j b (by simpa using hb)
def upN (s : ByteArray) : Option Value := bif lowN s.data.toList && Nat.ble s.size 140737488355328 then some (.string ⟨(Lib.toUpperA s.data.toList).toArray⟩) else none
def hasN' (s t : ByteArray) : Option Value := bif Nat.blt s.size 4294967281 then (containsN s.data.toList t.data.toList).bind fun b => some (.bool b) else none
def nt : NatT := fun f vs => bif Nat.beq f 56 then (match vs with | [.string s] => upN s | _ => none)
 else bif Nat.beq f 131 then (match vs with | [.string s, .string t] => hasN' s t | _ => none)
 else bif Nat.beq f 158 then (match vs with | [.string s, .string t] => some (.bool (Lib.hasPrefix s.data.toList t.data.toList)) | _ => none)
 else bif Nat.beq f 159 then (match vs with | [.string s, .int .u8 c] => some (.int .i64 (Lib.indexByte s.data.toList c.toNat.toUInt8)) | _ => none) else none
theorem nt_ok : NatOk Tryz.prog Go.Am.Tables nt := by
 intro f vs v h
 unfold nt at h
 cases h1 : Nat.beq f 56 with
 | true =>
  rw [h1] at h
  obtain rfl := Nat.eq_of_beq_eq_true h1
  simp only [cond_true] at h
  split at h
  ·rename_i s
   unfold upN at h
   cases hc : (lowN s.data.toList && Nat.ble s.size 140737488355328) with
   | false => rw [hc] at h; cases h
   | true =>
    rw [hc] at h
    cases h
    simp only [Bool.and_eq_true] at hc
    exact ⟨⟨_, Tryz.func56, rfl, by decide⟩, fun w _ => (Tryz.strings_ToUpper_ascii s w (Nat.le_of_ble_eq_true hc.2) (lowN_spec hc.1)).mono fun e w' ⟨e1, e2⟩ => ⟨e1, More.below e2⟩⟩
  ·cases h
 | false =>
 rw [h1] at h
 simp only [cond_false] at h
 cases h2 : Nat.beq f 131 with
 | true =>
  rw [h2] at h
  obtain rfl := Nat.eq_of_beq_eq_true h2
  simp only [cond_true] at h
  split at h
  ·rename_i s t
   unfold hasN' at h
   cases hc : Nat.blt s.size 4294967281 with
   | false => rw [hc] at h; cases h
   | true =>
    rw [hc] at h
    simp only [cond_true, Option.bind_eq_some_iff] at h
    obtain ⟨b, hb, h⟩ := h
    cases h
    refine ⟨⟨_, Tryz.func131, rfl, by decide⟩, fun w ⟨m, hm⟩ => (Tryz.strings_Contains s t m w (by simpa [Nat.blt_eq] using hc) hm).mono fun e w' ⟨e1, e2⟩ => ⟨?_, e2 ▸ More.same w⟩⟩
    rw [e1, containsN_eq hb]
  ·cases h
 | false =>
 rw [h2] at h
 simp only [cond_false] at h
 cases h3 : Nat.beq f 158 with
 | true =>
  rw [h3] at h
  obtain rfl := Nat.eq_of_beq_eq_true h3
  simp only [cond_true] at h
  split at h
  ·rename_i s t
   cases h
   exact ⟨⟨_, Tryz.func158, rfl, by decide⟩, fun w _ => (Tryz.strings_HasPrefix s t w).mono fun e w' ⟨e1, e2⟩ => ⟨e1, e2 ▸ More.same w⟩⟩
  ·cases h
 | false =>
 rw [h3] at h
 simp only [cond_false] at h
 cases h4 : Nat.beq f 159 with
 | true =>
  rw [h4] at h
  obtain rfl := Nat.eq_of_beq_eq_true h4
  simp only [cond_true] at h
  split at h
  ·rename_i s c
   cases h
   exact ⟨⟨_, Tryz.func159, rfl, by decide⟩, fun w _ => (Tryz.strings_IndexByte s c w).mono fun e w' ⟨e1, e2⟩ => ⟨e1, e2 ▸ More.same w⟩⟩
  ·cases h
 | false =>
 rw [h4] at h
 cases h
theorem tab_more (w w' : World) (hm : More w w') (h : Go.Am.Tables w) : Go.Am.Tables w' := by
 obtain ⟨m, h⟩ := h
 exact ⟨m, (hm.cell (block_lt_of_cell h)).trans h⟩
end
end Go.Proofs.YtdgoilofkgdaoaaGreatDoor.Ex
