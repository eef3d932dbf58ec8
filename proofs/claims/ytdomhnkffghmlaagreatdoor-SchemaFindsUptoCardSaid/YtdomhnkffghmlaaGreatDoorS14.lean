/- The library's functions in a form that the kernel reckons fast. -/
import Derived.Lib.IndexMore
import Derived.Test.YtdomhnkffghmlaaGreatDoorSEvMemo
import Derived.Test.YtdomhnkffghmlaaGreatDoorS13
set_option linter.unusedVariables false
namespace Go.Ev
noncomputable section
def nats (l : List UInt8) : List Nat := List.rec (motive := fun _ => List Nat) [] (fun a _ ih => a.toNat :: ih) l
def preN (p : List Nat) : List Nat → Bool := List.rec (motive := fun _ => List Nat → Bool) (fun _ => true) (fun a _ ih l => List.rec (motive := fun _ => Bool) false (fun b m _ => Bool.rec (motive := fun _ => Bool) false (ih m) (Nat.beq a b)) l) p
def hasN (p : Nat) (q : List Nat) (l : List Nat) : Bool := List.rec (motive := fun _ => Bool) false (fun a l ih => Bool.rec (motive := fun _ => Bool) ih (Bool.rec (motive := fun _ => Bool) ih true (preN q l)) (Nat.beq a p)) l
theorem toNat_beq (a b : UInt8) : Nat.beq a.toNat b.toNat = (a == b) := by
 by_cases h : a = b
 ·subst h; simp
 ·have : a.toNat ≠ b.toNat := fun e => h (UInt8.toNat_inj.1 e)
  have h1 : (a == b) = false := by simp [h]
  rw [h1]
  cases hq : Nat.beq a.toNat b.toNat with
  | false => rfl
  | true => exact absurd (Nat.eq_of_beq_eq_true hq) this
theorem preN_eq : ∀ (t l : List UInt8), preN (nats t) (nats l) = t.isPrefixOf l
 | [], l => by cases l <;> rfl
 | a :: t, [] => rfl
 | a :: t, b :: l => by
  show Bool.rec (motive := fun _ => Bool) false (preN (nats t) (nats l)) (Nat.beq a.toNat b.toNat) = (a == b && t.isPrefixOf l)
  rw [toNat_beq, preN_eq t l]
  cases a == b <;> rfl
theorem hasN_eq (a : UInt8) (t : List UInt8) : ∀ l : List UInt8, hasN a.toNat (nats t) (nats l) = Lib.contains l (a :: t)
 | [] => by simp [Lib.contains, Lib.index, hasN, nats]
 | b :: l => by
  show Bool.rec (motive := fun _ => Bool) (hasN a.toNat (nats t) (nats l)) (Bool.rec (motive := fun _ => Bool) (hasN a.toNat (nats t) (nats l)) true (preN (nats t) (nats l))) (Nat.beq b.toNat a.toNat) = _
  rw [toNat_beq, preN_eq, hasN_eq a t l]
  have hi : Lib.contains (b :: l) (a :: t) = ((a == b && t.isPrefixOf l) || Lib.contains l (a :: t)) := by
   unfold Lib.contains
   rw [Lib.index]
   have hp : (a :: t).isPrefixOf (b :: l) = (a == b && t.isPrefixOf l) := rfl
   rw [hp]
   have hge := Lib.index_ge l (a :: t)
   cases (a == b && t.isPrefixOf l) with
   | true => simp
   | false =>
    simp only [Bool.false_eq_true, if_false, Bool.false_or]
    split
    ·rename_i h
     have : Lib.index l (a :: t) = -1 := by simpa using h
     rw [this]
    ·rename_i h
     have : Lib.index l (a :: t) ≠ -1 := by simpa using h
     have h1 : 0 ≤ Lib.index l (a :: t) := by omega
     have h2 : 0 ≤ Lib.index l (a :: t) + 1 := by omega
     simp [h1, h2]
  rw [hi]
  have hs : (b == a) = (a == b) := by
   by_cases h : a = b
   ·subst h; rfl
   ·have h2 : b ≠ a := fun e => h e.symm
    have e1 : (a == b) = false := by simp [h]
    have e2 : (b == a) = false := by simp [h2]
    rw [e1, e2]
  rw [hs]
  cases a == b <;> cases t.isPrefixOf l <;> rfl
/-- strings.Contains. -/
def containsN (s sub : List UInt8) : Option Bool := match sub with
 | [] => none
 | a :: t => some (hasN a.toNat (nats t) (nats s))
theorem containsN_eq {s sub : List UInt8} {b : Bool} (h : containsN s sub = some b) : Lib.contains s sub = b := by
 unfold containsN at h
 split at h
 ·cases h
 ·rename_i a t
  rw [← hasN_eq]
  exact Option.some.inj h
end
end Go.Ev
namespace Go.Proofs.YtdomhnkffghmlaaGreatDoor.Ex
open Go.Am Go.Ev Go.Proofs.YtdomhnkffghmlaaGreatDoor
noncomputable section
theorem More.below {w w' : World} (h : Go.RowKit.Below w.heap.size w w') : More w w' := ⟨h.size, h.os, h.tape, h.output, fun b hb => h.block b hb⟩
theorem More.same (w : World) : More w w := ⟨Nat.le_refl _, rfl, rfl, rfl, fun _ _ => rfl⟩
def lowN (l : List UInt8) : Bool := List.rec (motive := fun _ => Bool) true (fun b _ ih => Bool.rec (motive := fun _ => Bool) false ih (Nat.blt b.toNat 128)) l
theorem lowN_spec : ∀ {l : List UInt8}, lowN l = true → ∀ (j : Nat) (b : UInt8), l[j]? = some b → b.toNat < 128
 | [], _, j, b, hb => by simp at hb
 | x :: l, h, j, b, hb => by
  have e : lowN (x :: l) = Bool.rec (motive := fun _ => Bool) false (lowN l) (Nat.blt x.toNat 128) := rfl
  rw [e] at h
  cases hx : Nat.blt x.toNat 128 with
  | false => rw [hx] at h; cases h
  | true =>
   rw [hx] at h
   cases j with
   | zero => simp at hb; subst hb; simpa [Nat.blt_eq] using hx
   | succ j => exact lowN_spec h j b (by simpa using hb)
def upN (s : ByteArray) : Option Value := bif lowN s.data.toList && Nat.ble s.size 140737488355328 then some (.string ⟨(Lib.toUpperA s.data.toList).toArray⟩) else none
def hasN' (s t : ByteArray) : Option Value := bif Nat.blt s.size 4294967281 then (containsN s.data.toList t.data.toList).bind fun b => some (.bool b) else none
def nt : NatT := fun f vs => bif Nat.beq f 90 then (match vs with | [.string s] => upN s | _ => none)
 else bif Nat.beq f 153 then (match vs with | [.string s, .string t] => hasN' s t | _ => none)
 else bif Nat.beq f 215 then (match vs with | [.string s, .string t] => some (.bool (Lib.hasPrefix s.data.toList t.data.toList)) | _ => none)
 else bif Nat.beq f 216 then (match vs with | [.string s, .int .u8 c] => some (.int .i64 (Lib.indexByte s.data.toList c.toNat.toUInt8)) | _ => none) else none
theorem nt_ok : NatOk Tryz.prog Go.Am.Tables nt := by
 intro f vs v h
 unfold nt at h
 cases h1 : Nat.beq f 90 with
 | true =>
  rw [h1] at h
  obtain rfl := Nat.eq_of_beq_eq_true h1
  simp only [cond_true] at h
  split at h
  ·rename_i s
   unfold upN at h
   cases hc : (lowN s.data.toList && Nat.ble s.size 140737488355328) with
   | false => rw [hc] at h; cases h
   | true =>
    rw [hc] at h
    cases h
    simp only [Bool.and_eq_true] at hc
    exact ⟨⟨_, Tryz.func90, rfl, by decide⟩, fun w _ => (Tryz.strings_ToUpper_ascii s w (Nat.le_of_ble_eq_true hc.2) (lowN_spec hc.1)).mono fun e w' ⟨e1, e2⟩ => ⟨e1, More.below e2⟩⟩
  ·cases h
 | false =>
 rw [h1] at h
 simp only [cond_false] at h
 cases h2 : Nat.beq f 153 with
 | true =>
  rw [h2] at h
  obtain rfl := Nat.eq_of_beq_eq_true h2
  simp only [cond_true] at h
  split at h
  ·rename_i s t
   unfold hasN' at h
   cases hc : Nat.blt s.size 4294967281 with
   | false => rw [hc] at h; cases h
   | true =>
    rw [hc] at h
    simp only [cond_true, Option.bind_eq_some_iff] at h
    obtain ⟨b, hb, h⟩ := h
    cases h
    refine ⟨⟨_, Tryz.func153, rfl, by decide⟩, fun w ⟨m, hm⟩ => (Tryz.strings_Contains s t m w (by simpa [Nat.blt_eq] using hc) hm).mono fun e w' ⟨e1, e2⟩ => ⟨?_, e2 ▸ More.same w⟩⟩
    rw [e1, containsN_eq hb]
  ·cases h
 | false =>
 rw [h2] at h
 simp only [cond_false] at h
 cases h3 : Nat.beq f 215 with
 | true =>
  rw [h3] at h
  obtain rfl := Nat.eq_of_beq_eq_true h3
  simp only [cond_true] at h
  split at h
  ·rename_i s t
   cases h
   exact ⟨⟨_, Tryz.func215, rfl, by decide⟩, fun w _ => (Tryz.strings_HasPrefix s t w).mono fun e w' ⟨e1, e2⟩ => ⟨e1, e2 ▸ More.same w⟩⟩
  ·cases h
 | false =>
 rw [h3] at h
 simp only [cond_false] at h
 cases h4 : Nat.beq f 216 with
 | true =>
  rw [h4] at h
  obtain rfl := Nat.eq_of_beq_eq_true h4
  simp only [cond_true] at h
  split at h
  ·rename_i s c
   cases h
   exact ⟨⟨_, Tryz.func216, rfl, by decide⟩, fun w _ => (Tryz.strings_IndexByte s c w).mono fun e w' ⟨e1, e2⟩ => ⟨e1, e2 ▸ More.same w⟩⟩
  ·cases h
 | false =>
 rw [h4] at h
 cases h
theorem tab_more (w w' : World) (hm : More w w') (h : Go.Am.Tables w) : Go.Am.Tables w' := by
 obtain ⟨m, h⟩ := h
 exact ⟨m, (hm.cell (block_lt_of_cell h)).trans h⟩
end
end Go.Proofs.YtdomhnkffghmlaaGreatDoor.Ex
namespace Go.Proofs.YtdomhnkffghmlaaGreatDoor.Ex
open Go.Am Go.Ev Go.Proofs.YtdomhnkffghmlaaGreatDoor
theorem join_ok (a b sep j : ByteArray) (hj : (Lib.join ([a, b].map (·.data.toList)) sep.data.toList) = j.data.toList) (hl : j.size ≤ 140737488355328) :
  MemoOk Tryz.prog Go.Am.Tables ⟨77, [.sl 0 0 2 0 true, .v (.string sep)], [.live [.v (.string a), .v (.string b)] 9 1], .v (.string j), [.live [.v (.string a), .v (.string b)] 9 1]⟩ := by
 intro B hB r w cargs hW hargs
 have hget : (heapOf [.live [.v (.string a), .v (.string b)] 9 1]).get 0 = some (.live [.v (.string a), .v (.string b)] 9 1) := by
  unfold heapOf
  rw [put0_get]
  rfl
 obtain ⟨b0, ccs, h1, h2, h3, vs, e1, e2, e3⟩ := hW.blk 0 _ 9 1 hget
 have hvs : vs = [.string a, .string b] := by
  simp only [renL, ren, Option.bind_some, Option.some.injEq] at e1
  exact e1.symm
 subst hvs
 rcases e3 with ⟨h0, _⟩ | ⟨_, ⟨tail, ht⟩, hsz, hmax⟩
 ·cases h0
 have hc : cargs = #[.slice (some ⟨b0, 0, none⟩) 2 (r.c 0), .string sep] := by
  simp only [renL, ren, h1, capOf, Option.bind_some, Option.some.injEq] at hargs
  rw [← Array.toList_inj, ← hargs]
  rfl
 subst hc
 refine ⟨⟨_, Tryz.func77, rfl, by decide⟩, ?_⟩
 have hcap : 2 ≤ r.c 0 := by
  have := congrArg List.length ht
  simp only [Array.length_toList, List.length_append, List.length_cons, List.length_nil] at this
  omega
 have hcell : ∀ (i : Nat) x, [a, b][i]? = some x → w.cell? ⟨b0, 0 + i, none⟩ = some (.string x) := by
  intro i x hx
  have hi : ccs[i]? = some (.string x) := by
   rw [← Array.getElem?_toList, ht]
   match i, hx with
   | 0, hx => simp at hx; subst hx; rfl
   | 1, hx => simp at hx; subst hx; rfl
   | n + 2, hx => simp at hx
  unfold World.cell?
  rw [Nat.zero_add]
  simp only [h3]
  exact hi
 have hbk : b0 < w.heap.size := by
  rcases Nat.lt_or_ge b0 w.heap.size with h | h
  ·exact h
  ·rw [Array.getElem?_eq_none h] at h3; cases h3
 refine (Tryz.strings_Join b0 0 (r.c 0) [a, b] sep w hcell hbk (by simp) hcap (by rw [hj]; rw [Array.length_toList]; exact hl)).mono ?_
 rintro e w' ⟨rfl, bel⟩
 refine ⟨r, _, rfl, fun i x _ hx => ⟨hx, rfl⟩, hW.more bel.size (fun b hb => bel.block b hb) bel.os bel.tape bel.output, ?_⟩
 rw [hj]
 rfl
end Go.Proofs.YtdomhnkffghmlaaGreatDoor.Ex
