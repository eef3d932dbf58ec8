/- Names compared: value.Equal. -/
import Derived.Test.YtcckhbconihagaaGreatDoorV10
import Derived.Test.YtcckhbconihagaaGreatDoorVPlIdx
import Derived.Test.YtcckhbconihagaaGreatDoorV2
import Derived.Test.YtcckhbconihagaaGreatDoorVAmExtra
import Derived.Test.YtcckhbconihagaaGreatDoorVAmFreeze
set_option linter.unusedSimpArgs false
set_option linter.unusedVariables false
set_option maxRecDepth 100000
namespace Go.Proofs.YtcckhbconihagaaGreatDoor
open Go.Am Go.Pl
def cmpI (x y : Int) : Int := if x < y then -1 else if x > y then 1 else 0
theorem wrap_u8 {n : Int} (h1 : 0 ≤ n) (h2 : n < 256) : IntKind.u8.wrap n = n := by
 simp only [IntKind.wrap, IntKind.bits, IntKind.signed]; simp; omega
theorem low_yes (b : UInt8) (h1 : ((b.toNat : Nat) : Int) ≥ 65) (h2 : ((b.toNat : Nat) : Int) ≤ 90) : (((low b).toNat : Nat) : Int) = IntKind.u8.wrap (((b.toNat : Nat) : Int) + 32) := by
 have e : low b = b + 32 := by
  unfold low
  rw [if_pos]
  constructor
  ·show (65 : UInt8) ≤ b
   rw [UInt8.le_iff_toNat_le]; show 65 ≤ b.toNat; omega
  ·rw [UInt8.le_iff_toNat_le]; show b.toNat ≤ 90; omega
 rw [e, wrap_u8 (by omega) (by omega), UInt8.toNat_add]
 show (((b.toNat + 32) % 256 : Nat) : Int) = _
 omega
theorem low_no1 (b : UInt8) (h : ¬ ((b.toNat : Nat) : Int) ≥ 65) : low b = b := by
 unfold low
 rw [if_neg]
 rintro ⟨h1, _⟩
 have : (65 : UInt8) ≤ b := h1
 rw [UInt8.le_iff_toNat_le] at this
 have : 65 ≤ b.toNat := this
 omega
theorem low_no2 (b : UInt8) (h : ¬ ((b.toNat : Nat) : Int) ≤ 90) : low b = b := by
 unfold low
 rw [if_neg]
 rintro ⟨_, h1⟩
 rw [UInt8.le_iff_toNat_le] at h1
 have : b.toNat ≤ 90 := h1
 omega
theorem fold_data (a : ByteArray) : fold a = a.data.toList.map low := by unfold fold; rw [ByteArray.toList_eq]
theorem size_data (a : ByteArray) : a.data.toList.length = a.size := by rw [Array.length_toList]; rfl
theorem cmp_same {x y : UInt8} (h : (cmpI ((x.toNat : Nat) : Int) ((y.toNat : Nat) : Int) != 0) = false) : x = y := by
 have h := bne_eq_false_iff_eq.1 h
 unfold cmpI at h
 split at h
 ·omega
 ·split at h
  ·omega
  ·rw [← UInt8.toNat_inj]; omega
theorem getD_at {l : List UInt8} {i : Nat} (h : i < l.length) : l.getD i 0 = l[i] := by simp [List.getD_eq_getElem?_getD, h]
theorem fold_step {a b : ByteArray} {i : Nat} (ha : i < a.size) (hb : i < b.size) (h : (fold a).take i = (fold b).take i) (he : low (a.data.toList.getD i 0) = low (b.data.toList.getD i 0)) : (fold a).take (i + 1) = (fold b).take (i + 1) := by
 rw [fold_data, fold_data] at *
 have h1 : i < a.data.toList.length := by rw [size_data]; exact ha
 have h2 : i < b.data.toList.length := by rw [size_data]; exact hb
 rw [getD_at h1, getD_at h2] at he
 rw [List.take_succ_eq_append_getElem (by simpa using h1), List.take_succ_eq_append_getElem (by simpa using h2), h]
 simp only [List.getElem_map, he]
theorem fold_mid {a b : ByteArray} {i : Nat} (ha : i < a.size) (hb : i < b.size) (h : (cmpI (((low (a.data.toList.getD i 0)).toNat : Nat) : Int) (((low (b.data.toList.getD i 0)).toNat : Nat) : Int) != 0) = true) :
  (cmpI (((low (a.data.toList.getD i 0)).toNat : Nat) : Int) (((low (b.data.toList.getD i 0)).toNat : Nat) : Int) == 0) = eqName a b := by
 have h0 := bne_iff_ne.1 h
 rw [beq_eq_false_iff_ne.2 h0]
 symm
 unfold eqName
 rw [beq_eq_false_iff_ne]
 intro e
 rw [fold_data, fold_data] at e
 have h1 : i < a.data.toList.length := by rw [size_data]; exact ha
 have h2 : i < b.data.toList.length := by rw [size_data]; exact hb
 have := congrArg (fun l => l[i]?) e
 simp only [List.getElem?_map, List.getElem?_eq_getElem h1, List.getElem?_eq_getElem h2, Option.map_some, Option.some.injEq] at this
 rw [getD_at h1, getD_at h2, this] at h0
 exact h0 (by unfold cmpI; simp)
theorem fold_end {a b : ByteArray} (h : (fold a).take (min a.size b.size) = (fold b).take (min a.size b.size)) : (cmpI ((a.size : Nat) : Int) ((b.size : Nat) : Int) == 0) = eqName a b := by
 have la : (fold a).length = a.size := by rw [fold_data, List.length_map, size_data]
 have lb : (fold b).length = b.size := by rw [fold_data, List.length_map, size_data]
 unfold eqName
 by_cases e : a.size = b.size
 ·have : cmpI ((a.size : Nat) : Int) ((b.size : Nat) : Int) = 0 := by unfold cmpI; rw [if_neg (by omega), if_neg (by omega)]
  rw [this]
  rw [List.take_of_length_le (by omega), List.take_of_length_le (by omega)] at h
  rw [h]; simp
 ·have : cmpI ((a.size : Nat) : Int) ((b.size : Nat) : Int) ≠ 0 := by
   unfold cmpI
   split
   ·omega
   ·split
    ·omega
    ·omega
  rw [beq_eq_false_iff_ne.2 this]
  symm
  rw [beq_eq_false_iff_ne]
  intro e2
  exact e (by rw [← la, ← lb, e2])
theorem f177_spec (x : Int) : Gives Tryz.prog 177 [.base (.int .u8 x)] (vbool false) := by
 intro s; refine acalls_of (fn := Tryz.f177) Tryz.func177 rfl (by decide) (by show 1 ≤ 6; decide) ?_; rw [Tryz.ntmps177]; refine rg fun Z z' => ?_; simp only [bne_self_eq_false, am, seval, reduceCtorEq]; refine z' _ ?_; clear z' Z; refine rg fun Z z' => ?_; simp only [bne_self_eq_false, amt, seval, reduceCtorEq]; refine z' _ ?_; clear z' Z; refine AWp.ret ?_; exact rt (vs := [vbool false]) rfl ⟨rfl, rfl⟩
theorem f142_spec' (x : Int) : Gives Tryz.prog 142 [vint x] (vbool false) := by
 intro s; refine acalls_of (fn := Tryz.f142) Tryz.func142 rfl (by decide) (by show 1 ≤ 6; decide) ?_; rw [Tryz.ntmps142]; refine rg fun Z z' => ?_; simp only [bne_self_eq_false, am, seval, reduceCtorEq]; refine z' _ ?_; clear z' Z; refine rg fun Z z' => ?_; simp only [bne_self_eq_false, amt, seval, reduceCtorEq]; refine z' _ ?_; clear z' Z; refine AWp.ret ?_; exact rt (vs := [vbool false]) rfl ⟨rfl, rfl⟩
theorem f171_spec (x y : Int) : Gives Tryz.prog 171 [.base (.int .u8 x), .base (.int .u8 y)] (vint (cmpI x y)) := by
 intro s; refine acalls_of (fn := Tryz.f171) Tryz.func171 rfl (by decide) (by show 2 ≤ 20; decide) ?_; rw [Tryz.ntmps171]; refine rg fun Z z' => ?_; simp only [am, seval, reduceCtorEq]; refine z' _ ?_; clear z' Z; refine rg fun Z z' => ?_; simp only [am, seval, reduceCtorEq]; refine (f177_spec x _).go ?_; simp only [am, seval, reduceCtorEq]; refine z' _ ?_; clear z' Z; refine rg fun Z z' => ?_; simp only [am, seval, reduceCtorEq]; refine (f177_spec y _).go ?_; simp only [am, seval, reduceCtorEq]; refine z' _ ?_; clear z' Z; refine AWp.seq_k fun K4 hK4 => ?_; refine rg fun Z z' => ?_; simp only [am, seval, reduceCtorEq]; refine z' _ ?_; clear z' Z; refine cF (by simp only [am, seval, reduceCtorEq]) ?_; refine AWp.skip ?_; refine hK4 _ ?_; clear hK4; refine AWp.seq_k fun K6 hK6 => ?_; refine rg fun Z z' => ?_; simp only [am, seval, reduceCtorEq]; refine z' _ ?_; clear z' Z; refine cF (by simp only [am, seval, reduceCtorEq]) ?_; refine AWp.skip ?_; refine hK6 _ ?_; clear hK6; refine AWp.seq_k fun K8 hK8 => ?_; refine rg fun Z z' => ?_; simp only [amt, seval, reduceCtorEq]; refine z' _ ?_; clear z' Z; refine AWp.cond (t := decide (x < y)) (by simp only [am, seval, reduceCtorEq]) (fun h1 => ?_) (fun h1 => ?_)
 ·have e : cmpI x y = -1 := by unfold cmpI; rw [if_pos (of_decide_eq_true h1)]
  refine rg fun Z z' => ?_; simp only [am, seval, reduceCtorEq]; refine z' _ ?_; clear z' Z; refine AWp.ret ?_; exact rt (vs := [vint (-1)]) rfl ⟨by rw [e]; rfl, rfl⟩
 ·refine AWp.skip ?_; refine hK8 _ ?_; clear hK8; refine AWp.seq_k fun K11 hK11 => ?_; refine rg fun Z z' => ?_; simp only [amt, seval, reduceCtorEq]; refine z' _ ?_; clear z' Z; refine AWp.cond (t := decide (x > y)) (by simp only [am, seval, reduceCtorEq]) (fun h2 => ?_) (fun h2 => ?_)
  ·have e : cmpI x y = 1 := by unfold cmpI; rw [if_neg (of_decide_eq_false h1), if_pos (of_decide_eq_true h2)]
   refine rg fun Z z' => ?_; simp only [am, seval, reduceCtorEq]; refine z' _ ?_; clear z' Z; refine AWp.ret ?_; exact rt (vs := [vint (1)]) rfl ⟨by rw [e]; rfl, rfl⟩
  ·have e : cmpI x y = 0 := by unfold cmpI; rw [if_neg (of_decide_eq_false h1), if_neg (of_decide_eq_false h2)]
   refine AWp.skip ?_; refine hK11 _ ?_; clear hK11; refine rg fun Z z' => ?_; simp only [am, seval, reduceCtorEq]; refine z' _ ?_; clear z' Z; refine AWp.ret ?_; exact rt (vs := [vint (0)]) rfl ⟨by rw [e]; rfl, rfl⟩
theorem f172_spec (x y : Int) : Gives Tryz.prog 172 [vint x, vint y] (vint (cmpI x y)) := by
 intro s; refine acalls_of (fn := Tryz.f172) Tryz.func172 rfl (by decide) (by show 2 ≤ 20; decide) ?_; rw [Tryz.ntmps172]; refine rg fun Z z' => ?_; simp only [am, seval, reduceCtorEq]; refine z' _ ?_; clear z' Z; refine rg fun Z z' => ?_; simp only [am, seval, reduceCtorEq]; refine (f142_spec' x _).go ?_; simp only [am, seval, reduceCtorEq]; refine z' _ ?_; clear z' Z; refine rg fun Z z' => ?_; simp only [am, seval, reduceCtorEq]; refine (f142_spec' y _).go ?_; simp only [am, seval, reduceCtorEq]; refine z' _ ?_; clear z' Z; refine AWp.seq_k fun K4 hK4 => ?_; refine rg fun Z z' => ?_; simp only [am, seval, reduceCtorEq]; refine z' _ ?_; clear z' Z; refine cF (by simp only [am, seval, reduceCtorEq]) ?_; refine AWp.skip ?_; refine hK4 _ ?_; clear hK4; refine AWp.seq_k fun K6 hK6 => ?_; refine rg fun Z z' => ?_; simp only [am, seval, reduceCtorEq]; refine z' _ ?_; clear z' Z; refine cF (by simp only [am, seval, reduceCtorEq]) ?_; refine AWp.skip ?_; refine hK6 _ ?_; clear hK6; refine AWp.seq_k fun K8 hK8 => ?_; refine rg fun Z z' => ?_; simp only [amt, seval, reduceCtorEq]; refine z' _ ?_; clear z' Z; refine AWp.cond (t := decide (x < y)) (by simp only [am, seval, reduceCtorEq]) (fun h1 => ?_) (fun h1 => ?_)
 ·have e : cmpI x y = -1 := by unfold cmpI; rw [if_pos (of_decide_eq_true h1)]
  refine rg fun Z z' => ?_; simp only [am, seval, reduceCtorEq]; refine z' _ ?_; clear z' Z; refine AWp.ret ?_; exact rt (vs := [vint (-1)]) rfl ⟨by rw [e]; rfl, rfl⟩
 ·refine AWp.skip ?_; refine hK8 _ ?_; clear hK8; refine AWp.seq_k fun K11 hK11 => ?_; refine rg fun Z z' => ?_; simp only [amt, seval, reduceCtorEq]; refine z' _ ?_; clear z' Z; refine AWp.cond (t := decide (x > y)) (by simp only [am, seval, reduceCtorEq]) (fun h2 => ?_) (fun h2 => ?_)
  ·have e : cmpI x y = 1 := by unfold cmpI; rw [if_neg (of_decide_eq_false h1), if_pos (of_decide_eq_true h2)]
   refine rg fun Z z' => ?_; simp only [am, seval, reduceCtorEq]; refine z' _ ?_; clear z' Z; refine AWp.ret ?_; exact rt (vs := [vint (1)]) rfl ⟨by rw [e]; rfl, rfl⟩
  ·have e : cmpI x y = 0 := by unfold cmpI; rw [if_neg (of_decide_eq_false h1), if_neg (of_decide_eq_false h2)]
   refine AWp.skip ?_; refine hK11 _ ?_; clear hK11; refine rg fun Z z' => ?_; simp only [am, seval, reduceCtorEq]; refine z' _ ?_; clear z' Z; refine AWp.ret ?_; exact rt (vs := [vint (0)]) rfl ⟨by rw [e]; rfl, rfl⟩
theorem f169_spec (b : UInt8) : Gives Tryz.prog 169 [.base (.int .u8 ((b.toNat : Nat) : Int))] (.base (.int .u8 (((low b).toNat : Nat) : Int))) := by
 intro s; refine acalls_of (fn := Tryz.f169) Tryz.func169 rfl (by decide) (by show 1 ≤ 12; decide) ?_; rw [Tryz.ntmps169]; refine rg fun Z z' => ?_; simp only [am, seval, reduceCtorEq]; refine z' _ ?_; clear z' Z; refine AWp.seq_k fun K2 hK2 => ?_; refine rg fun Z z' => ?_; rcases (Bool.eq_false_or_eq_true (decide (((b.toNat : Nat) : Int) ≥ 65))).symm with hc0 | hc0
 ·simp only [hc0, amt, seval, reduceCtorEq]; refine z' _ ?_; clear z' Z; have hlow := low_no1 b (of_decide_eq_false hc0); refine cF (by simp only [am, seval, reduceCtorEq]) ?_; refine AWp.skip ?_; refine hK2 _ ?_; clear hK2; refine rg fun Z z' => ?_; simp only [am, seval, reduceCtorEq]; refine z' _ ?_; clear z' Z; refine AWp.ret ?_; exact rt (vs := [.base (.int .u8 ((b.toNat : Nat) : Int))]) rfl ⟨by rw [hlow]; rfl, rfl⟩
 ·simp only [hc0, amt, seval, reduceCtorEq]; refine z' _ ?_; clear z' Z; refine AWp.cond (t := decide (((b.toNat : Nat) : Int) ≤ 90)) (by simp only [am, seval, reduceCtorEq]) (fun hc1 => ?_) (fun hc1 => ?_)
  ·have hlow := low_yes b (of_decide_eq_true hc0) (of_decide_eq_true hc1); refine rg fun Z z' => ?_; simp only [amt, seval, reduceCtorEq]; refine z' _ ?_; clear z' Z; refine AWp.ret ?_; exact rt (vs := [.base (.int .u8 (IntKind.u8.wrap (((b.toNat : Nat) : Int) + 32)))]) rfl ⟨by rw [hlow]; rfl, rfl⟩
  ·have hlow := low_no2 b (of_decide_eq_false hc1); refine AWp.skip ?_; refine hK2 _ ?_; clear hK2; refine rg fun Z z' => ?_; simp only [am, seval, reduceCtorEq]; refine z' _ ?_; clear z' Z; refine AWp.ret ?_; exact rt (vs := [.base (.int .u8 ((b.toNat : Nat) : Int))]) rfl ⟨by rw [hlow]; rfl, rfl⟩
theorem f160_spec (a b : ByteArray) (hb : b.size ≤ 2^62) (s : Heap) : ACalls Tryz.prog 160 [vstr a, vstr b, vint 1] s fun v s' => ∃ n : Int, v = vint n ∧ (n == 0) = eqName a b ∧ s' = s := by
 have h11 : ((1 : Int) == 1) = true := rfl; have hm : (if ((b.size : Nat) : Int) < ((a.size : Nat) : Int) then ((b.size : Nat) : Int) else ((a.size : Nat) : Int)) = ((min a.size b.size : Nat) : Int) := by split <;> omega
 refine acalls_of (fn := Tryz.f160) Tryz.func160 rfl (by decide) (by show 3 ≤ 47; decide) ?_; rw [Tryz.ntmps160]; refine rg fun Z z' => ?_; simp only [am, seval, reduceCtorEq]; refine z' _ ?_; clear z' Z; refine rg fun Z z' => ?_; simp only [am, seval, reduceCtorEq]; refine z' _ ?_; clear z' Z; refine AWp.seq_k fun K3 hK3 => ?_; refine rg fun Z z' => ?_; simp only [am, seval, reduceCtorEq]; refine z' _ ?_; clear z' Z; refine AWp.block ?_; refine rg fun Z z' => ?_; simp only [h11, amt, seval, reduceCtorEq]; refine z' _ ?_; clear z' Z; refine cT (by simp only [am, seval, reduceCtorEq]) ?_; refine rg1 fun Z z' => ?_; simp only [am, seval, reduceCtorEq]; refine z' _ ?_; clear z' Z; refine hK3 _ ?_; clear hK3; refine AWp.seq_k fun K7 hK7 => ?_; refine AWp.regX 4 rfl (by decide +kernel) fun Z z' => ?_; simp only [k12, k13, k14, amt, seval, reduceCtorEq]; refine ⟨by simp only [gdOf, am, seval, reduceCtorEq], _, min_ints (k := .i64) (k' := .i64) (n := ((a.size : Nat) : Int)) (m := ((b.size : Nat) : Int)) rfl (by simp only [am, seval, reduceCtorEq]) (by simp only [am, seval, reduceCtorEq]) (by simp only [am, seval, reduceCtorEq]), ?_⟩; rintro _ rfl; simp only [k15, k16, k17, hm, amt, seval, reduceCtorEq]; refine z' _ ?_; clear z' Z; refine AWp.block ?_; have hmx := maxLen_lt; refine AWp.loopT (ι := Nat) (fun i => i ≤ min a.size b.size ∧ (fold a).take i = (fold b).take i) (fun i => tst [(0, vstr a), (1, vstr b), (7, .func 169 [] []), (23, vint (min a.size b.size : Nat)), (24, vint i)] [] s 47) (fun i => min a.size b.size - i) 0 ⟨⟨Nat.zero_le _, by simp⟩, ?_⟩ ?_
 ·refine lt0 ?_ ?_ ?_
  ·simp only [leE, am, seval, reduceCtorEq] <;> simp
  ·simp only [okL, and_self]
  ·simp only [leB]
 ·rintro i ⟨hi, hno⟩; refine rg fun Z z' => ?_; simp only [amt, seval, reduceCtorEq]; refine z' _ ?_; clear z' Z; refine AWp.seq_k fun K10 hK10 => ?_; refine AWp.cond (t := decide ((i:Int) < (min a.size b.size : Nat))) (by simp only [am, seval, reduceCtorEq]) (fun ht => ?_) (fun ht => ?_)
  ·have hlt : i < min a.size b.size := lt_of_dec ht; have hla : i < a.size := by omega
   have hlb : i < b.size := by omega
   have ix0 : (0 ≤ (i : Int)) = True := by simp
   have ix1 : ((i : Int) < ((a.size : Nat) : Int)) = True := by simp [hla]
   have ix2 : ((i : Int) < ((b.size : Nat) : Int)) = True := by simp [hlb]
   refine AWp.skip ?_; refine hK10 _ ?_; clear hK10; refine AWp.seq_k fun K11 hK11 => ?_; refine AWp.block ?_; refine rg fun Z z' => ?_; simp only [am, seval, reduceCtorEq]; refine z' _ ?_; clear z' Z; refine AWp.regL mixed [0, 1, 2, 3, 5, 6, 7, 8, 4, 9, 10, 11] (by decide +kernel) [99999] (by decide +kernel) fun Z z' => ?_; simp only [ix0, ix1, ix2, true_and, Int.toNat_natCast, aml, Nat.reduceBEq, amt, seval, reduceCtorEq]; refine (f169_spec (a.data.toList.getD i 0) _).go ?_; simp only [ix0, ix1, ix2, true_and, Int.toNat_natCast, aml, Nat.reduceBEq, amt, seval, reduceCtorEq]; refine (f169_spec (b.data.toList.getD i 0) _).go ?_; simp only [ix0, ix1, ix2, true_and, Int.toNat_natCast, aml, Nat.reduceBEq, amt, seval, reduceCtorEq]; refine (f171_spec _ _ _).go ?_; simp only [ix0, ix1, ix2, true_and, Int.toNat_natCast, aml, Nat.reduceBEq, amt, seval, reduceCtorEq]; refine z' _ ?_; clear z' Z; refine rg fun Z z' => ?_; simp only [amt, seval, reduceCtorEq]; refine z' _ ?_; clear z' Z; refine AWp.cond (t := cmpI (((low (a.data.toList.getD i 0)).toNat : Nat) : Int) (((low (b.data.toList.getD i 0)).toNat : Nat) : Int) != 0) (by simp only [am, seval, reduceCtorEq]) (fun hc => ?_) (fun hc => ?_)
   ·refine rg fun Z z' => ?_; simp only [am, seval, reduceCtorEq]; refine z' _ ?_; clear z' Z; refine AWp.ret ?_; exact rt (vs := [vint (cmpI (((low (a.data.toList.getD i 0)).toNat : Nat) : Int) (((low (b.data.toList.getD i 0)).toNat : Nat) : Int))]) rfl ⟨_, rfl, fold_mid hla hlb hc, rfl⟩
   ·refine AWp.skip ?_; refine hK11 _ ?_; clear hK11; refine rg1 fun Z z' => ?_; simp only [amt, seval, reduceCtorEq]; refine z' _ ?_; clear z' Z; refine ⟨i + 1, ⟨⟨hlt, fold_step hla hlb hno (cmp_same hc)⟩, by omega⟩, ?_⟩; refine lt0 ?_ ?_ ?_
    ·simp only [leE, am, seval, reduceCtorEq]; rw [wrap_id (by omega) (by omega)]; simp
    ·simp only [okL, and_self]
    ·simp only [leB]
  ·obtain rfl : i = min a.size b.size := eq_of_dec ht hi; refine AWp.exit ?_; simp only [exq, seval]; refine hK7 _ ?_; clear hK7; refine rg fun Z z' => ?_; simp only [amt, seval, reduceCtorEq]; refine (f172_spec _ _ _).go ?_; simp only [amt, seval, reduceCtorEq]; refine z' _ ?_; clear z' Z; refine AWp.ret ?_; exact rt (vs := [vint (cmpI ((a.size : Nat) : Int) ((b.size : Nat) : Int))]) rfl ⟨_, rfl, fold_end hno, rfl⟩
theorem f148_spec (a b : ByteArray) (hb : b.size ≤ 2^62) : Gives Tryz.prog 148 [vstr a, vstr b, vint 1] (vbool (eqName a b)) := by
 intro s; refine acalls_of (fn := Tryz.f148) Tryz.func148 rfl (by decide) (by show 3 ≤ 12; decide) ?_; rw [Tryz.ntmps148]; refine rg fun Z z' => ?_; simp only [am, seval, reduceCtorEq]; refine z' _ ?_; clear z' Z; refine rg fun Z z' => ?_; simp only [amt, seval, reduceCtorEq]; refine (f160_spec a b hb _).mono ?_; rintro _ _ ⟨n, rfl, hn, rfl⟩; simp only [hn, amt, seval, reduceCtorEq]; refine z' _ ?_; clear z' Z; refine AWp.ret ?_; exact rt (vs := [vbool (eqName a b)]) rfl ⟨rfl, rfl⟩
theorem f121_spec (a b : ByteArray) (hb : b.size ≤ 2^62) : Gives Tryz.prog 121 [vstr a, vstr b] (vbool (eqName a b)) := by
 intro s; refine acalls_of (fn := Tryz.f121) Tryz.func121 rfl (by decide) (by show 2 ≤ 8; decide) ?_; rw [Tryz.ntmps121]; refine rg fun Z z' => ?_; simp only [am, seval, reduceCtorEq]; refine z' _ ?_; clear z' Z; refine rg fun Z z' => ?_; simp only [am, seval, reduceCtorEq]; refine (f148_spec a b hb _).go ?_; simp only [am, seval, reduceCtorEq]; refine z' _ ?_; clear z' Z; refine AWp.ret ?_; exact rt (vs := [vbool (eqName a b)]) rfl ⟨rfl, rfl⟩
theorem f120_spec (t : Table) (name : ByteArray) (hb : name.size ≤ 2^62) : Gives Tryz.prog 120 [.agg t.v, .elt [vstr name] 0] (vbool (eqName t.name name)) := by
 intro s; refine acalls_of (fn := Tryz.f120) Tryz.func120 rfl (by decide) (by show 2 ≤ 8; decide) ?_; rw [Tryz.ntmps120]; refine rg fun Z z' => ?_; simp only [Table.v_eq, amt, seval, reduceCtorEq]; refine z' _ ?_; clear z' Z; refine rg fun Z z' => ?_; simp only [Table.v_eq, amt, seval, reduceCtorEq]; refine (f121_spec t.name name hb _).go ?_; simp only [Table.v_eq, amt, seval, reduceCtorEq]; refine z' _ ?_; clear z' Z; refine AWp.ret ?_; exact rt (vs := [vbool (eqName t.name name)]) rfl ⟨rfl, rfl⟩
def SchOk (sc : Schema) : Prop := sc.views.isCell = true ∧ ∀ t ∈ sc.tables, t.cols.length ≤ 550024249344
theorem f76_spec (sc : Schema) (hs : SchOk sc) (name : ByteArray) (hb : name.size ≤ 2^62) : Gives Tryz.prog 76 [.agg sc.v, vstr name] (.tuple [.agg (sc.table name).v, vbool (sc.hasTable name)]) := by
 have h3' := hs.1; have hco := hs.2; intro s; rcases Bool.eq_false_or_eq_true (sc.tables.any fun t => eqName t.name name) with hany | hany
 ·obtain ⟨i, hi, he, hp, _⟩ := idx_sat (fun t => eqName t.name name) sc.tables hany; have hidx : decide (idx (fun t => eqName t.name name) sc.tables < 0) = false := by rw [he]; simp
  have ix0 : (0 ≤ ((i : Nat) : Int)) = True := by simp
  have ix1 : (((i : Nat) : Int) < ((sc.tables.length : Nat) : Int)) = True := by simp [hi]
  have hgd : (sc.tables.map Table.v).getD i [] = sc.tables[i].v := by simp [List.getD_eq_getElem?_getD, hi]
  have htab : sc.table name = sc.tables[i] := by unfold Schema.table; rw [if_pos hany]; unfold Schema.tableIx; rw [he]; simp [List.getD_eq_getElem?_getD, hi]
  have hhas : sc.hasTable name = true := hany; refine acalls_of (fn := Tryz.f76) Tryz.func76 rfl (by decide) (by show 2 ≤ 25; decide) ?_; rw [Tryz.ntmps76]; refine rg fun Z z' => ?_; simp only [h3', Schema.v_eq, amt, seval, reduceCtorEq]; refine z' _ ?_; clear z' Z; refine AWp.frz 3 (cs := [vstr name]) (ty := 9) (by simp only [am, seval, reduceCtorEq]) ?_; refine AWp.weaken (st' := tst [(2, .loc 2 0), (3, .elt [vstr name] 0), (4, .loc 4 0), (5, vbool false)] [(2, (sc.v, 26)), (4, ([vstr .empty, .nil, vint 0], 137))] (s) 25) ?_ ?_
  ·refine lt0 ?_ ?_ ?_
   ·simp only [leE, St.frz, frzV, Schema.v_eq, am, seval, reduceCtorEq]
   ·simp only [oks, Nat.reduceBEq]
   ·simp only [leB, St.frz, Schema.v_eq, am, seval, reduceCtorEq]
  refine rg fun Z z' => ?_; simp only [Schema.v_eq, amt, seval, reduceCtorEq]; refine (f119_spec _ sc.tables (fun t => eqName t.name name) 120 [.elt [vstr name] 0] (fun t _ => f120_spec t name hb _)).go ?_; simp only [Schema.v_eq, amt, seval, reduceCtorEq]; refine z' _ ?_; clear z' Z; refine AWp.seq_k fun K3 hK3 => ?_; refine rg fun Z z' => ?_; simp only [hidx, amt, seval, reduceCtorEq]; refine z' _ ?_; clear z' Z; refine cF (by simp only [am, seval, reduceCtorEq]) ?_; refine AWp.skip ?_; refine hK3 _ ?_; clear hK3; refine rg fun Z z' => ?_; simp only [Schema.v_eq, ix0, ix1, true_and, Int.toNat_natCast, he, hgd, Table.v_eq, amt, seval, reduceCtorEq]; refine z' _ ?_; clear z' Z; refine rg fun Z z' => ?_; simp only [amt, seval, reduceCtorEq]; refine (f122_spec _ (by rw [List.length_map]; exact hco _ (List.getElem_mem hi)) _).go ?_; simp only [amt, seval, reduceCtorEq]; refine z' _ ?_; clear z' Z; refine rg fun Z z' => ?_; simp only [amt, seval, reduceCtorEq]; refine z' _ ?_; clear z' Z; refine AWp.ret ?_; refine rt (vs := [.agg [vstr sc.tables[i].name, .slice 8 (sc.tables[i].cols.map fun l => l.map V.base), vint sc.tables[i].pk], vbool true]) (by show resV Tryz.prog _ [.cell 4 137, .tmp 5] = _; simp only [resV, amt, seval, reduceCtorEq]) ⟨?_, rfl⟩; rw [htab, hhas]; rfl
 ·have hidx : decide (idx (fun t => eqName t.name name) sc.tables < 0) = true := by unfold idx; rw [if_neg (by rw [hany]; decide)]; rfl
  have htab : sc.table name = ztable := by unfold Schema.table; rw [if_neg (by rw [hany]; decide)]
  have hhas : sc.hasTable name = false := hany; refine acalls_of (fn := Tryz.f76) Tryz.func76 rfl (by decide) (by show 2 ≤ 25; decide) ?_; rw [Tryz.ntmps76]; refine rg fun Z z' => ?_; simp only [h3', Schema.v_eq, amt, seval, reduceCtorEq]; refine z' _ ?_; clear z' Z; refine AWp.frz 3 (cs := [vstr name]) (ty := 9) (by simp only [am, seval, reduceCtorEq]) ?_; refine AWp.weaken (st' := tst [(2, .loc 2 0), (3, .elt [vstr name] 0), (4, .loc 4 0), (5, vbool false)] [(2, (sc.v, 26)), (4, ([vstr .empty, .nil, vint 0], 137))] (s) 25) ?_ ?_
  ·refine lt0 ?_ ?_ ?_
   ·simp only [leE, St.frz, frzV, Schema.v_eq, am, seval, reduceCtorEq]
   ·simp only [oks, Nat.reduceBEq]
   ·simp only [leB, St.frz, Schema.v_eq, am, seval, reduceCtorEq]
  refine rg fun Z z' => ?_; simp only [Schema.v_eq, amt, seval, reduceCtorEq]; refine (f119_spec _ sc.tables (fun t => eqName t.name name) 120 [.elt [vstr name] 0] (fun t _ => f120_spec t name hb _)).go ?_; simp only [Schema.v_eq, amt, seval, reduceCtorEq]; refine z' _ ?_; clear z' Z; refine AWp.seq_k fun K3 hK3 => ?_; refine rg fun Z z' => ?_; simp only [hidx, amt, seval, reduceCtorEq]; refine z' _ ?_; clear z' Z; refine cT (by simp only [am, seval, reduceCtorEq]) ?_; refine rg fun Z z' => ?_; simp only [amt, seval, reduceCtorEq]; refine z' _ ?_; clear z' Z; refine AWp.ret ?_; refine ret_intro (vs := [.agg [vstr .empty, .nil, vint 0], vbool false]) (by show resV Tryz.prog _ [.cell 4 137, .tmp 5] = _; simp only [resV, amt, seval, reduceCtorEq]) (show Wk _ (.tuple [.agg [vstr .empty, .slice 8 [], vint 0], vbool false]) from Wk.tuple ⟨Wk.agg ⟨Wk.refl _, Wk.nil _, Wk.refl _, trivial⟩, Wk.refl _, trivial⟩) (Heap.le.refl _) ⟨?_, rfl⟩; rw [htab, hhas]; rfl
theorem und243 : Tryz.prog.underlying 243 = some (.slice 5) := by kernel_rfl
theorem und5 : Tryz.prog.underlying 5 = some (.int .u8) := by kernel_rfl
theorem und9 : Tryz.prog.underlying 9 = some .string := by kernel_rfl
theorem low_succ {a : ByteArray} {i : Nat} (h : i < a.size) : (a.data.toList.take (i + 1)).map low = (a.data.toList.take i).map low ++ [low (a.data.toList.getD i 0)] := by
 have h1 : i < a.data.toList.length := by rw [size_data]; exact h
 rw [List.take_succ_eq_append_getElem h1, getD_at h1]; simp
theorem fold_take {a : ByteArray} : (a.data.toList.take a.size).map low = fold a := by rw [fold_data, List.take_of_length_le (by rw [size_data]; exact Nat.le_refl _)]
theorem fold_eq {a b : ByteArray} : ((⟨(fold a).toArray⟩ : ByteArray).toList == (⟨(fold b).toArray⟩ : ByteArray).toList) = eqName a b := by
 unfold eqName; rw [ByteArray.toList_eq, ByteArray.toList_eq]
theorem f165_spec (a : ByteArray) (ha : a.size ≤ 550024249344) : Gives Tryz.prog 165 [vstr a, vint 1] (vstr ⟨(fold a).toArray⟩) := by
 have h11 : ((1 : Int) != 1) = false := rfl; have h12 : ((1 : Int) == 2) = false := rfl; intro s; refine acalls_of (fn := Tryz.f165) Tryz.func165 rfl (by decide) (by show 2 ≤ 54; decide) ?_; rw [Tryz.ntmps165]; refine rg fun Z z' => ?_; simp only [am, seval, reduceCtorEq]; refine z' _ ?_; clear z' Z; refine AWp.seq_k fun K2 hK2 => ?_; refine rg fun Z z' => ?_; simp only [h12, amt, seval, reduceCtorEq]; refine z' _ ?_; clear z' Z; refine cF (by simp only [am, seval, reduceCtorEq]) ?_; refine AWp.skip ?_; refine hK2 _ ?_; clear hK2; refine AWp.seq_k fun K4 hK4 => ?_; refine rg fun Z z' => ?_; simp only [h11, amt, seval, reduceCtorEq]; refine z' _ ?_; clear z' Z; refine cF (by simp only [am, seval, reduceCtorEq]) ?_; refine AWp.skip ?_; refine hK4 _ ?_; clear hK4; refine rg fun Z z' => ?_; simp only [am, seval, reduceCtorEq]; refine z' _ ?_; clear z' Z; refine AWp.seq_k fun K7 hK7 => ?_; refine rg fun Z z' => ?_; simp only [am, seval, reduceCtorEq]; refine z' _ ?_; clear z' Z; refine AWp.block ?_; refine AWp.adoptE 5 (5, 1) (.inl (by simp only [am, seval, reduceCtorEq])) fun g0 hg0 => ?_; change s.own g0 = none at hg0; refine AWp.loopT (ι := Nat × Nat) (fun i => i.1 ≤ a.size ∧ s.own i.2 = none) (fun i => tst [(0, vstr a), (5, .own i.2 1 (((a.data.toList.take i.1).map low).map encB)), (6, vint i.1)] [] (s.setOwn i.2 (some (5, 1))) 54) (fun i => a.size - i.1) (0, g0) ⟨⟨Nat.zero_le _, hg0⟩, ?_⟩ ?_
 ·refine lt0 ?_ ?_ ?_
  ·simp only [leE, am, seval, reduceCtorEq] <;> simp
  ·simp only [okL, and_self]
  ·simp only [leB]
 ·rintro ⟨i, g1⟩ ⟨hi, hg1⟩; simp only at hi hg1 ⊢; refine AWp.seq_k fun K9 hK9 => ?_; refine rg fun Z z' => ?_; simp only [amt, seval, reduceCtorEq]; refine z' _ ?_; clear z' Z; refine AWp.cond (t := decide ((i:Int) < a.size)) (by simp only [am, seval, reduceCtorEq]) (fun ht => ?_) (fun ht => ?_)
  ·have hlt : i < a.size := lt_of_dec ht; have ix0 : (0 ≤ (i : Int)) = True := by simp
   have ix1 : ((i : Int) < (a.size : Int)) = True := by simp [hlt]
   refine AWp.skip ?_; refine hK9 _ ?_; clear hK9; refine AWp.seq_k fun K11 hK11 => ?_; refine AWp.block ?_; refine rg fun Z z' => ?_; simp only [ix0, ix1, true_and, Int.toNat_natCast, amt, seval, reduceCtorEq]; refine z' _ ?_; clear z' Z; refine AWp.seq_cut (ι := Unit) (fun _ => True) (fun _ => tst [(0, vstr a), (5, .own g1 1 (((a.data.toList.take i).map low).map encB)), (6, vint i), (7, .base (.int .u8 (((low (a.data.toList.getD i 0)).toNat : Nat) : Int)))] [] (s.setOwn g1 (some (5, 1))) 54) ?_ ?_
   ·refine rg fun Z z' => ?_; rcases (Bool.eq_false_or_eq_true (decide ((((a.data.toList.getD i 0).toNat : Nat) : Int) ≥ 65))).symm with hc0 | hc0
    ·simp only [hc0, amt, seval, reduceCtorEq]; refine z' _ ?_; clear z' Z; have hlow := low_no1 (a.data.toList.getD i 0) (of_decide_eq_false hc0); refine cF (by simp only [am, seval, reduceCtorEq]) ?_; refine AWp.skip ?_; refine ⟨(), trivial, ?_⟩; refine lt0 ?_ ?_ ?_
     ·simp only [leE, am, seval, reduceCtorEq]; rw [hlow]
     ·simp only [okL, and_self]
     ·simp only [leB]
    ·simp only [hc0, amt, seval, reduceCtorEq]; refine z' _ ?_; clear z' Z; refine AWp.cond (t := decide ((((a.data.toList.getD i 0).toNat : Nat) : Int) ≤ 90)) (by simp only [am, seval, reduceCtorEq]) (fun hc1 => ?_) (fun hc1 => ?_)
     ·have hc0' := of_decide_eq_true hc0; have hc1' := of_decide_eq_true hc1; have hlow := low_yes (a.data.toList.getD i 0) hc0' hc1'; refine rg1 fun Z z' => ?_; simp only [amt, seval, reduceCtorEq]; refine z' _ ?_; clear z' Z; refine ⟨(), trivial, ?_⟩; refine lt0 ?_ ?_ ?_
      ·simp only [leE, am, seval, reduceCtorEq]; rw [hlow]; rw [wrap_u8 (n := ((((a.data.toList.getD i 0).toNat : Nat) : Int) - 65)) (by omega) (by omega)]; exact congrArg (fun z => V.base (Value.int IntKind.u8 (IntKind.u8.wrap z))) (by omega)
      ·simp only [okL, and_self]
      ·simp only [leB]
     ·have hlow := low_no2 (a.data.toList.getD i 0) (of_decide_eq_false hc1); refine AWp.skip ?_; refine ⟨(), trivial, ?_⟩; refine lt0 ?_ ?_ ?_
      ·simp only [leE, am, seval, reduceCtorEq]; rw [hlow]
      ·simp only [okL, and_self]
      ·simp only [leB]
   ·rintro ⟨⟩ _; refine rg1 fun Z z' => ?_; simp only [amt, seval, reduceCtorEq]; have hlen : (a.data.toList.take i).length = i := by rw [List.length_take]; have := size_data a; omega
    refine ⟨own_same _ _ _, by simp only [List.length_map, hlen]; omega, by simp only [List.length_map, hlen, maxLen]; omega, fun g2 hg2 => ?_⟩; refine z' _ ?_; clear z' Z; refine hK11 _ ?_; clear hK11; refine rg1 fun Z z' => ?_; simp only [amt, seval, reduceCtorEq]; refine z' _ ?_; clear z' Z; refine ⟨(i + 1, g2), ⟨⟨hlt, own_fresh hg2⟩, by simp only; omega⟩, ?_⟩; refine le_tst ?_ ?_ ?_ (own_step hg1 _ _ _) rfl
    ·simp only [leE, am, seval, reduceCtorEq]; rw [wrap_id (by omega) (by omega), low_succ hlt]; simp [encB]
    ·simp only [okL, and_self]
    ·simp only [leB]
  ·obtain rfl : i = a.size := eq_of_dec ht hi; refine AWp.exit ?_; simp only [exq, seval]; refine hK7 _ ?_; clear hK7; refine AWp.regX 1 rfl (by decide +kernel) fun Z z' => ?_; simp only [k12, k13, k14, amt, seval, reduceCtorEq]; refine ⟨by simp only [gdOf, am, seval, reduceCtorEq], _, conv_string (e := 5) (l := (a.data.toList.take a.size).map low) rfl und243 und5 und9 (by simp only [am, seval, reduceCtorEq]) (by simp only [am, seval, reduceCtorEq]), ?_⟩; rintro _ rfl; simp only [k15, k16, k17, amt, seval, reduceCtorEq]; refine z' _ ?_; clear z' Z; refine AWp.ret ?_; refine ret_intro (vs := [vstr ⟨((a.data.toList.take a.size).map low).toArray⟩]) rfl (Wk.refl _) (own_drop hg1 _) ⟨?_, rfl⟩; rw [fold_take]; rfl
theorem f154_spec (a b : ByteArray) (haa : a.size ≤ 550024249344) (hab : b.size ≤ 550024249344) : Gives Tryz.prog 154 [vstr a, vstr b] (vbool (eqName a b)) := by
 intro s; refine acalls_of (fn := Tryz.f154) Tryz.func154 rfl (by decide) (by show 2 ≤ 10; decide) ?_; rw [Tryz.ntmps154]; refine rg fun Z z' => ?_; simp only [am, seval, reduceCtorEq]; refine z' _ ?_; clear z' Z; refine rg fun Z z' => ?_; simp only [amt, seval, reduceCtorEq]; refine (f165_spec a haa _).go ?_; simp only [fold_eq, amt, seval, reduceCtorEq]; refine (f165_spec b hab _).go ?_; simp only [fold_eq, amt, seval, reduceCtorEq]; refine z' _ ?_; clear z' Z; refine AWp.ret ?_; exact rt (vs := [vbool (eqName a b)]) rfl ⟨rfl, rfl⟩
theorem f133_spec (sc : Schema) (hs : SchOk sc) (name : ByteArray) (hn : name.size ≤ 550024249344) (hns : ∀ t ∈ sc.tables, t.name.size ≤ 550024249344) : Gives Tryz.prog 133 [.agg sc.v, vstr name] (vint (sc.tableIx name)) := by
 have h3' := hs.1; intro s; refine acalls_of (fn := Tryz.f133) Tryz.func133 rfl (by decide) (by show 2 ≤ 22; decide) ?_; rw [Tryz.ntmps133]; refine rg fun Z z' => ?_; simp only [h3', Schema.v_eq, amt, seval, reduceCtorEq]; refine z' _ ?_; clear z' Z; refine AWp.seq_k fun K2 hK2 => ?_; refine rg fun Z z' => ?_; simp only [am, seval, reduceCtorEq]; refine z' _ ?_; clear z' Z; refine AWp.block ?_; refine AWp.loopT (ι := Nat) (fun i => i ≤ sc.tables.length ∧ (sc.tables.take i).any (fun t => eqName t.name name) = false) (fun i => tst [(1, vstr name), (2, .loc 2 0), (5, vint i)] [(2, (sc.v, 26))] s 22) (fun i => sc.tables.length - i) 0 ⟨⟨Nat.zero_le _, by simp⟩, ?_⟩ ?_
 ·refine lt0 ?_ ?_ ?_
  ·simp only [leE, am, seval, reduceCtorEq] <;> simp
  ·simp only [oks, Nat.reduceBEq]
  ·simp only [leB, Schema.v_eq, am, seval, reduceCtorEq]
 ·rintro i ⟨hi, hno⟩; refine AWp.seq_k fun K4 hK4 => ?_; refine rg fun Z z' => ?_; simp only [Schema.v_eq, amt, seval, reduceCtorEq]; refine z' _ ?_; clear z' Z; refine AWp.slen 8 (sz := 3) (es := sc.tables.map Table.v) (by simp only [am, seval, reduceCtorEq]) fun hmax => ?_; have hmx := maxLen_lt; rw [List.length_map] at hmax; refine AWp.cond (t := decide ((i:Int) < sc.tables.length)) (by simp only [am, seval, reduceCtorEq]) (fun ht => ?_) (fun ht => ?_)
  ·have hlt : i < sc.tables.length := lt_of_dec ht; have ix0 : (0 ≤ (i : Int)) = True := by simp
   have ix1 : ((i : Int) < (sc.tables.length : Int)) = True := by simp [hlt]
   refine AWp.skip ?_; refine hK4 _ ?_; clear hK4; refine AWp.seq_k fun K6 hK6 => ?_; refine AWp.block ?_; refine rg fun Z z' => ?_; simp only [Schema.v_eq, ix0, ix1, true_and, getD_map _ _ _ hlt, Table.v_eq, amt, seval, reduceCtorEq]; refine (f154_spec sc.tables[i].name name (hns _ (List.getElem_mem hlt)) hn _).go ?_; simp only [Schema.v_eq, ix0, ix1, true_and, getD_map _ _ _ hlt, Table.v_eq, amt, seval, reduceCtorEq]; refine z' _ ?_; clear z' Z; refine AWp.cond (t := eqName sc.tables[i].name name) (by simp only [am, seval, reduceCtorEq]) (fun hp => ?_) (fun hp => ?_)
   ·refine rg fun Z z' => ?_; simp only [am, seval, reduceCtorEq]; refine z' _ ?_; clear z' Z; refine AWp.ret ?_; exact rt (vs := [vint i]) rfl ⟨by unfold Schema.tableIx; rw [idx_at hlt hno hp]; rfl, rfl⟩
   ·refine AWp.skip ?_; refine hK6 _ ?_; clear hK6; refine rg1 fun Z z' => ?_; simp only [amt, seval, reduceCtorEq]; refine z' _ ?_; clear z' Z; refine ⟨i + 1, ⟨⟨hlt, any_take_succ hlt hno hp⟩, by omega⟩, ?_⟩; refine lt0 ?_ ?_ ?_
    ·simp only [leE, am, seval, reduceCtorEq]; rw [wrap_id (by omega) (by omega)]; simp
    ·simp only [oks, Nat.reduceBEq]
    ·simp only [leB, Schema.v_eq, am, seval, reduceCtorEq]
  ·obtain rfl : i = sc.tables.length := eq_of_dec ht hi; refine AWp.exit ?_; simp only [exq, seval]; refine hK2 _ ?_; clear hK2; refine rg fun Z z' => ?_; simp only [am, seval, reduceCtorEq]; refine z' _ ?_; clear z' Z; refine AWp.ret ?_; exact rt (vs := [vint (-1)]) rfl ⟨by unfold Schema.tableIx; rw [idx_none hno]; rfl, rfl⟩
end Go.Proofs.YtcckhbconihagaaGreatDoor
