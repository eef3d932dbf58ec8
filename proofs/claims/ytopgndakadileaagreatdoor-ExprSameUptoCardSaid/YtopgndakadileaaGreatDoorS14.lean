/- What slices.Values yields. -/
import Derived.Test.YtopgndakadileaaGreatDoorSAmSeq
import Derived.Test.YtopgndakadileaaGreatDoorSXData
import Derived.Test.YtopgndakadileaaGreatDoorSXTy
set_option linter.unusedVariables false
set_option linter.unusedSimpArgs false
set_option maxRecDepth 100000
namespace Go.Proofs.YtopgndakadileaaGreatDoor.Ex
open Go.Am Go.Ex Go.Proofs.YtopgndakadileaaGreatDoor
theorem seq203 (l : List XExpr) : SeqOk Tryz.prog 203 [.elt [.slice 10 (List.map XExpr.v l)] 0] (fun x => V.agg (XExpr.v x)) l := by
  intro lo yl s Hs h0 hY
  refine acallsO_of (fn := Tryz.f203) Tryz.func203 rfl (by decide) (by show 2 ≤ 16; decide) ?_
  rw [Tryz.ntmps203]
  refine AWp.reg fun Z1 hZ1 => ?_
  simp only [List.cons_append, List.nil_append, ty26, am, seval, reduceCtorEq]
  refine hZ1 _ ?_; clear hZ1 Z1
  refine AWp.block ?_
  refine AWp.slen 5 (sz := 10) (es := l.map XExpr.v) (by simp only [am, seval, reduceCtorEq]) fun hmax => ?_
  have hmx := maxLen_lt; rw [List.length_map] at hmax
  refine AWp.loopT (ι := Nat × Heap) (fun i => i.1 ≤ l.length ∧ Hs (l.take i.1) i.2) (fun i => tstO lo [(0, yieldV yl), (1, .elt [.slice 10 (List.map XExpr.v l)] 0), (5, .slice 10 (List.map XExpr.v l)), (6, vint l.length), (7, vint i.1)] [] i.2 16) (fun i => l.length - i.1) (0, s) ⟨⟨Nat.zero_le _, by simpa using h0⟩, ?_⟩ ?_
  · refine le_tstO ?_ ?_ ?_ (Heap.le.refl _) rfl
    · simp only [leE, yieldV, List.cons_append, List.nil_append, am, seval, reduceCtorEq] <;> simp
    · simp only [okL, yieldV, keyIn, Nat.reduceBEq, Bool.or_true, Bool.true_or, Bool.or_false, and_self]
    · simp only [leB, am, seval, reduceCtorEq]
  · rintro ⟨i, s1⟩ ⟨hi, hH⟩
    simp only at hi hH ⊢
    refine AWp.reg fun Z2 hZ2 => ?_
    simp only [ty3, tstO, am, seval, reduceCtorEq]
    refine hZ2 _ ?_; clear hZ2 Z2
    refine AWp.seq_k fun K2 hK2 => ?_
    refine AWp.cond (t := decide ((i:Int) < (l.length : Nat))) (by simp only [am, seval, reduceCtorEq]) (fun htj => ?_) (fun htj => ?_)
    · have hlt : i < l.length := by have := of_decide_eq_true htj; omega
      have ix0 : (0 ≤ (i : Int)) = True := by simp
      have ix1 : ((i : Int) < ((l.length : Nat) : Int)) = True := by simp [hlt]
      obtain ⟨y, hy0⟩ : ∃ y, l[i] = y := ⟨_, rfl⟩
      have hgy : (List.map XExpr.v l).getD (i : Int).toNat [] = y.v := by rw [Int.toNat_natCast, List.getD_eq_getElem?_getD, List.getElem?_map, List.getElem?_eq_getElem hlt, hy0]; rfl
      refine AWp.skip ?_
      refine hK2 _ ?_; clear hK2
      refine AWp.seq_k fun K3 hK3 => ?_
      refine AWp.block ?_
      refine AWp.reg fun Z3 hZ3 => ?_
      simp only [XExpr.vs, ix0, ix1, true_and, hgy, ty26, ty29, am, seval, reduceCtorEq]
      refine hZ3 _ ?_; clear hZ3 Z3
      refine AWp.regY' 2 rfl (by decide +kernel) fun Z4 hZ4 => ?_
      simp only [XExpr.vs, ty29, k12, k13, k14, am, seval, reduceCtorEq]
      refine ⟨?_, ?_, yl, [.agg y.v], _, ?_, ?_, hY _ y _ hH ⟨l.drop (i + 1), by rw [← hy0, ← List.drop_eq_getElem_cons hlt, List.take_append_drop]⟩, ?_⟩
      · simp only [gdOf, am, seval, reduceCtorEq]
      · simp only [am, seval, reduceCtorEq]
      · simp only [yieldV, am, seval, reduceCtorEq]
      · simp only [am, seval, reduceCtorEq]
      rintro _ s2 ⟨rfl, hH2⟩
      simp only [Bool.not_true, ty4, k15, k16, k17, am, seval, reduceCtorEq]
      refine hZ4 _ ?_; clear hZ4 Z4
      refine AWp.cond (t := false) (by simp only [am, seval, reduceCtorEq]) (fun h => by cases h) (fun _ => ?_)
      refine AWp.skip ?_
      refine hK3 _ ?_; clear hK3
      refine AWp.reg1 fun Z5 hZ5 => ?_
      simp only [ty3, am, seval, reduceCtorEq]
      refine hZ5 _ ?_; clear hZ5 Z5
      refine ⟨(i + 1, s2), ⟨⟨hlt, ?_⟩, by simp only; omega⟩, ?_⟩
      · have e1 : l.take (i + 1) = l.take i ++ [y] := by rw [List.take_add_one, List.getElem?_eq_getElem hlt, hy0]; rfl
        simp only [e1]; exact hH2
      refine le_tstO ?_ ?_ ?_ (Heap.le.refl _) rfl
      · simp only [leE, yieldV, tstO, am, seval, reduceCtorEq]
        have e2 : IntKind.i64.wrap ((i : Int) + 1) = ((i + 1 : Nat) : Int) := by
          rw [wrap_id (by omega) (by omega)]; simp
        first | (rw [e2]; done) | (rw [e2]; simp)
      · simp only [okL, yieldV, keyIn, Nat.reduceBEq, Bool.or_true, Bool.true_or, Bool.or_false, and_self]
      · simp only [leB, tstO, am, seval, reduceCtorEq]
    · have hge : i = l.length := by have := of_decide_eq_false htj; omega
      refine AWp.exit ?_
      simp only [thenQ, blockQ, ↓reduceIte]
      refine ⟨[], .tuple [], s1, rfl, Wk.refl _, Heap.le.refl _, ?_⟩
      rw [hge, List.take_length] at hH; exact hH
theorem seq204 (l : List XSelect) : SeqOk Tryz.prog 204 [.elt [.slice 5 (List.map XSelect.v l)] 0] (fun x => V.agg (XSelect.v x)) l := by
  intro lo yl s Hs h0 hY
  refine acallsO_of (fn := Tryz.f204) Tryz.func204 rfl (by decide) (by show 2 ≤ 16; decide) ?_
  rw [Tryz.ntmps204]
  refine AWp.reg fun Z1 hZ1 => ?_
  simp only [List.cons_append, List.nil_append, ty27, am, seval, reduceCtorEq]
  refine hZ1 _ ?_; clear hZ1 Z1
  refine AWp.block ?_
  refine AWp.slen 5 (sz := 5) (es := l.map XSelect.v) (by simp only [am, seval, reduceCtorEq]) fun hmax => ?_
  have hmx := maxLen_lt; rw [List.length_map] at hmax
  refine AWp.loopT (ι := Nat × Heap) (fun i => i.1 ≤ l.length ∧ Hs (l.take i.1) i.2) (fun i => tstO lo [(0, yieldV yl), (1, .elt [.slice 5 (List.map XSelect.v l)] 0), (5, .slice 5 (List.map XSelect.v l)), (6, vint l.length), (7, vint i.1)] [] i.2 16) (fun i => l.length - i.1) (0, s) ⟨⟨Nat.zero_le _, by simpa using h0⟩, ?_⟩ ?_
  · refine le_tstO ?_ ?_ ?_ (Heap.le.refl _) rfl
    · simp only [leE, yieldV, List.cons_append, List.nil_append, am, seval, reduceCtorEq] <;> simp
    · simp only [okL, yieldV, keyIn, Nat.reduceBEq, Bool.or_true, Bool.true_or, Bool.or_false, and_self]
    · simp only [leB, am, seval, reduceCtorEq]
  · rintro ⟨i, s1⟩ ⟨hi, hH⟩
    simp only at hi hH ⊢
    refine AWp.reg fun Z2 hZ2 => ?_
    simp only [ty3, tstO, am, seval, reduceCtorEq]
    refine hZ2 _ ?_; clear hZ2 Z2
    refine AWp.seq_k fun K2 hK2 => ?_
    refine AWp.cond (t := decide ((i:Int) < (l.length : Nat))) (by simp only [am, seval, reduceCtorEq]) (fun htj => ?_) (fun htj => ?_)
    · have hlt : i < l.length := by have := of_decide_eq_true htj; omega
      have ix0 : (0 ≤ (i : Int)) = True := by simp
      have ix1 : ((i : Int) < ((l.length : Nat) : Int)) = True := by simp [hlt]
      obtain ⟨y, hy0⟩ : ∃ y, l[i] = y := ⟨_, rfl⟩
      have hgy : (List.map XSelect.v l).getD (i : Int).toNat [] = y.v := by rw [Int.toNat_natCast, List.getD_eq_getElem?_getD, List.getElem?_map, List.getElem?_eq_getElem hlt, hy0]; rfl
      refine AWp.skip ?_
      refine hK2 _ ?_; clear hK2
      refine AWp.seq_k fun K3 hK3 => ?_
      refine AWp.block ?_
      refine AWp.reg fun Z3 hZ3 => ?_
      simp only [XSelect.vs, ix0, ix1, true_and, hgy, ty27, ty48, am, seval, reduceCtorEq]
      refine hZ3 _ ?_; clear hZ3 Z3
      refine AWp.regY' 2 rfl (by decide +kernel) fun Z4 hZ4 => ?_
      simp only [XSelect.vs, ty48, k12, k13, k14, am, seval, reduceCtorEq]
      refine ⟨?_, ?_, yl, [.agg y.v], _, ?_, ?_, hY _ y _ hH ⟨l.drop (i + 1), by rw [← hy0, ← List.drop_eq_getElem_cons hlt, List.take_append_drop]⟩, ?_⟩
      · simp only [gdOf, am, seval, reduceCtorEq]
      · simp only [am, seval, reduceCtorEq]
      · simp only [yieldV, am, seval, reduceCtorEq]
      · simp only [am, seval, reduceCtorEq]
      rintro _ s2 ⟨rfl, hH2⟩
      simp only [Bool.not_true, ty4, k15, k16, k17, am, seval, reduceCtorEq]
      refine hZ4 _ ?_; clear hZ4 Z4
      refine AWp.cond (t := false) (by simp only [am, seval, reduceCtorEq]) (fun h => by cases h) (fun _ => ?_)
      refine AWp.skip ?_
      refine hK3 _ ?_; clear hK3
      refine AWp.reg1 fun Z5 hZ5 => ?_
      simp only [ty3, am, seval, reduceCtorEq]
      refine hZ5 _ ?_; clear hZ5 Z5
      refine ⟨(i + 1, s2), ⟨⟨hlt, ?_⟩, by simp only; omega⟩, ?_⟩
      · have e1 : l.take (i + 1) = l.take i ++ [y] := by rw [List.take_add_one, List.getElem?_eq_getElem hlt, hy0]; rfl
        simp only [e1]; exact hH2
      refine le_tstO ?_ ?_ ?_ (Heap.le.refl _) rfl
      · simp only [leE, yieldV, tstO, am, seval, reduceCtorEq]
        have e2 : IntKind.i64.wrap ((i : Int) + 1) = ((i + 1 : Nat) : Int) := by
          rw [wrap_id (by omega) (by omega)]; simp
        first | (rw [e2]; done) | (rw [e2]; simp)
      · simp only [okL, yieldV, keyIn, Nat.reduceBEq, Bool.or_true, Bool.true_or, Bool.or_false, and_self]
      · simp only [leB, tstO, am, seval, reduceCtorEq]
    · have hge : i = l.length := by have := of_decide_eq_false htj; omega
      refine AWp.exit ?_
      simp only [thenQ, blockQ, ↓reduceIte]
      refine ⟨[], .tuple [], s1, rfl, Wk.refl _, Heap.le.refl _, ?_⟩
      rw [hge, List.take_length] at hH; exact hH
end Go.Proofs.YtopgndakadileaaGreatDoor.Ex
namespace Go.Proofs.YtopgndakadileaaGreatDoor.Ex
open Go.Am Go.Ex Go.Proofs.YtopgndakadileaaGreatDoor
def pairsV : List (ByteArray × Int) → List (List V)
  | [] => []
  | (b, n) :: l => [.base (.iface 9 (.string b))] :: [.base (.iface 22 (.int .i64 n))] :: pairsV l
def signOf (s : ByteArray) : List (ByteArray × Int) → Int × Int
  | [] => (0, 0)
  | (b, n) :: l => if (b.data.toList == s.data.toList) = true then (n, 1) else signOf s l
theorem pairsV_len : ∀ l, (pairsV l).length = 2 * l.length
  | [] => rfl
  | (b, n) :: l => by simp only [pairsV, List.length_cons, pairsV_len l]; omega
theorem pairsV_get : ∀ (l : List (ByteArray × Int)) (k : Nat) (b : ByteArray) (n : Int), l[k]? = some (b, n) → (pairsV l).getD (2 * k) [] = [.base (.iface 9 (.string b))] ∧ (pairsV l).getD (2 * k + 1) [] = [.base (.iface 22 (.int .i64 n))]
  | [], k, b, n, h => by simp at h
  | (b', n') :: l, 0, b, n, h => by
    simp at h; obtain ⟨rfl, rfl⟩ := h; exact ⟨rfl, rfl⟩
  | (b', n') :: l, k + 1, b, n, h => by
    have := pairsV_get l k b n (by simpa using h)
    simpa [pairsV, Nat.mul_add] using this
theorem ofSign (s0 : ByteArray) (l : List (ByteArray × Int)) (hl : l.length ≤ 1000) : Gives Tryz.prog 208 [vstr s0, .slice 1 (pairsV l)] (.tuple [vint (signOf s0 l).1, vint (signOf s0 l).2]) := by
  intro s
  refine acalls_of (fn := Tryz.f208) Tryz.func208 rfl (by decide) (by show 2 ≤ 26; decide) ?_
  rw [Tryz.ntmps208]
  refine AWp.reg fun Z1 hZ1 => ?_
  simp only [am, seval, reduceCtorEq]
  refine hZ1 _ ?_; clear hZ1 Z1
  refine AWp.seq_k fun K1 hK1 => ?_
  refine AWp.reg fun Z2 hZ2 => ?_
  simp only [am, seval, reduceCtorEq]
  refine hZ2 _ ?_; clear hZ2 Z2
  refine AWp.block ?_
  refine AWp.loopT (ι := Nat) (fun k => k ≤ l.length ∧ signOf s0 l = signOf s0 (l.drop k)) (fun k => tst [(0, vstr s0), (1, .slice 1 (pairsV l)), (6, vint ((2 * k : Nat) : Int))] [] s 26) (fun k => l.length - k) 0 ⟨⟨Nat.zero_le _, rfl⟩, ?_⟩ ?_
  · refine le_tst ?_ ?_ ?_ (Heap.le.refl _) rfl
    · simp only [leE, am, seval, reduceCtorEq] <;> simp
    · simp only [okL, keyIn, Nat.reduceBEq, Bool.or_true, Bool.true_or, Bool.or_false, and_self]
    · simp only [leB, am, seval, reduceCtorEq]
  · rintro k ⟨hk, hs⟩
    (try simp only at hk hs ⊢)
    refine AWp.seq_k fun K2 hK2 => ?_
    refine AWp.reg fun Z3 hZ3 => ?_
    simp only [ty278, ty20, pairsV_len, lenV, am, seval, reduceCtorEq]
    refine hZ3 _ ?_; clear hZ3 Z3
    refine AWp.cond (t := decide (((2 * k : Nat) : Int) < ((2 * l.length : Nat) : Int))) (by simp only [am, seval, reduceCtorEq]) (fun htj => ?_) (fun htj => ?_)
    · have hlt : k < l.length := by have := of_decide_eq_true htj; omega
      obtain ⟨b, n, hbn⟩ : ∃ b n, l[k]? = some (b, n) := ⟨l[k].1, l[k].2, List.getElem?_eq_getElem hlt⟩
      have hdrop : l.drop k = (b, n) :: l.drop (k + 1) := by
        rw [List.drop_eq_getElem_cons hlt]
        congr 1
        rw [List.getElem?_eq_getElem hlt] at hbn
        exact Option.some.inj hbn
      obtain ⟨g1, g2⟩ := pairsV_get l k b n hbn
      have ix0 : (0 ≤ ((2 * k : Nat) : Int)) = True := eq_true (by omega)
      have ix1 : (((2 * k : Nat) : Int) < ((2 * l.length : Nat) : Int)) = True := eq_true (by omega)
      have hg1 : (pairsV l).getD ((2 * k : Nat) : Int).toNat [] = [.base (.iface 9 (.string b))] := g1
      refine AWp.skip ?_
      refine hK2 _ ?_; clear hK2
      refine AWp.seq_k fun K3 hK3 => ?_
      refine AWp.block ?_
      refine AWp.reg fun Z4 hZ4 => ?_
      have hu20 := Tryz.underlying20
      have hu9 := Tryz.underlying9
      have hcmp : ((Tryz.prog.info? 9).map (·.comparable) = some true) = True := eq_true (by kernel_rfl)
      simp only [ty278, ty20, ty9, ix0, ix1, hg1, hu20, hu9, hcmp, pairsV_len, true_and, and_self, ↓reduceIte, am, seval, reduceCtorEq]
      refine hZ4 _ ?_; clear hZ4 Z4
      refine AWp.cond (t := (b.data.toList == s0.data.toList)) (by simp only [am, seval, reduceCtorEq]) (fun hc => ?_) (fun hc => ?_)
      · have ix2 : (0 ≤ IntKind.i64.wrap (((2 * k : Nat) : Int) + 1)) = True := by rw [wrap_id (by omega) (by omega)]; exact eq_true (by omega)
        have ix3 : (IntKind.i64.wrap (((2 * k : Nat) : Int) + 1) < ((2 * l.length : Nat) : Int)) = True := by rw [wrap_id (by omega) (by omega)]; exact eq_true (by omega)
        have hg2 : (pairsV l).getD (IntKind.i64.wrap (((2 * k : Nat) : Int) + 1)).toNat [] = [.base (.iface 22 (.int .i64 n))] := by
          rw [wrap_id (by omega) (by omega), show (((2 * k : Nat) : Int) + 1).toNat = 2 * k + 1 by omega]; exact g2
        refine AWp.reg fun Z5 hZ5 => ?_
        simp only [ty278, ty20, ty22, ty3, ix2, ix3, hg2, pairsV_len, true_and, and_self, ↓reduceIte, am, seval, reduceCtorEq]
        refine hZ5 _ ?_; clear hZ5 Z5
        refine AWp.ret ?_
        refine ret_go (vs := [vint n, vint 1]) (v := .tuple [vint (signOf s0 l).1, vint (signOf s0 l).2]) (by show resV Tryz.prog _ [.tmp 4, .tmp 5] = _; simp only [resV, am, seval, reduceCtorEq]) ?_ (Heap.le.refl _) ⟨rfl, rfl⟩
        rw [hs, hdrop]
        simp only [signOf, hc, ↓reduceIte]
        exact Wk.refl _
      · refine AWp.skip ?_
        refine hK3 _ ?_; clear hK3
        refine AWp.reg1 fun Z6 hZ6 => ?_
        simp only [am, seval, reduceCtorEq]
        refine hZ6 _ ?_; clear hZ6 Z6
        refine ⟨k + 1, ⟨⟨hlt, ?_⟩, by omega⟩, ?_⟩
        · rw [hs, hdrop]; simp only [signOf, hc, Bool.false_eq_true, ↓reduceIte]
        refine le_tst ?_ ?_ ?_ (Heap.le.refl _) rfl
        · simp only [leE, am, seval, reduceCtorEq]
          have e2 : IntKind.i64.wrap (((2 * k : Nat) : Int) + 2) = ((2 * (k + 1) : Nat) : Int) := by
            rw [wrap_id (by omega) (by omega)]; omega
          first | (rw [e2]; done) | (rw [e2]; simp)
        · simp only [okL, keyIn, Nat.reduceBEq, Bool.or_true, Bool.true_or, Bool.or_false, and_self]
        · simp only [leB, am, seval, reduceCtorEq]
    · have hge : k = l.length := by have := of_decide_eq_false htj; omega
      refine AWp.exit ?_
      simp only [thenQ, blockQ, ↓reduceIte]
      refine hK1 _ ?_; clear hK1
      refine AWp.reg fun Z7 hZ7 => ?_
      simp only [am, seval, reduceCtorEq]
      refine hZ7 _ ?_; clear hZ7 Z7
      refine AWp.ret ?_
      refine ret_go (vs := [vint 0, vint 0]) (v := .tuple [vint (signOf s0 l).1, vint (signOf s0 l).2]) (by show resV Tryz.prog _ [.tmp 4, .tmp 5] = _; simp only [resV, am, seval, reduceCtorEq]) ?_ (Heap.le.refl _) ⟨rfl, rfl⟩
      rw [hs, hge, List.drop_length]
      exact Wk.refl _
end Go.Proofs.YtopgndakadileaaGreatDoor.Ex
