/- A region one of whose operations is carried out by a law of its own; bytes as a text; the lesser of two. -/
import Derived.Test.YtdomhnkffghmlaaGreatDoorSAmYield
import Derived.Laws.IdiomStrings
import Derived.Laws.BytesArg
import Derived.Laws.Small
import Derived.Test.YtdomhnkffghmlaaGreatDoorSAmMore
set_option linter.unusedVariables false
set_option linter.unusedSimpArgs false
namespace Go.Am
variable {P : Program}
def atX (P : Program) (all : Array Oper) (j : Nat) (o : Oper) (K : St → Prop) (st : St) : Prop :=
 (match gdOf all o st with | .always => True | .test c b => c = b | _ => False) ∧ ∃ K1 : St → Prop, (∀ e a w Q, In e st a w → o.wp P a w (Then e K1) Q) ∧ ∀ st', K1 st' → aops P all (all.toList.drop (j + 1)) st' K
theorem AWp.regX {Q : Exit → St → Prop} {st : St} {id : Nat} {ops : Array Oper} {y : Code} (j : Nat) {d : Option Tmp} {op : Op} {ty : TypeId} {ps : String} {af : Array Edge} {gd : Option (Nat × Bool)} (hj : ops[j]? = some { dst := d, op := op, type := ty, pos := ps, after := af, guard := gd }) (hnd : noDefer ops = true)
  (h : ∀ K : St → Prop, (∀ st, AWp P y Q st → K st) → aops P ops (ops.toList.take j) st (atX P ops j { dst := d, op := op, type := ty, pos := ps, after := af, guard := gd } K)) : AWp P (.seq (.region id ops false) y) Q st := by
 generalize ({ dst := d, op := op, type := ty, pos := ps, after := af, guard := gd } : Oper) = o at hj h
 refine AWp.seq fun e a w hin => (wpIn_wide (n := 0)).1 (wpIn_region ?_)
 have hlt : j < ops.size := (Array.getElem?_eq_some_iff.1 hj).1
 have hsplit : List.range ops.size = List.range' 0 j ++ (j :: (List.range' (j + 1) (ops.size - (j + 1)) ++ [])) := by
  have h0 := @List.range'_append_1 0 j (ops.size - (j + 1) + 1)
  rw [Nat.zero_add, show j + (ops.size - (j + 1) + 1) = ops.size by omega] at h0
  rw [List.append_nil, List.range_eq_range', ← List.range'_succ, h0]
 rw [hsplit]
 refine aopsIn (.inl rfl) hnd (e := e) (K := atX P ops j o _) pan_pq (fun a1 w1 hth => ?_) j 0 (by omega) st a w (by simpa using h _ fun _ h => h) hin
 obtain ⟨st1, ⟨hg, K1, hop, hrest⟩, hin1⟩ := hth
 obtain ⟨g1, g2, g3⟩ := gdOf_wanted (all := ops) (o := o) hin1
 have hw : Region.wanted o (yielded ops a1.tmps) = true := by
  split at hg
  ·rename_i hgd; exact g1 hgd
  ·rename_i c b hgd; rw [g3 c b hgd]; simpa using hg
  ·exact hg.elim
 refine wpOpsIn_cons hj ?_
 refine stepIn_mono (next := Then e K1) (by unfold stepIn; rw [if_pos hw]; exact wp_in (.inl rfl) (hop e a1 w1 _ hin1) (noDefer_at hnd hj)) ?_
 rintro a2 w2 ⟨st2, hK1, hin2⟩
 refine aopsIn (.inl rfl) hnd (e := e) (K := AWp P y Q) (rest := []) pan_pq (fun a3 w3 h3 => ?_) (ops.size - (j + 1)) (j + 1) (by omega) _ a2 w2 ?_ hin2
 ·simp only [wpOpsIn]
  obtain ⟨st3, h3, h4⟩ := h3
  exact .inl ⟨st3, h3, h4⟩
 ·have := hrest st2 hK1
  rwa [List.take_of_length_le (by simp)]
def encB (b : UInt8) : List V := [.base (.int .u8 (b.toNat : Int))]
theorem conv_string {o : Oper} {src dst e : TypeId} {x : Operand} (ho : o.op = .convert src dst x) (hs : P.underlying src = some (.slice e)) (he : P.underlying e = some (.int .u8)) (hd : P.underlying dst = some .string) {st : St} {l : List UInt8} (hx : sliceV (st.eval x) = some (1, l.map encB)) (hdst : dstOk o st) :
  ∀ ent a w Q, In ent st a w → o.wp P a w (Then ent fun st' => st' = st.put o.dst (.base (.string ⟨l.toArray⟩))) Q := fun ent a w Q hin => by
 obtain ⟨G, be, hxx, hr⟩ := hin
 have hh := hr.eval x
 have hv : Rep G (.slice 1 (l.map encB)) (a.eval x) := by
  revert hh hx
  cases st.eval x <;> intro hx hh <;> simp [sliceV] at hx
  case slice => obtain ⟨rfl, rfl⟩ := hx; exact hh
  case own => obtain ⟨rfl, rfl⟩ := hx; cases (show Rep G (.own _ _ _) _ from hh) with | own _ _ _ _ h _ => exact h
 have key : (convert src dst (a.eval x)).run P w = .ok (.string ⟨l.toArray⟩) w := by
  generalize a.eval x = v at hv
  generalize hes : l.map encB = es at hv
  cases hv with
  | slice0 _ ad cap =>
   have : l = [] := by simpa using hes
   subst this
   cases ad with
   | none => rw [run_convert_bytes_nil w src e hs he 0 cap dst hd]; rfl
   | some ad => exact run_convert_bytes_back w src dst e ad cap [] hs he hd (fun j hj => by simp at hj)
  | slice _ _ b off cap cells h1 h2 h3 h4 h5 h6 =>
   have hlen : es.length = l.length := by rw [← hes]; simp
   rw [hlen]
   refine run_convert_bytes_back w src dst e _ cap l hs he hd (fun j hj => ?_)
   have hplain : (⟨b, off, none⟩ : Addr).add j = ⟨b, off + j, none⟩ := by unfold Addr.add; split <;> simp_all
   rw [hplain]
   have hf := hr.hr.frz b (off + j) (cells j) (h4 j (by omega))
   rw [hf]
   have hrep := h5 j 0 (encB l[j]) (.base (.int .u8 (l[j].toNat : Int))) (by rw [← hes]; simp [hj]) rfl
   rw [Nat.mul_one, Nat.add_zero] at hrep
   generalize cells j = c at hrep
   cases hrep
   rfl
 unfold Oper.wp
 have : (execOp a.eval o).run P w = .ok (.value (.string ⟨l.toArray⟩)) w := by
  unfold execOp
  simp only [ho, Sem.run_bind, key, Result.andThen_ok, Sem.run_pure]
 rw [this]
 exact ⟨_, rfl, G, be, by rw [put_s]; exact hxx, hr.put o.dst (dstOk_lt hdst) (LRep.of_rep (Rep.base _))⟩
end Go.Am
namespace Go.Am
variable {P : Program}
def frzV (t0 : Nat) (cs : List V) : V → V
 | .loc t off => if t = t0 then .elt cs off else .loc t off
 | v => v
def St.frz (st : St) (t0 : Nat) (cs : List V) : St := { st with E := fun t => frzV t0 cs (st.E t), loc := upd st.loc t0 none }
theorem In.frz {e : Entry} {st : St} {a : Act} {w : World} (h : In e st a w) {t0 : Nat} {cs : List V} {ty : TypeId} (hl : st.loc t0 = some (cs, ty)) : In e (st.frz t0 cs) a w := by
 obtain ⟨G, be, hx, hr⟩ := h
 obtain ⟨b, k1, k2, ⟨ccs, k3, k4, k5⟩, k6, k7⟩ := hr.loc t0 cs ty hl
 have hle := Ghost.freeze_le (G := G) ccs k6
 refine ⟨G.freeze b ccs, be, ⟨hx.le.trans hle, hx.size, hx.os, hx.tape, hx.output, hx.keep, hx.foot, fun b' o hf => ?_, hx.keys⟩, hr.hr.freeze k3 k7 k6, hr.n, hr.df.mono hle, fun t => ?_, fun t cs' ty' ht => ?_, fun t t' b' h1 h2 => ?_⟩
 ·by_cases e' : b' = b
  ·subst e'; exact .inr (.inr k2)
  ·simp only [Ghost.freeze, e', if_false] at hf
   exact hx.frz b' o hf
 ·have := (hr.tmps t).mono hle
  simp only [St.frz]
  cases hv : st.E t <;> rw [hv] at this <;> simp only [frzV] <;> first | exact this | skip
  rename_i t1 off
  obtain ⟨hne, b1, hb1, hpv⟩ := this
  split
  ·rename_i e'
   subst e'
   obtain rfl : b1 = b := Option.some.inj (hb1.symm.trans k1)
   rw [hpv]
   have key := Rep.elt (G := G.freeze b1 ccs) cs off b1 0 (fun j => ccs.getD j undef) (fun j c hj => ?_) (fun j c hj => ?_) (fun j c hj => ?_)
   ·rw [Nat.zero_add] at key; exact key
   all_goals
    have hjl : j < ccs.size := by
     have := (List.getElem?_eq_some_iff.1 hj).1
     have := k4.1
     simp at this; omega
   ·simp [Ghost.freeze, hjl]
   ·refine (k4.2 j c _ hj ?_).mono hle
    simp [hjl]
   ·refine k5 _ ?_
    simp [hjl]
  ·rename_i e'
   exact ⟨by simpa [upd, e'] using hne, b1, hb1, hpv⟩
 ·have e' : t ≠ t0 := fun e' => by subst e'; simp [St.frz, upd] at ht
  simp only [St.frz, upd_other _ _ _ _ e'] at ht
  obtain ⟨b2, j1, j2, ⟨c2, j3, j4, j5⟩, j6, j7⟩ := hr.loc t cs' ty' ht
  have hne : b2 ≠ b := fun e2 => e' (hr.inj t t0 b2 (by rw [ht]; simp) (by rw [hl]; simp) j1 (e2 ▸ k1))
  exact ⟨b2, j1, j2, ⟨c2, j3, j4.mono hle, j5⟩, fun o => by simp [Ghost.freeze, hne, j6 o], j7⟩
 ·have f : ∀ t, (upd st.loc t0 none) t ≠ none → st.loc t ≠ none := fun t ht => by
   by_cases e' : t = t0
   ·subst e'; simp [upd] at ht
   ·simpa [upd, e'] using ht
  exact hr.inj t t' b' (f t h1) (f t' h2)
theorem AWp.frz {c : Code} {Q : Exit → St → Prop} {st : St} (t0 : Nat) {cs : List V} {ty : TypeId} (hl : st.loc t0 = some (cs, ty)) (h : AWp P c Q (st.frz t0 cs)) : AWp P c Q st := fun e a w hin => h e a w (hin.frz hl)
end Go.Am
