/- A region one of whose operations is carried out by a law of its own; bytes as a text; the lesser of two. -/
import Derived.Test.YtcckhbconihagaaGreatDoorVAmYield
import Derived.Laws.IdiomStrings
import Derived.Laws.BytesArg
import Derived.Laws.Small
set_option linter.unusedVariables false
set_option linter.unusedSimpArgs false
namespace Go.Am
variable {P : Program}
def atX (P : Program) (all : Array Oper) (j : Nat) (o : Oper) (K : St → Prop) (st : St) : Prop :=
 (match gdOf all o st with | .always => True | .test c b => c = b | _ => False) ∧ ∃ K1 : St → Prop, (∀ e a w Q, In e st a w → o.wp P a w (Then e K1) Q) ∧ ∀ st', K1 st' → aops P all (all.toList.drop (j + 1)) st' K
theorem AWp.regX {Q : Exit → St → Prop} {st : St} {id : Nat} {ops : Array Oper} {y : Code} (j : Nat) {d : Option Tmp} {op : Op} {ty : TypeId} {ps : String} {af : Array Edge} {gd : Option (Nat × Bool)} (hj : ops[j]? = some { dst := d, op := op, type := ty, pos := ps, after := af, guard := gd }) (hnd : noDefer ops = true)
  (h : ∀ K : St → Prop, (∀ st, AWp P y Q st → K st) → aops P ops (ops.toList.take j) st (atX P ops j { dst := d, op := op, type := ty, pos := ps, after := af, guard := gd } K)) : AWp P (.seq (.region id ops false) y) Q st := by
 generalize ({ dst := d, op := op, type := ty, pos := ps, after := af, guard := gd } : Oper) = o at hj h
 refine AWp.seq fun e a w hin => (wpIn_wide (n := 0)).1 (wpIn_region ?_)
 have hlt : j < ops.size := (Array.getElem?_eq_some_iff.1 hj).1
 have hsplit : List.range ops.size = List.range' 0 j ++ (j :: (List.range' (j + 1) (ops.size - (j + 1)) ++ [])) := by
  have h0 := @List.range'_append_1 0 j (ops.size - (j + 1) + 1)
  rw [Nat.zero_add, show j + (ops.size - (j + 1) + 1) = ops.size by omega] at h0
  rw [List.append_nil, List.range_eq_range', ← List.range'_succ, h0]
 rw [hsplit]
 refine aopsIn (.inl rfl) hnd (e := e) (K := atX P ops j o _) (fun a1 w1 hth => ?_) j 0 (by omega) st a w (by simpa using h _ fun _ h => h) hin
 obtain ⟨st1, ⟨hg, K1, hop, hrest⟩, hin1⟩ := hth
 obtain ⟨g1, g2, g3⟩ := gdOf_wanted (all := ops) (o := o) hin1
 have hw : Region.wanted o (yielded ops a1.tmps) = true := by
  split at hg
  ·rename_i hgd; exact g1 hgd
  ·rename_i c b hgd; rw [g3 c b hgd]; simpa using hg
  ·exact hg.elim
 refine wpOpsIn_cons hj ?_
 refine stepIn_mono (next := Then e K1) (by unfold stepIn; rw [if_pos hw]; exact wp_in (.inl rfl) (hop e a1 w1 _ hin1) (noDefer_at hnd hj)) ?_
 rintro a2 w2 ⟨st2, hK1, hin2⟩
 refine aopsIn (.inl rfl) hnd (e := e) (K := AWp P y Q) (rest := []) (fun a3 w3 h3 => ?_) (ops.size - (j + 1)) (j + 1) (by omega) _ a2 w2 ?_ hin2
 ·simp only [wpOpsIn]
  obtain ⟨st3, h3, h4⟩ := h3
  exact ⟨st3, h3, h4⟩
 ·have := hrest st2 hK1
  rwa [List.take_of_length_le (by simp)]
def encB (b : UInt8) : List V := [.base (.int .u8 (b.toNat : Int))]
theorem conv_string {o : Oper} {src dst e : TypeId} {x : Operand} (ho : o.op = .convert src dst x) (hs : P.underlying src = some (.slice e)) (he : P.underlying e = some (.int .u8)) (hd : P.underlying dst = some .string) {st : St} {l : List UInt8} (hx : sliceV (st.eval x) = some (1, l.map encB)) (hdst : dstOk o st) :
  ∀ ent a w Q, In ent st a w → o.wp P a w (Then ent fun st' => st' = st.put o.dst (.base (.string ⟨l.toArray⟩))) Q := fun ent a w Q hin => by
 obtain ⟨G, be, hxx, hr⟩ := hin
 have hh := hr.eval x
 have hv : Rep G (.slice 1 (l.map encB)) (a.eval x) := by
  revert hh hx
  cases st.eval x <;> intro hx hh <;> simp [sliceV] at hx
  case slice => obtain ⟨rfl, rfl⟩ := hx; exact hh
  case own => obtain ⟨rfl, rfl⟩ := hx; cases (show Rep G (.own _ _ _) _ from hh) with | own _ _ _ _ h _ => exact h
 have key : (convert src dst (a.eval x)).run P w = .ok (.string ⟨l.toArray⟩) w := by
  generalize a.eval x = v at hv
  generalize hes : l.map encB = es at hv
  cases hv with
  | slice0 _ ad cap =>
   have : l = [] := by simpa using hes
   subst this
   cases ad with
   | none => rw [run_convert_bytes_nil w src e hs he 0 cap dst hd]; rfl
   | some ad => exact run_convert_bytes_back w src dst e ad cap [] hs he hd (fun j hj => by simp at hj)
  | slice _ _ b off cap cells h1 h2 h3 h4 h5 h6 =>
   have hlen : es.length = l.length := by rw [← hes]; simp
   rw [hlen]
   refine run_convert_bytes_back w src dst e _ cap l hs he hd (fun j hj => ?_)
   have hplain : (⟨b, off, none⟩ : Addr).add j = ⟨b, off + j, none⟩ := by unfold Addr.add; split <;> simp_all
   rw [hplain]
   have hf := hr.hr.frz b (off + j) (cells j) (h4 j (by omega))
   rw [hf]
   have hrep := h5 j 0 (encB l[j]) (.base (.int .u8 (l[j].toNat : Int))) (by rw [← hes]; simp [hj]) rfl
   rw [Nat.mul_one, Nat.add_zero] at hrep
   generalize cells j = c at hrep
   cases hrep
   rfl
 unfold Oper.wp
 have : (execOp a.eval o).run P w = .ok (.value (.string ⟨l.toArray⟩)) w := by
  unfold execOp
  simp only [ho, Sem.run_bind, key, Result.andThen_ok, Sem.run_pure]
 rw [this]
 exact ⟨_, rfl, G, be, by rw [put_s]; exact hxx, hr.put o.dst (dstOk_lt hdst) (LRep.of_rep (Rep.base _))⟩
theorem min_ints {o : Oper} {x y : Operand} {ts : Array TypeId} (ho : o.op = .call { callee := .builtin .min, args := #[x, y], argTypes := ts }) {st : St} {k k' : IntKind} {n m : Int} (hx : st.eval x = .base (.int k n)) (hy : st.eval y = .base (.int k' m)) (hdst : dstOk o st) :
  ∀ ent a w Q, In ent st a w → o.wp P a w (Then ent fun st' => st' = st.put o.dst (.base (.int k (if m < n then m else n)))) Q := fun ent a w Q hin => by
 obtain ⟨G, be, hxx, hr⟩ := hin
 have h1 := eval_base hr hx
 have h2 := eval_base hr hy
 unfold Oper.wp
 have : (execOp a.eval o).run P w = .ok (.value (.int k (if m < n then m else n))) w := by
  unfold execOp
  simp only [ho, resolve, Sem.run_bind, Sem.run_pure, Result.andThen_ok, invoke]
  have ha : #[x, y].map a.eval = #[.int k n, .int k' m] := by simp [h1, h2]
  rw [ha]
  simp [builtin, run_min_int2, Sem.run_bind]
 rw [this]
 exact ⟨_, rfl, G, be, by rw [put_s]; exact hxx, hr.put o.dst (dstOk_lt hdst) (LRep.of_rep (Rep.base _))⟩
end Go.Am
