/- Rules that turn a state without running anything: a value told less of, a nil slice that will grow, a slice that grows no more. -/
import Derived.Test.YtdomhnkffghmlaaGreatDoorSAmDraw2
set_option linter.unusedVariables false
namespace Go.Am
variable {P : Program} {Q : Exit → St → Prop} {st : St} {c : Code}
def isLoc : V → Bool
 | .loc _ _ => true
 | _ => false
theorem isLoc_ne {v : V} (h : isLoc v = false) : ∀ t off, v ≠ .loc t off := fun t off e => by rw [e] at h; cases h
/-- A slice of nothing is given a key. -/
theorem HRel.adopt {G : Ghost} {s : Heap} {w : World} (h : HRel G s w) (x : TypeId × Nat) (v : Value) (hv : ∃ a, v = .slice a 0 0) :
  ∃ G' g, G.Le G' ∧ s.own g = none ∧ G'.om g = some v ∧ (∀ b o, G'.F b o = G.F b o) ∧ HRel G' (s.setOwn g (some x)) w ∧ Ext G s w G' (s.setOwn g (some x)) w ∧ (∀ b, foot G' (s.setOwn g (some x)) b → foot G s b) := by
 obtain ⟨N, hN⟩ := h.fin
 obtain ⟨hNo, hNs⟩ := hN N (Nat.le_refl _)
 obtain ⟨a, rfl⟩ := hv
 have hle : G.Le { G with om := upd G.om N (some (.slice a 0 0)) } := ⟨fun _ _ _ h => h, fun g' v hv => by
  have : g' ≠ N := fun e => by subst e; rw [hNo] at hv; cases hv
  simpa [upd, this] using hv, fun _ _ hx => hx⟩
 have hblk : blk (.slice a 0 0) = none := by cases a <;> rfl
 have old : ∀ g x' v', (s.setOwn N (some x)).own g = some x' → upd G.om N (some (.slice a 0 0)) g = some v' → ∀ b, blk v' = some b → s.own g = some x' ∧ G.om g = some v' := fun g x' v' k1 k2 b k3 => by
  by_cases e : g = N
  ·subst e
   rw [upd_same] at k2
   cases k2
   rw [hblk] at k3; cases k3
  ·simp only [Heap.setOwn, upd_other _ _ _ _ e] at k1 k2
   exact ⟨k1, k2⟩
 have hfoot : ∀ b, foot { G with om := upd G.om N (some (.slice a 0 0)) } (s.setOwn N (some x)) b → foot G s b := fun b hb => by
  rcases hb with hb | ⟨g, x', v', k1, k2, k3⟩
  ·exact .inl hb
  ·obtain ⟨j1, j2⟩ := old g x' v' k1 k2 b k3
   exact .inr ⟨g, x', v', j1, j2, k3⟩
 refine ⟨{ G with om := upd G.om N (some (.slice a 0 0)) }, N, hle, hNs, upd_same _ _ _, fun _ _ => rfl, ?_, ⟨hle, Nat.le_refl _, rfl, rfl, rfl, fun _ _ _ => rfl, fun b hb => .inl (hfoot b hb), fun b o hb => .inl hb, fun g hg => by
  by_cases e : g = N
  ·exact .inr (e ▸ hNo)
  ·simp only [Heap.setOwn, upd_other _ _ _ _ e] at hg; exact .inl hg⟩, hfoot⟩
 refine ⟨h.frz, fun b cs ty hb => ?_, fun g e sz hg => ?_, fun g g' y y' v v' b k1 k2 k3 k4 k5 k6 => ?_, fun g y v b k1 k2 k3 => ?_, ⟨N + 1, fun g hg => ?_⟩, h.ob, h.tab, h.siz⟩
 ·obtain ⟨ccs, k1, k2, k3⟩ := h.box b cs ty hb
  exact ⟨ccs, k1, k2.mono hle, k3⟩
 ·by_cases e' : g = N
  ·subst e'
   exact ⟨_, upd_same _ _ _, .inl ⟨a, rfl⟩⟩
  ·simp only [Heap.setOwn, upd_other _ _ _ _ e'] at hg
   obtain ⟨v, hv, ho⟩ := h.own g e sz hg
   exact ⟨v, hle.o g v hv, ho⟩
 ·obtain ⟨j1, j2⟩ := old g y v k1 k3 b k5
  obtain ⟨j3, j4⟩ := old g' y' v' k2 k4 b k6
  exact h.sep g g' y y' v v' b j1 j3 j2 j4 k5 k6
 ·obtain ⟨j1, j2⟩ := old g y v k1 k2 b k3
  exact h.nobox g y v b j1 j2 k3
 ·have e : g ≠ N := by omega
  simp only [Heap.setOwn, upd_other _ _ _ _ e]
  exact hN g (by omega)
theorem rep_empty {G : Ghost} {c : V} {v : Value} (hc : c = .nil ∨ c = .zcap) (h : Rep G c v) : ∃ a, v = .slice a 0 0 := by
 rcases hc with rfl | rfl <;> cases h <;> exact ⟨_, rfl⟩
theorem ARel.adopt {n0 : Base} {G : Ghost} {be : Nat → Option Nat} {a : Act} {w : World} (hr : ARel n0 G be st a w) (x : TypeId × Nat) (v : Value) (hv : ∃ b, v = .slice b 0 0) :
  ∃ G' g, st.s.own g = none ∧ G'.om g = some v ∧ Ext G st.s w G' (st.s.setOwn g (some x)) w ∧ ARel n0 G' be { st with s := st.s.setOwn g (some x) } a w := by
 obtain ⟨G', g, h1, h2, h3, h4, h5, h6, h7⟩ := hr.hr.adopt x v hv
 refine ⟨G', g, h2, h3, h6, h5, hr.n, hr.df.mono h1, fun t => (hr.tmps t).mono h1, fun t cs ty ht => ?_, hr.inj⟩
 obtain ⟨b, k1, k2, ⟨ccs, k3, k4, k5⟩, k6, k7⟩ := hr.loc t cs ty ht
 exact ⟨b, k1, k2, ⟨ccs, k3, k4.mono h1, k5⟩, fun o => by rw [h4]; exact k6 o, fun hf => k7 (h7 b hf)⟩
theorem slice0_own {G : Ghost} {g sz : Nat} {v : Value} (h : G.om g = some v) (hv : ∃ a, v = .slice a 0 0) : Rep G (.own g sz []) v := by
 obtain ⟨a, rfl⟩ := hv
 exact .own g sz [] _ (.slice0 sz a 0) h
/-- A temporary's nil slice will grow. -/
theorem AWp.adoptE (t : Nat) (x : TypeId × Nat) (hc : st.E t = .nil ∨ st.E t = .zcap) (h : ∀ g, st.s.own g = none → AWp P c Q { st with E := upd st.E t (.own g x.2 []), s := st.s.setOwn g (some x) }) : AWp P c Q st := fun e a w hin => by
 obtain ⟨G, be, hx, hr⟩ := hin
 have hne : isLoc (st.E t) = false := by rcases hc with e | e <;> rw [e] <;> rfl
 have hv := rep_empty hc ((hr.tmps t).rep (isLoc_ne hne))
 obtain ⟨G', g, h1, h2, h3, h4⟩ := hr.adopt x _ hv
 refine h g h1 e a w ⟨G', be, hx.trans h3, h4.hr, h4.n, h4.df, fun t' => ?_, h4.loc, h4.inj⟩
 by_cases ht : t' = t
 ·subst ht
  simp only [upd_same]
  exact LRep.of_rep (slice0_own h2 hv)
 ·simp only [upd_other _ _ _ _ ht]; exact h4.tmps t'
/-- An open order's operations, laid out in the order that is walked. -/
def gstepL (P : Program) (all : Array Oper) (A : List Nat) (o : Oper) (st : St) (K : St → Prop) : Prop :=
 match gdOf all o st with
 | .always => dcond A o st ∧ aop P o st K
 | .never => dstOk o st ∧ K (st.put o.dst (.base undef))
 | .test c b => if c = b then dcond A o st ∧ aop P o st K else dstOk o st ∧ K (st.put o.dst (.base undef))
 | .stuck => False
def aopsL (P : Program) (all : Array Oper) (A : List Nat) : List Oper → St → (St → Prop) → Prop
 | [], st, K => K st
 | o :: r, st, K => gstepL P all A o st fun st' => aopsL P all A r st' K
theorem aopsL_D {all : Array Oper} : ∀ (ord : List Nat), (∀ i ∈ ord, i < all.size) → ∀ (st : St) (K : St → Prop), aopsL P all (allocsOf all) (ord.filterMap (all[·]?)) st K → aopsD P all ord st K
 | [], _, st, K, h => h
 | i :: r, hs, st, K, h => by
  have hlt : i < all.size := hs i (by simp)
  have hi : all[i]? = some all[i] := Array.getElem?_eq_getElem hlt
  rw [List.filterMap_cons_some (f := fun x => all[x]?) hi] at h
  simp only [aopsD, hi]
  exact gstepD_mono (fun st' h' => aopsL_D r (fun k hk => hs k (by simp [hk])) st' K h') h
theorem drawOk_lt {all : Array Oper} {ord : List Nat} (h : drawOk all ord = true) : ∀ i ∈ ord, i < all.size := by
 unfold drawOk at h
 simp only [Bool.and_eq_true, List.all_eq_true, decide_eq_true_eq] at h
 exact h.1.1.2
theorem AWp.regL {id : Nat} {ops : Array Oper} {y : Code} (hm : P.follows .mixedOrders = true) (ord : List Nat) (hok : drawOk ops ord = true) (A : List Nat) (hA : allocsOf ops = A) (h : ∀ K : St → Prop, (∀ st, AWp P y Q st → K st) → aopsL P ops A (ord.filterMap (ops[·]?)) st K) : AWp P (.seq (.region id ops true) y) Q st :=
 AWp.regD hm ord hok fun K hK => aopsL_D ord (drawOk_lt hok) st K (by rw [hA]; exact h K hK)
/-- The same with what follows behind a name: a rewriting does not look into it before its time. -/
def aopsK (P : Program) (all : Array Oper) (r : List Oper) (K : St → Prop) (st : St) : Prop := aops P all r st K
theorem aops_nil {all : Array Oper} {K : St → Prop} : aops P all [] st K = K st := rfl
theorem aops_cons {all : Array Oper} {o : Oper} {r : List Oper} {K : St → Prop} : aops P all (o :: r) st K = gstep P all o st (aopsK P all r K) := rfl
def aopsLK (P : Program) (all : Array Oper) (A : List Nat) (r : List Oper) (K : St → Prop) (st : St) : Prop := aopsL P all A r st K
theorem aopsL_nil {all : Array Oper} {A : List Nat} {K : St → Prop} : aopsL P all A [] st K = K st := rfl
theorem aopsL_cons {all : Array Oper} {A : List Nat} {o : Oper} {r : List Oper} {K : St → Prop} : aopsL P all A (o :: r) st K = gstepL P all A o st (aopsLK P all A r K) := rfl
def callK (o : Oper) (st : St) (K : St → Prop) (v : V) (s' : Heap) : Prop := K ({ st with s := s' }.put o.dst v)
theorem aCall_eq {o : Oper} {f : Operand} {args : Array Operand} {K : St → Prop} : aCall P o f args st K = match st.eval f with
 | .func k first cap => match noLocs (args.toList.map st.eval) with
  | some vs => dstOk o st ∧ ACallsP P k (first ++ vs ++ cap) st.s (fun v s' => st.ds = [] ∧ st.pp v s') (callK o st K)
  | none => False
 | _ => False := rfl
theorem Wk.agg {cs cs' : List V} (h : WkL cs cs') : Wk (.agg cs) (.agg cs') := fun G v hv => by
 cases hv with
 | agg _ ccs h1 h2 => exact (h.rep (repL_of_arr h1 h2)).agg
theorem Wk.tuple {cs cs' : List V} (h : WkL cs cs') : Wk (.tuple cs) (.tuple cs') := fun G v hv => by
 cases hv with
 | tuple _ ccs h1 h2 => exact (h.rep (repL_of_arr h1 h2)).tuple
theorem WkL.refl : ∀ l : List V, WkL l l
 | [] => trivial
 | c :: l => ⟨Wk.refl c, WkL.refl l⟩
end Go.Am
