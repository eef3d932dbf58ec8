/- A region whose order is open (2): one order that fits stands for all. -/
import Derived.Test.YtdomhnkffghmlaaGreatDoorSAmDraw
set_option linter.unusedVariables false
set_option linter.unusedSimpArgs false
namespace Go.Am
variable {P : Program}
/-- An operation hangs on an earlier one, through whatever stands between. -/
inductive Anc (all : Array Oper) (j : Nat) : Nat → Prop
 | direct {i : Nat} {o : Oper} {e : Edge} : all[i]? = some o → e ∈ o.after → Region.binds .any e = true → e.on = j → Anc all j i
 | step {i : Nat} {o : Oper} {e : Edge} : all[i]? = some o → e ∈ o.after → Region.binds .any e = true → Anc all j e.on → Anc all j i
theorem fold_bit (acc : Array Nat) (j : Nat) : ∀ (l : List Edge) (s : Nat), (l.foldl (fun s e => if Region.binds .any e = true then s ||| 2 ^ e.on ||| acc.getD e.on 0 else s) s).testBit j = true →
  s.testBit j = true ∨ ∃ e ∈ l, Region.binds .any e = true ∧ (e.on = j ∨ (acc.getD e.on 0).testBit j = true)
 | [], s, h => .inl h
 | e :: l, s, h => by
  simp only [List.foldl_cons] at h
  rcases fold_bit acc j l _ h with h | ⟨e', he, h1, h2⟩
  ·split at h
   ·rename_i hb
    rw [Nat.testBit_or, Nat.testBit_or] at h
    simp only [Bool.or_eq_true] at h
    rcases h with (h | h) | h
    ·exact .inl h
    ·rw [Nat.testBit_two_pow] at h
     exact .inr ⟨e, by simp, hb, .inl (by simpa using h)⟩
    ·exact .inr ⟨e, by simp, hb, .inr h⟩
   ·exact .inl h
  ·exact .inr ⟨e', by simp [he], h1, h2⟩
theorem masks_anc (all : Array Oper) : ∀ (l : List Oper) (acc : Array Nat), all.toList.drop acc.size = l → (∀ i j, (acc.getD i 0).testBit j = true → Anc all j i) → ∀ i j, ((masks l acc).getD i 0).testBit j = true → Anc all j i
 | [], acc, _, h => h
 | o :: l, acc, hl, h => by
  have ho : all[acc.size]? = some o := by
   have := congrArg (·[0]?) hl
   simpa [List.getElem?_drop] using this
  refine masks_anc all l (acc.push (maskOf acc o)) ?_ ?_
  ·rw [Array.size_push, ← List.drop_drop, hl]; rfl
  ·intro i j hb
   by_cases e : i = acc.size
   ·subst e
    simp only [Array.getD_eq_getD_getElem?, Array.getElem?_push_size, Option.getD_some] at hb
    rcases fold_bit acc j _ 0 hb with h0 | ⟨e, he, h1, h2 | h2⟩
    ·simp at h0
    ·exact .direct ho (Array.mem_def.2 he) h1 h2
    ·exact .step ho (Array.mem_def.2 he) h1 (h e.on j h2)
   ·refine h i j ?_
    rw [Array.getD_eq_getD_getElem?, Array.getElem?_push, if_neg e] at hb
    rwa [Array.getD_eq_getD_getElem?]
def pairOk (all : Array Oper) (ms : Array Nat) (j i : Nat) : Bool :=
 (ms.getD i 0).testBit j || (match all[j]?, all[i]? with
  | some oj, some oi => passes all oj oi
  | _, _ => false)
def pairsOk (all : Array Oper) (ms : Array Nat) : List Nat → Bool
 | [] => true
 | j :: r => r.all (fun i => pairOk all ms j i) && !r.contains j && pairsOk all ms r
/-- The order is one of all operations, and whatever may change places with what stands ahead lets it by. -/
def drawOk (all : Array Oper) (ord : List Nat) : Bool :=
 (List.range all.size).all (ord.contains ·) && ord.all (fun i => decide (i < all.size)) &&
 (all.toList.zipIdx.all fun x => x.1.after.all fun e => !Region.binds .any e || decide (e.on < x.2)) &&
 pairsOk all (masks all.toList #[]) ord
theorem pairsOk_spec {all : Array Oper} {ms : Array Nat} : ∀ {l : List Nat}, pairsOk all ms l = true → l.Pairwise (fun j i => pairOk all ms j i = true) ∧ l.Nodup
 | [], _ => ⟨.nil, .nil⟩
 | j :: r, h => by
  simp only [pairsOk, Bool.and_eq_true, List.all_eq_true, Bool.not_eq_true', List.contains_eq_mem, decide_eq_false_iff_not] at h
  obtain ⟨⟨h1, h2⟩, h3⟩ := h
  obtain ⟨k1, k2⟩ := pairsOk_spec h3
  exact ⟨.cons h1 k1, List.nodup_cons.2 ⟨h2, k2⟩⟩
theorem bubble {all : Array Oper} {i : Nat} {oi : Oper} (hi : all[i]? = some oi) {K : St → Prop} {post : List Nat} : ∀ (pre : List Nat), (∀ j ∈ pre, ∃ oj, all[j]? = some oj ∧ passes all oj oi = true) → ∀ (st : St),
  aopsD P all (pre ++ i :: post) st K → gstepD P all oi st fun st' => aopsD P all (pre ++ post) st' K
 | [], _, st, h => by
  simp only [List.nil_append, aopsD, hi] at h
  exact h
 | j :: pre, hp, st, h => by
  obtain ⟨oj, hj, hps⟩ := hp j (by simp)
  simp only [List.cons_append, aopsD, hj] at h ⊢
  refine swap (Array.mem_def.1 (Array.mem_of_getElem? hi)) (fun hk t0 ht => ?_) hps (gstepD_mono (fun st' h' => bubble hi pre (fun k hk => hp k (by simp [hk])) st' h') h)
  simp only [List.contains_eq_mem, decide_eq_true_eq, allocsOf, List.mem_append, List.mem_filterMap]
  refine .inl ⟨oj, Array.mem_def.1 (Array.mem_of_getElem? hj), ?_⟩
  rcases kd_alloc hk with ⟨t, e⟩ | ⟨t, x, e⟩ <;> rw [e] <;> exact ht
theorem anyD {all : Array Oper} {e : Entry} {Q : Exit → Act → World → Prop} {K : St → Prop} (hPQ : PQ e Q) (hQ : ∀ a w, Then e K a w → Q .normal a w)
  (hlow : ∀ (i : Nat) (o : Oper), all[i]? = some o → ∀ ed ∈ o.after, Region.binds .any ed = true → ed.on < i) :
  ∀ (fuel : Nat) (listed : Array Bool) (rem : List Nat) (st : St) (a : Act) (w : World), rem.length ≤ fuel → listed.size = all.size →
   (∀ i, i ∈ rem ↔ i < all.size ∧ listed.getD i true = false) → rem.Nodup → rem.Pairwise (fun j i => Anc all j i ∨ ∃ oj oi, all[j]? = some oj ∧ all[i]? = some oi ∧ passes all oj oi = true) →
   (∀ i o, listed.getD i false = true → all[i]? = some o → ∀ ed ∈ o.after, Region.binds .any ed = true → listed.getD ed.on false = true) →
   aopsD P all rem st K → In e st a w → wpAny P .any all Q fuel listed a w := by
 intro fuel
 induction fuel with
 | zero =>
  intro listed rem st a w hlen hsz hmem hnd hpw hcl h hin
  obtain rfl : rem = [] := List.eq_nil_of_length_eq_zero (by omega)
  refine ⟨?_, hQ a w ⟨st, h, hin⟩⟩
  cases hr : Region.ready .any all listed with
  | nil => rfl
  | cons i r =>
   have : i ∈ Region.ready .any all listed := by rw [hr]; simp
   obtain ⟨h1, o, ho, _⟩ := mem_ready.1 this
   have := (hmem i).2 ⟨(Array.getElem?_eq_some_iff.1 ho).1, h1⟩
   simp at this
 | succ fuel ih =>
  intro listed rem st a w hlen hsz hmem hnd hpw hcl h hin
  refine ⟨fun hr => ?_, fun i hi => ?_⟩
  ·-- nothing is ready: nothing is left
   have : rem = [] := by
    cases hrem : rem with
    | nil => rfl
    | cons x xs =>
     exfalso
     -- the least one that is left is ready
     have least : ∀ n, ∀ i, i < n → i ∈ rem → False := by
      intro n
      induction n with
      | zero => intro i hi; omega
      | succ n ihn =>
       intro i hi hirem
       by_cases hin' : i < n
       ·exact ihn i hin' hirem
       ·obtain rfl : i = n := by omega
        obtain ⟨h1, h2⟩ := (hmem i).1 hirem
        have hready : i ∈ Region.ready .any all listed := by
         refine mem_ready.2 ⟨h2, all[i], by simp [h1], fun ed hed hb => ?_⟩
         have hlt := hlow i all[i] (by simp [h1]) ed hed hb
         cases hq : listed.getD ed.on false with
         | true => rfl
         | false =>
          exfalso
          refine ihn ed.on hlt ((hmem ed.on).2 ⟨by omega, ?_⟩)
          rw [Array.getD_eq_getD_getElem?] at hq ⊢
          have : ed.on < listed.size := by omega
          rw [Array.getElem?_eq_getElem this] at hq ⊢
          exact hq
        rw [hr] at hready; simp at hready
     exact least (x + 1) x (by omega) (by rw [hrem]; simp)
   subst this
   exact hQ a w ⟨st, h, hin⟩
  ·obtain ⟨h1, oi, ho, hdeps⟩ := mem_ready.1 hi
   have hlt : i < all.size := (Array.getElem?_eq_some_iff.1 ho).1
   have hirem : i ∈ rem := (hmem i).2 ⟨hlt, h1⟩
   obtain ⟨pre, post, rfl⟩ := List.append_of_mem hirem
   have hnotanc : ∀ j ∈ pre, ¬ Anc all j i := by
    intro j hj hanc
    -- whatever i hangs on is listed
    have up : ∀ k, Anc all j k → (∀ o, all[k]? = some o → ∀ ed ∈ o.after, Region.binds .any ed = true → listed.getD ed.on false = true) → listed.getD j false = true := by
     intro k hk
     induction hk with
     | direct ho' he hb hon => intro hd; rw [← hon]; exact hd _ ho' _ he hb
     | step ho' he hb _ ih' =>
      intro hd
      exact ih' fun o ho2 => hcl _ o (hd _ ho' _ he hb) ho2
    have hl := up i hanc (fun o ho2 => by
     obtain rfl : o = oi := Option.some.inj (ho2.symm.trans ho)
     exact hdeps)
    have hjm := ((hmem j).1 (by simp [hj])).2
    have hjs := ((hmem j).1 (by simp [hj])).1
    rw [Array.getD_eq_getD_getElem?, Array.getElem?_eq_getElem (by omega)] at hl hjm
    rw [Option.getD_some] at hl hjm
    rw [hl] at hjm; cases hjm
   have hpass : ∀ j ∈ pre, ∃ oj, all[j]? = some oj ∧ passes all oj oi = true := by
    intro j hj
    have := (List.pairwise_append.1 hpw).2.2 j hj i (by simp)
    rcases this with hA | ⟨oj, oi', k1, k2, k3⟩
    ·exact absurd hA (hnotanc j hj)
    ·obtain rfl : oi' = oi := Option.some.inj (k2.symm.trans ho)
     exact ⟨oj, k1, k3⟩
   have hb := bubble ho pre hpass st h
   refine wpOp_mono ?_ (gstep_sound (i := i) ho hPQ (gstepD_gstep hb) hin)
   rintro a' w' ⟨st', h', hin'⟩
   have hsub : (pre ++ post).Sublist (pre ++ i :: post) := List.Sublist.append_left (List.sublist_cons_self i post) pre
   have hnd' := List.nodup_append.1 hnd
   have hni : i ∉ pre ++ post := by
    have h3 := (List.nodup_cons.1 hnd'.2.1).1
    intro hmm
    rcases List.mem_append.1 hmm with hm | hm
    ·exact hnd'.2.2 i hm i (by simp) rfl
    ·exact h3 hm
   have hset : ∀ (k : Nat) (d : Bool), (listed.setIfInBounds i true).getD k d = if k = i then true else listed.getD k d := fun k d => by
    simp only [Array.getD_eq_getD_getElem?, Array.getElem?_setIfInBounds]
    by_cases e : i = k
    ·subst e; simp [hsz, hlt]
    ·simp [e, Ne.symm e]
   refine ih _ (pre ++ post) st' a' w' ?_ (by simpa using hsz) (fun k => ?_) (hnd.sublist hsub) (hpw.sublist hsub) ?_ h' hin'
   ·simp at hlen ⊢; omega
   ·rw [hset]
    by_cases e : k = i
    ·subst e; simp only [↓reduceIte, Bool.true_eq_false, and_false, iff_false]; exact hni
    ·rw [if_neg e, ← hmem k]; simp [e]
   ·intro k o hk hok ed hed hbd
    rw [hset]
    split
    ·rfl
    ·rw [hset] at hk
     by_cases e : k = i
     ·subst e
      obtain rfl : o = oi := Option.some.inj (hok.symm.trans ho)
      exact hdeps ed hed hbd
     ·rw [if_neg e] at hk; exact hcl k o hk hok ed hed hbd
/-- A region whose order is open. -/
theorem AWp.draw {Q : Exit → St → Prop} {st : St} {id : Nat} {ops : Array Oper} (hm : P.follows .mixedOrders = true) (ord : List Nat) (hok : drawOk ops ord = true) (h : aopsD P ops ord st (Q .normal)) : AWp P (.region id ops true) Q st := fun e a w hin => by
 refine wp_region_any hm ?_
 unfold drawOk at hok
 simp only [Bool.and_eq_true, List.all_eq_true, List.mem_range, List.contains_eq_mem, decide_eq_true_eq] at hok
 obtain ⟨⟨⟨h1, h2⟩, h3⟩, h4⟩ := hok
 obtain ⟨hpw, hnd⟩ := pairsOk_spec h4
 have hin' : In e st a { w with drawn := w.drawn + 1 } := by
  obtain ⟨G, be, hx, hr⟩ := hin
  exact ⟨G, be, hx.trans (Ext.more (More.drew w)), hr.more (More.drew w)⟩
 have hrep : ∀ (i : Nat) (d : Bool), i < ops.size → (Array.replicate ops.size false).getD i d = false := fun i d hi => by
  simp [Array.getD_eq_getD_getElem?, Array.getElem?_replicate, hi]
 refine anyD (K := Q .normal) pan_pq (fun a w h => .inl h) ?_ ops.size _ ord st a _ ?_ (by simp) (fun i => ?_) hnd (hpw.imp fun {j i} hji => ?_) ?_ h hin'
 ·intro i o ho ed hed hb
  have := h3 (o, i) (by
   rw [List.mem_zipIdx_iff_getElem?]
   simpa using ho)
  simp only [Array.all_eq_true_iff_forall_mem, Bool.or_eq_true, Bool.not_eq_true', decide_eq_true_eq] at this
  rcases this ed hed with x | x
  ·rw [hb] at x; cases x
  ·exact x
 ·-- no more than all
  have hsubset : ∀ x ∈ ord, x ∈ List.range ops.size := fun x hx => List.mem_range.2 (h2 x hx)
  have := hnd.length_le_of_subset hsubset
  simpa using this
 ·constructor
  ·intro hi; exact ⟨h2 i hi, hrep i true (h2 i hi)⟩
  ·rintro ⟨hi, _⟩; exact h1 i hi
 ·unfold pairOk at hji
  simp only [Bool.or_eq_true] at hji
  rcases hji with hb | hb
  ·exact .inl (masks_anc ops ops.toList #[] (by simp) (fun i j h => by simp at h) i j hb)
  ·split at hb
   ·rename_i oj oi k1 k2; exact .inr ⟨oj, oi, k1, k2, hb⟩
   ·cases hb
 ·intro i o hi ho
  have hlt : i < ops.size := (Array.getElem?_eq_some_iff.1 ho).1
  rw [hrep i false hlt] at hi; cases hi
/-- Such a region at a sequence's head, and alone. -/
theorem AWp.regD {Q : Exit → St → Prop} {st : St} {id : Nat} {ops : Array Oper} {y : Code} (hm : P.follows .mixedOrders = true) (ord : List Nat) (hok : drawOk ops ord = true) (h : ∀ K : St → Prop, (∀ st, AWp P y Q st → K st) → aopsD P ops ord st K) : AWp P (.seq (.region id ops true) y) Q st :=
 AWp.seq (AWp.draw hm ord hok (h _ fun _ h => h))
end Go.Am
