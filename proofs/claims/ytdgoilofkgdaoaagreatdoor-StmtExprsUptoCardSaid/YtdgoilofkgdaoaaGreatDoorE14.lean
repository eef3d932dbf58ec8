/- A region whose order is open, told as two: one where an operation stands ahead of another, one where it stands behind. -/
import Derived.Test.YtdgoilofkgdaoaaGreatDoorEAmSpec
set_option linter.unusedVariables false
set_option linter.unusedSimpArgs false
namespace Go.Am
variable {P : Program}
def addE (x : Nat) (o : Oper) : Oper := { o with after := o.after.push { on := x, ground := .data } }
def addEdge (ops : Array Oper) (y x : Nat) : Array Oper := ops.modify y (addE x)
theorem addEdge_get (ops : Array Oper) (y x i : Nat) : (addEdge ops y x)[i]? = if y = i then (ops[i]?).map (addE x) else ops[i]? := by
 unfold addEdge; rw [Array.getElem?_modify]
theorem addEdge_size (ops : Array Oper) (y x : Nat) : (addEdge ops y x).size = ops.size := by unfold addEdge; simp
theorem yielded_addEdge (ops : Array Oper) (y x : Nat) (tmps : Array Value) : yielded (addEdge ops y x) tmps = yielded ops tmps := by
 funext j
 have e : ((addEdge ops y x)[j]?).bind (·.dst) = (ops[j]?).bind (·.dst) := by
  rw [addEdge_get]
  split
  ·cases ops[j]? <;> rfl
  ·rfl
 unfold yielded
 rw [e]
theorem wpOp_addEdge (ops : Array Oper) (y x i : Nat) (Q : Exit → Act → World → Prop) (K : Act → World → Prop) (a : Act) (w : World) : wpOp P (addEdge ops y x) Q i K a w = wpOp P ops Q i K a w := by
 unfold wpOp
 rw [addEdge_get, yielded_addEdge]
 by_cases e : y = i
 ·rw [if_pos e]
  cases h : ops[i]? with
  | none => rfl
  | some o => rfl
 ·rw [if_neg e]
theorem ready_addEdge {ops : Array Oper} {y x i : Nat} {l : Array Bool} : i ∈ Region.ready .any (addEdge ops y x) l ↔ i ∈ Region.ready .any ops l ∧ (i = y → l.getD x false = true) := by
 unfold Region.ready
 simp only [List.mem_filter, List.mem_range, addEdge_size, addEdge_get, Bool.and_eq_true]
 by_cases e : y = i
 ·subst e
  simp only [if_true, forall_const]
  cases h : ops[y]? with
  | none => simp
  | some o =>
   simp only [Option.map_some, Option.getD_some, addE, Array.all_push, Bool.and_eq_true]
   constructor
   ·rintro ⟨h1, h2, h3, h4⟩
    refine ⟨⟨h1, h2, h3⟩, ?_⟩
    simpa [Region.binds] using h4
   ·rintro ⟨⟨h1, h2, h3⟩, h4⟩
    exact ⟨h1, h2, h3, by simp [h4]⟩
 ·simp only [if_neg e]
  constructor
  ·intro h; exact ⟨h, fun h' => absurd h'.symm e⟩
  ·exact fun h => h.1
theorem nil_addEdge {ops : Array Oper} {y x : Nat} {l : Array Bool} (h : Region.ready .any ops l = []) : Region.ready .any (addEdge ops y x) l = [] := by
 cases hq : Region.ready .any (addEdge ops y x) l with
 | nil => rfl
 | cons i r =>
  have : i ∈ Region.ready .any (addEdge ops y x) l := by rw [hq]; simp
  have := (ready_addEdge.1 this).1
  rw [h] at this; cases this
/-- The earlier one has been carried out: the new edge binds no more. -/
theorem wpAny_edge {ops : Array Oper} {y x : Nat} {Q : Exit → Act → World → Prop} : ∀ (f : Nat) (l : Array Bool) (a : Act) (w : World), l.getD x false = true → wpAny P .any (addEdge ops y x) Q f l a w → wpAny P .any ops Q f l a w
 | 0, l, a, w, hx, h => by
  refine ⟨?_, h.2⟩
  cases hq : Region.ready .any ops l with
  | nil => rfl
  | cons i r =>
   have h2 : i ∈ Region.ready .any (addEdge ops y x) l := ready_addEdge.2 ⟨by rw [hq]; simp, fun _ => hx⟩
   rw [h.1] at h2
   cases h2
 | f + 1, l, a, w, hx, h => by
  refine ⟨fun h0 => h.1 (nil_addEdge h0), fun i hi => ?_⟩
  have h2 := h.2 i (ready_addEdge.2 ⟨hi, fun _ => hx⟩)
  rw [wpOp_addEdge] at h2
  refine wpOp_mono (fun a' w' h' => wpAny_edge f _ a' w' ?_ h') h2
  rw [Array.getD_eq_getD_getElem?] at hx ⊢
  rw [Array.getElem?_setIfInBounds]
  split
  ·rename_i e; subst e
   cases hq : l[i]? with
   | none => rw [hq] at hx; cases hx
   | some b => simp [(Array.getElem?_eq_some_iff.1 hq).1]
  ·exact hx
/-- What stands of the operations that are left. -/
structure Left (all : Array Oper) (listed : Array Bool) (rem : List Nat) : Prop where
 hsz : listed.size = all.size
 hmem : ∀ i, i ∈ rem ↔ i < all.size ∧ listed.getD i true = false
 hnd : rem.Nodup
 hpw : rem.Pairwise (fun j i => Anc all j i ∨ ∃ oj oi, all[j]? = some oj ∧ all[i]? = some oi ∧ passes all oj oi = true)
 hcl : ∀ i o, listed.getD i false = true → all[i]? = some o → ∀ ed ∈ o.after, Region.binds .any ed = true → listed.getD ed.on false = true
theorem Left.step {all : Array Oper} {listed : Array Bool} {rem : List Nat} (h : Left all listed rem) {i : Nat} (hi : i ∈ Region.ready .any all listed) : ∃ rem', Left all (listed.setIfInBounds i true) rem' ∧ rem'.length < rem.length ∧ ∀ st (K : St → Prop), aopsD P all rem st K → ∃ o, all[i]? = some o ∧ gstepD P all o st fun st' => aopsD P all rem' st' K := by
 obtain ⟨hsz, hmem, hnd, hpw, hcl⟩ := h
 obtain ⟨h1, oi, ho, hdeps⟩ := mem_ready.1 hi
 have hlt : i < all.size := (Array.getElem?_eq_some_iff.1 ho).1
 have hirem : i ∈ rem := (hmem i).2 ⟨hlt, h1⟩
 obtain ⟨pre, post, rfl⟩ := List.append_of_mem hirem
 have hnotanc : ∀ j ∈ pre, ¬ Anc all j i := by
  intro j hj hanc
  -- whatever i hangs on is listed
  have up : ∀ k, Anc all j k → (∀ o, all[k]? = some o → ∀ ed ∈ o.after, Region.binds .any ed = true → listed.getD ed.on false = true) → listed.getD j false = true := by
   intro k hk
   induction hk with
   | direct ho' he hb hon => intro hd; rw [← hon]; exact hd _ ho' _ he hb
   | step ho' he hb _ ih' =>
    intro hd
    exact ih' fun o ho2 => hcl _ o (hd _ ho' _ he hb) ho2
  have hl := up i hanc (fun o ho2 => by
   obtain rfl : o = oi := Option.some.inj (ho2.symm.trans ho)
   exact hdeps)
  have hjm := ((hmem j).1 (by simp [hj])).2
  have hjs := ((hmem j).1 (by simp [hj])).1
  rw [Array.getD_eq_getD_getElem?, Array.getElem?_eq_getElem (by omega)] at hl hjm
  rw [Option.getD_some] at hl hjm
  rw [hl] at hjm; cases hjm
 have hpass : ∀ j ∈ pre, ∃ oj, all[j]? = some oj ∧ passes all oj oi = true := by
  intro j hj
  have := (List.pairwise_append.1 hpw).2.2 j hj i (by simp)
  rcases this with hA | ⟨oj, oi', k1, k2, k3⟩
  ·exact absurd hA (hnotanc j hj)
  ·obtain rfl : oi' = oi := Option.some.inj (k2.symm.trans ho)
   exact ⟨oj, k1, k3⟩
 have hsub : (pre ++ post).Sublist (pre ++ i :: post) := List.Sublist.append_left (List.sublist_cons_self i post) pre
 have hnd' := List.nodup_append.1 hnd
 have hni : i ∉ pre ++ post := by
  have h3 := (List.nodup_cons.1 hnd'.2.1).1
  intro hmm
  rcases List.mem_append.1 hmm with hm | hm
  ·exact hnd'.2.2 i hm i (by simp) rfl
  ·exact h3 hm
 have hset : ∀ (k : Nat) (d : Bool), (listed.setIfInBounds i true).getD k d = if k = i then true else listed.getD k d := fun k d => by
  simp only [Array.getD_eq_getD_getElem?, Array.getElem?_setIfInBounds]
  by_cases e : i = k
  ·subst e; simp [hsz, hlt]
  ·simp [e, Ne.symm e]
 refine ⟨pre ++ post, ⟨by simpa using hsz, fun k => ?_, hnd.sublist hsub, hpw.sublist hsub, ?_⟩, by simp, fun st K h => ⟨oi, ho, bubble ho pre hpass st h⟩⟩
 ·rw [hset]
  by_cases e : k = i
  ·subst e; simp only [↓reduceIte, Bool.true_eq_false, and_false, iff_false]; exact hni
  ·rw [if_neg e, ← hmem k]; simp [e]
 ·intro k o hk hok ed hed hbd
  rw [hset]
  split
  ·rfl
  ·rw [hset] at hk
   by_cases e : k = i
   ·subst e
    obtain rfl : o = oi := Option.some.inj (hok.symm.trans ho)
    exact hdeps ed hed hbd
   ·rw [if_neg e] at hk; exact hcl k o hk hok ed hed hbd
theorem Left.anc {all : Array Oper} {listed : Array Bool} {rem : List Nat} (h : Left all listed rem) {i j : Nat} (hi : i ∈ Region.ready .any all listed) (ha : Anc all j i) : listed.getD j false = true := by
 obtain ⟨h1, oi, ho, hdeps⟩ := mem_ready.1 hi
 have up : ∀ k, Anc all j k → (∀ o, all[k]? = some o → ∀ ed ∈ o.after, Region.binds .any ed = true → listed.getD ed.on false = true) → listed.getD j false = true := by
  intro k hk
  induction hk with
  | direct ho' he hb hon => intro hd; rw [← hon]; exact hd _ ho' _ he hb
  | step ho' he hb _ ih' =>
   intro hd
   exact ih' fun o ho2 => h.hcl _ o (hd _ ho' _ he hb) ho2
 exact up i ha (fun o ho2 => by
  obtain rfl : o = oi := Option.some.inj (ho2.symm.trans ho)
  exact hdeps)
/-- Where nothing is ready nothing is left. -/
theorem Left.none {all : Array Oper} {listed : Array Bool} {rem : List Nat} (h : Left all listed rem) (hlow : ∀ (i : Nat) (o : Oper), all[i]? = some o → ∀ ed ∈ o.after, Region.binds .any ed = true → ed.on < all.size ∧ (ed.on < i ∨ listed.getD ed.on false = true)) (hr : Region.ready .any all listed = []) : rem = [] := by
 cases hrem : rem with
 | nil => rfl
 | cons x xs =>
  exfalso
  have least : ∀ n, ∀ i, i < n → i ∈ rem → False := by
   intro n
   induction n with
   | zero => intro i hi; omega
   | succ n ihn =>
    intro i hi hirem
    by_cases hin' : i < n
    ·exact ihn i hin' hirem
    ·obtain rfl : i = n := by omega
     obtain ⟨h1, h2⟩ := (h.hmem i).1 hirem
     have hready : i ∈ Region.ready .any all listed := by
      refine mem_ready.2 ⟨h2, all[i], by simp [h1], fun ed hed hb => ?_⟩
      obtain ⟨hsz, hlt | hl⟩ := hlow i all[i] (by simp [h1]) ed hed hb
      ·cases hq : listed.getD ed.on false with
       | true => rfl
       | false =>
        exfalso
        refine ihn ed.on hlt ((h.hmem ed.on).2 ⟨hsz, ?_⟩)
        rw [Array.getD_eq_getD_getElem?] at hq ⊢
        have : ed.on < listed.size := by rw [h.hsz]; exact hsz
        rw [Array.getElem?_eq_getElem this] at hq ⊢
        exact hq
      ·exact hl
     rw [hr] at hready; simp at hready
  exact least (x + 1) x (by omega) (by rw [hrem]; simp)
theorem set_true {l : Array Bool} {i j : Nat} (h : l.getD j false = true) : (l.setIfInBounds i true).getD j false = true := by
 rw [Array.getD_eq_getD_getElem?] at h ⊢
 rw [Array.getElem?_setIfInBounds]
 split
 ·rename_i e; subst e
  cases hq : l[i]? with
  | none => rw [hq] at h; cases h
  | some b => simp [(Array.getElem?_eq_some_iff.1 hq).1]
 ·exact h
theorem anyL {all : Array Oper} {e : Entry} {Q : Exit → Act → World → Prop} {K : St → Prop} (hPQ : PQ e Q) (hQ : ∀ a w, Then e K a w → Q .normal a w) : ∀ (fuel : Nat) (listed : Array Bool) (rem : List Nat) (st : St) (a : Act) (w : World), rem.length ≤ fuel → Left all listed rem →
  (∀ (i : Nat) (o : Oper), all[i]? = some o → ∀ ed ∈ o.after, Region.binds .any ed = true → ed.on < all.size ∧ (ed.on < i ∨ listed.getD ed.on false = true)) → aopsD P all rem st K → In e st a w → wpAny P .any all Q fuel listed a w
 | 0, listed, rem, st, a, w, hlen, hl, hlow, h, hin => by
  obtain rfl : rem = [] := List.eq_nil_of_length_eq_zero (by omega)
  refine ⟨?_, hQ a w ⟨st, h, hin⟩⟩
  cases hr : Region.ready .any all listed with
  | nil => rfl
  | cons i r =>
   have : i ∈ Region.ready .any all listed := by rw [hr]; simp
   obtain ⟨rem', _, hlt, _⟩ := hl.step (P := P) this
   simp at hlt
 | fuel + 1, listed, rem, st, a, w, hlen, hl, hlow, h, hin => by
  refine ⟨fun hr => ?_, fun i hi => ?_⟩
  ·obtain rfl := hl.none hlow hr
   exact hQ a w ⟨st, h, hin⟩
  ·obtain ⟨rem', hl', hlt, hb⟩ := hl.step hi
   obtain ⟨o, ho, hg⟩ := hb st K h
   refine wpOp_mono ?_ (gstep_sound (i := i) ho hPQ (gstepD_gstep hg) hin)
   rintro a' w' ⟨st', h', hin'⟩
   exact anyL hPQ hQ fuel _ rem' st' a' w' (by omega) hl' (fun k o hk ed hed hb => ⟨(hlow k o hk ed hed hb).1, (hlow k o hk ed hed hb).2.imp id set_true⟩) h' hin'
/-- Is it an append? -/
def isApp (o : Oper) : Bool := match o.op with
 | .call { callee := .builtin .append, args := _, argTypes := _ } => true
 | _ => false
def kdA (o : Oper) : Bool := decide (kd o ≠ .eff) || isApp o
theorem kdA_eff {o : Oper} (h : kdA o = true) (hk : kd o = .eff) : isApp o = true := by
 unfold kdA at h; simpa [hk] using h
theorem mutAt_det {s : Heap} {a : Option Addr} {n cap : Nat} {cs cs' : List V} {e : TypeId} {sz : Nat} (h : MutAt s a n cap cs e sz) (h' : MutAt s a n cap cs' e sz) : cs = cs' := by
 rcases h with ⟨h1, _, _, h4⟩ | ⟨b, h1, h2, _⟩
 ·rcases h' with ⟨_, _, _, k4⟩ | ⟨b', k1, _⟩
  ·rw [h4, k4]
  ·rw [h1] at k1; cases k1
 ·rcases h' with ⟨k1, _⟩ | ⟨b', k1, k2, _⟩
  ·rw [h1] at k1; cases k1
  ·rw [h1] at k1; cases k1
   rw [h2] at k2; cases k2; rfl
theorem appM_and {o : Oper} {e : TypeId} {de : TyD} {xs : List (List V)} {v : Value} {st : St} {K1 K2 : St → Prop} (h1 : aAppendM o e de xs v st K1) (h2 : aAppendM o e de xs v st K2) : aAppendM o e de xs v st fun st' => K1 st' ∧ K2 st' := by
 unfold aAppendM at h1 h2 ⊢
 cases v <;> simp only at h1 h2 ⊢
 split
 ·rename_i hx
  rw [if_pos hx] at h1 h2
  exact ⟨h1.1, h1.2, h2.2⟩
 ·rename_i hx
  rw [if_neg hx] at h1 h2
  obtain ⟨a1, a2, cs, a3, a4⟩ := h1
  obtain ⟨_, _, cs', b3, b4⟩ := h2
  obtain rfl := mutAt_det a3 b3
  exact ⟨a1, a2, cs, a3, fun b' cap' cs' q1 q2 q3 q4 q5 => ⟨a4 b' cap' cs' q1 q2 q3 q4 q5, b4 b' cap' cs' q1 q2 q3 q4 q5⟩⟩
theorem app_and {o : Oper} {args : Array Operand} {ts : Array TypeId} {st : St} {K1 K2 : St → Prop} (h1 : aAppend P o args ts st K1) (h2 : aAppend P o args ts st K2) : aAppend P o args ts st fun st' => K1 st' ∧ K2 st' := by
 unfold aAppend at h1 h2 ⊢
 split at h1
 ·rename_i t t' x y e1 e2
  rw [e1, e2] at h2
  simp only at h2 ⊢
  refine ⟨h1.1, ?_⟩
  have h1 := h1.2
  have h2 := h2.2
  cases hd : tyOf P t with
  | none => rw [hd] at h1; exact h1.elim
  | some d =>
   rw [hd] at h1 h2
   simp only at h1 h2 ⊢
   cases hs : d.shape <;> rw [hs] at h1 h2 <;> simp only at h1 h2 ⊢
   rename_i e
   cases he : tyOf P e with
   | none => rw [he] at h1; exact h1.elim
   | some de =>
    rw [he] at h1 h2
    simp only at h1 h2 ⊢
    refine ⟨h1.1, h1.2.1, ?_⟩
    have h1 := h1.2.2
    have h2 := h2.2.2
    cases ha : appV de.size (st.eval y) with
    | none => rw [ha] at h1; exact h1.elim
    | some xs =>
     rw [ha] at h1 h2
     simp only at h1 h2 ⊢
     cases hx : st.eval x <;> rw [hx] at h1 h2 <;> simp only at h1 h2 ⊢
     all_goals first
      | exact appM_and h1 h2
      | exact ⟨h1.1, h1.2.1, fun g hg => ⟨h1.2.2 g hg, h2.2.2 g hg⟩⟩
      | exact ⟨h1.1, h1.2.1, h1.2.2.1, h1.2.2.2.1, fun g hg => ⟨h1.2.2.2.2 g hg, h2.2.2.2.2 g hg⟩⟩
 ·exact h1.elim
theorem aop_and {o : Oper} {st : St} {K1 K2 : St → Prop} (hk : kdA o = true) (h1 : aop P o st K1) (h2 : aop P o st K2) : aop P o st fun st' => K1 st' ∧ K2 st' := by
 have hp : aPure P o st K1 → aPure P o st K2 → aPure P o st fun st' => K1 st' ∧ K2 st' := fun h1 h2 => by
  unfold aPure at h1 h2 ⊢
  split at h1
  ·rename_i hv; rw [hv] at h2; exact ⟨h1.1, h1.2.1, h1.2.2, h2.2.2⟩
  ·exact h1.elim
 have hb : ∀ t cs, mkBox o t cs st K1 → mkBox o t cs st K2 → mkBox o t cs st fun st' => K1 st' ∧ K2 st' := fun t cs h1 h2 => by
  unfold mkBox at h1 h2 ⊢
  split at h1
  ·rename_i hd; rw [hd] at h2; exact ⟨h1.1, h1.2.1, h1.2.2, h2.2.2⟩
  ·exact h1.elim
 unfold aop at h1 h2 ⊢
 split at h1
 ·rename_i t ho
  rw [ho] at h2
  simp only at h2 ⊢
  cases ht : tyOf P t with
  | none => rw [ht] at h1; exact h1.elim
  | some d => rw [ht] at h1 h2; exact hb _ _ h1 h2
 ·rename_i t x ho
  rw [ho] at h2
  exact ⟨h1.1, hb _ _ h1.2 h2.2⟩
 ·rename_i t x y ho; have := kdA_eff hk (by unfold kd; rw [ho]); unfold isApp at this; rw [ho] at this; cases this
 ·rename_i t x ho
  rw [ho] at h2
  simp only at h2
  unfold aLoad at h1 h2 ⊢
  split at h1
  ·rename_i b off he
   rw [he] at h2
   simp only at h2
   split at h1
   ·rename_i d cs ty hd hbx
    rw [hd, hbx] at h2
    simp only at h2
    split at h1
    ·rename_i v hv; rw [hv] at h2; exact ⟨h1.1, h1.2, h2.2⟩
    ·exact h1.elim
   ·exact h1.elim
  ·rename_i hne
   split at h2
   ·rename_i b off he; exact absurd he (hne b off)
   ·exact hp h1 h2
 ·rename_i f args ts ho; have := kdA_eff hk (by unfold kd; rw [ho]); unfold isApp at this; rw [ho] at this; cases this
 ·rename_i args ts ho; rw [ho] at h2; exact app_and h1 h2
 ·rename_i n1 n2 n3 n4 n5 n6
  split at h2
  ·rename_i e; exact absurd e (n1 _)
  ·rename_i e; exact absurd e (n2 _ _)
  ·rename_i e; exact absurd e (n3 _ _ _)
  ·rename_i e; exact absurd e (n4 _ _)
  ·rename_i e; exact absurd e (n5 _ _ _)
  ·rename_i e; exact absurd e (n6 _ _)
  ·exact hp h1 h2
theorem gstepD_and {all all' : Array Oper} {o o' : Oper} {st : St} {K1 K2 : St → Prop} (hk : kdA o = true) (hg : gdOf all' o' st = gdOf all o st) (hd : o'.dst = o.dst) (ho : ∀ K, aop P o' st K → aop P o st K) (h1 : gstepD P all o st K1) (h2 : gstepD P all' o' st K2) : gstepD P all o st fun st' => K1 st' ∧ K2 st' := by
 have hdo : dstOk o' st = dstOk o st := by unfold dstOk; rw [hd]
 unfold gstepD at h1 h2 ⊢
 rw [hg, hdo, hd] at h2
 split at h1
 ·rename_i hq; rw [hq] at h2; exact ⟨h1.1, aop_and hk h1.2 (ho _ h2.2)⟩
 ·rename_i hq; rw [hq] at h2; exact ⟨h1.1, h1.2, h2.2⟩
 ·rename_i c b hq
  rw [hq] at h2
  simp only at h2 ⊢
  split at h1
  ·rename_i hc; rw [if_pos hc] at h2 ⊢; exact ⟨h1.1, aop_and hk h1.2 (ho _ h2.2)⟩
  ·rename_i hc; rw [if_neg hc] at h2 ⊢; exact ⟨h1.1, h1.2, h2.2⟩
 ·exact h1.elim
theorem gdOf_edge {ops : Array Oper} {y x : Nat} {o : Oper} {st : St} : gdOf (addEdge ops y x) o st = gdOf ops o st := by
 have e : ∀ j : Nat, ((addEdge ops y x)[j]?).bind (fun o : Oper => o.dst) = (ops[j]?).bind (fun o : Oper => o.dst) := fun j => by
  rw [addEdge_get]
  split
  ·cases ops[j]? <;> rfl
  ·rfl
 unfold gdOf
 cases o.guard with
 | none => rfl
 | some p => simp only [e]
theorem anyS {ops : Array Oper} {x y : Nat} (hne : x ≠ y) (hy : y < ops.size) (hx : x < ops.size) {e : Entry} {Q : Exit → Act → World → Prop} {K : St → Prop} (hPQ : PQ e Q) (hQ : ∀ a w, Then e K a w → Q .normal a w)
  (hlow : ∀ (i : Nat) (o : Oper), ops[i]? = some o → ∀ ed ∈ o.after, Region.binds .any ed = true → ed.on < i) (hk : ∀ (i : Nat) (o : Oper), ops[i]? = some o → i ≠ x → i ≠ y → kdA o = true ∨ Anc (addEdge ops y x) x i ∨ Anc (addEdge ops y x) y i) :
  ∀ (fuel : Nat) (listed : Array Bool) (rem1 rem2 : List Nat) (st : St) (a : Act) (w : World), rem1.length ≤ fuel → rem2.length ≤ fuel → listed.getD x false = false → listed.getD y false = false → Left (addEdge ops y x) listed rem1 → Left (addEdge ops x y) listed rem2 →
   aopsD P (addEdge ops y x) rem1 st K → aopsD P (addEdge ops x y) rem2 st K → In e st a w → wpAny P .any ops Q fuel listed a w := by
 have low : ∀ (y x : Nat), x < ops.size → ∀ (listed : Array Bool), listed.getD x false = true → ∀ (i : Nat) (o : Oper), (addEdge ops y x)[i]? = some o → ∀ ed ∈ o.after, Region.binds .any ed = true → ed.on < (addEdge ops y x).size ∧ (ed.on < i ∨ listed.getD ed.on false = true) := by
  intro y x hx listed hl i o ho ed hed hb
  rw [addEdge_size]
  rw [addEdge_get] at ho
  split at ho
  ·rename_i e1
   cases hq : ops[i]? with
   | none => rw [hq] at ho; cases ho
   | some o0 =>
    rw [hq] at ho; cases ho
    have hlt := (Array.getElem?_eq_some_iff.1 hq).1
    simp only [addE, Array.mem_push] at hed
    rcases hed with hed | rfl
    ·have := hlow i o0 hq ed hed hb; exact ⟨by omega, .inl this⟩
    ·exact ⟨hx, .inr hl⟩
  ·have := hlow i o ho ed hed hb
   have hlt := (Array.getElem?_eq_some_iff.1 ho).1
   exact ⟨by omega, .inl this⟩
 have mem : ∀ {z : Nat} {listed : Array Bool}, z < ops.size → listed.size = ops.size → listed.getD z false = false → listed.getD z true = false := by
  intro z listed hz hs h
  rw [Array.getD_eq_getD_getElem?] at h ⊢
  rw [Array.getElem?_eq_getElem (by omega)] at h ⊢
  exact h
 intro fuel
 induction fuel with
 | zero =>
  intro listed rem1 rem2 st a w h1 h2 hlx hly l1 l2 a1 a2 hin
  have : x ∈ rem1 := (l1.hmem x).2 ⟨by rw [addEdge_size]; exact hx, mem hx (by rw [l1.hsz, addEdge_size]) hlx⟩
  rw [List.eq_nil_of_length_eq_zero (Nat.le_zero.1 h1)] at this; cases this
 | succ fuel ih =>
  intro listed rem1 rem2 st a w h1 h2 hlx hly l1 l2 a1 a2 hin
  have hs : listed.size = ops.size := by rw [l1.hsz, addEdge_size]
  refine ⟨fun hr => ?_, fun i hi => ?_⟩
  ·-- x or y is left, so something is ready
   exfalso
   have least : ∀ n, ∀ i, i < n → i < ops.size → listed.getD i true = false → False := by
    intro n
    induction n with
    | zero => intro i hi; omega
    | succ n ihn =>
     intro i hi hsz hl
     by_cases hin' : i < n
     ·exact ihn i hin' hsz hl
     ·have hready : i ∈ Region.ready .any ops listed := by
       refine mem_ready.2 ⟨hl, ops[i], by simp [hsz], fun ed hed hb => ?_⟩
       have hlt := hlow i ops[i] (by simp [hsz]) ed hed hb
       cases hq : listed.getD ed.on false with
       | true => rfl
       | false => exact (ihn ed.on (by omega) (by omega) (mem (by omega) hs hq)).elim
      rw [hr] at hready; simp at hready
   exact least (x + 1) x (by omega) hx (mem hx hs hlx)
  ·have hlt : i < listed.size := by
    unfold Region.ready at hi
    simp only [List.mem_filter, List.mem_range] at hi
    omega
   have set1 : (listed.setIfInBounds i true).getD i false = true := by
    rw [Array.getD_eq_getD_getElem?, Array.getElem?_setIfInBounds_self_of_lt hlt]; rfl
   have setne : ∀ z, z ≠ i → listed.getD z false = false → (listed.setIfInBounds i true).getD z false = false := fun z hz h => by
    rw [Array.getD_eq_getD_getElem?, Array.getElem?_setIfInBounds_ne (Ne.symm hz), ← Array.getD_eq_getD_getElem?]; exact h
   by_cases ey : i = y
   ·subst ey
    obtain ⟨rem', hl', hlt', hb⟩ := l2.step (ready_addEdge.2 ⟨hi, fun e => absurd e.symm hne⟩)
    obtain ⟨o, ho, hg⟩ := hb st K a2
    rw [← wpOp_addEdge (y := x) (x := i)]
    refine wpOp_mono ?_ (gstep_sound (i := i) ho hPQ (gstepD_gstep hg) hin)
    rintro a' w' ⟨st', h', hin'⟩
    exact wpAny_edge fuel _ a' w' set1 (anyL hPQ hQ fuel _ rem' st' a' w' (by omega) hl' (low x i hy _ set1) h' hin')
   ·by_cases ex : i = x
    ·subst ex
     obtain ⟨rem', hl', hlt', hb⟩ := l1.step (ready_addEdge.2 ⟨hi, fun e => absurd e ey⟩)
     obtain ⟨o, ho, hg⟩ := hb st K a1
     rw [← wpOp_addEdge (y := y) (x := i)]
     refine wpOp_mono ?_ (gstep_sound (i := i) ho hPQ (gstepD_gstep hg) hin)
     rintro a' w' ⟨st', h', hin'⟩
     exact wpAny_edge fuel _ a' w' set1 (anyL hPQ hQ fuel _ rem' st' a' w' (by omega) hl' (low y i hx _ set1) h' hin')
    ·have r1 : i ∈ Region.ready .any (addEdge ops y x) listed := ready_addEdge.2 ⟨hi, fun e => absurd e ey⟩
     have r2 : i ∈ Region.ready .any (addEdge ops x y) listed := ready_addEdge.2 ⟨hi, fun e => absurd e ex⟩
     obtain ⟨rem1', l1', hlt1, hb1⟩ := l1.step r1
     obtain ⟨rem2', l2', hlt2, hb2⟩ := l2.step r2
     obtain ⟨o1, ho1, hg1⟩ := hb1 st K a1
     obtain ⟨o2, ho2, hg2⟩ := hb2 st K a2
     have q1 : ops[i]? = some o1 := by rw [addEdge_get, if_neg (Ne.symm ey)] at ho1; exact ho1
     have q2 : ops[i]? = some o2 := by rw [addEdge_get, if_neg (Ne.symm ex)] at ho2; exact ho2
     obtain rfl : o1 = o2 := Option.some.inj (q1.symm.trans q2)
     have hke : kdA o1 = true := by
      rcases hk i o1 q1 ex ey with h | h | h
      ·exact h
      ·have := l1.anc r1 h; rw [hlx] at this; cases this
      ·have := l1.anc r1 h; rw [hly] at this; cases this
     have hg := gstepD_and hke (by rw [gdOf_edge, gdOf_edge]) rfl (fun _ h => h) hg1 hg2
     rw [← wpOp_addEdge (y := y) (x := x)]
     refine wpOp_mono ?_ (gstep_sound (i := i) ho1 hPQ (gstepD_gstep hg) hin)
     rintro a' w' ⟨st', ⟨k1, k2⟩, hin'⟩
     exact ih _ rem1' rem2' st' a' w' (by omega) (by omega) (setne x (Ne.symm ex) hlx) (setne y (Ne.symm ey) hly) l1' l2' k1 k2 hin'
/-- Two orders that speak for all. -/
def drawOkE (all : Array Oper) (ord : List Nat) : Bool := (List.range all.size).all (ord.contains ·) && ord.all (fun i => decide (i < all.size)) && pairsOk all (masks all.toList #[]) ord
def drawOkS (ops : Array Oper) (x y : Nat) (ord1 ord2 : List Nat) : Bool :=
 decide (x ≠ y) && decide (x < ops.size) && decide (y < ops.size) && (ops.toList.zipIdx.all fun z => z.1.after.all fun e => !Region.binds .any e || decide (e.on < z.2)) &&
 (ops.toList.zipIdx.all fun z => z.2 == x || z.2 == y || kdA z.1 || ((masks (addEdge ops y x).toList #[]).getD z.2 0).testBit x || ((masks (addEdge ops y x).toList #[]).getD z.2 0).testBit y) &&
 drawOkE (addEdge ops y x) ord1 && drawOkE (addEdge ops x y) ord2
theorem Left.init {all : Array Oper} {ord : List Nat} (h : drawOkE all ord = true) : Left all (Array.replicate all.size false) ord ∧ ord.length ≤ all.size ∧ ∀ i ∈ ord, i < all.size := by
 unfold drawOkE at h
 simp only [Bool.and_eq_true, List.all_eq_true, List.mem_range, List.contains_eq_mem, decide_eq_true_eq] at h
 obtain ⟨⟨h1, h2⟩, h4⟩ := h
 obtain ⟨hpw, hnd⟩ := pairsOk_spec h4
 have hrep : ∀ (i : Nat) (d : Bool), i < all.size → (Array.replicate all.size false).getD i d = false := fun i d hi => by
  simp [Array.getD_eq_getD_getElem?, Array.getElem?_replicate, hi]
 refine ⟨⟨by simp, fun i => ⟨fun hi => ⟨h2 i hi, hrep i true (h2 i hi)⟩, fun ⟨hi, _⟩ => h1 i hi⟩, hnd, hpw.imp fun {j i} hji => ?_, fun i o hi ho => ?_⟩, ?_, h2⟩
 ·unfold pairOk at hji
  simp only [Bool.or_eq_true] at hji
  rcases hji with hb | hb
  ·exact .inl (masks_anc all all.toList #[] (by simp) (fun i j h => by simp at h) i j hb)
  ·split at hb
   ·rename_i oj oi k1 k2; exact .inr ⟨oj, oi, k1, k2, hb⟩
   ·cases hb
 ·have hlt : i < all.size := (Array.getElem?_eq_some_iff.1 ho).1
  rw [hrep i false hlt] at hi; cases hi
 ·have hsubset : ∀ x ∈ ord, x ∈ List.range all.size := fun x hx => List.mem_range.2 (h2 x hx)
  simpa using hnd.length_le_of_subset hsubset
theorem drawS_any {Q : Exit → St → Prop} {st : St} {ops : Array Oper} (x y : Nat) (ord1 ord2 : List Nat) (hok : drawOkS ops x y ord1 ord2 = true) (h1 : aopsD P (addEdge ops y x) ord1 st (Q .normal)) (h2 : aopsD P (addEdge ops x y) ord2 st (Q .normal)) {e : Entry} {a : Act} {w : World} (hin : In e st a w) : wpAny P .any ops (fun x a' w' => Then e (Q x) a' w' ∨ Pan e x a' w') ops.size (Array.replicate ops.size false) a { w with drawn := w.drawn + 1 } := by
 unfold drawOkS at hok
 simp only [Bool.and_eq_true, decide_eq_true_eq] at hok
 obtain ⟨⟨⟨⟨⟨⟨c1, c2⟩, c3⟩, c4⟩, c5⟩, c6⟩, c7⟩ := hok
 obtain ⟨l1, n1, _⟩ := Left.init c6
 obtain ⟨l2, n2, _⟩ := Left.init c7
 rw [addEdge_size] at l1 l2 n1 n2
 have hin' : In e st a { w with drawn := w.drawn + 1 } := by
  obtain ⟨G, be, hx, hr⟩ := hin
  exact ⟨G, be, hx.trans (Ext.more (More.drew w)), hr.more (More.drew w)⟩
 have hrep : ∀ (i : Nat) (d : Bool), i < ops.size → (Array.replicate ops.size false).getD i d = false := fun i d hi => by
  simp [Array.getD_eq_getD_getElem?, Array.getElem?_replicate, hi]
 refine anyS (K := Q .normal) c1 c3 c2 pan_pq (fun a w h => .inl h) ?_ ?_ ops.size _ ord1 ord2 st a _ n1 n2 (hrep x false c2) (hrep y false c3) l1 l2 h1 h2 hin'
 ·intro i o ho ed hed hb
  have := List.all_eq_true.1 c4 (o, i) (by
   rw [List.mem_zipIdx_iff_getElem?]
   simpa using ho)
  simp only [Array.all_eq_true_iff_forall_mem, Bool.or_eq_true, Bool.not_eq_true', decide_eq_true_eq] at this
  rcases this ed hed with q | q
  ·rw [hb] at q; cases q
  ·exact q
 ·intro i o ho hix hiy
  have := List.all_eq_true.1 c5 (o, i) (by
   rw [List.mem_zipIdx_iff_getElem?]
   simpa using ho)
  simp only [Bool.or_eq_true, beq_iff_eq, decide_eq_true_eq] at this
  rcases this with (((q | q) | q) | q) | q
  ·exact absurd q hix
  ·exact absurd q hiy
  ·exact .inl q
  ·exact .inr (.inl (masks_anc _ _ #[] (by simp) (fun i j h => by simp at h) i x q))
  ·exact .inr (.inr (masks_anc _ _ #[] (by simp) (fun i j h => by simp at h) i y q))
theorem AWp.drawS {Q : Exit → St → Prop} {st : St} {id : Nat} {ops : Array Oper} (hm : P.follows .mixedOrders = true) (x y : Nat) (ord1 ord2 : List Nat) (hok : drawOkS ops x y ord1 ord2 = true) (h1 : aopsD P (addEdge ops y x) ord1 st (Q .normal)) (h2 : aopsD P (addEdge ops x y) ord2 st (Q .normal)) : AWp P (.region id ops true) Q st := fun e a w hin => wp_region_any hm (drawS_any x y ord1 ord2 hok h1 h2 hin)
end Go.Am
namespace Go.Am
variable {P : Program}
theorem AWp.regLT1 {Q : Exit → St → Prop} {st : St} {id : Nat} {ops : Array Oper} (hm : P.follows .mixedOrders = true) (x y : Nat) (ord1 ord2 : List Nat) (hok : drawOkS ops x y ord1 ord2 = true) (A1 A2 : List Nat) (hA1 : allocsOf (addEdge ops y x) = A1) (hA2 : allocsOf (addEdge ops x y) = A2)
  (h1 : ∀ K : St → Prop, (∀ st, Q .normal st → K st) → aopsL P (addEdge ops y x) A1 (ord1.filterMap ((addEdge ops y x)[·]?)) st K) (h2 : ∀ K : St → Prop, (∀ st, Q .normal st → K st) → aopsL P (addEdge ops x y) A2 (ord2.filterMap ((addEdge ops x y)[·]?)) st K) : AWp P (.region id ops true) Q st := by
 have hok' := hok
 unfold drawOkS at hok'
 simp only [Bool.and_eq_true, decide_eq_true_eq] at hok'
 refine AWp.drawS hm x y ord1 ord2 hok (aopsL_D ord1 (Left.init hok'.1.2).2.2 st _ ?_) (aopsL_D ord2 (Left.init hok'.2).2.2 st _ ?_)
 ·rw [hA1]; exact h1 _ fun _ h => h
 ·rw [hA2]; exact h2 _ fun _ h => h
end Go.Am
