/- The evaluator where something panics: calls that end in a panic, functions that recover. -/
import Derived.Test.YtdomhnkffghmlaaGreatDoorSEvRun
set_option linter.unusedVariables false
set_option linter.unusedSimpArgs false
namespace Go.Ev
noncomputable section
open Go.Am
variable {P : Program}
abbrev PanF := FuncId → List EV → Heap → Nat → Option (EV × Heap × Nat)
def PanOk (P : Program) (w0 : Base) (pan : PanF) : Prop := ∀ f args H k v H' k', pan f args H k = some (v, H', k') → ∀ (r : Env) (w : World) (cargs : Array Value), WRel w0 r H w → renL r args = some cargs.toList →
 (∃ fn, P.funcs[f]? = some fn ∧ fn.body.isNone = false ∧ (fn.name == "runtime.NumGoroutine") = false) ∧
 Calls P f cargs w fun e w' => ∃ r' cv, e = .panicked [{ v := cv, recovered := false }] ∧ r.Le r' ∧ WRel w0 r' H' w' ∧ ren r' v = some cv
def memN (k : Nat) : List Nat → Bool
 | [] => false
 | j :: l => bif Nat.beq j k then true else memN k l
theorem memN_mem {k : Nat} : ∀ {l : List Nat}, memN k l = false → k ∉ l
 | [], _, h => by cases h
 | j :: l, h, hm => by
  simp only [memN] at h
  cases hj : Nat.beq j k with
  | true => rw [hj] at h; cases h
  | false =>
   rw [hj] at h
   rcases List.mem_cons.1 hm with rfl | hm
   ·simp at hj
   ·exact memN_mem h hm
/-- A panic: its value, memory, what is deferred, some temporaries. -/
def PEnds (w0 : Base) (n : Nat) (r : Env) (ks : List Nat) (v : EV) (s : S) : Exit → Act → World → Prop := fun e a w => ∃ r' cv, r.Le r' ∧ e = .panic [{ v := cv, recovered := false }] ∧ ren r' v = some cv ∧ WRel w0 r' s.H w ∧ DRel r' s.D a.defers ∧ a.tmps.size = n ∧ ∀ t ∈ ks, ∀ c, s.T.get t = some c → ren r' c = some (a.tmps.getD t undef)
theorem PEnds.trans {w0 : Base} {n : Nat} {r r1 : Env} {ks : List Nat} {v : EV} {s : S} (hle : r.Le r1) {e : Exit} {a : Act} {w : World} (h : PEnds w0 n r1 ks v s e a w) : PEnds w0 n r ks v s e a w :=
 let ⟨r', cv, h1, h2⟩ := h; ⟨r', cv, hle.trans h1, h2⟩
/-- One operation that panics. -/
def opP (pan : PanF) (T : Tr EV) (H : Heap) (kc : Nat) (o : Oper) : Option (EV × Heap × Nat) := match o.op with
 | .panic x => match evO T x with
  | some (.ifc t c) => some (.ifc t c, H, kc)
  | _ => none
 | .call { callee := .value f, args := args, argTypes := _ } => match evO T f, evL T args.toList with
  | some (.fn g first caps), some cs => pan g (first ++ cs ++ caps) H kc
  | _, _ => none
 | _ => none
section
variable {n : Nat} {w0 : Base} {r : Env} {a : Act} {w : World} {o : Oper} {s s' : S} {call : CallF} {pan : PanF} {yc : YldF} {ks : List Nat}
theorem opP_done (hpan : PanOk P w0 pan) {kc : Nat} {v : EV} {H' : Heap} {k' : Nat} (h : opP pan s.T s.H kc o = some (v, H', k')) (hS : SRel w0 n r s a w) {K : Act → World → Prop} {Q : Exit → Act → World → Prop}
  (hQ : ∀ r' cv w', r.Le r' → ren r' v = some cv → WRel w0 r' H' w' → Q (.panic [{ v := cv, recovered := false }]) a w') : o.wp P a w K Q := by
 unfold opP at h
 split at h
 ·rename_i x ho
  split at h
  ·rename_i t c hx
   cases h
   have hv := hS.A.eval hx
   obtain ⟨cv, hcv⟩ : ∃ cv, ren r (.ifc t c) = some (.iface t cv) ∧ a.eval x = .iface t cv := by
    have hv' := hv
    simp only [ren, Option.bind_eq_some_iff] at hv'
    obtain ⟨y, h1, h2⟩ := hv'
    exact ⟨y, by simp [ren, h1], (Option.some.inj h2).symm⟩
   have hrun : (execOp a.eval o).run P w = .halt (.panic (.iface t cv)) w := by
    unfold execOp
    simp only [ho, hcv.2]
    rfl
   unfold Oper.wp
   rw [hrun]
   exact hQ r _ w (Env.Le.refl r) hcv.1 hS.W
  ·cases h
 ·rename_i f args ts ho
  split at h
  ·rename_i g first caps cs hf hargs
   have hfv := hS.A.eval hf
   simp only [ren, Option.bind_eq_some_iff] at hfv
   obtain ⟨x, hx, y, hy, hfv⟩ := hfv
   have hfv := (Option.some.inj hfv).symm
   have h2 : renL r (first ++ cs ++ caps) = some (x.toArray ++ args.map a.eval ++ y.toArray).toList := by
    have := renL_append (renL_append hx (hS.A.evL hargs)) hy
    simpa using this
   obtain ⟨⟨fn, hfn, hbody, hname⟩, h5⟩ := hpan _ _ _ _ _ _ _ h r w _ hS.W h2
   have h3 : (execOp a.eval o).run P w = .ok (.enter g (x.toArray ++ args.map a.eval ++ y.toArray)) w := by
    unfold execOp
    simp only [ho, resolve, hfv, Deferred.ofValue, Sem.run_bind, Sem.run_pure, Result.andThen_ok, invoke, callFunc, run_program, hfn, hname, Bool.false_eq_true, if_false, hbody]
   unfold Oper.wp
   rw [h3]
   refine h5.mono ?_
   rintro e w' ⟨r', cv, rfl, hle, hW, hc⟩
   exact hQ r' cv w' hle hc hW
  ·cases h
 ·cases h
/-- A region in the order of its text, up to what panics. -/
def seqP (P : Program) (call : CallF) (pan : PanF) (n : Nat) (all : Array Oper) : Nat → List Oper → S → Option (EV × S)
 | _, [], _ => none
 | k, o :: l, s => match stepE P call n k all o s with
  | some s' => seqP P call pan n all (k + 1) l s'
  | none => match gdE all o s.T with
   | some true => match opP pan s.T s.H s.k o with
    | some (v, H', k') => some (v, ⟨s.T, H', k', s.D⟩)
    | none => none
   | _ => none
theorem pends_of (hS : SRel w0 n r s a w) {v : EV} {H' : Heap} {k' : Nat} {cv : Value} {r' : Env} {w' : World} (hle : r.Le r') (hc : ren r' v = some cv) (hW : WRel w0 r' H' w') : PEnds w0 n r ks v ⟨s.T, H', k', s.D⟩ (.panic [{ v := cv, recovered := false }]) a w' :=
 ⟨r', cv, hle, rfl, hc, hW, hS.D.mono hle, hS.A.n, fun t _ c ht => ren_mono hle _ _ (hS.A.tmps t c ht)⟩
theorem seqP_done (hcall : CallOk P w0 call) (hpan : PanOk P w0 pan) {all : Array Oper} {v : EV} {Q : Exit → Act → World → Prop} : ∀ (m i k : Nat), i + m = all.size → ∀ (r : Env) (s : S) (a : Act) (w : World), seqP P call pan n all k (all.toList.drop i) s = some (v, s') → SRel w0 n r s a w → (∀ e a w, PEnds w0 n r ks v s' e a w → Q e a w) → wpOps P all Q (List.range' i m) a w
 | 0, i, k, hi, r, s, a, w, h, hS, hQ => by
  rw [List.drop_eq_nil_of_le (by simp; omega)] at h
  cases h
 | m + 1, i, k, hi, r, s, a, w, h, hS, hQ => by
  have hlt : i < all.size := by omega
  rw [List.drop_eq_getElem_cons (by simpa using hlt)] at h
  simp only [seqP] at h
  rw [List.range'_succ, wpOps_cons]
  have hi' : all[i]? = some all.toList[i] := by simp [hlt]
  split at h
  ·rename_i s1 h1
   refine wpOp_mono ?_ (stepE_done hcall hi' h1 hS Q)
   rintro a' w' ⟨r', hle, hS'⟩
   exact seqP_done hcall hpan m (i + 1) (k + 1) (by omega) r' s1 a' w' h hS' (fun e a w hp => hQ e a w (hp.trans hle))
  ·split at h
   ·rename_i hg
    split at h
    ·rename_i v1 H1 k1 h1
     cases h
     unfold wpOp
     simp only [hi']
     rw [gdE_wanted hg hS.A, if_pos rfl]
     exact .inl (opP_done hpan h1 hS fun r' cv w' hle hc hW => hQ _ _ _ (pends_of hS hle hc hW))
    ·cases h
   ·cases h
theorem putT_get {T : Tr EV} {d : Option Tmp} {c : EV} {t : Nat} (h : d ≠ some t) : (putT T d c).get t = T.get t := by
 cases d with
 | none => rfl
 | some d =>
  have : t ≠ d := fun e => h (by rw [e])
  simp [putT, Tr.get_set, this]
theorem stepE_T {k : Nat} {all : Array Oper} (h : stepE P call n k all o s = some s') {t : Nat} (ht : o.dst ≠ some t) : s'.T.get t = s.T.get t := by
 unfold stepE at h
 split at h
 ·rw [opE_eq] at h
  unfold opE0 at h
  cases hd : dstOk n o.dst with
  | false => rw [hd] at h; cases h
  | true =>
   rw [hd] at h
   simp only [cond_true] at h
   split at h
   ·cases h; exact putT_get ht
   ·split at h
    ·cases h; exact putT_get ht
    ·split at h
     ·cases h; exact putT_get ht
     ·split at h
      ·cases h; exact putT_get ht
      ·cases h
 ·cases hd : dstOk n o.dst with
  | false => rw [hd] at h; cases h
  | true =>
   rw [hd] at h
   cases h
   exact putT_get ht
 ·cases h
def okDst (ks : List Nat) (all : Array Oper) : Bool := all.toList.all fun o => match o.dst with
 | some t => !memN t ks
 | none => true
theorem okDst_at {all : Array Oper} (h : okDst ks all = true) {i : Nat} (hi : all[i]? = some o) {t : Nat} (ht : t ∈ ks) : o.dst ≠ some t := fun e => by
 have := List.all_eq_true.1 h o (List.mem_of_getElem? (by simpa using hi))
 rw [e] at this
 simp only [Bool.not_eq_true'] at this
 exact memN_mem this ht
def pq (a b : EV × S) : Bool := EV.q a.1 b.1 && Nat.beq a.2.k b.2.k && Tr.q Blk.q a.2.H b.2.H && dq a.2.D b.2.D
def Same (x y : EV × S) : Prop := x.1 = y.1 ∧ x.2.H = y.2.H ∧ x.2.D = y.2.D
theorem pq_same {x y : EV × S} (h : pq x y = true) : Same x y := by
 simp only [pq, Bool.and_eq_true] at h
 obtain ⟨⟨⟨h1, h2⟩, h3⟩, h4⟩ := h
 exact ⟨EV.q_eq h1, Tr.q_eq Blk.q_eq h3, dq_eq h4⟩
def brP (f : Nat → Option (EV × S)) : List Nat → Option (EV × S)
 | [] => none
 | [i] => f i
 | i :: r => match f i, brP f r with
  | some x, some y => bif pq x y then some x else none
  | _, _ => none
theorem brP_spec {f : Nat → Option (EV × S)} {x : EV × S} : ∀ {l : List Nat}, brP f l = some x → ∀ i ∈ l, ∃ y, f i = some y ∧ Same x y
 | [], h, i, hi => by cases hi
 | [j], h, i, hi => by
  have : i = j := by simpa using hi
  subst this; exact ⟨x, h, rfl, rfl, rfl⟩
 | j :: k :: r, h, i, hi => by
  simp only [brP] at h
  split at h
  ·rename_i x1 y1 h1 h2
   cases hq : pq x1 y1 with
   | false => rw [hq] at h; cases h
   | true =>
    rw [hq] at h
    cases h
    obtain ⟨e1, e2, e3⟩ := pq_same hq
    rcases List.mem_cons.1 hi with rfl | hi
    ·exact ⟨_, h1, rfl, rfl, rfl⟩
    ·obtain ⟨y, k1, k2, k3, k4⟩ := brP_spec h2 i hi
     exact ⟨y, k1, e1.trans k2, e2.trans k3, e3.trans k4⟩
  ·cases h
/-- A region in whatever order, up to what panics. -/
def anyP (P : Program) (call : CallF) (pan : PanF) (g n k0 : Nat) (all : Array Oper) : Nat → Array Bool → List Hd → S → Option (EV × S)
 | 0, _, _, _ => none
 | fuel + 1, listed, L, s => match Region.ready .any all listed with
  | [] => none
  | rs => match pickE2 (quickE P n all listed s) rs with
   | some (i, o, c) => anyP P call pan g n k0 all fuel (listed.setIfInBounds i true) L (s.put o.dst c)
   | none => match pickE2 (quickL P n all listed s) rs with
    | some (i, o, c, x) => anyP P call pan g n k0 all fuel (listed.setIfInBounds i true) (x :: L) (s.put o.dst c)
    | none => brP (fun i => match all[i]? with
     | some o => match stepE P call n (k0 + i) all o (s.setK (k0 + all.size + i * g)) with
      | some s' => bif heldE s'.H L then anyP P call pan g n k0 all fuel (listed.setIfInBounds i true) L (s'.setK (k0 + all.size + all.size * g)) else none
      | none => match gdE all o s.T with
       | some true => match opP pan s.T s.H (k0 + all.size + i * g) o with
        | some (v, H', k') => some (v, ⟨s.T, H', k0 + all.size + all.size * g, s.D⟩)
        | none => none
       | _ => none
     | none => none) rs
theorem pends_unput {v : EV} {S1 : S} {d : Option Tmp} {x : Value} (hd : ∀ t ∈ ks, d ≠ some t) {c : List PanicEntry} (h : PEnds w0 n r ks v S1 (.panic c) (a.put d x) w) : PEnds w0 n r ks v S1 (.panic c) a w := by
 obtain ⟨r', cv, h1, h2, h3, h4, h5, h6, h7⟩ := h
 refine ⟨r', cv, h1, h2, h3, h4, by rw [put_defers] at h5; exact h5, by rw [← h6]; cases d <;> simp [Act.put], fun t ht c' hc => ?_⟩
 rw [h7 t ht c' hc]
 congr 1
 cases d with
 | none => rfl
 | some d =>
  have : d ≠ t := fun e => hd t ht (by rw [e])
  simp [Act.put, Array.getD_eq_getD_getElem?, Array.getElem?_setIfInBounds_ne this]
theorem anyP_done (hcall : CallOk P w0 call) (hpan : PanOk P w0 pan) {ops : Array Oper} {g k0 : Nat} (hsel : Region.noSelect ops = true) (hok : okDst ks ops = true) {r0 : Env} {T0 : Tr EV} {v : EV} {H1 : Heap} {D1 : List Df} :
  ∀ (fuel : Nat) (listed : Array Bool) (L : List Hd) (r : Env) (s : S) (a : Act) (w : World) (T1 : Tr EV) (k1 : Nat), r0.Le r → anyP P call pan g n k0 ops fuel listed L s = some (v, ⟨T1, H1, k1, D1⟩) → SRel w0 n r s a w → HeldNow s.H L → (∀ t ∈ ks, s.T.get t = T0.get t) →
  wpAnyH P .any ops (PEnds w0 n r0 ks v ⟨T0, H1, k1, D1⟩) (HeldP r L) fuel listed a w
 | 0, listed, L, r, s, a, w, T1, k1, hr0, h, hS, hL, hT => by simp only [anyP] at h; cases h
 | fuel + 1, listed, L, r, s, a, w, T1, k1, hr0, h, hS, hL, hT => by
  simp only [anyP] at h
  split at h
  ·cases h
  ·rename_i rs hrs
   have hP := HeldP.of hL hS.W
   have hT' : ∀ {i : Nat} {o : Oper} {c : EV}, ops[i]? = some o → ∀ t ∈ ks, (s.put o.dst c).T.get t = T0.get t := fun {i o c} ho t ht => by
    rw [← hT t ht]; exact putT_get (okDst_at hok ho ht)
   split at h
   ·rename_i i o c hp
    obtain ⟨hi, hqk⟩ := pickE2_spec hp
    unfold quickE at hqk
    split at hqk
    ·rename_i o' ho
     cases hd : (dstOk n o'.dst && Region.free .any ops listed i) with
     | false => rw [hd] at hqk; cases hqk
     | true =>
      rw [hd] at hqk
      simp only [Bool.and_eq_true] at hd
      simp only [cond_true] at hqk
      split at hqk
      ·rename_i hg
       cases hqk
       refine wpAnyH_take ho hsel hd.2 (by simpa using hi) (fun c a w hc => pends_unput (fun t ht => okDst_at hok ho ht) hc) (v := undef) (.inr ⟨gdE_wanted hg hS.A, rfl⟩) hP ?_
       exact anyP_done hcall hpan hsel hok fuel _ L r _ _ w T1 k1 hr0 h ⟨hS.A.putT hd.1 rfl, hS.W, by rw [put_defers]; exact hS.D⟩ hL (hT' ho)
      ·rename_i hg
       obtain ⟨c', h1, h2⟩ := Option.bind_eq_some_iff.1 hqk
       cases h2
       obtain ⟨cv, hrun, hcv⟩ := evPure_done h1 hS.A
       refine wpAnyH_take ho hsel hd.2 (by simpa using hi) (fun c a w hc => pends_unput (fun t ht => okDst_at hok ho ht) hc) (v := cv) (.inl ⟨gdE_wanted hg hS.A, fun w _ => hrun w⟩) hP ?_
       exact anyP_done hcall hpan hsel hok fuel _ L r _ _ w T1 k1 hr0 h ⟨hS.A.putT hd.1 hcv, hS.W, by rw [put_defers]; exact hS.D⟩ hL (hT' ho)
      ·cases hqk
    ·cases hqk
   ·split at h
    ·rename_i i o c x hp
     obtain ⟨hi, hqk⟩ := pickE2_spec hp
     unfold quickL at hqk
     split at hqk
     ·rename_i o' ho
      cases hd : (dstOk n o'.dst && Region.free .any ops listed i) with
      | false => rw [hd] at hqk; cases hqk
      | true =>
       rw [hd] at hqk
       simp only [Bool.and_eq_true] at hd
       simp only [cond_true] at hqk
       split at hqk
       ·rename_i t y hg hop
        split at hqk
        ·rename_i c' k off d hld hx hty
         split at hqk
         ·rename_i cs ty sz hk
          cases hok' : okHold P ops listed s.T k off d.size with
          | false => rw [hok'] at hqk; cases hqk
          | true =>
          rw [hok'] at hqk
          cases hqk
          obtain ⟨k', off', d', cs', ty', sz', q1, q2, q3, q4, cv, k7, k8⟩ := ldE_spec2 (P := P) hld hS.A hS.W
          rw [hx] at q1
          cases q1
          rw [hk] at q3
          cases q3
          rw [hty] at q2
          cases q2
          have hL' : HeldNow s.H (⟨k, off, d.agg, d.size, c, ty⟩ :: L) := fun z hz => by
           rcases List.mem_cons.1 hz with rfl | hz
           ·exact ⟨cs, sz, hk, q4⟩
           ·exact hL z hz
          refine wpAnyH_mono (S1 := HeldP r (⟨k, off, d.agg, d.size, c, ty⟩ :: L)) (fun w hw z hz => hw z (by simp [hz])) _ _ _ _ ?_
          refine wpAnyH_take ho hsel hd.2 (by simpa using hi) (fun c a w hc => pends_unput (fun t ht => okDst_at hok ho ht) hc) (v := cv) (.inl ⟨gdE_wanted hg hS.A, fun w1 hw1 => ?_⟩) (HeldP.of hL' hS.W) ?_
          ·obtain ⟨b1, ccs1, cv1, j1, j2, j3, j4⟩ := hw1 ⟨k, off, d.agg, d.size, c, ty⟩ (by simp)
           obtain rfl : cv = cv1 := Option.some.inj (k7.symm.trans j2)
           have := k8 b1 j1 w1 ccs1 j3 j4
           unfold execOp
           simp [hop, this]
          ·exact anyP_done hcall hpan hsel hok fuel _ _ r _ _ w T1 k1 hr0 h ⟨hS.A.putT hd.1 k7, hS.W, by rw [put_defers]; exact hS.D⟩ hL' (hT' ho)
         ·cases hqk
        ·cases hqk
       ·cases hqk
     ·cases hqk
    ·refine wpAnyH_all (rs := Region.ready .any ops listed) rfl (fun e => hrs e) fun i hi => ?_
     obtain ⟨⟨v2, ⟨T2, H2, k2, D2⟩⟩, hb, e1, e2, e3⟩ := brP_spec h i hi
     simp only at e1 e2 e3
     subst e1 e2 e3
     split at hb
     ·rename_i o ho
      split at hb
      ·rename_i s1 h1
       cases hh : heldE s1.H L with
       | false => rw [hh] at hb; cases hb
       | true =>
        rw [hh] at hb
        simp only [cond_true] at hb
        have hL1 := heldE_now hh
        refine wpOp_mono ?_ (stepE_done hcall ho h1 hS.reK _)
        rintro a' w' ⟨r', hle, hS'⟩
        have hP' := HeldP.of hL1 hS'.W
        refine ⟨HeldP.back hle hP hP', wpAnyH_mono (S1 := HeldP r' L) (fun w1 hw1 => HeldP.back hle hP hw1) _ _ _ _ ?_⟩
        exact anyP_done hcall hpan hsel hok fuel _ L r' _ a' w' T2 k2 (hr0.trans hle) hb hS'.reK hL1 (fun t ht => (stepE_T h1 (okDst_at hok ho ht)).trans (hT t ht))
      ·split at hb
       ·rename_i hg
        split at hb
        ·rename_i v3 H3 k3 h3
         cases hb
         unfold wpOp
         simp only [ho]
         rw [gdE_wanted hg hS.A, if_pos rfl]
         refine .inl (opP_done (K := _) hpan h3 hS fun r' cv w' hle hc hW => ?_)
         obtain ⟨r4, cv4, q1, q2, q3, q4, q5, q6, q7⟩ := (pends_of (ks := ks) (k' := 0) hS hle hc hW).trans hr0
         exact ⟨r4, cv4, q1, q2, q3, q4, q5, q6, fun t ht c hc => q7 t ht c ((hT t ht).trans hc)⟩
        ·cases hb
       ·cases hb
     ·cases hb
def regP (P : Program) (call : CallF) (pan : PanF) (g n : Nat) (ks : List Nat) (ops : Array Oper) (draw : Bool) (s : S) : Option (EV × S) := match draw with
 | false => seqP P call pan n ops s.k ops.toList (s.setK (s.k + ops.size))
 | true => bif Region.noSelect ops && P.follows .mixedOrders && okDst ks ops then (match anyP P call pan g n s.k ops ops.size (Array.replicate ops.size false) [] s with
  | some (v, s') => some (v, ⟨s.T, s'.H, s'.k, s'.D⟩)
  | none => none) else none
theorem regP_done (hcall : CallOk P w0 call) (hpan : PanOk P w0 pan) {g : Nat} {id : Nat} {ops : Array Oper} {draw : Bool} {v : EV} (h : regP P call pan g n ks ops draw s = some (v, s')) (hS : SRel w0 n r s a w) : (Code.region id ops draw).wp P (PEnds w0 n r ks v s') a w := by
 cases draw with
 | false =>
  simp only [regP] at h
  refine wp_region ?_
  rw [List.range_eq_range']
  exact seqP_done hcall hpan ops.size 0 _ (by simp) r _ a w (by simpa using h) hS.reK fun e a w hp => hp
 | true =>
  simp only [regP] at h
  cases hc : (Region.noSelect ops && P.follows .mixedOrders && okDst ks ops) with
  | false => rw [hc] at h; cases h
  | true =>
   rw [hc] at h
   simp only [Bool.and_eq_true, cond_true] at h hc
   split at h
   ·rename_i v1 s1 h1
    cases h
    have hS' : SRel w0 n r s a { w with drawn := w.drawn + 1 } := ⟨hS.A, hS.W.same rfl rfl rfl rfl, hS.D⟩
    refine wp_region_any hc.1.2 (wpAny_of_held (S := HeldP r []) _ _ _ _ ?_)
    obtain ⟨T1, H1, k1, D1⟩ := s1
    exact anyP_done hcall hpan hc.1.1 hc.2 ops.size _ [] r s a _ T1 k1 (Env.Le.refl r) h1 hS' (fun x hx => by cases hx) fun t _ => rfl
   ·cases h
def loopP (body : S → Option (Ex × S)) (bodyP : S → Option (EV × S)) : Nat → S → Option (EV × S)
 | 0, _ => none
 | m + 1, s => match body s with
  | some (.normal, s') => loopP body bodyP m s'
  | some _ => none
  | none => bodyP s
/-- Code that ends in a panic. -/
def codeP (P : Program) (call : CallF) (yc : YldF) (pan : PanF) (g n L : Nat) (ks : List Nat) : Code → S → Option (EV × S)
 | .region _ ops draw, s => regP P call pan g n ks ops draw s
 | .seq x y, s => match codeE P call yc false g n L x s with
  | some (.normal, s') => codeP P call yc pan g n L ks y s'
  | some _ => none
  | none => codeP P call yc pan g n L ks x s
 | .cond c x y, s => match evO s.T c with
  | some (.v (.bool true)) => codeP P call yc pan g n L ks x s
  | some (.v (.bool false)) => codeP P call yc pan g n L ks y s
  | _ => none
 | .block _ c, s => codeP P call yc pan g n L ks c s
 | .loop c, s => loopP (fun s => codeE P call yc false g n L c s) (fun s => codeP P call yc pan g n L ks c s) L s
 | .scope c, s => codeP P call yc pan g n L ks c s
 | _, _ => none
theorem codeP_done (hcall : CallOk P w0 call) (hyc : YldOk P w0 yc) (hpan : PanOk P w0 pan) {g L : Nat} : ∀ (c : Code) (r : Env) (s : S) (a : Act) (w : World) (v : EV) (s' : S), codeP P call yc pan g n L ks c s = some (v, s') → SRel w0 n r s a w → c.wp P (PEnds w0 n r ks v s') a w := by
 intro c
 induction c with
 | region id ops draw =>
  intro r s a w v s' h hS
  simp only [codeP] at h
  exact regP_done hcall hpan h hS
 | seq y z ihy ihz =>
  intro r s a w v s' h hS
  simp only [codeP] at h
  refine wp_seq ?_
  split at h
  ·rename_i s1 h1
   refine wp_mono (wpIn_wide.1 (codeE_done (w0 := w0) (.inl rfl) (fun _ => rfl) hcall hyc y r s a w _ _ h1 hS)) ?_
   rintro e a' w' ⟨rfl, r', hle, hS'⟩
   exact wp_mono (ihz r' s1 a' w' v s' h hS') fun e a w hh => hh.trans hle
  ·cases h
  ·refine wp_mono (ihy r s a w v s' h hS) ?_
   rintro e a' w' hp
   obtain ⟨r', cv, h1, rfl, h3⟩ := hp
   exact ⟨r', cv, h1, rfl, h3⟩
 | cond c y z ihy ihz =>
  intro r s a w v s' h hS
  simp only [codeP] at h
  split at h
  ·rename_i hc
   exact wpIn_wide.1 (wpIn_cond_true (Option.some.inj (hS.A.eval hc)).symm ((wpIn_wide (n := 0)).2 (ihy r s a w v s' h hS)))
  ·rename_i hc
   exact wpIn_wide.1 (wpIn_cond_false (Option.some.inj (hS.A.eval hc)).symm ((wpIn_wide (n := 0)).2 (ihz r s a w v s' h hS)))
  ·cases h
 | block i c ih =>
  intro r s a w v s' h hS
  simp only [codeP] at h
  refine wp_block (wp_mono (ih r s a w v s' h hS) ?_)
  rintro e a' w' ⟨r', cv, h1, rfl, h3⟩
  exact ⟨r', cv, h1, rfl, h3⟩
 | scope c ih =>
  intro r s a w v s' h hS
  simp only [codeP] at h
  refine wp_scope_straight (wp_mono (ih r s a w v s' h hS) ?_)
  rintro e a' w' ⟨r', cv, h1, rfl, h3⟩
  exact ⟨r', cv, h1, rfl, h3⟩
 | loop c ih =>
  intro r s a w v s' h hS
  simp only [codeP] at h
  have key : ∀ (m : Nat) (r : Env) (s : S) (a : Act) (w : World), loopP (fun s => codeE P call yc false g n L c s) (fun s => codeP P call yc pan g n L ks c s) m s = some (v, s') → SRel w0 n r s a w → Code.roundsIn Fence.wide 0 P c (PEnds w0 n r ks v s') m a w := by
   intro m
   induction m with
   | zero => intro r s a w h; cases h
   | succ m ihm =>
    intro r s a w h hS
    simp only [loopP] at h
    show c.wpIn Fence.wide 0 P _ a w
    split at h
    ·rename_i s1 h1
     refine wpIn_mono (codeE_done (w0 := w0) (.inl rfl) (fun _ => rfl) hcall hyc c r s a w _ _ h1 hS) ?_
     rintro e a' w' ⟨rfl, r', hle, hS'⟩
     have := ihm r' s1 a' w' h hS'
     have mono : ∀ (m : Nat) (a : Act) (w : World), Code.roundsIn Fence.wide 0 P c (PEnds w0 n r' ks v s') m a w → Code.roundsIn Fence.wide 0 P c (PEnds w0 n r ks v s') m a w := by
      intro m
      induction m with
      | zero => exact fun a w h => h
      | succ m ih2 =>
       intro a w h
       refine wpIn_mono (show c.wpIn Fence.wide 0 P _ a w from h) fun e a w hh => ?_
       cases e <;> first | exact ih2 a w hh | exact PEnds.trans hle hh
     exact mono m a' w' this
    ·cases h
    ·refine wpIn_wide.2 (wp_mono (ih r s a w v s' h hS) ?_)
     rintro e a' w' ⟨r', cv, h1, rfl, h3⟩
     exact ⟨r', cv, h1, rfl, h3⟩
  exact wpIn_wide.1 (wpIn_loop_rounds L (key L r s a w h hS))
 | skip => intro r s a w v s' h hS; simp [codeP] at h
 | label l => intro r s a w v s' h hS; simp [codeP] at h
 | exit i => intro r s a w v s' h hS; simp [codeP] at h
 | ret => intro r s a w v s' h hS; simp [codeP] at h
 | rangeFunc f ps x y _ _ => intro r s a w v s' h hS; simp [codeP] at h
 | goto l => intro r s a w v s' h hS; simp [codeP] at h
 | refuse y => intro r s a w v s' h hS; simp [codeP] at h
/-- A function that ends in a panic; it has deferred nothing. -/
def funP (P : Program) (call : CallF) (yc : YldF) (pan : PanF) (g L : Nat) : PanF := fun f args H k =>
 match P.funcs[f]? with
 | some fn => match fn.body with
  | some c => bif Nat.ble args.length fn.ntmps && !(fn.name == "runtime.NumGoroutine") then
   match codeP P call yc pan g fn.ntmps L [] c { T := argsT args 0 (Tr.mk 4), H := H, k := k, D := [] } with
   | some (v, s) => match s.D with
    | [] => some (v, s.H, s.k)
    | _ => none
   | none => none
   else none
  | none => none
 | none => none
theorem funP_done (hcall : CallOk P w0 call) (hyc : YldOk P w0 yc) (hpan : PanOk P w0 pan) {g L : Nat} : PanOk P w0 (funP P call yc pan g L) := by
 intro f args H k v H' k' h r w cargs hW hargs
 unfold funP at h
 split at h
 ·rename_i fn hf
  split at h
  ·rename_i c hb
   cases hc : (Nat.ble args.length fn.ntmps && !(fn.name == "runtime.NumGoroutine")) with
   | false => rw [hc] at h; cases h
   | true =>
    rw [hc] at h
    simp only [cond_true] at h
    simp only [Bool.and_eq_true, Bool.not_eq_true'] at hc
    have c1 := Nat.le_of_ble_eq_true hc.1
    have hA := ARel.entry (fn := fn) hargs c1
    refine ⟨⟨fn, hf, by simp [hb], hc.2⟩, ?_⟩
    split at h
    ·rename_i v1 s1 h1
     split at h
     ·rename_i hD
      cases h
      refine (callsIn_wide (n := 0)).1 (callsIn_of_wp_marks hf hb trivial ?_)
      refine wpIn_wide.2 (wp_mono (codeP_done (w0 := w0) hcall hyc hpan c r _ _ w v s1 h1 ⟨hA, hW, trivial⟩) ?_)
      rintro e a' w' ⟨r', cv, hle, rfl, hv, hW', hDr, _, _⟩
      rw [hD] at hDr
      have hd : a'.defers = [] := by
       cases hq : a'.defers with
       | nil => rfl
       | cons d l => rw [hq] at hDr; exact hDr.elim
      show LeavesInM Fence.wide 0 P fn a'.tmps _ a'.defers (.panicking _) w'
      rw [hd]
      exact ⟨r', cv, rfl, hle, hW', hv⟩
     ·cases h
    ·cases h
  ·cases h
 ·cases h
/-- A deferred call that recovers. -/
def recP (P : Program) (call : CallF) (yc : YldF) (g L : Nat) (v : EV) (f : FuncId) (args : List EV) (H : Heap) (k : Nat) : Option (Heap × Nat) :=
 match P.funcs[f]? with
 | some fn => match fn.body with
  | some (.seq (.region _ ops false) rest) => match ops.toList with
   | [o0, o1] => match o0.op, o0.guard, o0.dst, o1.op, o1.guard, o1.dst with
    | .call { callee := .builtin .recover, args := as, argTypes := _ }, none, some t7, .assign (.tmp t7'), none, some t3 =>
     bif Nat.beq t7 t7' && as.isEmpty && fn.results.isEmpty && Nat.ble args.length fn.ntmps && Nat.blt t7 fn.ntmps && Nat.blt t3 fn.ntmps && !(fn.name == "runtime.NumGoroutine") then
      match codeE P call yc false g fn.ntmps L rest { T := ((argsT args 0 (Tr.mk 4)).set t7 v).set t3 v, H := H, k := k, D := [] } with
      | some (.normal, s) => match s.D with
       | [] => some (s.H, s.k)
       | _ => none
      | some (.ret, s) => match s.D with
       | [] => some (s.H, s.k)
       | _ => none
      | _ => none
     else none
    | _, _, _, _, _, _ => none
   | _ => none
  | _ => none
 | none => none
theorem recP_done (hcall : CallOk P w0 call) (hyc : YldOk P w0 yc) {g L : Nat} {v : EV} {cv : Value} {f : FuncId} {args : List EV} {H H' : Heap} {k k' : Nat} (h : recP P call yc g L v f args H k = some (H', k')) (hW : WRel w0 r H w) (hv : ren r v = some cv) {cargs : Array Value} (hargs : renL r args = some cargs.toList) :
  (∃ fn, P.funcs[f]? = some fn ∧ fn.body.isNone = false ∧ (fn.name == "runtime.NumGoroutine") = false) ∧ CallsDIn Fence.wide 0 P f cargs (.panicking [{ v := cv, recovered := false }]) w fun en u' w' => (∃ v, en = .returned v) ∧ u' = .panicking [{ v := cv, recovered := true }] ∧ ∃ r', r.Le r' ∧ WRel w0 r' H' w' := by
 unfold recP at h
 split at h
 ·rename_i fn hf
  split at h
  ·rename_i rid ops rest hb
   split at h
   ·rename_i o0 o1 hops
    split at h
    ·rename_i as ts t7 t7' t3 h0 g0 d0 h1 g1 d1
     cases hc : (Nat.beq t7 t7' && as.isEmpty && fn.results.isEmpty && Nat.ble args.length fn.ntmps && Nat.blt t7 fn.ntmps && Nat.blt t3 fn.ntmps && !(fn.name == "runtime.NumGoroutine")) with
     | false => rw [hc] at h; cases h
     | true =>
      rw [hc] at h
      simp only [cond_true] at h
      simp only [Bool.and_eq_true, Nat.blt_eq, Array.isEmpty_iff, Bool.not_eq_true'] at hc
      obtain ⟨⟨⟨⟨⟨⟨c1, c2⟩, c3⟩, c4⟩, c5⟩, c6⟩, c7⟩ := hc
      obtain rfl := Nat.eq_of_beq_eq_true c1
      have c4 := Nat.le_of_ble_eq_true c4
      obtain rfl : ops = #[o0, o1] := by apply Array.ext'; simpa using hops
      subst c2
      have hsz : cargs.size = args.length := by have := renL_len hargs; simpa using this
      refine ⟨⟨fn, hf, by simp [hb], c7⟩, ?_⟩
      refine callsD_rec hf hb h0 g0 d0 h1 g1 d1 (u1 := .panicking [{ v := cv, recovered := true }]) (rv := cv) (fun c₀ cs hu => .inl (by simp [recoverD, hu])) (by simp; omega) ?_
      have hA := ((ARel.entry (fn := fn) hargs c4).put (t := t7) c5 (c := v) hv).put (t := t3) c6 (c := v) hv
      have fin : ∀ {x : Ex} {s : S}, codeE P call yc false g fn.ntmps L rest { T := ((argsT args 0 (Tr.mk 4)).set t7 v).set t3 v, H := H, k := k, D := [] } = some (x, s) → (x = .normal ∨ x = .ret) → s.D = [] → s.H = H' →
        rest.wp P (fun x a' w' => (x = .normal ∨ x = .ret) ∧ a'.defers = [] ∧ ∃ v, (results fn a'.tmps).run P w' = .ok v w' ∧ ((∃ v', (Ending.returned v) = .returned v') ∧ FrameMode.panicking [{ v := cv, recovered := true }] = .panicking [{ v := cv, recovered := true }] ∧ ∃ r', r.Le r' ∧ WRel w0 r' H' w')) ((({ tmps := cargs ++ Array.replicate (fn.ntmps - cargs.size) undef, defers := [] } : Act).put (some t7) cv).put (some t3) cv) w := by
       intro x s he hx hD hH
       refine wp_mono (wpIn_wide.1 (codeE_done (w0 := w0) (.inl rfl) (fun _ => rfl) hcall hyc rest r _ _ w x s he ⟨hA, hW, by rw [put_defers, put_defers]; trivial⟩)) ?_
       rintro e a' w' ⟨rfl, r', hle, hS'⟩
       refine ⟨by rcases hx with rfl | rfl <;> simp [Ex.ex], ?_, .tuple #[], by simp [results, c3], ⟨_, rfl⟩, rfl, r', hle, by rw [← hH]; exact hS'.W⟩
       have := hS'.D
       rw [hD] at this
       cases hq : a'.defers with
       | nil => rfl
       | cons d l => rw [hq] at this; exact this.elim
      split at h
      ·rename_i s he
       split at h
       ·rename_i hD; cases h; exact fin he (.inl rfl) hD rfl
       ·cases h
      ·rename_i s he
       split at h
       ·rename_i hD; cases h; exact fin he (.inr rfl) hD rfl
       ·cases h
      ·cases h
    ·cases h
   ·cases h
  ·cases h
 ·cases h
def resKs : List ResultVar → List Nat
 | [] => []
 | .tmp t :: l => t :: resKs l
 | .cell t _ :: l => t :: resKs l
def restr (T : Tr EV) : List Nat → Tr EV
 | [] => Tr.mk 4
 | t :: l => match T.get t with
  | some c => (restr T l).set t c
  | none => restr T l
theorem restr_get {T : Tr EV} : ∀ {l : List Nat} {t : Nat} {c : EV}, (restr T l).get t = some c → t ∈ l ∧ T.get t = some c
 | [], t, c, h => by rw [restr, Tr.get_mk] at h; cases h
 | k :: l, t, c, h => by
  unfold restr at h
  split at h
  ·rename_i c' hk
   rw [Tr.get_set] at h
   by_cases e : t = k
   ·subst e; rw [if_pos rfl] at h; cases h; exact ⟨by simp, hk⟩
   ·rw [if_neg e] at h
    obtain ⟨h1, h2⟩ := restr_get h
    exact ⟨List.mem_cons_of_mem _ h1, h2⟩
  ·obtain ⟨h1, h2⟩ := restr_get h
   exact ⟨List.mem_cons_of_mem _ h1, h2⟩
/-- A function that has deferred one call, which recovers. -/
def funR (P : Program) (call : CallF) (yc : YldF) (pan : PanF) (g L : Nat) : CallF := fun f args H k =>
 match P.funcs[f]? with
 | some fn => match fn.body with
  | some c => bif Nat.ble args.length fn.ntmps && !(fn.name == "runtime.NumGoroutine") then
   match codeP P call yc pan g fn.ntmps L (resKs fn.results.toList) c { T := argsT args 0 (Tr.mk 4), H := H, k := k, D := [] } with
   | some (v, s) => match s.D with
    | [.call fd as caps] => match recP P call yc g L v fd (as ++ caps) s.H s.k with
     | some (H', k') => match resE P ⟨restr s.T (resKs fn.results.toList), H', k', []⟩ fn.results.toList with
      | some cs => some (oneE cs, H', k')
      | none => none
     | none => none
    | _ => none
   | none => none
   else none
  | none => none
 | none => none
theorem funR_done (hcall : CallOk P w0 call) (hyc : YldOk P w0 yc) (hpan : PanOk P w0 pan) {g L : Nat} : CallOk P w0 (funR P call yc pan g L) := by
 intro f args H k v H' k' h r w cargs hW hargs
 unfold funR at h
 split at h
 ·rename_i fn hf
  split at h
  ·rename_i c hb
   cases hc : (Nat.ble args.length fn.ntmps && !(fn.name == "runtime.NumGoroutine")) with
   | false => rw [hc] at h; cases h
   | true =>
    rw [hc] at h
    simp only [cond_true] at h
    simp only [Bool.and_eq_true, Bool.not_eq_true'] at hc
    have c1 := Nat.le_of_ble_eq_true hc.1
    have hA := ARel.entry (fn := fn) hargs c1
    refine ⟨⟨fn, hf, by simp [hb], hc.2⟩, ?_⟩
    split at h
    ·rename_i v1 s1 h1
     split at h
     ·rename_i fd as caps hD
      split at h
      ·rename_i H2 k2 h2
       split at h
       ·rename_i cs hres
        cases h
        refine (callsIn_wide (n := 0)).1 (callsIn_of_wp_marks hf hb trivial ?_)
        refine wpIn_wide.2 (wp_mono (codeP_done (w0 := w0) hcall hyc hpan c r _ _ w v1 s1 h1 ⟨hA, hW, trivial⟩) ?_)
        rintro e a' w' ⟨r', cv, hle, rfl, hv, hW', hDr, hn, hks⟩
        rw [hD] at hDr
        show LeavesInM Fence.wide 0 P fn a'.tmps _ a'.defers (.panicking _) w'
        generalize a'.defers = ds at hDr
        match ds, hDr with
        | [x], hDr =>
         obtain ⟨⟨vs, cs', e1, e2, rfl⟩, _⟩ := hDr
         obtain ⟨⟨fn', hf', hb', hn'⟩, hcD⟩ := recP_done hcall hyc h2 hW' hv (cargs := vs.toArray ++ cs'.toArray) (by simpa using renL_append e1 e2)
         refine ⟨by simp, .inr ⟨fun h => by simp [Fence.wide] at h, .func fd, cs'.toArray, fd, vs.toArray ++ cs'.toArray, rfl, ?_, fun g hg => trivial, ?_⟩⟩
         ·simp only [invoke, callFunc, Sem.run_bind, run_program, Result.andThen_ok, hf', hn', Bool.false_eq_true, if_false, hb', Sem.run_pure]
         ·refine CallsDIn.mono hcD ?_
          rintro en u' w2 ⟨⟨v2, rfl⟩, rfl, r2, hle2, hW2⟩
          have hA2 : ARel fn.ntmps r2 (restr s1.T (resKs fn.results.toList)) { tmps := a'.tmps, defers := [] } := ⟨hn, fun t c ht => by
           obtain ⟨q1, q2⟩ := restr_get ht
           exact ren_mono hle2 _ _ (hks t q1 c q2)⟩
          obtain ⟨cv2, k1, k2'⟩ := oneE_run (P := P) (w0 := w0) (n := fn.ntmps) (r := r2) (s := ⟨restr s1.T (resKs fn.results.toList), H', k', []⟩) (a := { tmps := a'.tmps, defers := [] }) (w := w2) ⟨hA2, hW2, trivial⟩ (fn := fn) (cs := cs) hres
          exact ⟨cv2, k1, r2, cv2, rfl, hle.trans hle2, hW2, k2'⟩
       ·cases h
      ·cases h
     ·cases h
    ·cases h
  ·cases h
 ·cases h
end
/-- Calls within calls, panics among them. -/
structure Rn where
 call : CallF
 yc : YldF
 pan : PanF
def runP (P : Program) (nat : CallF) (L : Nat) : Nat → Rn
 | 0 => ⟨nat, fun _ _ _ _ => none, fun _ _ _ _ => none⟩
 | m + 1 => ⟨fun f args H k => match nat f args H k with
  | some x => some x
  | none => match funE P (runP P nat L m).call (runP P nat L m).yc (2 ^ (20 * m)) L f args H k with
   | some x => some x
   | none => funR P (runP P nat L m).call (runP P nat L m).yc (runP P nat L m).pan (2 ^ (20 * m)) L f args H k, yieldE P (runP P nat L m).call (runP P nat L m).yc (2 ^ (20 * m)) L, funP P (runP P nat L m).call (runP P nat L m).yc (runP P nat L m).pan (2 ^ (20 * m)) L⟩
theorem runP_ok {nat : CallF} {w0 : Base} (hn : CallOk P w0 nat) {L : Nat} : ∀ m, CallOk P w0 (runP P nat L m).call ∧ YldOk P w0 (runP P nat L m).yc ∧ PanOk P w0 (runP P nat L m).pan
 | 0 => ⟨hn, fun _ _ _ _ _ _ h => (by cases h), fun _ _ _ _ _ _ _ h => (by cases h)⟩
 | m + 1 => by
  obtain ⟨h1, h2, h3⟩ := runP_ok hn (L := L) m
  refine ⟨?_, yieldE_done h1 h2, funP_done h1 h2 h3⟩
  intro f args H k v H' k' h
  simp only [runP] at h
  split at h
  ·rename_i x hx
   cases h
   exact hn f args H k v H' k' hx
  ·split at h
   ·rename_i x hx
    cases h
    exact funE_done h1 h2 f args H k v H' k' hx
   ·exact funR_done h1 h2 h3 f args H k v H' k' h
end
end Go.Ev
