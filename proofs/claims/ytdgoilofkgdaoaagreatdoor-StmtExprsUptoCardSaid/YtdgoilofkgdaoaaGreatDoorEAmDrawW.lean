/- A region whose order is open, where calls that keep all heap boxes stand beside reads of such. -/
import Derived.Test.YtdgoilofkgdaoaaGreatDoorEAmMore
set_option linter.unusedVariables false
set_option linter.unusedSimpArgs false
namespace Go.Am
variable {P : Program}
/-- A call, or an append. -/
def isCl (o : Oper) : Bool := decide (kd o = .eff) && (match o.op with | .store _ _ _ => false | _ => true)
theorem isCl_store {o : Oper} (h : kd o = .eff) (hc : isCl o = false) : ∃ t x y, o.op = .store t x y := by
 unfold isCl at hc
 rw [h] at hc
 simp only [decide_true, Bool.true_and] at hc
 split at hc
 ·rename_i t x y e; exact ⟨t, x, y, e⟩
 ·cases hc
def KK (o : Oper) (st : St) (K : St → Prop) : St → Prop := if isCl o = true then fun st' => (∀ b x, st.s.box b = some x → st'.s.box b = some x) ∧ K st' else K
theorem KK_f {o : Oper} {st : St} {K : St → Prop} (h : isCl o = false) : KK o st K = K := by unfold KK; rw [h]; rfl
theorem KK_t {o : Oper} {st : St} {K : St → Prop} (h : isCl o = true) : KK o st K = fun st' => (∀ b x, st.s.box b = some x → st'.s.box b = some x) ∧ K st' := by unfold KK; rw [h]; rfl
theorem KK_k {o : Oper} {st st' : St} {K : St → Prop} (h : KK o st K st') : K st' := by
 cases hc : isCl o with
 | true => rw [KK_t hc] at h; exact h.2
 | false => rw [KK_f hc] at h; exact h
theorem KK_mono {o : Oper} {st : St} {K K' : St → Prop} (hK : ∀ st', K st' → K' st') : ∀ st', KK o st K st' → KK o st K' st' := fun st' h => by
 cases hc : isCl o with
 | true => rw [KK_t hc] at h ⊢; exact ⟨h.1, hK _ h.2⟩
 | false => rw [KK_f hc] at h ⊢; exact hK _ h
def dcondW (A : List Nat) (o : Oper) (st : St) : Prop := match o.op with
 | .load _ x => match st.eval x with
  | .loc k _ => A.contains k = false
  | .elt _ _ => True
  | .ptr _ _ => True
  | _ => False
 | .store _ x _ => match st.eval x with
  | .loc b _ => match x with
   | .tmp t => if A.contains t = true then b = t else A.contains b = false
   | _ => False
  | .ptr _ _ => match x with
   | .tmp t => A.contains t = false
   | _ => False
  | _ => False
 | _ => True
def gstepW (P : Program) (all : Array Oper) (o : Oper) (st : St) (K : St → Prop) : Prop :=
 match gdOf all o st with
 | .always => dcondW (allocsOf all) o st ∧ aop P o st (KK o st K)
 | .never => dstOk o st ∧ K (st.put o.dst (.base undef))
 | .test c b => if c = b then dcondW (allocsOf all) o st ∧ aop P o st (KK o st K) else dstOk o st ∧ K (st.put o.dst (.base undef))
 | .stuck => False
theorem gstepW_gstep {all : Array Oper} {o : Oper} {st : St} {K : St → Prop} (h : gstepW P all o st K) : gstep P all o st K := by
 unfold gstepW at h
 unfold gstep
 split at h
 ·rename_i hg; rw [hg]; exact aop_mono (fun _ h => KK_k h) h.2
 ·rename_i hg; rw [hg]; exact h
 ·rename_i hg
  rw [hg]
  simp only
  split at h
  ·rename_i hc; rw [if_pos hc]; exact aop_mono (fun _ h => KK_k h) h.2
  ·rename_i hc; rw [if_neg hc]; exact h
 ·exact h.elim
def aopsW (P : Program) (all : Array Oper) : List Nat → St → (St → Prop) → Prop
 | [], st, K => K st
 | i :: r, st, K => match all[i]? with
  | some o => gstepW P all o st fun st' => aopsW P all r st' K
  | none => False
/-- What the later operation leaves untouched. -/
structure KeptW (m : Mod) (o : Oper) (A : List Nat) (st st' : St) : Prop where
 E : ∀ t, o.dst ≠ some t → st'.E t = st.E t
 n : st'.n = st.n
 locE : kd o ≠ .alloc → (∀ t x y, o.op ≠ .store t x y) → st'.loc = st.loc
 locA : kd o = .alloc → ∃ t0, o.dst = some t0 ∧ st.loc t0 = none ∧ ∀ k, k ≠ t0 → st'.loc k = st.loc k
 locS : ∀ t x y, o.op = .store t x y → ∀ k, (∀ off, st.eval x ≠ .loc k off) → st'.loc k = st.loc k
 locM : ∀ t0 x, m.box = some (t0, x) → st'.loc t0 = st.loc t0
 dc : dcondW A o st
 s : kd o ≠ .eff → st'.s = st.s
 keepB : isCl o = true → ∀ b x, st.s.box b = some x → st'.s.box b = some x
 keepS : ∀ t x y, o.op = .store t x y → (∃ k off, st.eval x = .loc k off) → st'.s = st.s
theorem KeptW.of {m : Mod} {o : Oper} {A : List Nat} {st st' : St} (h : Kept m o A st st') (hd : dcondW A o st) (hb : isCl o = true → ∀ b x, st.s.box b = some x → st'.s.box b = some x) (hs : ∀ t x y, o.op = .store t x y → (∃ k off, st.eval x = .loc k off) → st'.s = st.s) : KeptW m o A st st' :=
 ⟨h.E, h.n, h.locE, h.locA, h.locS, h.locM, hd, h.s, hb, hs⟩
theorem KeptW.putL {m : Mod} {o : Oper} {A : List Nat} {st : St} {v : V} (hd : dcondW A o st) (ha : kd o ≠ .alloc) (hs : ∀ t x y, o.op ≠ .store t x y) (hl : isCl o = false := by unfold isCl kd; simp [*]) : KeptW m o A st (st.put o.dst v) where
 E := fun t ht => by
  cases hd : o.dst with
  | none => rfl
  | some d => exact upd_other _ _ _ _ (fun e => ht (by rw [hd, e]))
 n := put_n _ _ _
 locE := fun _ _ => put_loc _ _ _
 locA := fun h => absurd h ha
 locS := fun t x y h => absurd h (hs t x y)
 locM := fun _ _ _ => by rw [put_loc]
 dc := hd
 s := fun _ => put_s _ _ _
 keepB := fun h => by rw [hl] at h; cases h
 keepS := fun t x y h => absurd h (hs t x y)
variable {all : Array Oper} {o : Oper} {m : Mod} {st : St} {K : St → Prop}
theorem dcondW_triv (hl : ∀ t x, o.op ≠ .load t x) (hs : ∀ t x y, o.op ≠ .store t x y) (A : List Nat) : dcondW A o st := by
 unfold dcondW
 split
 ·rename_i e; exact absurd e (hl _ _)
 ·rename_i e; exact absurd e (hs _ _ _)
 ·trivial
theorem pass_loadW (hm : m.Ok all o) {t : TypeId} {x : Operand} (ho : o.op = .load t x) (hd : dcondW (allocsOf all) o (m.run st)) (h : aLoad P o t x (m.run st) K) : dcondW (allocsOf all) o st ∧ aLoad P o t x st fun st' => K (m.run st') ∧ KeptW m o (allocsOf all) st st' := by
 have hx : (m.run st).eval x = st.eval x := hm.eval st (by rw [ho]; simp [Op.operands])
 have hdc : dcondW (allocsOf all) o st := by
  unfold dcondW at hd ⊢
  rw [ho] at hd ⊢
  simp only [hx] at hd
  exact hd
 unfold dcondW at hd
 rw [ho] at hd
 simp only [hx] at hd
 refine ⟨hdc, ?_⟩
 unfold aLoad at h ⊢
 rw [hx] at h
 have key : aPure P o (m.run st) K → aPure P o st fun st' => K (m.run st') ∧ KeptW m o (allocsOf all) st st' := by
  intro h
  have hv : pval P (m.run st) o.op = pval P st o.op := by
   rw [ho]
   simp only [pval, hx]
   cases tyOf P t with
   | none => rfl
   | some d =>
    simp only
    cases he : st.eval x <;> try rfl
    rename_i k off
    rw [he] at hd
    simp only at hd
    have : (m.run st).loc k = st.loc k := Mod.loc m st k fun t0 y hb e => by
     have := (hm.box t0 y hb).2
     rw [← e, hd] at this; cases this
    simp only [this]
  unfold aPure at h ⊢
  rw [hv] at h
  split at h
  ·rename_i v side hpv
   rw [dstOk_run] at h
   refine ⟨h.1, h.2.1, ?_, KeptW.putL hdc (by unfold kd; rw [ho]; simp) (by rw [ho]; simp)⟩
   rw [Mod.run_put hm.dst]
   exact h.2.2
  ·exact h.elim
 cases he : st.eval x <;> rw [he] at hd h <;> simp only at hd h ⊢ <;> first | exact hd.elim | exact key h | skip
 rename_i b off
 rw [Mod.s] at h
 cases hty : tyOf P t with
 | none => rw [hty] at h; exact h.elim
 | some d =>
  rw [hty] at h
  cases hb : st.s.box b with
  | none => rw [hb] at h; exact h.elim
  | some z =>
   obtain ⟨cs, ty⟩ := z
   rw [hb] at h
   simp only at h ⊢
   cases hr : rd d cs off with
   | none => rw [hr] at h; exact h.elim
   | some v =>
    rw [hr] at h
    simp only at h ⊢
    rw [dstOk_run] at h
    refine ⟨h.1, ?_, KeptW.putL hdc (by unfold kd; rw [ho]; simp) (by rw [ho]; simp)⟩
    rw [Mod.run_put hm.dst]
    exact h.2
theorem gstepW_mono {K' : St → Prop} (hK : ∀ st', K st' → K' st') (h : gstepW P all o st K) : gstepW P all o st K' := by
 unfold gstepW at h ⊢
 split at h
 ·exact ⟨h.1, aop_mono (KK_mono hK) h.2⟩
 ·exact ⟨h.1, hK _ h.2⟩
 ·split at h
  ·rename_i hc; rw [if_pos hc]; exact ⟨h.1, aop_mono (KK_mono hK) h.2⟩
  ·rename_i hc; rw [if_neg hc]; exact ⟨h.1, hK _ h.2⟩
 ·exact h.elim
theorem store_loc {t : TypeId} {x y : Operand} (ho : o.op = .store t x y) {k off : Nat} (hx : st.eval x = .loc k off) (h : aop P o st K) : aop P o st fun st' => st'.s = st.s ∧ K st' := by
 unfold aop at h ⊢
 rw [ho] at h ⊢
 simp only at h ⊢
 unfold aStore at h ⊢
 cases hty : tyOf P t with
 | none => rw [hty] at h; exact h.elim
 | some d =>
  rw [hty] at h
  simp only at h ⊢
  refine ⟨h.1, h.2.1, h.2.2.1, ?_⟩
  have h4 := h.2.2.2
  rw [hx] at h4 ⊢
  simp only at h4 ⊢
  cases hl : st.loc k with
  | none => rw [hl] at h4; exact h4.elim
  | some z =>
   obtain ⟨cs, ty⟩ := z
   rw [hl] at h4
   exact ⟨h4.1, put_s _ _ _, h4.2⟩
theorem passW (hm : m.Ok all o) (h : gstepW P all o (m.run st) K) : gstepW P all o st fun st' => K (m.run st') ∧ (KeptW m o (allocsOf all) st st' ∨ st' = st.put o.dst (.base undef)) := by
 unfold gstepW at h ⊢
 rw [hm.gd] at h
 have skip : dstOk o (m.run st) ∧ K ((m.run st).put o.dst (.base undef)) → dstOk o st ∧ (K (m.run (st.put o.dst (.base undef))) ∧ (KeptW m o (allocsOf all) st (st.put o.dst (.base undef)) ∨ st.put o.dst (.base undef) = st.put o.dst (.base undef))) := fun h => by
  rw [dstOk_run] at h
  refine ⟨h.1, ?_, .inr rfl⟩
  rw [Mod.run_put hm.dst]; exact h.2
 have go : dcondW (allocsOf all) o (m.run st) ∧ aop P o (m.run st) (KK o (m.run st) K) → dcondW (allocsOf all) o st ∧ aop P o st (KK o st fun st' => K (m.run st') ∧ (KeptW m o (allocsOf all) st st' ∨ st' = st.put o.dst (.base undef))) := fun h => by
  cases hc : isCl o with
  | true =>
   have hns : ∀ t x y, o.op ≠ .store t x y := fun t x y e => by unfold isCl at hc; rw [e] at hc; simp at hc
   have hnl : ∀ t x, o.op ≠ .load t x := fun t x e => by unfold isCl kd at hc; rw [e] at hc; simp at hc
   rw [KK_t hc] at h ⊢
   have := pass_aop hm (dcond_triv hnl hns _) h.2
   refine ⟨dcondW_triv hnl hns _, aop_mono (fun st' h => ?_) this.2⟩
   obtain ⟨⟨h1, h2⟩, h3⟩ := h
   rw [Mod.s, Mod.s] at h1
   exact ⟨h1, h2, .inl (KeptW.of h3 (dcondW_triv hnl hns _) (fun _ => h1) fun t x y e => absurd e (hns t x y))⟩
  | false =>
   rw [KK_f hc] at h ⊢
   by_cases hl : ∃ t x, o.op = .load t x
   ·obtain ⟨t, x, ho⟩ := hl
    have h2 := h.2
    unfold aop at h2
    rw [ho] at h2
    simp only at h2
    have := pass_loadW hm ho h.1 h2
    refine ⟨this.1, ?_⟩
    have h3 : aop P o st fun st' => K (m.run st') ∧ KeptW m o (allocsOf all) st st' := by
     unfold aop; rw [ho]; exact this.2
    exact aop_mono (fun st' h => ⟨h.1, .inl h.2⟩) h3
   ·have hnl : ∀ t x, o.op ≠ .load t x := fun t x e => hl ⟨t, x, e⟩
    by_cases hs : ∃ t x y, o.op = .store t x y
    ·obtain ⟨t, x, y, ho⟩ := hs
     have hx : (m.run st).eval x = st.eval x := hm.eval st (by rw [ho]; simp [Op.operands])
     have hdw : dcondW (allocsOf all) o st := by
      have := h.1
      unfold dcondW at this ⊢
      rw [ho] at this ⊢
      simp only [hx] at this
      exact this
     have hd : dcond (allocsOf all) o (m.run st) := by
      have := h.1
      unfold dcondW at this
      unfold dcond
      rw [ho] at this ⊢
      simp only at this ⊢
      cases hq : (m.run st).eval x <;> rw [hq] at this <;> simp only at this ⊢ <;> exact this
     by_cases hloc : ∃ k off, st.eval x = .loc k off
     ·obtain ⟨k, off, he⟩ := hloc
      have := pass_aop hm hd (store_loc ho (hx.trans he) h.2)
      refine ⟨hdw, aop_mono (fun st' h => ?_) this.2⟩
      obtain ⟨⟨h1, h2⟩, h3⟩ := h
      rw [Mod.s, Mod.s] at h1
      exact ⟨h2, .inl (KeptW.of h3 hdw (fun e => by rw [hc] at e; cases e) fun _ _ _ _ _ => h1)⟩
     ·have := pass_aop hm hd h.2
      refine ⟨hdw, aop_mono (fun st' h => ?_) this.2⟩
      exact ⟨h.1, .inl (KeptW.of h.2 hdw (fun e => by rw [hc] at e; cases e) fun t2 x2 y2 e2 hk => by rw [ho] at e2; cases e2; exact absurd hk hloc)⟩
    ·have hns : ∀ t x y, o.op ≠ .store t x y := fun t x y e => hs ⟨t, x, y, e⟩
     have := pass_aop hm (dcond_triv hnl hns _) h.2
     exact ⟨dcondW_triv hnl hns _, aop_mono (fun st' h => ⟨h.1, .inl (KeptW.of h.2 (dcondW_triv hnl hns _) (fun e => by rw [hc] at e; cases e) fun t x y e => absurd e (hns t x y))⟩) this.2⟩
 split at h
 ·exact go h
 ·exact skip h
 ·split at h
  ·rename_i hc; rw [if_pos hc]; exact go h
  ·rename_i hc; rw [if_neg hc]; exact skip h
 ·exact h.elim
/-- Two operations change places. -/
theorem swapW {oj oi : Oper} (hmem : oi ∈ all.toList) (hja : kd oj = .alloc → ∀ t0, oj.dst = some t0 → (allocsOf all).contains t0 = true) (hp : passes all oj oi = true) (h : gstepW P all oj st fun st' => gstepW P all oi st' K) : gstepW P all oi st fun st' => gstepW P all oj st' K := by
 unfold passes at hp
 simp only [Bool.and_eq_true] at hp
 obtain ⟨hap, hk⟩ := hp
 have hjn : isCl oj = false := by
  cases hkj : kd oj with
  | eff => rw [hkj] at hk; cases hk
  | pure => unfold isCl; rw [hkj]; rfl
  | load => unfold isCl; rw [hkj]; rfl
  | alloc => unfold isCl; rw [hkj]; rfl
 obtain ⟨a1, a2, a3⟩ := Oper.apart_spec hap
 have a4 : ∀ d, oi.dst = some d → d ∉ oj.looksAt all := a3
 -- the earlier one's view is the same behind the later one
 have look : ∀ (st' : St), (∀ t, oi.dst ≠ some t → st'.E t = st.E t) → ∀ x ∈ oj.op.operands, st'.eval x = st.eval x := fun st' hE x hx => by
  cases x <;> try rfl
  rename_i t
  refine hE t fun e => a4 t e ?_
  unfold Oper.looksAt
  exact List.mem_append.2 (.inl (List.mem_filterMap.2 ⟨.tmp t, Array.mem_def.1 hx, rfl⟩))
 have gd : ∀ (st' : St), (∀ t, oi.dst ≠ some t → st'.E t = st.E t) → gdOf all oj st' = gdOf all oj st := fun st' hE => by
  unfold gdOf
  cases hg : oj.guard with
  | none => rfl
  | some x =>
   obtain ⟨j, b⟩ := x
   simp only
   cases ht : (all[j]?).bind (·.dst) with
   | none => rfl
   | some t =>
    have : st'.E t = st.E t := hE t fun e => a4 t e (by
     unfold Oper.looksAt
     refine List.mem_append.2 (.inr ?_)
     simp [hg, ht])
    simp only [this]
 have keptE : ∀ (m : Mod) (st' : St), (KeptW m oi (allocsOf all) st st' ∨ st' = st.put oi.dst (.base undef)) → (∀ t, oi.dst ≠ some t → st'.E t = st.E t) ∧ st'.n = st.n := fun m st' h => by
  rcases h with h | rfl
  ·exact ⟨h.E, h.n⟩
  ·refine ⟨fun t ht => ?_, put_n _ _ _⟩
   cases hd : oi.dst with
   | none => rfl
   | some d => exact upd_other _ _ _ _ (fun e => ht (by rw [hd, e]))
 -- what the earlier one does is one change
 have go : ∀ (m : Mod), m.d = oj.dst → (∀ t0 x, m.box = some (t0, x) → kd oj = .alloc ∧ oj.dst = some t0) → gstepW P all oi (m.run st) K → (∀ (st' : St), (KeptW m oi (allocsOf all) st st' ∨ st' = st.put oi.dst (.base undef)) → K (m.run st') → gstepW P all oj st' K) → gstepW P all oi st fun st' => gstepW P all oj st' K := by
  intro m hmd hmb h1 h2
  have hm : m.Ok all oi := ⟨fun t ht => a1 t (hmd ▸ ht), fun t ht => a2 t (hmd ▸ ht), fun t0 x hb => ⟨by rw [hmd]; exact (hmb t0 x hb).2, hja (hmb t0 x hb).1 t0 (hmb t0 x hb).2⟩⟩
  exact gstepW_mono (fun st' ⟨k1, k2⟩ => h2 st' k2 k1) (passW hm h1)
 have skip : dstOk oj st ∧ gstepW P all oi (st.put oj.dst (.base undef)) K → (∀ st', gdOf all oj st' = gdOf all oj st → dstOk oj st' ∧ K (st'.put oj.dst (.base undef)) → gstepW P all oj st' K) → gstepW P all oi st fun st' => gstepW P all oj st' K := fun h1 h2 => by
  refine go ⟨oj.dst, .base undef, none⟩ rfl (fun _ _ h => by cases h) h1.2 fun st' hk hK => h2 st' (gd st' (keptE _ st' hk).1) ⟨?_, hK⟩
  have := (keptE _ st' hk).2
  unfold dstOk at h1 ⊢; rw [this]; exact h1.1
 have act : dcondW (allocsOf all) oj st ∧ aop P oj st (fun st' => gstepW P all oi st' K) → (∀ st', gdOf all oj st' = gdOf all oj st → dcondW (allocsOf all) oj st' ∧ aop P oj st' K → gstepW P all oj st' K) → gstepW P all oi st fun st' => gstepW P all oj st' K := fun ⟨hd, h1⟩ h2 => by
  cases hkj : kd oj with
  | eff => rw [hkj] at hk; cases hk
  | alloc =>
   have dc : ∀ st', dcondW (allocsOf all) oj st' := fun st' => by
    rcases kd_alloc hkj with ⟨t, e⟩ | ⟨t, x, e⟩ <;> unfold dcondW <;> rw [e] <;> trivial
   have boxed : ∀ t cs, (∀ (st' : St), (∀ t, oi.dst ≠ some t → st'.E t = st.E t) → mkBox oj t cs st' K → aop P oj st' K) → mkBox oj t cs st (fun st' => gstepW P all oi st' K) → gstepW P all oi st fun st' => gstepW P all oj st' K := by
    intro t cs back hb
    unfold mkBox at hb
    cases hdj : oj.dst with
    | none => rw [hdj] at hb; exact hb.elim
    | some t0 =>
     rw [hdj] at hb
     simp only at hb
     obtain ⟨b1, b2, b3⟩ := hb
     refine go ⟨oj.dst, .loc t0 0, some (t0, (cs, t))⟩ rfl (fun t1 x h => by cases h; exact ⟨hkj, hdj⟩) ?_ fun st' hkp hK => h2 st' (gd st' (keptE _ st' hkp).1) ⟨dc st', back st' (keptE _ st' hkp).1 ?_⟩
     ·unfold Mod.run; simp only; rw [hdj]; exact b3
     ·unfold mkBox
      rw [hdj]
      unfold Mod.run at hK
      simp only [hdj] at hK
      refine ⟨by rw [(keptE _ st' hkp).2]; exact b1, ?_, hK⟩
      rcases hkp with hkp | rfl
      ·rw [hkp.locM t0 (cs, t) rfl]; exact b2
      ·rw [put_loc]; exact b2
   rcases kd_alloc hkj with ⟨t, e⟩ | ⟨t, x, e⟩
   ·unfold aop at h1
    rw [e] at h1
    simp only at h1
    cases hty : tyOf P t with
    | none => rw [hty] at h1; exact h1.elim
    | some d =>
     rw [hty] at h1
     refine boxed t _ (fun st' _ hb => ?_) h1
     unfold aop; rw [e]; simp only [hty]; exact hb
   ·unfold aop at h1
    rw [e] at h1
    simp only at h1
    refine boxed t _ (fun st' hE hb => ?_) h1.2
    unfold aop; rw [e]; simp only
    have : st'.eval x = st.eval x := look st' hE x (by rw [e]; simp [Op.operands])
    rw [this]; exact ⟨h1.1, hb⟩
  | load =>
   obtain ⟨t, x, e⟩ := kd_load hkj
   rw [hkj] at hk
   simp only [Bool.and_eq_true, Bool.or_eq_true, decide_eq_true_eq] at hk
   obtain ⟨hke, hk⟩ := hk
   have hke : kd oi = .eff → (allocsOf all).contains (100000 + oj.dst.getD 0) = true := fun h => by
    rcases hke with h' | h'
    ·exact absurd h h'
    ·exact h'
   have hx : ∀ (st' : St), (∀ t, oi.dst ≠ some t → st'.E t = st.E t) → st'.eval x = st.eval x := fun st' hE => look st' hE x (by rw [e]; simp [Op.operands])
   have hd0 := hd
   unfold dcondW at hd
   rw [e] at hd
   simp only at hd
   unfold aop at h1
   rw [e] at h1
   simp only at h1
   unfold aLoad at h1
   have key : aPure P oj st (fun st' => gstepW P all oi st' K) → (∀ b off, st.eval x ≠ .ptr b off) → gstepW P all oi st fun st' => gstepW P all oj st' K := by
    intro h1 hnp
    unfold aPure at h1
    cases hpv : pval P st oj.op with
    | none => rw [hpv] at h1; exact h1.elim
    | some vs =>
     obtain ⟨v, side⟩ := vs
     rw [hpv] at h1
     simp only at h1
     refine go ⟨oj.dst, v, none⟩ rfl (fun _ _ h => by cases h) h1.2.2 fun st' hkp hK => h2 st' (gd st' (keptE _ st' hkp).1) ⟨?_, ?_⟩
     ·unfold dcondW; rw [e]; simp only [hx st' (keptE _ st' hkp).1]; exact hd
     ·unfold aop; rw [e]; simp only
      have hxx := hx st' (keptE _ st' hkp).1
      have hpv' : pval P st' oj.op = some (v, side) := by
       rw [← hpv, e]
       simp only [pval, hxx]
       cases tyOf P t with
       | none => rfl
       | some d =>
        simp only
        cases he : st.eval x <;> try rfl
        rename_i k off
        rw [he] at hd
        simp only at hd
        have : st'.loc k = st.loc k := by
         rcases hkp with hkp | rfl
         ·by_cases ha : kd oi = .alloc
          ·obtain ⟨t1, e1, e2, e3⟩ := hkp.locA ha
           by_cases ek : k = t1
           ·exfalso
            rw [e] at hpv
            simp only [pval, he, ek, e2] at hpv
            cases hq : tyOf P t <;> rw [hq] at hpv <;> cases hpv
           ·exact e3 k ek
          ·by_cases hs : ∃ t x y, oi.op = .store t x y
           ·obtain ⟨t2, x2, y2, es⟩ := hs
            rw [es] at hk
            have hdi := hkp.dc
            unfold dcondW at hdi
            rw [es] at hdi
            simp only at hdi
            refine hkp.locS t2 x2 y2 es k fun off' he' => ?_
            rw [he'] at hdi
            cases x2 <;> simp only at hk hdi <;> try (cases hk; done)
            rename_i t3
            rw [if_pos hk] at hdi
            rw [hdi, hk] at hd; cases hd
           ·rw [hkp.locE ha (fun t x y e => hs ⟨t, x, y, e⟩)]
         ·rw [put_loc]
        simp only [this]
      have hp' : aPure P oj st' K := by
       unfold aPure
       rw [hpv']
       refine ⟨h1.1, ?_, hK⟩
       have := (keptE _ st' hkp).2
       have h11 := h1.2.1
       unfold dstOk at h11 ⊢; rw [this]; exact h11
      unfold aLoad
      rw [hxx]
      cases he : st.eval x <;> first | exact hp' | exact absurd he (hnp _ _)
   cases he : st.eval x <;> rw [he] at hd h1 <;> simp only at hd h1 <;> first | exact hd.elim | exact key h1 (by rw [he]; simp) | skip
   rename_i b off
   cases hty : tyOf P t with
   | none => rw [hty] at h1; exact h1.elim
   | some d =>
    rw [hty] at h1
    cases hb : st.s.box b with
    | none => rw [hb] at h1; exact h1.elim
    | some z =>
     obtain ⟨cs, ty⟩ := z
     rw [hb] at h1
     simp only at h1
     cases hr : rd d cs off with
     | none => rw [hr] at h1; exact h1.elim
     | some v =>
      rw [hr] at h1
      simp only at h1
      refine go ⟨oj.dst, v, none⟩ rfl (fun _ _ h => by cases h) h1.2 fun st' hkp hK => h2 st' (gd st' (keptE _ st' hkp).1) ⟨?_, ?_⟩
      ·unfold dcondW; rw [e]; simp only [hx st' (keptE _ st' hkp).1, he]
      ·unfold aop; rw [e]; simp only
       unfold aLoad
       rw [hx st' (keptE _ st' hkp).1, he]
       simp only
       have hbx : st'.s.box b = some (cs, ty) := by
        rcases hkp with hkp | rfl
        ·by_cases he2 : kd oi = .eff
         ·cases hic : isCl oi with
          | true => exact hkp.keepB hic b _ hb
          | false =>
           obtain ⟨t2, x2, y2, es⟩ := isCl_store he2 hic
           rw [es] at hk
           cases x2 <;> simp only at hk <;> try (cases hk; done)
           rename_i t3
           have hdi := hkp.dc
           unfold dcondW at hdi
           rw [es] at hdi
           simp only at hdi
           rw [hkp.keepS t2 (.tmp t3) y2 es ?_]
           ·exact hb
           ·cases hq : st.eval (.tmp t3) <;> rw [hq] at hdi <;> simp only at hdi <;> first | exact hdi.elim | exact ⟨_, _, rfl⟩ | (rw [hk] at hdi; cases hdi)
         ·rw [hkp.s he2]; exact hb
        ·rw [put_s]; exact hb
       rw [hty, hbx]
       simp only [hr]
       refine ⟨?_, hK⟩
       have := (keptE _ st' hkp).2
       have h11 := h1.1
       unfold dstOk at h11 ⊢; rw [this]; exact h11
  | pure =>
   have hnl : ∀ t x, oj.op ≠ .load t x := fun t x e => by unfold kd at hkj; rw [e] at hkj; cases hkj
   have hns : ∀ t x y, oj.op ≠ .store t x y := fun t x y e => by unfold kd at hkj; rw [e] at hkj; cases hkj
   have hna : ∀ t, oj.op ≠ .alloc t := fun t e => by unfold kd at hkj; rw [e] at hkj; cases hkj
   have hnb : ∀ t x, oj.op ≠ .box t x := fun t x e => by unfold kd at hkj; rw [e] at hkj; cases hkj
   have hnc : ∀ f a ts, oj.op ≠ .call { callee := .value f, args := a, argTypes := ts } := fun f a ts e => by unfold kd at hkj; rw [e] at hkj; cases hkj
   have hnp : ∀ a ts, oj.op ≠ .call { callee := .builtin .append, args := a, argTypes := ts } := fun a ts e => by unfold kd at hkj; rw [e] at hkj; cases hkj
   have hpure : ∀ st' K', aop P oj st' K' ↔ aPure P oj st' K' := fun st' K' => by
    unfold aop
    split
    ·rename_i e; exact absurd e (hna _)
    ·rename_i e; exact absurd e (hnb _ _)
    ·rename_i e; exact absurd e (hns _ _ _)
    ·rename_i e; exact absurd e (hnl _ _)
    ·rename_i e; exact absurd e (hnc _ _ _)
    ·rename_i e; exact absurd e (hnp _ _)
    ·exact Iff.rfl
   rw [hpure] at h1
   unfold aPure at h1
   cases hpv : pval P st oj.op with
   | none => rw [hpv] at h1; exact h1.elim
   | some vs =>
    obtain ⟨v, side⟩ := vs
    rw [hpv] at h1
    simp only at h1
    refine go ⟨oj.dst, v, none⟩ rfl (fun _ _ h => by cases h) h1.2.2 fun st' hkp hK => h2 st' (gd st' (keptE _ st' hkp).1) ⟨dcondW_triv hnl hns _, ?_⟩
    rw [hpure]
    unfold aPure
    rw [pval_congr hnl (look st' (keptE _ st' hkp).1), hpv]
    refine ⟨h1.1, ?_, hK⟩
    have := (keptE _ st' hkp).2
    have h11 := h1.2.1
    unfold dstOk at h11 ⊢; rw [this]; exact h11
 unfold gstepW at h
 split at h
 ·rename_i hg
  rw [KK_f hjn] at h
  refine act h fun st' hgd hh => ?_
  unfold gstepW; rw [hgd, hg]; simp only; rw [KK_f hjn]; exact hh
 ·rename_i hg
  refine skip h fun st' hgd hh => ?_
  unfold gstepW; rw [hgd, hg]; exact hh
 ·rename_i c b hg
  split at h
  ·rename_i hc
   rw [KK_f hjn] at h
   refine act h fun st' hgd hh => ?_
   unfold gstepW; rw [hgd, hg]; simp only; rw [if_pos hc, KK_f hjn]; exact hh
  ·rename_i hc
   refine skip h fun st' hgd hh => ?_
   unfold gstepW; rw [hgd, hg]; simp only; rw [if_neg hc]; exact hh
 ·exact h.elim
theorem bubbleW {all : Array Oper} {i : Nat} {oi : Oper} (hi : all[i]? = some oi) {K : St → Prop} {post : List Nat} : ∀ (pre : List Nat), (∀ j ∈ pre, ∃ oj, all[j]? = some oj ∧ passes all oj oi = true) → ∀ (st : St),
  aopsW P all (pre ++ i :: post) st K → gstepW P all oi st fun st' => aopsW P all (pre ++ post) st' K
 | [], _, st, h => by
  simp only [List.nil_append, aopsW, hi] at h
  exact h
 | j :: pre, hp, st, h => by
  obtain ⟨oj, hj, hps⟩ := hp j (by simp)
  simp only [List.cons_append, aopsW, hj] at h ⊢
  refine swapW (Array.mem_def.1 (Array.mem_of_getElem? hi)) (fun hk t0 ht => ?_) hps (gstepW_mono (fun st' h' => bubbleW hi pre (fun k hk => hp k (by simp [hk])) st' h') h)
  simp only [List.contains_eq_mem, decide_eq_true_eq, allocsOf, List.mem_append, List.mem_filterMap]
  refine .inl ⟨oj, Array.mem_def.1 (Array.mem_of_getElem? hj), ?_⟩
  rcases kd_alloc hk with ⟨t, e⟩ | ⟨t, x, e⟩ <;> rw [e] <;> exact ht
theorem anyDW {all : Array Oper} {e : Entry} {Q : Exit → Act → World → Prop} {K : St → Prop} (hPQ : PQ e Q) (hQ : ∀ a w, Then e K a w → Q .normal a w)
  (hlow : ∀ (i : Nat) (o : Oper), all[i]? = some o → ∀ ed ∈ o.after, Region.binds .any ed = true → ed.on < i) :
  ∀ (fuel : Nat) (listed : Array Bool) (rem : List Nat) (st : St) (a : Act) (w : World), rem.length ≤ fuel → listed.size = all.size →
   (∀ i, i ∈ rem ↔ i < all.size ∧ listed.getD i true = false) → rem.Nodup → rem.Pairwise (fun j i => Anc all j i ∨ ∃ oj oi, all[j]? = some oj ∧ all[i]? = some oi ∧ passes all oj oi = true) →
   (∀ i o, listed.getD i false = true → all[i]? = some o → ∀ ed ∈ o.after, Region.binds .any ed = true → listed.getD ed.on false = true) →
   aopsW P all rem st K → In e st a w → wpAny P .any all Q fuel listed a w := by
 intro fuel
 induction fuel with
 | zero =>
  intro listed rem st a w hlen hsz hmem hnd hpw hcl h hin
  obtain rfl : rem = [] := List.eq_nil_of_length_eq_zero (by omega)
  refine ⟨?_, hQ a w ⟨st, h, hin⟩⟩
  cases hr : Region.ready .any all listed with
  | nil => rfl
  | cons i r =>
   have : i ∈ Region.ready .any all listed := by rw [hr]; simp
   obtain ⟨h1, o, ho, _⟩ := mem_ready.1 this
   have := (hmem i).2 ⟨(Array.getElem?_eq_some_iff.1 ho).1, h1⟩
   simp at this
 | succ fuel ih =>
  intro listed rem st a w hlen hsz hmem hnd hpw hcl h hin
  refine ⟨fun hr => ?_, fun i hi => ?_⟩
  ·-- nothing is ready: nothing is left
   have : rem = [] := by
    cases hrem : rem with
    | nil => rfl
    | cons x xs =>
     exfalso
     -- the least one that is left is ready
     have least : ∀ n, ∀ i, i < n → i ∈ rem → False := by
      intro n
      induction n with
      | zero => intro i hi; omega
      | succ n ihn =>
       intro i hi hirem
       by_cases hin' : i < n
       ·exact ihn i hin' hirem
       ·obtain rfl : i = n := by omega
        obtain ⟨h1, h2⟩ := (hmem i).1 hirem
        have hready : i ∈ Region.ready .any all listed := by
         refine mem_ready.2 ⟨h2, all[i], by simp [h1], fun ed hed hb => ?_⟩
         have hlt := hlow i all[i] (by simp [h1]) ed hed hb
         cases hq : listed.getD ed.on false with
         | true => rfl
         | false =>
          exfalso
          refine ihn ed.on hlt ((hmem ed.on).2 ⟨by omega, ?_⟩)
          rw [Array.getD_eq_getD_getElem?] at hq ⊢
          have : ed.on < listed.size := by omega
          rw [Array.getElem?_eq_getElem this] at hq ⊢
          exact hq
        rw [hr] at hready; simp at hready
     exact least (x + 1) x (by omega) (by rw [hrem]; simp)
   subst this
   exact hQ a w ⟨st, h, hin⟩
  ·obtain ⟨h1, oi, ho, hdeps⟩ := mem_ready.1 hi
   have hlt : i < all.size := (Array.getElem?_eq_some_iff.1 ho).1
   have hirem : i ∈ rem := (hmem i).2 ⟨hlt, h1⟩
   obtain ⟨pre, post, rfl⟩ := List.append_of_mem hirem
   have hnotanc : ∀ j ∈ pre, ¬ Anc all j i := by
    intro j hj hanc
    -- whatever i hangs on is listed
    have up : ∀ k, Anc all j k → (∀ o, all[k]? = some o → ∀ ed ∈ o.after, Region.binds .any ed = true → listed.getD ed.on false = true) → listed.getD j false = true := by
     intro k hk
     induction hk with
     | direct ho' he hb hon => intro hd; rw [← hon]; exact hd _ ho' _ he hb
     | step ho' he hb _ ih' =>
      intro hd
      exact ih' fun o ho2 => hcl _ o (hd _ ho' _ he hb) ho2
    have hl := up i hanc (fun o ho2 => by
     obtain rfl : o = oi := Option.some.inj (ho2.symm.trans ho)
     exact hdeps)
    have hjm := ((hmem j).1 (by simp [hj])).2
    have hjs := ((hmem j).1 (by simp [hj])).1
    rw [Array.getD_eq_getD_getElem?, Array.getElem?_eq_getElem (by omega)] at hl hjm
    rw [Option.getD_some] at hl hjm
    rw [hl] at hjm; cases hjm
   have hpass : ∀ j ∈ pre, ∃ oj, all[j]? = some oj ∧ passes all oj oi = true := by
    intro j hj
    have := (List.pairwise_append.1 hpw).2.2 j hj i (by simp)
    rcases this with hA | ⟨oj, oi', k1, k2, k3⟩
    ·exact absurd hA (hnotanc j hj)
    ·obtain rfl : oi' = oi := Option.some.inj (k2.symm.trans ho)
     exact ⟨oj, k1, k3⟩
   have hb := bubbleW ho pre hpass st h
   refine wpOp_mono ?_ (gstep_sound (i := i) ho hPQ (gstepW_gstep hb) hin)
   rintro a' w' ⟨st', h', hin'⟩
   have hsub : (pre ++ post).Sublist (pre ++ i :: post) := List.Sublist.append_left (List.sublist_cons_self i post) pre
   have hnd' := List.nodup_append.1 hnd
   have hni : i ∉ pre ++ post := by
    have h3 := (List.nodup_cons.1 hnd'.2.1).1
    intro hmm
    rcases List.mem_append.1 hmm with hm | hm
    ·exact hnd'.2.2 i hm i (by simp) rfl
    ·exact h3 hm
   have hset : ∀ (k : Nat) (d : Bool), (listed.setIfInBounds i true).getD k d = if k = i then true else listed.getD k d := fun k d => by
    simp only [Array.getD_eq_getD_getElem?, Array.getElem?_setIfInBounds]
    by_cases e : i = k
    ·subst e; simp [hsz, hlt]
    ·simp [e, Ne.symm e]
   refine ih _ (pre ++ post) st' a' w' ?_ (by simpa using hsz) (fun k => ?_) (hnd.sublist hsub) (hpw.sublist hsub) ?_ h' hin'
   ·simp at hlen ⊢; omega
   ·rw [hset]
    by_cases e : k = i
    ·subst e; simp only [↓reduceIte, Bool.true_eq_false, and_false, iff_false]; exact hni
    ·rw [if_neg e, ← hmem k]; simp [e]
   ·intro k o hk hok ed hed hbd
    rw [hset]
    split
    ·rfl
    ·rw [hset] at hk
     by_cases e : k = i
     ·subst e
      obtain rfl : o = oi := Option.some.inj (hok.symm.trans ho)
      exact hdeps ed hed hbd
     ·rw [if_neg e] at hk; exact hcl k o hk hok ed hed hbd
/-- A region whose order is open. -/
theorem AWp.drawW {Q : Exit → St → Prop} {st : St} {id : Nat} {ops : Array Oper} (hm : P.follows .mixedOrders = true) (ord : List Nat) (hok : drawOk ops ord = true) (h : aopsW P ops ord st (Q .normal)) : AWp P (.region id ops true) Q st := fun e a w hin => by
 refine wp_region_any hm ?_
 unfold drawOk at hok
 simp only [Bool.and_eq_true, List.all_eq_true, List.mem_range, List.contains_eq_mem, decide_eq_true_eq] at hok
 obtain ⟨⟨⟨h1, h2⟩, h3⟩, h4⟩ := hok
 obtain ⟨hpw, hnd⟩ := pairsOk_spec h4
 have hin' : In e st a { w with drawn := w.drawn + 1 } := by
  obtain ⟨G, be, hx, hr⟩ := hin
  exact ⟨G, be, hx.trans (Ext.more (More.drew w)), hr.more (More.drew w)⟩
 have hrep : ∀ (i : Nat) (d : Bool), i < ops.size → (Array.replicate ops.size false).getD i d = false := fun i d hi => by
  simp [Array.getD_eq_getD_getElem?, Array.getElem?_replicate, hi]
 refine anyDW (K := Q .normal) pan_pq (fun a w h => .inl h) ?_ ops.size _ ord st a _ ?_ (by simp) (fun i => ?_) hnd (hpw.imp fun {j i} hji => ?_) ?_ h hin'
 ·intro i o ho ed hed hb
  have := h3 (o, i) (by
   rw [List.mem_zipIdx_iff_getElem?]
   simpa using ho)
  simp only [Array.all_eq_true_iff_forall_mem, Bool.or_eq_true, Bool.not_eq_true', decide_eq_true_eq] at this
  rcases this ed hed with x | x
  ·rw [hb] at x; cases x
  ·exact x
 ·-- no more than all
  have hsubset : ∀ x ∈ ord, x ∈ List.range ops.size := fun x hx => List.mem_range.2 (h2 x hx)
  have := hnd.length_le_of_subset hsubset
  simpa using this
 ·constructor
  ·intro hi; exact ⟨h2 i hi, hrep i true (h2 i hi)⟩
  ·rintro ⟨hi, _⟩; exact h1 i hi
 ·unfold pairOk at hji
  simp only [Bool.or_eq_true] at hji
  rcases hji with hb | hb
  ·exact .inl (masks_anc ops ops.toList #[] (by simp) (fun i j h => by simp at h) i j hb)
  ·split at hb
   ·rename_i oj oi k1 k2; exact .inr ⟨oj, oi, k1, k2, hb⟩
   ·cases hb
 ·intro i o hi ho
  have hlt : i < ops.size := (Array.getElem?_eq_some_iff.1 ho).1
  rw [hrep i false hlt] at hi; cases hi
def gstepWL (P : Program) (all : Array Oper) (A : List Nat) (o : Oper) (st : St) (K : St → Prop) : Prop :=
 match gdOf all o st with
 | .always => dcondW A o st ∧ aop P o st (KK o st K)
 | .never => dstOk o st ∧ K (st.put o.dst (.base undef))
 | .test c b => if c = b then dcondW A o st ∧ aop P o st (KK o st K) else dstOk o st ∧ K (st.put o.dst (.base undef))
 | .stuck => False
def aopsWL (P : Program) (all : Array Oper) (A : List Nat) : List Oper → St → (St → Prop) → Prop
 | [], st, K => K st
 | o :: r, st, K => gstepWL P all A o st fun st' => aopsWL P all A r st' K
theorem aopsWL_W {all : Array Oper} : ∀ (ord : List Nat), (∀ i ∈ ord, i < all.size) → ∀ (st : St) (K : St → Prop), aopsWL P all (allocsOf all) (ord.filterMap (all[·]?)) st K → aopsW P all ord st K
 | [], _, st, K, h => h
 | i :: r, hs, st, K, h => by
  have hlt : i < all.size := hs i (by simp)
  have hi : all[i]? = some all[i] := Array.getElem?_eq_getElem hlt
  rw [List.filterMap_cons_some (f := fun x => all[x]?) hi] at h
  simp only [aopsW, hi]
  exact gstepW_mono (fun st' h' => aopsWL_W r (fun k hk => hs k (by simp [hk])) st' K h') h
theorem AWp.regW {Q : Exit → St → Prop} {id : Nat} {ops : Array Oper} {y : Code} (hm : P.follows .mixedOrders = true) (ord : List Nat) (hok : drawOk ops ord = true) (A : List Nat) (hA : allocsOf ops = A) (h : ∀ K : St → Prop, (∀ st, AWp P y Q st → K st) → aopsWL P ops A (ord.filterMap (ops[·]?)) st K) : AWp P (.seq (.region id ops true) y) Q st :=
 AWp.seq (AWp.drawW hm ord hok (aopsWL_W ord (drawOk_lt hok) st _ (by rw [hA]; exact h _ fun _ h => h)))
theorem AWp.regW1 {Q : Exit → St → Prop} {id : Nat} {ops : Array Oper} (hm : P.follows .mixedOrders = true) (ord : List Nat) (hok : drawOk ops ord = true) (A : List Nat) (hA : allocsOf ops = A) (h : ∀ K : St → Prop, (∀ st, Q .normal st → K st) → aopsWL P ops A (ord.filterMap (ops[·]?)) st K) : AWp P (.region id ops true) Q st :=
 AWp.drawW hm ord hok (aopsWL_W ord (drawOk_lt hok) st _ (by rw [hA]; exact h _ fun _ h => h))
def aopsWK (P : Program) (all : Array Oper) (A : List Nat) (r : List Oper) (K : St → Prop) (st : St) : Prop := aopsWL P all A r st K
theorem aopsWL_nil {all : Array Oper} {A : List Nat} {K : St → Prop} : aopsWL P all A [] st K = K st := rfl
theorem aopsWL_cons {all : Array Oper} {A : List Nat} {o : Oper} {r : List Oper} {K : St → Prop} : aopsWL P all A (o :: r) st K = gstepWL P all A o st (aopsWK P all A r K) := rfl
set_option linter.defProp false
/-- What a walk through such an order rewrites by. -/
def awl := And.intro @aopsWL_nil <| And.intro @aopsWL_cons <| And.intro @aopsWK.eq_1 <| And.intro @gstepWL.eq_1 <| And.intro @dcondW.eq_1 <| And.intro @KK.eq_1 <| And.intro @isCl.eq_1 <| And.intro @kd.eq_1 <| And.intro @List.filterMap_cons.{0, 0} <| And.intro @List.filterMap_nil.{0, 0} <| And.intro @List.contains_cons.{0} <| And.intro @List.contains_nil.{0} <| And.intro @Option.getD_some.{0} <| And.intro @Bool.or_self <| And.intro @Bool.false_or <| And.intro @Bool.or_false <| And.intro @Bool.false_and <| And.intro @Bool.true_and <| And.intro @Bool.and_true <| And.intro @decide_true <| And.intro @decide_false <| And.intro Bool.false_eq_true <| True.intro
end Go.Am
