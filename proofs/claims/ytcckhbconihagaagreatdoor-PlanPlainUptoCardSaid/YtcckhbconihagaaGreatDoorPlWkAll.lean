/- The walker, all together: by how much there is. -/
import Derived.Test.YtcckhbconihagaaGreatDoorPlWk3
import Derived.Test.YtcckhbconihagaaGreatDoorPlWk4
import Derived.Test.YtcckhbconihagaaGreatDoorPlWk5
import Derived.Test.YtcckhbconihagaaGreatDoorPlHits
set_option linter.unusedVariables false
namespace Go.Proofs.YtcckhbconihagaaGreatDoor
open Go.Am Go.Pl
theorem le_sumW {α : Type} (f : α → Nat) : ∀ (l : List α) (i : Nat) (hi : i < l.length), f l[i] ≤ (l.map f).sum
  | x :: l, 0, hi => by simp
  | x :: l, i + 1, hi => by
    have := le_sumW f l i (by simpa using hi)
    simp only [List.getElem_cons_succ, List.map_cons, List.sum_cons]; omega

/-- What comes to an arm: what the walker asks of whoever is asked. -/
structure Vis {σ : Type} (H : σ → Heap → Prop) (fa : σ → Arm → σ × Arm) (ff : σ → Term → Nat → σ) (av fv : V) (good : σ → Prop) : Prop where
  hac : av.isCell = true
  hfc : fv.isCell = true
  hgf : ∀ s t d, good (ff s t d) → good s
  hga : ∀ s a, good (fa s a).1 → good s
  hfv : (fv = .base .nilFunc ∧ ∀ s t d, ff s t d = s) ∨ ∃ k a c, fv = .func k a c
  hF : ∀ k a c, fv = .func k a c → ∀ (σ0 : σ) (t : Term) (d : Nat), t.op = 100 → good (ff σ0 t d) → ∀ s, H σ0 s → ACalls Tryz.prog k (a ++ [.agg t.v, vint d] ++ c) s fun _ s' => H (ff σ0 t d) s'
  hav : (av = .base .nilFunc ∧ ∀ s a, fa s a = (s, a)) ∨ ∃ k f c, av = .func k f c ∧ ∀ (σ0 : σ) (a : Arm), good (fa σ0 a).1 → ∀ s, H σ0 s → ACalls Tryz.prog k (f ++ [.agg a.v] ++ c) s fun v s' => v = .agg (fa σ0 a).2.v ∧ H (fa σ0 a).1 s'

section
variable {σ : Type} {H : σ → Heap → Prop} {fa : σ → Arm → σ × Arm} {ff : σ → Term → Nat → σ} {av fv : V} {good : σ → Prop}

def TermsOk (H : σ → Heap → Prop) (fa : σ → Arm → σ × Arm) (ff : σ → Term → Nat → σ) (av fv : V) (good : σ → Prop) (n : Nat) : Prop := ∀ (l : List Term) (d : Nat) (σ0 : σ), (l.map Term.w).sum ≤ n → d + n < 2 ^ 40 → good (wTerms fa ff l d σ0).1 → WSpec H 25 [.agg [av, fv], .slice 14 (l.map Term.v), vint d] σ0 (wTerms fa ff l d σ0).1 (.slice 14 ((wTerms fa ff l d σ0).2.map Term.v))
def QueriesOk (H : σ → Heap → Prop) (fa : σ → Arm → σ × Arm) (ff : σ → Term → Nat → σ) (av fv : V) (good : σ → Prop) (n : Nat) : Prop := ∀ (l : List Query) (d : Nat) (σ0 : σ), (l.map Query.w).sum ≤ n → d + n < 2 ^ 40 → good (wQueries fa ff l d σ0).1 → WSpec H 51 [.agg [av, fv], .slice 5 (l.map Query.v), vint d] σ0 (wQueries fa ff l d σ0).1 (.slice 5 ((wQueries fa ff l d σ0).2.map Query.v))
def ArmOk (H : σ → Heap → Prop) (fa : σ → Arm → σ × Arm) (ff : σ → Term → Nat → σ) (av fv : V) (good : σ → Prop) (n : Nat) : Prop := ∀ (a : Arm) (d : Nat) (σ0 : σ), a.w ≤ n → d + n < 2 ^ 40 → good (wArm fa ff a d σ0).1 → WSpec H 85 [.agg [av, fv], .agg a.v, vint d] σ0 (wArm fa ff a d σ0).1 (.agg (wArm fa ff a d σ0).2.v)

theorem bounds_ok (h : Vis H fa ff av fv good) {n : Nat} (hn : n ≤ 2 ^ 30) (hT : TermsOk H fa ff av fv good n) (l : List Bound) (d : Nat) (σ0 : σ) (hl : (l.map Bound.w).sum ≤ n) (hd : d + n < 2 ^ 40) (hg : good (wBounds fa ff l d σ0).1) :
    WSpec H 132 [.agg [av, fv], .slice 15 (l.map Bound.v), vint d] σ0 (wBounds fa ff l d σ0).1 (.slice 15 ((wBounds fa ff l d σ0).2.map Bound.v)) := by
  have hlen := len_le Bound.w_pos l
  refine f132_spec H fa ff av fv h.hac h.hfc l d σ0 (by omega) fun i hi => ?_
  have hw := le_sumW Bound.w l i hi
  rw [Bound.w_eq] at hw
  have hgi := gdBounds_at fa ff good h.hgf h.hga l d σ0 i hi hg
  rw [wBound_eq] at hgi
  have e : ∀ s, wTerms fa ff [l[i].term] d s = ((wTerm fa ff l[i].term d s).1, [(wTerm fa ff l[i].term d s).2]) := fun s => by rw [wTerms, wTerms]
  have := hT [l[i].term] d (wBounds fa ff (l.take i) d σ0).1 (by simp; omega) hd (by rw [e]; exact hgi)
  rw [e] at this
  exact this

theorem terms_step (h : Vis H fa ff av fv good) {n : Nat} (hn : n + 1 ≤ 2 ^ 30) (hT : TermsOk H fa ff av fv good n) (hQ : QueriesOk H fa ff av fv good n) : TermsOk H fa ff av fv good (n + 1) := by
  intro l d σ0 hl hd hg
  have hlen := len_le Term.w_pos l
  have ha : ∀ i (hi : i < l.length), good (wQueries fa ff l[i].sub (d + 1) (wTerms fa ff l[i].args d (fldS ff d (wTerms fa ff (l.take i) d σ0).1 l[i])).1).1 := fun i hi => by
    have := gdTerms_at fa ff good h.hgf h.hga l d σ0 i hi hg
    rwa [wTerm_eq] at this
  have hb : ∀ i (hi : i < l.length), good (wTerms fa ff l[i].args d (fldS ff d (wTerms fa ff (l.take i) d σ0).1 l[i])).1 := fun i hi => gdQueries fa ff good h.hgf h.hga _ _ _ (ha i hi)
  have hw : ∀ i (hi : i < l.length), (l[i].args.map Term.w).sum ≤ n ∧ (l[i].sub.map Query.w).sum ≤ n := fun i hi => by
    have := le_sumW Term.w l i hi
    rw [Term.w_eq] at this
    omega
  refine f25_spec H fa ff av fv h.hac h.hfc h.hfv l d σ0 (by omega) (by omega) (fun i hi k a c e ho s hs => ?_) (fun i hi => hT _ _ _ (hw i hi).1 (by omega) (hb i hi)) fun i hi => hQ _ _ _ (hw i hi).2 (by omega) (ha i hi)
  refine h.hF k a c e _ _ d ho ?_ s hs
  have := gdTerms fa ff good h.hgf h.hga _ _ _ (hb i hi)
  rwa [fldS, if_pos ho] at this

theorem queries_step (h : Vis H fa ff av fv good) {n : Nat} (hn : n + 1 ≤ 2 ^ 30) (hT : TermsOk H fa ff av fv good n) (hA : ArmOk H fa ff av fv good n) : QueriesOk H fa ff av fv good (n + 1) := by
  intro l d σ0 hl hd hg
  have hlen := len_le Query.w_pos l
  have hw : ∀ i (hi : i < l.length), l[i].names.length + (l[i].arms.map Arm.w).sum + l[i].order.length + (l[i].limit.map Term.w).sum + (l[i].offset.map Term.w).sum ≤ n := fun i hi => by
    have := le_sumW Query.w l i hi
    rw [Query.w_eq] at this
    omega
  have hal : ∀ i (hi : i < l.length), l[i].arms.length ≤ (l[i].arms.map Arm.w).sum := fun i hi => len_le Arm.w_pos _
  have ha : ∀ i (hi : i < l.length), good (wArms fa ff l[i].arms d (wTerms fa ff l[i].offset d (wTerms fa ff l[i].limit d (wQueries fa ff (l.take i) d σ0).1).1).1).1 := fun i hi => by
    have := gdQueries_at fa ff good h.hgf h.hga l d σ0 i hi hg
    rwa [wQuery_eq] at this
  have hb := fun i hi => gdArms fa ff good h.hgf h.hga _ _ _ (ha i hi)
  have hc := fun i hi => gdTerms fa ff good h.hgf h.hga _ _ _ (hb i hi)
  refine f51_spec H fa ff av fv h.hac h.hfc l d σ0 (by omega) (fun i hi => ⟨by have := hw i hi; omega, by have := hw i hi; omega⟩) (fun i hi => by have := hw i hi; have := hal i hi; omega)
    (fun i hi => hT _ _ _ (by have := hw i hi; omega) (by omega) (hc i hi)) (fun i hi => hT _ _ _ (by have := hw i hi; omega) (by omega) (hb i hi)) fun i hi k hk => hA _ _ _ ?_ (by omega) ?_
  · have := hw i hi
    have := le_sumW Arm.w l[i].arms k hk
    omega
  · exact gdArms_at fa ff good h.hgf h.hga _ _ _ k hk (ha i hi)

theorem arm_step (h : Vis H fa ff av fv good) {n : Nat} (hn : n + 1 ≤ 2 ^ 30) (hT : TermsOk H fa ff av fv good n) (hQ : QueriesOk H fa ff av fv good n) : ArmOk H fa ff av fv good (n + 1) := by
  intro a d σ0 hw hd hg
  rw [Arm.w_eq] at hw
  rw [wArm_eq] at hg ⊢
  have g9 := h.hga _ _ hg
  have g8 := gdTerms fa ff good h.hgf h.hga _ _ _ g9
  have g7 := gdTerms fa ff good h.hgf h.hga _ _ _ g8
  have g6 := gdTerms fa ff good h.hgf h.hga _ _ _ g7
  have g5 := gdTerms fa ff good h.hgf h.hga _ _ _ g6
  have g4 := gdTerms fa ff good h.hgf h.hga _ _ _ g5
  have g3 := gdSteps fa ff good h.hgf h.hga _ _ _ g4
  have g2 := gdAggs fa ff good h.hgf h.hga _ _ _ g3
  have g1 := gdFroms fa ff good h.hgf h.hga _ _ _ g2
  have l1 := len_le (f := fun l : List Term => 1 + (l.map Term.w).sum) (fun x => Nat.le_add_right 1 _) a.rows
  have l2 := len_le From.w_pos a.frm
  have l3 := len_le Agg.w_pos a.aggs
  have l4 := len_le Step.w_pos a.steps
  have wr : ∀ i (hi : i < a.rows.length), (a.rows[i].map Term.w).sum ≤ n := fun i hi => by
    have := le_sumW (fun l : List Term => 1 + (l.map Term.w).sum) a.rows i hi
    omega
  have wf : ∀ i (hi : i < a.frm.length), (a.frm[i].sub.map Query.w).sum ≤ n ∧ (a.frm[i].on.map Term.w).sum ≤ n := fun i hi => by
    have := le_sumW From.w a.frm i hi
    rw [From.w_eq] at this
    omega
  have wg : ∀ i (hi : i < a.aggs.length), (a.aggs[i].arg.map Term.w).sum ≤ n := fun i hi => by
    have := le_sumW Agg.w a.aggs i hi
    rw [Agg.w_eq] at this
    omega
  have ws : ∀ i (hi : i < a.steps.length), (a.steps[i].eq.map Term.w).sum + (a.steps[i].low.map Bound.w).sum + (a.steps[i].high.map Bound.w).sum + a.steps[i].whr.length ≤ n := fun i hi => by
    have := le_sumW Step.w a.steps i hi
    rw [Step.w_eq] at this
    omega
  have gf : ∀ i (hi : i < a.frm.length), good (wTerms fa ff a.frm[i].on d (wQueries fa ff a.frm[i].sub d (wFroms fa ff (a.frm.take i) d (wRows fa ff a.rows d σ0).1).1).1).1 := fun i hi => by
    have := gdFroms_at fa ff good h.hgf h.hga a.frm d _ i hi g2
    rwa [wFrom_eq] at this
  have gs : ∀ i (hi : i < a.steps.length), good (wBounds fa ff a.steps[i].high d (wBounds fa ff a.steps[i].low d (wTerms fa ff a.steps[i].eq d (wSteps fa ff (a.steps.take i) d (wAggs fa ff a.aggs d (wFroms fa ff a.frm d (wRows fa ff a.rows d σ0).1).1).1).1).1).1).1 := fun i hi => by
    have := gdSteps_at fa ff good h.hgf h.hga a.steps d _ i hi g4
    rwa [wStep_eq] at this
  have gs2 := fun i hi => gdBounds fa ff good h.hgf h.hga _ _ _ (gs i hi)
  have gs1 := fun i hi => gdBounds fa ff good h.hgf h.hga _ _ _ (gs2 i hi)
  refine f85_spec H fa ff av fv h.hac h.hfc a d σ0 _ _ _ _ _ _ _ _ _ rfl rfl rfl rfl (by omega) (by omega) (by omega) (by omega)
    (fun i hi => hT _ _ _ (wr i hi) (by omega) (gdRows_at fa ff good h.hgf h.hga _ _ _ i hi g1))
    (fun i hi => hQ _ _ _ (wf i hi).1 (by omega) (gdTerms fa ff good h.hgf h.hga _ _ _ (gf i hi)))
    (fun i hi => hT _ _ _ (wf i hi).2 (by omega) (gf i hi))
    (fun i hi => hT _ _ _ (wg i hi) (by omega) (by
      have := gdAggs_at fa ff good h.hgf h.hga a.aggs d _ i hi g3
      rwa [wAgg_eq] at this))
    (fun i hi => by have := ws i hi; omega)
    (fun i hi => hT _ _ _ (by have := ws i hi; omega) (by omega) (gs1 i hi))
    (fun i hi => bounds_ok h (by omega) hT _ _ _ (by have := ws i hi; omega) (by omega) (gs2 i hi))
    (fun i hi => bounds_ok h (by omega) hT _ _ _ (by have := ws i hi; omega) (by omega) (gs i hi))
    (hT _ _ _ (by omega) (by omega) g5) (hT _ _ _ (by omega) (by omega) g6) (hT _ _ _ (by omega) (by omega) g7) (hT _ _ _ (by omega) (by omega) g8) (hT _ _ _ (by omega) (by omega) g9) ?_
  rcases h.hav with hv | ⟨k, f, c, hv, hK⟩
  · exact .inl hv
  · exact .inr ⟨k, f, c, hv, fun s hs => hK _ _ hg s hs⟩

/-- **The walker.** -/
theorem walk_all (h : Vis H fa ff av fv good) : ∀ n, n ≤ 2 ^ 30 → TermsOk H fa ff av fv good n ∧ QueriesOk H fa ff av fv good n ∧ ArmOk H fa ff av fv good n
  | 0, _ => by
    refine ⟨fun l d σ0 hl hd hg => ?_, fun l d σ0 hl hd hg => ?_, fun a d σ0 hw => ?_⟩
    · have := len_le Term.w_pos l
      obtain rfl : l = [] := List.eq_nil_of_length_eq_zero (by omega)
      exact f25_spec H fa ff av fv h.hac h.hfc h.hfv [] d σ0 (by simp) (by omega) (fun i hi => by simp at hi) (fun i hi => by simp at hi) fun i hi => by simp at hi
    · have := len_le Query.w_pos l
      obtain rfl : l = [] := List.eq_nil_of_length_eq_zero (by omega)
      exact f51_spec H fa ff av fv h.hac h.hfc [] d σ0 (by simp) (fun i hi => by simp at hi) (fun i hi => by simp at hi) (fun i hi => by simp at hi) (fun i hi => by simp at hi) fun i hi => by simp at hi
    · have := a.w_pos; omega
  | n + 1, hn => by
    obtain ⟨h1, h2, h3⟩ := walk_all h n (by omega)
    exact ⟨terms_step h hn h1 h2, queries_step h hn h1 h3, arm_step h hn h1 h2⟩
end
end Go.Proofs.YtcckhbconihagaaGreatDoor
