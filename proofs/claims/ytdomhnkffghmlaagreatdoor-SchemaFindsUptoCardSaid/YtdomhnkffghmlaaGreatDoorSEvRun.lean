/- The evaluator's code, calls, deferred calls. -/
import Derived.Test.YtdomhnkffghmlaaGreatDoorS7
import Derived.Test.YtdomhnkffghmlaaGreatDoorSEvLay
set_option linter.unusedVariables false
set_option linter.unusedSimpArgs false
namespace Go.Ev
noncomputable section
open Go.Am
variable {P : Program}
inductive Ex where
 | normal | ret
 | exit (i : Nat)
def Ex.ex : Ex → Exit
 | .normal => .normal
 | .ret => .ret
 | .exit i => .exit i
def regE (P : Program) (call : CallF) (yc : YldF) (rd : Bool) (g n : Nat) (ops : Array Oper) (draw : Bool) (s : S) : Option S := match draw with
 | false => bif noDefer ops then seqY P call yc n ops s.k ops.toList (s.setK (s.k + ops.size)) else bif rd then none else seqE P call n ops s.k ops.toList (s.setK (s.k + ops.size))
 | true => bif noDefer ops && Region.noSelect ops && P.follows .mixedOrders then layE P call g n s.k ops ops.size [(Array.replicate ops.size false, [], s)] else none
def loopE (body : S → Option (Ex × S)) : Nat → S → Option (Ex × S)
 | 0, _ => none
 | m + 1, s => match body s with
  | some (.normal, s') => loopE body m s'
  | e => e
/-- A range over a function: two new blocks, the call. -/
def rngE (call : CallF) (n : Nat) (f : Operand) (ps : Array Tmp) (x y : Code) (s : S) : Option (Ex × S) := match evO s.T f with
 | some (.fn fi [] caps) => match s.H.get s.k, (s.H.set s.k .none).get (s.k + 1) with
  | none, none => match call fi (.yl (s.k + 1) :: caps) ((s.H.set s.k .none).set (s.k + 1) (.loop { T := s.T, n := n, ps := ps, assign := x, body := y, d := s.k, busy := false })) (s.k + 2) with
   | some (_, H', k') => match H'.get (s.k + 1) with
    | some (.loop l) => match l.busy with
     | false => some (.normal, { s with H := H'.set (s.k + 1) .dead, k := k', D := .mark s.k :: s.D })
     | true => none
    | _ => none
   | none => none
  | _, _ => none
 | _ => none
def codeE (P : Program) (call : CallF) (yc : YldF) (rd : Bool) (g n L : Nat) : Code → S → Option (Ex × S)
 | .skip, s => some (.normal, s)
 | .label _, s => some (.normal, s)
 | .region _ ops draw, s => match regE P call yc rd g n ops draw s with
  | some s' => some (.normal, s')
  | none => none
 | .seq x y, s => match codeE P call yc rd g n L x s with
  | some (.normal, s') => codeE P call yc rd g n L y s'
  | e => e
 | .cond c x y, s => match evO s.T c with
  | some (.v (.bool true)) => codeE P call yc rd g n L x s
  | some (.v (.bool false)) => codeE P call yc rd g n L y s
  | _ => none
 | .block i c, s => match codeE P call yc rd g n L c s with
  | some (.exit j, s') => bif Nat.beq j i then some (.normal, s') else some (.exit j, s')
  | e => e
 | .loop c, s => loopE (fun s => codeE P call yc rd g n L c s) L s
 | .exit i, s => some (.exit i, s)
 | .scope c, s => bif rd then none else codeE P call yc rd g n L c s
 | .rangeFunc f ps x y, s => bif rd then none else rngE call n f ps x y s
 | .ret, s => some (.ret, s)
 | _, _ => none
section
variable {n : Nat} {w0 : Base} {r : Env} {a : Act} {w : World} {s s' : S} {call : CallF} {yc : YldF} {rd : Bool} {F : Fence} {g L : Nat}
/-- So code ends. -/
def Ends (w0 : Base) (n : Nat) (r : Env) (x : Ex) (s : S) : Exit → Act → World → Prop := fun e a w => e = x.ex ∧ Later w0 n r s a w
theorem Ends.trans {r' : Env} (hle : r.Le r') {x : Ex} {e : Exit} {a : Act} {w : World} (h : Ends w0 n r' x s e a w) : Ends w0 n r x s e a w := ⟨h.1, h.2.trans hle⟩
theorem regE_done (hF : Go.Am.Open F) (hrd : rd = false → F = Fence.wide) (hcall : CallOk P w0 call) (hyc : YldOk P w0 yc) {id : Nat} {ops : Array Oper} {draw : Bool} (h : regE P call yc rd g n ops draw s = some s') (hS : SRel w0 n r s a w) : (Code.region id ops draw).wpIn F 0 P (Ends w0 n r .normal s') a w := by
 cases draw with
 | false =>
  simp only [regE] at h
  cases hnd : noDefer ops with
  | true =>
   rw [hnd] at h
   refine wpIn_region ?_
   rw [List.range_eq_range']
   exact seqY_done hF hcall hyc hnd ops.size 0 _ (by simp) r _ a w (by simpa using h) hS.reK fun a w hl => ⟨rfl, hl⟩
  | false =>
   rw [hnd] at h
   simp only [cond_false] at h
   cases rd with
   | true => cases h
   | false =>
    obtain rfl := hrd rfl
    refine wpIn_wide.2 (wp_region ?_)
    rw [List.range_eq_range']
    exact seqE_done hcall ops.size 0 _ (by simp) r _ a w (by simpa using h) hS.reK fun a w hl => ⟨rfl, hl⟩
 | true =>
  simp only [regE] at h
  cases hc : (noDefer ops && Region.noSelect ops && P.follows .mixedOrders) with
  | false => rw [hc] at h; cases h
  | true =>
   rw [hc] at h
   simp only [Bool.and_eq_true] at hc
   have hS' : SRel w0 n r s a { w with drawn := w.drawn + 1 } := ⟨hS.A, hS.W.same rfl rfl rfl rfl, hS.D⟩
   refine wpIn_region_any hc.2 (any_in hF hc.1.1 (fun ⟨a, w, hq⟩ => by cases hq.1) ops.size _ a _ (wpAny_of_held (S := HeldP r []) _ _ _ _ ?_))
   exact anyE_done hcall hc.1.2 (fun c a w hq => by cases hq.1) ops.size _ [] r s a _ (lay_any h (Array.replicate ops.size false, [], s) (by simp)) hS' (fun x hx => by cases hx) fun a w hl => ⟨rfl, hl⟩
theorem rngE_done (hcall : CallOk P w0 call) {f : Operand} {ps : Array Tmp} {x y : Code} {e : Ex} (h : rngE call n f ps x y s = some (e, s')) (hS : SRel w0 n r s a w) : (Code.rangeFunc f ps x y).wpIn Fence.wide 0 P (Ends w0 n r e s') a w := by
 unfold rngE at h
 split at h
 ·rename_i fi caps hf
  split at h
  ·rename_i hk1 hk2
   split at h
   ·rename_i v H' k' hc
    split at h
    ·rename_i l hl
     split at h
     ·rename_i hb
      cases h
      have hfv := hS.A.eval hf
      simp only [ren, renL, Option.bind_some, Option.bind_eq_some_iff] at hfv
      obtain ⟨cc, hcc, hfv⟩ := hfv
      have hfv := (Option.some.inj hfv).symm
      refine wpIn_rangeFunc fun fn _ => ?_
      have hW1 : WRel w0 (r.add s.k w.heap.size 0) (s.H.set s.k .none) (w.alloc (.deferred (some []))) := hS.W.new hk1 .none
      have hl1 := Env.le_add (b := w.heap.size) (c := 0) (hS.W.fresh hk1)
      have hl2 := Env.le_add (b := (w.alloc (.deferred (some []))).heap.size) (c := 0) (hW1.fresh hk2)
      have hle := hl1.trans hl2
      have hsz : (w.alloc (.deferred (some []))).heap.size = w.heap.size + 1 := World.size_alloc _ _
      have hkd : ((r.add s.k w.heap.size 0).add (s.k + 1) (w.alloc (.deferred (some []))).heap.size 0).b s.k = some w.heap.size := hl2.b _ _ (by simp [Env.add])
      have hkl : ((r.add s.k w.heap.size 0).add (s.k + 1) (w.alloc (.deferred (some []))).heap.size 0).b (s.k + 1) = some (w.heap.size + 1) := by rw [← hsz]; simp [Env.add]
      have hW2 := hW1.new (c := 0) (B := .loop { T := s.T, n := n, ps := ps, assign := x, body := y, d := s.k, busy := false }) (o := .loop { state := .ready, pending := none, fn := fn, tmps := a.tmps, params := ps, assign := x, body := y, defers := w.heap.size }) hk2 (.loop ⟨rfl, rfl, rfl, rfl, rfl, hkd, hS.A.n, fun t c ht => ren_mono hle _ _ (hS.A.tmps t c ht)⟩)
      have hq : renL ((r.add s.k w.heap.size 0).add (s.k + 1) (w.alloc (.deferred (some []))).heap.size 0) (EV.yl (s.k + 1) :: caps) = some (Value.func (.yield (w.heap.size + 1)) #[] #[] :: cc) :=
       renL_cons.2 ⟨_, cc, (by simp only [ren, hkl, Option.bind_some] : ren _ (EV.yl (s.k + 1)) = some (Value.func (.yield (w.heap.size + 1)) #[] #[])), renL_mono hle _ _ hcc, rfl⟩
      obtain ⟨⟨fn', hf', hb', hn'⟩, hcl⟩ := hcall _ _ _ _ _ _ _ hc _ _ (#[.func (.yield (w.heap.size + 1)) #[] #[]] ++ cc.toArray) hW2 (by rw [Array.toList_append]; exact hq)
      have henter := run_enterLoop_outer (P := P) (w := w) fn a.tmps ps x y
      generalize hWW : (w.alloc (.deferred (some []))).alloc (.loop { state := .ready, pending := none, fn := fn, tmps := a.tmps, params := ps, assign := x, body := y, defers := w.heap.size }) = W2 at henter hW2 hcl
      refine ⟨w.heap.size + 1, _, W2, { target := .fn (.func fi) cc.toArray, args := #[.func (.yield (w.heap.size + 1)) #[] #[]] }, W2, fi, #[.func (.yield (w.heap.size + 1)) #[] #[]] ++ cc.toArray, W2, henter, ?_, fun _ _ => trivial, ?_, fun h => by simp [Fence.wide] at h, ?_⟩
      ·simp only [resolve, hfv, Deferred.ofValue, Sem.run_pure, Array.empty_append]
       simp [Act.eval]
      ·simp only [invoke, callFunc, run_program, Sem.run_bind, Result.andThen_ok, hf', hn', Bool.false_eq_true, if_false, hb', Sem.run_pure]
      ·refine callsIn_wide.2 (hcl.mono ?_)
       rintro e' w3 ⟨r3, cv, rfl, hle3, hW3, hv⟩
       obtain ⟨b3, o3, j1, j2, j3, j4⟩ := hW3.obj _ _ hl (by simp)
       have hb3 : b3 = w.heap.size + 1 := Option.some.inj (j1.symm.trans (hle3.b _ _ hkl))
       subst hb3
       cases j4 with
       | @loop l xl hx =>
        have hst : xl.state = .ready := by rw [hx.st, hb]
        have hend := run_endLoop (P := P) j3 (by rw [hst]; simp)
        rw [hx.pe] at hend
        refine ⟨none, _, hend, rfl, r3, hle.trans hle3, ⟨(hS.A.mono (hle.trans hle3)).n, (hS.A.mono (hle.trans hle3)).tmps⟩, ?_, ⟨_, hle3.b _ _ hkd, rfl⟩, hS.D.mono (hle.trans hle3)⟩
        exact hW3.turn hl (by simp) j1 (.inl rfl) (World.putObj_size ..) (World.putObj_heap_same (Array.getElem?_eq_some_iff.1 j3).1) (fun c hc => World.putObj_heap_other hc) rfl rfl rfl
     ·cases h
    ·cases h
   ·cases h
  ·cases h
 ·cases h
theorem codeE_done (hF : Go.Am.Open F) (hrd : rd = false → F = Fence.wide) (hcall : CallOk P w0 call) (hyc : YldOk P w0 yc) : ∀ (c : Code) (r : Env) (s : S) (a : Act) (w : World) (x : Ex) (s' : S), codeE P call yc rd g n L c s = some (x, s') → SRel w0 n r s a w → c.wpIn F 0 P (Ends w0 n r x s') a w := by
 intro c
 induction c with
 | skip =>
  intro r s a w x s' h hS
  simp only [codeE, Option.some.injEq, Prod.mk.injEq] at h
  obtain ⟨rfl, rfl⟩ := h
  exact wpIn_skip ⟨rfl, r, Env.Le.refl r, hS⟩
 | label l =>
  intro r s a w x s' h hS
  simp only [codeE, Option.some.injEq, Prod.mk.injEq] at h
  obtain ⟨rfl, rfl⟩ := h
  exact wpIn_label ⟨rfl, r, Env.Le.refl r, hS⟩
 | region id ops draw =>
  intro r s a w x s' h hS
  simp only [codeE] at h
  split at h
  ·rename_i s1 h1
   cases h
   exact regE_done hF hrd hcall hyc h1 hS
  ·cases h
 | seq y z ihy ihz =>
  intro r s a w x s' h hS
  simp only [codeE] at h
  refine wpIn_seq ?_
  split at h
  ·rename_i s1 h1
   refine wpIn_mono (ihy r s a w _ _ h1 hS) ?_
   rintro e a' w' ⟨rfl, r', hle, hS'⟩
   exact wpIn_mono (ihz r' s1 a' w' x s' h hS') fun e a w hh => hh.trans hle
  ·rename_i hno
   refine wpIn_mono (ihy r s a w x s' h hS) ?_
   rintro e a' w' ⟨rfl, hl⟩
   cases x with
   | normal => exact absurd h (hno s')
   | ret => exact ⟨rfl, hl⟩
   | exit i => exact ⟨rfl, hl⟩
 | cond c y z ihy ihz =>
  intro r s a w x s' h hS
  simp only [codeE] at h
  split at h
  ·rename_i hc
   exact wpIn_cond_true (Option.some.inj (hS.A.eval hc)).symm (ihy r s a w x s' h hS)
  ·rename_i hc
   exact wpIn_cond_false (Option.some.inj (hS.A.eval hc)).symm (ihz r s a w x s' h hS)
  ·cases h
 | block i c ih =>
  intro r s a w x s' h hS
  simp only [codeE] at h
  refine wpIn_block ?_
  split at h
  ·rename_i j s1 h1
   refine wpIn_mono (ih r s a w _ _ h1 hS) ?_
   rintro e a' w' ⟨rfl, hl⟩
   cases hj : Nat.beq j i with
   | true =>
    rw [hj] at h
    cases h
    have := Nat.eq_of_beq_eq_true hj
    simp only [Ex.ex, Exit.inBlock, this, if_true]
    exact ⟨rfl, hl⟩
   | false =>
    rw [hj] at h
    cases h
    have : j ≠ i := fun e => by rw [e] at hj; simp at hj
    simp only [Ex.ex, Exit.inBlock, this, if_false]
    exact ⟨rfl, hl⟩
  ·rename_i hno
   refine wpIn_mono (ih r s a w x s' h hS) ?_
   rintro e a' w' ⟨rfl, hl⟩
   cases x with
   | normal => exact ⟨rfl, hl⟩
   | ret => exact ⟨rfl, hl⟩
   | exit j => exact absurd h (hno j s')
 | loop c ih =>
  intro r s a w x s' h hS
  simp only [codeE] at h
  have key : ∀ (m : Nat) (r : Env) (s : S) (a : Act) (w : World), loopE (fun s => codeE P call yc rd g n L c s) m s = some (x, s') → SRel w0 n r s a w → Code.roundsIn F 0 P c (Ends w0 n r x s') m a w := by
   intro m
   induction m with
   | zero => intro r s a w h; cases h
   | succ m ihm =>
    intro r s a w h hS
    simp only [loopE] at h
    show c.wpIn F 0 P _ a w
    split at h
    ·rename_i s1 h1
     refine wpIn_mono (ih r s a w _ _ h1 hS) ?_
     rintro e a' w' ⟨rfl, r', hle, hS'⟩
     have := ihm r' s1 a' w' h hS'
     have mono : ∀ (m : Nat) (a : Act) (w : World), Code.roundsIn F 0 P c (Ends w0 n r' x s') m a w → Code.roundsIn F 0 P c (Ends w0 n r x s') m a w := by
      intro m
      induction m with
      | zero => exact fun a w h => h
      | succ m ih2 =>
       intro a w h
       refine wpIn_mono (show c.wpIn F 0 P _ a w from h) fun e a w hh => ?_
       cases e <;> first | exact ih2 a w hh | exact Ends.trans hle hh
     exact mono m a' w' this
    ·rename_i hno
     refine wpIn_mono (ih r s a w x s' h hS) ?_
     rintro e a' w' ⟨rfl, hl⟩
     cases x with
     | normal => exact absurd h (hno s')
     | ret => exact ⟨rfl, hl⟩
     | exit i => exact ⟨rfl, hl⟩
  exact wpIn_loop_rounds L (key L r s a w h hS)
 | exit i =>
  intro r s a w x s' h hS
  simp only [codeE, Option.some.injEq, Prod.mk.injEq] at h
  obtain ⟨rfl, rfl⟩ := h
  exact wpIn_exit ⟨rfl, r, Env.Le.refl r, hS⟩
 | scope c ih =>
  intro r s a w x s' h hS
  simp only [codeE] at h
  cases rd with
  | true => cases h
  | false =>
   obtain rfl := hrd rfl
   refine wpIn_wide.2 (wp_scope_straight (wp_mono (wpIn_wide.1 (ih r s a w x s' h hS)) ?_))
   rintro e a' w' ⟨rfl, hl⟩
   cases x <;> exact ⟨rfl, hl⟩
 | ret =>
  intro r s a w x s' h hS
  simp only [codeE, Option.some.injEq, Prod.mk.injEq] at h
  obtain ⟨rfl, rfl⟩ := h
  exact wpIn_ret ⟨rfl, r, Env.Le.refl r, hS⟩
 | rangeFunc f ps x y _ _ =>
  intro r s a w e s' h hS
  simp only [codeE] at h
  cases rd with
  | true => cases h
  | false =>
   obtain rfl := hrd rfl
   exact rngE_done hcall h hS
 | goto l => intro r s a w x s' h hS; simp [codeE] at h
 | refuse y => intro r s a w x s' h hS; simp [codeE] at h
/-- The arguments as temporaries. -/
def argsT : List EV → Nat → Tr EV → Tr EV
 | [], _, T => T
 | c :: l, i, T => argsT l (i + 1) (T.set i c)
theorem argsT_get : ∀ (l : List EV) (i : Nat) (T : Tr EV) (t : Nat), (argsT l i T).get t = if i ≤ t ∧ t < i + l.length then l[t - i]? else T.get t
 | [], i, T, t => by simp [argsT]; intro h1 h2; omega
 | c :: l, i, T, t => by
  simp only [argsT, argsT_get l, Tr.get_set, List.length_cons]
  by_cases e : t = i
  ·subst e; simp; intro h1 h2; omega
  ·by_cases h : i ≤ t ∧ t < i + (l.length + 1)
   ·rw [if_pos (by omega), if_pos h]
    have : t - i = (t - (i + 1)) + 1 := by omega
    rw [this, List.getElem?_cons_succ]
   ·rw [if_neg (by omega), if_neg e, if_neg h]
theorem ARel.entry {fn : Func} {args : List EV} {cargs : Array Value} (hr : renL r args = some cargs.toList) (hle : args.length ≤ fn.ntmps) : ARel fn.ntmps r (argsT args 0 (Tr.mk 4)) { tmps := cargs ++ Array.replicate (fn.ntmps - cargs.size) undef, defers := [] } := by
 have hsz : cargs.size = args.length := by have := renL_len hr; simpa using this
 refine ⟨by simp; omega, fun t c ht => ?_⟩
 rw [argsT_get, Tr.get_mk] at ht
 split at ht
 ·obtain ⟨v, h1, h2⟩ := renL_get hr ht
  rw [h2]
  simp only [Nat.sub_zero] at h1
  have hlt : t < cargs.size := by have := (List.getElem?_eq_some_iff.1 h1).1; simpa using this
  rw [Array.getD_eq_getD_getElem?, Array.getElem?_append_left hlt]
  have : cargs[t]? = some v := by simpa using h1
  rw [this]; rfl
 ·cases ht
/-- The results. -/
def resE (P : Program) (s : S) : List ResultVar → Option (List EV)
 | [] => some []
 | .tmp t :: l => (s.T.get t).bind fun c => (resE P s l).bind fun y => some (c :: y)
 | .cell t ty :: l => match s.T.get t, tyOf P ty with
  | some (.p k off), some d => match s.H.get k with
   | some (.live cs _ _) => (rdE d cs off).bind fun c => (resE P s l).bind fun y => some (c :: y)
   | _ => none
  | _, _ => none
def oneE : List EV → EV
 | [c] => c
 | l => .tu l
theorem resE_run (hS : SRel w0 n r s a w) : ∀ {l : List ResultVar} {cs : List EV}, resE P s l = some cs → ∃ cvs : List Value, (l.mapM (resOne a.tmps)).run P w = .ok cvs w ∧ renL r cs = some cvs
 | [], cs, h => by cases h; exact ⟨[], by simp, rfl⟩
 | .tmp t :: l, cs, h => by
  simp only [resE, Option.bind_eq_some_iff] at h
  obtain ⟨c, h1, y, h2, h3⟩ := h
  cases h3
  obtain ⟨cvs, k1, k2⟩ := resE_run hS h2
  refine ⟨a.tmps.getD t undef :: cvs, ?_, renL_cons.2 ⟨_, _, hS.A.tmps t c h1, k2, rfl⟩⟩
  simp only [List.mapM_cons, resOne, Sem.run_bind, Sem.run_pure, Result.andThen_ok, k1]
 | .cell t ty :: l, cs, h => by
  simp only [resE] at h
  split at h
  ·rename_i k off d ht hd
   split at h
   ·rename_i cells ty' sz hk
    simp only [Option.bind_eq_some_iff] at h
    obtain ⟨c, h1, y, h2, h3⟩ := h
    cases h3
    obtain ⟨cvs, k1, k2⟩ := resE_run hS h2
    obtain ⟨b, ccs, j1, j2, j3, vs, j4, j5, j6⟩ := hS.W.blk k _ _ _ hk
    have htl : ∃ tail, ccs.toList = vs ++ tail := by
     rcases j6 with ⟨_, h6⟩ | ⟨_, h6, _⟩
     ·exact ⟨[], by simpa using h6⟩
     ·exact h6
    obtain ⟨tail, htl⟩ := htl
    obtain ⟨cv, hrun, hcv⟩ := loadE_run (P := P) (w := w) hd h1 j4 j3 htl
    have hp := hS.A.tmps t _ ht
    simp only [ren, j1, Option.bind_some, Option.some.injEq] at hp
    simp only [Instr.loadAt, Instr.sureAddr, Sem.run_bind, Sem.run_pure, Result.andThen_ok] at hrun
    refine ⟨cv :: cvs, ?_, renL_cons.2 ⟨_, _, hcv, k2, rfl⟩⟩
    have ha : asAddr (a.tmps.getD t undef) = pure ⟨b, off, none⟩ := by rw [← hp]; rfl
    simp only [List.mapM_cons, resOne, Sem.run_bind, ha, Sem.run_pure, Result.andThen_ok, hrun, k1]
   ·cases h
  ·cases h
theorem oneE_run (hS : SRel w0 n r s a w) {fn : Func} {cs : List EV} (h : resE P s fn.results.toList = some cs) : ∃ v, (results fn a.tmps).run P w = .ok v w ∧ ren r (oneE cs) = some v := by
 obtain ⟨cvs, k1, k2⟩ := resE_run hS h
 refine ⟨(if h : cvs.toArray.size = 1 then cvs.toArray[0] else .tuple cvs.toArray), ?_, ?_⟩
 ·have hres : results fn a.tmps = (do let vs ← fn.results.mapM (resOne a.tmps); pure (if h : vs.size = 1 then vs[0] else .tuple vs)) := by
   unfold results
   congr 1
  rw [hres, Sem.run_bind, Array.mapM_eq_mapM_toList, Sem.run_map, k1]
  rfl
 ·match cs, cvs, k2 with
  | [], cvs, k2 => cases k2; rfl
  | [c], cvs, k2 =>
   obtain ⟨x, y, h1, h2, rfl⟩ := renL_cons.1 k2
   cases h2
   exact h1
  | c :: d :: l, cvs, k2 =>
   have hl := renL_len k2
   rw [dif_neg (by simp [hl])]
   simp [oneE, ren, k2]
/-- A deferred call, where nothing panics: it asks first whether something does. -/
def recE (P : Program) (call : CallF) (yc : YldF) (g L : Nat) (f : FuncId) (args : List EV) (H : Heap) (k : Nat) : Option (Heap × Nat) :=
 match P.funcs[f]? with
 | some fn => match fn.body with
  | some (.seq (.region _ ops false) rest) => match ops.toList with
   | [o0, o1] => match o0.op, o0.guard, o0.dst, o1.op, o1.guard, o1.dst with
    | .call { callee := .builtin .recover, args := as, argTypes := _ }, none, some t7, .assign (.tmp t7'), none, some t3 =>
     bif Nat.beq t7 t7' && as.isEmpty && fn.results.isEmpty && Nat.ble args.length fn.ntmps && Nat.blt t7 fn.ntmps && Nat.blt t3 fn.ntmps && !(fn.name == "runtime.NumGoroutine") then
      match codeE P call yc false g fn.ntmps L rest { T := ((argsT args 0 (Tr.mk 4)).set t7 (.v .nilIface)).set t3 (.v .nilIface), H := H, k := k, D := [] } with
      | some (.normal, s) => match s.D with
       | [] => some (s.H, s.k)
       | _ => none
      | some (.ret, s) => match s.D with
       | [] => some (s.H, s.k)
       | _ => none
      | _ => none
     else none
    | _, _, _, _, _, _ => none
   | _ => none
  | _ => none
 | none => none
theorem recE_done (hcall : CallOk P w0 call) (hyc : YldOk P w0 yc) {f : FuncId} {args : List EV} {H H' : Heap} {k k' : Nat} (h : recE P call yc g L f args H k = some (H', k')) (hW : WRel w0 r H w) {cargs : Array Value} (hargs : renL r args = some cargs.toList) :
  (∃ fn, P.funcs[f]? = some fn ∧ fn.body.isNone = false ∧ (fn.name == "runtime.NumGoroutine") = false) ∧ CallsDIn Fence.wide 0 P f cargs .returning w fun en u' w' => (∃ v, en = .returned v) ∧ u' = .returning ∧ ∃ r', r.Le r' ∧ WRel w0 r' H' w' := by
 unfold recE at h
 split at h
 ·rename_i fn hf
  split at h
  ·rename_i rid ops rest hb
   split at h
   ·rename_i o0 o1 hops
    split at h
    ·rename_i as ts t7 t7' t3 h0 g0 d0 h1 g1 d1
     cases hc : (Nat.beq t7 t7' && as.isEmpty && fn.results.isEmpty && Nat.ble args.length fn.ntmps && Nat.blt t7 fn.ntmps && Nat.blt t3 fn.ntmps && !(fn.name == "runtime.NumGoroutine")) with
     | false => rw [hc] at h; cases h
     | true =>
      rw [hc] at h
      simp only [cond_true] at h
      simp only [Bool.and_eq_true, Nat.blt_eq, Array.isEmpty_iff, Bool.not_eq_true'] at hc
      obtain ⟨⟨⟨⟨⟨⟨c1, c2⟩, c3⟩, c4⟩, c5⟩, c6⟩, c7⟩ := hc
      obtain rfl := Nat.eq_of_beq_eq_true c1
      have c4 := Nat.le_of_ble_eq_true c4
      obtain rfl : ops = #[o0, o1] := by apply Array.ext'; simpa using hops
      subst c2
      have hsz : cargs.size = args.length := by have := renL_len hargs; simpa using this
      refine ⟨⟨fn, hf, by simp [hb], c7⟩, ?_⟩
      refine callsD_rec hf hb h0 g0 d0 h1 g1 d1 (u1 := .returning) (rv := .nilIface) (fun c₀ cs hu => .inr ⟨by simp [recoverD, hu], rfl, rfl⟩) (by simp; omega) ?_
      have hA := ((ARel.entry (fn := fn) hargs c4).put (t := t7) c5 (c := .v .nilIface) rfl).put (t := t3) c6 (c := .v .nilIface) rfl
      have fin : ∀ {x : Ex} {s : S}, codeE P call yc false g fn.ntmps L rest { T := ((argsT args 0 (Tr.mk 4)).set t7 (.v .nilIface)).set t3 (.v .nilIface), H := H, k := k, D := [] } = some (x, s) → (x = .normal ∨ x = .ret) → s.D = [] → s.H = H' →
        rest.wp P (fun x a' w' => (x = .normal ∨ x = .ret) ∧ a'.defers = [] ∧ ∃ v, (results fn a'.tmps).run P w' = .ok v w' ∧ ((∃ v', (Ending.returned v) = .returned v') ∧ FrameMode.returning = .returning ∧ ∃ r', r.Le r' ∧ WRel w0 r' H' w')) ((({ tmps := cargs ++ Array.replicate (fn.ntmps - cargs.size) undef, defers := [] } : Act).put (some t7) .nilIface).put (some t3) .nilIface) w := by
       intro x s he hx hD hH
       refine wp_mono (wpIn_wide.1 (codeE_done (w0 := w0) (.inl rfl) (fun _ => rfl) hcall hyc rest r _ _ w x s he ⟨hA, hW, by rw [put_defers, put_defers]; trivial⟩)) ?_
       rintro e a' w' ⟨rfl, r', hle, hS'⟩
       refine ⟨by rcases hx with rfl | rfl <;> simp [Ex.ex], ?_, .tuple #[], by simp [results, c3], ⟨_, rfl⟩, rfl, r', hle, by rw [← hH]; exact hS'.W⟩
       have := hS'.D
       rw [hD] at this
       cases hq : a'.defers with
       | nil => rfl
       | cons d l => rw [hq] at this; exact this.elim
      split at h
      ·rename_i s he
       split at h
       ·rename_i hD; cases h; exact fin he (.inl rfl) hD rfl
       ·cases h
      ·rename_i s he
       split at h
       ·rename_i hD; cases h; exact fin he (.inr rfl) hD rfl
       ·cases h
      ·cases h
    ·cases h
   ·cases h
  ·cases h
 ·cases h
/-- The deferred calls, one by one. -/
def leaveE (P : Program) (call : CallF) (yc : YldF) (g L : Nat) : List Df → Heap → Nat → Option (Heap × Nat)
 | [], H, k => some (H, k)
 | .call f args caps :: l, H, k => match recE P call yc g L f (args ++ caps) H k with
  | some (H', k') => leaveE P call yc g L l H' k'
  | none => none
 | .mark b :: l, H, k => match H.get b with
  | some .none => leaveE P call yc g L l (H.set b .dead) k
  | _ => none
/-- A function. -/
def funE (P : Program) (call : CallF) (yc : YldF) (g L : Nat) (f : FuncId) (args : List EV) (H : Heap) (k : Nat) : Option (EV × Heap × Nat) :=
 match P.funcs[f]? with
 | some fn => match fn.body with
  | some c => bif Nat.ble args.length fn.ntmps && !(fn.name == "runtime.NumGoroutine") then
   match codeE P call yc false g fn.ntmps L c { T := argsT args 0 (Tr.mk 4), H := H, k := k, D := [] } with
   | some (.exit _, _) => none
   | some (_, s) => match leaveE P call yc g L s.D s.H s.k with
    | some (H', k') => match resE P { s with H := H' } fn.results.toList with
     | some cs => some (oneE cs, H', k')
     | none => none
    | none => none
   | none => none
   else none
  | none => none
 | none => none
theorem leaveE_done (hcall : CallOk P w0 call) (hyc : YldOk P w0 yc) {fn : Func} {R : Ending → World → Prop} : ∀ (D : List Df) (ds : List Deferred) (r : Env) (H : Heap) (k : Nat) (w : World) (tmps : Array Value) (T : Tr EV) (H' : Heap) (k' : Nat), leaveE P call yc g L D H k = some (H', k') → WRel w0 r H w → DRel r D ds → ARel n r T { tmps := tmps, defers := [] } →
  (∀ r' w', r.Le r' → WRel w0 r' H' w' → ARel n r' T { tmps := tmps, defers := [] } → ∃ v, (results fn tmps).run P w' = .ok v w' ∧ R (.returned v) w') → LeavesInM Fence.wide 0 P fn tmps R ds .returning w
 | [], [], r, H, k, w, tmps, T, H', k', h, hW, hD, hA, fin => by
  cases h
  exact fin r w (Env.Le.refl r) hW hA
 | .mark b :: D, x :: ds, r, H, k, w, tmps, T, H', k', h, hW, hD, hA, fin => by
  simp only [leaveE] at h
  split at h
  ·rename_i h1
   obtain ⟨⟨bb, e1, rfl⟩, hD'⟩ := hD
   obtain ⟨b3, o3, j1, j2, j3, j4⟩ := hW.obj _ _ h1 (by simp)
   obtain rfl : b3 = bb := Option.some.inj (j1.symm.trans e1)
   cases j4
   refine ⟨by simp, .inl ⟨b3, _, rfl, run_takeDeferred j3, ?_⟩⟩
   refine leaveE_done hcall hyc D ds r _ k _ tmps T H' k' h ?_ hD' hA fin
   exact hW.turn h1 (by simp) j1 (.inl rfl) (World.putObj_size ..) (World.putObj_heap_same (Array.getElem?_eq_some_iff.1 j3).1) (fun c hc => World.putObj_heap_other hc) rfl rfl rfl
  ·cases h
 | .call f args caps :: D, x :: ds, r, H, k, w, tmps, T, H', k', h, hW, hD, hA, fin => by
  simp only [leaveE] at h
  split at h
  ·rename_i H1 k1 h1
   obtain ⟨⟨vs, cs, e1, e2, rfl⟩, hD'⟩ := hD
   obtain ⟨⟨fn', hf', hb', hn'⟩, hc⟩ := recE_done hcall hyc h1 hW (cargs := vs.toArray ++ cs.toArray) (by simpa using renL_append e1 e2)
   refine ⟨by simp, .inr ⟨fun h => by simp [Fence.wide] at h, .func f, cs.toArray, f, vs.toArray ++ cs.toArray, rfl, ?_, fun g hg => trivial, ?_⟩⟩
   ·simp only [invoke, callFunc, Sem.run_bind, run_program, Result.andThen_ok, hf', hn', Bool.false_eq_true, if_false, hb', Sem.run_pure]
   ·refine CallsDIn.mono hc ?_
    rintro en u' w' ⟨⟨v, rfl⟩, rfl, r', hle, hW'⟩
    exact leaveE_done hcall hyc D ds r' H1 k1 w' tmps T H' k' h hW' (hD'.mono hle) (hA.mono hle) fun r2 w2 hle2 => fin r2 w2 (hle.trans hle2)
  ·cases h
 | [], _ :: _, r, H, k, w, tmps, T, H', k', h, hW, hD, hA, fin => hD.elim
 | _ :: _, [], r, H, k, w, tmps, T, H', k', h, hW, hD, hA, fin => hD.elim
theorem funE_done (hcall : CallOk P w0 call) (hyc : YldOk P w0 yc) : CallOk P w0 (funE P call yc g L) := by
 intro f args H k v H' k' h r w cargs hW hargs
 unfold funE at h
 split at h
 ·rename_i fn hf
  split at h
  ·rename_i c hb
   cases hc : (Nat.ble args.length fn.ntmps && !(fn.name == "runtime.NumGoroutine")) with
   | false => rw [hc] at h; cases h
   | true =>
    rw [hc] at h
    simp only [cond_true] at h
    simp only [Bool.and_eq_true, Bool.not_eq_true'] at hc
    have c1 := Nat.le_of_ble_eq_true hc.1
    have hA := ARel.entry (fn := fn) hargs c1
    refine ⟨⟨fn, hf, by simp [hb], hc.2⟩, ?_⟩
    have fin : ∀ {x : Ex} {s : S}, codeE P call yc false g fn.ntmps L c { T := argsT args 0 (Tr.mk 4), H := H, k := k, D := [] } = some (x, s) → (x = .normal ∨ x = .ret) → (match leaveE P call yc g L s.D s.H s.k with
      | some (H', k') => match resE P { s with H := H' } fn.results.toList with
       | some cs => some (oneE cs, H', k')
       | none => none
      | none => none) = some (v, H', k') → Calls P f cargs w fun e w' => ∃ r' cv, e = .returned cv ∧ r.Le r' ∧ WRel w0 r' H' w' ∧ ren r' v = some cv := by
     intro x s he hx hl
     split at hl
     ·rename_i H2 k2 hlv
      split at hl
      ·rename_i cs hres
       cases hl
       refine (callsIn_wide (n := 0)).1 (callsIn_of_wp_marks hf hb trivial ?_)
       refine wpIn_mono (codeE_done (w0 := w0) (.inl rfl) (fun _ => rfl) hcall hyc c r _ _ w x s he ⟨hA, hW, trivial⟩) ?_
       rintro e a' w' ⟨rfl, r', hle, hS'⟩
       have : LeavesInM Fence.wide 0 P fn a'.tmps (fun e w' => ∃ r' cv, e = .returned cv ∧ r.Le r' ∧ WRel w0 r' H' w' ∧ ren r' (oneE cs) = some cv) a'.defers .returning w' := by
        refine leaveE_done (n := fn.ntmps) hcall hyc s.D a'.defers r' s.H s.k w' a'.tmps s.T H' k' hlv hS'.W hS'.D ⟨hS'.A.n, hS'.A.tmps⟩ fun r2 w2 hle2 hW2 hA2 => ?_
        obtain ⟨cv, k1, k2⟩ := oneE_run (P := P) (w0 := w0) (n := fn.ntmps) (r := r2) (s := { s with H := H', D := [] }) (a := { tmps := a'.tmps, defers := [] }) (w := w2) ⟨hA2, hW2, trivial⟩ (fn := fn) (cs := cs) (by
         rw [← hres]
         generalize fn.results.toList = l
         induction l with
         | nil => rfl
         | cons x l ih => cases x <;> simp only [resE, ih])
        exact ⟨cv, k1, r2, cv, rfl, hle.trans hle2, hW2, k2⟩
       rcases hx with rfl | rfl <;> exact this
      ·cases hl
     ·cases hl
    split at h
    ·cases h
    ·rename_i x s hno he
     refine fin he ?_ h
     cases x with
     | normal => exact .inl rfl
     | ret => exact .inr rfl
     | exit i => exact (hno i rfl).elim
    ·cases h
  ·cases h
 ·cases h
/-- The loop's variables, as yield lays them. -/
def setPs : List Tmp → List EV → Tr EV → Tr EV
 | t :: ts, c :: cs, T => setPs ts cs (T.set t c)
 | _, _, T => T
theorem setPs_rel : ∀ (ps : List Tmp) (args : List EV) (vs : List Value) (T : Tr EV) (tmps : Array Value), renL r args = some vs → (ps.all fun t => Nat.blt t n) = true → ARel n r T { tmps := tmps, defers := [] } →
  ARel n r (setPs ps args T) { tmps := (ps.zip vs).foldl (fun tmps (x : Tmp × Value) => tmps.setIfInBounds x.1 x.2) tmps, defers := [] }
 | [], _, _, T, tmps, _, _, h => h
 | t :: ts, [], vs, T, tmps, hr, _, h => by cases hr; exact h
 | t :: ts, c :: cs, vs, T, tmps, hr, hp, h => by
  obtain ⟨x, y, h1, h2, rfl⟩ := renL_cons.1 hr
  simp only [List.all_cons, Bool.and_eq_true, Nat.blt_eq] at hp
  exact setPs_rel ts cs y _ _ h2 hp.2 (ARel.put h hp.1 h1)
/-- A call of yield: a round of the loop. -/
def yieldE (P : Program) (call : CallF) (yc : YldF) (g L : Nat) : YldF := fun k args H kc => match H.get k with
 | some (.loop l) => match l.busy with
  | false => bif Nat.beq args.length l.ps.size && (l.ps.toList.all fun t => Nat.blt t l.n) then
   match codeE P call yc true g l.n L l.assign { T := setPs l.ps.toList args l.T, H := H, k := kc, D := [] } with
   | some (.normal, s1) => match s1.H.get k with
    | some (.loop l1) => match l1.busy with
     | false => match codeE P call yc true g l.n L l.body { s1 with H := s1.H.set k (.loop { l1 with busy := true }) } with
      | some (.normal, s2) => match s2.H.get k with
       | some (.loop l2) => some (s2.H.set k (.loop { l2 with busy := false }), s2.k)
       | _ => none
      | _ => none
     | true => none
    | _ => none
   | _ => none
   else none
  | true => none
 | _ => none
theorem yieldE_done (hcall : CallOk P w0 call) (hyc : YldOk P w0 yc) : YldOk P w0 (yieldE P call yc g L) := by
 intro k args H kc H' kc' h r w cargs b hW hargs hkb
 unfold yieldE at h
 split at h
 ·rename_i l hl
  split at h
  ·rename_i hb
   cases hc : (Nat.beq args.length l.ps.size && (l.ps.toList.all fun t => Nat.blt t l.n)) with
   | false => rw [hc] at h; cases h
   | true =>
    rw [hc] at h
    simp only [cond_true] at h
    simp only [Bool.and_eq_true] at hc
    obtain ⟨c1, c2⟩ := hc
    have c1 := Nat.eq_of_beq_eq_true c1
    split at h
    ·rename_i s1 h1
     split at h
     ·rename_i l1 hl1
      split at h
      ·rename_i hb1
       split at h
       ·rename_i s2 h2
        split at h
        ·rename_i l2 hl2
         cases h
         obtain ⟨b', o, j1, j2, j3, j4⟩ := hW.obj _ _ hl (by simp)
         obtain rfl : b' = b := Option.some.inj (j1.symm.trans hkb)
         cases j4 with
         | @loop _ xl hx =>
          have hsz : cargs.size = xl.params.size := by
           have := renL_len hargs
           rw [hx.ps, ← c1]; simpa using this
          refine ⟨_, _, _, _, run_yield (P := P) j3 hsz, roundIn_of_wpIn (n := 0) trivial ?_⟩
          rw [hx.as, hx.bo, hx.ps]
          have hA : ARel l.n r (setPs l.ps.toList args l.T) { tmps := (l.ps.zip cargs).foldl (fun tmps (x : Tmp × Value) => tmps.setIfInBounds x.1 x.2) xl.tmps, defers := [] } := by
           rw [← Array.foldl_toList, Array.toList_zip]
           exact setPs_rel _ _ _ _ _ hargs c2 ⟨hx.n, hx.tm⟩
          refine wpIn_mono (codeE_done (w0 := w0) (.inr ⟨b', rfl⟩) (fun h => by cases h) hcall hyc l.assign r _ _ w .normal s1 h1 ⟨hA, hW, trivial⟩) ?_
          rintro e a1 w1 ⟨rfl, r1, hle1, hS1⟩
          obtain ⟨b1, o1, k1, k2, k3, k4⟩ := hS1.W.obj _ _ hl1 (by simp)
          obtain rfl : b1 = b' := Option.some.inj (k1.symm.trans (hle1.b _ _ hkb))
          cases k4 with
          | @loop _ x1 hx1 =>
           have hst : x1.state = .ready := by rw [hx1.st, hb1]
           refine ⟨_, run_beginRound (P := P) k3 hst, ?_⟩
           have hW1 : WRel w0 r1 (s1.H.set k (.loop { l1 with busy := true })) (w1.putObj b1 (.loop { x1 with state := .busy })) :=
            hS1.W.turn hl1 (by simp) k1 (.inr (ObjRel.loop (l := { l1 with busy := true }) (x := { x1 with state := .busy }) ⟨rfl, hx1.pe, hx1.ps, hx1.as, hx1.bo, hx1.d, hx1.n, hx1.tm⟩)) (World.putObj_size ..) (World.putObj_heap_same (Array.getElem?_eq_some_iff.1 k3).1) (fun c hc => World.putObj_heap_other hc) rfl rfl rfl
           refine wpIn_mono (codeE_done (w0 := w0) (.inr ⟨b1, rfl⟩) (fun h => by cases h) hcall hyc l.body r1 _ a1 _ .normal s2 h2 ⟨hS1.A, hW1, hS1.D⟩) ?_
           rintro e a2 w2 ⟨rfl, r2, hle2, hS2⟩
           obtain ⟨b2, o2, m1, m2, m3, m4⟩ := hS2.W.obj _ _ hl2 (by simp)
           obtain rfl : b2 = b1 := Option.some.inj (m1.symm.trans (hle2.b _ _ k1))
           cases m4 with
           | @loop _ x2 hx2 =>
            refine ⟨_, _, run_endRound (P := P) none m3, r2, rfl, hle1.trans hle2, ?_⟩
            exact hS2.W.turn hl2 (by simp) m1 (.inr (ObjRel.loop (l := { l2 with busy := false }) (x := { x2 with state := .ready, pending := none }) ⟨rfl, rfl, hx2.ps, hx2.as, hx2.bo, hx2.d, hx2.n, hx2.tm⟩)) (World.putObj_size ..) (World.putObj_heap_same (Array.getElem?_eq_some_iff.1 m3).1) (fun c hc => World.putObj_heap_other hc) rfl rfl rfl
        ·cases h
       ·cases h
      ·cases h
     ·cases h
    ·cases h
  ·cases h
 ·cases h
end
end
end Go.Ev
