/- What is asked of the program beside its types. -/
import Derived.Test.YtdomhnkffghmlaaGreatDoorSXTy
import Derived.Test.YtdomhnkffghmlaaGreatDoorSAmSeq
import Derived.Test.YtdomhnkffghmlaaGreatDoorSAmSpec
import Derived.Test.YtdomhnkffghmlaaGreatDoorSAmEdge
import Derived.Test.YtdomhnkffghmlaaGreatDoorSXData
set_option linter.unusedVariables false
set_option linter.unusedSimpArgs false
set_option maxRecDepth 100000
set_option maxHeartbeats 4000000
namespace Go.Proofs.YtdomhnkffghmlaaGreatDoor
open Go.Am
theorem mixed : Tryz.prog.follows .mixedOrders = true := by kernel_rfl
theorem teq62 : eqTy Tryz.prog 62 = some [1, 1, 0] := by kernel_rfl
end Go.Proofs.YtdomhnkffghmlaaGreatDoor
namespace Go.Am
variable {P : Program} {Q : Exit → St → Prop} {st : St}
theorem undef_def : undef = .tuple #[] := rfl
/-- A value that says as much as another. -/
def WkV (v w : V) : Prop := v = w ∨ (isLoc v = false ∧ Wk v w)
theorem WkV.refl (v : V) : WkV v v := .inl rfl
theorem WkV.same {v : V} : WkV v v = True := eq_true (.inl rfl)
def WkB (x y : Option (List V × TypeId)) : Prop := x = y ∨ ∃ cs cs' ty, x = some (cs, ty) ∧ y = some (cs', ty) ∧ WkL cs cs'
theorem WkB.refl (x : Option (List V × TypeId)) : WkB x x := .inl rfl
theorem WkB.none {x y : Option (List V × TypeId)} (h : WkB x y) : x = none ↔ y = none := by
 rcases h with e | ⟨cs, cs', ty, e1, e2, _⟩
 ·rw [e]
 ·rw [e1, e2]; simp
theorem In.wkEs {e : Entry} {a : Act} {w : World} (h : In e st a w) (E' : Nat → V) (hE : ∀ t, WkV (st.E t) (E' t)) : In e { st with E := E' } a w := by
 obtain ⟨G, be, hx, hr⟩ := h
 refine ⟨G, be, hx, hr.hr, hr.n, hr.df, fun t' => ?_, hr.loc, hr.inj⟩
 show LRep G be st.loc (E' t') _
 rcases hE t' with e | ⟨h1, hw⟩
 ·rw [← e]; exact hr.tmps t'
 ·exact LRep.of_rep (hw _ _ ((hr.tmps t').rep (isLoc_ne h1)))
theorem In.wkBs {e : Entry} {a : Act} {w : World} (h : In e st a w) (L' : Nat → Option (List V × TypeId)) (hB : ∀ t, WkB (st.loc t) (L' t)) : In e { st with loc := L' } a w := by
 obtain ⟨G, be, hx, hr⟩ := h
 have hne : ∀ t0, L' t0 ≠ none → st.loc t0 ≠ none := fun t0 h e => h ((hB t0).none.1 e)
 have hne' : ∀ t0, st.loc t0 ≠ none → L' t0 ≠ none := fun t0 h e => h ((hB t0).none.2 e)
 refine ⟨G, be, hx, hr.hr, hr.n, hr.df, fun t' => ?_, fun t' cs1 ty1 ht => ?_, fun t1 t2 b k1 k2 => hr.inj t1 t2 b (hne _ k1) (hne _ k2)⟩
 ·have := hr.tmps t'
  show LRep G be _ (st.E t') _
  cases hv : st.E t' <;> rw [hv] at this <;> first | exact this | skip
  exact ⟨hne' _ this.1, this.2⟩
 ·change L' t' = _ at ht
  rcases hB t' with e | ⟨cs, cs', ty, e1, e2, hw⟩
  ·exact hr.loc t' cs1 ty1 (e.trans ht)
  ·rw [e2] at ht
   cases ht
   obtain ⟨b, k1, k2, ⟨ccs, k3, k4, k5⟩, k6⟩ := hr.loc t' cs _ e1
   exact ⟨b, k1, k2, ⟨ccs, k3, hw.rep k4, k5⟩, k6⟩
theorem foot_wk {G : Ghost} {s s' : Heap} (hb : ∀ b, WkB (s.box b) (s'.box b)) (ho : s'.own = s.own) {b : Nat} : foot G s' b ↔ foot G s b := by
 unfold foot
 rw [ho]
 have := (hb b).none
 constructor
 ·rintro (h | h)
  ·exact .inl fun e => h (this.1 e)
  ·exact .inr h
 ·rintro (h | h)
  ·exact .inl fun e => h (this.2 e)
  ·exact .inr h
theorem HRel.wkHs {G : Ghost} {s s' : Heap} {w : World} (h : HRel G s w) (hb : ∀ b, WkB (s.box b) (s'.box b)) (ho : s'.own = s.own) : HRel G s' w where
 frz := h.frz
 box := fun b cs1 ty1 h1 => by
  rcases hb b with e | ⟨cs, cs', ty, e1, e2, hw⟩
  ·exact h.box b cs1 ty1 (e.trans h1)
  ·rw [e2] at h1
   cases h1
   obtain ⟨ccs, k1, k2, k3⟩ := h.box b cs _ e1
   exact ⟨ccs, k1, hw.rep k2, k3⟩
 own := by rw [ho]; exact h.own
 sep := by rw [ho]; exact h.sep
 nobox := fun g x v b k1 k2 k3 => by
  rw [ho] at k1
  exact (hb b).none.1 (h.nobox g x v b k1 k2 k3)
 fin := by rw [ho]; exact h.fin
 ob := h.ob
 tab := h.tab
 siz := h.siz
theorem In.wkHs {e : Entry} {a : Act} {w : World} (h : In e st a w) (s' : Heap) (hb : ∀ b, WkB (st.s.box b) (s'.box b)) (ho : s'.own = st.s.own) : In e { st with s := s' } a w := by
 obtain ⟨G, be, hx, hr⟩ := h
 have hf : ∀ b', foot G s' b' → foot G st.s b' := fun b' => (foot_wk hb ho).1
 refine ⟨G, be, { hx with foot := fun b' hb' => hx.foot b' (hf b' hb'), keys := fun g hg => hx.keys g (by rw [← ho]; exact hg) }, hr.hr.wkHs hb ho, hr.n, hr.df, hr.tmps, fun t cs1 ty1 ht => ?_, hr.inj⟩
 obtain ⟨b', k1, k2, k3, k4, k5⟩ := hr.loc t cs1 ty1 ht
 exact ⟨b', k1, k2, k3, k4, fun hh => k5 (hf b' hh)⟩
/-- A heap says as much as another. -/
structure Heap.leW (s s' : Heap) : Prop where
 box : ∀ b, WkB (s.box b) (s'.box b) ∨ s'.box b = none
 own : ∀ g, s'.own g = s.own g ∨ s'.own g = none
theorem Heap.le.W {s s' : Heap} (h : s.le s') : s.leW s' := ⟨fun b => (h.box b).imp (fun e => .inl e.symm) id, h.own⟩
theorem In.leW {e : Entry} {a : Act} {w : World} (h : In e st a w) {s' : Heap} (hs : st.s.leW s') : In e { st with s := s' } a w := by
 classical
 have h1 := h.wkHs { box := fun b => if WkB (st.s.box b) (s'.box b) then s'.box b else st.s.box b, own := st.s.own } (fun b => by
  show WkB _ (if _ then _ else _)
  split
  ·assumption
  ·exact .inl rfl) rfl
 refine h1.weaken ⟨fun _ => .inl rfl, fun _ => .inl rfl, fun b => ?_, hs.own, rfl, rfl, Ghost.Le.refl _, rfl⟩
 show s'.box b = (if _ then _ else _) ∨ _
 split
 ·exact .inl rfl
 ·rename_i hn
  exact .inr ((hs.box b).resolve_left hn)
theorem St.to.leW {s' : Heap} (hs : st.s.leW s') : st.to { st with s := s' } := fun _ _ _ hin => hin.leW hs
theorem AWp.leW {c : Code} {s' : Heap} (hs : st.s.leW s') (h : AWp P c Q { st with s := s' }) : AWp P c Q st := h.to (St.to.leW hs)
def leEW : List (Nat × V) → (Nat → V) → Prop
 | [], _ => True
 | (k, v) :: r, g => WkV (g k) v ∧ leEW r g
def leBW : List (Nat × (List V × TypeId)) → (Nat → Option (List V × TypeId)) → Prop
 | [], _ => True
 | (k, x) :: r, g => WkB (g k) (some x) ∧ leBW r g
theorem WkB.same {x : Option (List V × TypeId)} : WkB x x = True := eq_true (.inl rfl)
theorem env_leW {g : Nat → V} : ∀ {L : List (Nat × V)}, leEW L g → ∀ t, WkV (g t) (env L t) ∨ env L t = .any
 | [], _, t => .inr rfl
 | (k, v) :: r, ⟨h1, h2⟩, t => by
  by_cases e : t = k
  ·subst e; exact .inl (by simp only [env, upd_same]; exact h1)
  ·simp only [env, upd_other _ _ _ _ e]; exact env_leW h2 t
theorem locs_leW {g : Nat → Option (List V × TypeId)} : ∀ {B : List (Nat × (List V × TypeId))}, leBW B g → ∀ t, WkB (g t) (locs B t) ∨ locs B t = none
 | [], _, t => .inr rfl
 | (k, v) :: r, ⟨h1, h2⟩, t => by
  by_cases e : t = k
  ·subst e; exact .inl (by simp only [locs, upd_same]; exact h1)
  ·simp only [locs, upd_other _ _ _ _ e]; exact locs_leW h2 t
theorem to_tst {pp : Value → Heap → Prop} {L : List (Nat × V)} {B : List (Nat × (List V × TypeId))} {s : Heap} {n : Nat} (h1 : leEW L st.E) (h2 : okL B L) (h3 : leBW B st.loc) (h4 : st.s.leW s) (h5 : n = st.n) (h6 : st.ds = []) (h7 : st.pp = pp) : st.to { E := env L, loc := locs B, s := s, n := n, pp := pp } := fun e a w hin => by
 classical
 have i1 := hin.wkEs (fun t => if WkV (st.E t) (env L t) then env L t else st.E t) (fun t => by
  show WkV _ (if _ then _ else _)
  split
  ·assumption
  ·exact .inl rfl)
 have i2 := i1.wkBs (fun t => if WkB (st.loc t) (locs B t) then locs B t else st.loc t) (fun t => by
  show WkB _ (if _ then _ else _)
  split
  ·assumption
  ·exact .inl rfl)
 have i3 := i2.leW h4
 refine i3.weaken ⟨fun t => ?_, fun t => ?_, fun b => .inl rfl, fun g => .inl rfl, h5, h6.symm, Ghost.none_le _, h7.symm⟩
 ·show env L t = (if _ then _ else _) ∨ _
  split
  ·exact .inl rfl
  ·rename_i hn; exact .inr ((env_leW h1 t).resolve_left hn)
 ·show locs B t = (if _ then _ else _) ∨ _
  split
  ·exact .inl rfl
  ·rename_i hn
   have e := (locs_leW h3 t).resolve_left hn
   exact .inr ⟨e, fun t' off h => okL_env h2 t' t off h e⟩
/-- The end of a way that leads to a family without keys. -/
def Ends0 {X α : Type} (k : X → Option α) (r : α) (T : X → St) (st' : St) : Prop := ∃ q, k q = some r ∧ st'.to (T q)
theorem jn {X α : Type} {x y : Code} {b : (X → Option α) → Option α} {k : X → Option α} {r : α} (h : join b k = some r) (T : X → St)
  (hx : ∀ k' : X → Option α, b k' = some r → AWp P x (thenQ (Ends0 k' r T) Q) st)
  (hy : ∀ q, k q = some r → AWp P y Q (T q)) : AWp P (.seq x y) Q st :=
 AWp.seq ((hx k h).mono fun e st' h => by
  cases e <;> first | exact h | skip
  obtain ⟨q, hq, hle⟩ := h
  exact (hy q hq).to hle)
theorem lp {X α : Type} {c : Code} {b : (X → Option α) → X → Option α} {n : Nat} {q0 : X} {r : α} (h : loopC b n q0 = some r) (T : X → St)
  (h0 : st.to (T q0)) (round : ∀ (k : X → Option α) q, b k q = some r → AWp P c (thenQ (Ends0 k r T) Q) (T q)) : AWp P (.loop c) Q st := by
 refine AWp.loop (fun m st => ∃ q, loopC b m q = some r ∧ st.to (T q)) n ⟨q0, h, h0⟩ ?_
 rintro m st1 ⟨q, hq, hle⟩
 cases m with
 | zero => cases hq
 | succ m =>
  refine (AWp.to hle (round (loopC b m) q hq)).mono fun e st' h => ?_
  cases e <;> first | exact h | skip
  obtain ⟨q', hq', hle'⟩ := h
  exact ⟨m, Nat.lt_succ_self m, q', hq', hle'⟩
/-- A condition known ahead of a region. -/
theorem wy {α : Type} {b : Bool} {A B : Option α} {r : α} {G : Prop} (h : way b A B = some r) (h1 : b = true → A = some r → G) (h2 : b = false → B = some r → G) : G := by
 cases b
 ·exact h2 rfl (way_f rfl h)
 ·exact h1 rfl (way_t rfl h)
theorem ac {f : FuncId} {fn : Func} {c : Code} {args : List V} {s : Heap} {R : V → Heap → Prop} {n : Nat} (hf : P.funcs[f]? = some fn) (hn : fn.ntmps = n) (h : AWp P c (fun e st => ∃ st', st.to st' ∧ retQ P fn R e st') { E := entryE args, loc := fun _ => none, s := s, n := n }) (hb : fn.body = some c := by rfl) (hm : (fn.name == "runtime.NumGoroutine") = false := by decide) (hl : Nat.ble args.length n = true := by rfl) : ACalls P f args s R :=
 acalls_of hf hb hm (by rw [hn]; exact Nat.le_of_ble_eq_true hl) (by rw [hn]; exact AWp.post h)
theorem resV_heap {s : Heap} : ∀ l : List ResultVar, resV P { st with s := s } l = resV P st l := fun l => by
 induction l with
 | nil => rfl
 | cons x l ih => cases x <;> simp only [resV, ih] <;> rfl
theorem exq1 {n : St → Prop} {Q : Exit → St → Prop} {st : St} : thenQ n Q .normal st = n st := rfl
theorem exq2 {n : St → Prop} {Q : Exit → St → Prop} {st : St} {i : Nat} : thenQ n Q (.exit i) st = Q (.exit i) st := rfl
theorem exq3 {Q : Exit → St → Prop} {st : St} {i j : Nat} : blockQ i Q (.exit j) st = if j = i then Q .normal st else Q (.exit j) st := rfl
theorem exq4 {Q : Exit → St → Prop} {st : St} {i : Nat} : blockQ i Q .normal st = Q .normal st := rfl
set_option linter.defProp false
def exq := And.intro @exq1 <| And.intro @exq2 <| And.intro @exq3 <| And.intro @exq4 <| And.intro @k28 <| And.intro @k34 <| True.intro
end Go.Am
namespace Go.Proofs.YtdomhnkffghmlaaGreatDoor.Ex
open Go.Am Go.Ex Go.Proofs.YtdomhnkffghmlaaGreatDoor
theorem eta_XExpr (t : XExpr) : XExpr.mk t.op t.not t.table t.name t.n t.v_ t.args t.sub = t := by cases t; rfl
theorem eta_XSort (t : XSort) : XSort.mk t.expr t.desc_ = t := by cases t; rfl
theorem eta_XView (t : XView) : XView.mk t.name t.cols t.select = t := by cases t; rfl
set_option linter.defProp false
/-- All that a walk rewrites by, under one name. -/
def xa := And.intro am <| And.intro undef_def <| And.intro @true_and <| And.intro @and_true <| And.intro @decide_true <| And.intro @Bool.not_true <| And.intro @Bool.not_false <| And.intro @mapDrop <| And.intro @mapTake <| And.intro @setBox_same <| And.intro @setBox_ne <| And.intro @owns_box <| And.intro @ne_eq.{1} <| And.intro not_false_eq_true <| And.intro ty1 <| And.intro ty2 <| And.intro ty3 <| And.intro ty4 <| And.intro ty5 <| And.intro ty6 <| And.intro ty7 <| And.intro ty8 <| And.intro ty9 <| And.intro ty10 <| And.intro ty11 <| And.intro ty12 <| And.intro ty13 <| And.intro ty14 <| And.intro ty15 <| And.intro ty16 <| And.intro ty17 <| And.intro ty18 <| And.intro ty19 <| And.intro ty20 <| And.intro ty21 <| And.intro ty22 <| And.intro ty23 <| And.intro ty24 <| And.intro ty25 <| And.intro ty26 <| And.intro ty27 <| And.intro ty28 <| And.intro ty29 <| And.intro ty30 <| And.intro ty31 <| And.intro ty32 <| And.intro ty33 <| And.intro ty34 <| And.intro ty35 <| And.intro ty36 <| And.intro ty37 <| And.intro ty38 <| And.intro ty39 <| And.intro ty40 <| And.intro ty41 <| And.intro ty42 <| And.intro ty43 <| And.intro ty44 <| And.intro ty45 <| And.intro ty46 <| And.intro ty48 <| And.intro ty50 <| And.intro ty51 <| And.intro ty52 <| And.intro ty53 <| And.intro ty54 <| And.intro ty55 <| And.intro ty56 <| And.intro ty57 <| And.intro ty58 <| And.intro ty59 <| And.intro ty60 <| And.intro ty61 <| And.intro ty62 <| And.intro ty63 <| And.intro ty64 <| And.intro ty65 <| And.intro ty67 <| And.intro ty68 <| And.intro ty69 <| And.intro ty70 <| And.intro ty71 <| And.intro ty72 <| And.intro ty73 <| And.intro ty74 <| And.intro ty75 <| And.intro ty76 <| And.intro ty77 <| And.intro ty79 <| And.intro ty80 <| And.intro ty81 <| And.intro ty83 <| And.intro ty84 <| And.intro ty85 <| And.intro ty86 <| And.intro ty87 <| And.intro ty88 <| And.intro ty89 <| And.intro ty90 <| And.intro ty91 <| And.intro ty92 <| And.intro ty93 <| And.intro ty94 <| And.intro ty95 <| And.intro ty98 <| And.intro ty99 <| And.intro ty100 <| And.intro ty101 <| And.intro ty102 <| And.intro ty103 <| And.intro ty105 <| And.intro ty106 <| And.intro ty107 <| And.intro ty108 <| And.intro ty109 <| And.intro ty110 <| And.intro ty111 <| And.intro ty112 <| And.intro ty113 <| And.intro ty114 <| And.intro ty115 <| And.intro ty116 <| And.intro ty117 <| And.intro ty118 <| And.intro ty119 <| And.intro ty120 <| And.intro ty121 <| And.intro ty122 <| And.intro ty123 <| And.intro ty124 <| And.intro ty125 <| And.intro ty126 <| And.intro ty127 <| And.intro ty128 <| And.intro ty129 <| And.intro ty130 <| And.intro ty131 <| And.intro ty132 <| And.intro ty133 <| And.intro ty134 <| And.intro ty135 <| And.intro ty136 <| And.intro ty137 <| And.intro ty138 <| And.intro ty139 <| And.intro ty140 <| And.intro ty141 <| And.intro ty142 <| And.intro ty143 <| And.intro ty144 <| And.intro ty145 <| And.intro ty147 <| And.intro ty148 <| And.intro ty149 <| And.intro ty150 <| And.intro ty151 <| And.intro ty152 <| And.intro ty153 <| And.intro ty154 <| And.intro ty155 <| And.intro ty156 <| And.intro ty157 <| And.intro ty158 <| And.intro ty159 <| And.intro ty160 <| And.intro ty161 <| And.intro ty162 <| And.intro ty163 <| And.intro ty164 <| And.intro ty165 <| And.intro ty166 <| And.intro ty167 <| And.intro ty168 <| And.intro ty169 <| And.intro ty170 <| And.intro ty171 <| And.intro ty172 <| And.intro ty173 <| And.intro ty174 <| And.intro ty175 <| And.intro ty176 <| And.intro ty177 <| And.intro ty178 <| And.intro ty179 <| And.intro ty180 <| And.intro ty181 <| And.intro ty182 <| And.intro ty183 <| And.intro ty184 <| And.intro ty185 <| And.intro ty186 <| And.intro ty187 <| And.intro ty188 <| And.intro ty189 <| And.intro ty190 <| And.intro ty192 <| And.intro ty193 <| And.intro ty194 <| And.intro ty195 <| And.intro ty196 <| And.intro ty197 <| And.intro ty198 <| And.intro ty199 <| And.intro ty200 <| And.intro ty201 <| And.intro ty202 <| And.intro ty203 <| And.intro ty204 <| And.intro ty205 <| And.intro ty206 <| And.intro ty207 <| And.intro ty208 <| And.intro ty209 <| And.intro ty210 <| And.intro ty211 <| And.intro ty213 <| And.intro ty214 <| And.intro ty215 <| And.intro ty217 <| And.intro ty218 <| And.intro ty222 <| And.intro ty223 <| And.intro ty224 <| And.intro ty225 <| And.intro ty226 <| And.intro ty227 <| And.intro ty228 <| And.intro ty230 <| And.intro ty231 <| And.intro ty232 <| And.intro ty233 <| And.intro ty235 <| And.intro ty236 <| And.intro ty237 <| And.intro ty238 <| And.intro ty239 <| And.intro ty240 <| And.intro ty241 <| And.intro ty243 <| And.intro ty244 <| And.intro ty245 <| And.intro ty246 <| And.intro ty247 <| And.intro ty248 <| And.intro ty249 <| And.intro ty250 <| And.intro ty251 <| And.intro ty252 <| And.intro ty253 <| And.intro ty254 <| And.intro ty255 <| And.intro ty256 <| And.intro ty257 <| And.intro ty258 <| And.intro ty259 <| And.intro ty260 <| And.intro ty261 <| And.intro ty262 <| And.intro ty263 <| And.intro ty264 <| And.intro ty266 <| And.intro ty267 <| And.intro ty268 <| And.intro ty269 <| And.intro ty270 <| And.intro ty271 <| And.intro ty272 <| And.intro ty273 <| And.intro ty274 <| And.intro ty275 <| And.intro ty276 <| And.intro ty277 <| And.intro ty278 <| And.intro ty279 <| And.intro ty280 <| And.intro ty281 <| And.intro ty282 <| And.intro ty283 <| And.intro ty284 <| And.intro ty285 <| And.intro ty286 <| And.intro ty287 <| And.intro ty288 <| And.intro ty289 <| And.intro ty290 <| And.intro ty291 <| And.intro ty292 <| And.intro ty293 <| And.intro ty294 <| And.intro ty295 <| And.intro ty296 <| And.intro ty297 <| And.intro ty298 <| And.intro ty300 <| And.intro ty301 <| And.intro ty302 <| And.intro ty304 <| And.intro ty305 <| And.intro ty306 <| And.intro ty307 <| And.intro ty308 <| And.intro ty309 <| And.intro ty310 <| And.intro ty311 <| And.intro ty312 <| And.intro ty313 <| And.intro ty314 <| And.intro ty315 <| And.intro ty316 <| And.intro ty317 <| And.intro ty318 <| And.intro ty319 <| And.intro ty320 <| And.intro ty321 <| And.intro ty322 <| And.intro ty323 <| And.intro ty324 <| And.intro ty325 <| And.intro ty326 <| And.intro ty327 <| And.intro ty328 <| And.intro ty329 <| And.intro ty330 <| And.intro ty331 <| And.intro ty332 <| And.intro ty333 <| And.intro ty334 <| And.intro ty335 <| And.intro ty336 <| And.intro ty337 <| And.intro ty338 <| And.intro ty339 <| And.intro ty340 <| And.intro ty342 <| And.intro ty343 <| And.intro ty344 <| And.intro ty345 <| And.intro ty346 <| And.intro ty347 <| And.intro ty348 <| And.intro ty349 <| And.intro ty351 <| And.intro ty352 <| And.intro ty353 <| And.intro ty354 <| And.intro ty355 <| And.intro ty356 <| And.intro ty357 <| And.intro ty358 <| And.intro ty359 <| And.intro ty360 <| And.intro ty361 <| And.intro ty362 <| And.intro ty363 <| And.intro ty364 <| And.intro ty365 <| And.intro ty366 <| And.intro ty367 <| And.intro ty368 <| And.intro ty369 <| And.intro ty370 <| And.intro ty371 <| And.intro ty372 <| And.intro ty373 <| And.intro ty375 <| And.intro ty376 <| And.intro ty377 <| And.intro ty379 <| And.intro ty380 <| And.intro ty381 <| And.intro ty382 <| And.intro ty383 <| And.intro ty384 <| And.intro ty385 <| And.intro ty386 <| And.intro ty387 <| And.intro ty389 <| And.intro ty390 <| And.intro ty391 <| And.intro ty392 <| And.intro ty393 <| And.intro ty394 <| And.intro ty395 <| And.intro ty396 <| And.intro ty397 <| And.intro ty399 <| And.intro ty401 <| And.intro ty402 <| And.intro ty403 <| And.intro ty404 <| And.intro ty405 <| And.intro ty406 <| And.intro ty407 <| And.intro ty408 <| And.intro ty410 <| And.intro ty412 <| And.intro ty413 <| And.intro ty414 <| And.intro ty415 <| And.intro ty416 <| And.intro ty417 <| And.intro ty418 <| And.intro ty419 <| And.intro ty420 <| And.intro ty422 <| And.intro ty423 <| And.intro ty425 <| And.intro ty426 <| And.intro ty427 <| And.intro ty428 <| And.intro ty429 <| And.intro ty430 <| And.intro ty431 <| And.intro ty432 <| And.intro ty433 <| And.intro ty434 <| And.intro ty435 <| And.intro ty436 <| And.intro ty438 <| And.intro ty439 <| And.intro ty440 <| And.intro ty441 <| And.intro ty443 <| And.intro ty444 <| And.intro ty445 <| And.intro ty446 <| And.intro ty447 <| And.intro ty448 <| And.intro ty449 <| And.intro ty450 <| And.intro ty451 <| And.intro ty454 <| And.intro ty455 <| And.intro ty456 <| And.intro ty457 <| And.intro ty459 <| And.intro ty461 <| And.intro ty463 <| And.intro ty464 <| And.intro ty465 <| And.intro ty466 <| And.intro ty467 <| And.intro ty468 <| And.intro ty469 <| And.intro ty471 <| And.intro ty472 <| And.intro ty473 <| And.intro ty475 <| And.intro ty476 <| And.intro ty477 <| And.intro ty478 <| And.intro ty479 <| And.intro ty480 <| And.intro ty481 <| And.intro ty482 <| And.intro ty483 <| And.intro ty484 <| And.intro ty485 <| And.intro ty488 <| And.intro ty489 <| And.intro ty490 <| And.intro ty491 <| And.intro ty493 <| And.intro ty494 <| And.intro ty495 <| And.intro ty496 <| And.intro ty497 <| And.intro ty498 <| And.intro ty502 <| And.intro ty504 <| And.intro ty505 <| And.intro ty506 <| And.intro ty507 <| And.intro ty508 <| And.intro ty509 <| And.intro ty510 <| And.intro ty511 <| And.intro ty512 <| And.intro ty513 <| And.intro ty515 <| And.intro ty516 <| And.intro ty517 <| And.intro ty518 <| And.intro ty520 <| And.intro ty521 <| And.intro ty522 <| And.intro ty523 <| And.intro ty524 <| And.intro ty525 <| And.intro ty526 <| And.intro ty527 <| And.intro ty528 <| And.intro XKey.vs <| And.intro XIndex.vs <| And.intro XValue.vs <| And.intro XSelect.vs <| And.intro XExpr.vs <| And.intro XCte.vs <| And.intro XPart.vs <| And.intro XSort.vs <| And.intro XItem.vs <| And.intro XSource.vs <| And.intro XColDef.vs <| And.intro XTable.vs <| And.intro XView.vs <| And.intro XSchema.vs <| True.intro
def xm := And.intro xa <| And.intro @List.all_append.{0} <| And.intro @List.length_append.{0} <| And.intro @List.length_set.{0} <| And.intro @List.length_cons.{0} <| And.intro @List.length_nil.{0} <| And.intro @List.append_eq.{0} <| True.intro
def xs := And.intro @mapAppend <| And.intro @XKey.snoc <| And.intro @XKey.snoc' <| And.intro @XKey.eta <| And.intro @XIndex.snoc <| And.intro @XIndex.snoc' <| And.intro @XIndex.eta <| And.intro @XValue.snoc <| And.intro @XValue.snoc' <| And.intro @XValue.eta <| And.intro @XSelect.snoc <| And.intro @XSelect.snoc' <| And.intro @XSelect.eta <| And.intro @XExpr.snoc <| And.intro @XExpr.snoc' <| And.intro @XExpr.eta <| And.intro @XCte.snoc <| And.intro @XCte.snoc' <| And.intro @XCte.eta <| And.intro @XPart.snoc <| And.intro @XPart.snoc' <| And.intro @XPart.eta <| And.intro @XSort.snoc <| And.intro @XSort.snoc' <| And.intro @XSort.eta <| And.intro @XItem.snoc <| And.intro @XItem.snoc' <| And.intro @XItem.eta <| And.intro @XSource.snoc <| And.intro @XSource.snoc' <| And.intro @XSource.eta <| And.intro @XColDef.snoc <| And.intro @XColDef.snoc' <| And.intro @XColDef.eta <| And.intro @XTable.snoc <| And.intro @XTable.snoc' <| And.intro @XTable.eta <| And.intro @XView.snoc <| And.intro @XView.snoc' <| And.intro @XView.eta <| And.intro @XSchema.snoc <| And.intro @XSchema.snoc' <| And.intro @XSchema.eta <| And.intro @eta_XExpr <| And.intro @eta_XSort <| And.intro @eta_XView <| And.intro @snocI <| And.intro @snocS <| And.intro @snocB <| And.intro @snocL <| And.intro @List.set_cons_zero.{0} <| And.intro @List.set_cons_succ.{0} <| True.intro
def xe := And.intro @XKey.v_eq <| And.intro @XIndex.v_eq <| And.intro @XValue.v_eq <| And.intro @XSelect.v_eq <| And.intro @XExpr.v_eq <| And.intro @XCte.v_eq <| And.intro @XPart.v_eq <| And.intro @XSort.v_eq <| And.intro @XItem.v_eq <| And.intro @XSource.v_eq <| And.intro @XColDef.v_eq <| And.intro @XTable.v_eq <| And.intro @XView.v_eq <| And.intro @XSchema.v_eq <| True.intro
theorem wkA {a b : V} (h : Wk a b := by (repeat' first | with_reducible exact Wk.refl _ | with_reducible exact WkL.refl _ | exact Wk.nil _ | exact Wk.own _ _ _ | exact Wk.zcap _ | exact True.intro | refine Wk.agg ?_ | refine Wk.tuple ?_ | refine Wk.slice ?_ | (simp only [xe, List.map_append, List.map_cons, List.map_nil, List.nil_append, List.cons_append]) | refine And.intro ?_ ?_)) : Wk a b := h
theorem wlA {a b : List V} (h : WkL a b := by (repeat' first | with_reducible exact Wk.refl _ | with_reducible exact WkL.refl _ | exact Wk.nil _ | exact Wk.own _ _ _ | exact Wk.zcap _ | exact True.intro | refine Wk.agg ?_ | refine Wk.tuple ?_ | refine Wk.slice ?_ | (simp only [xe, List.map_append, List.map_cons, List.map_nil, List.nil_append, List.cons_append]) | refine And.intro ?_ ?_)) : WkL a b := h
theorem leA {a b : Heap} (h : ∀ k, WkB (a.box k) (b.box k) ∨ b.box k = none := by exact fun k => by simp only [Heap.setBox, Heap.setOwn, owns_box, upd, WkB.same, true_or] <;> (repeat' split) <;> first | with_reducible exact .inl (WkB.refl _) | trivial | (exfalso; omega) | (refine .inr ?_; rw [‹k = _›]; assumption) | (refine .inl ?_; simp only [xe]; with_reducible exact WkB.refl _) | exact .inl (.inr ⟨_, _, _, rfl, rfl, wlA⟩)) (o : ∀ g, b.own g = a.own g ∨ b.own g = none := by exact fun _ => .inl (by first | (simp only [setBox_own]; done) | (simp only [setBox_own]; rfl) | rfl)) : a.leW b := ⟨h, o⟩
theorem goG {P : Program} {f : FuncId} {args args' : List V} {s : Heap} {v : V} {PP : Value → Heap → Prop} {R : V → Heap → Prop} (c : Gives P f args' v) (k : R v s) (hw : WkL args args' := by (repeat' first | with_reducible exact Wk.refl _ | with_reducible exact WkL.refl _ | exact Wk.nil _ | exact Wk.own _ _ _ | exact Wk.zcap _ | exact True.intro | refine Wk.agg ?_ | refine Wk.tuple ?_ | refine Wk.slice ?_ | (simp only [xe, List.map_append, List.map_cons, List.map_nil, List.nil_append, List.cons_append]) | refine And.intro ?_ ?_)) : ACallsP P f args s PP R := ACallsP.wk hw ((c s).go k)
theorem goG1 {P : Program} {f : FuncId} {a : Nat → List V} {args : List V} {s : Heap} {v : V} {X Y : List V × TypeId} {b : Nat} {PP : Value → Heap → Prop} {R : V → Heap → Prop} (c : Gives1 P f a v X Y) (k : R v (s.setBox b Y)) (hw : WkL args (a b) := by (repeat' first | with_reducible exact Wk.refl _ | with_reducible exact WkL.refl _ | exact Wk.nil _ | exact Wk.own _ _ _ | exact Wk.zcap _ | exact True.intro | refine Wk.agg ?_ | refine Wk.tuple ?_ | refine Wk.slice ?_ | (simp only [xe, List.map_append, List.map_cons, List.map_nil, List.nil_append, List.cons_append]) | refine And.intro ?_ ?_)) (hb : s.box b = some X := by first | exact setBox_same | exact (setBox_ne (by first | assumption | exact Ne.symm (by assumption))).trans setBox_same | rfl | exact (setBox_ne (by first | assumption | exact Ne.symm (by assumption))).trans ((setBox_ne (by first | assumption | exact Ne.symm (by assumption))).trans setBox_same) | (simp only [setBox_same, setBox_ne, ne_eq, not_false_eq_true]; done)) : ACallsP P f args s PP R := ACallsP.wk hw ((c s b hb).go k)
theorem goG2 {P : Program} {f : FuncId} {a : Nat → Nat → List V} {args : List V} {s : Heap} {v : V} {X Y X' Y' : List V × TypeId} {b b' : Nat} {PP : Value → Heap → Prop} {R : V → Heap → Prop} (c : Gives2 P f a v X X' Y Y') (k : R v ((s.setBox b Y).setBox b' Y')) (hw : WkL args (a b b') := by (repeat' first | with_reducible exact Wk.refl _ | with_reducible exact WkL.refl _ | exact Wk.nil _ | exact Wk.own _ _ _ | exact Wk.zcap _ | exact True.intro | refine Wk.agg ?_ | refine Wk.tuple ?_ | refine Wk.slice ?_ | (simp only [xe, List.map_append, List.map_cons, List.map_nil, List.nil_append, List.cons_append]) | refine And.intro ?_ ?_)) (hn : b ≠ b' := by first | assumption | exact Ne.symm ‹_›) (hb : s.box b = some X := by first | exact setBox_same | exact (setBox_ne (by first | assumption | exact Ne.symm (by assumption))).trans setBox_same | rfl | exact (setBox_ne (by first | assumption | exact Ne.symm (by assumption))).trans ((setBox_ne (by first | assumption | exact Ne.symm (by assumption))).trans setBox_same) | (simp only [setBox_same, setBox_ne, ne_eq, not_false_eq_true]; done)) (hb' : s.box b' = some X' := by first | exact setBox_same | exact (setBox_ne (by first | assumption | exact Ne.symm (by assumption))).trans setBox_same | rfl | exact (setBox_ne (by first | assumption | exact Ne.symm (by assumption))).trans ((setBox_ne (by first | assumption | exact Ne.symm (by assumption))).trans setBox_same) | (simp only [setBox_same, setBox_ne, ne_eq, not_false_eq_true]; done)) : ACallsP P f args s PP R := ACallsP.wk hw ((c s b b' hn hb hb').go k)
section
variable {Q : Exit → St → Prop} {st st' : St} {id : Nat} {ops : Array Oper} {y : Code} {p q1 q2 q3 : Prop}
theorem rg (k : AWp Tryz.prog y Q st') (h : ∀ K : St → Prop, K st' → aops Tryz.prog ops ops.toList st K := by intro  K z; (try simp only [xm, Nat.reduceAdd, Nat.reduceLeDiff, seval, reduceCtorEq]); exact z) : AWp Tryz.prog (.seq (.region id ops false) y) Q st := AWp.reg fun K hK => h  K (hK _ k)
theorem rgD {α β : Type} {x : Option α} {kk : α → Option β} {r : β} {q : α → Prop} {T : α → St} (c : ∀ y, x = some y → q y) (h : call x kk = some r) (k : ∀ z, x = some z → kk z = some r → AWp Tryz.prog y Q (T z)) (hh : (∀ y, x = some y → q y) → call x kk = some r → ∀ K : St → Prop, (∀ z, x = some z → kk z = some r → K (T z)) → aops Tryz.prog ops ops.toList st K := by intro  c h K z; obtain ⟨y, hy, h⟩ := call_some h; (try simp only [xm, Nat.reduceAdd, Nat.reduceLeDiff, seval, reduceCtorEq]); (first | refine goG (c y hy) ?_ | refine goG1 (c y hy) ?_ | refine goG2 (c y hy) ?_); (try simp only [xm, Nat.reduceAdd, Nat.reduceLeDiff, seval, reduceCtorEq]); exact z y hy h) : AWp Tryz.prog (.seq (.region id ops false) y) Q st := AWp.reg fun K hK => hh  c h K fun z a b => hK _ (k z a b)
theorem rgCD {α β : Type} {x : Option α} {kk : α → Option β} {r : β} {q : α → Prop} {T : α → St} (c1 : q1) (c : ∀ y, x = some y → q y) (h : call x kk = some r) (k : ∀ z, x = some z → kk z = some r → AWp Tryz.prog y Q (T z)) (hh : q1 → (∀ y, x = some y → q y) → call x kk = some r → ∀ K : St → Prop, (∀ z, x = some z → kk z = some r → K (T z)) → aops Tryz.prog ops ops.toList st K := by intro c1 c h K z; obtain ⟨y, hy, h⟩ := call_some h; (try simp only [xm, Nat.reduceAdd, Nat.reduceLeDiff, seval, reduceCtorEq]); (first | refine goG (c1) ?_ | refine goG1 (c1) ?_ | refine goG2 (c1) ?_); (try simp only [xm, Nat.reduceAdd, Nat.reduceLeDiff, seval, reduceCtorEq]); (first | refine goG (c y hy) ?_ | refine goG1 (c y hy) ?_ | refine goG2 (c y hy) ?_); (try simp only [xm, Nat.reduceAdd, Nat.reduceLeDiff, seval, reduceCtorEq]); exact z y hy h) : AWp Tryz.prog (.seq (.region id ops false) y) Q st := AWp.reg fun K hK => hh c1 c h K fun z a b => hK _ (k z a b)
theorem rgF (f : p) (k : AWp Tryz.prog y Q st') (h : p → ∀ K : St → Prop, K st' → aops Tryz.prog ops ops.toList st K := by intro f  K z; (try simp only [f, xm, Nat.reduceAdd, Nat.reduceLeDiff, seval, reduceCtorEq]); exact z) : AWp Tryz.prog (.seq (.region id ops false) y) Q st := AWp.reg fun K hK => h f  K (hK _ k)
theorem rgFD {α β : Type} {x : Option α} {kk : α → Option β} {r : β} {q : α → Prop} {T : α → St} (f : p) (c : ∀ y, x = some y → q y) (h : call x kk = some r) (k : ∀ z, x = some z → kk z = some r → AWp Tryz.prog y Q (T z)) (hh : p → (∀ y, x = some y → q y) → call x kk = some r → ∀ K : St → Prop, (∀ z, x = some z → kk z = some r → K (T z)) → aops Tryz.prog ops ops.toList st K := by intro f  c h K z; obtain ⟨y, hy, h⟩ := call_some h; (try simp only [f, xm, Nat.reduceAdd, Nat.reduceLeDiff, seval, reduceCtorEq]); (first | refine goG (c y hy) ?_ | refine goG1 (c y hy) ?_ | refine goG2 (c y hy) ?_); (try simp only [f, xm, Nat.reduceAdd, Nat.reduceLeDiff, seval, reduceCtorEq]); exact z y hy h) : AWp Tryz.prog (.seq (.region id ops false) y) Q st := AWp.reg fun K hK => hh f  c h K fun z a b => hK _ (k z a b)
theorem r1 (k : Q .normal st') (h : ∀ K : St → Prop, K st' → aops Tryz.prog ops ops.toList st K := by intro  K z; (try simp only [xm, Nat.reduceAdd, Nat.reduceLeDiff, seval, reduceCtorEq]); exact z) : AWp Tryz.prog (.region id ops false) Q st := AWp.reg1 fun K hK => h  K (hK _ k)
theorem r1F (f : p) (k : Q .normal st') (h : p → ∀ K : St → Prop, K st' → aops Tryz.prog ops ops.toList st K := by intro f  K z; (try simp only [f, xm, Nat.reduceAdd, Nat.reduceLeDiff, seval, reduceCtorEq]); exact z) : AWp Tryz.prog (.region id ops false) Q st := AWp.reg1 fun K hK => h f  K (hK _ k)
theorem r1FC (f : p) (c1 : q1) (k : Q .normal st') (h : p → q1 → ∀ K : St → Prop, K st' → aops Tryz.prog ops ops.toList st K := by intro f c1 K z; (try simp only [f, xm, Nat.reduceAdd, Nat.reduceLeDiff, seval, reduceCtorEq]); (first | refine goG (c1) ?_ | refine goG1 (c1) ?_ | refine goG2 (c1) ?_); (try simp only [f, xm, Nat.reduceAdd, Nat.reduceLeDiff, seval, reduceCtorEq]); exact z) : AWp Tryz.prog (.region id ops false) Q st := AWp.reg1 fun K hK => h f c1 K (hK _ k)
theorem r1FCCD {α β : Type} {x : Option α} {kk : α → Option β} {r : β} {q : α → Prop} {T : α → St} (f : p) (c1 : q1) (c2 : q2) (c : ∀ y, x = some y → q y) (h : call x kk = some r) (k : ∀ z, x = some z → kk z = some r → Q .normal (T z)) (hh : p → q1 → q2 → (∀ y, x = some y → q y) → call x kk = some r → ∀ K : St → Prop, (∀ z, x = some z → kk z = some r → K (T z)) → aops Tryz.prog ops ops.toList st K := by intro f c1 c2 c h K z; obtain ⟨y, hy, h⟩ := call_some h; (try simp only [f, xm, Nat.reduceAdd, Nat.reduceLeDiff, seval, reduceCtorEq]); (first | refine goG (c1) ?_ | refine goG1 (c1) ?_ | refine goG2 (c1) ?_); (try simp only [f, xm, Nat.reduceAdd, Nat.reduceLeDiff, seval, reduceCtorEq]); (first | refine goG (c2) ?_ | refine goG1 (c2) ?_ | refine goG2 (c2) ?_); (try simp only [f, xm, Nat.reduceAdd, Nat.reduceLeDiff, seval, reduceCtorEq]); (first | refine goG (c y hy) ?_ | refine goG1 (c y hy) ?_ | refine goG2 (c y hy) ?_); (try simp only [f, xm, Nat.reduceAdd, Nat.reduceLeDiff, seval, reduceCtorEq]); exact z y hy h) : AWp Tryz.prog (.region id ops false) Q st := AWp.reg1 fun K hK => hh f c1 c2 c h K fun z a b => hK _ (k z a b)
theorem rgLF (ord A : List Nat) (f : p) (k : AWp Tryz.prog y Q st') (h : p → ∀ K : St → Prop, K st' → aopsL Tryz.prog ops A (ord.filterMap (ops[·]?)) st K := by intro f  K z; (try simp only [f, aml, Nat.reduceBEq, xm, Nat.reduceAdd, Nat.reduceLeDiff, seval, reduceCtorEq]); exact z) (h1 : drawOk ops ord = true := by decide +kernel) (h2 : allocsOf ops = A := by decide +kernel) : AWp Tryz.prog (.seq (.region id ops true) y) Q st := AWp.regL mixed ord h1 A h2 fun K hK => h f  K (hK _ k)
theorem rgLFCD {α β : Type} {x : Option α} {kk : α → Option β} {r : β} {q : α → Prop} {T : α → St} (ord A : List Nat) (f : p) (c1 : q1) (c : ∀ y, x = some y → q y) (h : call x kk = some r) (k : ∀ z, x = some z → kk z = some r → AWp Tryz.prog y Q (T z)) (hh : p → q1 → (∀ y, x = some y → q y) → call x kk = some r → ∀ K : St → Prop, (∀ z, x = some z → kk z = some r → K (T z)) → aopsL Tryz.prog ops A (ord.filterMap (ops[·]?)) st K := by intro f c1 c h K z; obtain ⟨y, hy, h⟩ := call_some h; (try simp only [f, aml, Nat.reduceBEq, xm, Nat.reduceAdd, Nat.reduceLeDiff, seval, reduceCtorEq]); (first | refine goG (c1) ?_ | refine goG1 (c1) ?_ | refine goG2 (c1) ?_); (try simp only [f, aml, Nat.reduceBEq, xm, Nat.reduceAdd, Nat.reduceLeDiff, seval, reduceCtorEq]); (first | refine goG (c y hy) ?_ | refine goG1 (c y hy) ?_ | refine goG2 (c y hy) ?_); (try simp only [f, aml, Nat.reduceBEq, xm, Nat.reduceAdd, Nat.reduceLeDiff, seval, reduceCtorEq]); exact z y hy h) (h1 : drawOk ops ord = true := by decide +kernel) (h2 : allocsOf ops = A := by decide +kernel) : AWp Tryz.prog (.seq (.region id ops true) y) Q st := AWp.regL mixed ord h1 A h2 fun K hK => hh f c1 c h K fun z a b => hK _ (k z a b)
theorem rgLFCCD {α β : Type} {x : Option α} {kk : α → Option β} {r : β} {q : α → Prop} {T : α → St} (ord A : List Nat) (f : p) (c1 : q1) (c2 : q2) (c : ∀ y, x = some y → q y) (h : call x kk = some r) (k : ∀ z, x = some z → kk z = some r → AWp Tryz.prog y Q (T z)) (hh : p → q1 → q2 → (∀ y, x = some y → q y) → call x kk = some r → ∀ K : St → Prop, (∀ z, x = some z → kk z = some r → K (T z)) → aopsL Tryz.prog ops A (ord.filterMap (ops[·]?)) st K := by intro f c1 c2 c h K z; obtain ⟨y, hy, h⟩ := call_some h; (try simp only [f, aml, Nat.reduceBEq, xm, Nat.reduceAdd, Nat.reduceLeDiff, seval, reduceCtorEq]); (first | refine goG (c1) ?_ | refine goG1 (c1) ?_ | refine goG2 (c1) ?_); (try simp only [f, aml, Nat.reduceBEq, xm, Nat.reduceAdd, Nat.reduceLeDiff, seval, reduceCtorEq]); (first | refine goG (c2) ?_ | refine goG1 (c2) ?_ | refine goG2 (c2) ?_); (try simp only [f, aml, Nat.reduceBEq, xm, Nat.reduceAdd, Nat.reduceLeDiff, seval, reduceCtorEq]); (first | refine goG (c y hy) ?_ | refine goG1 (c y hy) ?_ | refine goG2 (c y hy) ?_); (try simp only [f, aml, Nat.reduceBEq, xm, Nat.reduceAdd, Nat.reduceLeDiff, seval, reduceCtorEq]); exact z y hy h) (h1 : drawOk ops ord = true := by decide +kernel) (h2 : allocsOf ops = A := by decide +kernel) : AWp Tryz.prog (.seq (.region id ops true) y) Q st := AWp.regL mixed ord h1 A h2 fun K hK => hh f c1 c2 c h K fun z a b => hK _ (k z a b)
theorem hL {c : Code} {s' : Heap} (k : AWp Tryz.prog c Q { st with s := s' }) (h : st.s.leW s' := by exact leA) : AWp Tryz.prog c Q st := AWp.leW h k
theorem ws {α : Type} {c : Operand} {x y : Code} {b : Bool} {A B : Option α} {r : α} (h : way b A B = some r) (h1 : b = true → A = some r → AWp Tryz.prog x Q st) (h2 : b = false → B = some r → AWp Tryz.prog y Q st) (hc : st.eval c = .base (.bool b) := by rfl) : AWp Tryz.prog (.cond c x y) Q st := AWp.wayS h hc h1 h2
theorem tle {L : List (Nat × V)} {B : List (Nat × (List V × TypeId))} {s : Heap} {n : Nat} (h4 : st.s.leW s := by (first | exact (Heap.le.refl _).W | exact leA)) (h1 : leEW L st.E := by (simp only [leEW, WkV.same, xm, Nat.reduceAdd, Nat.reduceLeDiff, seval, reduceCtorEq] <;> (repeat' apply And.intro) <;> first | with_reducible exact WkV.refl _ | (refine .inl ?_; simp; done) | exact .inr ⟨rfl, wkA⟩)) (h2 : okL B L := by simp only [okL, keyIn, Nat.reduceBEq, Bool.or_true, Bool.true_or, Bool.or_false, and_self]) (h3 : leBW B st.loc := by (simp only [leBW, WkB.same, xm, Nat.reduceAdd, Nat.reduceLeDiff, seval, reduceCtorEq] <;> (repeat' apply And.intro) <;> first | with_reducible exact WkB.refl _ | (simp only [xe]; with_reducible exact WkB.refl _) | exact .inr ⟨_, _, _, rfl, rfl, wlA⟩)) (h5 : n = st.n := by rfl) (h6 : st.ds = [] := by rfl) (h7 : st.pp = noPan := by rfl) : st.to (tst L B s n) := to_tst h1 h2 h3 h4 h5 h6 h7
theorem tleF {L : List (Nat × V)} {B : List (Nat × (List V × TypeId))} {s : Heap} {n : Nat} (f : p) (h4 : st.s.leW s := by (first | exact (Heap.le.refl _).W | exact leA)) (h1 : p → leEW L st.E := by intro f; (simp only [leEW, WkV.same, xm, Nat.reduceAdd, Nat.reduceLeDiff, seval, reduceCtorEq] <;> (repeat' apply And.intro) <;> first | with_reducible exact WkV.refl _ | (refine .inl ?_; simp; done) | (refine .inl ?_; simp [f]; done) | exact .inr ⟨rfl, wkA⟩)) (h2 : okL B L := by simp only [okL, keyIn, Nat.reduceBEq, Bool.or_true, Bool.true_or, Bool.or_false, and_self]) (h3 : p → leBW B st.loc := by intro f; (simp only [leBW, WkB.same, xm, Nat.reduceAdd, Nat.reduceLeDiff, seval, reduceCtorEq] <;> (repeat' apply And.intro) <;> first | with_reducible exact WkB.refl _ | (simp only [xe]; with_reducible exact WkB.refl _) | exact .inr ⟨_, _, _, rfl, rfl, wlA⟩)) (h5 : n = st.n := by rfl) (h6 : st.ds = [] := by rfl) (h7 : st.pp = noPan := by rfl) : st.to (tst L B s n) := to_tst (h1 f) h2 (h3 f) h4 h5 h6 h7
theorem rtq {rs : Array ResultVar} {vs : List V} {v : V} {S : Heap} (l : List ResultVar) (hv : resV Tryz.prog st l = some vs := by first | (simp only [resV, xm, Nat.reduceAdd, Nat.reduceLeDiff, seval, reduceCtorEq]; rfl) | (simp only [resV, xm, Nat.reduceAdd, Nat.reduceLeDiff, seval, reduceCtorEq]; done)) (hr : rs.toList = l := by rfl) (h2 : Wk (oneV vs) v := by first | with_reducible exact Wk.refl _ | (simp only [oneV]; exact wkA)) (h3 : st.s.leW S := by (first | exact (Heap.le.refl _).W | exact leA)) : ∃ st', st.to st' ∧ ∃ vs v' s', resV Tryz.prog st' rs.toList = some vs ∧ Wk (oneV vs) v' ∧ st'.s.le s' ∧ (v' = v ∧ s' = S) := ⟨_, St.to.leW h3, vs, _, _, by rw [hr, resV_heap]; exact hv, h2, Heap.le.refl _, rfl, rfl⟩
theorem rtqO {rs : Array ResultVar} {vs : List V} {v : V} {S : Heap} {a b : Heap} (hO : a.le b) (l : List ResultVar) (hv : resV Tryz.prog st l = some vs := by first | (simp only [resV, xm, Nat.reduceAdd, Nat.reduceLeDiff, seval, reduceCtorEq]; rfl) | (simp only [resV, xm, Nat.reduceAdd, Nat.reduceLeDiff, seval, reduceCtorEq]; done)) (hr : rs.toList = l := by rfl) (h2 : Wk (oneV vs) v := by first | with_reducible exact Wk.refl _ | (simp only [oneV]; exact wkA)) (h3 : a.le b → st.s.leW S := by intro hO; (exact leA (o := fun g => hO.own g))) : ∃ st', st.to st' ∧ ∃ vs v' s', resV Tryz.prog st' rs.toList = some vs ∧ Wk (oneV vs) v' ∧ st'.s.le s' ∧ (v' = v ∧ s' = S) := ⟨_, St.to.leW (h3 hO), vs, _, _, by rw [hr, resV_heap]; exact hv, h2, Heap.le.refl _, rfl, rfl⟩
theorem rtqF {rs : Array ResultVar} {vs : List V} {v : V} {S : Heap} (f : p) (l : List ResultVar) (hv : p → resV Tryz.prog st l = some vs := by intro f; first | (simp only [resV, xm, Nat.reduceAdd, Nat.reduceLeDiff, seval, reduceCtorEq]; rfl) | (simp only [resV, xm, Nat.reduceAdd, Nat.reduceLeDiff, seval, reduceCtorEq]; done) | (simp only [resV, f, xm, Nat.reduceAdd, Nat.reduceLeDiff, seval, reduceCtorEq]; rfl) | (simp only [resV, f, xm, Nat.reduceAdd, Nat.reduceLeDiff, seval, reduceCtorEq]; done)) (hr : rs.toList = l := by rfl) (h2 : Wk (oneV vs) v := by first | with_reducible exact Wk.refl _ | (simp only [oneV]; exact wkA)) (h3 : st.s.leW S := by (first | exact (Heap.le.refl _).W | exact leA)) : ∃ st', st.to st' ∧ ∃ vs v' s', resV Tryz.prog st' rs.toList = some vs ∧ Wk (oneV vs) v' ∧ st'.s.le s' ∧ (v' = v ∧ s' = S) := ⟨_, St.to.leW h3, vs, _, _, by rw [hr, resV_heap]; exact hv f, h2, Heap.le.refl _, rfl, rfl⟩
theorem rtqFO {rs : Array ResultVar} {vs : List V} {v : V} {S : Heap} (f : p) {a b : Heap} (hO : a.le b) (l : List ResultVar) (hv : p → resV Tryz.prog st l = some vs := by intro f; first | (simp only [resV, xm, Nat.reduceAdd, Nat.reduceLeDiff, seval, reduceCtorEq]; rfl) | (simp only [resV, xm, Nat.reduceAdd, Nat.reduceLeDiff, seval, reduceCtorEq]; done) | (simp only [resV, f, xm, Nat.reduceAdd, Nat.reduceLeDiff, seval, reduceCtorEq]; rfl) | (simp only [resV, f, xm, Nat.reduceAdd, Nat.reduceLeDiff, seval, reduceCtorEq]; done)) (hr : rs.toList = l := by rfl) (h2 : Wk (oneV vs) v := by first | with_reducible exact Wk.refl _ | (simp only [oneV]; exact wkA)) (h3 : a.le b → st.s.leW S := by intro hO; (exact leA (o := fun g => hO.own g))) : ∃ st', st.to st' ∧ ∃ vs v' s', resV Tryz.prog st' rs.toList = some vs ∧ Wk (oneV vs) v' ∧ st'.s.le s' ∧ (v' = v ∧ s' = S) := ⟨_, St.to.leW (h3 hO), vs, _, _, by rw [hr, resV_heap]; exact hv f, h2, Heap.le.refl _, rfl, rfl⟩
theorem ap4 {s : Heap} {L : List (Nat × (TypeId × Nat))} {g : Nat} {x : TypeId × Nat} {O A B R H : Prop} (fr : Fr s (L.map Prod.fst)) (hn : H) (k : R) (ho : (owns s L).own g = some x → O := by exact id) (hm : (g, x) ∈ L := by simp) (ha : H → A := by intro hn; (try simp only [List.length_map]); exact hn) (hb : H → B := by intro hn; (try simp only [List.length_map]); exact app_ok hn (by decide)) : O ∧ A ∧ B ∧ R := ⟨ho (owns_at L s fr.2 hm), ha hn, hb hn, k⟩
theorem ap3 {s : Heap} {L : List (Nat × (TypeId × Nat))} {g : Nat} {x : TypeId × Nat} {O A R H : Prop} (fr : Fr s (L.map Prod.fst)) (hn : H) (k : R) (ho : (owns s L).own g = some x → O := by exact id) (hm : (g, x) ∈ L := by simp) (ha : A := by unfold maxLen; omega) : O ∧ A ∧ R := ⟨ho (owns_at L s fr.2 hm), ha, k⟩
theorem ap2 {s : Heap} {L : List (Nat × (TypeId × Nat))} {g : Nat} {x : TypeId × Nat} {O R H : Prop} (fr : Fr s (L.map Prod.fst)) (hn : H) (k : R) (ho : (owns s L).own g = some x → O := by exact id) (hm : (g, x) ∈ L := by simp) : O ∧ R := ⟨ho (owns_at L s fr.2 hm), k⟩
theorem hLO {c : Code} {s' u v : Heap} (hO : u.le v) (k : AWp Tryz.prog c Q { st with s := s' }) (h : u.le v → st.s.leW s' := by intro hO; exact leA (o := fun g => hO.own g)) : AWp Tryz.prog c Q st := AWp.leW (h hO) k
end
end Go.Proofs.YtdomhnkffghmlaaGreatDoor.Ex
