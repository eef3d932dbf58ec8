/- A region whose order is open: one order in abstract values stands for all. -/
import Derived.Test.YtdomhnkffghmlaaGreatDoorSAmUse
set_option linter.unusedVariables false
set_option linter.unusedSimpArgs false
namespace Go.Am
variable {P : Program}
inductive Kd where
 | pure | load | alloc | eff
 deriving DecidableEq
def kd (o : Oper) : Kd := match o.op with
 | .alloc _ | .box _ _ => .alloc
 | .load _ _ => .load
 | .store _ _ _ => .eff
 | .call { callee := .builtin .len, args := _, argTypes := _ } => .pure
 | .call { callee := .builtin .max, args := _, argTypes := _ } => .pure
 | .call { callee := .builtin .min, args := _, argTypes := _ } => .pure
 | .call _ => .eff
 | _ => .pure
def maskOf (acc : Array Nat) (o : Oper) : Nat := o.after.toList.foldl (fun s e => if Region.binds .any e = true then s ||| 2 ^ e.on ||| acc.getD e.on 0 else s) 0
def masks : List Oper → Array Nat → Array Nat
 | [], acc => acc
 | o :: r, acc => masks r (acc.push (maskOf acc o))
/-- Reads whose order beside a write, or a call, is open: 100000 and the tmp that they write. -/
def wild (all : Array Oper) : List Nat :=
 let ms := masks all.toList #[]
 (all.toList.zipIdx.filter fun y => decide (kd y.1 = .load) && all.toList.zipIdx.any fun x => decide (kd x.1 = .eff) && !((ms.getD x.2 0).testBit y.2) && !((ms.getD y.2 0).testBit x.2)).map fun y => 100000 + y.1.dst.getD 0
/-- Does the region look at this tmp only to write through it? -/
def onlyStored (all : Array Oper) (t : Nat) : Bool := all.toList.all fun o => o.dst != some t && (match o.op with
 | .store _ _ (.tmp y) => y != t
 | .store _ _ _ => true
 | op => op.operands.toList.all fun x => match x with | .tmp y => y != t | _ => true)
/-- The keys of the boxes that a region makes, and of those that it only writes whole; beside them the reads whose order is open. -/
def allocsOf (all : Array Oper) : List Nat := (all.toList.filterMap fun o => match o.op with
 | .alloc _ | .box _ _ => o.dst
 | .store _ (.tmp t) _ => if onlyStored all t then some t else none
 | _ => none) ++ wild all
/-- What is asked beside of a read and a write in such a region. -/
def dcond (A : List Nat) (o : Oper) (st : St) : Prop := match o.op with
 | .load _ x => match st.eval x with
  | .loc k _ => A.contains k = false
  | .elt _ _ => True
  | .ptr _ _ => A.contains (100000 + o.dst.getD 0) = false
  | _ => False
 | .store _ x _ => match st.eval x with
  | .loc b _ => match x with
   | .tmp t => if A.contains t = true then b = t else A.contains b = false
   | _ => False
  | _ => True
 | _ => True
def gstepD (P : Program) (all : Array Oper) (o : Oper) (st : St) (K : St → Prop) : Prop :=
 match gdOf all o st with
 | .always => dcond (allocsOf all) o st ∧ aop P o st K
 | .never => dstOk o st ∧ K (st.put o.dst (.base undef))
 | .test c b => if c = b then dcond (allocsOf all) o st ∧ aop P o st K else dstOk o st ∧ K (st.put o.dst (.base undef))
 | .stuck => False
theorem gstepD_gstep {all : Array Oper} {o : Oper} {st : St} {K : St → Prop} (h : gstepD P all o st K) : gstep P all o st K := by
 unfold gstepD at h
 unfold gstep
 split at h
 ·rename_i hg; rw [hg]; exact h.2
 ·rename_i hg; rw [hg]; exact h
 ·rename_i hg
  rw [hg]
  simp only
  split at h
  ·rename_i hc; rw [if_pos hc]; exact h.2
  ·rename_i hc; rw [if_neg hc]; exact h
 ·exact h.elim
def aopsD (P : Program) (all : Array Oper) : List Nat → St → (St → Prop) → Prop
 | [], st, K => K st
 | i :: r, st, K => match all[i]? with
  | some o => gstepD P all o st fun st' => aopsD P all r st' K
  | none => False
/-- A change that an earlier operation made: a temporary, perhaps a new box. -/
structure Mod where
 d : Option Nat
 v : V
 box : Option (Nat × (List V × TypeId))
def Mod.run (m : Mod) (st : St) : St :=
 match m.box with
 | none => st.put m.d m.v
 | some (t0, x) => { st with loc := upd st.loc t0 (some x) }.put m.d m.v
theorem put_eval {st : St} {d : Option Nat} {v : V} {x : Operand} (h : ∀ t, d = some t → x ≠ .tmp t) : (st.put d v).eval x = st.eval x := by
 cases d with
 | none => rfl
 | some t =>
  cases x with
  | tmp t' => exact upd_other _ _ _ _ (fun e => h t rfl (by rw [e]))
  | const v => rfl
  | global g => rfl
  | func f => rfl
theorem Mod.eval {m : Mod} {st : St} {x : Operand} (h : ∀ t, m.d = some t → x ≠ .tmp t) : (m.run st).eval x = st.eval x := by
 unfold Mod.run
 split
 ·exact put_eval h
 ·rename_i t0 y hb
  rw [put_eval h]
  cases x <;> rfl
theorem Mod.s (m : Mod) (st : St) : (m.run st).s = st.s := by unfold Mod.run; split <;> rw [put_s]
theorem put_pp (st : St) (d : Option Nat) (v : V) : (st.put d v).pp = st.pp := by cases d <;> rfl
theorem put_ds (st : St) (d : Option Nat) (v : V) : (st.put d v).ds = st.ds := by cases d <;> rfl
theorem Mod.pp (m : Mod) (st : St) : (m.run st).pp = st.pp := by unfold Mod.run; split <;> rw [put_pp]
theorem Mod.ds (m : Mod) (st : St) : (m.run st).ds = st.ds := by unfold Mod.run; split <;> rw [put_ds]
theorem put_n (st : St) (d : Option Nat) (v : V) : (st.put d v).n = st.n := by cases d <;> rfl
theorem put_loc (st : St) (d : Option Nat) (v : V) : (st.put d v).loc = st.loc := by cases d <;> rfl
theorem Mod.n (m : Mod) (st : St) : (m.run st).n = st.n := by unfold Mod.run; split <;> rw [put_n]
theorem Mod.loc (m : Mod) (st : St) (k : Nat) (h : ∀ t0 x, m.box = some (t0, x) → k ≠ t0) : (m.run st).loc k = st.loc k := by
 unfold Mod.run
 split
 ·rw [put_loc]
 ·rename_i t0 x hb
  rw [put_loc]
  exact upd_other _ _ _ _ (h t0 x hb)
theorem put_comm (st : St) {d d' : Option Nat} (v v' : V) (h : ∀ t, d = some t → d' ≠ some t) : (st.put d v).put d' v' = (st.put d' v').put d v := by
 cases d with
 | none => cases d' <;> rfl
 | some t =>
  cases d' with
  | none => rfl
  | some t' =>
   have : t ≠ t' := fun e => h t rfl (by rw [e])
   simp only [St.put, upd_comm _ _ _ _ _ this]
/-- What the later operation leaves untouched. -/
structure Kept (m : Mod) (o : Oper) (A : List Nat) (st st' : St) : Prop where
 E : ∀ t, o.dst ≠ some t → st'.E t = st.E t
 n : st'.n = st.n
 locE : kd o ≠ .alloc → (∀ t x y, o.op ≠ .store t x y) → st'.loc = st.loc
 locA : kd o = .alloc → ∃ t0, o.dst = some t0 ∧ st.loc t0 = none ∧ ∀ k, k ≠ t0 → st'.loc k = st.loc k
 locS : ∀ t x y, o.op = .store t x y → ∀ k, (∀ off, st.eval x ≠ .loc k off) → st'.loc k = st.loc k
 locM : ∀ t0 x, m.box = some (t0, x) → st'.loc t0 = st.loc t0
 dc : dcond A o st
 s : kd o ≠ .eff → st'.s = st.s
theorem parts_congr {st st' : St} : ∀ (l : List (Nat × Operand)), (∀ x ∈ l.map (·.2), st'.eval x = st.eval x) → l.map (fun x => (x.1, st'.eval x.2)) = l.map (fun x => (x.1, st.eval x.2))
 | [], _ => rfl
 | (i, x) :: r, h => by
  simp only [List.map_cons, List.mem_cons, forall_eq_or_imp] at h ⊢
  rw [h.1, parts_congr r h.2]
theorem map_congr {st st' : St} : ∀ (l : List Operand), (∀ x ∈ l, st'.eval x = st.eval x) → l.map st'.eval = l.map st.eval := fun l h => List.map_congr_left h
theorem loV_congr {st st' : St} (lo : Option Operand) (h : ∀ x, lo = some x → st'.eval x = st.eval x) : loV st' lo = loV st lo := by
 cases lo with
 | none => rfl
 | some o => simp only [loV, h o rfl]
theorem hiV_congr {st st' : St} (n : Nat) (lo : Option Operand) (h : ∀ x, lo = some x → st'.eval x = st.eval x) : hiV st' n lo = hiV st n lo := by
 cases lo with
 | none => rfl
 | some o => simp only [hiV, h o rfl]
theorem pval_congr {st st' : St} {op : Op} (hl : ∀ t x, op ≠ .load t x) (h : ∀ x ∈ op.operands, st'.eval x = st.eval x) : pval P st' op = pval P st op := by
 cases op
 case load t x => exact absurd rfl (hl t x)
 case move x => simp only [pval, h x (by simp [Op.operands])]
 case assign x => simp only [pval, h x (by simp [Op.operands])]
 case pick c a b => simp only [pval, h c (by simp [Op.operands]), h a (by simp [Op.operands]), h b (by simp [Op.operands])]
 case build t ps => simp only [pval, parts_congr ps.toList (fun x hx => h x (by simpa [Op.operands] using hx))]
 case buildSlice t n ps => simp only [pval, parts_congr ps.toList (fun x hx => h x (by simpa [Op.operands] using hx))]
 case nilCheck x => simp only [pval, h x (by simp [Op.operands])]
 case binOp op t x y t' => simp only [pval, h x (by simp [Op.operands]), h y (by simp [Op.operands])]
 case unOp op t x => simp only [pval, h x (by simp [Op.operands])]
 case convert s t x => simp only [pval, h x (by simp [Op.operands])]
 case makeFunc f a c =>
  cases f <;> try rfl
  simp only [pval, map_congr a.toList (fun x hx => h x (by simp [Op.operands]; exact .inl (by simpa using hx))), map_congr c.toList (fun x hx => h x (by simp [Op.operands]; exact .inr (by simpa using hx)))]
 case fieldAddr s x k => simp only [pval, h x (by simp [Op.operands])]
 case field s x k => simp only [pval, h x (by simp [Op.operands])]
 case indexAddr t x i => simp only [pval, h x (by simp [Op.operands]), h i (by simp [Op.operands])]
 case index t x i => simp only [pval, h x (by simp [Op.operands]), h i (by simp [Op.operands])]
 case extract x i => simp only [pval, h x (by simp [Op.operands])]
 case slice t x lo hi mx =>
  have hx := h x (by simp [Op.operands])
  have hlo := loV_congr (st := st) (st' := st') lo (fun y hy => h y (by subst hy; simp [Op.operands]))
  have hhi := fun n => hiV_congr (st := st) (st' := st') n hi (fun y hy => h y (by subst hy; simp [Op.operands]))
  cases mx with
  | none => simp only [pval, hx, hlo, hhi]
  | some m =>
   have hm := h m (by simp [Op.operands])
   cases lo with
   | some _ => rfl
   | none =>
    cases hi with
    | none => rfl
    | some y =>
     have hy := h y (by simp [Op.operands])
     simp only [pval, hx, hy, hm]
 case makeInterface t x => simp only [pval, h x (by simp [Op.operands])]
 case typeAssert x xt t ok =>
  cases ok with
  | true => simp only [pval, h x (by simp [Op.operands])]
  | false => simp only [pval, h x (by simp [Op.operands])]
 case call c =>
  obtain ⟨callee, args, ts⟩ := c
  cases callee <;> try rfl
  rename_i b
  have hmx : ∀ mx, mxVal mx st' args = mxVal mx st args := fun mx => by
   unfold mxVal
   cases hl : args.toList with
   | nil => rfl
   | cons x l =>
    cases l with
    | nil => rfl
    | cons y l =>
     cases l with
     | cons _ _ => rfl
     | nil =>
      have hm : ∀ z ∈ args.toList, st'.eval z = st.eval z := fun z hz => h z (by
       simp only [Op.operands, Call.operands, Array.mem_append]
       exact .inr (Array.mem_def.2 hz))
      rw [hl] at hm
      simp only [hm x (by simp), hm y (by simp)]
  cases b <;> try rfl
  case max => exact hmx true
  case min => exact hmx false
  show lenVal P st' args ts = lenVal P st args ts
  unfold lenVal
  cases ht : ts[0]? with
  | none => rfl
  | some t =>
   cases hd : tyOf P t with
   | none => simp [hd]
   | some d =>
    cases hq : args[0]? with
    | none => simp [hd]
    | some x =>
     have hx := h x (by
      have : x ∈ args := Array.mem_of_getElem? hq
      simp only [Op.operands, Call.operands, Array.mem_append]
      exact .inr this)
     simp only [hd, hx]
 all_goals rfl
theorem Mod.run_put {m : Mod} {st : St} {d' : Option Nat} {v' : V} (h : ∀ t, m.d = some t → d' ≠ some t) : m.run (st.put d' v') = (m.run st).put d' v' := by
 unfold Mod.run
 split
 ·exact (put_comm st m.v v' h).symm
 ·rename_i t0 x hb
  have e : ({ st.put d' v' with loc := upd (st.put d' v').loc t0 (some x) } : St) = ({ st with loc := upd st.loc t0 (some x) } : St).put d' v' := by cases d' <;> rfl
  rw [e]
  exact (put_comm _ m.v v' h).symm
theorem Mod.run_s {m : Mod} {st : St} (s' : Heap) : m.run { st with s := s' } = { m.run st with s := s' } := by
 unfold Mod.run
 split
 ·cases m.d <;> rfl
 ·cases m.d <;> rfl
theorem Mod.run_loc {m : Mod} {st : St} {t' : Nat} {x' : Option (List V × TypeId)} (h : ∀ t0 x, m.box = some (t0, x) → t' ≠ t0) : m.run { st with loc := upd st.loc t' x' } = { m.run st with loc := upd (m.run st).loc t' x' } := by
 unfold Mod.run
 split
 ·cases m.d <;> rfl
 ·rename_i t0 x hb
  have := upd_comm st.loc t' t0 x' (some x) (h t0 x hb)
  cases m.d <;> simp only [St.put, this]
theorem noLocs_congr {st st' : St} (l : List Operand) (h : ∀ x ∈ l, st'.eval x = st.eval x) : noLocs (l.map st'.eval) = noLocs (l.map st.eval) := by rw [map_congr l h]
structure Mod.Ok (m : Mod) (all : Array Oper) (o : Oper) : Prop where
 look : ∀ t, m.d = some t → t ∉ o.looksAt all
 dst : ∀ t, m.d = some t → o.dst ≠ some t
 box : ∀ t0 x, m.box = some (t0, x) → m.d = some t0 ∧ (allocsOf all).contains t0 = true
theorem Mod.Ok.eval {m : Mod} {all : Array Oper} {o : Oper} (h : m.Ok all o) (st : St) {x : Operand} (hx : x ∈ o.op.operands) : (m.run st).eval x = st.eval x :=
 Mod.eval fun t ht e => h.look t ht (by
  subst e
  unfold Oper.looksAt
  exact List.mem_append.2 (.inl (List.mem_filterMap.2 ⟨.tmp t, Array.mem_def.1 hx, rfl⟩)))
theorem Mod.Ok.gd {m : Mod} {all : Array Oper} {o : Oper} (h : m.Ok all o) (st : St) : gdOf all o (m.run st) = gdOf all o st := by
 unfold gdOf
 cases hg : o.guard with
 | none => rfl
 | some x =>
  obtain ⟨j, b⟩ := x
  simp only
  cases ht : (all[j]?).bind (·.dst) with
  | none => rfl
  | some t =>
   have : (m.run st).E t = st.E t := Mod.eval (x := .tmp t) fun t' ht' e => h.look t' ht' (by
    cases e
    unfold Oper.looksAt
    refine List.mem_append.2 (.inr ?_)
    simp [hg, ht])
   simp only [this]
theorem dstOk_run {m : Mod} {o : Oper} {st : St} : dstOk o (m.run st) = dstOk o st := by unfold dstOk; rw [Mod.n]
theorem Kept.put {m : Mod} {o : Oper} {A : List Nat} {st : St} {v : V} (hd : dcond A o st) (ha : kd o ≠ .alloc) (hs : ∀ t x y, o.op ≠ .store t x y) : Kept m o A st (st.put o.dst v) where
 E := fun t ht => by
  cases hd : o.dst with
  | none => rfl
  | some d => exact upd_other _ _ _ _ (fun e => ht (by rw [hd, e]))
 n := put_n _ _ _
 locE := fun _ _ => put_loc _ _ _
 locA := fun h => absurd h ha
 locS := fun t x y h => absurd h (hs t x y)
 locM := fun _ _ _ => by rw [put_loc]
 dc := hd
 s := fun _ => put_s _ _ _
theorem Kept.putS {m : Mod} {o : Oper} {A : List Nat} {st : St} {v : V} {s' : Heap} (hd : dcond A o st) (ha : kd o ≠ .alloc) (hs : ∀ t x y, o.op ≠ .store t x y) (he : kd o = .eff) : Kept m o A st (({ st with s := s' } : St).put o.dst v) where
 E := fun t ht => by
  cases hd : o.dst with
  | none => rfl
  | some d => exact upd_other _ _ _ _ (fun e => ht (by rw [hd, e]))
 n := put_n _ _ _
 locE := fun _ _ => put_loc _ _ _
 locA := fun h => absurd h ha
 locS := fun t x y h => absurd h (hs t x y)
 locM := fun _ _ _ => by rw [put_loc]
 dc := hd
 s := fun h => absurd he h
variable {all : Array Oper} {o : Oper} {m : Mod} {st : St} {K : St → Prop}
theorem dcond_triv (hl : ∀ t x, o.op ≠ .load t x) (hs : ∀ t x y, o.op ≠ .store t x y) (A : List Nat) : dcond A o st := by
 unfold dcond
 split
 ·rename_i e; exact absurd e (hl _ _)
 ·rename_i e; exact absurd e (hs _ _ _)
 ·trivial
theorem pass_pure (hm : m.Ok all o) (hl : ∀ t x, o.op ≠ .load t x) (ha : kd o ≠ .alloc) (hs : ∀ t x y, o.op ≠ .store t x y) (h : aPure P o (m.run st) K) : aPure P o st fun st' => K (m.run st') ∧ Kept m o (allocsOf all) st st' := by
 unfold aPure at h ⊢
 rw [pval_congr hl (fun x hx => hm.eval st hx)] at h
 split at h
 ·rename_i v side hv
  rw [dstOk_run] at h
  refine ⟨h.1, h.2.1, ?_, Kept.put (dcond_triv hl hs _) ha hs⟩
  rw [Mod.run_put hm.dst]
  exact h.2.2
 ·exact h.elim
theorem pass_load (hm : m.Ok all o) {t : TypeId} {x : Operand} (ho : o.op = .load t x) (hd : dcond (allocsOf all) o (m.run st)) (h : aLoad P o t x (m.run st) K) : dcond (allocsOf all) o st ∧ aLoad P o t x st fun st' => K (m.run st') ∧ Kept m o (allocsOf all) st st' := by
 have hx : (m.run st).eval x = st.eval x := hm.eval st (by rw [ho]; simp [Op.operands])
 have hdc : dcond (allocsOf all) o st := by
  unfold dcond at hd ⊢
  rw [ho] at hd ⊢
  simp only [hx] at hd
  exact hd
 unfold dcond at hd
 rw [ho] at hd
 simp only [hx] at hd
 refine ⟨hdc, ?_⟩
 unfold aLoad at h ⊢
 rw [hx] at h
 have key : aPure P o (m.run st) K → aPure P o st fun st' => K (m.run st') ∧ Kept m o (allocsOf all) st st' := by
  intro h
  have hv : pval P (m.run st) o.op = pval P st o.op := by
   rw [ho]
   simp only [pval, hx]
   cases tyOf P t with
   | none => rfl
   | some d =>
    simp only
    cases he : st.eval x <;> try rfl
    rename_i k off
    rw [he] at hd
    simp only at hd
    have : (m.run st).loc k = st.loc k := Mod.loc m st k fun t0 y hb e => by
     have := (hm.box t0 y hb).2
     rw [← e, hd] at this; cases this
    simp only [this]
  unfold aPure at h ⊢
  rw [hv] at h
  split at h
  ·rename_i v side hpv
   rw [dstOk_run] at h
   refine ⟨h.1, h.2.1, ?_, Kept.put hdc (by unfold kd; rw [ho]; simp) (by rw [ho]; simp)⟩
   rw [Mod.run_put hm.dst]
   exact h.2.2
  ·exact h.elim
 cases he : st.eval x <;> rw [he] at hd h <;> simp only at hd h ⊢ <;> first | exact hd.elim | exact key h | skip
 rename_i b off
 rw [Mod.s] at h
 cases hty : tyOf P t with
 | none => rw [hty] at h; exact h.elim
 | some d =>
  rw [hty] at h
  cases hb : st.s.box b with
  | none => rw [hb] at h; exact h.elim
  | some z =>
   obtain ⟨cs, ty⟩ := z
   rw [hb] at h
   simp only at h ⊢
   cases hr : rd d cs off with
   | none => rw [hr] at h; exact h.elim
   | some v =>
    rw [hr] at h
    simp only at h ⊢
    rw [dstOk_run] at h
    refine ⟨h.1, ?_, Kept.put hdc (by unfold kd; rw [ho]; simp) (by rw [ho]; simp)⟩
    rw [Mod.run_put hm.dst]
    exact h.2
theorem pass_box (hm : m.Ok all o) {t : TypeId} {cs : List V} (hk : kd o = .alloc) (h : mkBox o t cs (m.run st) K) : mkBox o t cs st fun st' => K (m.run st') ∧ Kept m o (allocsOf all) st st' := by
 unfold mkBox at h ⊢
 cases hd : o.dst with
 | none => rw [hd] at h; exact h.elim
 | some t' =>
  rw [hd] at h
  simp only at h ⊢
  obtain ⟨h1, h2, h3⟩ := h
  have hne : ∀ t0 x, m.box = some (t0, x) → t' ≠ t0 := fun t0 x hb e => hm.dst t0 (hm.box t0 x hb).1 (by rw [hd, e])
  rw [Mod.n] at h1
  rw [Mod.loc m st t' hne] at h2
  refine ⟨h1, h2, ?_, ?_⟩
  ·have e1 := Mod.run_put (m := m) (st := { st with loc := upd st.loc t' (some (cs, t)) }) (d' := some t') (v' := .loc t' 0) (fun u hu => by rw [← hd]; exact hm.dst u hu)
   rw [e1, Mod.run_loc hne]
   exact h3
  ·refine ⟨fun u hu => upd_other _ _ _ _ (fun e => hu (by rw [hd, e])), rfl, fun h => absurd hk h, fun _ => ⟨t', hd, h2, fun k hk => upd_other _ _ _ _ hk⟩, fun _ _ _ he => ?_, fun t0 x hb => upd_other _ _ _ _ (Ne.symm (hne t0 x hb)), ?_, fun _ => rfl⟩
   ·unfold kd at hk; rw [he] at hk; cases hk
   ·refine dcond_triv (fun _ _ e => ?_) (fun _ _ _ e => ?_) _ <;> (unfold kd at hk; rw [e] at hk; cases hk)
theorem pass_store (hm : m.Ok all o) {t : TypeId} {x y : Operand} (ho : o.op = .store t x y) (hd : dcond (allocsOf all) o (m.run st)) (h : aStore P o t x y (m.run st) K) : dcond (allocsOf all) o st ∧ aStore P o t x y st fun st' => K (m.run st') ∧ Kept m o (allocsOf all) st st' := by
 have hx : (m.run st).eval x = st.eval x := hm.eval st (by rw [ho]; simp [Op.operands])
 have hy : (m.run st).eval y = st.eval y := hm.eval st (by rw [ho]; simp [Op.operands])
 have hlook : ∀ t1, x = .tmp t1 → ∀ u, m.d = some u → t1 ≠ u := fun t1 ht u hu e => hm.look u hu (by
  unfold Oper.looksAt
  refine List.mem_append.2 (.inl (List.mem_filterMap.2 ⟨.tmp u, ?_, rfl⟩))
  rw [ho]; simp [Op.operands, ht, e])
 have hdc : dcond (allocsOf all) o st := by
  unfold dcond at hd ⊢
  rw [ho] at hd ⊢
  simp only [hx] at hd
  exact hd
 unfold dcond at hd
 rw [ho] at hd
 simp only [hx] at hd
 refine ⟨hdc, ?_⟩
 have hkd : kd o ≠ .alloc := by unfold kd; rw [ho]; simp
 unfold aStore at h ⊢
 rw [hx, hy] at h
 cases hty : tyOf P t with
 | none => rw [hty] at h; exact h.elim
 | some d =>
  rw [hty] at h
  simp only at h ⊢
  obtain ⟨h1, h2, h3, h4⟩ := h
  rw [dstOk_run] at h3
  refine ⟨h1, h2, h3, ?_⟩
  cases he : st.eval x <;> rw [he] at h4 hd <;> simp only at h4 hd ⊢ <;> try exact h4.elim
  case loc b off =>
   have hb : ∀ t0 z, m.box = some (t0, z) → b ≠ t0 := fun t0 z hz e => by
    obtain ⟨k1, k2⟩ := hm.box t0 z hz
    cases x <;> simp only at hd <;> try exact hd
    rename_i t1
    split at hd
    ·exact hlook t1 rfl t0 k1 (by rw [← hd, e])
    ·rw [e, k2] at hd; cases hd
   rw [Mod.loc m st b hb] at h4
   cases hl : st.loc b with
   | none => rw [hl] at h4; exact h4.elim
   | some z =>
    obtain ⟨cs, ty⟩ := z
    rw [hl] at h4
    simp only at h4 ⊢
    refine ⟨h4.1, ?_, ?_⟩
    ·rw [Mod.run_put hm.dst, Mod.run_loc hb]; exact h4.2
    ·refine ⟨fun u hu => ?_, put_n _ _ _, fun _ h => absurd ho (h _ _ _), fun h => absurd h hkd, fun t2 x2 y2 he2 k hk => ?_, fun t0 z hz => by rw [put_loc]; exact upd_other _ _ _ _ (Ne.symm (hb t0 z hz)), hdc, fun h => absurd (by unfold kd; rw [ho]) h⟩
     ·cases hdd : o.dst with
      | none => rfl
      | some d' => exact upd_other _ _ _ _ (fun e => hu (by rw [hdd, e]))
     ·rw [put_loc]
      rw [ho] at he2; cases he2
      exact upd_other _ _ _ _ (fun e => hk off (by rw [e]; exact he))
  case ptr b off =>
   rw [Mod.s] at h4
   cases hl : st.s.box b with
   | none => rw [hl] at h4; exact h4.elim
   | some z =>
    obtain ⟨cs, ty⟩ := z
    rw [hl] at h4
    simp only at h4 ⊢
    refine ⟨h4.1, ?_, ?_⟩
    ·rw [Mod.run_put hm.dst, Mod.run_s]; exact h4.2
    ·refine ⟨fun u hu => ?_, put_n _ _ _, fun _ h => absurd ho (h _ _ _), fun h => absurd h hkd, fun t2 x2 y2 he2 k hk => by rw [put_loc], fun _ _ _ => by rw [put_loc], hdc, fun h => absurd (by unfold kd; rw [ho]) h⟩
     ·cases hdd : o.dst with
      | none => rfl
      | some d' => exact upd_other _ _ _ _ (fun e => hu (by rw [hdd, e]))
theorem pass_call (hm : m.Ok all o) {f : Operand} {args : Array Operand} {ts : Array TypeId} (ho : o.op = .call { callee := .value f, args := args, argTypes := ts }) (h : aCall P o f args (m.run st) K) : aCall P o f args st fun st' => K (m.run st') ∧ Kept m o (allocsOf all) st st' := by
 have hf : (m.run st).eval f = st.eval f := hm.eval st (by rw [ho]; simp [Op.operands, Call.operands])
 have ha := noLocs_congr (st := st) (st' := m.run st) args.toList (fun x hx => hm.eval st (by rw [ho]; simp [Op.operands, Call.operands]; exact .inr (by simpa using hx)))
 have hk : kd o ≠ .alloc := by unfold kd; rw [ho]; simp
 unfold aCall at h ⊢
 rw [hf] at h
 split at h
 ·rename_i k first cap he
  rw [ha] at h
  split at h
  ·rename_i vs hvs
   rw [dstOk_run, Mod.s] at h
   refine ⟨h.1, h.2.mono (fun v s' hp => ⟨s', Heap.le.refl _, by simpa only [Mod.pp, Mod.ds] using hp⟩) fun v s' hK => ⟨?_, Kept.putS (dcond_triv (by rw [ho]; simp) (by rw [ho]; simp) _) hk (by rw [ho]; simp) (by unfold kd; rw [ho])⟩⟩
   rw [Mod.run_put hm.dst, Mod.run_s]
   exact hK
  ·exact h.elim
 ·exact h.elim
theorem pass_append (hm : m.Ok all o) {args : Array Operand} {ts : Array TypeId} (ho : o.op = .call { callee := .builtin .append, args := args, argTypes := ts }) (h : aAppend P o args ts (m.run st) K) : aAppend P o args ts st fun st' => K (m.run st') ∧ Kept m o (allocsOf all) st st' := by
 have hk : kd o ≠ .alloc := by unfold kd; rw [ho]; simp
 have hst : ∀ t x y, o.op ≠ .store t x y := by rw [ho]; simp
 unfold aAppend at h ⊢
 split at h
 ·rename_i t t' x y hts hargs
  have hx : (m.run st).eval x = st.eval x := hm.eval st (by rw [ho]; simp [Op.operands, Call.operands]; exact Array.mem_def.2 (by rw [hargs]; simp))
  have hy : (m.run st).eval y = st.eval y := hm.eval st (by rw [ho]; simp [Op.operands, Call.operands]; exact Array.mem_def.2 (by rw [hargs]; simp))
  refine ⟨h.1, ?_⟩
  have h2 := h.2
  rw [hx, hy, dstOk_run, Mod.s] at h2
  cases hd : tyOf P t with
  | none => rw [hd] at h2; exact h2.elim
  | some d =>
   rw [hd] at h2
   simp only at h2 ⊢
   cases hs : d.shape <;> rw [hs] at h2 <;> simp only at h2 ⊢ <;> try exact h2.elim
   rename_i e
   cases hde : tyOf P e with
   | none => rw [hde] at h2; exact h2.elim
   | some de =>
    rw [hde] at h2
    simp only at h2 ⊢
    refine ⟨h2.1, h2.2.1, ?_⟩
    have h3 := h2.2.2
    cases hxs : appV de.size (st.eval y) with
    | none => rw [hxs] at h3; exact h3.elim
    | some xs =>
     rw [hxs] at h3
     simp only at h3 ⊢
     cases he : st.eval x <;> rw [he] at h3 <;> simp only at h3 ⊢ <;> try exact h3.elim
     case nil =>
      refine ⟨h3.1, h3.2.1, fun g hg => ⟨?_, Kept.putS (dcond_triv (by rw [ho]; simp) hst _) hk hst (by unfold kd; rw [ho])⟩⟩
      rw [Mod.run_put hm.dst, Mod.run_s]; exact h3.2.2 g hg
     case zcap =>
      refine ⟨h3.1, h3.2.1, fun g hg => ⟨?_, Kept.putS (dcond_triv (by rw [ho]; simp) hst _) hk hst (by unfold kd; rw [ho])⟩⟩
      rw [Mod.run_put hm.dst, Mod.run_s]; exact h3.2.2 g hg
     case own g0 sz es =>
      refine ⟨h3.1, h3.2.1, h3.2.2.1, h3.2.2.2.1, fun g hg => ⟨?_, Kept.putS (dcond_triv (by rw [ho]; simp) hst _) hk hst (by unfold kd; rw [ho])⟩⟩
      rw [Mod.run_put hm.dst, Mod.run_s]; exact h3.2.2.2.2 g hg
     case base v =>
      unfold aAppendM at h3 ⊢
      split at h3
      ·split at h3
       ·rename_i hx0
        rw [if_pos hx0]
        exact ⟨h3.1, by rw [Mod.run_put hm.dst]; exact h3.2, Kept.put (dcond_triv (by rw [ho]; simp) hst _) hk hst⟩
       ·rename_i hx0
        rw [if_neg hx0]
        rw [Mod.s] at h3
        obtain ⟨m2, m3, cs, m4, m5⟩ := h3
        refine ⟨m2, m3, cs, m4, fun b' cap' cs' q1 q2 q3 q4 q5 => ⟨?_, Kept.putS (dcond_triv (by rw [ho]; simp) hst _) hk hst (by unfold kd; rw [ho])⟩⟩
        rw [Mod.run_put hm.dst, Mod.run_s]; exact m5 b' cap' cs' q1 q2 q3 q4 q5
      ·exact h3.elim
 ·exact h.elim
theorem pass_aop (hm : m.Ok all o) (hd : dcond (allocsOf all) o (m.run st)) (h : aop P o (m.run st) K) : dcond (allocsOf all) o st ∧ aop P o st fun st' => K (m.run st') ∧ Kept m o (allocsOf all) st st' := by
 unfold aop at h ⊢
 split at h
 ·rename_i t ho
  refine ⟨by unfold dcond; rw [ho]; trivial, ?_⟩
  cases hd' : tyOf P t with
  | none => rw [hd'] at h; exact h.elim
  | some d => rw [hd'] at h; exact pass_box hm (by unfold kd; rw [ho]) h
 ·rename_i t x ho
  have hx : (m.run st).eval x = st.eval x := hm.eval st (by rw [ho]; simp [Op.operands])
  rw [hx] at h
  exact ⟨by unfold dcond; rw [ho]; trivial, h.1, pass_box hm (by unfold kd; rw [ho]) h.2⟩
 ·rename_i t x y ho; exact pass_store hm ho hd h
 ·rename_i t x ho; exact pass_load hm ho hd h
 ·rename_i f args ts ho; exact ⟨by unfold dcond; rw [ho]; trivial, pass_call hm ho h⟩
 ·rename_i args ts ho; exact ⟨by unfold dcond; rw [ho]; trivial, pass_append hm ho h⟩
 ·rename_i h1 h2 h3 h4 h5 h6
  have hl : ∀ t x, o.op ≠ .load t x := fun t x e => h4 t x e
  have hs : ∀ t x y, o.op ≠ .store t x y := fun t x y e => h3 t x y e
  refine ⟨?_, pass_pure hm hl ?_ hs h⟩
  ·unfold dcond
   split
   ·rename_i e; exact absurd e (hl _ _)
   ·rename_i e; exact absurd e (hs _ _ _)
   ·trivial
  ·unfold kd
   split <;> first | (rename_i e; exact absurd e (h1 _)) | (rename_i e; exact absurd e (h2 _ _)) | simp
theorem aop_mono {K' : St → Prop} (hK : ∀ st', K st' → K' st') (h : aop P o st K) : aop P o st K' := by
 have hp : aPure P o st K → aPure P o st K' := fun h => by
  unfold aPure at h ⊢
  split at h
  ·exact ⟨h.1, h.2.1, hK _ h.2.2⟩
  ·exact h.elim
 have hb : ∀ t cs, mkBox o t cs st K → mkBox o t cs st K' := fun t cs h => by
  unfold mkBox at h ⊢
  split at h
  ·exact ⟨h.1, h.2.1, hK _ h.2.2⟩
  ·exact h.elim
 unfold aop at h ⊢
 split at h
 ·split at h
  ·exact hb _ _ h
  ·exact h.elim
 ·exact ⟨h.1, hb _ _ h.2⟩
 ·unfold aStore at h ⊢
  split at h
  ·refine ⟨h.1, h.2.1, h.2.2.1, ?_⟩
   have h := h.2.2.2
   split at h
   ·split at h
    ·exact ⟨h.1, hK _ h.2⟩
    ·exact h.elim
   ·split at h
    ·exact ⟨h.1, hK _ h.2⟩
    ·exact h.elim
   ·exact h.elim
  ·exact h.elim
 ·unfold aLoad at h ⊢
  split at h
  ·split at h
   ·split at h
    ·exact ⟨h.1, hK _ h.2⟩
    ·exact h.elim
   ·exact h.elim
  ·exact hp h
 ·unfold aCall at h ⊢
  split at h
  ·split at h
   ·exact ⟨h.1, h.2.monoR fun v s' h => hK _ h⟩
   ·exact h.elim
  ·exact h.elim
 ·unfold aAppend at h ⊢
  split at h
  ·refine ⟨h.1, ?_⟩
   have h := h.2
   split at h
   ·split at h
    ·split at h
     ·refine ⟨h.1, h.2.1, ?_⟩
      have h := h.2.2
      split at h
      ·split at h
       ·exact ⟨h.1, h.2.1, fun g hg => hK _ (h.2.2 g hg)⟩
       ·exact ⟨h.1, h.2.1, fun g hg => hK _ (h.2.2 g hg)⟩
       ·exact ⟨h.1, h.2.1, h.2.2.1, h.2.2.2.1, fun g hg => hK _ (h.2.2.2.2 g hg)⟩
       ·unfold aAppendM at h ⊢
        split at h
        ·split at h
         ·rename_i hx0
          rw [if_pos hx0]
          exact ⟨h.1, hK _ h.2⟩
         ·rename_i hx0
          rw [if_neg hx0]
          obtain ⟨m2, m3, cs, m4, m5⟩ := h
          exact ⟨m2, m3, cs, m4, fun b' cap' cs' q1 q2 q3 q4 q5 => hK _ (m5 b' cap' cs' q1 q2 q3 q4 q5)⟩
        ·exact h.elim
       ·exact h.elim
      ·exact h.elim
     ·exact h.elim
    ·exact h.elim
   ·exact h.elim
  ·exact h.elim
 ·exact hp h
theorem gstepD_mono {K' : St → Prop} (hK : ∀ st', K st' → K' st') (h : gstepD P all o st K) : gstepD P all o st K' := by
 unfold gstepD at h ⊢
 split at h
 ·exact ⟨h.1, aop_mono hK h.2⟩
 ·exact ⟨h.1, hK _ h.2⟩
 ·split at h
  ·rename_i hc; rw [if_pos hc]; exact ⟨h.1, aop_mono hK h.2⟩
  ·rename_i hc; rw [if_neg hc]; exact ⟨h.1, hK _ h.2⟩
 ·exact h.elim
theorem pass (hm : m.Ok all o) (h : gstepD P all o (m.run st) K) : gstepD P all o st fun st' => K (m.run st') ∧ (Kept m o (allocsOf all) st st' ∨ st' = st.put o.dst (.base undef)) := by
 unfold gstepD at h ⊢
 rw [hm.gd] at h
 have skip : dstOk o (m.run st) ∧ K ((m.run st).put o.dst (.base undef)) → dstOk o st ∧ (K (m.run (st.put o.dst (.base undef))) ∧ (Kept m o (allocsOf all) st (st.put o.dst (.base undef)) ∨ st.put o.dst (.base undef) = st.put o.dst (.base undef))) := fun h => by
  rw [dstOk_run] at h
  refine ⟨h.1, ?_, .inr rfl⟩
  rw [Mod.run_put hm.dst]; exact h.2
 have go : dcond (allocsOf all) o (m.run st) ∧ aop P o (m.run st) K → dcond (allocsOf all) o st ∧ aop P o st fun st' => K (m.run st') ∧ (Kept m o (allocsOf all) st st' ∨ st' = st.put o.dst (.base undef)) := fun h => by
  have := pass_aop hm h.1 h.2
  exact ⟨this.1, aop_mono (fun st' h => ⟨h.1, .inl h.2⟩) this.2⟩
 split at h
 ·exact go h
 ·exact skip h
 ·split at h
  ·rename_i hc; rw [if_pos hc]; exact go h
  ·rename_i hc; rw [if_neg hc]; exact skip h
 ·exact h.elim
/-- Which earlier operations let a later one by. -/
def passes (all : Array Oper) (j i : Oper) : Bool :=
 j.apart all i && (match kd j with
  | .eff => false
  | .load => (decide (kd i ≠ .eff) || (allocsOf all).contains (100000 + j.dst.getD 0)) && match i.op with
   | .store _ (.tmp t) _ => (allocsOf all).contains t
   | .store _ _ _ => false
   | _ => true
  | _ => true)
theorem kd_alloc {o : Oper} (h : kd o = .alloc) : (∃ t, o.op = .alloc t) ∨ ∃ t x, o.op = .box t x := by
 unfold kd at h
 split at h <;> first | cases h | skip
 ·rename_i t e; exact .inl ⟨t, e⟩
 ·rename_i t x e; exact .inr ⟨t, x, e⟩
theorem kd_load {o : Oper} (h : kd o = .load) : ∃ t x, o.op = .load t x := by
 unfold kd at h
 split at h <;> first | cases h | skip
 rename_i t x e; exact ⟨t, x, e⟩
/-- Two operations change places. -/
theorem swap {oj oi : Oper} (hmem : oi ∈ all.toList) (hja : kd oj = .alloc → ∀ t0, oj.dst = some t0 → (allocsOf all).contains t0 = true) (hp : passes all oj oi = true) (h : gstepD P all oj st fun st' => gstepD P all oi st' K) : gstepD P all oi st fun st' => gstepD P all oj st' K := by
 unfold passes at hp
 simp only [Bool.and_eq_true] at hp
 obtain ⟨hap, hk⟩ := hp
 obtain ⟨a1, a2, a3⟩ := Oper.apart_spec hap
 have a4 : ∀ d, oi.dst = some d → d ∉ oj.looksAt all := a3
 -- the earlier one's view is the same behind the later one
 have look : ∀ (st' : St), (∀ t, oi.dst ≠ some t → st'.E t = st.E t) → ∀ x ∈ oj.op.operands, st'.eval x = st.eval x := fun st' hE x hx => by
  cases x <;> try rfl
  rename_i t
  refine hE t fun e => a4 t e ?_
  unfold Oper.looksAt
  exact List.mem_append.2 (.inl (List.mem_filterMap.2 ⟨.tmp t, Array.mem_def.1 hx, rfl⟩))
 have gd : ∀ (st' : St), (∀ t, oi.dst ≠ some t → st'.E t = st.E t) → gdOf all oj st' = gdOf all oj st := fun st' hE => by
  unfold gdOf
  cases hg : oj.guard with
  | none => rfl
  | some x =>
   obtain ⟨j, b⟩ := x
   simp only
   cases ht : (all[j]?).bind (·.dst) with
   | none => rfl
   | some t =>
    have : st'.E t = st.E t := hE t fun e => a4 t e (by
     unfold Oper.looksAt
     refine List.mem_append.2 (.inr ?_)
     simp [hg, ht])
    simp only [this]
 have keptE : ∀ (m : Mod) (st' : St), (Kept m oi (allocsOf all) st st' ∨ st' = st.put oi.dst (.base undef)) → (∀ t, oi.dst ≠ some t → st'.E t = st.E t) ∧ st'.n = st.n := fun m st' h => by
  rcases h with h | rfl
  ·exact ⟨h.E, h.n⟩
  ·refine ⟨fun t ht => ?_, put_n _ _ _⟩
   cases hd : oi.dst with
   | none => rfl
   | some d => exact upd_other _ _ _ _ (fun e => ht (by rw [hd, e]))
 have keptS : ∀ (m : Mod) (st' : St), (Kept m oi (allocsOf all) st st' ∨ st' = st.put oi.dst (.base undef)) → (kd oi = .eff → (allocsOf all).contains (100000 + oj.dst.getD 0) = true) → (allocsOf all).contains (100000 + oj.dst.getD 0) = false → st'.s = st.s := fun m st' h he hA => by
  rcases h with h | rfl
  ·refine h.s fun hk => ?_
   have := he hk
   rw [hA] at this; cases this
  ·exact put_s _ _ _
 -- what the earlier one does is one change
 have go : ∀ (m : Mod), m.d = oj.dst → (∀ t0 x, m.box = some (t0, x) → kd oj = .alloc ∧ oj.dst = some t0) → gstepD P all oi (m.run st) K → (∀ (st' : St), (Kept m oi (allocsOf all) st st' ∨ st' = st.put oi.dst (.base undef)) → K (m.run st') → gstepD P all oj st' K) → gstepD P all oi st fun st' => gstepD P all oj st' K := by
  intro m hmd hmb h1 h2
  have hm : m.Ok all oi := ⟨fun t ht => a1 t (hmd ▸ ht), fun t ht => a2 t (hmd ▸ ht), fun t0 x hb => ⟨by rw [hmd]; exact (hmb t0 x hb).2, hja (hmb t0 x hb).1 t0 (hmb t0 x hb).2⟩⟩
  exact gstepD_mono (fun st' ⟨k1, k2⟩ => h2 st' k2 k1) (pass hm h1)
 have skip : dstOk oj st ∧ gstepD P all oi (st.put oj.dst (.base undef)) K → (∀ st', gdOf all oj st' = gdOf all oj st → dstOk oj st' ∧ K (st'.put oj.dst (.base undef)) → gstepD P all oj st' K) → gstepD P all oi st fun st' => gstepD P all oj st' K := fun h1 h2 => by
  refine go ⟨oj.dst, .base undef, none⟩ rfl (fun _ _ h => by cases h) h1.2 fun st' hk hK => h2 st' (gd st' (keptE _ st' hk).1) ⟨?_, hK⟩
  have := (keptE _ st' hk).2
  unfold dstOk at h1 ⊢; rw [this]; exact h1.1
 have act : dcond (allocsOf all) oj st ∧ aop P oj st (fun st' => gstepD P all oi st' K) → (∀ st', gdOf all oj st' = gdOf all oj st → dcond (allocsOf all) oj st' ∧ aop P oj st' K → gstepD P all oj st' K) → gstepD P all oi st fun st' => gstepD P all oj st' K := fun ⟨hd, h1⟩ h2 => by
  cases hkj : kd oj with
  | eff => rw [hkj] at hk; cases hk
  | alloc =>
   have dc : ∀ st', dcond (allocsOf all) oj st' := fun st' => by
    rcases kd_alloc hkj with ⟨t, e⟩ | ⟨t, x, e⟩ <;> unfold dcond <;> rw [e] <;> trivial
   have boxed : ∀ t cs, (∀ (st' : St), (∀ t, oi.dst ≠ some t → st'.E t = st.E t) → mkBox oj t cs st' K → aop P oj st' K) → mkBox oj t cs st (fun st' => gstepD P all oi st' K) → gstepD P all oi st fun st' => gstepD P all oj st' K := by
    intro t cs back hb
    unfold mkBox at hb
    cases hdj : oj.dst with
    | none => rw [hdj] at hb; exact hb.elim
    | some t0 =>
     rw [hdj] at hb
     simp only at hb
     obtain ⟨b1, b2, b3⟩ := hb
     refine go ⟨oj.dst, .loc t0 0, some (t0, (cs, t))⟩ rfl (fun t1 x h => by cases h; exact ⟨hkj, hdj⟩) ?_ fun st' hkp hK => h2 st' (gd st' (keptE _ st' hkp).1) ⟨dc st', back st' (keptE _ st' hkp).1 ?_⟩
     ·unfold Mod.run; simp only; rw [hdj]; exact b3
     ·unfold mkBox
      rw [hdj]
      unfold Mod.run at hK
      simp only [hdj] at hK
      refine ⟨by rw [(keptE _ st' hkp).2]; exact b1, ?_, hK⟩
      rcases hkp with hkp | rfl
      ·rw [hkp.locM t0 (cs, t) rfl]; exact b2
      ·rw [put_loc]; exact b2
   rcases kd_alloc hkj with ⟨t, e⟩ | ⟨t, x, e⟩
   ·unfold aop at h1
    rw [e] at h1
    simp only at h1
    cases hty : tyOf P t with
    | none => rw [hty] at h1; exact h1.elim
    | some d =>
     rw [hty] at h1
     refine boxed t _ (fun st' _ hb => ?_) h1
     unfold aop; rw [e]; simp only [hty]; exact hb
   ·unfold aop at h1
    rw [e] at h1
    simp only at h1
    refine boxed t _ (fun st' hE hb => ?_) h1.2
    unfold aop; rw [e]; simp only
    have : st'.eval x = st.eval x := look st' hE x (by rw [e]; simp [Op.operands])
    rw [this]; exact ⟨h1.1, hb⟩
  | load =>
   obtain ⟨t, x, e⟩ := kd_load hkj
   rw [hkj] at hk
   simp only [Bool.and_eq_true, Bool.or_eq_true, decide_eq_true_eq] at hk
   obtain ⟨hke, hk⟩ := hk
   have hke : kd oi = .eff → (allocsOf all).contains (100000 + oj.dst.getD 0) = true := fun h => by
    rcases hke with h' | h'
    ·exact absurd h h'
    ·exact h'
   have hx : ∀ (st' : St), (∀ t, oi.dst ≠ some t → st'.E t = st.E t) → st'.eval x = st.eval x := fun st' hE => look st' hE x (by rw [e]; simp [Op.operands])
   have hd0 := hd
   unfold dcond at hd
   rw [e] at hd
   simp only at hd
   unfold aop at h1
   rw [e] at h1
   simp only at h1
   unfold aLoad at h1
   have key : aPure P oj st (fun st' => gstepD P all oi st' K) → (∀ b off, st.eval x ≠ .ptr b off) → gstepD P all oi st fun st' => gstepD P all oj st' K := by
    intro h1 hnp
    unfold aPure at h1
    cases hpv : pval P st oj.op with
    | none => rw [hpv] at h1; exact h1.elim
    | some vs =>
     obtain ⟨v, side⟩ := vs
     rw [hpv] at h1
     simp only at h1
     refine go ⟨oj.dst, v, none⟩ rfl (fun _ _ h => by cases h) h1.2.2 fun st' hkp hK => h2 st' (gd st' (keptE _ st' hkp).1) ⟨?_, ?_⟩
     ·unfold dcond; rw [e]; simp only [hx st' (keptE _ st' hkp).1]; exact hd
     ·unfold aop; rw [e]; simp only
      have hxx := hx st' (keptE _ st' hkp).1
      have hpv' : pval P st' oj.op = some (v, side) := by
       rw [← hpv, e]
       simp only [pval, hxx]
       cases tyOf P t with
       | none => rfl
       | some d =>
        simp only
        cases he : st.eval x <;> try rfl
        rename_i k off
        rw [he] at hd
        simp only at hd
        have : st'.loc k = st.loc k := by
         rcases hkp with hkp | rfl
         ·by_cases ha : kd oi = .alloc
          ·obtain ⟨t1, e1, e2, e3⟩ := hkp.locA ha
           by_cases ek : k = t1
           ·exfalso
            rw [e] at hpv
            simp only [pval, he, ek, e2] at hpv
            cases hq : tyOf P t <;> rw [hq] at hpv <;> cases hpv
           ·exact e3 k ek
          ·by_cases hs : ∃ t x y, oi.op = .store t x y
           ·obtain ⟨t2, x2, y2, es⟩ := hs
            rw [es] at hk
            have hdi := hkp.dc
            unfold dcond at hdi
            rw [es] at hdi
            simp only at hdi
            refine hkp.locS t2 x2 y2 es k fun off' he' => ?_
            rw [he'] at hdi
            cases x2 <;> simp only at hk hdi <;> try (cases hk; done)
            rename_i t3
            rw [if_pos hk] at hdi
            rw [hdi, hk] at hd; cases hd
           ·rw [hkp.locE ha (fun t x y e => hs ⟨t, x, y, e⟩)]
         ·rw [put_loc]
        simp only [this]
      have hp' : aPure P oj st' K := by
       unfold aPure
       rw [hpv']
       refine ⟨h1.1, ?_, hK⟩
       have := (keptE _ st' hkp).2
       have h11 := h1.2.1
       unfold dstOk at h11 ⊢; rw [this]; exact h11
      unfold aLoad
      rw [hxx]
      cases he : st.eval x <;> first | exact hp' | exact absurd he (hnp _ _)
   cases he : st.eval x <;> rw [he] at hd h1 <;> simp only at hd h1 <;> first | exact hd.elim | exact key h1 (by rw [he]; simp) | skip
   rename_i b off
   cases hty : tyOf P t with
   | none => rw [hty] at h1; exact h1.elim
   | some d =>
    rw [hty] at h1
    cases hb : st.s.box b with
    | none => rw [hb] at h1; exact h1.elim
    | some z =>
     obtain ⟨cs, ty⟩ := z
     rw [hb] at h1
     simp only at h1
     cases hr : rd d cs off with
     | none => rw [hr] at h1; exact h1.elim
     | some v =>
      rw [hr] at h1
      simp only at h1
      refine go ⟨oj.dst, v, none⟩ rfl (fun _ _ h => by cases h) h1.2 fun st' hkp hK => h2 st' (gd st' (keptE _ st' hkp).1) ⟨?_, ?_⟩
      ·unfold dcond; rw [e]; simp only [hx st' (keptE _ st' hkp).1, he]; exact hd
      ·unfold aop; rw [e]; simp only
       unfold aLoad
       rw [hx st' (keptE _ st' hkp).1, he]
       simp only
       rw [keptS _ st' hkp hke hd, hty, hb]
       simp only [hr]
       refine ⟨?_, hK⟩
       have := (keptE _ st' hkp).2
       have h11 := h1.1
       unfold dstOk at h11 ⊢; rw [this]; exact h11
  | pure =>
   have hnl : ∀ t x, oj.op ≠ .load t x := fun t x e => by unfold kd at hkj; rw [e] at hkj; cases hkj
   have hns : ∀ t x y, oj.op ≠ .store t x y := fun t x y e => by unfold kd at hkj; rw [e] at hkj; cases hkj
   have hna : ∀ t, oj.op ≠ .alloc t := fun t e => by unfold kd at hkj; rw [e] at hkj; cases hkj
   have hnb : ∀ t x, oj.op ≠ .box t x := fun t x e => by unfold kd at hkj; rw [e] at hkj; cases hkj
   have hnc : ∀ f a ts, oj.op ≠ .call { callee := .value f, args := a, argTypes := ts } := fun f a ts e => by unfold kd at hkj; rw [e] at hkj; cases hkj
   have hnp : ∀ a ts, oj.op ≠ .call { callee := .builtin .append, args := a, argTypes := ts } := fun a ts e => by unfold kd at hkj; rw [e] at hkj; cases hkj
   have hpure : ∀ st' K', aop P oj st' K' ↔ aPure P oj st' K' := fun st' K' => by
    unfold aop
    split
    ·rename_i e; exact absurd e (hna _)
    ·rename_i e; exact absurd e (hnb _ _)
    ·rename_i e; exact absurd e (hns _ _ _)
    ·rename_i e; exact absurd e (hnl _ _)
    ·rename_i e; exact absurd e (hnc _ _ _)
    ·rename_i e; exact absurd e (hnp _ _)
    ·exact Iff.rfl
   rw [hpure] at h1
   unfold aPure at h1
   cases hpv : pval P st oj.op with
   | none => rw [hpv] at h1; exact h1.elim
   | some vs =>
    obtain ⟨v, side⟩ := vs
    rw [hpv] at h1
    simp only at h1
    refine go ⟨oj.dst, v, none⟩ rfl (fun _ _ h => by cases h) h1.2.2 fun st' hkp hK => h2 st' (gd st' (keptE _ st' hkp).1) ⟨dcond_triv hnl hns _, ?_⟩
    rw [hpure]
    unfold aPure
    rw [pval_congr hnl (look st' (keptE _ st' hkp).1), hpv]
    refine ⟨h1.1, ?_, hK⟩
    have := (keptE _ st' hkp).2
    have h11 := h1.2.1
    unfold dstOk at h11 ⊢; rw [this]; exact h11
 unfold gstepD at h
 split at h
 ·rename_i hg
  refine act h fun st' hgd hh => ?_
  unfold gstepD; rw [hgd, hg]; exact hh
 ·rename_i hg
  refine skip h fun st' hgd hh => ?_
  unfold gstepD; rw [hgd, hg]; exact hh
 ·rename_i c b hg
  split at h
  ·rename_i hc
   refine act h fun st' hgd hh => ?_
   unfold gstepD; rw [hgd, hg]; simp only; rw [if_pos hc]; exact hh
  ·rename_i hc
   refine skip h fun st' hgd hh => ?_
   unfold gstepD; rw [hgd, hg]; simp only; rw [if_neg hc]; exact hh
 ·exact h.elim
end Go.Am
