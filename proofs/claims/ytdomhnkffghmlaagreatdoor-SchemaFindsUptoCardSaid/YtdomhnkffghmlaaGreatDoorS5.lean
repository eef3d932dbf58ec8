/- Arithmetic on integers, without the model's monad. -/
import Derived.Test.YtdomhnkffghmlaaGreatDoorS4
import Derived.IntWalk
set_option linter.unusedVariables false
set_option linter.unusedSimpArgs false
namespace Go.Ev
def iEq : Int → Int → Bool
 | .ofNat a, .ofNat b => Nat.beq a b
 | .negSucc a, .negSucc b => Nat.beq a b
 | _, _ => false
def iLt : Int → Int → Bool
 | .ofNat a, .ofNat b => Nat.blt a b
 | .negSucc a, .negSucc b => Nat.blt b a
 | .negSucc _, .ofNat _ => true
 | .ofNat _, .negSucc _ => false
theorem iEq_eq (x y : Int) : iEq x y = (x == y) := by
 have : iEq x y = true ↔ x = y := by
  cases x <;> cases y <;> simp [iEq] <;> omega
 cases h : iEq x y with
 | true => rw [this.1 h]; simp
 | false =>
  have : x ≠ y := fun e => by rw [this.2 e] at h; cases h
  simp [this]
theorem iLt_eq (x y : Int) : iLt x y = decide (x < y) := by
 have : iLt x y = true ↔ x < y := by
  cases x <;> cases y <;> simp [iLt, Nat.blt_eq] <;> omega
 cases h : iLt x y with
 | true => simp [this.1 h]
 | false =>
  have : ¬ x < y := fun e => by rw [this.2 e] at h; cases h
  simp [this]
def kNum : IntKind → Nat
 | .i8 => 0 | .i16 => 1 | .i32 => 2 | .i64 => 3 | .u8 => 4 | .u16 => 5 | .u32 => 6 | .u64 => 7
theorem kNum_eq {k k' : IntKind} (h : Nat.beq (kNum k) (kNum k') = true) : k = k' := by
 have := Nat.eq_of_beq_eq_true h
 cases k <;> cases k' <;> first | rfl | (simp [kNum] at this)
def fastI (op : BinOp) (k : IntKind) (a b : Int) : Option Value := match op with
 | .eql => some (.bool (iEq a b))
 | .neq => some (.bool (!iEq a b))
 | .lss => some (.bool (iLt a b))
 | .gtr => some (.bool (iLt b a))
 | .leq => some (.bool (!iLt b a))
 | .geq => some (.bool (!iLt a b))
 | .add => match k, a, b with
  | .i64, .ofNat a, .ofNat b => bif Nat.ble (a + b) 9223372036854775807 then some (.int .i64 (.ofNat (a + b))) else none
  | _, _, _ => none
 | .sub => match k, a, b with
  | .i64, .ofNat a, .ofNat b => bif Nat.ble b a && Nat.ble a 9223372036854775807 then some (.int .i64 (.ofNat (a - b))) else none
  | _, _, _ => none
 | _ => none
def fastB (op : BinOp) (x y : Value) : Option Value := match x, y with
 | .int k a, .int k' b => bif Nat.beq (kNum k) (kNum k') then fastI op k a b else none
 | _, _ => none
theorem fastB_spec {P : Program} {op : BinOp} {t : TypeId} {x y : Operand} {vx vy v : Value} (h : fastB op vx vy = some v) : pureS P (do eqGuard op t x y vx vy; binOp op t vx vy) = some v := by
 unfold fastB at h
 split at h
 ·rename_i k a k' b
  cases hk : Nat.beq (kNum k) (kNum k') with
  | false => rw [hk] at h; cases h
  | true =>
   rw [hk] at h
   obtain rfl := kNum_eq hk
   simp only [cond_true] at h
   unfold fastI at h
   split at h
   ·cases h; rw [iEq_eq]; cases k <;> rfl
   ·cases h; rw [iEq_eq]; cases k <;> rfl
   ·cases h; rw [iLt_eq]; cases k <;> rfl
   ·cases h; rw [iLt_eq]; cases k <;> rfl
   ·cases h
    rw [iLt_eq]
    have : (!decide (b < a)) = decide (a ≤ b) := by
     by_cases e : b < a
     ·have : ¬ a ≤ b := by omega
      simp [e, this]
     ·have : a ≤ b := by omega
      simp [e, this]
    rw [this]
    cases k <;> rfl
   ·cases h
    rw [iLt_eq]
    have : (!decide (a < b)) = decide (a ≥ b) := by
     by_cases e : a < b
     ·have : ¬ a ≥ b := by omega
      simp [e, this]
     ·have : a ≥ b := by omega
      simp [e, this]
    rw [this]
    cases k <;> rfl
   ·split at h
    ·rename_i a b
     cases hb : Nat.ble (a + b) 9223372036854775807 with
     | false => rw [hb] at h; cases h
     | true =>
      rw [hb] at h
      cases h
      have hb := Nat.le_of_ble_eq_true hb
      have hw := IntWalk.i64_in (Int.ofNat a + Int.ofNat b) (by simp only [Int.ofNat_eq_natCast]; omega)
      show some (Value.int .i64 (IntKind.i64.wrap (Int.ofNat a + Int.ofNat b))) = _
      rw [hw]
      rfl
    ·cases h
   ·split at h
    ·rename_i a b
     cases hb : (Nat.ble b a && Nat.ble a 9223372036854775807) with
     | false => rw [hb] at h; cases h
     | true =>
      rw [hb] at h
      cases h
      simp only [Bool.and_eq_true] at hb
      have hb1 := Nat.le_of_ble_eq_true hb.1
      have hb2 := Nat.le_of_ble_eq_true hb.2
      have hw := IntWalk.i64_in (Int.ofNat a - Int.ofNat b) (by simp only [Int.ofNat_eq_natCast]; omega)
      show some (Value.int .i64 (IntKind.i64.wrap (Int.ofNat a - Int.ofNat b))) = _
      rw [hw]
      congr 2
      simp only [Int.ofNat_eq_natCast]
      omega
    ·cases h
   ·cases h
 ·cases h
end Go.Ev
namespace Go.Ev
noncomputable section
open Go.Am
variable {P : Program}
def plainO (T : Tr EV) (x : Operand) : Option Value := (evO T x).bind toV
def pickE (T : Tr EV) (c x y : Operand) : Option EV := match evO T c with
 | some (.v (.bool true)) => evO T x
 | some (.v (.bool false)) => evO T y
 | _ => none
def fieldAddrE (P : Program) (T : Tr EV) (s : TypeId) (x : Operand) (f : Nat) : Option EV := match evO T x with
 | some (.p k off) => match tyOf P s with
  | some d => match d.shape with
   | .struct fs => match fs[f]? with
    | some (fo, size, _) => bif Nat.beq size 0 then none else some (.p k (off + fo))
    | none => none
   | _ => none
  | none => none
 | _ => none
def fieldE (P : Program) (T : Tr EV) (s : TypeId) (x : Operand) (f : Nat) : Option EV := match evO T x with
 | some (.ag cs) => match tyOf P s with
  | some d => match d.shape with
   | .struct fs => match fs[f]? with
    | some (fo, size, g) => partE g size cs fo
    | none => none
   | _ => none
  | none => none
 | _ => none
def indexAddrE' (P : Program) (T : Tr EV) (t : TypeId) (x y : Operand) : Option EV := match evO T x, evO T y with
 | some cx, some cy => match ixE cy, tyOf P t with
  | some i, some d => match d.shape with
   | .slice e => match tyOf P e with
    | some de => indexAddrE de.size cx i
    | none => none
   | _ => none
  | _, _ => none
 | _, _ => none
def buildE (P : Program) (T : Tr EV) (t : TypeId) (parts : Array (Nat × Operand)) : Option EV := match tyOf P t with
 | some d => match d.shape with
  | .struct fs => match evParts T parts.toList with
   | some ps => match fillE (fun i => (fs[i]?).map fun f => (f.1, f.2.1)) (d.zero.map .v) ps with
    | some cs => some (.ag cs)
    | none => none
   | none => none
  | _ => none
 | none => none
def makeIfE (P : Program) (T : Tr EV) (t : TypeId) (x : Operand) : Option EV := match evO T x, P.underlying t with
 | some c, some u => bif isIf u then none else some (.ifc t c)
 | _, _ => none
def assertE (P : Program) (T : Tr EV) (x : Operand) (xt t : TypeId) (ok : Bool) : Option EV := match evO T x, P.underlying t with
 | some (.ifc t' c), some u => bif isIf u then none else
  bif Nat.beq t' t then some (asV c ok) else
  match ok, tyOf P t, (P.info? t).bind (·.zero) with
  | true, some d, some z => some (.tu [EV.of z, .v (.bool false)])
  | _, _, _ => none
 | some (.v .nilIface), some u => (pureS P (Instr.typeAssert .nilIface xt t ok)).bind fun v => some (EV.of2 v)
 | _, _ => none
where EV.of2 : Value → EV
 | .tuple vs => .tu (vs.toList.map EV.of)
 | v => EV.of v
def makeFuncE (T : Tr EV) (f : Fn) (x y : Array Operand) : Option EV := match f, evL T x.toList, evL T y.toList with
 | .func g, some cx, some cy => some (.fn g cx cy)
 | _, _, _ => none
def extractE (T : Tr EV) (x : Operand) (i : Nat) : Option EV := match evO T x with
 | some (.tu vs) => vs[i]?
 | _ => none
def nilCheckE (T : Tr EV) (x : Operand) : Option EV := match evO T x with
 | some (.p k off) => some (.p k off)
 | some (.fn f a b) => some (.fn f a b)
 | some (.ifc t y) => some (.ifc t y)
 | _ => none
def binE (P : Program) (T : Tr EV) (op : BinOp) (t : TypeId) (x y : Operand) : Option EV := match evO T x, plainO T y with
 | some cx, some vy => match toV cx with
  | some vx => match fastB op vx vy with
   | some v => some (EV.of v)
   | none => (pureS P (do eqGuard op t x y vx vy; binOp op t vx vy)).bind fun v => some (EV.of v)
  | none => match P.underlying t with
   | some u => nilCmp op u cx vy
   | none => none
 | _, _ => none
def optV (T : Tr EV) : Option Operand → Option (Option Value)
 | none => some none
 | some x => (plainO T x).bind fun v => some (some v)
def plainS (T : Tr EV) (x : Operand) (k : Value → Option Value) : Option EV := (plainO T x).bind fun v => (k v).bind fun y => some (EV.of y)
def plainL (T : Tr EV) : List Operand → Option (List Value)
 | [] => some []
 | x :: l => (plainO T x).bind fun v => (plainL T l).bind fun y => some (v :: y)
def nextV : Next → Option Value
 | .value v => some v
 | _ => none
def lenE (T : Tr EV) : List Operand → Option EV
 | [x] => match evO T x with
  | some (.sl _ _ len _ _) => some (.v (.int .i64 len))
  | _ => none
 | _ => none
def builtinE (P : Program) (T : Tr EV) (b : Builtin) (ts : Array TypeId) (ty : TypeId) (args : Array Operand) : Option EV := match plainL T args.toList with
 | some l => ((pureS P (builtin b ts ty (args.map fun | .const _ => true | _ => false) l.toArray)).bind nextV).bind fun v => some (EV.of v)
 | none => match b, ts.toList with
  | .len, [t] => match P.underlying t with
   | some (.slice _) => lenE T args.toList
   | _ => none
  | _, _ => none
/-- What needs no memory. -/
def evPure (P : Program) (T : Tr EV) (o : Oper) : Option EV := match o.op with
 | .move x => evO T x
 | .assign x => evO T x
 | .pick c x y => pickE T c x y
 | .fieldAddr s x f => fieldAddrE P T s x f
 | .field s x f => fieldE P T s x f
 | .indexAddr t x y => indexAddrE' P T t x y
 | .index t x y => (plainO T y).bind fun vy => plainS T x fun vx => pureS P (Instr.index t vx vy)
 | .build t parts => buildE P T t parts
 | .slice t x lo hi mx => match optV T lo, optV T hi, optV T mx with
  | some l, some h, some m => plainS T x fun vx => pureS P (Instr.sliceAt t vx l h m)
  | _, _, _ => none
 | .makeInterface t x => makeIfE P T t x
 | .typeAssert x xt t ok => assertE P T x xt t ok
 | .makeFunc f x y => makeFuncE T f x y
 | .extract x i => extractE T x i
 | .nilCheck x => nilCheckE T x
 | .binOp op t x y _ => binE P T op t x y
 | .unOp op _ x => plainS T x fun v => pureS P (Op.unary op v)
 | .convert s t x => plainS T x fun v => pureS P (convert s t v)
 | .call { callee := .builtin b, args := args, argTypes := ts } => builtinE P T b ts o.type args
 | _ => none
section
variable {n : Nat} {w0 : Base} {r : Env} {T : Tr EV} {H : Heap} {a : Act} {w : World} {o : Oper}
theorem ARel.plainO (h : ARel n r T a) {x : Operand} {v : Value} (hx : plainO T x = some v) : a.eval x = v := h.plain hx
theorem ARel.optV (h : ARel n r T a) : ∀ {x : Option Operand} {v : Option Value}, optV T x = some v → x.map a.eval = v
 | none, v, e => by cases e; rfl
 | some x, v, e => by
  simp only [Ev.optV, Option.bind_eq_some_iff] at e
  obtain ⟨y, h1, h2⟩ := e
  cases h2
  simp [h.plainO h1]
theorem ARel.plainL (h : ARel n r T a) : ∀ {l : List Operand} {vs : List Value}, plainL T l = some vs → l.map a.eval = vs
 | [], vs, e => by cases e; rfl
 | x :: l, vs, e => by
  simp only [Ev.plainL, Option.bind_eq_some_iff] at e
  obtain ⟨v, h1, y, h2, h3⟩ := e
  cases h3
  simp [h.plainO h1, h.plainL h2]
theorem plainS_done {x : Operand} {k : Value → Option Value} {c : EV} (h : plainS T x k = some c) (hA : ARel n r T a) (hk : ∀ v y, a.eval x = v → k v = some y → ∀ w, (execOp a.eval o).run P w = .ok (.value y) w) : PDone P r o a c := by
 simp only [plainS, Option.bind_eq_some_iff] at h
 obtain ⟨v, h1, y, h2, h3⟩ := h
 cases h3
 exact ⟨y, hk v y (hA.plainO h1) h2, ren_of y⟩
theorem of2_ren (v : Value) : ren r (assertE.EV.of2 v) = some v := by
 unfold assertE.EV.of2
 split
 ·rename_i vs
  have : ∀ l : List Value, renL r (l.map EV.of) = some l := fun l => by
   induction l with
   | nil => rfl
   | cons x l ih => exact renL_cons.2 ⟨x, l, ren_of x, ih, rfl⟩
  simp [ren, this]
 ·exact ren_of _
theorem evPure_done {c : EV} (h : evPure P T o = some c) (hA : ARel n r T a) : PDone P r o a c := by
 unfold evPure at h
 split at h
 ·rename_i x ho
  exact ⟨a.eval x, fun w => by simp [execOp, ho], hA.eval h⟩
 ·rename_i x ho
  exact ⟨a.eval x, fun w => by simp [execOp, ho], hA.eval h⟩
 ·rename_i b x y ho
  unfold pickE at h
  split at h
  ·rename_i hb
   have hb' := (Option.some.inj (hA.eval hb)).symm
   exact ⟨a.eval x, fun w => by simp [execOp, ho, hb', asBool], hA.eval h⟩
  ·rename_i hb
   have hb' := (Option.some.inj (hA.eval hb)).symm
   exact ⟨a.eval y, fun w => by simp [execOp, ho, hb', asBool], hA.eval h⟩
  ·cases h
 ·rename_i s x f ho
  unfold fieldAddrE at h
  split at h
  ·rename_i k off hx
   split at h
   ·rename_i d hd
    split at h
    ·rename_i fs hfs
     split at h
     ·rename_i fo size g hf
      cases hs : Nat.beq size 0 with
      | true => rw [hs] at h; cases h
      | false =>
       rw [hs] at h
       cases h
       exact fieldAddr_done ho hd hfs hf (fun e => by rw [e] at hs; cases hs) hx hA
     ·cases h
    ·cases h
   ·cases h
  ·cases h
 ·rename_i s x f ho
  unfold fieldE at h
  split at h
  ·rename_i cs hx
   split at h
   ·rename_i d hd
    split at h
    ·rename_i fs hfs
     split at h
     ·rename_i fo size g hf
      exact field_done ho hd hfs hf hx h hA
     ·cases h
    ·cases h
   ·cases h
  ·cases h
 ·rename_i t x y ho
  unfold indexAddrE' at h
  split at h
  ·rename_i cx cy hx hy
   split at h
   ·rename_i i d hi hd
    split at h
    ·rename_i e hfs
     split at h
     ·rename_i de hde
      exact indexAddrE_done ho hd hfs hde hx hy hi h hA
     ·cases h
    ·cases h
   ·cases h
  ·cases h
 ·rename_i t x y ho
  obtain ⟨vy, hy, h⟩ := Option.bind_eq_some_iff.1 h
  exact plainS_done h hA fun v z hv hz w => by simp [execOp, ho, hv, hA.plainO hy, pureS_run w hz]
 ·rename_i t parts ho
  unfold buildE at h
  split at h
  ·rename_i d hd
   split at h
   ·rename_i fs hfs
    split at h
    ·rename_i ps hps
     split at h
     ·rename_i cs hf
      cases h
      exact build_done ho hd hfs hps hf hA
     ·cases h
    ·cases h
   ·cases h
  ·cases h
 ·rename_i t x lo hi mx ho
  split at h
  ·rename_i l hh m h1 h2 h3
   exact plainS_done h hA fun v z hv hz w => by simp [execOp, ho, hv, hA.optV h1, hA.optV h2, hA.optV h3, pureS_run w hz]
  ·cases h
 ·rename_i t x ho
  unfold makeIfE at h
  split at h
  ·rename_i c' u hx hu
   cases hn : isIf u with
   | true => rw [hn] at h; cases h
   | false =>
    rw [hn] at h
    cases h
    exact makeInterface_done ho hu hn hx hA
  ·cases h
 ·rename_i x xt t ok ho
  unfold assertE at h
  split at h
  ·rename_i t' c' u hx hu
   cases hn : isIf u with
   | true => rw [hn] at h; cases h
   | false =>
    rw [hn] at h
    simp only [cond_false] at h
    obtain ⟨g1, g2⟩ := typeAssert_done ho hu hn hx hA
    cases ht : Nat.beq t' t with
    | true =>
     rw [ht] at h
     cases h
     exact g1 (Nat.eq_of_beq_eq_true ht)
    | false =>
     rw [ht] at h
     simp only [cond_false] at h
     split at h
     ·rename_i d z hd hz
      cases h
      exact g2 (fun e => by rw [e] at ht; simp at ht) rfl hd z hz
     ·cases h
  ·rename_i u hx hu
   obtain ⟨v, h1, h2⟩ := Option.bind_eq_some_iff.1 h
   cases h2
   have hxv := (Option.some.inj (hA.eval hx)).symm
   exact ⟨v, fun w => by simp [execOp, ho, hxv, pureS_run w h1], of2_ren v⟩
  ·cases h
 ·rename_i f x y ho
  unfold makeFuncE at h
  split at h
  ·rename_i g cx cy h1 h2
   cases h
   exact makeFunc_done ho h1 h2 hA
  ·cases h
 ·rename_i x i ho
  unfold extractE at h
  split at h
  ·rename_i vs hx
   exact extract_done ho hx h hA
  ·cases h
 ·rename_i x ho
  unfold nilCheckE at h
  split at h
  ·rename_i k off hx; cases h; exact nilCheck_done ho hx (.inl ⟨_, _, rfl⟩) hA
  ·rename_i f y z hx; cases h; exact nilCheck_done ho hx (.inr (.inl ⟨_, _, _, rfl⟩)) hA
  ·rename_i t y hx; cases h; exact nilCheck_done ho hx (.inr (.inr ⟨_, _, rfl⟩)) hA
  ·cases h
 ·rename_i op t x y yt ho
  unfold binE at h
  split at h
  ·rename_i cx vy hx hy
   split at h
   ·rename_i vx hv
    obtain ⟨v, h1, h2⟩ : ∃ v, pureS P (do eqGuard op t x y vx vy; binOp op t vx vy) = some v ∧ c = EV.of v := by
     split at h
     ·rename_i v hf
      cases h
      exact ⟨v, fastB_spec hf, rfl⟩
     ·obtain ⟨v, h1, h2⟩ := Option.bind_eq_some_iff.1 h
      exact ⟨v, h1, (Option.some.inj h2).symm⟩
    subst h2
    have hxv : a.eval x = vx := hA.plainO (by unfold plainO; rw [hx]; exact hv)
    refine ⟨v, fun w => ?_, ren_of v⟩
    have := pureS_run w h1
    unfold execOp
    simp only [ho, hxv, hA.plainO hy]
    rw [Sem.run_bind, this]
    rfl
   ·split at h
    ·rename_i u hu
     exact nilCmp_done ho hu hx (hA.plainO hy) h hA
    ·cases h
  ·cases h
 ·rename_i op t x ho
  exact plainS_done h hA fun v z hv hz w => by simp [execOp, ho, hv, pureS_run w hz]
 ·rename_i s t x ho
  exact plainS_done h hA fun v z hv hz w => by simp [execOp, ho, hv, pureS_run w hz]
 ·rename_i b args ts ho
  unfold builtinE at h
  split at h
  ·rename_i l hl
   obtain ⟨v, h1, h2⟩ := Option.bind_eq_some_iff.1 h
   obtain ⟨nx, h3, h4⟩ := Option.bind_eq_some_iff.1 h1
   cases h2
   have hargs : args.map a.eval = l.toArray := by
    apply Array.ext'
    simpa using hA.plainL hl
   unfold nextV at h4
   split at h4
   ·cases h4
    refine ⟨v, fun w => ?_, ren_of v⟩
    have := pureS_run w h3
    unfold execOp
    simp only [ho, resolve, Sem.run_bind, Sem.run_pure, Result.andThen_ok, invoke, hargs]
    exact this
   ·cases h4
  ·split at h
   ·rename_i t hts
    split at h
    ·rename_i e hu
     unfold lenE at h
     split at h
     ·rename_i x hx
      split at h
      ·rename_i k off len cc oo hx'
       cases h
       have hxv := hA.eval hx'
       simp only [ren, Option.bind_eq_some_iff] at hxv
       obtain ⟨b, _, hxv⟩ := hxv
       have hxv := (Option.some.inj hxv).symm
       have h0 : args[0]? = some x := by have := congrArg (·[0]?) hx; simpa using this
       have t0 : ts[0]? = some t := by have := congrArg (·[0]?) hts; simpa using this
       refine ⟨.int .i64 len, fun w => ?_, rfl⟩
       unfold execOp
       simp [ho, resolve, invoke, builtin, Builtin.len_, t0, h0, hxv, run_underlying hu, goInt]
      ·cases h
     ·cases h
    ·cases h
   ·cases h
 ·cases h
def appE' (P : Program) (T : Tr EV) (H : Heap) (k : Nat) (ts : Array TypeId) (args : Array Operand) : Option (EV × Heap) := match ts.toList, args.toList with
 | [t, t'], [x, y] => bif Nat.beq t t' then (match tyOf P t, evO T x, evO T y with
  | some d, some cx, some cy => match d.shape with
   | .slice e => match tyOf P e with
    | some de => appE H k e de cx cy
    | none => none
   | _ => none
  | _, _, _ => none) else none
 | _, _ => none
def sliceE' (P : Program) (T : Tr EV) (H : Heap) (t : TypeId) (x : Operand) (lo hi mx : Option Operand) : Option EV := match evO T x, tyOf P t with
 | some (.sl k off len cc oo), some d => match d.shape with
  | .slice e => match tyOf P e with
   | some de => match boundE T 0 lo, boundE T len hi with
    | some l, some h => match mx, hi with
     | none, _ => sliceE de.size H (.sl k off len cc oo) l h none
     | some y, some _ => match boundE T 0 (some y) with
      | some j => sliceE de.size H (.sl k off len cc oo) l h (some j)
      | none => none
     | some _, none => none
    | _, _ => none
   | none => none
  | _ => none
 | _, _ => none
def bsE (P : Program) (T : Tr EV) (H : Heap) (k : Nat) (t : TypeId) (len : Nat) (parts : Array (Nat × Operand)) : Option (EV × Heap) := match tyOf P t, evParts T parts.toList with
 | some d, some ps => match d.shape with
  | .slice e => match tyOf P e with
   | some de => buildSliceE H k e de len ps
   | none => none
  | _ => none
 | _, _ => none
def ldE (P : Program) (T : Tr EV) (H : Heap) (t : TypeId) (x : Operand) : Option EV := match evO T x, tyOf P t with
 | some (.p k off), some d => match H.get k with
  | some (.live cs _ _) => rdE d cs off
  | _ => none
 | _, _ => none
/-- What needs memory, but for calls. -/
def evHeap (P : Program) (T : Tr EV) (H : Heap) (k : Nat) (o : Oper) : Option (EV × Heap) := match o.op with
 | .alloc t => match tyOf P t with
  | some d => newE H k (d.zero.map .v) t
  | none => none
 | .box t x => match evO T x with
  | some c => newE H k c.cells t
  | none => none
 | .load t x => (ldE P T H t x).bind fun c => some (c, H)
 | .store t x y => match tyOf P t, evO T x, evO T y with
  | some d, some cx, some cy => storeE H d cx cy
  | _, _, _ => none
 | .buildSlice t len parts => bsE P T H k t len parts
 | .slice t x lo hi mx => (sliceE' P T H t x lo hi mx).bind fun c => some (c, H)
 | .call { callee := .builtin .append, args := args, argTypes := ts } => appE' P T H k ts args
 | _ => none
theorem ldE_spec {t : TypeId} {x : Operand} {c : EV} (h : ldE P T H t x = some c) (hA : ARel n r T a) (hW : WRel w0 r H w) : ∃ k off cs ty sz b ccs vs tail cv, evO T x = some (.p k off) ∧ H.get k = some (.live cs ty sz) ∧ r.b k = some b ∧ w.heap[b]? = some (.cells ccs ty (0, 0)) ∧ renL r cs = some vs ∧ ccs.toList = vs ++ tail ∧
  ren r c = some cv ∧ ∀ w' (ccs' : Array Value) (tail' : List Value), w'.heap[b]? = some (.cells ccs' ty (0, 0)) → ccs'.toList = vs ++ tail' → (Instr.loadAt t (a.eval x)).run P w' = .ok cv w' := by
 unfold ldE at h
 split at h
 ·rename_i k off d hx hd
  split at h
  ·rename_i cs ty sz hk
   obtain ⟨b, ccs, h1, h2, h3, vs, h4, h5, h6⟩ := hW.blk k cs ty sz hk
   have ht : ∃ tail, ccs.toList = vs ++ tail := by
    rcases h6 with ⟨_, h6⟩ | ⟨_, h6, _⟩
    ·exact ⟨[], by simpa using h6⟩
    ·exact h6
   obtain ⟨tail, ht⟩ := ht
   have hxv := hA.eval hx
   simp only [ren, h1, Option.bind_some, Option.some.injEq] at hxv
   obtain ⟨cv, _, hcv⟩ := loadE_run (P := P) (w := w) hd h h4 h3 ht
   refine ⟨k, off, cs, ty, sz, b, ccs, vs, tail, cv, hx, hk, h1, h3, h4, ht, hcv, fun w' ccs' tail' k1 k2 => ?_⟩
   obtain ⟨cv', hrun, hcv'⟩ := loadE_run (P := P) (w := w') hd h h4 k1 k2
   obtain rfl : cv' = cv := Option.some.inj (hcv'.symm.trans hcv)
   rw [← hxv]; exact hrun
  ·cases h
 ·cases h
/-- What is read at a place of a row. -/
def rdA (ag : Bool) (n : Nat) (cs : List EV) (off : Nat) : Option EV := bif ag then (bif Nat.ble (off + n) cs.length then some (.ag ((cs.drop off).take n)) else none) else cs[off]?
def LdV (ag : Bool) (n : Nat) (vs : List Value) (off : Nat) (cv : Value) : Prop := match ag with | true => off + n ≤ vs.length ∧ cv = .agg ((vs.drop off).take n).toArray | false => vs[off]? = some cv
theorem rdA_ldV {ag : Bool} {m : Nat} {cs : List EV} {off : Nat} {c : EV} (h : rdA ag m cs off = some c) {vs tail : List Value} (hcs : renL r cs = some vs) : ∃ cv, ren r c = some cv ∧ LdV ag m (vs ++ tail) off cv := by
 have hl := renL_len hcs
 unfold rdA at h
 cases ag with
 | true =>
  simp only [cond_true] at h
  cases hb : Nat.ble (off + m) cs.length with
  | false => rw [hb] at h; cases h
  | true =>
   rw [hb] at h
   cases h
   have hb' := Nat.le_of_ble_eq_true hb
   refine ⟨.agg ((vs.drop off).take m).toArray, by simp only [ren, renL_take (renL_drop hcs off) m, Option.bind_some], ?_, ?_⟩
   ·rw [List.length_append]; omega
   ·rw [List.drop_append_of_le_length (by omega), List.take_append_of_le_length (by simp; omega)]
 | false =>
  obtain ⟨v, h1, h2⟩ := renL_get hcs h
  exact ⟨v, h2, by
   show (vs ++ tail)[off]? = some v
   rw [List.getElem?_append_left (List.getElem?_eq_some_iff.1 h1).1]; exact h1⟩
theorem ldV_run {t : TypeId} {d : TyD} (hd : tyOf P t = some d) {off b : Nat} {cv : Value} {ccs : Array Value} {ty : TypeId} (hb : w.heap[b]? = some (.cells ccs ty (0, 0))) (h : LdV d.agg d.size ccs.toList off cv) :
  (Instr.loadAt t (.pointer (some ⟨b, off, none⟩))).run P w = .ok cv w := by
 let r0 : Env := ⟨fun _ => none, fun _ => 0⟩
 have key : ∃ c, rdE d (ccs.toList.map EV.v) off = some c ∧ ren r0 c = some cv := by
  unfold rdE
  unfold LdV at h
  cases ha : d.agg with
  | true =>
   rw [ha] at h
   simp only at h
   refine ⟨.ag (((ccs.toList.map EV.v).drop off).take d.size), by simp only [cond_true]; rw [show Nat.ble (off + d.size) (ccs.toList.map EV.v).length = true from Nat.ble_eq_true_of_le (by simpa using h.1)]; rfl, ?_⟩
   rw [← List.map_drop, ← List.map_take]
   simp only [ren, renL_v, Option.bind_some, h.2]
  | false =>
   rw [ha] at h
   simp only at h
   exact ⟨.v cv, by simp only [cond_false]; rw [List.getElem?_map, h]; rfl, rfl⟩
 obtain ⟨c, h1, h2⟩ := key
 obtain ⟨cv', hrun, hcv'⟩ := loadE_run (P := P) (w := w) (r := r0) hd h1 (renL_v _) hb (tail := []) (by simp)
 obtain rfl : cv' = cv := Option.some.inj (hcv'.symm.trans h2)
 exact hrun
/-- The same, in whatever world that holds the piece that is read. -/
theorem ldE_spec2 {t : TypeId} {x : Operand} {c : EV} (h : ldE P T H t x = some c) (hA : ARel n r T a) (hW : WRel w0 r H w) : ∃ k off d cs ty sz, evO T x = some (.p k off) ∧ tyOf P t = some d ∧ H.get k = some (.live cs ty sz) ∧ rdA d.agg d.size cs off = some c ∧ ∃ cv, ren r c = some cv ∧
  ∀ b, r.b k = some b → ∀ w' (ccs' : Array Value), w'.heap[b]? = some (.cells ccs' ty (0, 0)) → LdV d.agg d.size ccs'.toList off cv → (Instr.loadAt t (a.eval x)).run P w' = .ok cv w' := by
 unfold ldE at h
 split at h
 ·rename_i k off d hx hd
  split at h
  ·rename_i cs ty sz hk
   obtain ⟨b, ccs, h1, h2, h3, vs, h4, h5, h6⟩ := hW.blk k cs ty sz hk
   have hxv := hA.eval hx
   simp only [ren, h1, Option.bind_some, Option.some.injEq] at hxv
   obtain ⟨cv, h7, _⟩ := rdA_ldV (m := d.size) (ag := d.agg) (tail := []) h h4
   refine ⟨k, off, d, cs, ty, sz, hx, hd, hk, h, cv, h7, fun b' hb' w' ccs' k1 k2 => ?_⟩
   obtain rfl : b = b' := Option.some.inj (h1.symm.trans hb')
   rw [← hxv]
   exact ldV_run hd k1 k2
  ·cases h
 ·cases h
theorem evHeap_done {k : Nat} {c : EV} {H' : Heap} (h : evHeap P T H k o = some (c, H')) (hA : ARel n r T a) (hW : WRel w0 r H w) : Done P w0 r H' o a w c := by
 unfold evHeap at h
 split at h
 ·rename_i t ho
  split at h
  ·rename_i d hd
   obtain ⟨i, u, z, hi, hu, hz, e1, e2, e3, e4, e5⟩ := tyOf_some hd
   refine newE_done h hW (ccs := z.cells) (by rw [e3]; exact renL_v _) ?_
   unfold execOp
   simp [ho, Instr.alloc, zeroValue, typeInfo, hi, hz, newVar, newRow]
  ·cases h
 ·rename_i t x ho
  split at h
  ·rename_i c' hx
   refine newE_done h hW (ccs := (a.eval x).cells) (cells_ren (hA.eval hx)) ?_
   unfold execOp
   simp [ho, Instr.box, newVar, newRow]
  ·cases h
 ·rename_i t x ho
  obtain ⟨c', h1, h2⟩ := Option.bind_eq_some_iff.1 h
  cases h2
  obtain ⟨k', off, cs, ty, sz, b, ccs, vs, tail, cv, k1, k2, k3, k4, k5, k6, k7, k8⟩ := ldE_spec (P := P) h1 hA hW
  refine Done.same hW (cv := cv) ?_ k7
  unfold execOp
  simp [ho, k8 w ccs tail k4 k6]
 ·rename_i t x y ho
  split at h
  ·rename_i d cx cy hd hx hy
   exact storeE_done ho hd hx hy h hA hW
  ·cases h
 ·rename_i t len parts ho
  unfold bsE at h
  split at h
  ·rename_i d ps hd hps
   split at h
   ·rename_i e hfs
    split at h
    ·rename_i de hde
     exact buildSliceE_done ho hd hfs hde hps h hA hW
    ·cases h
   ·cases h
  ·cases h
 ·rename_i t x lo hi mx ho
  obtain ⟨c', h1, h2⟩ := Option.bind_eq_some_iff.1 h
  cases h2
  unfold sliceE' at h1
  split at h1
  ·rename_i k' off len cc oo d hx hd
   split at h1
   ·rename_i e hfs
    split at h1
    ·rename_i de hde
     split at h1
     ·rename_i l hh hl hhh
      split at h1
      ·rename_i mx hi
       exact sliceE_done ho hd hfs hde hx rfl hl hhh (.inl ⟨rfl, rfl⟩) h1 hA hW
      ·rename_i mx hi y hy
       split at h1
       ·rename_i j hj
        exact sliceE_done ho hd hfs hde hx rfl hl hhh (.inr ⟨y, j, hy, rfl, rfl, hj, rfl⟩) h1 hA hW
       ·cases h1
      ·cases h1
     ·cases h1
    ·cases h1
   ·cases h1
  ·cases h1
 ·rename_i args ts ho
  unfold appE' at h
  split at h
  ·rename_i t t' x y hts hargs
   cases ht : Nat.beq t t' with
   | false => rw [ht] at h; cases h
   | true =>
    rw [ht] at h
    simp only [cond_true] at h
    obtain rfl := Nat.eq_of_beq_eq_true ht
    split at h
    ·rename_i d cx cy hd hx hy
     split at h
     ·rename_i e hfs
      split at h
      ·rename_i de hde
       obtain rfl : ts = #[t, t] := by apply Array.ext'; simpa using hts
       obtain rfl : args = #[x, y] := by apply Array.ext'; simpa using hargs
       exact appE_done ho hd hfs hde hx hy h hA hW
      ·cases h
     ·cases h
    ·cases h
  ·cases h
 ·cases h
end
end
end Go.Ev
