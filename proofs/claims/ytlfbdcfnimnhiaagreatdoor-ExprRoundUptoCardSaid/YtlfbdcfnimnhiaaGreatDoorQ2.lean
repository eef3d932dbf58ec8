/- A part. -/
import Derived.RangeFuncSeq
import Derived.OrdersIn
import Derived.Laws.BytesArg
import Derived.ChangeArms
import Derived.Test.YtlfbdcfnimnhiaaGreatDoorRows
import Derived.Shelf.Strings.Builder1
import Derived.Shelf.Strings.Builder2
import Derived.Shelf.Strings.OnBuilder
import Derived.Shelf.Strings.Trim
import Derived.Shelf.Small.Utf8
import Derived.Shelf.Small.Strs
import Derived.Shelf.Strings.BuilderF
import Derived.Shelf.Strings.BuilderK
import Derived.Shelf.Strings.BuilderRune
import Derived.Shelf.Utf8.RuneCount
import Derived.Shelf.Strconv.Atoi
import Derived.Shelf.Strconv.Itoa0
import Derived.Shelf.Strconv.Itoa1
import Derived.Shelf.LaysM
import Derived.Shelf.Strconv.Itoa2
import Derived.Shelf.Strconv.Itoa3
import Derived.Shelf.Strconv.Itoa4
import Derived.Shelf.Strconv.Clone
import Derived.Shelf.LaysC
import Derived.Shelf.Strconv.Lower
import Derived.Shelf.Strings.Search1
import Derived.Shelf.Strings.Search2
import Derived.Shelf.Strings.Search3
import Derived.Shelf.Strings.Count
import Derived.Shelf.Strings.Shaped
import Derived.Shelf.Strings.Prefix
import Derived.Shelf.Strings.Split
import Derived.Shelf.Strings.Replace
import Derived.Shelf.Strings.SplitShaped
import Derived.Shelf.Unicode.Latin
import Derived.Shelf.Unicode.Decode
import Derived.Shelf.Strings.Runes
import Derived.Shelf.Strings.RuneCount
import Derived.Shelf.Strings.AsciiSet
import Derived.Shelf.Strings.Explode
import Derived.Shelf.Unicode.DecodeSlow
import Derived.Shelf.Unicode.DecodeAny
import Derived.Shelf.Unicode.DecodeLast
import Derived.Shelf.Unicode.CaseLookup
import Derived.Shelf.Unicode.CaseConvert
import Derived.Shelf.Unicode.CaseTo
import Derived.Shelf.Unicode.CaseLaid
import Derived.Shelf.Strings.MapAny
import Derived.Shelf.Strings.CaseAny
import Derived.Ground.Names2Prog
import Derived.Shelf.Slices.SearchI
import Derived.Test.YtlfbdcfnimnhiaaGreatDoorProg
import Derived.Test.YtlfbdcfnimnhiaaGreatDoorCards
import Derived.Test.YtlfbdcfnimnhiaaGreatDoorTie
import Derived.WalkKit
import Derived.ProofKit
import Derived.OpenShut
import Derived.Deep.DeepHandedRow
import Derived.Deep.DeepWitnessRowRef
import Derived.Lib.LaidIn
import Derived.Lib.LaidCase
import Derived.Lib.LaidU8
import Derived.Lay
import Derived.Carry
import Derived.SevenTiedAt
import Derived.KernelRfl
import Derived.Scope
import Derived.Test.YtlfbdcfnimnhiaaGreatDoorQ1
set_option linter.all false
set_option maxRecDepth 100000
open Go.Proofs.Tryz
open Go.IntKind (i64)
namespace Go.Am
section
variable {P:Program}
inductive Kd where
 |pure|load|alloc|eff
 deriving DecidableEq
def kd (o:Oper):Kd:=match o.op with
 | .alloc _| .box _ _=>.alloc
 | .load _ _=>.load
 | .store _ _ _=>.eff
 | .call { callee:=.builtin .len,args:=_,argTypes:=_ }=>.pure
 | .call { callee:=.builtin .max,args:=_,argTypes:=_ }=>.pure
 | .call { callee:=.builtin .min,args:=_,argTypes:=_ }=>.pure
 | .call _=>.eff
 |_=>.pure
def EL (acc:Array Nat) (o:Oper):Nat:=o.after.toList.foldl (fun s e=>if Region.binds .any e=true then s|||2^e.on|||acc.getD e.on 0 else s) 0
def Cr:List Oper->Array Nat->Array Nat
 |[],acc=>acc
 |o::r,acc=>Cr r (acc.push (EL acc o))
def aFd (all:Array Oper):List Nat:=
 let ms:=Cr all.toList #[]
 (all.toList.zipIdx.filter fun y=>decide (kd y.1= .load)&&all.toList.zipIdx.any fun x=>decide (kd x.1= .eff)&& !((ms.getD x.2 0).testBit y.2)&& !((ms.getD y.2 0).testBit x.2)).map fun y=>100000+y.1.dst.getD 0
def OJ (all:Array Oper) (t:Nat):Bool:=all.toList.all fun o=>o.dst != some t&&(match o.op with
 | .store _ _ (.tmp y)=>y != t
 | .store _ _ _=>true
 |op=>op.operands.toList.all fun x=>match x with| .tmp y=>y != t|_=>true)
def eF (all:Array Oper):List Nat:=(all.toList.filterMap fun o=>match o.op with
 | .alloc _| .box _ _=>o.dst
 | .store _ (.tmp t) _=>if OJ all t then some t else none
 |_=>none)++aFd all
def gJ (A:List Nat) (o:Oper) (st:St):Prop:=match o.op with
 | .load _ x=>match st.eval x with
  | .loc k _=>A.contains k=false
  | .elt _ _=>True
  | .ptr _ _=>A.contains (100000+o.dst.getD 0)=false
  |_=>False
 | .store _ x _=>match st.eval x with
  | .loc b _=>match x with
   | .tmp t=>if A.contains t=true then b=t else A.contains b=false
   |_=>False
  |_=>True
 |_=>True
def gF (P:Program) (all:Array Oper) (o:Oper) (st:St) (K:St->Prop):Prop:=
 match gA all o st with
 | .always=>gJ (eF all) o st∧gD P o st K
 | .never=>fV o st∧K (st.put o.dst (.base undef))
 | .test c b=>if c=b then gJ (eF all) o st∧gD P o st K else fV o st∧K (st.put o.dst (.base undef))
 | .stuck=>False
def Hm {all:Array Oper} {o:Oper} {st:St} {K:St->Prop} (h:gF P all o st K):rS P all o st K:=by
 unfold gF at h;unfold rS;split at h
 ·rename_i hg;rw[hg];exact h.2
 ·rename_i hg;rw[hg];exact h
 ·rename_i hg;rw[hg];simp only;split at h
  ·rename_i hc;rw[if_pos hc];exact h.2
  ·rename_i hc;rw[if_neg hc];exact h
 ·exact h.elim
def oJ (P:Program) (all:Array Oper):List Nat->St->(St->Prop)->Prop
 |[],st,K=>K st
 |i::r,st,K=>match all[i]? with
  |some o=>gF P all o st fun st'=>oJ P all r st' K
  |none=>False
structure dE where
 d:Option Nat
 v:V
 box:Option (Nat×(List V×TypeId))
def dE.run (m:dE) (st:St):St:=
 match m.box with
 |none=>st.put m.d m.v
 |some (t0,x)=>{ st with loc:=cA st.loc t0 (some x) }.put m.d m.v
def AZ {st:St} {d:Option Nat} {v:V} {x:Operand} (h:∀t,d=some t->x≠ .tmp t):(st.put d v).eval x=st.eval x:=by
 cases d with
 |none=>rfl
 |some t=>
  cases x with
  |tmp t'=>exact dA _ _ _ _ (fun e=>h t rfl (by rw[e]))
  |const v=>rfl
  |global g=>rfl
  |func f=>rfl
def dE.eval {m:dE} {st:St} {x:Operand} (h:∀t,m.d=some t->x≠ .tmp t):(m.run st).eval x=st.eval x:=by
 unfold dE.run;split
 ·exact AZ h
 ·rename_i t0 y hb;rw[AZ h];cases x<;>rfl
def dE.s (m:dE) (st:St):(m.run st).s=st.s:=by unfold dE.run;split<;>rw[uH]
def aAj (st:St) (d:Option Nat) (v:V):(st.put d v).pp=st.pp:=by cases d<;>rfl
def aAk (st:St) (d:Option Nat) (v:V):(st.put d v).ds=st.ds:=by cases d<;>rfl
def dE.pp (m:dE) (st:St):(m.run st).pp=st.pp:=by unfold dE.run;split<;>rw[aAj]
def dE.ds (m:dE) (st:St):(m.run st).ds=st.ds:=by unfold dE.run;split<;>rw[aAk]
def Fd (st:St) (d:Option Nat) (v:V):(st.put d v).n=st.n:=by cases d<;>rfl
def uB (st:St) (d:Option Nat) (v:V):(st.put d v).loc=st.loc:=by cases d<;>rfl
def dE.n (m:dE) (st:St):(m.run st).n=st.n:=by unfold dE.run;split<;>rw[Fd]
def dE.loc (m:dE) (st:St) (k:Nat) (h:∀t0 x,m.box=some (t0,x)->k≠t0):(m.run st).loc k=st.loc k:=by
 unfold dE.run;split
 ·rw[uB]
 ·rename_i t0 x hb;rw[uB];exact dA _ _ _ _ (h t0 x hb)
def BA (st:St) {d d':Option Nat} (v v':V) (h:∀t,d=some t->d'≠some t):(st.put d v).put d' v'=(st.put d' v').put d v:=by
 cases d with
 |none=>cases d'<;>rfl
 |some t=>
  cases d' with
  |none=>rfl
  |some t'=>
   have:t≠t':=fun e=>h t rfl (by rw[e]);simp only[St.put,AP _ _ _ _ _ this]
structure lH (m:dE) (o:Oper) (A:List Nat) (st st':St):Prop where
 E:∀t,o.dst≠some t->st'.E t=st.E t
 n:st'.n=st.n
 locE:kd o≠ .alloc->(∀t x y,o.op≠ .store t x y)->st'.loc=st.loc
 locA:kd o= .alloc->∃t0,o.dst=some t0∧st.loc t0=none∧∀k,k≠t0->st'.loc k=st.loc k
 locS:∀t x y,o.op= .store t x y->∀k,(∀off,st.eval x≠ .loc k off)->st'.loc k=st.loc k
 locM:∀t0 x,m.box=some (t0,x)->st'.loc t0=st.loc t0
 dc:gJ A o st
 s:kd o≠ .eff->st'.s=st.s
def Qu {st st':St}:∀(l:List (Nat×Operand)),(∀x∈l.map (·.2),st'.eval x=st.eval x)->l.map (fun x=>(x.1,st'.eval x.2))=l.map (fun x=>(x.1,st.eval x.2))
 |[],_=>rfl
 |(i,x)::r,h=>by
  simp only[dG,oR,forall_eq_or_imp] at h ⊢;rw[h.1,Qu r h.2]
def Rp {st st':St}:∀(l:List Operand),(∀x∈l,st'.eval x=st.eval x)->l.map st'.eval=l.map st.eval:=fun l h=>Ha h
def RM {st st':St} (lo:Option Operand) (h:∀x,lo=some x->st'.eval x=st.eval x):wI st' lo=wI st lo:=by
 cases lo with
 |none=>rfl
 |some o=>simp only[wI,h o rfl]
def RT {st st':St} (n:Nat) (lo:Option Operand) (h:∀x,lo=some x->st'.eval x=st.eval x):wK st' n lo=wK st n lo:=by
 cases lo with
 |none=>rfl
 |some o=>simp only[wK,h o rfl]
def Ys {st st':St} {op:Op} (hl:∀t x,op≠ .load t x) (h:∀x∈op.operands,st'.eval x=st.eval x):fF P st' op=fF P st op:=by
 cases op
 case load t x=>exact absurd rfl (hl t x)
 case move x=>simp only[fF,h x (by simp[Op.operands])]
 case assign x=>simp only[fF,h x (by simp[Op.operands])]
 case pick c a b=>simp only[fF,h c (by simp[Op.operands]),h a (by simp[Op.operands]),h b (by simp[Op.operands])]
 case build t ps=>simp only[fF,Qu ps.toList (fun x hx=>h x (by simpa[Op.operands] using hx))]
 case buildSlice t n ps=>simp only[fF,Qu ps.toList (fun x hx=>h x (by simpa[Op.operands] using hx))]
 case nilCheck x=>simp only[fF,h x (by simp[Op.operands])]
 case binOp op t x y t'=>simp only[fF,h x (by simp[Op.operands]),h y (by simp[Op.operands])]
 case unOp op t x=>simp only[fF,h x (by simp[Op.operands])]
 case convert s t x=>simp only[fF,h x (by simp[Op.operands])]
 case makeFunc f a c=>
  cases f<;>try rfl
  simp only[fF,Rp a.toList (fun x hx=>h x (by simp[Op.operands];exact .inl (by simpa using hx))),Rp c.toList (fun x hx=>h x (by simp[Op.operands];exact .inr (by simpa using hx)))]
 case fieldAddr s x k=>simp only[fF,h x (by simp[Op.operands])]
 case field s x k=>simp only[fF,h x (by simp[Op.operands])]
 case indexAddr t x i=>simp only[fF,h x (by simp[Op.operands]),h i (by simp[Op.operands])]
 case index t x i=>simp only[fF,h x (by simp[Op.operands]),h i (by simp[Op.operands])]
 case extract x i=>simp only[fF,h x (by simp[Op.operands])]
 case slice t x lo hi mx=>
  have hx:=h x (by simp[Op.operands]);have hlo:=RM (st:=st) (st':=st') lo (fun y hy=>h y (by subst hy;simp[Op.operands]));have hhi:=fun n=>RT (st:=st) (st':=st') n hi (fun y hy=>h y (by subst hy;simp[Op.operands]));cases mx with
  |none=>simp only[fF,hx,hlo,hhi]
  |some m=>
   have hm:=h m (by simp[Op.operands]);cases lo with
   |some _=>rfl
   |none=>
    cases hi with
    |none=>rfl
    |some y=>
     have hy:=h y (by simp[Op.operands]);simp only[fF,hx,hy,hm]
 case makeInterface t x=>simp only[fF,h x (by simp[Op.operands])]
 case typeAssert x xt t ok=>
  cases ok with
  |true=>simp only[fF,h x (by simp[Op.operands])]
  |false=>simp only[fF,h x (by simp[Op.operands])]
 case call c=>
  obtain⟨callee,args,ts⟩:=c;cases callee<;>try rfl
  rename_i b;have hmx:∀mx,vN mx st' args=vN mx st args:=fun mx=>by
   unfold vN;cases hl:args.toList with
   |nil=>rfl
   |cons x l=>
    cases l with
    |nil=>rfl
    |cons y l=>
     cases l with
     |cons _ _=>rfl
     |nil=>
      have hm:∀z∈args.toList,st'.eval z=st.eval z:=fun z hz=>h z (by
       simp only[Op.operands,Call.operands,Array.mem_append];exact .inr (Bl.2 hz))
      rw[hl] at hm;simp only[hm x (by simp),hm y (by simp)]
  cases b<;>try rfl
  case max=>exact hmx true
  case min=>exact hmx false
  show Eu P st' args ts=Eu P st args ts;unfold Eu;cases ht:ts[0]? with
  |none=>rfl
  |some t=>
   cases hd:bT P t with
   |none=>simp[hd]
   |some d=>
    cases hq:args[0]? with
    |none=>simp[hd]
    |some x=>
     have hx:=h x (by
      have:x∈args:=Array.mem_of_getElem? hq;simp only[Op.operands,Call.operands,Array.mem_append];exact .inr this)
     simp only[hd,hx]
 all_goals rfl
def dE.tU {m:dE} {st:St} {d':Option Nat} {v':V} (h:∀t,m.d=some t->d'≠some t):m.run (st.put d' v')=(m.run st).put d' v':=by
 unfold dE.run;split
 ·exact(BA st m.v v' h).symm
 ·rename_i t0 x hb;have e:({ st.put d' v' with loc:=cA (st.put d' v').loc t0 (some x) }:St)=({ st with loc:=cA st.loc t0 (some x) }:St).put d' v':=by cases d'<;>rfl
  rw[e];exact(BA _ m.v v' h).symm
def dE.Gr {m:dE} {st:St} (s':aL):m.run { st with s:=s' }={ m.run st with s:=s' }:=by
 unfold dE.run;split
 ·cases m.d<;>rfl
 ·cases m.d<;>rfl
def dE.KJ {m:dE} {st:St} {t':Nat} {x':Option (List V×TypeId)} (h:∀t0 x,m.box=some (t0,x)->t'≠t0):m.run { st with loc:=cA st.loc t' x' }={ m.run st with loc:=cA (m.run st).loc t' x' }:=by
 unfold dE.run;split
 ·cases m.d<;>rfl
 ·rename_i t0 x hb;have:=AP st.loc t' t0 x' (some x) (h t0 x hb);cases m.d<;>simp only[St.put,this]
def MA {st st':St} (l:List Operand) (h:∀x∈l,st'.eval x=st.eval x):qF (l.map st'.eval)=qF (l.map st.eval):=by rw[Rp l h]
structure dE.Ok (m:dE) (all:Array Oper) (o:Oper):Prop where
 look:∀t,m.d=some t->t ∉ o.looksAt all
 dst:∀t,m.d=some t->o.dst≠some t
 box:∀t0 x,m.box=some (t0,x)->m.d=some t0∧(eF all).contains t0=true
def dE.Ok.eval {m:dE} {all:Array Oper} {o:Oper} (h:m.Ok all o) (st:St) {x:Operand} (hx:x∈o.op.operands):(m.run st).eval x=st.eval x:=
 dE.eval fun t ht e=>h.look t ht (by
  subst e;unfold Oper.looksAt;exact lN.2 (.inl (List.mem_filterMap.2 ⟨.tmp t,Bl.1 hx,rfl⟩)))
def dE.Ok.gd {m:dE} {all:Array Oper} {o:Oper} (h:m.Ok all o) (st:St):gA all o (m.run st)=gA all o st:=by
 unfold gA;cases hg:o.guard with
 |none=>rfl
 |some x=>
  obtain⟨j,b⟩:=x;simp only;cases ht:(all[j]?).bind (·.dst) with
  |none=>rfl
  |some t=>
   have:(m.run st).E t=st.E t:=dE.eval (x:=.tmp t) fun t' ht' e=>h.look t' ht' (by
    cases e
    unfold Oper.looksAt;refine lN.2 (.inr ?_);simp[hg,ht])
   simp only[this]
def Br {m:dE} {o:Oper} {st:St}:fV o (m.run st)=fV o st:=by unfold fV;rw[dE.n]
def lH.put {m:dE} {o:Oper} {A:List Nat} {st:St} {v:V} (hd:gJ A o st) (ha:kd o≠ .alloc) (hs:∀t x y,o.op≠ .store t x y):lH m o A st (st.put o.dst v) where
 E:=fun t ht=>by
  cases hd:o.dst with
  |none=>rfl
  |some d=>exact dA _ _ _ _ (fun e=>ht (by rw[hd,e]))
 n:=Fd _ _ _
 locE:=fun _ _=>uB _ _ _
 locA:=fun h=>absurd h ha
 locS:=fun t x y h=>absurd h (hs t x y)
 locM:=fun _ _ _=>by rw[uB]
 dc:=hd
 s:=fun _=>uH _ _ _
def lH.Mc {m:dE} {o:Oper} {A:List Nat} {st:St} {v:V} {s':aL} (hd:gJ A o st) (ha:kd o≠ .alloc) (hs:∀t x y,o.op≠ .store t x y) (he:kd o= .eff):lH m o A st (({ st with s:=s' }:St).put o.dst v) where
 E:=fun t ht=>by
  cases hd:o.dst with
  |none=>rfl
  |some d=>exact dA _ _ _ _ (fun e=>ht (by rw[hd,e]))
 n:=Fd _ _ _
 locE:=fun _ _=>uB _ _ _
 locA:=fun h=>absurd h ha
 locS:=fun t x y h=>absurd h (hs t x y)
 locM:=fun _ _ _=>by rw[uB]
 dc:=hd
 s:=fun h=>absurd he h
variable {all:Array Oper} {o:Oper} {m:dE} {st:St} {K:St->Prop}
def yA (hl:∀t x,o.op≠ .load t x) (hs:∀t x y,o.op≠ .store t x y) (A:List Nat):gJ A o st:=by
 unfold gJ;split
 ·rename_i e;exact absurd e (hl _ _)
 ·rename_i e;exact absurd e (hs _ _ _)
 ·trivial
def QZ (hm:m.Ok all o) (hl:∀t x,o.op≠ .load t x) (ha:kd o≠ .alloc) (hs:∀t x y,o.op≠ .store t x y) (h:lU P o (m.run st) K):lU P o st fun st'=>K (m.run st')∧lH m o (eF all) st st':=by
 unfold lU at h ⊢;rw[Ys hl (fun x hx=>hm.eval st hx)] at h;split at h
 ·rename_i v side hv;rw[Br] at h;refine⟨h.1,h.2.1,?_,lH.put (yA hl hs _) ha hs⟩;rw[dE.tU hm.dst];exact h.2.2
 ·exact h.elim
def RA (hm:m.Ok all o) {t:TypeId} {x:Operand} (ho:o.op= .load t x) (hd:gJ (eF all) o (m.run st)) (h:vT P o t x (m.run st) K):gJ (eF all) o st∧vT P o t x st fun st'=>K (m.run st')∧lH m o (eF all) st st':=by
 have hx:(m.run st).eval x=st.eval x:=hm.eval st (by rw[ho];simp[Op.operands]);have hdc:gJ (eF all) o st:=by
  unfold gJ at hd ⊢;rw[ho] at hd ⊢;simp only[hx] at hd;exact hd
 unfold gJ at hd;rw[ho] at hd;simp only[hx] at hd;refine⟨hdc,?_⟩;unfold vT at h ⊢;rw[hx] at h;have key:lU P o (m.run st) K->lU P o st fun st'=>K (m.run st')∧lH m o (eF all) st st':=by
  intro h;have hv:fF P (m.run st) o.op=fF P st o.op:=by
   rw[ho];simp only[fF,hx];cases bT P t with
   |none=>rfl
   |some d=>
    simp only;cases he:st.eval x<;>try rfl
    rename_i k off;rw[he] at hd;simp only at hd;have:(m.run st).loc k=st.loc k:=dE.loc m st k fun t0 y hb e=>by
     have:=(hm.box t0 y hb).2;rw[<-e,hd] at this;cases this
    simp only[this]
  unfold lU at h ⊢;rw[hv] at h;split at h
  ·rename_i v side hpv;rw[Br] at h;refine⟨h.1,h.2.1,?_,lH.put hdc (by unfold kd;rw[ho];simp) (by rw[ho];simp)⟩;rw[dE.tU hm.dst];exact h.2.2
  ·exact h.elim
 cases he:st.eval x<;>rw[he] at hd h<;>simp only at hd h ⊢<;>first|exact hd.elim|exact key h|skip
 rename_i b off;rw[dE.s] at h;cases hty:bT P t with
 |none=>rw[hty] at h;exact h.elim
 |some d=>
  rw[hty] at h;cases hb:st.s.box b with
  |none=>rw[hb] at h;exact h.elim
  |some z=>
   obtain⟨cs,ty⟩:=z;rw[hb] at h;simp only at h ⊢;cases hr:rd d cs off with
   |none=>rw[hr] at h;exact h.elim
   |some v=>
    rw[hr] at h;simp only at h ⊢;rw[Br] at h;refine⟨h.1,?_,lH.put hdc (by unfold kd;rw[ho];simp) (by rw[ho];simp)⟩;rw[dE.tU hm.dst];exact h.2
def BC (hm:m.Ok all o) {t:TypeId} {cs:List V} (hk:kd o= .alloc) (h:oG o t cs (m.run st) K):oG o t cs st fun st'=>K (m.run st')∧lH m o (eF all) st st':=by
 unfold oG at h ⊢;cases hd:o.dst with
 |none=>rw[hd] at h;exact h.elim
 |some t'=>
  rw[hd] at h;simp only at h ⊢;obtain⟨h1,h2,h3⟩:=h;have hne:∀t0 x,m.box=some (t0,x)->t'≠t0:=fun t0 x hb e=>hm.dst t0 (hm.box t0 x hb).1 (by rw[hd,e]);rw[dE.n] at h1;rw[dE.loc m st t' hne] at h2;refine⟨h1,h2,?_,?_⟩
  ·have e1:=dE.tU (m:=m) (st:={ st with loc:=cA st.loc t' (some (cs,t)) }) (d':=some t') (v':=.loc t' 0) (fun u hu=>by rw[<-hd];exact hm.dst u hu);rw[e1,dE.KJ hne];exact h3
  ·refine⟨fun u hu=>dA _ _ _ _ (fun e=>hu (by rw[hd,e])),rfl,fun h=>absurd hk h,fun _=>⟨t',hd,h2,fun k hk=>dA _ _ _ _ hk⟩,fun _ _ _ he=>?_,fun t0 x hb=>dA _ _ _ _ (iE (hne t0 x hb)),?_,fun _=>rfl⟩
   ·unfold kd at hk;rw[he] at hk;cases hk
   ·refine yA (fun _ _ e=>?_) (fun _ _ _ e=>?_) _<;>(unfold kd at hk;rw[e] at hk;cases hk)
def OF (hm:m.Ok all o) {t:TypeId} {x y:Operand} (ho:o.op= .store t x y) (hd:gJ (eF all) o (m.run st)) (h:Cm P o t x y (m.run st) K):gJ (eF all) o st∧Cm P o t x y st fun st'=>K (m.run st')∧lH m o (eF all) st st':=by
 have hx:(m.run st).eval x=st.eval x:=hm.eval st (by rw[ho];simp[Op.operands]);have hy:(m.run st).eval y=st.eval y:=hm.eval st (by rw[ho];simp[Op.operands]);have hlook:∀t1,x= .tmp t1->∀u,m.d=some u->t1≠u:=fun t1 ht u hu e=>hm.look u hu (by
  unfold Oper.looksAt;refine lN.2 (.inl (List.mem_filterMap.2 ⟨.tmp u,?_,rfl⟩));rw[ho];simp[Op.operands,ht,e])
 have hdc:gJ (eF all) o st:=by
  unfold gJ at hd ⊢;rw[ho] at hd ⊢;simp only[hx] at hd;exact hd
 unfold gJ at hd;rw[ho] at hd;simp only[hx] at hd;refine⟨hdc,?_⟩;have hkd:kd o≠ .alloc:=by unfold kd;rw[ho];simp
 unfold Cm at h ⊢;rw[hx,hy] at h;cases hty:bT P t with
 |none=>rw[hty] at h;exact h.elim
 |some d=>
  rw[hty] at h;simp only at h ⊢;obtain⟨h1,h2,h3,h4⟩:=h;rw[Br] at h3;refine⟨h1,h2,h3,?_⟩;cases he:st.eval x<;>rw[he] at h4 hd<;>simp only at h4 hd ⊢<;>try exact h4.elim
  case loc b off=>
   have hb:∀t0 z,m.box=some (t0,z)->b≠t0:=fun t0 z hz e=>by
    obtain⟨k1,k2⟩:=hm.box t0 z hz;cases x<;>simp only at hd<;>try exact hd
    rename_i t1;split at hd
    ·exact hlook t1 rfl t0 k1 (by rw[<-hd,e])
    ·rw[e,k2] at hd;cases hd
   rw[dE.loc m st b hb] at h4;cases hl:st.loc b with
   |none=>rw[hl] at h4;exact h4.elim
   |some z=>
    obtain⟨cs,ty⟩:=z;rw[hl] at h4;simp only at h4 ⊢;refine⟨h4.1,?_,?_⟩
    ·rw[dE.tU hm.dst,dE.KJ hb];exact h4.2
    ·refine⟨fun u hu=>?_,Fd _ _ _,fun _ h=>absurd ho (h _ _ _),fun h=>absurd h hkd,fun t2 x2 y2 he2 k hk=>?_,fun t0 z hz=>by rw[uB];exact dA _ _ _ _ (iE (hb t0 z hz)),hdc,fun h=>absurd (by unfold kd;rw[ho]) h⟩
     ·cases hdd:o.dst with
      |none=>rfl
      |some d'=>exact dA _ _ _ _ (fun e=>hu (by rw[hdd,e]))
     ·rw[uB];rw[ho] at he2;cases he2;exact dA _ _ _ _ (fun e=>hk off (by rw[e];exact he))
  case ptr b off=>
   rw[dE.s] at h4;cases hl:st.s.box b with
   |none=>rw[hl] at h4;exact h4.elim
   |some z=>
    obtain⟨cs,ty⟩:=z;rw[hl] at h4;simp only at h4 ⊢;refine⟨h4.1,?_,?_⟩
    ·rw[dE.tU hm.dst,dE.Gr];exact h4.2
    ·refine⟨fun u hu=>?_,Fd _ _ _,fun _ h=>absurd ho (h _ _ _),fun h=>absurd h hkd,fun t2 x2 y2 he2 k hk=>by rw[uB],fun _ _ _=>by rw[uB],hdc,fun h=>absurd (by unfold kd;rw[ho]) h⟩
     ·cases hdd:o.dst with
      |none=>rfl
      |some d'=>exact dA _ _ _ _ (fun e=>hu (by rw[hdd,e]))
def RB (hm:m.Ok all o) {f:Operand} {args:Array Operand} {ts:Array TypeId} (ho:o.op= .call { callee:=.value f,args:=args,argTypes:=ts }) (h:Aq P o f args (m.run st) K):Aq P o f args st fun st'=>K (m.run st')∧lH m o (eF all) st st':=by
 have hf:(m.run st).eval f=st.eval f:=hm.eval st (by rw[ho];simp[Op.operands,Call.operands]);have ha:=MA (st:=st) (st':=m.run st) args.toList (fun x hx=>hm.eval st (by rw[ho];simp[Op.operands,Call.operands];exact .inr (by simpa using hx)));have hk:kd o≠ .alloc:=by unfold kd;rw[ho];simp
 unfold Aq at h ⊢;rw[hf] at h;split at h
 ·rename_i k first cap he
  rw[ha] at h;split at h
  ·rename_i vs hvs;rw[Br,dE.s] at h;refine⟨h.1,h.2.mono (fun v s' hp=>⟨s',aL.le.refl _,by simpa only[dE.pp,dE.ds] using hp⟩) fun v s' hK=>⟨?_,lH.Mc (yA (by rw[ho];simp) (by rw[ho];simp) _) hk (by rw[ho];simp) (by unfold kd;rw[ho])⟩⟩;rw[dE.tU hm.dst,dE.Gr];exact hK
  ·exact h.elim
 ·exact h.elim
def MN (hm:m.Ok all o) {args:Array Operand} {ts:Array TypeId} (ho:o.op= .call { callee:=.builtin .append,args:=args,argTypes:=ts }) (h:vC P o args ts (m.run st) K):vC P o args ts st fun st'=>K (m.run st')∧lH m o (eF all) st st':=by
 have hk:kd o≠ .alloc:=by unfold kd;rw[ho];simp
 have hst:∀t x y,o.op≠ .store t x y:=by rw[ho];simp
 unfold vC at h ⊢;split at h
 ·rename_i t t' x y hts hargs;have hx:(m.run st).eval x=st.eval x:=hm.eval st (by rw[ho];simp[Op.operands,Call.operands];exact Bl.2 (by rw[hargs];simp));have hy:(m.run st).eval y=st.eval y:=hm.eval st (by rw[ho];simp[Op.operands,Call.operands];exact Bl.2 (by rw[hargs];simp));refine⟨h.1,?_⟩;have h2:=h.2;rw[hx,hy,Br,dE.s] at h2;cases hd:bT P t with
  |none=>rw[hd] at h2;exact h2.elim
  |some d=>
   rw[hd] at h2;simp only at h2 ⊢;cases hs:d.shape<;>rw[hs] at h2<;>simp only at h2 ⊢<;>try exact h2.elim
   rename_i e;cases hde:bT P e with
   |none=>rw[hde] at h2;exact h2.elim
   |some de=>
    rw[hde] at h2;simp only at h2 ⊢;refine⟨h2.1,h2.2.1,?_⟩;have h3:=h2.2.2;cases hxs:Kx de.size (st.eval y) with
    |none=>rw[hxs] at h3;exact h3.elim
    |some xs=>
     rw[hxs] at h3;simp only at h3 ⊢;cases he:st.eval x<;>rw[he] at h3<;>simp only at h3 ⊢<;>try exact h3.elim
     case nil=>
      refine⟨h3.1,h3.2.1,fun g hg=>⟨?_,lH.Mc (yA (by rw[ho];simp) hst _) hk hst (by unfold kd;rw[ho])⟩⟩;rw[dE.tU hm.dst,dE.Gr];exact h3.2.2 g hg
     case zcap=>
      refine⟨h3.1,h3.2.1,fun g hg=>⟨?_,lH.Mc (yA (by rw[ho];simp) hst _) hk hst (by unfold kd;rw[ho])⟩⟩;rw[dE.tU hm.dst,dE.Gr];exact h3.2.2 g hg
     case own g0 sz es=>
      refine⟨h3.1,h3.2.1,h3.2.2.1,h3.2.2.2.1,fun g hg=>⟨?_,lH.Mc (yA (by rw[ho];simp) hst _) hk hst (by unfold kd;rw[ho])⟩⟩;rw[dE.tU hm.dst,dE.Gr];exact h3.2.2.2.2 g hg
     case base v=>
      unfold zW at h3 ⊢;split at h3
      ·split at h3
       ·rename_i hx0;rw[if_pos hx0];exact⟨h3.1,by rw[dE.tU hm.dst];exact h3.2,lH.put (yA (by rw[ho];simp) hst _) hk hst⟩
       ·rename_i hx0;rw[if_neg hx0];rw[dE.s] at h3;obtain⟨m2,m3,cs,m4,m5⟩:=h3;refine⟨m2,m3,cs,m4,fun b' cap' cs' q1 q2 q3 q4 q5=>⟨?_,lH.Mc (yA (by rw[ho];simp) hst _) hk hst (by unfold kd;rw[ho])⟩⟩;rw[dE.tU hm.dst,dE.Gr];exact m5 b' cap' cs' q1 q2 q3 q4 q5
      ·exact h3.elim
 ·exact h.elim
def UB (hm:m.Ok all o) (hd:gJ (eF all) o (m.run st)) (h:gD P o (m.run st) K):gJ (eF all) o st∧gD P o st fun st'=>K (m.run st')∧lH m o (eF all) st st':=by
 unfold gD at h ⊢;split at h
 ·rename_i t ho;refine⟨by unfold gJ;rw[ho];trivial,?_⟩;cases hd':bT P t with
  |none=>rw[hd'] at h;exact h.elim
  |some d=>rw[hd'] at h;exact BC hm (by unfold kd;rw[ho]) h
 ·rename_i t x ho;have hx:(m.run st).eval x=st.eval x:=hm.eval st (by rw[ho];simp[Op.operands]);rw[hx] at h;exact⟨by unfold gJ;rw[ho];trivial,h.1,BC hm (by unfold kd;rw[ho]) h.2⟩
 ·rename_i t x y ho;exact OF hm ho hd h
 ·rename_i t x ho;exact RA hm ho hd h
 ·rename_i f args ts ho;exact⟨by unfold gJ;rw[ho];trivial,RB hm ho h⟩
 ·rename_i args ts ho;exact⟨by unfold gJ;rw[ho];trivial,MN hm ho h⟩
 ·rename_i h1 h2 h3 h4 h5 h6;have hl:∀t x,o.op≠ .load t x:=fun t x e=>h4 t x e;have hs:∀t x y,o.op≠ .store t x y:=fun t x y e=>h3 t x y e;refine⟨?_,QZ hm hl ?_ hs h⟩
  ·unfold gJ;split
   ·rename_i e;exact absurd e (hl _ _)
   ·rename_i e;exact absurd e (hs _ _ _)
   ·trivial
  ·unfold kd;split<;>first|(rename_i e;exact absurd e (h1 _))|(rename_i e;exact absurd e (h2 _ _))|simp
def Si {K':St->Prop} (hK:∀st',K st'->K' st') (h:gD P o st K):gD P o st K':=by
 have hp:lU P o st K->lU P o st K':=fun h=>by
  unfold lU at h ⊢;split at h
  ·exact⟨h.1,h.2.1,hK _ h.2.2⟩
  ·exact h.elim
 have hb:∀t cs,oG o t cs st K->oG o t cs st K':=fun t cs h=>by
  unfold oG at h ⊢;split at h
  ·exact⟨h.1,h.2.1,hK _ h.2.2⟩
  ·exact h.elim
 unfold gD at h ⊢;split at h
 ·split at h
  ·exact hb _ _ h
  ·exact h.elim
 ·exact⟨h.1,hb _ _ h.2⟩
 ·unfold Cm at h ⊢;split at h
  ·refine⟨h.1,h.2.1,h.2.2.1,?_⟩;have h:=h.2.2.2;split at h
   ·split at h
    ·exact⟨h.1,hK _ h.2⟩
    ·exact h.elim
   ·split at h
    ·exact⟨h.1,hK _ h.2⟩
    ·exact h.elim
   ·exact h.elim
  ·exact h.elim
 ·unfold vT at h ⊢;split at h
  ·split at h
   ·split at h
    ·exact⟨h.1,hK _ h.2⟩
    ·exact h.elim
   ·exact h.elim
  ·exact hp h
 ·unfold Aq at h ⊢;split at h
  ·split at h
   ·exact⟨h.1,h.2.monoR fun v s' h=>hK _ h⟩
   ·exact h.elim
  ·exact h.elim
 ·unfold vC at h ⊢;split at h
  ·refine⟨h.1,?_⟩;have h:=h.2;split at h
   ·split at h
    ·split at h
     ·refine⟨h.1,h.2.1,?_⟩;have h:=h.2.2;split at h
      ·split at h
       ·exact⟨h.1,h.2.1,fun g hg=>hK _ (h.2.2 g hg)⟩
       ·exact⟨h.1,h.2.1,fun g hg=>hK _ (h.2.2 g hg)⟩
       ·exact⟨h.1,h.2.1,h.2.2.1,h.2.2.2.1,fun g hg=>hK _ (h.2.2.2.2 g hg)⟩
       ·unfold zW at h ⊢;split at h
        ·split at h
         ·rename_i hx0;rw[if_pos hx0];exact⟨h.1,hK _ h.2⟩
         ·rename_i hx0;rw[if_neg hx0];obtain⟨m2,m3,cs,m4,m5⟩:=h;exact⟨m2,m3,cs,m4,fun b' cap' cs' q1 q2 q3 q4 q5=>hK _ (m5 b' cap' cs' q1 q2 q3 q4 q5)⟩
        ·exact h.elim
       ·exact h.elim
      ·exact h.elim
     ·exact h.elim
    ·exact h.elim
   ·exact h.elim
  ·exact h.elim
 ·exact hp h
def Qx {K':St->Prop} (hK:∀st',K st'->K' st') (h:gF P all o st K):gF P all o st K':=by
 unfold gF at h ⊢;split at h
 ·exact⟨h.1,Si hK h.2⟩
 ·exact⟨h.1,hK _ h.2⟩
 ·split at h
  ·rename_i hc;rw[if_pos hc];exact⟨h.1,Si hK h.2⟩
  ·rename_i hc;rw[if_neg hc];exact⟨h.1,hK _ h.2⟩
 ·exact h.elim
def Wf (hm:m.Ok all o) (h:gF P all o (m.run st) K):gF P all o st fun st'=>K (m.run st')∧(lH m o (eF all) st st'∨st'=st.put o.dst (.base undef)):=by
 unfold gF at h ⊢;rw[hm.gd] at h;have skip:fV o (m.run st)∧K ((m.run st).put o.dst (.base undef))->fV o st∧(K (m.run (st.put o.dst (.base undef)))∧(lH m o (eF all) st (st.put o.dst (.base undef))∨st.put o.dst (.base undef)=st.put o.dst (.base undef))):=fun h=>by
  rw[Br] at h;refine⟨h.1,?_,.inr rfl⟩;rw[dE.tU hm.dst];exact h.2
 have go:gJ (eF all) o (m.run st)∧gD P o (m.run st) K->gJ (eF all) o st∧gD P o st fun st'=>K (m.run st')∧(lH m o (eF all) st st'∨st'=st.put o.dst (.base undef)):=fun h=>by
  have:=UB hm h.1 h.2;exact⟨this.1,Si (fun st' h=>⟨h.1,.inl h.2⟩) this.2⟩
 split at h
 ·exact go h
 ·exact skip h
 ·split at h
  ·rename_i hc;rw[if_pos hc];exact go h
  ·rename_i hc;rw[if_neg hc];exact skip h
 ·exact h.elim
def Af (all:Array Oper) (j i:Oper):Bool:=
 j.apart all i&&(match kd j with
  | .eff=>false
  | .load=>(decide (kd i≠ .eff)||(eF all).contains (100000+j.dst.getD 0))&&match i.op with
   | .store _ (.tmp t) _=>(eF all).contains t
   | .store _ _ _=>false
   |_=>true
  |_=>true)
def Sc {o:Oper} (h:kd o= .alloc):(∃t,o.op= .alloc t)∨∃t x,o.op= .box t x:=by
 unfold kd at h;split at h<;>first|cases h|skip
 ·rename_i t e;exact .inl ⟨t,e⟩
 ·rename_i t x e;exact .inr ⟨t,x,e⟩
def ZB {o:Oper} (h:kd o= .load):∃t x,o.op= .load t x:=by
 unfold kd at h;split at h<;>first|cases h|skip
 rename_i t x e;exact⟨t,x,e⟩
def aGe {oj oi:Oper} (hmem:oi∈all.toList) (hja:kd oj= .alloc->∀t0,oj.dst=some t0->(eF all).contains t0=true) (hp:Af all oj oi=true) (h:gF P all oj st fun st'=>gF P all oi st' K):gF P all oi st fun st'=>gF P all oj st' K:=by
 unfold Af at hp;simp only[dI] at hp;obtain⟨hap,hk⟩:=hp;obtain⟨a1,a2,a3⟩:=Oper.apart_spec hap;have a4:∀d,oi.dst=some d->d ∉ oj.looksAt all:=a3;have look:∀(st':St),(∀t,oi.dst≠some t->st'.E t=st.E t)->∀x∈oj.op.operands,st'.eval x=st.eval x:=fun st' hE x hx=>by
  cases x<;>try rfl
  rename_i t;refine hE t fun e=>a4 t e ?_;unfold Oper.looksAt;exact lN.2 (.inl (List.mem_filterMap.2 ⟨.tmp t,Bl.1 hx,rfl⟩))
 have gd:∀(st':St),(∀t,oi.dst≠some t->st'.E t=st.E t)->gA all oj st'=gA all oj st:=fun st' hE=>by
  unfold gA;cases hg:oj.guard with
  |none=>rfl
  |some x=>
   obtain⟨j,b⟩:=x;simp only;cases ht:(all[j]?).bind (·.dst) with
   |none=>rfl
   |some t=>
    have:st'.E t=st.E t:=hE t fun e=>a4 t e (by
     unfold Oper.looksAt;refine lN.2 (.inr ?_);simp[hg,ht])
    simp only[this]
 have keptE:∀(m:dE) (st':St),(lH m oi (eF all) st st'∨st'=st.put oi.dst (.base undef))->(∀t,oi.dst≠some t->st'.E t=st.E t)∧st'.n=st.n:=fun m st' h=>by
  rcases h with h|rfl
  ·exact⟨h.E,h.n⟩
  ·refine⟨fun t ht=>?_,Fd _ _ _⟩;cases hd:oi.dst with
   |none=>rfl
   |some d=>exact dA _ _ _ _ (fun e=>ht (by rw[hd,e]))
 have keptS:∀(m:dE) (st':St),(lH m oi (eF all) st st'∨st'=st.put oi.dst (.base undef))->(kd oi= .eff->(eF all).contains (100000+oj.dst.getD 0)=true)->(eF all).contains (100000+oj.dst.getD 0)=false->st'.s=st.s:=fun m st' h he hA=>by
  rcases h with h|rfl
  ·refine h.s fun hk=>?_;have:=he hk;rw[hA] at this;cases this
  ·exact uH _ _ _
 have go:∀(m:dE),m.d=oj.dst->(∀t0 x,m.box=some (t0,x)->kd oj= .alloc∧oj.dst=some t0)->gF P all oi (m.run st) K->(∀(st':St),(lH m oi (eF all) st st'∨st'=st.put oi.dst (.base undef))->K (m.run st')->gF P all oj st' K)->gF P all oi st fun st'=>gF P all oj st' K:=by
  intro m hmd hmb h1 h2;have hm:m.Ok all oi:=⟨fun t ht=>a1 t (hmd ▸ ht),fun t ht=>a2 t (hmd ▸ ht),fun t0 x hb=>⟨by rw[hmd];exact(hmb t0 x hb).2,hja (hmb t0 x hb).1 t0 (hmb t0 x hb).2⟩⟩;exact Qx (fun st' ⟨k1,k2⟩=>h2 st' k2 k1) (Wf hm h1)
 have skip:fV oj st∧gF P all oi (st.put oj.dst (.base undef)) K->(∀st',gA all oj st'=gA all oj st->fV oj st'∧K (st'.put oj.dst (.base undef))->gF P all oj st' K)->gF P all oi st fun st'=>gF P all oj st' K:=fun h1 h2=>by
  refine go ⟨oj.dst,.base undef,none⟩ rfl (fun _ _ h=>by cases h) h1.2 fun st' hk hK=>h2 st' (gd st' (keptE _ st' hk).1) ⟨?_,hK⟩;have:=(keptE _ st' hk).2;unfold fV at h1 ⊢;rw[this];exact h1.1
 have act:gJ (eF all) oj st∧gD P oj st (fun st'=>gF P all oi st' K)->(∀st',gA all oj st'=gA all oj st->gJ (eF all) oj st'∧gD P oj st' K->gF P all oj st' K)->gF P all oi st fun st'=>gF P all oj st' K:=fun⟨hd,h1⟩ h2=>by
  cases hkj:kd oj with
  |eff=>rw[hkj] at hk;cases hk
  |alloc=>
   have dc:∀st',gJ (eF all) oj st':=fun st'=>by
    rcases Sc hkj with⟨t,e⟩|⟨t,x,e⟩<;>unfold gJ<;>rw[e]<;>trivial
   have boxed:∀t cs,(∀(st':St),(∀t,oi.dst≠some t->st'.E t=st.E t)->oG oj t cs st' K->gD P oj st' K)->oG oj t cs st (fun st'=>gF P all oi st' K)->gF P all oi st fun st'=>gF P all oj st' K:=by
    intro t cs back hb;unfold oG at hb;cases hdj:oj.dst with
    |none=>rw[hdj] at hb;exact hb.elim
    |some t0=>
     rw[hdj] at hb;simp only at hb;obtain⟨b1,b2,b3⟩:=hb;refine go ⟨oj.dst,.loc t0 0,some (t0,(cs,t))⟩ rfl (fun t1 x h=>by cases h;exact⟨hkj,hdj⟩) ?_ fun st' hkp hK=>h2 st' (gd st' (keptE _ st' hkp).1) ⟨dc st',back st' (keptE _ st' hkp).1 ?_⟩
     ·unfold dE.run;simp only;rw[hdj];exact b3
     ·unfold oG;rw[hdj];unfold dE.run at hK;simp only[hdj] at hK;refine⟨by rw[(keptE _ st' hkp).2];exact b1,?_,hK⟩;rcases hkp with hkp|rfl
      ·rw[hkp.locM t0 (cs,t) rfl];exact b2
      ·rw[uB];exact b2
   rcases Sc hkj with⟨t,e⟩|⟨t,x,e⟩
   ·unfold gD at h1;rw[e] at h1;simp only at h1;cases hty:bT P t with
    |none=>rw[hty] at h1;exact h1.elim
    |some d=>
     rw[hty] at h1;refine boxed t _ (fun st' _ hb=>?_) h1;unfold gD;rw[e];simp only[hty];exact hb
   ·unfold gD at h1;rw[e] at h1;simp only at h1;refine boxed t _ (fun st' hE hb=>?_) h1.2;unfold gD;rw[e];simp only;have:st'.eval x=st.eval x:=look st' hE x (by rw[e];simp[Op.operands]);rw[this];exact⟨h1.1,hb⟩
  |load=>
   obtain⟨t,x,e⟩:=ZB hkj;rw[hkj] at hk;simp only[dI,Bk,tW] at hk;obtain⟨hke,hk⟩:=hk;have hke:kd oi= .eff->(eF all).contains (100000+oj.dst.getD 0)=true:=fun h=>by
    rcases hke with h'|h'
    ·exact absurd h h'
    ·exact h'
   have hx:∀(st':St),(∀t,oi.dst≠some t->st'.E t=st.E t)->st'.eval x=st.eval x:=fun st' hE=>look st' hE x (by rw[e];simp[Op.operands]);have hd0:=hd;unfold gJ at hd;rw[e] at hd;simp only at hd;unfold gD at h1;rw[e] at h1;simp only at h1;unfold vT at h1;have key:lU P oj st (fun st'=>gF P all oi st' K)->(∀b off,st.eval x≠ .ptr b off)->gF P all oi st fun st'=>gF P all oj st' K:=by
    intro h1 hnp;unfold lU at h1;cases hpv:fF P st oj.op with
    |none=>rw[hpv] at h1;exact h1.elim
    |some vs=>
     obtain⟨v,side⟩:=vs;rw[hpv] at h1;simp only at h1;refine go ⟨oj.dst,v,none⟩ rfl (fun _ _ h=>by cases h) h1.2.2 fun st' hkp hK=>h2 st' (gd st' (keptE _ st' hkp).1) ⟨?_,?_⟩
     ·unfold gJ;rw[e];simp only[hx st' (keptE _ st' hkp).1];exact hd
     ·unfold gD;rw[e];simp only;have hxx:=hx st' (keptE _ st' hkp).1;have hpv':fF P st' oj.op=some (v,side):=by
       rw[<-hpv,e];simp only[fF,hxx];cases bT P t with
       |none=>rfl
       |some d=>
        simp only;cases he:st.eval x<;>try rfl
        rename_i k off;rw[he] at hd;simp only at hd;have:st'.loc k=st.loc k:=by
         rcases hkp with hkp|rfl
         ·by_cases ha:kd oi= .alloc
          ·obtain⟨t1,e1,e2,e3⟩:=hkp.locA ha;by_cases ek:k=t1
           ·exfalso;rw[e] at hpv;simp only[fF,he,ek,e2] at hpv;cases hq:bT P t<;>rw[hq] at hpv<;>cases hpv
           ·exact e3 k ek
          ·by_cases hs:∃t x y,oi.op= .store t x y
           ·obtain⟨t2,x2,y2,es⟩:=hs;rw[es] at hk;have hdi:=hkp.dc;unfold gJ at hdi;rw[es] at hdi;simp only at hdi;refine hkp.locS t2 x2 y2 es k fun off' he'=>?_;rw[he'] at hdi;cases x2<;>simp only at hk hdi<;>try (cases hk;done)
            rename_i t3;rw[if_pos hk] at hdi;rw[hdi,hk] at hd;cases hd
           ·rw[hkp.locE ha (fun t x y e=>hs ⟨t,x,y,e⟩)]
         ·rw[uB]
        simp only[this]
      have hp':lU P oj st' K:=by
       unfold lU;rw[hpv'];refine⟨h1.1,?_,hK⟩;have:=(keptE _ st' hkp).2;have h11:=h1.2.1;unfold fV at h11 ⊢;rw[this];exact h11
      unfold vT;rw[hxx];cases he:st.eval x<;>first|exact hp'|exact absurd he (hnp _ _)
   cases he:st.eval x<;>rw[he] at hd h1<;>simp only at hd h1<;>first|exact hd.elim|exact key h1 (by rw[he];simp)|skip
   rename_i b off;cases hty:bT P t with
   |none=>rw[hty] at h1;exact h1.elim
   |some d=>
    rw[hty] at h1;cases hb:st.s.box b with
    |none=>rw[hb] at h1;exact h1.elim
    |some z=>
     obtain⟨cs,ty⟩:=z;rw[hb] at h1;simp only at h1;cases hr:rd d cs off with
     |none=>rw[hr] at h1;exact h1.elim
     |some v=>
      rw[hr] at h1;simp only at h1;refine go ⟨oj.dst,v,none⟩ rfl (fun _ _ h=>by cases h) h1.2 fun st' hkp hK=>h2 st' (gd st' (keptE _ st' hkp).1) ⟨?_,?_⟩
      ·unfold gJ;rw[e];simp only[hx st' (keptE _ st' hkp).1,he];exact hd
      ·unfold gD;rw[e];simp only;unfold vT;rw[hx st' (keptE _ st' hkp).1,he];simp only;rw[keptS _ st' hkp hke hd,hty,hb];simp only[hr];refine⟨?_,hK⟩;have:=(keptE _ st' hkp).2;have h11:=h1.1;unfold fV at h11 ⊢;rw[this];exact h11
  |pure=>
   have hnl:∀t x,oj.op≠ .load t x:=fun t x e=>by unfold kd at hkj;rw[e] at hkj;cases hkj
   have hns:∀t x y,oj.op≠ .store t x y:=fun t x y e=>by unfold kd at hkj;rw[e] at hkj;cases hkj
   have hna:∀t,oj.op≠ .alloc t:=fun t e=>by unfold kd at hkj;rw[e] at hkj;cases hkj
   have hnb:∀t x,oj.op≠ .box t x:=fun t x e=>by unfold kd at hkj;rw[e] at hkj;cases hkj
   have hnc:∀f a ts,oj.op≠ .call { callee:=.value f,args:=a,argTypes:=ts }:=fun f a ts e=>by unfold kd at hkj;rw[e] at hkj;cases hkj
   have hnp:∀a ts,oj.op≠ .call { callee:=.builtin .append,args:=a,argTypes:=ts }:=fun a ts e=>by unfold kd at hkj;rw[e] at hkj;cases hkj
   have hpure:∀st' K',gD P oj st' K'↔lU P oj st' K':=fun st' K'=>by
    unfold gD;split
    ·rename_i e;exact absurd e (hna _)
    ·rename_i e;exact absurd e (hnb _ _)
    ·rename_i e;exact absurd e (hns _ _ _)
    ·rename_i e;exact absurd e (hnl _ _)
    ·rename_i e;exact absurd e (hnc _ _ _)
    ·rename_i e;exact absurd e (hnp _ _)
    ·exact Iff.rfl
   rw[hpure] at h1;unfold lU at h1;cases hpv:fF P st oj.op with
   |none=>rw[hpv] at h1;exact h1.elim
   |some vs=>
    obtain⟨v,side⟩:=vs;rw[hpv] at h1;simp only at h1;refine go ⟨oj.dst,v,none⟩ rfl (fun _ _ h=>by cases h) h1.2.2 fun st' hkp hK=>h2 st' (gd st' (keptE _ st' hkp).1) ⟨yA hnl hns _,?_⟩;rw[hpure];unfold lU;rw[Ys hnl (look st' (keptE _ st' hkp).1),hpv];refine⟨h1.1,?_,hK⟩;have:=(keptE _ st' hkp).2;have h11:=h1.2.1;unfold fV at h11 ⊢;rw[this];exact h11
 unfold gF at h;split at h
 ·rename_i hg;refine act h fun st' hgd hh=>?_;unfold gF;rw[hgd,hg];exact hh
 ·rename_i hg;refine skip h fun st' hgd hh=>?_;unfold gF;rw[hgd,hg];exact hh
 ·rename_i c b hg;split at h
  ·rename_i hc;refine act h fun st' hgd hh=>?_;unfold gF;rw[hgd,hg];simp only;rw[if_pos hc];exact hh
  ·rename_i hc;refine skip h fun st' hgd hh=>?_;unfold gF;rw[hgd,hg];simp only;rw[if_neg hc];exact hh
 ·exact h.elim
end
section
variable {P:Program}
inductive rI (all:Array Oper) (j:Nat):Nat->Prop
 |direct {i:Nat} {o:Oper} {e:Edge}:all[i]? =some o->e∈o.after->Region.binds .any e=true->e.on=j->rI all j i
 |step {i:Nat} {o:Oper} {e:Edge}:all[i]? =some o->e∈o.after->Region.binds .any e=true->rI all j e.on->rI all j i
def BV (acc:Array Nat) (j:Nat):∀(l:List Edge) (s:Nat),(l.foldl (fun s e=>if Region.binds .any e=true then s|||2^e.on|||acc.getD e.on 0 else s) s).testBit j=true->
 s.testBit j=true∨∃e∈l,Region.binds .any e=true∧(e.on=j∨(acc.getD e.on 0).testBit j=true)
 |[],s,h=>.inl h
 |e::l,s,h=>by
  simp only[List.foldl_cons] at h;rcases BV acc j l _ h with h|⟨e',he,h1,h2⟩
  ·split at h
   ·rename_i hb;rw[Nat.testBit_or,Nat.testBit_or] at h;simp only[Bk] at h;rcases h with(h|h)|h
    ·exact .inl h
    ·rw[Nat.testBit_two_pow] at h;exact .inr ⟨e,by simp,hb,.inl (by simpa using h)⟩
    ·exact .inr ⟨e,by simp,hb,.inr h⟩
   ·exact .inl h
  ·exact .inr ⟨e',by simp[he],h1,h2⟩
def Hu (all:Array Oper):∀(l:List Oper) (acc:Array Nat),all.toList.drop acc.size=l->(∀i j,(acc.getD i 0).testBit j=true->rI all j i)->∀i j,((Cr l acc).getD i 0).testBit j=true->rI all j i
 |[],acc,_,h=>h
 |o::l,acc,hl,h=>by
  have ho:all[acc.size]? =some o:=by
   have:=congrArg (·[0]?) hl
   simpa[Hc] using this
  refine Hu all l (acc.push (EL acc o)) ?_ ?_
  ·rw[Array.size_push,<-List.drop_drop,hl];rfl
  ·intro i j hb;by_cases e:i=acc.size
   ·subst e;simp only[iS,Array.getElem?_push_size,nH] at hb;rcases BV acc j _ 0 hb with h0|⟨e,he,h1,h2|h2⟩
    ·simp at h0
    ·exact .direct ho (Bl.2 he) h1 h2
    ·exact .step ho (Bl.2 he) h1 (h e.on j h2)
   ·refine h i j ?_;rw[iS,Array.getElem?_push,if_neg e] at hb;rwa[iS]
def Ny (all:Array Oper) (ms:Array Nat) (j i:Nat):Bool:=
 (ms.getD i 0).testBit j||(match all[j]?,all[i]? with
  |some oj,some oi=>Af all oj oi
  |_,_=>false)
def Ii (all:Array Oper) (ms:Array Nat):List Nat->Bool
 |[]=>true
 |j::r=>r.all (fun i=>Ny all ms j i)&& !r.contains j&&Ii all ms r
def nM (all:Array Oper) (ord:List Nat):Bool:=
 (List.range all.size).all (ord.contains ·)&&ord.all (fun i=>decide (i<all.size))&&
 (all.toList.zipIdx.all fun x=>x.1.after.all fun e=> !Region.binds .any e||decide (e.on<x.2))&&
 Ii all (Cr all.toList #[]) ord
def Qq {all:Array Oper} {ms:Array Nat}:∀{l:List Nat},Ii all ms l=true->l.Pairwise (fun j i=>Ny all ms j i=true)∧l.Nodup
 |[],_=>⟨.nil,.nil⟩
 |j::r,h=>by
  simp only[Ii,dI,lY,qR,List.contains_eq_mem,pZ] at h;obtain⟨⟨h1,h2⟩,h3⟩:=h;obtain⟨k1,k2⟩:=Qq h3;exact⟨.cons h1 k1,Hi.2 ⟨h2,k2⟩⟩
def Tt {all:Array Oper} {i:Nat} {oi:Oper} (hi:all[i]? =some oi) {K:St->Prop} {post:List Nat}:∀(pre:List Nat),(∀j∈pre,∃oj,all[j]? =some oj∧Af all oj oi=true)->∀(st:St),
 oJ P all (pre++i::post) st K->gF P all oi st fun st'=>oJ P all (pre++post) st' K
 |[],_,st,h=>by
  simp only[iY,oJ,hi] at h;exact h
 |j::pre,hp,st,h=>by
  obtain⟨oj,hj,hps⟩:=hp j (by simp);simp only[jP,oJ,hj] at h ⊢;refine aGe (Bl.1 (Array.mem_of_getElem? hi)) (fun hk t0 ht=>?_) hps (Qx (fun st' h'=>Tt hi pre (fun k hk=>hp k (by simp[hk])) st' h') h);simp only[List.contains_eq_mem,tW,eF,lN,List.mem_filterMap];refine .inl ⟨oj,Bl.1 (Array.mem_of_getElem? hj),?_⟩;rcases Sc hk with⟨t,e⟩|⟨t,x,e⟩<;>rw[e]<;>exact ht
def aHk {all:Array Oper} {e:Entry} {Q:Exit->Act->World->Prop} {K:St->Prop} (hPQ:PQ e Q) (hQ:∀a w,jC e K a w->Q .normal a w)
 (hlow:∀(i:Nat) (o:Oper),all[i]? =some o->∀ed∈o.after,Region.binds .any ed=true->ed.on<i):
 ∀(fuel:Nat) (listed:Array Bool) (rem:List Nat) (st:St) (a:Act) (w:World),rem.length<=fuel->listed.size=all.size->
  (∀i,i∈rem↔i<all.size∧listed.getD i true=false)->rem.Nodup->rem.Pairwise (fun j i=>rI all j i∨∃oj oi,all[j]? =some oj∧all[i]? =some oi∧Af all oj oi=true)->
  (∀i o,listed.getD i false=true->all[i]? =some o->∀ed∈o.after,Region.binds .any ed=true->listed.getD ed.on false=true)->
  oJ P all rem st K->In e st a w->wpAny P .any all Q fuel listed a w:=by
 intro fuel
 induction fuel with
 |zero=>
  intro listed rem st a w hlen hsz hmem hnd hpw hcl h hin;obtain rfl:rem=[]:=jU (by omega);refine⟨?_,hQ a w ⟨st,h,hin⟩⟩;cases hr:Region.ready .any all listed with
  |nil=>rfl
  |cons i r=>
   have:i∈Region.ready .any all listed:=by rw[hr];simp
   obtain⟨h1,o,ho,_⟩:=mem_ready.1 this;have:=(hmem i).2 ⟨(gZ.1 ho).1,h1⟩;simp at this
 |succ fuel ih=>
  intro listed rem st a w hlen hsz hmem hnd hpw hcl h hin;refine⟨fun hr=>?_,fun i hi=>?_⟩
  ·-- nothing is ready:nothing is left
   have:rem=[]:=by
    cases hrem:rem with
    |nil=>rfl
    |cons x xs=>
     exfalso;have least:∀n,∀i,i<n->i∈rem->False:=by
      intro n
      induction n with
      |zero=>intro i hi;omega
      |succ n ihn=>
       intro i hi hirem;by_cases hin':i<n
       ·exact ihn i hin' hirem
       ·obtain rfl:i=n:=by omega
        obtain⟨h1,h2⟩:=(hmem i).1 hirem;have hready:i∈Region.ready .any all listed:=by
         refine mem_ready.2 ⟨h2,all[i],by simp[h1],fun ed hed hb=>?_⟩;have hlt:=hlow i all[i] (by simp[h1]) ed hed hb;cases hq:listed.getD ed.on false with
         |true=>rfl
         |false=>
          exfalso;refine ihn ed.on hlt ((hmem ed.on).2 ⟨by omega,?_⟩);rw[iS] at hq ⊢;have:ed.on<listed.size:=by omega
          rw[oQ this] at hq ⊢;exact hq
        rw[hr] at hready;simp at hready
     exact least (x+1) x (by omega) (by rw[hrem];simp)
   subst this;exact hQ a w ⟨st,h,hin⟩
  ·obtain⟨h1,oi,ho,hdeps⟩:=mem_ready.1 hi;have hlt:i<all.size:=(gZ.1 ho).1;have hirem:i∈rem:=(hmem i).2 ⟨hlt,h1⟩;obtain⟨pre,post,rfl⟩:=List.append_of_mem hirem;have hnotanc:∀j∈pre,¬rI all j i:=by
    intro j hj hanc;have up:∀k,rI all j k->(∀o,all[k]? =some o->∀ed∈o.after,Region.binds .any ed=true->listed.getD ed.on false=true)->listed.getD j false=true:=by
     intro k hk
     induction hk with
     |direct ho' he hb hon=>intro hd;rw[<-hon];exact hd _ ho' _ he hb
     |step ho' he hb _ ih'=>
      intro hd;exact ih' fun o ho2=>hcl _ o (hd _ ho' _ he hb) ho2
    have hl:=up i hanc (fun o ho2=>by
     obtain rfl:o=oi:=eS (ho2.symm.trans ho);exact hdeps)
    have hjm:=((hmem j).1 (by simp[hj])).2;have hjs:=((hmem j).1 (by simp[hj])).1;rw[iS,oQ (by omega)] at hl hjm;rw[nH] at hl hjm;rw[hl] at hjm;cases hjm
   have hpass:∀j∈pre,∃oj,all[j]? =some oj∧Af all oj oi=true:=by
    intro j hj;have:=(List.pairwise_append.1 hpw).2.2 j hj i (by simp);rcases this with hA|⟨oj,oi',k1,k2,k3⟩
    ·exact absurd hA (hnotanc j hj)
    ·obtain rfl:oi'=oi:=eS (k2.symm.trans ho);exact⟨oj,k1,k3⟩
   have hb:=Tt ho pre hpass st h;refine wpOp_mono ?_ (zR (i:=i) ho hPQ (Hm hb) hin);rintro a' w' ⟨st',h',hin'⟩;have hsub:(pre++post).Sublist (pre++i::post):=List.Sublist.append_left (List.sublist_cons_self i post) pre;have hnd':=He.1 hnd;have hni:i ∉ pre++post:=by
    have h3:=(Hi.1 hnd'.2.1).1;intro hmm;rcases lN.1 hmm with hm|hm
    ·exact hnd'.2.2 i hm i (by simp) rfl
    ·exact h3 hm
   have hset:∀(k:Nat) (d:Bool),(listed.setIfInBounds i true).getD k d=if k=i then true else listed.getD k d:=fun k d=>by
    simp only[iS,Xh];by_cases e:i=k
    ·subst e;simp[hsz,hlt]
    ·simp[e,iE e]
   refine ih _ (pre++post) st' a' w' ?_ (by simpa using hsz) (fun k=>?_) (hnd.sublist hsub) (hpw.sublist hsub) ?_ h' hin'
   ·simp at hlen ⊢;omega
   ·rw[hset];by_cases e:k=i
    ·subst e;simp only[↓reduceIte,Bool.true_eq_false,and_false,iff_false];exact hni
    ·rw[if_neg e,<-hmem k];simp[e]
   ·intro k o hk hok ed hed hbd;rw[hset];split
    ·rfl
    ·rw[hset] at hk;by_cases e:k=i
     ·subst e;obtain rfl:o=oi:=eS (hok.symm.trans ho);exact hdeps ed hed hbd
     ·rw[if_neg e] at hk;exact hcl k o hk hok ed hed hbd
def aB.draw {Q:Exit->St->Prop} {st:St} {id:Nat} {ops:Array Oper} (hm:P.follows .mixedOrders=true) (ord:List Nat) (hok:nM ops ord=true) (h:oJ P ops ord st (Q .normal)):aB P (.region id ops true) Q st:=fun e a w hin=>by
 refine wp_region_any hm ?_;unfold nM at hok;simp only[dI,lY,zQ,List.contains_eq_mem,tW] at hok;obtain⟨⟨⟨h1,h2⟩,h3⟩,h4⟩:=hok;obtain⟨hpw,hnd⟩:=Qq h4;have hin':In e st a { w with drawn:=w.drawn+1 }:=by
  obtain⟨G,be,hx,hr⟩:=hin;exact⟨G,be,hx.trans (dD.more (dP.drew w)),hr.more (dP.drew w)⟩
 have hrep:∀(i:Nat) (d:Bool),i<ops.size->(Array.replicate ops.size false).getD i d=false:=fun i d hi=>by
  simp[iS,Gx,hi]
 refine aHk (K:=Q .normal) vE (fun a w h=>.inl h) ?_ ops.size _ ord st a _ ?_ (by simp) (fun i=>?_) hnd (hpw.imp fun {j i} hji=>?_) ?_ h hin'
 ·intro i o ho ed hed hb;have:=h3 (o,i) (by
   rw[List.mem_zipIdx_iff_getElem?];simpa using ho)
  simp only[Array.all_eq_true_iff_forall_mem,Bk,qR,tW] at this;rcases this ed hed with x|x
  ·rw[hb] at x;cases x
  ·exact x
 ·-- no more than all
  have hsubset:∀x∈ord,x∈List.range ops.size:=fun x hx=>zQ.2 (h2 x hx);have:=hnd.length_le_of_subset hsubset;simpa using this
 ·constructor
  ·intro hi;exact⟨h2 i hi,hrep i true (h2 i hi)⟩
  ·rintro⟨hi,_⟩;exact h1 i hi
 ·unfold Ny at hji;simp only[Bk] at hji;rcases hji with hb|hb
  ·exact .inl (Hu ops ops.toList #[] (by simp) (fun i j h=>by simp at h) i j hb)
  ·split at hb
   ·rename_i oj oi k1 k2;exact .inr ⟨oj,oi,k1,k2,hb⟩
   ·cases hb
 ·intro i o hi ho;have hlt:i<ops.size:=(gZ.1 ho).1;rw[hrep i false hlt] at hi;cases hi
def aB.regD {Q:Exit->St->Prop} {st:St} {id:Nat} {ops:Array Oper} {y:Code} (hm:P.follows .mixedOrders=true) (ord:List Nat) (hok:nM ops ord=true) (h:∀K:St->Prop,(∀st,aB P y Q st->K st)->oJ P ops ord st K):aB P (.seq (.region id ops true) y) Q st:=
 aB.seq (aB.draw hm ord hok (h _ fun _ h=>h))
def aB.regD1 {Q:Exit->St->Prop} {st:St} {id:Nat} {ops:Array Oper} (hm:P.follows .mixedOrders=true) (ord:List Nat) (hok:nM ops ord=true) (h:∀K:St->Prop,(∀st,Q .normal st->K st)->oJ P ops ord st K):aB P (.region id ops true) Q st:=
 aB.draw hm ord hok (h _ fun _ h=>h)
end
section
variable {P:Program} {Q:Exit->St->Prop} {st:St} {c:Code}
def Ux:V->Bool
 | .loc _ _=>true
 |_=>false
def BP {v:V} (h:Ux v=false):∀t off,v≠ .loc t off:=fun t off e=>by rw[e] at h;cases h
def cS.Qf {G:bC} {s:aL} {w:World} (h:cS G s w) (x:TypeId×Nat) (v:Value) (hv:∃a,v= .slice a 0 0):
 ∃G' g,G.Le G'∧s.own g=none∧G'.om g=some v∧(∀b o,G'.F b o=G.F b o)∧cS G' (s.cI g (some x)) w∧dD G s w G' (s.cI g (some x)) w∧(∀b,dL G' (s.cI g (some x)) b->dL G s b):=by
 obtain⟨N,hN⟩:=h.fin;obtain⟨hNo,hNs⟩:=hN N (dS _);obtain⟨a,rfl⟩:=hv;have hle:G.Le { G with om:=cA G.om N (some (.slice a 0 0)) }:=⟨fun _ _ _ h=>h,fun g' v hv=>by
  have:g'≠N:=fun e=>by subst e;rw[hNo] at hv;cases hv
  simpa[cA,this] using hv,fun _ _ hx=>hx⟩
 have hblk:jT (.slice a 0 0)=none:=by cases a<;>rfl
 have old:∀g x' v',(s.cI N (some x)).own g=some x'->cA G.om N (some (.slice a 0 0)) g=some v'->∀b,jT v'=some b->s.own g=some x'∧G.om g=some v':=fun g x' v' k1 k2 b k3=>by
  by_cases e:g=N
  ·subst e;rw[eL] at k2;cases k2
   rw[hblk] at k3;cases k3
  ·simp only[aL.cI,dA _ _ _ _ e] at k1 k2;exact⟨k1,k2⟩
 have hfoot:∀b,dL { G with om:=cA G.om N (some (.slice a 0 0)) } (s.cI N (some x)) b->dL G s b:=fun b hb=>by
  rcases hb with hb|⟨g,x',v',k1,k2,k3⟩
  ·exact .inl hb
  ·obtain⟨j1,j2⟩:=old g x' v' k1 k2 b k3;exact .inr ⟨g,x',v',j1,j2,k3⟩
 refine⟨{ G with om:=cA G.om N (some (.slice a 0 0)) },N,hle,hNs,eL _ _ _,fun _ _=>rfl,?_,⟨hle,dS _,rfl,rfl,rfl,fun _ _ _=>rfl,fun b hb=>.inl (hfoot b hb),fun b o hb=>.inl hb,fun g hg=>by
  by_cases e:g=N
  ·exact .inr (e ▸ hNo)
  ·simp only[aL.cI,dA _ _ _ _ e] at hg;exact .inl hg⟩,hfoot⟩
 refine⟨h.dO,fun b cs ty hb=>?_,fun g e sz hg=>?_,fun g g' y y' v v' b k1 k2 k3 k4 k5 k6=>?_,fun g y v b k1 k2 k3=>?_,⟨N+1,fun g hg=>?_⟩,h.ob,h.tab,h.siz⟩
 ·obtain⟨ccs,k1,k2,k3⟩:=h.box b cs ty hb;exact⟨ccs,k1,k2.mono hle,k3⟩
 ·by_cases e':g=N
  ·subst e';exact⟨_,eL _ _ _,.inl ⟨a,rfl⟩⟩
  ·simp only[aL.cI,dA _ _ _ _ e'] at hg;obtain⟨v,hv,ho⟩:=h.own g e sz hg;exact⟨v,hle.o g v hv,ho⟩
 ·obtain⟨j1,j2⟩:=old g y v k1 k3 b k5;obtain⟨j3,j4⟩:=old g' y' v' k2 k4 b k6;exact h.sep g g' y y' v v' b j1 j3 j2 j4 k5 k6
 ·obtain⟨j1,j2⟩:=old g y v k1 k2 b k3;exact h.nobox g y v b j1 j2 k3
 ·have e:g≠N:=by omega
  simp only[aL.cI,dA _ _ _ _ e];exact hN g (by omega)
def Zo {G:bC} {c:V} {v:Value} (hc:c= .nil∨c= .zcap) (h:bJ G c v):∃a,v= .slice a 0 0:=by
 rcases hc with rfl|rfl<;>cases h<;>exact⟨_,rfl⟩
def cW.Qf {n0:nS} {G:bC} {be:Nat->Option Nat} {a:Act} {w:World} (hr:cW n0 G be st a w) (x:TypeId×Nat) (v:Value) (hv:∃b,v= .slice b 0 0):
 ∃G' g,st.s.own g=none∧G'.om g=some v∧dD G st.s w G' (st.s.cI g (some x)) w∧cW n0 G' be { st with s:=st.s.cI g (some x) } a w:=by
 obtain⟨G',g,h1,h2,h3,h4,h5,h6,h7⟩:=hr.hr.Qf x v hv;refine⟨G',g,h2,h3,h6,h5,hr.n,hr.df.mono h1,fun t=>(hr.tmps t).mono h1,fun t cs ty ht=>?_,hr.inj⟩;obtain⟨b,k1,k2,⟨ccs,k3,k4,k5⟩,k6,k7⟩:=hr.loc t cs ty ht;exact⟨b,k1,k2,⟨ccs,k3,k4.mono h1,k5⟩,fun o=>by rw[h4];exact k6 o,fun hf=>k7 (h7 b hf)⟩
def Yq {G:bC} {g sz:Nat} {v:Value} (h:G.om g=some v) (hv:∃a,v= .slice a 0 0):bJ G (.own g sz []) v:=by
 obtain⟨a,rfl⟩:=hv;exact .own g sz [] _ (.slice0 sz a 0) h
def aB.Gw (t:Nat) (x:TypeId×Nat) (hc:st.E t= .nil∨st.E t= .zcap) (h:∀g,st.s.own g=none->aB P c Q { st with E:=cA st.E t (.own g x.2 []),s:=st.s.cI g (some x) }):aB P c Q st:=fun e a w hin=>by
 obtain⟨G,be,hx,hr⟩:=hin;have hne:Ux (st.E t)=false:=by rcases hc with e|e<;>rw[e]<;>rfl
 have hv:=Zo hc ((hr.tmps t).rep (BP hne));obtain⟨G',g,h1,h2,h3,h4⟩:=hr.Qf x _ hv;refine h g h1 e a w ⟨G',be,hx.trans h3,h4.hr,h4.n,h4.df,fun t'=>?_,h4.loc,h4.inj⟩;by_cases ht:t'=t
 ·subst ht;simp only[eL];exact eE.kF (Yq h2 hv)
 ·simp only[dA _ _ _ _ ht];exact h4.tmps t'
def aB.Wx (t i:Nat) (x:TypeId×Nat) {cs:List V} {ty:TypeId} (h1:st.loc t=some (cs,ty)) (hc:cs[i]? =some .nil∨cs[i]? =some .zcap) (h:∀g,st.s.own g=none->aB P c Q { st with loc:=cA st.loc t (some (cs.set i (.own g x.2 []),ty)),s:=st.s.cI g (some x) }):aB P c Q st:=fun e a w hin=>by
 obtain⟨G,be,hx,hr⟩:=hin;obtain⟨b,k1,k2,⟨ccs,k3,k4,k5⟩,k6,k7⟩:=hr.loc t cs ty h1;obtain⟨c0,hc0,hcc⟩:∃c0,cs[i]? =some c0∧(c0= .nil∨c0= .zcap):=by
  rcases hc with e|e
  ·exact⟨_,e,.inl rfl⟩
  ·exact⟨_,e,.inr rfl⟩
 obtain⟨v,hv1,hv2⟩:=k4.get hc0;have hv:=Zo hcc hv2;obtain⟨G',g,j1,j2,j3,j4⟩:=hr.Qf x v hv;refine h g j1 e a w ⟨G',be,hx.trans j3,j4.hr,j4.n,j4.df,fun t'=>?_,fun t' cs1 zI ht=>?_,fun t1 t2 b m1 m2=>?_⟩
 ·have:=j4.tmps t';show eE G' be _ (st.E t') _;change eE G' be st.loc (st.E t') _ at this;cases hv:st.E t'<;>rw[hv] at this<;>first|exact this|skip
  rename_i t0 off;refine⟨?_,this.2⟩;show cA st.loc t (some (cs.set i (.own g x.2 []),ty)) t0≠none;by_cases e:t0=t
  ·subst e;rw[eL];simp
  ·rw[dA _ _ _ _ e];exact this.1
 ·change cA st.loc t (some (cs.set i (.own g x.2 []),ty)) t'=_ at ht;by_cases e:t'=t
  ·subst e;rw[eL] at ht;cases ht
   obtain⟨b',n1,n2,⟨ccs',n3,n4,n5⟩,n6⟩:=j4.loc t' cs ty h1;obtain rfl:b'=b:=eS (n1.symm.trans k1);rw[k3] at n3;cases n3
   refine⟨b',n1,n2,⟨ccs,k3,?_,n5⟩,n6⟩;have hself:ccs.toList.set i v=ccs.toList:=by
    apply List.ext_getElem?;intro j;rw[List.getElem?_set];by_cases e:i=j
    ·subst e;have hlt:i<ccs.toList.length:=(pB.1 hv1).1;rw[if_pos rfl,if_pos hlt,hv1]
    ·simp[e]
   have:=n4.set i (Yq (sz:=x.2) j2 hv);rwa[hself] at this
  ·rw[dA _ _ _ _ e] at ht;exact j4.loc t' cs1 zI ht
 ·have f:∀t',cA st.loc t (some (cs.set i (.own g x.2 []),ty)) t'≠none->st.loc t'≠none:=fun t' h=>by
   by_cases e:t'=t
   ·subst e;rw[h1];simp
   ·rwa[dA _ _ _ _ e] at h
  exact j4.inj t1 t2 b (f t1 m1) (f t2 m2)
def aB.slen (t:Nat) {sz:Nat} {es:List (List V)} (h1:st.E t= .slice sz es) (h:es.length<=maxLen->aB P c Q st):aB P c Q st:=fun e a w hin=>by
 refine h ?_ e a w hin;obtain⟨G,be,hx,hr⟩:=hin;have:=hr.tmps t;rw[h1] at this;generalize a.tmps.getD t undef=v at this;cases (show bJ G (.slice sz es) v from this) with
 |slice _ _ b o cap cells k1 k2 k3=>omega
 |slice0=>simp
def Ts (P:Program) (all:Array Oper) (A:List Nat) (o:Oper) (st:St) (K:St->Prop):Prop:=
 match gA all o st with
 | .always=>gJ A o st∧gD P o st K
 | .never=>fV o st∧K (st.put o.dst (.base undef))
 | .test c b=>if c=b then gJ A o st∧gD P o st K else fV o st∧K (st.put o.dst (.base undef))
 | .stuck=>False
def mH (P:Program) (all:Array Oper) (A:List Nat):List Oper->St->(St->Prop)->Prop
 |[],st,K=>K st
 |o::r,st,K=>Ts P all A o st fun st'=>mH P all A r st' K
def Cf {all:Array Oper}:∀(ord:List Nat),(∀i∈ord,i<all.size)->∀(st:St) (K:St->Prop),mH P all (eF all) (ord.filterMap (all[·]?)) st K->oJ P all ord st K
 |[],_,st,K,h=>h
 |i::r,hs,st,K,h=>by
  have hlt:i<all.size:=hs i (by simp);have hi:all[i]? =some all[i]:=oQ hlt;rw[List.filterMap_cons_some (f:=fun x=>all[x]?) hi] at h;simp only[oJ,hi];exact Qx (fun st' h'=>Cf r (fun k hk=>hs k (by simp[hk])) st' K h') h
def AE {all:Array Oper} {ord:List Nat} (h:nM all ord=true):∀i∈ord,i<all.size:=by
 unfold nM at h;simp only[dI,lY,tW] at h;exact h.1.1.2
def aB.Be {id:Nat} {ops:Array Oper} {y:Code} (hm:P.follows .mixedOrders=true) (ord:List Nat) (hok:nM ops ord=true) (A:List Nat) (hA:eF ops=A) (h:∀K:St->Prop,(∀st,aB P y Q st->K st)->mH P ops A (ord.filterMap (ops[·]?)) st K):aB P (.seq (.region id ops true) y) Q st:=
 aB.regD hm ord hok fun K hK=>Cf ord (AE hok) st K (by rw[hA];exact h K hK)
def aB.Gs {id:Nat} {ops:Array Oper} (hm:P.follows .mixedOrders=true) (ord:List Nat) (hok:nM ops ord=true) (A:List Nat) (hA:eF ops=A) (h:∀K:St->Prop,(∀st,Q .normal st->K st)->mH P ops A (ord.filterMap (ops[·]?)) st K):aB P (.region id ops true) Q st:=
 aB.regD1 hm ord hok fun K hK=>Cf ord (AE hok) st K (by rw[hA];exact h K hK)
def aFb (P:Program) (all:Array Oper) (r:List Oper) (K:St->Prop) (st:St):Prop:=gK P all r st K
def aJa {all:Array Oper} {K:St->Prop}:gK P all [] st K=K st:=rfl
def aI8 {all:Array Oper} {o:Oper} {r:List Oper} {K:St->Prop}:gK P all (o::r) st K=rS P all o st (aFb P all r K):=rfl
def FC (P:Program) (all:Array Oper) (A:List Nat) (r:List Oper) (K:St->Prop) (st:St):Prop:=mH P all A r st K
def SQ {all:Array Oper} {A:List Nat} {K:St->Prop}:mH P all A [] st K=K st:=rfl
def PI {all:Array Oper} {A:List Nat} {o:Oper} {r:List Oper} {K:St->Prop}:mH P all A (o::r) st K=Ts P all A o st (FC P all A r K):=rfl
def aE5 (o:Oper) (st:St) (K:St->Prop) (v:V) (s':aL):Prop:=K ({ st with s:=s' }.put o.dst v)
def aJb {o:Oper} {f:Operand} {args:Array Operand} {K:St->Prop}:Aq P o f args st K=match st.eval f with
 | .func k first cap=>match qF (args.toList.map st.eval) with
  |some vs=>fV o st∧gM P k (first++vs++cap) st.s (fun v s'=>st.ds=[]∧st.pp v s') (aE5 o st K)
  |none=>False
 |_=>False:=rfl
def Wk.agg {cs cs':List V} (h:iX cs cs'):Wk (.agg cs) (.agg cs'):=fun G v hv=>by
 cases hv with
 |agg _ ccs h1 h2=>exact(h.rep (sP h1 h2)).agg
def Wk.tuple {cs cs':List V} (h:iX cs cs'):Wk (.tuple cs) (.tuple cs'):=fun G v hv=>by
 cases hv with
 |tuple _ ccs h1 h2=>exact(h.rep (sP h1 h2)).tuple
def iX.refl:∀l:List V,iX l l
 |[]=>trivial
 |c::l=>⟨Wk.refl c,iX.refl l⟩
end
section
variable {P:Program}
def tP (F:Fence):Prop:=F=Fence.wide∨∃l,F=Fence.wide.inRound l
def tP.fn {F:Fence} (h:tP F) (f:FuncId):F.fn f:=by rcases h with rfl|⟨l,rfl⟩<;>trivial
def tP.depth {F:Fence} (h:tP F):F.depth=none:=by rcases h with rfl|⟨l,rfl⟩<;>rfl
def tP.calls {F:Fence} (h:tP F) {n:Nat} {f:FuncId} {args:Array Value} {w:World} {R:Ending->World->Prop} (hc:Calls P f args w R):CallsIn F n P f args w R:=by
 rcases h with rfl|⟨l,rfl⟩
 ·exact callsIn_wide.2 hc
 ·exact(callsIn_wide (n:=n)).2 hc
def tP.rows {F:Fence} (h:tP F) {n:Nat} {row:String} {args:Array Value} {w:World} {R:Value->World->Prop} (hc:Rows P row args w R):RowsIn F n P row args w R:=by
 rcases h with rfl|⟨l,rfl⟩
 ·exact fun c cs _=>let ⟨v,w',a,b⟩:=hc c cs;⟨v,w',a,stepsIn_wide.2 b⟩
 ·exact fun c cs _=>let ⟨v,w',a,b⟩:=hc c cs;⟨v,w',a,(stepsIn_wide.2 b:StepsIn (Machine.fenced P Fence.wide) P _ _)⟩
def Ji {F:Fence} (hF:tP F) {o:Oper} {a:Act} {w:World} {next:Act->World->Prop} {Q:Exit->Act->World->Prop} (h:o.wp P a w next Q) (hnd:∀c,o.op≠ .defer c):o.wpIn F 0 P a w next Q:=by
 refine⟨fun f _=>hF.fn f,?_⟩;rw[Oper.semAt_eq _ _ _ hnd];unfold Oper.wp at h;generalize (execOp a.eval o).run P w=r at h;have hd:F.depth.isSome=true->1<=0:=by rw[hF.depth];simp
 unfold Oper.upon at h;unfold Oper.uponIn;split at h<;>first|exact h|exact⟨hd,hF.calls h⟩|exact⟨hd,hF.rows h⟩|exact h.elim
def oS (all:Array Oper):Bool:=all.toList.all fun o=>match o.op with| .defer _=>false|_=>true
def Hp {all:Array Oper} (h:oS all=true) {i:Nat} {o:Oper} (hi:all[i]? =some o):∀c,o.op≠ .defer c:=fun c e=>by
 have:=lY.1 h o (Dv (by simpa using hi));rw[e] at this;cases this
def sS (F:Fence) (P:Program) (all:Array Oper) (o:Oper) (a:Act) (w:World) (next:Act->World->Prop) (Q:Exit->Act->World->Prop):Prop:=
 if Region.wanted o (yielded all a.tmps) then o.wpIn F 0 P a w next Q else(∀f,o.about P w a.eval=some f->F.fn f)∧next (a.put o.dst undef) w
def DE {F:Fence} (hF:tP F) {e:Entry} {all:Array Oper} {o:Oper} (hnd:∀c,o.op≠ .defer c) {st:St} {K:St->Prop} {a:Act} {w:World} {Q:Exit->Act->World->Prop} (hPQ:PQ e Q) (h:rS P all o st K) (hin:In e st a w):sS F P all o a w (jC e K) Q:=by
 obtain⟨g1,g2,g3⟩:=Dy (all:=all) (o:=o) hin;unfold sS;unfold rS at h;split at h
 ·rename_i hg;rw[if_pos (g1 hg)];exact Ji hF (Mu hPQ h hin) hnd
 ·rename_i hg;rw[g2 hg];exact⟨fun f _=>hF.fn f,_,h.2,Nc h.1 hin⟩
 ·rename_i c b hg;rw[g3 c b hg];split at h
  ·rename_i hc;rw[if_pos (by simpa using hc)];exact Ji hF (Mu hPQ h hin) hnd
  ·rename_i hc;rw[if_neg (by simpa using hc)];exact⟨fun f _=>hF.fn f,_,h.2,Nc h.1 hin⟩
 ·exact h.elim
def Hn {F:Fence} {all:Array Oper} {o:Oper} {a:Act} {w:World} {next next':Act->World->Prop} {Q:Exit->Act->World->Prop} (h:sS F P all o a w next Q) (hn:∀a w,next a w->next' a w):sS F P all o a w next' Q:=by
 unfold sS at h ⊢;split at h
 ·rename_i hw;rw[if_pos hw];refine⟨h.1,?_⟩;have h2:=h.2;generalize (o.semAt F.round a.eval).run P w=r at h2 ⊢;unfold Oper.uponIn at h2 ⊢;split at h2<;>first|exact hn _ _ h2|exact h2|exact h2.elim|skip
  ·refine⟨h2.1,h2.2.1,fun cs hr=>?_⟩;obtain⟨e,w',fr,k1,k2⟩:=h2.2.2 cs hr;refine⟨e,w',fr,?_,k2⟩;cases e<;>first|exact hn _ _ k1|exact k1
  ·exact⟨h2.1,h2.2.mono fun v w' k=>hn _ _ k⟩
  ·refine⟨h2.1,h2.2.mono fun e w' k=>?_⟩;cases e<;>first|exact hn _ _ k|exact k
 ·rename_i hw;rw[if_neg hw];exact⟨h.1,hn _ _ h.2⟩
def Hj {F:Fence} {all:Array Oper} {Q:Exit->Act->World->Prop} {i:Nat} {rest:List Nat} {o:Oper} (ho:all[i]? =some o) {a:Act} {w:World} (h:sS F P all o a w (wpOpsIn F 0 P all Q rest) Q):wpOpsIn F 0 P all Q (i::rest) a w:=by
 simp only[wpOpsIn,ho];exact h
def vK {F:Fence} (hF:tP F) {e:Entry} {all:Array Oper} (hnd:oS all=true) {Q:Exit->Act->World->Prop} {K:St->Prop} {rest:List Nat} (hPQ:PQ e Q) (hQ:∀a w,jC e K a w->wpOpsIn F 0 P all Q rest a w):∀(n k:Nat),k+n<=all.size->∀(st:St) (a:Act) (w:World),
 gK P all ((all.toList.drop k).take n) st K->In e st a w->wpOpsIn F 0 P all Q (List.range' k n++rest) a w
 |0,k,hk,st,a,w,h,hin=>by
  simp only[wO,gK] at h;exact hQ a w ⟨st,h,hin⟩
 |n+1,k,hk,st,a,w,h,hin=>by
  have hlt:k<all.size:=by omega
  rw[tV (by simpa using hlt),List.take_succ_cons] at h;rw[Hg,jP];have hi:all[k]? =some all.toList[k]:=by simp[hlt]
  refine Hj hi (Hn (DE hF (Hp hnd hi) hPQ h hin) ?_);rintro a' w' ⟨st',h',hin'⟩;exact vK hF hnd hPQ hQ n (k+1) (by omega) st' a' w' h' hin'
inductive OT where
 |fin
 |op (i:Nat) (t:OT)
 |both (a b:OT)
def OT.oP:OT->List Nat
 | .fin=>[]
 | .op i _=>[i]
 | .both a b=>a.oP++b.oP
def OT.kids (all:Array Oper):OT->Nat->Array Bool->Bool
 | .fin,_,_=>true
 | .op _ _,0,_=>false
 | .op i t,f+1,l=>(Region.ready .any all (l.setIfInBounds i true)==t.oP)&&OT.kids all t f (l.setIfInBounds i true)
 | .both a b,f,l=>OT.kids all a f l&&OT.kids all b f l
def OT.ok (all:Array Oper) (t:OT):Bool:=(Region.ready .any all (Array.replicate all.size false)==t.oP)&&t.kids all all.size (Array.replicate all.size false)
def pE (P:Program) (all:Array Oper):OT->St->(St->Prop)->Prop
 | .fin,st,K=>K st
 | .op i t,st,K=>match all[i]? with
  |some o=>rS P all o st fun st'=>pE P all t st' K
  |none=>False
 | .both a b,st,K=>pE P all a st K∧pE P all b st K
def OT.head {all:Array Oper} {K:St->Prop} {st:St} {f:Nat} {l:Array Bool} {i:Nat}:∀(t:OT),i∈t.oP->t.kids all f l=true->pE P all t st K->
 ∃f' t' o,f=f'+1∧all[i]? =some o∧Region.ready .any all (l.setIfInBounds i true)=t'.oP∧t'.kids all f' (l.setIfInBounds i true)=true∧rS P all o st fun st'=>pE P all t' st' K
 | .fin,hi,_,_=>by simp[OT.oP] at hi
 | .op j t,hi,hk,h=>by
  obtain rfl:i=j:=by simpa[OT.oP] using hi
  cases f with
  |zero=>simp[OT.kids] at hk
  |succ f=>
   simp only[OT.kids,dI,eM] at hk;simp only[pE] at h;cases ho:all[i]? with
   |none=>rw[ho] at h;exact h.elim
   |some o=>rw[ho] at h;exact⟨f,t,o,rfl,rfl,hk.1,hk.2,h⟩
 | .both a b,hi,hk,h=>by
  simp only[OT.kids,dI] at hk;rcases lN.1 (show i∈a.oP++b.oP from hi) with hi|hi
  ·exact OT.head a hi hk.1 h.1
  ·exact OT.head b hi hk.2 h.2
def OT.Ma {all:Array Oper} {K:St->Prop} {st:St}:∀(t:OT),t.oP=[]->pE P all t st K->K st
 | .fin,_,h=>h
 | .op j t,hi,_=>by simp[OT.oP] at hi
 | .both a b,hi,h=>OT.Ma a (List.append_eq_nil_iff.1 (show a.oP++b.oP=[] from hi)).1 h.1
def IP {F:Fence} (hF:tP F) {e:Entry} {all:Array Oper} (hnd:oS all=true) {Q:Exit->Act->World->Prop} {K:St->Prop} (hPQ:PQ e Q) (hQ:∀a w,jC e K a w->Q .normal a w):∀(fuel:Nat) (t:OT) (listed:Array Bool) (st:St) (a:Act) (w:World),
 Region.ready .any all listed=t.oP->t.kids all fuel listed=true->pE P all t st K->In e st a w->wpAnyIn F 0 P .any all Q fuel listed a w
 |0,t,listed,st,a,w,hr,hk,h,hin=>by
  have hn:t.oP=[]:=by
   cases hq:t.oP with
   |nil=>rfl
   |cons i r=>
    obtain⟨f',_,_,hf,_⟩:=OT.head (i:=i) t (by rw[hq];simp) hk h;cases hf
  exact⟨hr.trans hn,hQ a w ⟨st,OT.Ma t hn h,hin⟩⟩
 |fuel+1,t,listed,st,a,w,hr,hk,h,hin=>by
  refine⟨fun h0=>hQ a w ⟨st,OT.Ma t (hr.symm.trans h0) h,hin⟩,fun i hi=>?_⟩;rw[hr] at hi;obtain⟨f',t',o,hf,ho,k1,k2,k3⟩:=OT.head (i:=i) t hi hk h;cases hf
  have:=Hn (DE (F:=F) hF (Hp hnd ho) (Q:=Q) hPQ k3 hin) (next':=wpAnyIn F 0 P .any all Q fuel (listed.setIfInBounds i true)) ?_
  ·unfold sS at this;unfold wpOpIn;simp only[ho];exact this
  ·rintro a' w' ⟨st',h',hin'⟩;exact IP hF hnd hPQ hQ fuel t' _ st' a' w' k1 k2 h' hin'
def zG (P:Program) (d:Option OT) (all:Array Oper) (st:St) (K:St->Prop):Prop:=match d with
 |none=>gK P all all.toList st K
 |some t=>t.ok all=true∧P.follows .mixedOrders=true∧pE P all t st K
def DZ {F:Fence} (hF:tP F) {e:Entry} {all:Array Oper} (hnd:oS all=true) {Q:Exit->Act->World->Prop} {K:St->Prop} (hPQ:PQ e Q) (hQ:∀a w,jC e K a w->Q .normal a w) {d:Option OT} {st:St} {a:Act} {w:World} (h:zG P d all st K) (hin:In e st a w) {id:Nat}:
 (Code.region id all d.isSome).wpIn F 0 P Q a w:=by
 cases d with
 |none=>
  refine wpIn_region ?_;rw[show List.range all.size=List.range' 0 all.size++[] by rw[gL,Bg]];refine vK hF hnd hPQ (fun a w h=>by simpa only[wpOpsIn] using hQ a w h) all.size 0 (by omega) st a w ?_ hin;rw[kG,nG (by simp)];exact h
 |some t=>
  obtain⟨h1,h2,h3⟩:=h;simp only[OT.ok,dI,eM] at h1;refine wpIn_region_any h2 (IP hF hnd hPQ hQ all.size t _ st a _ h1.1 h1.2 h3 ?_);obtain⟨G,be,hx,hr⟩:=hin;exact⟨G,be,hx.trans (dD.more (dP.drew w)),hr.more (dP.drew w)⟩
def wW (P:Program) (lo:bC) (l:Nat) (args:List V) (s:aL) (R:V->aL->Prop):Prop:=
 ∀G w (cargs:Array Value),cS G s w->lo.Le G->bZ G args cargs.toList->YieldAt Fence.wide 0 P l cargs w fun e w'=>∃G' s' v cv,e= .returned cv∧bJ G' v cv∧dD G s w G' s' w'∧cS G' s' w'∧R v s'
def lP (l:Nat):V:=.base (.func (.yield l) #[] #[])
def NI {e:Entry} {o:Oper} {f:Operand} {args:Array Operand} {ts:Array TypeId} (ho:o.op= .call { callee:=.value f,args:=args,argTypes:=ts }) {st:St} {l:Nat} (hf:st.eval f=lP l) {vs:List V} (hvs:qF (args.toList.map st.eval)=some vs) (hdst:fV o st)
 {R:V->aL->Prop} (hy:wW P st.lo l vs st.s R) {a:Act} {w:World} {Q:Exit->Act->World->Prop} (hin:In e st a w):
 o.wpIn Fence.wide 0 P a w (jC e fun st'=>∃v s',R v s'∧st'=({ st with s:=s' }:St).put o.dst v) Q:=by
 obtain⟨G,be,hx,hr⟩:=hin;refine⟨fun f _=>trivial,?_⟩;have hq:a.eval f= .func (.yield l) #[] #[]:=gT hr hf;have hargs:=Ho hr _ _ hvs;obtain⟨fn,tmps,assign,body,hrun,hround⟩:=hy G w (args.map a.eval) hr.hr hr.df.lo (by simpa using hargs);have:((o.semAt Fence.wide.round a.eval).run P w)= .ok (.round l fn tmps assign body) w:=by
  rw[Oper.semAt_eq _ _ _ (fun c e=>by rw[ho] at e;cases e)];unfold execOp;simp only[ho,resolve,hq,Deferred.ofValue,Sem.run_bind,Sem.run_pure,Result.andThen_ok,invoke,Array.empty_append];exact hrun
 rw[this];refine⟨fun h=>by simp[Fence.wide] at h,hround.mono ?_⟩;rintro e' w' ⟨G',s',v,cv,rfl,hv,hx',hh',hR⟩;refine⟨_,⟨v,s',hR,rfl⟩,G',be,?_,(hr.ext hx' hh').put o.dst (uZ hdst) (eE.kF hv)⟩;rw[uH];exact hx.trans hx'
def Sj (P:Program) (all:Array Oper) (j:Nat) (o:Oper) (f:Operand) (args:Array Operand) (K:St->Prop) (st:St):Prop:=
 (match gA all o st with| .always=>True| .test c b=>c=b|_=>False)∧fV o st∧∃l vs R,st.eval f=lP l∧qF (args.toList.map st.eval)=some vs∧wW P st.lo l vs st.s R∧
  ∀v s',R v s'->gK P all (all.toList.drop (j+1)) (({ st with s:=s' }:St).put o.dst v) K
def aB.regY {Q:Exit->St->Prop} {st:St} {id:Nat} {ops:Array Oper} {y:Code} (j:Nat) {o:Oper} {f:Operand} {args:Array Operand} {ts:Array TypeId} (hj:ops[j]? =some o) (ho:o.op= .call { callee:=.value f,args:=args,argTypes:=ts }) (hnd:oS ops=true)
 (h:∀K:St->Prop,(∀st,aB P y Q st->K st)->gK P ops (ops.toList.take j) st (Sj P ops j o f args K)):aB P (.seq (.region id ops false) y) Q st:=by
 refine aB.seq fun e a w hin=>(wpIn_wide (n:=0)).1 (wpIn_region ?_);have hlt:j<ops.size:=(gZ.1 hj).1;have hsplit:List.range ops.size=List.range' 0 j++(j::(List.range' (j+1) (ops.size-(j+1))++[])):=by
  have h0:=@List.range'_append_1 0 j (ops.size-(j+1)+1);rw[kH,show j+(ops.size-(j+1)+1)=ops.size by omega] at h0;rw[gL,Bg,<-Hg,h0]
 rw[hsplit];refine vK (.inl rfl) hnd (e:=e) (K:=Sj P ops j o f args _) vE (fun a1 w1 hth=>?_) j 0 (by omega) st a w (by simpa using h _ fun _ h=>h) hin;obtain⟨st1,⟨hg,hdst,l,vs,R,hf,hvs,hy,hrest⟩,hin1⟩:=hth;obtain⟨g1,g2,g3⟩:=Dy (all:=ops) (o:=o) hin1;have hw:Region.wanted o (yielded ops a1.tmps)=true:=by
  split at hg
  ·rename_i hgd;exact g1 hgd
  ·rename_i c b hgd;rw[g3 c b hgd];simpa using hg
  ·exact hg.elim
 refine Hj hj ?_;unfold sS;rw[if_pos hw];have hstep:=NI (P:=P) (Q:=fun x a' w'=>jC e (qI (fun st=>aB P y Q st) Q x) a' w'∨tT e x a' w') ho hf hvs hdst hy hin1;have:=Hn (P:=P) (all:=ops) (F:=Fence.wide) (o:=o) (a:=a1) (w:=w1) (next':=wpOpsIn Fence.wide 0 P ops (fun x a' w'=>jC e (qI (fun st=>aB P y Q st) Q x) a' w'∨tT e x a' w') (List.range' (j+1) (ops.size-(j+1))++[])) (by unfold sS;rw[if_pos hw];exact hstep) ?_
 ·unfold sS at this;rw[if_pos hw] at this;exact this
 ·rintro a2 w2 ⟨_,⟨v,s',hR,rfl⟩,hin2⟩;refine vK (.inl rfl) hnd (e:=e) (K:=aB P y Q) (rest:=[]) vE (fun a3 w3 h3=>?_) (ops.size-(j+1)) (j+1) (by omega) _ a2 w2 ?_ hin2
  ·simp only[wpOpsIn];obtain⟨st3,h3,h4⟩:=h3;exact .inl ⟨st3,h3,h4⟩
  ·have:=hrest v s' hR;rwa[nG (by simp)]
def aB.Ww {Q:Exit->St->Prop} {st:St} {id:Nat} {ops:Array Oper} {y:Code} (j:Nat) {d:Option Tmp} {ty:TypeId} {ps:String} {af:Array Edge} {gd:Option (Nat×Bool)} {f:Operand} {args:Array Operand} {ts:Array TypeId} (hj:ops[j]? =some { dst:=d,op:=.call { callee:=.value f,args:=args,argTypes:=ts },type:=ty,pos:=ps,after:=af,guard:=gd }) (hnd:oS ops=true)
 (h:∀K:St->Prop,(∀st,aB P y Q st->K st)->gK P ops (ops.toList.take j) st (Sj P ops j { dst:=d,op:=.call { callee:=.value f,args:=args,argTypes:=ts },type:=ty,pos:=ps,after:=af,guard:=gd } f args K)):aB P (.seq (.region id ops false) y) Q st:=
 aB.regY j hj rfl hnd h
def bC.gO (G:bC) (k:Nat) (x:Obj):bC:={ G with ob:=fun k'=>if k'=k then some x else G.ob k' }
def bC.Qh {G:bC} {k:Nat} {x:Obj} (hk:∀y,G.ob k=some y->y=x):G.Le (G.gO k x):=
 ⟨fun _ _ _ h=>h,fun _ _ h=>h,fun k' y h=>by
  simp only[bC.gO];split
  ·rename_i e;subst e;rw[hk y h]
  ·exact h⟩
def cS.gO {G:bC} {s:aL} {w:World} (h:cS G s w) {k:Nat} {x:Obj} (hk:w.heap[k]? =some x) (hx:wJ x=false):cS (G.gO k x) s w where
 dO:=h.dO
 box:=fun b cs ty hb=>by
  obtain⟨ccs,a,c,d⟩:=h.box b cs ty hb;exact⟨ccs,a,⟨c.1,fun i c' v p q=>bJ.Xc (G:=G) (G':=G.gO k x) (fun _ _ _ h=>h) (fun _ _ h=>h) (c.2 i c' v p q)⟩,d⟩
 own:=h.own
 sep:=h.sep
 nobox:=h.nobox
 fin:=h.fin
 ob:=fun k' y hy=>by
  simp only[bC.gO] at hy;split at hy
  ·rename_i e;subst e;cases hy;exact⟨hx,hk⟩
  ·exact h.ob k' y hy
 tab:=h.tab
 siz:=h.siz
def Co (fn:FuncId) (tmps:Array Value) (p:Nat) (assign body:Code) (D:Nat) (s:LoopState):Loop:={ state:=s,pending:=none,fn:=fn,tmps:=tmps,params:= #[p],assign:=assign,body:=body,defers:=D }
abbrev bC.bot:bC:=⟨fun _ _=>none,fun _=>none,fun _=>none⟩
def DQ {α:Type} (P:Program) (E:Nat->V) (n p:Nat) (enc:α->V) (Hs:List α->aL->Prop) (A:List α->α->Prop) (opsA opsB:Array Oper) (dB:Option OT):Prop:=
 ∀pre x s,Hs pre s->A pre x->∀K1:St->Prop,
  (∀st1 t5 cs ty,st1.loc=cA (fun _=>none) t5 (some (cs,ty))->st1.ds=[]->st1.lo=bC.bot->
   (∀b,st1.s.box b=none->∀K2:St->Prop,(∀st2 s',st2.s.le s'->Hs (pre++[x]) s'->K2 st2)->zG P dB opsB (st1.cM t5 b (cs,ty)) K2)->K1 st1)->
  gK P opsA opsA.toList { E:=cA E p (enc x),loc:=fun _=>none,s:=s,n:=n } K1
def MK {α:Type} {lo:bC} {l p:Nat} {fn:FuncId} {tm:Array Value} {ida ib idb:Nat} {opsA opsB:Array Oper} {dB:Option OT} {D n:Nat} {E:Nat->V} {enc:α->V} {Hs:List α->aL->Prop}
 (hrec:lo.ob l=some (.loop (Co fn tm p (.region ida opsA false) (.block ib (.region idb opsB dB.isSome)) D .ready))) (htm:tm.size=n) (hE:∀t,bJ lo (E t) (tm.getD t undef)) (hp:p<n)
 (hA:oS opsA=true) (hB:oS opsB=true) {A:List α->α->Prop} (hround:DQ P E n p enc Hs A opsA opsB dB) (pre:List α) (x:α) (s:aL) (hs:Hs pre s) (hN:A pre x):
 wW P lo l [enc x] s fun v s'=>v= .base (.bool true)∧Hs (pre++[x]) s':=by
 intro G w cargs hh hlo hargs;obtain⟨v,vs,e1,hv,hnil⟩:=hargs.sJ;have:=hnil.Bd;subst this;obtain rfl:cargs= #[v]:=by rw[<-xV,e1]
 have hGl:G.ob l=some _:=hlo.b _ _ hrec;have hl:=(hh.ob l _ hGl).2;have hll:l<w.heap.size:=(gZ.1 hl).1;have hyr:=run_yield (P:=P) (args:= #[v]) hl (by simp[Co]);refine⟨_,_,_,_,hyr,roundIn_of_wpIn trivial ?_⟩;simp only[Co];have htmps:Array.foldl (fun tmps (x:Tmp×Value)=>tmps.setIfInBounds x.1 x.2) tm (#[p].zip #[v])=tm.setIfInBounds p v:=by simp
 simp only[htmps];have hin0:In ⟨G.drop l,s,w,[],kW⟩ { E:=cA E p (enc x),loc:=fun _=>none,s:=s,n:=n } { tmps:=tm.setIfInBounds p v,defers:=[] } w:=by
  refine⟨G.drop l,fun _=>none,dD.refl _ _ _,hh.drop l,by simpa using htm,zK.nil,fun t=>?_,(fun t cs ty ht=>by cases ht),fun t t' b h1=>absurd rfl h1⟩;by_cases ht:t=p
  ·subst ht;simp only[eL,iS,Qn (by omega:t<tm.size),nH];exact eE.kF hv.uU
  ·simp only[dA _ _ _ _ ht,iS,Me (iE ht)];have:=hE t;rw[iS] at this;exact eE.kF (this.mono hlo).uU
 refine wpIn_region ?_;have hspl:∀ops:Array Oper,List.range ops.size=List.range' 0 ops.size++[]:=fun ops=>by rw[gL,Bg]
 rw[hspl];refine vK (.inr ⟨l,rfl⟩) hA (e:=⟨G.drop l,s,w,[],kW⟩) (K:=fun st1=>∃t5 cs ty,st1.loc=cA (fun _=>none) t5 (some (cs,ty))∧st1.ds=[]∧st1.lo=bC.bot∧∀b,st1.s.box b=none->∀K2:St->Prop,(∀st2 s',st2.s.le s'->Hs (pre++[x]) s'->K2 st2)->zG P dB opsB (st1.cM t5 b (cs,ty)) K2) (PQ.no rfl) (fun a1 w1 hth=>?_) opsA.size 0 (by omega) _ _ w (by
  rw[kG,nG (by simp)];exact hround pre x s hs hN _ fun st1 t5 cs ty h1 h2 h2' h3=>⟨t5,cs,ty,h1,h2,h2',h3⟩) hin0
 obtain⟨st1,⟨t5,cs,ty,hloc,hds,hlo1,hb⟩,hin1⟩:=hth;obtain⟨b,hbn,G1,be,hx1,hr1⟩:=hin1.cM (t0:=t5) (x:=(cs,ty)) (by rw[hloc,eL]);have nf:¬dL (G.drop l) s l:=fun hf=>by
  obtain⟨y,k1,k2⟩:=hh.Lx hf;rw[hl] at k1;cases k1;cases k2
 have hl1:=(hx1.keep l hll nf).trans hl;have hbr:=run_beginRound (P:=P) hl1 rfl;refine⟨_,hbr,?_⟩;generalize hw2:w1.putObj l _=w2;have hw2l:w2.heap[l]? =some (.loop (Co fn tm p (.region ida opsA false) (.block ib (.region idb opsB dB.isSome)) D .busy)):=by
  rw[<-hw2];exact World.putObj_heap_same (gZ.1 hl1).1
 have hw2s:w2.heap.size=w1.heap.size:=by rw[<-hw2];simp
 have hw2o:∀k,k≠l->w2.heap[k]? =w1.heap[k]? :=fun k hk=>by rw[<-hw2];exact World.putObj_heap_other hk
 have hH2:cS (G1.drop l) (st1.cM t5 b (cs,ty)).s w2:=by rw[<-hw2];exact(hr1.hr.drop l).putObj hl1 rfl (by simp[bC.drop])
 have hlocn:(st1.cM t5 b (cs,ty)).loc=fun _=>none:=by
  funext t;simp only[St.cM,hloc,cA];split<;>rfl
 have hsteq:st1.cM t5 b (cs,ty)={ E:=(st1.cM t5 b (cs,ty)).E,loc:=fun _=>none,s:=(st1.cM t5 b (cs,ty)).s,n:=st1.n }:=by
  have e1:(st1.cM t5 b (cs,ty)).ds=[]:=hds;have e2:(st1.cM t5 b (cs,ty)).lo=bC.bot:=hlo1;have e3:(st1.cM t5 b (cs,ty)).n=st1.n:=rfl;have e4:=hlocn;have e5:(st1.cM t5 b (cs,ty)).pp=kW:=hr1.df.pp;generalize st1.cM t5 b (cs,ty)=z at e1 e2 e3 e4 e5 ⊢;cases z
  simp only at e1 e2 e3 e4 e5;subst e1;subst e2;subst e3;subst e4;subst e5;rfl
 have hin2:In ⟨G1.drop l,(st1.cM t5 b (cs,ty)).s,w2,[],kW⟩ { E:=(st1.cM t5 b (cs,ty)).E,loc:=fun _=>none,s:=(st1.cM t5 b (cs,ty)).s,n:=st1.n } a1 w2:=by
  refine⟨G1.drop l,be,dD.refl _ _ _,hH2,hr1.n,⟨by have:=hr1.df.eq;rw[show(st1.cM t5 b (cs,ty)).ds=[] from hds] at this;exact this,(fun d h=>by cases h),Mi,bC.none_le _,rfl⟩,fun t=>?_,(fun t cs ty ht=>by cases ht),fun t t' b h1=>absurd rfl h1⟩;have:=hr1.tmps t;rw[hlocn] at this;cases hv:(st1.cM t5 b (cs,ty)).E t<;>rw[hv] at this<;>simp only[hv]<;>first|exact bJ.uU this|exact absurd rfl this.1
 have hbody:zG P dB opsB { E:=(st1.cM t5 b (cs,ty)).E,loc:=fun _=>none,s:=(st1.cM t5 b (cs,ty)).s,n:=st1.n } (fun st2=>∃s',st2.s.le s'∧Hs (pre++[x]) s'):=?_
 ·refine wpIn_block (DZ (.inr ⟨l,rfl⟩) hB (e:=⟨G1.drop l,(st1.cM t5 b (cs,ty)).s,w2,[],kW⟩) (K:=fun st2=>∃s',st2.s.le s'∧Hs (pre++[x]) s') (PQ.no rfl) (fun a2 w3 hth2=>?_) hbody hin2);obtain⟨st3,⟨s',hle,hHs⟩,G2,be2,hx2,hr2⟩:=hth2;have nf2:¬dL (G1.drop l) (st1.cM t5 b (cs,ty)).s l:=fun hf=>by
   obtain⟨y,k1,k2⟩:=hH2.Lx hf;rw[hw2l] at k1;cases k1;cases k2
  have hl2:=(hx2.keep l (gZ.1 hw2l).1 nf2).trans hw2l;have her:=run_endRound (P:=P) none hl2;show ∃v w',_;refine⟨_,_,her,(G2.drop l).gO l (.loop (Co fn tm p (.region ida opsA false) (.block ib (.region idb opsB dB.isSome)) D .ready)),s',.base (.bool true),_,rfl,bJ.base _,?_,?_,rfl,hHs⟩
  ·have hss:w.heap.size<=w1.heap.size:=hx1.size;have hss2:w2.heap.size<=w3.heap.size:=hx2.size;have fchain:∀b',dL (G1.drop l) (st1.cM t5 b (cs,ty)).s b'->dL G s b'∨w.heap.size<=b':=fun b' hf=>hx1.dL b' hf;refine⟨⟨fun b' o v' h=>hx2.le.f _ _ _ (hx1.le.f _ _ _ h),fun g v' h=>hx2.le.o _ _ (hx1.le.o _ _ h),fun k y hk=>?_⟩,by simp only[World.putObj_size];omega,(hx2.os.trans (by rw[<-hw2];rfl)).trans hx1.os,(hx2.tape.trans (by rw[<-hw2];rfl)).trans hx1.tape,(hx2.output.trans (by rw[<-hw2];rfl)).trans hx1.output,fun b' hb' hnf=>?_,fun b' hf=>?_,fun b' o hf=>?_,fun g hg=>?_⟩
   ·by_cases e:k=l
    ·subst e;rw[hGl] at hk;simp only[bC.gO,if_pos];exact hk
    ·have h1:=hx1.le.b k y (by simp only[bC.drop,if_neg e];exact hk);have h2:=hx2.le.b k y (by simp only[bC.drop,if_neg e];exact h1);simp only[bC.gO,bC.drop,if_neg e];exact h2
   ·by_cases e:b'=l
    ·subst e;rw[World.putObj_heap_same (gZ.1 hl2).1,hl];rfl
    ·rw[World.putObj_heap_other e];refine(hx2.keep b' (show b' <w2.heap.size by omega) fun hf=>?_).trans ((hw2o b' e).trans (hx1.keep b' hb' hnf));rcases fchain b' hf with k|k
     ·exact hnf k
     ·omega
   ·rcases hx2.dL b' (zZ hle hf) with k|k
    ·exact fchain b' k
    ·exact .inr (by simp only at k;omega)
   ·rcases hx2.dO b' o hf with k|k|k
    ·exact hx1.dO b' o k
    ·rcases fchain b' k with j|j
     ·exact .inr (.inl j)
     ·exact .inr (.inr j)
    ·exact .inr (.inr (by simp only at k;omega))
   ·have hg3:st3.s.own g≠none:=by
     rcases hle.own g with e|e
     ·rwa[<-e]
     ·exact absurd e hg
    rcases hx2.keys g hg3 with k|k
    ·exact hx1.keys g k
    ·refine .inr ?_;cases hq:G.om g with
     |none=>rfl
     |some y=>exact absurd (hx1.le.o g y hq) (by rw[show G1.om g=none from k];simp)
  ·exact(((hr2.hr.weaken hle).drop l).putObj hl2 rfl (by simp[bC.drop])).gO (World.putObj_heap_same (gZ.1 hl2).1) rfl
 ·have:=hb b hbn (fun st2=>∃s',st2.s.le s'∧Hs (pre++[x]) s') fun st2 s' h1 h2=>⟨s',h1,h2⟩;rw[hsteq] at this;exact this
def aB.rangeFunc {α:Type} {Q:Exit->St->Prop} {st:St} {tf p ida ib idb:Nat} {opsA opsB:Array Oper} {dB:Option OT} {f:FuncId} {caps:List V} (enc:α->V) (Hs:List α->aL->Prop) (S:List α->Prop) (A:List α->α->Prop)
 (hE:st.E tf= .func f [] caps) (hloc:st.loc=fun _=>none) (hp:p<st.n) (hA:oS opsA=true) (hB:oS opsB=true)
 (hround:DQ P st.E st.n p enc Hs A opsA opsB dB)
 (hit:∀(lo:bC) (l:Nat),(∀pre x s,Hs pre s->A pre x->wW P lo l [enc x] s fun v s'=>v= .base (.bool true)∧Hs (pre++[x]) s')->Iq P lo f ([lP l]++caps) st.s fun _ s'=>∃xs,S xs∧Hs xs s')
 (hrest:∀xs s' D,S xs->Hs xs s'->Q .normal { E:=st.E,loc:=fun _=>none,s:=s',n:=st.n,ds:=uP D::st.ds,lo:=st.lo,pp:=st.pp }):
 aB P (.rangeFunc (.tmp tf) #[p] (.region ida opsA false) (.block ib (.region idb opsB dB.isSome))) Q st:=fun e a w hin=>by
 obtain⟨G,be,hx,hr⟩:=hin;refine(wpIn_wide (n:=0)).1 (wpIn_rangeFunc fun fn _=>?_);generalize hrec:(Obj.loop (Co fn a.tmps p (.region ida opsA false) (.block ib (.region idb opsB dB.isSome)) w.heap.size .ready))=rec;have hrc:wJ rec=false:=by rw[<-hrec];rfl
 generalize hW1:(w.alloc (.deferred (some []))).alloc rec=W1;have hm:dP w W1:=by rw[<-hW1];exact(dP.alloc _ _).trans (dP.alloc _ _)
 have hD1:W1.heap[w.heap.size]? =some (.deferred (some [])):=by
  rw[<-hW1,(dP.alloc (w.alloc (.deferred (some []))) rec).keep _ (by simp)];exact World.alloc_heap_new _ _
 have hl1:W1.heap[w.heap.size+1]? =some rec:=by
  rw[<-hW1];have:=World.alloc_heap_new (w.alloc (.deferred (some []))) rec;simpa using this
 have hW1s:W1.heap.size=w.heap.size+2:=by rw[<-hW1];simp
 have hH1:cS ((G.gO w.heap.size (.deferred (some []))).gO (w.heap.size+1) rec) st.s W1:=((hr.hr.more hm).gO hD1 rfl).gO hl1 hrc;have hle1:G.Le ((G.gO w.heap.size (.deferred (some []))).gO (w.heap.size+1) rec):=by
  refine(bC.Qh fun y hy=>?_).trans (bC.Qh fun y hy=>?_)
  ·rw[hr.hr.Md (dS _)] at hy;cases hy
  ·simp only[bC.gO] at hy;rw[if_neg (by omega),hr.hr.Md (by omega)] at hy;cases hy
 have hx1:dD G st.s w ((G.gO w.heap.size (.deferred (some []))).gO (w.heap.size+1) rec) st.s W1:=
  ⟨hle1,hm.size,hm.os,hm.tape,hm.output,fun b hb _=>hm.keep b hb,fun _ h=>.inl h,fun _ _ h=>.inl h,fun _ h=>.inl h⟩
 generalize hG1:(G.gO w.heap.size (.deferred (some []))).gO (w.heap.size+1) rec=G1 at hH1 hle1 hx1;have hG1D:G1.ob w.heap.size=some (.deferred (some [])):=by rw[<-hG1];simp[bC.gO]
 have hG1l:G1.ob (w.heap.size+1)=some rec:=by rw[<-hG1];simp[bC.gO]
 have hnl:∀t,eE G be (fun _=>none) (st.E t) (a.tmps.getD t undef):=fun t=>by rw[<-hloc];exact hr.tmps t
 have hrep:∀t,bJ G (st.E t) (a.tmps.getD t undef):=fun t=>by
  have:=hnl t;cases hv:st.E t<;>rw[hv] at this<;>first|exact this|exact absurd rfl this.1
 have hh:=hrep tf;rw[hE] at hh;have hq:∃cc:Array Value,a.eval (.tmp tf)= .func (.func f) #[] cc∧bZ G caps cc.toList:=by
  show ∃cc:Array Value,a.tmps.getD tf undef= .func (.func f) #[] cc∧_;generalize a.tmps.getD tf undef=q at hh;cases hh with
  |func _ _ _ cf cc l1 l2 r1 r2=>
   have:cf= #[]:=Array.eq_empty_of_size_eq_zero (by simpa using l1.symm);subst this;exact⟨cc,rfl,sP l2 r2⟩
 obtain⟨cc,hq,hcc⟩:=hq;have hY:∀pre x s,Hs pre s->A pre x->wW P G1 (w.heap.size+1) [enc x] s fun v s'=>v= .base (.bool true)∧Hs (pre++[x]) s':=
  MK (by rw[hG1l,<-hrec]) hr.n (fun t=>(hrep t).mono hle1) hp hA hB hround
 obtain⟨⟨fnn,hfn,hbody,hname⟩,hcall⟩:=hit G1 (w.heap.size+1) hY;have hcall:=hcall G1 W1 (#[.func (.yield (w.heap.size+1)) #[] #[]]++cc) hH1 (bC.Le.refl _) (by
  simpa using bZ.cons (show bJ G1 (lP (w.heap.size+1)) _ from bJ.base _) (hcc.mono hle1))
 refine⟨w.heap.size+1,[uP w.heap.size],W1,{ target:=.fn (.func f) cc,args:= #[.func (.yield (w.heap.size+1)) #[] #[]] },W1,f, #[.func (.yield (w.heap.size+1)) #[] #[]]++cc,W1,?_,?_,fun _ _=>trivial,?_,fun h=>by simp[Fence.wide] at h,?_⟩
 ·rw[<-hW1,<-hrec];exact run_enterLoop_outer (P:=P) (w:=w) fn a.tmps #[p] _ _
 ·simp only[resolve,hq,Deferred.ofValue,Sem.run_pure,Array.empty_append];simp[Act.eval]
 ·simp only[invoke,callFunc,run_program,Sem.run_bind,Result.andThen_ok,hfn,hname,Bool.false_eq_true,if_false,hbody,Sem.run_pure]
 ·refine callsIn_wide.2 (hcall.mono ?_);rintro e' w3 ⟨G3,s3,v,cv,rfl,hv,hx3,hh3,xs,hS,hHs⟩;have hl3:=(hh3.ob _ _ (hx3.le.b _ _ hG1l)).2;rw[<-hrec] at hl3;have hend:=run_endLoop (P:=P) hl3 (by simp[Co]);refine⟨none,_,hend,?_⟩;have hxx:dD e.G e.s e.w G3 s3 w3:=(hx.trans hx1).trans hx3;have hsz:e.w.heap.size<=w.heap.size:=hx.size;have old:∀k y,G.ob k=some y->(G3.drop (w.heap.size+1)).ob k=some y∧k<w.heap.size:=fun k y hk=>by
   have h1:=(gZ.1 (hr.hr.ob k y hk).2).1;refine⟨?_,h1⟩;simp only[bC.drop];rw[if_neg (by omega)];exact hx3.le.b _ _ (hle1.b _ _ hk)
  have hle3:G.Le (G3.drop (w.heap.size+1)):=⟨fun b o v h=>hx3.le.f _ _ _ (hle1.f _ _ _ h),fun g v h=>hx3.le.o _ _ (hle1.o _ _ h),fun k y hk=>(old k y hk).1⟩;refine .inl ⟨_,hrest xs s3 w.heap.size hS hHs,G3.drop (w.heap.size+1),be,(hxx.putObj (by omega) _).Xe ?_,(hh3.drop _).putObj hl3 rfl (by simp[bC.drop]),hr.n,⟨?_,fun d hd=>?_,?_,hr.df.lo.trans hle3,hr.df.pp⟩,fun t=>?_,(fun t cs ty ht=>by cases ht),fun t t' b h1=>absurd rfl h1⟩
  ·cases hq:e.G.ob (w.heap.size+1) with
   |none=>rfl
   |some y=>have:=(old _ _ (hx.le.b _ _ hq)).2;omega
  ·show [uP w.heap.size]++a.defers=_;rw[hr.df.eq];rfl
  ·rcases oR.1 hd with rfl|hd
   ·refine⟨_,rfl,hsz,?_⟩;simp only[bC.drop];rw[if_neg (by omega)];exact hx3.le.b _ _ hG1D
   ·obtain⟨D,rfl,h1,h2⟩:=hr.df.ok d hd;exact⟨D,rfl,h1,(old _ _ h2).1⟩
  ·refine List.pairwise_cons.2 ⟨fun d hd=>?_,hr.df.nd⟩;obtain⟨D,rfl,h1,h2⟩:=hr.df.ok d hd;have:=(old _ _ h2).2;intro e;simp only[uP,Deferred.mk.injEq,Target.collected.injEq] at e;omega
  ·have:=(hrep t).mono hle3;exact eE.kF this
end
section
variable {P:Program}
def Qe (P:Program) (all:Array Oper) (j:Nat) (o:Oper) (K:St->Prop) (st:St):Prop:=
 (match gA all o st with| .always=>True| .test c b=>c=b|_=>False)∧∃K1:St->Prop,(∀e a w Q,In e st a w->o.wp P a w (jC e K1) Q)∧∀st',K1 st'->gK P all (all.toList.drop (j+1)) st' K
def aB.xR {Q:Exit->St->Prop} {st:St} {id:Nat} {ops:Array Oper} {y:Code} (j:Nat) {d:Option Tmp} {op:Op} {ty:TypeId} {ps:String} {af:Array Edge} {gd:Option (Nat×Bool)} (hj:ops[j]? =some { dst:=d,op:=op,type:=ty,pos:=ps,after:=af,guard:=gd }) (hnd:oS ops=true)
 (h:∀K:St->Prop,(∀st,aB P y Q st->K st)->gK P ops (ops.toList.take j) st (Qe P ops j { dst:=d,op:=op,type:=ty,pos:=ps,after:=af,guard:=gd } K)):aB P (.seq (.region id ops false) y) Q st:=by
 generalize ({ dst:=d,op:=op,type:=ty,pos:=ps,after:=af,guard:=gd }:Oper)=o at hj h;refine aB.seq fun e a w hin=>(wpIn_wide (n:=0)).1 (wpIn_region ?_);have hlt:j<ops.size:=(gZ.1 hj).1;have hsplit:List.range ops.size=List.range' 0 j++(j::(List.range' (j+1) (ops.size-(j+1))++[])):=by
  have h0:=@List.range'_append_1 0 j (ops.size-(j+1)+1);rw[kH,show j+(ops.size-(j+1)+1)=ops.size by omega] at h0;rw[gL,Bg,<-Hg,h0]
 rw[hsplit];refine vK (.inl rfl) hnd (e:=e) (K:=Qe P ops j o _) vE (fun a1 w1 hth=>?_) j 0 (by omega) st a w (by simpa using h _ fun _ h=>h) hin;obtain⟨st1,⟨hg,K1,hop,hrest⟩,hin1⟩:=hth;obtain⟨g1,g2,g3⟩:=Dy (all:=ops) (o:=o) hin1;have hw:Region.wanted o (yielded ops a1.tmps)=true:=by
  split at hg
  ·rename_i hgd;exact g1 hgd
  ·rename_i c b hgd;rw[g3 c b hgd];simpa using hg
  ·exact hg.elim
 refine Hj hj ?_;refine Hn (next:=jC e K1) (by unfold sS;rw[if_pos hw];exact Ji (.inl rfl) (hop e a1 w1 _ hin1) (Hp hnd hj)) ?_;rintro a2 w2 ⟨st2,hK1,hin2⟩;refine vK (.inl rfl) hnd (e:=e) (K:=aB P y Q) (rest:=[]) vE (fun a3 w3 h3=>?_) (ops.size-(j+1)) (j+1) (by omega) _ a2 w2 ?_ hin2
 ·simp only[wpOpsIn];obtain⟨st3,h3,h4⟩:=h3;exact .inl ⟨st3,h3,h4⟩
 ·have:=hrest st2 hK1;rwa[nG (by simp)]
def Kt (b:UInt8):List V:=[.base (.int .u8 (b.toNat:Int))]
def Yh {o:Oper} {src dst e:TypeId} {x:Operand} (ho:o.op= .convert src dst x) (hs:P.underlying src=some (.slice e)) (he:P.underlying e=some (.int .u8)) (hd:P.underlying dst=some .string) {st:St} {l:List UInt8} (hx:Ab (st.eval x)=some (1,l.map Kt)) (hdst:fV o st):
 ∀ent a w Q,In ent st a w->o.wp P a w (jC ent fun st'=>st'=st.put o.dst (.base (.string ⟨l.toArray⟩))) Q:=fun ent a w Q hin=>by
 obtain⟨G,be,hxx,hr⟩:=hin;have hh:=hr.eval x;have hv:bJ G (.slice 1 (l.map Kt)) (a.eval x):=by
  revert hh hx
  cases st.eval x<;>intro hx hh<;>simp[Ab] at hx
  case slice=>obtain⟨rfl,rfl⟩:=hx;exact hh
  case own=>obtain⟨rfl,rfl⟩:=hx;cases (show bJ G (.own _ _ _) _ from hh) with|own _ _ _ _ h _=>exact h
 have key:(convert src dst (a.eval x)).run P w= .ok (.string ⟨l.toArray⟩) w:=by
  generalize a.eval x=v at hv;generalize hes:l.map Kt=es at hv;cases hv with
  |slice0 _ ad cap=>
   have:l=[]:=by simpa using hes
   subst this;cases ad with
   |none=>rw[run_convert_bytes_nil w src e hs he 0 cap dst hd];rfl
   |some ad=>exact run_convert_bytes_back w src dst e ad cap [] hs he hd (fun j hj=>by simp at hj)
  |slice _ _ b off cap cells h1 h2 h3 h4 h5 h6=>
   have hlen:es.length=l.length:=by rw[<-hes];simp
   rw[hlen];refine run_convert_bytes_back w src dst e _ cap l hs he hd (fun j hj=>?_);have hplain:(⟨b,off,none⟩:Addr).add j=⟨b,off+j,none⟩:=by unfold Addr.add;split<;>simp_all
   rw[hplain];have hf:=hr.hr.dO b (off+j) (cells j) (h4 j (by omega));rw[hf];have hrep:=h5 j 0 (Kt l[j]) (.base (.int .u8 (l[j].toNat:Int))) (by rw[<-hes];simp[hj]) rfl;rw[Nat.mul_one,Nat.add_zero] at hrep;generalize cells j=c at hrep;cases hrep
   rfl
 unfold Oper.wp;have:(execOp a.eval o).run P w= .ok (.value (.string ⟨l.toArray⟩)) w:=by
  unfold execOp;simp only[ho,Sem.run_bind,key,Result.andThen_ok,Sem.run_pure]
 rw[this];exact⟨_,rfl,G,be,by rw[uH];exact hxx,hr.put o.dst (uZ hdst) (eE.kF (bJ.base _))⟩
end
section
variable {P:Program}
def tM (t0:Nat) (cs:List V):V->V
 | .loc t off=>if t=t0 then .elt cs off else .loc t off
 |v=>v
def St.dO (st:St) (t0:Nat) (cs:List V):St:={ st with E:=fun t=>tM t0 cs (st.E t),loc:=cA st.loc t0 none }
def In.dO {e:Entry} {st:St} {a:Act} {w:World} (h:In e st a w) {t0:Nat} {cs:List V} {ty:TypeId} (hl:st.loc t0=some (cs,ty)):In e (st.dO t0 cs) a w:=by
 obtain⟨G,be,hx,hr⟩:=h;obtain⟨b,k1,k2,⟨ccs,k3,k4,k5⟩,k6,k7⟩:=hr.loc t0 cs ty hl;have hle:=bC.zN (G:=G) ccs k6;refine⟨G.freeze b ccs,be,⟨hx.le.trans hle,hx.size,hx.os,hx.tape,hx.output,hx.keep,hx.dL,fun b' o hf=>?_,hx.keys⟩,hr.hr.freeze k3 k7 k6,hr.n,hr.df.mono hle,fun t=>?_,fun t cs' ty' ht=>?_,fun t t' b' h1 h2=>?_⟩
 ·by_cases e':b'=b
  ·subst e';exact .inr (.inr k2)
  ·simp only[bC.freeze,e',if_false] at hf;exact hx.dO b' o hf
 ·have:=(hr.tmps t).mono hle;simp only[St.dO];cases hv:st.E t<;>rw[hv] at this<;>simp only[tM]<;>first|exact this|skip
  rename_i t1 off;obtain⟨hne,b1,hb1,hpv⟩:=this;split
  ·rename_i e';subst e';obtain rfl:b1=b:=eS (hb1.symm.trans k1);rw[hpv];have key:=bJ.elt (G:=G.freeze b1 ccs) cs off b1 0 (fun j=>ccs.getD j undef) (fun j c hj=>?_) (fun j c hj=>?_) (fun j c hj=>?_)
   ·rw[kH] at key;exact key
   all_goals
    have hjl:j<ccs.size:=by
     have:=(pB.1 hj).1;have:=k4.1;simp at this;omega
   ·simp[bC.freeze,hjl]
   ·refine(k4.2 j c _ hj ?_).mono hle;simp[hjl]
   ·refine k5 _ ?_;simp[hjl]
  ·rename_i e';exact⟨by simpa[cA,e'] using hne,b1,hb1,hpv⟩
 ·have e':t≠t0:=fun e'=>by subst e';simp[St.dO,cA] at ht
  simp only[St.dO,dA _ _ _ _ e'] at ht;obtain⟨b2,j1,j2,⟨c2,j3,j4,j5⟩,j6,j7⟩:=hr.loc t cs' ty' ht;have hne:b2≠b:=fun e2=>e' (hr.inj t t0 b2 (by rw[ht];simp) (by rw[hl];simp) j1 (e2 ▸ k1));exact⟨b2,j1,j2,⟨c2,j3,j4.mono hle,j5⟩,fun o=>by simp[bC.freeze,hne,j6 o],j7⟩
 ·have f:∀t,(cA st.loc t0 none) t≠none->st.loc t≠none:=fun t ht=>by
   by_cases e':t=t0
   ·subst e';simp[cA] at ht
   ·simpa[cA,e'] using ht
  exact hr.inj t t' b' (f t h1) (f t' h2)
def aB.dO {c:Code} {Q:Exit->St->Prop} {st:St} (t0:Nat) {cs:List V} {ty:TypeId} (hl:st.loc t0=some (cs,ty)) (h:aB P c Q (st.dO t0 cs)):aB P c Q st:=fun e a w hin=>h e a w (hin.dO hl)
end
def k00 {α:Type _} {d x:α} {l:List α}:(x::l).getD 0 d=x:=rfl
def k01 {α:Type _} {d x:α} {l:List α} {n:Nat}:(x::l).getD (n+1) d=l.getD n d:=rfl
def k02 {α:Type _} {d:α} {n:Nat}:([]:List α).getD n d=d:=rfl
def k03 {α:Type _} {β:Type _} {f:α->β} {x:α} {l:List α}:(x::l).map f=f x::l.map f:=rfl
def k04 {α:Type _} {β:Type _} {f:α->β}:([]:List α).map f=[]:=rfl
def k05 {α:Type _} {x:α} {l:List α}:(x::l).length=l.length+1:=rfl
def k06 {α:Type _}:([]:List α).length=0:=rfl
def k07 {α:Type _} {β:Type _} {l:List α} {f:α->β}:(l.map f).length=l.length:=gI _
def k08 {α:Type _} {l:List α} {i:Nat}:l.toArray[i]? =l[i]? :=List.getElem?_toArray
def k09 {α:Type _} {x:α} {l:List α}:(x::l)[0]? =some x:=rfl
def JB {α:Type _} {x:α} {l:List α} {i:Nat}:(x::l)[i+1]? =l[i]? :=List.getElem?_cons_succ
def k11 {α:Type _} {i:Nat}:([]:List α)[i]? =none:=rfl
def qO {α:Type _} {x:α} {l:List α} {i:Nat}:(x::l).take (i+1)=x::l.take i:=rfl
def qN {α:Type _} {l:List α}:l.take 0=[]:=wO
def qM {α:Type _} {i:Nat}:([]:List α).take i=[]:=List.take_nil
def sE {α:Type _} {x:α} {l:List α} {i:Nat}:(x::l).drop (i+1)=l.drop i:=rfl
def sD {α:Type _} {l:List α}:l.drop 0=l:=rfl
def oY {α:Type _} {i:Nat}:([]:List α).drop i=[]:=List.drop_nil
def k18 {α:Type _} {l:List α}:[]++l=l:=rfl
def k19 {α:Type _} {x:α} {l m:List α}:x::l++m=x::(l++m):=rfl
def k20 {α:Type _} {l:List α}:l++[]=l:=gL _
def k21 {α:Type _} {β:Type _} {f:α->β} {x:α}:(some x).map f=some (f x):=rfl
def k22 {α:Type _} {β:Type _} {f:α->β}:(none:Option α).map f=none:=rfl
def k23 {α:Type _} {β:Type _} {f:α->Option β} {x:α}:(some x).bind f=f x:=rfl
def k24 {α:Type _} {β:Type _} {f:α->Option β}:(none:Option α).bind f=none:=rfl
def Wq {α:Type _} {x:α}:(some x).isNone=false:=rfl
def k26 {α:Type _}:(none:Option α).isNone=true:=rfl
def k27 {n:Nat}:n<n+1:=Nat.lt_add_one n
def k28:(1:Nat)≠0:=Nat.one_ne_zero
def k29 {α:Type _} {f:α->Bool} {x:α} {l:List α}:(x::l).all f=(f x&&l.all f):=rfl
def k30 {α:Type _} {f:α->Bool}:([]:List α).all f=true:=rfl
def k31 {n:Nat}:List.range (n+1)=List.range n++[n]:=List.range_succ
def k32:List.range 0=[]:=rfl
def JA {n:Nat}:0<n.succ:=Nat.zero_lt_succ n
def k34 {n:Nat}:n.succ≠0:=Nat.succ_ne_zero n
def YF {P:Program} {st:St} {op:UnOp} {t:TypeId} {x:Operand}:fF P st (.unOp op t x)=match op,st.eval x with
 | .not,.base (.bool b)=>some (.base (.bool !b),True)
 | .neg,.base (.int k n)=>some (.base (.int k (k.wrap (0-n))),True)
 |_,_=>none:=rfl
def UA {P:Program} {st:St} {args:Array Operand} {ts:Array TypeId}:fF P st (.call { callee:=.builtin .max,args:=args,argTypes:=ts })=vN true st args:=rfl
def TZ {P:Program} {st:St} {args:Array Operand} {ts:Array TypeId}:fF P st (.call { callee:=.builtin .min,args:=args,argTypes:=ts })=vN false st args:=rfl
def YH {P:Program} {st:St} {t:TypeId} {x:Operand}:fF P st (.makeInterface t x)=match bT P t,st.eval x with
 |some d,.base v=>match d.shape with
  | .int _=>some (.base (.iface t v),True)
  | .string=>some (.base (.iface t v),True)
  |_=>none
 |some d,.agg cs=>match d.shape,Aa cs with
  | .struct _,some vs=>some (.base (.iface t (.agg vs.toArray)),True)
  |_,_=>none
 |_,_=>none:=rfl
def TY {P:Program} {st:St} {t xt:TypeId} {x:Operand}:fF P st (.typeAssert x xt t true)=match bT P t,st.eval x with
 |some d,.base (.iface t' v)=>match d.shape with
  | .struct _=>if t'=t then some (.tuple [V.xP v,.base (.bool true)],True) else none
  |_=>none
 |_,_=>none:=rfl
def YG {P:Program} {st:St} {t xt:TypeId} {x:Operand}:fF P st (.typeAssert x xt t false)=match bT P t,st.eval x with
 |some d,.base (.iface t' v)=>match d.shape with
  | .int _=>if t'=t then some (.base v,True) else none
  |_=>none
 |_,_=>none:=rfl
def MX {P:Program} {t:TypeId} {c:Value} {op:BinOp}:Nm P t (.const c) op=match P.underlying t,op with
 |some (.interface _),.eql=>some (.base (.bool true),True)
 |some (.interface _),.neq=>some (.base (.bool false),True)
 |_,_=>none:=by
 unfold Nm;cases P.underlying t with
 |none=>rfl
 |some d=>cases d<;>first|rfl|(cases op<;>rfl)
def MY {P:Program} {t:TypeId} {c:Value} {op:BinOp}:Nn P t (.const c) op=match P.underlying t,op with
 |some (.interface _),.eql=>some (.base (.bool false),True)
 |some (.interface _),.neq=>some (.base (.bool true),True)
 |_,_=>none:=by
 unfold Nn;cases P.underlying t with
 |none=>rfl
 |some d=>cases d<;>first|rfl|(cases op<;>rfl)
def SE {P:Program} {t tx ty:TypeId} {p q:ByteArray}:Pa P t tx ty p q .eql=match P.underlying t,P.underlying tx with
 |some (.interface _),some .string=>if tx=ty∧(P.info? tx).map (·.comparable)=some true then some (.base (.bool (p.toList==q.toList)),True) else none
 |_,_=>none:=by
 unfold Pa;cases P.underlying t with
 |none=>rfl
 |some d=>cases d<;>first|rfl|(cases P.underlying tx with|none=>rfl|some e=>cases e<;>rfl)
def SF {P:Program} {t tx ty:TypeId}:Pb P t tx ty .eql=match P.underlying t with
 |some (.interface _)=>if tx≠ty then some (.base (.bool false),True) else none
 |_=>none:=by
 unfold Pb;cases P.underlying t with
 |none=>rfl
 |some d=>cases d<;>rfl
def kD (n m:Int):Int:=if n<m then m else n
def dW (n m:Int):Int:=if m<n then m else n
def YP {st:St} {x y:Operand}:vN true st #[x,y]=match st.eval x,st.eval y with
 | .base (.int k n),.base (.int _ m)=>some (.base (.int k (kD n m)),True)
 |_,_=>none:=rfl
def YQ {st:St} {x y:Operand}:vN false st #[x,y]=match st.eval x,st.eval y with
 | .base (.int k n),.base (.int _ m)=>some (.base (.int k (dW n m)),True)
 |_,_=>none:=rfl
def Ay (P:Program) (o:Oper) (st:St) (K:St->Prop) (c b:Bool):Prop:=if c=b then gD P o st K else fV o st∧K (st.put o.dst (.base undef))
def ZI {P:Program} {o:Oper} {st:St} {K:St->Prop}:Ay P o st K true true=gD P o st K:=rfl
def ZL {P:Program} {o:Oper} {st:St} {K:St->Prop}:Ay P o st K false false=gD P o st K:=rfl
def ZJ {P:Program} {o:Oper} {st:St} {K:St->Prop}:Ay P o st K true false=(fV o st∧K (st.put o.dst (.base undef))):=rfl
def ZK {P:Program} {o:Oper} {st:St} {K:St->Prop}:Ay P o st K false true=(fV o st∧K (st.put o.dst (.base undef))):=rfl
def RU {P:Program} {all:Array Oper} {o:Oper} {st:St} {K:St->Prop}:rS P all o st K=match gA all o st with
 | .always=>gD P o st K
 | .never=>fV o st∧K (st.put o.dst (.base undef))
 | .test c b=>Ay P o st K c b
 | .stuck=>False:=rfl
def Jr (P:Program) (A:List Nat) (o:Oper) (st:St) (K:St->Prop) (c b:Bool):Prop:=if c=b then gJ A o st∧gD P o st K else fV o st∧K (st.put o.dst (.base undef))
def VE {P:Program} {A:List Nat} {o:Oper} {st:St} {K:St->Prop}:Jr P A o st K true true=(gJ A o st∧gD P o st K):=rfl
def VH {P:Program} {A:List Nat} {o:Oper} {st:St} {K:St->Prop}:Jr P A o st K false false=(gJ A o st∧gD P o st K):=rfl
def VF {P:Program} {A:List Nat} {o:Oper} {st:St} {K:St->Prop}:Jr P A o st K true false=(fV o st∧K (st.put o.dst (.base undef))):=rfl
def VG {P:Program} {A:List Nat} {o:Oper} {st:St} {K:St->Prop}:Jr P A o st K false true=(fV o st∧K (st.put o.dst (.base undef))):=rfl
def OW {P:Program} {all:Array Oper} {A:List Nat} {o:Oper} {st:St} {K:St->Prop}:Ts P all A o st K=match gA all o st with
 | .always=>gJ A o st∧gD P o st K
 | .never=>fV o st∧K (st.put o.dst (.base undef))
 | .test c b=>Jr P A o st K c b
 | .stuck=>False:=rfl
def eY:=ai @SQ<|ai @PI<|ai @FC.eq_1<|ai @OW<|ai @VE<|ai @VH<|ai @VF<|ai @VG<|ai @gJ.eq_1<|ai @List.filterMap_cons.{0,0}<|ai @List.filterMap_nil.{0,0}<|ai @List.contains_cons.{0}<|ai @List.contains_nil.{0}<|ai @nH.{0}<|ai @Bool.or_self<|ai @Bool.false_or<|ai @jE<|mB
def am:=ai @ByteArray.toList_eq<|ai @MY<|ai @TY<|ai @Aa.eq_1<|ai @Aa.eq_2<|ai @V.xP.eq_2<|ai @Go.Am.eH.eq_1<|ai @MX<|ai @SE<|ai @SF<|ai @YH<|ai @YG<|ai @UA<|ai @TZ<|ai @YP<|ai @YQ<|ai @Go.Am.Po.eq_1<|ai @Go.Am.Po.eq_2<|ai @Go.Am.Po.eq_3<|ai @Go.Am.Po.eq_4<|ai @Go.Am.Wq.{0}<|ai @Go.Am.k26.{0}<|ai @Go.Am.uA.eq_1<|ai @Go.Am.uA.eq_2<|ai @Go.Am.uA.eq_3<|ai @Go.Am.uA.eq_4<|ai @Go.Am.uA.eq_5<|ai @Go.Am.aJa<|ai @Go.Am.aI8<|ai @Go.Am.aFb.eq_1<|ai @RU<|ai @ZI<|ai @ZL<|ai @ZJ<|ai @ZK<|ai @Go.Am.gA.eq_1<|ai @Go.Am.gD.eq_1<|ai @Go.Am.lU.eq_1<|ai @Go.Am.fF.eq_1<|ai @Go.Am.fF.eq_2<|ai @Go.Am.fF.eq_3<|ai @Go.Am.fF.eq_4<|ai @Go.Am.fF.eq_5<|ai @Go.Am.fF.eq_6<|ai @Go.Am.fF.eq_7<|ai @Go.Am.fF.eq_8<|ai @YF<|ai @Go.Am.fF.eq_12<|ai @Go.Am.fF.eq_13<|ai @Go.Am.fF.eq_14<|ai @Go.Am.fF.eq_15<|ai @Go.Am.fF.eq_16<|ai @Go.Am.fF.eq_17<|ai @Go.Am.fF.eq_18<|ai @Go.Am.fF.eq_19<|ai @Go.Am.fF.eq_20<|ai @Go.Am.fF.eq_21<|ai @Go.Am.Eu.eq_1<|ai @Go.Am.xL.eq_1<|ai @Go.Am.xL.eq_2<|ai @Go.Am.xL.eq_3<|ai @Go.Am.xL.eq_4<|ai @Go.Am.xL.eq_5<|ai @Go.Am.xL.eq_6<|ai @Go.Am.Ss.eq_1<|ai @Go.Am.Ab.eq_1<|ai @Go.Am.Ab.eq_2<|ai @Go.Am.Ab.eq_3<|ai @Go.Am.Kx.eq_1<|ai @Go.Am.Kx.eq_2<|ai @Go.Am.Kx.eq_3<|ai @Go.Am.Kx.eq_4<|ai @Go.Am.Kx.eq_5<|ai @Go.Am.Kx.eq_6<|ai @Go.Am.Pt.eq_1<|ai @Go.Am.Pt.eq_2<|ai @Go.Am.Pt.eq_3<|ai @Go.Am.Pt.eq_4<|ai @Go.Am.Pt.eq_5<|ai @Go.Am.Pt.eq_6<|ai @Go.Am.Pt.eq_7<|ai @Go.Am.Pt.eq_8<|ai @Go.Am.Pt.eq_9<|ai @Go.Am.Pt.eq_10<|ai @Go.Am.Pt.eq_11<|ai @Go.Am.Pt.eq_12<|ai @Go.Am.Pt.eq_13<|ai @Go.Am.Pt.eq_14<|ai @Go.Am.Pt.eq_15<|ai @Go.Am.Pt.eq_16<|ai @Go.Am.Pt.eq_17<|ai @Go.Am.Pt.eq_18<|ai @Go.Am.Pt.eq_19<|ai @Go.Am.Pt.eq_20<|ai @Go.Am.Pt.eq_21<|ai @Go.Am.rd.eq_1<|ai @Go.Am.wI.eq_1<|ai @Go.Am.wI.eq_2<|ai @Go.Am.wK.eq_1<|ai @Go.Am.wK.eq_2<|ai @Go.Am.Jp.eq_1<|ai @Go.Am.Jp.eq_2<|ai @Go.Am.qF.eq_1<|ai @Go.Am.qF.eq_2<|ai @Go.Am.uI.eq_1<|ai @Go.Am.uI.eq_2<|ai @Go.Am.qG.eq_1<|ai @Go.Am.qG.eq_2<|ai @Go.Am.sT.eq_1<|ai @Go.Am.oG.eq_1<|ai @Go.Am.Cm.eq_1<|ai @Go.Am.vT.eq_1<|ai @Go.Am.aJb<|ai @Go.Am.aE5.eq_1<|ai @Go.Am.vC.eq_1<|ai @Go.Am.V.cells.eq_1<|ai @Go.Am.V.cells.eq_2<|ai @Go.Am.V.iR.eq_1<|ai @Go.Am.V.iR.eq_2<|ai @Go.Am.V.iR.eq_3<|ai @Go.Am.V.iR.eq_4<|ai @Go.Am.V.iR.eq_5<|ai @Go.Am.V.iR.eq_6<|ai @Go.Am.V.xP.eq_1<|ai @Go.Am.V.xP.eq_2<|ai @Go.Am.V.xP.eq_3<|ai @Go.Am.V.rK.eq_1<|ai @Go.Am.V.rK.eq_2<|ai @Go.Value.oneCell'.eq_1<|ai @Go.Value.oneCell'.eq_2<|ai @Go.Value.oneCell'.eq_3<|ai @Go.Am.St.eval.eq_1<|ai @Go.Am.St.eval.eq_2<|ai @Go.Am.St.eval.eq_3<|ai @Go.Am.St.eval.eq_4<|ai @Go.Am.St.put.eq_1<|ai @Go.Am.St.put.eq_2<|ai @Go.Am.fV.eq_1<|ai @Go.Am.cA.eq_1<|ai @Go.Am.uF.eq_1<|ai @Go.Am.nT.eq_1<|ai @Go.Am.nT.eq_2<|ai @Go.Am.lX.eq_1<|ai @Go.Am.lX.eq_2<|ai @Go.Am.bN.eq_1<|ai @Go.Am.k00.{0}<|ai @Go.Am.k01.{0}<|ai @Go.Am.k02.{0}<|ai @Go.Am.k03.{0,0}<|ai @Go.Am.k04.{0,0}<|ai @Go.Am.k05.{0}<|ai @Go.Am.k06.{0}<|ai @Go.Am.k07.{0,0}<|ai @Go.Am.k08.{0}<|ai @Go.Am.k09.{0}<|ai @Go.Am.JB.{0}<|ai @Go.Am.k11.{0}<|ai @Go.Am.qO.{0}<|ai @Go.Am.qN.{0}<|ai @Go.Am.qM.{0}<|ai @Go.Am.sE.{0}<|ai @Go.Am.sD.{0}<|ai @Go.Am.oY.{0}<|ai @Go.Am.k18.{0}<|ai @Go.Am.k19.{0}<|ai @Go.Am.k20.{0}<|ai @Go.Am.k21.{0,0}<|ai @Go.Am.k22.{0,0}<|ai @Go.Am.k23.{0,0}<|ai @Go.Am.k24.{0,0}<|ai @Go.Am.k27<|ai @kH<|ai @Nat.add_zero<|ai @Go.Am.k28<|ai @Go.Am.k29.{0}<|ai @Go.Am.k30.{0}<|ai @Bool.and_self<|ai @Bool.and_true<|ai @Bool.true_and<|ai @and_self<|ai @and_true<|ai @true_and<|ai @Go.Am.k31<|ai @Go.Am.k32<|ai @dS<|ai @kK<|ai @Go.Am.JA<|ai @Go.Am.k34<|mB
section
variable {P:Program} {Q:Exit->St->Prop} {st:St}
end
section
def aR {α:Type} (p:Prop) [Decidable p] (k:Option α):Option α:=if p then k else none
def aV {α:Type} {p:Prop} [Decidable p] {k:Option α} {r:α} (h:aR p k=some r):p∧k=some r:=by
 unfold aR at h;split at h
 ·exact⟨by assumption,h⟩
 ·cases h
def call {α β:Type} (x:Option α) (f:α->Option β):Option β:=x.bind f
def cC {α β:Type} {x:Option α} {f:α->Option β} {r:β} (h:call x f=some r):∃y,x=some y∧f y=some r:=Qo.1 h
def aE {α:Type} (c:Bool) (a b:Option α):Option α:=cond c a b
def Uf {α:Type} {c:Bool} {a b:Option α} {r:α} (hc:c=true) (h:aE c a b=some r):a=some r:=by subst hc;exact h
def Ug {α:Type} {c:Bool} {a b:Option α} {r:α} (hc:c=false) (h:aE c a b=some r):b=some r:=by subst hc;exact h
def join {X α:Type} (b:(X->Option α)->Option α) (k:X->Option α):Option α:=b k
def cF {X α:Type} (b:(X->Option α)->X->Option α):Nat->X->Option α
 |0,_=>none
 |n+1,q=>b (cF b n) q
def bQ:Nat:=4611686018427387904
variable {P:Program} {Q:Exit->St->Prop} {st:St}
def St.to (st st':St):Prop:=∀e a w,In e st a w->In e st' a w
def St.le.to {st st':St} (h:st.le st'):st.to st':=fun _ _ _ hin=>hin.weaken h
def St.to.trans {a b c:St} (h:a.to b) (h':b.to c):a.to c:=fun e x w hin=>h' e x w (h e x w hin)
def aB.to {c:Code} {st':St} (hle:st.to st') (h:aB P c Q st'):aB P c Q st:=fun e a w hin=>h e a w (hle e a w hin)
def St.to.refl (st:St):st.to st:=fun _ _ _ h=>h
def aB.post {c:Code} (h:aB P c (fun e st=>∃st',st.to st'∧Q e st') st):aB P c Q st:=fun e a w hin=>wp_mono (h e a w hin) fun x a' w' h=>h.imp (fun⟨st1,⟨st2,hto,hq⟩,hin⟩=>⟨st2,hq,hto _ _ _ hin⟩) id
def IT {X G α:Type} (k:X->Option α) (r:α) (F:G->Prop) (T:X->G->St) (st':St):Prop:=∃q,k q=some r∧∃g,F g∧st'.to (T q g)
def aB.uT {X G α:Type} {x y:Code} {b:(X->Option α)->Option α} {k:X->Option α} {r:α} (h:join b k=some r) (F:G->Prop) (T:X->G->St)
 (hx:∀k':X->Option α,b k'=some r->aB P x (qI (IT k' r F T) Q) st)
 (hy:∀q,k q=some r->∀g,F g->aB P y Q (T q g)):aB P (.seq x y) Q st:=
 aB.seq ((hx k h).mono fun e st' h=>by
  cases e<;>first|exact h|skip
  obtain⟨q,hq,g,hg,hle⟩:=h;exact(hy q hq g hg).to hle)
def aB.pA {X G α:Type} {c:Code} {b:(X->Option α)->X->Option α} {n:Nat} {q0:X} {r:α} (h:cF b n q0=some r) (F:G->Prop) (T:X->G->St)
 (h0:∃g,F g∧st.to (T q0 g))
 (round:∀(k:X->Option α) q,b k q=some r->∀g,F g->aB P c (qI (IT k r F T) Q) (T q g)):aB P (.loop c) Q st:=by
 refine aB.loop (fun m st=>∃q,cF b m q=some r∧∃g,F g∧st.to (T q g)) n ⟨q0,h,h0⟩ ?_;rintro m st1 ⟨q,hq,g,hg,hle⟩;cases m with
 |zero=>cases hq
 |succ m=>
  refine(aB.to hle (round (cF b m) q hq g hg)).mono fun e st' h=>?_;cases e<;>first|exact h|skip
  obtain⟨q',hq',g',hg',hle'⟩:=h;exact⟨m,Nat.lt_succ_self m,q',hq',g',hg',hle'⟩
def aB.Qk {α:Type} {c:Operand} {x y:Code} {b:Bool} {A B:Option α} {r:α} (h:aE b A B=some r) (hc:st.eval c= .base (.bool b)) (h1:b=true->A=some r->aB P x Q st) (h2:b=false->B=some r->aB P y Q st):aB P (.cond c x y) Q st:=
 aB.cond hc (fun hb=>h1 hb (Uf hb h)) fun hb=>h2 hb (Ug hb h)
def wL {α:Type} {o:Oper} {K:St->Prop} {c b:Bool} {A B:Option α} {r:α} (h:aE b A B=some r) (hb:c=b) (h1:b=true->A=some r->Ay P o st K true true) (h2:b=false->B=some r->Ay P o st K false true):Ay P o st K c true:=by
 subst hb;cases c
 ·exact h2 rfl (Ug rfl h)
 ·exact h1 rfl (Uf rfl h)
def aCf {n b:Nat} (h:n*b<=140737488355328) (hb:1<=b):n<=maxLen:=by
 have:n*1<=n*b:=Nat.mul_le_mul_left n hb;unfold maxLen;omega
def mY.go {f:FuncId} {args:List V} {s s0:aL} {v:V} {PP:Value->aL->Prop} {R:V->aL->Prop} (h:mY P f args s fun v' s'=>v'=v∧s'=s0) (hr:R v s0):gM P f args s PP R:=(h.mono fun v' s' h=>by rw[h.1,h.2];exact hr).toP
def qX {fn:Func} {R:V->aL->Prop} {vs:List V} {v:V} (h1:dC P st fn.results.toList=some vs) (h2:Wk (lR vs) v) {s':aL} (h3:st.s.le s') (h4:R v s'):∃vs v s',dC P st fn.results.toList=some vs∧Wk (lR vs) v∧st.s.le s'∧R v s':=⟨vs,v,s',h1,h2,h3,h4⟩
def bW {α:Type} (f:α->List V) (z:α) {l:List α} {n:Int} (h:0<=n∧n<(l.length:Int)):(l.map f).getD n.toNat []=f (l.getD n.toNat z):=by
 have:n.toNat<l.length:=by omega
 simp[fR,this]
def cJ (s:aL):List (Nat×(TypeId×Nat))->aL
 |[]=>s
 |(g,x)::l=>cJ (s.cI g (some x)) l
def Fr (s:aL) (l:List Nat):Prop:=(∀g∈l,s.own g=none)∧l.Nodup
def fI (l:List (Nat×(TypeId×Nat))):∀s:aL,(cJ s l).box=s.box:=by
 induction l with
 |nil=>intro s;rfl
 |cons x l ih=>intro s;obtain⟨g,x⟩:=x;rw[cJ,ih];rfl
def wR {g:Nat} (l:List (Nat×(TypeId×Nat))):∀s:aL,g ∉ l.map Prod.fst->(cJ s l).own g=s.own g:=by
 induction l with
 |nil=>intro s _;rfl
 |cons x l ih=>
  intro s h;obtain⟨k,x⟩:=x;simp only[dG,oR,not_or] at h;rw[cJ,ih _ h.2];exact dA _ _ _ _ h.1
def zX {g:Nat} {x:TypeId×Nat} (l:List (Nat×(TypeId×Nat))):∀s:aL,(l.map Prod.fst).Nodup->(g,x)∈l->(cJ s l).own g=some x:=by
 induction l with
 |nil=>intro s _ h;cases h
 |cons y l ih=>
  intro s hn h;obtain⟨k,y⟩:=y;simp only[dG,Hi] at hn;rcases oR.1 h with e|h
  ·cases e
   rw[cJ,wR _ _ hn.1];exact eL _ _ _
  ·rw[cJ];exact ih _ hn.2 h
def Fr.nil (s:aL):Fr s []:=⟨(fun g h=>by cases h),List.nodup_nil⟩
def Fr.out {s:aL} {l:List (Nat×(TypeId×Nat))} (h:Fr s (l.map Prod.fst)) {g:Nat} (hg:(cJ s l).own g=none):g ∉ l.map Prod.fst∧s.own g=none:=by
 have hn:g ∉ l.map Prod.fst:=fun hm=>by
  obtain⟨⟨k,x⟩,hx,e⟩:=qB.1 hm;simp only at e;subst e;rw[zX l s h.2 hx] at hg;cases hg
 exact⟨hn,by rwa[wR l s hn] at hg⟩
def Fr.snoc {s:aL} {l:List (Nat×(TypeId×Nat))} (h:Fr s (l.map Prod.fst)) {g:Nat} (hg:(cJ s l).own g=none):Fr s (l.map Prod.fst++[g]):=by
 obtain⟨h1,h2⟩:=h.out hg;refine⟨fun k hk=>?_,?_⟩
 ·rcases lN.1 hk with hk|hk
  ·exact h.1 k hk
  ·rw[xT.1 hk];exact h2
 ·rw[He];exact⟨h.2,by simp,fun a ha b hb e=>h1 (by rw[<-xT.1 hb,<-e];exact ha)⟩
def Fr.drop {s:aL} {l:List (Nat×(TypeId×Nat))} (h:Fr s (l.map Prod.fst)):(cJ s l).le s:=
 ⟨fun b=>.inl (by rw[fI]),fun g=>by
  by_cases e:g∈l.map Prod.fst
  ·exact .inr (h.1 g e)
  ·exact .inl (wR l s e).symm⟩
def Fr.rep {s:aL} {a b:List (Nat×(TypeId×Nat))} {g0:Nat} {x:TypeId×Nat} (h:Fr s ((a++(g0,x)::b).map Prod.fst)) {g:Nat} (hg:(cJ s (a++(g0,x)::b)).own g=none):Fr s ((a++(g,x)::b).map Prod.fst):=by
 obtain⟨h1,h2⟩:=h.out hg;simp only[eK,dG,lN,oR,not_or] at h1;obtain⟨ha,he,hb⟩:=h1;obtain⟨hs,hn⟩:=h;simp only[eK,dG] at hs hn ⊢;rw[He,Hi] at hn;refine⟨fun k hk=>?_,?_⟩
 ·rcases lN.1 hk with hk|hk
  ·exact hs k (lN.2 (.inl hk))
  ·rcases oR.1 hk with rfl|hk
   ·exact h2
   ·exact hs k (lN.2 (.inr (iD _ hk)))
 ·rw[He,Hi];refine⟨hn.1,⟨hb,hn.2.1.2⟩,fun p hp q hq e=>?_⟩;rcases oR.1 hq with rfl|hq
  ·exact ha (e ▸ hp)
  ·exact hn.2.2 p hp q (iD _ hq) e
def Fr.mN {s:aL} {a b:List (Nat×(TypeId×Nat))} {g0:Nat} {x:TypeId×Nat} (h:Fr s ((a++(g0,x)::b).map Prod.fst)) {g:Nat} (hg:(cJ s (a++(g0,x)::b)).own g=none):
 (((cJ s (a++(g0,x)::b)).cI g0 none).cI g (some x)).le (cJ s (a++(g,x)::b)):=by
 have h':=h.rep hg;obtain⟨h1,h2⟩:=h.out hg;refine⟨fun k=>.inl ?_,fun k=>?_⟩
 ·rw[fI];show s.box k=(cJ s _).box k;rw[fI]
 ·by_cases e1:k=g
  ·subst e1;refine .inl ?_;rw[zX (x:=x) _ s h'.2 (lN.2 (.inr (lK ..)))];exact(eL _ _ _).symm
  ·by_cases e2:k=g0
   ·subst e2;refine .inr ?_;have hk:k ∉ (a++(g,x)::b).map Prod.fst:=by
     have hn:=h.2;simp only[eK,dG] at hn ⊢;rw[He,Hi] at hn;intro hm;rcases lN.1 hm with hm|hm
     ·exact hn.2.2 k hm k (by simp) rfl
     ·rcases oR.1 hm with e|hm
      ·exact e1 e
      ·exact hn.2.1.1 hm
    rw[wR _ s hk];exact h.1 k (by simp)
   ·refine .inl ?_;have e3:(((cJ s (a++(g0,x)::b)).cI g0 none).cI g (some x)).own k=(cJ s (a++(g0,x)::b)).own k:=by
     simp only[aL.cI,dA _ _ _ _ e1,dA _ _ _ _ e2]
    rw[e3];by_cases hm:k∈(a++(g0,x)::b).map Prod.fst
    ·obtain⟨⟨k',y⟩,hy,e⟩:=qB.1 hm;simp only at e;subst e;rw[zX _ s h.2 hy,zX _ s h'.2 (x:=y)];rcases lN.1 hy with hy|hy
     ·exact lN.2 (.inl hy)
     ·rcases oR.1 hy with e|hy
      ·cases e;exact absurd rfl e2
      ·exact lN.2 (.inr (iD _ hy))
    ·rw[wR _ s hm,wR _ s];simp only[eK,dG,lN,oR,not_or] at hm ⊢;exact⟨hm.1,e1,hm.2.2⟩
def Yf (b:List (Nat×(TypeId×Nat))):∀(a:List (Nat×(TypeId×Nat))) (s:aL),cJ s (a++b)=cJ (cJ s a) b
 |[],s=>rfl
 |(g,x)::a,s=>Yf b a (s.cI g (some x))
def Fr.cut {s:aL} {a b:List (Nat×(TypeId×Nat))} (h:Fr s ((a++b).map Prod.fst)):Fr s (a.map Prod.fst)∧(cJ s (a++b)).le (cJ s a):=by
 obtain⟨h1,h2⟩:=h;rw[eK] at h1 h2;rw[He] at h2;refine⟨⟨fun g hg=>h1 g (lN.2 (.inl hg)),h2.1⟩,⟨fun k=>.inl (by rw[fI,fI]),fun k=>?_⟩⟩;rw[Yf];by_cases e:k∈b.map Prod.fst
 ·refine .inr ?_;rw[wR a s fun ha=>h2.2.2 k ha k e rfl];exact h1 k (lN.2 (.inr e))
 ·exact .inl (wR b _ e).symm
def St.to.heapLe {st':St} {s':aL} (h:st.s.le s') (hc:St.to { st with s:=s' } st'):st.to st':=
 St.to.trans (b:={ st with s:=s' }) (St.le.to ⟨fun t=>.inl rfl,fun t=>.inl rfl,h.box,h.own,rfl,rfl,bC.Le.refl _,rfl⟩) hc
def YT {α β:Type} {f:α->β} {l:List α} {n:Nat}:(l.map f).drop n=(l.drop n).map f:=List.map_drop.symm
def YS {α β:Type} {f:α->β} {l:List α} {n:Nat}:(l.map f).take n=(l.take n).map f:=List.map_take.symm
def yC {α β:Type} {f:α->β} {l m:List α}:l.map f++m.map f=(l++m).map f:=List.map_append.symm
def aDm {k:IntKind} {l:List Int} {x:Int}:l.map (fun x=>[V.base (.int k x)])++[[V.base (.int k x)]]=(l++[x]).map (fun x=>[V.base (.int k x)]):=by rw[eK];rfl
def aDk {l:List ByteArray} {x:ByteArray}:l.map (fun x=>[V.base (.string x)])++[[V.base (.string x)]]=(l++[x]).map (fun x=>[V.base (.string x)]):=by rw[eK];rfl
def aDn {l:List Bool} {x:Bool}:l.map (fun x=>[V.base (.bool x)])++[[V.base (.bool x)]]=(l++[x]).map (fun x=>[V.base (.bool x)]):=by rw[eK];rfl
def aDl {α:Type} {f:α->List V} {sz:Nat} {l:List (List α)} {x:List α}:l.map (fun x=>[V.slice sz (x.map f)])++[[V.slice sz (x.map f)]]=(l++[x]).map (fun x=>[V.slice sz (x.map f)]):=by rw[eK];rfl
def wT (l:List Int):List UInt8:=l.map fun x=>UInt8.ofNat x.toNat
def Cd (l:List Int):Bool:=l.all fun x=>decide (0<=x∧x<256)
def AJ {l:List Int} (h:Cd l=true):l.map (fun x=>[V.base (.int .u8 x)])=(wT l).map Kt:=by
 unfold wT;rw[List.map_map];refine Ha fun x hx=>?_;have:=pK (lY.1 h x hx);have e:((UInt8.ofNat x.toNat).toNat:Int)=x:=by
  rw[UInt8.toNat_ofNat'];omega
 show _=[V.base (.int .u8 ((UInt8.ofNat x.toNat).toNat:Int))];rw[e]
def aJ {p:Prop} (h:p):p=True:=eq_true h
end
end Go.Am
namespace Go.Ex
open Go.Am
abbrev aI (n:Int):V:=.base (.int .i64 n)
abbrev aY (b:Bool):V:=.base (.bool b)
abbrev aM (s:ByteArray):V:=.base (.string s)
structure aH where
 kind:Int
 int:Int
 text:ByteArray
mutual
structure aA where
 op:Int
 not:Bool
 table:ByteArray
 name:ByteArray
 n:Int
 v_:aH
 args:(List aA)
 sub:(List aF)
structure aF where
 with_:(List bE)
 parts:(List aK)
 order:(List aX)
 limit:(List aA)
 offset:(List aA)
structure bE where
 name:ByteArray
 cols:(List ByteArray)
 body:(List aF)
structure aK where
 comp:Int
 distinct:Bool
 items:(List bA)
 from_:(List aO)
 where_:(List aA)
 group:(List aA)
 having:(List aA)
 values:(List (List aA))
structure aX where
 expr:aA
 desc_:Bool
structure bA where
 star:Bool
 table:ByteArray
 expr:(List aA)
 az:ByteArray
structure aO where
 join:Int
 name:ByteArray
 sub:(List aF)
 az:ByteArray
 on:(List aA)
end
structure aP where
 kind:Int
 at_:Int
 text:ByteArray
structure aD where
 l:(List aP)
 at_:Int
 params:Int
structure cD where
 least:Int
 most:Int
 not:Bool
def aH.v:aH->List V
 |⟨kind',int',text'⟩=>[aI kind',aI int',aM text']
def aH.kS (t:aH):aH.v t=[aI t.kind,aI t.int,aM t.text]:=by cases t;rw[aH.v]
def aH.aC (t:aH):aH.v t=[aI t.kind,aI t.int,aM t.text]:=by rw[aH.kS]
def aH.z:aH:=⟨0,0,bO⟩
def aH.eW (t:aH):t.v.length=3:=by rw[aH.aC];rfl
def aH.lD (t:aH):t.v.all V.iR=true:=by rw[aH.aC];rfl
def aH.jO (t:aH):t.v.take 3=t.v:=nG (by rw[aH.eW];exact dS _)
def aH.nV (t:aH):(t.v.drop 0).take 3=t.v:=by rw[kG];exact aH.jO t
def aH.nW (t:aH):t.v.drop 3=[]:=xS (by rw[aH.eW];exact dS _)
def aH.nX (t:aH):t.v[0]? =some (aI t.kind):=by rw[aH.aC];rfl
def aH.nU (t:aH):t.v[1]? =some (aI t.int):=by rw[aH.aC];rfl
def aH.nY (t:aH):t.v[2]? =some (aM t.text):=by rw[aH.aC];rfl
def aH.snoc {l:List aH} {t:aH}:l.map aH.v++[t.v]=(l++[t]).map aH.v:=by rw[eK];rfl
def aH.lE {l:List aH} {a0:Int} {a1:Int} {a2:ByteArray}:l.map aH.v++[[aI a0,aI a1,aM a2]]=(l++[(aH.mk a0 a1 a2)]).map aH.v:=by rw[eK,dG,eZ,aH.aC]
def aH.eta (t:aH):aH.mk t.kind t.int t.text=t:=by cases t;first|rfl
set_option linter.defProp false in
def aH.vs:=ai @aH.eW<|ai @aH.lD<|ai @aH.jO<|ai @aH.nV<|ai @aH.nW<|ai @aH.nX<|ai @aH.nU<|ai @aH.nY<|mB
mutual
def aA.v:aA->List V
 |⟨op',not',table',name',n',v_',args',sub'⟩=>[aI op',aY not',aM table',aM name',aI n']++aH.v v_'++[V.slice 10 (args'.map aA.v),V.slice 5 (sub'.map aF.v)]
 termination_by t=>SizeOf.sizeOf t
 decreasing_by
  all_goals first
   |(have h1:=lJ (‹_›:(_:_)∈(_:List (List _)));have h2:=lJ (‹_›:(_:_)∈(_:List _));simp;omega)
   |decreasing_tactic
def aF.v:aF->List V
 |⟨with_',parts',order',limit',offset'⟩=>[V.slice 3 (with_'.map bE.v),V.slice 8 (parts'.map aK.v),V.slice 11 (order'.map aX.v),V.slice 10 (limit'.map aA.v),V.slice 10 (offset'.map aA.v)]
 termination_by t=>SizeOf.sizeOf t
 decreasing_by
  all_goals first
   |(have h1:=lJ (‹_›:(_:_)∈(_:List (List _)));have h2:=lJ (‹_›:(_:_)∈(_:List _));simp;omega)
   |decreasing_tactic
def bE.v:bE->List V
 |⟨name',cols',body'⟩=>[aM name',V.slice 1 (List.map (fun x=>[aM x]) cols'),V.slice 5 (body'.map aF.v)]
 termination_by t=>SizeOf.sizeOf t
 decreasing_by
  all_goals first
   |(have h1:=lJ (‹_›:(_:_)∈(_:List (List _)));have h2:=lJ (‹_›:(_:_)∈(_:List _));simp;omega)
   |decreasing_tactic
def aK.v:aK->List V
 |⟨comp',distinct',items',from_',where_',group',having',values'⟩=>[aI comp',aY distinct',V.slice 4 (items'.map bA.v),V.slice 5 (from_'.map aO.v),V.slice 10 (where_'.map aA.v),V.slice 10 (group'.map aA.v),V.slice 10 (having'.map aA.v),V.slice 1 (List.map (fun x=>[V.slice 10 (x.map aA.v)]) values')]
 termination_by t=>SizeOf.sizeOf t
 decreasing_by
  all_goals first
   |(have h1:=lJ (‹_›:(_:_)∈(_:List (List _)));have h2:=lJ (‹_›:(_:_)∈(_:List _));simp;omega)
   |decreasing_tactic
def aX.v:aX->List V
 |⟨expr',desc_'⟩=>aA.v expr'++[aY desc_']
 termination_by t=>SizeOf.sizeOf t
 decreasing_by
  all_goals first
   |(have h1:=lJ (‹_›:(_:_)∈(_:List (List _)));have h2:=lJ (‹_›:(_:_)∈(_:List _));simp;omega)
   |decreasing_tactic
def bA.v:bA->List V
 |⟨star',table',expr',as'⟩=>[aY star',aM table',V.slice 10 (expr'.map aA.v),aM as']
 termination_by t=>SizeOf.sizeOf t
 decreasing_by
  all_goals first
   |(have h1:=lJ (‹_›:(_:_)∈(_:List (List _)));have h2:=lJ (‹_›:(_:_)∈(_:List _));simp;omega)
   |decreasing_tactic
def aO.v:aO->List V
 |⟨join',name',sub',as',on'⟩=>[aI join',aM name',V.slice 5 (sub'.map aF.v),aM as',V.slice 10 (on'.map aA.v)]
 termination_by t=>SizeOf.sizeOf t
 decreasing_by
  all_goals first
   |(have h1:=lJ (‹_›:(_:_)∈(_:List (List _)));have h2:=lJ (‹_›:(_:_)∈(_:List _));simp;omega)
   |decreasing_tactic
end
def aA.kS (t:aA):aA.v t=[aI t.op,aY t.not,aM t.table,aM t.name,aI t.n]++aH.v t.v_++[V.slice 10 (t.args.map aA.v),V.slice 5 (t.sub.map aF.v)]:=by cases t;rw[aA.v]
def aA.aC (t:aA):aA.v t=[aI t.op,aY t.not,aM t.table,aM t.name,aI t.n,aI t.v_.kind,aI t.v_.int,aM t.v_.text,V.slice 10 (t.args.map aA.v),V.slice 5 (t.sub.map aF.v)]:=by rw[aA.kS,aH.aC];rfl
def aA.z:aA:=⟨0,false,bO,bO,0,aH.z,[],[]⟩
def aA.eW (t:aA):t.v.length=10:=by rw[aA.aC];rfl
def aA.lD (t:aA):t.v.all V.iR=true:=by rw[aA.aC];rfl
def aA.jO (t:aA):t.v.take 10=t.v:=nG (by rw[aA.eW];exact dS _)
def aA.nV (t:aA):(t.v.drop 0).take 10=t.v:=by rw[kG];exact aA.jO t
def aA.nW (t:aA):t.v.drop 10=[]:=xS (by rw[aA.eW];exact dS _)
def aA.nX (t:aA):t.v[0]? =some (aI t.op):=by rw[aA.aC];rfl
def aA.nU (t:aA):t.v[1]? =some (aY t.not):=by rw[aA.aC];rfl
def aA.nY (t:aA):t.v[2]? =some (aM t.table):=by rw[aA.aC];rfl
def aA.wN (t:aA):t.v[3]? =some (aM t.name):=by rw[aA.aC];rfl
def aA.zL (t:aA):t.v[4]? =some (aI t.n):=by rw[aA.aC];rfl
def aA.Xg (t:aA):(t.v.drop 5).take 3=(t.v_).v:=by rw[aA.aC,aH.aC];rfl
def aA.Lw (t:aA):t.v[5]? =some (aI t.v_.kind):=by rw[aA.aC];rfl
def aA.Mb (t:aA):t.v[6]? =some (aI t.v_.int):=by rw[aA.aC];rfl
def aA.Ly (t:aA):t.v[7]? =some (aM t.v_.text):=by rw[aA.aC];rfl
def aA.v_c8 (t:aA):t.v[8]? =some (V.slice 10 (t.args.map aA.v)):=by rw[aA.aC];rfl
def aA.v_c9 (t:aA):t.v[9]? =some (V.slice 5 (t.sub.map aF.v)):=by rw[aA.aC];rfl
def aA.snoc {l:List aA} {t:aA}:l.map aA.v++[t.v]=(l++[t]).map aA.v:=by rw[eK];rfl
def aA.lE {l:List aA} {a0:Int} {a1:Bool} {a2:ByteArray} {a3:ByteArray} {a4:Int} {a5:Int} {a6:Int} {a7:ByteArray} {a8:(List aA)} {a9:(List aF)}:l.map aA.v++[[aI a0,aY a1,aM a2,aM a3,aI a4,aI a5,aI a6,aM a7,V.slice 10 (a8.map aA.v),V.slice 5 (a9.map aF.v)]]=(l++[(aA.mk a0 a1 a2 a3 a4 (aH.mk a5 a6 a7) a8 a9)]).map aA.v:=by rw[eK,dG,eZ,aA.aC]
def aA.eta (t:aA):aA.mk t.op t.not t.table t.name t.n (aH.mk t.v_.kind t.v_.int t.v_.text) t.args t.sub=t:=by cases t;first|rfl|simp only[aH.eta]
set_option linter.defProp false in
def aA.vs:=ai @aA.eW<|ai @aA.lD<|ai @aA.jO<|ai @aA.nV<|ai @aA.nW<|ai @aA.nX<|ai @aA.nU<|ai @aA.nY<|ai @aA.wN<|ai @aA.zL<|ai @aA.Xg<|ai @aA.Lw<|ai @aA.Mb<|ai @aA.Ly<|ai @aA.v_c8<|ai @aA.v_c9<|mB
def aF.kS (t:aF):aF.v t=[V.slice 3 (t.with_.map bE.v),V.slice 8 (t.parts.map aK.v),V.slice 11 (t.order.map aX.v),V.slice 10 (t.limit.map aA.v),V.slice 10 (t.offset.map aA.v)]:=by cases t;rw[aF.v]
def aF.aC (t:aF):aF.v t=[V.slice 3 (t.with_.map bE.v),V.slice 8 (t.parts.map aK.v),V.slice 11 (t.order.map aX.v),V.slice 10 (t.limit.map aA.v),V.slice 10 (t.offset.map aA.v)]:=by rw[aF.kS]
def aF.z:aF:=⟨[],[],[],[],[]⟩
def aF.eW (t:aF):t.v.length=5:=by rw[aF.aC];rfl
def aF.lD (t:aF):t.v.all V.iR=true:=by rw[aF.aC];rfl
def aF.jO (t:aF):t.v.take 5=t.v:=nG (by rw[aF.eW];exact dS _)
def aF.nV (t:aF):(t.v.drop 0).take 5=t.v:=by rw[kG];exact aF.jO t
def aF.nW (t:aF):t.v.drop 5=[]:=xS (by rw[aF.eW];exact dS _)
def aF.nX (t:aF):t.v[0]? =some (V.slice 3 (t.with_.map bE.v)):=by rw[aF.aC];rfl
def aF.nU (t:aF):t.v[1]? =some (V.slice 8 (t.parts.map aK.v)):=by rw[aF.aC];rfl
def aF.nY (t:aF):t.v[2]? =some (V.slice 11 (t.order.map aX.v)):=by rw[aF.aC];rfl
def aF.wN (t:aF):t.v[3]? =some (V.slice 10 (t.limit.map aA.v)):=by rw[aF.aC];rfl
def aF.zL (t:aF):t.v[4]? =some (V.slice 10 (t.offset.map aA.v)):=by rw[aF.aC];rfl
def aF.snoc {l:List aF} {t:aF}:l.map aF.v++[t.v]=(l++[t]).map aF.v:=by rw[eK];rfl
def aF.lE {l:List aF} {a0:(List bE)} {a1:(List aK)} {a2:(List aX)} {a3:(List aA)} {a4:(List aA)}:l.map aF.v++[[V.slice 3 (a0.map bE.v),V.slice 8 (a1.map aK.v),V.slice 11 (a2.map aX.v),V.slice 10 (a3.map aA.v),V.slice 10 (a4.map aA.v)]]=(l++[(aF.mk a0 a1 a2 a3 a4)]).map aF.v:=by rw[eK,dG,eZ,aF.aC]
def aF.eta (t:aF):aF.mk t.with_ t.parts t.order t.limit t.offset=t:=by cases t;first|rfl
set_option linter.defProp false in
def aF.vs:=ai @aF.eW<|ai @aF.lD<|ai @aF.jO<|ai @aF.nV<|ai @aF.nW<|ai @aF.nX<|ai @aF.nU<|ai @aF.nY<|ai @aF.wN<|ai @aF.zL<|mB
def bE.kS (t:bE):bE.v t=[aM t.name,V.slice 1 (List.map (fun x=>[aM x]) t.cols),V.slice 5 (t.body.map aF.v)]:=by cases t;rw[bE.v]
def bE.aC (t:bE):bE.v t=[aM t.name,V.slice 1 (List.map (fun x=>[aM x]) t.cols),V.slice 5 (t.body.map aF.v)]:=by rw[bE.kS]
def bE.z:bE:=⟨bO,[],[]⟩
def bE.eW (t:bE):t.v.length=3:=by rw[bE.aC];rfl
def bE.lD (t:bE):t.v.all V.iR=true:=by rw[bE.aC];rfl
def bE.jO (t:bE):t.v.take 3=t.v:=nG (by rw[bE.eW];exact dS _)
def bE.nV (t:bE):(t.v.drop 0).take 3=t.v:=by rw[kG];exact bE.jO t
def bE.nW (t:bE):t.v.drop 3=[]:=xS (by rw[bE.eW];exact dS _)
def bE.nX (t:bE):t.v[0]? =some (aM t.name):=by rw[bE.aC];rfl
def bE.nU (t:bE):t.v[1]? =some (V.slice 1 (List.map (fun x=>[aM x]) t.cols)):=by rw[bE.aC];rfl
def bE.nY (t:bE):t.v[2]? =some (V.slice 5 (t.body.map aF.v)):=by rw[bE.aC];rfl
def bE.snoc {l:List bE} {t:bE}:l.map bE.v++[t.v]=(l++[t]).map bE.v:=by rw[eK];rfl
def bE.lE {l:List bE} {a0:ByteArray} {a1:(List ByteArray)} {a2:(List aF)}:l.map bE.v++[[aM a0,V.slice 1 (List.map (fun x=>[aM x]) a1),V.slice 5 (a2.map aF.v)]]=(l++[(bE.mk a0 a1 a2)]).map bE.v:=by rw[eK,dG,eZ,bE.aC]
def bE.eta (t:bE):bE.mk t.name t.cols t.body=t:=by cases t;first|rfl
set_option linter.defProp false in
def bE.vs:=ai @bE.eW<|ai @bE.lD<|ai @bE.jO<|ai @bE.nV<|ai @bE.nW<|ai @bE.nX<|ai @bE.nU<|ai @bE.nY<|mB
def aK.kS (t:aK):aK.v t=[aI t.comp,aY t.distinct,V.slice 4 (t.items.map bA.v),V.slice 5 (t.from_.map aO.v),V.slice 10 (t.where_.map aA.v),V.slice 10 (t.group.map aA.v),V.slice 10 (t.having.map aA.v),V.slice 1 (List.map (fun x=>[V.slice 10 (x.map aA.v)]) t.values)]:=by cases t;rw[aK.v]
def aK.aC (t:aK):aK.v t=[aI t.comp,aY t.distinct,V.slice 4 (t.items.map bA.v),V.slice 5 (t.from_.map aO.v),V.slice 10 (t.where_.map aA.v),V.slice 10 (t.group.map aA.v),V.slice 10 (t.having.map aA.v),V.slice 1 (List.map (fun x=>[V.slice 10 (x.map aA.v)]) t.values)]:=by rw[aK.kS]
def aK.z:aK:=⟨0,false,[],[],[],[],[],[]⟩
def aK.eW (t:aK):t.v.length=8:=by rw[aK.aC];rfl
def aK.lD (t:aK):t.v.all V.iR=true:=by rw[aK.aC];rfl
def aK.jO (t:aK):t.v.take 8=t.v:=nG (by rw[aK.eW];exact dS _)
def aK.nV (t:aK):(t.v.drop 0).take 8=t.v:=by rw[kG];exact aK.jO t
def aK.nW (t:aK):t.v.drop 8=[]:=xS (by rw[aK.eW];exact dS _)
def aK.nX (t:aK):t.v[0]? =some (aI t.comp):=by rw[aK.aC];rfl
def aK.nU (t:aK):t.v[1]? =some (aY t.distinct):=by rw[aK.aC];rfl
def aK.nY (t:aK):t.v[2]? =some (V.slice 4 (t.items.map bA.v)):=by rw[aK.aC];rfl
def aK.wN (t:aK):t.v[3]? =some (V.slice 5 (t.from_.map aO.v)):=by rw[aK.aC];rfl
def aK.zL (t:aK):t.v[4]? =some (V.slice 10 (t.where_.map aA.v)):=by rw[aK.aC];rfl
def aK.Lw (t:aK):t.v[5]? =some (V.slice 10 (t.group.map aA.v)):=by rw[aK.aC];rfl
def aK.Mb (t:aK):t.v[6]? =some (V.slice 10 (t.having.map aA.v)):=by rw[aK.aC];rfl
def aK.Ly (t:aK):t.v[7]? =some (V.slice 1 (List.map (fun x=>[V.slice 10 (x.map aA.v)]) t.values)):=by rw[aK.aC];rfl
def aK.snoc {l:List aK} {t:aK}:l.map aK.v++[t.v]=(l++[t]).map aK.v:=by rw[eK];rfl
def aK.lE {l:List aK} {a0:Int} {a1:Bool} {a2:(List bA)} {a3:(List aO)} {a4:(List aA)} {a5:(List aA)} {a6:(List aA)} {a7:(List (List aA))}:l.map aK.v++[[aI a0,aY a1,V.slice 4 (a2.map bA.v),V.slice 5 (a3.map aO.v),V.slice 10 (a4.map aA.v),V.slice 10 (a5.map aA.v),V.slice 10 (a6.map aA.v),V.slice 1 (List.map (fun x=>[V.slice 10 (x.map aA.v)]) a7)]]=(l++[(aK.mk a0 a1 a2 a3 a4 a5 a6 a7)]).map aK.v:=by rw[eK,dG,eZ,aK.aC]
def aK.eta (t:aK):aK.mk t.comp t.distinct t.items t.from_ t.where_ t.group t.having t.values=t:=by cases t;first|rfl
set_option linter.defProp false in
def aK.vs:=ai @aK.eW<|ai @aK.lD<|ai @aK.jO<|ai @aK.nV<|ai @aK.nW<|ai @aK.nX<|ai @aK.nU<|ai @aK.nY<|ai @aK.wN<|ai @aK.zL<|ai @aK.Lw<|ai @aK.Mb<|ai @aK.Ly<|mB
def aX.kS (t:aX):aX.v t=aA.v t.expr++[aY t.desc_]:=by cases t;rw[aX.v]
def aX.aC (t:aX):aX.v t=[aI t.expr.op,aY t.expr.not,aM t.expr.table,aM t.expr.name,aI t.expr.n,aI t.expr.v_.kind,aI t.expr.v_.int,aM t.expr.v_.text,V.slice 10 (t.expr.args.map aA.v),V.slice 5 (t.expr.sub.map aF.v),aY t.desc_]:=by rw[aX.kS,aA.aC];rfl
def aX.z:aX:=⟨aA.z,false⟩
def aX.eW (t:aX):t.v.length=11:=by rw[aX.aC];rfl
def aX.lD (t:aX):t.v.all V.iR=true:=by rw[aX.aC];rfl
def aX.jO (t:aX):t.v.take 11=t.v:=nG (by rw[aX.eW];exact dS _)
def aX.nV (t:aX):(t.v.drop 0).take 11=t.v:=by rw[kG];exact aX.jO t
def aX.nW (t:aX):t.v.drop 11=[]:=xS (by rw[aX.eW];exact dS _)
def aX.aI4 (t:aX):(t.v.drop 0).take 10=(t.expr).v:=by rw[aX.aC,aA.aC];rfl
def aX.aI2 (t:aX):t.v.take 10=(t.expr).v:=by rw[aX.aC,aA.aC];rfl
def aX.nX (t:aX):t.v[0]? =some (aI t.expr.op):=by rw[aX.aC];rfl
def aX.nU (t:aX):t.v[1]? =some (aY t.expr.not):=by rw[aX.aC];rfl
def aX.nY (t:aX):t.v[2]? =some (aM t.expr.table):=by rw[aX.aC];rfl
def aX.wN (t:aX):t.v[3]? =some (aM t.expr.name):=by rw[aX.aC];rfl
def aX.zL (t:aX):t.v[4]? =some (aI t.expr.n):=by rw[aX.aC];rfl
def aX.Xg (t:aX):(t.v.drop 5).take 3=(t.expr.v_).v:=by rw[aX.aC,aH.aC];rfl
def aX.Lw (t:aX):t.v[5]? =some (aI t.expr.v_.kind):=by rw[aX.aC];rfl
def aX.Mb (t:aX):t.v[6]? =some (aI t.expr.v_.int):=by rw[aX.aC];rfl
def aX.Ly (t:aX):t.v[7]? =some (aM t.expr.v_.text):=by rw[aX.aC];rfl
def aX.v_c8 (t:aX):t.v[8]? =some (V.slice 10 (t.expr.args.map aA.v)):=by rw[aX.aC];rfl
def aX.v_c9 (t:aX):t.v[9]? =some (V.slice 5 (t.expr.sub.map aF.v)):=by rw[aX.aC];rfl
def aX.v_c10 (t:aX):t.v[10]? =some (aY t.desc_):=by rw[aX.aC];rfl
def aX.snoc {l:List aX} {t:aX}:l.map aX.v++[t.v]=(l++[t]).map aX.v:=by rw[eK];rfl
def aX.lE {l:List aX} {a0:Int} {a1:Bool} {a2:ByteArray} {a3:ByteArray} {a4:Int} {a5:Int} {a6:Int} {a7:ByteArray} {a8:(List aA)} {a9:(List aF)} {a10:Bool}:l.map aX.v++[[aI a0,aY a1,aM a2,aM a3,aI a4,aI a5,aI a6,aM a7,V.slice 10 (a8.map aA.v),V.slice 5 (a9.map aF.v),aY a10]]=(l++[(aX.mk (aA.mk a0 a1 a2 a3 a4 (aH.mk a5 a6 a7) a8 a9) a10)]).map aX.v:=by rw[eK,dG,eZ,aX.aC]
def aX.eta (t:aX):aX.mk (aA.mk t.expr.op t.expr.not t.expr.table t.expr.name t.expr.n (aH.mk t.expr.v_.kind t.expr.v_.int t.expr.v_.text) t.expr.args t.expr.sub) t.desc_=t:=by cases t;first|rfl|simp only[aA.eta]
set_option linter.defProp false in
def aX.vs:=ai @aX.eW<|ai @aX.lD<|ai @aX.jO<|ai @aX.nV<|ai @aX.nW<|ai @aX.aI4<|ai @aX.aI2<|ai @aX.nX<|ai @aX.nU<|ai @aX.nY<|ai @aX.wN<|ai @aX.zL<|ai @aX.Xg<|ai @aX.Lw<|ai @aX.Mb<|ai @aX.Ly<|ai @aX.v_c8<|ai @aX.v_c9<|ai @aX.v_c10<|mB
def bA.kS (t:bA):bA.v t=[aY t.star,aM t.table,V.slice 10 (t.expr.map aA.v),aM t.az]:=by cases t;rw[bA.v]
def bA.aC (t:bA):bA.v t=[aY t.star,aM t.table,V.slice 10 (t.expr.map aA.v),aM t.az]:=by rw[bA.kS]
def bA.z:bA:=⟨false,bO,[],bO⟩
def bA.eW (t:bA):t.v.length=4:=by rw[bA.aC];rfl
def bA.lD (t:bA):t.v.all V.iR=true:=by rw[bA.aC];rfl
def bA.jO (t:bA):t.v.take 4=t.v:=nG (by rw[bA.eW];exact dS _)
def bA.nV (t:bA):(t.v.drop 0).take 4=t.v:=by rw[kG];exact bA.jO t
def bA.nW (t:bA):t.v.drop 4=[]:=xS (by rw[bA.eW];exact dS _)
def bA.nX (t:bA):t.v[0]? =some (aY t.star):=by rw[bA.aC];rfl
def bA.nU (t:bA):t.v[1]? =some (aM t.table):=by rw[bA.aC];rfl
def bA.nY (t:bA):t.v[2]? =some (V.slice 10 (t.expr.map aA.v)):=by rw[bA.aC];rfl
def bA.wN (t:bA):t.v[3]? =some (aM t.az):=by rw[bA.aC];rfl
def bA.snoc {l:List bA} {t:bA}:l.map bA.v++[t.v]=(l++[t]).map bA.v:=by rw[eK];rfl
def bA.lE {l:List bA} {a0:Bool} {a1:ByteArray} {a2:(List aA)} {a3:ByteArray}:l.map bA.v++[[aY a0,aM a1,V.slice 10 (a2.map aA.v),aM a3]]=(l++[(bA.mk a0 a1 a2 a3)]).map bA.v:=by rw[eK,dG,eZ,bA.aC]
def bA.eta (t:bA):bA.mk t.star t.table t.expr t.az=t:=by cases t;first|rfl
set_option linter.defProp false in
def bA.vs:=ai @bA.eW<|ai @bA.lD<|ai @bA.jO<|ai @bA.nV<|ai @bA.nW<|ai @bA.nX<|ai @bA.nU<|ai @bA.nY<|ai @bA.wN<|mB
def aO.kS (t:aO):aO.v t=[aI t.join,aM t.name,V.slice 5 (t.sub.map aF.v),aM t.az,V.slice 10 (t.on.map aA.v)]:=by cases t;rw[aO.v]
def aO.aC (t:aO):aO.v t=[aI t.join,aM t.name,V.slice 5 (t.sub.map aF.v),aM t.az,V.slice 10 (t.on.map aA.v)]:=by rw[aO.kS]
def aO.z:aO:=⟨0,bO,[],bO,[]⟩
def aO.eW (t:aO):t.v.length=5:=by rw[aO.aC];rfl
def aO.lD (t:aO):t.v.all V.iR=true:=by rw[aO.aC];rfl
def aO.jO (t:aO):t.v.take 5=t.v:=nG (by rw[aO.eW];exact dS _)
def aO.nV (t:aO):(t.v.drop 0).take 5=t.v:=by rw[kG];exact aO.jO t
def aO.nW (t:aO):t.v.drop 5=[]:=xS (by rw[aO.eW];exact dS _)
def aO.nX (t:aO):t.v[0]? =some (aI t.join):=by rw[aO.aC];rfl
def aO.nU (t:aO):t.v[1]? =some (aM t.name):=by rw[aO.aC];rfl
def aO.nY (t:aO):t.v[2]? =some (V.slice 5 (t.sub.map aF.v)):=by rw[aO.aC];rfl
def aO.wN (t:aO):t.v[3]? =some (aM t.az):=by rw[aO.aC];rfl
def aO.zL (t:aO):t.v[4]? =some (V.slice 10 (t.on.map aA.v)):=by rw[aO.aC];rfl
def aO.snoc {l:List aO} {t:aO}:l.map aO.v++[t.v]=(l++[t]).map aO.v:=by rw[eK];rfl
def aO.lE {l:List aO} {a0:Int} {a1:ByteArray} {a2:(List aF)} {a3:ByteArray} {a4:(List aA)}:l.map aO.v++[[aI a0,aM a1,V.slice 5 (a2.map aF.v),aM a3,V.slice 10 (a4.map aA.v)]]=(l++[(aO.mk a0 a1 a2 a3 a4)]).map aO.v:=by rw[eK,dG,eZ,aO.aC]
def aO.eta (t:aO):aO.mk t.join t.name t.sub t.az t.on=t:=by cases t;first|rfl
set_option linter.defProp false in
def aO.vs:=ai @aO.eW<|ai @aO.lD<|ai @aO.jO<|ai @aO.nV<|ai @aO.nW<|ai @aO.nX<|ai @aO.nU<|ai @aO.nY<|ai @aO.wN<|ai @aO.zL<|mB
def aP.v:aP->List V
 |⟨kind',at_',text'⟩=>[aI kind',aI at_',aM text']
def aP.kS (t:aP):aP.v t=[aI t.kind,aI t.at_,aM t.text]:=by cases t;rw[aP.v]
def aP.aC (t:aP):aP.v t=[aI t.kind,aI t.at_,aM t.text]:=by rw[aP.kS]
def aP.z:aP:=⟨0,0,bO⟩
def aP.eW (t:aP):t.v.length=3:=by rw[aP.aC];rfl
def aP.lD (t:aP):t.v.all V.iR=true:=by rw[aP.aC];rfl
def aP.jO (t:aP):t.v.take 3=t.v:=nG (by rw[aP.eW];exact dS _)
def aP.nV (t:aP):(t.v.drop 0).take 3=t.v:=by rw[kG];exact aP.jO t
def aP.nW (t:aP):t.v.drop 3=[]:=xS (by rw[aP.eW];exact dS _)
def aP.nX (t:aP):t.v[0]? =some (aI t.kind):=by rw[aP.aC];rfl
def aP.nU (t:aP):t.v[1]? =some (aI t.at_):=by rw[aP.aC];rfl
def aP.nY (t:aP):t.v[2]? =some (aM t.text):=by rw[aP.aC];rfl
def aP.snoc {l:List aP} {t:aP}:l.map aP.v++[t.v]=(l++[t]).map aP.v:=by rw[eK];rfl
def aP.lE {l:List aP} {a0:Int} {a1:Int} {a2:ByteArray}:l.map aP.v++[[aI a0,aI a1,aM a2]]=(l++[(aP.mk a0 a1 a2)]).map aP.v:=by rw[eK,dG,eZ,aP.aC]
def aP.eta (t:aP):aP.mk t.kind t.at_ t.text=t:=by cases t;first|rfl
set_option linter.defProp false in
def aP.vs:=ai @aP.eW<|ai @aP.lD<|ai @aP.jO<|ai @aP.nV<|ai @aP.nW<|ai @aP.nX<|ai @aP.nU<|ai @aP.nY<|mB
def aD.v:aD->List V
 |⟨l',at_',params'⟩=>[V.slice 3 (l'.map aP.v),aI at_',aI params']
def aD.kS (t:aD):aD.v t=[V.slice 3 (t.l.map aP.v),aI t.at_,aI t.params]:=by cases t;rw[aD.v]
def aD.aC (t:aD):aD.v t=[V.slice 3 (t.l.map aP.v),aI t.at_,aI t.params]:=by rw[aD.kS]
def aD.eW (t:aD):t.v.length=3:=by rw[aD.aC];rfl
def aD.lD (t:aD):t.v.all V.iR=true:=by rw[aD.aC];rfl
def aD.jO (t:aD):t.v.take 3=t.v:=nG (by rw[aD.eW];exact dS _)
def aD.nV (t:aD):(t.v.drop 0).take 3=t.v:=by rw[kG];exact aD.jO t
def aD.nW (t:aD):t.v.drop 3=[]:=xS (by rw[aD.eW];exact dS _)
def aD.nX (t:aD):t.v[0]? =some (V.slice 3 (t.l.map aP.v)):=by rw[aD.aC];rfl
def aD.nU (t:aD):t.v[1]? =some (aI t.at_):=by rw[aD.aC];rfl
def aD.nY (t:aD):t.v[2]? =some (aI t.params):=by rw[aD.aC];rfl
def aD.snoc {l:List aD} {t:aD}:l.map aD.v++[t.v]=(l++[t]).map aD.v:=by rw[eK];rfl
def aD.lE {l:List aD} {a0:(List aP)} {a1:Int} {a2:Int}:l.map aD.v++[[V.slice 3 (a0.map aP.v),aI a1,aI a2]]=(l++[(aD.mk a0 a1 a2)]).map aD.v:=by rw[eK,dG,eZ,aD.aC]
def aD.eta (t:aD):aD.mk t.l t.at_ t.params=t:=by cases t;first|rfl
set_option linter.defProp false in
def aD.vs:=ai @aD.eW<|ai @aD.lD<|ai @aD.jO<|ai @aD.nV<|ai @aD.nW<|ai @aD.nX<|ai @aD.nU<|ai @aD.nY<|mB
def cD.v:cD->List V
 |⟨least',most',not'⟩=>[aI least',aI most',aY not']
def cD.kS (t:cD):cD.v t=[aI t.least,aI t.most,aY t.not]:=by cases t;rw[cD.v]
def cD.aC (t:cD):cD.v t=[aI t.least,aI t.most,aY t.not]:=by rw[cD.kS]
def cD.eW (t:cD):t.v.length=3:=by rw[cD.aC];rfl
def cD.lD (t:cD):t.v.all V.iR=true:=by rw[cD.aC];rfl
def cD.jO (t:cD):t.v.take 3=t.v:=nG (by rw[cD.eW];exact dS _)
def cD.nV (t:cD):(t.v.drop 0).take 3=t.v:=by rw[kG];exact cD.jO t
def cD.nW (t:cD):t.v.drop 3=[]:=xS (by rw[cD.eW];exact dS _)
def cD.nX (t:cD):t.v[0]? =some (aI t.least):=by rw[cD.aC];rfl
def cD.nU (t:cD):t.v[1]? =some (aI t.most):=by rw[cD.aC];rfl
def cD.nY (t:cD):t.v[2]? =some (aY t.not):=by rw[cD.aC];rfl
def cD.snoc {l:List cD} {t:cD}:l.map cD.v++[t.v]=(l++[t]).map cD.v:=by rw[eK];rfl
def cD.lE {l:List cD} {a0:Int} {a1:Int} {a2:Bool}:l.map cD.v++[[aI a0,aI a1,aY a2]]=(l++[(cD.mk a0 a1 a2)]).map cD.v:=by rw[eK,dG,eZ,cD.aC]
def cD.eta (t:cD):cD.mk t.least t.most t.not=t:=by cases t;first|rfl
set_option linter.defProp false in
def cD.vs:=ai @cD.eW<|ai @cD.lD<|ai @cD.jO<|ai @cD.nV<|ai @cD.nW<|ai @cD.nX<|ai @cD.nU<|ai @cD.nY<|mB
abbrev eV (x:aA):List V:=[aI x.op,aY x.not,aM x.table,aM x.name,aI x.n,aI x.v_.kind,aI x.v_.int,aM x.v_.text,.slice 10 (x.args.map aA.v),.slice 5 (x.sub.map aF.v)]
abbrev rB (m:aD):List V×TypeId:=([.slice 3 (m.l.map aP.v),aI m.at_,aI m.params],93)
end Go.Ex
namespace Go.Proofs.YtlfbdcfnimnhiaaGreatDoor
open Go.Am Go.Ex
section
def G0 (W:World):bC:=⟨fun b o=>W.cell? ⟨b,o,none⟩,fun _=>none,fun _=>none⟩
def H0:aL:=⟨fun _=>none,fun _=>none⟩
def aD8 (W:World) (hT:Go.Am.Tables W) (hZ:yY W):cS (G0 W) H0 W where
 dO:=fun b o v h=>h
 box:=fun b cs ty h=>by cases h
 own:=fun g e sz h=>by cases h
 sep:=fun g g' x x' v v' b h=>by cases h
 nobox:=fun g x v b h=>by cases h
 fin:=⟨0,fun g _=>⟨rfl,rfl⟩⟩
 ob:=fun k x h=>by cases h
 tab:=fun w hw=>by
  obtain⟨⟨m,h1⟩,⟨R,o,cap,h2,h3⟩,h4,h5,h6⟩:=hT;exact⟨⟨m,hw _ _ _ h1⟩,⟨R,o,cap,hw _ _ _ h2,fun i j hi hj=>hw _ _ _ (h3 i j hi hj)⟩,fun c hc=>hw _ _ _ (h4 c hc),fun i j hi hj=>hw _ _ _ (h5 i j hi hj),fun i hi=>hw _ _ _ (h6 i hi)⟩
 siz:=hZ
variable {H:Type} {enc:TypeId×Value->H} {P:Program} {W:World}
def Rd (enc:TypeId×Value->H) (P:Program) (W:World) (n:Nat) (T:TypeId) {α:Type} (e:α->List V) (w:α->Nat):Prop:=
 ∀cs x,DataW.trod enc P W 0 (fun _=>true) true n T cs=some x->∃a,bZ (G0 W) (e a) cs∧w a<=Rows.uptoBulk x.1
def XV {T:TypeId} {α:Type} {e:α->List V} {w:α->Nat}:Rd enc P W 0 T e w:=fun cs x h=>by simp[DataW.trod] at h
def Sh (d:DataW H):1<=Rows.uptoBulk d:=by
 cases d with
 |lit l=>cases l<;>simp[Rows.uptoBulk]
 |nil=>simp[Rows.uptoBulk]
 |ptr d=>simp[Rows.uptoBulk]
 |slice elems spare=>simp[Rows.uptoBulk]
 |agg parts=>simp[Rows.uptoBulk]
 |iface t d=>simp[Rows.uptoBulk]
 |map entries=>simp[Rows.uptoBulk]
 |held h=>simp[Rows.uptoBulk]
def NE (l r:List (DataW H)):Rows.uptoBulkAll (l++r)=Rows.uptoBulkAll l+Rows.uptoBulkAll r:=by
 induction l with
 |nil=>simp[Rows.uptoBulkAll]
 |cons x l ih=>simp only[jP,Rows.uptoBulkAll,ih];omega
def Nf {n:Nat} {T:TypeId} (h:P.underlying T=some .bool):Rd enc P W n T (fun z:Bool=>[aY z]) (fun _=>1):=fun cs x hx=>by
 obtain⟨z,rfl,rfl⟩:=DataW.trod_bool h hx;exact⟨z,bZ.cons (bJ.base _) (bZ.nil _),Sh _⟩
def yI {n:Nat} {T:TypeId} (h:P.underlying T=some .string):Rd enc P W n T (fun z:ByteArray=>[aM z]) (fun z=>z.size+1):=fun cs x hx=>by
 obtain⟨z,rfl,rfl,_⟩:=DataW.trod_string h hx;refine⟨z,bZ.cons (bJ.base _) (bZ.nil _),?_⟩;simp only[Rows.uptoBulk,ByteArray.toList_eq,Mf];exact dS _
def BJ {α β:Type} (f:α->Option β):∀(l:List α) (ys:List β),l.mapM f=some ys->ys.length=l.length∧∀(i:Nat) x,l[i]? =some x->f x=ys[i]?
 |[],ys,h=>by simp at h;subst h;simp
 |x::l,ys,h=>by
  rw[List.mapM_cons] at h;cases hx:f x with
  |none=>rw[hx] at h;cases h
  |some y=>
   rw[hx] at h;cases hl:l.mapM f with
   |none=>rw[hl] at h;cases h
   |some zs=>
    rw[hl] at h;cases h
    obtain⟨h1,h2⟩:=BJ f l zs hl;refine⟨by simp[h1],fun i z hz=>?_⟩;cases i with
    |zero=>simp at hz;subst hz;simpa using hx
    |succ i=>simpa using h2 i z (by simpa using hz)
def i7 (b o m j:Nat):(Addr.add (Addr.add ⟨b,o,none⟩ m) j)=⟨b,o+(m+j),none⟩:=by
 unfold Addr.add;by_cases h1:m=0<;>by_cases h2:j=0<;>simp[h1,h2]<;>omega
def AH {a:Addr} {n:Nat} {cs:List Value} (h:W.cells? 0 a n=some cs):cs.length=n∧∀j,j<n->W.cell? (a.add j)=cs[j]? :=by
 unfold World.cells? at h;rw[if_pos (kK _)] at h;obtain⟨h1,h2⟩:=BJ _ _ _ h;refine⟨by simpa using h1,fun j hj=>h2 j j (by simp[hj])⟩
def yF {n:Nat} {T e:TypeId} {sz:Nat} (ht:P.underlying T=some (.slice e)) (hc:P.cellsOf e=sz) (hsz:0<sz) {α:Type} {en:α->List V} {w:α->Nat} (hcell:∀a,(en a).length=sz∧(en a).all V.iR=true) (h:Rd enc P W n e en w):
 Rd enc P W (n+1) T (fun l:List α=>[.slice sz (l.map en)]) (fun l=>1+(l.map w).sum):=fun cs x hx=>by
 rcases DataW.trod_slice ht hx with⟨rfl,rfl⟩|⟨a,len,cap,elems,rest,m,hm,rfl,rfl,_,hlc,hcm,hel,hget,_⟩
 ·exact⟨[],bZ.cons (bJ.slice0 sz none 0) (bZ.nil _),by simp[Rows.uptoBulk]⟩
 ·obtain rfl:n=m:=by omega
  rw[hc] at hget;have build:∀k,k<=len->∃l:List α,l.length=k∧(∀i (hi:i<l.length),∃ci,W.cells? 0 (a.add (i*sz)) sz=some ci∧bZ (G0 W) (en l[i]) ci)∧(l.map w).sum<=Rows.uptoBulkAll ((elems.take k).map (·.1)):=by
   intro k
   induction k with
   |zero=>exact fun _=>⟨[],rfl,fun i hi=>by simp at hi,by simp⟩
   |succ k ih=>
    intro hk;obtain⟨l,hl,h1,h2⟩:=ih (by omega);have hk':k<elems.length:=by omega
    have hg:=hget k (by omega);rw[fH hk'] at hg;cases hci:W.cells? 0 (a.add (k*sz)) sz with
    |none=>rw[hci] at hg;cases hg
    |some ci=>
     rw[hci] at hg;obtain⟨y,hy,hw⟩:=h ci _ hg;refine⟨l++[y],by simp[hl],fun i hi=>?_,?_⟩
     ·by_cases hlt:i<l.length
      ·rw[List.getElem_append_left hlt];exact h1 i hlt
      ·obtain rfl:i=l.length:=by simp at hi;omega
       rw[List.getElem_append_right (dS _)];simp only[Nat.sub_self,List.getElem_cons_zero];rw[hl];exact⟨ci,hci,hy⟩
     ·rw[List.take_succ_eq_append_getElem hk',eK,eK,NE,Hh];simp only[dG,eZ,lZ,sO,Rows.uptoBulkAll];omega
  obtain⟨l,hl,h1,h2⟩:=build len (dS _);refine⟨l,bZ.cons ?_ (bZ.nil _),?_⟩
  ·by_cases h0:len=0
   ·subst h0;obtain rfl:=jU hl;exact bJ.slice0 sz (some a) cap
   ·have hspot:a.spot=none:=by
     obtain⟨ci,hci,_⟩:=h1 0 (by omega);obtain⟨k1,k2⟩:=AH hci;have:=k2 0 hsz;rw[fH (by omega)] at this;simpa[Addr.add] using World.cell?_spot this
    obtain⟨b,o,sp⟩:=a;simp only at hspot;subst hspot;have cell:∀i (hi:i<l.length) j c,(en l[i])[j]? =some c->∃v,W.cell? ⟨b,o+(i*sz+j),none⟩=some v∧bJ (G0 W) c v∧v.oneCell'=true:=fun i hi j c hj=>by
     obtain⟨ci,hci,hr⟩:=h1 i hi;obtain⟨k1,k2⟩:=AH hci;obtain⟨v,hv,hrv⟩:=hr.get hj;have hjlt:j<sz:=by rw[<-(hcell l[i]).1];exact(pB.1 hj).1
     have:=k2 j hjlt;rw[i7,hv] at this;exact⟨v,this,hrv,hrv.Wy (lY.1 (hcell l[i]).2 c (Dv hj))⟩
    have at':∀k,k<l.length*sz->∃v,W.cell? ⟨b,o+k,none⟩=some v∧v.oneCell'=true:=fun k hk=>by
     have hi:k/sz<l.length:=Nat.div_lt_of_lt_mul (by rw[Nat.mul_comm];exact hk);have hj:k%sz<(en l[k/sz]).length:=by rw[(hcell _).1];exact Nat.mod_lt _ hsz
     obtain⟨v,hv,_,h1⟩:=cell (k/sz) hi (k%sz) _ (fH hj);have e:k/sz*sz+k%sz=k:=by rw[Nat.mul_comm];exact Nat.div_add_mod k sz
     rw[e] at hv;exact⟨v,hv,h1⟩
    have key:=bJ.slice (G:=G0 W) sz (l.map en) b o cap (fun k=>(W.cell? ⟨b,o+k,none⟩).getD undef) (fun cs hcs=>by
     obtain⟨y,_,rfl⟩:=qB.1 hcs;exact(hcell y).1) (by rw[gI];omega) hcm (fun k hk=>?_) (fun i j cs c hi hj=>?_) (fun k hk=>?_)
    ·rw[gI,hl] at key;exact key
    ·rw[gI] at hk;obtain⟨v,hv,_⟩:=at' k hk;show W.cell? _=_;rw[hv];rfl
    ·rw[qQ] at hi;by_cases hlt:i<l.length
     ·rw[fH hlt] at hi;cases hi
      obtain⟨v,hv,hr,_⟩:=cell i hlt j c hj;rw[hv];exact hr
     ·rw[Gy (by omega)] at hi;cases hi
    ·rw[gI] at hk;obtain⟨v,hv,h1⟩:=at' k hk;rw[hv];exact h1
  ·have:elems.take len=elems:=by rw[<-hel,nI]
   rw[this] at h2;simp only[Rows.uptoBulk];omega
def gV {α:Type} {l:List α} {k:Nat} (h:l.length=k+1):∃x r,l=x::r∧r.length=k:=by
 cases l with
 |nil=>simp at h
 |cons x r=>exact⟨x,r,rfl,by simpa using h⟩
def gY {n:Nat} {fs:Array Field} {xs:List (DataW H×List MemPlace)} {cs:List Value} (hq:∀(i:Nat) (f:Field),fs[i]? =some f->DataW.trod enc P W 0 (fun _=>true) true n f.type ((cs.drop f.offset).take (P.cellsOf f.type))=xs[i]?)
 (i:Nat) {f:Field} (hf:fs[i]? =some f) {d:DataW H×List MemPlace} (hd:xs[i]? =some d) (T off sz:Nat) (hT:f.type=T) (ho:f.offset=off) (hs:P.cellsOf T=sz) {α:Type} {en:α->List V} {w:α->Nat} (hr:Rd enc P W n T en w):
 ∃a,bZ (G0 W) (en a) ((cs.drop off).take sz)∧w a<=Rows.uptoBulk d.1:=by
 subst hT ho hs;exact hr _ _ ((hq i f hf).trans hd)
def gU {G:bC} {A B:List V} {cs:List Value} {m k:Nat} (h1:bZ G A (cs.take m)) (h2:bZ G B ((cs.drop m).take k)):bZ G (A++B) (cs.take (m+k)):=by
 rw[List.take_add];exact h1.append h2
end
end Go.Proofs.YtlfbdcfnimnhiaaGreatDoor
namespace Go.Ex
open Go.Am
def Ax (z:Int):Nat:=if -9223372036854775808<=z∧z<9223372036854775808 then 1 else 1152921504606846976
def VD (z:Int):1<=Ax z:=by unfold Ax;split<;>omega
def aH.w:aH->Nat
 |⟨kind',int',text'⟩=>1+1+Ax int'+(text'.size+1)
def aH.dU (t:aH):aH.w t=1+1+Ax t.int+(t.text.size+1):=by cases t;rw[aH.w]
mutual
def aA.w:aA->Nat
 |⟨op',not',table',name',n',v_',args',sub'⟩=>1+1+1+(table'.size+1)+(name'.size+1)+1+(aH.w v_')+(1+(args'.map aA.w).sum)+(1+(sub'.map aF.w).sum)
 termination_by t=>SizeOf.sizeOf t
 decreasing_by
  all_goals first
   |(have h1:=lJ (‹_›:(_:_)∈(_:List (List _)));have h2:=lJ (‹_›:(_:_)∈(_:List _));simp;omega)
   |decreasing_tactic
def aF.w:aF->Nat
 |⟨with_',parts',order',limit',offset'⟩=>1+(1+(with_'.map bE.w).sum)+(1+(parts'.map aK.w).sum)+(1+(order'.map aX.w).sum)+(1+(limit'.map aA.w).sum)+(1+(offset'.map aA.w).sum)
 termination_by t=>SizeOf.sizeOf t
 decreasing_by
  all_goals first
   |(have h1:=lJ (‹_›:(_:_)∈(_:List (List _)));have h2:=lJ (‹_›:(_:_)∈(_:List _));simp;omega)
   |decreasing_tactic
def bE.w:bE->Nat
 |⟨name',cols',body'⟩=>1+(name'.size+1)+(1+(cols'.map (fun z:ByteArray=>(z.size+1))).sum)+(1+(body'.map aF.w).sum)
 termination_by t=>SizeOf.sizeOf t
 decreasing_by
  all_goals first
   |(have h1:=lJ (‹_›:(_:_)∈(_:List (List _)));have h2:=lJ (‹_›:(_:_)∈(_:List _));simp;omega)
   |decreasing_tactic
def aK.w:aK->Nat
 |⟨comp',distinct',items',from_',where_',group',having',values'⟩=>1+1+1+(1+(items'.map bA.w).sum)+(1+(from_'.map aO.w).sum)+(1+(where_'.map aA.w).sum)+(1+(group'.map aA.w).sum)+(1+(having'.map aA.w).sum)+(1+(values'.map (fun z:(List aA)=>(1+(z.map aA.w).sum))).sum)
 termination_by t=>SizeOf.sizeOf t
 decreasing_by
  all_goals first
   |(have h1:=lJ (‹_›:(_:_)∈(_:List (List _)));have h2:=lJ (‹_›:(_:_)∈(_:List _));simp;omega)
   |decreasing_tactic
def aX.w:aX->Nat
 |⟨expr',desc_'⟩=>1+(aA.w expr')+1
 termination_by t=>SizeOf.sizeOf t
 decreasing_by
  all_goals first
   |(have h1:=lJ (‹_›:(_:_)∈(_:List (List _)));have h2:=lJ (‹_›:(_:_)∈(_:List _));simp;omega)
   |decreasing_tactic
def bA.w:bA->Nat
 |⟨star',table',expr',as'⟩=>1+1+(table'.size+1)+(1+(expr'.map aA.w).sum)+(as'.size+1)
 termination_by t=>SizeOf.sizeOf t
 decreasing_by
  all_goals first
   |(have h1:=lJ (‹_›:(_:_)∈(_:List (List _)));have h2:=lJ (‹_›:(_:_)∈(_:List _));simp;omega)
   |decreasing_tactic
def aO.w:aO->Nat
 |⟨join',name',sub',as',on'⟩=>1+1+(name'.size+1)+(1+(sub'.map aF.w).sum)+(as'.size+1)+(1+(on'.map aA.w).sum)
 termination_by t=>SizeOf.sizeOf t
 decreasing_by
  all_goals first
   |(have h1:=lJ (‹_›:(_:_)∈(_:List (List _)));have h2:=lJ (‹_›:(_:_)∈(_:List _));simp;omega)
   |decreasing_tactic
end
def aA.dU (t:aA):aA.w t=1+1+1+(t.table.size+1)+(t.name.size+1)+1+(aH.w t.v_)+(1+(t.args.map aA.w).sum)+(1+(t.sub.map aF.w).sum):=by cases t;rw[aA.w]
def aA.fG (t:aA):1<=aA.w t:=by rw[aA.dU];omega
def aF.dU (t:aF):aF.w t=1+(1+(t.with_.map bE.w).sum)+(1+(t.parts.map aK.w).sum)+(1+(t.order.map aX.w).sum)+(1+(t.limit.map aA.w).sum)+(1+(t.offset.map aA.w).sum):=by cases t;rw[aF.w]
def aF.fG (t:aF):1<=aF.w t:=by rw[aF.dU];omega
def bE.dU (t:bE):bE.w t=1+(t.name.size+1)+(1+(t.cols.map (fun z:ByteArray=>(z.size+1))).sum)+(1+(t.body.map aF.w).sum):=by cases t;rw[bE.w]
def bE.fG (t:bE):1<=bE.w t:=by rw[bE.dU];omega
def aK.dU (t:aK):aK.w t=1+1+1+(1+(t.items.map bA.w).sum)+(1+(t.from_.map aO.w).sum)+(1+(t.where_.map aA.w).sum)+(1+(t.group.map aA.w).sum)+(1+(t.having.map aA.w).sum)+(1+(t.values.map (fun z:(List aA)=>(1+(z.map aA.w).sum))).sum):=by cases t;rw[aK.w]
def aK.fG (t:aK):1<=aK.w t:=by rw[aK.dU];omega
def aX.dU (t:aX):aX.w t=1+(aA.w t.expr)+1:=by cases t;rw[aX.w]
def aX.fG (t:aX):1<=aX.w t:=by rw[aX.dU];omega
def bA.dU (t:bA):bA.w t=1+1+(t.table.size+1)+(1+(t.expr.map aA.w).sum)+(t.az.size+1):=by cases t;rw[bA.w]
def bA.fG (t:bA):1<=bA.w t:=by rw[bA.dU];omega
def aO.dU (t:aO):aO.w t=1+1+(t.name.size+1)+(1+(t.sub.map aF.w).sum)+(t.az.size+1)+(1+(t.on.map aA.w).sum):=by cases t;rw[aO.w]
def aO.fG (t:aO):1<=aO.w t:=by rw[aO.dU];omega
end Go.Ex
namespace Go.Proofs.YtlfbdcfnimnhiaaGreatDoor
open Go.Am Go.Ex
section
variable {H:Type} {enc:TypeId×Value->H} {W:World}
def Ih {n:Nat} {T:TypeId} {k:IntKind} (h:prog.underlying T=some (.int k)):Rd enc prog W n T (fun z:Int=>[V.base (.int k z)]) (fun _=>1):=fun cs x hx=>by
 obtain⟨z,rfl,rfl,_⟩:=DataW.trod_int h hx;exact⟨z,bZ.cons (bJ.base _) (bZ.nil _),Sh _⟩
def XW {n:Nat} {T:TypeId} (h:prog.underlying T=some (.int .i64)):Rd enc prog W n T (fun z:Int=>[aI z]) Ax:=fun cs x hx=>by
 obtain⟨z,rfl,rfl,hw⟩:=DataW.trod_int h hx;refine⟨z,bZ.cons (bJ.base _) (bZ.nil _),?_⟩;have e:Ax z=1:=by
  unfold Lit.wf at hw;simp only[dI,tW] at hw;unfold Ax;have h1:=hw.1;have h2:=hw.2;have e1:i64.min= -9223372036854775808:=by decide
  have e2:i64.max=9223372036854775807:=by decide
  rw[e1] at h1;rw[e2] at h2;rw[if_pos ⟨h1,by omega⟩]
 rw[e];exact Sh _
def PN (t:aA):(aA.v t).length=10∧(aA.v t).all V.iR=true:=⟨aA.eW t,aA.lD t⟩
def MF (t:aF):(aF.v t).length=5∧(aF.v t).all V.iR=true:=⟨aF.eW t,aF.lD t⟩
def SR (t:bE):(bE.v t).length=3∧(bE.v t).all V.iR=true:=⟨bE.eW t,bE.lD t⟩
def PL (t:aK):(aK.v t).length=8∧(aK.v t).all V.iR=true:=⟨aK.eW t,aK.lD t⟩
def PK (t:aX):(aX.v t).length=11∧(aX.v t).all V.iR=true:=⟨aX.eW t,aX.lD t⟩
def PM (t:bA):(bA.v t).length=4∧(bA.v t).all V.iR=true:=⟨bA.eW t,bA.lD t⟩
def ME (t:aO):(aO.v t).length=5∧(aO.v t).all V.iR=true:=⟨aO.eW t,aO.lD t⟩
def aGl {n:Nat}:Rd enc prog W (n+1) 25 aH.v aH.w:=fun cs x hx=>by
 obtain⟨xs,m,hm,rfl,hcs,hl,hq⟩:=DataW.trod_struct underlying25 hx;obtain rfl:n=m:=by omega
 have hcs:cs.length=3:=hcs.trans (by kernel_rfl);have hl:xs.length=3:=hl;obtain⟨x0,y0,rfl,l0⟩:=gV hl;obtain⟨x1,y1,rfl,l1⟩:=gV l0;obtain⟨x2,y2,rfl,l2⟩:=gV l1;obtain rfl:=jU l2;obtain⟨a0,r0,w0⟩:=gY hq 0 rfl (d:=x0) rfl 23 0 1 rfl rfl (by kernel_rfl) (Ih underlying23);obtain⟨a1,r1,w1⟩:=gY hq 1 rfl (d:=x1) rfl 2 1 1 rfl rfl (by kernel_rfl) (XW underlying2);obtain⟨a2,r2,w2⟩:=gY hq 2 rfl (d:=x2) rfl 9 2 1 rfl rfl (by kernel_rfl) (yI underlying9);have q0:bZ (G0 W) [] (cs.take 0):=by rw[wO];exact bZ.nil _
 have q1:=gU q0 r0;have q2:=gU q1 r1;have q3:=gU q2 r2;have e:cs.take 3=cs:=by rw[<-hcs,nI]
 simp only[Rows.uptoBulk,Rows.uptoBulkAll,dG,eZ];refine⟨⟨a0,a1,a2⟩,?_,?_⟩
 ·rw[e] at q3;rw[aH.kS];simp only[iY,fS,jP] at q3 ⊢;exact q3
 ·rw[aH.dU];simp only at*;omega
def aGk {n:Nat} (h25:Rd enc prog W n 25 aH.v aH.w) (h26:Rd enc prog W n 26 (fun x:(List aA)=>[V.slice 10 (x.map aA.v)]) (fun z:(List aA)=>(1+(z.map aA.w).sum))) (h27:Rd enc prog W n 27 (fun x:(List aF)=>[V.slice 5 (x.map aF.v)]) (fun z:(List aF)=>(1+(z.map aF.w).sum))):Rd enc prog W (n+1) 29 aA.v aA.w:=fun cs x hx=>by
 obtain⟨xs,m,hm,rfl,hcs,hl,hq⟩:=DataW.trod_struct underlying29 hx;obtain rfl:n=m:=by omega
 have hcs:cs.length=10:=hcs.trans (by kernel_rfl);have hl:xs.length=8:=hl;obtain⟨x0,y0,rfl,l0⟩:=gV hl;obtain⟨x1,y1,rfl,l1⟩:=gV l0;obtain⟨x2,y2,rfl,l2⟩:=gV l1;obtain⟨x3,y3,rfl,l3⟩:=gV l2;obtain⟨x4,y4,rfl,l4⟩:=gV l3;obtain⟨x5,y5,rfl,l5⟩:=gV l4;obtain⟨x6,y6,rfl,l6⟩:=gV l5;obtain⟨x7,y7,rfl,l7⟩:=gV l6;obtain rfl:=jU l7;obtain⟨a0,r0,w0⟩:=gY hq 0 rfl (d:=x0) rfl 22 0 1 rfl rfl (by kernel_rfl) (Ih underlying22);obtain⟨a1,r1,w1⟩:=gY hq 1 rfl (d:=x1) rfl 4 1 1 rfl rfl (by kernel_rfl) (Nf underlying4);obtain⟨a2,r2,w2⟩:=gY hq 2 rfl (d:=x2) rfl 9 2 1 rfl rfl (by kernel_rfl) (yI underlying9);obtain⟨a3,r3,w3⟩:=gY hq 3 rfl (d:=x3) rfl 9 3 1 rfl rfl (by kernel_rfl) (yI underlying9);obtain⟨a4,r4,w4⟩:=gY hq 4 rfl (d:=x4) rfl 3 4 1 rfl rfl (by kernel_rfl) (Ih underlying3);obtain⟨a5,r5,w5⟩:=gY hq 5 rfl (d:=x5) rfl 25 5 3 rfl rfl (by kernel_rfl) h25;obtain⟨a6,r6,w6⟩:=gY hq 6 rfl (d:=x6) rfl 26 8 1 rfl rfl (by kernel_rfl) h26;obtain⟨a7,r7,w7⟩:=gY hq 7 rfl (d:=x7) rfl 27 9 1 rfl rfl (by kernel_rfl) h27;have q0:bZ (G0 W) [] (cs.take 0):=by rw[wO];exact bZ.nil _
 have q1:=gU q0 r0;have q2:=gU q1 r1;have q3:=gU q2 r2;have q4:=gU q3 r3;have q5:=gU q4 r4;have q6:=gU q5 r5;have q7:=gU q6 r6;have q8:=gU q7 r7;have e:cs.take 10=cs:=by rw[<-hcs,nI]
 simp only[Rows.uptoBulk,Rows.uptoBulkAll,dG,eZ];refine⟨⟨a0,a1,a2,a3,a4,a5,a6,a7⟩,?_,?_⟩
 ·rw[e] at q8;rw[aA.kS];simp only[iY,fS,jP] at q8 ⊢;exact q8
 ·rw[aA.dU];simp only at*;omega
def aGj {n:Nat} (h38:Rd enc prog W n 38 (fun x:(List bE)=>[V.slice 3 (x.map bE.v)]) (fun z:(List bE)=>(1+(z.map bE.w).sum))) (h39:Rd enc prog W n 39 (fun x:(List aK)=>[V.slice 8 (x.map aK.v)]) (fun z:(List aK)=>(1+(z.map aK.w).sum))) (h40:Rd enc prog W n 40 (fun x:(List aX)=>[V.slice 11 (x.map aX.v)]) (fun z:(List aX)=>(1+(z.map aX.w).sum))) (h26:Rd enc prog W n 26 (fun x:(List aA)=>[V.slice 10 (x.map aA.v)]) (fun z:(List aA)=>(1+(z.map aA.w).sum))):Rd enc prog W (n+1) 42 aF.v aF.w:=fun cs x hx=>by
 obtain⟨xs,m,hm,rfl,hcs,hl,hq⟩:=DataW.trod_struct underlying42 hx;obtain rfl:n=m:=by omega
 have hcs:cs.length=5:=hcs.trans (by kernel_rfl);have hl:xs.length=5:=hl;obtain⟨x0,y0,rfl,l0⟩:=gV hl;obtain⟨x1,y1,rfl,l1⟩:=gV l0;obtain⟨x2,y2,rfl,l2⟩:=gV l1;obtain⟨x3,y3,rfl,l3⟩:=gV l2;obtain⟨x4,y4,rfl,l4⟩:=gV l3;obtain rfl:=jU l4;obtain⟨a0,r0,w0⟩:=gY hq 0 rfl (d:=x0) rfl 38 0 1 rfl rfl (by kernel_rfl) h38;obtain⟨a1,r1,w1⟩:=gY hq 1 rfl (d:=x1) rfl 39 1 1 rfl rfl (by kernel_rfl) h39;obtain⟨a2,r2,w2⟩:=gY hq 2 rfl (d:=x2) rfl 40 2 1 rfl rfl (by kernel_rfl) h40;obtain⟨a3,r3,w3⟩:=gY hq 3 rfl (d:=x3) rfl 26 3 1 rfl rfl (by kernel_rfl) h26;obtain⟨a4,r4,w4⟩:=gY hq 4 rfl (d:=x4) rfl 26 4 1 rfl rfl (by kernel_rfl) h26;have q0:bZ (G0 W) [] (cs.take 0):=by rw[wO];exact bZ.nil _
 have q1:=gU q0 r0;have q2:=gU q1 r1;have q3:=gU q2 r2;have q4:=gU q3 r3;have q5:=gU q4 r4;have e:cs.take 5=cs:=by rw[<-hcs,nI]
 simp only[Rows.uptoBulk,Rows.uptoBulkAll,dG,eZ];refine⟨⟨a0,a1,a2,a3,a4⟩,?_,?_⟩
 ·rw[e] at q5;rw[aF.kS];simp only[iY,fS,jP] at q5 ⊢;exact q5
 ·rw[aF.dU];simp only at*;omega
def aGi {n:Nat} (h64:Rd enc prog W n 64 (fun x:(List ByteArray)=>[V.slice 1 (List.map (fun x=>[aM x]) x)]) (fun z:(List ByteArray)=>(1+(z.map (fun z:ByteArray=>(z.size+1))).sum))) (h27:Rd enc prog W n 27 (fun x:(List aF)=>[V.slice 5 (x.map aF.v)]) (fun z:(List aF)=>(1+(z.map aF.w).sum))):Rd enc prog W (n+1) 66 bE.v bE.w:=fun cs x hx=>by
 obtain⟨xs,m,hm,rfl,hcs,hl,hq⟩:=DataW.trod_struct underlying66 hx;obtain rfl:n=m:=by omega
 have hcs:cs.length=3:=hcs.trans (by kernel_rfl);have hl:xs.length=3:=hl;obtain⟨x0,y0,rfl,l0⟩:=gV hl;obtain⟨x1,y1,rfl,l1⟩:=gV l0;obtain⟨x2,y2,rfl,l2⟩:=gV l1;obtain rfl:=jU l2;obtain⟨a0,r0,w0⟩:=gY hq 0 rfl (d:=x0) rfl 9 0 1 rfl rfl (by kernel_rfl) (yI underlying9);obtain⟨a1,r1,w1⟩:=gY hq 1 rfl (d:=x1) rfl 64 1 1 rfl rfl (by kernel_rfl) h64;obtain⟨a2,r2,w2⟩:=gY hq 2 rfl (d:=x2) rfl 27 2 1 rfl rfl (by kernel_rfl) h27;have q0:bZ (G0 W) [] (cs.take 0):=by rw[wO];exact bZ.nil _
 have q1:=gU q0 r0;have q2:=gU q1 r1;have q3:=gU q2 r2;have e:cs.take 3=cs:=by rw[<-hcs,nI]
 simp only[Rows.uptoBulk,Rows.uptoBulkAll,dG,eZ];refine⟨⟨a0,a1,a2⟩,?_,?_⟩
 ·rw[e] at q3;rw[bE.kS];simp only[iY,fS,jP] at q3 ⊢;exact q3
 ·rw[bE.dU];simp only at*;omega
def aGh {n:Nat} (h71:Rd enc prog W n 71 (fun x:(List bA)=>[V.slice 4 (x.map bA.v)]) (fun z:(List bA)=>(1+(z.map bA.w).sum))) (h72:Rd enc prog W n 72 (fun x:(List aO)=>[V.slice 5 (x.map aO.v)]) (fun z:(List aO)=>(1+(z.map aO.w).sum))) (h26:Rd enc prog W n 26 (fun x:(List aA)=>[V.slice 10 (x.map aA.v)]) (fun z:(List aA)=>(1+(z.map aA.w).sum))) (h73:Rd enc prog W n 73 (fun x:(List (List aA))=>[V.slice 1 (List.map (fun x=>[V.slice 10 (x.map aA.v)]) x)]) (fun z:(List (List aA))=>(1+(z.map (fun z:(List aA)=>(1+(z.map aA.w).sum))).sum))):Rd enc prog W (n+1) 75 aK.v aK.w:=fun cs x hx=>by
 obtain⟨xs,m,hm,rfl,hcs,hl,hq⟩:=DataW.trod_struct underlying75 hx;obtain rfl:n=m:=by omega
 have hcs:cs.length=8:=hcs.trans (by kernel_rfl);have hl:xs.length=8:=hl;obtain⟨x0,y0,rfl,l0⟩:=gV hl;obtain⟨x1,y1,rfl,l1⟩:=gV l0;obtain⟨x2,y2,rfl,l2⟩:=gV l1;obtain⟨x3,y3,rfl,l3⟩:=gV l2;obtain⟨x4,y4,rfl,l4⟩:=gV l3;obtain⟨x5,y5,rfl,l5⟩:=gV l4;obtain⟨x6,y6,rfl,l6⟩:=gV l5;obtain⟨x7,y7,rfl,l7⟩:=gV l6;obtain rfl:=jU l7;obtain⟨a0,r0,w0⟩:=gY hq 0 rfl (d:=x0) rfl 70 0 1 rfl rfl (by kernel_rfl) (Ih underlying70);obtain⟨a1,r1,w1⟩:=gY hq 1 rfl (d:=x1) rfl 4 1 1 rfl rfl (by kernel_rfl) (Nf underlying4);obtain⟨a2,r2,w2⟩:=gY hq 2 rfl (d:=x2) rfl 71 2 1 rfl rfl (by kernel_rfl) h71;obtain⟨a3,r3,w3⟩:=gY hq 3 rfl (d:=x3) rfl 72 3 1 rfl rfl (by kernel_rfl) h72;obtain⟨a4,r4,w4⟩:=gY hq 4 rfl (d:=x4) rfl 26 4 1 rfl rfl (by kernel_rfl) h26;obtain⟨a5,r5,w5⟩:=gY hq 5 rfl (d:=x5) rfl 26 5 1 rfl rfl (by kernel_rfl) h26;obtain⟨a6,r6,w6⟩:=gY hq 6 rfl (d:=x6) rfl 26 6 1 rfl rfl (by kernel_rfl) h26;obtain⟨a7,r7,w7⟩:=gY hq 7 rfl (d:=x7) rfl 73 7 1 rfl rfl (by kernel_rfl) h73;have q0:bZ (G0 W) [] (cs.take 0):=by rw[wO];exact bZ.nil _
 have q1:=gU q0 r0;have q2:=gU q1 r1;have q3:=gU q2 r2;have q4:=gU q3 r3;have q5:=gU q4 r4;have q6:=gU q5 r5;have q7:=gU q6 r6;have q8:=gU q7 r7;have e:cs.take 8=cs:=by rw[<-hcs,nI]
 simp only[Rows.uptoBulk,Rows.uptoBulkAll,dG,eZ];refine⟨⟨a0,a1,a2,a3,a4,a5,a6,a7⟩,?_,?_⟩
 ·rw[e] at q8;rw[aK.kS];simp only[iY,fS,jP] at q8 ⊢;exact q8
 ·rw[aK.dU];simp only at*;omega
def aGg {n:Nat} (h29:Rd enc prog W n 29 aA.v aA.w):Rd enc prog W (n+1) 79 aX.v aX.w:=fun cs x hx=>by
 obtain⟨xs,m,hm,rfl,hcs,hl,hq⟩:=DataW.trod_struct underlying79 hx;obtain rfl:n=m:=by omega
 have hcs:cs.length=11:=hcs.trans (by kernel_rfl);have hl:xs.length=2:=hl;obtain⟨x0,y0,rfl,l0⟩:=gV hl;obtain⟨x1,y1,rfl,l1⟩:=gV l0;obtain rfl:=jU l1;obtain⟨a0,r0,w0⟩:=gY hq 0 rfl (d:=x0) rfl 29 0 10 rfl rfl (by kernel_rfl) h29;obtain⟨a1,r1,w1⟩:=gY hq 1 rfl (d:=x1) rfl 4 10 1 rfl rfl (by kernel_rfl) (Nf underlying4);have q0:bZ (G0 W) [] (cs.take 0):=by rw[wO];exact bZ.nil _
 have q1:=gU q0 r0;have q2:=gU q1 r1;have e:cs.take 11=cs:=by rw[<-hcs,nI]
 simp only[Rows.uptoBulk,Rows.uptoBulkAll,dG,eZ];refine⟨⟨a0,a1⟩,?_,?_⟩
 ·rw[e] at q2;rw[aX.kS];simp only[iY,fS,jP] at q2 ⊢;exact q2
 ·rw[aX.dU];simp only at*;omega
def aDu {n:Nat} (h26:Rd enc prog W n 26 (fun x:(List aA)=>[V.slice 10 (x.map aA.v)]) (fun z:(List aA)=>(1+(z.map aA.w).sum))):Rd enc prog W (n+1) 114 bA.v bA.w:=fun cs x hx=>by
 obtain⟨xs,m,hm,rfl,hcs,hl,hq⟩:=DataW.trod_struct underlying114 hx;obtain rfl:n=m:=by omega
 have hcs:cs.length=4:=hcs.trans (by kernel_rfl);have hl:xs.length=4:=hl;obtain⟨x0,y0,rfl,l0⟩:=gV hl;obtain⟨x1,y1,rfl,l1⟩:=gV l0;obtain⟨x2,y2,rfl,l2⟩:=gV l1;obtain⟨x3,y3,rfl,l3⟩:=gV l2;obtain rfl:=jU l3;obtain⟨a0,r0,w0⟩:=gY hq 0 rfl (d:=x0) rfl 4 0 1 rfl rfl (by kernel_rfl) (Nf underlying4);obtain⟨a1,r1,w1⟩:=gY hq 1 rfl (d:=x1) rfl 9 1 1 rfl rfl (by kernel_rfl) (yI underlying9);obtain⟨a2,r2,w2⟩:=gY hq 2 rfl (d:=x2) rfl 26 2 1 rfl rfl (by kernel_rfl) h26;obtain⟨a3,r3,w3⟩:=gY hq 3 rfl (d:=x3) rfl 9 3 1 rfl rfl (by kernel_rfl) (yI underlying9);have q0:bZ (G0 W) [] (cs.take 0):=by rw[wO];exact bZ.nil _
 have q1:=gU q0 r0;have q2:=gU q1 r1;have q3:=gU q2 r2;have q4:=gU q3 r3;have e:cs.take 4=cs:=by rw[<-hcs,nI]
 simp only[Rows.uptoBulk,Rows.uptoBulkAll,dG,eZ];refine⟨⟨a0,a1,a2,a3⟩,?_,?_⟩
 ·rw[e] at q4;rw[bA.kS];simp only[iY,fS,jP] at q4 ⊢;exact q4
 ·rw[bA.dU];simp only at*;omega
def aDt {n:Nat} (h27:Rd enc prog W n 27 (fun x:(List aF)=>[V.slice 5 (x.map aF.v)]) (fun z:(List aF)=>(1+(z.map aF.w).sum))) (h26:Rd enc prog W n 26 (fun x:(List aA)=>[V.slice 10 (x.map aA.v)]) (fun z:(List aA)=>(1+(z.map aA.w).sum))):Rd enc prog W (n+1) 119 aO.v aO.w:=fun cs x hx=>by
 obtain⟨xs,m,hm,rfl,hcs,hl,hq⟩:=DataW.trod_struct underlying119 hx;obtain rfl:n=m:=by omega
 have hcs:cs.length=5:=hcs.trans (by kernel_rfl);have hl:xs.length=5:=hl;obtain⟨x0,y0,rfl,l0⟩:=gV hl;obtain⟨x1,y1,rfl,l1⟩:=gV l0;obtain⟨x2,y2,rfl,l2⟩:=gV l1;obtain⟨x3,y3,rfl,l3⟩:=gV l2;obtain⟨x4,y4,rfl,l4⟩:=gV l3;obtain rfl:=jU l4;obtain⟨a0,r0,w0⟩:=gY hq 0 rfl (d:=x0) rfl 117 0 1 rfl rfl (by kernel_rfl) (Ih underlying117);obtain⟨a1,r1,w1⟩:=gY hq 1 rfl (d:=x1) rfl 9 1 1 rfl rfl (by kernel_rfl) (yI underlying9);obtain⟨a2,r2,w2⟩:=gY hq 2 rfl (d:=x2) rfl 27 2 1 rfl rfl (by kernel_rfl) h27;obtain⟨a3,r3,w3⟩:=gY hq 3 rfl (d:=x3) rfl 9 3 1 rfl rfl (by kernel_rfl) (yI underlying9);obtain⟨a4,r4,w4⟩:=gY hq 4 rfl (d:=x4) rfl 26 4 1 rfl rfl (by kernel_rfl) h26;have q0:bZ (G0 W) [] (cs.take 0):=by rw[wO];exact bZ.nil _
 have q1:=gU q0 r0;have q2:=gU q1 r1;have q3:=gU q2 r2;have q4:=gU q3 r3;have q5:=gU q4 r4;have e:cs.take 5=cs:=by rw[<-hcs,nI]
 simp only[Rows.uptoBulk,Rows.uptoBulkAll,dG,eZ];refine⟨⟨a0,a1,a2,a3,a4⟩,?_,?_⟩
 ·rw[e] at q5;rw[aO.kS];simp only[iY,fS,jP] at q5 ⊢;exact q5
 ·rw[aO.dU];simp only at*;omega
structure aFc (enc:TypeId×Value->H) (W:World) (n:Nat):Prop where
 h25:Rd enc prog W n 25 aH.v aH.w
 h29:Rd enc prog W n 29 aA.v aA.w
 h42:Rd enc prog W n 42 aF.v aF.w
 h66:Rd enc prog W n 66 bE.v bE.w
 h75:Rd enc prog W n 75 aK.v aK.w
 h79:Rd enc prog W n 79 aX.v aX.w
 h114:Rd enc prog W n 114 bA.v bA.w
 h119:Rd enc prog W n 119 aO.v aO.w
 h26:Rd enc prog W n 26 (fun x:(List aA)=>[V.slice 10 (x.map aA.v)]) (fun z:(List aA)=>(1+(z.map aA.w).sum))
 h27:Rd enc prog W n 27 (fun x:(List aF)=>[V.slice 5 (x.map aF.v)]) (fun z:(List aF)=>(1+(z.map aF.w).sum))
 h38:Rd enc prog W n 38 (fun x:(List bE)=>[V.slice 3 (x.map bE.v)]) (fun z:(List bE)=>(1+(z.map bE.w).sum))
 h39:Rd enc prog W n 39 (fun x:(List aK)=>[V.slice 8 (x.map aK.v)]) (fun z:(List aK)=>(1+(z.map aK.w).sum))
 h40:Rd enc prog W n 40 (fun x:(List aX)=>[V.slice 11 (x.map aX.v)]) (fun z:(List aX)=>(1+(z.map aX.w).sum))
 h64:Rd enc prog W n 64 (fun x:(List ByteArray)=>[V.slice 1 (List.map (fun x=>[aM x]) x)]) (fun z:(List ByteArray)=>(1+(z.map (fun z:ByteArray=>(z.size+1))).sum))
 h71:Rd enc prog W n 71 (fun x:(List bA)=>[V.slice 4 (x.map bA.v)]) (fun z:(List bA)=>(1+(z.map bA.w).sum))
 h72:Rd enc prog W n 72 (fun x:(List aO)=>[V.slice 5 (x.map aO.v)]) (fun z:(List aO)=>(1+(z.map aO.w).sum))
 h73:Rd enc prog W n 73 (fun x:(List (List aA))=>[V.slice 1 (List.map (fun x=>[V.slice 10 (x.map aA.v)]) x)]) (fun z:(List (List aA))=>(1+(z.map (fun z:(List aA)=>(1+(z.map aA.w).sum))).sum))
def EB (enc:TypeId×Value->H) (W:World):∀n,aFc enc W n
 |0=>by constructor<;>exact XV
 |n+1=>by
  have h:=EB enc W n;have g25:Rd enc prog W (n+1) 25 aH.v aH.w:=aGl;have g29:Rd enc prog W (n+1) 29 aA.v aA.w:=aGk h.h25 h.h26 h.h27;have g42:Rd enc prog W (n+1) 42 aF.v aF.w:=aGj h.h38 h.h39 h.h40 h.h26;have g66:Rd enc prog W (n+1) 66 bE.v bE.w:=aGi h.h64 h.h27;have g75:Rd enc prog W (n+1) 75 aK.v aK.w:=aGh h.h71 h.h72 h.h26 h.h73;have g79:Rd enc prog W (n+1) 79 aX.v aX.w:=aGg h.h29;have g114:Rd enc prog W (n+1) 114 bA.v bA.w:=aDu h.h26;have g119:Rd enc prog W (n+1) 119 aO.v aO.w:=aDt h.h27 h.h26;have g26:Rd enc prog W (n+1) 26 (fun x:(List aA)=>[V.slice 10 (x.map aA.v)]) (fun z:(List aA)=>(1+(z.map aA.w).sum)):=yF underlying26 (by kernel_rfl:prog.cellsOf 29=10) (by decide) PN h.h29;have g27:Rd enc prog W (n+1) 27 (fun x:(List aF)=>[V.slice 5 (x.map aF.v)]) (fun z:(List aF)=>(1+(z.map aF.w).sum)):=yF underlying27 (by kernel_rfl:prog.cellsOf 42=5) (by decide) MF h.h42;have g38:Rd enc prog W (n+1) 38 (fun x:(List bE)=>[V.slice 3 (x.map bE.v)]) (fun z:(List bE)=>(1+(z.map bE.w).sum)):=yF underlying38 (by kernel_rfl:prog.cellsOf 66=3) (by decide) SR h.h66;have g39:Rd enc prog W (n+1) 39 (fun x:(List aK)=>[V.slice 8 (x.map aK.v)]) (fun z:(List aK)=>(1+(z.map aK.w).sum)):=yF underlying39 (by kernel_rfl:prog.cellsOf 75=8) (by decide) PL h.h75
  have g40:Rd enc prog W (n+1) 40 (fun x:(List aX)=>[V.slice 11 (x.map aX.v)]) (fun z:(List aX)=>(1+(z.map aX.w).sum)):=yF underlying40 (by kernel_rfl:prog.cellsOf 79=11) (by decide) PK h.h79;have g64:Rd enc prog W (n+1) 64 (fun x:(List ByteArray)=>[V.slice 1 (List.map (fun x=>[aM x]) x)]) (fun z:(List ByteArray)=>(1+(z.map (fun z:ByteArray=>(z.size+1))).sum)):=yF underlying64 (by kernel_rfl:prog.cellsOf 9=1) (by decide) (fun a=>⟨rfl,rfl⟩) (yI underlying9);have g71:Rd enc prog W (n+1) 71 (fun x:(List bA)=>[V.slice 4 (x.map bA.v)]) (fun z:(List bA)=>(1+(z.map bA.w).sum)):=yF underlying71 (by kernel_rfl:prog.cellsOf 114=4) (by decide) PM h.h114;have g72:Rd enc prog W (n+1) 72 (fun x:(List aO)=>[V.slice 5 (x.map aO.v)]) (fun z:(List aO)=>(1+(z.map aO.w).sum)):=yF underlying72 (by kernel_rfl:prog.cellsOf 119=5) (by decide) ME h.h119;have g73:Rd enc prog W (n+1) 73 (fun x:(List (List aA))=>[V.slice 1 (List.map (fun x=>[V.slice 10 (x.map aA.v)]) x)]) (fun z:(List (List aA))=>(1+(z.map (fun z:(List aA)=>(1+(z.map aA.w).sum))).sum)):=yF underlying73 (by kernel_rfl:prog.cellsOf 26=1) (by decide) (fun a=>⟨rfl,rfl⟩) h.h26;exact⟨g25,g29,g42,g66,g75,g79,g114,g119,g26,g27,g38,g39,g40,g64,g71,g72,g73⟩
end
end Go.Proofs.YtlfbdcfnimnhiaaGreatDoor
namespace Go.Proofs
open Go.Shelf
def Tryz.lays158_ren:Go.Shelf.Ren:=⟨fun|158=>164|165=>86|166=>68|167=>69|169=>70|230=>186|203=>187|240=>109|241=>129|197=>113|118=>199|168=>200|270=>201|262=>202|276=>149|277=>166|260=>154|242=>210|313=>211|278=>216|274=>217|275=>218|n=>n,fun|9=>9|4=>4|3=>3|5=>5|72=>134|0=>0|76=>137|75=>136|107=>234|70=>131|20=>20|37=>132|127=>173|21=>21|105=>176|164=>204|162=>259|203=>257|119=>228|46=>140|139=>231|138=>230|51=>224|160=>261|208=>269|206=>267|80=>141|n=>n,fun|13=>6|3=>2|4=>3|n=>n⟩
def Tryz.lays158:Go.Proofs.Lays.n158 prog lays158_ren:=by constructor<;>first|kernel_rfl|(intro w;kernel_rfl)|exact fun w=>rfl|(constructor<;>first|kernel_rfl|(intro w;kernel_rfl))
def Tryz.Builder_Extra_158:Builder.Extra prog lays158_ren:={
 sizeBuilder:=by kernel_rfl
 liesBuilder:=by kernel_rfl
 t5:=underlying5
 a5:=isAgg5
 z5:=sizeOf5
 v5:=zeroValue5
 infoByte:=by kernel_rfl
 cellsByte:=by kernel_rfl
 sizeByte:=by kernel_rfl
 neB5:=by decide }
open Go.RowKit in
def Tryz.strings_ToUpper_ascii (s:ByteArray) (w:World) (hs:s.size<=140737488355328) (hascii:∀(j:Nat) (b:UInt8),s.data.toList[j]? =some b->b.toNat<128):
 Calls prog 164 #[.string s] w fun e w'=>e= .returned (.string ⟨(Lib.toUpperA s.data.toList).toArray⟩)∧Below w.heap.size w w':=Any.strings_ToUpper_ascii lays158 Builder_Extra_158 s w hs hascii
def Tryz.lays156_ren:Go.Shelf.Ren:=⟨fun|156=>45|165=>86|166=>68|169=>70|240=>109|241=>129|276=>149|277=>166|n=>n,fun|31=>64|9=>9|3=>3|4=>4|0=>0|20=>20|72=>134|76=>137|70=>131|37=>132|75=>136|127=>173|164=>204|5=>5|80=>141|n=>n,fun|n=>n⟩
def Tryz.lays156:Go.Proofs.Lays.n156 prog lays156_ren:=by constructor<;>first|kernel_rfl|(intro w;kernel_rfl)|exact fun w=>rfl|(constructor<;>first|kernel_rfl|(intro w;kernel_rfl))
def Tryz.Builder_Extra_156:Builder.Extra prog lays156_ren:={
 sizeBuilder:=by kernel_rfl
 liesBuilder:=by kernel_rfl
 t5:=underlying5
 a5:=isAgg5
 z5:=sizeOf5
 v5:=zeroValue5
 infoByte:=by kernel_rfl
 cellsByte:=by kernel_rfl
 sizeByte:=by kernel_rfl
 neB5:=by decide }
open Go.RowKit in
def Tryz.strings_Join_none (a:Option Addr) (c:Nat) (sep:ByteArray) (w:World):
 Calls prog 45 #[.slice a 0 c,.string sep] w fun e w'=>e= .returned (.string ⟨#[]⟩)∧w'=w:=Any.strings_Join_none lays156 Builder_Extra_156 a c sep w
open Go.RowKit in
def Tryz.strings_Join (bk o c:Nat) (xs:List ByteArray) (sep:ByteArray) (w:World) (hcells:∀(j:Nat) x,xs[j]? =some x->w.cell? ⟨bk,o+j,none⟩=some (.string x)) (hbk:bk<w.heap.size) (hN:xs.length<=140737488355328) (hcap:xs.length<=c) (hlen:(Lib.join (xs.map (·.data.toList)) sep.data.toList).length<=140737488355328):
 Calls prog 45 #[.slice (some ⟨bk,o,none⟩) xs.length c,.string sep] w fun e w'=>e= .returned (.string ⟨(Lib.join (xs.map (·.data.toList)) sep.data.toList).toArray⟩)∧Below w.heap.size w w':=Any.strings_Join lays156 Builder_Extra_156 bk o c xs sep w hcells hbk hN hcap hlen
open Go.RowKit in
def Tryz.lays137_ren:Go.Shelf.Ren:=⟨fun|137=>156|217=>178|266=>196|n=>n,fun|9=>9|5=>5|3=>3|n=>n,fun|n=>n⟩
def Tryz.lays137:Go.Proofs.Lays.n137 prog lays137_ren:=by constructor<;>first|kernel_rfl|(intro w;kernel_rfl)|exact fun w=>rfl|(constructor<;>first|kernel_rfl|(intro w;kernel_rfl))
open Go.RowKit in
def Tryz.strings_IndexByte (s:ByteArray) (c:Int) (w:World):
 Calls prog 156 #[.string s,.int .u8 c] w fun e w'=>e= .returned (.int .i64 (Lib.indexByte s.data.toList c.toNat.toUInt8))∧w'=w:=Any.strings_IndexByte lays137 s c w
def Tryz.lays171_ren:Go.Shelf.Ren:=⟨fun|171=>33|243=>71|246=>108|283=>145|284=>146|285=>147|286=>148|129=>174|317=>173|318=>175|319=>176|320=>177|337=>194|338=>195|n=>n,fun|3=>3|9=>9|2=>2|4=>4|171=>198|0=>0|53=>199|37=>132|5=>5|173=>202|212=>223|51=>224|20=>20|213=>225|46=>140|232=>254|233=>255|n=>n,fun|17=>0|18=>4|19=>5|n=>n⟩
def Tryz.lays171:Go.Proofs.Lays.n171 prog lays171_ren:=by constructor<;>first|kernel_rfl|(intro w;kernel_rfl)|exact fun w=>rfl|(constructor<;>first|kernel_rfl|(intro w;kernel_rfl))
open Go.RowKit Go.Sort Go.Lib in
def Tryz.strconv_Itoa_small (i:Nat) (hi:i<100) (w:World):
 Calls prog 33 #[.int .i64 i] w fun e w'=>e= .returned (.string ⟨(Lib.decDigits i).toArray⟩)∧w'=w:=Any.strconv_Itoa_small lays171 i hi w
def Tryz.laysM173_ren:Go.Shelf.Ren:=⟨fun|173=>67|246=>108|283=>145|284=>146|285=>147|286=>148|129=>174|317=>173|318=>175|319=>176|320=>177|337=>194|338=>195|n=>n,fun|2=>2|3=>3|9=>9|4=>4|171=>198|0=>0|53=>199|37=>132|5=>5|173=>202|212=>223|51=>224|20=>20|213=>225|46=>140|232=>254|233=>255|n=>n,fun|17=>0|18=>4|19=>5|n=>n⟩
def Tryz.laysM173:Go.Proofs.LaysM.n173 prog laysM173_ren:=by constructor<;>first|kernel_rfl|(intro w;kernel_rfl)|exact fun w=>rfl|(constructor<;>first|kernel_rfl|(intro w;kernel_rfl))
open Go.RowKit Go.Sort Go.Lib in
def Tryz.strconv_FormatInt_10 (n:Int) (h0: -9223372036854775808<=n) (h1:n<=9223372036854775807) (w:World) (htab:Lib.TabIs prog w "internal/strconv.uint64pow10" .u64 Lib.pow10Tab):
 Calls prog 67 #[.int .i64 n,.int .i64 10] w fun e w'=>e= .returned (.string ⟨(Lib.itoa n).toArray⟩)∧∃k os,w'=grow (w.drewN k) os:=Any.strconv_FormatInt_10 laysM173 n h0 h1 w htab
def Tryz.lays144_ren:Go.Shelf.Ren:=⟨fun|144=>165|143=>112|219=>153|217=>178|225=>179|224=>180|267=>181|266=>196|314=>197|n=>n,fun|9=>9|4=>4|3=>3|5=>5|46=>140|146=>241|51=>224|n=>n,fun|1=>1|n=>n⟩
def Tryz.lays144:Go.Proofs.Lays.n144 prog lays144_ren:=by constructor<;>first|kernel_rfl|(intro w;kernel_rfl)|exact fun w=>rfl|(constructor<;>first|kernel_rfl|(intro w;kernel_rfl))
open Go.RowKit Go.Lib in
def Tryz.strings_Contains (s sub:ByteArray) (m:Int) (w:World) (hs:s.size<4294967281) (hm:w.cell? ⟨1,0,none⟩=some (.int .i64 m)):
 Calls prog 165 #[.string s,.string sub] w fun e w'=>e= .returned (.bool (Lib.contains s.data.toList sub.data.toList))∧w'=w:=Any.strings_Contains lays144 s sub m w hs hm
def Tryz.lays99_ren:Go.Shelf.Ren:=⟨fun|99=>155|206=>182|n=>n,fun|9=>9|4=>4|3=>3|n=>n,fun|n=>n⟩
def Tryz.lays99:Go.Proofs.Lays.n99 prog lays99_ren:=by constructor<;>first|kernel_rfl|(intro w;kernel_rfl)|exact fun w=>rfl|(constructor<;>first|kernel_rfl|(intro w;kernel_rfl))
open Go.RowKit Go.Lib in
def Tryz.strings_HasPrefix (s p:ByteArray) (w:World):
 Calls prog 155 #[.string s,.string p] w fun e w'=>e= .returned (.bool (Lib.hasPrefix s.data.toList p.data.toList))∧w'=w:=Any.strings_HasPrefix lays99 s p w
def Tryz.lays146_ren:Go.Shelf.Ren:=⟨fun|146=>73|221=>110|268=>150|138=>111|143=>112|195=>151|197=>113|218=>152|219=>153|260=>154|217=>178|225=>179|224=>180|267=>181|266=>196|314=>197|n=>n,fun|9=>9|31=>64|3=>3|4=>4|0=>0|105=>176|21=>21|5=>5|46=>140|119=>228|139=>231|138=>230|146=>241|51=>224|n=>n,fun|1=>1|3=>2|4=>3|n=>n⟩
def Tryz.lays146:Go.Proofs.Lays.n146 prog lays146_ren:=by constructor<;>first|kernel_rfl|(intro w;kernel_rfl)|exact fun w=>rfl|(constructor<;>first|kernel_rfl|(intro w;kernel_rfl))
open Go.RowKit Go.Lib in
def Tryz.strings_Split (s sep:ByteArray) (m:Int) (w:World) (hs:s.size<4294967281) (hm:w.cell? ⟨1,0,none⟩=some (.int .i64 m)) (h1:1<=sep.size):
 Calls prog 73 #[.string s,.string sep] w fun e w'=>
  e= .returned (.slice (some ⟨w.heap.size,0,none⟩) (Lib.countB s sep+1) (Lib.countB s sep+1))∧w'=w.alloc (.cells ((Lib.splitB sep 0 (Lib.countB s sep) s).map Value.string).toArray 9):=Any.strings_Split lays146 (by kernel_rfl) s sep m w hs hm h1
def Tryz.lays155_ren:Go.Shelf.Ren:=⟨fun|155=>39|154=>74|138=>111|165=>86|143=>112|166=>68|197=>113|169=>70|195=>151|218=>152|240=>109|241=>129|219=>153|260=>154|276=>149|277=>166|217=>178|225=>179|224=>180|267=>181|266=>196|314=>197|n=>n,fun|9=>9|3=>3|4=>4|72=>134|0=>0|76=>137|105=>176|21=>21|5=>5|70=>131|20=>20|37=>132|75=>136|127=>173|164=>204|46=>140|119=>228|139=>231|138=>230|146=>241|51=>224|80=>141|n=>n,fun|1=>1|3=>2|4=>3|n=>n⟩
def Tryz.lays155:Go.Proofs.Lays.n155 prog lays155_ren:=by constructor<;>first|kernel_rfl|(intro w;kernel_rfl)|exact fun w=>rfl|(constructor<;>first|kernel_rfl|(intro w;kernel_rfl))
def Tryz.Builder_Extra_155:Builder.Extra prog lays155_ren:={
 sizeBuilder:=by kernel_rfl
 liesBuilder:=by kernel_rfl
 t5:=underlying5
 a5:=isAgg5
 z5:=sizeOf5
 v5:=zeroValue5
 infoByte:=by kernel_rfl
 cellsByte:=by kernel_rfl
 sizeByte:=by kernel_rfl
 neB5:=by decide }
open Go.RowKit Go.Lib in
def Tryz.strings_ReplaceAll (s old new:ByteArray) (m:Int) (w:World) (hs:s.size<4294967281) (hm:w.cell? ⟨1,0,none⟩=some (.int .i64 m)) (h1:1<=old.size) (hlen:s.size+Lib.countB s old*new.size<=140737488355328):
 Calls prog 39 #[.string s,.string old,.string new] w fun e w'=>
  e= .returned (.string ⟨(Lib.replaceAll s.data.toList old.data.toList new.data.toList).toArray⟩)∧Below w.heap.size w w':=Any.strings_ReplaceAll lays155 Builder_Extra_155 s old new m w hs hm h1 hlen
open Go.RowKit Go.Lib in
def Tryz.strings_ToUpper_any (s:ByteArray) (w:World) (hs:s.size<35184372088832) (hV:CaseVar 6 caseA w) (hT:Lib.Utf8Tabs 2 3 w):
 Calls prog 164 #[.string s] w fun e w'=>e= .returned (.string ⟨(Lib.toUpperD s.data.toList).toArray⟩)∧Below w.heap.size w w':=Any.strings_ToUpper_any lays158 Builder_Extra_158 s w hs hV hT
end Go.Proofs
namespace Go.Proofs.YtlfbdcfnimnhiaaGreatDoor
open Go.Am Go.Ex Go.ChangeShapes Go.WideShapes Go.ChangeAt Go.RowKit
def own:ownKnob prog.godebug=none:=by kernel_rfl
def ZA:laidOutB prog=true:=by kernel_rfl
def tables {W:World} (hL:laidMet prog Rows.exprRoundUptoRow.laid W) (hSh:W.ShapedOpen prog):Go.Am.Tables W∧yY W:=by
 have hc:Lib.CaseVar 6 Lib.caseA W:=caseVar_of_reads (ρ:=lays158_ren) { lays158 with } lays158.t206 ⟨by kernel_rfl,by kernel_rfl,by kernel_rfl,by kernel_rfl,by kernel_rfl,by kernel_rfl⟩ (Lib.laidMet.reads hL (.tail _ (.tail _ (.tail _ (.tail _ (.tail _ (.tail _ (.head _))))))));have hu:Lib.Utf8Tabs 2 3 W:=utf8Tabs_of_reads (ρ:=lays158_ren) { lays158 with } ⟨by kernel_rfl,by kernel_rfl,by kernel_rfl,by kernel_rfl,by kernel_rfl,by kernel_rfl,by kernel_rfl⟩ (Lib.laidMet.reads hL (.tail _ (.tail _ (.tail _ (.tail _ (.tail _ (.tail _ (.tail _ (.head _))))))))) (Lib.laidMet.reads hL (.tail _ (.tail _ (.tail _ (.head _)))));have hp:Lib.TabIs prog W "internal/strconv.uint64pow10" .u64 Lib.pow10Tab:=by
  obtain⟨g',t',cs,fuel,p,hg',ht',hvar,hd⟩:=Lib.laidMet.reads hL (.tail _ (.tail _ (.head _)));have hg:prog.globalNamed "internal/strconv.uint64pow10"=some 0:=by kernel_rfl
  obtain rfl:=eS (hg.symm.trans hg');have hty:(prog.globals[0]?).map (·.type)=some 223:=by kernel_rfl
  obtain rfl:=eS (hty.symm.trans ht');have hd:DataW.trod (fun _=>()) prog W 0 (fun _=>true) false fuel 223 cs.toList=some (Lib.tabData .u64 Lib.pow10Tab,p):=hd;unfold Lib.TabIs;rw[hvar,<-Lib.cells_of_tab (n:=20) (e:=199) underlying223 underlying199 (by kernel_rfl) (by kernel_rfl) hd]
 obtain⟨m,hm⟩:∃m:Int,W.cell? ⟨1,0,none⟩=some (.int .i64 m):=Go.Proofs.cell_of_shapedOpen_int (zero:= #[.int .i64 0]) (t:=3) hSh (pK (by kernel_rfl)) (by kernel_rfl) rfl (by kernel_rfl) (by kernel_rfl) underlying3;have hg:prog.globalNamed "internal/strconv.uint64pow10"=some 0:=by kernel_rfl
 have hl:Lib.pow10Tab.length=20:=by decide
 refine⟨⟨⟨m,hm⟩,?_,hu.1,fun i j hi hj=>?_,fun i hi=>?_⟩,fun p hp'=>?_⟩
 ·obtain⟨R,o,cap,h1,h2⟩:=hc;refine⟨R,o,cap,h1,fun i j hi hj=>?_⟩;obtain⟨k0,k1,k2,k3,k4⟩:=h2 i hi
  match j,hj with
  |0,_=>exact k0
  |1,_=>exact k1
  |2,_=>exact k2
  |3,_=>exact k3
  |4,_=>exact k4
 ·match j,hj with
  |0,_=>exact(hu.2 i hi).1
  |1,_=>exact(hu.2 i hi).2
 ·have:=hp.cell hg i (by omega);rw[this];simp[Lib.pow10Tab,hi]
 ·obtain rfl:p=(0,20):=by simpa[Rw] using hp'
  unfold Lib.TabIs World.var? at hp;rw[hg] at hp;have hp:(match W.heap[0]? with|some (.cells cs _ _)=>some cs|_=>none)=_:=hp;split at hp
  ·rename_i cs ty fr he;refine⟨cs,ty,fr,he,?_⟩;rw[eS hp];simp[hl]
  ·cases hp
def MU {f:FuncId} {args:List V} {b:Bool} (h:cG prog f args (aY b)) {W:World} (hT:Go.Am.Tables W∧yY W) {cargs:Array Value} (hr:bZ (G0 W) args cargs.toList):
 Calls prog f cargs W fun e w'=>e= .returned (.bool b)∧Below W.heap.size W w':=by
 refine((h H0).2 (G0 W) W cargs (aD8 W hT.1 hT.2) hr).mono ?_;rintro e w' ⟨G',s',v,cv,rfl,hv,hx,_,rfl,rfl⟩;cases hv
 refine⟨rfl,hx.os,hx.tape,hx.output,hx.size,fun k hk=>hx.keep k hk fun hf=>?_⟩;rcases hf with hf|⟨g,x,v,h1,_⟩
 ·exact hf rfl
 ·cases h1
noncomputable def Rr (os:Os):World:=World.laidAll prog os Rows.exprRoundUptoRow.laid
def VC (os:Os) (args:Array Value):laidMet prog Rows.exprRoundUptoRow.laid ((Rr os).forCall (fun _ _=>0) ⟨#[],args,[]⟩).memory:=
 laidMet_laidAll args (by kernel_rfl) (by kernel_rfl)
end Go.Proofs.YtlfbdcfnimnhiaaGreatDoor
namespace Go.Am
section
variable {P:Program}
def BT {G:bC} {s:aL} {w:World} (h:cS G s w) {b:Nat} (hf:dL G s b):b<w.heap.size:=by
 rcases hf with hf|⟨g,x,v,k1,k2,k3⟩
 ·cases hx:s.box b with
  |none=>exact absurd hx hf
  |some y=>
   obtain⟨cs,ty⟩:=y;obtain⟨ccs,e,_⟩:=h.box b cs ty hx;exact(gZ.1 e).1
 ·obtain⟨e,sz⟩:=x;obtain⟨v',hv,ho⟩:=h.own g e sz k1;rw[k2] at hv;cases hv;rcases ho with⟨a,rfl⟩|⟨b',n,cap,cur,rfl,hb,_⟩
  ·cases a<;>simp[jT] at k3
  ·simp[jT] at k3;rw[<-k3];exact(gZ.1 hb).1
def cW.KE {n0:nS} {G G1:bC} {be:Nat->Option Nat} {st:St} {a:Act} {w w1:World} (hr:cW n0 G1 be st a w1) (hx:dD G st.s w G1 st.s w1) (x:TypeId×Nat) (v:Value) (hown:Vm G1 w1 x.1 x.2 v)
 (hb:∀b,jT v=some b->w.heap.size<=b) (hfr:∀b,jT v=some b->¬dL G1 st.s b) (hloc:∀t b,st.loc t≠none->be t=some b->jT v≠some b):
 ∃G' g,st.s.own g=none∧G'.om g=some v∧G1.Le G'∧dD G st.s w G' (st.s.cI g (some x)) w1∧cW n0 G' be { st with s:=st.s.cI g (some x) } a w1:=by
 obtain⟨N,hN⟩:=hr.hr.fin;obtain⟨hNo,hNs⟩:=hN N (dS _);have hle:G1.Le { G1 with om:=cA G1.om N (some v) }:=⟨fun _ _ _ h=>h,fun g' u hu=>by
  have:g'≠N:=fun e=>by subst e;rw[hNo] at hu;cases hu
  simpa[cA,this] using hu,fun _ _ hx=>hx⟩
 have old:∀g x' v',(st.s.cI N (some x)).own g=some x'->cA G1.om N (some v) g=some v'->(g=N∧v'=v)∨(g≠N∧st.s.own g=some x'∧G1.om g=some v'):=fun g x' v' k1 k2=>by
  by_cases e:g=N
  ·subst e;rw[eL] at k2;cases k2
   exact .inl ⟨rfl,rfl⟩
  ·simp only[aL.cI,dA _ _ _ _ e] at k1 k2;exact .inr ⟨e,k1,k2⟩
 have hfoot:∀b,dL { G1 with om:=cA G1.om N (some v) } (st.s.cI N (some x)) b->dL G1 st.s b∨jT v=some b:=fun b hf=>by
  rcases hf with hf|⟨g,x',v',k1,k2,k3⟩
  ·exact .inl (.inl hf)
  ·rcases old g x' v' k1 k2 with⟨_,rfl⟩|⟨_,j1,j2⟩
   ·exact .inr k3
   ·exact .inl (.inr ⟨g,x',v',j1,j2,k3⟩)
 have hNG:G.om N=none:=by
  cases hq:G.om N with
  |none=>rfl
  |some u=>have:=hx.le.o N u hq;rw[hNo] at this;cases this
 refine⟨{ G1 with om:=cA G1.om N (some v) },N,hNs,eL _ _ _,hle,⟨hx.le.trans hle,hx.size,hx.os,hx.tape,hx.output,hx.keep,fun b hf=>?_,hx.dO,fun g hg=>?_⟩,?_⟩
 ·rcases hfoot b hf with k|k
  ·exact hx.dL b k
  ·exact .inr (hb b k)
 ·by_cases e:g=N
  ·exact .inr (e ▸ hNG)
  ·simp only[aL.cI,dA _ _ _ _ e] at hg;exact hx.keys g hg
 ·have h:=hr.hr;refine⟨⟨h.dO,fun b cs ty hbx=>?_,fun g e sz hg=>?_,fun g g' y y' u u' b k1 k2 k3 k4 k5 k6=>?_,fun g y u b k1 k2 k3=>?_,⟨N+1,fun g hg=>?_⟩,h.ob,h.tab,h.siz⟩,hr.n,hr.df.mono hle,fun t=>(hr.tmps t).mono hle,fun t cs ty ht=>?_,hr.inj⟩
  ·obtain⟨ccs,k1,k2,k3⟩:=h.box b cs ty hbx;exact⟨ccs,k1,k2.mono hle,k3⟩
  ·by_cases e':g=N
   ·subst e';simp only[aL.cI,eL,iZ] at hg;subst hg;exact⟨v,eL _ _ _,hown⟩
   ·simp only[aL.cI,dA _ _ _ _ e'] at hg;obtain⟨u,hu,ho⟩:=h.own g e sz hg;exact⟨u,hle.o g u hu,ho⟩
  ·rcases old g y u k1 k3 with⟨e1,rfl⟩|⟨e1,j1,j2⟩
   ·rcases old g' y' u' k2 k4 with⟨e2,rfl⟩|⟨e2,j3,j4⟩
    ·rw[e1,e2]
    ·exact absurd (.inr ⟨g',y',u',j3,j4,k6⟩) (hfr b k5)
   ·rcases old g' y' u' k2 k4 with⟨e2,rfl⟩|⟨e2,j3,j4⟩
    ·exact absurd (.inr ⟨g,y,u,j1,j2,k5⟩) (hfr b k6)
    ·exact h.sep g g' y y' u u' b j1 j3 j2 j4 k5 k6
  ·rcases old g y u k1 k2 with⟨e1,rfl⟩|⟨e1,j1,j2⟩
   ·cases hq:st.s.box b with
    |none=>exact hq
    |some z=>exact absurd (.inl (by rw[hq];simp)) (hfr b k3)
   ·exact h.nobox g y u b j1 j2 k3
  ·have e:g≠N:=by omega
   simp only[aL.cI,dA _ _ _ _ e];exact hN g (by omega)
  ·obtain⟨b,k1,k2,⟨ccs,k3,k4,k5⟩,k6,k7⟩:=hr.loc t cs ty ht;refine⟨b,k1,k2,⟨ccs,k3,k4.mono hle,k5⟩,k6,fun hf=>?_⟩;rcases hfoot b hf with k|k
   ·exact k7 k
   ·exact hloc t b (by rw[ht];simp) k1 k
def zY {o:Oper} {t e:TypeId} {len:Nat} {parts:Array (Nat×Operand)} (ho:o.op= .buildSlice t len parts) {d de:iC} (hd:bT P t=some d) (hfs:d.shape= .slice e) (hde:bT P e=some de) {st:St} {cs:List V}
 (hpos:0<len*de.size) (hsmall:len*de.size<=2^24)
 (h:uI (fun i=>some (i*de.size,de.size)) ((List.range (len*de.size)).map fun i=>V.rK (de.zero.getD (i%de.size) undef)) (parts.toList.map fun x=>(x.1,st.eval x.2))=some cs) (hdst:fV o st):
 ∀ent a w Q,In ent st a w->o.wp P a w (jC ent fun st'=>∃g,st.s.own g=none∧st'={ st with s:=st.s.cI g (some (e,de.size)) }.put o.dst (.own g de.size (qG de.size len cs))) Q:=fun ent a w Q hin=>by
 obtain⟨G,be,hxx,hr⟩:=hin;obtain⟨i,u,z,hi,hu,hz,h1,h2,h3,h4,h5⟩:=gE hd;obtain⟨ie,ue,ze,hie,hue,hze,k1,k2,k3,k4,k5⟩:=gE hde;obtain⟨hzl,hz1⟩:=Ea hde;obtain rfl:=tZ (hfs.symm.trans h5);have hzs:ze.cells.size=de.size:=by rw[<-hzl,k3];simp
 have hp:0<de.size:=by rcases Mg de.size with e|e;rw[e] at hpos;simp at hpos;exact e
 have hrow:((Array.range (len*ie.size)).map (ze.cells[· %ze.cells.size]!)).toList=(List.range (len*de.size)).map fun i=>de.zero.getD (i%de.size) undef:=by
  rw[Array.toList_map,Array.toList_range,<-k1];apply Ha;intro i hi;have:i%de.size<ze.cells.size:=by rw[hzs];exact Nat.mod_lt _ hp
  rw[hzs,getElem!_pos ze.cells _ this,k3,fR,fH (by simpa using this)];simp
 have hzr:bZ G ((List.range (len*de.size)).map fun i=>V.rK (de.zero.getD (i%de.size) undef)) ((Array.range (len*ie.size)).map (ze.cells[· %ze.cells.size]!)).toList:=by
  rw[hrow];have:=Hl G ((List.range (len*de.size)).map fun i=>de.zero.getD (i%de.size) undef);rwa[List.map_map] at this
 have hone:∀x∈((Array.range (len*ie.size)).map (ze.cells[· %ze.cells.size]!)).toList,x.oneCell'=true:=by
  rw[hrow];intro x hx;obtain⟨i,hi,rfl⟩:=qB.1 hx;have:i%de.size<de.zero.length:=by rw[hzl];exact Nat.mod_lt _ hp
  rw[fR,fH this];exact hz1 _ (sM this)
 obtain⟨ccs,hf,hrep,hone'⟩:=My (G:=G) (be:=be) (loc:=st.loc) _ _ (parts.toList.map fun x=>(x.1,a.eval x.2)) _ _ _ h hzr hone (by simp) (Rk hr parts);have hlen:cs.length=len*de.size:=by rw[Qs _ _ _ _ h];simp
 have hy:=Xl hr ho hd hfs hde hpos hsmall h;obtain⟨hr',hx'⟩:=hr.Xf ccs e;have hrun:(execOp a.eval o).run P w= .ok (.value (.slice (some ⟨w.heap.size,0,none⟩) len len)) (w.alloc (.cells ccs e)):=by
  unfold execOp;have:=run_buildSlice (P:=P) w t e len (parts.map fun(i,x)=>(i,a.eval x)) ccs ie ze hu hie hze (by rw[<-k1];omega) (by rw[<-k1];omega) (by rw[<-k1] at*;simpa using hf);simp only[ho,Sem.run_bind,this,Result.andThen_ok,Sem.run_pure]
 obtain⟨c1,c2,c3⟩:=Rh de.size len cs hlen;have hml:len<=maxLen:=by
  have:len<=len*de.size:=Nat.le_mul_of_pos_right _ hp;unfold maxLen;omega
 have hl0:0<len:=by rcases Mg len with e|e;rw[e] at hpos;simp at hpos;exact e
 have hsz:ccs.size=len*de.size:=by rw[<-hlen,hrep.1];simp
 obtain⟨m,rfl⟩:∃m,len=m+1:=⟨len-1,by omega⟩;have hslice:bJ (G.freeze w.heap.size ccs) (.slice de.size (qG de.size (m+1) cs)) (.slice (some ⟨w.heap.size,0,none⟩) (m+1) (m+1)):=by
  have:=bJ.slice (G:=G.freeze w.heap.size ccs) de.size (qG de.size (m+1) cs) w.heap.size 0 (m+1) (fun k=>ccs.getD k undef) c1 (by omega) hml
   (fun k hk=>by rw[c2] at hk;simp[bC.freeze,oQ (show k<ccs.size by omega)])
   (fun i j c x hi hj=>by
    have hx:=c3 i j c x hi hj;have hlt:i*de.size+j<ccs.size:=by rw[hsz,<-hlen];exact(pB.1 hx).1
    have:=hrep.2 _ x (ccs[i*de.size+j]) hx (by rw[Array.getElem?_toList];exact oQ hlt);simp[hlt];exact this.mono hx'.le)
   (fun k hk=>by
    rw[c2] at hk;have hlt:k<ccs.size:=by omega
    simp[hlt];exact hone' _ (by simp))
  rw[c2] at this;exact this
 obtain⟨G',g,e1,e2,e3,e4,e5⟩:=cW.KE hr' hx' (e,de.size) (.slice (some ⟨w.heap.size,0,none⟩) (m+1) (m+1))
  (.inr ⟨w.heap.size,m+1,m,ccs,rfl,World.alloc_heap_new _ _,hsz,dS _,hml,fun k hk=>by
   have hk':(m+1)*de.size<=k:=hk;have:ccs.size<=k:=by omega
   simp[bC.freeze,this]⟩)
  (fun b hb=>by simp[jT] at hb;omega)
  (fun b hb hf=>by
   simp[jT] at hb;have:dL G st.s b:=by
    rcases hf with hf|⟨g,x,v,k1,k2,k3⟩
    ·exact .inl hf
    ·exact .inr ⟨g,x,v,k1,k2,k3⟩
   have:=BT hr.hr this;omega)
  (fun t b ht hb hv=>by
   simp[jT] at hv;cases hq:st.loc t with
   |none=>exact ht hq
   |some y=>
    obtain⟨cs',ty⟩:=y;obtain⟨b',j1,j2,⟨c',j3,_⟩,_⟩:=hr.loc t cs' ty hq;rw[hb] at j1;cases j1;have:=(gZ.1 j3).1;omega)
 unfold Oper.wp;rw[hrun];refine⟨_,⟨g,e1,rfl⟩,G',be,?_,e5.put o.dst (uZ (st:=st) hdst) (eE.kF (bJ.own g de.size _ _ (hslice.mono e3) e2))⟩;rw[uH];exact hxx.trans e4
end
end Go.Am
namespace Go.Proofs.YtlfbdcfnimnhiaaGreatDoor
open Go.Am
def zI:bT prog 1=some ⟨1,8,[.nilFunc],false,.func⟩:=by kernel_rfl
def ty2:bT prog 2=some ⟨1,8,[.int .i64 0],false,.int .i64⟩:=by kernel_rfl
def kQ:bT prog 3=some ⟨1,8,[.int .i64 0],false,.int .i64⟩:=by kernel_rfl
def Gj:bT prog 4=some ⟨1,1,[.bool false],false,.bool⟩:=by kernel_rfl
def ty5:bT prog 5=some ⟨1,1,[.int .u8 0],false,.int .u8⟩:=by kernel_rfl
def ty6:bT prog 6=some ⟨1,1,[.int .u8 0],false,.int .u8⟩:=by kernel_rfl
def ty7:bT prog 7=some ⟨4,24,[.int .i64 0,.int .i64 0,.bool false,.int .u8 0],true,.struct [(0,1,false),(1,1,false),(2,1,false),(3,1,false)]⟩:=by kernel_rfl
def Lz:bT prog 8=some ⟨4,24,[.int .i64 0,.int .i64 0,.bool false,.int .u8 0],true,.struct [(0,1,false),(1,1,false),(2,1,false),(3,1,false)]⟩:=by kernel_rfl
def rH:bT prog 9=some ⟨1,16,[.string bO],false,.string⟩:=by kernel_rfl
def aGc:bT prog 10=some ⟨1,16,[.string bO],false,.string⟩:=by kernel_rfl
def aGb:bT prog 13=some ⟨2,24,[.string bO,.int .u64 0],true,.struct [(0,1,false),(1,1,false)]⟩:=by kernel_rfl
def aGa:bT prog 14=some ⟨2,24,[.string bO,.int .u64 0],true,.struct [(0,1,false),(1,1,false)]⟩:=by kernel_rfl
def aF9:bT prog 15=some ⟨1,8,[.pointer none],false,.other⟩:=by kernel_rfl
def aF8:bT prog 16=some ⟨1,8,[.pointer none],false,.other⟩:=by kernel_rfl
def aF7:bT prog 17=some ⟨1,8,[.pointer none],false,.other⟩:=by kernel_rfl
def aF6:bT prog 18=some ⟨1,8,[.pointer none],true,.struct [(0,1,false)]⟩:=by kernel_rfl
def aF5:bT prog 19=some ⟨1,8,[.pointer none],true,.struct [(0,1,false)]⟩:=by kernel_rfl
def Ft:bT prog 20=some ⟨1,16,[.nilIface],false,.other⟩:=by kernel_rfl
def aF4:bT prog 21=some ⟨1,4,[.int .i32 0],false,.int .i32⟩:=by kernel_rfl
def HV:bT prog 22=some ⟨1,8,[.int .i64 0],false,.int .i64⟩:=by kernel_rfl
def aF3:bT prog 23=some ⟨1,8,[.int .i64 0],false,.int .i64⟩:=by kernel_rfl
def aF2:bT prog 24=some ⟨3,32,[.int .i64 0,.int .i64 0,.string bO],true,.struct [(0,1,false),(1,1,false),(2,1,false)]⟩:=by kernel_rfl
def aF1:bT prog 25=some ⟨3,32,[.int .i64 0,.int .i64 0,.string bO],true,.struct [(0,1,false),(1,1,false),(2,1,false)]⟩:=by kernel_rfl
def vX:bT prog 26=some ⟨1,24,[.slice none 0 0],false,.slice 29⟩:=by kernel_rfl
def Vw:bT prog 27=some ⟨1,24,[.slice none 0 0],false,.slice 42⟩:=by kernel_rfl
def nQ:bT prog 29=some ⟨10,136,[.int .i64 0,.bool false,.string bO,.string bO,.int .i64 0,.int .i64 0,.int .i64 0,.string bO,.slice none 0 0,.slice none 0 0],true,.struct [(0,1,false),(1,1,false),(2,1,false),(3,1,false),(4,1,false),(5,3,true),(8,1,false),(9,1,false)]⟩:=by kernel_rfl
def Kj:bT prog 30=some ⟨1,8,[.int .i64 0],false,.int .i64⟩:=by kernel_rfl
def aF0:bT prog 33=some ⟨1,8,[.nilFunc],false,.func⟩:=by kernel_rfl
def aFz:bT prog 36=some ⟨1,8,[.nilFunc],false,.func⟩:=by kernel_rfl
def aFy:bT prog 37=some ⟨1,8,[.nilFunc],false,.func⟩:=by kernel_rfl
def aFx:bT prog 38=some ⟨1,24,[.slice none 0 0],false,.slice 66⟩:=by kernel_rfl
def Vv:bT prog 39=some ⟨1,24,[.slice none 0 0],false,.slice 75⟩:=by kernel_rfl
def Vu:bT prog 40=some ⟨1,24,[.slice none 0 0],false,.slice 79⟩:=by kernel_rfl
def Ph:bT prog 42=some ⟨5,120,[.slice none 0 0,.slice none 0 0,.slice none 0 0,.slice none 0 0,.slice none 0 0],true,.struct [(0,1,false),(1,1,false),(2,1,false),(3,1,false),(4,1,false)]⟩:=by kernel_rfl
def aFw:bT prog 43=some ⟨1,8,[.nilFunc],false,.func⟩:=by kernel_rfl
def aFv:bT prog 46=some ⟨1,8,[.nilFunc],false,.func⟩:=by kernel_rfl
def aFu:bT prog 47=some ⟨1,8,[.nilFunc],false,.func⟩:=by kernel_rfl
def aFt:bT prog 49=some ⟨1,8,[.nilFunc],false,.func⟩:=by kernel_rfl
def aFs:bT prog 51=some ⟨1,8,[.nilFunc],false,.func⟩:=by kernel_rfl
def aFr:bT prog 52=some ⟨1,8,[.nilFunc],false,.func⟩:=by kernel_rfl
def Fs:bT prog 53=some ⟨1,8,[.pointer none],false,.other⟩:=by kernel_rfl
def aFq:bT prog 54=some ⟨1,8,[.nilFunc],false,.func⟩:=by kernel_rfl
def aFp:bT prog 64=some ⟨1,24,[.slice none 0 0],false,.slice 9⟩:=by kernel_rfl
def aFo:bT prog 66=some ⟨3,64,[.string bO,.slice none 0 0,.slice none 0 0],true,.struct [(0,1,false),(1,1,false),(2,1,false)]⟩:=by kernel_rfl
def aFn:bT prog 68=some ⟨1,8,[.nilFunc],false,.func⟩:=by kernel_rfl
def aFm:bT prog 70=some ⟨1,8,[.int .i64 0],false,.int .i64⟩:=by kernel_rfl
def Vt:bT prog 71=some ⟨1,24,[.slice none 0 0],false,.slice 114⟩:=by kernel_rfl
def Vs:bT prog 72=some ⟨1,24,[.slice none 0 0],false,.slice 119⟩:=by kernel_rfl
def Vr:bT prog 73=some ⟨1,24,[.slice none 0 0],false,.slice 26⟩:=by kernel_rfl
def Vq:bT prog 75=some ⟨8,160,[.int .i64 0,.bool false,.slice none 0 0,.slice none 0 0,.slice none 0 0,.slice none 0 0,.slice none 0 0,.slice none 0 0],true,.struct [(0,1,false),(1,1,false),(2,1,false),(3,1,false),(4,1,false),(5,1,false),(6,1,false),(7,1,false)]⟩:=by kernel_rfl
def aFl:bT prog 76=some ⟨1,8,[.nilFunc],false,.func⟩:=by kernel_rfl
def aFk:bT prog 77=some ⟨1,8,[.nilFunc],false,.func⟩:=by kernel_rfl
def Vp:bT prog 79=some ⟨11,144,[.int .i64 0,.bool false,.string bO,.string bO,.int .i64 0,.int .i64 0,.int .i64 0,.string bO,.slice none 0 0,.slice none 0 0,.bool false],true,.struct [(0,10,true),(10,1,false)]⟩:=by kernel_rfl
def aFj:bT prog 80=some ⟨1,8,[.nilFunc],false,.func⟩:=by kernel_rfl
def aFi:bT prog 82=some ⟨1,8,[.nilFunc],false,.func⟩:=by kernel_rfl
def aFh:bT prog 83=some ⟨1,8,[.nilFunc],false,.func⟩:=by kernel_rfl
def vW:bT prog 87=some ⟨1,24,[.slice none 0 0],false,.slice 96⟩:=by kernel_rfl
def Pg:bT prog 93=some ⟨3,40,[.slice none 0 0,.int .i64 0,.int .i64 0],true,.struct [(0,1,false),(1,1,false),(2,1,false)]⟩:=by kernel_rfl
def aFg:bT prog 94=some ⟨1,8,[.int .i64 0],false,.int .i64⟩:=by kernel_rfl
def aFf:bT prog 95=some ⟨3,32,[.int .i64 0,.int .i64 0,.string bO],true,.struct [(0,1,false),(1,1,false),(2,1,false)]⟩:=by kernel_rfl
def Fq:bT prog 96=some ⟨3,32,[.int .i64 0,.int .i64 0,.string bO],true,.struct [(0,1,false),(1,1,false),(2,1,false)]⟩:=by kernel_rfl
def aDc:bT prog 103=some ⟨1,8,[.nilFunc],false,.func⟩:=by kernel_rfl
def aDb:bT prog 104=some ⟨1,8,[.nilFunc],false,.func⟩:=by kernel_rfl
def Uk:bT prog 114=some ⟨4,64,[.bool false,.string bO,.slice none 0 0,.string bO],true,.struct [(0,1,false),(1,1,false),(2,1,false),(3,1,false)]⟩:=by kernel_rfl
def aDa:bT prog 115=some ⟨1,8,[.nilFunc],false,.func⟩:=by kernel_rfl
def aC9:bT prog 117=some ⟨1,8,[.int .i64 0],false,.int .i64⟩:=by kernel_rfl
def Uj:bT prog 119=some ⟨5,88,[.int .i64 0,.string bO,.slice none 0 0,.string bO,.slice none 0 0],true,.struct [(0,1,false),(1,1,false),(2,1,false),(3,1,false),(4,1,false)]⟩:=by kernel_rfl
def aC8:bT prog 120=some ⟨1,8,[.nilFunc],false,.func⟩:=by kernel_rfl
def aC7:bT prog 122=some ⟨1,8,[.nilFunc],false,.func⟩:=by kernel_rfl
def aC6:bT prog 124=some ⟨3,24,[.int .i64 0,.int .i64 0,.bool false],true,.struct [(0,1,false),(1,1,false),(2,1,false)]⟩:=by kernel_rfl
def aC5:bT prog 132=some ⟨1,24,[.slice none 0 0],false,.slice 5⟩:=by kernel_rfl
def aC4:bT prog 133=some ⟨2,32,[.pointer none,.slice none 0 0],true,.struct [(0,1,false),(1,1,false)]⟩:=by kernel_rfl
def aC3:bT prog 134=some ⟨2,32,[.pointer none,.slice none 0 0],true,.struct [(0,1,false),(1,1,false)]⟩:=by kernel_rfl
def aC2:bT prog 136=some ⟨1,16,[.nilIface],false,.other⟩:=by kernel_rfl
def aC1:bT prog 140=some ⟨1,8,[.int .u64 0],false,.int .u64⟩:=by kernel_rfl
def aC0:bT prog 141=some ⟨1,8,[.nilFunc],false,.func⟩:=by kernel_rfl
def aCz:bT prog 142=some ⟨1,8,[.nilFunc],false,.func⟩:=by kernel_rfl
def aCy:bT prog 143=some ⟨1,8,[.nilFunc],false,.func⟩:=by kernel_rfl
def Jj:bT prog 147=some ⟨1,8,[.nilFunc],false,.func⟩:=by kernel_rfl
def Om:bT prog 149=some ⟨1,8,[.int .i64 0],true,.struct [(0,1,false)]⟩:=by kernel_rfl
def aCx:bT prog 157=some ⟨1,24,[.slice none 0 0],false,.slice 64⟩:=by kernel_rfl
def aCw:bT prog 162=some ⟨1,8,[.nilFunc],false,.func⟩:=by kernel_rfl
def aCv:bT prog 164=some ⟨1,8,[.nilFunc],false,.func⟩:=by kernel_rfl
def aCu:bT prog 168=some ⟨1,8,[.nilFunc],false,.func⟩:=by kernel_rfl
def aCt:bT prog 175=some ⟨1,8,[.nilFunc],false,.func⟩:=by kernel_rfl
def aCs:bT prog 178=some ⟨1,8,[.nilFunc],false,.func⟩:=by kernel_rfl
def aCr:bT prog 183=some ⟨1,8,[.nilFunc],false,.func⟩:=by kernel_rfl
def aCq:bT prog 191=some ⟨1,8,[.nilFunc],false,.func⟩:=by kernel_rfl
def aCp:bT prog 197=some ⟨1,8,[.int .i64 0],false,.int .i64⟩:=by kernel_rfl
def aCo:bT prog 199=some ⟨1,8,[.int .u64 0],false,.int .u64⟩:=by kernel_rfl
def aCn:bT prog 209=some ⟨1,8,[.nilFunc],false,.func⟩:=by kernel_rfl
def Ol:bT prog 212=some ⟨1,24,[.slice none 0 0],false,.slice 20⟩:=by kernel_rfl
def aCm:bT prog 215=some ⟨1,8,[.nilFunc],false,.func⟩:=by kernel_rfl
def aCl:bT prog 217=some ⟨1,8,[.nilFunc],false,.func⟩:=by kernel_rfl
def aCk:bT prog 281=some ⟨1,8,[.int .i64 0],false,.int .i64⟩:=by kernel_rfl
end Go.Proofs.YtlfbdcfnimnhiaaGreatDoor
namespace Go.Proofs.YtlfbdcfnimnhiaaGreatDoor.Ex
open Go.Am Go.Ex
def Rj {G:bC}:∀{vs l:List Value},bZ G (vs.map V.base) l->l=vs
 |[],l,h=>h.Bd
 |v::vs,l,h=>by
  obtain⟨v',l',rfl,h1,h2⟩:=bZ.sJ (by simpa using h);cases h1
  rw[Rj h2]
def dP.below {w w':World} (h:Go.RowKit.Below w.heap.size w w'):dP w w':=⟨h.size,h.os,h.tape,h.output,fun b hb=>h.block b hb⟩
def Bq {f:FuncId} (vs:List Value) (r:Value) (hf:∃fn,prog.funcs[f]? =some fn∧fn.body.isNone=false∧(fn.name == "runtime.NumGoroutine")=false) (h:∀w,Go.Am.Tables w->yY w->Calls prog f vs.toArray w fun e w'=>e= .returned r∧dP w w'):cG prog f (vs.map V.base) (.base r):=by
 intro s;refine⟨hf,fun G w cargs hh hargs=>?_⟩;obtain rfl:cargs=vs.toArray:=by rw[<-xV];exact Rj hargs
 refine(h w (hh.tab w hh.dO) hh.siz).mono ?_;rintro e w' ⟨rfl,hm⟩;exact⟨G,s,.base r,r,rfl,.base r,dD.more hm,hh.more hm,rfl,rfl⟩
def dP.same (w:World):dP w w:=⟨dS _,rfl,rfl,rfl,fun _ _=>rfl⟩
def Gh (i:Nat):List UInt8:=if i<10 then [UInt8.ofNat (48+i)] else [UInt8.ofNat (48+i/10),UInt8.ofNat (48+i%10)]
def DJ (i:Nat) (hi:i<100):Lib.decDigits i=Gh i:=by
 unfold Lib.decDigits Gh;split
 ·rfl
 ·unfold Lib.decDigits;rw[dif_pos (by omega)];rfl
def YJ {w:World} (ht:Go.Am.Tables w) (hz:yY w):Lib.TabIs prog w "internal/strconv.uint64pow10" .u64 Lib.pow10Tab:=by
 obtain⟨cs,ty,fr,hb,hs⟩:=hz (0,20) (by simp[Rw]);have hp:=ht.2.2.2.2;have hg:prog.globalNamed "internal/strconv.uint64pow10"=some 0:=by kernel_rfl
 unfold Lib.TabIs World.var?;rw[hg];show(match w.heap[0]? with|some (.cells cs _ _)=>some cs|_=>none)=_;rw[hb];refine congrArg some ?_;have hl:Lib.pow10Tab.length=20:=by decide
 refine Array.ext (by simp[hs,hl]) fun i h1 h2=>?_;have h3:=hp i (by omega);rw[Lib.cell_of_heap hb] at h3;simp only[kH,oQ h1,iZ] at h3;rw[h3];simp only[List.getElem_toArray,List.getElem_map];simp[Lib.pow10Tab]
def VS {w:World} (ht:Go.Am.Tables w):Lib.CaseVar 6 Lib.caseA w:=by
 obtain⟨R,o,cap,h1,h2⟩:=ht.2.1;exact⟨R,o,cap,h1,fun i hi=>⟨h2 i 0 hi (by omega),h2 i 1 hi (by omega),h2 i 2 hi (by omega),h2 i 3 hi (by omega),h2 i 4 hi (by omega)⟩⟩
def WI {w:World} (ht:Go.Am.Tables w):Lib.Utf8Tabs 2 3 w:=⟨ht.2.2.1,fun i hi=>⟨ht.2.2.2.1 i 0 hi (by omega),ht.2.2.2.1 i 1 hi (by omega)⟩⟩
def Lf (x0:Int) (x1:Int):Option ByteArray:=aR (-9223372036854775808<=x0∧x0<=9223372036854775807∧x1=10) (some ⟨(Lib.itoa x0).toArray⟩)
def dP.grow (w:World) (k:Nat) (os:Array Obj):dP w (Go.Sort.grow (w.drewN k) os):=by
 refine⟨by simp[Go.Sort.grow],rfl,rfl,rfl,fun b hb=>?_⟩;show(w.heap++os)[b]? =_;rw[Xi hb]
def N67 (x0:Int) (x1:Int) (r:ByteArray) (h:Lf x0 x1=some r):cG prog 67 [aI x0,aI x1] (aM r):=by
 unfold Lf at h;obtain⟨⟨h1,h2,h3⟩,h'⟩:=aV h;clear h;subst h3;cases h'
 refine Bq [.int .i64 x0,.int .i64 10] _ ⟨_,func67,rfl,by decide⟩ fun w ht hz=>?_;exact(strconv_FormatInt_10 x0 h1 h2 w (YJ ht hz)).mono fun e w' ⟨e1,k,os,e2⟩=>⟨e1,e2 ▸ dP.grow w k os⟩
def Pz (x0:Int):Option ByteArray:=aR (0<=x0∧x0<100) (some ⟨(Gh x0.toNat).toArray⟩)
def N33 (x0:Int) (r:ByteArray) (h:Pz x0=some r):cG prog 33 [aI x0] (aM r):=by
 unfold Pz at h;obtain⟨⟨h1,h2⟩,h⟩:=aV h;cases h
 refine Bq [.int .i64 x0] _ ⟨_,func33,rfl,by decide⟩ fun w ht hz=>?_;have:=strconv_Itoa_small x0.toNat (by omega) w;rw[show(x0.toNat:Int)=x0 by omega,DJ _ (by omega)] at this;exact this.mono fun e w' ⟨e1,e2⟩=>⟨e1,e2 ▸ dP.same w⟩
def Dn (x0 x1 x2:ByteArray):Option ByteArray:=aR (x0.size<4294967281∧1<=x1.size∧x0.size+Lib.countB x0 x1*x2.size<=140737488355328) (some ⟨(Lib.replaceAll x0.data.toList x1.data.toList x2.data.toList).toArray⟩)
def JF (x0:ByteArray) (x1:ByteArray) (x2:ByteArray) (r:ByteArray) (h:Dn x0 x1 x2=some r):cG prog 39 [aM x0,aM x1,aM x2] (aM r):=by
 unfold Dn at h;obtain⟨⟨h1,h2,h3⟩,h⟩:=aV h;cases h
 refine Bq [.string x0,.string x1,.string x2] _ ⟨_,func39,rfl,by decide⟩ fun w ⟨⟨m,hm⟩,_⟩ hz=>?_;exact(strings_ReplaceAll x0 x1 x2 m w h1 hm h2 h3).mono fun e w' ⟨e1,e2⟩=>⟨e1,dP.below e2⟩
def Gf (x0:ByteArray):Option ByteArray:=if x0.data.toList.all (fun b=>decide (b.toNat<128))=true then aR (x0.size<=140737488355328) (some ⟨(Lib.toUpperA x0.data.toList).toArray⟩) else aR (x0.size<35184372088832) (some ⟨(Lib.toUpperD x0.data.toList).toArray⟩)
def aHm (x0:ByteArray) (r:ByteArray) (h:Gf x0=some r):cG prog 164 [aM x0] (aM r):=by
 unfold Gf at h;refine Bq [.string x0] _ ⟨_,func164,rfl,by decide⟩ fun w ht hz=>?_;split at h
 ·rename_i h2;obtain⟨h1,h⟩:=aV h;cases h
  exact(strings_ToUpper_ascii x0 w h1 fun j b hb=>by
   have:=lY.1 h2 b (Dv hb);simpa using this).mono fun e w' ⟨e1,e2⟩=>⟨e1,dP.below e2⟩
 ·obtain⟨h1,h⟩:=aV h;cases h
  exact(strings_ToUpper_any x0 w h1 (VS ht) (WI ht)).mono fun e w' ⟨e1,e2⟩=>⟨e1,dP.below e2⟩
def Pp (x0 x1:ByteArray):Option Bool:=aR (x0.size<4294967281) (some (Lib.contains x0.data.toList x1.data.toList))
def aHl (x0:ByteArray) (x1:ByteArray) (r:Bool) (h:Pp x0 x1=some r):cG prog 165 [aM x0,aM x1] (aY r):=by
 unfold Pp at h;obtain⟨h1,h⟩:=aV h;cases h
 refine Bq [.string x0,.string x1] _ ⟨_,func165,rfl,by decide⟩ fun w ⟨⟨m,hm⟩,_⟩ hz=>?_;exact(strings_Contains x0 x1 m w h1 hm).mono fun e w' ⟨e1,e2⟩=>⟨e1,e2 ▸ dP.same w⟩
def n155 (x0 x1:ByteArray):Option Bool:=some (Lib.hasPrefix x0.data.toList x1.data.toList)
def aHn (x0:ByteArray) (x1:ByteArray) (r:Bool) (h:n155 x0 x1=some r):cG prog 155 [aM x0,aM x1] (aY r):=by
 unfold n155 at h;cases h
 refine Bq [.string x0,.string x1] _ ⟨_,func155,rfl,by decide⟩ fun w ht hz=>?_;exact(strings_HasPrefix x0 x1 w).mono fun e w' ⟨e1,e2⟩=>⟨e1,e2 ▸ dP.same w⟩
def n156 (x0:ByteArray) (x1:Int):Option Int:=some (Lib.indexByte x0.data.toList x1.toNat.toUInt8)
def Wm (x0:ByteArray) (x1:Int) (r:Int) (h:n156 x0 x1=some r):cG prog 156 [aM x0,.base (.int .u8 x1)] (aI r):=by
 unfold n156 at h;cases h
 refine Bq [.string x0,.int .u8 x1] _ ⟨_,func156,rfl,by decide⟩ fun w ht hz=>?_;exact(strings_IndexByte x0 x1 w).mono fun e w' ⟨e1,e2⟩=>⟨e1,e2 ▸ dP.same w⟩
def QS {G:bC} {b cap:Nat} {l:List ByteArray} (hF:∀k (hk:k<l.length),G.F b k=some (.string l[k])) (hc:l.length<=cap) (hm:cap<=maxLen):bJ G (.slice 1 (l.map fun x=>[aM x])) (.slice (some ⟨b,0,none⟩) l.length cap):=by
 have e:=bJ.slice (G:=G) 1 (l.map fun x=>[aM x]) b 0 cap (fun k=>.string (l.getD k bO)) (fun cs hcs=>by
  obtain⟨x,_,rfl⟩:=qB.1 hcs;rfl) (by simpa using hc) hm (fun k hk=>by
  simp only[gI,Nat.mul_one] at hk;rw[kH,hF k hk];simp[fR,hk]) (fun i j cs c hi hj=>by
  rw[qQ] at hi;cases hx:l[i]? with
  |none=>rw[hx] at hi;cases hi
  |some x=>
   rw[hx] at hi;cases hi;cases j with
   |succ j=>cases hj
   |zero=>
    cases hj
    simp only[Nat.mul_one,Nat.add_zero,fR,hx,nH];exact .base _) (fun k hk=>rfl)
 simpa using e
def Wp (x0 x1:ByteArray):Option (List ByteArray):=aR (x0.size<4294967281∧1<=x1.size∧(Lib.splitB x1 0 (Lib.countB x0 x1) x0).length=Lib.countB x0 x1+1∧Lib.countB x0 x1+1<=maxLen) (some (Lib.splitB x1 0 (Lib.countB x0 x1) x0))
def N73 (x0:ByteArray) (x1:ByteArray) (r:(List ByteArray)) (h:Wp x0 x1=some r):cG prog 73 [aM x0,aM x1] (.slice 1 (List.map (fun x=>[aM x]) r)):=by
 unfold Wp at h;obtain⟨⟨h1,h2,h3,h4⟩,h⟩:=aV h;cases h
 intro s;refine⟨⟨_,func73,rfl,by decide⟩,fun G w cargs hh hargs=>?_⟩;obtain rfl:cargs= #[.string x0,.string x1]:=by rw[<-xV];exact Rj (vs:=[.string x0,.string x1]) hargs
 obtain⟨⟨m,hm⟩,_⟩:=hh.tab w hh.dO;refine(strings_Split x0 x1 m w h1 hm h2).mono ?_;rintro e w' ⟨rfl,rfl⟩;generalize hcc:((Lib.splitB x1 0 (Lib.countB x0 x1) x0).map Value.string).toArray=ccs;have hF:∀o,G.F w.heap.size o=none:=fun o=>by
  cases hx:G.F w.heap.size o with
  |none=>rfl
  |some v=>have:=hh.zO (b:=w.heap.size) (o:=o) (by rw[hx];simp);omega
 have hf:¬dL G s w.heap.size:=fun hf=>by have:=hh.zM hf;omega
 have hma:=dP.alloc w (.cells ccs 9);refine⟨G.freeze w.heap.size ccs,s,_,_,rfl,?_,?_,(hh.more hma).freeze (heap_alloc_new w _) hf hF,rfl,rfl⟩
 ·rw[<-h3];refine QS (fun k hk=>?_) (dS _) (by rw[h3];exact h4);simp[bC.freeze,<-hcc,hk]
 ·refine⟨bC.zN ccs hF,hma.size,hma.os,hma.tape,hma.output,fun b hb _=>hma.keep b hb,fun b hb=>.inl hb,fun b o hb=>?_,fun _ h=>.inl h⟩;by_cases e':b=w.heap.size
  ·exact .inr (.inr (by omega))
  ·simp[bC.freeze,e'] at hb;exact .inl hb
def uR (x0:List ByteArray) (x1:ByteArray):Option ByteArray:=aR (x0.length<=140737488355328∧(Lib.join (x0.map (·.data.toList)) x1.data.toList).length<=140737488355328) (some ⟨(Lib.join (x0.map (·.data.toList)) x1.data.toList).toArray⟩)
def Wt (x0:(List ByteArray)) (x1:ByteArray) (r:ByteArray) (h:uR x0 x1=some r):cG prog 45 [.slice 1 (List.map (fun x=>[aM x]) x0),aM x1] (aM r):=by
 unfold uR at h;obtain⟨⟨h1,h2⟩,h⟩:=aV h;cases h
 intro s;refine⟨⟨_,func45,rfl,by decide⟩,fun G w cargs hh hargs=>?_⟩;obtain⟨v,l1,e1,hv,hl1⟩:=hargs.sJ;obtain⟨v2,l2,rfl,hv2,hl2⟩:=hl1.sJ;obtain rfl:=hl2.Bd;cases hv2
 obtain rfl:cargs= #[v,.string x1]:=by rw[<-xV,e1]
 have fin:Calls prog 45 #[v,.string x1] w (fun e w'=>e= .returned (.string ⟨(Lib.join (x0.map (·.data.toList)) x1.data.toList).toArray⟩)∧dP w w'):=by
  generalize he:List.map (fun x=>[aM x]) x0=es at hv;cases hv with
  |slice _ _ b o cap cells q1 q2 q3 q4 q5 q6=>
   have hl:es.length=x0.length:=by rw[<-he,gI]
   rw[hl] at q2 q4 q6 ⊢;by_cases h0:x0.length=0
   ·obtain rfl:=jU h0;exact(strings_Join_none (some ⟨b,o,none⟩) cap x1 w).mono fun e w' ⟨e1,e2⟩=>⟨by rw[e1];rfl,e2 ▸ dP.same w⟩
   ·refine(strings_Join b o cap x0 x1 w (fun j x hj=>?_) ?_ h1 q2 h2).mono fun e w' ⟨e1,e2⟩=>⟨e1,dP.below e2⟩
    ·have hjl:=(pB.1 hj).1;have hc:=hh.dO _ _ _ (q4 j (by omega));have hr:=q5 j 0 [aM x] (aM x) (by rw[<-he,qQ,hj];rfl) rfl;rw[hc];rw[Nat.mul_one,Nat.add_zero] at hr;generalize cells j=cj at hr;cases hr;rfl
    ·exact hh.zO (o:=o+0) (by rw[q4 0 (by omega)];simp)
  |slice0=>
   obtain rfl:x0=[]:=by cases x0 with|nil=>rfl|cons=>cases he
   exact(strings_Join_none _ _ x1 w).mono fun e w' ⟨e1,e2⟩=>⟨by rw[e1];rfl,e2 ▸ dP.same w⟩
 refine fin.mono ?_;rintro e w' ⟨rfl,hm⟩;exact⟨G,s,_,_,rfl,.base _,dD.more hm,hh.more hm,rfl,rfl⟩
end Go.Proofs.YtlfbdcfnimnhiaaGreatDoor.Ex
namespace Go.Proofs.YtlfbdcfnimnhiaaGreatDoor
open Go.Am
def mixed:prog.follows .mixedOrders=true:=by kernel_rfl
def Jk:Pr prog 25=some [1,1,2]:=by kernel_rfl
end Go.Proofs.YtlfbdcfnimnhiaaGreatDoor
namespace Go.Am
section
variable {P:Program}
def o8 (Q:Exit->St->Prop):Exit->St->Prop
 | .goto _,_=>False
 |e,st=>Q e st
def aB.scope {c:Code} {Q:Exit->St->Prop} {st:St} (h:aB P c (o8 Q) st):aB P (.scope c) Q st:=fun e a w hin=>
 wp_scope_straight (wp_mono (h e a w hin) fun x a' w' h=>by
  rcases h with⟨st',h1,h2⟩|hp
  ·cases x<;>first|exact .inl ⟨st',h1,h2⟩|exact h1.elim
  ·cases x<;>first|exact hp.goto.elim|exact .inr hp)
end
section
variable {P:Program}
def vP {X α:Type} (b:X->α->Option X):List α->X->Option X
 |[],q=>some q
 |x::l,q=>match b q x with
  |some q'=>vP b l q'
  |none=>none
def Vk (P:Program) {α:Type} (f:FuncId) (caps:List V) (enc:α->V) (xs:List α):Prop:=
 ∀(lo:bC) (l:Nat) (s:aL) (Hs:List α->aL->Prop),Hs [] s->(∀pre x s,Hs pre s->(∃suf,xs=pre++x::suf)->wW P lo l [enc x] s fun v s'=>v= .base (.bool true)∧Hs (pre++[x]) s')->
  Iq P lo f ([lP l]++caps) s fun _ s'=>Hs xs s'
def FB (P:Program) (all:Array Oper) (t:OT) (K:St->Prop):St->Prop:=fun st=>pE P all t st K
def fZ {all:Array Oper} {i:Nat} {t:OT} {st:St} {K:St->Prop}:pE P all (.op i t) st K=match all[i]? with
 |some o=>rS P all o st (FB P all t K)
 |none=>False:=rfl
def fY {all:Array Oper} {t:OT} {st:St} {K:St->Prop}:FB P all t K st=pE P all t st K:=rfl
def fX {all:Array Oper} {st:St} {K:St->Prop}:pE P all .fin st K=K st:=rfl
def sQ {all:Array Oper} {a b:OT} {st:St} {K:St->Prop} (h1:pE P all a st K) (h2:pE P all b st K):pE P all (.both a b) st K:=⟨h1,h2⟩
def WD (P:Program) (E:Nat->V) (n p:Nat) (v:V) (s s1:aL) (opsA opsB:Array Oper) (dB:Option OT):Prop:=
 ∀K1:St->Prop,
  (∀st1 t5 cs ty,st1.loc=cA (fun _=>none) t5 (some (cs,ty))->st1.ds=[]->st1.lo=bC.bot->
   (∀b,st1.s.box b=none->∀K2:St->Prop,(∀st2,st2.s.le s1->K2 st2)->zG P dB opsB (st1.cM t5 b (cs,ty)) K2)->K1 st1)->
  gK P opsA opsA.toList { E:=cA E p v,loc:=fun _=>none,s:=s,n:=n } K1
def aB.KF {X α:Type} {Q:Exit->St->Prop} {st:St} {tf p ida ib idb:Nat} {opsA opsB:Array Oper} {f:FuncId} {caps:List V} {enc:α->V} {xs:List α} (hseq:Vk P f caps enc xs)
 {b:X->α->Option X} {q0 q1:X} (h:vP b xs q0=some q1) (T:X->aL) (dB:Option OT) (hs:st.s=T q0)
 (hE:st.E tf= .func f [] caps) (hloc:st.loc=fun _=>none) (hp:p<st.n) (hA:oS opsA=true) (hB:oS opsB=true)
 (round:∀x q q',b q x=some q'->WD P st.E st.n p (enc x) (T q) (T q') opsA opsB dB)
 (hrest:∀D,Q .normal { E:=st.E,loc:=fun _=>none,s:=T q1,n:=st.n,ds:=uP D::st.ds,lo:=st.lo,pp:=st.pp }):
 aB P (.rangeFunc (.tmp tf) #[p] (.region ida opsA false) (.block ib (.region idb opsB dB.isSome))) Q st:=by
 have step:∀(pre:List α) (x:α) (suf:List α) (q:X),xs=pre++x::suf->vP b (x::suf) q=some q1->∃q',b q x=some q'∧vP b suf q'=some q1:=fun pre x suf q _ h=>by
  simp only[vP] at h;cases hx:b q x with
  |none=>rw[hx] at h;cases h
  |some q'=>rw[hx] at h;exact⟨q',rfl,h⟩
 refine aB.rangeFunc enc (fun pre s=>∃q,s=T q∧∀suf,xs=pre++suf->vP b suf q=some q1) (fun l=>l=xs) (fun pre x=>∃suf,xs=pre++x::suf) hE hloc hp hA hB ?_ ?_ ?_
 ·rintro pre x s ⟨q,rfl,hq⟩ ⟨suf,hx⟩ K1 hK1;obtain⟨q',hb,hr⟩:=step pre x suf q hx (hq _ hx);refine round x q q' hb K1 fun st1 t5 cs ty h1 h2 h3 h4=>hK1 st1 t5 cs ty h1 h2 h3 fun b' hb' K2 hK2=>h4 b' hb' K2 fun st2 hle=>hK2 st2 _ hle ⟨q',rfl,fun suf' hx'=>?_⟩;have e:suf'=suf:=by
   rw[hx'] at hx;simpa using hx
  rw[e];exact hr
 ·intro lo l hy;have h':=hseq lo l st.s _ ⟨q0,hs,fun suf hx=>by
   simp only[iY] at hx;rw[<-hx];exact h⟩ hy
  refine⟨h'.1,fun G w cargs g1 g2 g3=>(h'.2 G w cargs g1 g2 g3).mono ?_⟩;rintro e w' ⟨G',s',v,cv,k1,k2,k3,k4,k5⟩;exact⟨G',s',v,cv,k1,k2,k3,k4,xs,rfl,k5⟩
 ·rintro l s' D rfl ⟨q,rfl,hq⟩;have:=hq [] (by simp);simp only[vP,iZ] at this;subst this;exact hrest D
def nR (D:List Deferred) (L:List (Nat×V)) (B:List (Nat×(List V×TypeId))) (s:aL) (n:Nat):St:={ E:=nT L,loc:=lX B,s:=s,n:=n,ds:=D }
def Sv {D:List Deferred} {L:List (Nat×V)} {B:List (Nat×(List V×TypeId))} {s:aL} {n:Nat} {st:St} (h1:jK L st.E) (h2:gB B L) (h3:jL B st.loc) (h4:st.s.le s) (h5:n=st.n) (h6:st.ds=D:=by rfl) (h7:st.pp=kW:=by rfl):st.le (nR D L B s n) where
 E:=Jb h1
 loc:=fun t=>(Il h3 t).imp id fun e=>⟨e,fun t' off h=>El h2 t' t off h e⟩
 box:=h4.box
 own:=h4.own
 n:=h5
 ds:=h6.symm
 lo:=bC.none_le _
 pp:=h7.symm
def dJ {h:aL} {b:Nat} {x:List V×TypeId}:(h.aU b x).box b=some x:=eL _ _ _
def cU {h:aL} {b b':Nat} {x:List V×TypeId} (hb:b'≠b):(h.aU b x).box b'=h.box b':=dA _ _ _ _ hb
def wP {h:aL} {b:Nat} {x y:List V×TypeId}:(h.aU b x).aU b y=h.aU b y:=by
 unfold aL.aU;congr 1;funext k;simp only[cA];split<;>rfl
def Mm {h:aL} {b:Nat} {x:List V×TypeId} (hb:h.box b=some x):h.aU b x=h:=by
 unfold aL.aU;cases h with
 |mk box own=>
  congr 1;funext k;simp only[cA];split
  ·rename_i e;subst e;exact hb.symm
  ·rfl
def aL.le.bx {a b:aL} (h:a.le b) (k:Nat) (x:List V×TypeId):(a.aU k x).le (b.aU k x):=
 ⟨fun j=>by
  by_cases e:j=k
  ·subst e;exact .inl (by rw[dJ,dJ])
  ·rw[cU e,cU e];exact h.box j,h.own⟩
def aL.le.qP {a:aL} {k:Nat} (h:a.box k=none) (x:List V×TypeId):(a.aU k x).le a:=
 ⟨fun j=>by
  by_cases e:j=k
  ·subst e;exact .inr h
  ·exact .inl (cU e).symm,fun _=>.inl rfl⟩
def sX (P:Program) (f:FuncId) (a:Nat->List V) (v:V) (X X':List V×TypeId):Prop:=∀s b,s.box b=some X->mY P f (a b) s fun v' s'=>v'=v∧s'=s.aU b X'
def uW {f:FuncId} {a:Nat->List V} {v:V} {X X':List V×TypeId} (h:∀(s:aL) b,mY P f (a b) (s.aU b X) fun v' s'=>v'=v∧s'=s.aU b X'):sX P f a v X X':=fun s b hb=>by
 have:=h s b;rwa[Mm hb] at this
def Ba:List (List V)->List (List V)->Prop
 |[],[]=>True
 |c::l,c'::l'=>iX c c'∧Ba l l'
 |_,_=>False
def iX.len:∀{l l':List V},iX l l'->l.length=l'.length
 |[],[],_=>rfl
 |[],_::_,h=>h.elim
 |_::_,[],h=>h.elim
 |_::l,_::l',h=>by simp[iX.len h.2]
def iX.get:∀{l l':List V},iX l l'->∀{j:Nat} {c':V},l'[j]? =some c'->∃c,l[j]? =some c∧Wk c c'
 |[],[],_,j,c',e=>by simp at e
 |[],_::_,h,_,_,_=>h.elim
 |_::_,[],h,_,_,_=>h.elim
 |x::l,x'::l',h,0,c',e=>by simp at e;subst e;exact⟨x,rfl,h.1⟩
 |x::l,x'::l',h,j+1,c',e=>by simpa using iX.get h.2 (by simpa using e)
def Ba.len:∀{l l':List (List V)},Ba l l'->l.length=l'.length
 |[],[],_=>rfl
 |[],_::_,h=>h.elim
 |_::_,[],h=>h.elim
 |_::l,_::l',h=>by simp[Ba.len h.2]
def Ba.get:∀{l l':List (List V)},Ba l l'->∀{j:Nat} {c':List V},l'[j]? =some c'->∃c,l[j]? =some c∧iX c c'
 |[],[],_,j,c',e=>by simp at e
 |[],_::_,h,_,_,_=>h.elim
 |_::_,[],h,_,_,_=>h.elim
 |x::l,x'::l',h,0,c',e=>by simp at e;subst e;exact⟨x,rfl,h.1⟩
 |x::l,x'::l',h,j+1,c',e=>by simpa using Ba.get h.2 (by simpa using e)
def Wk.slice {sz:Nat} {es es':List (List V)} (h:Ba es es'):Wk (.slice sz es) (.slice sz es'):=fun G v hv=>by
 have hl:=h.len;cases hv with
 |slice0 _ a cap=>
  obtain rfl:es'=[]:=jU (by simpa using hl.symm);exact .slice0 sz a cap
 |slice _ _ b o cap cells h1 h2 h3 h4 h5 h6=>
  rw[hl];refine .slice sz es' b o cap cells (fun cs hcs=>?_) (by omega) h3 (fun k hk=>h4 k (by rw[hl];exact hk)) (fun i j cs c hi hj=>?_) (fun k hk=>h6 k (by rw[hl];exact hk))
  ·obtain⟨i,hi,e⟩:=List.mem_iff_getElem.1 hcs;obtain⟨c,hc,hw⟩:=h.get (pB.2 ⟨hi,e⟩);rw[<-hw.len];exact h1 c (Dv hc)
  ·obtain⟨c0,hc0,hw⟩:=h.get hi;obtain⟨d,hd,hwd⟩:=hw.get hj;exact hwd G _ (h5 i j c0 d hc0 hd)
def CF (P:Program) (f:FuncId) (args:List V) (e:TypeId) (sz:Nat) (es:List (List V)):Prop:=∀s,mY P f args s fun v' s'=>∃g,s.own g=none∧v'= .own g sz es∧s'=s.cI g (some (e,sz))
def mY.Wv {f:FuncId} {args:List V} {s:aL} {e:TypeId} {sz:Nat} {es:List (List V)} {R:V->aL->Prop} (h:mY P f args s fun v' s'=>∃g,s.own g=none∧v'= .own g sz es∧s'=s.cI g (some (e,sz))) {PP:Value->aL->Prop} (hr:∀g,s.own g=none->R (.own g sz es) (s.cI g (some (e,sz)))):gM P f args s PP R:=
 (h.mono fun v' s' ⟨g,hg,hv,hs⟩=>by rw[hv,hs];exact hr g hg).toP
def Fr.sub {s:aL} {l l':List (Nat×(TypeId×Nat))} (h:Fr s (l.map Prod.fst)) (hs:∀x∈l',x∈l) (hn:(l'.map Prod.fst).Nodup):Fr s (l'.map Prod.fst)∧(cJ s l).le (cJ s l'):=by
 have hf:Fr s (l'.map Prod.fst):=⟨fun g hg=>by
  obtain⟨x,hx,rfl⟩:=qB.1 hg;exact h.1 _ (qB.2 ⟨x,hs x hx,rfl⟩),hn⟩
 refine⟨hf,⟨fun k=>.inl (by rw[fI,fI]),fun k=>?_⟩⟩;by_cases e:k∈l'.map Prod.fst
 ·obtain⟨⟨k',x⟩,hx,e'⟩:=qB.1 e;simp only at e';subst e';exact .inl (by rw[zX l' s hn hx,zX l s h.2 (hs _ hx)])
 ·rw[wR l' s e];by_cases e2:k∈l.map Prod.fst
  ·exact .inr (h.1 k e2)
  ·exact .inl (wR l s e2).symm
def nK {n:Int} (h1: -2^63<=n) (h2:n<2^63):i64.wrap n=n:=by
 simp only[IntKind.wrap,IntKind.bits,IntKind.signed];simp;omega
def Zx:maxLen<2^63:=by unfold maxLen;omega
def vY (lo:bC) (L:List (Nat×V)) (B:List (Nat×(List V×TypeId))) (s:aL) (n:Nat):St:={ E:=nT L,loc:=lX B,s:=s,n:=n,lo:=lo }
def En {lo:bC} {L:List (Nat×V)} {B:List (Nat×(List V×TypeId))} {s:aL} {n:Nat} {st:St} (h1:jK L st.E) (h2:gB B L) (h3:jL B st.loc) (h4:st.s.le s) (h5:n=st.n) (h6:st.ds=[]:=by rfl) (h7:lo=st.lo:=by rfl) (h8:st.pp=kW:=by rfl):st.le (vY lo L B s n) where
 E:=Jb h1
 loc:=fun t=>(Il h3 t).imp id fun e=>⟨e,fun t' off h=>El h2 t' t off h e⟩
 box:=h4.box
 own:=h4.own
 n:=h5
 ds:=h6.symm
 lo:=h7 ▸ bC.Le.refl _
 pp:=h8.symm
end
end Go.Am
namespace Go.Proofs.YtlfbdcfnimnhiaaGreatDoor.Ex
open Go.Am Go.Ex
def o7 (l:List aA):Vk prog 141 [.elt [.slice 10 (l.map aA.v)] 0] (fun x=>V.agg (aA.v x)) l:=by
 intro lo yl s Hs h0 hY;refine Mp (fn:=f141) func141 rfl (by decide) (by show 2<=16;decide) ?_;rw[ntmps141];refine aB.eD fun Z1 hZ1=>?_;simp only[jP,iY,vX,am,seval,reduceCtorEq];refine hZ1 _ ?_;clear hZ1 Z1;refine aB.block ?_;refine aB.slen 5 (sz:=10) (es:=l.map aA.v) (by simp only[am,seval,reduceCtorEq]) fun hmax=>?_;have hmx:=Zx;rw[gI] at hmax;refine aB.Qj (ι:=Nat×aL) (fun i=>i.1<=l.length∧Hs (l.take i.1) i.2) (fun i=>vY lo [(0,lP yl),(1,.elt [.slice 10 (l.map aA.v)] 0),(5,.slice 10 (l.map aA.v)),(6,aI l.length),(7,aI i.1)] [] i.2 16) (fun i=>l.length-i.1) (0,s) ⟨⟨kK _,by simpa using h0⟩,?_⟩ ?_
 ·refine En ?_ ?_ ?_ (aL.le.refl _) rfl
  ·simp only[jK,lP,jP,iY,am,seval,reduceCtorEq]<;>simp
  ·simp only[gB,lP,iG,Nat.reduceBEq,kJ,kI,jE,and_self]
  ·simp only[jL,am,seval,reduceCtorEq]
 ·rintro⟨i,s1⟩ ⟨hi,hH⟩;simp only at hi hH ⊢;refine aB.eD fun Z2 hZ2=>?_;simp only[kQ,vY,am,seval,reduceCtorEq];refine hZ2 _ ?_;clear hZ2 Z2;refine aB.rJ fun K2 hK2=>?_;refine aB.cond (t:=decide ((i:Int)<(l.length:Nat))) (by simp only[am,seval,reduceCtorEq]) (fun htj=>?_) (fun htj=>?_)
  ·have hlt:i<l.length:=by have:=pK htj;omega
   have ix0:(0<=(i:Int))=True:=by simp
   have ix1:((i:Int)<(l.length:Int))=True:=by simp[hlt]
   obtain⟨y,hy0⟩:∃y,l[i]=y:=⟨_,rfl⟩;have hgy:(l.map aA.v).getD (i:Int).toNat []=y.v:=by rw[cZ,fR,qQ,fH hlt,hy0];rfl
   refine aB.skip ?_;refine hK2 _ ?_;clear hK2;refine aB.rJ fun K3 hK3=>?_;refine aB.block ?_;refine aB.eD fun Z3 hZ3=>?_;simp only[aA.vs,ix0,ix1,true_and,hgy,vX,nQ,am,seval,reduceCtorEq];refine hZ3 _ ?_;clear hZ3 Z3;refine aB.Ww 2 rfl (by decide+kernel) fun Z4 hZ4=>?_;simp only[aA.vs,nQ,qO,qN,qM,am,seval,reduceCtorEq];refine⟨?_,?_,yl,[.agg y.v],_,?_,?_,hY _ y _ hH ⟨l.drop (i+1),by rw[<-hy0,<-tV hlt,Bf]⟩,?_⟩
   ·simp only[gA,am,seval,reduceCtorEq]
   ·simp only[am,seval,reduceCtorEq]
   ·simp only[lP,am,seval,reduceCtorEq]
   ·simp only[am,seval,reduceCtorEq]
   rintro _ s2 ⟨rfl,hH2⟩;simp only[fM,Gj,sE,sD,oY,am,seval,reduceCtorEq];refine hZ4 _ ?_;clear hZ4 Z4;refine aB.cond (t:=false) (by simp only[am,seval,reduceCtorEq]) (fun h=>by cases h) (fun _=>?_);refine aB.skip ?_;refine hK3 _ ?_;clear hK3;refine aB.fW fun Z5 hZ5=>?_;simp only[kQ,am,seval,reduceCtorEq];refine hZ5 _ ?_;clear hZ5 Z5;refine⟨(i+1,s2),⟨⟨hlt,?_⟩,by simp only;omega⟩,?_⟩
   ·have e1:l.take (i+1)=l.take i++[y]:=by rw[List.take_add_one,fH hlt,hy0];rfl
    simp only[e1];exact hH2
   refine En ?_ ?_ ?_ (aL.le.refl _) rfl
   ·simp only[jK,lP,vY,am,seval,reduceCtorEq];have e2:i64.wrap ((i:Int)+1)=((i+1:Nat):Int):=by
     rw[nK (by omega) (by omega)];simp
    first|(rw[e2];done)|(rw[e2];simp)
   ·simp only[gB,lP,iG,Nat.reduceBEq,kJ,kI,jE,and_self]
   ·simp only[jL,vY,am,seval,reduceCtorEq]
  ·have hge:i=l.length:=by have:=rM htj;omega
   refine aB.exit ?_;simp only[qI,Ai,↓reduceIte];refine⟨[],.tuple [],s1,rfl,Wk.refl _,aL.le.refl _,?_⟩;rw[hge,nI] at hH;exact hH
def o6 (l:List aF):Vk prog 142 [.elt [.slice 5 (l.map aF.v)] 0] (fun x=>V.agg (aF.v x)) l:=by
 intro lo yl s Hs h0 hY;refine Mp (fn:=f142) func142 rfl (by decide) (by show 2<=16;decide) ?_;rw[ntmps142];refine aB.eD fun Z1 hZ1=>?_;simp only[jP,iY,Vw,am,seval,reduceCtorEq];refine hZ1 _ ?_;clear hZ1 Z1;refine aB.block ?_;refine aB.slen 5 (sz:=5) (es:=l.map aF.v) (by simp only[am,seval,reduceCtorEq]) fun hmax=>?_;have hmx:=Zx;rw[gI] at hmax;refine aB.Qj (ι:=Nat×aL) (fun i=>i.1<=l.length∧Hs (l.take i.1) i.2) (fun i=>vY lo [(0,lP yl),(1,.elt [.slice 5 (l.map aF.v)] 0),(5,.slice 5 (l.map aF.v)),(6,aI l.length),(7,aI i.1)] [] i.2 16) (fun i=>l.length-i.1) (0,s) ⟨⟨kK _,by simpa using h0⟩,?_⟩ ?_
 ·refine En ?_ ?_ ?_ (aL.le.refl _) rfl
  ·simp only[jK,lP,jP,iY,am,seval,reduceCtorEq]<;>simp
  ·simp only[gB,lP,iG,Nat.reduceBEq,kJ,kI,jE,and_self]
  ·simp only[jL,am,seval,reduceCtorEq]
 ·rintro⟨i,s1⟩ ⟨hi,hH⟩;simp only at hi hH ⊢;refine aB.eD fun Z2 hZ2=>?_;simp only[kQ,vY,am,seval,reduceCtorEq];refine hZ2 _ ?_;clear hZ2 Z2;refine aB.rJ fun K2 hK2=>?_;refine aB.cond (t:=decide ((i:Int)<(l.length:Nat))) (by simp only[am,seval,reduceCtorEq]) (fun htj=>?_) (fun htj=>?_)
  ·have hlt:i<l.length:=by have:=pK htj;omega
   have ix0:(0<=(i:Int))=True:=by simp
   have ix1:((i:Int)<(l.length:Int))=True:=by simp[hlt]
   obtain⟨y,hy0⟩:∃y,l[i]=y:=⟨_,rfl⟩;have hgy:(l.map aF.v).getD (i:Int).toNat []=y.v:=by rw[cZ,fR,qQ,fH hlt,hy0];rfl
   refine aB.skip ?_;refine hK2 _ ?_;clear hK2;refine aB.rJ fun K3 hK3=>?_;refine aB.block ?_;refine aB.eD fun Z3 hZ3=>?_;simp only[aF.vs,ix0,ix1,true_and,hgy,Vw,Ph,am,seval,reduceCtorEq];refine hZ3 _ ?_;clear hZ3 Z3;refine aB.Ww 2 rfl (by decide+kernel) fun Z4 hZ4=>?_;simp only[aF.vs,Ph,qO,qN,qM,am,seval,reduceCtorEq];refine⟨?_,?_,yl,[.agg y.v],_,?_,?_,hY _ y _ hH ⟨l.drop (i+1),by rw[<-hy0,<-tV hlt,Bf]⟩,?_⟩
   ·simp only[gA,am,seval,reduceCtorEq]
   ·simp only[am,seval,reduceCtorEq]
   ·simp only[lP,am,seval,reduceCtorEq]
   ·simp only[am,seval,reduceCtorEq]
   rintro _ s2 ⟨rfl,hH2⟩;simp only[fM,Gj,sE,sD,oY,am,seval,reduceCtorEq];refine hZ4 _ ?_;clear hZ4 Z4;refine aB.cond (t:=false) (by simp only[am,seval,reduceCtorEq]) (fun h=>by cases h) (fun _=>?_);refine aB.skip ?_;refine hK3 _ ?_;clear hK3;refine aB.fW fun Z5 hZ5=>?_;simp only[kQ,am,seval,reduceCtorEq];refine hZ5 _ ?_;clear hZ5 Z5;refine⟨(i+1,s2),⟨⟨hlt,?_⟩,by simp only;omega⟩,?_⟩
   ·have e1:l.take (i+1)=l.take i++[y]:=by rw[List.take_add_one,fH hlt,hy0];rfl
    simp only[e1];exact hH2
   refine En ?_ ?_ ?_ (aL.le.refl _) rfl
   ·simp only[jK,lP,vY,am,seval,reduceCtorEq];have e2:i64.wrap ((i:Int)+1)=((i+1:Nat):Int):=by
     rw[nK (by omega) (by omega)];simp
    first|(rw[e2];done)|(rw[e2];simp)
   ·simp only[gB,lP,iG,Nat.reduceBEq,kJ,kI,jE,and_self]
   ·simp only[jL,vY,am,seval,reduceCtorEq]
  ·have hge:i=l.length:=by have:=rM htj;omega
   refine aB.exit ?_;simp only[qI,Ai,↓reduceIte];refine⟨[],.tuple [],s1,rfl,Wk.refl _,aL.le.refl _,?_⟩;rw[hge,nI] at hH;exact hH
end Go.Proofs.YtlfbdcfnimnhiaaGreatDoor.Ex
namespace Go.Am
section
variable {P:Program}
def mY.ownNew {f:FuncId} {args:List V} {s:aL} {e:TypeId} {sz:Nat} (hf:∃fn,P.funcs[f]? =some fn∧fn.body.isNone=false∧(fn.name == "runtime.NumGoroutine")=false)
 (h:∀G w (cargs:Array Value),cS G s w->bZ G args cargs.toList->Calls P f cargs w fun e' w'=>dP w w'∧((∃a,e'= .returned (.slice a 0 0)∧∀b,jT (.slice a 0 0)=some b->w.heap.size<=b)∨
  ∃cap cur,e'= .returned (.slice (some ⟨w.heap.size,0,none⟩) 0 (cap+1))∧w'.heap[w.heap.size]? =some (.cells cur e (0,0))∧cur.size=(cap+1)*sz∧cap+1<=maxLen)):
 mY P f args s fun v' s'=>∃g,s.own g=none∧v'= .own g sz []∧s'=s.cI g (some (e,sz)):=by
 refine⟨hf,fun G w cargs hh hargs=>(h G w cargs hh hargs).mono ?_⟩;rintro e' w' ⟨hm,hr⟩;have key:∀v:Value,Vm G w' e sz v->(∀b,jT v=some b->w.heap.size<=b)->(∃a cap,v= .slice a 0 cap)->
  ∃G' s' v' cv,Ending.returned v= .returned cv∧bJ G' v' cv∧dD G s w G' s' w'∧cS G' s' w'∧∃g,s.own g=none∧v'= .own g sz []∧s'=s.cI g (some (e,sz)):=fun v hv hb hs=>by
  have ha:cW ⟨0,[],kW⟩ G (fun _=>none) { E:=fun _=>.base undef,loc:=fun _=>none,s:=s,n:=0 } { tmps:= #[],defers:=[] } w':=
   ⟨hh.more hm,rfl,zK.nil,(fun t=>by
    have:(#[]:Array Value).getD t undef=undef:=by simp[Array.getD]
    show eE _ _ _ _ ((#[]:Array Value).getD t undef);rw[this];exact bJ.base _),(fun t cs ty ht=>by cases ht),fun t t' b h1=>absurd rfl h1⟩
  obtain⟨G',g,e1,e2,e3,e4,e5⟩:=cW.KE ha (dD.more hm) (e,sz) v hv hb (fun b hb' hf=>by
   have:=BT hh hf;have:=hb b hb';omega) (fun t b ht=>absurd rfl ht)
  obtain⟨a,cap,rfl⟩:=hs;exact⟨G',s.cI g (some (e,sz)),.own g sz [],_,rfl,bJ.own g sz [] _ (bJ.slice0 sz a cap) e2,e4,e5.hr,g,e1,rfl,rfl⟩
 rcases hr with⟨a,rfl,hb⟩|⟨cap,cur,rfl,h1,h2,h3⟩
 ·exact key _ (.inl ⟨a,rfl⟩) hb ⟨a,0,rfl⟩
 ·refine key _ (.inr ⟨w.heap.size,0,cap,cur,rfl,h1,h2,kK _,h3,fun o _=>?_⟩) (fun b hb=>by simp[jT] at hb;omega) ⟨_,_,rfl⟩;cases hx:G.F w.heap.size o with
  |none=>rfl
  |some v=>have:=hh.zO (b:=w.heap.size) (o:=o) (by rw[hx];simp);omega
end
end Go.Am
