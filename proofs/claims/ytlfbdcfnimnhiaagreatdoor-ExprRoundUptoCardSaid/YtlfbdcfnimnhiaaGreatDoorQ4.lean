/- A part. -/
import Derived.RecoverIn
import Derived.Test.YtlfbdcfnimnhiaaGreatDoorQ3
set_option linter.all false
set_option maxHeartbeats 4000000
set_option maxRecDepth 100000
open Go.Proofs.Tryz
open Go.IntKind (i64 u64)
namespace Go.Am
section
variable {P:Program}
def Ob (Q:Exit->Act->World->Prop) (F:Act->Prop):Exit->Act->World->Prop:=fun x a w=>Q x a w∧(x= .normal∨(∃c,x= .panic c)->F a)
def NN {F:Act->Prop} {o:Oper} {a:Act} {next:Act->World->Prop} {Q:Exit->Act->World->Prop} (hF:∀(a:Act) v,F a->F (a.put o.dst v)) (hD:∀(a:Act) d,F a->F { a with defers:=d::a.defers }) (ha:F a) {r:Result Next} (h:o.upon P a next Q r):
 o.upon P a (fun a' w'=>next a' w'∧F a') (Ob Q F) r:=by
 cases r with
 |ok n w'=>
  cases n<;>simp only[Oper.upon] at h ⊢<;>first
   |exact⟨h,hF a _ ha⟩
   |exact⟨h,hF _ _ (hD a _ ha)⟩
   |exact h.elim
   |skip
  ·refine Calls.mono h fun e w'' he=>?_;cases e with
   |returned v=>exact⟨he,hF a _ ha⟩
   |panicked c=>exact⟨he,fun _=>ha⟩
   |outgrown=>obtain⟨a0,w0,hq⟩:=he;exact⟨a0,w0,hq,fun h=>by rcases h with h|⟨c,hc⟩;cases h;cases hc⟩
  ·exact Rows.mono h fun v w'' he=>⟨he,hF a _ ha⟩
 |halt x w'=>cases x<;>simp only[Oper.upon] at h ⊢<;>first|exact⟨h,fun _=>ha⟩|exact h
def NK {F:Act->Prop} {ops:Array Oper} {Q:Exit->Act->World->Prop} (hF:∀(i:Nat) (o:Oper),ops[i]? =some o->∀(a:Act) v,F a->F (a.put o.dst v)) (hD:∀(a:Act) d,F a->F { a with defers:=d::a.defers }) {i:Nat} {K:Act->World->Prop} {a:Act} {w:World} (ha:F a) (h:wpOp P ops Q i K a w):
 wpOp P ops (Ob Q F) i (fun a' w'=>K a' w'∧F a') a w:=by
 unfold wpOp at h ⊢;cases ho:ops[i]? with
 |none=>rw[ho] at h;exact⟨h,ha⟩
 |some o=>
  rw[ho] at h;simp only at h ⊢;split at h
  ·rename_i hw;rw[if_pos hw];rcases h with h|⟨h,a0,w0,hq⟩
   ·exact .inl (NN (hF i o ho) hD ha h)
   ·exact .inr ⟨h,a0,w0,hq,fun h=>by rcases h with h|⟨c,hc⟩;cases h;cases hc⟩
  ·rename_i hw;rw[if_neg hw];exact⟨h,hF i o ho a _ ha⟩
def Xz {F:Act->Prop} {ops:Array Oper} {Q:Exit->Act->World->Prop} {md:Region.Mode} (hF:∀(i:Nat) (o:Oper),ops[i]? =some o->∀(a:Act) v,F a->F (a.put o.dst v)) (hD:∀(a:Act) d,F a->F { a with defers:=d::a.defers }):∀(f:Nat) (l:Array Bool) (a:Act) (w:World),F a->wpAny P md ops Q f l a w->wpAny P md ops (Ob Q F) f l a w
 |0,l,a,w,ha,h=>⟨h.1,h.2,fun _=>ha⟩
 |f+1,l,a,w,ha,h=>⟨fun h0=>⟨h.1 h0,fun _=>ha⟩,fun i hi=>wpOp_mono (fun a' w' hk=>Xz hF hD f _ a' w' hk.2 hk.1) (NK hF hD ha (h.2 i hi))⟩
def PF {f:FuncId} {fn:Func} {rid:Nat} {o0 o1:Oper} {rest:Code} {t7 t3:Nat} {ts:Array TypeId} (hf:P.funcs[f]? =some fn) (hb:fn.body=some (.seq (.region rid #[o0,o1] false) rest)) (h0:o0.op= .call { callee:=.builtin .recover,args:= #[],argTypes:=ts }) (g0:o0.guard=none) (d0:o0.dst=some t7)
 (h1:o1.op= .assign (.tmp t7)) (g1:o1.guard=none) (d1:o1.dst=some t3) {u u1:FrameMode} {rv:Value} (hrec:∀(c₀:Frame) cs,c₀.mode=u->recoverD (c₀::cs)=some (rv,{ c₀ with mode:=u1 }::cs)∨(recoverD (c₀::cs)=none∧rv= .nilIface∧u1=u))
 {args:Array Value} (h7:t7<(args++Array.replicate (fn.ntmps-args.size) undef).size) {w:World} {R:Ending->FrameMode->World->Prop}
 (hrest:rest.wp P (fun x a' w'=>(x= .normal∨x= .ret)∧a'.defers=[]∧∃v,(results fn a'.tmps).run P w'= .ok v w'∧R (.returned v) u1 w') ((({ tmps:=args++Array.replicate (fn.ntmps-args.size) undef,defers:=[] }:Act).put (some t7) rv).put (some t3) rv) w):CallsDIn Fence.wide 0 P f args u w R:=by
 refine callsDIn_of_wpSIn hf hb trivial fun c₀ cs hu=>wpSIn_seq (wpSIn_region ?_);have h7':t7<({ tmps:=args++Array.replicate (fn.ntmps-args.size) undef,defers:=[] }:Act).tmps.size:=h7;generalize ({ tmps:=args++Array.replicate (fn.ntmps-args.size) undef,defers:=[] }:Act)=A at hrest h7' ⊢;have key:∀cs',(cs'={ c₀ with mode:=u1 }::cs)->rest.wpSIn Fence.wide 0 P (bodyPostS P fn c₀ cs R) ((A.put (some t7) rv).put (some t3) rv) cs' w:=fun cs' hcs=>by
  refine wpSIn_of_wpIn rfl (wpIn_wide.2 (wp_mono hrest fun x a' w' ⟨hx,hd,v,hr,hR⟩=>?_));rcases hx with rfl|rfl
  ·exact⟨hd,u1,hcs,v,hr,hR⟩
  ·exact⟨hd,u1,hcs,v,hr,hR⟩
 have e0:∀a:Act,Region.wanted o0 (yielded #[o0,o1] a.tmps)=true:=fun a=>by simp[Region.wanted,g0]
 have e1:∀a:Act,Region.wanted o1 (yielded #[o0,o1] a.tmps)=true:=fun a=>by simp[Region.wanted,g1]
 have r0:∀a:Act,(execOp a.eval o0).run P w= .ok .recover w:=fun a=>by
  unfold execOp;simp[h0,resolve,invoke,builtin]
 have r1:∀a:Act,(execOp a.eval o1).run P w= .ok (.value (a.eval (.tmp t7))) w:=fun a=>by
  unfold execOp;simp[h1]
 have ev:∀a:Act,t7<a.tmps.size->(a.put (some t7) rv).eval (.tmp t7)=rv:=fun a ha=>by simp[Act.eval,Act.put,ha]
 rw[show List.range (#[o0,o1]:Array Oper).size=[0,1] from rfl];rcases hrec c₀ cs hu with hr|⟨hr,rfl,rfl⟩
 ·rw[wpOpsSIn];simp only[show(#[o0,o1]:Array Oper)[0]? =some o0 from rfl];refine⟨fun _ _=>trivial,?_⟩;rw[if_pos (e0 _),r0];simp only[hr];rw[wpOpsSIn];simp only[show(#[o0,o1]:Array Oper)[1]? =some o1 from rfl];refine⟨fun _ _=>trivial,?_⟩;rw[if_pos (e1 _),r1];simp only[d0,d1];rw[ev _ h7',wpOpsSIn];exact key _ rfl
 ·rw[wpOpsSIn];simp only[show(#[o0,o1]:Array Oper)[0]? =some o0 from rfl];refine⟨fun _ _=>trivial,?_⟩;rw[if_pos (e0 _),r0];simp only[hr];rw[wpOpsSIn];simp only[show(#[o0,o1]:Array Oper)[1]? =some o1 from rfl];refine⟨fun _ _=>trivial,?_⟩;rw[if_pos (e1 _),r1];simp only[d0,d1];rw[ev _ h7',wpOpsSIn];exact key _ (by rw[<-hu])
def In.entry {fn:Func} {G:bC} {s:aL} {w:World} {args:List V} {cargs:Array Value} (hh:cS G s w) (hargs:bZ G args cargs.toList) (hlen:args.length<=fn.ntmps) (tl:List Deferred) (hds:tl=[]) (PP:Value->aL->Prop):
 In ⟨G,s,w,tl,PP⟩ { E:=uF args,loc:=fun _=>none,s:=s,n:=fn.ntmps,pp:=PP } { tmps:=cargs++Array.replicate (fn.ntmps-cargs.size) undef,defers:=[] } w:=by
 subst hds;have hsz:cargs.size=args.length:=by have:=hargs.1;simp at this;omega
 refine⟨G,fun _=>none,dD.refl _ _ _,hh,by simp;omega,⟨rfl,(fun d h=>by cases h),Mi,bC.none_le _,rfl⟩,fun t=>?_,(fun t cs ty ht=>(by cases ht)),fun t t' b h1=>absurd rfl h1⟩;simp only[uF];by_cases ht:t<args.length
 ·have e1:args.getD t (.base undef)=args[t]:=by simp[fR,ht]
  have e2:(cargs++Array.replicate (fn.ntmps-cargs.size) undef).getD t undef=cargs[t]'(by omega):=by
   rw[iS,Xi (by omega),oQ (by omega)];rfl
  rw[e1,e2];exact eE.kF (hargs.2 t _ _ (fH ht) (by simp[show t<cargs.size by omega]))
 ·have e1:args.getD t (.base undef)= .base undef:=by simp[fR,Gy (Nat.le_of_not_lt ht)]
  have e2:(cargs++Array.replicate (fn.ntmps-cargs.size) undef).getD t undef=undef:=by
   rw[iS,Array.getElem?_append_right (by omega)];by_cases h2:t-cargs.size<fn.ntmps-cargs.size
   ·simp[Gx,h2]
   ·simp[Gx,h2]
  rw[e1,e2];exact bJ.base _
def In.putB {e:Entry} {st:St} {a:Act} {w:World} (h:In e st a w) {t:Nat} (ht:t<st.n) (v:Value):In e (st.put (some t) (.base v)) (a.put (some t) v) w:=by
 obtain⟨G,be,hx,hr⟩:=h;exact⟨G,be,hx,hr.put (some t) (fun t' h=>by cases h;exact ht) (eE.kF (bJ.base v))⟩
def jI (b:Nat):Value:=.pointer (some ⟨b,0,none⟩)
def AI {f:FuncId} {fn:Func} {rid:Nat} {o0 o1:Oper} {rest:Code} {t7 t3:Nat} {ts:Array TypeId} (hf:P.funcs[f]? =some fn) (hb:fn.body=some (.seq (.region rid #[o0,o1] false) rest)) (h0:o0.op= .call { callee:=.builtin .recover,args:= #[],argTypes:=ts }) (g0:o0.guard=none) (d0:o0.dst=some t7)
 (h1:o1.op= .assign (.tmp t7)) (g1:o1.guard=none) (d1:o1.dst=some t3) (hres:fn.results= #[]) {u u1:FrameMode} {rv:Value} (hrec:∀(c₀:Frame) cs,c₀.mode=u->recoverD (c₀::cs)=some (rv,{ c₀ with mode:=u1 }::cs)∨(recoverD (c₀::cs)=none∧rv= .nilIface∧u1=u))
 {G:bC} {s:aL} {w:World} {args:List V} {cargs:Array Value} (hh:cS G s w) (hargs:bZ G args cargs.toList) (hlen:args.length<=fn.ntmps) (h7:t7<fn.ntmps) (h3:t3<fn.ntmps) {s':aL}
 (hrest:aB P rest (fun x st=>(x= .normal∨x= .ret)∧st.ds=[]∧st.s.le s') ((({ E:=uF args,loc:=fun _=>none,s:=s,n:=fn.ntmps }:St).put (some t7) (.base rv)).put (some t3) (.base rv))):
 CallsDIn Fence.wide 0 P f cargs u w fun en u' w'=>(∃v,en= .returned v)∧u'=u1∧∃G',dD G s w G' s' w'∧cS G' s' w':=by
 have hsz:cargs.size=args.length:=by have:=hargs.1;simp at this;omega
 refine PF hf hb h0 g0 d0 h1 g1 d1 hrec (by simp;omega) ?_;have hin:=((In.entry (fn:=fn) hh hargs hlen [] rfl kW).putB (t:=t7) h7 rv).putB (t:=t3) h3 rv;refine wp_mono (hrest _ _ _ hin) fun x a' w' h=>?_;rcases h with⟨st,⟨hx,hds,hle⟩,G',be,hX,hR⟩|⟨v,G',s',h1,h2,h3,h4,h5⟩
 ·refine⟨hx,by rw[show a'.defers=st.ds++[] from hR.df.eq,hds];rfl,.tuple #[],?_,⟨_,rfl⟩,rfl,G',hX.weaken hle,hR.hr.weaken hle⟩;simp[results,hres]
 ·exact h5.elim
def mT (P:Program) (c:Code) (Post:Entry->Exit->Act->World->Prop) (st:St):Prop:=∀(e:Entry) (a:Act) (w:World),e.tl=[]->In e st a w->c.wp P (Post e) a w
def mT.weaken {c:Code} {Post:Entry->Exit->Act->World->Prop} {st st':St} (hle:st.le st') (h:mT P c Post st'):mT P c Post st:=fun e a w ht hin=>h e a w ht (hin.weaken hle)
def mT.cM {c:Code} {Post:Entry->Exit->Act->World->Prop} {st:St} {t0:Nat} {x:List V×TypeId} (hl:st.loc t0=some x) (h:∀b,st.s.box b=none->mT P c Post (st.cM t0 b x)):mT P c Post st:=fun e a w ht hin=>by
 obtain⟨b,hb,hin'⟩:=hin.cM hl;exact h b hb e a w ht hin'
def mT.seqA {x y:Code} {Post:Entry->Exit->Act->World->Prop} {st:St} (K:St->Prop) (hpp:st.pp=kW) (hx:aB P x (fun ex st'=>ex= .normal∧K st') st) (hy:∀st',K st'->mT P y Post st'):mT P (.seq x y) Post st:=fun e a w ht hin=>by
 have hp:e.pp=kW:=by obtain⟨G,be,hX,hr⟩:=hin;rw[<-hpp];exact(show st.pp=e.pp from hr.df.pp).symm
 refine wp_seq (wp_mono (hx e a w hin) fun ex a' w' h=>?_);rcases h with⟨st',⟨rfl,hK⟩,hin'⟩|⟨v,G',s',h1,h2,h3,h4,h5⟩
 ·exact hy st' hK e a' w' ht hin'
 ·rw[hp] at h5;exact h5.elim
def RV {f:FuncId} {fn:Func} {c:Code} {args:List V} {s:aL} {R:V->aL->Prop} (hf:P.funcs[f]? =some fn) (hb:fn.body=some c) (hn:(fn.name == "runtime.NumGoroutine")=false) (hlen:args.length<=fn.ntmps)
 (h:mT P c (fun e=>bodyPostM Fence.wide 0 P fn fun en w'=>∃G' s' v cv,en= .returned cv∧bJ G' v cv∧dD e.G e.s e.w G' s' w'∧cS G' s' w'∧R v s') { E:=uF args,loc:=fun _=>none,s:=s,n:=fn.ntmps }):mY P f args s R:=by
 refine⟨⟨fn,hf,by simp[hb],hn⟩,fun G w cargs hh hargs=>?_⟩;exact(callsIn_wide (n:=0)).1 (callsIn_of_wp_marks hf hb trivial (wpIn_wide.2 (h ⟨G,s,w,[],kW⟩ _ w rfl (In.entry hh hargs hlen [] rfl kW))))
def VV {o:Oper} {t:TypeId} {x:Operand} {d:Nat} (ho:o.op= .box t x) (hd:o.dst=some d) {st:St} (hc:(st.eval x).cells.all V.iR=true) (hdn:d<st.n) (hl:st.loc d=none) (e:Entry) (a:Act) (w:World) (Q:Exit->Act->World->Prop) (hin:In e st a w):
 o.wp P a w (jC e fun st'=>∃b,st.s.box b=none∧st'=(({ st with loc:=cA st.loc d (some ((st.eval x).cells,t)) }:St).put (some d) (.loc d 0)).cM d b ((st.eval x).cells,t)) Q:=by
 have h:oG o t (st.eval x).cells st fun st1=>st1=({ st with loc:=cA st.loc d (some ((st.eval x).cells,t)) }:St).put (some d) (.loc d 0):=by
  unfold oG;rw[hd];exact⟨hdn,hl,rfl⟩
 obtain⟨G,be,hx,hr⟩:=hin;obtain⟨h1,h2⟩:=Mt (hr.eval x) hc;refine Oper.wp_mono (K:=jC e fun st1=>st1=({ st with loc:=cA st.loc d (some ((st.eval x).cells,t)) }:St).put (some d) (.loc d 0)) ?_ (Qv h hx hr h1 h2 ?_)
 ·rintro a1 w1 ⟨st1,rfl,hin1⟩;obtain⟨b,hb,hin2⟩:=hin1.cM (t0:=d) (x:=((st.eval x).cells,t)) (by simp[St.put,cA]);exact⟨_,⟨b,hb,rfl⟩,hin2⟩
 ·unfold execOp;simp[ho,Instr.box,newVar,newRow]
def aB.regX1 {Q:Exit->St->Prop} {st:St} {id:Nat} {ops:Array Oper} (j:Nat) {d:Option Tmp} {op:Op} {ty:TypeId} {ps:String} {af:Array Edge} {gd:Option (Nat×Bool)} (hj:ops[j]? =some { dst:=d,op:=op,type:=ty,pos:=ps,after:=af,guard:=gd }) (hnd:oS ops=true)
 (h:∀K:St->Prop,(∀st,Q .normal st->K st)->gK P ops (ops.toList.take j) st (Qe P ops j { dst:=d,op:=op,type:=ty,pos:=ps,after:=af,guard:=gd } K)):aB P (.region id ops false) Q st:=by
 generalize ({ dst:=d,op:=op,type:=ty,pos:=ps,after:=af,guard:=gd }:Oper)=o at hj h;refine fun e a w hin=>(wpIn_wide (n:=0)).1 (wpIn_region ?_);have hlt:j<ops.size:=(gZ.1 hj).1;have hsplit:List.range ops.size=List.range' 0 j++(j::(List.range' (j+1) (ops.size-(j+1))++[])):=by
  have h0:=@List.range'_append_1 0 j (ops.size-(j+1)+1);rw[kH,show j+(ops.size-(j+1)+1)=ops.size by omega] at h0;rw[gL,Bg,<-Hg,h0]
 rw[hsplit];refine vK (.inl rfl) hnd (e:=e) (K:=Qe P ops j o _) vE (fun a1 w1 hth=>?_) j 0 (by omega) st a w (by simpa using h _ fun _ h=>h) hin;obtain⟨st1,⟨hg,K1,hop,hrest⟩,hin1⟩:=hth;obtain⟨g1,g2,g3⟩:=Dy (all:=ops) (o:=o) hin1;have hw:Region.wanted o (yielded ops a1.tmps)=true:=by
  split at hg
  ·rename_i hgd;exact g1 hgd
  ·rename_i c b hgd;rw[g3 c b hgd];simpa using hg
  ·exact hg.elim
 refine Hj hj ?_;refine Hn (next:=jC e K1) (by unfold sS;rw[if_pos hw];exact Ji (.inl rfl) (hop e a1 w1 _ hin1) (Hp hnd hj)) ?_;rintro a2 w2 ⟨st2,hK1,hin2⟩;refine vK (.inl rfl) hnd (e:=e) (K:=Q .normal) (rest:=[]) vE (fun a3 w3 h3=>?_) (ops.size-(j+1)) (j+1) (by omega) _ a2 w2 ?_ hin2
 ·simp only[wpOpsIn];obtain⟨st3,h3,h4⟩:=h3;exact .inl ⟨st3,h3,h4⟩
 ·have:=hrest st2 hK1;rwa[nG (by simp)]
def BB {G:bC}:∀{bs:List Nat} {vs:List Value},bZ G (bs.map fun b=>V.ptr b 0) vs->vs=bs.map jI
 |[],vs,h=>h.Bd
 |b::bs,vs,h=>by
  obtain⟨v,vs',rfl,hv,h'⟩:=bZ.sJ (c:=V.ptr b 0) (cs:=bs.map fun b=>V.ptr b 0) h;cases hv
  rw[BB h'];rfl
def mT.defer {rid:Nat} {o0 o1:Oper} {y:Code} {Post:Entry->Exit->Act->World->Prop} {st:St} {t20:Nat} {fD:FuncId} {cap:Array Operand} {ats:Array TypeId} {bs:List Nat} (PP:Value->aL->Prop) (h0:o0.op= .makeFunc (.func fD) #[] cap) (g0:o0.guard=none) (d0:o0.dst=some t20) (h1:o1.op= .defer { callee:=.value (.tmp t20),args:= #[],argTypes:=ats }) (g1:o1.guard=none) (d1:o1.dst=none)
 (hE:cap.toList.map st.eval=bs.map fun b=>V.ptr b 0) (hds:st.ds=[]) (h20:t20<st.n) (hpp:st.pp=kW)
 (hy:∀(e:Entry) (a:Act) (w:World),e.tl=[]->e.pp=kW->In { e with tl:=[{ target:=.fn (.func fD) (bs.map jI).toArray,args:= #[] }],pp:=PP } { st.put (some t20) (.func fD [] (bs.map fun b=>V.ptr b 0)) with pp:=PP } a w->y.wp P (Post e) a w):mT P (.seq (.region rid #[o0,o1] false) y) Post st:=fun e a w ht hin=>by
 have hp:e.pp=kW:=by obtain⟨G,be,hX,hr⟩:=hin;rw[<-hpp];exact(show st.pp=e.pp from hr.df.pp).symm
 refine wp_seq (wp_region ?_);rw[show List.range (#[o0,o1]:Array Oper).size=[0,1] from rfl,wpOps_cons];have hn:qF (cap.toList.map st.eval)=some (bs.map fun b=>V.ptr b 0):=by
  rw[hE];clear hE hy
  induction bs with
  |nil=>rfl
  |cons b bs ih=>simp only[dG,qF,Jp,ih]
 have ha:rS P #[o0,o1] o0 st fun st'=>st'=st.put (some t20) (.func fD [] (bs.map fun b=>V.ptr b 0)):=by
  unfold rS gA;rw[g0];simp only;unfold gD;rw[h0];simp only;unfold lU;rw[h0];simp only[fF,hn];refine⟨trivial,by unfold fV;rw[d0];exact h20,by rw[d0]⟩
 refine wpOp_mono ?_ (zR (i:=0) (by rfl) (PQ.no hp) ha hin);rintro a1 w1 ⟨_,rfl,hin1⟩;rw[wpOps_cons];unfold wpOp;simp only[show(#[o0,o1]:Array Oper)[1]? =some o1 from rfl];rw[if_pos (by simp[Region.wanted,g1])];refine .inl ?_;obtain⟨G,be,hX,hr⟩:=hin1;have hf:=hr.tmps t20;simp only[St.put,eL] at hf;have hv:a1.eval (.tmp t20)= .func (.func fD) #[] (bs.map jI).toArray:=by
  show a1.tmps.getD t20 undef=_;generalize a1.tmps.getD t20 undef=q at hf;cases (show bJ G (.func fD [] (bs.map fun b=>V.ptr b 0)) q from hf) with
  |func _ _ _ cf cc l1 l2 r1 r2=>
   have e1:cf= #[]:=Array.eq_empty_of_size_eq_zero (by simpa using l1.symm);have e2:=BB (sP l2 r2);rw[e1,show cc=(bs.map jI).toArray by rw[<-e2]]
 have hrun:(execOp a1.eval o1).run P w1= .ok (.defer { target:=.fn (.func fD) (bs.map jI).toArray,args:= #[] }) w1:=by
  unfold execOp;simp[h1,resolve,hv,Deferred.ofValue]
 unfold Oper.wp;rw[hrun];rw[Oper.upon_defer];simp only[wpOps];rw[d1];show y.wp P (Post e) { a1 with defers:={ target:=.fn (.func fD) (bs.map jI).toArray,args:= #[] }::a1.defers } w1;have hdef:a1.defers=[]:=by rw[show a1.defers=(st.put (some t20) (.func fD [] (bs.map fun b=>V.ptr b 0))).ds++e.tl from hr.df.eq,ht];simp[St.put,hds]
 refine hy e _ w1 ht hp ⟨G,be,hX,hr.hr,hr.n,⟨?_,?_,?_,hr.df.lo,rfl⟩,hr.tmps,hr.loc,hr.inj⟩
 ·show _::a1.defers=_;rw[hdef];simp[St.put,hds]
 ·intro d hd;simp[St.put,hds] at hd
 ·simp[St.put,hds]
def Sf {G:bC} {s:aL} {w:World} {tmps:Array Value} {x b:Nat} {t:TypeId} {d:iC} {cs:List V} {ty:TypeId} {v:V} (hh:cS G s w) (hx:tmps.getD x undef=jI b) (hb:s.box b=some (cs,ty)) (hd:bT P t=some d) (hr:rd d cs 0=some v):∃cv,(wY tmps (.cell x t)).run P w= .ok cv w∧bJ G v cv:=by
 obtain⟨ccs,k3,k4,k5,k6⟩:=hh.box b cs ty hb;obtain⟨cv,hrun,hrep⟩:=Ix (P:=P) (w:=w) (b:=b) (o:=0) k4 (fun j v hv=>by rw[kH,cell_of_row w b j ccs ty _ k3];simpa using hv) hd hr;rw[kH] at hrun;simp only[Instr.loadAt,Instr.sureAddr,Sem.run_bind,Sem.run_pure,Result.andThen_ok] at hrun;refine⟨cv,?_,hrep⟩;have ha:asAddr (tmps.getD x undef)=pure ⟨b,0,none⟩:=by rw[hx];rfl
 simp only[wY,Sem.run_bind,ha,Sem.run_pure,Result.andThen_ok,hrun]
def TU {fn:Func} {tmps:Array Value} {w:World} {r1 r2 r3:ResultVar} {c1 c2 c3:Value} (hf:fn.results= #[r1,r2,r3]) (h1:(wY tmps r1).run P w= .ok c1 w) (h2:(wY tmps r2).run P w= .ok c2 w) (h3:(wY tmps r3).run P w= .ok c3 w):(results fn tmps).run P w= .ok (.tuple #[c1,c2,c3]) w:=by
 have hres:results fn tmps=(do let vs ←fn.results.mapM (wY tmps);pure (if h:vs.size=1 then vs[0] else .tuple vs)):=by
  unfold results;congr 1
 rw[hres,Sem.run_bind,Array.mapM_eq_mapM_toList,Sem.run_map,hf];simp only[List.mapM_cons,List.mapM_nil,Sem.run_bind,h1,h2,h3,Result.andThen_ok,Sem.run_pure];rfl
def Sq {n0:nS} {G:bC} {be:Nat->Option Nat} {st:St} {a:Act} {w:World} (h:cW n0 G be st a w) {t b:Nat} (hE:st.E t= .ptr b 0):a.tmps.getD t undef=jI b:=by
 have:=h.tmps t;rw[hE] at this;generalize a.tmps.getD t undef=q at this;cases (show bJ G (.ptr b 0) q from this);rfl
def YI {a:Act} {d:Option Tmp} {v:Value} {t:Nat} (h:d≠some t):(a.put d v).tmps.getD t undef=a.tmps.getD t undef:=by
 cases d with
 |none=>rfl
 |some d=>
  have:d≠t:=fun e=>h (by rw[e]);simp[Act.put,iS,Me this]
def GO {e:Entry} {all:Array Oper} {Q:Exit->Act->World->Prop} {K:St->Prop} (hPQ:PQ e Q) (hQ:∀a w,jC e K a w->Q .normal a w):∀(fuel:Nat) (t:OT) (listed:Array Bool) (st:St) (a:Act) (w:World),
 Region.ready .any all listed=t.oP->t.kids all fuel listed=true->pE P all t st K->In e st a w->wpAny P .any all Q fuel listed a w
 |0,t,listed,st,a,w,hr,hk,h,hin=>by
  have hn:t.oP=[]:=by
   cases hq:t.oP with
   |nil=>rfl
   |cons i r=>
    obtain⟨f',_,_,hf,_⟩:=OT.head (i:=i) t (by rw[hq];simp) hk h;cases hf
  exact⟨hr.trans hn,hQ a w ⟨st,OT.Ma t hn h,hin⟩⟩
 |fuel+1,t,listed,st,a,w,hr,hk,h,hin=>by
  refine⟨fun h0=>hQ a w ⟨st,OT.Ma t (hr.symm.trans h0) h,hin⟩,fun i hi=>?_⟩;rw[hr] at hi;obtain⟨f',t',o,hf,ho,k1,k2,k3⟩:=OT.head (i:=i) t hi hk h;cases hf
  refine wpOp_mono ?_ (zR (i:=i) ho hPQ k3 hin);rintro a' w' ⟨st',h',hin'⟩;exact GO hPQ hQ fuel t' _ st' a' w' k1 k2 h' hin'
def KQ {id:Nat} {ops:Array Oper} {Q:Exit->St->Prop} {st:St} {e:Entry} {a:Act} {w:World} (ts:List (Nat×Value)) (tl:List Nat) (htl:ts.map Prod.fst=tl) (hm:P.follows .mixedOrders=true) (t:OT) (hok:t.ok ops=true)
 (hdst:(ops.toList.all fun o=>tl.all fun t=>o.dst != some t)=true) (hts:∀t∈ts,a.tmps.getD t.1 undef=t.2) (hin:In e st a w) (h1:∀K:St->Prop,(∀st,Q .normal st->K st)->pE P ops t st K):
 (Code.region id ops true).wp P (Ob (fun x a' w'=>jC e (Q x) a' w'∨tT e x a' w') fun a'=>∀t∈ts,a'.tmps.getD t.1 undef=t.2) a w:=by
 unfold OT.ok at hok;simp only[dI,eM] at hok;refine wp_region_any hm (Xz ?_ (fun a d h=>h) _ _ _ _ hts (GO (K:=Q .normal) vE (fun a w h=>.inl h) ops.size t _ st a _ hok.1 hok.2 (h1 _ fun _ h=>h) ?_))
 ·intro i o ho a v h t ht;have h3:=lY.1 (lY.1 hdst o (Dv (by simpa using ho))) t.1 (htl ▸ List.mem_map_of_mem ht);rw[YI (by simpa using h3)];exact h t ht
 ·obtain⟨G,be,hx,hr⟩:=hin;exact⟨G,be,hx.trans (dD.more (dP.drew w)),hr.more (dP.drew w)⟩
end
end Go.Am
namespace Go.Proofs.YtlfbdcfnimnhiaaGreatDoor.Ex
open Go.Am Go.Ex
def tj:=ai Fs<|ai nQ<|ai Kj<|ai @aA.vs<|ai @dJ<|ai @cU<|ai @ne_eq.{1}<|eJ
def tk:=ai @wO.{0}<|ai @iY.{0}<|ai @gL.{0}<|ai @kH<|ai @Qm.{0}<|ai @List.drop_nil.{0}<|ai @kG.{0}<|ai @bF.{0}<|@bS.{0}
def Ia (R:aD->Option (PX (Int×aD) (aA×aD))) (l:List aP) (a p:Int):Option (aA×aD×Int):=(R (aD.mk l (dW (kD a 0) (l.length:Int)) p)).bind fun r=>match r with
 | .ok y=>some (y.1,y.2,0)
 | .bad q=>some (aA.z,aD.mk q.2.l q.1 q.2.params,260)
def aBe {G:bC} {s:aL} {w:World} {b8 b9 b10 b19:Nat} (h89:b8≠b9) (h8a:b8≠b10) (h8b:b8≠b19) (h9a:b9≠b10) (h9b:b9≠b19) (hab:b10≠b19) {m:aD} {er n:Int} (hh:cS G ((((s.aU b8 ([.base (.int .i64 0),.base (.bool false),.base (.string bO),.base (.string bO),.base (.int .i64 0),.base (.int .i64 0),.base (.int .i64 0),.base (.string bO),.nil,.nil],29)).aU b9 ([.ptr b19 0],53)).aU b10 ([aI er],30)).aU b19 (rB m)) w):
 CallsDIn Fence.wide 0 prog 77 #[jI b8,jI b10,jI b9] (.panicking [{ v:=qU 149 n,recovered:=false }]) w fun en u' w'=>(∃v,en= .returned v)∧u'= .panicking [{ v:=qU 149 n,recovered:=true }]∧∃G',dD G ((((s.aU b8 ([.base (.int .i64 0),.base (.bool false),.base (.string bO),.base (.string bO),.base (.int .i64 0),.base (.int .i64 0),.base (.int .i64 0),.base (.string bO),.nil,.nil],29)).aU b9 ([.ptr b19 0],53)).aU b10 ([aI er],30)).aU b19 (rB m)) w G' ((((s.aU b8 ([.base (.int .i64 0),.base (.bool false),.base (.string bO),.base (.string bO),.base (.int .i64 0),.base (.int .i64 0),.base (.int .i64 0),.base (.string bO),.nil,.nil],29)).aU b9 ([.ptr b19 0],53)).aU b10 ([aI 260],30)).aU b19 ([.slice 3 (m.l.map aP.v),aI n,aI m.params],93)) w'∧cS G' ((((s.aU b8 ([.base (.int .i64 0),.base (.bool false),.base (.string bO),.base (.string bO),.base (.int .i64 0),.base (.int .i64 0),.base (.int .i64 0),.base (.string bO),.nil,.nil],29)).aU b9 ([.ptr b19 0],53)).aU b10 ([aI 260],30)).aU b19 ([.slice 3 (m.l.map aP.v),aI n,aI m.params],93)) w':=by
 refine AI (fn:=f77) (args:=[.ptr b8 0,.ptr b10 0,.ptr b9 0]) (rv:=qU 149 n) func77 rfl rfl rfl rfl rfl rfl rfl rfl (fun c₀ cs hu=>.inl (by simp[recoverD,hu])) hh (bZ.cons (.ptr b8 0) (bZ.cons (.ptr b10 0) (bZ.cons (.ptr b9 0) (bZ.nil G)))) (by show 3<=24;decide) (by rw[ntmps77];decide) (by rw[ntmps77];decide) ?_;rw[ntmps77];refine aB.eD fun Z1 hZ1=>?_;simp only[underlying20,qU,Ft,am,seval,reduceCtorEq];refine hZ1 _ ?_;clear hZ1 Z1;refine aB.cond (t:=true) (by simp only[am,seval,reduceCtorEq]) (fun _=>?_) (fun hf=>by cases hf);refine aB.eD fun Z1 hZ1=>?_;simp only[Om,am,seval,reduceCtorEq];refine hZ1 _ ?_;clear hZ1 Z1;refine aB.rJ fun K hK=>?_;refine aB.eD fun Z1 hZ1=>?_;simp only[am,seval,reduceCtorEq];refine hZ1 _ ?_;clear hZ1 Z1;refine aB.cond (t:=false) (by simp only[fM,am,seval,reduceCtorEq]) (fun hf=>by cases hf) (fun _=>?_);refine aB.skip ?_;refine hK _ ?_;clear hK;refine aB.eD fun Z1 hZ1=>?_;simp only[nQ,am,seval,reduceCtorEq];refine hZ1 _ ?_;clear hZ1 Z1;refine aB.eD fun Z1 hZ1=>?_;simp only[nQ,Kj,dJ,cU,fI,ne_eq,eJ,h89,h89.symm,h8a,h8a.symm,h8b,h8b.symm,h9a,h9a.symm,h9b,h9b.symm,hab,hab.symm,bF,bS,Nat.reduceAdd,am,seval,reduceCtorEq];refine hZ1 _ ?_;clear hZ1 Z1;refine aB.fW fun Z1 hZ1=>?_
 simp only[Om,Pg,Fs,kQ,dJ,cU,fI,ne_eq,eJ,h89,h89.symm,h8a,h8a.symm,h8b,h8b.symm,h9a,h9a.symm,h9b,h9b.symm,hab,hab.symm,bF,bS,Nat.reduceAdd,am,seval,reduceCtorEq];refine hZ1 _ ?_;clear hZ1 Z1;refine⟨.inl rfl,rfl,⟨fun k=>.inl ?_,fun _=>.inl rfl⟩⟩;simp only[aL.aU,cA]<;>(repeat' split)<;>first|with_reducible rfl|(simp_all;done)|(simp_all [aA.z,aA.aC];done)
def aBd {G:bC} {s:aL} {w:World} {b8 b9 b10:Nat} (hh:cS G s w):CallsDIn Fence.wide 0 prog 77 #[jI b8,jI b10,jI b9] .returning w fun en u' w'=>(∃v,en= .returned v)∧u'= .returning∧∃G',dD G s w G' s w'∧cS G' s w':=by
 refine AI (fn:=f77) (args:=[.ptr b8 0,.ptr b10 0,.ptr b9 0]) (rv:=.nilIface) func77 rfl rfl rfl rfl rfl rfl rfl rfl (fun c₀ cs hu=>.inr ⟨by simp[recoverD,hu],rfl,rfl⟩) hh (bZ.cons (.ptr b8 0) (bZ.cons (.ptr b10 0) (bZ.cons (.ptr b9 0) (bZ.nil G)))) (by show 3<=24;decide) (by rw[ntmps77];decide) (by rw[ntmps77];decide) ?_;rw[ntmps77];refine aB.eD fun Z1 hZ1=>?_;simp only[underlying20,Ft,am,seval,reduceCtorEq];refine hZ1 _ ?_;clear hZ1 Z1;refine aB.cond (t:=false) (by simp only[am,seval,reduceCtorEq]) (fun hf=>by cases hf) (fun _=>?_);exact aB.skip ⟨.inl rfl,rfl,aL.le.refl _⟩
def m8 {l:List aP} {a p:Int} {k:FuncId} {R:aD->Option (PX (Int×aD) (aA×aD))} (hR:∀m r,R m=some r->yN prog k (fun b0=>[.ptr b0 0]) (qU 149) r (fun y=>.agg y.1.v) (rB m) (fun q=>(rB q.2)) (fun y=>(rB y.2)))
 (y:aA×aD×Int) (hy:Ia R l a p=some y) (s:aL):mY prog 41 [.slice 3 (l.map aP.v),aI a,aI p,.func k [] []] s fun v' s'=>∃b,s.box b=none∧v'= .tuple [.agg y.1.v,.ptr b 0,aI y.2.2]∧s'=s.aU b (rB y.2.1):=by
 unfold Ia at hy;obtain⟨r,hr,hy⟩:=Qo.1 hy;have hc:=hR _ r hr;refine RV (fn:=f41) func41 rfl (by decide) (by show 4<=25;decide) ?_;rw[ntmps41];refine mT.seqA (fun st'=>st'.le (bN [(0,.slice 3 (l.map aP.v)),(1,aI a),(2,aI p),(3,.func k [] []),(8,.loc 8 0),(9,.loc 9 0),(10,.loc 10 0)] [(8,([.base (.int .i64 0),.base (.bool false),.base (.string bO),.base (.string bO),.base (.int .i64 0),.base (.int .i64 0),.base (.int .i64 0),.base (.string bO),.nil,.nil],29)),(9,([.base (.pointer none)],53)),(10,([aI 0],30))] s 25)) rfl ?_ ?_
 ·refine aB.fW fun Z1 hZ1=>?_;simp only[nQ,Fs,Kj,am,seval,reduceCtorEq];refine hZ1 _ ⟨rfl,?_⟩;refine qY ?_ ?_ ?_ (aL.le.refl _) rfl
  ·simp only[jK,am,seval,reduceCtorEq]<;>simp
  ·simp only[gB,iG,Nat.reduceBEq,kJ,kI,jE,and_self]
  ·simp only[jL,am,seval,reduceCtorEq]<;>simp
 intro st1 hle1;refine mT.weaken hle1 ?_;clear hle1 st1;refine mT.cM (t0:=8) (x:=([.base (.int .i64 0),.base (.bool false),.base (.string bO),.base (.string bO),.base (.int .i64 0),.base (.int .i64 0),.base (.int .i64 0),.base (.string bO),.nil,.nil],29)) (by simp only[am,seval,reduceCtorEq]) fun b8 n8=>?_;refine mT.weaken (st':=bN [(0,.slice 3 (l.map aP.v)),(1,aI a),(2,aI p),(3,.func k [] []),(8,.ptr b8 0),(9,.loc 9 0),(10,.loc 10 0)] [(9,([.base (.pointer none)],53)),(10,([aI 0],30))] (s.aU b8 ([.base (.int .i64 0),.base (.bool false),.base (.string bO),.base (.string bO),.base (.int .i64 0),.base (.int .i64 0),.base (.int .i64 0),.base (.string bO),.nil,.nil],29)) 25) ?_ ?_
 ·refine qY ?_ ?_ ?_ (aL.le.refl _) rfl
  ·simp only[jK,St.cM,jH,am,seval,reduceCtorEq]<;>simp
  ·simp only[gB,iG,Nat.reduceBEq,kJ,kI,jE,and_self]
  ·simp only[jL,St.cM,jH,am,seval,reduceCtorEq]<;>simp
 refine mT.cM (t0:=9) (x:=([.base (.pointer none)],53)) (by simp only[am,seval,reduceCtorEq]) fun b9 n9=>?_;refine mT.weaken (st':=bN [(0,.slice 3 (l.map aP.v)),(1,aI a),(2,aI p),(3,.func k [] []),(8,.ptr b8 0),(9,.ptr b9 0),(10,.loc 10 0)] [(10,([aI 0],30))] ((s.aU b8 ([.base (.int .i64 0),.base (.bool false),.base (.string bO),.base (.string bO),.base (.int .i64 0),.base (.int .i64 0),.base (.int .i64 0),.base (.string bO),.nil,.nil],29)).aU b9 ([.base (.pointer none)],53)) 25) ?_ ?_
 ·refine qY ?_ ?_ ?_ (aL.le.refl _) rfl
  ·simp only[jK,St.cM,jH,am,seval,reduceCtorEq]<;>simp
  ·simp only[gB,iG,Nat.reduceBEq,kJ,kI,jE,and_self]
  ·simp only[jL,St.cM,jH,am,seval,reduceCtorEq]<;>simp
 refine mT.cM (t0:=10) (x:=([aI 0],30)) (by simp only[am,seval,reduceCtorEq]) fun b10 n10=>?_;refine mT.weaken (st':=bN [(0,.slice 3 (l.map aP.v)),(1,aI a),(2,aI p),(3,.func k [] []),(8,.ptr b8 0),(9,.ptr b9 0),(10,.ptr b10 0)] [] (((s.aU b8 ([.base (.int .i64 0),.base (.bool false),.base (.string bO),.base (.string bO),.base (.int .i64 0),.base (.int .i64 0),.base (.int .i64 0),.base (.string bO),.nil,.nil],29)).aU b9 ([.base (.pointer none)],53)).aU b10 ([aI 0],30)) 25) ?_ ?_
 ·refine qY ?_ ?_ ?_ (aL.le.refl _) rfl
  ·simp only[jK,St.cM,jH,am,seval,reduceCtorEq]<;>simp
  ·simp only[gB,iG,Nat.reduceBEq,kJ,kI,jE,and_self]
  ·simp only[jL,St.cM,jH,am,seval,reduceCtorEq]<;>simp
 change s.box b8=none at n8;change (s.aU b8 _).box b9=none at n9;change ((s.aU b8 _).aU b9 _).box b10=none at n10;have h89:b8≠b9:=fun e=>by subst e;rw[dJ] at n9;cases n9
 rw[cU h89.symm] at n9;have h9a:b9≠b10:=fun e=>by subst e;rw[dJ] at n10;cases n10
 rw[cU h9a.symm] at n10;have h8a:b8≠b10:=fun e=>by subst e;rw[dJ] at n10;cases n10
 rw[cU h8a.symm] at n10;refine mT.seqA (fun st'=>∃b19,s.box b19=none∧b8≠b19∧b9≠b19∧b10≠b19∧st'.le (bN [(3,.func k [] []),(8,.ptr b8 0),(9,.ptr b9 0),(10,.ptr b10 0)] [] ((((s.aU b8 ([.base (.int .i64 0),.base (.bool false),.base (.string bO),.base (.string bO),.base (.int .i64 0),.base (.int .i64 0),.base (.int .i64 0),.base (.string bO),.nil,.nil],29)).aU b9 ([.ptr b19 0],53)).aU b10 ([aI 0],30)).aU b19 ([.slice 3 (List.map aP.v (aD.mk l (dW (kD a 0) (l.length:Int)) p).l),aI (aD.mk l (dW (kD a 0) (l.length:Int)) p).at_,aI (aD.mk l (dW (kD a 0) (l.length:Int)) p).params],93)) 25)) rfl ?_ ?_
 ·refine aB.regX1 8 rfl (by decide+kernel) fun Z1 hZ1=>?_;simp only[Pg,kQ,vW,qO,qN,qM,am,seval,reduceCtorEq];refine⟨by simp only[gA,am,seval,reduceCtorEq],_,VV (d:=19) rfl rfl (by simp only[am,seval,reduceCtorEq]) (by show 19<25;decide) (by simp only[am,seval,reduceCtorEq]),?_⟩;rintro _ ⟨b19,n19,rfl⟩;change (((s.aU b8 _).aU b9 _).aU b10 _).box b19=none at n19;have hab:b10≠b19:=fun e=>by subst e;rw[dJ] at n19;cases n19
  rw[cU hab.symm] at n19;have h9b:b9≠b19:=fun e=>by subst e;rw[dJ] at n19;cases n19
  rw[cU h9b.symm] at n19;have h8b:b8≠b19:=fun e=>by subst e;rw[dJ] at n19;cases n19
  rw[cU h8b.symm] at n19;simp only[St.cM,jH,Fs,sE,sD,oY,dJ,cU,ne_eq,eJ,h89,h89.symm,h8a,h8a.symm,h8b,h8b.symm,h9a,h9a.symm,h9b,h9b.symm,hab,hab.symm,am,seval,reduceCtorEq];refine hZ1 _ ⟨rfl,b19,n19,h8b,h9b,hab,?_⟩;refine qY ?_ ?_ ?_ ⟨fun k=>.inl ?_,fun _=>.inl rfl⟩ rfl
  ·simp only[jK,am,seval,reduceCtorEq]<;>simp
  ·simp only[gB,iG,Nat.reduceBEq,kJ,kI,jE,and_self]
  ·simp only[jL,am,seval,reduceCtorEq]<;>simp
  ·simp only[aL.aU,cA]<;>(repeat' split)<;>first|with_reducible rfl|(simp_all;done)
 rintro st2 ⟨b19,n19,h8b,h9b,hab,hle2⟩;have hN:=ai h89<|ai h89.symm<|ai h8a<|ai h8a.symm<|ai h8b<|ai h8b.symm<|ai h9a<|ai h9a.symm<|ai h9b<|ai h9b.symm<|ai hab<|hab.symm;refine mT.weaken hle2 ?_;clear hle2 st2;refine mT.defer (bs:=[b8,b10,b9]) (fun v s'=>∃q,r= .bad q∧v=qU 149 q.1∧s'=((((s.aU b8 ([.base (.int .i64 0),.base (.bool false),.base (.string bO),.base (.string bO),.base (.int .i64 0),.base (.int .i64 0),.base (.int .i64 0),.base (.string bO),.nil,.nil],29)).aU b9 ([.ptr b19 0],53)).aU b10 ([aI 0],30)).aU b19 (rB q.2))) rfl rfl rfl rfl rfl rfl (by simp only[am,seval,reduceCtorEq]) rfl (by show 20<25;decide) rfl fun e ac w ht hp hin=>?_;obtain⟨G0,be0,hX0,hR0⟩:=hin;refine wp_seq (wp_mono (KQ [(8,jI b8),(9,jI b9),(10,jI b10)] [8,9,10] rfl (Q:=fun x st'=>x= .normal∧st'.ds=[]∧∃y',r= .ok y'∧st'.s.le ((((s.aU b8 (y'.1.v,29)).aU b9 ([.ptr b19 0],53)).aU b10 ([aI 0],30)).aU b19 (rB y'.2))) mixed (.both (.op 0 (.both (.op 1 (.both (.op 2 (.both (.op 3 (.op 4 (.op 5 (.op 6 .fin)))) (.op 4 (.op 3 (.op 5 (.op 6 .fin)))))) (.op 3 (.op 2 (.op 4 (.op 5 (.op 6 .fin))))))) (.op 3 (.op 1 (.op 2 (.op 4 (.op 5 (.op 6 .fin)))))))) (.both (.op 1 (.both (.op 0 (.both (.op 2 (.both (.op 3 (.op 4 (.op 5 (.op 6 .fin)))) (.op 4 (.op 3 (.op 5 (.op 6 .fin)))))) (.op 3 (.op 2 (.op 4 (.op 5 (.op 6 .fin))))))) (.op 3 (.op 0 (.op 2 (.op 4 (.op 5 (.op 6 .fin)))))))) (.op 3 (.both (.op 0 (.op 1 (.op 2 (.op 4 (.op 5 (.op 6 .fin)))))) (.op 1 (.op 0 (.op 2 (.op 4 (.op 5 (.op 6 .fin)))))))))) (by decide+kernel) (by decide+kernel) ?_ ⟨G0,be0,hX0,hR0⟩ (fun Z1 hZ1=>?_)) fun x a' w' hq=>?_)
 ·intro t ht;simp only[oR,List.not_mem_nil,or_false] at ht;rcases ht with rfl|rfl|rfl
  ·exact Sq hR0 (by simp only[am,seval,reduceCtorEq])
  ·exact Sq hR0 (by simp only[am,seval,reduceCtorEq])
  ·exact Sq hR0 (by simp only[am,seval,reduceCtorEq])
 ·
   (try simp only[fZ,fX,fY,hN,tj,tk,Nat.reduceAdd,Nat.reduceLeDiff,am,seval,reduceCtorEq]);refine sQ ?_ ?_
   ·
     (try simp only[fZ,fX,fY,hN,tj,tk,Nat.reduceAdd,Nat.reduceLeDiff,am,seval,reduceCtorEq]);refine sQ ?_ ?_
     ·
       (try simp only[fZ,fX,fY,hN,tj,tk,Nat.reduceAdd,Nat.reduceLeDiff,am,seval,reduceCtorEq]);refine sQ ?_ ?_
       ·
         (try simp only[fZ,fX,fY,hN,tj,tk,Nat.reduceAdd,Nat.reduceLeDiff,am,seval,reduceCtorEq]);refine(hc _ b19 (by simp only[dJ,cU,ne_eq,eJ,hN])).mono ?_ ?_
         ·rintro _ _ ⟨q,hq,rfl,rfl⟩;exact⟨_,aL.le.refl _,q,hq,rfl,wP⟩
         rintro _ _ ⟨y',hy',rfl,rfl⟩;(try simp only[fZ,fX,fY,hN,tj,tk,Nat.reduceAdd,Nat.reduceLeDiff,am,seval,reduceCtorEq]);refine sQ ?_ ?_
         ·
           (try simp only[fZ,fX,fY,hN,tj,tk,Nat.reduceAdd,Nat.reduceLeDiff,am,seval,reduceCtorEq]);refine hZ1 _ ⟨rfl,rfl,y',hy',⟨fun k=>.inl ?_,fun _=>.inl rfl⟩⟩;simp only[aL.aU,cA]<;>(repeat' split)<;>first|with_reducible rfl|(simp_all;done)
         ·
           (try simp only[fZ,fX,fY,hN,tj,tk,Nat.reduceAdd,Nat.reduceLeDiff,am,seval,reduceCtorEq]);refine hZ1 _ ⟨rfl,rfl,y',hy',⟨fun k=>.inl ?_,fun _=>.inl rfl⟩⟩;simp only[aL.aU,cA]<;>(repeat' split)<;>first|with_reducible rfl|(simp_all;done)
       ·
         (try simp only[fZ,fX,fY,hN,tj,tk,Nat.reduceAdd,Nat.reduceLeDiff,am,seval,reduceCtorEq]);refine(hc _ b19 (by simp only[dJ,cU,ne_eq,eJ,hN])).mono ?_ ?_
         ·rintro _ _ ⟨q,hq,rfl,rfl⟩;exact⟨_,aL.le.refl _,q,hq,rfl,wP⟩
         rintro _ _ ⟨y',hy',rfl,rfl⟩;(try simp only[fZ,fX,fY,hN,tj,tk,Nat.reduceAdd,Nat.reduceLeDiff,am,seval,reduceCtorEq]);refine hZ1 _ ⟨rfl,rfl,y',hy',⟨fun k=>.inl ?_,fun _=>.inl rfl⟩⟩;simp only[aL.aU,cA]<;>(repeat' split)<;>first|with_reducible rfl|(simp_all;done)
     ·
       (try simp only[fZ,fX,fY,hN,tj,tk,Nat.reduceAdd,Nat.reduceLeDiff,am,seval,reduceCtorEq]);refine(hc _ b19 (by simp only[dJ,cU,ne_eq,eJ,hN])).mono ?_ ?_
       ·rintro _ _ ⟨q,hq,rfl,rfl⟩;exact⟨_,aL.le.refl _,q,hq,rfl,wP⟩
       rintro _ _ ⟨y',hy',rfl,rfl⟩;(try simp only[fZ,fX,fY,hN,tj,tk,Nat.reduceAdd,Nat.reduceLeDiff,am,seval,reduceCtorEq]);refine hZ1 _ ⟨rfl,rfl,y',hy',⟨fun k=>.inl ?_,fun _=>.inl rfl⟩⟩;simp only[aL.aU,cA]<;>(repeat' split)<;>first|with_reducible rfl|(simp_all;done)
   ·
     (try simp only[fZ,fX,fY,hN,tj,tk,Nat.reduceAdd,Nat.reduceLeDiff,am,seval,reduceCtorEq]);refine sQ ?_ ?_
     ·
       (try simp only[fZ,fX,fY,hN,tj,tk,Nat.reduceAdd,Nat.reduceLeDiff,am,seval,reduceCtorEq]);refine sQ ?_ ?_
       ·
         (try simp only[fZ,fX,fY,hN,tj,tk,Nat.reduceAdd,Nat.reduceLeDiff,am,seval,reduceCtorEq]);refine sQ ?_ ?_
         ·
           (try simp only[fZ,fX,fY,hN,tj,tk,Nat.reduceAdd,Nat.reduceLeDiff,am,seval,reduceCtorEq]);refine(hc _ b19 (by simp only[dJ,cU,ne_eq,eJ,hN])).mono ?_ ?_
           ·rintro _ _ ⟨q,hq,rfl,rfl⟩;exact⟨_,aL.le.refl _,q,hq,rfl,wP⟩
           rintro _ _ ⟨y',hy',rfl,rfl⟩;(try simp only[fZ,fX,fY,hN,tj,tk,Nat.reduceAdd,Nat.reduceLeDiff,am,seval,reduceCtorEq]);refine sQ ?_ ?_
           ·
             (try simp only[fZ,fX,fY,hN,tj,tk,Nat.reduceAdd,Nat.reduceLeDiff,am,seval,reduceCtorEq]);refine hZ1 _ ⟨rfl,rfl,y',hy',⟨fun k=>.inl ?_,fun _=>.inl rfl⟩⟩;simp only[aL.aU,cA]<;>(repeat' split)<;>first|with_reducible rfl|(simp_all;done)
           ·
             (try simp only[fZ,fX,fY,hN,tj,tk,Nat.reduceAdd,Nat.reduceLeDiff,am,seval,reduceCtorEq]);refine hZ1 _ ⟨rfl,rfl,y',hy',⟨fun k=>.inl ?_,fun _=>.inl rfl⟩⟩;simp only[aL.aU,cA]<;>(repeat' split)<;>first|with_reducible rfl|(simp_all;done)
         ·
           (try simp only[fZ,fX,fY,hN,tj,tk,Nat.reduceAdd,Nat.reduceLeDiff,am,seval,reduceCtorEq]);refine(hc _ b19 (by simp only[dJ,cU,ne_eq,eJ,hN])).mono ?_ ?_
           ·rintro _ _ ⟨q,hq,rfl,rfl⟩;exact⟨_,aL.le.refl _,q,hq,rfl,wP⟩
           rintro _ _ ⟨y',hy',rfl,rfl⟩;(try simp only[fZ,fX,fY,hN,tj,tk,Nat.reduceAdd,Nat.reduceLeDiff,am,seval,reduceCtorEq]);refine hZ1 _ ⟨rfl,rfl,y',hy',⟨fun k=>.inl ?_,fun _=>.inl rfl⟩⟩;simp only[aL.aU,cA]<;>(repeat' split)<;>first|with_reducible rfl|(simp_all;done)
       ·
         (try simp only[fZ,fX,fY,hN,tj,tk,Nat.reduceAdd,Nat.reduceLeDiff,am,seval,reduceCtorEq]);refine(hc _ b19 (by simp only[dJ,cU,ne_eq,eJ,hN])).mono ?_ ?_
         ·rintro _ _ ⟨q,hq,rfl,rfl⟩;exact⟨_,aL.le.refl _,q,hq,rfl,wP⟩
         rintro _ _ ⟨y',hy',rfl,rfl⟩;(try simp only[fZ,fX,fY,hN,tj,tk,Nat.reduceAdd,Nat.reduceLeDiff,am,seval,reduceCtorEq]);refine hZ1 _ ⟨rfl,rfl,y',hy',⟨fun k=>.inl ?_,fun _=>.inl rfl⟩⟩;simp only[aL.aU,cA]<;>(repeat' split)<;>first|with_reducible rfl|(simp_all;done)
     ·
       (try simp only[fZ,fX,fY,hN,tj,tk,Nat.reduceAdd,Nat.reduceLeDiff,am,seval,reduceCtorEq]);refine sQ ?_ ?_
       ·
         (try simp only[fZ,fX,fY,hN,tj,tk,Nat.reduceAdd,Nat.reduceLeDiff,am,seval,reduceCtorEq]);refine(hc _ b19 (by simp only[dJ,cU,ne_eq,eJ,hN])).mono ?_ ?_
         ·rintro _ _ ⟨q,hq,rfl,rfl⟩;exact⟨_,aL.le.refl _,q,hq,rfl,wP⟩
         rintro _ _ ⟨y',hy',rfl,rfl⟩;(try simp only[fZ,fX,fY,hN,tj,tk,Nat.reduceAdd,Nat.reduceLeDiff,am,seval,reduceCtorEq]);refine hZ1 _ ⟨rfl,rfl,y',hy',⟨fun k=>.inl ?_,fun _=>.inl rfl⟩⟩;simp only[aL.aU,cA]<;>(repeat' split)<;>first|with_reducible rfl|(simp_all;done)
       ·
         (try simp only[fZ,fX,fY,hN,tj,tk,Nat.reduceAdd,Nat.reduceLeDiff,am,seval,reduceCtorEq]);refine(hc _ b19 (by simp only[dJ,cU,ne_eq,eJ,hN])).mono ?_ ?_
         ·rintro _ _ ⟨q,hq,rfl,rfl⟩;exact⟨_,aL.le.refl _,q,hq,rfl,wP⟩
         rintro _ _ ⟨y',hy',rfl,rfl⟩;(try simp only[fZ,fX,fY,hN,tj,tk,Nat.reduceAdd,Nat.reduceLeDiff,am,seval,reduceCtorEq]);refine hZ1 _ ⟨rfl,rfl,y',hy',⟨fun k=>.inl ?_,fun _=>.inl rfl⟩⟩;simp only[aL.aU,cA]<;>(repeat' split)<;>first|with_reducible rfl|(simp_all;done)
 have e0:(f41).results= #[.cell 8 29,.cell 9 53,.cell 10 30]:=rfl;have hinv:∀w,(invoke (.fn (.func 77) #[jI b8,jI b10,jI b9]) #[]).run prog w= .ok (.enter 77 #[jI b8,jI b10,jI b9]) w:=fun w=>by
  simp[invoke,callFunc,func77,f77]
 have hend:∀(z:List V) (m:aD) (er:Int) (G':bC) (w'':World),z.length=10->Wk (.agg z) (.agg y.1.v)->y.2=(m,er)->cS G' ((((s.aU b8 (z,29)).aU b9 ([.ptr b19 0],53)).aU b10 ([aI er],30)).aU b19 (rB m)) w''->dD e.G e.s e.w G' ((((s.aU b8 (z,29)).aU b9 ([.ptr b19 0],53)).aU b10 ([aI er],30)).aU b19 (rB m)) w''->
  (∀t∈[(8,jI b8),(9,jI b9),(10,jI b10)],a'.tmps.getD t.1 undef=t.2)->∃v,(results f41 a'.tmps).run prog w''= .ok v w''∧∃G' s' v' cv,Ending.returned v= .returned cv∧bJ G' v' cv∧dD e.G e.s e.w G' s' w''∧cS G' s' w''∧∃b,s.box b=none∧v'= .tuple [.agg y.1.v,.ptr b 0,aI y.2.2]∧s'=s.aU b (rB y.2.1):=by
  intro z m er G' w'' hz hwk hy2 hH hX hF;obtain⟨c1,r1,p1⟩:=Sf (P:=prog) (t:=29) (v:=.agg z) (cs:=z) (ty:=29) hH (hF (8,jI b8) (by simp)) (b:=b8) (by simp only[dJ,cU,ne_eq,eJ,hN]) nQ (by simp[rd,hz,nG (show z.length<=10 by omega)]);obtain⟨c2,r2,p2⟩:=Sf (P:=prog) (t:=53) (v:=.ptr b19 0) (cs:=[.ptr b19 0]) (ty:=53) hH (hF (9,jI b9) (by simp)) (b:=b9) (by simp only[dJ,cU,ne_eq,eJ,hN]) Fs rfl;obtain⟨c3,r3,p3⟩:=Sf (P:=prog) (t:=30) (v:=aI er) (cs:=[aI er]) (ty:=30) hH (hF (10,jI b10) (by simp)) (b:=b10) (by simp only[dJ,cU,ne_eq,eJ,hN]) Kj rfl;have hle:((((s.aU b8 (z,29)).aU b9 ([.ptr b19 0],53)).aU b10 ([aI er],30)).aU b19 (rB m)).le (s.aU b19 (rB m)):=by
   refine aL.le.bx ?_ _ _;exact aL.le.trans (aL.le.qP (by simp only[cU,ne_eq,eJ,hN,n10]) _) (aL.le.trans (aL.le.qP (by simp only[cU,ne_eq,eJ,hN,n9]) _) (aL.le.qP n8 _))
  refine⟨_,TU e0 r1 r2 r3,G',_,.tuple [.agg y.1.v,.ptr b19 0,aI y.2.2],_,rfl,?_,hX.weaken hle,hH.weaken hle,b19,n19,rfl,by rw[hy2]⟩;rw[hy2];exact bZ.tuple (ccs:= #[c1,c2,c3]) (bZ.cons (hwk _ _ p1) (bZ.cons p2 (bZ.cons p3 (bZ.nil G'))))
 rcases hq with⟨⟨st',⟨rfl,hds,y',hy',hle⟩,G',be,hX,hR1⟩|⟨v,G',s',rfl,hd,hX,hH,q,hq,rfl,rfl⟩,hF⟩
 ·refine wp_ret ?_;show LeavesInM Fence.wide 0 prog _ a'.tmps _ a'.defers .returning w';have hd:a'.defers=[{ target:=.fn (.func 77) #[jI b8,jI b10,jI b9],args:= #[] }]:=by rw[show a'.defers=st'.ds++_ from hR1.df.eq,hds];rfl
  rw[hd];subst hy';cases hy
  refine⟨by simp,.inr ⟨fun h=>by simp[Fence.wide] at h,_,_,77,_,rfl,hinv w',fun _ _=>trivial,(aBd (hR1.hr.weaken hle)).mono ?_⟩⟩;rintro en u' w'' ⟨⟨v,rfl⟩,rfl,G'',hX2,hH2⟩;exact hend _ _ _ G'' w'' (by simp only[aA.vs]) (Wk.refl _) rfl hH2 ((hX.weaken hle).trans hX2) (hF (.inl rfl))
 ·show LeavesInM Fence.wide 0 prog _ a'.tmps _ a'.defers (.panicking _) w';rw[hd];subst hq;cases hy
  refine⟨by simp,.inr ⟨fun h=>by simp[Fence.wide] at h,_,_,77,_,rfl,hinv w',fun _ _=>trivial,(aBe h89 h8a h8b h9a h9b hab hH).mono ?_⟩⟩;rintro en u' w'' ⟨⟨v,rfl⟩,rfl,G'',hX2,hH2⟩;exact hend _ (aD.mk q.2.l q.1 q.2.params) 260 G'' w'' rfl (Wk.agg (by rw[aA.aC];exact⟨Wk.refl _,Wk.refl _,Wk.refl _,Wk.refl _,Wk.refl _,Wk.refl _,Wk.refl _,Wk.refl _,Wk.nil _,Wk.nil _,trivial⟩)) rfl hH2 (hX.trans hX2) (hF (.inr ⟨_,rfl⟩))
def gX (x0:ByteArray):Option (Bool):=(join (fun u4=>(aE (x0.data.toList==(bm #[]).data.toList) (u4 true) (aE (decide ((x0.size:Int)>32)) (u4 true) (aR (0<=(0:Int)∧(0:Int)<(x0.size:Int)) (call (rG ((x0.data.toList.getD 0 0).toNat:Int)) fun y8=>(u4 (!y8))))))) (fun(q3:Bool)=>(aE q3 (some false) (call (kA x0) fun y10=>(join (fun u13=>(aE (!y10.2) (call (Ae x0 0) fun y15=>(u13 (y15==(x0.size:Int)))) (u13 false))) (fun(q12:Bool)=>(some q12)))))))
def uS (x0:ByteArray) (r:Bool) (h:gX x0=some r):cG prog 80 [aM x0] (aY r):=by
 intro s;unfold gX at h;refine ac func80 ntmps80 ?_;refine rg ?_;apply aB.seq;refine jn h (fun q3=>bN [(0,aM x0),(17,aY q3)] [] s 32) (fun u4 h=>?_) ?_
 ·refine wy h (fun hg5 h=>?_) fun hg5 h=>?_
  ·refine bU hg5 ?_;exact⟨true,h,bB hg5⟩
  ·refine wy h (fun hg6 h=>?_) fun hg6 h=>?_
   ·refine bU (ai hg5<|hg6) ?_;exact⟨true,h,bB (ai hg5<|hg6)⟩
   ·obtain⟨hn7,h⟩:=aV h;refine iA (ai hg5<|ai hg6<|ai (aJ hn7.1)<|(aJ hn7.2)) (Dh ((x0.data.toList.getD 0 0).toNat:Int)) h fun y8 _ h=>?_;exact⟨(!y8),h,bB (ai hg5<|hg6)⟩
 ·rintro v2 h;refine wz h (fun h=>?_) fun h=>?_
  ·refine rg ?_;cases h;exact aB.ret (bM [.tmp 2])
  ·apply sK;refine dH (II x0) h fun y10 _ h=>?_;refine jn h (fun q12=>bN [(2,aY q12)] [] s 32) (fun u13 h=>?_) ?_
   ·refine wy h (fun hg14 h=>?_) fun hg14 h=>?_
    ·refine iA hg14 (aCd x0 0) h fun y15 _ h=>?_;exact⟨(y15==(x0.size:Int)),h,bB hg14⟩
    ·refine bU hg14 ?_;exact⟨false,h,bB hg14⟩
   ·rintro v11 h;cases h;exact aB.ret (bM [.tmp 2])
def yP (m0:aD):Option (Bool×aD):=(join (fun u4=>(aE (decide (m0.at_<(m0.l.length:Int))) (aR (0<=m0.at_∧m0.at_<(m0.l.length:Int)) (aE (((m0.l.getD m0.at_.toNat aP.z).kind)==1) (aR (0<=m0.at_∧m0.at_<(m0.l.length:Int)) (call (gX ((m0.l.getD m0.at_.toNat aP.z).text)) fun y11=>(u4 (y11,m0)))) (u4 (false,m0)))) (u4 (false,m0)))) (fun(q3:Bool×aD)=>(some (q3.1,q3.2))))
def yR (m0:aD) (r:Bool×aD) (h:yP m0=some r):sX prog 138 (fun b0=>[.ptr b0 0]) (aY r.1) (rB m0) (rB r.2):=by
 refine uW fun s b0=>?_;unfold yP at h;refine ac func138 ntmps138 ?_;refine rg ?_;refine jn h (fun q3=>bN [(2,aY q3.1)] [] (s.aU b0 (rB q3.2)) 41) (fun u4 h=>?_) ?_
 ·refine wy h (fun hg5 h=>?_) fun hg5 h=>?_
  ·obtain⟨hn7,h⟩:=aV h;refine wy h (fun hg8 h=>?_) fun hg8 h=>?_
   ·obtain⟨hn10,h⟩:=aV h;refine Um [0,1,2,3,4,5,6,7,8,9,10,11,12,13,14,15,16,17,18,19,20,21,22,23,24,25,26,27,28,29,30,31,32,33,34,35,36,37,38] [] (ai hg5<|ai (aJ hn7.1)<|ai (aJ hn7.2)<|ai (bW aP.v aP.z hn7)<|ai hg8<|ai (aJ hn10.1)<|ai (aJ hn10.2)<|(bW aP.v aP.z hn10)) (uS ((m0.l.getD m0.at_.toNat aP.z).text)) h fun y11 _ h=>?_;exact⟨(y11,m0),h,bB (ai hg5<|hg8)⟩
   ·refine xK [0,1,2,3,4,5,6,7,8,9,10,11,12,13,14,15,16,17,18,19,20,21,22,23,24,25,26,27,28,29,30,31,32,33,34,35,36,37,38] [] (ai hg5<|ai (aJ hn7.1)<|ai (aJ hn7.2)<|ai (bW aP.v aP.z hn7)<|hg8) ?_;exact⟨(false,m0),h,bB (ai hg5<|hg8)⟩
  ·refine xK [0,1,2,3,4,5,6,7,8,9,10,11,12,13,14,15,16,17,18,19,20,21,22,23,24,25,26,27,28,29,30,31,32,33,34,35,36,37,38] [] hg5 ?_;exact⟨(false,m0),h,bB hg5⟩
 ·rintro⟨v1,w2⟩ h;(try dsimp only at h ⊢);cases h;exact aB.ret (bM [.tmp 2])
def yO (m0:aD):Option (ByteArray×aD):=(aR (0<=(i64.wrap ((i64.wrap (m0.at_+1))-1))∧(i64.wrap ((i64.wrap (m0.at_+1))-1))<(m0.l.length:Int)) (some ((m0.l.getD (i64.wrap ((i64.wrap (m0.at_+1))-1)).toNat aP.z).text,(aD.mk m0.l (i64.wrap (m0.at_+1)) m0.params))))
def Oc (m0:aD) (r:ByteArray×aD) (h:yO m0=some r):sX prog 139 (fun b0=>[.ptr b0 0]) (aM r.1) (rB m0) (rB r.2):=by
 refine uW fun s b0=>?_;unfold yO at h;refine ac func139 ntmps139 ?_;refine rg ?_;refine bG (@aD.aC) ?_;refine hL (s':=(s.aU b0 ([.slice 3 (m0.l.map aP.v),aI (i64.wrap (m0.at_+1)),aI m0.params],93))) ?_;obtain⟨hn2,h⟩:=aV h;refine Au [0,1,2,3,4,5,6,7,8,9,10,11,12] [] (ai (@aD.aC)<|ai (aJ hn2.1)<|ai (aJ hn2.2)<|(bW aP.v aP.z hn2)) ?_;cases h;exact aB.ret (iT @aD.aC [.tmp 2])
def Ac (m0:aD):Option (Bool×aD):=(join (fun u4=>(call (pC 0 m0) fun y5=>(aE (y5.1.data.toList==(bm #[83,69,76,69,67,84]).data.toList) (u4 (true,y5.2)) (call (pC 0 y5.2) fun y7=>(u4 ((y7.1.data.toList==(bm #[86,65,76,85,69,83]).data.toList),y7.2)))))) (fun(q3:Bool×aD)=>(some (q3.1,q3.2))))
def EV (m0:aD) (r:Bool×aD) (h:Ac m0=some r):sX prog 185 (fun b0=>[.ptr b0 0]) (aY r.1) (rB m0) (rB r.2):=by
 refine uW fun s b0=>?_;unfold Ac at h;refine ac func185 ntmps185 ?_;refine rg ?_;refine jn h (fun q3=>bN [(2,aY q3.1)] [] (s.aU b0 (rB q3.2)) 11) (fun u4 h=>?_) ?_
 ·obtain⟨y5,hy5,h⟩:=cC h;refine wy h (fun hg6 h=>?_) fun hg6 h=>?_
  ·refine kO hg6 (tB 0 m0 _ hy5) ?_;exact⟨(true,y5.2),h,bB hg6⟩
  ·refine rC hg6 (tB 0 m0 _ hy5) (tB 0 y5.2) h fun y7 _ h=>?_;exact⟨((y7.1.data.toList==(bm #[86,65,76,85,69,83]).data.toList),y7.2),h,bB hg6⟩
 ·rintro⟨v1,w2⟩ h;(try dsimp only at h ⊢);cases h;exact aB.ret (bM [.tmp 2])
def oX (x0:Int):Option (Int):=(some (zJ .u8 x0 32))
def oK (x0:Int) (r:Int) (h:oX x0=some r):cG prog 238 [.base (.int .u8 x0)] (.base (.int .u8 r)):=by
 intro s;unfold oX at h;refine ac func238 ntmps238 ?_;refine rg ?_;refine rg ?_;cases h;exact aB.ret (bM [.tmp 2])
def Pl (x0:ByteArray):Option (Bool):=(join (fun u3=>(join (fun u6=>(aE (decide ((x0.size:Int)>=1)) (aR (0<=(0:Int)∧(0:Int)<(x0.size:Int)) (aE (((x0.data.toList.getD 0 0).toNat:Int)==45) (u6 true) (aR (0<=(0:Int)∧(0:Int)<(x0.size:Int)) (u6 (((x0.data.toList.getD 0 0).toNat:Int)==43))))) (u6 false))) (fun(q5:Bool)=>(aE q5 (aR (0<=(1:Int)∧(1:Int)<=(x0.size:Int)∧(x0.size:Int)<=(x0.size:Int)) (u3 (x0.extract 1 (x0.size:Int).toNat))) (u3 x0))))) (fun(q2:ByteArray)=>(join (fun u17=>(join (fun u20=>(aE (decide ((q2.size:Int)>=2)) (aR (0<=(0:Int)∧(0:Int)<(q2.size:Int)) (aE (((q2.data.toList.getD 0 0).toNat:Int)==48) (aR (0<=(1:Int)∧(1:Int)<(q2.size:Int)) (call (oX ((q2.data.toList.getD 1 0).toNat:Int)) fun y25=>(aE (y25==98) (u20 true) (aR (0<=(1:Int)∧(1:Int)<(q2.size:Int)) (call (oX ((q2.data.toList.getD 1 0).toNat:Int)) fun y28=>(aE (y28==111) (u20 true) (aR (0<=(1:Int)∧(1:Int)<(q2.size:Int)) (call (oX ((q2.data.toList.getD 1 0).toNat:Int)) fun y31=>(u20 (y31==120)))))))))) (u20 false))) (u20 false))) (fun(q19:Bool)=>(aE q19 (aR (0<=(1:Int)∧(1:Int)<(q2.size:Int)) (call (oX ((q2.data.toList.getD 1 0).toNat:Int)) fun y34=>(u17 (48,2,(y34==120))))) (u17 (94,0,false)))))) (fun(q16:Int×Int×Bool)=>(cF (fun u39 (q38:Int×Int)=>(aE (decide (q38.2<(q2.size:Int))) (join (fun u44=>(join (fun u48=>(aR (0<=q38.2∧q38.2<(q2.size:Int)) (aE (decide ((48:Int)<=((q2.data.toList.getD q38.2.toNat 0).toNat:Int))) (aR (0<=q38.2∧q38.2<(q2.size:Int)) (aE (decide (((q2.data.toList.getD q38.2.toNat 0).toNat:Int)<=57)) (u48 true) (aE q16.2.2 (aR (0<=q38.2∧q38.2<(q2.size:Int)) (call (oX ((q2.data.toList.getD q38.2.toNat 0).toNat:Int)) fun y55=>(aE (decide ((97:Int)<=y55)) (aR (0<=q38.2∧q38.2<(q2.size:Int)) (call (oX ((q2.data.toList.getD q38.2.toNat 0).toNat:Int)) fun y58=>(u48 (decide (y58<=102))))) (u48 false)))) (u48 false)))) (aE q16.2.2 (aR (0<=q38.2∧q38.2<(q2.size:Int)) (call (oX ((q2.data.toList.getD q38.2.toNat 0).toNat:Int)) fun y61=>(aE (decide ((97:Int)<=y61)) (aR (0<=q38.2∧q38.2<(q2.size:Int)) (call (oX ((q2.data.toList.getD q38.2.toNat 0).toNat:Int)) fun y64=>(u48 (decide (y64<=102))))) (u48 false)))) (u48 false))))) (fun(q47:Bool)=>(aE q47 (u44 48) (aR (0<=q38.2∧q38.2<(q2.size:Int)) (aE (((q2.data.toList.getD q38.2.toNat 0).toNat:Int)==95) (aE (q38.1 != 48) (some false) (u44 95)) (aE (q38.1==95) (some false) (u44 33)))))))) (fun(q43:Int)=>(u39 (q43,(i64.wrap (q38.2+1)))))) (some (q38.1 != 95)))) bQ (q16.1,q16.2.1))))))
def aG0 (x0:ByteArray) (r:Bool) (h:Pl x0=some r):cG prog 239 [aM x0] (aY r):=by
 intro s;unfold Pl at h;refine ac func239 ntmps239 ?_;refine rg ?_;refine rg ?_;refine rg ?_;refine jn h (fun q2=>bN [(0,aM q2),(3,.base (.int .i32 94)),(4,aI 0)] [] s 94) (fun u3 h=>?_) ?_
 ·refine jn h (fun q5=>bN [(0,aM x0),(3,.base (.int .i32 94)),(4,aI 0),(18,aY q5)] [] s 94) (fun u6 h=>?_) ?_
  ·refine wy h (fun hg7 h=>?_) fun hg7 h=>?_
   ·obtain⟨hn8,h⟩:=aV h;refine wy h (fun hg9 h=>?_) fun hg9 h=>?_
    ·refine bU (ai hg7<|ai (aJ hn8.1)<|ai (aJ hn8.2)<|hg9) ?_;exact⟨true,h,bB (ai hg7<|hg9)⟩
    ·obtain⟨hn10,h⟩:=aV h;refine bU (ai hg7<|ai (aJ hn8.1)<|ai (aJ hn8.2)<|ai hg9<|ai (aJ hn10.1)<|(aJ hn10.2)) ?_;exact⟨(((x0.data.toList.getD 0 0).toNat:Int)==43),h,bB (ai hg7<|hg9)⟩
   ·refine bU hg7 ?_;exact⟨false,h,bB hg7⟩
  ·rintro v4 h;refine wz h (fun h=>?_) fun h=>?_
   ·obtain⟨hn12,h⟩:=aV h;refine bU (ai (aJ hn12.1)<|ai (aJ hn12.2.1)<|(aJ hn12.2.2)) ?_;exact⟨(x0.extract 1 (x0.size:Int).toNat),h,bX⟩
   ·apply sK;exact⟨x0,h,bX⟩
 ·rintro v1 h;refine rg ?_;refine jn h (fun q16=>bN [(0,aM v1),(3,.base (.int .i32 q16.1)),(4,aI q16.2.1),(5,aY q16.2.2)] [] s 94) (fun u17 h=>?_) ?_
  ·refine jn h (fun q19=>bN [(0,aM v1),(3,.base (.int .i32 94)),(4,aI 0),(5,aY false),(46,aY q19)] [] s 94) (fun u20 h=>?_) ?_
   ·refine wy h (fun hg21 h=>?_) fun hg21 h=>?_
    ·obtain⟨hn22,h⟩:=aV h;refine wy h (fun hg23 h=>?_) fun hg23 h=>?_
     ·obtain⟨hn24,h⟩:=aV h;obtain⟨y25,hy25,h⟩:=cC h;refine wy h (fun hg26 h=>?_) fun hg26 h=>?_
      ·refine kO (ai hg21<|ai (aJ hn22.1)<|ai (aJ hn22.2)<|ai hg23<|ai (aJ hn24.1)<|ai (aJ hn24.2)<|hg26) (oK ((v1.data.toList.getD 1 0).toNat:Int) _ hy25) ?_;exact⟨true,h,bB (ai hg21<|ai hg23<|hg26)⟩
      ·obtain⟨hn27,h⟩:=aV h;obtain⟨y28,hy28,h⟩:=cC h;refine wy h (fun hg29 h=>?_) fun hg29 h=>?_
       ·refine Fc (ai hg21<|ai (aJ hn22.1)<|ai (aJ hn22.2)<|ai hg23<|ai (aJ hn24.1)<|ai (aJ hn24.2)<|ai hg26<|ai (aJ hn27.1)<|ai (aJ hn27.2)<|hg29) (oK ((v1.data.toList.getD 1 0).toNat:Int) _ hy25) (oK ((v1.data.toList.getD 1 0).toNat:Int) _ hy28) ?_;exact⟨true,h,bB (ai hg21<|ai hg23<|ai hg26<|hg29)⟩
       ·obtain⟨hn30,h⟩:=aV h;refine Iy (ai hg21<|ai (aJ hn22.1)<|ai (aJ hn22.2)<|ai hg23<|ai (aJ hn24.1)<|ai (aJ hn24.2)<|ai hg26<|ai (aJ hn27.1)<|ai (aJ hn27.2)<|ai hg29<|ai (aJ hn30.1)<|(aJ hn30.2)) (oK ((v1.data.toList.getD 1 0).toNat:Int) _ hy25) (oK ((v1.data.toList.getD 1 0).toNat:Int) _ hy28) (oK ((v1.data.toList.getD 1 0).toNat:Int)) h fun y31 _ h=>?_;exact⟨(y31==120),h,bB (ai hg21<|ai hg23<|ai hg26<|hg29)⟩
     ·refine bU (ai hg21<|ai (aJ hn22.1)<|ai (aJ hn22.2)<|hg23) ?_;exact⟨false,h,bB (ai hg21<|hg23)⟩
    ·refine bU hg21 ?_;exact⟨false,h,bB hg21⟩
   ·rintro v18 h;refine wz h (fun h=>?_) fun h=>?_
    ·refine rg ?_;refine rg ?_;obtain⟨hn33,h⟩:=aV h;refine iA (ai (aJ hn33.1)<|(aJ hn33.2)) (oK ((v1.data.toList.getD 1 0).toNat:Int)) h fun y34 _ h=>?_;exact⟨(48,2,(y34==120)),h,bX⟩
    ·apply sK;exact⟨(94,0,false),h,bX⟩
  ·rintro⟨v13,v14,v15⟩ h;(try dsimp only at h ⊢);apply aB.seq;apply aB.block;refine lp h (fun q38=>bN [(0,aM v1),(3,.base (.int .i32 q38.1)),(4,aI q38.2),(5,aY v15)] [] s 94) ?_ ?_
   ·exact bX
   ·rintro u39 ⟨v36,v37⟩ h;(try dsimp only at h ⊢);apply aB.seq;refine rg ?_;refine wz h (fun h=>?_) fun h=>?_
    ·apply sK;refine jn h (fun q43=>bN [(0,aM v1),(3,.base (.int .i32 q43)),(4,aI v37),(5,aY v15)] [] s 94) (fun u44 h=>?_) ?_
     ·apply aB.block;apply aB.seq;refine jn h (fun q47=>bN [(0,aM v1),(3,.base (.int .i32 v36)),(4,aI v37),(5,aY v15),(83,aY q47)] [] s 94) (fun u48 h=>?_) ?_
      ·obtain⟨hn49,h⟩:=aV h;refine wy h (fun hg50 h=>?_) fun hg50 h=>?_
       ·obtain⟨hn51,h⟩:=aV h;refine wy h (fun hg52 h=>?_) fun hg52 h=>?_
        ·refine bU (ai (aJ hn49.1)<|ai (aJ hn49.2)<|ai hg50<|ai (aJ hn51.1)<|ai (aJ hn51.2)<|hg52) ?_;exact⟨true,h,bB (ai hg50<|hg52)⟩
        ·refine wy h (fun hg53 h=>?_) fun hg53 h=>?_
         ·obtain⟨hn54,h⟩:=aV h;obtain⟨y55,hy55,h⟩:=cC h;refine wy h (fun hg56 h=>?_) fun hg56 h=>?_
          ·obtain⟨hn57,h⟩:=aV h;refine rC (ai (aJ hn49.1)<|ai (aJ hn49.2)<|ai hg50<|ai (aJ hn51.1)<|ai (aJ hn51.2)<|ai hg52<|ai hg53<|ai (aJ hn54.1)<|ai (aJ hn54.2)<|ai hg56<|ai (aJ hn57.1)<|(aJ hn57.2)) (oK ((v1.data.toList.getD v37.toNat 0).toNat:Int) _ hy55) (oK ((v1.data.toList.getD v37.toNat 0).toNat:Int)) h fun y58 _ h=>?_;exact⟨(decide (y58<=102)),h,bB (ai hg50<|ai hg52<|ai hg53<|hg56)⟩
          ·refine kO (ai (aJ hn49.1)<|ai (aJ hn49.2)<|ai hg50<|ai (aJ hn51.1)<|ai (aJ hn51.2)<|ai hg52<|ai hg53<|ai (aJ hn54.1)<|ai (aJ hn54.2)<|hg56) (oK ((v1.data.toList.getD v37.toNat 0).toNat:Int) _ hy55) ?_;exact⟨false,h,bB (ai hg50<|ai hg52<|ai hg53<|hg56)⟩
         ·refine bU (ai (aJ hn49.1)<|ai (aJ hn49.2)<|ai hg50<|ai (aJ hn51.1)<|ai (aJ hn51.2)<|ai hg52<|hg53) ?_;exact⟨false,h,bB (ai hg50<|ai hg52<|hg53)⟩
       ·refine wy h (fun hg59 h=>?_) fun hg59 h=>?_
        ·obtain⟨hn60,h⟩:=aV h;obtain⟨y61,hy61,h⟩:=cC h;refine wy h (fun hg62 h=>?_) fun hg62 h=>?_
         ·obtain⟨hn63,h⟩:=aV h;refine rC (ai (aJ hn49.1)<|ai (aJ hn49.2)<|ai hg50<|ai hg59<|ai (aJ hn60.1)<|ai (aJ hn60.2)<|ai hg62<|ai (aJ hn63.1)<|(aJ hn63.2)) (oK ((v1.data.toList.getD v37.toNat 0).toNat:Int) _ hy61) (oK ((v1.data.toList.getD v37.toNat 0).toNat:Int)) h fun y64 _ h=>?_;exact⟨(decide (y64<=102)),h,bB (ai hg50<|ai hg59<|hg62)⟩
         ·refine kO (ai (aJ hn49.1)<|ai (aJ hn49.2)<|ai hg50<|ai hg59<|ai (aJ hn60.1)<|ai (aJ hn60.2)<|hg62) (oK ((v1.data.toList.getD v37.toNat 0).toNat:Int) _ hy61) ?_;exact⟨false,h,bB (ai hg50<|ai hg59<|hg62)⟩
        ·refine bU (ai (aJ hn49.1)<|ai (aJ hn49.2)<|ai hg50<|hg59) ?_;exact⟨false,h,bB (ai hg50<|hg59)⟩
      ·rintro v46 h;refine wz h (fun h=>?_) fun h=>?_
       ·refine rg ?_;apply aB.exit;simp only[dR,seval];exact⟨48,h,bX⟩
       ·apply sK;apply aB.seq;obtain⟨hn67,h⟩:=aV h;refine bG (ai (aJ hn67.1)<|(aJ hn67.2)) ?_;refine wz h (fun h=>?_) fun h=>?_
        ·apply aB.seq;refine rg ?_;refine wz h (fun h=>?_) fun h=>?_
         ·refine rg ?_;cases h;exact aB.ret (bM [.tmp 2])
         ·apply sK;refine rg ?_;apply aB.exit;simp only[dR,seval];exact⟨95,h,bX⟩
        ·apply sK;apply aB.seq;refine rg ?_;refine wz h (fun h=>?_) fun h=>?_
         ·refine rg ?_;cases h;exact aB.ret (bM [.tmp 2])
         ·apply sK;refine r1 ?_;exact⟨33,h,bX⟩
     ·rintro v42 h;refine r1 ?_;exact⟨(v42,(i64.wrap (v37+1))),h,bX⟩
    ·apply aB.exit;simp only[dR,seval];refine rg ?_;cases h;exact aB.ret (bM [.tmp 2])
def Cx (x0:ByteArray) (x1:Int) (x2:Int):Option (Int×Unit):=(aE (x0.data.toList==(bm #[]).data.toList) none (join (fun u6=>(join (fun u9=>(aE (decide ((2:Int)<=x1)) (u9 (decide (x1<=36))) (u9 false))) (fun(q8:Bool)=>(aE q8 (u6 (x0,x1)) (aE (x1==0) (aR (0<=(0:Int)∧(0:Int)<(x0.size:Int)) (aE (((x0.data.toList.getD 0 0).toNat:Int)==48) (join (fun u17=>(aE (decide ((x0.size:Int)>=3)) (aR (0<=(1:Int)∧(1:Int)<(x0.size:Int)) (call (oX ((x0.data.toList.getD 1 0).toNat:Int)) fun y20=>(u17 (y20==98)))) (u17 false))) (fun(q16:Bool)=>(aE q16 (aR (0<=(2:Int)∧(2:Int)<=(x0.size:Int)∧(x0.size:Int)<=(x0.size:Int)) (u6 ((x0.extract 2 (x0.size:Int).toNat),2))) (join (fun u25=>(aE (decide ((x0.size:Int)>=3)) (aR (0<=(1:Int)∧(1:Int)<(x0.size:Int)) (call (oX ((x0.data.toList.getD 1 0).toNat:Int)) fun y28=>(u25 (y28==111)))) (u25 false))) (fun(q24:Bool)=>(aE q24 (aR (0<=(2:Int)∧(2:Int)<=(x0.size:Int)∧(x0.size:Int)<=(x0.size:Int)) (u6 ((x0.extract 2 (x0.size:Int).toNat),8))) (join (fun u33=>(aE (decide ((x0.size:Int)>=3)) (aR (0<=(1:Int)∧(1:Int)<(x0.size:Int)) (call (oX ((x0.data.toList.getD 1 0).toNat:Int)) fun y36=>(u33 (y36==120)))) (u33 false))) (fun(q32:Bool)=>(aE q32 (aR (0<=(2:Int)∧(2:Int)<=(x0.size:Int)∧(x0.size:Int)<=(x0.size:Int)) (u6 ((x0.extract 2 (x0.size:Int).toNat),16))) (aR (0<=(1:Int)∧(1:Int)<=(x0.size:Int)∧(x0.size:Int)<=(x0.size:Int)) (u6 ((x0.extract 1 (x0.size:Int).toNat),8)))))))))))) (u6 (x0,10)))) none))))) (fun(q5:ByteArray×Int)=>(join (fun u42=>(aE (x2==0) (u42 64) (join (fun u46=>(aE (decide (x2<0)) (u46 true) (u46 (decide (x2>64))))) (fun(q45:Bool)=>(aE q45 none (u42 x2)))))) (fun(q41:Int)=>(join (fun u51=>(aE (q5.2==10) (u51 1844674407370955162) (aE (q5.2==16) (u51 1152921504606846976) (aR ((u64.wrap q5.2)≠0) (u51 (u64.wrap ((u64.wrap ((18446744073709551615:Int).tdiv (u64.wrap q5.2)))+1))))))) (fun(q50:Int)=>(aR (0<=(u64.wrap q41)) (aR (q5.1.size<=maxLen) (cF (fun u62 (q61:Bool×Int×Int)=>(aE (decide (q61.2.2<(((dZ q5.1).length:Nat):Int))) (join (fun u68=>(aR (0<=q61.2.2∧q61.2.2<(((dZ q5.1).length:Nat):Int)) (join (fun u74=>(join (fun u77=>(aE (((dZ q5.1).getD q61.2.2.toNat 0)==95) (u77 (x1==0)) (u77 false))) (fun(q76:Bool)=>(aE q76 (u68 (true,q61.2.1)) (join (fun u82=>(aE (decide ((48:Int)<=((dZ q5.1).getD q61.2.2.toNat 0))) (u82 (decide (((dZ q5.1).getD q61.2.2.toNat 0)<=57))) (u82 false))) (fun(q81:Bool)=>(aE q81 (u74 (q61.1,(IntKind.u8.wrap (((dZ q5.1).getD q61.2.2.toNat 0)-48)))) (join (fun u87=>(call (oX ((dZ q5.1).getD q61.2.2.toNat 0)) fun y88=>(aE (decide ((97:Int)<=y88)) (call (oX ((dZ q5.1).getD q61.2.2.toNat 0)) fun y90=>(u87 (decide (y90<=122)))) (u87 false)))) (fun(q86:Bool)=>(aE q86 (call (oX ((dZ q5.1).getD q61.2.2.toNat 0)) fun y92=>(u74 (q61.1,(IntKind.u8.wrap ((IntKind.u8.wrap (y92-97))+10))))) none)))))))))) (fun(q73:Bool×Int)=>(aE (decide (q73.2>=(IntKind.u8.wrap q5.2))) none (aE (decide (q61.2.1>=q50)) none (join (fun u100=>(aE (decide ((u64.wrap ((u64.wrap (q61.2.1*(u64.wrap q5.2)))+(u64.wrap q73.2)))<(u64.wrap (q61.2.1*(u64.wrap q5.2))))) (u100 true) (u100 (decide ((u64.wrap ((u64.wrap (q61.2.1*(u64.wrap q5.2)))+(u64.wrap q73.2)))>(u64.wrap ((mI .u64 (1:Int) (u64.wrap q41))-1))))))) (fun(q99:Bool)=>(aE q99 none (u68 (q73.1,(u64.wrap ((u64.wrap (q61.2.1*(u64.wrap q5.2)))+(u64.wrap q73.2)))))))))))))) (fun(q67:Bool×Int)=>(u62 (q67.1,q67.2,(i64.wrap (q61.2.2+1)))))) (join (fun u106=>(aE q61.1 (call (Pl x0) fun y108=>(u106 (!y108))) (u106 false))) (fun(q105:Bool)=>(aE q105 none (some (q61.2.1,()))))))) bQ (false,0,0)))))))))))
def IC (x0:ByteArray) (x1:Int) (x2:Int) (r:Int×Unit) (h:Cx x0 x1 x2=some r):cG prog 234 [aM x0,aI x1,aI x2] (.tuple [.base (.int .u64 r.1),.base .nilIface]):=by
 intro s;unfold Cx at h;refine ac func234 ntmps234 ?_;refine rg ?_;apply aB.seq;refine rg ?_;refine wz h (fun h=>?_) fun h=>?_
 ·refine rg ?_;cases h
 ·apply sK;refine rg ?_;refine rg ?_;refine jn h (fun q5=>bN [(0,aM q5.1),(1,aI q5.2),(2,aI x2),(8,aY (x1==0)),(9,aM x0)] [] s 172) (fun u6 h=>?_) ?_
  ·apply aB.block;refine jn h (fun q8=>bN [(0,aM x0),(1,aI x1),(2,aI x2),(8,aY (x1==0)),(9,aM x0),(25,aY q8)] [] s 172) (fun u9 h=>?_) ?_
   ·refine wy h (fun hg10 h=>?_) fun hg10 h=>?_
    ·refine bU hg10 ?_;exact⟨(decide (x1<=36)),h,bB hg10⟩
    ·refine bU hg10 ?_;exact⟨false,h,bB hg10⟩
   ·rintro v7 h;refine wz h (fun h=>?_) fun h=>?_
    ·apply sK;exact⟨(x0,x1),h,bX⟩
    ·refine rg ?_;refine wz h (fun h=>?_) fun h=>?_
     ·refine rg ?_;obtain⟨hn13,h⟩:=aV h;refine bG (ai (aJ hn13.1)<|(aJ hn13.2)) ?_;refine wz h (fun h=>?_) fun h=>?_
      ·apply aB.block;refine jn h (fun q16=>bN [(0,aM x0),(2,aI x2),(8,aY (x1==0)),(9,aM x0),(40,aY q16)] [] s 172) (fun u17 h=>?_) ?_
       ·refine wy h (fun hg18 h=>?_) fun hg18 h=>?_
        ·obtain⟨hn19,h⟩:=aV h;refine iA (ai hg18<|ai (aJ hn19.1)<|(aJ hn19.2)) (oK ((x0.data.toList.getD 1 0).toNat:Int)) h fun y20 _ h=>?_;exact⟨(y20==98),h,bB hg18⟩
        ·refine bU hg18 ?_;exact⟨false,h,bB hg18⟩
       ·rintro v15 h;refine wz h (fun h=>?_) fun h=>?_
        ·refine rg ?_;obtain⟨hn22,h⟩:=aV h;refine bU (ai (aJ hn22.1)<|ai (aJ hn22.2.1)<|(aJ hn22.2.2)) ?_;exact⟨((x0.extract 2 (x0.size:Int).toNat),2),h,bX⟩
        ·refine jn h (fun q24=>bN [(0,aM x0),(2,aI x2),(8,aY (x1==0)),(9,aM x0),(52,aY q24)] [] s 172) (fun u25 h=>?_) ?_
         ·refine wy h (fun hg26 h=>?_) fun hg26 h=>?_
          ·obtain⟨hn27,h⟩:=aV h;refine iA (ai hg26<|ai (aJ hn27.1)<|(aJ hn27.2)) (oK ((x0.data.toList.getD 1 0).toNat:Int)) h fun y28 hy28 h=>?_;exact⟨(y28==111),h,bB hg26⟩
          ·refine bU hg26 ?_;exact⟨false,h,bB hg26⟩
         ·rintro v23 h;refine wz h (fun h=>?_) fun h=>?_
          ·refine rg ?_;obtain⟨hn30,h⟩:=aV h;refine bU (ai (aJ hn30.1)<|ai (aJ hn30.2.1)<|(aJ hn30.2.2)) ?_;exact⟨((x0.extract 2 (x0.size:Int).toNat),8),h,bX⟩
          ·refine jn h (fun q32=>bN [(0,aM x0),(2,aI x2),(8,aY (x1==0)),(9,aM x0),(64,aY q32)] [] s 172) (fun u33 h=>?_) ?_
           ·refine wy h (fun hg34 h=>?_) fun hg34 h=>?_
            ·obtain⟨hn35,h⟩:=aV h;refine iA (ai hg34<|ai (aJ hn35.1)<|(aJ hn35.2)) (oK ((x0.data.toList.getD 1 0).toNat:Int)) h fun y36 _ h=>?_;exact⟨(y36==120),h,bB hg34⟩
            ·refine bU hg34 ?_;exact⟨false,h,bB hg34⟩
           ·rintro v31 h;refine wz h (fun h=>?_) fun h=>?_
            ·refine rg ?_;obtain⟨hn38,h⟩:=aV h;refine bU (ai (aJ hn38.1)<|ai (aJ hn38.2.1)<|(aJ hn38.2.2)) ?_;exact⟨((x0.extract 2 (x0.size:Int).toNat),16),h,bX⟩
            ·refine rg ?_;obtain⟨hn39,h⟩:=aV h;refine bU (ai (aJ hn39.1)<|ai (aJ hn39.2.1)<|(aJ hn39.2.2)) ?_;exact⟨((x0.extract 1 (x0.size:Int).toNat),8),h,bX⟩
      ·apply sK;exact⟨(x0,10),h,bX⟩
     ·refine rg ?_;cases h
  ·rintro⟨v3,v4⟩ h;(try dsimp only at h ⊢);refine jn h (fun q41=>bN [(0,aM v3),(1,aI v4),(2,aI q41),(8,aY (x1==0)),(9,aM x0)] [] s 172) (fun u42 h=>?_) ?_
   ·refine rg ?_;refine wz h (fun h=>?_) fun h=>?_
    ·refine r1 ?_;exact⟨64,h,bX⟩
    ·refine jn h (fun q45=>bN [(0,aM v3),(1,aI v4),(2,aI x2),(8,aY (x1==0)),(9,aM x0),(83,aY q45)] [] s 172) (fun u46 h=>?_) ?_
     ·refine wy h (fun hg47 h=>?_) fun hg47 h=>?_
      ·refine bU hg47 ?_;exact⟨true,h,bB hg47⟩
      ·refine bU hg47 ?_;exact⟨(decide (x2>64)),h,bB hg47⟩
     ·rintro v44 h;refine wz h (fun h=>?_) fun h=>?_
      ·refine rg ?_;cases h
      ·apply sK;exact⟨x2,h,bX⟩
   ·rintro v40 h;refine rg ?_;refine jn h (fun q50=>bN [(0,aM v3),(1,aI v4),(2,aI v40),(8,aY (x1==0)),(9,aM x0),(10,.base (.int .u64 q50))] [] s 172) (fun u51 h=>?_) ?_
    ·refine rg ?_;apply aB.block;refine rg ?_;refine wz h (fun h=>?_) fun h=>?_
     ·refine r1 ?_;exact⟨1844674407370955162,h,bX⟩
     ·refine rg ?_;refine wz h (fun h=>?_) fun h=>?_
      ·refine r1 ?_;exact⟨1152921504606846976,h,bX⟩
      ·obtain⟨hn54,h⟩:=aV h;refine bU (aJ hn54) ?_;exact⟨(u64.wrap ((u64.wrap ((18446744073709551615:Int).tdiv (u64.wrap v4)))+1)),h,bX⟩
    ·rintro v49 h;obtain⟨hn55,h⟩:=aV h;refine bG (aJ hn55) ?_;refine rg ?_;refine rg ?_;apply aB.seq;obtain⟨hn57,h⟩:=aV h;refine bG (aJ hn57) ?_;apply aB.block;refine lp h (fun q61=>bN [(1,aI v4),(8,aY (x1==0)),(9,aM x0),(10,.base (.int .u64 v49)),(11,.base (.int .u64 (u64.wrap ((mI .u64 (1:Int) (u64.wrap v40))-1)))),(12,aY q61.1),(13,.base (.int .u64 q61.2.1)),(99,.slice 1 (List.map (fun x=>[V.base (.int .u8 x)]) (dZ v3))),(100,aI (((dZ v3).length:Nat):Int)),(101,aI q61.2.2)] [] s 172) ?_ ?_
     ·exact bX
     ·rintro u62 ⟨v58,v59,v60⟩ h;(try dsimp only at h ⊢);refine rg ?_;apply aB.seq;refine wz h (fun h=>?_) fun h=>?_
      ·apply sK;refine jn h (fun q67=>bN [(1,aI v4),(8,aY (x1==0)),(9,aM x0),(10,.base (.int .u64 v49)),(11,.base (.int .u64 (u64.wrap ((mI .u64 (1:Int) (u64.wrap v40))-1)))),(12,aY q67.1),(13,.base (.int .u64 q67.2)),(99,.slice 1 (List.map (fun x=>[V.base (.int .u8 x)]) (dZ v3))),(100,aI (((dZ v3).length:Nat):Int)),(101,aI v60)] [] s 172) (fun u68 h=>?_) ?_
       ·apply aB.block;obtain⟨hn70,h⟩:=aV h;refine bG (ai (aJ hn70.1)<|ai (aJ hn70.2)<|(bW (fun x=>[V.base (.int .u8 x)]) 0 hn70)) ?_;refine rg ?_;refine jn h (fun q73=>bN [(1,aI v4),(8,aY (x1==0)),(9,aM x0),(10,.base (.int .u64 v49)),(11,.base (.int .u64 (u64.wrap ((mI .u64 (1:Int) (u64.wrap v40))-1)))),(12,aY q73.1),(13,.base (.int .u64 v59)),(16,.base (.int .u8 q73.2)),(99,.slice 1 (List.map (fun x=>[V.base (.int .u8 x)]) (dZ v3))),(100,aI (((dZ v3).length:Nat):Int)),(101,aI v60)] [] s 172) (fun u74 h=>?_) ?_
        ·apply aB.block;refine jn h (fun q76=>bN [(1,aI v4),(8,aY (x1==0)),(9,aM x0),(10,.base (.int .u64 v49)),(11,.base (.int .u64 (u64.wrap ((mI .u64 (1:Int) (u64.wrap v40))-1)))),(12,aY v58),(13,.base (.int .u64 v59)),(15,.base (.int .u8 ((dZ v3).getD v60.toNat 0))),(99,.slice 1 (List.map (fun x=>[V.base (.int .u8 x)]) (dZ v3))),(100,aI (((dZ v3).length:Nat):Int)),(101,aI v60),(106,aY q76)] [] s 172) (fun u77 h=>?_) ?_
         ·refine wy h (fun hg78 h=>?_) fun hg78 h=>?_
          ·refine bU hg78 ?_;exact⟨(x1==0),h,bB hg78⟩
          ·refine bU hg78 ?_;exact⟨false,h,bB hg78⟩
         ·rintro v75 h;refine wz h (fun h=>?_) fun h=>?_
          ·refine rg ?_;apply aB.exit;simp only[dR,seval];exact⟨(true,v59),h,bX⟩
          ·refine jn h (fun q81=>bN [(1,aI v4),(8,aY (x1==0)),(9,aM x0),(10,.base (.int .u64 v49)),(11,.base (.int .u64 (u64.wrap ((mI .u64 (1:Int) (u64.wrap v40))-1)))),(12,aY v58),(13,.base (.int .u64 v59)),(15,.base (.int .u8 ((dZ v3).getD v60.toNat 0))),(99,.slice 1 (List.map (fun x=>[V.base (.int .u8 x)]) (dZ v3))),(100,aI (((dZ v3).length:Nat):Int)),(101,aI v60),(112,aY q81)] [] s 172) (fun u82 h=>?_) ?_
           ·refine wy h (fun hg83 h=>?_) fun hg83 h=>?_
            ·refine bU hg83 ?_;exact⟨(decide (((dZ v3).getD v60.toNat 0)<=57)),h,bB hg83⟩
            ·refine bU hg83 ?_;exact⟨false,h,bB hg83⟩
           ·rintro v80 h;refine wz h (fun h=>?_) fun h=>?_
            ·refine r1 ?_;exact⟨(v58,(IntKind.u8.wrap (((dZ v3).getD v60.toNat 0)-48))),h,bX⟩
            ·refine jn h (fun q86=>bN [(1,aI v4),(8,aY (x1==0)),(9,aM x0),(10,.base (.int .u64 v49)),(11,.base (.int .u64 (u64.wrap ((mI .u64 (1:Int) (u64.wrap v40))-1)))),(12,aY v58),(13,.base (.int .u64 v59)),(15,.base (.int .u8 ((dZ v3).getD v60.toNat 0))),(99,.slice 1 (List.map (fun x=>[V.base (.int .u8 x)]) (dZ v3))),(100,aI (((dZ v3).length:Nat):Int)),(101,aI v60),(121,aY q86)] [] s 172) (fun u87 h=>?_) ?_
             ·obtain⟨y88,hy88,h⟩:=cC h;refine wy h (fun hg89 h=>?_) fun hg89 h=>?_
              ·refine rC hg89 (oK ((dZ v3).getD v60.toNat 0) _ hy88) (oK ((dZ v3).getD v60.toNat 0)) h fun y90 _ h=>?_;exact⟨(decide (y90<=122)),h,bB hg89⟩
              ·refine kO hg89 (oK ((dZ v3).getD v60.toNat 0) _ hy88) ?_;exact⟨false,h,bB hg89⟩
             ·rintro v85 h;refine wz h (fun h=>?_) fun h=>?_
              ·refine Wo (oK ((dZ v3).getD v60.toNat 0)) h fun y92 _ h=>?_;exact⟨(v58,(IntKind.u8.wrap ((IntKind.u8.wrap (y92-97))+10))),h,bX⟩
              ·refine rg ?_;cases h
        ·rintro⟨v71,v72⟩ h;(try dsimp only at h ⊢);apply aB.seq;refine rg ?_;refine wz h (fun h=>?_) fun h=>?_
         ·refine rg ?_;cases h
         ·apply sK;apply aB.seq;refine rg ?_;refine wz h (fun h=>?_) fun h=>?_
          ·refine rg ?_;cases h
          ·apply sK;refine rg ?_;refine rg ?_;apply aB.seq;refine jn h (fun q99=>bN [(1,aI v4),(8,aY (x1==0)),(9,aM x0),(10,.base (.int .u64 v49)),(11,.base (.int .u64 (u64.wrap ((mI .u64 (1:Int) (u64.wrap v40))-1)))),(12,aY v71),(17,.base (.int .u64 (u64.wrap ((u64.wrap (v59*(u64.wrap v4)))+(u64.wrap v72))))),(99,.slice 1 (List.map (fun x=>[V.base (.int .u8 x)]) (dZ v3))),(100,aI (((dZ v3).length:Nat):Int)),(101,aI v60),(159,aY q99)] [] s 172) (fun u100 h=>?_) ?_
           ·refine wy h (fun hg101 h=>?_) fun hg101 h=>?_
            ·refine bU hg101 ?_;exact⟨true,h,bB hg101⟩
            ·refine bU hg101 ?_;exact⟨(decide ((u64.wrap ((u64.wrap (v59*(u64.wrap v4)))+(u64.wrap v72)))>(u64.wrap ((mI .u64 (1:Int) (u64.wrap v40))-1)))),h,bB hg101⟩
           ·rintro v98 h;refine wz h (fun h=>?_) fun h=>?_
            ·refine rg ?_;cases h
            ·apply sK;refine r1 ?_;exact⟨(v71,(u64.wrap ((u64.wrap (v59*(u64.wrap v4)))+(u64.wrap v72)))),h,bX⟩
       ·rintro⟨v65,v66⟩ h;(try dsimp only at h ⊢);refine r1 ?_;exact⟨(v65,v66,(i64.wrap (v60+1))),h,bX⟩
      ·apply aB.exit;simp only[dR,seval];apply aB.seq;refine jn h (fun q105=>bN [(13,.base (.int .u64 v59)),(169,aY q105)] [] s 172) (fun u106 h=>?_) ?_
       ·refine wy h (fun hg107 h=>?_) fun hg107 h=>?_
        ·refine iA hg107 (aG0 x0) h fun y108 _ h=>?_;exact⟨(!y108),h,bB hg107⟩
        ·refine bU hg107 ?_;exact⟨false,h,bB hg107⟩
       ·rintro v104 h;refine wz h (fun h=>?_) fun h=>?_
        ·refine rg ?_;cases h
        ·apply sK;refine rg ?_;cases h;exact aB.ret (bM [.tmp 6,.tmp 7])
def Fw (x0:ByteArray) (x1:Int) (x2:Int):Option (Int×Unit):=(call (Cx x0 x1 x2) fun y1=>(some (y1.1,())))
def aG6 (x0:ByteArray) (x1:Int) (x2:Int) (r:Int×Unit) (h:Fw x0 x1 x2=some r):cG prog 229 [aM x0,aI x1,aI x2] (.tuple [.base (.int .u64 r.1),.base .nilIface]):=by
 intro s;unfold Fw at h;refine ac func229 ntmps229 ?_;refine rg ?_;refine dH (IC x0 x1 x2) h fun y1 _ h=>?_;apply aB.seq;refine bG (underlying136) ?_;refine aB.cond (t:=false) (by rfl) (fun hf=>by cases hf) (fun _=>?_);apply sK;refine rg ?_;cases h;exact aB.ret (bM [.tmp 6,.tmp 7])
def Wa (x0:Int):Option (aH):=(some (aH.mk 1 x0 bO))
def aG5 (x0:Int) (r:aH) (h:Wa x0=some r):cG prog 230 [aI x0] (.agg r.v):=by
 intro s;unfold Wa at h;refine ac func230 ntmps230 ?_;refine bG (@aH.aC) ?_;refine bG (@aH.aC) ?_;cases h;exact aB.ret (iT @aH.aC [.cell 2 25])
def Fv (x0:Int) (x1:ByteArray):Option (aH×Int):=(aE (decide ((x1.size:Int)>400)) (some ((aH.mk 0 0 bO),3)) (some ((aH.mk x0 0 x1),0)))
def IB (x0:Int) (x1:ByteArray) (r:aH×Int) (h:Fv x0 x1=some r):cG prog 236 [aI x0,aM x1] (.tuple [.agg r.1.v,aI r.2]):=by
 intro s;unfold Fv at h;refine ac func236 ntmps236 ?_;refine bG (@aH.aC) ?_;apply aB.seq;refine bG (@aH.aC) ?_;refine wz h (fun h=>?_) fun h=>?_
 ·refine bG (@aH.aC) ?_;cases h;exact aB.ret (iT @aH.aC [.cell 4 25,.tmp 5])
 ·apply sK;refine bG (@aH.aC) ?_;cases h;exact aB.ret (iT @aH.aC [.cell 4 25,.tmp 5])
def Kl (x0:ByteArray):Option (aH×Int):=(call (Fv 2 x0) fun y1=>(some (y1.1,y1.2)))
def aG4 (x0:ByteArray) (r:aH×Int) (h:Kl x0=some r):cG prog 231 [aM x0] (.tuple [.agg r.1.v,aI r.2]):=by
 intro s;unfold Kl at h;refine ac func231 ntmps231 ?_;refine rg ?_;refine dH (IB 2 x0) h fun y1 _ h=>?_;cases h;exact aB.ret (bM [.cell 2 25,.tmp 3])
def Kk (x0:ByteArray):Option (aH×Int):=(call (Fv 3 x0) fun y1=>(some (y1.1,y1.2)))
def aG3 (x0:ByteArray) (r:aH×Int) (h:Kk x0=some r):cG prog 232 [aM x0] (.tuple [.agg r.1.v,aI r.2]):=by
 intro s;unfold Kk at h;refine ac func232 ntmps232 ?_;refine rg ?_;refine dH (IB 3 x0) h fun y1 _ h=>?_;cases h;exact aB.ret (bM [.cell 2 25,.tmp 3])
def qV (m0:aD):Option (aH×Bool×aD):=(call (pC 0 m0) fun y2=>(aE (y2.1.data.toList==(bm #[78,85,76,76]).data.toList) (some ((aH.mk 0 0 bO),true,y2.2)) (aE (decide (y2.2.at_>=(y2.2.l.length:Int))) (some ((aH.mk 0 0 bO),false,y2.2)) (aR (0<=y2.2.at_∧y2.2.at_<(y2.2.l.length:Int)) (aE (((y2.2.l.getD y2.2.at_.toNat aP.z).kind)==2) (call (Fw ((y2.2.l.getD y2.2.at_.toNat aP.z).text) 10 63) fun y10=>(call (Wa (i64.wrap y10.1)) fun y11=>(some (y11,true,y2.2)))) (aE (((y2.2.l.getD y2.2.at_.toNat aP.z).kind)==3) (call (Kl ((y2.2.l.getD y2.2.at_.toNat aP.z).text)) fun y13=>(some (y13.1,(y13.2==0),y2.2))) (aE (((y2.2.l.getD y2.2.at_.toNat aP.z).kind)==4) (call (Kk ((y2.2.l.getD y2.2.at_.toNat aP.z).text)) fun y15=>(some (y15.1,(y15.2==0),y2.2))) (some ((aH.mk 0 0 bO),false,y2.2)))))))))
def aB6 (m0:aD) (r:aH×Bool×aD) (h:qV m0=some r):sX prog 224 (fun b0=>[.ptr b0 0]) (.tuple [.agg r.1.v,aY r.2.1]) (rB m0) (rB r.2.2):=by
 refine uW fun s b0=>?_;unfold qV at h;refine ac func224 ntmps224 ?_;refine bG (@aH.aC) ?_;apply aB.seq;refine dN (@aH.aC) (tB 0 m0) h fun y2 _ h=>?_;refine wz h (fun h=>?_) fun h=>?_
 ·refine bG (@aH.aC) ?_;cases h;exact aB.ret (iT @aH.aC [.cell 2 25,.tmp 3])
 ·apply sK;apply aB.seq;refine Au [0,1,2,3,4,5,6,7,8,9] [] (@aH.aC) ?_;refine wz h (fun h=>?_) fun h=>?_
  ·refine bG (@aH.aC) ?_;cases h;exact aB.ret (iT @aH.aC [.cell 2 25,.tmp 3])
  ·apply sK;obtain⟨hn7,h⟩:=aV h;refine Au [0,1,2,3,4,5,6,7,8,9,10,11] [4] (ai (@aH.aC)<|ai (aJ hn7.1)<|ai (aJ hn7.2)<|(bW aP.v aP.z hn7)) ?_;apply aB.seq;refine bG (@aH.aC) ?_;apply aB.block;refine bG (@aH.aC) ?_;refine wz h (fun h=>?_) fun h=>?_
   ·refine dN (@aH.aC) (aG6 ((y2.2.l.getD y2.2.at_.toNat aP.z).text) 10 63) h fun y10 _ h=>?_;refine aDq [0,1,3,4,2,5,6] [2] (ai (@aH.aC)<|(underlying136)) (aG5 (i64.wrap y10.1)) h fun y11 _ h=>?_;cases h;exact aB.ret (iT @aH.aC [.cell 2 25,.tmp 3])
   ·refine bG (@aH.aC) ?_;refine wz h (fun h=>?_) fun h=>?_
    ·refine dN (@aH.aC) (aG4 ((y2.2.l.getD y2.2.at_.toNat aP.z).text)) h fun y13 _ h=>?_;refine bG (@aH.aC) ?_;cases h;exact aB.ret (iT @aH.aC [.cell 2 25,.tmp 3])
    ·refine bG (@aH.aC) ?_;refine wz h (fun h=>?_) fun h=>?_
     ·refine dN (@aH.aC) (aG3 ((y2.2.l.getD y2.2.at_.toNat aP.z).text)) h fun y15 _ h=>?_;refine bG (@aH.aC) ?_;cases h;exact aB.ret (iT @aH.aC [.cell 2 25,.tmp 3])
     ·apply sK;refine bG (@aH.aC) ?_;cases h;exact aB.ret (iT @aH.aC [.cell 2 25,.tmp 3])
def cE (x1:ByteArray) (m0:aD):Option (Bool×aD):=(call (pC 0 m0) fun y2=>(aE (y2.1.data.toList==x1.data.toList) (some (true,(aD.mk y2.2.l (i64.wrap (y2.2.at_+1)) y2.2.params))) (some (false,y2.2))))
def iL (x1:ByteArray) (m0:aD) (r:Bool×aD) (h:cE x1 m0=some r):sX prog 49 (fun b0=>[.ptr b0 0,aM x1]) (aY r.1) (rB m0) (rB r.2):=by
 refine uW fun s b0=>?_;unfold cE at h;refine ac func49 ntmps49 ?_;refine rg ?_;apply aB.seq;refine dH (tB 0 m0) h fun y2 _ h=>?_;refine wz h (fun h=>?_) fun h=>?_
 ·refine bG (@aD.aC) ?_;refine hL (s':=(s.aU b0 ([.slice 3 (y2.2.l.map aP.v),aI (i64.wrap (y2.2.at_+1)),aI y2.2.params],93))) ?_;refine bG (@aD.aC) ?_;cases h;exact aB.ret (iT @aD.aC [.tmp 4])
 ·apply sK;refine bG (@aD.aC) ?_;cases h;exact aB.ret (iT @aD.aC [.tmp 4])
def fE (x1:ByteArray) (m0:aD):Option (PX (Int×aD) (aD)):=(call (cE x1 m0) fun y1=>(aE (!y1.1) (bK (uD y1.2) (fun q4=>(q4.1,q4.2)) fun y3=>(some (PX.ok y3))) (some (PX.ok y1.2))))
def tA (x1:ByteArray) (m0:aD) (r:PX (Int×aD) (aD)) (h:fE x1 m0=some r):yN prog 93 (fun b0=>[.ptr b0 0,aM x1]) (qU 149) r (fun y=>.tuple []) (rB m0) (fun q=>(rB q.2)) (fun y=>(rB y)):=by
 refine gS fun s b0 pp hpp=>?_;unfold fE at h;refine gN func93 ntmps93 ?_;refine dH (iL x1 m0) h fun y1 _ h=>?_;refine wz h (fun h=>?_) fun h=>?_
 ·refine Gm hpp (Ah y1.2) h fun y3 _ h=>?_;cases h;exact pX []
 ·apply sK;cases h;exact pX []
def Ep (x1:(List ByteArray)) (m0:aD):Option (PX (Int×aD) (ByteArray×aD)):=(join (fun u3=>(join (fun u7=>(aE (decide (m0.at_>=(m0.l.length:Int))) (u7 (true,m0)) (aR (0<=m0.at_∧m0.at_<(m0.l.length:Int)) (aE (((m0.l.getD m0.at_.toNat aP.z).kind) != 1) (u7 (true,m0)) (aR (0<=m0.at_∧m0.at_<(m0.l.length:Int)) (call (pT ((m0.l.getD m0.at_.toNat aP.z).text) x1) fun y14=>(u7 ((!y14),m0)))))))) (fun(q6:Bool×aD)=>(aE q6.1 (bK (uD q6.2) (fun q17=>(q17.1,q17.2)) fun y16=>(u3 y16)) (u3 q6.2))))) (fun(q2:aD)=>(call (yO q2) fun y18=>(some (PX.ok (y18.1,y18.2))))))
def EU (x1:(List ByteArray)) (m0:aD) (r:PX (Int×aD) (ByteArray×aD)) (h:Ep x1 m0=some r):GP 222 (fun b0=>[.ptr b0 0,.slice 1 (List.map (fun x=>[aM x]) x1)]) r (fun y=>aM y.1) m0:=by
 refine gS fun s b0 pp hpp=>?_;unfold Ep at h;refine gN func222 ntmps222 ?_;refine rg ?_;refine jn h (fun q2=>eH pp [(0,.ptr b0 0)] [] (s.aU b0 (rB q2)) 49) (fun u3 h=>?_) ?_
 ·refine jn h (fun q6=>eH pp [(0,.ptr b0 0),(44,aY q6.1)] [] (s.aU b0 (rB q6.2)) 49) (fun u7 h=>?_) ?_
  ·refine wy h (fun hg8 h=>?_) fun hg8 h=>?_
   ·refine xK [0,1,2,3,4,5,6,7,8,9,10,11,12,13,14,15,16,17,18,19,20,21,22,23,24,25,26,27,28,29,30,31,32,33,34,35,36,37,38,39] [] hg8 ?_;exact⟨(true,m0),h,cV hg8⟩
   ·obtain⟨hn10,h⟩:=aV h;refine wy h (fun hg11 h=>?_) fun hg11 h=>?_
    ·refine xK [0,1,2,3,4,5,6,7,8,9,10,11,12,13,14,15,16,17,18,19,20,21,22,23,24,25,26,27,28,29,30,31,32,33,34,35,36,37,38,39] [] (ai hg8<|ai (aJ hn10.1)<|ai (aJ hn10.2)<|ai (bW aP.v aP.z hn10)<|hg11) ?_;exact⟨(true,m0),h,cV (ai hg8<|hg11)⟩
    ·obtain⟨hn13,h⟩:=aV h;refine Um [0,1,2,3,4,5,6,7,8,9,10,11,12,13,14,15,16,17,18,19,20,21,22,23,24,25,26,27,28,29,30,31,32,33,34,35,36,37,38,39] [] (ai hg8<|ai (aJ hn10.1)<|ai (aJ hn10.2)<|ai (bW aP.v aP.z hn10)<|ai hg11<|ai (aJ hn13.1)<|ai (aJ hn13.2)<|(bW aP.v aP.z hn13)) (Ps ((m0.l.getD m0.at_.toNat aP.z).text) x1) h fun y14 _ h=>?_;exact⟨((!y14),m0),h,cV (ai hg8<|hg11)⟩
  ·rintro⟨v4,w5⟩ h;(try dsimp only at h ⊢);refine wz h (fun h=>?_) fun h=>?_
   ·refine Gm hpp (Ah w5) h fun y16 _ h=>?_;exact⟨y16,h,lQ⟩
   ·apply sK;exact⟨w5,h,lQ⟩
 ·rintro w1 h;refine dH (Oc w1) h fun y18 _ h=>?_;cases h;exact aB.ret (pX [.tmp 4])
def eR (x1:ByteArray) (m0:aD):Option (Bool×aD):=(call (sW ([x1]) m0) fun y2=>(aE y2.1 (some (true,(aD.mk y2.2.l (i64.wrap (y2.2.at_+1)) y2.2.params))) (some (false,y2.2))))
def sZ (x1:ByteArray) (m0:aD) (r:Bool×aD) (h:eR x1 m0=some r):sX prog 96 (fun b0=>[.ptr b0 0,aM x1]) (aY r.1) (rB m0) (rB r.2):=by
 refine uW fun s b0=>?_;unfold eR at h;refine ac func96 ntmps96 ?_;refine rg ?_;apply aB.seq;refine dH (Ev ([x1]) m0) h fun y2 _ h=>?_;refine wz h (fun h=>?_) fun h=>?_
 ·refine bG (@aD.aC) ?_;refine hL (s':=(s.aU b0 ([.slice 3 (y2.2.l.map aP.v),aI (i64.wrap (y2.2.at_+1)),aI y2.2.params],93))) ?_;refine bG (@aD.aC) ?_;cases h;exact aB.ret (iT @aD.aC [.tmp 4])
 ·apply sK;refine bG (@aD.aC) ?_;cases h;exact aB.ret (iT @aD.aC [.tmp 4])
def fJ (x1:ByteArray) (m0:aD):Option (PX (Int×aD) (aD)):=(call (eR x1 m0) fun y1=>(aE (!y1.1) (bK (uD y1.2) (fun q4=>(q4.1,q4.2)) fun y3=>(some (PX.ok y3))) (some (PX.ok y1.2))))
def sY (x1:ByteArray) (m0:aD) (r:PX (Int×aD) (aD)) (h:fJ x1 m0=some r):yN prog 99 (fun b0=>[.ptr b0 0,aM x1]) (qU 149) r (fun y=>.tuple []) (rB m0) (fun q=>(rB q.2)) (fun y=>(rB y)):=by
 refine gS fun s b0 pp hpp=>?_;unfold fJ at h;refine gN func99 ntmps99 ?_;refine dH (sZ x1 m0) h fun y1 _ h=>?_;refine wz h (fun h=>?_) fun h=>?_
 ·refine Gm hpp (Ah y1.2) h fun y3 _ h=>?_;cases h;exact pX []
 ·apply sK;cases h;exact pX []
def Vy (x0:ByteArray) (x1:Int) (x2:Int):Option (Int×Unit):=(aE (x0.data.toList==(bm #[]).data.toList) none (join (fun u6=>(aR (0<=(0:Int)∧(0:Int)<(x0.size:Int)) (aE (((x0.data.toList.getD 0 0).toNat:Int)==43) (aR (0<=(1:Int)∧(1:Int)<=(x0.size:Int)∧(x0.size:Int)<=(x0.size:Int)) (u6 ((x0.extract 1 (x0.size:Int).toNat),false))) (aE (((x0.data.toList.getD 0 0).toNat:Int)==45) (aR (0<=(1:Int)∧(1:Int)<=(x0.size:Int)∧(x0.size:Int)<=(x0.size:Int)) (u6 ((x0.extract 1 (x0.size:Int).toNat),true))) (u6 (x0,false)))))) (fun(q5:ByteArray×Bool)=>(call (Cx q5.1 x1 x2) fun y12=>(join (fun u16=>(u16 false)) (fun(q15:Bool)=>(aE q15 (some (0,())) (join (fun u20=>(aE (x2==0) (u20 64) (u20 x2))) (fun(q19:Int)=>(aR (0<=(u64.wrap (i64.wrap (q19-1)))) (join (fun u26=>(aE (!q5.2) (u26 (decide (y12.1>=(mI .u64 (1:Int) (u64.wrap (i64.wrap (q19-1))))))) (u26 false))) (fun(q25:Bool)=>(aE q25 none (join (fun u32=>(aE q5.2 (u32 (decide (y12.1>(mI .u64 (1:Int) (u64.wrap (i64.wrap (q19-1))))))) (u32 false))) (fun(q31:Bool)=>(aE q31 none (join (fun u37=>(aE q5.2 (u37 (i64.wrap (0-(i64.wrap y12.1)))) (u37 (i64.wrap y12.1)))) (fun(q36:Int)=>(some (q36,()))))))))))))))))))))
def aGz (x0:ByteArray) (x1:Int) (x2:Int) (r:Int×Unit) (h:Vy x0 x1 x2=some r):cG prog 244 [aM x0,aI x1,aI x2] (.tuple [aI r.1,.base .nilIface]):=by
 intro s;unfold Vy at h;refine ac func244 ntmps244 ?_;refine rg ?_;apply aB.seq;refine rg ?_;refine wz h (fun h=>?_) fun h=>?_
 ·refine rg ?_;cases h
 ·apply sK;refine rg ?_;refine jn h (fun q5=>bN [(0,aM q5.1),(1,aI x1),(2,aI x2),(8,aY q5.2)] [] s 73) (fun u6 h=>?_) ?_
  ·obtain⟨hn7,h⟩:=aV h;refine bG (ai (aJ hn7.1)<|(aJ hn7.2)) ?_;apply aB.block;refine rg ?_;refine wz h (fun h=>?_) fun h=>?_
   ·obtain⟨hn9,h⟩:=aV h;refine bU (ai (aJ hn9.1)<|ai (aJ hn9.2.1)<|(aJ hn9.2.2)) ?_;exact⟨((x0.extract 1 (x0.size:Int).toNat),false),h,bX⟩
   ·refine rg ?_;refine wz h (fun h=>?_) fun h=>?_
    ·obtain⟨hn11,h⟩:=aV h;refine bG (ai (aJ hn11.1)<|ai (aJ hn11.2.1)<|(aJ hn11.2.2)) ?_;refine r1 ?_;exact⟨((x0.extract 1 (x0.size:Int).toNat),true),h,bX⟩
    ·apply sK;exact⟨(x0,false),h,bX⟩
  ·rintro⟨v3,v4⟩ h;(try dsimp only at h ⊢);refine rg ?_;refine dH (IC v3 x1 x2) h fun y12 _ h=>?_;apply aB.seq;refine jn h (fun q15=>bN [(2,aI x2),(7,.base .nilIface),(8,aY v4),(9,.base (.int .u64 y12.1)),(38,aY q15)] [] s 73) (fun u16 h=>?_) ?_
   ·refine bU (underlying136) ?_;exact⟨false,h,bX⟩
   ·rintro v14 h;refine wz h (fun h=>?_) fun h=>?_
    ·refine rg ?_;cases h;exact aB.ret (bM [.tmp 6,.tmp 7])
    ·apply sK;refine jn h (fun q19=>bN [(2,aI q19),(8,aY v4),(9,.base (.int .u64 y12.1))] [] s 73) (fun u20 h=>?_) ?_
     ·refine rg ?_;refine wz h (fun h=>?_) fun h=>?_
      ·refine r1 ?_;exact⟨64,h,bX⟩
      ·apply sK;exact⟨x2,h,bX⟩
     ·rintro v18 h;obtain⟨hn22,h⟩:=aV h;refine bG (aJ hn22) ?_;apply aB.seq;refine jn h (fun q25=>bN [(8,aY v4),(9,.base (.int .u64 y12.1)),(10,.base (.int .u64 (mI .u64 (1:Int) (u64.wrap (i64.wrap (v18-1)))))),(52,aY q25)] [] s 73) (fun u26 h=>?_) ?_
      ·refine wy h (fun hg27 h=>?_) fun hg27 h=>?_
       ·refine bU hg27 ?_;exact⟨(decide (y12.1>=(mI .u64 (1:Int) (u64.wrap (i64.wrap (v18-1)))))),h,bB hg27⟩
       ·refine bU hg27 ?_;exact⟨false,h,bB hg27⟩
      ·rintro v24 h;refine wz h (fun h=>?_) fun h=>?_
       ·refine rg ?_;cases h
       ·apply sK;apply aB.seq;refine jn h (fun q31=>bN [(8,aY v4),(9,.base (.int .u64 y12.1)),(10,.base (.int .u64 (mI .u64 (1:Int) (u64.wrap (i64.wrap (v18-1)))))),(62,aY q31)] [] s 73) (fun u32 h=>?_) ?_
        ·refine wy h (fun hg33 h=>?_) fun hg33 h=>?_
         ·refine bU hg33 ?_;exact⟨(decide (y12.1>(mI .u64 (1:Int) (u64.wrap (i64.wrap (v18-1)))))),h,bB hg33⟩
         ·refine bU hg33 ?_;exact⟨false,h,bB hg33⟩
        ·rintro v30 h;refine wz h (fun h=>?_) fun h=>?_
         ·refine rg ?_;cases h
         ·apply sK;refine rg ?_;refine jn h (fun q36=>bN [(11,aI q36)] [] s 73) (fun u37 h=>?_) ?_
          ·refine rg ?_;refine wz h (fun h=>?_) fun h=>?_
           ·refine r1 ?_;exact⟨(i64.wrap (0-(i64.wrap y12.1))),h,bX⟩
           ·apply sK;exact⟨(i64.wrap y12.1),h,bX⟩
          ·rintro v35 h;refine rg ?_;cases h;exact aB.ret (bM [.tmp 6,.tmp 7])
def Vz (x0:ByteArray):Option (Int×Unit):=(join (fun u4=>(aE (decide ((0:Int)<(x0.size:Int))) (u4 (decide ((x0.size:Int)<19))) (u4 false))) (fun(q3:Bool)=>(aE q3 (join (fun u9=>(join (fun u12=>(aR (0<=(0:Int)∧(0:Int)<(x0.size:Int)) (aE (((x0.data.toList.getD 0 0).toNat:Int)==45) (u12 true) (aR (0<=(0:Int)∧(0:Int)<(x0.size:Int)) (u12 (((x0.data.toList.getD 0 0).toNat:Int)==43)))))) (fun(q11:Bool)=>(aE q11 (aR (0<=(1:Int)∧(1:Int)<=(x0.size:Int)∧(x0.size:Int)<=(x0.size:Int)) (aE (decide ((((x0.extract 1 (x0.size:Int).toNat).size:Nat):Int)<1)) none (u9 (x0.extract 1 (x0.size:Int).toNat)))) (u9 x0))))) (fun(q8:ByteArray)=>(aR (q8.size<=maxLen) (cF (fun u24 (q23:Int×Int)=>(aE (decide (q23.2<(((dZ q8).length:Nat):Int))) (aR (0<=q23.2∧q23.2<(((dZ q8).length:Nat):Int)) (aE (decide ((IntKind.u8.wrap (((dZ q8).getD q23.2.toNat 0)-48))>9)) none (u24 ((i64.wrap ((i64.wrap (q23.1*10))+(i64.wrap (IntKind.u8.wrap (((dZ q8).getD q23.2.toNat 0)-48))))),(i64.wrap (q23.2+1)))))) (join (fun u34=>(aR (0<=(0:Int)∧(0:Int)<(x0.size:Int)) (aE (((x0.data.toList.getD 0 0).toNat:Int)==45) (u34 (i64.wrap (0-q23.1))) (u34 q23.1)))) (fun(q33:Int)=>(some (q33,())))))) bQ (0,0))))) (call (Vy x0 10 0) fun y37=>(some (y37.1,()))))))
def aG1 (x0:ByteArray) (r:Int×Unit) (h:Vz x0=some r):cG prog 237 [aM x0] (.tuple [aI r.1,.base .nilIface]):=by
 intro s;unfold Vz at h;refine ac func237 ntmps237 ?_;refine rg ?_;refine rg ?_;apply aB.seq;refine jn h (fun q3=>bN [(0,aM x0),(30,aY q3)] [] s 77) (fun u4 h=>?_) ?_
 ·refine wy h (fun hg5 h=>?_) fun hg5 h=>?_
  ·refine bU hg5 ?_;exact⟨(decide ((x0.size:Int)<19)),h,bB hg5⟩
  ·refine bU hg5 ?_;exact⟨false,h,bB hg5⟩
 ·rintro v2 h;refine wz h (fun h=>?_) fun h=>?_
  ·refine rg ?_;refine jn h (fun q8=>bN [(0,aM q8),(5,aM x0)] [] s 77) (fun u9 h=>?_) ?_
   ·refine jn h (fun q11=>bN [(0,aM x0),(5,aM x0),(39,aY q11)] [] s 77) (fun u12 h=>?_) ?_
    ·obtain⟨hn13,h⟩:=aV h;refine wy h (fun hg14 h=>?_) fun hg14 h=>?_
     ·refine bU (ai (aJ hn13.1)<|ai (aJ hn13.2)<|hg14) ?_;exact⟨true,h,bB hg14⟩
     ·obtain⟨hn15,h⟩:=aV h;refine bU (ai (aJ hn13.1)<|ai (aJ hn13.2)<|ai hg14<|ai (aJ hn15.1)<|(aJ hn15.2)) ?_;exact⟨(((x0.data.toList.getD 0 0).toNat:Int)==43),h,bB hg14⟩
    ·rintro v10 h;refine wz h (fun h=>?_) fun h=>?_
     ·obtain⟨hn17,h⟩:=aV h;refine bG (ai (aJ hn17.1)<|ai (aJ hn17.2.1)<|(aJ hn17.2.2)) ?_;refine rg ?_;refine wz h (fun h=>?_) fun h=>?_
      ·refine rg ?_;cases h
      ·apply sK;exact⟨(x0.extract 1 (x0.size:Int).toNat),h,bX⟩
     ·apply sK;exact⟨x0,h,bX⟩
   ·rintro v7 h;refine rg ?_;apply aB.seq;obtain⟨hn20,h⟩:=aV h;refine bG (aJ hn20) ?_;apply aB.block;refine lp h (fun q23=>bN [(5,aM x0),(6,aI q23.1),(47,.slice 1 (List.map (fun x=>[V.base (.int .u8 x)]) (dZ v7))),(48,aI (((dZ v7).length:Nat):Int)),(49,aI q23.2)] [] s 77) ?_ ?_
    ·exact bX
    ·rintro u24 ⟨v21,v22⟩ h;(try dsimp only at h ⊢);refine rg ?_;apply aB.seq;refine wz h (fun h=>?_) fun h=>?_
     ·apply sK;apply aB.seq;apply aB.block;obtain⟨hn29,h⟩:=aV h;refine bG (ai (aJ hn29.1)<|ai (aJ hn29.2)<|(bW (fun x=>[V.base (.int .u8 x)]) 0 hn29)) ?_;refine rg ?_;apply aB.seq;refine rg ?_;refine wz h (fun h=>?_) fun h=>?_
      ·refine rg ?_;cases h
      ·apply sK;refine r1 ?_;refine r1 ?_;exact⟨((i64.wrap ((i64.wrap (v21*10))+(i64.wrap (IntKind.u8.wrap (((dZ v7).getD v22.toNat 0)-48))))),(i64.wrap (v22+1))),h,bX⟩
     ·apply aB.exit;simp only[dR,seval];refine jn h (fun q33=>bN [(6,aI q33)] [] s 77) (fun u34 h=>?_) ?_
      ·obtain⟨hn35,h⟩:=aV h;refine bG (ai (aJ hn35.1)<|(aJ hn35.2)) ?_;refine wz h (fun h=>?_) fun h=>?_
       ·refine r1 ?_;exact⟨(i64.wrap (0-v21)),h,bX⟩
       ·apply sK;exact⟨v21,h,bX⟩
      ·rintro v32 h;refine rg ?_;cases h;exact aB.ret (bM [.tmp 2,.tmp 3])
  ·apply sK;refine dH (aGz x0 10 0) h fun y37 _ h=>?_;refine rg ?_;cases h;exact aB.ret (bM [.tmp 2,.tmp 3])
def zC (x0:ByteArray):Option (Int×Unit):=(call (Vz x0) fun y1=>(some (y1.1,())))
def aG2 (x0:ByteArray) (r:Int×Unit) (h:zC x0=some r):cG prog 233 [aM x0] (.tuple [aI r.1,.base .nilIface]):=by
 intro s;unfold zC at h;refine ac func233 ntmps233 ?_;refine rg ?_;refine dH (aG1 x0) h fun y1 _ h=>?_;apply aB.seq;refine bG (underlying136) ?_;refine aB.cond (t:=false) (by rfl) (fun hf=>by cases hf) (fun _=>?_);apply sK;refine rg ?_;cases h;exact aB.ret (bM [.tmp 2,.tmp 3])
def Eo (m0:aD):Option (PX (Int×aD) (Int×aD)):=(aR (0<=m0.at_∧m0.at_<(m0.l.length:Int)) (aE (((m0.l.getD m0.at_.toNat aP.z).text).data.toList==(bm #[]).data.toList) (join (fun u7=>(join (fun u10=>(aE (decide (m0.params>=16)) (u10 true) (u10 (decide (m0.params<0))))) (fun(q9:Bool)=>(aE q9 (bK (uD m0) (fun q14=>(q14.1,q14.2)) fun y13=>(u7 y13)) (u7 m0))))) (fun(q6:aD)=>(some (PX.ok ((i64.wrap (q6.params+1)),q6))))) (call (zC ((m0.l.getD m0.at_.toNat aP.z).text)) fun y15=>(join (fun u18=>(join (fun u21=>(aR (0<=(0:Int)∧(0:Int)<((((m0.l.getD m0.at_.toNat aP.z).text).size:Nat):Int)) (aE (((((m0.l.getD m0.at_.toNat aP.z).text).data.toList.getD 0 0).toNat:Int)==43) (u21 true) (aE (decide (y15.1<1)) (u21 true) (u21 (decide (y15.1>16))))))) (fun(q20:Bool)=>(aE q20 (bK (uD m0) (fun q27=>(q27.1,q27.2)) fun y26=>(u18 y26)) (u18 m0))))) (fun(q17:aD)=>(some (PX.ok (y15.1,q17))))))))
def aB5 (m0:aD) (r:PX (Int×aD) (Int×aD)) (h:Eo m0=some r):GP 228 (fun b0=>[.ptr b0 0]) r (fun y=>aI y.1) m0:=by
 refine gS fun s b0 pp hpp=>?_;unfold Eo at h;refine gN func228 ntmps228 ?_;refine rg ?_;obtain⟨hn2,h⟩:=aV h;refine Au [0,1,2,3,4,5,6,7,8,9,10,11] [] (ai (aJ hn2.1)<|ai (aJ hn2.2)<|(bW aP.v aP.z hn2)) ?_;apply aB.seq;refine rg ?_;refine wz h (fun h=>?_) fun h=>?_
 ·refine jn h (fun q6=>eH pp [(0,.ptr b0 0)] [] (s.aU b0 (rB q6)) 61) (fun u7 h=>?_) ?_
  ·refine jn h (fun q9=>eH pp [(0,.ptr b0 0),(30,aY q9)] [] (s.aU b0 (rB m0)) 61) (fun u10 h=>?_) ?_
   ·refine wy h (fun hg11 h=>?_) fun hg11 h=>?_
    ·refine bU hg11 ?_;exact⟨true,h,cV hg11⟩
    ·refine bU hg11 ?_;exact⟨(decide (m0.params<0)),h,cV hg11⟩
   ·rintro v8 h;refine wz h (fun h=>?_) fun h=>?_
    ·refine Gm hpp (Ah m0) h fun y13 _ h=>?_;exact⟨y13,h,lQ⟩
    ·apply sK;exact⟨m0,h,lQ⟩
  ·rintro w5 h;refine rg ?_;cases h;exact aB.ret (pX [.tmp 2])
 ·apply sK;refine dH (aG2 ((m0.l.getD m0.at_.toNat aP.z).text)) h fun y15 _ h=>?_;refine jn h (fun q17=>eH pp [(4,aI y15.1)] [] (s.aU b0 (rB q17)) 61) (fun u18 h=>?_) ?_
  ·refine jn h (fun q20=>eH pp [(0,.ptr b0 0),(4,aI y15.1),(57,aY q20)] [] (s.aU b0 (rB m0)) 61) (fun u21 h=>?_) ?_
   ·obtain⟨hn22,h⟩:=aV h;refine wy h (fun hg23 h=>?_) fun hg23 h=>?_
    ·refine bU (ai (underlying136)<|ai (aJ hn22.1)<|ai (aJ hn22.2)<|hg23) ?_;exact⟨true,h,cV hg23⟩
    ·refine wy h (fun hg24 h=>?_) fun hg24 h=>?_
     ·refine bU (ai (underlying136)<|ai (aJ hn22.1)<|ai (aJ hn22.2)<|ai hg23<|hg24) ?_;exact⟨true,h,cV (ai hg23<|hg24)⟩
     ·refine bU (ai (underlying136)<|ai (aJ hn22.1)<|ai (aJ hn22.2)<|ai hg23<|hg24) ?_;exact⟨(decide (y15.1>16)),h,cV (ai hg23<|hg24)⟩
   ·rintro v19 h;refine wz h (fun h=>?_) fun h=>?_
    ·refine Gm hpp (Ah m0) h fun y26 _ h=>?_;exact⟨y26,h,lQ⟩
    ·apply sK;exact⟨m0,h,lQ⟩
  ·rintro w16 h;refine rg ?_;cases h;exact aB.ret (pX [.tmp 2])
def Ak (m0:aD):Option (PX (Int×aD) (ByteArray×aD)):=(join (fun u3=>(call (yP m0) fun y4=>(aE (!y4.1) (bK (uD y4.2) (fun q7=>(q7.1,q7.2)) fun y6=>(u3 y6)) (u3 y4.2)))) (fun(q2:aD)=>(call (yO q2) fun y8=>(some (PX.ok (y8.1,y8.2))))))
def Va (m0:aD) (r:PX (Int×aD) (ByteArray×aD)) (h:Ak m0=some r):GP 97 (fun b0=>[.ptr b0 0]) r (fun y=>aM y.1) m0:=by
 refine gS fun s b0 pp hpp=>?_;unfold Ak at h;refine gN func97 ntmps97 ?_;refine rg ?_;refine jn h (fun q2=>eH pp [(0,.ptr b0 0)] [] (s.aU b0 (rB q2)) 10) (fun u3 h=>?_) ?_
 ·refine dH (yR m0) h fun y4 _ h=>?_;refine wz h (fun h=>?_) fun h=>?_
  ·refine Gm hpp (Ah y4.2) h fun y6 _ h=>?_;exact⟨y6,h,lQ⟩
  ·apply sK;exact⟨y4.2,h,lQ⟩
 ·rintro w1 h;refine dH (Oc w1) h fun y8 _ h=>?_;cases h;exact aB.ret (pX [.tmp 2])
def sV (m0:aD):Option (PX (Int×aD) (ByteArray×aD)):=(call (cE (bm #[65,83]) m0) fun y2=>(aE y2.1 (bK (Ak y2.2) (fun q5=>(q5.1,q5.2)) fun y4=>(some (PX.ok (y4.1,y4.2)))) (call (yP y2.2) fun y7=>(aE y7.1 (call (yO y7.2) fun y9=>(some (PX.ok (y9.1,y9.2)))) (some (PX.ok ((bm #[]),y7.2)))))))
def EW (m0:aD) (r:PX (Int×aD) (ByteArray×aD)) (h:sV m0=some r):GP 169 (fun b0=>[.ptr b0 0]) r (fun y=>aM y.1) m0:=by
 refine gS fun s b0 pp hpp=>?_;unfold sV at h;refine gN func169 ntmps169 ?_;refine rg ?_;apply aB.seq;refine dH (iL (bm #[65,83]) m0) h fun y2 _ h=>?_;refine wz h (fun h=>?_) fun h=>?_
 ·refine Dm hpp (Va y2.2) h fun y4 _ h=>?_;cases h;exact aB.ret (pX [.tmp 2])
 ·apply sK;apply aB.seq;refine dH (yR y2.2) h fun y7 _ h=>?_;refine wz h (fun h=>?_) fun h=>?_
  ·refine dH (Oc y7.2) h fun y9 _ h=>?_;cases h;exact aB.ret (pX [.tmp 2])
  ·apply sK;refine rg ?_;cases h;exact aB.ret (pX [.tmp 2])
def xE (m0:aD):Option (Int×Bool×aD):=(call (cE (bm #[85,78,73,79,78]) m0) fun y2=>(aE y2.1 (call (cE (bm #[65,76,76]) y2.2) fun y5=>(aE y5.1 (some (2,true,y5.2)) (some (1,true,y5.2)))) (call (cE (bm #[73,78,84,69,82,83,69,67,84]) y2.2) fun y7=>(aE y7.1 (some (3,true,y7.2)) (call (cE (bm #[69,88,67,69,80,84]) y7.2) fun y9=>(aE y9.1 (some (4,true,y9.2)) (some (0,false,y9.2))))))))
def aE6 (m0:aD) (r:Int×Bool×aD) (h:xE m0=some r):sX prog 92 (fun b0=>[.ptr b0 0]) (.tuple [aI r.1,aY r.2.1]) (rB m0) (rB r.2.2):=by
 refine uW fun s b0=>?_;unfold xE at h;refine ac func92 ntmps92 ?_;refine rg ?_;apply aB.seq;apply aB.block;refine dH (iL (bm #[85,78,73,79,78]) m0) h fun y2 _ h=>?_;refine wz h (fun h=>?_) fun h=>?_
 ·apply aB.seq;refine dH (iL (bm #[65,76,76]) y2.2) h fun y5 _ h=>?_;refine wz h (fun h=>?_) fun h=>?_
  ·refine rg ?_;cases h;exact aB.ret (bM [.tmp 2,.tmp 3])
  ·apply sK;refine rg ?_;cases h;exact aB.ret (bM [.tmp 2,.tmp 3])
 ·refine dH (iL (bm #[73,78,84,69,82,83,69,67,84]) y2.2) h fun y7 _ h=>?_;refine wz h (fun h=>?_) fun h=>?_
  ·refine rg ?_;cases h;exact aB.ret (bM [.tmp 2,.tmp 3])
  ·refine dH (iL (bm #[69,88,67,69,80,84]) y7.2) h fun y9 _ h=>?_;refine wz h (fun h=>?_) fun h=>?_
   ·refine rg ?_;cases h;exact aB.ret (bM [.tmp 2,.tmp 3])
   ·apply sK;refine rg ?_;cases h;exact aB.ret (bM [.tmp 2,.tmp 3])
structure bD where
 p118_1:aD->RX aA
 p119_1:aD->RX aA
 p132_1:aD->Option (PX (Int×aD) ((List bA)×aD))
 p133_1:aD->Option (PX (Int×aD) (bA×aD))
 p134_1:aD->Option (PX (Int×aD) ((List aO)×aD))
 p135_1:aD->Option (PX (Int×aD) ((List aA)×aD))
 p15_1:aD->RX aA
 p161_1:aD->RX aA
 p162_1:Int->Bool->aA->aD->Option (PX (Int×aA×aD) (aA×aD))
 p163_1:aA->Bool->aD->RX aA
 p170_1:aD->Option (PX (Int×aD) (aO×aD))
 p184_1:aD->RX aA
 p198_1:aD->RX aA
 p209_1:aD->RX aA
 p215_1:aD->RX aA
 p221_1:aD->RX aA
 p225_1:aD->RX aA
 p226_1:aD->RX aA
 p227_1:ByteArray->aD->RX aA
 p42_2:ByteArray->aD->RX aA
 p42_3:ByteArray->aD->RX aA
 p42_4:ByteArray->aD->RX aA
 p42_5:ByteArray->aD->RX aA
 p42_6:ByteArray->aD->RX aA
 p42_7:ByteArray->aD->RX aA
 p43_1:aD->RX aA
 p50_1:aD->RX aF
 p79_1:aD->RX aA
 p91_1:aD->Option (PX (Int×aD) (aK×aD))
 p94_1:aD->Option (PX (Int×aD) ((List aX)×aD))
 p95_1:aD->Option (PX (Int×aD) (aX×aD))
abbrev FV (f:aD->RX aA):Prop:=∀(m0:aD) (r:PX (Int×aD) (aA×aD)),f m0=some r->GP 118 (fun b0=>[.ptr b0 0]) r (fun y=>.agg y.1.v) m0
abbrev FU (f:aD->RX aA):Prop:=∀(m0:aD) (r:PX (Int×aD) (aA×aD)),f m0=some r->GP 119 (fun b0=>[.ptr b0 0]) r (fun y=>.agg y.1.v) m0
abbrev FT (f:aD->Option (PX (Int×aD) ((List bA)×aD))):Prop:=∀(m0:aD) (r:PX (Int×aD) ((List bA)×aD)),f m0=some r->GP 132 (fun b0=>[.ptr b0 0,.func 133 [.ptr b0 0] []]) r (fun y=>.slice 4 (y.1.map bA.v)) m0
abbrev aHp (f:aD->Option (PX (Int×aD) (bA×aD))):Prop:=∀(m0:aD) (r:PX (Int×aD) (bA×aD)),f m0=some r->GP 133 (fun b0=>[.ptr b0 0]) r (fun y=>.agg y.1.v) m0
abbrev FR (f:aD->Option (PX (Int×aD) ((List aO)×aD))):Prop:=∀(m0:aD) (r:PX (Int×aD) ((List aO)×aD)),f m0=some r->GP 134 (fun b0=>[.ptr b0 0]) r (fun y=>.slice 5 (y.1.map aO.v)) m0
abbrev FQ (f:aD->Option (PX (Int×aD) ((List aA)×aD))):Prop:=∀(m0:aD) (r:PX (Int×aD) ((List aA)×aD)),f m0=some r->GP 135 (fun b0=>[.ptr b0 0,.func 15 [.ptr b0 0] []]) r (fun y=>.slice 10 (y.1.map aA.v)) m0
abbrev HQ (f:aD->RX aA):Prop:=∀(m0:aD) (r:PX (Int×aD) (aA×aD)),f m0=some r->GP 15 (fun b0=>[.ptr b0 0]) r (fun y=>.agg y.1.v) m0
abbrev FP (f:aD->RX aA):Prop:=∀(m0:aD) (r:PX (Int×aD) (aA×aD)),f m0=some r->GP 161 (fun b0=>[.ptr b0 0]) r (fun y=>.agg y.1.v) m0
abbrev FO (f:Int->Bool->aA->aD->Option (PX (Int×aA×aD) (aA×aD))):Prop:=∀(x0:Int) (x1:Bool) (m0:aA) (m1:aD) (r:PX (Int×aA×aD) (aA×aD)),f x0 x1 m0 m1=some r->Tc prog 162 (fun b0 b1=>[aI x0,aY x1,.ptr b0 0,.elt [.ptr b1 0] 0]) (qU 149) r (fun y=>.tuple []) (eV m0,29) (rB m1) (fun q=>(eV q.2.1,29)) (fun q=>(rB q.2.2)) (fun y=>(eV y.1,29)) (fun y=>(rB y.2))
abbrev FN (f:aA->Bool->aD->RX aA):Prop:=∀(x1:aA) (x2:Bool) (m0:aD) (r:PX (Int×aD) (aA×aD)),f x1 x2 m0=some r->GP 163 (fun b0=>[.ptr b0 0,.agg x1.v,aY x2]) r (fun y=>.agg y.1.v) m0
abbrev FM (f:aD->Option (PX (Int×aD) (aO×aD))):Prop:=∀(m0:aD) (r:PX (Int×aD) (aO×aD)),f m0=some r->GP 170 (fun b0=>[.ptr b0 0]) r (fun y=>.agg y.1.v) m0
abbrev FL (f:aD->RX aA):Prop:=∀(m0:aD) (r:PX (Int×aD) (aA×aD)),f m0=some r->GP 184 (fun b0=>[.ptr b0 0]) r (fun y=>.agg y.1.v) m0
abbrev FK (f:aD->RX aA):Prop:=∀(m0:aD) (r:PX (Int×aD) (aA×aD)),f m0=some r->GP 198 (fun b0=>[.ptr b0 0]) r (fun y=>.agg y.1.v) m0
abbrev FJ (f:aD->RX aA):Prop:=∀(m0:aD) (r:PX (Int×aD) (aA×aD)),f m0=some r->GP 209 (fun b0=>[.ptr b0 0]) r (fun y=>.agg y.1.v) m0
abbrev FI (f:aD->RX aA):Prop:=∀(m0:aD) (r:PX (Int×aD) (aA×aD)),f m0=some r->GP 215 (fun b0=>[.ptr b0 0]) r (fun y=>.agg y.1.v) m0
abbrev FH (f:aD->RX aA):Prop:=∀(m0:aD) (r:PX (Int×aD) (aA×aD)),f m0=some r->GP 221 (fun b0=>[.ptr b0 0]) r (fun y=>.agg y.1.v) m0
abbrev FG (f:aD->RX aA):Prop:=∀(m0:aD) (r:PX (Int×aD) (aA×aD)),f m0=some r->GP 225 (fun b0=>[.ptr b0 0]) r (fun y=>.agg y.1.v) m0
abbrev FF (f:aD->RX aA):Prop:=∀(m0:aD) (r:PX (Int×aD) (aA×aD)),f m0=some r->GP 226 (fun b0=>[.ptr b0 0]) r (fun y=>.agg y.1.v) m0
abbrev FE (f:ByteArray->aD->RX aA):Prop:=∀(x1:ByteArray) (m0:aD) (r:PX (Int×aD) (aA×aD)),f x1 m0=some r->GP 227 (fun b0=>[.ptr b0 0,aM x1]) r (fun y=>.agg y.1.v) m0
abbrev HI (f:ByteArray->aD->RX aA):Prop:=∀(x1:ByteArray) (m0:aD) (r:PX (Int×aD) (aA×aD)),f x1 m0=some r->GP 42 (fun b0=>[.ptr b0 0,aM x1,.func 43 [.ptr b0 0] []]) r (fun y=>.agg y.1.v) m0
abbrev HH (f:ByteArray->aD->RX aA):Prop:=∀(x1:ByteArray) (m0:aD) (r:PX (Int×aD) (aA×aD)),f x1 m0=some r->GP 42 (fun b0=>[.ptr b0 0,aM x1,.func 79 [.ptr b0 0] []]) r (fun y=>.agg y.1.v) m0
abbrev HG (f:ByteArray->aD->RX aA):Prop:=∀(x1:ByteArray) (m0:aD) (r:PX (Int×aD) (aA×aD)),f x1 m0=some r->GP 42 (fun b0=>[.ptr b0 0,aM x1,.func 184 [.ptr b0 0] []]) r (fun y=>.agg y.1.v) m0
abbrev HF (f:ByteArray->aD->RX aA):Prop:=∀(x1:ByteArray) (m0:aD) (r:PX (Int×aD) (aA×aD)),f x1 m0=some r->GP 42 (fun b0=>[.ptr b0 0,aM x1,.func 198 [.ptr b0 0] []]) r (fun y=>.agg y.1.v) m0
abbrev HE (f:ByteArray->aD->RX aA):Prop:=∀(x1:ByteArray) (m0:aD) (r:PX (Int×aD) (aA×aD)),f x1 m0=some r->GP 42 (fun b0=>[.ptr b0 0,aM x1,.func 209 [.ptr b0 0] []]) r (fun y=>.agg y.1.v) m0
abbrev HD (f:ByteArray->aD->RX aA):Prop:=∀(x1:ByteArray) (m0:aD) (r:PX (Int×aD) (aA×aD)),f x1 m0=some r->GP 42 (fun b0=>[.ptr b0 0,aM x1,.func 215 [.ptr b0 0] []]) r (fun y=>.agg y.1.v) m0
abbrev HC (f:aD->RX aA):Prop:=∀(m0:aD) (r:PX (Int×aD) (aA×aD)),f m0=some r->GP 43 (fun b0=>[.ptr b0 0]) r (fun y=>.agg y.1.v) m0
abbrev HB (f:aD->RX aF):Prop:=∀(m0:aD) (r:PX (Int×aD) (aF×aD)),f m0=some r->GP 50 (fun b0=>[.ptr b0 0]) r (fun y=>.agg y.1.v) m0
abbrev GU (f:aD->RX aA):Prop:=∀(m0:aD) (r:PX (Int×aD) (aA×aD)),f m0=some r->GP 79 (fun b0=>[.ptr b0 0]) r (fun y=>.agg y.1.v) m0
abbrev GT (f:aD->Option (PX (Int×aD) (aK×aD))):Prop:=∀(m0:aD) (r:PX (Int×aD) (aK×aD)),f m0=some r->GP 91 (fun b0=>[.ptr b0 0]) r (fun y=>.agg y.1.v) m0
abbrev GS (f:aD->Option (PX (Int×aD) ((List aX)×aD))):Prop:=∀(m0:aD) (r:PX (Int×aD) ((List aX)×aD)),f m0=some r->GP 94 (fun b0=>[.ptr b0 0,.func 95 [.ptr b0 0] []]) r (fun y=>.slice 11 (y.1.map aX.v)) m0
abbrev GR (f:aD->Option (PX (Int×aD) (aX×aD))):Prop:=∀(m0:aD) (r:PX (Int×aD) (aX×aD)),f m0=some r->GP 95 (fun b0=>[.ptr b0 0]) r (fun y=>.agg y.1.v) m0
structure bD.Ok (F:bD):Prop where
 p118_1:FV F.p118_1
 p119_1:FU F.p119_1
 p132_1:FT F.p132_1
 p133_1:aHp F.p133_1
 p134_1:FR F.p134_1
 p135_1:FQ F.p135_1
 p15_1:HQ F.p15_1
 p161_1:FP F.p161_1
 p162_1:FO F.p162_1
 p163_1:FN F.p163_1
 p170_1:FM F.p170_1
 p184_1:FL F.p184_1
 p198_1:FK F.p198_1
 p209_1:FJ F.p209_1
 p215_1:FI F.p215_1
 p221_1:FH F.p221_1
 p225_1:FG F.p225_1
 p226_1:FF F.p226_1
 p227_1:FE F.p227_1
 p42_2:HI F.p42_2
 p42_3:HH F.p42_3
 p42_4:HG F.p42_4
 p42_5:HF F.p42_5
 p42_6:HE F.p42_6
 p42_7:HD F.p42_7
 p43_1:HC F.p43_1
 p50_1:HB F.p50_1
 p79_1:GU F.p79_1
 p91_1:GT F.p91_1
 p94_1:GS F.p94_1
 p95_1:GR F.p95_1
def Jh (F:bD) (m0:aD):RX aA:=(bK (fE (bm #[69,88,73,83,84,83]) m0) (fun q2=>(q2.1,q2.2)) fun y1=>(bK (fJ (bm #[40]) y1) (fun q4=>(q4.1,q4.2)) fun y3=>(bK (F.p50_1 y3) (fun q6=>(q6.1,q6.2)) fun y5=>(bK (fJ (bm #[41]) y5.2) (fun q8=>(q8.1,q8.2)) fun y7=>(some (PX.ok ((aA.mk 27 false bO bO 0 (aH.mk 0 0 bO) ([]:List aA) ([y5.1])),y7)))))))
def aBy (F:bD) (H:F.Ok):FV (Jh F):=fun m0 r h=>by
 refine gS fun s b0 pp hpp=>?_;unfold Jh at h;refine gN func118 ntmps118 ?_;refine bG (ai (@aH.aC)<|@aA.aC) ?_;refine fK (ai (@aH.aC)<|@aA.aC) hpp (tA (bm #[69,88,73,83,84,83]) m0) h fun y1 _ h=>?_;refine fK (ai (@aH.aC)<|@aA.aC) hpp (sY (bm #[40]) y1) h fun y3 _ h=>?_;refine fK (ai (@aH.aC)<|@aA.aC) hpp (H.p50_1 y3) h fun y5 _ h=>?_;refine fK (ai (@aH.aC)<|@aA.aC) hpp (sY (bm #[41]) y5.2) h fun y7 _ h=>?_;refine bG (ai (@aH.aC)<|@aA.aC) ?_;cases h;exact aB.ret (iN (ai @aH.aC<|@aA.aC) [.cell 2 29])
def Ew (F:bD) (m0:aD):RX aA:=(bK (F.p161_1 m0) (fun q2=>(q2.1,q2.2)) fun y1=>(cF (fun u8 (q7:aA×aD×aA)=>(call (sW ([(bm #[61]),(bm #[61,61]),(bm #[60,62]),(bm #[33,61])]) q7.2.1) fun y10=>(aE y10.1 (join (fun u16=>(call (sW ([(bm #[60,62]),(bm #[33,61])]) y10.2) fun y17=>(aE y17.1 (u16 (14,y17.2,q7.2.2)) (u16 (13,y17.2,q7.2.2))))) (fun(q15:Int×aD×aA)=>(bK (F.p162_1 q15.1 false q15.2.2 (aD.mk q15.2.1.l (i64.wrap (q15.2.1.at_+1)) q15.2.1.params)) (fun q20=>(q20.1,q20.2.2)) fun y19=>(u8 (q7.1,y19.2,y19.1))))) (call (cE (bm #[73,83]) y10.2) fun y22=>(aE y22.1 (join (fun u28=>(call (cE (bm #[78,79,84]) y22.2) fun y29=>(aE y29.1 (u28 (20,y29.2,q7.2.2)) (u28 (19,y29.2,q7.2.2))))) (fun(q27:Int×aD×aA)=>(bK (F.p162_1 q27.1 false q27.2.2 q27.2.1) (fun q32=>(q32.1,q32.2.2)) fun y31=>(u8 (q7.1,y31.2,y31.1))))) (call (cE (bm #[78,79,84]) y22.2) fun y33=>(call (cE (bm #[76,73,75,69]) y33.2) fun y34=>(aE y34.1 (bK (F.p162_1 23 y33.1 q7.2.2 y34.2) (fun q37=>(q37.1,q37.2.2)) fun y36=>(u8 (q7.1,y36.2,y36.1))) (call (cE (bm #[71,76,79,66]) y34.2) fun y38=>(aE y38.1 (bK (F.p162_1 24 y33.1 q7.2.2 y38.2) (fun q41=>(q41.1,q41.2.2)) fun y40=>(u8 (q7.1,y40.2,y40.1))) (call (cE (bm #[66,69,84,87,69,69,78]) y38.2) fun y42=>(aE y42.1 (bK (F.p161_1 y42.2) (fun q45=>(q45.1,q45.2)) fun y44=>(bK (fE (bm #[65,78,68]) y44.2) (fun q47=>(q47.1,q47.2)) fun y46=>(bK (F.p161_1 y46) (fun q51=>(q51.1,q51.2)) fun y50=>(u8 (q7.1,y50.2,(aA.mk 25 y33.1 bO bO 0 (aH.mk 0 0 bO) ([q7.2.2,y44.1,y50.1]) ([]:List aF))))))) (call (cE (bm #[73,78]) y42.2) fun y52=>(aE y52.1 (bK (F.p163_1 q7.2.2 y33.1 y52.2) (fun q55=>(q55.1,q55.2)) fun y54=>(u8 (q7.1,y54.2,y54.1))) (aE y33.1 (bK (uD y52.2) (fun q58=>(q58.1,q58.2)) fun y57=>(u8 (q7.1,y57,q7.2.2))) (some (PX.ok (q7.2.2,y52.2)))))))))))))))))) bQ ((aA.mk 0 false bO bO 0 (aH.mk 0 0 bO) ([]:List aA) ([]:List aF)),y1.2,y1.1)))
def aBx (F:bD) (H:F.Ok):FU (Ew F):=fun m0 r h=>by
 refine gS fun s b0 pp hpp=>?_;unfold Ew at h;refine gN func119 ntmps119 ?_;refine bG (ai (@aH.aC)<|@aA.aC) ?_;refine fK (ai (@aH.aC)<|@aA.aC) hpp (H.p161_1 m0) h fun y1 _ h=>?_;apply aB.block;refine aB.cM (t0:=3) (x:=(eV y1.1,29)) (by first|rfl|simp only[am,seval,reduceCtorEq]) fun e3 he3=>?_;change (s.aU b0 (rB y1.2)).box e3=none at he3;have he3b0:e3≠b0:=fun hq=>by rw[hq] at he3;simp only[dJ,cU,fI,reduceCtorEq,ne_eq,eJ] at he3
 have ne3:s.box e3=none:=by simpa only[cU,fI,ne_eq,eJ,he3b0] using he3
 refine aB.weaken (st':=eH pp [(0,.ptr b0 0),(1,.loc 1 0),(2,.loc 2 0),(3,.ptr e3 0),(9,.ptr b0 0),(10,.agg y1.1.v)] [(1,([.ptr b0 0],53)),(2,([aI 0,aY false,aM bO,aM bO,aI 0,aI 0,aI 0,aM bO,.nil,.nil],29))] ((s.aU b0 (rB y1.2)).aU e3 (eV y1.1,29)) 75) ?_ ?_
 ·refine CZ ?_ ?_ ?_ (aL.le.refl _) rfl
  ·simp only[jK,St.cM,jH,aH.aC,aA.aC,am,seval,reduceCtorEq]<;>simp
  ·simp only[gB,iG,Nat.reduceBEq,kJ,kI,jE,and_self]
  ·simp only[jL,St.cM,jH,aH.aC,aA.aC,am,seval,reduceCtorEq]<;>(repeat' apply ai)<;>first|rfl|(simp only[aA.aC];rfl)|simp[aA.aC]
 refine aB.dO 1 (cs:=[.ptr b0 0]) (ty:=53) (by first|rfl|simp only[am,seval,reduceCtorEq]) ?_;refine aB.weaken (st':=eH pp [(0,.ptr b0 0),(1,.elt [.ptr b0 0] 0),(2,.loc 2 0),(3,.ptr e3 0),(9,.ptr b0 0),(10,.agg y1.1.v)] [(2,([aI 0,aY false,aM bO,aM bO,aI 0,aI 0,aI 0,aM bO,.nil,.nil],29))] ((s.aU b0 (rB y1.2)).aU e3 (eV y1.1,29)) 75) ?_ ?_
 ·refine CZ ?_ ?_ ?_ (aL.le.refl _) rfl
  ·simp only[jK,St.dO,tM,aH.aC,aA.aC,am,seval,reduceCtorEq]<;>simp
  ·simp only[gB,iG,Nat.reduceBEq,kJ,kI,jE,and_self]
  ·simp only[jL,St.dO,tM,aH.aC,aA.aC,am,seval,reduceCtorEq]<;>(repeat' apply ai)<;>first|rfl|(simp only[aA.aC];rfl)|simp[aA.aC]
 refine lp h (fun q7=>eH pp [(1,.elt [.ptr b0 0] 0),(2,.loc 2 0),(3,.ptr e3 0)] [(2,(eV q7.1,29))] ((s.aU b0 (rB q7.2.1)).aU e3 (eV q7.2.2,29)) 75) ?_ ?_
 ·exact cV (ai @aH.aC<|@aA.aC)
 ·rintro u8 ⟨b4,w5,w6⟩ h;(try dsimp only at h ⊢);apply aB.block;refine bG (ai (@aH.aC)<|ai (@aA.aC)<|ai he3b0<|he3b0.symm) ?_;apply aB.seq;refine dN (ai (@aH.aC)<|ai (@aA.aC)<|ai he3b0<|he3b0.symm) (Ev ([(bm #[61]),(bm #[61,61]),(bm #[60,62]),(bm #[33,61])]) w5) h fun y10 _ h=>?_;refine hL (s':=((s.aU b0 (rB y10.2)).aU e3 (eV w6,29))) ?_;refine wz h (fun h=>?_) fun h=>?_
  ·refine bG (ai (@aH.aC)<|ai (@aA.aC)<|ai he3b0<|he3b0.symm) ?_;refine jn h (fun q15=>eH pp [(1,.elt [.ptr b0 0] 0),(2,.loc 2 0),(3,.ptr e3 0),(4,.func 162 [] [.ptr e3 0,.elt [.ptr b0 0] 0]),(5,aI q15.1)] [(2,(eV b4,29))] ((s.aU b0 (rB q15.2.1)).aU e3 (eV q15.2.2,29)) 75) (fun u16 h=>?_) ?_
   ·refine dN (ai (@aH.aC)<|ai (@aA.aC)<|ai he3b0<|he3b0.symm) (Ev ([(bm #[60,62]),(bm #[33,61])]) y10.2) h fun y17 _ h=>?_;refine hL (s':=((s.aU b0 (rB y17.2)).aU e3 (eV w6,29))) ?_;refine wz h (fun h=>?_) fun h=>?_
    ·refine bU (ai (@aH.aC)<|ai (@aA.aC)<|ai he3b0<|he3b0.symm) ?_;exact⟨(14,y17.2,w6),h,cV (ai @aH.aC<|@aA.aC)⟩
    ·apply sK;exact⟨(13,y17.2,w6),h,cV (ai @aH.aC<|@aA.aC)⟩
   ·rintro⟨v12,w13,w14⟩ h;(try dsimp only at h ⊢);refine bG (ai (@aH.aC)<|ai (@aA.aC)<|ai (@aD.aC)<|ai he3b0<|he3b0.symm) ?_;refine hL (s':=((s.aU b0 ([.slice 3 (w13.l.map aP.v),aI (i64.wrap (w13.at_+1)),aI w13.params],93)).aU e3 (eV w14,29))) ?_;refine fK (ai (@aH.aC)<|ai (@aA.aC)<|ai (@aD.aC)<|ai he3b0<|he3b0.symm) hpp (H.p162_1 v12 false w14 (aD.mk w13.l (i64.wrap (w13.at_+1)) w13.params)) h fun y19 _ h=>?_;refine hL (s':=((s.aU b0 (rB y19.2)).aU e3 (eV y19.1,29))) ?_;apply aB.exit;simp only[dR,seval];exact⟨(b4,y19.2,y19.1),h,cV (ai @aH.aC<|ai @aA.aC<|@aD.aC)⟩
  ·apply sK;apply aB.seq;refine dN (ai (@aH.aC)<|ai (@aA.aC)<|ai (@aD.aC)<|ai he3b0<|he3b0.symm) (iL (bm #[73,83]) y10.2) h fun y22 _ h=>?_;refine hL (s':=((s.aU b0 (rB y22.2)).aU e3 (eV w6,29))) ?_;refine wz h (fun h=>?_) fun h=>?_
   ·refine bG (ai (@aH.aC)<|ai (@aA.aC)<|ai (@aD.aC)<|ai he3b0<|he3b0.symm) ?_;refine jn h (fun q27=>eH pp [(1,.elt [.ptr b0 0] 0),(2,.loc 2 0),(3,.ptr e3 0),(4,.func 162 [] [.ptr e3 0,.elt [.ptr b0 0] 0]),(6,aI q27.1)] [(2,(eV b4,29))] ((s.aU b0 (rB q27.2.1)).aU e3 (eV q27.2.2,29)) 75) (fun u28 h=>?_) ?_
    ·refine dN (ai (@aH.aC)<|ai (@aA.aC)<|ai (@aD.aC)<|ai he3b0<|he3b0.symm) (iL (bm #[78,79,84]) y22.2) h fun y29 _ h=>?_;refine hL (s':=((s.aU b0 (rB y29.2)).aU e3 (eV w6,29))) ?_;refine wz h (fun h=>?_) fun h=>?_
     ·refine bU (ai (@aH.aC)<|ai (@aA.aC)<|ai (@aD.aC)<|ai he3b0<|he3b0.symm) ?_;exact⟨(20,y29.2,w6),h,cV (ai @aH.aC<|ai @aA.aC<|@aD.aC)⟩
     ·apply sK;exact⟨(19,y29.2,w6),h,cV (ai @aH.aC<|ai @aA.aC<|@aD.aC)⟩
    ·rintro⟨v24,w25,w26⟩ h;(try dsimp only at h ⊢);refine fK (ai (@aH.aC)<|ai (@aA.aC)<|ai (@aD.aC)<|ai he3b0<|he3b0.symm) hpp (H.p162_1 v24 false w26 w25) h fun y31 _ h=>?_;refine hL (s':=((s.aU b0 (rB y31.2)).aU e3 (eV y31.1,29))) ?_;apply aB.exit;simp only[dR,seval];exact⟨(b4,y31.2,y31.1),h,cV (ai @aH.aC<|ai @aA.aC<|@aD.aC)⟩
   ·apply sK;refine dN (ai (@aH.aC)<|ai (@aA.aC)<|ai (@aD.aC)<|ai he3b0<|he3b0.symm) (iL (bm #[78,79,84]) y22.2) h fun y33 _ h=>?_;refine hL (s':=((s.aU b0 (rB y33.2)).aU e3 (eV w6,29))) ?_;apply aB.block;refine dN (ai (@aH.aC)<|ai (@aA.aC)<|ai (@aD.aC)<|ai he3b0<|he3b0.symm) (iL (bm #[76,73,75,69]) y33.2) h fun y34 _ h=>?_;refine hL (s':=((s.aU b0 (rB y34.2)).aU e3 (eV w6,29))) ?_;refine wz h (fun h=>?_) fun h=>?_
    ·refine tH (ai (@aH.aC)<|ai (@aA.aC)<|ai (@aD.aC)<|ai he3b0<|he3b0.symm) hpp (H.p162_1 23 y33.1 w6 y34.2) h fun y36 _ h=>?_;exact⟨(b4,y36.2,y36.1),h,cV (ai @aH.aC<|ai @aA.aC<|@aD.aC)⟩
    ·refine dN (ai (@aH.aC)<|ai (@aA.aC)<|ai (@aD.aC)<|ai he3b0<|he3b0.symm) (iL (bm #[71,76,79,66]) y34.2) h fun y38 _ h=>?_;refine hL (s':=((s.aU b0 (rB y38.2)).aU e3 (eV w6,29))) ?_;refine wz h (fun h=>?_) fun h=>?_
     ·refine tH (ai (@aH.aC)<|ai (@aA.aC)<|ai (@aD.aC)<|ai he3b0<|he3b0.symm) hpp (H.p162_1 24 y33.1 w6 y38.2) h fun y40 _ h=>?_;exact⟨(b4,y40.2,y40.1),h,cV (ai @aH.aC<|ai @aA.aC<|@aD.aC)⟩
     ·refine dN (ai (@aH.aC)<|ai (@aA.aC)<|ai (@aD.aC)<|ai he3b0<|he3b0.symm) (iL (bm #[66,69,84,87,69,69,78]) y38.2) h fun y42 _ h=>?_;refine hL (s':=((s.aU b0 (rB y42.2)).aU e3 (eV w6,29))) ?_;refine wz h (fun h=>?_) fun h=>?_
      ·refine fK (ai (@aH.aC)<|ai (@aA.aC)<|ai (@aD.aC)<|ai he3b0<|he3b0.symm) hpp (H.p161_1 y42.2) h fun y44 _ h=>?_;refine hL (s':=((s.aU b0 (rB y44.2)).aU e3 (eV w6,29))) ?_;refine fK (ai (@aH.aC)<|ai (@aA.aC)<|ai (@aD.aC)<|ai he3b0<|he3b0.symm) hpp (tA (bm #[65,78,68]) y44.2) h fun y46 _ h=>?_;refine hL (s':=((s.aU b0 (rB y46)).aU e3 (eV w6,29))) ?_;refine aB.KH mixed 1 4 [0,1,2,3,4,5,6,7] [0,2,3,4,1,5,6,7] (by decide+kernel) [100059] (by decide+kernel) (by decide+kernel) (fun Z48 hZ48=>?_) (fun Z48 hZ48=>?_)
       ·(try simp only[aH.aC,aA.aC,aD.aC,pL,sC,he3b0,he3b0.symm,eY,Nat.reduceBEq,xm,Nat.reduceAdd,Nat.reduceLeDiff,seval,reduceCtorEq]);refine oZ hpp (H.p161_1 y46) h fun y50 _ h=>?_;(try simp only[aH.aC,aA.aC,aD.aC,pL,sC,he3b0,he3b0.symm,eY,Nat.reduceBEq,xm,Nat.reduceAdd,Nat.reduceLeDiff,seval,reduceCtorEq]);refine hZ48 _ ?_;clear hZ48 Z48;exact⟨(b4,y50.2,(aA.mk 25 y33.1 bO bO 0 (aH.mk 0 0 bO) ([w6,y44.1,y50.1]) ([]:List aF))),h,cV (ai @aH.aC<|ai @aA.aC<|@aD.aC)⟩
       ·(try simp only[aH.aC,aA.aC,aD.aC,pL,sC,he3b0,he3b0.symm,eY,Nat.reduceBEq,xm,Nat.reduceAdd,Nat.reduceLeDiff,seval,reduceCtorEq]);refine oZ hpp (H.p161_1 y46) h fun y50 _ h=>?_;(try simp only[aH.aC,aA.aC,aD.aC,pL,sC,he3b0,he3b0.symm,eY,Nat.reduceBEq,xm,Nat.reduceAdd,Nat.reduceLeDiff,seval,reduceCtorEq]);refine hZ48 _ ?_;clear hZ48 Z48;exact⟨(b4,y50.2,(aA.mk 25 y33.1 bO bO 0 (aH.mk 0 0 bO) ([w6,y44.1,y50.1]) ([]:List aF))),h,cV (ai @aH.aC<|ai @aA.aC<|@aD.aC)⟩
      ·refine dN (ai (@aH.aC)<|ai (@aA.aC)<|ai (@aD.aC)<|ai he3b0<|he3b0.symm) (iL (bm #[73,78]) y42.2) h fun y52 _ h=>?_;refine hL (s':=((s.aU b0 (rB y52.2)).aU e3 (eV w6,29))) ?_;refine wz h (fun h=>?_) fun h=>?_
       ·refine tH (ai (@aH.aC)<|ai (@aA.aC)<|ai (@aD.aC)<|ai he3b0<|he3b0.symm) hpp (H.p163_1 w6 y33.1 y52.2) h fun y54 _ h=>?_;exact⟨(b4,y54.2,y54.1),h,cV (ai @aH.aC<|ai @aA.aC<|@aD.aC)⟩
       ·refine bG (ai (@aH.aC)<|ai (@aA.aC)<|ai (@aD.aC)<|ai he3b0<|he3b0.symm) ?_;refine wz h (fun h=>?_) fun h=>?_
        ·refine tH (ai (@aH.aC)<|ai (@aA.aC)<|ai (@aD.aC)<|ai he3b0<|he3b0.symm) hpp (Ah y52.2) h fun y57 _ h=>?_;exact⟨(b4,y57,w6),h,cV (ai @aH.aC<|ai @aA.aC<|@aD.aC)⟩
        ·refine bG (ai (@aH.aC)<|ai (@aA.aC)<|ai (@aD.aC)<|ai he3b0<|he3b0.symm) ?_;refine aB.ret ?_;refine⟨_,St.to.refl _,?_⟩;obtain rfl:=eS h;refine qX (vs:=[.agg [aI w6.op,aY w6.not,aM w6.table,aM w6.name,aI w6.n,aI w6.v_.kind,aI w6.v_.int,aM w6.v_.text,.slice 10 (w6.args.map aA.v),.slice 5 (w6.sub.map aF.v)]]) (v:=.agg w6.v) (by show dC prog _ [.cell 2 29]=_;simp only[dC,nQ,aH.aC,aA.aC,aD.aC,am,seval,reduceCtorEq]) (Wk.agg (by rw[aA.aC];exact⟨Wk.refl _,Wk.refl _,Wk.refl _,Wk.refl _,Wk.refl _,Wk.refl _,Wk.refl _,Wk.refl _,Wk.refl _,Wk.refl _,trivial⟩)) (aL.le.trans (aL.le.qP (by simp only[cU,fI,he3b0,he3b0.symm,ne_eq,eJ,ne3]) _) (aL.le.refl _)) ⟨_,rfl,?_,rfl⟩;rfl
abbrev Wr (α:Type):=aD->Option (PX (Int×aD) (α×aD))
def Fp (F:bD) (long:Int):(List aA×aD->Option (PX (Int×aD) (List aA×aD)))->List aA×aD->Option (PX (Int×aD) (List aA×aD)):=fun u q=>aE (decide ((q.1.length:Int)<long)) (call (eR (bm #[44]) q.2) fun y=>aE y.1 (bK (F.p15_1 y.2) (fun q=>(q.1,q.2)) fun z=>aR ((q.1.length+1)*136<=140737488355328) (u (q.1++[z.1],z.2))) (some (PX.ok (q.1,y.2)))) (some (PX.ok q))
def Aj (vals:List (List aA)):Int:=match vals with
 |[]=>9223372036854775807
 |r::_=>(r.length:Int)
def vV (F:bD) (vals:List (List aA)):Wr (List aA):=fun m=>bK (fJ (bm #[40]) m) (fun q=>(q.1,q.2)) fun y=>bK (F.p15_1 y) (fun q=>(q.1,q.2)) fun z=>bK (cF (Fp F (Aj vals)) bQ ([z.1],z.2)) (fun q=>(q.1,q.2)) fun r=>aE (decide ((vals.length:Int)>0)&&decide ((r.1.length:Int)<Aj vals)) (bK (uD r.2) (fun q=>(q.1,q.2)) fun _=>none) (bK (fJ (bm #[41]) r.2) (fun q=>(q.1,q.2)) fun w=>aR ((vals.length+1)*24<=140737488355328) (some (PX.ok (r.1,w))))
def Ez (F:bD):(List (List aA)×aD->Option (PX (Int×aD) (List (List aA)×aD)))->List (List aA)×aD->Option (PX (Int×aD) (List (List aA)×aD)):=fun u q=>call (eR (bm #[44]) q.2) fun y=>aE y.1 (bK (vV F q.1 y.2) (fun q=>(q.1,q.2)) fun z=>aR ((q.1.length+1)*24<=140737488355328) (u (q.1++[z.1],z.2))) (some (PX.ok (q.1,y.2)))
def Cl (F:bD):Wr aK:=fun m=>bK (vV F [] m) (fun q=>(q.1,q.2)) fun z=>bK (cF (Ez F) bQ ([z.1],z.2)) (fun q=>(q.1,q.2)) fun r=>some (PX.ok (aK.mk 0 false [] [] [] [] [] r.1,r.2))
def l8 {α:Type} (vals:List (List aA)) (K:Int->Option α):join (fun u:Int->Option α=>aE (decide ((vals.length:Int)>0)) (aR (0<=(0:Int)∧(0:Int)<(vals.length:Int)) (u (((vals.getD 0 []).length:Nat):Int))) (u 9223372036854775807)) K=K (Aj vals):=by
 cases vals with
 |nil=>rfl
 |cons v0 vs=>
  have e:decide ((((v0::vs).length:Nat):Int)>0)=true:=decide_eq_true (by simp only[bF];omega);unfold join;rw[e];exact if_pos ⟨by omega,by simp only[bF];omega⟩
abbrev vS (h:aL) (b0 bR bP g:Nat) (l:List (List aA)) (m:aD):aL:=((h.aU b0 (rB m)).aU bR ([.ptr b0 0],53)).aU bP ([aI 0,aY false,.nil,.nil,.nil,.nil,.nil,.own g 1 (List.map (fun x=>[V.slice 10 (x.map aA.v)]) l)],75)
def HU (F:bD) (H:F.Ok) (vals:List (List aA)) (m0:aD) (r:PX (Int×aD) (List aA×aD)) (h:vV F vals m0=some r) (s:aL) (b0 bR bP g:Nat) (pp:Value->aL->Prop) (hpp:∀q,r= .bad q->pp (qU 149 q.1) (s.aU b0 (rB q.2))) (h0R:b0≠bR) (h0P:b0≠bP) (hRP:bR≠bP) (hR:s.box bR=none) (hP:s.box bP=none) (fr:Fr s (List.map Prod.fst [(g,(26,1))])):
 gM prog 168 [.ptr bR 0,.ptr bP 0] (vS (cJ s [(g,(26,1))]) b0 bR bP g vals m0) pp fun v' s'=>∃y g',r= .ok y∧v'= .slice 10 (y.1.map aA.v)∧Fr s (List.map Prod.fst [(g',(26,1))])∧s'=(vS (cJ s [(g',(26,1))]) b0 bR bP g' (vals++[y.1]) y.2):=by
 have hb:∀(x:aL) (m:aD) (X Y:List V×TypeId),(((x.aU b0 (rB m)).aU bR X).aU bP Y).box b0=some (rB m):=fun x m X Y=>(cU h0P).trans ((cU h0R).trans dJ);have O:=Fr.drop (l:=[(g,(26,1))]) fr;unfold vV at h;refine gN func168 ntmps168 ?_;refine rg ?_;refine aB.eD fun Z1 hZ1=>?_;(try simp only[h0R,h0R.symm,h0P,h0P.symm,hRP,hRP.symm,xs,xa,Nat.reduceAdd,seval,reduceCtorEq]);refine tL O hpp (sY (bm #[40]) m0) h (fun y hy h=>?_) (hb:=hb (cJ s [(g,(26,1))]) m0 ([.ptr b0 0],53) ([aI 0,aY false,.nil,.nil,.nil,.nil,.nil,.own g 1 (List.map (fun x=>[V.slice 10 (x.map aA.v)]) vals)],75));(try simp only[h0R,h0R.symm,h0P,h0P.symm,hRP,hRP.symm,xs,xa,Nat.reduceAdd,seval,reduceCtorEq]);refine hZ1 _ ?_;clear hZ1 Z1;refine hL (s':=(vS (cJ s [(g,(26,1))]) b0 bR bP g vals y)) ?_;refine aB.xR 2 rfl (by decide+kernel) fun Z1 hZ1=>?_;(try simp only[h0R,h0R.symm,h0P,h0P.symm,hRP,hRP.symm,xs,xa,Nat.reduceAdd,seval,reduceCtorEq]);refine tL O hpp (H.p15_1 y) h (fun z hz h=>?_) (hb:=hb (cJ s [(g,(26,1))]) y ([.ptr b0 0],53) ([aI 0,aY false,.nil,.nil,.nil,.nil,.nil,.own g 1 (List.map (fun x=>[V.slice 10 (x.map aA.v)]) vals)],75));(try simp only[qO,qN,qM,xs,xa,Nat.reduceAdd,seval,reduceCtorEq]);refine⟨by simp only[gA,am,seval,reduceCtorEq],_,zY rfl vX rfl nQ (by decide) (by decide) (by first|rfl|(simp only[aA.vs,vX,nQ,yC,aA.snoc,aA.lE,aA.eta,Bh,Bi,dJ,cU,fI,ne_eq,eJ,am,seval,reduceCtorEq]<;>rfl)) (by simp only[am,seval,reduceCtorEq]),?_⟩
 rintro _ ⟨g4,hg4,rfl⟩;change (cJ s [(g,(26,1))]).own g4=none at hg4;have fr5:Fr s (List.map Prod.fst [(g,(26,1)),(g4,(29,10))]):=Fr.snoc (l:=[(g,(26,1))]) fr hg4;(try simp only[sE,sD,oY,xs,xa,Nat.reduceAdd,seval,reduceCtorEq]);refine hZ1 _ ?_;clear hZ1 Z1;refine hL (s':=(vS (cJ s [(g,(26,1)),(g4,(29,10))]) b0 bR bP g vals z.2)) ?_;refine rg ?_;replace h:=(l8 vals (fun long=>bK (cF (Fp F long) bQ ([z.1],z.2)) (fun q=>(q.1,q.2)) fun r=>aE (decide ((vals.length:Int)>0)&&decide ((r.1.length:Int)<long)) (bK (uD r.2) (fun q=>(q.1,q.2)) fun _=>none) (bK (fJ (bm #[41]) r.2) (fun q=>(q.1,q.2)) fun w=>aR ((vals.length+1)*24<=140737488355328) (some (PX.ok (r.1,w)))))).trans h;refine jn h (fun long=>eH pp [(0,.ptr bR 0),(1,.ptr bP 0),(3,.own g4 10 (List.map aA.v [z.1])),(4,aI long)] [] (vS (cJ s [(g,(26,1)),(g4,(29,10))]) b0 bR bP g vals z.2) 53) (fun u4 h=>?_) ?_
 ·refine aB.eD fun Z1 hZ1=>?_;(try simp only[h0R,h0R.symm,h0P,h0P.symm,hRP,hRP.symm,xs,xa,Nat.reduceAdd,seval,reduceCtorEq]);refine hZ1 _ ?_;clear hZ1 Z1;refine ws h (fun hc h=>?_) fun hc h=>?_
  ·obtain⟨hn,h⟩:=aV h;refine aB.fW fun Z1 hZ1=>?_;have i1:=aJ hn.1;have i2:=aJ hn.2;have hgd:(List.map (fun x=>[V.slice 10 (x.map aA.v)]) vals).getD 0 []=[V.slice 10 (List.map aA.v (vals.getD 0 []))]:=by
    cases vals with
    |nil=>exact absurd hn.2 (by decide)
    |cons a l=>rfl
   (try simp only[i1,i2,hgd,xL,gI,h0R,h0R.symm,h0P,h0P.symm,hRP,hRP.symm,xs,xa,Nat.reduceAdd,seval,reduceCtorEq]);exact hZ1 _ ⟨_,h,lQ⟩
  ·apply sK;exact⟨_,h,lQ⟩
 ·rintro long h;(try dsimp only at h ⊢);obtain⟨y1,hy1,hc1⟩:=Hq h;clear h;have hppy:∀q,y1= .bad q->pp (qU 149 q.1) (s.aU b0 (rB q.2)):=fun q hq=>by
   rcases hc1 with⟨z',e,_⟩|⟨b,e,e2⟩
   ·rw[e] at hq;cases hq
   ·rw[e] at hq;cases hq;exact hpp _ e2
  apply aB.seq;apply aB.block;refine aB.pA (X:=(List aA)×aD) (G:=Nat) hy1 (fun gq=>Fr s (List.map Prod.fst [(g,(26,1)),(gq,(29,10))])) (fun q gq=>eH pp [(0,.ptr bR 0),(1,.ptr bP 0),(3,.own gq 10 (q.1.map aA.v)),(4,aI long)] [] (vS (cJ s [(g,(26,1)),(gq,(29,10))]) b0 bR bP g vals q.2) 53) ?_ ?_
  ·exact⟨g4,fr5,lQ⟩
  ·rintro u11 ⟨v7,w9⟩ h g8 fr8;(try dsimp only at h ⊢);have O8:=Fr.drop (l:=[(g,(26,1)),(g8,(29,10))]) fr8;unfold Fp at h;apply aB.seq;have h:join (fun u:Bool×aD->Option (PX (Int×aD) (List aA×aD))=>aE (decide ((v7.length:Int)<long)) (call (eR (bm #[44]) w9) fun y=>u (y.1,y.2)) (u (false,w9))) (fun c=>aE c.1 (bK (F.p15_1 c.2) (fun q=>(q.1,q.2)) fun z=>aR ((v7.length+1)*136<=140737488355328) (u11 (v7++[z.1],z.2))) (some (PX.ok (v7,c.2))))=some y1:=by
    unfold join
    revert h
    cases decide ((v7.length:Int)<long)<;>exact id
   refine jn h (fun c=>eH pp [(0,.ptr bR 0),(1,.ptr bP 0),(3,.own g8 10 (v7.map aA.v)),(4,aI long),(26,aY c.1)] [] (vS (cJ s [(g,(26,1)),(g8,(29,10))]) b0 bR bP g vals c.2) 53) (fun u4 h=>?_) ?_
   ·refine wy h (fun hg h=>?_) fun hg h=>?_
    ·obtain⟨y,hy,h⟩:=cC h;refine aB.fW fun Z1 hZ1=>?_;(try simp only[hg,gI,h0R,h0R.symm,h0P,h0P.symm,hRP,hRP.symm,xs,xa,Nat.reduceAdd,seval,reduceCtorEq]);refine jJ (sZ (bm #[44]) w9 y hy) ?_ (hb:=hb (cJ s [(g,(26,1)),(g8,(29,10))]) w9 ([.ptr b0 0],53) ([aI 0,aY false,.nil,.nil,.nil,.nil,.nil,.own g 1 (List.map (fun x=>[V.slice 10 (x.map aA.v)]) vals)],75));(try simp only[hg,gI,h0R,h0R.symm,h0P,h0P.symm,hRP,hRP.symm,xs,xa,Nat.reduceAdd,seval,reduceCtorEq]);exact hZ1 _ ⟨(y.1,y.2),h,lQ⟩
    ·refine aB.fW fun Z1 hZ1=>?_;(try simp only[hg,gI,h0R,h0R.symm,h0P,h0P.symm,hRP,hRP.symm,xs,xa,Nat.reduceAdd,seval,reduceCtorEq]);exact hZ1 _ ⟨(false,w9),h,lQ⟩
   ·rintro⟨c1,w10⟩ h;(try dsimp only at h ⊢);refine ws h (fun hc h=>?_) fun hc h=>?_
    ·apply sK;apply aB.block;refine aB.fW fun Z1 hZ1=>?_;(try simp only[h0R,h0R.symm,h0P,h0P.symm,hRP,hRP.symm,xs,xa,Nat.reduceAdd,seval,reduceCtorEq]);refine tL O8 hppy (H.p15_1 w10) h (fun y hy h=>?_) (hb:=hb (cJ s [(g,(26,1)),(g8,(29,10))]) w10 ([.ptr b0 0],53) ([aI 0,aY false,.nil,.nil,.nil,.nil,.nil,.own g 1 (List.map (fun x=>[V.slice 10 (x.map aA.v)]) vals)],75));obtain⟨hn,h⟩:=aV h;(try simp only[h0R,h0R.symm,h0P,h0P.symm,hRP,hRP.symm,xs,xa,Nat.reduceAdd,seval,reduceCtorEq])
     first|refine mL fr8 hn fun g20 hg20=>?_|refine mM fr8 hn fun g20 hg20=>?_
     have fr21:Fr s (List.map Prod.fst [(g,(26,1)),(g20,(29,10))]):=Fr.rep (a:=[(g,(26,1))]) (b:=[]) fr8 hg20;(try simp only[h0R,h0R.symm,h0P,h0P.symm,hRP,hRP.symm,xs,xa,Nat.reduceAdd,seval,reduceCtorEq]);refine hZ1 _ ?_;clear hZ1 Z1;refine⟨(v7++[y.1],y.2),h,g20,fr21,?_⟩;refine xM (s':=(vS (cJ s [(g,(26,1)),(g20,(29,10))]) b0 bR bP g vals y.2)) (iI (o:=(Fr.mN (a:=[(g,(26,1))]) (b:=[]) fr8 hg20:aL.le _ _).own)) ?_;exact lQ
    ·apply aB.exit;simp only[dR,seval];cases h
     rcases hc1 with⟨z',e,h⟩|⟨b,e,_⟩
     rotate_left
     ·cases e
     cases e
     (try dsimp only at h ⊢);have h:join (fun u:Bool->Option (PX (Int×aD) (List aA×aD))=>aE (decide ((vals.length:Int)>0)) (u (decide ((v7.length:Int)<long))) (u false)) (fun c=>aE c (bK (uD w10) (fun q=>(q.1,q.2)) fun _=>none) (bK (fJ (bm #[41]) w10) (fun q=>(q.1,q.2)) fun w=>aR ((vals.length+1)*24<=140737488355328) (some (PX.ok (v7,w)))))=some r:=by
      unfold join
      revert h
      cases decide ((vals.length:Int)>0)<;>exact id
     apply aB.seq;refine jn h (fun c=>eH pp [(0,.ptr bR 0),(1,.ptr bP 0),(3,.own g8 10 (v7.map aA.v)),(41,aY c)] [] (vS (cJ s [(g,(26,1)),(g8,(29,10))]) b0 bR bP g vals w10) 53) (fun u4 h=>?_) ?_
     ·refine wy h (fun hg h=>?_) fun hg h=>?_
      ·refine aB.fW fun Z1 hZ1=>?_;(try simp only[hg,gI,h0R,h0R.symm,h0P,h0P.symm,hRP,hRP.symm,xs,xa,Nat.reduceAdd,seval,reduceCtorEq]);exact hZ1 _ ⟨_,h,lQ⟩
      ·refine aB.fW fun Z1 hZ1=>?_;(try simp only[hg,gI,h0R,h0R.symm,h0P,h0P.symm,hRP,hRP.symm,xs,xa,Nat.reduceAdd,seval,reduceCtorEq]);exact hZ1 _ ⟨_,h,lQ⟩
     ·rintro c1 h;refine ws h (fun hc h=>?_) fun hc h=>?_
      ·refine aB.fW fun Z1 hZ1=>?_;(try simp only[h0R,h0R.symm,h0P,h0P.symm,hRP,hRP.symm,xs,xa,Nat.reduceAdd,seval,reduceCtorEq]);refine tL O8 hpp (Ah w10) h (fun y hy h=>?_) (hb:=hb (cJ s [(g,(26,1)),(g8,(29,10))]) w10 ([.ptr b0 0],53) ([aI 0,aY false,.nil,.nil,.nil,.nil,.nil,.own g 1 (List.map (fun x=>[V.slice 10 (x.map aA.v)]) vals)],75));cases h
      ·apply sK;refine aB.eD fun Z1 hZ1=>?_;(try simp only[h0R,h0R.symm,h0P,h0P.symm,hRP,hRP.symm,xs,xa,Nat.reduceAdd,seval,reduceCtorEq]);refine tL O8 hpp (sY (bm #[41]) w10) h (fun y hy h=>?_) (hb:=hb (cJ s [(g,(26,1)),(g8,(29,10))]) w10 ([.ptr b0 0],53) ([aI 0,aY false,.nil,.nil,.nil,.nil,.nil,.own g 1 (List.map (fun x=>[V.slice 10 (x.map aA.v)]) vals)],75));(try simp only[h0R,h0R.symm,h0P,h0P.symm,hRP,hRP.symm,xs,xa,Nat.reduceAdd,seval,reduceCtorEq]);refine hZ1 _ ?_;clear hZ1 Z1;have OC:(cJ s [(g,(26,1)),(g8,(29,10))]).le (cJ s [(g,(26,1))]):=(Fr.cut (a:=[(g,(26,1))]) (b:=[(g8,(29,10))]) fr8).2;obtain⟨hn,h⟩:=aV h;refine aB.to (aDd (L:=[(0,.ptr bR 0),(1,.ptr bP 0),(3,.slice 10 (v7.map aA.v))]) (B:=[]) (s:=(vS (cJ s [(g,(26,1))]) b0 bR bP g vals y)) (n:=53) OC) ?_;refine aB.eD fun Z1 hZ1=>?_;(try simp only[h0R,h0R.symm,h0P,h0P.symm,hRP,hRP.symm,xs,xa,Nat.reduceAdd,seval,reduceCtorEq]);have hnv:(vals.length+1)*24<=140737488355328:=hn
       first|refine mL fr hn fun g20 hg20=>?_|refine mM fr hn fun g20 hg20=>?_
       have fr21:Fr s (List.map Prod.fst [(g20,(26,1))]):=Fr.rep (a:=[]) (b:=[]) fr hg20;have hbx:∀(x:aL) (X:List V×TypeId),(((x.aU bP X).cI g none).cI g20 (some (26,1))).box bP=some X:=fun x X=>dJ;(try simp only[hbx,bF,bS,Nat.reduceLeDiff,List.take_succ_cons,wO,Qm,kG,h0R,h0R.symm,h0P,h0P.symm,hRP,hRP.symm,xs,xa,Nat.reduceAdd,seval,reduceCtorEq]);refine hZ1 _ ?_;clear hZ1 Z1;refine aB.fC (s':=(vS (cJ s [(g20,(26,1))]) b0 bR bP g20 (vals++[v7]) y)) (iI (o:=(Fr.mN (a:=[]) (b:=[]) fr hg20:aL.le _ _).own)) ?_;refine rg ?_;cases h
       refine aB.ret ⟨_,fun _ _ _ h=>h,?_⟩;refine⟨[V.slice 10 (v7.map aA.v)],_,_,?_,Wk.refl _,aL.le.refl _,(v7,y),g20,rfl,rfl,fr21,rfl⟩;show dC prog _ [.tmp 2]=_;simp only[dC,am,seval,reduceCtorEq]
def UG {s:aL} {a b:Nat} {x:TypeId×Nat} (k:Nat):(cJ s [(a,x),(b,x)]).own k=(cJ s [(b,x),(a,x)]).own k:=by
 simp only[cJ,aL.cI,cA];split<;>split<;>rfl
def ZU {s:aL} {a b:Nat} {x y:TypeId×Nat} (h:Fr s (List.map Prod.fst [(a,x),(b,y)])):Fr s (List.map Prod.fst [(b,y),(a,x)]):=by
 obtain⟨h1,h2⟩:=h;refine⟨fun g hg=>h1 g (by simp at hg ⊢;omega),?_⟩;simp at h2 ⊢;exact fun e=>h2 e.symm
def aEe {s:aL} {a b:Nat} {x y:TypeId×Nat} (h:Fr s (List.map Prod.fst [(a,x),(b,y)])):Fr (cJ s [(a,x)]) (List.map Prod.fst [(b,y)]):=by
 obtain⟨h1,h2⟩:=h;simp at h2;refine⟨fun g hg=>?_,by simp⟩;obtain rfl:g=b:=by simpa using hg
 show(if g=a then some x else s.own g)=none;rw[if_neg (fun e=>h2 e.symm)];exact h1 g (by simp)
def Oi (F:bD):Wr (List (List aA)):=fun m=>bK (vV F [] m) (fun q=>(q.1,q.2)) fun z=>cF (Ez F) bQ ([z.1],z.2)
def SV (F:bD) (m:aD):Cl F m=bK (Oi F m) (fun q=>(q.1,q.2)) fun r=>some (PX.ok (aK.mk 0 false [] [] [] [] [] r.1,r.2)):=by
 unfold Cl Oi bK;cases vV F [] m with
 |none=>rfl
 |some y=>cases y<;>rfl
def aFe (F:bD) (H:F.Ok) (m0:aD) (r:PX (Int×aD) (List (List aA)×aD)) (h:Oi F m0=some r) (s:aL) (b0 bR bP g:Nat) (pp:Value->aL->Prop) (hpp:∀q,r= .bad q->pp (qU 149 q.1) (s.aU b0 (rB q.2))) (h0R:b0≠bR) (h0P:b0≠bP) (hRP:bR≠bP) (hR:s.box bR=none) (hP:s.box bP=none) (fr:Fr s (List.map Prod.fst [(g,(26,1))])):
 gM prog 167 [.ptr b0 0,.func 168 [] [.ptr bR 0,.ptr bP 0]] (vS (cJ s [(g,(26,1))]) b0 bR bP g ([]:List (List aA)) m0) pp fun v' s'=>∃y,r= .ok y∧v'= .slice 1 (List.map (fun x=>[V.slice 10 (x.map aA.v)]) y.1)∧s'=((s.aU b0 (rB y.2)).aU bR ([.ptr b0 0],53)).aU bP ([aI 0,aY false,.nil,.nil,.nil,.nil,.nil,.slice 1 (List.map (fun x=>[V.slice 10 (x.map aA.v)]) y.1)],75):=by
 have hb:∀(x:aL) (m:aD) (X Y:List V×TypeId),(((x.aU b0 (rB m)).aU bR X).aU bP Y).box b0=some (rB m):=fun x m X Y=>(cU h0P).trans ((cU h0R).trans dJ);unfold Oi at h;refine gN func167 ntmps167 ?_;refine rg ?_;refine aB.xR 2 rfl (by decide+kernel) fun Z1 hZ1=>?_;(try simp only[h0R,h0R.symm,h0P,h0P.symm,hRP,hRP.symm,xs,xa,Nat.reduceAdd,seval,reduceCtorEq]);obtain⟨y,hy,hc⟩:=Hq h;refine(HU F H [] m0 y hy s b0 bR bP g pp (fun q hq=>?_) h0R h0P hRP hR hP fr).mono (fun v s' h=>⟨s',aL.le.refl _,by first|exact h|exact⟨rfl,h⟩⟩) ?_
 ·rcases hc with⟨z',e,_⟩|⟨b,e,e2⟩
  ·rw[e] at hq;cases hq
  ·rw[e] at hq;cases hq;exact hpp _ e2
 rintro _ _ ⟨z,g1,rfl,rfl,fr1,rfl⟩;rcases hc with⟨z',e,h⟩|⟨b,e,_⟩
 rotate_left
 ·cases e
 cases e
 (try simp only[qO,qN,qM,xs,xa,Nat.reduceAdd,seval,reduceCtorEq]);refine⟨by simp only[gA,am,seval,reduceCtorEq],_,zY rfl Vr rfl vX (by decide) (by decide) (by first|rfl|(simp only[Vr,vX,yC,Bh,Bi,dJ,cU,fI,ne_eq,eJ,am,seval,reduceCtorEq]<;>rfl)) (by simp only[am,seval,reduceCtorEq]),?_⟩;rintro _ ⟨g4,hg4,rfl⟩;change (cJ s [(g1,(26,1))]).own g4=none at hg4;have fr5:Fr s (List.map Prod.fst [(g1,(26,1)),(g4,(26,1))]):=Fr.snoc (l:=[(g1,(26,1))]) fr1 hg4;(try simp only[sE,sD,oY,xs,xa,Nat.reduceAdd,seval,reduceCtorEq]);refine hZ1 _ ?_;clear hZ1 Z1;refine aB.fC (s':=(vS (cJ s [(g4,(26,1)),(g1,(26,1))]) b0 bR bP g1 ([]++[z.1]) z.2)) (iI (o:=fun k=>.inl (UG k))) ?_;have fr6:Fr s (List.map Prod.fst [(g4,(26,1)),(g1,(26,1))]):=ZU fr5;apply aB.seq;apply aB.block;refine aB.pA (X:=(List (List aA))×aD) (G:=Nat×Nat) h (fun gq=>Fr s (List.map Prod.fst [(gq.1,(26,1)),(gq.2,(26,1))])) (fun q gq=>eH pp [(0,.ptr b0 0),(1,.func 168 [] [.ptr bR 0,.ptr bP 0]),(5,.own gq.1 1 (List.map (fun x=>[V.slice 10 (x.map aA.v)]) q.1))] [] (vS (cJ s [(gq.1,(26,1)),(gq.2,(26,1))]) b0 bR bP gq.2 q.1 q.2) 17) ?_ ?_
 ·exact⟨(g4,g1),fr6,lQ⟩
 ·rintro u11 ⟨v7,w9⟩ h ⟨gl,gv⟩ fr8;(try dsimp only at h fr8 ⊢);have O8:=Fr.drop (l:=[(gl,(26,1)),(gv,(26,1))]) fr8;unfold Ez at h;apply aB.seq;obtain⟨y,hy,h⟩:=cC h;refine aB.eD fun Z1 hZ1=>?_;(try simp only[h0R,h0R.symm,h0P,h0P.symm,hRP,hRP.symm,xs,xa,Nat.reduceAdd,seval,reduceCtorEq]);refine jJ (sZ (bm #[44]) w9 y hy) ?_ (hb:=hb (cJ s [(gl,(26,1)),(gv,(26,1))]) w9 ([.ptr b0 0],53) ([aI 0,aY false,.nil,.nil,.nil,.nil,.nil,.own gv 1 (List.map (fun x=>[V.slice 10 (x.map aA.v)]) v7)],75));(try simp only[h0R,h0R.symm,h0P,h0P.symm,hRP,hRP.symm,xs,xa,Nat.reduceAdd,seval,reduceCtorEq]);refine hZ1 _ ?_;clear hZ1 Z1;refine hL (s':=(vS (cJ s [(gl,(26,1)),(gv,(26,1))]) b0 bR bP gv v7 y.2)) ?_;refine ws h (fun hc h=>?_) fun hc h=>?_
  ·apply sK;apply aB.block;refine aB.fW fun Z1 hZ1=>?_;(try simp only[h0R,h0R.symm,h0P,h0P.symm,hRP,hRP.symm,xs,xa,Nat.reduceAdd,seval,reduceCtorEq]);obtain⟨y3,hy3,hc3⟩:=Hq h;have fr9:Fr (cJ s [(gl,(26,1))]) (List.map Prod.fst [(gv,(26,1))]):=aEe fr8;have frl:Fr s (List.map Prod.fst [(gl,(26,1))]):=(Fr.cut (a:=[(gl,(26,1))]) (b:=[(gv,(26,1))]) fr8).1;refine(HU F H v7 y.2 y3 hy3 (cJ s [(gl,(26,1))]) b0 bR bP gv (fun v s'=>∃s'',s'.fC s''∧pp v s'') (fun q hq=>?_) h0R h0P hRP hR hP fr9).KL (fun v s' h=>?_) ?_
   ·rcases hc3 with⟨z',e,_⟩|⟨b,e,e2⟩
    ·rw[e] at hq;cases hq
    ·rw[e] at hq;cases hq;exact⟨s.aU b0 (rB q.2),iI (o:=fun k=>(Fr.drop (l:=[(gl,(26,1))]) frl).own k),hpp _ e2⟩
   ·obtain⟨s'',h1,h2⟩:=h;exact⟨s'',h1,by first|exact h2|exact⟨rfl,h2⟩⟩
   rintro _ _ ⟨z,g1,rfl,rfl,fr1,rfl⟩;rcases hc3 with⟨z',e,h⟩|⟨b,e,_⟩
   rotate_left
   ·cases e
   cases e
   obtain⟨hn,h⟩:=aV h;have fr2:Fr s (List.map Prod.fst [(gl,(26,1)),(g1,(26,1))]):=Fr.snoc (l:=[(gl,(26,1))]) frl (fr1.1 g1 (by simp));(try simp only[h0R,h0R.symm,h0P,h0P.symm,hRP,hRP.symm,xs,xa,Nat.reduceAdd,seval,reduceCtorEq])
   first|refine mL fr2 hn fun g20 hg20=>?_|refine mM fr2 hn fun g20 hg20=>?_
   have fr21:Fr s (List.map Prod.fst [(g20,(26,1)),(g1,(26,1))]):=Fr.rep (a:=[]) (b:=[(g1,(26,1))]) fr2 hg20;(try simp only[h0R,h0R.symm,h0P,h0P.symm,hRP,hRP.symm,xs,xa,Nat.reduceAdd,seval,reduceCtorEq]);refine hZ1 _ ?_;clear hZ1 Z1;refine⟨(v7++[z.1],z.2),h,(g20,g1),fr21,?_⟩;refine xM (s':=(vS (cJ s [(g20,(26,1)),(g1,(26,1))]) b0 bR bP g1 (v7++[z.1]) z.2)) (iI (o:=(Fr.mN (a:=[]) (b:=[(g1,(26,1))]) fr2 hg20:aL.le _ _).own)) ?_;exact lQ
  ·apply aB.exit;simp only[dR,seval];refine rg ?_;cases h
   refine aB.ret ⟨_,St.to.fC (s':=((s.aU b0 (rB y.2)).aU bR ([.ptr b0 0],53)).aU bP ([aI 0,aY false,.nil,.nil,.nil,.nil,.nil,.slice 1 (List.map (fun x=>[V.slice 10 (x.map aA.v)]) v7)],75)) (iI (o:=fun k=>O8.own k)),?_⟩;refine⟨[V.own gl 1 (List.map (fun x=>[V.slice 10 (x.map aA.v)]) v7)],_,_,?_,Wk.own _ _ _,aL.le.refl _,(v7,y.2),rfl,rfl,rfl⟩;show dC prog _ [.tmp 4]=_;simp only[dC,am,seval,reduceCtorEq]
def aBw (F:bD) (H:F.Ok) (m0:aD) (r:PX (Int×aD) (aK×aD)) (h:Cl F m0=some r):GP 131 (fun b0=>[.ptr b0 0]) r (fun y=>.agg y.1.v) m0:=by
 refine gS fun s b0 pp hpp=>?_;rw[SV] at h;obtain⟨y1,hy1,hc1⟩:=Hq h;refine gN func131 ntmps131 ?_;refine rg ?_;refine rg ?_;refine aB.to (lQ (L:=[(0,.ptr b0 0),(1,.loc 1 0),(2,.loc 2 0),(3,.loc 3 0)]) (B:=[(1,([.ptr b0 0],53)),(2,([aI 0,aY false,.nil,.nil,.nil,.nil,.nil,.nil],75)),(3,([aI 0,aY false,.nil,.nil,.nil,.nil,.nil,.nil],75))]) (s:=s.aU b0 (rB m0)) (n:=9)) ?_;refine aB.Wx 3 7 (26,1) (cs:=[aI 0,aY false,.nil,.nil,.nil,.nil,.nil,.nil]) (ty:=75) (by simp only[am,seval,reduceCtorEq]) (.inl rfl) fun g hg=>?_;have hg:s.own g=none:=hg;refine aB.cM (t0:=1) (x:=([.ptr b0 0],53)) (by first|rfl|simp only[am,seval,reduceCtorEq]) fun bR hbR=>?_;have hbR:(s.aU b0 (rB m0)).box bR=none:=hbR;have h0R:b0≠bR:=fun e=>by rw[e,dJ] at hbR;cases hbR
 have hR:s.box bR=none:=by rw[cU h0R.symm] at hbR;exact hbR
 refine aB.cM (t0:=3) (x:=([aI 0,aY false,.nil,.nil,.nil,.nil,.nil,.own g 1 []],75)) (by first|rfl|simp only[am,seval,reduceCtorEq]) fun bP hbP=>?_;have hbP:((s.aU b0 (rB m0)).aU bR ([.ptr b0 0],53)).box bP=none:=hbP;have hRP:bR≠bP:=fun e=>by rw[e,dJ] at hbP;cases hbP
 have hbP:(s.aU b0 (rB m0)).box bP=none:=by rw[cU hRP.symm] at hbP;exact hbP
 have h0P:b0≠bP:=fun e=>by rw[e,dJ] at hbP;cases hbP
 have hP:s.box bP=none:=by rw[cU h0P.symm] at hbP;exact hbP
 have fr:Fr s (List.map Prod.fst [(g,(26,1))]):=⟨fun k hk=>(show k=g by simpa using hk) ▸ hg,by simp⟩;(try simp only[St.cM,jH,xs,xa,Nat.reduceAdd,seval,reduceCtorEq]);refine aB.to (lQ (L:=[(0,.ptr b0 0),(1,.ptr bR 0),(2,.loc 2 0),(3,.ptr bP 0)]) (B:=[(2,([aI 0,aY false,.nil,.nil,.nil,.nil,.nil,.nil],75))]) (s:=(vS (cJ s [(g,(26,1))]) b0 bR bP g ([]:List (List aA)) m0)) (n:=9)) ?_;refine aB.eD fun Z1 hZ1=>?_;(try simp only[h0R,h0R.symm,h0P,h0P.symm,hRP,hRP.symm,xs,xa,Nat.reduceAdd,seval,reduceCtorEq]);refine(aFe F H m0 y1 hy1 s b0 bR bP g pp (fun q hq=>?_) h0R h0P hRP hR hP fr).mono (fun v s' h=>⟨s',aL.le.refl _,by first|exact h|exact⟨rfl,h⟩⟩) ?_
 ·rcases hc1 with⟨z',e,_⟩|⟨b,e,e2⟩
  ·rw[e] at hq;cases hq
  ·rw[e] at hq;cases hq;exact hpp _ e2
 rintro _ _ ⟨z,rfl,rfl,rfl⟩;rcases hc1 with⟨z',e,h⟩|⟨b,e,_⟩
 rotate_left
 ·cases e
 cases e
 (try simp only[h0R,h0R.symm,h0P,h0P.symm,hRP,hRP.symm,xs,xa,Nat.reduceAdd,seval,reduceCtorEq]);refine hZ1 _ ?_;clear hZ1 Z1;refine aB.eD fun Z1 hZ1=>?_;(try simp only[h0R,h0R.symm,h0P,h0P.symm,hRP,hRP.symm,xs,xa,Nat.reduceAdd,seval,reduceCtorEq]);refine hZ1 _ ?_;clear hZ1 Z1;cases h
 exact aB.ret (iN (ai @aK.aC<|ai h0R<|ai h0R.symm<|ai h0P h0P.symm) [.cell 2 75])
def Jg (F:bD) (m0:aD):Option (PX (Int×aD) ((List bA)×aD)):=(bK (F.p133_1 m0) (fun q3=>(q3.1,q3.2)) fun y2=>(cF (fun u11 (q10:(List bA)×aD)=>(call (eR (bm #[44]) q10.2) fun y14=>(aE y14.1 (bK (F.p133_1 y14.2) (fun q18=>(q18.1,q18.2)) fun y17=>(aR ((q10.1.length+1)*64<=140737488355328) (u11 ((q10.1++([y17.1])),y17.2)))) (some (PX.ok (q10.1,y14.2)))))) bQ ([y2.1],y2.2)))
def aBv (F:bD) (H:F.Ok):FT (Jg F):=fun m0 r h=>by
 refine gS fun s b0 pp hpp=>?_;unfold Jg at h;refine gN func132 ntmps132 ?_;refine rg ?_;refine aB.xR 2 rfl (by decide+kernel) fun Z1 hZ1=>?_;refine sy ?_;refine oZ hpp (H.p133_1 m0) h fun y2 _ h=>?_;(try simp only[qO,qN,qM,xs,xa,Nat.reduceAdd,seval,reduceCtorEq]);refine⟨by simp only[gA,am,seval,reduceCtorEq],_,zY rfl Vt rfl Uk (by decide) (by decide) (by first|rfl|(simp only[bA.vs,Vt,Uk,yC,bA.snoc,bA.lE,bA.eta,Bh,Bi,dJ,cU,fI,ne_eq,eJ,am,seval,reduceCtorEq]<;>rfl)) (by simp only[am,seval,reduceCtorEq]),?_⟩;rintro _ ⟨g4,hg4,rfl⟩;change (s).own g4=none at hg4;have fr5:Fr s (List.map Prod.fst [(g4,(114,4))]):=Fr.snoc (l:=[]) (Fr.nil s) hg4;(try simp only[sE,sD,oY,xs,xa,Nat.reduceAdd,seval,reduceCtorEq]);refine hZ1 _ ?_;clear hZ1 Z1;apply aB.seq;apply aB.block;refine aB.pA (X:=(List bA)×aD) (G:=Nat) h (fun gq12=>Fr s (List.map Prod.fst [(gq12,(114,4))])) (fun q10 gq12=>eH pp [(0,.ptr b0 0),(1,.func 133 [.ptr b0 0] []),(5,.own gq12 4 (q10.1.map bA.v))] [] ((cJ s [(gq12,(114,4))]).aU b0 (rB q10.2)) 17) ?_ ?_
 ·exact⟨g4,fr5,lQ⟩
 ·rintro u11 ⟨v7,w9⟩ h g8 hg8f;(try dsimp only at h ⊢);apply aB.seq;refine dH (sZ (bm #[44]) w9) h fun y14 _ h=>?_;refine wz h (fun h=>?_) fun h=>?_
  ·apply sK;apply aB.block;refine aB.fW fun Z16 hZ16=>?_;refine sy ?_;refine tL (Fr.drop (l:=[(g8,(114,4))]) hg8f) hpp (H.p133_1 y14.2) h fun y17 _ h=>?_;obtain⟨hn19,h⟩:=aV h;refine sy ?_
   first|refine mL hg8f hn19 fun g20 hg20=>?_|refine mM hg8f hn19 fun g20 hg20=>?_
   have fr21:Fr s (List.map Prod.fst [(g20,(114,4))]):=Fr.rep (a:=[]) (b:=[]) hg8f hg20;refine sy ?_;refine hZ16 _ ?_;clear hZ16 Z16;refine⟨((v7++([y17.1])),y17.2),h,g20,fr21,?_⟩;refine xM (s':=((cJ s [(g20,(114,4))]).aU b0 (rB y17.2))) (iI (o:=(Fr.mN (a:=[]) (b:=[]) hg8f hg20:aL.le _ _).own)) ?_;exact lQ
  ·apply aB.exit;simp only[dR,seval];refine rg ?_;cases h;exact aB.ret (Wd (Fr.drop (l:=[(g8,(114,4))]) hg8f) [.tmp 4])
def yV (F:bD) (m0:aD):Option (PX (Int×aD) (bA×aD)):=(call (eR (bm #[42]) m0) fun y2=>(aE y2.1 (some (PX.ok ((bA.mk true bO ([]:List aA) bO),y2.2))) (join (fun u8=>(call (yP y2.2) fun y9=>(aE y9.1 (aE (decide ((i64.wrap (y9.2.at_+2))<(y9.2.l.length:Int))) (aR (0<=(i64.wrap (y9.2.at_+1))∧(i64.wrap (y9.2.at_+1))<(y9.2.l.length:Int)) (aE (((y9.2.l.getD (i64.wrap (y9.2.at_+1)).toNat aP.z).kind)==6) (aR (0<=(i64.wrap (y9.2.at_+1))∧(i64.wrap (y9.2.at_+1))<(y9.2.l.length:Int)) (aE (((y9.2.l.getD (i64.wrap (y9.2.at_+1)).toNat aP.z).text).data.toList==(bm #[46]).data.toList) (aR (0<=(i64.wrap (y9.2.at_+2))∧(i64.wrap (y9.2.at_+2))<(y9.2.l.length:Int)) (aE (((y9.2.l.getD (i64.wrap (y9.2.at_+2)).toNat aP.z).kind)==6) (aR (0<=(i64.wrap (y9.2.at_+2))∧(i64.wrap (y9.2.at_+2))<(y9.2.l.length:Int)) (u8 ((((y9.2.l.getD (i64.wrap (y9.2.at_+2)).toNat aP.z).text).data.toList==(bm #[42]).data.toList),y9.2))) (u8 (false,y9.2)))) (u8 (false,y9.2)))) (u8 (false,y9.2)))) (u8 (false,y9.2))) (u8 (false,y9.2))))) (fun(q7:Bool×aD)=>(aE q7.1 (aR (0<=(i64.wrap ((i64.wrap (q7.2.at_+3))-3))∧(i64.wrap ((i64.wrap (q7.2.at_+3))-3))<(q7.2.l.length:Int)) (some (PX.ok ((bA.mk true ((q7.2.l.getD (i64.wrap ((i64.wrap (q7.2.at_+3))-3)).toNat aP.z).text) ([]:List aA) bO),(aD.mk q7.2.l (i64.wrap (q7.2.at_+3)) q7.2.params))))) (bK (F.p15_1 q7.2) (fun q27=>(q27.1,q27.2)) fun y26=>(bK (sV y26.2) (fun q30=>(q30.1,q30.2)) fun y29=>(some (PX.ok ((bA.mk false bO ([y26.1]) y29.1),y29.2))))))))))
def aBu (F:bD) (H:F.Ok):aHp (yV F):=fun m0 r h=>by
 refine gS fun s b0 pp hpp=>?_;unfold yV at h;refine gN func133 ntmps133 ?_;refine bG (@bA.aC) ?_;apply aB.seq;refine dN (@bA.aC) (sZ (bm #[42]) m0) h fun y2 _ h=>?_;refine wz h (fun h=>?_) fun h=>?_
 ·refine bG (@bA.aC) ?_;cases h;exact aB.ret (iN @bA.aC [.cell 2 114])
 ·apply sK;apply aB.seq;refine jn h (fun q7=>eH pp [(0,.ptr b0 0),(2,.loc 2 0),(81,aY q7.1)] [(2,([aY false,aM bO,.nil,aM bO],114))] (s.aU b0 (rB q7.2)) 109) (fun u8 h=>?_) ?_
  ·obtain⟨y9,hy9,h⟩:=cC h;refine wy h (fun hg10 h=>?_) fun hg10 h=>?_
   ·refine wy h (fun hg11 h=>?_) fun hg11 h=>?_
    ·obtain⟨hn13,h⟩:=aV h;refine wy h (fun hg14 h=>?_) fun hg14 h=>?_
     ·obtain⟨hn16,h⟩:=aV h;refine wy h (fun hg17 h=>?_) fun hg17 h=>?_
      ·obtain⟨hn19,h⟩:=aV h;refine wy h (fun hg20 h=>?_) fun hg20 h=>?_
       ·obtain⟨hn22,h⟩:=aV h;refine Cp [0,1,2,3,4,5,6,7,8,9,10,11,12,13,14,15,16,17,18,19,20,21,22,23,24,25,26,27,28,29,30,31,32,33,34,35,36,37,38,39,40,41,42,43,44,45,46,47,48,49,50,51,52,53,54,55,56,57,58,59,60,61,62,63,64,65,66,67,68,69,70,71,72,73,74] [] (ai (@aD.aC)<|ai (@bA.aC)<|ai hg10<|ai hg11<|ai (aJ hn13.1)<|ai (aJ hn13.2)<|ai (bW aP.v aP.z hn13)<|ai hg14<|ai (aJ hn16.1)<|ai (aJ hn16.2)<|ai (bW aP.v aP.z hn16)<|ai hg17<|ai (aJ hn19.1)<|ai (aJ hn19.2)<|ai (bW aP.v aP.z hn19)<|ai hg20<|ai (aJ hn22.1)<|ai (aJ hn22.2)<|(bW aP.v aP.z hn22)) (yR y2.2 _ hy9) ?_;exact⟨((((y9.2.l.getD (i64.wrap (y9.2.at_+2)).toNat aP.z).text).data.toList==(bm #[42]).data.toList),y9.2),h,cV (ai @aD.aC<|ai @bA.aC<|ai hg10<|ai hg11<|ai hg14<|ai hg17<|hg20)⟩
       ·refine Cp [0,1,2,3,4,5,6,7,8,9,10,11,12,13,14,15,16,17,18,19,20,21,22,23,24,25,26,27,28,29,30,31,32,33,34,35,36,37,38,39,40,41,42,43,44,45,46,47,48,49,50,51,52,53,54,55,56,57,58,59,60,61,62,63,64,65,66,67,68,69,70,71,72,73,74] [] (ai (@aD.aC)<|ai (@bA.aC)<|ai hg10<|ai hg11<|ai (aJ hn13.1)<|ai (aJ hn13.2)<|ai (bW aP.v aP.z hn13)<|ai hg14<|ai (aJ hn16.1)<|ai (aJ hn16.2)<|ai (bW aP.v aP.z hn16)<|ai hg17<|ai (aJ hn19.1)<|ai (aJ hn19.2)<|ai (bW aP.v aP.z hn19)<|hg20) (yR y2.2 _ hy9) ?_;exact⟨(false,y9.2),h,cV (ai @aD.aC<|ai @bA.aC<|ai hg10<|ai hg11<|ai hg14<|ai hg17<|hg20)⟩
      ·refine Cp [0,1,2,3,4,5,6,7,8,9,10,11,12,13,14,15,16,17,18,19,20,21,22,23,24,25,26,27,28,29,30,31,32,33,34,35,36,37,38,39,40,41,42,43,44,45,46,47,48,49,50,51,52,53,54,55,56,57,58,59,60,61,62,63,64,65,66,67,68,69,70,71,72,73,74] [] (ai (@aD.aC)<|ai (@bA.aC)<|ai hg10<|ai hg11<|ai (aJ hn13.1)<|ai (aJ hn13.2)<|ai (bW aP.v aP.z hn13)<|ai hg14<|ai (aJ hn16.1)<|ai (aJ hn16.2)<|ai (bW aP.v aP.z hn16)<|hg17) (yR y2.2 _ hy9) ?_;exact⟨(false,y9.2),h,cV (ai @aD.aC<|ai @bA.aC<|ai hg10<|ai hg11<|ai hg14<|hg17)⟩
     ·refine Cp [0,1,2,3,4,5,6,7,8,9,10,11,12,13,14,15,16,17,18,19,20,21,22,23,24,25,26,27,28,29,30,31,32,33,34,35,36,37,38,39,40,41,42,43,44,45,46,47,48,49,50,51,52,53,54,55,56,57,58,59,60,61,62,63,64,65,66,67,68,69,70,71,72,73,74] [] (ai (@aD.aC)<|ai (@bA.aC)<|ai hg10<|ai hg11<|ai (aJ hn13.1)<|ai (aJ hn13.2)<|ai (bW aP.v aP.z hn13)<|hg14) (yR y2.2 _ hy9) ?_;exact⟨(false,y9.2),h,cV (ai @aD.aC<|ai @bA.aC<|ai hg10<|ai hg11<|hg14)⟩
    ·refine Cp [0,1,2,3,4,5,6,7,8,9,10,11,12,13,14,15,16,17,18,19,20,21,22,23,24,25,26,27,28,29,30,31,32,33,34,35,36,37,38,39,40,41,42,43,44,45,46,47,48,49,50,51,52,53,54,55,56,57,58,59,60,61,62,63,64,65,66,67,68,69,70,71,72,73,74] [] (ai (@aD.aC)<|ai (@bA.aC)<|ai hg10<|hg11) (yR y2.2 _ hy9) ?_;exact⟨(false,y9.2),h,cV (ai @aD.aC<|ai @bA.aC<|ai hg10<|hg11)⟩
   ·refine Cp [0,1,2,3,4,5,6,7,8,9,10,11,12,13,14,15,16,17,18,19,20,21,22,23,24,25,26,27,28,29,30,31,32,33,34,35,36,37,38,39,40,41,42,43,44,45,46,47,48,49,50,51,52,53,54,55,56,57,58,59,60,61,62,63,64,65,66,67,68,69,70,71,72,73,74] [] (ai (@aD.aC)<|ai (@bA.aC)<|hg10) (yR y2.2 _ hy9) ?_;exact⟨(false,y9.2),h,cV (ai @aD.aC<|ai @bA.aC<|hg10)⟩
  ·rintro⟨v5,w6⟩ h;(try dsimp only at h ⊢);refine wz h (fun h=>?_) fun h=>?_
   ·refine bG (ai (@aD.aC)<|@bA.aC) ?_;refine hL (s':=(s.aU b0 ([.slice 3 (w6.l.map aP.v),aI (i64.wrap (w6.at_+3)),aI w6.params],93))) ?_;obtain⟨hn25,h⟩:=aV h;refine Au [0,1,2,3,4,5,6,7,8,9,10,11,12,13] [2] (ai (@aD.aC)<|ai (@bA.aC)<|ai (aJ hn25.1)<|ai (aJ hn25.2)<|(bW aP.v aP.z hn25)) ?_;cases h;exact aB.ret (iN (ai @aD.aC<|@bA.aC) [.cell 2 114])
   ·apply sK;refine fK (ai (@aD.aC)<|@bA.aC) hpp (H.p15_1 w6) h fun y26 _ h=>?_;refine lL [0,1,2,3,4,5] [2,100104] fun Z28 hZ28=>?_;refine sG (ai @aD.aC<|@bA.aC) ?_;refine oZ hpp (EW y26.2) h fun y29 _ h=>?_;refine sG (ai @aD.aC<|@bA.aC) ?_;refine hZ28 _ ?_;clear hZ28 Z28;cases h;exact aB.ret (iN (ai @aD.aC<|@bA.aC) [.cell 2 114])
def Jf (F:bD) (m0:aD):Option (PX (Int×aD) ((List aO)×aD)):=(bK (F.p170_1 m0) (fun q3=>(q3.1,q3.2)) fun y2=>(cF (fun u10 (q9:(List aO)×aD)=>(join (fun u16=>(call (eR (bm #[44]) q9.2) fun y18=>(aE y18.1 (u16 (0,y18.2)) (call (cE (bm #[74,79,73,78]) y18.2) fun y20=>(aE y20.1 (u16 (0,y20.2)) (join (fun u26=>(call (cE (bm #[73,78,78,69,82]) y20.2) fun y28=>(aE y28.1 (u26 (y28.1,y28.2)) (call (cE (bm #[67,82,79,83,83]) y28.2) fun y30=>(u26 (y30.1,y30.2)))))) (fun(q25:Bool×aD)=>(aE q25.1 (bK (fE (bm #[74,79,73,78]) q25.2) (fun q33=>(q33.1,q33.2)) fun y32=>(u16 (0,y32))) (call (cE (bm #[76,69,70,84]) q25.2) fun y34=>(aE y34.1 (call (cE (bm #[79,85,84,69,82]) y34.2) fun y36=>(bK (fE (bm #[74,79,73,78]) y36.2) (fun q38=>(q38.1,q38.2)) fun y37=>(u16 (1,y37)))) (some (PX.ok (q9.1,y34.2))))))))))))) (fun(q15:Int×aD)=>(bK (F.p170_1 q15.2) (fun q40=>(q40.1,q40.2)) fun y39=>(join (fun u45=>(call (cE (bm #[79,78]) y39.2) fun y47=>(aE y47.1 (bK (F.p15_1 y47.2) (fun q50=>(q50.1,q50.2)) fun y49=>(u45 ((aO.mk q15.1 y39.1.name y39.1.sub y39.1.az ([y49.1])),y49.2))) (u45 ((aO.mk q15.1 y39.1.name y39.1.sub y39.1.az y39.1.on),y47.2))))) (fun(q44:aO×aD)=>(aR ((q9.1.length+1)*88<=140737488355328) (u10 ((q9.1++([q44.1])),q44.2))))))))) bQ ([y2.1],y2.2)))
def aBt (F:bD) (H:F.Ok):FR (Jf F):=fun m0 r h=>by
 refine gS fun s b0 pp hpp=>?_;unfold Jf at h;refine gN func134 ntmps134 ?_;refine rg ?_;refine aB.xR 2 rfl (by decide+kernel) fun Z1 hZ1=>?_;(try simp only[aO.aC,xs,xa,Nat.reduceAdd,seval,reduceCtorEq]);refine oZ hpp (H.p170_1 m0) h fun y2 _ h=>?_;(try simp only[aO.aC,qO,qN,qM,xs,xa,Nat.reduceAdd,seval,reduceCtorEq]);refine⟨by simp only[gA,am,seval,reduceCtorEq],_,zY rfl Vs rfl Uj (by decide) (by decide) (by first|rfl|(simp only[aO.aC,Vs,Uj,yC,aO.snoc,aO.lE,aO.eta,Bh,Bi,dJ,cU,fI,ne_eq,eJ,am,seval,reduceCtorEq]<;>rfl)) (by simp only[am,seval,reduceCtorEq]),?_⟩;rintro _ ⟨g4,hg4,rfl⟩;change (s).own g4=none at hg4;have fr5:Fr s (List.map Prod.fst [(g4,(119,5))]):=Fr.snoc (l:=[]) (Fr.nil s) hg4;(try simp only[sE,sD,oY,aO.aC,xs,xa,Nat.reduceAdd,seval,reduceCtorEq]);refine hZ1 _ ?_;clear hZ1 Z1;apply aB.block;refine aB.pA (X:=(List aO)×aD) (G:=Nat) h (fun gq11=>Fr s (List.map Prod.fst [(gq11,(119,5))])) (fun q9 gq11=>eH pp [(0,.ptr b0 0),(3,.own gq11 5 (q9.1.map aO.v))] [] ((cJ s [(gq11,(119,5))]).aU b0 (rB q9.2)) 44) ?_ ?_
 ·exact⟨g4,fr5,cV @aO.aC⟩
 ·rintro u10 ⟨v6,w8⟩ h g7 hg7f;(try dsimp only at h ⊢);apply aB.block;refine bG (@aO.aC) ?_;refine aB.uT (X:=Int×aD) (G:=Nat) h (fun gq17=>Fr s (List.map Prod.fst [(gq17,(119,5))])) (fun q15 gq17=>eH pp [(0,.ptr b0 0),(3,.own gq17 5 (v6.map aO.v)),(4,aI q15.1)] [] ((cJ s [(gq17,(119,5))]).aU b0 (rB q15.2)) 44) (fun u16 h=>?_) ?_
  ·apply aB.block;refine dN (@aO.aC) (sZ (bm #[44]) w8) h fun y18 _ h=>?_;refine wz h (fun h=>?_) fun h=>?_
   ·apply sK;exact⟨(0,y18.2),h,g7,hg7f,cV @aO.aC⟩
   ·refine dN (@aO.aC) (iL (bm #[74,79,73,78]) y18.2) h fun y20 _ h=>?_;refine wz h (fun h=>?_) fun h=>?_
    ·apply sK;exact⟨(0,y20.2),h,g7,hg7f,cV @aO.aC⟩
    ·refine aB.uT (X:=Bool×aD) (G:=Nat) h (fun gq27=>Fr s (List.map Prod.fst [(gq27,(119,5))])) (fun q25 gq27=>eH pp [(0,.ptr b0 0),(3,.own gq27 5 (v6.map aO.v)),(4,aI 0),(16,aY q25.1)] [] ((cJ s [(gq27,(119,5))]).aU b0 (rB q25.2)) 44) (fun u26 h=>?_) ?_
     ·refine dN (@aO.aC) (iL (bm #[73,78,78,69,82]) y20.2) h fun y28 _ h=>?_;refine wz h (fun h=>?_) fun h=>?_
      ·apply sK;exact⟨(y28.1,y28.2),h,g7,hg7f,cV @aO.aC⟩
      ·refine iA (@aO.aC) (iL (bm #[67,82,79,83,83]) y28.2) h fun y30 _ h=>?_;exact⟨(y30.1,y30.2),h,g7,hg7f,cV @aO.aC⟩
     ·rintro⟨v22,w23⟩ h g24 hg24f;(try dsimp only at h ⊢);refine wz h (fun h=>?_) fun h=>?_
      ·refine Fb (Fr.drop (l:=[(g24,(119,5))]) hg24f) (@aO.aC) hpp (tA (bm #[74,79,73,78]) w23) h fun y32 _ h=>?_;exact⟨(0,y32),h,g24,hg24f,cV @aO.aC⟩
      ·refine dN (@aO.aC) (iL (bm #[76,69,70,84]) w23) h fun y34 _ h=>?_;refine wz h (fun h=>?_) fun h=>?_
       ·refine bG (@aO.aC) ?_;refine dN (@aO.aC) (iL (bm #[79,85,84,69,82]) y34.2) h fun y36 _ h=>?_;refine Fb (Fr.drop (l:=[(g24,(119,5))]) hg24f) (@aO.aC) hpp (tA (bm #[74,79,73,78]) y36.2) h fun y37 _ h=>?_;exact⟨(1,y37),h,g24,hg24f,cV @aO.aC⟩
       ·refine bG (@aO.aC) ?_;cases h;exact aB.ret (Oq @aO.aC (Fr.drop (l:=[(g24,(119,5))]) hg24f) [.tmp 2])
  ·rintro⟨v12,w13⟩ h g14 hg14f;(try dsimp only at h ⊢);refine yW (Fr.drop (l:=[(g14,(119,5))]) hg14f) (@aO.aC) hpp (H.p170_1 w13) h fun y39 _ h=>?_;refine bG (@aO.aC) ?_;refine aB.uT (X:=aO×aD) (G:=Nat) h (fun gq46=>Fr s (List.map Prod.fst [(gq46,(119,5))])) (fun q44 gq46=>eH pp [(0,.ptr b0 0),(3,.own gq46 5 (v6.map aO.v)),(5,.loc 5 0)] [(5,([aI q44.1.join,aM q44.1.name,.slice 5 (q44.1.sub.map aF.v),aM q44.1.az,.slice 10 (q44.1.on.map aA.v)],119))] ((cJ s [(gq46,(119,5))]).aU b0 (rB q44.2)) 44) (fun u45 h=>?_) ?_
   ·refine dN (@aO.aC) (iL (bm #[79,78]) y39.2) h fun y47 _ h=>?_;refine wz h (fun h=>?_) fun h=>?_
    ·refine Fb (Fr.drop (l:=[(g14,(119,5))]) hg14f) (@aO.aC) hpp (H.p15_1 y47.2) h fun y49 _ h=>?_;exact⟨((aO.mk v12 y39.1.name y39.1.sub y39.1.az ([y49.1])),y49.2),h,g14,hg14f,cV @aO.aC⟩
    ·apply sK;exact⟨((aO.mk v12 y39.1.name y39.1.sub y39.1.az y39.1.on),y47.2),h,g14,hg14f,cV @aO.aC⟩
   ·rintro⟨b41,w42⟩ h g43 hg43f;(try dsimp only at h ⊢);refine aB.fW fun Z51 hZ51=>?_;obtain⟨hn52,h⟩:=aV h;(try simp only[aO.aC,xs,xa,Nat.reduceAdd,seval,reduceCtorEq])
    first|refine mL hg43f hn52 fun g53 hg53=>?_|refine mM hg43f hn52 fun g53 hg53=>?_
    have fr54:Fr s (List.map Prod.fst [(g53,(119,5))]):=Fr.rep (a:=[]) (b:=[]) hg43f hg53;(try simp only[aO.aC,xs,xa,Nat.reduceAdd,seval,reduceCtorEq]);refine hZ51 _ ?_;clear hZ51 Z51;refine⟨((v6++([b41])),w42),h,g53,fr54,?_⟩;refine xM (s':=((cJ s [(g53,(119,5))]).aU b0 (rB w42))) (iI (o:=(Fr.mN (a:=[]) (b:=[]) hg43f hg53:aL.le _ _).own)) ?_;exact cV @aO.aC
def Je (F:bD) (m0:aD):Option (PX (Int×aD) ((List aA)×aD)):=(bK (F.p15_1 m0) (fun q3=>(q3.1,q3.2)) fun y2=>(cF (fun u11 (q10:(List aA)×aD)=>(call (eR (bm #[44]) q10.2) fun y14=>(aE y14.1 (bK (F.p15_1 y14.2) (fun q18=>(q18.1,q18.2)) fun y17=>(aR ((q10.1.length+1)*136<=140737488355328) (u11 ((q10.1++([y17.1])),y17.2)))) (some (PX.ok (q10.1,y14.2)))))) bQ ([y2.1],y2.2)))
def aBs (F:bD) (H:F.Ok):FQ (Je F):=fun m0 r h=>by
 refine gS fun s b0 pp hpp=>?_;unfold Je at h;refine gN func135 ntmps135 ?_;refine rg ?_;refine aB.xR 2 rfl (by decide+kernel) fun Z1 hZ1=>?_;refine sy ?_;refine oZ hpp (H.p15_1 m0) h fun y2 _ h=>?_;(try simp only[qO,qN,qM,xs,xa,Nat.reduceAdd,seval,reduceCtorEq]);refine⟨by simp only[gA,am,seval,reduceCtorEq],_,zY rfl vX rfl nQ (by decide) (by decide) (by first|rfl|(simp only[aA.vs,vX,nQ,yC,aA.snoc,aA.lE,aA.eta,Bh,Bi,dJ,cU,fI,ne_eq,eJ,am,seval,reduceCtorEq]<;>rfl)) (by simp only[am,seval,reduceCtorEq]),?_⟩;rintro _ ⟨g4,hg4,rfl⟩;change (s).own g4=none at hg4;have fr5:Fr s (List.map Prod.fst [(g4,(29,10))]):=Fr.snoc (l:=[]) (Fr.nil s) hg4;(try simp only[sE,sD,oY,xs,xa,Nat.reduceAdd,seval,reduceCtorEq]);refine hZ1 _ ?_;clear hZ1 Z1;apply aB.seq;apply aB.block;refine aB.pA (X:=(List aA)×aD) (G:=Nat) h (fun gq12=>Fr s (List.map Prod.fst [(gq12,(29,10))])) (fun q10 gq12=>eH pp [(0,.ptr b0 0),(1,.func 15 [.ptr b0 0] []),(5,.own gq12 10 (q10.1.map aA.v))] [] ((cJ s [(gq12,(29,10))]).aU b0 (rB q10.2)) 17) ?_ ?_
 ·exact⟨g4,fr5,lQ⟩
 ·rintro u11 ⟨v7,w9⟩ h g8 hg8f;(try dsimp only at h ⊢);apply aB.seq;refine dH (sZ (bm #[44]) w9) h fun y14 _ h=>?_;refine wz h (fun h=>?_) fun h=>?_
  ·apply sK;apply aB.block;refine aB.fW fun Z16 hZ16=>?_;refine sy ?_;refine tL (Fr.drop (l:=[(g8,(29,10))]) hg8f) hpp (H.p15_1 y14.2) h fun y17 _ h=>?_;obtain⟨hn19,h⟩:=aV h;refine sy ?_
   first|refine mL hg8f hn19 fun g20 hg20=>?_|refine mM hg8f hn19 fun g20 hg20=>?_
   have fr21:Fr s (List.map Prod.fst [(g20,(29,10))]):=Fr.rep (a:=[]) (b:=[]) hg8f hg20;refine sy ?_;refine hZ16 _ ?_;clear hZ16 Z16;refine⟨((v7++([y17.1])),y17.2),h,g20,fr21,?_⟩;refine xM (s':=((cJ s [(g20,(29,10))]).aU b0 (rB y17.2))) (iI (o:=(Fr.mN (a:=[]) (b:=[]) hg8f hg20:aL.le _ _).own)) ?_;exact lQ
  ·apply aB.exit;simp only[dR,seval];refine rg ?_;cases h;exact aB.ret (Wd (Fr.drop (l:=[(g8,(29,10))]) hg8f) [.tmp 4])
def Vj (F:bD) (m0:aD):RX aA:=(bK (F.p42_2 (bm #[111,114]) m0) (fun q2=>(q2.1,q2.2)) fun y1=>(some (PX.ok (y1.1,y1.2))))
def aE4 (F:bD) (H:F.Ok):HQ (Vj F):=fun m0 r h=>by
 refine gS fun s b0 pp hpp=>?_;unfold Vj at h;refine gN func15 ntmps15 ?_;refine rg ?_;refine Dm hpp (H.p42_2 (bm #[111,114]) m0) h fun y1 _ h=>?_;cases h;exact aB.ret (pX [.cell 2 29])
def Ty (F:bD) (m0:aD):RX aA:=(bK (F.p42_4 (bm #[108,101,115,115]) m0) (fun q2=>(q2.1,q2.2)) fun y1=>(some (PX.ok (y1.1,y1.2))))
def aBr (F:bD) (H:F.Ok):FP (Ty F):=fun m0 r h=>by
 refine gS fun s b0 pp hpp=>?_;unfold Ty at h;refine gN func161 ntmps161 ?_;refine rg ?_;refine Dm hpp (H.p42_4 (bm #[108,101,115,115]) m0) h fun y1 _ h=>?_;cases h;exact aB.ret (pX [.cell 2 29])
def Jd (F:bD) (x0:Int) (x1:Bool) (m0:aA) (m1:aD):Option (PX (Int×aA×aD) (aA×aD)):=(bK (F.p161_1 m1) (fun q4=>(q4.1,m0,q4.2)) fun y3=>(some (PX.ok ((aA.mk x0 x1 bO bO 0 (aH.mk 0 0 bO) ([m0,y3.1]) ([]:List aF)),y3.2))))
def aBq (F:bD) (H:F.Ok):FO (Jd F):=fun x0 x1 m0 m1 r h=>by
 refine OY fun s b0 b1 pp h01 hpp=>?_;unfold Jd at h;refine gN func162 ntmps162 ?_;refine aB.KH mixed 2 4 [0,1,2,3,4,5,6,7] [0,1,3,4,2,5,6,7] (by decide+kernel) [] (by decide+kernel) (by decide+kernel) (fun Z1 hZ1=>?_) (fun Z1 hZ1=>?_)
 ·(try simp only[aH.aC,aA.aC,pL,sC,h01,h01.symm,eY,Nat.reduceBEq,xm,Nat.reduceAdd,Nat.reduceLeDiff,seval,reduceCtorEq]);refine oZ hpp (H.p161_1 m1) h fun y3 _ h=>?_;(try simp only[aH.aC,aA.aC,pL,sC,h01,h01.symm,eY,Nat.reduceBEq,xm,Nat.reduceAdd,Nat.reduceLeDiff,seval,reduceCtorEq]);refine hZ1 _ ?_;clear hZ1 Z1;cases h;exact iN (ai @aH.aC<|@aA.aC) []
 ·(try simp only[aH.aC,aA.aC,pL,sC,h01,h01.symm,eY,Nat.reduceBEq,xm,Nat.reduceAdd,Nat.reduceLeDiff,seval,reduceCtorEq]);refine oZ hpp (H.p161_1 m1) h fun y3 _ h=>?_;(try simp only[aH.aC,aA.aC,pL,sC,h01,h01.symm,eY,Nat.reduceBEq,xm,Nat.reduceAdd,Nat.reduceLeDiff,seval,reduceCtorEq]);refine hZ1 _ ?_;clear hZ1 Z1;cases h;exact iN (ai @aH.aC<|@aA.aC) []
def yU (F:bD) (x1:aA) (x2:Bool) (m0:aD):RX aA:=(bK (fJ (bm #[40]) m0) (fun q5=>(q5.1,q5.2)) fun y4=>(join (fun u10=>(call (Ac y4) fun y12=>(aE y12.1 (bK (F.p50_1 y12.2) (fun q15=>(q15.1,q15.2)) fun y14=>(u10 ((aA.mk 26 x2 bO bO 0 (aH.mk 0 0 bO) ([x1]) ([y14.1])),y14.2))) (call (sW ([(bm #[41])]) y12.2) fun y16=>(aE (!y16.1) (bK (F.p135_1 y16.2) (fun q20=>(q20.1,q20.2)) fun y19=>(aR ((([x1]).length+y19.1.length)*136<=140737488355328) (u10 ((aA.mk 26 x2 bO bO 0 (aH.mk 0 0 bO) (([x1])++y19.1) ([]:List aF)),y19.2)))) (u10 ((aA.mk 26 x2 bO bO 0 (aH.mk 0 0 bO) ([x1]) ([]:List aF)),y16.2))))))) (fun(q9:aA×aD)=>(bK (fJ (bm #[41]) q9.2) (fun q25=>(q25.1,q25.2)) fun y24=>(some (PX.ok (q9.1,y24)))))))
def aBp (F:bD) (H:F.Ok):FN (yU F):=fun x1 x2 m0 r h=>by
 refine gS fun s b0 pp hpp=>?_;unfold yU at h;refine gN func163 ntmps163 ?_;refine bG (ai (@aH.aC)<|@aA.aC) ?_;refine aB.xR 2 rfl (by decide+kernel) fun Z1 hZ1=>?_;(try simp only[aH.aC,aA.aC,qO,qN,qM,xs,xa,Nat.reduceAdd,seval,reduceCtorEq]);refine⟨by simp only[gA,am,seval,reduceCtorEq],_,zY rfl vX rfl nQ (by decide) (by decide) (by first|rfl|(simp only[aH.aC,aA.aC,vX,nQ,yC,aA.snoc,aA.lE,aA.eta,Bh,Bi,dJ,cU,fI,ne_eq,eJ,am,seval,reduceCtorEq]<;>rfl)) (by simp only[am,seval,reduceCtorEq]),?_⟩;rintro _ ⟨g2,hg2,rfl⟩;change (s).own g2=none at hg2;have fr3:Fr s (List.map Prod.fst [(g2,(29,10))]):=Fr.snoc (l:=[]) (Fr.nil s) hg2;(try simp only[sE,sD,oY,aH.aC,aA.aC,xs,xa,Nat.reduceAdd,seval,reduceCtorEq]);refine hZ1 _ ?_;clear hZ1 Z1;refine yW (Fr.drop (l:=[(g2,(29,10))]) fr3) (ai (@aH.aC)<|@aA.aC) hpp (sY (bm #[40]) m0) h fun y4 _ h=>?_;refine aB.uT (X:=aA×aD) (G:=Nat) h (fun gq11=>Fr s (List.map Prod.fst [(gq11,(29,10))])) (fun q9 gq11=>eH pp [(0,.ptr b0 0),(6,.loc 6 0),(7,.loc 7 0)] [(6,([aI 0,aY false,aM bO,aM bO,aI 0,aI 0,aI 0,aM bO,.nil,.nil],29)),(7,([aI q9.1.op,aY q9.1.not,aM q9.1.table,aM q9.1.name,aI q9.1.n,aI q9.1.v_.kind,aI q9.1.v_.int,aM q9.1.v_.text,.own gq11 10 (q9.1.args.map aA.v),.slice 5 (q9.1.sub.map aF.v)],29))] ((cJ s [(gq11,(29,10))]).aU b0 (rB q9.2)) 37) (fun u10 h=>?_) ?_
 ·apply aB.block;refine dN (ai (@aH.aC)<|@aA.aC) (EV y4) h fun y12 _ h=>?_;refine wz h (fun h=>?_) fun h=>?_
  ·refine Fb (Fr.drop (l:=[(g2,(29,10))]) fr3) (ai (@aH.aC)<|@aA.aC) hpp (H.p50_1 y12.2) h fun y14 _ h=>?_;exact⟨((aA.mk 26 x2 bO bO 0 (aH.mk 0 0 bO) ([x1]) ([y14.1])),y14.2),h,g2,fr3,cV (ai @aH.aC<|@aA.aC)⟩
  ·refine dN (ai (@aH.aC)<|@aA.aC) (Ev ([(bm #[41])]) y12.2) h fun y16 _ h=>?_;refine wz h (fun h=>?_) fun h=>?_
   ·refine lM [0,1,2,3,4,5,6,7,8] [100027] fun Z18 hZ18=>?_;(try simp only[aH.aC,aA.aC,eY,Nat.reduceBEq,xs,xa,Nat.reduceAdd,seval,reduceCtorEq]);refine tL (Fr.drop (l:=[(g2,(29,10))]) fr3) hpp (H.p135_1 y16.2) h fun y19 _ h=>?_;obtain⟨hn21,h⟩:=aV h;(try simp only[aH.aC,aA.aC,eY,Nat.reduceBEq,xs,xa,Nat.reduceAdd,seval,reduceCtorEq])
    first|refine mL fr3 hn21 fun g22 hg22=>?_|refine mM fr3 hn21 fun g22 hg22=>?_
    have fr23:Fr s (List.map Prod.fst [(g22,(29,10))]):=Fr.rep (a:=[]) (b:=[]) fr3 hg22;(try simp only[aH.aC,aA.aC,eY,Nat.reduceBEq,xs,xa,Nat.reduceAdd,seval,reduceCtorEq]);refine hZ18 _ ?_;clear hZ18 Z18;refine⟨((aA.mk 26 x2 bO bO 0 (aH.mk 0 0 bO) (([x1])++y19.1) ([]:List aF)),y19.2),h,g22,fr23,?_⟩;refine xM (s':=((cJ s [(g22,(29,10))]).aU b0 (rB y19.2))) (iI (o:=(Fr.mN (a:=[]) (b:=[]) fr3 hg22:aL.le _ _).own)) ?_;exact cV (ai @aH.aC<|@aA.aC)
   ·apply sK;exact⟨((aA.mk 26 x2 bO bO 0 (aH.mk 0 0 bO) ([x1]) ([]:List aF)),y16.2),h,g2,fr3,cV (ai @aH.aC<|@aA.aC)⟩
 ·rintro⟨b6,w8⟩ h g7 hg7f;(try dsimp only at h ⊢);refine yW (Fr.drop (l:=[(g7,(29,10))]) hg7f) (ai (@aH.aC)<|@aA.aC) hpp (sY (bm #[41]) w8) h fun y24 _ h=>?_;refine bG (ai (@aH.aC)<|@aA.aC) ?_;cases h;exact aB.ret (Oq (ai @aH.aC<|@aA.aC) (Fr.drop (l:=[(g7,(29,10))]) hg7f) [.cell 6 29])
def Ck (F:bD) (m0:aD):Option (PX (Int×aD) (aO×aD)):=(join (fun u4=>(call (eR (bm #[40]) m0) fun y5=>(aE y5.1 (bK (F.p50_1 y5.2) (fun q8=>(q8.1,q8.2)) fun y7=>(bK (fJ (bm #[41]) y7.2) (fun q10=>(q10.1,q10.2)) fun y9=>(u4 ((aO.mk 0 bO ([y7.1]) bO ([]:List aA)),y9)))) (bK (Ak y5.2) (fun q12=>(q12.1,q12.2)) fun y11=>(u4 ((aO.mk 0 y11.1 ([]:List aF) bO ([]:List aA)),y11.2)))))) (fun(q3:aO×aD)=>(bK (sV q3.2) (fun q14=>(q14.1,q14.2)) fun y13=>(some (PX.ok ((aO.mk q3.1.join q3.1.name q3.1.sub y13.1 q3.1.on),y13.2))))))
def aBo (F:bD) (H:F.Ok):FM (Ck F):=fun m0 r h=>by
 refine gS fun s b0 pp hpp=>?_;unfold Ck at h;refine gN func170 ntmps170 ?_;refine bG (@aO.aC) ?_;refine bG (@aO.aC) ?_;refine jn h (fun q3=>eH pp [(0,.ptr b0 0),(2,.loc 2 0),(3,.loc 3 0)] [(2,([aI 0,aM bO,.nil,aM bO,.nil],119)),(3,([aI q3.1.join,aM q3.1.name,.slice 5 (q3.1.sub.map aF.v),aM q3.1.az,.slice 10 (q3.1.on.map aA.v)],119))] (s.aU b0 (rB q3.2)) 19) (fun u4 h=>?_) ?_
 ·refine dN (@aO.aC) (sZ (bm #[40]) m0) h fun y5 _ h=>?_;refine wz h (fun h=>?_) fun h=>?_
  ·refine fK (@aO.aC) hpp (H.p50_1 y5.2) h fun y7 _ h=>?_;refine tH (@aO.aC) hpp (sY (bm #[41]) y7.2) h fun y9 hy9 h=>?_;exact⟨((aO.mk 0 bO ([y7.1]) bO ([]:List aA)),y9),h,cV @aO.aC⟩
  ·refine tH (@aO.aC) hpp (Va y5.2) h fun y11 _ h=>?_;exact⟨((aO.mk 0 y11.1 ([]:List aF) bO ([]:List aA)),y11.2),h,cV @aO.aC⟩
 ·rintro⟨b1,w2⟩ h;(try dsimp only at h ⊢);refine fK (@aO.aC) hpp (EW w2) h fun y13 _ h=>?_;refine bG (@aO.aC) ?_;cases h;exact aB.ret (iN @aO.aC [.cell 2 119])
def Tx (F:bD) (m0:aD):RX aA:=(bK (F.p42_5 (bm #[115,117,109]) m0) (fun q2=>(q2.1,q2.2)) fun y1=>(some (PX.ok (y1.1,y1.2))))
def aBn (F:bD) (H:F.Ok):FL (Tx F):=fun m0 r h=>by
 refine gS fun s b0 pp hpp=>?_;unfold Tx at h;refine gN func184 ntmps184 ?_;refine rg ?_;refine Dm hpp (H.p42_5 (bm #[115,117,109]) m0) h fun y1 _ h=>?_;cases h;exact aB.ret (pX [.cell 2 29])
def Tw (F:bD) (m0:aD):RX aA:=(bK (F.p42_6 (bm #[116,105,109,101,115]) m0) (fun q2=>(q2.1,q2.2)) fun y1=>(some (PX.ok (y1.1,y1.2))))
def aBm (F:bD) (H:F.Ok):FK (Tw F):=fun m0 r h=>by
 refine gS fun s b0 pp hpp=>?_;unfold Tw at h;refine gN func198 ntmps198 ?_;refine rg ?_;refine Dm hpp (H.p42_6 (bm #[116,105,109,101,115]) m0) h fun y1 _ h=>?_;cases h;exact aB.ret (pX [.cell 2 29])
def Tv (F:bD) (m0:aD):RX aA:=(bK (F.p42_7 (bm #[99,104,97,105,110]) m0) (fun q2=>(q2.1,q2.2)) fun y1=>(some (PX.ok (y1.1,y1.2))))
def aBl (F:bD) (H:F.Ok):FJ (Tv F):=fun m0 r h=>by
 refine gS fun s b0 pp hpp=>?_;unfold Tv at h;refine gN func209 ntmps209 ?_;refine rg ?_;refine Dm hpp (H.p42_7 (bm #[99,104,97,105,110]) m0) h fun y1 _ h=>?_;cases h;exact aB.ret (pX [.cell 2 29])
def vJ (F:bD) (m0:aD):RX aA:=(call (eR (bm #[45]) m0) fun y2=>(aE y2.1 (bK (F.p215_1 y2.2) (fun q5=>(q5.1,q5.2)) fun y4=>(some (PX.ok ((aA.mk 4 false bO bO 0 (aH.mk 0 0 bO) ([y4.1]) ([]:List aF)),y4.2)))) (call (eR (bm #[43]) y2.2) fun y6=>(aE y6.1 (bK (F.p215_1 y6.2) (fun q9=>(q9.1,q9.2)) fun y8=>(some (PX.ok ((aA.mk 5 false bO bO 0 (aH.mk 0 0 bO) ([y8.1]) ([]:List aF)),y8.2)))) (bK (F.p221_1 y6.2) (fun q11=>(q11.1,q11.2)) fun y10=>(cF (fun u16 (q15:aA×aD)=>(call (cE (bm #[67,79,76,76,65,84,69]) q15.2) fun y18=>(aE y18.1 (call wA fun y21=>(bK (Ep y21 y18.2) (fun q23=>(q23.1,q23.2)) fun y22=>(u16 ((aA.mk 31 false bO y22.1 0 (aH.mk 0 0 bO) ([q15.1]) ([]:List aF)),y22.2)))) (some (PX.ok (q15.1,y18.2)))))) bQ (y10.1,y10.2)))))))
def aBk (F:bD) (H:F.Ok):FI (vJ F):=fun m0 r h=>by
 refine gS fun s b0 pp hpp=>?_;unfold vJ at h;refine gN func215 ntmps215 ?_;refine bG (ai (@aH.aC)<|@aA.aC) ?_;apply aB.seq;apply aB.block;refine dN (ai (@aH.aC)<|@aA.aC) (sZ (bm #[45]) m0) h fun y2 _ h=>?_;refine wz h (fun h=>?_) fun h=>?_
 ·refine fK (ai (@aH.aC)<|@aA.aC) hpp (H.p215_1 y2.2) h fun y4 _ h=>?_;cases h;exact aB.ret (iN (ai @aH.aC<|@aA.aC) [.cell 2 29])
 ·refine dN (ai (@aH.aC)<|@aA.aC) (sZ (bm #[43]) y2.2) h fun y6 _ h=>?_;refine wz h (fun h=>?_) fun h=>?_
  ·refine fK (ai (@aH.aC)<|@aA.aC) hpp (H.p215_1 y6.2) h fun y8 _ h=>?_;cases h;exact aB.ret (iN (ai @aH.aC<|@aA.aC) [.cell 2 29])
  ·apply sK;refine fK (ai (@aH.aC)<|@aA.aC) hpp (H.p221_1 y6.2) h fun y10 _ h=>?_;apply aB.seq;apply aB.block;refine lp h (fun q15=>eH pp [(0,.ptr b0 0),(2,.loc 2 0),(3,.loc 3 0)] [(2,([aI 0,aY false,aM bO,aM bO,aI 0,aI 0,aI 0,aM bO,.nil,.nil],29)),(3,(eV q15.1,29))] (s.aU b0 (rB q15.2)) 29) ?_ ?_
   ·exact cV (ai @aH.aC<|@aA.aC)
   ·rintro u16 ⟨lC,w14⟩ h;(try dsimp only at h ⊢);apply aB.seq;refine dN (ai (@aH.aC)<|@aA.aC) (iL (bm #[67,79,76,76,65,84,69]) w14) h fun y18 _ h=>?_;refine wz h (fun h=>?_) fun h=>?_
    ·apply sK;apply aB.block;refine lM [0,3,4,1,2,5,6] [100025] fun Z20 hZ20=>?_;refine sG (ai @aH.aC<|@aA.aC) ?_;obtain⟨y21,hy21,h⟩:=cC h;refine dV (IK _ hy21) ?_;refine sG (ai @aH.aC<|@aA.aC) ?_;refine oZ hpp (EU y21 y18.2) h fun y22 _ h=>?_;refine sG (ai @aH.aC<|@aA.aC) ?_;refine hZ20 _ ?_;clear hZ20 Z20;exact⟨((aA.mk 31 false bO y22.1 0 (aH.mk 0 0 bO) ([lC]) ([]:List aF)),y22.2),h,cV (ai @aH.aC<|@aA.aC)⟩
    ·apply aB.exit;simp only[dR,seval];refine bG (ai (@aH.aC)<|@aA.aC) ?_;cases h;exact aB.ret (iN (ai @aH.aC<|@aA.aC) [.cell 2 29])
def mX (F:bD) (m0:aD):RX aA:=(call (qV m0) fun y2=>(aE y2.2.1 (some (PX.ok ((aA.mk 1 false bO bO 0 y2.1 ([]:List aA) ([]:List aF)),(aD.mk y2.2.2.l (i64.wrap (y2.2.2.at_+1)) y2.2.2.params)))) (call (pC 0 y2.2.2) fun y5=>(aE (y5.1.data.toList==(bm #[69,88,73,83,84,83]).data.toList) (bK (F.p118_1 y5.2) (fun q8=>(q8.1,q8.2)) fun y7=>(some (PX.ok (y7.1,y7.2)))) (aE (y5.1.data.toList==(bm #[67,65,83,69]).data.toList) (bK (F.p225_1 y5.2) (fun q11=>(q11.1,q11.2)) fun y10=>(some (PX.ok (y10.1,y10.2)))) (aE (y5.1.data.toList==(bm #[67,65,83,84]).data.toList) (bK (F.p226_1 y5.2) (fun q14=>(q14.1,q14.2)) fun y13=>(some (PX.ok (y13.1,y13.2)))) (aE (y5.1.data.toList==(bm #[82,69,80,76,65,67,69]).data.toList) (aR (0<=(i64.wrap ((i64.wrap (y5.2.at_+1))-1))∧(i64.wrap ((i64.wrap (y5.2.at_+1))-1))<(y5.2.l.length:Int)) (bK (F.p227_1 ((y5.2.l.getD (i64.wrap ((i64.wrap (y5.2.at_+1))-1)).toNat aP.z).text) (aD.mk y5.2.l (i64.wrap (y5.2.at_+1)) y5.2.params)) (fun q20=>(q20.1,q20.2)) fun y19=>(some (PX.ok (y19.1,y19.2))))) (call (yP y5.2) fun y22=>(aE y22.1 (call (yO y22.2) fun y24=>(call (sW ([(bm #[40])]) y24.2) fun y26=>(aE y26.1 (bK (F.p227_1 y24.1 y26.2) (fun q29=>(q29.1,q29.2)) fun y28=>(some (PX.ok (y28.1,y28.2)))) (call (eR (bm #[46]) y26.2) fun y31=>(aE y31.1 (bK (Ak y31.2) (fun q34=>(q34.1,q34.2)) fun y33=>(some (PX.ok ((aA.mk 2 false y24.1 y33.1 0 (aH.mk 0 0 bO) ([]:List aA) ([]:List aF)),y33.2)))) (some (PX.ok ((aA.mk 2 false bO y24.1 0 (aH.mk 0 0 bO) ([]:List aA) ([]:List aF)),y31.2)))))))) (join (fun u37=>(aE (decide (y22.2.at_<(y22.2.l.length:Int))) (aR (0<=y22.2.at_∧y22.2.at_<(y22.2.l.length:Int)) (u37 (((y22.2.l.getD y22.2.at_.toNat aP.z).kind)==5))) (u37 false))) (fun(q36:Bool)=>(aE q36 (bK (Eo y22.2) (fun q43=>(q43.1,q43.2)) fun y42=>(some (PX.ok ((aA.mk 3 false bO bO y42.1 (aH.mk 0 0 bO) ([]:List aA) ([]:List aF)),(aD.mk y42.2.l (i64.wrap (y42.2.at_+1)) (kD y42.2.params y42.1)))))) (bK (fJ (bm #[40]) y22.2) (fun q45=>(q45.1,q45.2)) fun y44=>(join (fun u49=>(call (Ac y44) fun y50=>(aE y50.1 (bK (F.p50_1 y50.2) (fun q53=>(q53.1,q53.2)) fun y52=>(u49 ((aA.mk 28 false bO bO 0 (aH.mk 0 0 bO) ([]:List aA) ([y52.1])),y52.2))) (bK (F.p15_1 y50.2) (fun q55=>(q55.1,q55.2)) fun y54=>(u49 (y54.1,y54.2)))))) (fun(q48:aA×aD)=>(bK (fJ (bm #[41]) q48.2) (fun q57=>(q57.1,q57.2)) fun y56=>(some (PX.ok (q48.1,y56)))))))))))))))))))
def aBj (F:bD) (H:F.Ok):FH (mX F):=fun m0 r h=>by
 refine gS fun s b0 pp hpp=>?_;unfold mX at h;refine gN func221 ntmps221 ?_;refine bG (ai (@aH.aC)<|@aA.aC) ?_;apply aB.seq;refine dN (ai (@aH.aC)<|@aA.aC) (aB6 m0) h fun y2 _ h=>?_;refine bG (ai (@aH.aC)<|@aA.aC) ?_;refine wz h (fun h=>?_) fun h=>?_
 ·refine bG (ai (@aH.aC)<|ai (@aA.aC)<|@aD.aC) ?_;refine hL (s':=(s.aU b0 ([.slice 3 (y2.2.2.l.map aP.v),aI (i64.wrap (y2.2.2.at_+1)),aI y2.2.2.params],93))) ?_;refine bG (ai (@aH.aC)<|ai (@aA.aC)<|@aD.aC) ?_;cases h;exact aB.ret (iN (ai @aH.aC<|ai @aA.aC<|@aD.aC) [.cell 2 29])
 ·apply sK;apply aB.seq;refine dN (ai (@aH.aC)<|ai (@aA.aC)<|@aD.aC) (tB 0 y2.2.2) h fun y5 _ h=>?_;apply aB.block;refine bG (ai (@aH.aC)<|ai (@aA.aC)<|@aD.aC) ?_;refine wz h (fun h=>?_) fun h=>?_
  ·refine fK (ai (@aH.aC)<|ai (@aA.aC)<|@aD.aC) hpp (H.p118_1 y5.2) h fun y7 _ h=>?_;cases h;exact aB.ret (iN (ai @aH.aC<|ai @aA.aC<|@aD.aC) [.cell 2 29])
  ·refine bG (ai (@aH.aC)<|ai (@aA.aC)<|@aD.aC) ?_;refine wz h (fun h=>?_) fun h=>?_
   ·refine fK (ai (@aH.aC)<|ai (@aA.aC)<|@aD.aC) hpp (H.p225_1 y5.2) h fun y10 hy10 h=>?_;cases h;exact aB.ret (iN (ai @aH.aC<|ai @aA.aC<|@aD.aC) [.cell 2 29])
   ·refine bG (ai (@aH.aC)<|ai (@aA.aC)<|@aD.aC) ?_;refine wz h (fun h=>?_) fun h=>?_
    ·refine fK (ai (@aH.aC)<|ai (@aA.aC)<|@aD.aC) hpp (H.p226_1 y5.2) h fun y13 _ h=>?_;cases h;exact aB.ret (iN (ai @aH.aC<|ai @aA.aC<|@aD.aC) [.cell 2 29])
    ·refine bG (ai (@aH.aC)<|ai (@aA.aC)<|@aD.aC) ?_;refine wz h (fun h=>?_) fun h=>?_
     ·refine bG (ai (@aH.aC)<|ai (@aA.aC)<|@aD.aC) ?_;refine hL (s':=(s.aU b0 ([.slice 3 (y5.2.l.map aP.v),aI (i64.wrap (y5.2.at_+1)),aI y5.2.params],93))) ?_;refine lL [0,1,2,3,4,5,6,7,8,9,10,11,12,13,14] [2] fun Z16 hZ16=>?_;obtain⟨hn18,h⟩:=aV h;(try simp only[aJ hn18.1,aJ hn18.2,bW aP.v aP.z hn18,aH.aC,aA.aC,aD.aC,eY,Nat.reduceBEq,xm,Nat.reduceAdd,Nat.reduceLeDiff,seval,reduceCtorEq]);refine oZ hpp (H.p227_1 ((y5.2.l.getD (i64.wrap ((i64.wrap (y5.2.at_+1))-1)).toNat aP.z).text) (aD.mk y5.2.l (i64.wrap (y5.2.at_+1)) y5.2.params)) h fun y19 _ h=>?_;(try simp only[aJ hn18.1,aJ hn18.2,bW aP.v aP.z hn18,aH.aC,aA.aC,aD.aC,eY,Nat.reduceBEq,xm,Nat.reduceAdd,Nat.reduceLeDiff,seval,reduceCtorEq]);refine hZ16 _ ?_;clear hZ16 Z16;cases h;exact aB.ret (iN (ai @aH.aC<|ai @aA.aC<|@aD.aC) [.cell 2 29])
     ·apply sK;apply aB.seq;apply aB.block;refine dN (ai (@aH.aC)<|ai (@aA.aC)<|@aD.aC) (yR y5.2) h fun y22 _ h=>?_;refine wz h (fun h=>?_) fun h=>?_
      ·refine dN (ai (@aH.aC)<|ai (@aA.aC)<|@aD.aC) (Oc y22.2) h fun y24 _ h=>?_;apply aB.seq;refine dN (ai (@aH.aC)<|ai (@aA.aC)<|@aD.aC) (Ev ([(bm #[40])]) y24.2) h fun y26 _ h=>?_;refine wz h (fun h=>?_) fun h=>?_
       ·refine fK (ai (@aH.aC)<|ai (@aA.aC)<|@aD.aC) hpp (H.p227_1 y24.1 y26.2) h fun y28 _ h=>?_;cases h;exact aB.ret (iN (ai @aH.aC<|ai @aA.aC<|@aD.aC) [.cell 2 29])
       ·apply sK;apply aB.seq;refine dN (ai (@aH.aC)<|ai (@aA.aC)<|@aD.aC) (sZ (bm #[46]) y26.2) h fun y31 _ h=>?_;refine wz h (fun h=>?_) fun h=>?_
        ·refine fK (ai (@aH.aC)<|ai (@aA.aC)<|@aD.aC) hpp (Va y31.2) h fun y33 _ h=>?_;cases h;exact aB.ret (iN (ai @aH.aC<|ai @aA.aC<|@aD.aC) [.cell 2 29])
        ·apply sK;refine bG (ai (@aH.aC)<|ai (@aA.aC)<|@aD.aC) ?_;cases h;exact aB.ret (iN (ai @aH.aC<|ai @aA.aC<|@aD.aC) [.cell 2 29])
      ·refine jn h (fun q36=>eH pp [(0,.ptr b0 0),(2,.loc 2 0),(79,aY q36)] [(2,([aI 0,aY false,aM bO,aM bO,aI 0,aI 0,aI 0,aM bO,.nil,.nil],29))] (s.aU b0 (rB y22.2)) 138) (fun u37 h=>?_) ?_
       ·refine wy h (fun hg38 h=>?_) fun hg38 h=>?_
        ·obtain⟨hn40,h⟩:=aV h;refine xK [0,1,2,3,4,5,6,7,8,9,10,11,12,13,14,15,16,17,18,19,20,21,22,23,24] [] (ai (@aH.aC)<|ai (@aA.aC)<|ai (@aD.aC)<|ai hg38<|ai (aJ hn40.1)<|ai (aJ hn40.2)<|(bW aP.v aP.z hn40)) ?_;exact⟨(((y22.2.l.getD y22.2.at_.toNat aP.z).kind)==5),h,cV (ai @aH.aC<|ai @aA.aC<|ai @aD.aC<|hg38)⟩
        ·refine xK [0,1,2,3,4,5,6,7,8,9,10,11,12,13,14,15,16,17,18,19,20,21,22,23,24] [] (ai (@aH.aC)<|ai (@aA.aC)<|ai (@aD.aC)<|hg38) ?_;exact⟨false,h,cV (ai @aH.aC<|ai @aA.aC<|ai @aD.aC<|hg38)⟩
       ·rintro v35 h;refine wz h (fun h=>?_) fun h=>?_
        ·refine fK (ai (@aH.aC)<|ai (@aA.aC)<|@aD.aC) hpp (aB5 y22.2) h fun y42 _ h=>?_;refine bG (ai (@aH.aC)<|ai (@aA.aC)<|@aD.aC) ?_;refine hL (s':=(s.aU b0 ([.slice 3 (y42.2.l.map aP.v),aI (i64.wrap (y42.2.at_+1)),aI y42.2.params],93))) ?_;refine bG (ai (@aH.aC)<|ai (@aA.aC)<|@aD.aC) ?_;refine hL (s':=(s.aU b0 ([.slice 3 (y42.2.l.map aP.v),aI (i64.wrap (y42.2.at_+1)),aI (kD y42.2.params y42.1)],93))) ?_;refine bG (ai (@aH.aC)<|ai (@aA.aC)<|@aD.aC) ?_;cases h;exact aB.ret (iN (ai @aH.aC<|ai @aA.aC<|@aD.aC) [.cell 2 29])
        ·apply sK;refine fK (ai (@aH.aC)<|ai (@aA.aC)<|@aD.aC) hpp (sY (bm #[40]) y22.2) h fun y44 _ h=>?_;refine bG (ai (@aH.aC)<|ai (@aA.aC)<|@aD.aC) ?_;refine jn h (fun q48=>eH pp [(0,.ptr b0 0),(2,.loc 2 0),(7,.loc 7 0)] [(2,([aI 0,aY false,aM bO,aM bO,aI 0,aI 0,aI 0,aM bO,.nil,.nil],29)),(7,(eV q48.1,29))] (s.aU b0 (rB q48.2)) 138) (fun u49 h=>?_) ?_
         ·refine dN (ai (@aH.aC)<|ai (@aA.aC)<|@aD.aC) (EV y44) h fun y50 _ h=>?_;refine wz h (fun h=>?_) fun h=>?_
          ·refine tH (ai (@aH.aC)<|ai (@aA.aC)<|@aD.aC) hpp (H.p50_1 y50.2) h fun y52 _ h=>?_;exact⟨((aA.mk 28 false bO bO 0 (aH.mk 0 0 bO) ([]:List aA) ([y52.1])),y52.2),h,cV (ai @aH.aC<|ai @aA.aC<|@aD.aC)⟩
          ·refine tH (ai (@aH.aC)<|ai (@aA.aC)<|@aD.aC) hpp (H.p15_1 y50.2) h fun y54 _ h=>?_;exact⟨(y54.1,y54.2),h,cV (ai @aH.aC<|ai @aA.aC<|@aD.aC)⟩
         ·rintro⟨Bc,w47⟩ h;(try dsimp only at h ⊢);refine fK (ai (@aH.aC)<|ai (@aA.aC)<|@aD.aC) hpp (sY (bm #[41]) w47) h fun y56 _ h=>?_;refine bG (ai (@aH.aC)<|ai (@aA.aC)<|@aD.aC) ?_;cases h;exact aB.ret (iN (ai @aH.aC<|ai @aA.aC<|@aD.aC) [.cell 2 29])
def yT (F:bD) (m0:aD):RX aA:=(bK (fE (bm #[67,65,83,69]) m0) (fun q2=>(q2.1,q2.2)) fun y1=>(join (fun u9=>(call (pC 0 y1) fun y11=>(aE (!(y11.1.data.toList==(bm #[87,72,69,78]).data.toList)) (bK (F.p15_1 y11.2) (fun q15=>(q15.1,q15.2)) fun y14=>(aR ((([]:List aA).length+1)*136<=140737488355328) (u9 ((aA.mk 29 false bO bO 1 (aH.mk 0 0 bO) (([]:List aA)++([y14.1])) ([]:List aF)),y14.2)))) (u9 ((aA.mk 29 false bO bO 0 (aH.mk 0 0 bO) ([]:List aA) ([]:List aF)),y11.2))))) (fun(q8:aA×aD)=>(cF (fun u25 (q24:aA×Bool×aD)=>(join (fun u32=>(aE q24.2.1 (u32 (true,q24.2.2)) (call (pC 0 q24.2.2) fun y35=>(u32 ((y35.1.data.toList==(bm #[87,72,69,78]).data.toList),y35.2))))) (fun(q31:Bool×aD)=>(aE q31.1 (bK (fE (bm #[87,72,69,78]) q31.2) (fun q39=>(q39.1,q39.2)) fun y38=>(bK (F.p15_1 y38) (fun q42=>(q42.1,q42.2)) fun y41=>(aR ((q24.1.args.length+1)*136<=140737488355328) (bK (fE (bm #[84,72,69,78]) y41.2) (fun q47=>(q47.1,q47.2)) fun y46=>(bK (F.p15_1 y46) (fun q50=>(q50.1,q50.2)) fun y49=>(aR (((q24.1.args++([y41.1])).length+1)*136<=140737488355328) (u25 ((aA.mk q24.1.op q24.1.not q24.1.table q24.1.name q24.1.n q24.1.v_ ((q24.1.args++([y41.1]))++([y49.1])) q24.1.sub),false,y49.2)))))))) (join (fun u58=>(call (cE (bm #[69,76,83,69]) q31.2) fun y60=>(aE y60.1 (bK (F.p15_1 y60.2) (fun q64=>(q64.1,q64.2)) fun y63=>(aR ((q24.1.args.length+1)*136<=140737488355328) (u58 ((aA.mk q24.1.op q24.1.not q24.1.table q24.1.name (i64.wrap (q24.1.n+2)) q24.1.v_ (q24.1.args++([y63.1])) q24.1.sub),y63.2)))) (u58 (q24.1,y60.2))))) (fun(q57:aA×aD)=>(bK (fE (bm #[69,78,68]) q57.2) (fun q69=>(q69.1,q69.2)) fun y68=>(some (PX.ok (q57.1,y68)))))))))) bQ (q8.1,true,q8.2)))))
def aBi (F:bD) (H:F.Ok):FG (yT F):=fun m0 r h=>by
 refine gS fun s b0 pp hpp=>?_;unfold yT at h;refine gN func225 ntmps225 ?_;refine bG (ai (@aH.aC)<|@aA.aC) ?_;refine fK (ai (@aH.aC)<|@aA.aC) hpp (tA (bm #[67,65,83,69]) m0) h fun y1 _ h=>?_;refine bG (ai (@aH.aC)<|@aA.aC) ?_;refine aB.Wx 3 8 (29,10) (cs:=[aI 29,aY false,aM bO,aM bO,aI 0,aI 0,aI 0,aM bO,.nil,.nil]) (ty:=29) (by rfl) (.inl (by rfl)) fun g3 hg3=>?_;change (s).own g3=none at hg3;have fr4:Fr s (List.map Prod.fst [(g3,(29,10))]):=Fr.snoc (l:=[]) (Fr.nil s) hg3;refine aB.uT (X:=aA×aD) (G:=Nat) h (fun gq10=>Fr s (List.map Prod.fst [(gq10,(29,10))])) (fun q8 gq10=>eH pp [(0,.ptr b0 0),(2,.loc 2 0),(3,.loc 3 0)] [(2,([aI 0,aY false,aM bO,aM bO,aI 0,aI 0,aI 0,aM bO,.nil,.nil],29)),(3,([aI q8.1.op,aY q8.1.not,aM q8.1.table,aM q8.1.name,aI q8.1.n,aI q8.1.v_.kind,aI q8.1.v_.int,aM q8.1.v_.text,.own gq10 10 (q8.1.args.map aA.v),.slice 5 (q8.1.sub.map aF.v)],29))] ((cJ s [(gq10,(29,10))]).aU b0 (rB q8.2)) 59) (fun u9 h=>?_) ?_
 ·refine dN (ai (@aH.aC)<|@aA.aC) (tB 0 y1) h fun y11 _ h=>?_;refine wz h (fun h=>?_) fun h=>?_
  ·refine bG (ai (@aH.aC)<|@aA.aC) ?_;refine lM [0,1,2,3,4,5,6,7] [100013] fun Z13 hZ13=>?_;(try simp only[aH.aC,aA.aC,eY,Nat.reduceBEq,xs,xa,Nat.reduceAdd,seval,reduceCtorEq]);refine tL (Fr.drop (l:=[(g3,(29,10))]) fr4) hpp (H.p15_1 y11.2) h fun y14 _ h=>?_;obtain⟨hn16,h⟩:=aV h;(try simp only[aH.aC,aA.aC,eY,Nat.reduceBEq,xs,xa,Nat.reduceAdd,seval,reduceCtorEq])
   first|refine mL fr4 hn16 fun g17 hg17=>?_|refine mM fr4 hn16 fun g17 hg17=>?_
   have fr18:Fr s (List.map Prod.fst [(g17,(29,10))]):=Fr.rep (a:=[]) (b:=[]) fr4 hg17;(try simp only[aH.aC,aA.aC,eY,Nat.reduceBEq,xs,xa,Nat.reduceAdd,seval,reduceCtorEq]);refine hZ13 _ ?_;clear hZ13 Z13;refine⟨((aA.mk 29 false bO bO 1 (aH.mk 0 0 bO) (([]:List aA)++([y14.1])) ([]:List aF)),y14.2),h,g17,fr18,?_⟩;refine xM (s':=((cJ s [(g17,(29,10))]).aU b0 (rB y14.2))) (iI (o:=(Fr.mN (a:=[]) (b:=[]) fr4 hg17:aL.le _ _).own)) ?_;exact cV (ai @aH.aC<|@aA.aC)
  ·apply sK;exact⟨((aA.mk 29 false bO bO 0 (aH.mk 0 0 bO) ([]:List aA) ([]:List aF)),y11.2),h,g3,fr4,cV (ai @aH.aC<|@aA.aC)⟩
 ·rintro⟨b5,w7⟩ h g6 hg6f;(try dsimp only at h ⊢);apply aB.seq;refine bG (ai (@aH.aC)<|@aA.aC) ?_;apply aB.block;refine aB.pA (X:=aA×Bool×aD) (G:=Nat) h (fun gq26=>Fr s (List.map Prod.fst [(gq26,(29,10))])) (fun q24 gq26=>eH pp [(0,.ptr b0 0),(2,.loc 2 0),(3,.loc 3 0),(4,aY q24.2.1)] [(2,([aI 0,aY false,aM bO,aM bO,aI 0,aI 0,aI 0,aM bO,.nil,.nil],29)),(3,([aI q24.1.op,aY q24.1.not,aM q24.1.table,aM q24.1.name,aI q24.1.n,aI q24.1.v_.kind,aI q24.1.v_.int,aM q24.1.v_.text,.own gq26 10 (q24.1.args.map aA.v),.slice 5 (q24.1.sub.map aF.v)],29))] ((cJ s [(gq26,(29,10))]).aU b0 (rB q24.2.2)) 59) ?_ ?_
  ·exact⟨g6,hg6f,cV (ai @aH.aC<|@aA.aC)⟩
  ·rintro u25 ⟨jD,v22,w23⟩ h g21 hg21f;(try dsimp only at h ⊢);apply aB.seq;refine aB.uT (X:=Bool×aD) (G:=Nat) h (fun gq33=>Fr s (List.map Prod.fst [(gq33,(29,10))])) (fun q31 gq33=>eH pp [(0,.ptr b0 0),(2,.loc 2 0),(3,.loc 3 0),(24,aY q31.1)] [(2,([aI 0,aY false,aM bO,aM bO,aI 0,aI 0,aI 0,aM bO,.nil,.nil],29)),(3,([aI jD.op,aY jD.not,aM jD.table,aM jD.name,aI jD.n,aI jD.v_.kind,aI jD.v_.int,aM jD.v_.text,.own gq33 10 (jD.args.map aA.v),.slice 5 (jD.sub.map aF.v)],29))] ((cJ s [(gq33,(29,10))]).aU b0 (rB q31.2)) 59) (fun u32 h=>?_) ?_
   ·refine wy h (fun hg34 h=>?_) fun hg34 h=>?_
    ·refine bU (ai (@aH.aC)<|ai (@aA.aC)<|hg34) ?_;exact⟨(true,w23),h,g21,hg21f,cV (ai @aH.aC<|ai @aA.aC<|hg34)⟩
    ·refine iA (ai (@aH.aC)<|ai (@aA.aC)<|hg34) (tB 0 w23) h fun y35 _ h=>?_;exact⟨((y35.1.data.toList==(bm #[87,72,69,78]).data.toList),y35.2),h,g21,hg21f,cV (ai @aH.aC<|ai @aA.aC<|hg34)⟩
   ·rintro⟨v28,w29⟩ h g30 hg30f;(try dsimp only at h ⊢);refine wz h (fun h=>?_) fun h=>?_
    ·apply sK;apply aB.seq;apply aB.block;refine yW (Fr.drop (l:=[(g30,(29,10))]) hg30f) (ai (@aH.aC)<|@aA.aC) hpp (tA (bm #[87,72,69,78]) w29) h fun y38 _ h=>?_;refine lL [0,1,2,3,4,5,6,7] [100028] fun Z40 hZ40=>?_;(try simp only[aH.aC,aA.aC,eY,Nat.reduceBEq,xs,xa,Nat.reduceAdd,seval,reduceCtorEq]);refine tL (Fr.drop (l:=[(g30,(29,10))]) hg30f) hpp (H.p15_1 y38) h fun y41 _ h=>?_;obtain⟨hn43,h⟩:=aV h;(try simp only[aH.aC,aA.aC,eY,Nat.reduceBEq,xs,xa,Nat.reduceAdd,seval,reduceCtorEq])
     first|refine mL hg30f hn43 fun g44 hg44=>?_|refine mM hg30f hn43 fun g44 hg44=>?_
     have fr45:Fr s (List.map Prod.fst [(g44,(29,10))]):=Fr.rep (a:=[]) (b:=[]) hg30f hg44;(try simp only[aH.aC,aA.aC,eY,Nat.reduceBEq,xs,xa,Nat.reduceAdd,seval,reduceCtorEq]);refine hZ40 _ ?_;clear hZ40 Z40;refine tS (Fr.mN (a:=[]) (b:=[]) hg30f hg44) (s':=((cJ s [(g44,(29,10))]).aU b0 (rB y41.2))) ?_;refine yW (Fr.drop (l:=[(g44,(29,10))]) fr45) (ai (@aH.aC)<|@aA.aC) hpp (tA (bm #[84,72,69,78]) y41.2) h fun y46 _ h=>?_;refine lM [0,1,2,3,4,5,6,7] [100037] fun Z48 hZ48=>?_;(try simp only[aH.aC,aA.aC,eY,Nat.reduceBEq,xs,xa,Nat.reduceAdd,seval,reduceCtorEq]);refine tL (Fr.drop (l:=[(g44,(29,10))]) fr45) hpp (H.p15_1 y46) h fun y49 _ h=>?_;obtain⟨hn51,h⟩:=aV h;(try simp only[aH.aC,aA.aC,eY,Nat.reduceBEq,xs,xa,Nat.reduceAdd,seval,reduceCtorEq])
     first|refine mL fr45 hn51 fun g52 hg52=>?_|refine mM fr45 hn51 fun g52 hg52=>?_
     have fr53:Fr s (List.map Prod.fst [(g52,(29,10))]):=Fr.rep (a:=[]) (b:=[]) fr45 hg52;(try simp only[aH.aC,aA.aC,eY,Nat.reduceBEq,xs,xa,Nat.reduceAdd,seval,reduceCtorEq]);refine hZ48 _ ?_;clear hZ48 Z48;refine tS (Fr.mN (a:=[]) (b:=[]) fr45 hg52) (s':=((cJ s [(g52,(29,10))]).aU b0 (rB y49.2))) ?_;refine bU (ai (@aH.aC)<|@aA.aC) ?_;exact⟨((aA.mk jD.op jD.not jD.table jD.name jD.n jD.v_ ((jD.args++([y41.1]))++([y49.1])) jD.sub),false,y49.2),h,g52,fr53,cV (ai @aH.aC<|@aA.aC)⟩
    ·apply aB.exit;simp only[dR,seval];refine aB.uT (X:=aA×aD) (G:=Nat) h (fun gq59=>Fr s (List.map Prod.fst [(gq59,(29,10))])) (fun q57 gq59=>eH pp [(0,.ptr b0 0),(2,.loc 2 0),(3,.loc 3 0)] [(2,([aI 0,aY false,aM bO,aM bO,aI 0,aI 0,aI 0,aM bO,.nil,.nil],29)),(3,([aI q57.1.op,aY q57.1.not,aM q57.1.table,aM q57.1.name,aI q57.1.n,aI q57.1.v_.kind,aI q57.1.v_.int,aM q57.1.v_.text,.own gq59 10 (q57.1.args.map aA.v),.slice 5 (q57.1.sub.map aF.v)],29))] ((cJ s [(gq59,(29,10))]).aU b0 (rB q57.2)) 59) (fun u58 h=>?_) ?_
     ·refine dN (ai (@aH.aC)<|@aA.aC) (iL (bm #[69,76,83,69]) w29) h fun y60 _ h=>?_;refine wz h (fun h=>?_) fun h=>?_
      ·refine bG (ai (@aH.aC)<|@aA.aC) ?_;refine lM [0,1,2,3,4,5,6,7] [100050] fun Z62 hZ62=>?_;(try simp only[aH.aC,aA.aC,eY,Nat.reduceBEq,xs,xa,Nat.reduceAdd,seval,reduceCtorEq]);refine tL (Fr.drop (l:=[(g30,(29,10))]) hg30f) hpp (H.p15_1 y60.2) h fun y63 _ h=>?_;obtain⟨hn65,h⟩:=aV h;(try simp only[aH.aC,aA.aC,eY,Nat.reduceBEq,xs,xa,Nat.reduceAdd,seval,reduceCtorEq])
       first|refine mL hg30f hn65 fun g66 hg66=>?_|refine mM hg30f hn65 fun g66 hg66=>?_
       have fr67:Fr s (List.map Prod.fst [(g66,(29,10))]):=Fr.rep (a:=[]) (b:=[]) hg30f hg66;(try simp only[aH.aC,aA.aC,eY,Nat.reduceBEq,xs,xa,Nat.reduceAdd,seval,reduceCtorEq]);refine hZ62 _ ?_;clear hZ62 Z62;refine⟨((aA.mk jD.op jD.not jD.table jD.name (i64.wrap (jD.n+2)) jD.v_ (jD.args++([y63.1])) jD.sub),y63.2),h,g66,fr67,?_⟩;refine xM (s':=((cJ s [(g66,(29,10))]).aU b0 (rB y63.2))) (iI (o:=(Fr.mN (a:=[]) (b:=[]) hg30f hg66:aL.le _ _).own)) ?_;exact cV (ai @aH.aC<|@aA.aC)
      ·apply sK;exact⟨(jD,y60.2),h,g30,hg30f,cV (ai @aH.aC<|@aA.aC)⟩
     ·rintro⟨b54,w56⟩ h g55 hg55f;(try dsimp only at h ⊢);refine yW (Fr.drop (l:=[(g55,(29,10))]) hg55f) (ai (@aH.aC)<|@aA.aC) hpp (tA (bm #[69,78,68]) w56) h fun y68 _ h=>?_;refine bG (ai (@aH.aC)<|@aA.aC) ?_;cases h;exact aB.ret (Oq (ai @aH.aC<|@aA.aC) (Fr.drop (l:=[(g55,(29,10))]) hg55f) [.cell 2 29])
def Jc (F:bD) (m0:aD):RX aA:=(bK (fE (bm #[67,65,83,84]) m0) (fun q2=>(q2.1,q2.2)) fun y1=>(bK (fJ (bm #[40]) y1) (fun q4=>(q4.1,q4.2)) fun y3=>(bK (F.p15_1 y3) (fun q6=>(q6.1,q6.2)) fun y5=>(bK (fE (bm #[65,83]) y5.2) (fun q8=>(q8.1,q8.2)) fun y7=>(call wB fun y10=>(bK (Ep y10 y7) (fun q12=>(q12.1,q12.2)) fun y11=>(bK (fJ (bm #[41]) y11.2) (fun q14=>(q14.1,q14.2)) fun y13=>(some (PX.ok ((aA.mk 30 false bO y11.1 0 (aH.mk 0 0 bO) ([y5.1]) ([]:List aF)),y13))))))))))
def aBh (F:bD) (H:F.Ok):FF (Jc F):=fun m0 r h=>by
 refine gS fun s b0 pp hpp=>?_;unfold Jc at h;refine gN func226 ntmps226 ?_;refine bG (ai (@aH.aC)<|@aA.aC) ?_;refine fK (ai (@aH.aC)<|@aA.aC) hpp (tA (bm #[67,65,83,84]) m0) h fun y1 _ h=>?_;refine fK (ai (@aH.aC)<|@aA.aC) hpp (sY (bm #[40]) y1) h fun y3 _ h=>?_;refine fK (ai (@aH.aC)<|@aA.aC) hpp (H.p15_1 y3) h fun y5 _ h=>?_;refine fK (ai (@aH.aC)<|@aA.aC) hpp (tA (bm #[65,83]) y5.2) h fun y7 _ h=>?_;refine lL [0,3,4,6,1,2,5,7] [4,100016] fun Z9 hZ9=>?_;refine sG (ai @aH.aC<|@aA.aC) ?_;obtain⟨y10,hy10,h⟩:=cC h;refine dV (IL _ hy10) ?_;refine sG (ai @aH.aC<|@aA.aC) ?_;refine oZ hpp (EU y10 y7) h fun y11 _ h=>?_;refine sG (ai @aH.aC<|@aA.aC) ?_;refine hZ9 _ ?_;clear hZ9 Z9;refine fK (ai (@aH.aC)<|@aA.aC) hpp (sY (bm #[41]) y11.2) h fun y13 _ h=>?_;refine bG (ai (@aH.aC)<|@aA.aC) ?_;cases h;exact aB.ret (iN (ai @aH.aC<|@aA.aC) [.cell 2 29])
def vI (F:bD) (x1:ByteArray) (m0:aD):RX aA:=(bK (fJ (bm #[40]) m0) (fun q2=>(q2.1,q2.2)) fun y1=>(join (fun u6=>(call (eR (bm #[42]) y1) fun y7=>(aE y7.1 (u6 ((aA.mk 32 false bO x1 2 (aH.mk 0 0 bO) ([]:List aA) ([]:List aF)),y7.2)) (call (cE (bm #[68,73,83,84,73,78,67,84]) y7.2) fun y9=>(aE y9.1 (bK (F.p15_1 y9.2) (fun q12=>(q12.1,q12.2)) fun y11=>(u6 ((aA.mk 32 false bO x1 1 (aH.mk 0 0 bO) ([y11.1]) ([]:List aF)),y11.2))) (call (sW ([(bm #[41])]) y9.2) fun y13=>(aE (!y13.1) (bK (F.p135_1 y13.2) (fun q16=>(q16.1,q16.2)) fun y15=>(u6 ((aA.mk 32 false bO x1 0 (aH.mk 0 0 bO) y15.1 ([]:List aF)),y15.2))) (u6 ((aA.mk 32 false bO x1 0 (aH.mk 0 0 bO) ([]:List aA) ([]:List aF)),y13.2))))))))) (fun(q5:aA×aD)=>(bK (fJ (bm #[41]) q5.2) (fun q18=>(q18.1,q18.2)) fun y17=>(some (PX.ok (q5.1,y17)))))))
def aBg (F:bD) (H:F.Ok):FE (vI F):=fun x1 m0 r h=>by
 refine gS fun s b0 pp hpp=>?_;unfold vI at h;refine gN func227 ntmps227 ?_;refine bG (ai (@aH.aC)<|@aA.aC) ?_;refine bG (ai (@aH.aC)<|@aA.aC) ?_;refine fK (ai (@aH.aC)<|@aA.aC) hpp (sY (bm #[40]) m0) h fun y1 _ h=>?_;refine jn h (fun q5=>eH pp [(0,.ptr b0 0),(4,.loc 4 0),(5,.loc 5 0)] [(4,([aI 0,aY false,aM bO,aM bO,aI 0,aI 0,aI 0,aM bO,.nil,.nil],29)),(5,(eV q5.1,29))] (s.aU b0 (rB q5.2)) 35) (fun u6 h=>?_) ?_
 ·apply aB.block;refine dN (ai (@aH.aC)<|@aA.aC) (sZ (bm #[42]) y1) h fun y7 _ h=>?_;refine wz h (fun h=>?_) fun h=>?_
  ·refine bU (ai (@aH.aC)<|@aA.aC) ?_;exact⟨((aA.mk 32 false bO x1 2 (aH.mk 0 0 bO) ([]:List aA) ([]:List aF)),y7.2),h,cV (ai @aH.aC<|@aA.aC)⟩
  ·refine dN (ai (@aH.aC)<|@aA.aC) (iL (bm #[68,73,83,84,73,78,67,84]) y7.2) h fun y9 _ h=>?_;refine wz h (fun h=>?_) fun h=>?_
   ·refine bG (ai (@aH.aC)<|@aA.aC) ?_;refine tH (ai (@aH.aC)<|@aA.aC) hpp (H.p15_1 y9.2) h fun y11 _ h=>?_;exact⟨((aA.mk 32 false bO x1 1 (aH.mk 0 0 bO) ([y11.1]) ([]:List aF)),y11.2),h,cV (ai @aH.aC<|@aA.aC)⟩
   ·refine dN (ai (@aH.aC)<|@aA.aC) (Ev ([(bm #[41])]) y9.2) h fun y13 _ h=>?_;refine wz h (fun h=>?_) fun h=>?_
    ·refine tH (ai (@aH.aC)<|@aA.aC) hpp (H.p135_1 y13.2) h fun y15 _ h=>?_;exact⟨((aA.mk 32 false bO x1 0 (aH.mk 0 0 bO) y15.1 ([]:List aF)),y15.2),h,cV (ai @aH.aC<|@aA.aC)⟩
    ·apply sK;exact⟨((aA.mk 32 false bO x1 0 (aH.mk 0 0 bO) ([]:List aA) ([]:List aF)),y13.2),h,cV (ai @aH.aC<|@aA.aC)⟩
 ·rintro⟨b3,w4⟩ h;(try dsimp only at h ⊢);refine fK (ai (@aH.aC)<|@aA.aC) hpp (sY (bm #[41]) w4) h fun y17 _ h=>?_;refine bG (ai (@aH.aC)<|@aA.aC) ?_;cases h;exact aB.ret (iN (ai @aH.aC<|@aA.aC) [.cell 4 29])
def Vi (F:bD) (x1:ByteArray) (m0:aD):RX aA:=(bK (F.p43_1 m0) (fun q2=>(q2.1,q2.2)) fun y1=>(cF (fun u7 (q6:aA×aA×aD)=>(call (vM x1 q6.2.2) fun y8=>(aE (y8.2.1==0) (some (PX.ok (q6.2.1,y8.2.2))) (bK (F.p43_1 (aD.mk y8.2.2.l (i64.wrap (y8.2.2.at_+y8.2.1)) y8.2.2.params)) (fun q13=>(q13.1,q13.2)) fun y12=>(u7 (q6.1,(aA.mk y8.1 false bO bO 0 (aH.mk 0 0 bO) ([q6.2.1,y12.1]) ([]:List aF)),y12.2)))))) bQ ((aA.mk 0 false bO bO 0 (aH.mk 0 0 bO) ([]:List aA) ([]:List aF)),y1.1,y1.2)))
def aEx (F:bD) (H:F.Ok):HI (Vi F):=fun x1 m0 r h=>by
 refine gS fun s b0 pp hpp=>?_;unfold Vi at h;refine gN func42 ntmps42 ?_;refine bG (ai (@aH.aC)<|@aA.aC) ?_;refine fK (ai (@aH.aC)<|@aA.aC) hpp (H.p43_1 m0) h fun y1 _ h=>?_;apply aB.block;refine lp h (fun q6=>eH pp [(0,.ptr b0 0),(1,aM x1),(2,.func 43 [.ptr b0 0] []),(6,.loc 6 0),(7,.loc 7 0)] [(6,(eV q6.1,29)),(7,(eV q6.2.1,29))] (s.aU b0 (rB q6.2.2)) 35) ?_ ?_
 ·exact cV (ai @aH.aC<|@aA.aC)
 ·rintro u7 ⟨b3,b4,w5⟩ h;(try dsimp only at h ⊢);apply aB.block;refine dN (ai (@aH.aC)<|@aA.aC) (Fi x1 w5) h fun y8 _ h=>?_;apply aB.seq;refine bG (ai (@aH.aC)<|@aA.aC) ?_;refine wz h (fun h=>?_) fun h=>?_
  ·refine bG (ai (@aH.aC)<|@aA.aC) ?_;cases h;exact aB.ret (iN (ai @aH.aC<|@aA.aC) [.cell 6 29])
  ·apply sK;refine bG (ai (@aH.aC)<|ai (@aA.aC)<|@aD.aC) ?_;refine hL (s':=(s.aU b0 ([.slice 3 (y8.2.2.l.map aP.v),aI (i64.wrap (y8.2.2.at_+y8.2.1)),aI y8.2.2.params],93))) ?_;refine lM [0,1,2,3,4,5,6] [100030] fun Z11 hZ11=>?_;refine sG (ai @aH.aC<|ai @aA.aC<|@aD.aC) ?_;refine oZ hpp (H.p43_1 (aD.mk y8.2.2.l (i64.wrap (y8.2.2.at_+y8.2.1)) y8.2.2.params)) h fun y12 _ h=>?_;refine sG (ai @aH.aC<|ai @aA.aC<|@aD.aC) ?_;refine hZ11 _ ?_;clear hZ11 Z11;exact⟨(b3,(aA.mk y8.1 false bO bO 0 (aH.mk 0 0 bO) ([b4,y12.1]) ([]:List aF)),y12.2),h,cV (ai @aH.aC<|ai @aA.aC<|@aD.aC)⟩
def Vh (F:bD) (x1:ByteArray) (m0:aD):RX aA:=(bK (F.p79_1 m0) (fun q2=>(q2.1,q2.2)) fun y1=>(cF (fun u7 (q6:aA×aA×aD)=>(call (vM x1 q6.2.2) fun y8=>(aE (y8.2.1==0) (some (PX.ok (q6.2.1,y8.2.2))) (bK (F.p79_1 (aD.mk y8.2.2.l (i64.wrap (y8.2.2.at_+y8.2.1)) y8.2.2.params)) (fun q13=>(q13.1,q13.2)) fun y12=>(u7 (q6.1,(aA.mk y8.1 false bO bO 0 (aH.mk 0 0 bO) ([q6.2.1,y12.1]) ([]:List aF)),y12.2)))))) bQ ((aA.mk 0 false bO bO 0 (aH.mk 0 0 bO) ([]:List aA) ([]:List aF)),y1.1,y1.2)))
def aEw (F:bD) (H:F.Ok):HH (Vh F):=fun x1 m0 r h=>by
 refine gS fun s b0 pp hpp=>?_;unfold Vh at h;refine gN func42 ntmps42 ?_;refine bG (ai (@aH.aC)<|@aA.aC) ?_;refine fK (ai (@aH.aC)<|@aA.aC) hpp (H.p79_1 m0) h fun y1 _ h=>?_;apply aB.block;refine lp h (fun q6=>eH pp [(0,.ptr b0 0),(1,aM x1),(2,.func 79 [.ptr b0 0] []),(6,.loc 6 0),(7,.loc 7 0)] [(6,(eV q6.1,29)),(7,(eV q6.2.1,29))] (s.aU b0 (rB q6.2.2)) 35) ?_ ?_
 ·exact cV (ai @aH.aC<|@aA.aC)
 ·rintro u7 ⟨b3,b4,w5⟩ h;(try dsimp only at h ⊢);apply aB.block;refine dN (ai (@aH.aC)<|@aA.aC) (Fi x1 w5) h fun y8 _ h=>?_;apply aB.seq;refine bG (ai (@aH.aC)<|@aA.aC) ?_;refine wz h (fun h=>?_) fun h=>?_
  ·refine bG (ai (@aH.aC)<|@aA.aC) ?_;cases h;exact aB.ret (iN (ai @aH.aC<|@aA.aC) [.cell 6 29])
  ·apply sK;refine bG (ai (@aH.aC)<|ai (@aA.aC)<|@aD.aC) ?_;refine hL (s':=(s.aU b0 ([.slice 3 (y8.2.2.l.map aP.v),aI (i64.wrap (y8.2.2.at_+y8.2.1)),aI y8.2.2.params],93))) ?_;refine lM [0,1,2,3,4,5,6] [100030] fun Z11 hZ11=>?_;refine sG (ai @aH.aC<|ai @aA.aC<|@aD.aC) ?_;refine oZ hpp (H.p79_1 (aD.mk y8.2.2.l (i64.wrap (y8.2.2.at_+y8.2.1)) y8.2.2.params)) h fun y12 _ h=>?_;refine sG (ai @aH.aC<|ai @aA.aC<|@aD.aC) ?_;refine hZ11 _ ?_;clear hZ11 Z11;exact⟨(b3,(aA.mk y8.1 false bO bO 0 (aH.mk 0 0 bO) ([b4,y12.1]) ([]:List aF)),y12.2),h,cV (ai @aH.aC<|ai @aA.aC<|@aD.aC)⟩
def Vg (F:bD) (x1:ByteArray) (m0:aD):RX aA:=(bK (F.p184_1 m0) (fun q2=>(q2.1,q2.2)) fun y1=>(cF (fun u7 (q6:aA×aA×aD)=>(call (vM x1 q6.2.2) fun y8=>(aE (y8.2.1==0) (some (PX.ok (q6.2.1,y8.2.2))) (bK (F.p184_1 (aD.mk y8.2.2.l (i64.wrap (y8.2.2.at_+y8.2.1)) y8.2.2.params)) (fun q13=>(q13.1,q13.2)) fun y12=>(u7 (q6.1,(aA.mk y8.1 false bO bO 0 (aH.mk 0 0 bO) ([q6.2.1,y12.1]) ([]:List aF)),y12.2)))))) bQ ((aA.mk 0 false bO bO 0 (aH.mk 0 0 bO) ([]:List aA) ([]:List aF)),y1.1,y1.2)))
def aEv (F:bD) (H:F.Ok):HG (Vg F):=fun x1 m0 r h=>by
 refine gS fun s b0 pp hpp=>?_;unfold Vg at h;refine gN func42 ntmps42 ?_;refine bG (ai (@aH.aC)<|@aA.aC) ?_;refine fK (ai (@aH.aC)<|@aA.aC) hpp (H.p184_1 m0) h fun y1 _ h=>?_;apply aB.block;refine lp h (fun q6=>eH pp [(0,.ptr b0 0),(1,aM x1),(2,.func 184 [.ptr b0 0] []),(6,.loc 6 0),(7,.loc 7 0)] [(6,(eV q6.1,29)),(7,(eV q6.2.1,29))] (s.aU b0 (rB q6.2.2)) 35) ?_ ?_
 ·exact cV (ai @aH.aC<|@aA.aC)
 ·rintro u7 ⟨b3,b4,w5⟩ h;(try dsimp only at h ⊢);apply aB.block;refine dN (ai (@aH.aC)<|@aA.aC) (Fi x1 w5) h fun y8 _ h=>?_;apply aB.seq;refine bG (ai (@aH.aC)<|@aA.aC) ?_;refine wz h (fun h=>?_) fun h=>?_
  ·refine bG (ai (@aH.aC)<|@aA.aC) ?_;cases h;exact aB.ret (iN (ai @aH.aC<|@aA.aC) [.cell 6 29])
  ·apply sK;refine bG (ai (@aH.aC)<|ai (@aA.aC)<|@aD.aC) ?_;refine hL (s':=(s.aU b0 ([.slice 3 (y8.2.2.l.map aP.v),aI (i64.wrap (y8.2.2.at_+y8.2.1)),aI y8.2.2.params],93))) ?_;refine lM [0,1,2,3,4,5,6] [100030] fun Z11 hZ11=>?_;refine sG (ai @aH.aC<|ai @aA.aC<|@aD.aC) ?_;refine oZ hpp (H.p184_1 (aD.mk y8.2.2.l (i64.wrap (y8.2.2.at_+y8.2.1)) y8.2.2.params)) h fun y12 _ h=>?_;refine sG (ai @aH.aC<|ai @aA.aC<|@aD.aC) ?_;refine hZ11 _ ?_;clear hZ11 Z11;exact⟨(b3,(aA.mk y8.1 false bO bO 0 (aH.mk 0 0 bO) ([b4,y12.1]) ([]:List aF)),y12.2),h,cV (ai @aH.aC<|ai @aA.aC<|@aD.aC)⟩
def Vf (F:bD) (x1:ByteArray) (m0:aD):RX aA:=(bK (F.p198_1 m0) (fun q2=>(q2.1,q2.2)) fun y1=>(cF (fun u7 (q6:aA×aA×aD)=>(call (vM x1 q6.2.2) fun y8=>(aE (y8.2.1==0) (some (PX.ok (q6.2.1,y8.2.2))) (bK (F.p198_1 (aD.mk y8.2.2.l (i64.wrap (y8.2.2.at_+y8.2.1)) y8.2.2.params)) (fun q13=>(q13.1,q13.2)) fun y12=>(u7 (q6.1,(aA.mk y8.1 false bO bO 0 (aH.mk 0 0 bO) ([q6.2.1,y12.1]) ([]:List aF)),y12.2)))))) bQ ((aA.mk 0 false bO bO 0 (aH.mk 0 0 bO) ([]:List aA) ([]:List aF)),y1.1,y1.2)))
def aEu (F:bD) (H:F.Ok):HF (Vf F):=fun x1 m0 r h=>by
 refine gS fun s b0 pp hpp=>?_;unfold Vf at h;refine gN func42 ntmps42 ?_;refine bG (ai (@aH.aC)<|@aA.aC) ?_;refine fK (ai (@aH.aC)<|@aA.aC) hpp (H.p198_1 m0) h fun y1 _ h=>?_;apply aB.block;refine lp h (fun q6=>eH pp [(0,.ptr b0 0),(1,aM x1),(2,.func 198 [.ptr b0 0] []),(6,.loc 6 0),(7,.loc 7 0)] [(6,(eV q6.1,29)),(7,(eV q6.2.1,29))] (s.aU b0 (rB q6.2.2)) 35) ?_ ?_
 ·exact cV (ai @aH.aC<|@aA.aC)
 ·rintro u7 ⟨b3,b4,w5⟩ h;(try dsimp only at h ⊢);apply aB.block;refine dN (ai (@aH.aC)<|@aA.aC) (Fi x1 w5) h fun y8 _ h=>?_;apply aB.seq;refine bG (ai (@aH.aC)<|@aA.aC) ?_;refine wz h (fun h=>?_) fun h=>?_
  ·refine bG (ai (@aH.aC)<|@aA.aC) ?_;cases h;exact aB.ret (iN (ai @aH.aC<|@aA.aC) [.cell 6 29])
  ·apply sK;refine bG (ai (@aH.aC)<|ai (@aA.aC)<|@aD.aC) ?_;refine hL (s':=(s.aU b0 ([.slice 3 (y8.2.2.l.map aP.v),aI (i64.wrap (y8.2.2.at_+y8.2.1)),aI y8.2.2.params],93))) ?_;refine lM [0,1,2,3,4,5,6] [100030] fun Z11 hZ11=>?_;refine sG (ai @aH.aC<|ai @aA.aC<|@aD.aC) ?_;refine oZ hpp (H.p198_1 (aD.mk y8.2.2.l (i64.wrap (y8.2.2.at_+y8.2.1)) y8.2.2.params)) h fun y12 _ h=>?_;refine sG (ai @aH.aC<|ai @aA.aC<|@aD.aC) ?_;refine hZ11 _ ?_;clear hZ11 Z11;exact⟨(b3,(aA.mk y8.1 false bO bO 0 (aH.mk 0 0 bO) ([b4,y12.1]) ([]:List aF)),y12.2),h,cV (ai @aH.aC<|ai @aA.aC<|@aD.aC)⟩
def Ve (F:bD) (x1:ByteArray) (m0:aD):RX aA:=(bK (F.p209_1 m0) (fun q2=>(q2.1,q2.2)) fun y1=>(cF (fun u7 (q6:aA×aA×aD)=>(call (vM x1 q6.2.2) fun y8=>(aE (y8.2.1==0) (some (PX.ok (q6.2.1,y8.2.2))) (bK (F.p209_1 (aD.mk y8.2.2.l (i64.wrap (y8.2.2.at_+y8.2.1)) y8.2.2.params)) (fun q13=>(q13.1,q13.2)) fun y12=>(u7 (q6.1,(aA.mk y8.1 false bO bO 0 (aH.mk 0 0 bO) ([q6.2.1,y12.1]) ([]:List aF)),y12.2)))))) bQ ((aA.mk 0 false bO bO 0 (aH.mk 0 0 bO) ([]:List aA) ([]:List aF)),y1.1,y1.2)))
def aEt (F:bD) (H:F.Ok):HE (Ve F):=fun x1 m0 r h=>by
 refine gS fun s b0 pp hpp=>?_;unfold Ve at h;refine gN func42 ntmps42 ?_;refine bG (ai (@aH.aC)<|@aA.aC) ?_;refine fK (ai (@aH.aC)<|@aA.aC) hpp (H.p209_1 m0) h fun y1 _ h=>?_;apply aB.block;refine lp h (fun q6=>eH pp [(0,.ptr b0 0),(1,aM x1),(2,.func 209 [.ptr b0 0] []),(6,.loc 6 0),(7,.loc 7 0)] [(6,(eV q6.1,29)),(7,(eV q6.2.1,29))] (s.aU b0 (rB q6.2.2)) 35) ?_ ?_
 ·exact cV (ai @aH.aC<|@aA.aC)
 ·rintro u7 ⟨b3,b4,w5⟩ h;(try dsimp only at h ⊢);apply aB.block;refine dN (ai (@aH.aC)<|@aA.aC) (Fi x1 w5) h fun y8 _ h=>?_;apply aB.seq;refine bG (ai (@aH.aC)<|@aA.aC) ?_;refine wz h (fun h=>?_) fun h=>?_
  ·refine bG (ai (@aH.aC)<|@aA.aC) ?_;cases h;exact aB.ret (iN (ai @aH.aC<|@aA.aC) [.cell 6 29])
  ·apply sK;refine bG (ai (@aH.aC)<|ai (@aA.aC)<|@aD.aC) ?_;refine hL (s':=(s.aU b0 ([.slice 3 (y8.2.2.l.map aP.v),aI (i64.wrap (y8.2.2.at_+y8.2.1)),aI y8.2.2.params],93))) ?_;refine lM [0,1,2,3,4,5,6] [100030] fun Z11 hZ11=>?_;refine sG (ai @aH.aC<|ai @aA.aC<|@aD.aC) ?_;refine oZ hpp (H.p209_1 (aD.mk y8.2.2.l (i64.wrap (y8.2.2.at_+y8.2.1)) y8.2.2.params)) h fun y12 _ h=>?_;refine sG (ai @aH.aC<|ai @aA.aC<|@aD.aC) ?_;refine hZ11 _ ?_;clear hZ11 Z11;exact⟨(b3,(aA.mk y8.1 false bO bO 0 (aH.mk 0 0 bO) ([b4,y12.1]) ([]:List aF)),y12.2),h,cV (ai @aH.aC<|ai @aA.aC<|@aD.aC)⟩
def Vd (F:bD) (x1:ByteArray) (m0:aD):RX aA:=(bK (F.p215_1 m0) (fun q2=>(q2.1,q2.2)) fun y1=>(cF (fun u7 (q6:aA×aA×aD)=>(call (vM x1 q6.2.2) fun y8=>(aE (y8.2.1==0) (some (PX.ok (q6.2.1,y8.2.2))) (bK (F.p215_1 (aD.mk y8.2.2.l (i64.wrap (y8.2.2.at_+y8.2.1)) y8.2.2.params)) (fun q13=>(q13.1,q13.2)) fun y12=>(u7 (q6.1,(aA.mk y8.1 false bO bO 0 (aH.mk 0 0 bO) ([q6.2.1,y12.1]) ([]:List aF)),y12.2)))))) bQ ((aA.mk 0 false bO bO 0 (aH.mk 0 0 bO) ([]:List aA) ([]:List aF)),y1.1,y1.2)))
def aEs (F:bD) (H:F.Ok):HD (Vd F):=fun x1 m0 r h=>by
 refine gS fun s b0 pp hpp=>?_;unfold Vd at h;refine gN func42 ntmps42 ?_;refine bG (ai (@aH.aC)<|@aA.aC) ?_;refine fK (ai (@aH.aC)<|@aA.aC) hpp (H.p215_1 m0) h fun y1 _ h=>?_;apply aB.block;refine lp h (fun q6=>eH pp [(0,.ptr b0 0),(1,aM x1),(2,.func 215 [.ptr b0 0] []),(6,.loc 6 0),(7,.loc 7 0)] [(6,(eV q6.1,29)),(7,(eV q6.2.1,29))] (s.aU b0 (rB q6.2.2)) 35) ?_ ?_
 ·exact cV (ai @aH.aC<|@aA.aC)
 ·rintro u7 ⟨b3,b4,w5⟩ h;(try dsimp only at h ⊢);apply aB.block;refine dN (ai (@aH.aC)<|@aA.aC) (Fi x1 w5) h fun y8 _ h=>?_;apply aB.seq;refine bG (ai (@aH.aC)<|@aA.aC) ?_;refine wz h (fun h=>?_) fun h=>?_
  ·refine bG (ai (@aH.aC)<|@aA.aC) ?_;cases h;exact aB.ret (iN (ai @aH.aC<|@aA.aC) [.cell 6 29])
  ·apply sK;refine bG (ai (@aH.aC)<|ai (@aA.aC)<|@aD.aC) ?_;refine hL (s':=(s.aU b0 ([.slice 3 (y8.2.2.l.map aP.v),aI (i64.wrap (y8.2.2.at_+y8.2.1)),aI y8.2.2.params],93))) ?_;refine lM [0,1,2,3,4,5,6] [100030] fun Z11 hZ11=>?_;refine sG (ai @aH.aC<|ai @aA.aC<|@aD.aC) ?_;refine oZ hpp (H.p215_1 (aD.mk y8.2.2.l (i64.wrap (y8.2.2.at_+y8.2.1)) y8.2.2.params)) h fun y12 _ h=>?_;refine sG (ai @aH.aC<|ai @aA.aC<|@aD.aC) ?_;refine hZ11 _ ?_;clear hZ11 Z11;exact⟨(b3,(aA.mk y8.1 false bO bO 0 (aH.mk 0 0 bO) ([b4,y12.1]) ([]:List aF)),y12.2),h,cV (ai @aH.aC<|ai @aA.aC<|@aD.aC)⟩
def Vc (F:bD) (m0:aD):RX aA:=(bK (F.p42_3 (bm #[97,110,100]) m0) (fun q2=>(q2.1,q2.2)) fun y1=>(some (PX.ok (y1.1,y1.2))))
def aEr (F:bD) (H:F.Ok):HC (Vc F):=fun m0 r h=>by
 refine gS fun s b0 pp hpp=>?_;unfold Vc at h;refine gN func43 ntmps43 ?_;refine rg ?_;refine Dm hpp (H.p42_3 (bm #[97,110,100]) m0) h fun y1 _ h=>?_;cases h;exact aB.ret (pX [.cell 2 29])
def Ka (F:bD) (m0:aD):RX aF:=(bK (F.p91_1 m0) (fun q3=>(q3.1,q3.2)) fun y2=>(cF (fun u11 (q10:aF×aD)=>(call (xE q10.2) fun y13=>(aE (!y13.2.1) (join (fun u20=>(call (cE (bm #[79,82,68,69,82]) y13.2.2) fun y22=>(aE y22.1 (bK (fE (bm #[66,89]) y22.2) (fun q25=>(q25.1,q25.2)) fun y24=>(bK (F.p94_1 y24) (fun q27=>(q27.1,q27.2)) fun y26=>(u20 ((aF.mk q10.1.with_ q10.1.parts y26.1 q10.1.limit q10.1.offset),y26.2)))) (u20 (q10.1,y22.2))))) (fun(q19:aF×aD)=>(join (fun u32=>(call (cE (bm #[76,73,77,73,84]) q19.2) fun y34=>(aE y34.1 (bK (F.p15_1 y34.2) (fun q37=>(q37.1,q37.2)) fun y36=>(call (cE (bm #[79,70,70,83,69,84]) y36.2) fun y38=>(aE y38.1 (bK (F.p15_1 y38.2) (fun q41=>(q41.1,q41.2)) fun y40=>(u32 ((aF.mk q19.1.with_ q19.1.parts q19.1.order ([y36.1]) ([y40.1])),y40.2))) (u32 ((aF.mk q19.1.with_ q19.1.parts q19.1.order ([y36.1]) q19.1.offset),y38.2))))) (u32 (q19.1,y34.2))))) (fun(q31:aF×aD)=>(some (PX.ok (q31.1,q31.2))))))) (bK (F.p91_1 y13.2.2) (fun q43=>(q43.1,q43.2)) fun y42=>(aR ((q10.1.parts.length+1)*160<=140737488355328) (u11 ((aF.mk q10.1.with_ (q10.1.parts++([(aK.mk y13.1 y42.1.distinct y42.1.items y42.1.from_ y42.1.where_ y42.1.group y42.1.having y42.1.values)])) q10.1.order q10.1.limit q10.1.offset),y42.2))))))) bQ ((aF.mk ([]:List bE) ([y2.1]) ([]:List aX) ([]:List aA) ([]:List aA)),y2.2)))
def aEq (F:bD) (H:F.Ok):HB (Ka F):=fun m0 r h=>by
 refine gS fun s b0 pp hpp=>?_;unfold Ka at h;refine gN func50 ntmps50 ?_;refine bG (@aF.aC) ?_;refine aB.xR 2 rfl (by decide+kernel) fun Z1 hZ1=>?_;(try simp only[aF.aC,aK.aC,xs,xa,Nat.reduceAdd,seval,reduceCtorEq]);refine oZ hpp (H.p91_1 m0) h fun y2 _ h=>?_;(try simp only[aF.aC,aK.aC,qO,qN,qM,xs,xa,Nat.reduceAdd,seval,reduceCtorEq]);refine⟨by simp only[gA,am,seval,reduceCtorEq],_,zY rfl Vv rfl Vq (by decide) (by decide) (by first|rfl|(simp only[aF.aC,aK.aC,Vv,Ph,Vq,yC,aK.snoc,aK.lE,aK.eta,Bh,Bi,dJ,cU,fI,ne_eq,eJ,am,seval,reduceCtorEq]<;>rfl)) (by simp only[am,seval,reduceCtorEq]),?_⟩;rintro _ ⟨g4,hg4,rfl⟩;change (s).own g4=none at hg4;have fr5:Fr s (List.map Prod.fst [(g4,(75,8))]):=Fr.snoc (l:=[]) (Fr.nil s) hg4;(try simp only[sE,sD,oY,aF.aC,aK.aC,xs,xa,Nat.reduceAdd,seval,reduceCtorEq]);refine hZ1 _ ?_;clear hZ1 Z1;apply aB.seq;apply aB.block;refine aB.pA (X:=aF×aD) (G:=Nat) h (fun gq12=>Fr s (List.map Prod.fst [(gq12,(75,8))])) (fun q10 gq12=>eH pp [(0,.ptr b0 0),(2,.loc 2 0),(3,.loc 3 0)] [(2,([.nil,.nil,.nil,.nil,.nil],42)),(3,([.slice 3 (q10.1.with_.map bE.v),.own gq12 8 (q10.1.parts.map aK.v),.slice 11 (q10.1.order.map aX.v),.slice 10 (q10.1.limit.map aA.v),.slice 10 (q10.1.offset.map aA.v)],42))] ((cJ s [(gq12,(75,8))]).aU b0 (rB q10.2)) 50) ?_ ?_
 ·exact⟨g4,fr5,cV (ai @aF.aC<|@aK.aC)⟩
 ·rintro u11 ⟨b7,w9⟩ h g8 hg8f;(try dsimp only at h ⊢);apply aB.block;refine dN (ai (@aF.aC)<|@aK.aC) (aE6 w9) h fun y13 _ h=>?_;apply aB.seq;refine bG (ai (@aF.aC)<|@aK.aC) ?_;refine wz h (fun h=>?_) fun h=>?_
  ·apply aB.exit;simp only[dR,seval];refine aB.uT (X:=aF×aD) (G:=Nat) h (fun gq21=>Fr s (List.map Prod.fst [(gq21,(75,8))])) (fun q19 gq21=>eH pp [(0,.ptr b0 0),(2,.loc 2 0),(3,.loc 3 0)] [(2,([.nil,.nil,.nil,.nil,.nil],42)),(3,([.slice 3 (q19.1.with_.map bE.v),.slice 8 (q19.1.parts.map aK.v),.slice 11 (q19.1.order.map aX.v),.slice 10 (q19.1.limit.map aA.v),.slice 10 (q19.1.offset.map aA.v)],42))] ((cJ s [(gq21,(75,8))]).aU b0 (rB q19.2)) 50) (fun u20 h=>?_) ?_
   ·refine dN (ai (@aF.aC)<|@aK.aC) (iL (bm #[79,82,68,69,82]) y13.2.2) h fun y22 _ h=>?_;refine wz h (fun h=>?_) fun h=>?_
    ·refine yW (Fr.drop (l:=[(g8,(75,8))]) hg8f) (ai (@aF.aC)<|@aK.aC) hpp (tA (bm #[66,89]) y22.2) h fun y24 _ h=>?_;refine Fb (Fr.drop (l:=[(g8,(75,8))]) hg8f) (ai (@aF.aC)<|@aK.aC) hpp (H.p94_1 y24) h fun y26 _ h=>?_;exact⟨((aF.mk b7.with_ b7.parts y26.1 b7.limit b7.offset),y26.2),h,g8,hg8f,cV (ai @aF.aC<|@aK.aC)⟩
    ·apply sK;exact⟨(b7,y22.2),h,g8,hg8f,cV (ai @aF.aC<|@aK.aC)⟩
   ·rintro⟨sI,w17⟩ h g18 hg18f;(try dsimp only at h ⊢);refine aB.uT (X:=aF×aD) (G:=Nat) h (fun gq33=>Fr s (List.map Prod.fst [(gq33,(75,8))])) (fun q31 gq33=>eH pp [(2,.loc 2 0),(3,.loc 3 0)] [(2,([.nil,.nil,.nil,.nil,.nil],42)),(3,([.slice 3 (q31.1.with_.map bE.v),.slice 8 (q31.1.parts.map aK.v),.slice 11 (q31.1.order.map aX.v),.slice 10 (q31.1.limit.map aA.v),.slice 10 (q31.1.offset.map aA.v)],42))] ((cJ s [(gq33,(75,8))]).aU b0 (rB q31.2)) 50) (fun u32 h=>?_) ?_
    ·refine dN (ai (@aF.aC)<|@aK.aC) (iL (bm #[76,73,77,73,84]) w17) h fun y34 _ h=>?_;refine wz h (fun h=>?_) fun h=>?_
     ·refine yW (Fr.drop (l:=[(g18,(75,8))]) hg18f) (ai (@aF.aC)<|@aK.aC) hpp (H.p15_1 y34.2) h fun y36 _ h=>?_;refine dN (ai (@aF.aC)<|@aK.aC) (iL (bm #[79,70,70,83,69,84]) y36.2) h fun y38 _ h=>?_;refine wz h (fun h=>?_) fun h=>?_
      ·refine Fb (Fr.drop (l:=[(g18,(75,8))]) hg18f) (ai (@aF.aC)<|@aK.aC) hpp (H.p15_1 y38.2) h fun y40 _ h=>?_;exact⟨((aF.mk sI.with_ sI.parts sI.order ([y36.1]) ([y40.1])),y40.2),h,g18,hg18f,cV (ai @aF.aC<|@aK.aC)⟩
      ·apply sK;exact⟨((aF.mk sI.with_ sI.parts sI.order ([y36.1]) sI.offset),y38.2),h,g18,hg18f,cV (ai @aF.aC<|@aK.aC)⟩
     ·apply sK;exact⟨(sI,y34.2),h,g18,hg18f,cV (ai @aF.aC<|@aK.aC)⟩
    ·rintro⟨Gp,w29⟩ h g30 hg30f;(try dsimp only at h ⊢);refine bG (ai (@aF.aC)<|@aK.aC) ?_;cases h;exact aB.ret (Oq (ai @aF.aC<|@aK.aC) (Fr.drop (l:=[(g30,(75,8))]) hg30f) [.cell 2 42])
  ·apply sK;refine yW (Fr.drop (l:=[(g8,(75,8))]) hg8f) (ai (@aF.aC)<|@aK.aC) hpp (H.p91_1 y13.2.2) h fun y42 _ h=>?_;refine bG (ai (@aF.aC)<|@aK.aC) ?_;refine aB.fW fun Z44 hZ44=>?_;obtain⟨hn45,h⟩:=aV h;(try simp only[aF.aC,aK.aC,xs,xa,Nat.reduceAdd,seval,reduceCtorEq])
   first|refine mL hg8f hn45 fun g46 hg46=>?_|refine mM hg8f hn45 fun g46 hg46=>?_
   have fr47:Fr s (List.map Prod.fst [(g46,(75,8))]):=Fr.rep (a:=[]) (b:=[]) hg8f hg46;(try simp only[aF.aC,aK.aC,xs,xa,Nat.reduceAdd,seval,reduceCtorEq]);refine hZ44 _ ?_;clear hZ44 Z44;refine⟨((aF.mk b7.with_ (b7.parts++([(aK.mk y13.1 y42.1.distinct y42.1.items y42.1.from_ y42.1.where_ y42.1.group y42.1.having y42.1.values)])) b7.order b7.limit b7.offset),y42.2),h,g46,fr47,?_⟩;refine xM (s':=((cJ s [(g46,(75,8))]).aU b0 (rB y42.2))) (iI (o:=(Fr.mN (a:=[]) (b:=[]) hg8f hg46:aL.le _ _).own)) ?_;exact cV (ai @aF.aC<|@aK.aC)
def yX (F:bD) (m0:aD):RX aA:=(join (fun u5=>(call (pC 0 m0) fun y6=>(aE (y6.1.data.toList==(bm #[78,79,84]).data.toList) (call (pC 1 y6.2) fun y8=>(u5 ((y8.1.data.toList==(bm #[69,88,73,83,84,83]).data.toList),y8.2))) (u5 (false,y6.2))))) (fun(q4:Bool×aD)=>(aE q4.1 (bK (F.p118_1 (aD.mk q4.2.l (i64.wrap (q4.2.at_+1)) q4.2.params)) (fun q11=>(q11.1,q11.2)) fun y10=>(some (PX.ok ((aA.mk y10.1.op true y10.1.table y10.1.name y10.1.n y10.1.v_ y10.1.args y10.1.sub),y10.2)))) (call (cE (bm #[78,79,84]) q4.2) fun y12=>(aE y12.1 (bK (F.p79_1 y12.2) (fun q15=>(q15.1,q15.2)) fun y14=>(some (PX.ok ((aA.mk 6 false bO bO 0 (aH.mk 0 0 bO) ([y14.1]) ([]:List aF)),y14.2)))) (bK (F.p119_1 y12.2) (fun q17=>(q17.1,q17.2)) fun y16=>(some (PX.ok (y16.1,y16.2)))))))))
def aEj (F:bD) (H:F.Ok):GU (yX F):=fun m0 r h=>by
 refine gS fun s b0 pp hpp=>?_;unfold yX at h;refine gN func79 ntmps79 ?_;refine bG (ai (@aH.aC)<|@aA.aC) ?_;apply aB.seq;apply aB.block;refine jn h (fun q4=>eH pp [(0,.ptr b0 0),(2,.loc 2 0),(4,aY q4.1)] [(2,([aI 0,aY false,aM bO,aM bO,aI 0,aI 0,aI 0,aM bO,.nil,.nil],29))] (s.aU b0 (rB q4.2)) 33) (fun u5 h=>?_) ?_
 ·obtain⟨y6,hy6,h⟩:=cC h;refine wy h (fun hg7 h=>?_) fun hg7 h=>?_
  ·refine rC (ai (@aH.aC)<|ai (@aA.aC)<|hg7) (tB 0 m0 _ hy6) (tB 1 y6.2) h fun y8 _ h=>?_;exact⟨((y8.1.data.toList==(bm #[69,88,73,83,84,83]).data.toList),y8.2),h,cV (ai @aH.aC<|ai @aA.aC<|hg7)⟩
  ·refine kO (ai (@aH.aC)<|ai (@aA.aC)<|hg7) (tB 0 m0 _ hy6) ?_;exact⟨(false,y6.2),h,cV (ai @aH.aC<|ai @aA.aC<|hg7)⟩
 ·rintro⟨v2,w3⟩ h;(try dsimp only at h ⊢);refine wz h (fun h=>?_) fun h=>?_
  ·refine bG (ai (@aH.aC)<|ai (@aA.aC)<|@aD.aC) ?_;refine hL (s':=(s.aU b0 ([.slice 3 (w3.l.map aP.v),aI (i64.wrap (w3.at_+1)),aI w3.params],93))) ?_;refine fK (ai (@aH.aC)<|ai (@aA.aC)<|@aD.aC) hpp (H.p118_1 (aD.mk w3.l (i64.wrap (w3.at_+1)) w3.params)) h fun y10 _ h=>?_;refine bG (ai (@aH.aC)<|ai (@aA.aC)<|@aD.aC) ?_;refine bG (ai (@aH.aC)<|ai (@aA.aC)<|@aD.aC) ?_;cases h;exact aB.ret (iN (ai @aH.aC<|ai @aA.aC<|@aD.aC) [.cell 2 29])
  ·refine dN (ai (@aH.aC)<|ai (@aA.aC)<|@aD.aC) (iL (bm #[78,79,84]) w3) h fun y12 _ h=>?_;refine wz h (fun h=>?_) fun h=>?_
   ·refine fK (ai (@aH.aC)<|ai (@aA.aC)<|@aD.aC) hpp (H.p79_1 y12.2) h fun y14 _ h=>?_;cases h;exact aB.ret (iN (ai @aH.aC<|ai @aA.aC<|@aD.aC) [.cell 2 29])
   ·apply sK;refine fK (ai (@aH.aC)<|ai (@aA.aC)<|@aD.aC) hpp (H.p119_1 y12.2) h fun y16 _ h=>?_;cases h;exact aB.ret (iN (ai @aH.aC<|ai @aA.aC<|@aD.aC) [.cell 2 29])
def Ap (F:bD) (m0:aD):Option (PX (Int×aD) (aK×aD)):=(call (cE (bm #[86,65,76,85,69,83]) m0) fun y2=>(aE y2.1 (bK (Cl F y2.2) (fun q4=>(q4.1,q4.2)) fun y4=>(some (PX.ok (y4.1,y4.2)))) (bK (fE (bm #[83,69,76,69,67,84]) y2.2) (fun q6=>(q6.1,q6.2)) fun y5=>(call (cE (bm #[68,73,83,84,73,78,67,84]) y5) fun y7=>(join (fun u10=>(aE (!y7.1) (call (cE (bm #[65,76,76]) y7.2) fun y12=>(u10 y12.2)) (u10 y7.2))) (fun(q9:aD)=>(bK (F.p132_1 q9) (fun q14=>(q14.1,q14.2)) fun y13=>(join (fun u18=>(call (cE (bm #[70,82,79,77]) y13.2) fun y19=>(aE y19.1 (bK (F.p134_1 y19.2) (fun q22=>(q22.1,q22.2)) fun y21=>(u18 ((aK.mk 0 y7.1 y13.1 y21.1 ([]:List aA) ([]:List aA) ([]:List aA) ([]:List (List aA))),y21.2))) (u18 ((aK.mk 0 y7.1 y13.1 ([]:List aO) ([]:List aA) ([]:List aA) ([]:List aA) ([]:List (List aA))),y19.2))))) (fun(q17:aK×aD)=>(join (fun u26=>(call (cE (bm #[87,72,69,82,69]) q17.2) fun y27=>(aE y27.1 (bK (F.p15_1 y27.2) (fun q30=>(q30.1,q30.2)) fun y29=>(u26 ((aK.mk q17.1.comp q17.1.distinct q17.1.items q17.1.from_ ([y29.1]) q17.1.group q17.1.having q17.1.values),y29.2))) (u26 (q17.1,y27.2))))) (fun(q25:aK×aD)=>(join (fun u34=>(call (cE (bm #[71,82,79,85,80]) q25.2) fun y35=>(aE y35.1 (bK (fE (bm #[66,89]) y35.2) (fun q38=>(q38.1,q38.2)) fun y37=>(bK (F.p135_1 y37) (fun q40=>(q40.1,q40.2)) fun y39=>(call (cE (bm #[72,65,86,73,78,71]) y39.2) fun y41=>(aE y41.1 (bK (F.p15_1 y41.2) (fun q44=>(q44.1,q44.2)) fun y43=>(u34 ((aK.mk q25.1.comp q25.1.distinct q25.1.items q25.1.from_ q25.1.where_ y39.1 ([y43.1]) q25.1.values),y43.2))) (u34 ((aK.mk q25.1.comp q25.1.distinct q25.1.items q25.1.from_ q25.1.where_ y39.1 q25.1.having q25.1.values),y41.2)))))) (u34 (q25.1,y35.2))))) (fun(q33:aK×aD)=>(some (PX.ok (q33.1,q33.2))))))))))))))))
def aEi (F:bD) (H:F.Ok):GT (Ap F):=fun m0 r h=>by
 refine gS fun s b0 pp hpp=>?_;unfold Ap at h;refine gN func91 ntmps91 ?_;refine bG (@aK.aC) ?_;refine bG (@aK.aC) ?_;apply aB.seq;refine dN (@aK.aC) (iL (bm #[86,65,76,85,69,83]) m0) h fun y2 _ h=>?_;refine wz h (fun h=>?_) fun h=>?_
 ·refine fK (@aK.aC) hpp (aBw F H y2.2) h fun y4 _ h=>?_;cases h;exact aB.ret (iN @aK.aC [.cell 2 75])
 ·apply sK;refine fK (@aK.aC) hpp (tA (bm #[83,69,76,69,67,84]) y2.2) h fun y5 _ h=>?_;refine dN (@aK.aC) (iL (bm #[68,73,83,84,73,78,67,84]) y5) h fun y7 _ h=>?_;refine jn h (fun q9=>eH pp [(0,.ptr b0 0),(2,.loc 2 0),(3,.loc 3 0)] [(2,([aI 0,aY false,.nil,.nil,.nil,.nil,.nil,.nil],75)),(3,([aI 0,aY y7.1,.nil,.nil,.nil,.nil,.nil,.nil],75))] (s.aU b0 (rB q9)) 50) (fun u10 h=>?_) ?_
  ·refine bG (@aK.aC) ?_;refine wz h (fun h=>?_) fun h=>?_
   ·refine iA (@aK.aC) (iL (bm #[65,76,76]) y7.2) h fun y12 _ h=>?_;exact⟨y12.2,h,cV @aK.aC⟩
   ·apply sK;exact⟨y7.2,h,cV @aK.aC⟩
  ·rintro w8 h;refine fK (@aK.aC) hpp (H.p132_1 w8) h fun y13 _ h=>?_;refine jn h (fun q17=>eH pp [(0,.ptr b0 0),(2,.loc 2 0),(3,.loc 3 0)] [(2,([aI 0,aY false,.nil,.nil,.nil,.nil,.nil,.nil],75)),(3,([aI q17.1.comp,aY q17.1.distinct,.slice 4 (q17.1.items.map bA.v),.slice 5 (q17.1.from_.map aO.v),.slice 10 (q17.1.where_.map aA.v),.slice 10 (q17.1.group.map aA.v),.slice 10 (q17.1.having.map aA.v),.slice 1 (List.map (fun x=>[V.slice 10 (x.map aA.v)]) q17.1.values)],75))] (s.aU b0 (rB q17.2)) 50) (fun u18 h=>?_) ?_
   ·refine dN (@aK.aC) (iL (bm #[70,82,79,77]) y13.2) h fun y19 _ h=>?_;refine wz h (fun h=>?_) fun h=>?_
    ·refine tH (@aK.aC) hpp (H.p134_1 y19.2) h fun y21 _ h=>?_;exact⟨((aK.mk 0 y7.1 y13.1 y21.1 ([]:List aA) ([]:List aA) ([]:List aA) ([]:List (List aA))),y21.2),h,cV @aK.aC⟩
    ·apply sK;exact⟨((aK.mk 0 y7.1 y13.1 ([]:List aO) ([]:List aA) ([]:List aA) ([]:List aA) ([]:List (List aA))),y19.2),h,cV @aK.aC⟩
   ·rintro⟨b15,w16⟩ h;(try dsimp only at h ⊢);refine jn h (fun q25=>eH pp [(0,.ptr b0 0),(2,.loc 2 0),(3,.loc 3 0)] [(2,([aI 0,aY false,.nil,.nil,.nil,.nil,.nil,.nil],75)),(3,([aI q25.1.comp,aY q25.1.distinct,.slice 4 (q25.1.items.map bA.v),.slice 5 (q25.1.from_.map aO.v),.slice 10 (q25.1.where_.map aA.v),.slice 10 (q25.1.group.map aA.v),.slice 10 (q25.1.having.map aA.v),.slice 1 (List.map (fun x=>[V.slice 10 (x.map aA.v)]) q25.1.values)],75))] (s.aU b0 (rB q25.2)) 50) (fun u26 h=>?_) ?_
    ·refine dN (@aK.aC) (iL (bm #[87,72,69,82,69]) w16) h fun y27 _ h=>?_;refine wz h (fun h=>?_) fun h=>?_
     ·refine tH (@aK.aC) hpp (H.p15_1 y27.2) h fun y29 _ h=>?_;exact⟨((aK.mk b15.comp b15.distinct b15.items b15.from_ ([y29.1]) b15.group b15.having b15.values),y29.2),h,cV @aK.aC⟩
     ·apply sK;exact⟨(b15,y27.2),h,cV @aK.aC⟩
    ·rintro⟨oN,w24⟩ h;(try dsimp only at h ⊢);refine jn h (fun q33=>eH pp [(2,.loc 2 0),(3,.loc 3 0)] [(2,([aI 0,aY false,.nil,.nil,.nil,.nil,.nil,.nil],75)),(3,([aI q33.1.comp,aY q33.1.distinct,.slice 4 (q33.1.items.map bA.v),.slice 5 (q33.1.from_.map aO.v),.slice 10 (q33.1.where_.map aA.v),.slice 10 (q33.1.group.map aA.v),.slice 10 (q33.1.having.map aA.v),.slice 1 (List.map (fun x=>[V.slice 10 (x.map aA.v)]) q33.1.values)],75))] (s.aU b0 (rB q33.2)) 50) (fun u34 h=>?_) ?_
     ·refine dN (@aK.aC) (iL (bm #[71,82,79,85,80]) w24) h fun y35 _ h=>?_;refine wz h (fun h=>?_) fun h=>?_
      ·refine fK (@aK.aC) hpp (tA (bm #[66,89]) y35.2) h fun y37 _ h=>?_;refine fK (@aK.aC) hpp (H.p135_1 y37) h fun y39 _ h=>?_;refine dN (@aK.aC) (iL (bm #[72,65,86,73,78,71]) y39.2) h fun y41 _ h=>?_;refine wz h (fun h=>?_) fun h=>?_
       ·refine tH (@aK.aC) hpp (H.p15_1 y41.2) h fun y43 _ h=>?_;exact⟨((aK.mk oN.comp oN.distinct oN.items oN.from_ oN.where_ y39.1 ([y43.1]) oN.values),y43.2),h,cV @aK.aC⟩
       ·apply sK;exact⟨((aK.mk oN.comp oN.distinct oN.items oN.from_ oN.where_ y39.1 oN.having oN.values),y41.2),h,cV @aK.aC⟩
      ·apply sK;exact⟨(oN,y35.2),h,cV @aK.aC⟩
     ·rintro⟨Gn,w32⟩ h;(try dsimp only at h ⊢);refine bG (@aK.aC) ?_;cases h;exact aB.ret (iN @aK.aC [.cell 2 75])
def Jt (F:bD) (m0:aD):Option (PX (Int×aD) ((List aX)×aD)):=(bK (F.p95_1 m0) (fun q3=>(q3.1,q3.2)) fun y2=>(cF (fun u11 (q10:(List aX)×aD)=>(call (eR (bm #[44]) q10.2) fun y14=>(aE y14.1 (bK (F.p95_1 y14.2) (fun q18=>(q18.1,q18.2)) fun y17=>(aR ((q10.1.length+1)*144<=140737488355328) (u11 ((q10.1++([y17.1])),y17.2)))) (some (PX.ok (q10.1,y14.2)))))) bQ ([y2.1],y2.2)))
def aEh (F:bD) (H:F.Ok):GS (Jt F):=fun m0 r h=>by
 refine gS fun s b0 pp hpp=>?_;unfold Jt at h;refine gN func94 ntmps94 ?_;refine rg ?_;refine aB.xR 2 rfl (by decide+kernel) fun Z1 hZ1=>?_;refine sy ?_;refine oZ hpp (H.p95_1 m0) h fun y2 _ h=>?_;(try simp only[qO,qN,qM,xs,xa,Nat.reduceAdd,seval,reduceCtorEq]);refine⟨by simp only[gA,am,seval,reduceCtorEq],_,zY rfl Vu rfl Vp (by decide) (by decide) (by first|rfl|(simp only[aX.vs,Vu,Vp,yC,aX.snoc,aX.lE,aX.eta,Bh,Bi,dJ,cU,fI,ne_eq,eJ,am,seval,reduceCtorEq]<;>rfl)) (by simp only[am,seval,reduceCtorEq]),?_⟩;rintro _ ⟨g4,hg4,rfl⟩;change (s).own g4=none at hg4;have fr5:Fr s (List.map Prod.fst [(g4,(79,11))]):=Fr.snoc (l:=[]) (Fr.nil s) hg4;(try simp only[sE,sD,oY,xs,xa,Nat.reduceAdd,seval,reduceCtorEq]);refine hZ1 _ ?_;clear hZ1 Z1;apply aB.seq;apply aB.block;refine aB.pA (X:=(List aX)×aD) (G:=Nat) h (fun gq12=>Fr s (List.map Prod.fst [(gq12,(79,11))])) (fun q10 gq12=>eH pp [(0,.ptr b0 0),(1,.func 95 [.ptr b0 0] []),(5,.own gq12 11 (q10.1.map aX.v))] [] ((cJ s [(gq12,(79,11))]).aU b0 (rB q10.2)) 17) ?_ ?_
 ·exact⟨g4,fr5,lQ⟩
 ·rintro u11 ⟨v7,w9⟩ h g8 hg8f;(try dsimp only at h ⊢);apply aB.seq;refine dH (sZ (bm #[44]) w9) h fun y14 _ h=>?_;refine wz h (fun h=>?_) fun h=>?_
  ·apply sK;apply aB.block;refine aB.fW fun Z16 hZ16=>?_;refine sy ?_;refine tL (Fr.drop (l:=[(g8,(79,11))]) hg8f) hpp (H.p95_1 y14.2) h fun y17 _ h=>?_;obtain⟨hn19,h⟩:=aV h;refine sy ?_
   first|refine mL hg8f hn19 fun g20 hg20=>?_|refine mM hg8f hn19 fun g20 hg20=>?_
   have fr21:Fr s (List.map Prod.fst [(g20,(79,11))]):=Fr.rep (a:=[]) (b:=[]) hg8f hg20;refine sy ?_;refine hZ16 _ ?_;clear hZ16 Z16;refine⟨((v7++([y17.1])),y17.2),h,g20,fr21,?_⟩;refine xM (s':=((cJ s [(g20,(79,11))]).aU b0 (rB y17.2))) (iI (o:=(Fr.mN (a:=[]) (b:=[]) hg8f hg20:aL.le _ _).own)) ?_;exact lQ
  ·apply aB.exit;simp only[dR,seval];refine rg ?_;cases h;exact aB.ret (Wd (Fr.drop (l:=[(g8,(79,11))]) hg8f) [.tmp 4])
def Cs (F:bD) (m0:aD):Option (PX (Int×aD) (aX×aD)):=(bK (F.p15_1 m0) (fun q2=>(q2.1,q2.2)) fun y1=>(join (fun u6=>(call (cE (bm #[65,83,67]) y1.2) fun y7=>(aE (!y7.1) (call (cE (bm #[68,69,83,67]) y7.2) fun y9=>(u6 ((aX.mk y1.1 y9.1),y9.2))) (u6 ((aX.mk y1.1 false),y7.2))))) (fun(q5:aX×aD)=>(some (PX.ok (q5.1,q5.2))))))
def aEg (F:bD) (H:F.Ok):GR (Cs F):=fun m0 r h=>by
 refine gS fun s b0 pp hpp=>?_;unfold Cs at h;refine gN func95 ntmps95 ?_;refine bG (ai (@aH.aC)<|ai (@aA.aC)<|@aX.aC) ?_;refine fK (ai (@aH.aC)<|ai (@aA.aC)<|@aX.aC) hpp (H.p15_1 m0) h fun y1 _ h=>?_;refine jn h (fun q5=>eH pp [(2,.loc 2 0),(3,.loc 3 0)] [(2,([aI 0,aY false,aM bO,aM bO,aI 0,aI 0,aI 0,aM bO,.nil,.nil,aY false],79)),(3,([aI q5.1.expr.op,aY q5.1.expr.not,aM q5.1.expr.table,aM q5.1.expr.name,aI q5.1.expr.n,aI q5.1.expr.v_.kind,aI q5.1.expr.v_.int,aM q5.1.expr.v_.text,.slice 10 (q5.1.expr.args.map aA.v),.slice 5 (q5.1.expr.sub.map aF.v),aY q5.1.desc_],79))] (s.aU b0 (rB q5.2)) 14) (fun u6 h=>?_) ?_
 ·refine dN (ai (@aH.aC)<|ai (@aA.aC)<|@aX.aC) (iL (bm #[65,83,67]) y1.2) h fun y7 _ h=>?_;refine wz h (fun h=>?_) fun h=>?_
  ·refine iA (ai (@aH.aC)<|ai (@aA.aC)<|@aX.aC) (iL (bm #[68,69,83,67]) y7.2) h fun y9 _ h=>?_;exact⟨((aX.mk y1.1 y9.1),y9.2),h,cV (ai @aH.aC<|ai @aA.aC<|@aX.aC)⟩
  ·apply sK;exact⟨((aX.mk y1.1 false),y7.2),h,cV (ai @aH.aC<|ai @aA.aC<|@aX.aC)⟩
 ·rintro⟨b3,w4⟩ h;(try dsimp only at h ⊢);refine bG (ai (@aH.aC)<|ai (@aA.aC)<|@aX.aC) ?_;cases h;exact aB.ret (iN (ai @aH.aC<|ai @aA.aC<|@aX.aC) [.cell 2 79])
def bD.fix:Nat->bD
 |0=>⟨fun _=>none,fun _=>none,fun _=>none,fun _=>none,fun _=>none,fun _=>none,fun _=>none,fun _=>none,fun _ _ _ _=>none,fun _ _ _=>none,fun _=>none,fun _=>none,fun _=>none,fun _=>none,fun _=>none,fun _=>none,fun _=>none,fun _=>none,fun _ _=>none,fun _ _=>none,fun _ _=>none,fun _ _=>none,fun _ _=>none,fun _ _=>none,fun _ _=>none,fun _=>none,fun _=>none,fun _=>none,fun _=>none,fun _=>none,fun _=>none⟩
 |n+1=>⟨Jh (bD.fix n),Ew (bD.fix n),Jg (bD.fix n),yV (bD.fix n),Jf (bD.fix n),Je (bD.fix n),Vj (bD.fix n),Ty (bD.fix n),Jd (bD.fix n),yU (bD.fix n),Ck (bD.fix n),Tx (bD.fix n),Tw (bD.fix n),Tv (bD.fix n),vJ (bD.fix n),mX (bD.fix n),yT (bD.fix n),Jc (bD.fix n),vI (bD.fix n),Vi (bD.fix n),Vh (bD.fix n),Vg (bD.fix n),Vf (bD.fix n),Ve (bD.fix n),Vd (bD.fix n),Vc (bD.fix n),Ka (bD.fix n),yX (bD.fix n),Ap (bD.fix n),Jt (bD.fix n),Cs (bD.fix n)⟩
def bD.ok:∀n,bD.Ok (bD.fix n)
 |0=>by constructor<;>(repeat intro _)<;>contradiction
 |n+1=>⟨aBy _ (bD.ok n),aBx _ (bD.ok n),aBv _ (bD.ok n),aBu _ (bD.ok n),aBt _ (bD.ok n),aBs _ (bD.ok n),aE4 _ (bD.ok n),aBr _ (bD.ok n),aBq _ (bD.ok n),aBp _ (bD.ok n),aBo _ (bD.ok n),aBn _ (bD.ok n),aBm _ (bD.ok n),aBl _ (bD.ok n),aBk _ (bD.ok n),aBj _ (bD.ok n),aBi _ (bD.ok n),aBh _ (bD.ok n),aBg _ (bD.ok n),aEx _ (bD.ok n),aEw _ (bD.ok n),aEv _ (bD.ok n),aEu _ (bD.ok n),aEt _ (bD.ok n),aEs _ (bD.ok n),aEr _ (bD.ok n),aEq _ (bD.ok n),aEj _ (bD.ok n),aEi _ (bD.ok n),aEh _ (bD.ok n),aEg _ (bD.ok n)⟩
def Oo:=(bD.fix bQ).p15_1
def aE8:=(bD.ok bQ).p15_1
end Go.Proofs.YtlfbdcfnimnhiaaGreatDoor.Ex
