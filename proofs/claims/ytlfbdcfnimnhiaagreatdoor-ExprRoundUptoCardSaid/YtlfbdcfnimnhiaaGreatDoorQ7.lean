/- A part. -/
import Derived.Lib.ItoaLen
import Derived.Lib.Join
import Derived.Test.YtlfbdcfnimnhiaaGreatDoorQ6
set_option linter.all false
set_option maxRecDepth 100000
open Go.Proofs.Tryz
open Go.IntKind (i64 u64)
namespace Go.Proofs.YtlfbdcfnimnhiaaGreatDoor.Ex
open Go.Am Go.Ex
def Su {σ R:Type} {n:Nat} (hn:n<=4611686018427387000) {b:(σ->Option R)->σ->Option R} {q0:σ} {N:Option R} (st:Nat->σ) (h0:q0=st 0)
 (hb:∀k (i:Nat),i<n->b k (st i)=k (st (i+1))) (he:∀k,b k (st n)=N):cF b bQ q0=N:=by
 have key:∀d i m:Nat,i+d=n->d<m->cF b m (st i)=N:=by
  intro d
  induction d with
  |zero=>
   intro i m hi hm;obtain rfl:i=n:=by omega
   cases m with
   |zero=>omega
   |succ m=>rw[eX];exact he _
  |succ d ih=>
   intro i m hi hm;cases m with
   |zero=>omega
   |succ m=>rw[eX,hb _ i (by omega)];exact ih (i+1) m (by omega) (by omega)
 rw[h0];exact key n 0 bQ (by omega) (by unfold bQ;omega)
def vL (a:Nat) (c:UInt8):Nat:=a*10+(c.toNat-48)
def rV (l:List UInt8):Nat:=l.foldl vL 0
def BU:∀(l:List UInt8) (a:Nat),a<=l.foldl vL a
 |[],a=>dS _
 |c::l,a=>by
  have:=BU l (vL a c);have h:a<=vL a c:=by unfold vL;omega
  exact xX h this
def Zf {l:List UInt8} {i:Nat} (hi:i<l.length):rV (l.take (i+1))=vL (rV (l.take i)) l[i]:=by
 unfold rV;rw[List.take_add_one,fH hi,Option.toList_some,List.foldl_append];rfl
def WH (l:List UInt8) (i:Nat):rV (l.take i)<=rV l:=by
 have e:l=l.take i++l.drop i:=(Bf i l).symm
 conv=>rhs;rw[e]
 unfold rV;rw[List.foldl_append];exact BU _ _
def AO (u:Nat):rV (Lib.decDigits u)=u:=by
 have d:∀k:Fin 10,(UInt8.ofNat (48+k.val)).toNat=48+k.val:=by decide+kernel
 induction u using Nat.strongRecOn with
 |_ u ih=>
  by_cases h:u<10
  ·rw[Lib.decDigits,dif_pos h];have:=d ⟨u,h⟩;simp only at this;show vL 0 (UInt8.ofNat (48+u))=u;unfold vL;omega
  ·rw[Lib.decDigits,dif_neg h];have h1:=ih (u/10) (by omega);have:=d ⟨u%10,by omega⟩;simp only at this;unfold rV at h1 ⊢;rw[List.foldl_append,h1];show vL (u/10) (UInt8.ofNat (48+u%10))=u;unfold vL;omega
def Ui (z:Nat) (hz:z<18446744073709551616):u64.wrap (z:Int)=(z:Int):=by
 simp only[IntKind.wrap,IntKind.bits,IntKind.signed];simp;omega
def SH {c:UInt8} (h:lA c=true):48<=c.toNat∧c.toNat<=57:=by
 unfold lA Wh at h;simpa using h
def pf4 (c:Nat) (h:48<=c∧c<=57):IntKind.u8.wrap ((c:Int)-48)=((c-48:Nat):Int):=by
 have:∀j:Fin 10,IntKind.u8.wrap (((48+j.val:Nat):Int)-48)=(j.val:Int):=by decide+kernel
 have e:=this ⟨c-48,by omega⟩;rw[show 48+(c-48)=c by omega] at e;exact e
def aGr:u64.wrap (mI .u64 (1:Int) (u64.wrap 63)-1)=9223372036854775807:=by decide+kernel
def aGq:u64.wrap 10=10:=by decide+kernel
def aDz:IntKind.u8.wrap 10=10:=by decide+kernel
def aGp:(0:Int)<=u64.wrap 63:=by decide+kernel
def pw1 (v d:Nat) (h:v*10+d<9223372036854775808):u64.wrap ((v:Int)*10)=((v*10:Nat):Int)∧u64.wrap (((v*10:Nat):Int)+(d:Int))=((v*10+d:Nat):Int):=by
 have h1:=Ui (v*10) (by omega);have h2:=Ui (v*10+d) (by omega);rw[Int.natCast_mul] at h1;rw[Int.natCast_add] at h2;refine⟨?_,?_⟩
 ·rw[Int.natCast_mul];exact h1
 ·rw[Int.natCast_add];exact h2
def pc1 (v d:Nat) (h:v*10+d<9223372036854775808):decide ((v:Int)>=1844674407370955162)=false∧decide (((v*10+d:Nat):Int)<((v*10:Nat):Int))=false∧decide (((v*10+d:Nat):Int)>9223372036854775807)=false:=by
 refine⟨?_,?_,?_⟩<;>rw[pZ]<;>omega
def pc2 (c:Nat) (h:48<=c∧c<=57):((c:Int)==95)=false∧decide ((48:Int)<=(c:Int))=true∧decide ((c:Int)<=57)=true∧decide (((c-48:Nat):Int)>=IntKind.u8.wrap 10)=false:=by
 rw[aDz];refine⟨?_,?_,?_,?_⟩
 ·rw[sN];omega
 ·rw[pJ];omega
 ·rw[pJ];omega
 ·rw[pZ];omega
def Oj (x0:ByteArray):(Bool×Int×Int->Option (Int×Unit))->Bool×Int×Int->Option (Int×Unit):=fun u62 q61=>(aE (decide (q61.2.2<(((dZ x0).length:Nat):Int))) (join (fun(u68:Bool×Int->Option (Int×Unit))=>(aR (0<=q61.2.2∧q61.2.2<(((dZ x0).length:Nat):Int)) (join (fun(u74:Bool×Int->Option (Int×Unit))=>(join (fun(u77:Bool->Option (Int×Unit))=>(aE (((dZ x0).getD q61.2.2.toNat 0)==95) (u77 (10==0)) (u77 false))) (fun(q76:Bool)=>(aE q76 (u68 (true,q61.2.1)) (join (fun(u82:Bool->Option (Int×Unit))=>(aE (decide ((48:Int)<=((dZ x0).getD q61.2.2.toNat 0))) (u82 (decide (((dZ x0).getD q61.2.2.toNat 0)<=57))) (u82 false))) (fun(q81:Bool)=>(aE q81 (u74 (q61.1,(IntKind.u8.wrap (((dZ x0).getD q61.2.2.toNat 0)-48)))) (join (fun(u87:Bool->Option (Int×Unit))=>(call (oX ((dZ x0).getD q61.2.2.toNat 0)) fun y88=>(aE (decide ((97:Int)<=y88)) (call (oX ((dZ x0).getD q61.2.2.toNat 0)) fun y90=>(u87 (decide (y90<=122)))) (u87 false)))) (fun(q86:Bool)=>(aE q86 (call (oX ((dZ x0).getD q61.2.2.toNat 0)) fun y92=>(u74 (q61.1,(IntKind.u8.wrap ((IntKind.u8.wrap (y92-97))+10))))) none)))))))))) (fun(q73:Bool×Int)=>(aE (decide (q73.2>=(IntKind.u8.wrap 10))) none (aE (decide (q61.2.1>=1844674407370955162)) none (join (fun(u100:Bool->Option (Int×Unit))=>(aE (decide ((u64.wrap ((u64.wrap (q61.2.1*(u64.wrap 10)))+(u64.wrap q73.2)))<(u64.wrap (q61.2.1*(u64.wrap 10))))) (u100 true) (u100 (decide ((u64.wrap ((u64.wrap (q61.2.1*(u64.wrap 10)))+(u64.wrap q73.2)))>(u64.wrap ((mI .u64 (1:Int) (u64.wrap 63))-1))))))) (fun(q99:Bool)=>(aE q99 none (u68 (q73.1,(u64.wrap ((u64.wrap (q61.2.1*(u64.wrap 10)))+(u64.wrap q73.2)))))))))))))) (fun(q67:Bool×Int)=>(u62 (q67.1,q67.2,(i64.wrap (q61.2.2+1)))))) (join (fun(u106:Bool->Option (Int×Unit))=>(aE q61.1 (call (Pl x0) fun y108=>(u106 (!y108))) (u106 false))) (fun(q105:Bool)=>(aE q105 none (some (q61.2.1,()))))))
def XJ (x:ByteArray) (hne:(x.data.toList==(bm #[]).data.toList)=false) (hml:x.size<=maxLen):Cx x 10 63=cF (Oj x) bQ (false,0,0):=by
 unfold Cx;rw[hne,aQ,bY];dsimp only;rw[bY];dsimp only;rw[show decide ((2:Int)<=10)=true from rfl,bL,show decide ((10:Int)<=36)=true from rfl,bL,bY];dsimp only;rw[wq 63 0 rfl,bY];dsimp only;rw[show decide ((63:Int)<0)=false from rfl,aQ,show decide ((63:Int)>64)=false from rfl,aQ,bY];dsimp only;rw[show((10:Int)==10)=true from rfl,bL,bV aGp,bV hml];rfl
def NP (x:ByteArray) (i:Nat) (v c:Nat) (k:Bool×Int×Int->Option (Int×Unit)) (hx:x.size<=2000) (hi:i<x.size) (hget:(dZ x).getD i 0=(c:Int)) (hc:48<=c∧c<=57) (hv:v*10+(c-48)<9223372036854775808):Oj x k (false,(v:Int),(i:Int))=k (false,((v*10+(c-48):Nat):Int),((i+1:Nat):Int)):=by
 have hl:=lO x;have hbl:(dZ x).length=x.size:=by unfold dZ;rw[gI,hl]
 obtain⟨f1,f2,f3,f5⟩:=pc2 c hc;obtain⟨f6,f7,f8⟩:=pc1 v (c-48) hv;obtain⟨w1,w3⟩:=pw1 v (c-48) hv;have w2:=Ui (c-48) (by omega);have f0:decide ((i:Int)<((dZ x).length:Int))=true:=by rw[hbl,pJ];omega
 have f9:i64.wrap ((i:Int)+1)=((i+1:Nat):Int):=jW hi (by omega);unfold Oj;simp only[bY];rw[f0,bL,bV (by rw[hbl];omega),cZ,hget,f1,aQ,aQ,f2,bL,f3,bL,pf4 c hc,f5,aQ,f6,aQ,aGq,w1,w2,w3,f7,aQ,aGr,f8,aQ,f9]
def TP (x:ByteArray) (hne:(x.data.toList==(bm #[]).data.toList)=false) (hx:x.size<=2000) (hd:x.data.toList.all lA=true) (hv:rV x.data.toList<9223372036854775808):Cx x 10 63=some (((rV x.data.toList:Nat):Int),()):=by
 have hl:=lO x;have hbl:(dZ x).length=x.size:=by unfold dZ;rw[gI,hl]
 rw[XJ x hne (by unfold maxLen;omega)];refine Su (n:=x.size) (by omega) (fun i=>(false,((rV (x.data.toList.take i):Nat):Int),(i:Int))) rfl (fun k i hi=>?_) (fun k=>?_)
 ·have hi':i<x.data.toList.length:=by omega
  have hdig:=SH (lY.1 hd _ (sM hi'));have hle:=WH x.data.toList (i+1);rw[Zf hi'] at hle;have hget:(dZ x).getD i 0=((x.data.toList[i].toNat:Nat):Int):=by
   unfold dZ;rw[fR,qQ,fH hi'];rfl
  have hst:vL (rV (x.data.toList.take i)) x.data.toList[i]=rV (x.data.toList.take i)*10+(x.data.toList[i].toNat-48):=rfl;rw[hst] at hle;have:=NP x i (rV (x.data.toList.take i)) x.data.toList[i].toNat k hx hi hget hdig (by omega);rw[Zf hi',hst];exact this
 ·unfold Oj;dsimp only;rw[hbl,show decide ((x.size:Int)<(x.size:Int))=false by simp,aQ,<-hl,nI];rfl
def VN (n:Int) (h:0<=n):((kP n).data.toList==(bm #[]).data.toList)=false:=by
 obtain⟨⟨c,a,e⟩,_⟩:=Qp n.toNat;show(Lib.decDigits n.toNat == [])=false;rw[e];rfl
def VO (n:Int) (h:n<9223372036854775808):(kP n).size<=2000:=by
 have e:(kP n).size=(Lib.decDigits n.toNat).length:=by rw[<-lO];rfl
 rw[e,Lib.decDigits_length];have:=Lib.nDigits_le20 n.toNat (by omega);omega
def RD (n:Int) (h0:0<=n) (h:n<9223372036854775808):Fw (kP n) 10 63=some (n,()):=by
 have hd:(kP n).data.toList=Lib.decDigits n.toNat:=rfl;have h1:=TP (kP n) (VN n h0) (VO n h) (by rw[hd];exact(Qp _).2) (by rw[hd,AO];omega);rw[hd,AO] at h1;unfold Fw;rw[h1,aN];simp only;rw[show(n.toNat:Int)=n by omega]
def TQ {v:aH} (h:pH v=some true):(v.kind=0∧v=zV)∨(v.kind=1∧v.text.data.toList=[])∨((v.kind=2∨v.kind=3)∧v.int=0∧v.text.size<=400):=by
 unfold pH at h;simp only[bY] at h;have T:aE (v.int==0) (some (decide ((v.text.size:Int)<=400))) (some false)=some true->v.int=0∧v.text.size<=400:=by
  intro h;cases h0:(v.int==0) with
  |false=>rw[h0,aQ] at h;cases h
  |true=>
   rw[h0,bL] at h;injection h with h
   rw[pJ] at h;exact⟨by simpa using h0,by omega⟩
 cases h0:(v.kind==0) with
 |true=>
  rw[h0,bL] at h;injection h with h
  simp only[Bool.true_and,dI,eM] at h h0;refine .inl ⟨h0,?_⟩;obtain⟨k,i,t⟩:=v;simp only at h h0;rw[h0,h.1];have:t=bO:=by rw[<-mV t,h.2]
  rw[this]
 |false=>
 rw[h0,aQ] at h;cases h1:(v.kind==1) with
 |true=>
  rw[h1,bL] at h;injection h with h
  simp only[eM] at h h1;exact .inr (.inl ⟨h1,h⟩)
 |false=>
 rw[h1,aQ] at h;cases h2:(v.kind==2) with
 |true=>
  rw[h2,bL] at h;exact .inr (.inr ⟨.inl (by simpa using h2),T h⟩)
 |false=>
 rw[h2,aQ] at h;cases h3:(v.kind==3) with
 |true=>
  rw[h3,bL] at h;exact .inr (.inr ⟨.inr (by simpa using h3),T h⟩)
 |false=>rw[h3,aQ] at h;cases h
def CK (k:Int) (s:ByteArray) (h:s.size<=400):Fv k s=some (aH.mk k 0 s,0):=by
 unfold Fv;rw[show decide ((s.size:Int)>400)=false by rw[pZ];omega,aQ]
def TV {s:ByteArray} (h:pN s (some [jX])):∃b,gX s=some b:=by
 obtain⟨h1,h2⟩:=Zm h;obtain⟨g1,g2,g3,g4⟩:=Sb h1 (by decide+kernel);have hk:kA jX=some (jX,true):=by decide+kernel
 rw[hk] at h2;refine⟨false,?_⟩
 match hs:s.data.toList with
 |[]=>have:=lO s;rw[hs] at this;simp at this;omega
 |c::a=>
  rw[hs,tY,dI] at g1;unfold gX;rw[bY];dsimp only;have e1:(s.data.toList==(bm #[]).data.toList)=false:=by rw[hs];rfl
  have e2:rG ((s.data.toList.getD 0 0).toNat:Int)=some true:=by
   rw[hs];show rG (c.toNat:Int)=some true;rw[wU,g1.1]
  rw[e1,aQ,show decide ((s.size:Int)>32)=false by rw[pZ];omega,aQ,bV (by omega),e2,aN];rw[show(!true)=false from rfl,aQ,h2,aN];rfl
def aDs:Di:=by
 refine⟨fun v h h0 hm T l i p hA=>?_,fun n h1 h2=>aAm n h1 h2,fun s h=>XT h,fun s h=>TV h⟩;rcases TQ h with⟨hk,hv⟩|⟨hk,hv⟩|⟨hk,hi,ht⟩
 ·have e:jR v=(1,rU):=by unfold jR;rw[if_pos hk]
  rw[e] at hA;rw[hv];exact UX (x:=(1,rU)) (T:=T) (by exact(by decide+kernel:aT [(1,rU)] rU=true)) hA
 ·have e:jR v=(2,kP v.int):=by unfold jR;rw[if_neg (by omega),if_pos hk]
  rw[e] at hA;have:=YX (p:=p) (RD v.int h0 hm) hA;rw[nK (by omega) (by omega)] at this;have ev:v=aH.mk 1 v.int bO:=by
   obtain⟨k,z,t⟩:=v;simp only at hk hv;rw[hk];have:t=bO:=by rw[<-mV t,hv];rfl
   rw[this]
  rw[<-ev] at this;exact this
 ·rcases hk with hk|hk
  ·have e:jR v=(3,v.text):=by unfold jR;rw[if_neg (by omega),if_neg (by omega),if_pos hk]
   rw[e] at hA;have ev:v=aH.mk 2 0 v.text:=by
    obtain⟨k,z,t⟩:=v;simp only at hk hi;rw[hk,hi]
   refine UW ?_ hA;unfold Kl;rw[CK 2 _ ht,aN,<-ev]
  ·have e:jR v=(4,v.text):=by unfold jR;rw[if_neg (by omega),if_neg (by omega),if_neg (by omega)]
   rw[e] at hA;have ev:v=aH.mk 3 0 v.text:=by
    obtain⟨k,z,t⟩:=v;simp only at hk hi;rw[hk,hi]
   refine UZ ?_ hA;unfold Kk;rw[CK 3 _ ht,aN,<-ev]
section
variable {T T' X:List Tk} {p p':Int} {N:Nat} {v a c:aA} {t:Tk} {b:Bool} {F:eA} {M:iP} {α:Type}
def Hd (L:List Tk) (T:List Tk):Prop:=T=[]∨∃t∈L,∃T',T=t::T'
def Hd.all {L:List Tk} (h:Hd L T) (f:List Tk->Bool) (hhd:∀t T,f (t::T)=f [t]) (h0:(f []&&L.all fun t=>f [t])=true):f T=true:=by
 rw[dI] at h0;rcases h with rfl|⟨t,ht,T',rfl⟩
 ·exact h0.1
 ·rw[hhd];exact lY.1 h0.2 t ht
def Hd.qE {L:List Tk} (h:Hd L T) (h0:(qE []&&L.all fun t=>qE [t])=true:=by decide+kernel):qE T=true:=h.all _ (fun _ _=>rfl) h0
def Hd.oO {L:List Tk} (h:Hd L T) (w:ByteArray) (h0:(!aT [] w&&L.all fun t=> !aT [t] w)=true:=by decide+kernel):aT T w=false:=by
 have:=h.all (fun T=> !aT T w) (fun _ _=>rfl) h0;simpa using this
def Hd.noL {L:List Tk} (h:Hd L T) (w:List ByteArray) (h0:(!cQ [] w&&L.all fun t=> !cQ [t] w)=true:=by decide+kernel):cQ T w=false:=by
 have:=h.all (fun T=> !cQ T w) (fun _ _=>rfl) h0;simpa using this
def Nz:List Tk->Bool
 |(k,s)::_=>k != 1||(gX s==some false)
 |[]=>true
def Hd.noN {L:List Tk} (h:Hd L T) (h0:(Nz []&&L.all fun t=>Nz [t])=true:=by decide+kernel):oU T∧nE T=false:=by
 have:=h.all Nz (fun _ _=>rfl) h0
 match T,this with
 |[],_=>exact⟨trivial,rfl⟩
 |(k,s)::T,this=>
  simp only[Nz,Bk,bne_iff_ne,ne_eq,eM] at this;rcases this with h1|h1
  ·exact⟨fun h=>absurd h h1,by simp[nE,h1]⟩
  ·exact⟨fun _=>⟨_,h1⟩,by simp[nE,h1]⟩
def Hd.mono {L L':List Tk} (h:Hd L T) (hL:(L.all fun t=>Dq t L')=true:=by decide+kernel):Hd L' T:=h.imp id fun⟨t,ht,T',e⟩=>⟨t,Oa (lY.1 hL t ht),T',e⟩
def rO {L:List Tk} (T:List Tk) (h:Dq t L=true:=by decide+kernel):Hd L (t::T):=.inr ⟨t,Oa h,T,rfl⟩
def LQ:List Tk:=[(6,cB)]
def L3:List Tk:=[(1,kU),(6,cB)]
def L2:List Tk:=[(1,kM),(1,kU),(6,cB)]
def L1:List Tk:=[(1,mE),(1,kM),(1,kU),(6,cB)]
def LC:List Tk:=[(1,kL),(1,nJ),(1,oC),(1,mE),(1,kM),(1,kU),(6,cB)]
def LH:List Tk:=[(1,oB),(1,kL),(1,nJ),(1,oC),(1,mE),(1,kM),(1,kU),(6,cB)]
def LG:List Tk:=[(1,lF),(1,kL),(1,nJ),(1,oC),(1,mE),(1,kM),(1,kU),(6,cB)]
def LW:List Tk:=[(1,oF),(1,lF),(1,kL),(1,nJ),(1,oC),(1,mE),(1,kM),(1,kU),(6,cB)]
def LJ:List Tk:=[(1,hU),(1,mQ),(1,oF),(1,lF),(1,kL),(1,nJ),(1,oC),(1,mE),(1,kM),(1,kU),(6,cB)]
def LO:List Tk:=[(1,iJ),(1,hU),(1,mQ),(1,oF),(1,lF),(1,kL),(1,nJ),(1,oC),(1,mE),(1,kM),(1,kU),(6,cB)]
def LF:List Tk:=[(1,oI),(1,oF),(1,lF),(1,kL),(1,nJ),(1,oC),(1,mE),(1,kM),(1,kU),(6,cB)]
def LI:List Tk:=[(6,eU),(1,oI),(1,oF),(1,lF),(1,kL),(1,nJ),(1,oC),(1,mE),(1,kM),(1,kU),(6,cB)]
def Ul (h:RF F M N) {w:ByteArray} {l:List aA} (hl:l=[]∨∃x,l=[x]∧M.ex x) (hT:qE T=true) (h0:aT T w=false) (p:Int) (hw:aT [(1,w)] w=true:=by decide+kernel):∃p',∀n,N<=n->Ky (bD.fix n) w (ts (dF F [w] l)++T) p l T p':=by
 rcases hl with rfl|⟨x,rfl,hx⟩
 ·exact⟨p,fun n hn=>.inl ⟨rfl,h0,rfl,rfl⟩⟩
 ·obtain⟨p',h1⟩:=h.ex x hx true T p hT;have e:ts (dF F [w] [x])++T=(1,w)::(ts (F.tx true x)++T):=by
   show ts (pw true w::(F.tx true x++[]))++T=_;rw[gL];rfl
  rw[e];exact⟨p',fun n hn=>.inr ⟨_,_,x,rfl,hw,h1 n hn,rfl⟩⟩
def Ed {w:ByteArray} {l:List aA} {L L':List Tk} (hT:Hd L T) (hL:(L.all fun t=>Dq t L')=true:=by decide+kernel) (hw:Dq (1,w) L'=true:=by decide+kernel):Hd L' (ts (dF F [w] l)++T):=by
 cases l with
 |nil=>exact hT.mono hL
 |cons x l=>exact .inr ⟨_,Oa hw,_,rfl⟩
def XY (h:RF F M N) {l o:List aA} (hl:l=[]∧o=[]∨∃x,l=[x]∧M.ex x∧(o=[]∨∃y,o=[y]∧M.ex y)) (hT:Hd LQ T) (p:Int):∃p',∀n,N<=n->Og (bD.fix n) (ts (dF F [kM] l)++(ts (dF F [kU] o)++T)) p l o T p':=by
 rcases hl with⟨rfl,rfl⟩|⟨x,rfl,hx,ho⟩
 ·exact⟨p,fun n hn=>.inl ⟨rfl,rfl,hT.oO kM,rfl,rfl⟩⟩
 ·have h3:Hd L3 (ts (dF F [kU] o)++T):=Ed hT;obtain⟨p1,h1⟩:=h.ex x hx true _ p h3.qE;obtain⟨p2,h2⟩:=Ul h ho hT.qE (hT.oO kU) p1;have e:ts (dF F [kM] [x])++(ts (dF F [kU] o)++T)=(1,kM)::(ts (F.tx true x)++(ts (dF F [kU] o)++T)):=by
   show ts (pw true kM::(F.tx true x++[]))++_=_;rw[gL];rfl
  rw[e];exact⟨p2,fun n hn=>.inr ⟨_,_,x,_,_,rfl,(show aT [(1,kM)] kM=true by decide+kernel),h1 n hn,rfl,h2 n hn⟩⟩
def VA {l o:List aA} (hl:l=[]∧o=[]∨∃x,l=[x]∧M.ex x∧(o=[]∨∃y,o=[y]∧M.ex y)) (hT:Hd LQ T):Hd L2 (ts (dF F [kM] l)++(ts (dF F [kU] o)++T)):=by
 have h3:Hd L3 (ts (dF F [kU] o)++T):=Ed hT;exact Ed h3
def YZ {T T1 T':List Tk} {p p1 p':Int} {v:aX} {vs:List aX} (h:aZ (·.p95_1) N T p v T1 p1) (hm:∀n,N<=n->vU (bD.fix n).p95_1 T1 p1 vs T' p') (hl:vs.length<=1000000):aZ (·.p94_1) (N+1) T p (v::vs) T' p':=
 aZ.succ (b:=Jt) (fun _=>rfl) fun n hn=>by rw[d9];exact Rf (h n hn) (hm n hn) (by omega) (by omega)
def EC (h:RF F M N) {o:aX} (ho:M.ex o.expr) (b:Bool) (p:Int) (hT:Hd ((6,eU)::L2) T):∃p',aZ (·.p95_1) (N+1) (ts (mP F b o)++T) p o T p':=by
 unfold mP;cases hd:o.desc_ with
 |false=>
  rw[if_neg (by decide),gL];obtain⟨p',h1⟩:=h.ex _ ho b T p hT.qE;have:=WZ h1 (hT.oO Pu) (hT.oO xI);have eo:aX.mk o.expr false=o:=by rw[<-hd];cases o;rfl
  rw[eo] at this;exact⟨p',this⟩
 |true=>
  rw[if_pos rfl,dY];obtain⟨p',h1⟩:=h.ex _ ho b ((1,xI)::T) p (yG _).ok;have:=QG h1 (show aT [(1,xI)] Pu=false by decide+kernel) (show aT [(1,xI)] xI=true by decide+kernel);have eo:aX.mk o.expr true=o:=by rw[<-hd];cases o;rfl
  rw[eo] at this;exact⟨p',this⟩
def UJ {l:List aX} (hT:Hd L2 T):Hd L1 (ts (vF F l)++T):=by
 cases l with
 |nil=>exact hT.mono
 |cons x l=>exact rO (t:=(1,mE)) _
def XX (h:RF F M N) {l:List aX} (hl:∀o∈l,M.ex o.expr) (hT:Hd L2 T) (p:Int):∃p',∀n,N+2<=n->Ud (bD.fix n) (ts (vF F l)++T) p l T p':=by
 cases l with
 |nil=>exact⟨p,fun n hn=>.inl ⟨rfl,hT.oO mE,rfl,rfl⟩⟩
 |cons o l=>
  have hS:Hd ((6,eU)::L2) T:=hT.mono;have hf:∀y∈l,∀b T p,Hd ((6,eU)::L2) T->∃p',aZ (·.p95_1) (N+1) (ts (mP F b y)++T) p y T p':=fun y hy b T p hs=>EC h (hl y (iD _ hy)) b p hs
  obtain⟨h1,_⟩:=wZ (f:=(·.p95_1)) (N:=N+1) (g:=mP F) (Stop:=fun T=>Hd ((6,eU)::L2) T) (fun _=>rO _) hS (hT.noL [eU]) l p hf
  obtain⟨p1,h2⟩:=EC h (hl o (lK ..)) true p h1;obtain⟨_,p2,h3⟩:=wZ (f:=(·.p95_1)) (N:=N+1) (g:=mP F) (Stop:=fun T=>Hd ((6,eU)::L2) T) (fun _=>rO _) hS (hT.noL [eU]) l p1 hf
  have e:ts (vF F (o::l))++T=(1,mE)::(1,lB)::(ts (mP F true o)++(ts (fO (mP F) l)++T)):=by
   show ts (pw true mE::pw true lB::(mP F true o++fO (mP F) l))++T=_;rw[lS,lS,dY]
  rw[e];by_cases hlen:l.length<=1000000
  ·exact⟨p2,fun n hn=>.inr ⟨_,_,_,rfl,(show aT [(1,mE)] mE=true by decide+kernel),(show aT [(1,lB)] lB=true by decide+kernel),YZ h2 h3 hlen n hn⟩⟩
  ·have:=Bt (g:=mP F) l;exact⟨0,fun n hn=>.inr ⟨_,_,_,rfl,(show aT [(1,mE)] mE=true by decide+kernel),(show aT [(1,lB)] lB=true by decide+kernel),fP.xQ (by simp only[bH];omega)⟩⟩
def We {s:ByteArray} (hs:Ao s) (p:Int) (h0:aT T lW=false) (hn:oU T∧nE T=false):fP sV (ts (mS s)++T) p s T p:=by
 unfold mS;split
 ·rename_i e;have es:s=bm #[]:=by rw[<-mV s,e]
  rw[es];exact PJ h0 hn.1 hn.2
 ·rename_i hne;rcases hs with hs|hs
  ·exact absurd hs hne
  ·exact WC (show aT [(1,lW)] lW=true by decide+kernel) hs
def aFa {s:ByteArray} {L:List Tk} (hT:Hd L T):Hd ((1,lW)::L) (ts (mS s)++T):=by
 unfold mS;split
 ·exact hT.imp id fun⟨t,ht,T',e⟩=>⟨t,iD _ ht,T',e⟩
 ·exact .inr ⟨_,lK ..,_,rfl⟩
def Mz {s:ByteArray} (h:s.data.toList=[]):s=bO:=by rw[<-mV s,h];rfl
def YY {T T1 T':List Tk} {p p1 p':Int} {v:bA} {vs:List bA} (h:aZ (·.p133_1) N T p v T1 p1) (hm:∀n,N<=n->vU (bD.fix n).p133_1 T1 p1 vs T' p') (hl:vs.length<=1000000):aZ (·.p132_1) (N+1) T p (v::vs) T' p':=
 aZ.succ (b:=Jg) (fun _=>rfl) fun n hn=>by rw[d7];exact Rf (h n hn) (hm n hn) (by omega) (by omega)
def EG (h:RF F M N) {it:bA} (hi:xF M it) (b:Bool) (p:Int) (hT:Hd LI T):∃p',aZ (·.p133_1) (N+1) (ts (gH F b it)++T) p it T p':=by
 unfold gH;rcases hi with⟨h1,h2,h3,h4⟩|⟨h1,h2,h3,x,h4,h5⟩
 ·rw[h1,if_pos rfl];have h3':=Mz h3;split
  ·rename_i e;have:=RQ (T':=T) (p:=p);have ei:it=bA.mk true bO [] bO:=by
    cases it;simp only at h1 h2 h3' e;rw[h1,h2,h3',Mz e]
   rw[<-ei] at this;exact⟨p,this.le (by omega)⟩
  ·rename_i hne;rcases h4 with h4|h4
   ·exact absurd h4 hne
   have:=OV (T':=T) (p:=p) h4;have ei:it=bA.mk true it.table [] bO:=by
    cases it;simp only at h1 h2 h3';rw[h1,h2,h3']
   rw[<-ei] at this;exact⟨p,this.le (by omega)⟩
 ·rw[h1,if_neg (by decide),h4];have ha:=aFa (s:=it.az) hT;obtain⟨p',h6⟩:=h.ex x h5 b (ts (mS it.az)++T) p ha.qE;have h7:=We h3 p' (hT.oO lW) hT.noN;obtain⟨t,Q,e1,e2⟩:=Cn h h5 b (ts (mS it.az)++T);have hd3:=h.d3 x h5 b (ts (mS it.az)++T) (uN ha.qE);have htn:=h.tn x h5 b (ts (mS it.az)++T);rw[show([x].getD 0 aA.z)=x from rfl,dY];rw[e1] at h6 hd3 htn ⊢;have:=RS (x:=t) (xG e2).2.2.2.2.2.1 htn (fun l i hA hisN k s' T'' eT hdot k2 s2 T3 eT2 hbad=>by
   obtain⟨tkR,tsx⟩:=t;have hk1:tkR=1:=by
    simp only[nE,dI,eM] at hisN;exact hisN.1
   subst hk1;obtain⟨hk,hs'⟩:=hdot;subst hk;obtain⟨s3,T4,e4⟩:=hd3 tsx s' T'' (by rw[eT]) hs';rw[e4] at eT2;injection eT2 with e5 _
   injection e5 with e6 _
   rw[<-e6] at hbad;exact absurd hbad.1 (by decide)) h6 h7
  have ei:it=bA.mk false bO [x] it.az:=by
   have h2':=Mz h2;cases it;simp only at h1 h2' h4;rw[h1,h2',h4]
  rw[<-ei] at this;exact⟨p',this⟩
def XZ (h:RF F M N) {it:bA} {l:List bA} (hl:∀y∈it::l,xF M y) (hT:Hd LF T) (p:Int):∃p',aZ (·.p132_1) (N+2) (ts (cK (gH F) true (it::l))++T) p (it::l) T p':=by
 have hS:Hd LI T:=hT.mono;have hf:∀y∈l,∀b T p,Hd LI T->∃p',aZ (·.p133_1) (N+1) (ts (gH F b y)++T) p y T p':=fun y hy b T p hs=>EG h (hl y (iD _ hy)) b p hs
 obtain⟨h1,_⟩:=wZ (f:=(·.p133_1)) (N:=N+1) (g:=gH F) (Stop:=fun T=>Hd LI T) (fun _=>rO _) hS (hT.noL [eU]) l p hf
 obtain⟨p1,h2⟩:=EG h (hl it (lK ..)) true p h1;obtain⟨_,p2,h3⟩:=wZ (f:=(·.p133_1)) (N:=N+1) (g:=gH F) (Stop:=fun T=>Hd LI T) (fun _=>rO _) hS (hT.noL [eU]) l p1 hf
 have e:ts (cK (gH F) true (it::l))++T=ts (gH F true it)++(ts (fO (gH F) l)++T):=dY _ _;rw[e];by_cases hlen:l.length<=1000000
 ·exact⟨p2,YY h2 h3 hlen⟩
 ·have:=Bt (g:=gH F) l;exact⟨0,aZ.xQ (by simp only[bH];omega)⟩
def GC (h:RF F M N) {f:aO} (hf:rF M f) (p:Int) (hT:Hd LO T):∃p',aZ (·.p170_1) (N+1) (ts (gW F true f)++T) p (aO.mk 0 f.name f.sub f.az []) T p':=by
 obtain⟨_,h1,_,h3⟩:=hf;unfold gW;rw[dY];rcases h3 with⟨h4,h5⟩|⟨h4,q,h5,h6,h7⟩
 ·rw[h4,if_pos rfl];exact⟨p,(MI (T1:=ts (mS f.az)++T) h5 (We h1 p (hT.oO lW) hT.noN)).le (by omega)⟩
 ·rw[h5,if_neg (by simp),lS,dY];obtain⟨p',h8⟩:=h.se q h7 h6 false ((6,cB)::(ts (mS f.az)++T)) p (.inr ⟨_,rfl⟩);have:=NQ h8 (We h1 p' (hT.oO lW) hT.noN);rw[Mz h4];exact⟨p',this⟩
def aGn (h:RF F M N) {f:aO} (hf:rF M f) (p:Int) (hT:Hd LJ T):∃p',∀n,N<=n->Ws (bD.fix n) (ts (dF F [iJ] f.on)++T) p f.on T p':=by
 rcases hf.2.2.1 with h1|⟨x,h1,hx⟩
 ·rw[h1];exact⟨p,fun n hn=>.inl ⟨rfl,hT.oO iJ,rfl,rfl⟩⟩
 ·rw[h1];obtain⟨p',h2⟩:=h.ex x hx true T p hT.qE;have e:ts (dF F [iJ] [x])++T=(1,iJ)::(ts (F.tx true x)++T):=by
   show ts (pw true iJ::(F.tx true x++[]))++T=_;rw[gL];rfl
  rw[e];exact⟨p',fun n hn=>.inr ⟨_,_,x,rfl,(show aT [(1,iJ)] iJ=true by decide+kernel),h2 n hn,rfl⟩⟩
def rR (F:eA) (f:aO):List Pc:=(if f.join=1 then [pw true mQ,pw true hU] else [pw true hU])++(gW F true f++dF F [iJ] f.on)
def BO {l:List aO} (hT:Hd LW T):Hd LJ (ts (l.flatMap (rR F))++T):=by
 cases l with
 |nil=>exact hT.mono
 |cons f l=>
  rw[rN];unfold rR;split
  ·exact rO (t:=(1,mQ)) _
  ·exact rO (t:=(1,hU)) _
def CS (h:RF F M N) (hT:Hd LW T):∀(l:List aO) (p:Int),(∀f∈l,rF M f)->∃p',∀n,N+1<=n->Fl (bD.fix n) (ts (l.flatMap (rR F))++T) p l T p'
 |[],p,_=>⟨p,fun n hn=>.nil ⟨hT.noL [eU],hT.oO hU,hT.oO Oe,hT.oO Of,hT.oO mQ⟩⟩
 |f::l,p,hl=>by
  have hf:=hl f (lK ..);have hj:=BO (F:=F) (l:=l) hT;have ho:Hd LO (ts (dF F [iJ] f.on)++(ts (l.flatMap (rR F))++T)):=Ed hj;have e:ts ((f::l).flatMap (rR F))++T=ts (if f.join=1 then [pw true mQ,pw true hU] else [pw true hU])++(ts (gW F true f)++(ts (dF F [iJ] f.on)++(ts (l.flatMap (rR F))++T))):=by
   rw[rN,dY];unfold rR;rw[dY,dY]
  obtain⟨p1,h1⟩:=GC h hf p ho;obtain⟨p2,h2⟩:=aGn h hf p1 hj;obtain⟨p3,h3⟩:=CS h hT l p2 fun g hg=>hl g (iD _ hg);rw[e];refine⟨p3,fun n hn=>.cons ?_ (h3 n hn)⟩;rcases hf.1 with hj0|hj1
  ·rw[if_neg (by omega)];have:=TH (x:=(1,hU)) (T:=ts (gW F true f)++(ts (dF F [iJ] f.on)++(ts (l.flatMap (rR F))++T))) (s:=aO.mk 0 f.name f.sub f.az []) rfl rfl (show aT [(1,hU)] hU=true by decide+kernel) (h1 n hn) (h2 n (by omega));have ef:f=aO.mk 0 f.name f.sub f.az f.on:=by cases f;simp only at hj0;rw[hj0]
   rw[ef];exact this
  ·rw[if_pos hj1];have:=TG (x:=(1,mQ)) (y:=(1,hU)) (T:=ts (gW F true f)++(ts (dF F [iJ] f.on)++(ts (l.flatMap (rR F))++T))) (s:=aO.mk 0 f.name f.sub f.az []) rfl rfl (show aT [(1,mQ)] hU=false by decide+kernel) (show aT [(1,mQ)] Oe=false by decide+kernel) (show aT [(1,mQ)] Of=false by decide+kernel) (show aT [(1,mQ)] mQ=true by decide+kernel) (show aT [(1,hU)] FA=false by decide+kernel) (show aT [(1,hU)] hU=true by decide+kernel) (h1 n hn) (h2 n (by omega));have ef:f=aO.mk 1 f.name f.sub f.az f.on:=by cases f;simp only at hj1;rw[hj1]
   rw[ef];exact this
def Zz:∀l:List aO,l.length<=(ts (l.flatMap (rR F))).length
 |[]=>kK _
 |f::l=>by
  have:=Zz l;have h1:1<=(rR F f).length:=by unfold rR;split<;>simp<;>omega
  rw[rN];simp only[ts,eK,bH,gI,bF] at*;omega
def aAa (h:RF F M N) {l:List aO} (hl:∀f∈l,rF M f) (h0:∀f l',l=f::l'->f.join=0∧f.on=[]) (hT:Hd LW T) (p:Int):∃p',∀n,N+2<=n->Vn (bD.fix n) (ts (vO F l)++T) p l T p':=by
 cases l with
 |nil=>exact⟨p,fun n hn=>.inl ⟨rfl,hT.oO oI,rfl,rfl⟩⟩
 |cons f l=>
  obtain⟨f1,f2⟩:=h0 f l rfl;have hf:=hl f (lK ..);have hj:=BO (F:=F) (l:=l) hT;obtain⟨p1,h1⟩:=GC h hf p (hj.mono (L':=LO));obtain⟨p2,h2⟩:=CS h hT l p1 fun g hg=>hl g (iD _ hg);have ef:aO.mk 0 f.name f.sub f.az []=f:=by cases f;simp only at f1 f2;rw[f1,f2]
  rw[ef] at h1;have e:ts (vO F (f::l))++T=(1,oI)::(ts (gW F true f)++(ts (l.flatMap (rR F))++T)):=by
   show ts (pw true oI::(gW F true f++(dF F [iJ] f.on++l.flatMap (rR F))))++T=_;rw[lS,dY,dY,f2];rfl
  rw[e];by_cases hlen:l.length<=1000000
  ·exact⟨p2,fun n hn=>.inr ⟨_,_,rfl,(show aT [(1,oI)] oI=true by decide+kernel),LM h1 h2 hlen n hn⟩⟩
  ·have:=Zz (F:=F) l;exact⟨0,fun n hn=>.inr ⟨_,_,rfl,(show aT [(1,oI)] oI=true by decide+kernel),fP.xQ (by simp only[bH];omega)⟩⟩
def ZS {l:List aO} (hT:Hd LW T):Hd LF (ts (vO F l)++T):=by
 cases l with
 |nil=>exact hT.mono
 |cons f l=>exact rO (t:=(1,oI)) _
def YC (h:RF F M N) {g o:List aA} (hg:∀x∈g,M.ex x) (ho:o=[]∨(g≠[]∧∃x,o=[x]∧M.ex x)) (hT:Hd LC T) (p:Int):∃p',∀n,N+1<=n->Ue (bD.fix n) (ts (dF F [lF,lB] g)++(ts (dF F [oB] o)++T)) p g o T p':=by
 cases g with
 |nil=>
  have:o=[]:=by rcases ho with h|⟨h,_⟩;exact h;exact absurd rfl h
  subst this;exact⟨p,fun n hn=>.inl ⟨rfl,rfl,hT.oO lF,rfl,rfl⟩⟩
 |cons x l=>
  have hH:Hd LH (ts (dF F [oB] o)++T):=Ed hT;obtain⟨p1,h1⟩:=Ry h hg hH.qE (hH.noL [eU]) true p;obtain⟨p2,h2⟩:=Ul (w:=oB) h (ho.imp id fun h=>h.2) hT.qE (hT.oO oB) p1;have e:ts (dF F [lF,lB] (x::l))++(ts (dF F [oB] o)++T)=(1,lF)::(1,lB)::(ts (cK F.tx true (x::l))++(ts (dF F [oB] o)++T)):=rfl;rw[e];exact⟨p2,fun n hn=>.inr ⟨_,_,_,_,p1,rfl,(show aT [(1,lF)] lF=true by decide+kernel),(show aT [(1,lB)] lB=true by decide+kernel),h1 n hn,h2 n (by omega)⟩⟩
def VI {g o:List aA} (ho:o=[]∨(g≠[]∧∃x,o=[x]∧M.ex x)) (hT:Hd LC T):Hd LG (ts (dF F [lF,lB] g)++(ts (dF F [oB] o)++T)):=by
 cases g with
 |nil=>
  have:o=[]:=by rcases ho with h|⟨h,_⟩;exact h;exact absurd rfl h
  subst this;exact hT.mono
 |cons x l=>exact rO (t:=(1,lF)) _
def Ki:Prop:=∀(F:eA) (M:iP) (N:Nat),RF F M N->∀(P:aK),P.values≠[]->P=aK.mk P.comp false [] [] [] [] [] P.values->(∀row∈P.values,row≠[]∧row.length=(P.values.getD 0 []).length∧∀x∈row,M.ex x)->∀(b:Bool) (T:List Tk) (p:Int),Hd LC T->∃p',aZ (·.p91_1) (N+10) (ts (eO F b P)++T) p (uY 0 P) T p'
def RR (h:RF F M N) {it:bA} (hit:xF M it) (b:Bool) (X:List Tk):aT (ts (gH F b it)++X) kT=false∧aT (ts (gH F b it)++X) sB=false:=by
 unfold gH;rcases hit with⟨g1,g2,g3,g4⟩|⟨g1,g2,g3,x,g4,g5⟩
 ·rw[g1,if_pos rfl];split
  ·exact⟨rfl,rfl⟩
  ·rename_i hne;rcases g4 with g4|g4
   ·exact absurd g4 hne
   exact⟨yK g4 _,yK g4 _⟩
 ·rw[g1,if_neg (by decide),g4,show([x].getD 0 aA.z)=x from rfl,dY];obtain⟨t,Q,e1,e2⟩:=Cn h g5 b (ts (mS it.az)++X);rw[e1];exact⟨(xG e2).2.2.1,(xG e2).2.2.2.1⟩
def AW (h:RF F M N) (hV:Ki) {P:aK} (hP:nA M P) (b:Bool) (p:Int) (hT:Hd LC T):∃p',aZ (·.p91_1) (N+10) (ts (eO F b P)++T) p (uY 0 P) T p':=by
 rcases hP with⟨h1,h2,h3⟩|⟨h1,h2,h3,h4,h5,h6,h7,h8⟩
 ·exact hV F M N h P h1 h2 h3 b T p hT
 ·unfold eO;rw[if_pos h1];have a2:=VI (F:=F) h8 hT;have a3:Hd LW (ts (dF F [oF] P.where_)++(ts (dF F [lF,lB] P.group)++(ts (dF F [oB] P.having)++T))):=Ed a2;have a4:=ZS (F:=F) (l:=P.from_) a3;cases hi:P.items with
  |nil=>exact absurd hi h2
  |cons it l=>
   rw[hi] at h3;obtain⟨p1,k1⟩:=XZ h h3 a4 p;obtain⟨p2,k2⟩:=aAa h h4 h5 a3 p1;obtain⟨p3,k3⟩:=Ul (w:=oF) h h6 a2.qE (a2.oO oF) p2;obtain⟨p4,k4⟩:=YC h h7 h8 hT p3;have hhead:hX [(1,oT)]=false->True:=fun _=>trivial;have hd:HS (ts (if P.distinct=true then [pw true kT] else [])++(ts (cK (gH F) true (it::l))++(ts (vO F P.from_)++(ts (dF F [oF] P.where_)++(ts (dF F [lF,lB] P.group)++(ts (dF F [oB] P.having)++T)))))) P.distinct (ts (cK (gH F) true (it::l))++(ts (vO F P.from_)++(ts (dF F [oF] P.where_)++(ts (dF F [lF,lB] P.group)++(ts (dF F [oB] P.having)++T))))):=by
    cases P.distinct with
    |true=>exact .inl ⟨rfl,_,rfl,(show aT [(1,kT)] kT=true by decide+kernel)⟩
    |false=>
     refine .inr ⟨rfl,rfl,?_⟩;have hit:=h3 it (lK ..);show aT (ts (cK (gH F) true (it::l))++_) kT=false∧aT (ts (cK (gH F) true (it::l))++_) sB=false;rw[show cK (gH F) true (it::l)=gH F true it++fO (gH F) l from rfl,dY];exact RR h hit true _
   have:=OH (N:=N+2) (x:=(1,oT)) (by exact(show aT [(1,oT)] oA=false by decide+kernel)) (by exact(show aT [(1,oT)] oT=true by decide+kernel)) hd k1 k2 (fun n hn=>k3 n (by omega)) (fun n hn=>k4 n (by omega));refine⟨p4,?_⟩;rw[lS,dY,dY,dY,dY,dY];have eP:uY 0 P=aK.mk 0 P.distinct (it::l) P.from_ P.where_ P.group P.having []:=by rw[<-hi,<-h1];rfl
   rw[eP];exact this.le (by omega)
def Rl (P:aK) (b:Bool):∃t Q,eO F b P=(b,t)::Q∧(aT [t] oT||aT [t] oA)=true∧aT [t] sB=false:=by
 unfold eO;split
 ·exact⟨_,_,rfl,by decide+kernel,by decide+kernel⟩
 ·exact⟨_,_,rfl,by decide+kernel,by decide+kernel⟩
def rQ (F:eA) (P:aK):List Pc:=uJ P.comp.toNat++eO F true P
def CA {l:List aK} (hl:∀r∈l,1<=r.comp∧r.comp<=4∧nA M r) (hT:Hd L1 T):Hd LC (ts (l.flatMap (rQ F))++T):=by
 cases l with
 |nil=>exact hT.mono
 |cons r l=>
  obtain⟨c1,c2,_⟩:=hl r (lK ..);rw[rN];unfold rQ;have:r.comp.toNat=1∨r.comp.toNat=2∨r.comp.toNat=3∨r.comp.toNat=4:=by omega
  rcases this with e|e|e|e<;>rw[e]
  ·exact rO (t:=(1,kL)) _
  ·exact rO (t:=(1,kL)) _
  ·exact rO (t:=(1,nJ)) _
  ·exact rO (t:=(1,oC)) _
def CT (h:RF F M N) (hV:Ki) (hT:Hd L1 T):∀(l:List aK) (p:Int),(∀r∈l,1<=r.comp∧r.comp<=4∧nA M r)->∃p',∀n,N+10<=n->Fm (bD.fix n) (ts (l.flatMap (rQ F))++T) p l T p'
 |[],p,_=>⟨p,fun n hn=>.nil⟩
 |r::l,p,hl=>by
  obtain⟨c1,c2,hr⟩:=hl r (lK ..);have hl':∀r∈l,1<=r.comp∧r.comp<=4∧nA M r:=fun g hg=>hl g (iD _ hg);have hh:=CA (F:=F) hl' hT;obtain⟨p1,h1⟩:=AW h hV hr true p hh;obtain⟨p2,h2⟩:=CT h hV hT l p1 hl';have e:ts ((r::l).flatMap (rQ F))++T=ts (uJ r.comp.toNat)++(ts (eO F true r)++(ts (l.flatMap (rQ F))++T)):=by
   rw[rN,dY];unfold rQ;rw[dY]
  obtain⟨t,Q,f1,f2,f3⟩:=Rl (F:=F) r true;have hall:aT (ts (eO F true r)++(ts (l.flatMap (rQ F))++T)) sB=false:=by rw[f1];exact f3
  have hc:yZ (ts (uJ r.comp.toNat)++(ts (eO F true r)++(ts (l.flatMap (rQ F))++T))) r.comp true (ts (eO F true r)++(ts (l.flatMap (rQ F))++T)):=by
   have:r.comp=1∨r.comp=2∨r.comp=3∨r.comp=4:=by omega
   rcases this with e|e|e|e<;>rw[e]
   ·exact OZ (x:=(1,kL)) (show aT [(1,kL)] kL=true by decide+kernel) hall
   ·exact VR (x:=(1,kL)) (y:=(1,sB)) (show aT [(1,kL)] kL=true by decide+kernel) (show aT [(1,sB)] sB=true by decide+kernel)
   ·exact LE (x:=(1,nJ)) (show aT [(1,nJ)] kL=false by decide+kernel) (show aT [(1,nJ)] nJ=true by decide+kernel)
   ·exact MZ (x:=(1,oC)) (show aT [(1,oC)] kL=false by decide+kernel) (show aT [(1,oC)] nJ=false by decide+kernel) (show aT [(1,oC)] oC=true by decide+kernel)
  rw[e];have er:r=uY r.comp (uY 0 r):=by cases r;rfl
  refine⟨p2,fun n hn=>?_⟩;rw[er];exact .cons hc (h1 n hn) (h2 n hn)
def AF:∀l:List aK,l.length<=(ts (l.flatMap (rQ F))).length
 |[]=>kK _
 |f::l=>by
  have:=AF l;obtain⟨t,Q,f1,_⟩:=Rl (F:=F) f true;have h1:1<=(rQ F f).length:=by unfold rQ;rw[f1,bH,bF];omega
  rw[rN];simp only[ts,eK,bH,gI,bF] at*;omega
def aAc (h:RF F M N) (hV:Ki) {q:aF} (hq:uL M q) (hw:q.with_=[]) (hT:Hd LQ T) (b:Bool) (p:Int):∃p',aZ (·.p50_1) (N+20) (ts (pD F b q)++T) p q T p':=by
 obtain⟨_,⟨P,l,h2,h3,h4,h5⟩,h6,h7⟩:=hq;have a2:=VA (F:=F) h7 hT;have a1:=UJ (F:=F) (l:=q.order) a2;have a0:=CA (F:=F) h5 a1;obtain⟨p1,k1⟩:=AW h hV h4 b p a0;obtain⟨p2,k2⟩:=CT h hV a1 l p1 h5;obtain⟨p3,k3⟩:=XX h h6 a2 p2;obtain⟨p4,k4⟩:=XY h h7 hT p3;have e:ts (pD F b q)++T=ts (eO F b P)++(ts (l.flatMap (rQ F))++(ts (vF F q.order)++(ts (dF F [kM] q.limit)++(ts (dF F [kU] q.offset)++T)))):=by
  unfold pD;rw[h2];show ts ((eO F b P++l.flatMap (rQ F))++_)++T=_;rw[dY,dY,dY,dY]
 have e0:uY 0 P=P:=by unfold uY;cases P;simp only at h3;rw[h3]
 rw[e0] at k1;rw[e];by_cases hlen:l.length<=1000000
 ·have:=MM (N:=N+10) k1 k2 hlen (SI (a1.oO kL) (a1.oO nJ) (a1.oO oC)) (fun n hn=>k3 n (by omega)) (fun n hn=>k4 n (by omega));have eq:q=aF.mk [] (P::l) q.order q.limit q.offset:=by cases q;simp only at hw h2;rw[hw,h2]
  rw[<-eq] at this;exact⟨p4,this.le (by omega)⟩
 ·have:=AF (F:=F) l;exact⟨0,aZ.xQ (by simp only[bH];omega)⟩
def ZY {q:aF} (hq:uL M q) (b:Bool):∃t Q,pD F b q=(b,t)::Q∧(aT [t] oT||aT [t] oA)=true:=by
 obtain⟨_,⟨P,l,h2,_⟩,_⟩:=hq;obtain⟨t,Q,f1,f2,_⟩:=Rl (F:=F) P b;unfold pD;rw[h2];exact⟨t,_,by show(eO F b P++_)++_=_;rw[f1];rfl,f2⟩
def EA (hO:Di) (hV:Ki):∀n,RF (oM n) (uO n) (40*n)
 |0=>⟨fun e h=>(by cases h),fun e h=>(by cases h),fun e h=>(by cases h),fun q h=>(by cases h),fun q h=>(by cases h),fun e h=>(by cases h),fun e h=>(by cases h)⟩
 |n+1=>by
  have ih:=EA hO hV n;refine⟨fun e he b T p hT=>?_,fun e he hc b T p hT=>?_,fun e he b=>?_,fun q hq hw b T p hT=>?_,fun q hq hw b=>?_,fun e he b T hT=>?_,fun e he b T=>?_⟩
  ·obtain⟨p',h1⟩:=aAb ih hO he hT b p;exact⟨p',h1.le (by omega)⟩
  ·obtain⟨p',h1⟩:=AY ih hO he hc hT b p;exact⟨p',h1.le (by omega)⟩
  ·exact Th ih hO he b
  ·have hH:Hd LQ T:=by
    rcases hT with rfl|⟨T',rfl⟩
    ·exact .inl rfl
    ·exact rO _
   obtain⟨p',h1⟩:=aAc ih hV hq hw hH b p;refine⟨p',?_⟩;have e:(oM (n+1)).se b q=pD (oM n) b q:=by
    show qK (oM n) b q=_;unfold qK;rw[if_pos hw]
   rw[e];exact h1.le (by omega)
  ·have e:(oM (n+1)).se b q=pD (oM n) b q:=by
    show qK (oM n) b q=_;unfold qK;rw[if_pos hw]
   rw[e];exact ZY hq b
  ·exact(EF ih hO he b hT).1
  ·have:∀T:List Tk,oU (ts (mF (oM n) b e)++T):=by
    intro T;have:=(EF (T:=[]) ih hO he b (by decide+kernel)).2;obtain⟨t,Q,e1,_⟩:=Th ih hO he b;rw[e1] at this ⊢;exact this
   exact this T
end
section
variable {T T' T1:List Tk} {p p' p1:Int} {N:Nat} {F:bD} {G:eA} {M:iP}
def PW {long:Int} {vs:List aA} (h:vU F.p15_1 T p vs T' p'):∀(acc:List aA) (m:Nat),vs.length<m->(acc.length+vs.length)*136<=140737488355328->((acc.length+vs.length:Nat):Int)<=long->∀l i,At l i T->
 ∃j:Nat,At l j T'∧cF (Fp F long) m (acc,aD.mk l (i:Int) p)=some (.ok (acc++vs,aD.mk l (j:Int) p')):=by
 induction h with
 |nil h0=>
  intro acc m hm hsz hlong l i hA;obtain⟨k,rfl⟩:∃k,m=k+1:=⟨m-1,by simp at hm;omega⟩;refine⟨i,hA,?_⟩;rw[eX];unfold Fp;dsimp only;rw[gL];cases decide ((acc.length:Int)<long) with
  |false=>rw[aQ]
  |true=>
   rw[bL,show eR _ _=_ from oD hA h0,aN];dsimp only;rw[aQ]
 |cons h0 hf hm ih=>
  rename_i x T0 T1' T'' p0 p1' p'' v vs;intro acc m hm' hsz hlong l i hA;simp only[bF] at hm' hsz hlong;obtain⟨k,rfl⟩:∃k,m=k+1:=⟨m-1,by omega⟩;obtain⟨j,hj,e⟩:=hf l (i+1) hA.next;obtain⟨j',hj',e'⟩:=ih (acc++[v]) k (by omega) (by simp only[bH,bF,bS];rw[show acc.length+(0+1)+vs.length=acc.length+(vs.length+1) by omega];exact hsz) (by simp only[bH,bF,bS];rw[show acc.length+(0+1)+vs.length=acc.length+(vs.length+1) by omega];exact hlong) l j hj;refine⟨j',hj',?_⟩;have hlt:decide ((acc.length:Int)<long)=true:=by
   rw[pJ];clear hsz;omega
  rw[eX];unfold Fp;dsimp only;rw[hlt,bL,show eR _ _=_ from wX hA h0,aN];dsimp only;rw[bL,e,cH,bV (xX (rL _ (by omega)) hsz)];refine jF e' ?_;rw[fS];rfl
def NM {vals:List (List aA)} {v:aA} {vs:List aA} (h:fP F.p15_1 T p v T1 p1) (hm:vU F.p15_1 T1 p1 vs ((6,cB)::T') p') (hl:vs.length<=1000000) (hv:vals.length<=1000000) (hlong:vals=[]∨Aj vals=((vs.length+1:Nat):Int)):fP (vV F vals) ((6,cL)::T) p (v::vs) T' p':=by
 intro l i hA;obtain⟨j,hj,e⟩:=h l (i+1) hA.next;have hle:(([v].length+vs.length:Nat):Int)<=Aj vals:=by
  rcases hlong with rfl|h1
  ·show(([v].length+vs.length:Nat):Int)<=9223372036854775807;simp only[bF,bS];omega
  ·rw[h1];simp only[bF,bS];omega
 obtain⟨k,hk,e'⟩:=PW hm [v] bQ (by unfold bQ;omega) (by simp only[bF,bS];omega) hle l j hj;refine⟨_,hk.next,?_⟩;have hcond:(decide ((vals.length:Int)>0)&&decide (((([v]++vs).length:Nat):Int)<Aj vals))=false:=by
  rcases hlong with rfl|h1
  ·rfl
  ·rw[h1,Bool.and_eq_false_iff];refine .inr ?_;rw[pZ,bH,bF,bS];omega
 unfold vV;rw[show fJ _ _=_ from mD hA rfl,cH]
 try dsimp only
 rw[e,cH]
 try dsimp only
 rw[e',cH]
 try dsimp only
 rw[hcond,aQ,show fJ _ _=_ from mD hk rfl,cH,bV (by omega)];rfl
inductive Fk (F:bD) (n:Nat):List Tk->Int->List (List aA)->List Tk->Int->Prop where
 |nil {T:List Tk} {p:Int}:cQ T [eU]=false->Fk F n T p [] T p
 |cons {T T1 T':List Tk} {p p1 p':Int} {r:List aA} {rs:List (List aA)}:(∀vals:List (List aA),vals.length<=1000000->Aj vals=(n:Int)->fP (vV F vals) T p r T1 p1)->Fk F n T1 p1 rs T' p'->Fk F n ((6,eU)::T) p (r::rs) T' p'
def OO {n:Nat} {rs:List (List aA)} (h:Fk F n T p rs T' p'):∀(r0:List aA) (acc:List (List aA)) (m:Nat),r0.length=n->rs.length<m->(acc.length+1+rs.length)<=1000000->∀l i,At l i T->
 ∃j:Nat,At l j T'∧cF (Ez F) m (r0::acc,aD.mk l (i:Int) p)=some (.ok (r0::acc++rs,aD.mk l (j:Int) p')):=by
 induction h with
 |nil h0=>
  intro r0 acc m hr hm hsz l i hA;obtain⟨k,rfl⟩:∃k,m=k+1:=⟨m-1,by simp at hm;omega⟩;refine⟨i,hA,?_⟩;rw[eX];unfold Ez;dsimp only;rw[show eR _ _=_ from oD hA h0,aN];dsimp only;rw[aQ,gL]
 |cons hf hm ih=>
  rename_i T0 T1' T'' p0 p1' p'' r rs;intro r0 acc m hr hm' hsz l i hA;simp only[bF] at hm' hsz;obtain⟨k,rfl⟩:∃k,m=k+1:=⟨m-1,by omega⟩;obtain⟨j,hj,e⟩:=hf (r0::acc) (by simp only[bF];omega) (by show(r0.length:Int)=_;rw[hr]) l (i+1) hA.next;obtain⟨j',hj',e'⟩:=ih r0 (acc++[r]) k hr (by omega) (by simp only[bH,bF,bS];omega) l j hj;refine⟨j',hj',?_⟩;rw[eX];unfold Ez;dsimp only;rw[show eR _ _=_ from wX hA rfl,aN];dsimp only;rw[bL,e,cH,bV (by simp only[bF];omega)];refine jF e' ?_;simp
def LX {r:List aA} {rs:List (List aA)} (h:fP (vV F []) T p r T1 p1) (hm:Fk F r.length T1 p1 rs T' p') (hl:rs.length<=900000):fP (Cl F) T p (aK.mk 0 false [] [] [] [] [] (r::rs)) T' p':=by
 intro l i hA;obtain⟨j,hj,e⟩:=h l i hA;obtain⟨k,hk,e'⟩:=OO hm r [] bQ rfl (by unfold bQ;omega) (by simp only[bS];omega) l j hj;refine⟨k,hk,?_⟩;unfold Cl;rw[e,cH]
 try dsimp only
 rw[e',cH];rfl
def MO {x:Tk} {P:aK} (h0:aT (x::T) oA=true) (h:∀n,N<=n->fP (Cl (bD.fix n)) T p P T' p'):aZ (·.p91_1) (N+1) (x::T) p P T' p':=aZ.succ (b:=Ap) (fun _=>rfl) fun n hn=>by
 intro l i hA;obtain⟨j,hj,e⟩:=h n hn l (i+1) hA.next;refine⟨j,hj,?_⟩;unfold Ap;rw[show cE _ _=_ from fU hA h0,aN];dsimp only;rw[bL,e,cH]
def GD {vals:List (List aA)} (h:RF G M N) {row:List aA} (hr:row≠[]) (hM:∀x∈row,M.ex x) (b:Bool) (p:Int) (T:List Tk):∃p',∀vals:List (List aA),vals.length<=1000000->(vals=[]∨Aj vals=(row.length:Int))->∀n,N<=n->fP (vV (bD.fix n) vals) (ts (iU G b row)++T) p row T p':=by
 cases row with
 |nil=>exact absurd rfl hr
 |cons x l=>
  have hT:qE ((6,cB)::T)=true:=Ei;obtain⟨h1,_⟩:=wZ (f:=(·.p15_1)) (N:=N) (g:=G.tx) (Stop:=fun T=>qE T=true) (fun _=>Mv) hT rfl l p fun y hy b T p hs=>h.ex y (hM y (iD _ hy)) b T p hs
  obtain⟨p1,h2⟩:=h.ex x (hM x (lK ..)) false _ p h1;obtain⟨_,p2,h3⟩:=wZ (f:=(·.p15_1)) (N:=N) (g:=G.tx) (Stop:=fun T=>qE T=true) (fun _=>Mv) hT rfl l p1 fun y hy b T p hs=>h.ex y (hM y (iD _ hy)) b T p hs
  have e:ts (iU G b (x::l))++T=(6,cL)::(ts (G.tx false x)++(ts (fO G.tx l)++((6,cB)::T))):=by
   show(6,cL)::(ts ((G.tx false x++fO G.tx l)++[ps false cB])++T)=_;rw[dY,dY];rfl
  by_cases hlen:l.length<=1000000
  ·refine⟨p2,fun vals hv hlong n hn=>?_⟩;rw[e];exact NM (h2 n hn) (h3 n hn) hlen hv hlong
  ·refine⟨0,fun vals hv hlong n hn=>fP.xQ ?_⟩;have:=Bt (g:=G.tx) l;rw[e];simp only[bF,bH];omega
def EE (h:RF G M N) {k:Nat} (hT:cQ T [eU]=false):∀(l:List (List aA)) (p:Int),(∀row∈l,row≠[]∧row.length=k∧∀x∈row,M.ex x)->∃p',∀n,N<=n->Fk (bD.fix n) k (ts (fO (iU G) l)++T) p l T p'
 |[],p,_=>⟨p,fun n hn=>.nil hT⟩
 |r::l,p,hl=>by
  obtain⟨g1,g2,g3⟩:=hl r (lK ..);obtain⟨p1,h1⟩:=GD (vals:=[]) h g1 g3 true p (ts (fO (iU G) l)++T);obtain⟨p2,h2⟩:=EE h hT l p1 fun y hy=>hl y (iD _ hy);have e:ts (fO (iU G) (r::l))++T=(6,eU)::(ts (iU G true r)++(ts (fO (iU G) l)++T)):=by
   show(6,eU)::(ts (iU G true r++fO (iU G) l)++T)=_;rw[dY]
  rw[e];exact⟨p2,fun n hn=>.cons (fun vals hv hlong=>h1 vals hv (.inr (by rw[hlong,g2])) n hn) (h2 n hn)⟩
def k9:Ki:=by
 intro G M N h P hne hP hrows b T p hT;cases hv:P.values with
 |nil=>exact absurd hv hne
 |cons r l=>
  rw[hv] at hrows hP;obtain⟨g1,g2,g3⟩:=hrows r (lK ..);have hl:∀row∈l,row≠[]∧row.length=r.length∧∀x∈row,M.ex x:=fun y hy=>hrows y (iD _ hy);obtain⟨p1,h1⟩:=GD (vals:=[]) h g1 g3 true p (ts (fO (iU G) l)++T);obtain⟨p2,h2⟩:=EE h (hT.noL [eU]) l p1 hl;have e:ts (eO G b P)++T=(1,oA)::(ts (iU G true r)++(ts (fO (iU G) l)++T)):=by
   unfold eO;rw[if_neg hne,hv];show(1,oA)::(ts (iU G true r++fO (iU G) l)++T)=_;rw[dY]
  have eP:uY 0 P=aK.mk 0 false [] [] [] [] [] (r::l):=by rw[hP];rfl
  rw[e,eP];by_cases hlen:l.length<=900000
  ·exact⟨p2,(MO (x:=(1,oA)) (N:=N) (by exact(by decide+kernel:aT [(1,oA)] oA=true)) fun n hn=>LX (h1 [] (by simp) (.inl rfl) n hn) (h2 n hn) hlen).le (by omega)⟩
  ·refine⟨0,aZ.xQ ?_⟩;have:=Bt (g:=iU G) l;simp only[bF,bH];omega
end
def aD9 (n:Nat):GF (oM n) (uO n):=EO UR aBf n
def aDr (n:Nat):RF (oM n) (uO n) (40*n):=EA aDs k9 n
def mn0 (n:Nat):dW (kD 0 0) (n:Int)=0:=by unfold dW kD;simp;omega
def MP {e:aA} {n:Nat} (he:(uO n).ex e) (hn:40*n<=bQ) {x:ByteArray} (hx:x.data.toList=aG ((oM n).tx false e)) (hs:x.size<=2000) {d:Int} (hd:Px e=some d) (hd2:d<=12):s7 x=some (e,0,0):=by
 obtain⟨⟨t,P,e1⟩,hg⟩:=(aD9 n).ex e he false [] rfl;rw[e1] at hx hg;obtain⟨l,hsc,hA⟩:=QJ (b:=false) hg hx hs;obtain⟨p',hr⟩:=(aDr n).ex e he false [] 0 (by decide+kernel);rw[e1,gL] at hr;obtain⟨j,hj,h1⟩:=hr bQ hn l 0 hA;have hjn:=hj.nil;have h2:Oo (aD.mk l 0 0)=some (.ok (e,aD.mk l (j:Int) p')):=h1;have h3:Ia Oo l 0 0=some (e,aD.mk l (j:Int) p',0):=by
  unfold Ia;rw[mn0,h2];rfl
 have h4:Jn x=some (e,0,0):=by
  unfold Jn;rw[hsc,aN];dsimp only;rw[show((0:Int) != 0)=false from rfl,aQ,h3,aN,bY];dsimp only;rw[show((0:Int) != 0)=false from rfl,aQ,show decide ((j:Int)<(l.length:Int))=false by rw[pZ];omega,aQ,hd,aN,show decide (d>12)=false by rw[pZ];omega,aQ]
 unfold s7;rw[h4,aN]
section
variable {T T':List Tk} {p p':Int} {n:Nat}
end
section
variable {F:eA} {M:iP} {R:List Pc}
abbrev aS (l:List UInt8):ByteArray:=ByteArray.mk l.toArray
def BH (l:List UInt8):(aS l).size=l.length:=by rw[<-lO]
def cR (a b:List UInt8):aS a++aS b=aS (a++b):=by
 apply ByteArray.ext;rw[ByteArray.data_append];simp
def cT {α:Type} {k:Option α} (a b:List UInt8) (h:a.length+b.length<=1000000000):aR ((aS a).size+(aS b).size<=maxLen) k=k:=bV (by rw[BH,BH];unfold maxLen;omega)
structure BL (F:eA) (M:iP):Prop where
 ex:∀e,M.ex e->aG (F.tx true e)=32::aG (F.tx false e)
 se:∀q,M.se q->aG (F.se true q)=32::aG (F.se false q)
def yM (h:BL F M) {e:aA} (he:M.ex e):aG (aW F true e)=32::aG (aW F false e):=by
 unfold aW;cases hc:nL e with
 |true=>exact h.ex e he
 |false=>rfl
def yS {A B R:List Pc} (h:aG A=32::aG B):aG (A++R)=32::aG (B++R):=by
 rw[dQ,h,dQ];rfl
def c9 (h:BL F M) {e:aA} (he:rD M e):aG (mF F true e)=32::aG (mF F false e):=by
 obtain⟨h0,ho,ha,hs⟩:=he;unfold mF;generalize e.op.toNat=k at ho ⊢;rcases yB ho with rfl|rfl|rfl|rfl|rfl|rfl|hk|rfl|rfl|rfl|rfl|rfl|rfl|rfl|rfl
 ·rfl
 ·show aG (if e.table.data.toList=[] then [pw true e.name] else [pw true e.table,ps false iM,pw false e.name])=32::aG (if e.table.data.toList=[] then [pw false e.name] else [pw false e.table,ps false iM,pw false e.name]);split<;>rfl
 ·rfl
 ·rfl
 ·rfl
 ·show aG (if(e.args.getD 0 aA.z).op=27 then pw true cN::ps true cL::(F.tx false (e.args.getD 0 aA.z)++[ps false cB]) else pw true cN::aW F true (e.args.getD 0 aA.z))=32::aG (if(e.args.getD 0 aA.z).op=27 then pw false cN::ps true cL::(F.tx false (e.args.getD 0 aA.z)++[ps false cB]) else pw false cN::aW F true (e.args.getD 0 aA.z));split<;>rfl
 ·obtain⟨a,c,e1,e2⟩:=By hk ho;rw[yJ hk,yJ hk];exact yS (yM h (ha _ (by rw[e1];simp)))
 ·obtain⟨a,c,d,e1⟩:=ho;exact yS (yM h (ha (e.args.getD 0 aA.z) (by rw[e1];simp)))
 ·have hx:e.args.getD 0 aA.z∈e.args:=by
   rcases ho with⟨a,l,e1⟩|⟨a,q,e1⟩<;>rw[e1]<;>simp
  exact yS (yM h (ha _ hx))
 ·show aG ((if e.not then [pw true cN,pw true eG] else [pw true eG])++_)=32::aG ((if e.not then [pw false cN,pw true eG] else [pw false eG])++_);cases e.not<;>rfl
 ·rfl
 ·rfl
 ·rfl
 ·obtain⟨a,e1,_⟩:=ho;exact yS (yM h (ha (e.args.getD 0 aA.z) (by rw[e1];simp)))
 ·rfl
def AK (P:aK):aG (eO F true P)=32::aG (eO F false P):=by
 unfold eO;split<;>rfl
def DM {q:aF} (hq:uL M q):aG (pD F true q)=32::aG (pD F false q):=by
 obtain⟨_,⟨P,l,h2,_⟩,_⟩:=hq;unfold pD;rw[h2];refine yS ?_;exact yS (AK P)
def aCe {q:aF} (hq:uL M q):aG (qK F true q)=32::aG (qK F false q):=by
 unfold qK;cases hw:q.with_ with
 |nil=>rw[if_pos rfl,if_pos rfl];exact DM hq
 |cons c l=>rw[if_neg (by simp),if_neg (by simp)];rfl
def Tu:∀n,BL (oM n) (uO n)
 |0=>⟨fun e h=>(by cases h),fun q h=>(by cases h)⟩
 |n+1=>⟨fun e he=>c9 (Tu n) he,fun q hq=>aCe hq⟩
def BK {α β R:Type} (l:List α) (z:α) (hn:l.length<=4611686018427387000) {b:(List β×Int->Option R)->List β×Int->Option R} {N:List β->Option R} (f:α->β)
 (hb:∀k (acc:List β) (i:Nat),i<l.length->acc.length=i->b k (acc,(i:Int))=k (acc++[f (l.getD i z)],((i+1:Nat):Int))) (he:∀k acc,b k (acc,(l.length:Int))=N acc):cF b bQ ([],0)=N (l.map f):=by
 have key:∀d i m acc,i+d=l.length->d<m->acc.length=i->cF b m (acc,(i:Int))=N (acc++(l.drop i).map f):=by
  intro d
  induction d with
  |zero=>
   intro i m acc hi hm ha;obtain rfl:i=l.length:=by omega
   cases m with
   |zero=>omega
   |succ m=>rw[eX,he,List.drop_length];simp
  |succ d ih=>
   intro i m acc hi hm ha;cases m with
   |zero=>omega
   |succ m=>
    have hi':i<l.length:=by omega
    have hg:l.getD i z=l[i]:=by rw[fR,fH hi',nH]
    rw[eX,hb _ acc i hi' ha,ih (i+1) m _ (by omega) (by omega) (by rw[bH,List.length_singleton];omega),tV hi',dG,fS,hg];rfl
 have:=key l.length 0 bQ [] (by omega) (by unfold bQ;omega) rfl;rw[kG,iY] at this;exact this
def Qw {α:Type} (f:Bool->α->List Pc) (x:α) (l:List α) (hf:∀y∈l,aG (f true y)=32::aG (f false y)):Lib.join ((x::l).map fun x=>aG (f false x)) [44,32]=aG (cK f false (x::l)):=by
 have tail:∀l:List α,(∀y∈l,aG (f true y)=32::aG (f false y))->aG (fO f l)=(l.map fun x=>[44,32]++aG (f false x)).flatten:=by
  intro l
  induction l with
  |nil=>intro _;rfl
  |cons y l ih=>
   intro hf;have e:fO f (y::l)=ps false eU::(f true y++fO f l):=rfl;rw[e,yE,dQ,hf y (lK ..),ih fun z hz=>hf z (iD _ hz)];rfl
 show _=aG (f false x++fO f l);rw[dQ,tail l hf];have jt:∀(a:List UInt8) (r:List (List UInt8)),Lib.join (a::r) [44,32]=a++(r.map ([44,32]++ ·)).flatten:=by
  intro a r
  induction r generalizing a with
  |nil=>rw[Lib.join_one];simp
  |cons b r ih=>
   have:Lib.join (a::b::r) [44,32]=a++[44,32]++Lib.join (b::r) [44,32]:=by
    simp[Lib.join,List.intercalate,List.intersperse]
   rw[this,ih];simp
 rw[dG,jt,List.map_map];rfl
def XQ (e:aA):La e=some (nL e):=by
 have hk:∀k:Nat,1<=k->(e.op==(k:Int))=(e.op.toNat==k):=by
  intro k hk;rw[Bool.eq_iff_iff,eM,eM];omega
 unfold La nL Ip;simp only[bY];rw[show(e.op==1)=(e.op.toNat==1) from hk 1 (by omega),show(e.op==2)=(e.op.toNat==2) from hk 2 (by omega),show(e.op==3)=(e.op.toNat==3) from hk 3 (by omega),show(e.op==28)=(e.op.toNat==28) from hk 28 (by omega),show(e.op==29)=(e.op.toNat==29) from hk 29 (by omega),show(e.op==30)=(e.op.toNat==30) from hk 30 (by omega),show(e.op==32)=(e.op.toNat==32) from hk 32 (by omega),show(e.op==27)=(e.op.toNat==27) from hk 27 (by omega)];cases (e.op.toNat==1)<;>cases (e.op.toNat==2)<;>cases (e.op.toNat==3)<;>cases (e.op.toNat==28)<;>cases (e.op.toNat==29)<;>cases (e.op.toNat==30)<;>cases (e.op.toNat==32)<;>cases (e.op.toNat==27)<;>rfl
end
section
variable {F:eA} {M:iP} {N m:Nat} {a c d:aA} {q:aF}
structure TF (F:eA) (M:iP) (N:Nat):Prop where
 tx:∀e,M.ex e->(aG (F.tx false e)).length<=1000000000->∀m,N<=m->(cO.fix m).p13 e=some (aS (aG (F.tx false e)))
 se:∀q,M.se q->(aG (F.se false q)).length<=1000000000->∀m,N<=m->(cO.fix m).p20 q=some (aS (aG (F.se false q)))
 bl:BL F M
def zS (P:List Pc):aG (ps false cL::(P++[ps false cB]))=[40]++aG P++[41]:=by
 rw[yE,dQ];show [40]++(aG P++[41])=_;simp
def sR (h:TF F M N) (ha:M.ex a) (hl:(aG (aW F false a)).length<=1000000000) (hm:N<=m):(cO.fix (m+1)).p34 a=some (aS (aG (aW F false a))):=by
 show Ls (cO.fix m) a=_;unfold Ls;rw[XQ,aN];unfold aW at hl ⊢;cases hc:nL a with
 |true=>
  rw[hc,if_pos rfl] at hl;rw[bL,if_pos rfl,h.tx a ha hl m hm,aN]
 |false=>
  rw[hc,if_neg (by simp),zS] at hl;simp only[bH,bF,bS] at hl;rw[aQ,if_neg (by simp),zS,h.tx a ha (by omega) m hm,aN,cT [40] _ (by simp only[bF,bS];omega),show(bm #[40])++aS (aG (F.tx false a))=aS ([40]++aG (F.tx false a)) from cR _ _,cT _ [41] (by simp only[bH,bF,bS];omega),show aS ([40]++aG (F.tx false a))++(bm #[41])=aS ([40]++aG (F.tx false a)++[41]) from cR _ _]
def Yg {α:Type} (f:Bool->α->List Pc) {x:α}:∀{l:List α},x∈l->(∀y∈l,aG (f true y)=32::aG (f false y))->(aG (f false x)).length<=(aG (fO f l)).length
 |y::l,hx,hf=>by
  have e:fO f (y::l)=ps false eU::(f true y++fO f l):=rfl;rw[e,yE,dQ,hf y (lK ..)];simp only[bH,bF];rcases oR.1 hx with rfl|hx
  ·omega
  ·have:=Yg f hx fun z hz=>hf z (iD _ hz);omega
def Xp {α:Type} (f:Bool->α->List Pc) {x:α} {l:List α} (hf:∀y∈l,aG (f true y)=32::aG (f false y)) (hx:x∈l):(aG (f false x)).length<=(aG (cK f false l)).length:=by
 cases l with
 |nil=>cases hx
 |cons y l=>
  show _<=(aG (f false y++fO f l)).length;rw[dQ,bH];rcases oR.1 hx with rfl|hx
  ·omega
  ·have:=Yg f hx fun z hz=>hf z (iD _ hz);omega
def Mn {α:Type} (f:Bool->α->List Pc) (l:List α) (hf:∀y∈l,aG (f true y)=32::aG (f false y)):l.length<=(aG (cK f false l)).length+1:=by
 cases l with
 |nil=>simp
 |cons y l=>
  have:∀l:List α,(∀y∈l,aG (f true y)=32::aG (f false y))->l.length<=(aG (fO f l)).length:=by
   intro l
   induction l with
   |nil=>simp
   |cons z l ih=>
    intro hf;have e:fO f (z::l)=ps false eU::(f true z++fO f l):=rfl;rw[e,yE,dQ,hf z (lK ..)];have:=ih fun w hw=>hf w (iD _ hw);simp only[bH,bF];omega
  have:=this l fun z hz=>hf z (iD _ hz);show _<=(aG (f false y++fO f l)).length+1;rw[dQ,bH,bF];omega
def Ib (h:TF F M N) {l:List aA} (hM:∀x∈l,M.ex x) (hl:(aG (cK F.tx false l)).length<=1000000000) (hm:N<=m):(cO.fix (m+1)).p36_1 l (bm #[44,32])=some (aS (aG (cK F.tx false l))):=by
 have hf:∀y∈l,aG (F.tx true y)=32::aG (F.tx false y):=fun y hy=>h.bl.ex y (hM y hy);have hlen:=Mn F.tx l hf;show Kb (cO.fix m) l (bm #[44,32])=_;unfold Kb;refine(BK l aA.z (by omega) (fun x=>aS (aG (F.tx false x))) (N:=fun acc=>call (uR acc (bm #[44,32])) fun y20=>some y20) (fun k acc i hi ha=>?_) (fun k acc=>?_)).trans ?_
 ·dsimp only;have hg:l.getD i aA.z∈l:=by
   rw[fR,fH hi,nH];exact sM hi
  have:=Xp F.tx hf hg;rw[show decide ((i:Int)<(l.length:Int))=true by rw[pJ];omega,bL,bV (by omega),cZ,h.tx _ (hM _ hg) (by omega) m hm,aN,bV (by omega),jW hi (by omega)]
 ·dsimp only;rw[show decide ((l.length:Int)<(l.length:Int))=false by rw[pZ];omega,aQ]
 ·have hj:Lib.join ((l.map fun x=>aS (aG (F.tx false x))).map (·.data.toList)) (bm #[44,32]).data.toList=aG (cK F.tx false l):=by
   rw[List.map_map];cases l with
   |nil=>rfl
   |cons x l=>exact Qw F.tx x l fun y hy=>hf y (iD _ hy)
  unfold uR;rw[bV (by rw[hj,gI];omega),hj,aN]
end
section
variable {F:eA} {M:iP} {N m:Nat} {a c d:aA} {q:aF}
def mO (b:Bool) (w:ByteArray) (P:List Pc):aG (pw b w::P)=(if b then [32] else [])++w.data.toList++aG P:=by cases b<;>rfl
def oH {e:aA}:(cO.fix (m+1)).p13 e=lC (cO.fix m) e:=rfl
def It (n:Bool):Dl n=some (aS (if n then [78,79,84,32] else [])):=by cases n<;>rfl
def aDg (h:TF F M N) (ha:M.ex a) (hl:(aG (dX F false (aA.mk 4 false eB eB 0 zV [a] []) 4)).length<=1000000000) (hm:N<=m):(cO.fix (m+2)).p13 (aA.mk 4 false eB eB 0 zV [a] [])=some (aS (aG (dX F false (aA.mk 4 false eB eB 0 zV [a] []) 4))):=by
 refine jF (oH (m:=m+1)) ?_;have e:aG (dX F false (aA.mk 4 false eB eB 0 zV [a] []) 4)=[45]++aG (aW F false a):=rfl;rw[e] at hl ⊢;simp only[bH,bF,bS] at hl;have hp:=sR h ha (by omega) hm;unfold lC;dsimp only;rw[wq 4 1 rfl,wq 4 2 rfl,wq 4 3 rfl,show((4:Int)==4)=true from rfl,bL,bV (by simp),show([a].getD 0 aA.z)=a from rfl,hp,aN,cT ([45]) (aG (aW F false a)) (by simp only[bH,bF,bS] at*;omega),show aS ([45])++aS (aG (aW F false a))=aS ([45]++aG (aW F false a)) from cR _ _]
def m9 (h:TF F M N) (ha:M.ex a) (hl:(aG (dX F false (aA.mk 5 false eB eB 0 zV [a] []) 5)).length<=1000000000) (hm:N<=m):(cO.fix (m+2)).p13 (aA.mk 5 false eB eB 0 zV [a] [])=some (aS (aG (dX F false (aA.mk 5 false eB eB 0 zV [a] []) 5))):=by
 refine jF (oH (m:=m+1)) ?_;have e:aG (dX F false (aA.mk 5 false eB eB 0 zV [a] []) 5)=[43]++aG (aW F false a):=rfl;rw[e] at hl ⊢;simp only[bH,bF,bS] at hl;have hp:=sR h ha (by omega) hm;unfold lC;dsimp only;rw[wq 5 1 rfl,wq 5 2 rfl,wq 5 3 rfl,wq 5 4 rfl,show((5:Int)==5)=true from rfl,bL,bV (by simp),show([a].getD 0 aA.z)=a from rfl,hp,aN,cT ([43]) (aG (aW F false a)) (by simp only[bH,bF,bS] at*;omega),show aS ([43])++aS (aG (aW F false a))=aS ([43]++aG (aW F false a)) from cR _ _]
def aDf (h:TF F M N) (ha:M.ex a) (hl:(aG (dX F false (aA.mk 6 false eB eB 0 zV [a] []) 6)).length<=1000000000) (hm:N<=m):(cO.fix (m+2)).p13 (aA.mk 6 false eB eB 0 zV [a] [])=some (aS (aG (dX F false (aA.mk 6 false eB eB 0 zV [a] []) 6))):=by
 refine jF (oH (m:=m+1)) ?_;by_cases h27:a.op=27
 ·have e:aG (dX F false (aA.mk 6 false eB eB 0 zV [a] []) 6)=[78,79,84,32,40]++aG (F.tx false a)++[41]:=by
   show aG (if a.op=27 then pw false cN::ps true cL::(F.tx false a++[ps false cB]) else pw false cN::aW F true a)=_;rw[if_pos h27];show [78,79,84]++([32,40]++aG (F.tx false a++[ps false cB]))=_;rw[dQ];show [78,79,84]++([32,40]++(aG (F.tx false a)++[41]))=_;simp
  rw[e] at hl ⊢;simp only[bH,bF,bS] at hl;have hp:=h.tx a ha (by omega) (m+1) (by omega);unfold lC;dsimp only;rw[wq 6 1 rfl,wq 6 2 rfl,wq 6 3 rfl,wq 6 4 rfl,wq 6 5 rfl,show((6:Int)==6)=true from rfl,bL,bV (by simp),show([a].getD 0 aA.z)=a from rfl,show(a.op==27)=true by simpa using h27,bL,bV (by simp),hp,aN,cT ([78,79,84,32,40]) (aG (F.tx false a)) (by simp only[bH,bF,bS] at*;omega),show aS ([78,79,84,32,40])++aS (aG (F.tx false a))=aS ([78,79,84,32,40]++aG (F.tx false a)) from cR _ _,cT ([78,79,84,32,40]++aG (F.tx false a)) ([41]) (by simp only[bH,bF,bS] at*;omega),show aS ([78,79,84,32,40]++aG (F.tx false a))++aS ([41])=aS (([78,79,84,32,40]++aG (F.tx false a))++[41]) from cR _ _]
 ·have e:aG (dX F false (aA.mk 6 false eB eB 0 zV [a] []) 6)=[78,79,84,32]++aG (aW F false a):=by
   show aG (if a.op=27 then pw false cN::ps true cL::(F.tx false a++[ps false cB]) else pw false cN::aW F true a)=_;rw[if_neg h27];show [78,79,84]++aG (aW F true a)=_;rw[yM h.bl ha];rfl
  rw[e] at hl ⊢;simp only[bH,bF,bS] at hl;have hp:=sR h ha (by omega) hm;unfold lC;dsimp only;rw[wq 6 1 rfl,wq 6 2 rfl,wq 6 3 rfl,wq 6 4 rfl,wq 6 5 rfl,show((6:Int)==6)=true from rfl,bL,bV (by simp),show([a].getD 0 aA.z)=a from rfl,show(a.op==27)=false by simpa using h27,aQ,bV (by simp),hp,aN,cT ([78,79,84,32]) (aG (aW F false a)) (by simp only[bH,bF,bS] at*;omega),show aS ([78,79,84,32])++aS (aG (aW F false a))=aS ([78,79,84,32]++aG (aW F false a)) from cR _ _]
def QE (h:TF F M N) (n:Bool) (ha:M.ex a) (hc:M.ex c) (hd:M.ex d) (hl:(aG (dX F false (aA.mk 25 n eB eB 0 zV [a,c,d] []) 25)).length<=1000000000) (hm:N<=m):(cO.fix (m+2)).p13 (aA.mk 25 n eB eB 0 zV [a,c,d] [])=some (aS (aG (dX F false (aA.mk 25 n eB eB 0 zV [a,c,d] []) 25))):=by
 refine jF (oH (m:=m+1)) ?_;have e:aG (dX F false (aA.mk 25 n eB eB 0 zV [a,c,d] []) 25)=((((((aG (aW F false a)++[32])++(if n then [78,79,84,32] else []))++[66,69,84,87,69,69,78,32])++aG (aW F false c))++[32,65,78,68,32])++aG (aW F false d)):=by
  show aG (aW F false a++(iV n++(pw true jG::(aW F true c++(pw true jB::aW F true d)))))=_;rw[dQ,dQ,mO,dQ,mO,yM h.bl hc,yM h.bl hd];cases n<;>simp[iV,aG,kC,dK]
 rw[e] at hl ⊢;have hl':=hl;simp only[bH,bF,bS] at hl';have hp:=sR h ha (by omega) hm;have hp2:=sR h hc (by omega) hm;have hp3:=sR h hd (by omega) hm;unfold lC;dsimp only;rw[wq 25 1 rfl,wq 25 2 rfl,wq 25 3 rfl,wq 25 4 rfl,wq 25 5 rfl,wq 25 6 rfl,show((25:Int)==25)=true from rfl,bL,bV (by simp),bV (by simp),bV (by simp),show([a,c,d].getD 0 aA.z)=a from rfl,show([a,c,d].getD 1 aA.z)=c from rfl,show([a,c,d].getD 2 aA.z)=d from rfl,hp,aN,cT (aG (aW F false a)) ([32]) (by simp only[bH,bF,bS] at*;omega),show aS (aG (aW F false a))++aS ([32])=aS (aG (aW F false a)++[32]) from cR _ _,It,aN,cT (aG (aW F false a)++[32]) (if n then [78,79,84,32] else []) (by simp only[bH,bF,bS] at*;omega),show aS (aG (aW F false a)++[32])++aS (if n then [78,79,84,32] else [])=aS ((aG (aW F false a)++[32])++(if n then [78,79,84,32] else [])) from cR _ _,cT ((aG (aW F false a)++[32])++(if n then [78,79,84,32] else [])) ([66,69,84,87,69,69,78,32]) (by simp only[bH,bF,bS] at*;omega),show aS ((aG (aW F false a)++[32])++(if n then [78,79,84,32] else []))++aS ([66,69,84,87,69,69,78,32])=aS (((aG (aW F false a)++[32])++(if n then [78,79,84,32] else []))++[66,69,84,87,69,69,78,32]) from cR _ _,hp2,aN,cT (((aG (aW F false a)++[32])++(if n then [78,79,84,32] else []))++[66,69,84,87,69,69,78,32]) (aG (aW F false c)) (by simp only[bH,bF,bS] at*;omega),show aS (((aG (aW F false a)++[32])++(if n then [78,79,84,32] else []))++[66,69,84,87,69,69,78,32])++aS (aG (aW F false c))=aS ((((aG (aW F false a)++[32])++(if n then [78,79,84,32] else []))++[66,69,84,87,69,69,78,32])++aG (aW F false c)) from cR _ _,cT ((((aG (aW F false a)++[32])++(if n then [78,79,84,32] else []))++[66,69,84,87,69,69,78,32])++aG (aW F false c)) ([32,65,78,68,32]) (by simp only[bH,bF,bS] at*;omega),show aS ((((aG (aW F false a)++[32])++(if n then [78,79,84,32] else []))++[66,69,84,87,69,69,78,32])++aG (aW F false c))++aS ([32,65,78,68,32])=aS (((((aG (aW F false a)++[32])++(if n then [78,79,84,32] else []))++[66,69,84,87,69,69,78,32])++aG (aW F false c))++[32,65,78,68,32]) from cR _ _,hp3,aN,cT (((((aG (aW F false a)++[32])++(if n then [78,79,84,32] else []))++[66,69,84,87,69,69,78,32])++aG (aW F false c))++[32,65,78,68,32]) (aG (aW F false d)) (by simp only[bH,bF,bS] at*;omega),show aS (((((aG (aW F false a)++[32])++(if n then [78,79,84,32] else []))++[66,69,84,87,69,69,78,32])++aG (aW F false c))++[32,65,78,68,32])++aS (aG (aW F false d))=aS ((((((aG (aW F false a)++[32])++(if n then [78,79,84,32] else []))++[66,69,84,87,69,69,78,32])++aG (aW F false c))++[32,65,78,68,32])++aG (aW F false d)) from cR _ _]
def TB (h:TF F M N) (hq:M.se q) (hl:(aG (dX F false (aA.mk 28 false eB eB 0 zV [] [q]) 28)).length<=1000000000) (hm:N<=m):(cO.fix (m+2)).p13 (aA.mk 28 false eB eB 0 zV [] [q])=some (aS (aG (dX F false (aA.mk 28 false eB eB 0 zV [] [q]) 28))):=by
 refine jF (oH (m:=m+1)) ?_;have e:aG (dX F false (aA.mk 28 false eB eB 0 zV [] [q]) 28)=[40]++aG (F.se false q)++[41]:=zS _;rw[e] at hl ⊢;have hl':=hl;simp only[bH,bF,bS] at hl';have hp:=h.se q hq (by omega) (m+1) (by omega);unfold lC;dsimp only;rw[wq 28 1 rfl,wq 28 2 rfl,wq 28 3 rfl,wq 28 4 rfl,wq 28 5 rfl,wq 28 6 rfl,wq 28 25 rfl,wq 28 26 rfl,wq 28 27 rfl,show((28:Int)==28)=true from rfl,bL,bV (by simp),show([q].getD 0 aF.z)=q from rfl,hp,aN,cT ([40]) (aG (F.se false q)) (by simp only[bH,bF,bS] at*;omega),show aS ([40])++aS (aG (F.se false q))=aS ([40]++aG (F.se false q)) from cR _ _,cT ([40]++aG (F.se false q)) ([41]) (by simp only[bH,bF,bS] at*;omega),show aS ([40]++aG (F.se false q))++aS ([41])=aS (([40]++aG (F.se false q))++[41]) from cR _ _]
def TD (h:TF F M N) (n:Bool) (hq:M.se q) (hl:(aG (dX F false (aA.mk 27 n eB eB 0 zV [] [q]) 27)).length<=1000000000) (hm:N<=m):(cO.fix (m+2)).p13 (aA.mk 27 n eB eB 0 zV [] [q])=some (aS (aG (dX F false (aA.mk 27 n eB eB 0 zV [] [q]) 27))):=by
 refine jF (oH (m:=m+1)) ?_;have e:aG (dX F false (aA.mk 27 n eB eB 0 zV [] [q]) 27)=((((if n then [78,79,84,32] else [])++[69,88,73,83,84,83,32,40])++aG (F.se false q))++[41]):=by
  show aG ((if n then [pw false cN,pw true eG] else [pw false eG])++(ps true cL::(F.se false q++[ps false cB])))=_;cases n<;>simp[aG,kC,dK]
 rw[e] at hl ⊢;have hl':=hl;simp only[bH,bF,bS] at hl';have hp:=h.se q hq (by omega) (m+1) (by omega);unfold lC;dsimp only;rw[wq 27 1 rfl,wq 27 2 rfl,wq 27 3 rfl,wq 27 4 rfl,wq 27 5 rfl,wq 27 6 rfl,wq 27 25 rfl,wq 27 26 rfl,show((27:Int)==27)=true from rfl,bL,bV (by simp),show([q].getD 0 aF.z)=q from rfl,It,aN,cT (if n then [78,79,84,32] else []) ([69,88,73,83,84,83,32,40]) (by simp only[bH,bF,bS] at*;omega),show aS (if n then [78,79,84,32] else [])++aS ([69,88,73,83,84,83,32,40])=aS ((if n then [78,79,84,32] else [])++[69,88,73,83,84,83,32,40]) from cR _ _,hp,aN,cT ((if n then [78,79,84,32] else [])++[69,88,73,83,84,83,32,40]) (aG (F.se false q)) (by simp only[bH,bF,bS] at*;omega),show aS ((if n then [78,79,84,32] else [])++[69,88,73,83,84,83,32,40])++aS (aG (F.se false q))=aS (((if n then [78,79,84,32] else [])++[69,88,73,83,84,83,32,40])++aG (F.se false q)) from cR _ _,cT (((if n then [78,79,84,32] else [])++[69,88,73,83,84,83,32,40])++aG (F.se false q)) ([41]) (by simp only[bH,bF,bS] at*;omega),show aS (((if n then [78,79,84,32] else [])++[69,88,73,83,84,83,32,40])++aG (F.se false q))++aS ([41])=aS ((((if n then [78,79,84,32] else [])++[69,88,73,83,84,83,32,40])++aG (F.se false q))++[41]) from cR _ _]
def o4 (h:TF F M N) (s:ByteArray) (ha:M.ex a) (hl:(aG (dX F false (aA.mk 30 false eB s 0 zV [a] []) 30)).length<=1000000000) (hm:N<=m):(cO.fix (m+2)).p13 (aA.mk 30 false eB s 0 zV [a] [])=some (aS (aG (dX F false (aA.mk 30 false eB s 0 zV [a] []) 30))):=by
 refine jF (oH (m:=m+1)) ?_;have e:aG (dX F false (aA.mk 30 false eB s 0 zV [a] []) 30)=(((([67,65,83,84,40]++aG (F.tx false a))++[32,65,83,32])++s.data.toList)++[41]):=by
  show aG (pw false pR::ps false cL::(F.tx false a++[pw true lW,pw true s,ps false cB]))=_;simp[aG,kC,dK]
 rw[e] at hl ⊢;have hl':=hl;simp only[bH,bF,bS] at hl';have hp:=h.tx a ha (by omega) (m+1) (by omega);have es:s=aS s.data.toList:=(mV s).symm;unfold lC;dsimp only;generalize hsl:s.data.toList=sl at*;subst es;rw[wq 30 1 rfl,wq 30 2 rfl,wq 30 3 rfl,wq 30 4 rfl,wq 30 5 rfl,wq 30 6 rfl,wq 30 25 rfl,wq 30 26 rfl,wq 30 27 rfl,wq 30 28 rfl,wq 30 29 rfl,show((30:Int)==30)=true from rfl,bL,bV (by simp),show([a].getD 0 aA.z)=a from rfl,hp,aN,cT ([67,65,83,84,40]) (aG (F.tx false a)) (by simp only[bH,bF,bS] at*;omega),show aS ([67,65,83,84,40])++aS (aG (F.tx false a))=aS ([67,65,83,84,40]++aG (F.tx false a)) from cR _ _,cT ([67,65,83,84,40]++aG (F.tx false a)) ([32,65,83,32]) (by simp only[bH,bF,bS] at*;omega),show aS ([67,65,83,84,40]++aG (F.tx false a))++aS ([32,65,83,32])=aS (([67,65,83,84,40]++aG (F.tx false a))++[32,65,83,32]) from cR _ _,cT (([67,65,83,84,40]++aG (F.tx false a))++[32,65,83,32]) (sl) (by simp only[bH,bF,bS] at*;omega),show aS (([67,65,83,84,40]++aG (F.tx false a))++[32,65,83,32])++aS (sl)=aS ((([67,65,83,84,40]++aG (F.tx false a))++[32,65,83,32])++sl) from cR _ _,cT ((([67,65,83,84,40]++aG (F.tx false a))++[32,65,83,32])++sl) ([41]) (by simp only[bH,bF,bS] at*;omega),show aS ((([67,65,83,84,40]++aG (F.tx false a))++[32,65,83,32])++sl)++aS ([41])=aS (((([67,65,83,84,40]++aG (F.tx false a))++[32,65,83,32])++sl)++[41]) from cR _ _]
def QD (h:TF F M N) (s:ByteArray) (ha:M.ex a) (hl:(aG (dX F false (aA.mk 31 false eB s 0 zV [a] []) 31)).length<=1000000000) (hm:N<=m):(cO.fix (m+2)).p13 (aA.mk 31 false eB s 0 zV [a] [])=some (aS (aG (dX F false (aA.mk 31 false eB s 0 zV [a] []) 31))):=by
 refine jF (oH (m:=m+1)) ?_;have e:aG (dX F false (aA.mk 31 false eB s 0 zV [a] []) 31)=((aG (aW F false a)++[32,67,79,76,76,65,84,69,32])++s.data.toList):=by
  show aG (aW F false a++[pw true pM,pw true s])=_;rw[dQ];simp[aG,kC,dK]
 rw[e] at hl ⊢;have hl':=hl;simp only[bH,bF,bS] at hl';have hp:=sR h ha (by omega) hm;have es:s=aS s.data.toList:=(mV s).symm;unfold lC;dsimp only;generalize hsl:s.data.toList=sl at*;subst es;rw[wq 31 1 rfl,wq 31 2 rfl,wq 31 3 rfl,wq 31 4 rfl,wq 31 5 rfl,wq 31 6 rfl,wq 31 25 rfl,wq 31 26 rfl,wq 31 27 rfl,wq 31 28 rfl,wq 31 29 rfl,wq 31 30 rfl,show((31:Int)==31)=true from rfl,bL,bV (by simp),show([a].getD 0 aA.z)=a from rfl,hp,aN,cT (aG (aW F false a)) ([32,67,79,76,76,65,84,69,32]) (by simp only[bH,bF,bS] at*;omega),show aS (aG (aW F false a))++aS ([32,67,79,76,76,65,84,69,32])=aS (aG (aW F false a)++[32,67,79,76,76,65,84,69,32]) from cR _ _,cT (aG (aW F false a)++[32,67,79,76,76,65,84,69,32]) (sl) (by simp only[bH,bF,bS] at*;omega),show aS (aG (aW F false a)++[32,67,79,76,76,65,84,69,32])++aS (sl)=aS ((aG (aW F false a)++[32,67,79,76,76,65,84,69,32])++sl) from cR _ _]
end
section
variable {F:eA} {M:iP} {N m:Nat} {a c d:aA} {q:aF}
def aGd (h:TF F M N) (n:Bool) (l:List aA) (ha:M.ex a) (hM:∀x∈l,M.ex x) (hl:(aG (dX F false (aA.mk 26 n eB eB 0 zV (a::l) []) 26)).length<=1000000000) (hm:N<=m):(cO.fix (m+2)).p13 (aA.mk 26 n eB eB 0 zV (a::l) [])=some (aS (aG (dX F false (aA.mk 26 n eB eB 0 zV (a::l) []) 26))):=by
 refine jF (oH (m:=m+1)) ?_;have e:aG (dX F false (aA.mk 26 n eB eB 0 zV (a::l) []) 26)=(((((aG (aW F false a)++[32])++(if n then [78,79,84,32] else []))++[73,78,32,40])++aG (cK F.tx false l))++[41]):=by
  show aG (aW F false a++(iV n++(pw true jN::ps true cL::(cK F.tx false l++[ps false cB]))))=_;rw[dQ,dQ,mO];cases n<;>simp[iV,aG,kC,dK]
 rw[e] at hl ⊢;have hl':=hl;simp only[bH,bF,bS] at hl';have hp:=sR h ha (by omega) hm;have ht:=Ib h hM (by omega) hm;have hsl:List.take ((((a::l).length:Nat):Int).toNat-1) (List.drop 1 (a::l))=l:=by simp
 unfold lC;dsimp only;rw[wq 26 1 rfl,wq 26 2 rfl,wq 26 3 rfl,wq 26 4 rfl,wq 26 5 rfl,wq 26 6 rfl,wq 26 25 rfl,show((26:Int)==26)=true from rfl,bL,bV (by simp only[bF];omega),hsl,ht,aN,bY];dsimp only;rw[show decide (((([]:List aF).length:Nat):Int)>0)=false from rfl,aQ,bV (by simp only[bF];omega),show((a::l).getD 0 aA.z)=a from rfl,hp,aN,cT (aG (aW F false a)) ([32]) (by simp only[bH,bF,bS] at*;omega),show aS (aG (aW F false a))++aS ([32])=aS (aG (aW F false a)++[32]) from cR _ _,It,aN,cT (aG (aW F false a)++[32]) (if n then [78,79,84,32] else []) (by simp only[bH,bF,bS] at*;omega),show aS (aG (aW F false a)++[32])++aS (if n then [78,79,84,32] else [])=aS ((aG (aW F false a)++[32])++(if n then [78,79,84,32] else [])) from cR _ _,cT ((aG (aW F false a)++[32])++(if n then [78,79,84,32] else [])) ([73,78,32,40]) (by simp only[bH,bF,bS] at*;omega),show aS ((aG (aW F false a)++[32])++(if n then [78,79,84,32] else []))++aS ([73,78,32,40])=aS (((aG (aW F false a)++[32])++(if n then [78,79,84,32] else []))++[73,78,32,40]) from cR _ _,cT (((aG (aW F false a)++[32])++(if n then [78,79,84,32] else []))++[73,78,32,40]) (aG (cK F.tx false l)) (by simp only[bH,bF,bS] at*;omega),show aS (((aG (aW F false a)++[32])++(if n then [78,79,84,32] else []))++[73,78,32,40])++aS (aG (cK F.tx false l))=aS ((((aG (aW F false a)++[32])++(if n then [78,79,84,32] else []))++[73,78,32,40])++aG (cK F.tx false l)) from cR _ _,cT ((((aG (aW F false a)++[32])++(if n then [78,79,84,32] else []))++[73,78,32,40])++aG (cK F.tx false l)) ([41]) (by simp only[bH,bF,bS] at*;omega),show aS ((((aG (aW F false a)++[32])++(if n then [78,79,84,32] else []))++[73,78,32,40])++aG (cK F.tx false l))++aS ([41])=aS (((((aG (aW F false a)++[32])++(if n then [78,79,84,32] else []))++[73,78,32,40])++aG (cK F.tx false l))++[41]) from cR _ _]
def WS (h:TF F M N) (n:Bool) (ha:M.ex a) (hq:M.se q) (hl:(aG (dX F false (aA.mk 26 n eB eB 0 zV [a] [q]) 26)).length<=1000000000) (hm:N<=m):(cO.fix (m+2)).p13 (aA.mk 26 n eB eB 0 zV [a] [q])=some (aS (aG (dX F false (aA.mk 26 n eB eB 0 zV [a] [q]) 26))):=by
 refine jF (oH (m:=m+1)) ?_;have e:aG (dX F false (aA.mk 26 n eB eB 0 zV [a] [q]) 26)=(((((aG (aW F false a)++[32])++(if n then [78,79,84,32] else []))++[73,78,32,40])++aG (F.se false q))++[41]):=by
  show aG (aW F false a++(iV n++(pw true jN::ps true cL::(F.se false q++[ps false cB]))))=_;rw[dQ,dQ,mO];cases n<;>simp[iV,aG,kC,dK]
 rw[e] at hl ⊢;have hl':=hl;simp only[bH,bF,bS] at hl';have hp:=sR h ha (by omega) hm;have hs:=h.se q hq (by omega) (m+1) (by omega);have ht:=Ib (l:=[]) h (fun x hx=>by cases hx) (by simp[cK,aG]) hm;have hsl:List.take ((([a].length:Nat):Int).toNat-1) (List.drop 1 [a])=[]:=rfl;unfold lC;dsimp only;rw[wq 26 1 rfl,wq 26 2 rfl,wq 26 3 rfl,wq 26 4 rfl,wq 26 5 rfl,wq 26 6 rfl,wq 26 25 rfl,show((26:Int)==26)=true from rfl,bL,bV (by simp),hsl,ht,aN,bY];dsimp only;rw[show decide ((([q].length:Nat):Int)>0)=true from rfl,bL,bV (by simp),show([q].getD 0 aF.z)=q from rfl,hs,aN,bV (by simp),show([a].getD 0 aA.z)=a from rfl,hp,aN,cT (aG (aW F false a)) ([32]) (by simp only[bH,bF,bS] at*;omega),show aS (aG (aW F false a))++aS ([32])=aS (aG (aW F false a)++[32]) from cR _ _,It,aN,cT (aG (aW F false a)++[32]) (if n then [78,79,84,32] else []) (by simp only[bH,bF,bS] at*;omega),show aS (aG (aW F false a)++[32])++aS (if n then [78,79,84,32] else [])=aS ((aG (aW F false a)++[32])++(if n then [78,79,84,32] else [])) from cR _ _,cT ((aG (aW F false a)++[32])++(if n then [78,79,84,32] else [])) ([73,78,32,40]) (by simp only[bH,bF,bS] at*;omega),show aS ((aG (aW F false a)++[32])++(if n then [78,79,84,32] else []))++aS ([73,78,32,40])=aS (((aG (aW F false a)++[32])++(if n then [78,79,84,32] else []))++[73,78,32,40]) from cR _ _,cT (((aG (aW F false a)++[32])++(if n then [78,79,84,32] else []))++[73,78,32,40]) (aG (F.se false q)) (by simp only[bH,bF,bS] at*;omega),show aS (((aG (aW F false a)++[32])++(if n then [78,79,84,32] else []))++[73,78,32,40])++aS (aG (F.se false q))=aS ((((aG (aW F false a)++[32])++(if n then [78,79,84,32] else []))++[73,78,32,40])++aG (F.se false q)) from cR _ _,cT ((((aG (aW F false a)++[32])++(if n then [78,79,84,32] else []))++[73,78,32,40])++aG (F.se false q)) ([41]) (by simp only[bH,bF,bS] at*;omega),show aS ((((aG (aW F false a)++[32])++(if n then [78,79,84,32] else []))++[73,78,32,40])++aG (F.se false q))++aS ([41])=aS (((((aG (aW F false a)++[32])++(if n then [78,79,84,32] else []))++[73,78,32,40])++aG (F.se false q))++[41]) from cR _ _]
def aDi (s t:ByteArray) (hl:(aG (dX F false (aA.mk 2 false t s 0 zV [] []) 2)).length<=1000000000):(cO.fix (m+2)).p13 (aA.mk 2 false t s 0 zV [] [])=some (aS (aG (dX F false (aA.mk 2 false t s 0 zV [] []) 2))):=by
 refine jF (oH (m:=m+1)) ?_;have es:s=aS s.data.toList:=(mV s).symm;have et:t=aS t.data.toList:=(mV t).symm;by_cases hn:t.data.toList=[]
 ·have e:aG (dX F false (aA.mk 2 false t s 0 zV [] []) 2)=s.data.toList:=by
   show aG (if t.data.toList=[] then [pw false s] else [pw false t,ps false iM,pw false s])=_;rw[if_pos hn];simp[aG,kC,dK]
  rw[e];unfold lC;dsimp only;rw[wq 2 1 rfl,show((2:Int)==2)=true from rfl,bL,hn,show(!(([]:List UInt8)==(bm #[]).data.toList))=false from rfl,aQ]
 ·have e:aG (dX F false (aA.mk 2 false t s 0 zV [] []) 2)=((t.data.toList++[46])++s.data.toList):=by
   show aG (if t.data.toList=[] then [pw false s] else [pw false t,ps false iM,pw false s])=_;rw[if_neg hn];simp[aG,kC,dK]
  rw[e] at hl ⊢;have hl':=hl;simp only[bH,bF,bS] at hl';unfold lC;dsimp only;have hne:(!(t.data.toList==(bm #[]).data.toList))=true:=by
   cases ht:t.data.toList with
   |nil=>exact absurd ht hn
   |cons c a=>rfl
  rw[wq 2 1 rfl,show((2:Int)==2)=true from rfl,bL,hne,bL];generalize hsl:s.data.toList=sl at*;generalize htl:t.data.toList=tl at*;subst es;subst et;rw[cT (tl) ([46]) (by simp only[bH,bF,bS] at*;omega),show aS (tl)++aS ([46])=aS (tl++[46]) from cR _ _,cT (tl++[46]) (sl) (by simp only[bH,bF,bS] at*;omega),show aS (tl++[46])++aS (sl)=aS ((tl++[46])++sl) from cR _ _]
def o5 (h:TF F M N) (s:ByteArray) (n:Int) (l:List aA) (hM:∀x∈l,M.ex x) (hk:n=0∨(n=1∧l.length=1)∨(n=2∧l=[])) (hl:(aG (dX F false (aA.mk 32 false eB s n zV l []) 32)).length<=1000000000) (hm:N<=m):(cO.fix (m+2)).p13 (aA.mk 32 false eB s n zV l [])=some (aS (aG (dX F false (aA.mk 32 false eB s n zV l []) 32))):=by
 refine jF (oH (m:=m+1)) ?_;have hX:∃X:List UInt8,0<=n∧n<3∧[(bm #[]),(bm #[68,73,83,84,73,78,67,84,32]),(bm #[42])].getD n.toNat bO=aS X∧aG (dX F false (aA.mk 32 false eB s n zV l []) 32)=((((s.data.toList++[40])++X)++aG (cK F.tx false l))++[41]):=by
  rcases hk with rfl|⟨rfl,h1⟩|⟨rfl,rfl⟩
  ·refine⟨[],by omega,by omega,rfl,?_⟩;show aG (pw false s::ps false cL::(cK F.tx false l++[ps false cB]))=_;simp[aG,kC,dK]
  ·match l,h1 with
   |[x],_=>
    refine⟨[68,73,83,84,73,78,67,84,32],by omega,by omega,rfl,?_⟩;show aG (pw false s::ps false cL::((pw false kT::(F.tx true x++[]))++[ps false cB]))=_;have hb:=h.bl.ex x (hM x (by simp));have e1:aG (cK F.tx false [x])=aG (F.tx false x):=by show aG (F.tx false x++[])=_;rw[gL]
    rw[e1,gL,mO,yE,dQ,mO,hb];simp[aG,kC,dK]
  ·refine⟨[42],by omega,by omega,rfl,?_⟩;show aG (pw false s::ps false cL::([ps false mZ]++[ps false cB]))=_;simp[aG,kC,dK,cK]
 obtain⟨X,g1,g2,g3,e⟩:=hX;rw[e] at hl ⊢;have hl':=hl;simp only[bH,bF,bS] at hl';have ht:=Ib h hM (by omega) hm;have es:s=aS s.data.toList:=(mV s).symm;unfold lC;dsimp only;generalize hsl:s.data.toList=sl at*;subst es;rw[wq 32 1 rfl,wq 32 2 rfl,wq 32 3 rfl,wq 32 4 rfl,wq 32 5 rfl,wq 32 6 rfl,wq 32 25 rfl,wq 32 26 rfl,wq 32 27 rfl,wq 32 28 rfl,wq 32 29 rfl,wq 32 30 rfl,wq 32 31 rfl,show((32:Int)==32)=true from rfl,bL,cT (sl) ([40]) (by simp only[bH,bF,bS] at*;omega),show aS (sl)++aS ([40])=aS (sl++[40]) from cR _ _,bV (by simp only[bF,bS];omega),g3,cT (sl++[40]) (X) (by simp only[bH,bF,bS] at*;omega),show aS (sl++[40])++aS (X)=aS ((sl++[40])++X) from cR _ _,ht,aN,cT ((sl++[40])++X) (aG (cK F.tx false l)) (by simp only[bH,bF,bS] at*;omega),show aS ((sl++[40])++X)++aS (aG (cK F.tx false l))=aS (((sl++[40])++X)++aG (cK F.tx false l)) from cR _ _,cT (((sl++[40])++X)++aG (cK F.tx false l)) ([41]) (by simp only[bH,bF,bS] at*;omega),show aS (((sl++[40])++X)++aG (cK F.tx false l))++aS ([41])=aS ((((sl++[40])++X)++aG (cK F.tx false l))++[41]) from cR _ _]
end
section
variable {F:eA} {M:iP} {N m:Nat} {a c d:aA} {q:aF}
def Ta:∀(s:List UInt8) (k:Nat),Lib.count s [39]=k->Lib.replaceK [39] [39,39] k s=jS s
 |[],k,h=>by
  have:Lib.count [] [39]=0:=by rw[Lib.count_one];rfl
  rw[this] at h;subst h;rfl
 |b::l,k,h=>by
  by_cases hb:b=39
  ·subst hb;rw[Lib.count_cons_eq] at h;subst h;have hix:Lib.index (39::l) [39]=((0:Nat):Int):=by rw[Lib.index];simp[List.isPrefixOf]
   rw[Nat.add_comm,Lib.replaceK_hit _ _ _ _ 0 hix];show [39,39]++Lib.replaceK [39] [39,39] (Lib.count l [39]) l=_;rw[Ta l _ rfl];rfl
  ·rw[Lib.count_cons_ne b 39 l hb] at h;have hd:jS (b::l)=b::jS l:=by rw[jS,if_neg (by simpa using hb)]
   rw[hd,<-Ta l k h];cases k with
   |zero=>rfl
   |succ k=>
    obtain⟨j,hj⟩:=Lib.index_of_count (s:=l) (old:=[39]) (by omega);have hp:([39]:List UInt8).isPrefixOf (b::l)=false:=by simp[List.isPrefixOf,iE hb]
    have hix:Lib.index (b::l) [39]=((j+1:Nat):Int):=by
     rw[Lib.index,hp,hj];simp
     try omega
    rw[Lib.replaceK_hit _ _ _ _ _ hix,Lib.replaceK_hit _ _ _ _ _ hj];rfl
def ZX (s:List UInt8):Lib.replaceAll s [39] [39,39]=jS s:=by
 unfold Lib.replaceAll Lib.replace Lib.replaceNum;rw[if_neg (by decide),if_pos (.inl (by decide)),Ta s _ rfl]
def BI:∀k:Fin 18,((Gl ((k.val+7:Nat):Int)).bind fun y=>Dn y (bm #[95]) (bm #[32]))=some (aS ((aG (oW (k.val+7))).drop 1))∧aG (oW (k.val+7))=32::(aG (oW (k.val+7))).drop 1:=by decide+kernel
def RL:∀k:Fin 2,Gl ((k.val+23:Nat):Int)=some (aS ((aG (oW (k.val+23))).drop 1)):=by decide+kernel
def kB {k:Nat} {j:Int} (h:(k:Int)≠j):((k:Int)==j)=false:=by rw[sN];exact h
def aDj (h:TF F M N) (k:Nat) (n:Bool) (hk:7<=k∧k<23) (ha:M.ex a) (hc:M.ex c) (hl:(aG (dX F false (aA.mk k n eB eB 0 zV [a,c] []) k)).length<=1000000000) (hm:N<=m):(cO.fix (m+2)).p13 (aA.mk k n eB eB 0 zV [a,c] [])=some (aS (aG (dX F false (aA.mk k n eB eB 0 zV [a,c] []) k))):=by
 refine jF (oH (m:=m+1)) ?_;obtain⟨hr,hf⟩:=BI ⟨k-7,by omega⟩;dsimp only at hr hf;rw[show k-7+7=k by omega] at hr hf;obtain⟨y,hy,hr⟩:=Qo.1 hr;have e:aG (dX F false (aA.mk k n eB eB 0 zV [a,c] []) k)=((((aG (aW F false a)++[32])++(aG (oW k)).drop 1)++[32])++aG (aW F false c)):=by
  rw[yJ (by omega),if_neg (by omega)];show aG (aW F false a++([]++(oW k++aW F true c)))=_;rw[iY,dQ,dQ,yM h.bl hc,hf];simp only[fS,jP,iY,Qm,kG]
 generalize (aG (oW k)).drop 1=X at hr e;rw[e] at hl ⊢;have hl':=hl;simp only[bH,bF,bS] at hl';have hp:=sR h ha (by omega) hm;have hp2:=sR h hc (by omega) hm;unfold lC;dsimp only;rw[kB (j:=1) (by omega),aQ,kB (j:=2) (by omega),aQ,kB (j:=3) (by omega),aQ,kB (j:=4) (by omega),aQ,kB (j:=5) (by omega),aQ,kB (j:=6) (by omega),aQ,kB (j:=25) (by omega),aQ,kB (j:=26) (by omega),aQ,kB (j:=27) (by omega),aQ,kB (j:=28) (by omega),aQ,kB (j:=29) (by omega),aQ,kB (j:=30) (by omega),aQ,kB (j:=31) (by omega),aQ,kB (j:=32) (by omega),aQ,bY];rw[kB (j:=23) (by omega),aQ,kB (j:=24) (by omega)];dsimp only;rw[aQ,bV (by simp),bV (by simp),show([a,c].getD 0 aA.z)=a from rfl,show([a,c].getD 1 aA.z)=c from rfl,hp,aN,cT (aG (aW F false a)) ([32]) (by simp only[bH,bF,bS] at*;omega),show aS (aG (aW F false a))++aS ([32])=aS (aG (aW F false a)++[32]) from cR _ _,hy,aN,hr,aN,cT (aG (aW F false a)++[32]) (X) (by simp only[bH,bF,bS] at*;omega),show aS (aG (aW F false a)++[32])++aS (X)=aS ((aG (aW F false a)++[32])++X) from cR _ _,cT ((aG (aW F false a)++[32])++X) ([32]) (by simp only[bH,bF,bS] at*;omega),show aS ((aG (aW F false a)++[32])++X)++aS ([32])=aS (((aG (aW F false a)++[32])++X)++[32]) from cR _ _,hp2,aN,cT (((aG (aW F false a)++[32])++X)++[32]) (aG (aW F false c)) (by simp only[bH,bF,bS] at*;omega),show aS (((aG (aW F false a)++[32])++X)++[32])++aS (aG (aW F false c))=aS ((((aG (aW F false a)++[32])++X)++[32])++aG (aW F false c)) from cR _ _]
def n7 (h:TF F M N) (k:Nat) (n:Bool) (hk:23<=k∧k<=24) (ha:M.ex a) (hc:M.ex c) (hl:(aG (dX F false (aA.mk k n eB eB 0 zV [a,c] []) k)).length<=1000000000) (hm:N<=m):(cO.fix (m+2)).p13 (aA.mk k n eB eB 0 zV [a,c] [])=some (aS (aG (dX F false (aA.mk k n eB eB 0 zV [a,c] []) k))):=by
 refine jF (oH (m:=m+1)) ?_;obtain⟨_,hf⟩:=BI ⟨k-7,by omega⟩;have hr:=RL ⟨k-23,by omega⟩;dsimp only at hr hf;rw[show k-7+7=k by omega] at hf;rw[show k-23+23=k by omega] at hr;have e:aG (dX F false (aA.mk k n eB eB 0 zV [a,c] []) k)=(((((aG (aW F false a)++[32])++(if n then [78,79,84,32] else []))++(aG (oW k)).drop 1)++[32])++aG (aW F false c)):=by
  rw[yJ (by omega),if_pos (by omega)];show aG (aW F false a++(iV n++(oW k++aW F true c)))=_;rw[dQ,dQ,dQ,yM h.bl hc,hf];cases n<;>simp[iV,aG,kC,dK]
 generalize (aG (oW k)).drop 1=X at hr e;rw[e] at hl ⊢;have hl':=hl;simp only[bH,bF,bS] at hl';have hp:=sR h ha (by omega) hm;have hp2:=sR h hc (by omega) hm;have hq:((k:Int)==23)=true∨((k:Int)==23)=false∧((k:Int)==24)=true:=by
  simp only[eM,sN];omega
 unfold lC;dsimp only;rw[kB (j:=1) (by omega),aQ,kB (j:=2) (by omega),aQ,kB (j:=3) (by omega),aQ,kB (j:=4) (by omega),aQ,kB (j:=5) (by omega),aQ,kB (j:=6) (by omega),aQ,kB (j:=25) (by omega),aQ,kB (j:=26) (by omega),aQ,kB (j:=27) (by omega),aQ,kB (j:=28) (by omega),aQ,kB (j:=29) (by omega),aQ,kB (j:=30) (by omega),aQ,kB (j:=31) (by omega),aQ,kB (j:=32) (by omega),aQ,bY];rcases hq with h1|⟨h1,h2⟩<;>(first|rw[h1,bL]|rw[h1,h2,aQ])<;>dsimp only<;>rw[bL]<;>
 rw[bV (by simp),bV (by simp),show([a,c].getD 0 aA.z)=a from rfl,show([a,c].getD 1 aA.z)=c from rfl,hp,aN,cT (aG (aW F false a)) ([32]) (by simp only[bH,bF,bS] at*;omega),show aS (aG (aW F false a))++aS ([32])=aS (aG (aW F false a)++[32]) from cR _ _,It,aN,cT (aG (aW F false a)++[32]) (if n then [78,79,84,32] else []) (by simp only[bH,bF,bS] at*;omega),show aS (aG (aW F false a)++[32])++aS (if n then [78,79,84,32] else [])=aS ((aG (aW F false a)++[32])++(if n then [78,79,84,32] else [])) from cR _ _,hr,aN,cT ((aG (aW F false a)++[32])++(if n then [78,79,84,32] else [])) (X) (by simp only[bH,bF,bS] at*;omega),show aS ((aG (aW F false a)++[32])++(if n then [78,79,84,32] else []))++aS (X)=aS (((aG (aW F false a)++[32])++(if n then [78,79,84,32] else []))++X) from cR _ _,cT (((aG (aW F false a)++[32])++(if n then [78,79,84,32] else []))++X) ([32]) (by simp only[bH,bF,bS] at*;omega),show aS (((aG (aW F false a)++[32])++(if n then [78,79,84,32] else []))++X)++aS ([32])=aS ((((aG (aW F false a)++[32])++(if n then [78,79,84,32] else []))++X)++[32]) from cR _ _,hp2,aN,cT ((((aG (aW F false a)++[32])++(if n then [78,79,84,32] else []))++X)++[32]) (aG (aW F false c)) (by simp only[bH,bF,bS] at*;omega),show aS ((((aG (aW F false a)++[32])++(if n then [78,79,84,32] else []))++X)++[32])++aS (aG (aW F false c))=aS (((((aG (aW F false a)++[32])++(if n then [78,79,84,32] else []))++X)++[32])++aG (aW F false c)) from cR _ _]
def UU {v:aH} (h:pH v=some true):v.kind=0∨v.kind=1∨v.kind=2∨v.kind=3:=by
 by_cases h0:v.kind=0
 ·exact .inl h0
 by_cases h1:v.kind=1
 ·exact .inr (.inl h1)
 by_cases h2:v.kind=2
 ·exact .inr (.inr (.inl h2))
 by_cases h3:v.kind=3
 ·exact .inr (.inr (.inr h3))
 unfold pH at h;simp only[bY] at h;rw[show(v.kind==0)=false from by simpa using h0,show(v.kind==1)=false from by simpa using h1,show(v.kind==2)=false from by simpa using h2,show(v.kind==3)=false from by simpa using h3] at h;cases h
def p9 {v:aH} (h:pH v=some true) (h0:0<=v.int) (h1:v.int<9223372036854775808) (hl:(dK (jR v)).length<=1000000000):Ld v=some (aS (dK (jR v)),0):=by
 unfold jR at hl ⊢;unfold Ld;rw[h,aN];rcases UU h with e|e|e|e
 ·rw[e];rfl
 ·rw[e] at hl ⊢;have en:Lib.itoa v.int=Lib.decDigits v.int.toNat:=by unfold Lib.itoa;rw[if_neg (by omega)]
  unfold Lf;rw[show(!true)=false from rfl,aQ,wq 1 0 rfl,show((1:Int)==1)=true from rfl,bL,bV ⟨by omega,by omega,rfl⟩,aN,en];rfl
 ·rw[e] at hl ⊢;have hl':(39::(jS v.text.data.toList++[39])).length<=1000000000:=hl;simp only[bH,bF,bS] at hl';have hd:=Tb v.text.data.toList;have hs:=lO v.text;have hc:=Lib.countB_le (bm #[39]) (by decide) _ v.text (dS _);unfold Dn;rw[show(!true)=false from rfl,aQ,wq 2 0 rfl,wq 2 1 rfl,show((2:Int)==2)=true from rfl,bL,bV ⟨by omega,by decide,by
   rw[show(bm #[39,39]).size=2 from rfl];omega⟩,aN,show(bm #[39]).data.toList=[39] from rfl,show(bm #[39,39]).data.toList=[39,39] from rfl,ZX]
  show aR ((aS [39]).size+(aS (jS v.text.data.toList)).size<=maxLen) (aR ((aS [39]++aS (jS v.text.data.toList)).size+(aS [39]).size<=maxLen) (some (aS [39]++aS (jS v.text.data.toList)++aS [39],0)))=_;rw[cT _ _ (by simp only[bF,bS];omega),cR,cT _ _ (by simp only[bH,bF,bS];omega),cR];rfl
 ·rw[e] at hl ⊢;have hl':(120::39::(iW v.text.data.toList++[39])).length<=1000000000:=hl;simp only[bH,bF,bS,Mx] at hl';have hs:=lO v.text;rw[show(!true)=false from rfl,aQ,wq 3 0 rfl,wq 3 1 rfl,wq 3 2 rfl,bV (by omega)];rfl
def aDh {v:aH} (h:pH v=some true) (h0:0<=v.int) (h1:v.int<9223372036854775808) (hl:(aG (dX F false (De v) 1)).length<=1000000000):(cO.fix (m+2)).p13 (De v)=some (aS (aG (dX F false (De v) 1))):=by
 refine jF (oH (m:=m+1)) ?_;have e:aG (dX F false (De v) 1)=dK (jR v):=by
  show aG [(false,jR v)]=_;show dK (jR v)++[]=_;rw[gL]
 rw[e] at hl ⊢;have:=p9 h h0 h1 hl;unfold lC De;dsimp only;rw[show((1:Int)==1)=true from rfl,bL,this,aN]
def WQ {n:Int} (h0:1<=n) (h1:n<=16) (hl:(aG (dX F false (aA.mk 3 false eB eB n zV [] []) 3)).length<=1000000000):(cO.fix (m+2)).p13 (aA.mk 3 false eB eB n zV [] [])=some (aS (aG (dX F false (aA.mk 3 false eB eB n zV [] []) 3))):=by
 refine jF (oH (m:=m+1)) ?_;have e:aG (dX F false (aA.mk 3 false eB eB n zV [] []) 3)=[63]++Gh n.toNat:=by
  show aG [(false,(5,kP n))]=_;show(63::(kP n).data.toList)++[]=_;rw[gL];unfold kP;rw[DJ _ (by omega)];rfl
 rw[e] at hl ⊢;simp only[bH,bF,bS] at hl;unfold lC Pz;dsimp only;rw[wq 3 1 rfl,wq 3 2 rfl,show((3:Int)==3)=true from rfl,bL,bV ⟨by omega,by omega⟩,aN];show aR ((aS [63]).size+(aS (Gh n.toNat)).size<=maxLen) (some (aS [63]++aS (Gh n.toNat)))=_;rw[cT _ _ (by simp only[bF,bS];omega),cR]
end
section
variable {F:eA} {M:iP} {N m:Nat} {a c d:aA} {q:aF}
def Oh (f:aA->Option ByteArray) (l:List aA) (z:ByteArray):(ByteArray×Int->Option ByteArray)->ByteArray×Int->Option ByteArray:=(fun(u27:ByteArray×Int->Option (ByteArray)) (q26:ByteArray×Int)=>(aE (decide (q26.2<(l.length:Int))) (aR (0<=q26.2∧q26.2<(l.length:Int)) (aR (0<=(i64.wrap (q26.2+1))∧(i64.wrap (q26.2+1))<(l.length:Int)) (call (f (l.getD q26.2.toNat aA.z)) fun y35=>(aR ((bm #[32,87,72,69,78,32]).size+y35.size<=maxLen) (aR (((bm #[32,87,72,69,78,32])++y35).size+(bm #[32,84,72,69,78,32]).size<=maxLen) (call (f (l.getD (i64.wrap (q26.2+1)).toNat aA.z)) fun y38=>(aR ((((bm #[32,87,72,69,78,32])++y35)++(bm #[32,84,72,69,78,32])).size+y38.size<=maxLen) (aR (q26.1.size+((((bm #[32,87,72,69,78,32])++y35)++(bm #[32,84,72,69,78,32]))++y38).size<=maxLen) (u27 ((q26.1++((((bm #[32,87,72,69,78,32])++y35)++(bm #[32,84,72,69,78,32]))++y38)),(i64.wrap (q26.2+2)))))))))))) (aR (q26.1.size+z.size<=maxLen) (aR ((q26.1++z).size+(bm #[32,69,78,68]).size<=maxLen) (some ((q26.1++z)++(bm #[32,69,78,68])))))))
def Nb {n:Int} (h0:0<=n) (h:n<=4611686018427387900):i64.wrap n=n:=by
 have:i64.wrap n=(n+9223372036854775808)%18446744073709551616-9223372036854775808:=by
  unfold IntKind.wrap;simp[IntKind.bits,IntKind.signed]
  try omega
 rw[this];omega
def Ze (F:eA) (x y:aA) (l:List aA) (hx:aG (F.tx true x)=32::aG (F.tx false x)) (hy:aG (F.tx true y)=32::aG (F.tx false y)):aG (eQ F (x::y::l))=([32,87,72,69,78,32]++aG (F.tx false x)++[32,84,72,69,78,32]++aG (F.tx false y))++aG (eQ F l):=by
 show aG (pw true kX::(F.tx true x++(pw true tC::(F.tx true y++eQ F l))))=_;rw[mO,dQ,mO,dQ,hx,hy];simp
def Pf (f:aA->Option ByteArray) (l:List aA) (z:List UInt8) (k:Nat) (hf:∀x∈l,(aG (F.tx false x)).length<=1000000000->f x=some (aS (aG (F.tx false x)))) (hb:∀x∈l,aG (F.tx true x)=32::aG (F.tx false x)) (hk:l.length=2*k) (hk2:k<=1000000000):∀d j mm acc,j+d=k->d<mm->acc.length+(aG (eQ F (l.drop (2*j)))).length+z.length+4<=1000000000->cF (Oh f l (aS z)) mm (aS acc,((2*j:Nat):Int))=some (aS (acc++aG (eQ F (l.drop (2*j)))++z++[32,69,78,68])):=by
 intro d
 induction d with
 |zero=>
  intro j mm acc hj hm hl;obtain rfl:j=k:=by omega
  cases mm with
  |zero=>omega
  |succ mm=>
   have e0:aG (eQ F (l.drop (2*j)))=[]:=by rw[List.drop_eq_nil_of_le (by omega)];rfl
   rw[e0] at hl ⊢;simp only[bS] at hl;rw[eX,gL];unfold Oh;dsimp only;rw[show decide (((2*j:Nat):Int)<(l.length:Int))=false by rw[pZ];omega,aQ,cT (acc) (z) (by first|omega|(simp only[bH,bF,bS] at*;omega)),show aS (acc)++aS (z)=aS (acc++z) from cR _ _,cT (acc++z) ([32,69,78,68]) (by first|omega|(simp only[bH,bF,bS] at*;omega)),show aS (acc++z)++aS ([32,69,78,68])=aS ((acc++z)++[32,69,78,68]) from cR _ _]
 |succ d ih=>
  intro j mm acc hj hm hl;cases mm with
  |zero=>omega
  |succ mm=>
   have h1:2*j<l.length:=by omega
   have h2:2*j+1<l.length:=by omega
   obtain⟨x,ex⟩:∃x,l[2*j]=x:=⟨_,rfl⟩;obtain⟨y,ey⟩:∃y,l[2*j+1]=y:=⟨_,rfl⟩;have mx:x∈l:=ex ▸ sM h1;have my:y∈l:=ey ▸ sM h2;have gx:l.getD (2*j) aA.z=x:=by rw[fR,fH h1,nH,ex]
   have gy:l.getD (2*j+1) aA.z=y:=by rw[fR,fH h2,nH,ey]
   have ed:l.drop (2*j)=x::y::l.drop (2*(j+1)):=by rw[tV h1,tV h2,ex,ey,show 2*(j+1)=2*j+1+1 by omega]
   have ih':=ih (j+1) mm (acc++((([32,87,72,69,78,32]++aG (F.tx false x))++[32,84,72,69,78,32])++aG (F.tx false y))) (by omega) (by omega);rw[ed,Ze F x y _ (hb x mx) (hb y my)] at hl ⊢;have hl':=hl;simp only[bH,bF,bS] at hl';have ih':=ih' (by simp only[bH,bF,bS];omega);have fx:=hf x mx (by omega);have fy:=hf y my (by omega);have w1:i64.wrap (((2*j:Nat):Int)+1)=((2*j+1:Nat):Int):=by rw[Nb (by omega) (by omega)];omega
   have w2:i64.wrap (((2*j:Nat):Int)+2)=((2*(j+1):Nat):Int):=by rw[Nb (by omega) (by omega)];omega
   rw[eX];generalize hK:cF (Oh f l (aS z)) mm=K at ih' ⊢;unfold Oh;dsimp only;rw[show decide (((2*j:Nat):Int)<(l.length:Int))=true by rw[pJ];omega,bL,bV (by omega),w1,bV (by omega),w2,cZ,cZ,gx,gy,fx,aN,cT ([32,87,72,69,78,32]) (aG (F.tx false x)) (by first|omega|(simp only[bH,bF,bS] at*;omega)),show aS ([32,87,72,69,78,32])++aS (aG (F.tx false x))=aS ([32,87,72,69,78,32]++aG (F.tx false x)) from cR _ _,cT ([32,87,72,69,78,32]++aG (F.tx false x)) ([32,84,72,69,78,32]) (by first|omega|(simp only[bH,bF,bS] at*;omega)),show aS ([32,87,72,69,78,32]++aG (F.tx false x))++aS ([32,84,72,69,78,32])=aS (([32,87,72,69,78,32]++aG (F.tx false x))++[32,84,72,69,78,32]) from cR _ _,fy,aN,cT (([32,87,72,69,78,32]++aG (F.tx false x))++[32,84,72,69,78,32]) (aG (F.tx false y)) (by first|omega|(simp only[bH,bF,bS] at*;omega)),show aS (([32,87,72,69,78,32]++aG (F.tx false x))++[32,84,72,69,78,32])++aS (aG (F.tx false y))=aS ((([32,87,72,69,78,32]++aG (F.tx false x))++[32,84,72,69,78,32])++aG (F.tx false y)) from cR _ _,cT (acc) ((([32,87,72,69,78,32]++aG (F.tx false x))++[32,84,72,69,78,32])++aG (F.tx false y)) (by first|omega|(simp only[bH,bF,bS] at*;omega)),show aS (acc)++aS ((([32,87,72,69,78,32]++aG (F.tx false x))++[32,84,72,69,78,32])++aG (F.tx false y))=aS (acc++((([32,87,72,69,78,32]++aG (F.tx false x))++[32,84,72,69,78,32])++aG (F.tx false y))) from cR _ _,ih']
   congr 2;simp only[fS]
def Hr (F:eA):∀(k:Nat) (l:List aA),l.length=2*k->(∀x∈l,aG (F.tx true x)=32::aG (F.tx false x))->k<=(aG (eQ F l)).length
 |0,_,_,_=>kK _
 |k+1,[],h,_=>by simp at h
 |k+1,[x],h,_=>by simp at h;omega
 |k+1,x::y::l,h,hb=>by
  have:=Hr F k l (by simp only[bF] at h;omega) fun z hz=>hb z (by simp[hz]);rw[Ze F x y l (hb x (by simp)) (hb y (by simp))];simp only[bH,bF,bS];omega
def WW (h:TF F M N) (l:List aA) (k:Nat) (hk:l.length=2*k) (hM:∀x∈l,M.ex x) (hl:(aG (dX F false (aA.mk 29 false eB eB 0 zV l []) 29)).length<=1000000000) (hm:N<=m):(cO.fix (m+2)).p13 (aA.mk 29 false eB eB 0 zV l [])=some (aS (aG (dX F false (aA.mk 29 false eB eB 0 zV l []) 29))):=by
 refine jF (oH (m:=m+1)) ?_;have hb:∀x∈l,aG (F.tx true x)=32::aG (F.tx false x):=fun x hx=>h.bl.ex x (hM x hx);have e:aG (dX F false (aA.mk 29 false eB eB 0 zV l []) 29)=[67,65,83,69]++aG (eQ F l)++([]:List UInt8)++[32,69,78,68]:=by
  show aG (pw false jA::((caseA 0 l).flatMap (F.tx true)++(eQ F (iH 0 l)++(nP F (iK 0 l)++[pw true iO]))))=_;have e1:caseA 0 l=[]:=by simp[caseA]
  have e2:iH 0 l=l:=by simp[iH]
  have e3:iK 0 l=[]:=by simp[iK]
  rw[e1,e2,e3,mO,dQ,dQ,dQ];show _++(aG ([])++(_++(aG ([])++_)))=_;skip;skip;simp[aG,kC,dK]
 rw[e] at hl ⊢;have hl':=hl;simp only[bH,bF,bS] at hl';skip;skip;have hlk:k<=(aG (eQ F l)).length:=Hr F k l hk hb;skip;have key:=Pf (F:=F) (cO.fix m).p13 l ([]:List UInt8) k (fun x hx hxl=>h.tx x (hM x hx) hxl m hm) hb hk (by omega) k 0 bQ [67,65,83,69] (by omega) (by unfold bQ;omega) (by rw[Nat.mul_zero,kG];simp only[bH,bF,bS];omega);rw[Nat.mul_zero,kG] at key;unfold lC;dsimp only;rw[wq 29 1 rfl,wq 29 2 rfl,wq 29 3 rfl,wq 29 4 rfl,wq 29 5 rfl,wq 29 6 rfl,wq 29 25 rfl,wq 29 26 rfl,wq 29 27 rfl,wq 29 28 rfl,show((29:Int)==29)=true from rfl,bL];have hB:(cO.fix (m+1)).p37 (aA.mk 29 false eB eB 0 zV l [])=some (aS ([67,65,83,69]++aG (eQ F l)++([]:List UInt8)++[32,69,78,68])):=by
  refine jF (show(cO.fix (m+1)).p37 (aA.mk 29 false eB eB 0 zV l [])=wM (cO.fix m) (aA.mk 29 false eB eB 0 zV l []) from rfl) ?_;unfold wM;dsimp only;rw[bY,show mK .i64 (0:Int) 1=0 from by decide,wq 0 1 rfl];dsimp only;rw[bY,show mK .i64 (0:Int) 2=0 from by decide,wq 0 2 rfl];exact key
 rw[hB,aN]
def WV (h:TF F M N) (l:List aA) (k:Nat) (ha:M.ex a) (hk:l.length=2*k) (hM:∀x∈l,M.ex x) (hl:(aG (dX F false (aA.mk 29 false eB eB 1 zV (a::l) []) 29)).length<=1000000000) (hm:N<=m):(cO.fix (m+2)).p13 (aA.mk 29 false eB eB 1 zV (a::l) [])=some (aS (aG (dX F false (aA.mk 29 false eB eB 1 zV (a::l) []) 29))):=by
 refine jF (oH (m:=m+1)) ?_;have hb:∀x∈l,aG (F.tx true x)=32::aG (F.tx false x):=fun x hx=>h.bl.ex x (hM x hx);have e:aG (dX F false (aA.mk 29 false eB eB 1 zV (a::l) []) 29)=([67,65,83,69]++([32]++aG (F.tx false a)))++aG (eQ F l)++([]:List UInt8)++[32,69,78,68]:=by
  show aG (pw false jA::((caseA 1 (a::l)).flatMap (F.tx true)++(eQ F (iH 1 (a::l))++(nP F (iK 1 (a::l))++[pw true iO]))))=_;have e1:caseA 1 (a::l)=[a]:=by simp[caseA]
  have e2:iH 1 (a::l)=l:=by simp[iH]
  have e3:iK 1 (a::l)=[]:=by simp[iK]
  rw[e1,e2,e3,mO,dQ,dQ,dQ];show _++(aG (F.tx true a++[])++(_++(aG ([])++_)))=_;rw[gL,h.bl.ex a ha];skip;simp[aG,kC,dK]
 rw[e] at hl ⊢;have hl':=hl;simp only[bH,bF,bS] at hl';have ha':=h.tx a ha (by omega) m hm;skip;have hlk:k<=(aG (eQ F l)).length:=Hr F k l hk hb;skip;have key:=Pf (F:=F) (cO.fix m).p13 l ([]:List UInt8) k (fun x hx hxl=>h.tx x (hM x hx) hxl m hm) hb hk (by omega) k 0 bQ ([67,65,83,69]++([32]++aG (F.tx false a))) (by omega) (by unfold bQ;omega) (by rw[Nat.mul_zero,kG];simp only[bH,bF,bS];omega);rw[Nat.mul_zero,kG] at key;unfold lC;dsimp only;rw[wq 29 1 rfl,wq 29 2 rfl,wq 29 3 rfl,wq 29 4 rfl,wq 29 5 rfl,wq 29 6 rfl,wq 29 25 rfl,wq 29 26 rfl,wq 29 27 rfl,wq 29 28 rfl,show((29:Int)==29)=true from rfl,bL];have hB:(cO.fix (m+1)).p37 (aA.mk 29 false eB eB 1 zV (a::l) [])=some (aS (([67,65,83,69]++([32]++aG (F.tx false a)))++aG (eQ F l)++([]:List UInt8)++[32,69,78,68])):=by
  refine jF (show(cO.fix (m+1)).p37 (aA.mk 29 false eB eB 1 zV (a::l) [])=wM (cO.fix m) (aA.mk 29 false eB eB 1 zV (a::l) []) from rfl) ?_;unfold wM;dsimp only;rw[bY,show mK .i64 (1:Int) 1=1 from by decide,show((1:Int)==1)=true from rfl,bL,bV (by simp only[bF];omega),show((a::l).getD 0 aA.z)=a from rfl,ha',aN,cT ([32]) (aG (F.tx false a)) (by first|omega|(simp only[bH,bF,bS] at*;omega)),show aS ([32])++aS (aG (F.tx false a))=aS ([32]++aG (F.tx false a)) from cR _ _,cT ([67,65,83,69]) ([32]++aG (F.tx false a)) (by first|omega|(simp only[bH,bF,bS] at*;omega)),show aS ([67,65,83,69])++aS ([32]++aG (F.tx false a))=aS ([67,65,83,69]++([32]++aG (F.tx false a))) from cR _ _,bV (by simp only[bF];omega),show List.take ((((a::l).length:Nat):Int).toNat-1) (List.drop 1 (a::l))=l from by rw[Qm,kG,nG];simp only[bH,bF,bS,cZ];omega];dsimp only;rw[bY,show mK .i64 (1:Int) 2=0 from by decide,wq 0 2 rfl];exact key
 rw[hB,aN]
def WU (h:TF F M N) (l:List aA) (k:Nat) {z:aA} (hz:M.ex z) (hk:l.length=2*k) (hM:∀x∈l,M.ex x) (hl:(aG (dX F false (aA.mk 29 false eB eB 2 zV (l++[z]) []) 29)).length<=1000000000) (hm:N<=m):(cO.fix (m+2)).p13 (aA.mk 29 false eB eB 2 zV (l++[z]) [])=some (aS (aG (dX F false (aA.mk 29 false eB eB 2 zV (l++[z]) []) 29))):=by
 refine jF (oH (m:=m+1)) ?_;have hb:∀x∈l,aG (F.tx true x)=32::aG (F.tx false x):=fun x hx=>h.bl.ex x (hM x hx);have e:aG (dX F false (aA.mk 29 false eB eB 2 zV (l++[z]) []) 29)=[67,65,83,69]++aG (eQ F l)++([32,69,76,83,69,32]++aG (F.tx false z))++[32,69,78,68]:=by
  show aG (pw false jA::((caseA 2 (l++[z])).flatMap (F.tx true)++(eQ F (iH 2 (l++[z]))++(nP F (iK 2 (l++[z]))++[pw true iO]))))=_;have e1:caseA 2 (l++[z])=[]:=by simp[caseA]
  have e2:iH 2 (l++[z])=l:=by simp[iH]
  have e3:iK 2 (l++[z])=[z]:=by simp[iK]
  rw[e1,e2,e3,mO,dQ,dQ,dQ];show _++(aG ([])++(_++(aG (pw true qJ::F.tx true z)++_)))=_;skip;rw[mO,h.bl.ex z hz];simp[aG,kC,dK]
 rw[e] at hl ⊢;have hl':=hl;simp only[bH,bF,bS] at hl';skip;have hz':=h.tx z hz (by omega) m hm;have hlk:k<=(aG (eQ F l)).length:=Hr F k l hk hb;have hw:i64.wrap ((((l++[z]).length:Nat):Int)-1)=(l.length:Int):=by rw[Nb (by simp only[bH,bF,bS];omega) (by simp only[bH,bF,bS];omega)];simp only[bH,bF,bS];omega
 have key:=Pf (F:=F) (cO.fix m).p13 l ([32,69,76,83,69,32]++aG (F.tx false z)) k (fun x hx hxl=>h.tx x (hM x hx) hxl m hm) hb hk (by omega) k 0 bQ [67,65,83,69] (by omega) (by unfold bQ;omega) (by rw[Nat.mul_zero,kG];simp only[bH,bF,bS];omega);rw[Nat.mul_zero,kG] at key;unfold lC;dsimp only;rw[wq 29 1 rfl,wq 29 2 rfl,wq 29 3 rfl,wq 29 4 rfl,wq 29 5 rfl,wq 29 6 rfl,wq 29 25 rfl,wq 29 26 rfl,wq 29 27 rfl,wq 29 28 rfl,show((29:Int)==29)=true from rfl,bL];have hB:(cO.fix (m+1)).p37 (aA.mk 29 false eB eB 2 zV (l++[z]) [])=some (aS ([67,65,83,69]++aG (eQ F l)++([32,69,76,83,69,32]++aG (F.tx false z))++[32,69,78,68])):=by
  refine jF (show(cO.fix (m+1)).p37 (aA.mk 29 false eB eB 2 zV (l++[z]) [])=wM (cO.fix m) (aA.mk 29 false eB eB 2 zV (l++[z]) []) from rfl) ?_;unfold wM;dsimp only;rw[bY,show mK .i64 (2:Int) 1=0 from by decide,wq 0 1 rfl];dsimp only;rw[bY,show mK .i64 (2:Int) 2=2 from by decide,show((2:Int)==2)=true from rfl,bL,hw,bV (by simp only[bH,bF,bS];omega),cZ,show(l++[z]).getD l.length aA.z=z from by simp[fR],hz',aN,cT ([32,69,76,83,69,32]) (aG (F.tx false z)) (by first|omega|(simp only[bH,bF,bS] at*;omega)),show aS ([32,69,76,83,69,32])++aS (aG (F.tx false z))=aS ([32,69,76,83,69,32]++aG (F.tx false z)) from cR _ _,bV (by simp only[bH,bF,bS];omega),show List.take (l.length-0) (List.drop 0 (l++[z]))=l from by simp];exact key
 rw[hB,aN]
def WT (h:TF F M N) (l:List aA) (k:Nat) (ha:M.ex a) {z:aA} (hz:M.ex z) (hk:l.length=2*k) (hM:∀x∈l,M.ex x) (hl:(aG (dX F false (aA.mk 29 false eB eB 3 zV (a::(l++[z])) []) 29)).length<=1000000000) (hm:N<=m):(cO.fix (m+2)).p13 (aA.mk 29 false eB eB 3 zV (a::(l++[z])) [])=some (aS (aG (dX F false (aA.mk 29 false eB eB 3 zV (a::(l++[z])) []) 29))):=by
 refine jF (oH (m:=m+1)) ?_;have hb:∀x∈l,aG (F.tx true x)=32::aG (F.tx false x):=fun x hx=>h.bl.ex x (hM x hx);have e:aG (dX F false (aA.mk 29 false eB eB 3 zV (a::(l++[z])) []) 29)=([67,65,83,69]++([32]++aG (F.tx false a)))++aG (eQ F l)++([32,69,76,83,69,32]++aG (F.tx false z))++[32,69,78,68]:=by
  show aG (pw false jA::((caseA 3 (a::(l++[z]))).flatMap (F.tx true)++(eQ F (iH 3 (a::(l++[z])))++(nP F (iK 3 (a::(l++[z])))++[pw true iO]))))=_;have e1:caseA 3 (a::(l++[z]))=[a]:=by simp[caseA]
  have e2:iH 3 (a::(l++[z]))=l:=by simp[iH]
  have e3:iK 3 (a::(l++[z]))=[z]:=by simp[iK]
  rw[e1,e2,e3,mO,dQ,dQ,dQ];show _++(aG (F.tx true a++[])++(_++(aG (pw true qJ::F.tx true z)++_)))=_;rw[gL,h.bl.ex a ha];rw[mO,h.bl.ex z hz];simp[aG,kC,dK]
 rw[e] at hl ⊢;have hl':=hl;simp only[bH,bF,bS] at hl';have ha':=h.tx a ha (by omega) m hm;have hz':=h.tx z hz (by omega) m hm;have hlk:k<=(aG (eQ F l)).length:=Hr F k l hk hb;have hw:i64.wrap ((((l++[z]).length:Nat):Int)-1)=(l.length:Int):=by rw[Nb (by simp only[bH,bF,bS];omega) (by simp only[bH,bF,bS];omega)];simp only[bH,bF,bS];omega
 have key:=Pf (F:=F) (cO.fix m).p13 l ([32,69,76,83,69,32]++aG (F.tx false z)) k (fun x hx hxl=>h.tx x (hM x hx) hxl m hm) hb hk (by omega) k 0 bQ ([67,65,83,69]++([32]++aG (F.tx false a))) (by omega) (by unfold bQ;omega) (by rw[Nat.mul_zero,kG];simp only[bH,bF,bS];omega);rw[Nat.mul_zero,kG] at key;unfold lC;dsimp only;rw[wq 29 1 rfl,wq 29 2 rfl,wq 29 3 rfl,wq 29 4 rfl,wq 29 5 rfl,wq 29 6 rfl,wq 29 25 rfl,wq 29 26 rfl,wq 29 27 rfl,wq 29 28 rfl,show((29:Int)==29)=true from rfl,bL];have hB:(cO.fix (m+1)).p37 (aA.mk 29 false eB eB 3 zV (a::(l++[z])) [])=some (aS (([67,65,83,69]++([32]++aG (F.tx false a)))++aG (eQ F l)++([32,69,76,83,69,32]++aG (F.tx false z))++[32,69,78,68])):=by
  refine jF (show(cO.fix (m+1)).p37 (aA.mk 29 false eB eB 3 zV (a::(l++[z])) [])=wM (cO.fix m) (aA.mk 29 false eB eB 3 zV (a::(l++[z])) []) from rfl) ?_;unfold wM;dsimp only;rw[bY,show mK .i64 (3:Int) 1=1 from by decide,show((1:Int)==1)=true from rfl,bL,bV (by simp only[bF];omega),show((a::(l++[z])).getD 0 aA.z)=a from rfl,ha',aN,cT ([32]) (aG (F.tx false a)) (by first|omega|(simp only[bH,bF,bS] at*;omega)),show aS ([32])++aS (aG (F.tx false a))=aS ([32]++aG (F.tx false a)) from cR _ _,cT ([67,65,83,69]) ([32]++aG (F.tx false a)) (by first|omega|(simp only[bH,bF,bS] at*;omega)),show aS ([67,65,83,69])++aS ([32]++aG (F.tx false a))=aS ([67,65,83,69]++([32]++aG (F.tx false a))) from cR _ _,bV (by simp only[bF];omega),show List.take ((((a::(l++[z])).length:Nat):Int).toNat-1) (List.drop 1 (a::(l++[z])))=(l++[z]) from by rw[Qm,kG,nG];simp only[bH,bF,bS,cZ];omega];dsimp only;rw[bY,show mK .i64 (3:Int) 2=2 from by decide,show((2:Int)==2)=true from rfl,bL,hw,bV (by simp only[bH,bF,bS];omega),cZ,show(l++[z]).getD l.length aA.z=z from by simp[fR],hz',aN,cT ([32,69,76,83,69,32]) (aG (F.tx false z)) (by first|omega|(simp only[bH,bF,bS] at*;omega)),show aS ([32,69,76,83,69,32])++aS (aG (F.tx false z))=aS ([32,69,76,83,69,32]++aG (F.tx false z)) from cR _ _,bV (by simp only[bH,bF,bS];omega),show List.take (l.length-0) (List.drop 0 (l++[z]))=l from by simp]
  exact key
 rw[hB,aN]
end
section
variable {F:eA} {M:iP} {N m:Nat} {a c d:aA} {q:aF}
def PC {n:Int} {l:List aA} {k:Nat} (h0:0<=n) (h3:n<=3) (hk:(iH n.toNat l).length=2*(k+1)) (he:l=caseA n.toNat l++iH n.toNat l++iK n.toNat l):
 (n=0∧l.length=2*(k+1))∨(n=1∧∃a r,l=a::r∧r.length=2*(k+1))∨(n=2∧∃r z,l=r++[z]∧r.length=2*(k+1))∨(n=3∧∃a r z,l=a::(r++[z])∧r.length=2*(k+1)):=by
 have hn:n=0∨n=1∨n=2∨n=3:=by omega
 have last:∀r:List aA,r.length-1<r.length->r=r.take (r.length-1)++[r.getD (r.length-1) aA.z]:=by
  intro r hr;have e:r.drop (r.length-1)=[r.getD (r.length-1) aA.z]:=by
   rw[tV hr,List.drop_eq_nil_of_le (by omega),fR,fH hr,nH]
  rw[<-e,Bf]
 rcases hn with rfl|rfl|rfl|rfl
 ·refine .inl ⟨rfl,?_⟩;simpa[iH] using hk
 ·refine .inr (.inl ⟨rfl,?_⟩);simp[iH] at hk;cases l with
  |nil=>simp at hk
  |cons a r=>exact⟨a,r,rfl,by simpa using hk⟩
 ·refine .inr (.inr (.inl ⟨rfl,?_⟩));simp[iH] at hk;exact⟨_,_,last l (by omega),by simpa using hk⟩
 ·refine .inr (.inr (.inr ⟨rfl,?_⟩));simp[iH] at hk;cases l with
  |nil=>simp at hk
  |cons a r=>
   simp at hk;exact⟨a,_,_,by rw[<-last r (by omega)],by simpa using hk⟩
def WP (h:TF F M N) {e:aA} (he:rD M e) (hl:(aG (mF F false e)).length<=1000000000) (hm:N<=m):(cO.fix (m+2)).p13 e=some (aS (aG (mF F false e))):=by
 obtain⟨h0,ho,ha,hs⟩:=he;have hk:e.op=(e.op.toNat:Int):=by omega
 unfold mF at hl ⊢;generalize e.op.toNat=k at ho hl hk ⊢;rcases yB ho with rfl|rfl|rfl|rfl|rfl|rfl|hr|rfl|rfl|rfl|rfl|rfl|rfl|rfl|rfl
 ·obtain⟨e1,e2,e3,e4⟩:=ho;generalize e.v_=v at e1 e2 e3 e4;subst e1;exact aDh e2 e3 e4 hl
 ·obtain⟨e1,_⟩:=ho;generalize e.table=t at e1;generalize e.name=s at e1;subst e1;exact aDi s t hl
 ·obtain⟨e1,e2,e3⟩:=ho;generalize e.n=n at e1 e2 e3;subst e1;exact WQ e2 e3 hl
 ·obtain⟨a,rfl⟩:=ho;exact aDg h (ha _ (by simp)) hl hm
 ·obtain⟨a,rfl⟩:=ho;exact m9 h (ha _ (by simp)) hl hm
 ·obtain⟨a,rfl⟩:=ho;exact aDf h (ha _ (by simp)) hl hm
 ·obtain⟨a,c,e1,e2⟩:=By hr ho;generalize e.not=n at e1 e2;subst e1;by_cases h23:k<23
  ·exact aDj h k n ⟨hr.1,h23⟩ (ha _ (by simp)) (ha _ (by simp)) hl hm
  ·exact n7 h k n ⟨by omega,hr.2⟩ (ha _ (by simp)) (ha _ (by simp)) hl hm
 ·obtain⟨a,c,d,e1⟩:=ho;generalize e.not=n at e1;subst e1;exact QE h n (ha _ (by simp)) (ha _ (by simp)) (ha _ (by simp)) hl hm
 ·rcases ho with⟨a,l,e1⟩|⟨a,q,e1⟩
  ·generalize e.not=n at e1;subst e1;exact aGd h n l (ha _ (by simp)) (fun x hx=>ha x (iD _ hx)) hl hm
  ·generalize e.not=n at e1;subst e1;exact WS h n (ha _ (by simp)) (hs _ (by simp)).2 hl hm
 ·obtain⟨q,e1⟩:=ho;generalize e.not=n at e1;subst e1;exact TD h n (hs _ (by simp)).2 hl hm
 ·obtain⟨q,e1⟩:=ho;subst e1;exact TB h (hs _ (by simp)).2 hl hm
 ·obtain⟨k,e1,e2,e3,e4,e5⟩:=ho;generalize e.n=n at e1 e2 e3 e4 e5;generalize e.args=l at e1 e4 e5;subst e1;rcases PC e2 e3 e4 e5 with⟨rfl,h1⟩|⟨rfl,a,r,rfl,h1⟩|⟨rfl,r,z,rfl,h1⟩|⟨rfl,a,r,z,rfl,h1⟩
  ·exact WW h l (k+1) h1 ha hl hm
  ·exact WV h r (k+1) (ha _ (by simp)) h1 (fun x hx=>ha x (by simp[hx])) hl hm
  ·exact WU h r (k+1) (ha z (by simp)) h1 (fun x hx=>ha x (by simp[hx])) hl hm
  ·exact WT h r (k+1) (ha _ (by simp)) (ha z (by simp)) h1 (fun x hx=>ha x (by simp[hx])) hl hm
 ·obtain⟨a,e1,_⟩:=ho;generalize e.name=s at e1;subst e1;exact o4 h s (ha _ (by simp)) hl hm
 ·obtain⟨a,e1,_⟩:=ho;generalize e.name=s at e1;subst e1;exact QD h s (ha _ (by simp)) hl hm
 ·obtain⟨e1,_,e3⟩:=ho;generalize e.name=s at e1;generalize e.n=n at e1 e3;generalize e.args=l at e1 e3;subst e1;exact o5 h s n l ha e3 hl hm
end
section
variable {F:eA} {M:iP} {N m:Nat} {a c d:aA} {q:aF}
def fB {α:Type} (f:Nat->α->List UInt8):Nat->List α->List UInt8
 |_,[]=>[]
 |i,x::l=>f i x++fB f (i+1) l
def Hy {α R:Type} (l:List α) (z:α) (hn:l.length<=4611686018427387000) {b:(ByteArray×Int->Option R)->ByteArray×Int->Option R} {r:Option R} (f:Nat->α->List UInt8) (acc:List UInt8) (hl:acc.length+(fB f 0 l).length<=1000000000)
 (hb:∀k (acc:List UInt8) (i:Nat),i<l.length->l.getD i z∈l->acc.length+(f i (l.getD i z)).length<=1000000000->b k (aS acc,(i:Int))=k (aS (acc++f i (l.getD i z)),((i+1:Nat):Int)))
 (he:∀k,b k (aS (acc++fB f 0 l),(l.length:Int))=r):cF b bQ (aS acc,0)=r:=by
 have key:∀d i m a,i+d=l.length->d<m->a.length+(fB f i (l.drop i)).length<=1000000000->a++fB f i (l.drop i)=acc++fB f 0 l->cF b m (aS a,(i:Int))=r:=by
  intro d
  induction d with
  |zero=>
   intro i m a hi hm hx hy;obtain rfl:i=l.length:=by omega
   cases m with
   |zero=>omega
   |succ m=>
    rw[List.drop_length] at hy;have hy:a=acc++fB f 0 l:=by rw[<-hy];exact(gL a).symm
    rw[eX,hy,he]
  |succ d ih=>
   intro i m a hi hm hx hy;cases m with
   |zero=>omega
   |succ m=>
    have hi':i<l.length:=by omega
    have hg:l.getD i z=l[i]:=by rw[fR,fH hi',nH]
    rw[tV hi',<-hg] at hx hy;have e:fB f i (l.getD i z::l.drop (i+1))=f i (l.getD i z)++fB f (i+1) (l.drop (i+1)):=rfl;rw[e] at hx hy;rw[bH] at hx;rw[eX,hb _ a i hi' (by rw[hg];exact sM hi') (by omega)];exact ih (i+1) m _ (by omega) (by omega) (by rw[bH];omega) (by rw[fS];exact hy)
 exact key l.length 0 bQ acc (by omega) (by unfold bQ;omega) hl rfl
def Ej {α:Type} (f:Nat->α->List UInt8) (g:α->List UInt8) (hg:∀i x,f (i+1) x=g x):∀(l:List α) (i:Nat),fB f (i+1) l=l.flatMap g
 |[],_=>rfl
 |x::l,i=>by
  show f (i+1) x++fB f (i+1+1) l=_;rw[hg,Ej f g hg l (i+1),rN]
def Dw {α:Type} (g:α->List Pc):∀l:List α,aG (l.flatMap g)=l.flatMap fun x=>aG (g x)
 |[]=>rfl
 |x::l=>by rw[rN,rN,dQ,Dw g l]
def Dz {α:Type} (g g':α->List UInt8):∀l:List α,(∀x∈l,g x=g' x)->l.flatMap g=l.flatMap g'
 |[],_=>rfl
 |x::l,h=>by rw[rN,rN,h x (by simp),Dz g g' l fun y hy=>h y (by simp[hy])]
def Ms {α:Type} (f:Bool->α->List Pc) (l:List α) (hl:l≠[]) (hf:∀y∈l,aG (f true y)=32::aG (f false y)):aG (cK f true l)=32::aG (cK f false l):=by
 cases l with
 |nil=>exact absurd rfl hl
 |cons x l=>exact yS (hf x (by simp))
def NA {α:Type} (f:Bool->α->List Pc) (l:List α) (hf:∀y∈l,aG (f true y)=32::aG (f false y)) (g:Nat->α->List UInt8) (h0:∀x,g 0 x=aG (f false x)) (h1:∀i x,g (i+1) x=44::32::aG (f false x)):fB g 0 l=aG (cK f false l):=by
 cases l with
 |nil=>rfl
 |cons x l=>
  show g 0 x++fB g (0+1) l=aG (f false x++l.flatMap fun x=>ps false eU::f true x);rw[h0,Ej g _ h1,dQ,Dw];refine congrArg _ (Dz _ _ _ fun y hy=>?_);show _=44::aG (f true y);rw[hf y (by simp[hy])]
def NB (ws:List ByteArray) (l:List aA) (hl:l≠[]) (hf:∀y∈l,aG (F.tx true y)=32::aG (F.tx false y)):aG (dF F ws l)=aG (ws.map (pw true))++[32]++aG (cK F.tx false l):=by
 unfold dF;rw[if_neg hl,dQ,Ms F.tx l hl hf];simp
def Ef (h:TF F M N) (W:ByteArray) (ws:List ByteArray) (hW:W=aS (aG (ws.map (pw true))++[32])) (l:List aA) (hM:∀x∈l,M.ex x) (hl:(aG (dF F ws l)).length<=1000000000) (hm:N<=m):(cO.fix (m+2)).p47 W l=some (aS (aG (dF F ws l))):=by
 subst hW;show Lq (cO.fix (m+1)) _ l=_;unfold Lq;by_cases hn:l=[]
 ·subst hn;rfl
 ·have hf:∀y∈l,aG (F.tx true y)=32::aG (F.tx false y):=fun y hy=>h.bl.ex y (hM y hy);rw[NB ws l hn hf] at hl ⊢;have hl':=hl;rw[bH] at hl';have ht:=Ib h hM (by omega) hm;have h0:((l.length:Int)==0)=false:=by
   cases l with
   |nil=>exact absurd rfl hn
   |cons x l=>rfl
  rw[h0,aQ,ht,aN,cT _ _ hl',cR]
def Vx (s:ByteArray) (hl:(aG (mS s)).length<=1000000000):Cz s=some (aS (aG (mS s))):=by
 have es:s=aS s.data.toList:=(mV s).symm;unfold mS at hl ⊢;unfold Cz;by_cases hn:s.data.toList=[]
 ·rw[if_pos hn,hn];rfl
 ·rw[if_neg hn] at hl ⊢;have hne:(s.data.toList==(bm #[]).data.toList)=false:=by
   cases ht:s.data.toList with
   |nil=>exact absurd ht hn
   |cons c a=>rfl
  rw[hne,aQ];generalize hsl:s.data.toList=sl at*;subst es;have e:aG [pw true lW,pw true (aS sl)]=[32,65,83,32]++sl:=by simp[aG,kC,dK]
  rw[e] at hl ⊢;rw[cT ([32,65,83,32]) (sl) (by first|omega|(simp only[bH,bF,bS] at*;omega)),show aS ([32,65,83,32])++aS (sl)=aS ([32,65,83,32]++sl) from cR _ _]
def DL (h:BL F M) {it:bA} (hi:xF M it):aG (gH F true it)=32::aG (gH F false it):=by
 unfold gH;rcases hi with⟨h1,_⟩|⟨h1,_,_,x,e,hx⟩
 ·rw[h1,if_pos rfl,if_pos rfl];split<;>rfl
 ·rw[h1,if_neg (by simp),if_neg (by simp),e];exact yS (h.ex x hx)
def o3 (h:TF F M N) {it:bA} (hi:xF M it) (hl:(aG (gH F false it)).length<=1000000000) (hm:N<=m):(cO.fix (m+1)).p87 it=some (aS (aG (gH F false it))):=by
 show Lh (cO.fix m) it=_;unfold Lh;unfold gH at hl ⊢;rcases hi with⟨h1,_⟩|⟨h1,_,_,x,e,hx⟩
 ·rw[h1,if_pos rfl] at hl ⊢;generalize it.table=t at*;by_cases hn:t.data.toList=[]
  ·rw[if_pos hn,bY,bL,hn];rfl
  ·rw[if_neg hn] at hl ⊢;have hne:(!(t.data.toList==(bm #[]).data.toList))=true:=by
    cases ht:t.data.toList with
    |nil=>exact absurd ht hn
    |cons c a=>rfl
   have es:t=aS t.data.toList:=(mV t).symm;rw[bY,bL,hne];generalize hsl:t.data.toList=sl at*;subst es;dsimp only;have e:aG [pw false (aS sl),ps false iM,ps false mZ]=sl++[46,42]:=by simp[aG,kC,dK]
   rw[e] at hl ⊢;rw[bL,cT (sl) ([46,42]) (by first|omega|(simp only[bH,bF,bS] at*;omega)),show aS (sl)++aS ([46,42])=aS (sl++[46,42]) from cR _ _]
 ·rw[h1,if_neg (by simp),e] at hl ⊢;rw[dQ] at hl ⊢;have hl':=hl;rw[bH] at hl';have hp:=h.tx x hx (show(aG (F.tx false x)).length<=_ by exact xX (Nat.le_add_right _ _) hl') m hm;have ht:=Vx it.az (by omega);rw[bY,aQ];dsimp only;rw[aQ,aQ,bV (by simp),show([x].getD 0 aA.z)=x from rfl,hp,aN,ht,aN,cT (aG (F.tx false x)) _ hl',cR]
def EZ (F:eA) (f:aO):aG (gW F true f)=32::aG (gW F false f):=by
 unfold gW;split<;>rfl
def aDe (h:TF F M N) {f:aO} (hi:rF M f) (hl:(aG (gW F false f)).length<=1000000000) (hm:N<=m):(cO.fix (m+1)).p88 f=some (aS (aG (gW F false f))):=by
 obtain⟨_,_,_,hs⟩:=hi;show Lg (cO.fix m) f=_;unfold Lg;unfold gW at hl ⊢;rcases hs with⟨h1,_⟩|⟨_,q,h1,_,hq⟩
 ·rw[h1,if_pos rfl] at hl ⊢;rw[dQ] at hl ⊢;generalize f.name=s at*;have es:s=aS s.data.toList:=(mV s).symm;have e:aG [pw false s]=s.data.toList:=by simp[aG,kC,dK]
  rw[e] at hl ⊢;have hl':=hl;rw[bH] at hl';have ht:=Vx f.az (by omega);rw[show decide (((([]:List aF).length:Nat):Int)>0)=false from rfl,aQ,ht,aN];generalize hsl:s.data.toList=sl at*;subst es;rw[cT _ _ hl',cR]
 ·rw[h1,if_neg (by simp)] at hl ⊢;rw[dQ,show([q].getD 0 aF.z)=q from rfl,zS] at hl;rw[dQ,show([q].getD 0 aF.z)=q from rfl,zS];have hl':=hl;simp only[bH,bF,bS] at hl';have ht:=Vx f.az (by omega);have hp:=h.se q hq (by omega) m hm;rw[show decide ((([q].length:Nat):Int)>0)=true from rfl,bL,bV (by simp),hp,aN,cT ([40]) (aG (F.se false q)) (by first|omega|(simp only[bH,bF,bS] at*;omega)),show aS ([40])++aS (aG (F.se false q))=aS ([40]++aG (F.se false q)) from cR _ _,cT ([40]++aG (F.se false q)) ([41]) (by first|omega|(simp only[bH,bF,bS] at*;omega)),show aS ([40]++aG (F.se false q))++aS ([41])=aS ([40]++aG (F.se false q)++[41]) from cR _ _,ht,aN,cT ([40]++aG (F.se false q)++[41]) (aG (mS f.az)) (by first|omega|(simp only[bH,bF,bS] at*;omega)),show aS ([40]++aG (F.se false q)++[41])++aS (aG (mS f.az))=aS ([40]++aG (F.se false q)++[41]++aG (mS f.az)) from cR _ _]
end
section
variable {F:eA} {M:iP} {N m:Nat} {a c d:aA} {q:aF}
def Od (F:eA) (l:List aA):aG (iU F true l)=32::aG (iU F false l):=rfl
def TR (F:eA) (l:List aA):aG (iU F false l)=[40]++aG (cK F.tx false l)++[41]:=zS _
def SZ (h:TF F M N) (p:aK) (hv:p.values≠[]) (hM:∀row∈p.values,∀x∈row,M.ex x) (hl:(aG (eO F false p)).length<=1000000000) (hm:N<=m):(cO.fix (m+3)).p46 p=some (aS (aG (eO F false p))):=by
 show Bc (cO.fix (m+2)) p=_;unfold Bc;have e:aG (eO F false p)=[86,65,76,85,69,83,32]++aG (cK (iU F) false p.values):=by
  unfold eO;rw[if_neg hv,mO,Ms (iU F) _ hv fun y _=>Od F y];simp
 rw[e] at hl ⊢;simp only[bH,bF,bS] at hl;have hlen:=Mn (iU F) p.values fun y _=>Od F y;have h0:decide ((p.values.length:Int)>0)=true:=by
  cases hp:p.values with
  |nil=>exact absurd hp hv
  |cons x l=>rw[pJ,bF];omega
 rw[h0,bL];refine(BK p.values [] (by omega) (fun row=>aS (aG (iU F false row))) (N:=fun acc=>call (uR acc (bm #[44,32])) fun y24=>aR ((bm #[86,65,76,85,69,83,32]).size+y24.size<=maxLen) (some (bm #[86,65,76,85,69,83,32]++y24))) (fun k acc i hi ha=>?_) (fun k acc=>?_)).trans ?_
 ·dsimp only;have hg:p.values.getD i []∈p.values:=by
   rw[fR,fH hi,nH];exact sM hi
  have hx:=Xp (iU F) (fun y _=>Od F y) hg;rw[TR] at hx ⊢;simp only[bH,bF,bS] at hx;have ht:=Ib (m:=m+1) h (hM _ hg) (by omega) (by omega);rw[show decide ((i:Int)<(p.values.length:Int))=true by rw[pJ];omega,bL,bV (by omega),cZ,ht,aN,cT ([40]) (aG (cK F.tx false (p.values.getD i []))) (by first|omega|(simp only[bH,bF,bS] at*;omega)),show aS ([40])++aS (aG (cK F.tx false (p.values.getD i [])))=aS ([40]++aG (cK F.tx false (p.values.getD i []))) from cR _ _,cT ([40]++aG (cK F.tx false (p.values.getD i []))) ([41]) (by first|omega|(simp only[bH,bF,bS] at*;omega)),show aS ([40]++aG (cK F.tx false (p.values.getD i [])))++aS ([41])=aS ([40]++aG (cK F.tx false (p.values.getD i []))++[41]) from cR _ _,bV (by omega),jW hi (by omega)]
 ·dsimp only;rw[show decide ((p.values.length:Int)<(p.values.length:Int))=false by rw[pZ];omega,aQ]
 ·have hj:Lib.join ((p.values.map fun x=>aS (aG (iU F false x))).map (·.data.toList)) (bm #[44,32]).data.toList=aG (cK (iU F) false p.values):=by
   rw[List.map_map];cases p.values with
   |nil=>rfl
   |cons x l=>exact Qw (iU F) x l fun y hy=>Od F y
  unfold uR;rw[bV (by rw[hj,gI];omega),hj,aN,cT ([86,65,76,85,69,83,32]) (aG (cK (iU F) false p.values)) (by first|omega|(simp only[bH,bF,bS] at*;omega)),show aS ([86,65,76,85,69,83,32])++aS (aG (cK (iU F) false p.values))=aS ([86,65,76,85,69,83,32]++aG (cK (iU F) false p.values)) from cR _ _]
def Ox (F:eA) (i:Nat) (it:bA):List UInt8:=(if i=0 then [] else [44,32])++aG (gH F false it)
def rT (F:eA) (i:Nat) (f:aO):List UInt8:=((if i=0 then [32,70,82,79,77,32] else if f.join=1 then [32,76,69,70,84,32,74,79,73,78,32] else [32,74,79,73,78,32])++aG (gW F false f))++aG (dF F [iJ] f.on)
def AC (F:eA) (l:List aO):fB (rT F) 0 l=aG (vO F l):=by
 cases l with
 |nil=>rfl
 |cons f l=>
  show rT F 0 f++fB (rT F) (0+1) l=aG (pw true oI::(gW F true f++(dF F [iJ] f.on++l.flatMap fun f=>(if f.join=1 then [pw true mQ,pw true hU] else [pw true hU])++(gW F true f++dF F [iJ] f.on))));rw[Ej (rT F) (fun f=>rT F 1 f) (fun i x=>rfl),mO,dQ,dQ,Dw,EZ];rw[Dz (fun f=>rT F 1 f) (fun f=>aG ((if f.join=1 then [pw true mQ,pw true hU] else [pw true hU])++(gW F true f++dF F [iJ] f.on))) l fun f _=>?_]
  ·simp[rT,aG,kC,dK]
  ·rw[dQ,dQ,EZ];by_cases hj:f.join=1
   ·simp[rT,hj,aG,kC,dK]
   ·simp[rT,hj,aG,kC,dK]
def VL (i:Nat) (j:Int) (hj:j=0∨j=1) (h0:i=0->j=0):∃L:List ByteArray,[[(bm #[32,70,82,79,77,32]),(bm #[32,70,82,79,77,32])],[(bm #[32,74,79,73,78,32]),(bm #[32,76,69,70,84,32,74,79,73,78,32])]].getD (dW (i:Int) 1).toNat []=L∧L.length=2∧L.getD j.toNat bO=aS (if i=0 then [32,70,82,79,77,32] else if j=1 then [32,76,69,70,84,32,74,79,73,78,32] else [32,74,79,73,78,32]):=by
 by_cases hi:i=0
 ·subst hi;rw[h0 rfl];exact⟨_,rfl,rfl,rfl⟩
 ·have e:dW (i:Int) 1=1:=by unfold dW;split<;>omega
  rw[e,if_neg hi];rcases hj with rfl|rfl
  ·exact⟨_,rfl,rfl,rfl⟩
  ·exact⟨_,rfl,rfl,rfl⟩
def aD4 (i:Nat):0<=dW (i:Int) 1∧dW (i:Int) 1<2:=by unfold dW;split<;>omega
def TA (h:TF F M N) (p:aK) (hp:nA M p) (hv:p.values=[]) (hl:(aG (eO F false p)).length<=1000000000) (hlen:p.items.length<=1000000000∧p.from_.length<=1000000000) (hm:N<=m):(cO.fix (m+3)).p46 p=some (aS (aG (eO F false p))):=by
 show Bc (cO.fix (m+2)) p=_;unfold Bc;rcases hp with⟨hx,_⟩|⟨_,hi,hit,hfr,hf0,hwh,hgr,hhv⟩
 ·exact absurd hv hx
 have hwM:∀x∈p.where_,M.ex x:=by
  rcases hwh with e|⟨x,e,hx⟩<;>rw[e]
  ·intro x hx;cases hx
  ·intro y hy;rw[xT.1 hy];exact hx
 have hhM:∀x∈p.having,M.ex x:=by
  rcases hhv with e|⟨_,x,e,hx⟩<;>rw[e]
  ·intro x hx;cases hx
  ·intro y hy;rw[xT.1 hy];exact hx
 have hbl:∀y∈p.items,aG (gH F true y)=32::aG (gH F false y):=fun y hy=>DL h.bl (hit y hy);have e:aG (eO F false p)=((((([83,69,76,69,67,84,32]++(if p.distinct then [68,73,83,84,73,78,67,84,32] else []))++fB (Ox F) 0 p.items)++fB (rT F) 0 p.from_)++aG (dF F [oF] p.where_))++aG (dF F [lF,lB] p.group))++aG (dF F [oB] p.having):=by
  unfold eO;rw[if_pos hv,mO,dQ,dQ,dQ,dQ,dQ,Ms (gH F) _ hi hbl,AC,NA (gH F) p.items hbl (Ox F) (fun x=>rfl) (fun i x=>rfl)];cases p.distinct<;>simp[aG,kC,dK]
 rw[e] at hl ⊢;have hl':=hl;simp only[bH,bF,bS] at hl';have hw:=Ef h (bm #[32,87,72,69,82,69,32]) [oF] rfl p.where_ hwM (by omega) hm;have hg:=Ef h (bm #[32,71,82,79,85,80,32,66,89,32]) [lF,lB] rfl p.group hgr (by omega) hm;have hh:=Ef h (bm #[32,72,65,86,73,78,71,32]) [oB] rfl p.having hhM (by omega) hm;rw[hv,show decide (((([]:List (List aA)).length:Nat):Int)>0)=false from rfl,aQ];have hD:∀(k:ByteArray->Option ByteArray),join (fun(k:ByteArray->Option ByteArray)=>aE p.distinct (aR ((bm #[83,69,76,69,67,84,32]).size+(bm #[68,73,83,84,73,78,67,84,32]).size<=maxLen) (k (bm #[83,69,76,69,67,84,32]++bm #[68,73,83,84,73,78,67,84,32]))) (k (bm #[83,69,76,69,67,84,32]))) k=k (aS ([83,69,76,69,67,84,32]++(if p.distinct then [68,73,83,84,73,78,67,84,32] else []))):=by
  intro k;rw[bY];cases p.distinct with
  |true=>rw[bL,bV (by decide)];rfl
  |false=>rfl
 refine(hD _).trans ?_;refine Hy p.items bA.z (by omega) (Ox F) _ (by simp only[bH,bF,bS];omega) (fun k acc i hi hg hx=>?_) (fun k=>?_)
 ·dsimp only;generalize hy:p.items.getD i bA.z=y at*;have hyM:=hit y hg;unfold Ox at hx ⊢;rw[bH] at hx;have ht:=o3 (m:=m+1) h hyM (by omega) (by omega);rw[show decide ((i:Int)<(p.items.length:Int))=true by rw[pJ];omega,bL,bV (by omega)];have hC:∀(k:ByteArray->Option ByteArray),join (fun(k:ByteArray->Option ByteArray)=>aE (decide ((i:Int)>0)) (aR ((aS acc).size+(bm #[44,32]).size<=maxLen) (k (aS acc++bm #[44,32]))) (k (aS acc))) k=k (aS (acc++(if i=0 then [] else [44,32]))):=by
   intro k;rw[bY];by_cases h0:i=0
   ·rw[if_pos h0,show decide ((i:Int)>0)=false by rw[pZ];omega,aQ,gL]
   ·rw[if_neg h0] at hx;simp only[bF,bS] at hx;rw[if_neg h0,show decide ((i:Int)>0)=true by rw[pJ];omega,bL,cT acc [44,32] (by simp only[bF,bS];omega),cR]
  refine(hC _).trans ?_;rw[cZ,hy,ht,aN,cT _ _ (by rw[bH];omega),cR,jW hi (by omega),fS]
 dsimp only;rw[show decide ((p.items.length:Int)<(p.items.length:Int))=false by rw[pZ];omega,aQ];refine Hy p.from_ aO.z (by omega) (rT F) _ (by simp only[bH,bF,bS];omega) (fun k acc i hi hg' hx=>?_) (fun k=>?_)
 ·dsimp only;have hj0:i=0->(p.from_.getD i aO.z).join=0:=by
   rintro rfl;cases hfl:p.from_ with
   |nil=>rw[hfl] at hi;simp at hi
   |cons f l=>exact(hf0 f l hfl).1
  generalize hy:p.from_.getD i aO.z=g at*;have hgM:=hfr g hg';have hgM':=hgM;obtain⟨hj,_,hon,_⟩:=hgM';have honM:∀x∈g.on,M.ex x:=by
   rcases hon with e|⟨x,e,hx⟩<;>rw[e]
   ·intro x hx;cases hx
   ·intro y hy;rw[xT.1 hy];exact hx
  unfold rT at hx ⊢;rw[bH,bH] at hx;obtain⟨L,g1,g2,g3⟩:=VL i g.join hj hj0;have ht:=aDe (m:=m+1) h hgM (by omega) (by omega);have hc:=Ef h (bm #[32,79,78,32]) [iJ] rfl g.on honM (by omega) hm;have hmn:=aD4 i;generalize (if i=0 then [32,70,82,79,77,32] else if g.join=1 then [32,76,69,70,84,32,74,79,73,78,32] else [32,74,79,73,78,32]:List UInt8)=X at*;rw[show decide ((i:Int)<(p.from_.length:Int))=true by rw[pJ];omega,bL,bV (by omega),bV (by simp only[bF,bS];omega),cZ,hy,g1,bV (by rw[g2];omega),ht,aN,g3,cT (X) (aG (gW F false g)) (by first|omega|(simp only[bH,bF,bS] at*;omega)),show aS (X)++aS (aG (gW F false g))=aS (X++aG (gW F false g)) from cR _ _,cT (acc) (X++aG (gW F false g)) (by first|omega|(simp only[bH,bF,bS] at*;omega)),show aS (acc)++aS (X++aG (gW F false g))=aS (acc++(X++aG (gW F false g))) from cR _ _,hc,aN,cT (acc++(X++aG (gW F false g))) (aG (dF F [iJ] g.on)) (by first|omega|(simp only[bH,bF,bS] at*;omega)),show aS (acc++(X++aG (gW F false g)))++aS (aG (dF F [iJ] g.on))=aS ((acc++(X++aG (gW F false g)))++aG (dF F [iJ] g.on)) from cR _ _,jW hi (by omega),fS acc]
 dsimp only;rw[show decide ((p.from_.length:Int)<(p.from_.length:Int))=false by rw[pZ];omega,aQ,hw,aN,cT _ _ (by simp only[bH,bF,bS];omega),cR,hg,aN,cT _ _ (by simp only[bH,bF,bS];omega),cR,hh,aN,cT _ _ (by simp only[bH,bF,bS];omega),cR]
end
section
variable {F:eA} {M:iP} {N m:Nat} {a c d:aA} {q:aF}
def Sg {α:Type} (f:Nat->α->List UInt8) (hf:∀i x,1<=(f (i+1) x).length):∀l:List α,l.length<=(fB f 0 l).length+1:=by
 have:∀(l:List α) (i:Nat),l.length<=(fB f (i+1) l).length:=by
  intro l
  induction l with
  |nil=>intro i;exact kK _
  |cons x l ih=>
   intro i;have e:fB f (i+1) (x::l)=f (i+1) x++fB f (i+1+1) l:=rfl;have:=ih (i+1);have:=hf i x;rw[e,bH,bF];omega
 intro l;cases l with
 |nil=>exact kK _
 |cons x l=>
  have e:fB f 0 (x::l)=f 0 x++fB f (0+1) l:=rfl;have:=this l 0;rw[e,bH,bF];omega
def TC (h:TF F M N) (p:aK) (hp:nA M p) (hl:(aG (eO F false p)).length<=1000000000) (hm:N<=m):(cO.fix (m+3)).p46 p=some (aS (aG (eO F false p))):=by
 by_cases hv:p.values=[]
 ·refine TA h p hp hv hl ?_ hm;rcases hp with⟨hx,_⟩|⟨_,hi,hit,_⟩
  ·exact absurd hv hx
  have hbl:∀y∈p.items,aG (gH F true y)=32::aG (gH F false y):=fun y hy=>DL h.bl (hit y hy);have h1:=Mn (gH F) p.items hbl;have h2:=Sg (rT F) (fun i x=>by unfold rT;simp only[bH];rw[if_neg (by omega)];split<;>simp only[bF]<;>omega) p.from_;unfold eO at hl;rw[if_pos hv,mO,dQ,dQ,dQ,Ms (gH F) _ hi hbl,<-AC] at hl;simp only[bH,bF] at hl;refine⟨?_,?_⟩
  ·omega
  ·omega
 ·refine SZ h p hv ?_ hl hm;rcases hp with⟨_,_,hr⟩|⟨hx,_⟩
  ·exact fun row hrow=>(hr row hrow).2.2
  ·exact absurd hx hv
def pI (b:Bool) (s:ByteArray):List Pc:=[pw b s]
def WR {l:List ByteArray} (hl:(aG (cK pI false l)).length<=1000000000):uR l (bm #[44,32])=some (aS (aG (cK pI false l))):=by
 have hlen:=Mn pI l fun y _=>rfl;have hj:Lib.join (l.map (·.data.toList)) (bm #[44,32]).data.toList=aG (cK pI false l):=by
  cases l with
  |nil=>rfl
  |cons x l=>
   have:=Qw pI x l fun y hy=>rfl;have e:((x::l).map fun x=>aG (pI false x))=(x::l).map (·.data.toList):=by
    refine Ha fun s _=>?_;simp[pI,aG,kC,dK]
   rw[e] at this;exact this
 unfold uR;rw[hj,bV ⟨by omega,by omega⟩]
def Df (l:List ByteArray):List UInt8:=if l=[] then [] else [40]++aG (cK pI false l)++[41]
def nO (F:eA) (i:Nat) (c:bE):List UInt8:=(((if i=0 then [87,73,84,72,32] else [44,32])++c.name.data.toList)++Df c.cols)++([32,65,83,32,40]++aG (F.se false (c.body.getD 0 aF.z))++[41])
def BZ (F:eA) (c:bE) (i:Nat):nO F i c=(if i=0 then [87,73,84,72] else [44])++aG (nD F c):=by
 unfold nD nO Df;rw[mO,dQ,mO];have e:aG (ps true cL::(F.se false (c.body.getD 0 aF.z)++[ps false cB]))=[32]++([40]++aG (F.se false (c.body.getD 0 aF.z))++[41]):=by
  rw[<-zS];rfl
 rw[e];show _=_++([32]++c.name.data.toList++(aG (if c.cols=[] then [] else ps false cL::(cK pI false c.cols++[ps false cB]))++_));by_cases hc:c.cols=[]
 ·rw[if_pos hc,if_pos hc];by_cases hi:i=0<;>simp[hi,aG]
 ·rw[if_neg hc,if_neg hc,zS];by_cases hi:i=0<;>simp[hi]
def PV (F:eA) (c:bE) (l:List bE):fB (nO F) 0 (c::l)=aG (Ey F false (c::l)):=by
 show nO F 0 c++fB (nO F) (0+1) l=aG (pw false Js::(nD F c++l.flatMap fun c=>ps false eU::nD F c));rw[Ej (nO F) (fun c=>nO F 1 c) (fun i x=>rfl),mO,dQ,Dw,BZ,Dz (fun c=>nO F 1 c) (fun c=>aG (ps false eU::nD F c)) l fun c _=>BZ F c 1];rw[if_pos rfl,fS];rfl
def Fh (k:Nat):List UInt8:=(if k=1 then [32,85,78,73,79,78,32] else if k=2 then [32,85,78,73,79,78,32,65,76,76,32] else if k=3 then [32,73,78,84,69,82,83,69,67,84,32] else if k=4 then [32,69,88,67,69,80,84,32] else []:List UInt8)
def SJ:∀k:Fin 5,1<=k.val->Fh k.val=aG (uJ k.val)++[32]:=by decide+kernel
def VQ:∀k:Fin 5,[(bm #[]),(bm #[32,85,78,73,79,78,32]),(bm #[32,85,78,73,79,78,32,65,76,76,32]),(bm #[32,73,78,84,69,82,83,69,67,84,32]),(bm #[32,69,88,67,69,80,84,32])].getD k.val bO=aS (Fh k.val):=by decide+kernel
def oV (F:eA) (i:Nat) (p:aK):List UInt8:=Fh p.comp.toNat++aG (eO F false p)
def OG (F:eA) (p:aK) (l:List aK) (h0:p.comp=0) (hl:∀r∈l,1<=r.comp∧r.comp<=4):fB (oV F) 0 (p::l)=aG (Ci F false (p::l)):=by
 show oV F 0 p++fB (oV F) (0+1) l=aG (eO F false p++l.flatMap fun p=>uJ p.comp.toNat++eO F true p);rw[Ej (oV F) (fun p=>oV F 1 p) (fun i x=>rfl),dQ,Dw,Dz (fun p=>oV F 1 p) (fun p=>aG (uJ p.comp.toNat++eO F true p)) l fun r hr=>?_]
 ·unfold oV;rw[h0];rfl
 ·have:=hl r hr;have hc:=SJ ⟨r.comp.toNat,by omega⟩ (by dsimp only;omega);dsimp only at hc;unfold oV;rw[hc,dQ,AK];simp
def rY (F:eA) (i:Nat) (s:aX):List UInt8:=((if i=0 then [32,79,82,68,69,82,32,66,89,32] else [44,32])++aG (F.tx false s.expr))++(if s.desc_ then [32,68,69,83,67] else [])
def DK (h:BL F M) {s:aX} (hs:M.ex s.expr):aG (mP F true s)=32::aG (mP F false s):=yS (h.ex _ hs)
def Zg (F:eA) (s:aX):aG (mP F false s)=aG (F.tx false s.expr)++(if s.desc_ then [32,68,69,83,67] else []):=by
 unfold mP;rw[dQ];cases s.desc_<;>rfl
def OI (h:BL F M) (l:List aX) (hM:∀s∈l,M.ex s.expr):fB (rY F) 0 l=aG (vF F l):=by
 cases l with
 |nil=>rfl
 |cons s l=>
  show rY F 0 s++fB (rY F) (0+1) l=aG (if s::l=[] then [] else pw true mE::pw true lB::(mP F true s++l.flatMap fun x=>ps false eU::mP F true x));rw[if_neg (by simp),Ej (rY F) (fun s=>rY F 1 s) (fun i x=>rfl),mO,mO,dQ,Dw,DK h (hM s (by simp)),Dz (fun s=>rY F 1 s) (fun x=>aG (ps false eU::mP F true x)) l fun s hs=>?_]
  ·unfold rY;rw[Zg];simp
  ·rw[yE,DK h (hM s (by simp[hs])),Zg];unfold rY;rw[fS];rfl
def BD (i:Nat) (A C:ByteArray):0<=dW (i:Int) 1∧dW (i:Int) 1<((([A,C]).length:Nat):Int)∧([A,C]).getD (dW (i:Int) 1).toNat bO=if i=0 then A else C:=by
 by_cases hi:i=0
 ·subst hi;exact⟨by decide,(show dW ((0:Nat):Int) 1<2 by decide),rfl⟩
 ·have e:dW (i:Int) 1=1:=by unfold dW;split<;>omega
  rw[e,if_neg hi];exact⟨by decide,(show(1:Int)<2 by decide),rfl⟩
def m7 (h:TF F M N) {q:aF} (hq:uL M q) (hl:(aG (qK F false q)).length<=1000000000) (hm:N<=m):(cO.fix (m+4)).p20 q=some (aS (aG (qK F false q))):=by
 have hcore:=DM (F:=F) hq;obtain⟨hwi,⟨P,L,hpt,hp0,hpM,hLM⟩,hor,hlo⟩:=hq;have hlim:(∀x∈q.limit,M.ex x)∧∀x∈q.offset,M.ex x:=by
  rcases hlo with⟨e1,e2⟩|⟨x,e1,hx,e2|⟨y,e2,hy⟩⟩<;>rw[e1,e2]
  ·exact⟨fun x hx=>(by cases hx),fun x hx=>(by cases hx)⟩
  ·exact⟨fun z hz=>by rw[xT.1 hz];exact hx,fun x hx=>(by cases hx)⟩
  ·exact⟨fun z hz=>by rw[xT.1 hz];exact hx,fun z hz=>by rw[xT.1 hz];exact hy⟩
 have hpc:fB (oV F) 0 q.parts=aG (Ci F false q.parts):=by rw[hpt];exact OG F P L hp0 fun r hr=>⟨(hLM r hr).1,(hLM r hr).2.1⟩
 have hoc:=OI h.bl q.order hor;have e:aG (qK F false q)=((((fB (nO F) 0 q.with_++(if q.with_=[] then [] else [32]))++fB (oV F) 0 q.parts)++fB (rY F) 0 q.order)++aG (dF F [kM] q.limit))++aG (dF F [kU] q.offset):=by
  have ec:aG (pD F false q)=((fB (oV F) 0 q.parts++fB (rY F) 0 q.order)++aG (dF F [kM] q.limit))++aG (dF F [kU] q.offset):=by
   unfold pD;rw[dQ,dQ,dQ,hpc,hoc];simp only[fS]
  unfold qK;by_cases hw:q.with_=[]
  ·rw[if_pos hw,if_pos hw,ec,hw];simp only[fS];rfl
  ·rw[if_neg hw,if_neg hw,dQ,hcore,ec];obtain⟨c,l,hcl⟩:∃c l,q.with_=c::l:=by
    cases hcl:q.with_ with
    |nil=>exact absurd hcl hw
    |cons c l=>exact⟨c,l,rfl⟩
   rw[hcl,PV];simp only[fS,jP,iY]
 rw[e] at hl ⊢;have hl':=hl;simp only[bH] at hl';have hn1:=Sg (nO F) (fun i x=>by unfold nO;simp only[bH,bF,bS];omega) q.with_;have hn2:=Sg (rY F) (fun i x=>by unfold rY;rw[if_neg (by omega)];simp only[bH,bF,bS];omega) q.order;have hn3:q.parts.length<=(fB (oV F) 0 q.parts).length+1:=by
  have hcl:∀k:Fin 5,1<=k.val->1<=(Fh k.val).length:=by decide+kernel
  have go:∀l:List aK,(∀r∈l,1<=r.comp∧r.comp<=4)->∀i,l.length<=(fB (oV F) i l).length:=by
   intro l
   induction l with
   |nil=>intro _ i;exact kK _
   |cons r l ih=>
    intro hl i;have:=ih (fun x hx=>hl x (by simp[hx])) (i+1);have hr:=hl r (by simp);have hc:=hcl ⟨r.comp.toNat,by omega⟩ (by dsimp only;omega);dsimp only at hc;show(r::l).length<=((Fh r.comp.toNat++aG (eO F false r))++fB (oV F) (i+1) l).length;simp only[bH,bF];omega
  rw[hpt];have:=go L (fun r hr=>⟨(hLM r hr).1,(hLM r hr).2.1⟩) 1;show(P::L).length<=(oV F 0 P++fB (oV F) 1 L).length+1;rw[bH,bF];omega
 have hli:=Ef (m:=m+1) h (bm #[32,76,73,77,73,84,32]) [kM] rfl q.limit hlim.1 (by omega) (by omega);have hof:=Ef (m:=m+1) h (bm #[32,79,70,70,83,69,84,32]) [kU] rfl q.offset hlim.2 (by omega) (by omega);show jD (cO.fix (m+3)) q=_;unfold jD;refine Hy q.with_ bE.z (by omega) (nO F) [] (by rw[bS];omega) (fun k acc i hi hg hx=>?_) (fun k=>?_)
 ·dsimp only;generalize hy:q.with_.getD i bE.z=y at*;obtain⟨_,_,b,hb,_,hbM⟩:=hwi y hg;obtain⟨g1,g2,g3⟩:=BD i (bm #[87,73,84,72,32]) (bm #[44,32]);have g3:[(bm #[87,73,84,72,32]),(bm #[44,32])].getD (dW (i:Int) 1).toNat bO=aS (if i=0 then [87,73,84,72,32] else [44,32]:List UInt8):=by rw[g3];split<;>rfl
  unfold nO at hx ⊢;rw[hb,show([b].getD 0 aF.z)=b from rfl] at hx ⊢;generalize (if i=0 then [87,73,84,72,32] else [44,32]:List UInt8)=X at*;have hx':=hx;simp only[bH,bF,bS] at hx';have hs:=h.se b hbM (by omega) (m+3) (by omega);have en:y.name=aS y.name.data.toList:=(mV y.name).symm;rw[show decide ((i:Int)<(q.with_.length:Int))=true by rw[pJ];omega,bL,bV (by omega),bV ⟨g1,g2⟩,cZ,hy,g3,hb];generalize hsl:y.name.data.toList=sl at*;rw[en,cT (X) (sl) (by first|omega|(simp only[bH,bF,bS] at*;omega)),show aS (X)++aS (sl)=aS (X++sl) from cR _ _,cT (acc) (X++sl) (by first|omega|(simp only[bH,bF,bS] at*;omega)),show aS (acc)++aS (X++sl)=aS (acc++(X++sl)) from cR _ _];have hC:∀(k:ByteArray->Option ByteArray),join (fun(k:ByteArray->Option ByteArray)=>aE (decide ((y.cols.length:Int)>0)) (call (uR y.cols (bm #[44,32])) fun y21=>aR ((bm #[40]).size+y21.size<=maxLen) (aR (((bm #[40])++y21).size+(bm #[41]).size<=maxLen) (aR ((aS (acc++(X++sl))).size+((bm #[40])++y21++(bm #[41])).size<=maxLen) (k (aS (acc++(X++sl))++((bm #[40])++y21++(bm #[41]))))))) (k (aS (acc++(X++sl))))) k=k (aS (acc++(X++sl)++Df y.cols)):=by
   intro k;rw[bY];unfold Df at hx' ⊢;by_cases hc:y.cols=[]
   ·rw[if_pos hc,hc,gL];rfl
   ·rw[if_neg hc] at hx' ⊢;simp only[bH,bF,bS] at hx';have h0:decide ((y.cols.length:Int)>0)=true:=by
     cases hp:y.cols with
     |nil=>exact absurd hp hc
     |cons x l=>rw[pJ,bF];omega
    rw[h0,bL,WR (by omega),aN,cT ([40]) (aG (cK pI false y.cols)) (by first|omega|(simp only[bH,bF,bS] at*;omega)),show aS ([40])++aS (aG (cK pI false y.cols))=aS ([40]++aG (cK pI false y.cols)) from cR _ _,cT ([40]++aG (cK pI false y.cols)) ([41]) (by first|omega|(simp only[bH,bF,bS] at*;omega)),show aS ([40]++aG (cK pI false y.cols))++aS ([41])=aS ([40]++aG (cK pI false y.cols)++[41]) from cR _ _,cT (acc++(X++sl)) ([40]++aG (cK pI false y.cols)++[41]) (by first|omega|(simp only[bH,bF,bS] at*;omega)),show aS (acc++(X++sl))++aS ([40]++aG (cK pI false y.cols)++[41])=aS (acc++(X++sl)++([40]++aG (cK pI false y.cols)++[41])) from cR _ _]
  refine(hC _).trans ?_;rw[bV (by simp),show([b].getD 0 aF.z)=b from rfl,hs,aN,cT ([32,65,83,32,40]) (aG (F.se false b)) (by first|omega|(simp only[bH,bF,bS] at*;omega)),show aS ([32,65,83,32,40])++aS (aG (F.se false b))=aS ([32,65,83,32,40]++aG (F.se false b)) from cR _ _,cT ([32,65,83,32,40]++aG (F.se false b)) ([41]) (by first|omega|(simp only[bH,bF,bS] at*;omega)),show aS ([32,65,83,32,40]++aG (F.se false b))++aS ([41])=aS ([32,65,83,32,40]++aG (F.se false b)++[41]) from cR _ _,cT (acc++(X++sl)++Df y.cols) ([32,65,83,32,40]++aG (F.se false b)++[41]) (by first|omega|(simp only[bH,bF,bS] at*;omega)),show aS (acc++(X++sl)++Df y.cols)++aS ([32,65,83,32,40]++aG (F.se false b)++[41])=aS (acc++(X++sl)++Df y.cols++([32,65,83,32,40]++aG (F.se false b)++[41])) from cR _ _,jW hi (by omega)];simp only[fS]
 rw[show decide ((q.with_.length:Int)<(q.with_.length:Int))=false by rw[pZ];omega,aQ,iY];have hC:∀(k:ByteArray->Option ByteArray),join (fun(k:ByteArray->Option ByteArray)=>aE (decide ((q.with_.length:Int)>0)) (aR ((aS (fB (nO F) 0 q.with_)).size+(bm #[32]).size<=maxLen) (k (aS (fB (nO F) 0 q.with_)++(bm #[32])))) (k (aS (fB (nO F) 0 q.with_)))) k=k (aS (fB (nO F) 0 q.with_++(if q.with_=[] then [] else [32]))):=by
  intro k;rw[bY];by_cases hc:q.with_=[]
  ·rw[if_pos hc,hc];rfl
  ·rw[if_neg hc] at hl';simp only[bF,bS] at hl';have h0:decide ((q.with_.length:Int)>0)=true:=by
    cases hp:q.with_ with
    |nil=>exact absurd hp hc
    |cons x l=>rw[pJ,bF];omega
   rw[if_neg hc,h0,bL,cT (fB (nO F) 0 q.with_) ([32]) (by first|omega|(simp only[bH,bF,bS] at*;omega)),show aS (fB (nO F) 0 q.with_)++aS ([32])=aS (fB (nO F) 0 q.with_++[32]) from cR _ _]
 refine(hC _).trans ?_;generalize fB (nO F) 0 q.with_++(if q.with_=[] then [] else [32])=A at*;refine Hy q.parts aK.z (by omega) (oV F) A (by simp only[bH] at hl;omega) (fun k acc i hi hg hx=>?_) (fun k=>?_)
 ·dsimp only;have hgM:nA M (q.parts.getD i aK.z)∧0<=(q.parts.getD i aK.z).comp∧(q.parts.getD i aK.z).comp<=4:=by
   generalize q.parts.getD i aK.z=y at hg;rw[hpt] at hg;rcases oR.1 hg with rfl|hg
   ·exact⟨hpM,by omega,by omega⟩
   ·have:=hLM y hg;exact⟨this.2.2,by omega,by omega⟩
  generalize hy:q.parts.getD i aK.z=y at*;obtain⟨hyM,hc0,hc4⟩:=hgM;have htab:=VQ ⟨y.comp.toNat,by omega⟩;dsimp only at htab;unfold oV at hx ⊢;generalize Fh y.comp.toNat=X at*;rw[bH] at hx;have ht:=TC h y hyM (by omega) hm;rw[show decide ((i:Int)<(q.parts.length:Int))=true by rw[pJ];omega,bL,bV (by omega),cZ,hy,bV (by simp only[bF,bS];omega),ht,aN,htab,cT (X) (aG (eO F false y)) (by first|omega|(simp only[bH,bF,bS] at*;omega)),show aS (X)++aS (aG (eO F false y))=aS (X++aG (eO F false y)) from cR _ _,cT (acc) (X++aG (eO F false y)) (by first|omega|(simp only[bH,bF,bS] at*;omega)),show aS (acc)++aS (X++aG (eO F false y))=aS (acc++(X++aG (eO F false y))) from cR _ _,jW hi (by omega)]
 dsimp only;rw[show decide ((q.parts.length:Int)<(q.parts.length:Int))=false by rw[pZ];omega,aQ];generalize A++fB (oV F) 0 q.parts=C at*;refine Hy q.order aX.z (by omega) (rY F) C (by simp only[bH] at hl;omega) (fun k acc i hi hg hx=>?_) (fun k=>?_)
 ·dsimp only;generalize hy:q.order.getD i aX.z=y at*;obtain⟨g1,g2,g3⟩:=BD i (bm #[32,79,82,68,69,82,32,66,89,32]) (bm #[44,32]);have g3:[(bm #[32,79,82,68,69,82,32,66,89,32]),(bm #[44,32])].getD (dW (i:Int) 1).toNat bO=aS (if i=0 then [32,79,82,68,69,82,32,66,89,32] else [44,32]:List UInt8):=by rw[g3];split<;>rfl
  unfold rY at hx ⊢;generalize (if i=0 then [32,79,82,68,69,82,32,66,89,32] else [44,32]:List UInt8)=X at*;have hx':=hx;simp only[bH] at hx';have ht:=h.tx y.expr (hor y hg) (by omega) (m+3) (by omega);rw[show decide ((i:Int)<(q.order.length:Int))=true by rw[pJ];omega,bL,bY,bV (by omega),bV ⟨g1,g2⟩,cZ,hy,ht,aN,g3,cT (X) (aG (F.tx false y.expr)) (by first|omega|(simp only[bH,bF,bS] at*;omega)),show aS (X)++aS (aG (F.tx false y.expr))=aS (X++aG (F.tx false y.expr)) from cR _ _,cT (acc) (X++aG (F.tx false y.expr)) (by first|omega|(simp only[bH,bF,bS] at*;omega)),show aS (acc)++aS (X++aG (F.tx false y.expr))=aS (acc++(X++aG (F.tx false y.expr))) from cR _ _];cases hd:y.desc_ with
  |true=>
   rw[hd] at hx';simp only[if_true,bF,bS] at hx';rw[bL,cT (acc++(X++aG (F.tx false y.expr))) ([32,68,69,83,67]) (by first|omega|(simp only[bH,bF,bS] at*;omega)),show aS (acc++(X++aG (F.tx false y.expr)))++aS ([32,68,69,83,67])=aS (acc++(X++aG (F.tx false y.expr))++[32,68,69,83,67]) from cR _ _,jW hi (by omega),if_pos rfl,fS acc]
  |false=>
   rw[aQ,jW hi (by omega),if_neg (by simp),gL]
 dsimp only;simp only[bH] at hl;rw[show decide ((q.order.length:Int)<(q.order.length:Int))=false by rw[pZ];omega,aQ,hli,aN,cT _ _ (by rw[bH];omega),cR,hof,aN,cT _ _ (by rw[bH,bH];omega),cR]
def DU:∀n,TF (oM n) (uO n) (4*n)
 |0=>⟨fun e h=>(by cases h),fun q h=>(by cases h),Tu 0⟩
 |n+1=>by
  have h:=DU n;refine⟨fun e he hl m hm=>?_,fun q hq hl m hm=>?_,Tu (n+1)⟩
  ·obtain⟨m,rfl⟩:∃k,m=k+2:=⟨m-2,by omega⟩;exact WP h he hl (by omega)
  ·obtain⟨m,rfl⟩:∃k,m=k+4:=⟨m-4,by omega⟩;exact m7 h hq hl (by omega)
end
section
def bI (o:Option Bool) (P:Prop):Prop:=∃b,o=some b∧(b=true->P)
def bI.ff {P:Prop}:bI (some false) P:=⟨false,rfl,fun h=>by cases h⟩
def bI.pure {b:Bool} {P:Prop} (h:b=true->P):bI (some b) P:=⟨b,rfl,h⟩
def bI.call {o:Option Bool} {f:Bool->Option Bool} {P Q:Prop} (h:bI o P) (ht:P->bI (f true) Q) (hf:bI (f false) Q):bI (call o f) Q:=by
 obtain⟨b,rfl,hb⟩:=h;rw[aN];cases b with
 |true=>exact ht (hb rfl)
 |false=>exact hf
def bI.aE {c:Bool} {a b:Option Bool} {P:Prop} (h1:c=true->bI a P) (h2:c=false->bI b P):bI (aE c a b) P:=by
 cases c with
 |true=>exact h1 rfl
 |false=>exact h2 rfl
def bI.aR {p:Prop} [Decidable p] {k:Option Bool} {P:Prop} (h:p) (hk:bI k P):bI (aR p k) P:=by rw[bV h];exact hk
def bI.mono {o:Option Bool} {P Q:Prop} (h:bI o P) (hq:P->Q):bI o Q:=by
 obtain⟨b,e,hb⟩:=h;exact⟨b,e,fun h=>hq (hb h)⟩
def bI.loop {n:Nat} (hn:n<=4611686018427387000) {b:(Int->Option Bool)->Int->Option Bool} {P:Prop} (I:Nat->Prop) (h0:I 0)
 (hb:∀k (i:Nat),i<n->I i->(I (i+1)->bI (k ((i+1:Nat):Int)) P)->bI (b k (i:Int)) P) (he:∀k,I n->bI (b k (n:Int)) P):bI (cF b bQ 0) P:=by
 have key:∀d i m:Nat,i+d=n->d<m->I i->bI (cF b m (i:Int)) P:=by
  intro d
  induction d with
  |zero=>
   intro i m hi hm hI;obtain rfl:i=n:=by omega
   cases m with
   |zero=>omega
   |succ m=>rw[eX];exact he _ hI
  |succ d ih=>
   intro i m hi hm hI;cases m with
   |zero=>omega
   |succ m=>rw[eX];exact hb _ i (by omega) hI fun hI'=>ih (i+1) m (by omega) (by omega) hI'
 exact key n 0 bQ (by omega) (by unfold bQ;omega) h0
def bI.tail {a b c d f:Bool} {P:Prop} (h:a=true->b=true->c=true->d=true->f=true->P):bI (join (fun(u52:Bool->Option Bool)=>Go.Am.aE a (Go.Am.aE b (Go.Am.aE c (Go.Am.aE d (u52 f) (u52 false)) (u52 false)) (u52 false)) (u52 false)) (fun(q51:Bool)=>some q51)) P:=by
 rw[bY];refine bI.aE (fun h1=>bI.aE (fun h2=>bI.aE (fun h3=>bI.aE (fun h4=>bI.pure fun h5=>h h1 h2 h3 h4 h5) fun _=>bI.ff) fun _=>bI.ff) fun _=>bI.ff) fun _=>bI.ff
def Fg {x:ByteArray} (h:(x.data.toList==(bm #[]).data.toList)=true):x.data.toList=[]:=by
 have:=eM.1 h;rw[this]
def mR {x:ByteArray} (h:(x.data.toList==(bm #[]).data.toList)=true):x=bO:=by
 rw[<-mV x,Fg h];rfl
def aEf {x:ByteArray} (h:(x.data.toList==(bm #[]).data.toList)=false):x.data.toList≠[]:=by
 intro e;rw[e] at h;cases h
def pQ {α:Type} {l:List α} (h:((l.length:Int)==0)=true):l=[]:=by
 have:=eM.1 h;exact jU (by omega)
def rE {v:aH} (h:((v.kind==0)&&((v.int==0)&&(v.text.data.toList==(bm #[]).data.toList)))=true):v=zV:=by
 rw[dI,dI] at h;obtain⟨h1,h2,h3⟩:=h;have h3:=mR h3;have h1:=eM.1 h1;have h2:=eM.1 h2;cases v
 subst h1;subst h2;subst h3;rfl
def NX (v:aH):∃b,pH v=some b:=by
 unfold pH;simp only[bY];cases (v.kind==0)<;>cases (v.kind==1)<;>cases (v.kind==2)<;>cases (v.kind==3)<;>cases (v.int==0)<;>exact⟨_,rfl⟩
def ON {s:ByteArray} (h:s.size<=2000):∃r,Gf s=some r:=by
 unfold Gf;split
 ·exact⟨_,bV (by omega)⟩
 ·exact⟨_,bV (by omega)⟩
def NW {s:ByteArray} (h:s.size<=2000):∃r,kA s=some r:=by
 obtain⟨y,hy⟩:=ON h;obtain⟨k,hk,_⟩:=Ig (x:=s) wU h;rw[<-Ri] at hk;unfold kA;rw[hy,aN,bY];have fin:∀b:Bool,∃r,aE b (some ((bm #[]),false)) (some (y,true))=some r:=fun b=>by cases b<;>exact⟨_,rfl⟩
 cases hc:(y.size:Int) != (s.size:Int) with
 |true=>rw[bL];exact fin _
 |false=>
  have hsz:y.size=s.size:=by
   have:=bne_eq_false_iff_eq.1 hc;omega
  rw[aQ];cases (s.data.toList==(bm #[]).data.toList) with
  |true=>rw[bL];exact fin _
  |false=>
   rw[aQ,hk,aN];cases decide ((k:Int)<(s.size:Int)) with
   |true=>rw[bL];exact fin _
   |false=>
    have s1:(bm #[32]++y).size=1+y.size:=by rw[ByteArray.size_append];rfl
    rw[aQ,bV (by unfold maxLen;rw[show(bm #[32]).size=1 from rfl];omega),bV (by unfold maxLen;rw[s1,show(bm #[32]).size=1 from rfl];omega)];unfold Pp;rw[bV (by decide),aN];exact fin _
def NY (s:ByteArray):∃b,gX s=some b:=by
 unfold gX;rw[bY];cases he:(s.data.toList==(bm #[]).data.toList) with
 |true=>rw[bL];exact⟨_,rfl⟩
 |false=>
  rw[aQ];cases hd:decide ((s.size:Int)>32) with
  |true=>rw[bL];exact⟨_,rfl⟩
  |false=>
   have hle:s.size<=32:=by have:=rM hd;omega
   have hpos:0<s.size:=by
    have:=aEf he;rw[<-lO];exact List.length_pos_iff.2 this
   rw[aQ,bV (by omega),wU,aN];dsimp only;cases mJ (s.data.toList.getD 0 0) with
   |false=>rw[show(!false)=true from rfl,bL];exact⟨_,rfl⟩
   |true=>
    obtain⟨r,hr⟩:=NW (s:=s) (by omega);rw[show(!true)=false from rfl,aQ,hr,aN,bY];obtain⟨k,hk,_⟩:=Ig (x:=s) CP (by omega);rw[<-Zk] at hk;cases r.2 with
    |true=>exact⟨_,rfl⟩
    |false=>rw[show(!false)=true from rfl,bL,hk,aN];exact⟨_,rfl⟩
def Bz (s:ByteArray):bI (gX s) (kN s):=by
 obtain⟨b,hb⟩:=NY s;exact⟨b,hb,fun h=>by rw[h] at hb;exact hb⟩
def Nj (s:ByteArray):bI (As s) (Ao s):=by
 unfold As;rw[bY];exact bI.aE (fun h=>bI.pure fun _=>.inl (Fg h)) fun _=>(Bz s).call (fun h=>bI.pure fun _=>.inr h) (bI.pure fun h=>by cases h)
def Uw {s:ByteArray} (hs:s.size<=4611686018427387000) (L:List ByteArray) (hL:L.length<=1000):bI (pT s L) (pN s (some L)):=by
 have h:=Sm s hs L (by omega);exact⟨_,h,fun hb=>⟨hs,fun L' e=>by cases e;rw[h,hb]⟩⟩
def xN (x:Int):cD×Bool:=if x=1∨x=2∨x=3 then(cD.mk 0 0 false,true) else if x=27 then(cD.mk 0 0 true,true) else if x=28 then(cD.mk 0 0 false,true) else if x=4∨x=5∨x=6∨x=30∨x=31 then(cD.mk 1 1 false,true) else if x=23∨x=24 then(cD.mk 2 2 true,true) else if x=25 then(cD.mk 3 3 true,true) else if x=26 then(cD.mk 1 (-1) true,true) else if x=29 then(cD.mk 2 (-1) false,true) else if x=32 then(cD.mk 0 (-1) false,true) else(cD.mk 2 2 false,decide (7<=x∧x<=22))
def p7 (x:Int):Dk x=some (xN x):=by
 by_cases hr:0<=x∧x<=32
 ·have key:∀k:Fin 33,(Dk (k.val:Int)).map (fun r=>(r.1.least,r.1.most,r.1.not,r.2))=some ((xN (k.val:Int)).1.least,(xN (k.val:Int)).1.most,(xN (k.val:Int)).1.not,(xN (k.val:Int)).2):=by decide+kernel
  have:=key ⟨x.toNat,by omega⟩;dsimp only at this;rw[show(x.toNat:Int)=x by omega] at this;cases hs:Dk x with
  |none=>rw[hs] at this;cases this
  |some r=>
   rw[hs] at this;obtain⟨⟨a,b,c⟩,d⟩:=r;generalize xN x=t at*;obtain⟨⟨a',b',c'⟩,d'⟩:=t;simp only[Option.map_some,iZ,qS] at this;obtain⟨rfl,rfl,rfl,rfl⟩:=this;rfl
 ·have ne:∀j:Int,0<=j->j<=32->(x==j)=false:=fun j h1 h2=>by rw[sN];omega
  unfold Dk xN;simp only[bY,ne 1 (by decide) (by decide),ne 2 (by decide) (by decide),ne 3 (by decide) (by decide),ne 27 (by decide) (by decide),ne 28 (by decide) (by decide),ne 4 (by decide) (by decide),ne 5 (by decide) (by decide),ne 6 (by decide) (by decide),ne 30 (by decide) (by decide),ne 31 (by decide) (by decide),ne 23 (by decide) (by decide),ne 24 (by decide) (by decide),ne 25 (by decide) (by decide),ne 26 (by decide) (by decide),ne 29 (by decide) (by decide),ne 32 (by decide) (by decide),aQ];rw[if_neg (by omega),if_neg (by omega),if_neg (by omega),if_neg (by omega),if_neg (by omega),if_neg (by omega),if_neg (by omega),if_neg (by omega),if_neg (by omega)];by_cases h7:x>=7
  ·rw[show decide (x>=7)=true from decide_eq_true h7,bL,show decide (x<=22)=false from Bj (by omega),show decide (7<=x∧x<=22)=false from Bj (by omega)]
  ·rw[show decide (x>=7)=false from Bj h7,aQ,show decide (7<=x∧x<=22)=false from Bj (by omega)]
def kZ (e:aA):Nat->Prop
 |1=>e.name=eB∧e.n=0∧e.sub=[]∧e.table=eB∧pH e.v_=some true∧0<=e.v_.int
 |2=>kN e.name∧e.n=0∧e.sub=[]∧Ao e.table∧e.v_=zV
 |3=>e.name=eB∧(1<=e.n∧e.n<=16)∧e.sub=[]∧e.table=eB∧e.v_=zV
 |27=>e.name=eB∧e.n=0∧e.sub.length=1∧e.table=eB∧e.v_=zV
 |28=>e.name=eB∧e.n=0∧e.sub.length=1∧e.table=eB∧e.v_=zV
 |26=>e.name=eB∧e.n=0∧(e.sub=[]∨(e.sub.length=1∧e.args.length=1))∧e.table=eB∧e.v_=zV
 |29=>e.name=eB∧(0<=e.n∧e.n<=3∧(i64.wrap (i64.wrap ((e.args.length:Int)-(mK .i64 e.n 1))-(tE .i64 e.n 1))).tmod 2=0∧2<=i64.wrap (i64.wrap ((e.args.length:Int)-(mK .i64 e.n 1))-(tE .i64 e.n 1)))∧e.sub=[]∧e.table=eB∧e.v_=zV
 |30=>pN e.name wB∧e.n=0∧e.sub=[]∧e.table=eB∧e.v_=zV
 |31=>pN e.name wA∧e.n=0∧e.sub=[]∧e.table=eB∧e.v_=zV
 |32=>(kN e.name∨pN e.name (some [jX]))∧(e.n=0∨(e.n=1∧e.args.length=1)∨(e.n=2∧e.args=[]))∧e.sub=[]∧e.table=eB∧e.v_=zV
 |_=>e.name=eB∧e.n=0∧e.sub=[]∧e.table=eB∧e.v_=zV
variable {e:aA}
def aD3 (hk:e.op=1):bI (iQ e) (kZ e 1):=by
 unfold iQ;rw[bY,hk];rw[show((1:Int)==1)=true from rfl,bL];obtain⟨b,hb⟩:=NX e.v_;rw[hb,aN];cases b with
 |false=>exact bI.tail fun _ _ _ _ h=>by cases h
 |true=>exact bI.tail fun h1 h2 h3 h4 h5=>⟨mR h1,eM.1 h2,pQ h3,mR h4,hb,pK h5⟩
def aD2 (hk:e.op=2):bI (iQ e) (kZ e 2):=by
 unfold iQ;rw[bY,hk];rw[show((2:Int)==1)=false from rfl,aQ,show((2:Int)==2)=true from rfl,bL];obtain⟨b,hb,hn⟩:=Bz e.name;obtain⟨t,ht,hm⟩:=Bz e.table;rw[hb,aN,ht];refine bI.aE (fun he=>?_) fun he=>?_
 ·exact bI.tail fun h1 h2 h3 h4 h5=>⟨hn h1,eM.1 h2,pQ h3,.inl (Fg he),rE h5⟩
 ·exact bI.tail fun h1 h2 h3 h4 h5=>⟨hn h1,eM.1 h2,pQ h3,.inr (hm h4),rE h5⟩
def aD1 (hk:e.op=3):bI (iQ e) (kZ e 3):=by
 unfold iQ;rw[bY,hk];rw[show((3:Int)==1)=false from rfl,aQ,show((3:Int)==2)=false from rfl,aQ,show((3:Int)==3)=true from rfl,bL];refine bI.aE (fun he=>?_) fun he=>?_
 ·exact bI.tail fun h1 h2 h3 h4 h5=>⟨mR h1,⟨pK he,pK h2⟩,pQ h3,mR h4,rE h5⟩
 ·exact bI.tail fun _ h _ _ _=>by cases h
def aAs (hk:e.op=27):bI (iQ e) (kZ e 27):=by
 unfold iQ;rw[bY,hk];rw[show((27:Int)==1)=false from rfl,aQ,show((27:Int)==2)=false from rfl,aQ,show((27:Int)==3)=false from rfl,aQ,bY,show((27:Int)==27)=true from rfl,bL];dsimp only;rw[bL];exact bI.tail fun h1 h2 h3 h4 h5=>⟨mR h1,eM.1 h2,(by have:=eM.1 h3;omega),mR h4,rE h5⟩
def aAr (hk:e.op=28):bI (iQ e) (kZ e 28):=by
 unfold iQ;rw[bY,hk];rw[show((28:Int)==1)=false from rfl,aQ,show((28:Int)==2)=false from rfl,aQ,show((28:Int)==3)=false from rfl,aQ,bY,show((28:Int)==27)=false from rfl,show((28:Int)==28)=true from rfl,aQ];dsimp only;rw[bL];exact bI.tail fun h1 h2 h3 h4 h5=>⟨mR h1,eM.1 h2,(by have:=eM.1 h3;omega),mR h4,rE h5⟩
def aAt (hk:e.op=26):bI (iQ e) (kZ e 26):=by
 unfold iQ;rw[bY,hk];rw[show((26:Int)==1)=false from rfl,aQ,show((26:Int)==2)=false from rfl,aQ,show((26:Int)==3)=false from rfl,aQ,bY,show((26:Int)==27)=false from rfl,show((26:Int)==28)=false from rfl,aQ];dsimp only;rw[aQ,show((26:Int)==26)=true from rfl,bL];refine bI.aE (fun he=>?_) fun he=>bI.aE (fun hf=>?_) fun hf=>?_
 ·exact bI.tail fun h1 h2 h3 h4 h5=>⟨mR h1,eM.1 h2,.inl (pQ he),mR h4,rE h5⟩
 ·exact bI.tail fun h1 h2 h3 h4 h5=>⟨mR h1,eM.1 h2,.inr ⟨by have:=eM.1 hf;omega,by have:=eM.1 h3;omega⟩,mR h4,rE h5⟩
 ·exact bI.tail fun _ _ h _ _=>by cases h
def aAq (hk:e.op=29):bI (iQ e) (kZ e 29):=by
 unfold iQ;rw[bY,hk];rw[show((29:Int)==1)=false from rfl,aQ,show((29:Int)==2)=false from rfl,aQ,show((29:Int)==3)=false from rfl,aQ,bY,show((29:Int)==27)=false from rfl,show((29:Int)==28)=false from rfl,aQ];dsimp only;rw[aQ,show((29:Int)==26)=false from rfl,aQ,show((29:Int)==29)=true from rfl,bL];refine bI.aE (fun ha=>bI.aE (fun hb=>bI.aE (fun hc=>?_) fun _=>?_) fun _=>?_) fun _=>?_
 ·exact bI.tail fun h1 h2 h3 h4 h5=>⟨mR h1,⟨pK ha,pK hb,eM.1 hc,pK h2⟩,pQ h3,mR h4,rE h5⟩
 ·exact bI.tail fun _ h _ _ _=>by cases h
 ·exact bI.tail fun _ h _ _ _=>by cases h
 ·exact bI.tail fun _ h _ _ _=>by cases h
def aAp (hs:e.name.size<=4611686018427387000) (hk:e.op=30):bI (iQ e) (kZ e 30):=by
 unfold iQ;rw[bY,hk];rw[show((30:Int)==1)=false from rfl,aQ,show((30:Int)==2)=false from rfl,aQ,show((30:Int)==3)=false from rfl,aQ,bY,show((30:Int)==27)=false from rfl,show((30:Int)==28)=false from rfl,aQ];dsimp only;rw[aQ,show((30:Int)==26)=false from rfl,aQ,show((30:Int)==29)=false from rfl,aQ,show((30:Int)==30)=true from rfl,bL];obtain⟨L,hL,hl⟩:∃L,wB=some L∧L.length<=1000:=⟨_,rfl,by decide⟩;obtain⟨b,hb,hn⟩:=Uw hs L hl;rw[hL,aN,hb,aN];exact bI.tail fun h1 h2 h3 h4 h5=>⟨(by rw[hL];exact hn h1),eM.1 h2,pQ h3,mR h4,rE h5⟩
def aAo (hs:e.name.size<=4611686018427387000) (hk:e.op=31):bI (iQ e) (kZ e 31):=by
 unfold iQ;rw[bY,hk];rw[show((31:Int)==1)=false from rfl,aQ,show((31:Int)==2)=false from rfl,aQ,show((31:Int)==3)=false from rfl,aQ,bY,show((31:Int)==27)=false from rfl,show((31:Int)==28)=false from rfl,aQ];dsimp only;rw[aQ,show((31:Int)==26)=false from rfl,aQ,show((31:Int)==29)=false from rfl,aQ,show((31:Int)==30)=false from rfl,aQ,show((31:Int)==31)=true from rfl,bL];obtain⟨L,hL,hl⟩:∃L,wA=some L∧L.length<=1000:=⟨_,rfl,by decide⟩;obtain⟨b,hb,hn⟩:=Uw hs L hl;rw[hL,aN,hb,aN];exact bI.tail fun h1 h2 h3 h4 h5=>⟨(by rw[hL];exact hn h1),eM.1 h2,pQ h3,mR h4,rE h5⟩
def aAn (hs:e.name.size<=4611686018427387000) (hk:e.op=32):bI (iQ e) (kZ e 32):=by
 unfold iQ;rw[bY,hk];rw[show((32:Int)==1)=false from rfl,aQ,show((32:Int)==2)=false from rfl,aQ,show((32:Int)==3)=false from rfl,aQ,bY,show((32:Int)==27)=false from rfl,show((32:Int)==28)=false from rfl,aQ];dsimp only;rw[aQ,show((32:Int)==26)=false from rfl,aQ,show((32:Int)==29)=false from rfl,aQ,show((32:Int)==30)=false from rfl,aQ,show((32:Int)==31)=false from rfl,aQ,show((32:Int)==32)=true from rfl,bL];obtain⟨b,hb,hn⟩:=Bz e.name;obtain⟨c,hc,hm⟩:=Uw hs [jX] (by decide);have hw:∀K:Bool->Option Bool,(∀q:Bool,(q=true->kN e.name∨pN e.name (some [jX]))->bI (K q) (kZ e 32))->bI (join (fun(u41:Bool->Option Bool)=>call (gX e.name) fun y42=>aE y42 (u41 true) (call (pT e.name [jX]) fun y44=>u41 y44)) K) (kZ e 32):=by
  intro K hK;rw[bY,hb,aN,hc];cases b with
  |true=>exact hK true fun _=>.inl (hn rfl)
  |false=>exact hK c fun h=>.inr (hm h)
 refine hw _ fun q hq=>?_;refine bI.aE (fun h0=>?_) fun h0=>bI.aE (fun h1'=>bI.aE (fun hl=>?_) fun _=>bI.aE (fun h2'=>?_) fun _=>?_) fun _=>bI.aE (fun h2'=>?_) fun _=>?_
 ·exact bI.tail fun h1 h2 h3 h4 h5=>⟨hq h1,.inl (eM.1 h0),pQ h3,mR h4,rE h5⟩
 ·exact bI.tail fun h1 h2 h3 h4 h5=>⟨hq h1,.inr (.inl ⟨eM.1 h1',by have:=eM.1 hl;omega⟩),pQ h3,mR h4,rE h5⟩
 ·exact bI.tail fun h1 h2 h3 h4 h5=>⟨hq h1,.inr (.inr ⟨eM.1 h2',pQ h2⟩),pQ h3,mR h4,rE h5⟩
 ·exact bI.tail fun _ h _ _ _=>by cases h
 ·exact bI.tail fun h1 h2 h3 h4 h5=>⟨hq h1,.inr (.inr ⟨eM.1 h2',pQ h2⟩),pQ h3,mR h4,rE h5⟩
 ·exact bI.tail fun _ h _ _ _=>by cases h
def UH (hne:e.op≠1∧e.op≠2∧e.op≠3∧e.op≠27∧e.op≠28∧e.op≠26∧e.op≠29∧e.op≠30∧e.op≠31∧e.op≠32):bI (iQ e) (e.name=eB∧e.n=0∧e.sub=[]∧e.table=eB∧e.v_=zV):=by
 have ne:∀j:Int,e.op≠j->(e.op==j)=false:=fun j h=>by rw[sN];exact h
 unfold iQ;rw[bY,ne 1 (by omega),aQ,ne 2 (by omega),aQ,ne 3 (by omega),aQ,bY,ne 27 (by omega),aQ,ne 28 (by omega)];dsimp only;rw[aQ,ne 26 (by omega),aQ,ne 29 (by omega),aQ,ne 30 (by omega),aQ,ne 31 (by omega),aQ,ne 32 (by omega),aQ];exact bI.tail fun h1 h2 h3 h4 h5=>⟨mR h1,eM.1 h2,pQ h3,mR h4,rE h5⟩
def YL (hs:e.name.size<=4611686018427387000):bI (iQ e) (kZ e e.op.toNat):=by
 by_cases h1:e.op=1
 ·have:=aD3 h1;rw[h1];exact this
 by_cases h2:e.op=2
 ·have:=aD2 h2;rw[h2];exact this
 by_cases h3:e.op=3
 ·have:=aD1 h3;rw[h3];exact this
 by_cases h27:e.op=27
 ·have:=aAs h27;rw[h27];exact this
 by_cases h28:e.op=28
 ·have:=aAr h28;rw[h28];exact this
 by_cases h26:e.op=26
 ·have:=aAt h26;rw[h26];exact this
 by_cases h29:e.op=29
 ·have:=aAq h29;rw[h29];exact this
 by_cases h30:e.op=30
 ·have:=aAp hs h30;rw[h30];exact this
 by_cases h31:e.op=31
 ·have:=aAo hs h31;rw[h31];exact this
 by_cases h32:e.op=32
 ·have:=aAn hs h32;rw[h32];exact this
 refine(UH ⟨h1,h2,h3,h27,h28,h26,h29,h30,h31,h32⟩).mono fun h=>?_;generalize hk:e.op.toNat=k;unfold kZ;split<;>first|exact h|omega
end
def Al {α:Type}:∀{l:List α},l.length=1->∃a,l=[a]
 |[a],_=>⟨a,rfl⟩
def FZ {α:Type}:∀{l:List α},l.length=2->∃a c,l=[a,c]
 |[a,c],_=>⟨a,c,rfl⟩
def WO {α:Type}:∀{l:List α},l.length=3->∃a c d,l=[a,c,d]
 |[a,c,d],_=>⟨a,c,d,rfl⟩
def Ee {n:Int} (h0: -4611686018427387900<=n) (h:n<=4611686018427387900):i64.wrap n=n:=by
 have:i64.wrap n=(n+9223372036854775808)%18446744073709551616-9223372036854775808:=by
  unfold IntKind.wrap;simp[IntKind.bits,IntKind.signed]
  try omega
 rw[this];omega
def VT {n:Int} {l:List aA} (hl:l.length<=1000000000000) (h0:0<=n) (h3:n<=3) (hm:(i64.wrap (i64.wrap ((l.length:Int)-(mK .i64 n 1))-(tE .i64 n 1))).tmod 2=0) (h2:2<=i64.wrap (i64.wrap ((l.length:Int)-(mK .i64 n 1))-(tE .i64 n 1))):∃k,(iH n.toNat l).length=2*(k+1)∧l=caseA n.toNat l++iH n.toNat l++iK n.toNat l:=by
 have hn:n=0∨n=1∨n=2∨n=3:=by omega
 have key:∀a s:Int,0<=a->a<=1->0<=s->s<=1->(i64.wrap (i64.wrap ((l.length:Int)-a)-s)).tmod 2=0->2<=i64.wrap (i64.wrap ((l.length:Int)-a)-s)->∃k:Nat,(l.length:Int)-a-s=2*((k:Int)+1):=by
  intro a s ha ha' hs hs' hm h2;rw[Ee (n:=(l.length:Int)-a) (by omega) (by omega)] at hm h2;rw[Ee (by omega) (by omega)] at hm h2;rw[Int.tmod_eq_emod_of_nonneg (by omega)] at hm;exact⟨(((l.length:Int)-a-s)/2-1).toNat,by omega⟩
 rcases hn with rfl|rfl|rfl|rfl
 ·rw[show mK .i64 (0:Int) 1=0 from by decide,show tE .i64 (0:Int) 1=0 from by decide] at hm h2;obtain⟨k,hk⟩:=key 0 0 (by decide) (by decide) (by decide) (by decide) hm h2;refine⟨k,?_,?_⟩
  ·show l.length=_;omega
  ·show l=[]++l++[];simp
 ·rw[show mK .i64 (1:Int) 1=1 from by decide,show tE .i64 (1:Int) 1=0 from by decide] at hm h2;obtain⟨k,hk⟩:=key 1 0 (by decide) (by decide) (by decide) (by decide) hm h2;refine⟨k,?_,?_⟩
  ·show(l.drop 1).length=_;rw[uV];omega
  ·show l=l.take 1++l.drop 1++[];rw[gL,Bf]
 ·rw[show mK .i64 (2:Int) 1=0 from by decide,show tE .i64 (2:Int) 1=1 from by decide] at hm h2;obtain⟨k,hk⟩:=key 0 1 (by decide) (by decide) (by decide) (by decide) hm h2;refine⟨k,?_,?_⟩
  ·show(l.take (l.length-1)).length=_;rw[tX];omega
  ·show l=[]++l.take (l.length-1)++l.drop (l.length-1);rw[iY,Bf]
 ·rw[show mK .i64 (3:Int) 1=1 from by decide,show tE .i64 (3:Int) 1=1 from by decide] at hm h2;obtain⟨k,hk⟩:=key 1 1 (by decide) (by decide) (by decide) (by decide) hm h2;refine⟨k,?_,?_⟩
  ·show((l.drop 1).take ((l.drop 1).length-1)).length=_;rw[tX,uV];omega
  ·show l=l.take 1++(l.drop 1).take ((l.drop 1).length-1)++l.drop (l.length-1);have e:l.drop (l.length-1)=(l.drop 1).drop ((l.drop 1).length-1):=by
    rw[List.drop_drop,uV];congr 1;omega
   rw[e,fS,Bf,Bf]
def Rz {e:aA} {k:Nat} (hk:7<=k∧k<=24) (h:∃a c,e=aA.mk k e.not eB eB 0 zV [a,c] []∧(k<23->e.not=false)):Db e k:=by
 unfold Db;split<;>first|omega|exact⟨hk.1,hk.2,h⟩
def Eb {e:aA} {k:Nat} (hk:k≠1∧k≠2∧k≠3∧k≠27∧k≠28∧k≠26∧k≠29∧k≠30∧k≠31∧k≠32) (h:kZ e k):e.name=eB∧e.n=0∧e.sub=[]∧e.table=eB∧e.v_=zV:=by
 unfold kZ at h;split at h<;>first|exact h|omega
def Fe {b c:Bool} (h:b=true->c=true) (hc:c=false):b=false:=by
 cases b with
 |false=>rfl
 |true=>rw[h rfl] at hc;cases hc
def aD0 {e:aA} {sh:cD} (hl:e.args.length<=1000000000000) (hi:e.v_.int<9223372036854775808) (hop:xN e.op=(sh,true)) (h1:¬((e.args.length:Int)<sh.least)) (h2:sh.most>=0->¬((e.args.length:Int)>sh.most)) (h3:e.not=true->sh.not=true) (ho:kZ e e.op.toNat):0<=e.op∧Db e e.op.toNat:=by
 obtain⟨op,nt,tb,nm,n,v,args,sub⟩:=e;dsimp only at*;unfold xN at hop;split at hop
 ·rename_i h;injection hop with hop _
  subst hop;have hnt:=Fe h3 rfl;have ha:args=[]:=jU (by have:=h2 (by decide);dsimp only at this;omega);subst hnt;subst ha;rcases h with rfl|rfl|rfl
  ·obtain⟨g1,g2,g3,g4,g5,g6⟩:=(ho:kZ _ 1);dsimp only at g1 g2 g3 g4 g5 g6;subst g1;subst g2;subst g3;subst g4;exact⟨by decide,rfl,g5,g6,hi⟩
  ·obtain⟨g1,g2,g3,g4,g5⟩:=(ho:kZ _ 2);dsimp only at g1 g2 g3 g4 g5;subst g2;subst g3;subst g5;exact⟨by decide,rfl,g1,g4⟩
  ·obtain⟨g1,g2,g3,g4,g5⟩:=(ho:kZ _ 3);dsimp only at g1 g2 g3 g4 g5;subst g1;subst g3;subst g4;subst g5;exact⟨by decide,rfl,g2.1,g2.2⟩
 split at hop
 ·rename_i h;injection hop with hop _
  subst hop;have ha:args=[]:=jU (by have:=h2 (by decide);dsimp only at this;omega);subst ha;subst h;obtain⟨g1,g2,g3,g4,g5⟩:=(ho:kZ _ 27);dsimp only at g1 g2 g3 g4 g5;obtain⟨q,rfl⟩:=Al g3;subst g1;subst g2;subst g4;subst g5;exact⟨by decide,q,rfl⟩
 split at hop
 ·rename_i h;injection hop with hop _
  subst hop;have hnt:=Fe h3 rfl;have ha:args=[]:=jU (by have:=h2 (by decide);dsimp only at this;omega);subst hnt;subst ha;subst h;obtain⟨g1,g2,g3,g4,g5⟩:=(ho:kZ _ 28);dsimp only at g1 g2 g3 g4 g5;obtain⟨q,rfl⟩:=Al g3;subst g1;subst g2;subst g4;subst g5;exact⟨by decide,q,rfl⟩
 split at hop
 ·rename_i h;injection hop with hop _
  subst hop;have hnt:=Fe h3 rfl;obtain⟨a,ha⟩:=Al (l:=args) (by have:=h2 (by decide);dsimp only at this h1;omega);subst hnt;subst ha;rcases h with rfl|rfl|rfl|rfl|rfl
  ·obtain⟨g1,g2,g3,g4,g5⟩:=Eb (k:=4) (by decide) ho;dsimp only at g1 g2 g3 g4 g5;subst g1;subst g2;subst g3;subst g4;subst g5;exact⟨by decide,a,rfl⟩
  ·obtain⟨g1,g2,g3,g4,g5⟩:=Eb (k:=5) (by decide) ho;dsimp only at g1 g2 g3 g4 g5;subst g1;subst g2;subst g3;subst g4;subst g5;exact⟨by decide,a,rfl⟩
  ·obtain⟨g1,g2,g3,g4,g5⟩:=Eb (k:=6) (by decide) ho;dsimp only at g1 g2 g3 g4 g5;subst g1;subst g2;subst g3;subst g4;subst g5;exact⟨by decide,a,rfl⟩
  ·obtain⟨g1,g2,g3,g4,g5⟩:=(ho:kZ _ 30);dsimp only at g1 g2 g3 g4 g5;subst g2;subst g3;subst g4;subst g5;exact⟨by decide,a,rfl,g1⟩
  ·obtain⟨g1,g2,g3,g4,g5⟩:=(ho:kZ _ 31);dsimp only at g1 g2 g3 g4 g5;subst g2;subst g3;subst g4;subst g5;exact⟨by decide,a,rfl,g1⟩
 split at hop
 ·rename_i h;injection hop with hop _
  subst hop;obtain⟨a,c,ha⟩:=FZ (l:=args) (by have:=h2 (by decide);dsimp only at this h1;omega);subst ha;obtain⟨g1,g2,g3,g4,g5⟩:=Eb (by omega) ho;dsimp only at g1 g2 g3 g4 g5;subst g1;subst g2;subst g3;subst g4;subst g5;rcases h with rfl|rfl
  ·exact⟨by decide,Rz (k:=23) (by decide) ⟨a,c,rfl,fun h=>absurd h (by decide)⟩⟩
  ·exact⟨by decide,Rz (k:=24) (by decide) ⟨a,c,rfl,fun h=>absurd h (by decide)⟩⟩
 split at hop
 ·rename_i h;injection hop with hop _
  subst hop;subst h;obtain⟨a,c,d,ha⟩:=WO (l:=args) (by have:=h2 (by decide);dsimp only at this h1;omega);subst ha;obtain⟨g1,g2,g3,g4,g5⟩:=Eb (k:=25) (by decide) ho;dsimp only at g1 g2 g3 g4 g5;subst g1;subst g2;subst g3;subst g4;subst g5;exact⟨by decide,a,c,d,rfl⟩
 split at hop
 ·rename_i h;injection hop with hop _
  subst hop;subst h;obtain⟨g1,g2,g3,g4,g5⟩:=(ho:kZ _ 26);dsimp only at g1 g2 g3 g4 g5;subst g1;subst g2;subst g4;subst g5;rcases g3 with rfl|⟨g3,ga⟩
  ·cases args with
   |nil=>exact absurd (by decide) h1
   |cons a l=>exact⟨by decide,.inl ⟨a,l,rfl⟩⟩
  ·obtain⟨q,rfl⟩:=Al g3;obtain⟨a,rfl⟩:=Al ga;exact⟨by decide,.inr ⟨a,q,rfl⟩⟩
 split at hop
 ·rename_i h;injection hop with hop _
  subst hop;have hnt:=Fe h3 rfl;subst hnt;subst h;obtain⟨g1,⟨a1,a2,a3,a4⟩,g3,g4,g5⟩:=(ho:kZ _ 29);dsimp only at g1 a1 a2 a3 a4 g3 g4 g5;obtain⟨k,hk,he⟩:=VT hl a1 a2 a3 a4;subst g1;subst g3;subst g4;subst g5;exact⟨by decide,k,rfl,a1,a2,hk,he⟩
 split at hop
 ·rename_i h;injection hop with hop _
  subst hop;have hnt:=Fe h3 rfl;subst hnt;subst h;obtain⟨g1,g2,g3,g4,g5⟩:=(ho:kZ _ 32);dsimp only at g1 g2 g3 g4 g5;subst g3;subst g4;subst g5;exact⟨by decide,rfl,g1,g2⟩
 ·injection hop with hop h
  have h:=pK h;subst hop;have hnt:=Fe h3 rfl;obtain⟨a,c,ha⟩:=FZ (l:=args) (by have:=h2 (by decide);dsimp only at this h1;omega);subst hnt;subst ha;obtain⟨g1,g2,g3,g4,g5⟩:=Eb (by omega) ho;dsimp only at g1 g2 g3 g4 g5;subst g1;subst g2;subst g3;subst g4;subst g5;refine⟨by omega,Rz (by omega) ⟨a,c,?_,fun _=>rfl⟩⟩;rw[show(op.toNat:Int)=op by omega]
section
def Cq {α:Type} {l:List α} {i:Nat} (z:α) (h:i<l.length):l.getD i z∈l:=by
 rw[fR,fH h];exact sM h
def Ct {α:Type} {P:α->Prop} (z:α) {l:List α} (h:∀r,r<l.length->P (l.getD r z)):∀x∈l,P x:=by
 intro x hx;obtain⟨i,hi,rfl⟩:=List.mem_iff_getElem.1 hx;have:=h i hi;rw[fR,fH hi] at this;exact this
def Dc {i n:Nat} (h:i<n):decide ((i:Int)<(n:Int))=true:=by rw[pJ];omega
def Dd (n:Nat):decide ((n:Int)<(n:Int))=false:=by rw[pZ];omega
def Nl {α:Type} (l:List α) (z:α) (hl:l.length<=4611686018427387000) (p:α->Option Bool) (hp:∀x∈l,∃b,p x=some b):∃v,cF (fun(u4:Int->Option Int) (q3:Int)=>aE (decide (q3<(l.length:Int))) (aR (0<=q3∧q3<(l.length:Int)) (call (p (l.getD q3.toNat z)) fun y10=>aE y10 (some q3) (u4 (i64.wrap (q3+1))))) (some (-1))) bQ 0=some v∧(decide (v>=0)=false->∀x∈l,p x=some false):=by
 refine Sa (n:=l.length) hl (fun o=>∃v,o=some v∧(decide (v>=0)=false->∀x∈l,p x=some false)) (fun i=>∀j,j<i->p (l.getD j z)=some false) (fun k i hi hI=>?_) (fun k hI=>?_) (fun j hj=>by omega)
 ·obtain⟨b,hb⟩:=hp _ (Cq z hi);rw[Dc hi,bL,bV (by omega),cZ,hb,aN];cases b with
  |true=>
   refine .inl ⟨_,bL ..,fun h=>?_⟩;have:=rM h;omega
  |false=>
   refine .inr ⟨?_,fun j hj=>?_⟩
   ·rw[aQ,jW hi hl]
   ·by_cases h:j=i
    ·rw[h];exact hb
    ·exact hI j (by omega)
 ·rw[Dd,aQ];exact⟨_,rfl,fun _=>Ct z hI⟩
def RI {l:List ByteArray} (hl:l.length<=4611686018427387000):∃b,Jm l=some b∧(b=false->∀s∈l,kN s):=by
 have hp:∀s,∃b,Gk s=some b∧(b=false->kN s):=by
  intro s;obtain⟨b,hb,h⟩:=Bz s;refine⟨!b,?_,fun e=>h (by cases b<;>first|rfl|cases e)⟩;unfold Gk;rw[hb,aN]
 obtain⟨v,hv,hf⟩:=Nl l bO hl Gk fun x _=>(hp x).imp fun _ h=>h.1;refine⟨decide (v>=0),?_,fun h s hs=>?_⟩
 ·unfold Jm Nu;rw[hv,aN]
 ·obtain⟨b,hb,hn⟩:=hp s;have:=hf h s hs;rw[hb] at this;injection this with this
  exact hn this
structure MT (M:iP) (m n:Nat):Prop where
 e:∀e,aA.w e<n->∀k,m<=k->bI ((cP.fix k).p31 e) (M.ex e)
 q:∀q,aF.w q<n->∀k,m<=k->bI ((cP.fix k).p44 q) (M.se q)
variable {M:iP} {m n k:Nat}
def aAz (h:MT M m n) {l:List aA} (hw:∀x∈l,aA.w x<n) (hl:l.length<=549755813888) (hk:m+3<=k):∃b,(cP.fix k).p62_2 l=some b∧(b=false->∀x∈l,M.ex x):=by
 obtain⟨j,rfl⟩:∃j,k=j+3:=⟨k-3,by omega⟩;have hp:∀x∈l,∃b,(cP.fix (j+1)).p63 x=some b∧(b=false->M.ex x):=by
  intro x hx;obtain⟨b,hb,h⟩:=h.e x (hw x hx) j (by omega);refine⟨!b,?_,fun e=>h (by cases b<;>first|rfl|cases e)⟩;show Lm (cP.fix j) x=_;unfold Lm;rw[hb,aN]
 obtain⟨v,hv,hf⟩:=Nl l aA.z (by omega) (cP.fix (j+1)).p63 fun x hx=>(hp x hx).imp fun _ h=>h.1;refine⟨decide (v>=0),?_,fun h s hs=>?_⟩
 ·show Jv (cP.fix (j+2)) l=_;unfold Jv;refine jF (congrArg (fun o=>call o _) (show(cP.fix (j+2)).p106_2 l=some v from hv)) ?_;rw[aN]
 ·obtain⟨b,hb,hn⟩:=hp s hs;have:=hf h s hs;rw[hb] at this;injection this with this
  exact hn this
def An (h:MT M m n) {l:List aA} {c:Int} (hw:∀x∈l,aA.w x<n) (hl:l.length<=549755813888) (hk:m+4<=k):bI ((cP.fix k).p85 l c) ((l.length:Int)<=c∧∀x∈l,M.ex x):=by
 obtain⟨j,rfl⟩:∃j,k=j+4:=⟨k-4,by omega⟩;have hp:∀x∈l,∃b,(cP.fix (j+1)).p128 x=some b∧(b=false->M.ex x):=by
  intro x hx;obtain⟨b,hb,h⟩:=h.e x (hw x hx) j (by omega);refine⟨!b,?_,fun e=>h (by cases b<;>first|rfl|cases e)⟩;show Kv (cP.fix j) x=_;unfold Kv;rw[hb,aN]
 obtain⟨v,hv,hf⟩:=Nl l aA.z (by omega) (cP.fix (j+1)).p128 fun x hx=>(hp x hx).imp fun _ h=>h.1;have h100:(cP.fix (j+3)).p62_1 l=some (decide (v>=0)):=by
  show Jw (cP.fix (j+2)) l=_;unfold Jw;refine jF (congrArg (fun o=>call o _) (show(cP.fix (j+2)).p106_1 l=some v from hv)) ?_;rw[aN]
 show bI (Li (cP.fix (j+3)) l c) _;unfold Li;rw[bY];refine bI.aE (fun hc=>?_) fun _=>bI.ff;rw[h100,aN];refine bI.pure fun hb=>⟨pK hc,fun s hs=>?_⟩;obtain⟨b,hb',hn⟩:=hp s hs;have:=hf (by cases hd:decide (v>=0) with|false=>rfl|true=>rw[hd] at hb;cases hb) s hs;rw[hb'] at this;injection this with this
 exact hn this
def aAw (h:MT M m n) {l:List aF} (hw:∀x∈l,aF.w x<n) (hl:l.length<=549755813888) (hk:m+3<=k):∃b,(cP.fix k).p64_1 l=some b∧(b=false->∀x∈l,x.with_=[]∧M.se x):=by
 obtain⟨j,rfl⟩:∃j,k=j+3:=⟨k-3,by omega⟩;have hp:∀x∈l,∃b,(cP.fix (j+1)).p65 x=some b∧(b=false->x.with_=[]∧M.se x):=by
  intro x hx;obtain⟨b,hb,h⟩:=h.q x (hw x hx) j (by omega);show ∃b,Ll (cP.fix j) x=some b∧_;unfold Ll;rw[bY];cases hd:decide ((x.with_.length:Int)>0) with
  |true=>exact⟨true,rfl,fun e=>by cases e⟩
  |false=>
   have h0:x.with_=[]:=jU (by have:=rM hd;omega);rw[aQ,hb,aN];exact⟨!b,rfl,fun e=>⟨h0,h (by cases b<;>first|rfl|cases e)⟩⟩
 obtain⟨v,hv,hf⟩:=Nl l aF.z (by omega) (cP.fix (j+1)).p65 fun x hx=>(hp x hx).imp fun _ h=>h.1;refine⟨decide (v>=0),?_,fun h s hs=>?_⟩
 ·show Ju (cP.fix (j+2)) l=_;unfold Ju;refine jF (congrArg (fun o=>call o _) (show(cP.fix (j+2)).p107_1 l=some v from hv)) ?_;rw[aN]
 ·obtain⟨b,hb,hn⟩:=hp s hs;have:=hf h s hs;rw[hb] at this;injection this with this
  exact hn this
def CX (h:MT M m n) {q:aF} (hw:aF.w q<n) (hk:m+1<=k):bI ((cP.fix k).p83 q) (q.with_=[]∧M.se q):=by
 obtain⟨j,rfl⟩:∃j,k=j+1:=⟨k-1,by omega⟩;show bI (Lk (cP.fix j) q) _;unfold Lk;rw[bY];exact bI.aE (fun h0=>(h.q q hw j (by omega)).call (fun h1=>bI.pure fun _=>⟨pQ h0,h1⟩) bI.ff) fun _=>bI.ff
def aD5 (h:MT M m n) {f:aO} (hw:aO.w f<n) (hk:m+2<=k):bI ((cP.fix k).p127 f) ((f.sub=[]∧kN f.name)∨(f.name.data.toList=[]∧∃q,f.sub=[q]∧q.with_=[]∧M.se q)):=by
 obtain⟨j,rfl⟩:∃j,k=j+1:=⟨k-1,by omega⟩;show bI (Kw (cP.fix j) f) _;unfold Kw;refine bI.aE (fun h0=>(Bz f.name).call (fun h1=>bI.pure fun _=>.inl ⟨pQ h0,h1⟩) bI.ff) fun _=>?_;rw[bY];refine bI.aE (fun hn=>bI.aE (fun h1=>?_) fun _=>bI.ff) fun _=>bI.ff;obtain⟨q,hq⟩:=Al (l:=f.sub) (by have:=eM.1 h1;omega);have hwq:aF.w q<n:=by
  have h1:=f.dU;have h2:=jV aF.w (l:=f.sub) (x:=q) (by rw[hq];simp);omega
 rw[hq];refine bI.aR ⟨by decide,(show(0:Int)<1 by decide)⟩ ?_;exact(CX h (q:=q) hwq (k:=j) (by omega)).call (fun hP=>bI.pure fun _=>.inr ⟨Fg hn,q,rfl,hP⟩) bI.ff
def aAy (h:MT M m n) (hn:n<549755813888) {e:aA} (hw:aA.w e<n+1) (hk:m+6<=k):bI ((cP.fix k).p31 e) (rD M e):=by
 obtain⟨j,rfl⟩:∃j,k=j+1:=⟨k-1,by omega⟩;have h1:=e.dU;have hla:=hJ aA.w aA.fG e.args;have hls:=hJ aF.w aF.fG e.sub;obtain⟨b,hb,hbF⟩:=aAz h (l:=e.args) (k:=j) (fun x hx=>by have:=aA.Gq hx;omega) (by omega) (by omega);obtain⟨c,hc,hcF⟩:=aAw h (l:=e.sub) (k:=j) (fun x hx=>by have:=aA.sub_lt hx;omega) (by omega) (by omega);have ho:=YL (e:=e) (by omega);have hi:e.v_.int<9223372036854775808:=by
  have h2:=e.v_.dU;by_cases hr: -9223372036854775808<=e.v_.int∧e.v_.int<9223372036854775808
  ·exact hr.2
  ·unfold Ax at h2;rw[if_neg hr] at h2;omega
 show bI (Gn (cP.fix j) e) _;unfold Gn;rw[p7,aN];obtain⟨sh,ok,hsh⟩:∃sh ok,xN e.op=(sh,ok):=⟨_,_,rfl⟩;rw[hsh];dsimp only;have walk:∀G:Bool->Option Bool,bI (G true) (rD M e)->(ok=true->¬((e.args.length:Int)<sh.least)->(sh.most>=0->¬((e.args.length:Int)>sh.most))->(e.not=true->sh.not=true)->kZ e e.op.toNat->bI (G false) (rD M e))->bI (join (fun(u5:Bool->Option Bool)=>aE (!ok) (u5 true) (aE (decide ((e.args.length:Int)<sh.least)) (u5 true) (aE (decide (sh.most>=0)) (aE (decide ((e.args.length:Int)>sh.most)) (u5 true) (aE e.not (aE (!sh.not) (u5 true) (call (iQ e) fun y12=>u5 (!y12))) (call (iQ e) fun y13=>u5 (!y13)))) (aE e.not (aE (!sh.not) (u5 true) (call (iQ e) fun y16=>u5 (!y16))) (call (iQ e) fun y17=>u5 (!y17)))))) G) (rD M e):=by
  intro G ht hf;rw[bY];refine bI.aE (fun _=>ht) fun a1=>bI.aE (fun _=>ht) fun a2=>?_;have a1:ok=true:=by cases ok<;>first|rfl|cases a1
  have a2:=rM a2;have last:(sh.most>=0->¬((e.args.length:Int)>sh.most))->bI (aE e.not (aE (!sh.not) (G true) (call (iQ e) fun y12=>G (!y12))) (call (iQ e) fun y13=>G (!y13))) (rD M e):=by
   intro a3;refine bI.aE (fun a4=>bI.aE (fun _=>ht) fun a5=>?_) fun a4=>?_
   ·exact ho.call (fun hF=>hf a1 a2 a3 (fun _=>by cases hx:sh.not with|true=>rfl|false=>rw[hx] at a5;cases a5) hF) ht
   ·exact ho.call (fun hF=>hf a1 a2 a3 (fun h=>by rw[a4] at h;cases h) hF) ht
  refine bI.aE (fun a3=>bI.aE (fun _=>ht) fun a4=>?_) fun a3=>?_
  ·exact last fun _=>rM a4
  ·exact last fun h=>absurd h (rM a3)
 refine walk _ bI.ff fun a1 a2 a3 a4 hF=>?_;rw[a1] at hsh;obtain⟨g0,gP⟩:=aD0 (e:=e) (sh:=sh) (by omega) hi hsh a2 a3 a4 hF;rw[aQ,bY,hb,aN];refine bI.aE (fun b1=>?_) fun _=>bI.ff;rw[hc,aN];refine bI.pure fun c1=>⟨g0,gP,hbF (by cases b<;>first|rfl|cases b1),hcF (by cases c<;>first|rfl|cases c1)⟩
end
section
variable {M:iP} {m n k:Nat}
def Ek {l:List aA} (h:(l.length:Int)<=1∧∀x∈l,M.ex x):l=[]∨∃x,l=[x]∧M.ex x:=by
 obtain⟨h1,h2⟩:=h
 match l,h1,h2 with
 |[],_,_=>exact .inl rfl
 |[x],_,h2=>exact .inr ⟨x,rfl,h2 x (by simp)⟩
 |_::_::_,h1,_=>simp only[bF] at h1;omega
def YK {p:aK} (h1:(!p.distinct)=true) (hl:p.items.length<=549755813888∧p.from_.length<=549755813888∧p.where_.length<=549755813888∧p.group.length<=549755813888∧p.having.length<=549755813888) (h2:(i64.wrap (i64.wrap (i64.wrap (i64.wrap ((p.items.length:Int)+(p.from_.length:Int))+(p.where_.length:Int))+(p.group.length:Int))+(p.having.length:Int))==0)=true):p=aK.mk p.comp false [] [] [] [] [] p.values:=by
 have h2:=eM.1 h2;rw[Ee (n:=(p.items.length:Int)+(p.from_.length:Int)) (by omega) (by omega)] at h2;rw[Ee (n:=(p.items.length:Int)+(p.from_.length:Int)+(p.where_.length:Int)) (by omega) (by omega)] at h2;rw[Ee (n:=(p.items.length:Int)+(p.from_.length:Int)+(p.where_.length:Int)+(p.group.length:Int)) (by omega) (by omega)] at h2;rw[Ee (by omega) (by omega)] at h2;obtain⟨c,d,i,f,w,g,hv,v⟩:=p;dsimp only at*;obtain rfl:i=[]:=jU (by omega);obtain rfl:f=[]:=jU (by omega);obtain rfl:w=[]:=jU (by omega);obtain rfl:g=[]:=jU (by omega);obtain rfl:hv=[]:=jU (by omega);cases d with
 |false=>rfl
 |true=>cases h1
def aAx (h:MT M m n) (hn:n<=549755813888) {p:aK} (hw:aK.w p<n) (hk:m+5<=k):bI ((cP.fix k).p84 p) (nA M p):=by
 obtain⟨j,rfl⟩:∃j,k=j+1:=⟨k-1,by omega⟩;have hp:=p.dU;have l1:=hJ bA.w bA.fG p.items;have l2:=hJ aO.w aO.fG p.from_;have l3:=hJ aA.w aA.fG p.where_;have l4:=hJ aA.w aA.fG p.group;have l5:=hJ aA.w aA.fG p.having;have l6:=hJ (fun z:List aA=>(1+(z.map aA.w).sum)) (fun z=>by omega) p.values;show bI (Lj (cP.fix j) p) _;unfold Lj;refine bI.aE (fun h0=>?_) fun h0=>?_
 ·refine bI.loop (n:=p.values.length) (by omega) (fun i=>∀r,r<i->p.values.getD r []≠[]∧(p.values.getD r []).length=(p.values.getD 0 []).length∧∀x∈p.values.getD r [],M.ex x) (fun r hr=>by omega) (fun K i hi hI hK=>?_) (fun K hI=>?_)
  ·rw[Dc hi,bL,bV (by omega),bY,cZ];have hmem:=Cq (z:=([]:List aA)) hi;have hlw:=jV (fun z:List aA=>(1+(z.map aA.w).sum)) hmem;refine bI.aE (fun _=>bI.ff) fun h1=>?_;rw[bV (by omega)];refine bI.aE (fun _=>bI.ff) fun h2=>?_;refine(An h (l:=p.values.getD i []) (k:=j) (fun x hx=>by have:=jV aA.w hx;omega) (by have:=hJ aA.w aA.fG (p.values.getD i []);omega) (by omega)).call (fun hP=>?_) bI.ff;show bI (K _) _;rw[jW hi (by omega)];refine hK fun r hr=>?_;by_cases hri:r=i
   ·subst hri;refine⟨fun e=>?_,?_,hP.2⟩
    ·rw[e] at h1;cases h1
    ·have:=bne_eq_false_iff_eq.1 h2;omega
   ·exact hI r (by omega)
  ·rw[Dd,aQ,bY];refine bI.aE (fun hd=>bI.pure fun hs=>?_) fun _=>bI.ff;have hrows:=Ct (P:=fun row:List aA=>row≠[]∧row.length=(p.values.getD 0 []).length∧∀x∈row,M.ex x) [] hI;refine .inl ⟨fun e=>?_,YK hd ⟨by omega,by omega,by omega,by omega,by omega⟩ hs,hrows⟩;rw[e] at h0;cases h0
 have hv:p.values=[]:=jU (by have:=rM h0;omega);refine bI.loop (n:=p.items.length) (by omega) (fun i=>∀r,r<i->xF M (p.items.getD r bA.z)) (fun r hr=>by omega) (fun K i hi hI hK=>?_) (fun K hI=>?_)
 ·rw[Dc hi,bL,bV (by omega),bY,cZ];have hmem:=Cq (z:=bA.z) hi;have hlw:=jV bA.w hmem;have nxt:xF M (p.items.getD i bA.z)->bI (K (i64.wrap ((i:Int)+1))) (nA M p):=by
   intro hit;rw[jW hi (by omega)];refine hK fun r hr=>?_;by_cases hri:r=i
   ·rw[hri];exact hit
   ·exact hI r (by omega)
  generalize p.items.getD i bA.z=it at*;have hitw:=it.dU;have hxl:=hJ aA.w aA.fG it.expr;refine bI.aE (fun hs=>bI.aE (fun _=>bI.ff) fun h1=>bI.aE (fun _=>bI.ff) fun h2=>?_) fun hs=>bI.aE (fun _=>bI.ff) fun h1=>?_
  ·refine(Nj it.table).call (fun h3=>?_) bI.ff;refine nxt (.inl ⟨hs,jU (by have:=rM h1;omega),?_,h3⟩);refine Fg (x:=it.az) ?_;cases hb:(it.az.data.toList==(bm #[]).data.toList) with
   |true=>rfl
   |false=>rw[hb] at h2;cases h2
  ·refine(An h (l:=it.expr) (k:=j) (fun x hx=>by have:=jV aA.w hx;omega) (by omega) (by omega)).call (fun hP=>?_) bI.ff;refine bI.aE (fun h=>absurd h (by decide)) fun _=>bI.aE (fun _=>bI.ff) fun h2=>?_;refine(Nj it.az).call (fun h3=>?_) bI.ff;refine nxt (.inr ⟨hs,?_,h3,?_⟩)
   ·refine Fg (x:=it.table) ?_;cases hb:(it.table.data.toList==(bm #[]).data.toList) with
    |true=>rfl
    |false=>rw[hb] at h2;cases h2
   ·obtain⟨x,hx⟩:=Al (l:=it.expr) (by have:=bne_eq_false_iff_eq.1 h1;omega);exact⟨x,hx,hP.2 x (by rw[hx];simp)⟩
 rw[Dd,aQ];have hitems:=Ct bA.z hI;refine bI.loop (n:=p.from_.length) (by omega) (fun i=>∀r,r<i->rF M (p.from_.getD r aO.z)∧(r=0->(p.from_.getD r aO.z).join=0∧(p.from_.getD r aO.z).on=[])) (fun r hr=>by omega) (fun K i hi hI hK=>?_) (fun K hI=>?_)
 ·rw[Dc hi,bL,bV (by omega),bY,cZ];have hmem:=Cq (z:=aO.z) hi;have hlw:=jV aO.w hmem;have nxt:rF M (p.from_.getD i aO.z)∧(i=0->(p.from_.getD i aO.z).join=0∧(p.from_.getD i aO.z).on=[])->bI (K (i64.wrap ((i:Int)+1))) (nA M p):=by
   intro hit;rw[jW hi (by omega)];refine hK fun r hr=>?_;by_cases hri:r=i
   ·rw[hri];exact hit
   ·exact hI r (by omega)
  generalize p.from_.getD i aO.z=it at*;have hitw:=it.dU;have hxl:=hJ aA.w aA.fG it.on;refine bI.aE (fun _=>bI.ff) fun j0=>bI.aE (fun _=>bI.ff) fun j1=>?_;have j0:=rM j0;have j1:=rM j1;have hall:=An h (l:=it.on) (c:=1) (k:=j) (fun x hx=>by have:=jV aA.w hx;omega) (by omega) (by omega);have hsrc:=aD5 h (f:=it) (k:=j) (by omega) (by omega);refine bI.aE (fun i0=>bI.aE (fun _=>bI.ff) fun e1=>bI.aE (fun _=>bI.ff) fun e2=>?_) fun i0=>?_
  ·refine hall.call (fun hP=>?_) bI.ff;refine bI.aE (fun h=>absurd h (by decide)) fun _=>?_;refine(Nj it.az).call (fun h3=>?_) bI.ff;refine bI.aE (fun h=>absurd h (by decide)) fun _=>?_;refine hsrc.call (fun h4=>?_) bI.ff;exact nxt ⟨⟨by omega,h3,Ek hP,h4⟩,fun _=>⟨bne_eq_false_iff_eq.1 e1,jU (by have:=rM e2;omega)⟩⟩
  ·refine hall.call (fun hP=>?_) bI.ff;refine bI.aE (fun h=>absurd h (by decide)) fun _=>?_;refine(Nj it.az).call (fun h3=>?_) bI.ff;refine bI.aE (fun h=>absurd h (by decide)) fun _=>?_;refine hsrc.call (fun h4=>?_) bI.ff;exact nxt ⟨⟨by omega,h3,Ek hP,h4⟩,fun e=>by have:=sN.1 i0;omega⟩
 rw[Dd,aQ,bY];have hfr:=Ct (P:=rF M) aO.z fun r hr=>(hI r hr).1;refine bI.aE (fun hi0=>?_) fun _=>bI.ff;refine(An h (l:=p.where_) (c:=1) (k:=j) (fun x hx=>by have:=jV aA.w hx;omega) (by omega) (by omega)).call (fun hW=>?_) bI.ff;refine bI.aE (fun _=>?_) fun _=>bI.ff;refine(An h (l:=p.group) (k:=j) (fun x hx=>by have:=jV aA.w hx;omega) (by omega) (by omega)).call (fun hG=>?_) bI.ff;refine bI.aE (fun _=>?_) fun _=>bI.ff;refine(An h (l:=p.having) (k:=j) (fun x hx=>by have:=jV aA.w hx;omega) (by omega) (by omega)).call (fun hH=>?_) bI.ff;refine bI.pure fun _=>.inr ⟨hv,fun e=>?_,hitems,hfr,fun f l e=>?_,Ek hW,hG.2,?_⟩
 ·rw[e] at hi0;cases hi0
 ·have:=(hI 0 (by rw[e];simp)).2 rfl;rw[e] at this;exact this
 ·obtain⟨hH1,hH2⟩:=hH;by_cases hg:p.group=[]
  ·rw[hg] at hH1;exact .inl (jU (by have:dW ((([]:List aA).length:Nat):Int) 1=0:=rfl;omega))
  ·have:dW (p.group.length:Int) 1<=1:=by unfold dW;split<;>omega
   rcases Ek (l:=p.having) ⟨by omega,hH2⟩ with e|⟨x,e,hx⟩
   ·exact .inl e
   ·exact .inr ⟨hg,x,e,hx⟩
def aD6 (h:MT M m n) (hn:n<549755813888) {q:aF} (hw:aF.w q<n+1) (hk:m+6<=k):bI ((cP.fix k).p44 q) (uL M q):=by
 obtain⟨j,rfl⟩:∃j,k=j+1:=⟨k-1,by omega⟩;have hq:=q.dU;have l1:=hJ bE.w bE.fG q.with_;have l2:=hJ aK.w aK.fG q.parts;have l3:=hJ aX.w aX.fG q.order;have l4:=hJ aA.w aA.fG q.limit;have l5:=hJ aA.w aA.fG q.offset;show bI (Lr (cP.fix j) q) _;unfold Lr;refine bI.loop (n:=q.with_.length) (by omega) (fun i=>∀r,r<i->kN (q.with_.getD r bE.z).name∧(∀s∈(q.with_.getD r bE.z).cols,kN s)∧∃b,(q.with_.getD r bE.z).body=[b]∧b.with_=[]∧M.se b) (fun r hr=>by omega) (fun K i hi hI hK=>?_) (fun K hI=>?_)
 ·rw[Dc hi,bL,bV (by omega),bY,cZ];have hmem:=Cq (z:=bE.z) hi;have hlw:=jV bE.w hmem;have nxt:(kN (q.with_.getD i bE.z).name∧(∀s∈(q.with_.getD i bE.z).cols,kN s)∧∃b,(q.with_.getD i bE.z).body=[b]∧b.with_=[]∧M.se b)->bI (K (i64.wrap ((i:Int)+1))) (uL M q):=by
   intro hit;rw[jW hi (by omega)];refine hK fun r hr=>?_;by_cases hri:r=i
   ·rw[hri];exact hit
   ·exact hI r (by omega)
  generalize q.with_.getD i bE.z=c at*;have hcw:=c.dU;have hcl:=hJ (fun z:ByteArray=>z.size+1) (fun z=>by omega) c.cols;refine(Bz c.name).call (fun h1=>?_) bI.ff;refine bI.aE (fun h=>absurd h (by decide)) fun _=>?_;obtain⟨b,hb,hbn⟩:=RI (l:=c.cols) (by omega);rw[hb,aN];refine bI.aE (fun _=>bI.ff) fun h2=>bI.aE (fun _=>bI.ff) fun h3=>?_;obtain⟨s,hs⟩:=Al (l:=c.body) (by have:=bne_eq_false_iff_eq.1 h3;omega);have hsw:=jV aF.w (l:=c.body) (x:=s) (by rw[hs];simp);rw[hs];refine bI.aR ⟨by decide,(show(0:Int)<1 by decide)⟩ ?_;refine(CX h (q:=s) (k:=j) (by omega) (by omega)).call (fun h4=>?_) bI.ff;exact nxt ⟨h1,hbn h2,s,hs,h4⟩
 rw[Dd,aQ];have hwith:=Ct (P:=fun c:bE=>kN c.name∧(∀s∈c.cols,kN s)∧∃b,c.body=[b]∧b.with_=[]∧M.se b) bE.z hI;refine bI.loop (n:=q.parts.length) (by omega) (fun i=>∀r,r<i->nA M (q.parts.getD r aK.z)∧0<=(q.parts.getD r aK.z).comp∧(q.parts.getD r aK.z).comp<=4∧((q.parts.getD r aK.z).comp=0↔r=0)) (fun r hr=>by omega) (fun K i hi hI hK=>?_) (fun K hI=>?_)
 ·rw[Dc hi,bL,bV (by omega),bY,cZ];have hmem:=Cq (z:=aK.z) hi;have hlw:=jV aK.w hmem;have nxt:(nA M (q.parts.getD i aK.z)∧0<=(q.parts.getD i aK.z).comp∧(q.parts.getD i aK.z).comp<=4∧((q.parts.getD i aK.z).comp=0↔i=0))->bI (K (i64.wrap ((i:Int)+1))) (uL M q):=by
   intro hit;rw[jW hi (by omega)];refine hK fun r hr=>?_;by_cases hri:r=i
   ·rw[hri];exact hit
   ·exact hI r (by omega)
  generalize q.parts.getD i aK.z=c at*;refine bI.aE (fun _=>bI.ff) fun c0=>bI.aE (fun _=>bI.ff) fun c4=>bI.aE (fun _=>bI.ff) fun cz=>?_;refine(aAx h (by omega) (p:=c) (k:=j) (by omega) (by omega)).call (fun h1=>?_) bI.ff;refine nxt ⟨h1,by have:=rM c0;omega,by have:=rM c4;omega,?_⟩;have cz:((c.comp==0)==((i:Int)==0))=true:=by
   cases hb:((c.comp==0)==((i:Int)==0)) with
   |true=>rfl
   |false=>rw[hb] at cz;cases cz
  have cz:=eM.1 cz;rw[Bool.eq_iff_iff,eM,eM] at cz;omega
 rw[Dd,aQ];have hparts:=hI;refine bI.loop (n:=q.order.length) (by omega) (fun i=>∀r,r<i->M.ex (q.order.getD r aX.z).expr) (fun r hr=>by omega) (fun K i hi hI hK=>?_) (fun K hI=>?_)
 ·rw[Dc hi,bL,bV (by omega),cZ];have hmem:=Cq (z:=aX.z) hi;have hlw:=jV aX.w hmem;have hsw:=(q.order.getD i aX.z).dU;refine(h.e (q.order.getD i aX.z).expr (by omega) j (by omega)).call (fun h1=>?_) bI.ff;show bI (K _) _;rw[jW hi (by omega)];refine hK fun r hr=>?_;by_cases hri:r=i
  ·rw[hri];exact h1
  ·exact hI r (by omega)
 rw[Dd,aQ,bY];have hord:=Ct (P:=fun o:aX=>M.ex o.expr) aX.z hI;refine bI.aE (fun hp0=>?_) fun _=>bI.ff;refine(An h (l:=q.limit) (c:=1) (k:=j) (fun x hx=>by have:=jV aA.w hx;omega) (by omega) (by omega)).call (fun hL=>?_) bI.ff;refine bI.aE (fun _=>?_) fun _=>bI.ff;refine(An h (l:=q.offset) (k:=j) (fun x hx=>by have:=jV aA.w hx;omega) (by omega) (by omega)).call (fun hO=>?_) bI.ff;refine bI.pure fun _=>⟨hwith,?_,hord,?_⟩
 ·cases hpt:q.parts with
  |nil=>rw[hpt] at hp0;cases hp0
  |cons p l=>
   rw[hpt] at hparts;refine⟨p,l,rfl,?_,(hparts 0 (by simp)).1,?_⟩
   ·exact(hparts 0 (by simp)).2.2.2.2 rfl
   ·refine Ct (P:=fun r:aK=>1<=r.comp∧r.comp<=4∧nA M r) aK.z fun r hr=>?_;obtain⟨a1,a2,a3,a4⟩:=hparts (r+1) (by simp;omega);have e:(p::l).getD (r+1) aK.z=l.getD r aK.z:=rfl;rw[e] at a1 a2 a3 a4;exact⟨by omega,a3,a1⟩
 ·rcases Ek hL with e|⟨x,e,hx⟩
  ·refine .inl ⟨e,?_⟩;rw[e] at hO;exact jU (by have:=hO.1;simp only[bS] at this;omega)
  ·refine .inr ⟨x,e,hx,?_⟩;rw[e] at hO;rcases Ek (l:=q.offset) ⟨by have:=hO.1;simp only[bF,bS] at this;omega,hO.2⟩ with e|⟨y,e,hy⟩
   ·exact .inl e
   ·exact .inr ⟨y,e,hy⟩
def EK:∀n,n<=549755813888->MT (uO n) (6*n) n
 |0,_=>⟨fun e h=>by omega,fun q h=>by omega⟩
 |n+1,hn=>by
  have h:=EK n (by omega);exact⟨fun e he k hk=>aAy h (by omega) he (by omega),fun q hq k hk=>aD6 h (by omega) hq (by omega)⟩
def s4 {e:aA} (h:aA.w e<549755813888):bI (IW e) ((uO 549755813888).ex e):=(EK 549755813888 (by omega)).e e h bQ (by unfold bQ;omega)
end
section
variable {F:eA} {M:iP}
def UL (P:List Pc):Nat:=(P.map fun p=>2*p.2.2.size+4).sum
def FD:UL []=0:=rfl
def iF (p:Pc) (P:List Pc):UL (p::P)=2*p.2.2.size+4+UL P:=rfl
def fA (P Q:List Pc):UL (P++Q)=UL P+UL Q:=by unfold UL;rw[eK,Hh]
def ES:∀s:List UInt8,(jS s).length<=2*s.length
 |[]=>dS _
 |c::s=>by have:=ES s;unfold jS;split<;>simp only[bF]<;>omega
def DH:∀P:List Pc,(aG P).length<=UL P
 |[]=>dS _
 |(b,(k,s))::P=>by
  have h1:=DH P;rw[yE,bH,iF];have h2:(dK (k,s)).length<=2*s.size+3:=by
   have h3:=ES s.data.toList;have h4:=Mx s.data.toList;have h5:=lO s;show(if k=3 then 39::(jS s.data.toList++[39]) else if k=4 then 120::39::(iW s.data.toList++[39]) else if k=5 then 63::s.data.toList else s.data.toList).length<=_
   repeat' split
   all_goals (try simp only[bF,bH,bS])
   all_goals omega
  have h3:(kC (b,(k,s))).length<=2*s.size+4:=by
   show(if b=true then 32::dK (k,s) else dK (k,s)).length<=_;split<;>(try simp only[bF])<;>omega
  dsimp only;omega
def Fj {α:Type} {f:α->List Pc} {g:α->Nat}:∀{l:List α},(∀x∈l,UL (f x)<=64*g x)->UL (l.flatMap f)<=64*(l.map g).sum
 |[],_=>dS _
 |x::l,h=>by
  have h1:=h x (by simp);have h2:=Fj fun y (hy:y∈l)=>h y (by simp[hy]);rw[rN,fA,dG,lZ];omega
def zT {α:Type} {f:Bool->α->List Pc} {g:α->Nat} (b:Bool):∀{l:List α},(∀b,∀x∈l,UL (f b x)+6<=64*g x)->UL (cK f b l)<=64*(l.map g).sum
 |[],_=>dS _
 |x::l,h=>by
  have h1:=h b x (by simp);have h2:UL (fO f l)<=64*(l.map g).sum:=Fj fun y hy=>by
   have:=h true y (by simp[hy]);rw[iF];show 2*1+4+_<=_;omega
  show UL (f b x++fO f l)<=_;rw[fA,dG,lZ];omega
structure LB (F:eA) (M:iP):Prop where
 ex:∀e,M.ex e->∀b,UL (F.tx b e)+12<=64*aA.w e
 se:∀q,M.se q->∀b,UL (F.se b q)+12<=64*aF.w q
variable (h:LB F M)
include h
def vA {e:aA} (he:M.ex e) (b:Bool):UL (aW F b e)<=64*aA.w e:=by
 have h1:=h.ex e he b;have h2:=h.ex e he false;unfold aW;split
 ·omega
 ·rw[iF,fA,iF,FD];show 2*1+4+(_+(2*1+4+0))<=_;omega
def CH:∀l:List aA,(∀x∈l,M.ex x)->UL (eQ F l)<=64*(l.map aA.w).sum
 |[],_=>dS _
 |[_],_=>by
  rw[eQ]
  ·exact kK _
  ·intro c r l e;cases e
 |c::r::l,ha=>by
  have h1:=h.ex c (ha c (by simp)) true;have h2:=h.ex r (ha r (by simp)) true;have h3:=CH l fun x hx=>ha x (by simp[hx]);rw[eQ,iF,fA,iF,fA,dG,dG,lZ,lZ];show 2*4+4+(_+(2*4+4+(_+_)))<=_;omega
omit h in
def Tn (n:Bool):UL (iV n)<=10:=by cases n<;>decide
omit h in
def YR (k:Nat):UL (oW k)<=18:=by
 unfold oW;split<;>first|decide|(show 0<=_;omega)
def WL {e:aA} (he:rD M e) (b:Bool):UL (mF F b e)+12<=64*aA.w e:=by
 obtain⟨h0,ho,ha,hs⟩:=he;have hw:=aA.dU e;have hv:=aH.dU e.v_;have hvp:=VD e.v_.int;unfold mF;generalize e.op.toNat=k at ho ⊢;rcases yB ho with rfl|rfl|rfl|rfl|rfl|rfl|hk|rfl|rfl|rfl|rfl|rfl|rfl|rfl|rfl
 ·obtain⟨_,_,h1,h2⟩:=ho;show UL [(b,jR e.v_)]+12<=_;rw[iF,FD];have:(jR e.v_).2.size<=20+e.v_.text.size:=by
   unfold jR
   repeat' split
   ·show 4<=_;omega
   ·have e2:(kP e.v_.int).size=(Lib.decDigits e.v_.int.toNat).length:=by rw[<-lO];rfl
    have:=Lib.nDigits_le20 e.v_.int.toNat (by omega);show(kP e.v_.int).size<=_;rw[e2,Lib.decDigits_length];omega
   ·show e.v_.text.size<=_;omega
   ·show e.v_.text.size<=_;omega
  dsimp only;omega
 ·show UL (if e.table.data.toList=[] then [pw b e.name] else [pw b e.table,ps false iM,pw false e.name])+12<=_;split
  ·show 2*e.name.size+4+0+12<=_;omega
  ·show 2*e.table.size+4+(2*1+4+(2*e.name.size+4+0))+12<=_;omega
 ·obtain⟨_,h1,h2⟩:=ho;show UL [(b,(5,kP e.n))]+12<=_;have e2:(kP e.n).size=(Lib.decDigits e.n.toNat).length:=by rw[<-lO];rfl
  have:=Lib.nDigits_le20 e.n.toNat (by omega);rw[Lib.decDigits_length] at e2;show 2*(kP e.n).size+4+0+12<=_;omega
 ·obtain⟨a,e1⟩:=ho;have ea:e.args=[a]:=by rw[e1]
  have:=vA h (ha a (by rw[ea];simp)) false;rw[ea] at hw;show UL (ps b sU::aW F false (e.args.getD 0 aA.z))+12<=_;rw[ea,iF];show 2*1+4+UL (aW F false a)+12<=_;simp only[dG,eZ,lZ,sO] at hw;omega
 ·obtain⟨a,e1⟩:=ho;have ea:e.args=[a]:=by rw[e1]
  have:=vA h (ha a (by rw[ea];simp)) false;rw[ea] at hw;show UL (ps b uG::aW F false (e.args.getD 0 aA.z))+12<=_;rw[ea,iF];show 2*1+4+UL (aW F false a)+12<=_;simp only[dG,eZ,lZ,sO] at hw;omega
 ·obtain⟨a,e1⟩:=ho;have ea:e.args=[a]:=by rw[e1]
  have h1:=vA h (ha a (by rw[ea];simp)) true;have h2:=h.ex a (ha a (by rw[ea];simp)) false;rw[ea] at hw;show UL (if(e.args.getD 0 aA.z).op=27 then pw b cN::ps true cL::(F.tx false (e.args.getD 0 aA.z)++[ps false cB]) else pw b cN::aW F true (e.args.getD 0 aA.z))+12<=_;rw[ea];simp only[dG,eZ,lZ,sO] at hw;split
  ·rw[iF,iF,fA];show 2*3+4+(2*1+4+(UL (F.tx false a)+(2*1+4+0)))+12<=_;omega
  ·rw[iF];show 2*3+4+UL (aW F true a)+12<=_;omega
 ·obtain⟨a,c,e1,_⟩:=By hk ho;rw[yJ hk];have ea:e.args=[a,c]:=by rw[e1]
  have h1:=vA h (ha a (by rw[ea];simp)) b;have h2:=vA h (ha c (by rw[ea];simp)) true;rw[ea] at hw ⊢;simp only[dG,eZ,lZ,sO] at hw;have h3:UL (if k=23∨k=24 then iV e.not else [])<=10:=by
   split
   ·exact Tn _
   ·exact kK _
  have h4:=YR k;rw[fA,fA,fA];show UL (aW F b a)+(_+(_+UL (aW F true c)))+12<=_;omega
 ·obtain⟨a,c,d,e1⟩:=ho;have ea:e.args=[a,c,d]:=by rw[e1]
  have h1:=vA h (ha a (by rw[ea];simp)) b;have h2:=vA h (ha c (by rw[ea];simp)) true;have h3:=vA h (ha d (by rw[ea];simp)) true;have h4:=Tn e.not;rw[ea] at hw;simp only[dG,eZ,lZ,sO] at hw;show UL (aW F b (e.args.getD 0 aA.z)++(iV e.not++(pw true jG::(aW F true (e.args.getD 1 aA.z)++(pw true jB::aW F true (e.args.getD 2 aA.z))))))+12<=_;rw[ea,fA,fA,iF,fA,iF];show UL (aW F b a)+(_+(2*7+4+(UL (aW F true c)+(2*3+4+UL (aW F true d)))))+12<=_;omega
 ·have h4:=Tn e.not;show UL (aW F b (e.args.getD 0 aA.z)++(iV e.not++(pw true jN::ps true cL::((if e.sub=[] then cK F.tx false (e.args.drop 1) else F.se false (e.sub.getD 0 aF.z))++[ps false cB]))))+12<=_;rw[fA,fA,iF,iF,fA];rcases ho with⟨a,l,e1⟩|⟨a,q,e1⟩
  ·have ea:e.args=a::l:=by rw[e1]
   have es:e.sub=[]:=by rw[e1]
   have h1:=vA h (ha a (by rw[ea];simp)) b;have h2:UL (cK F.tx false l)<=64*(l.map aA.w).sum:=zT _ fun b x hx=>by have:=h.ex x (ha x (by rw[ea];simp[hx])) b;omega
   rw[ea] at hw;simp only[dG,lZ] at hw;rw[ea,es,if_pos rfl];show UL (aW F b a)+(_+(2*2+4+(2*1+4+(UL (cK F.tx false l)+(2*1+4+0)))))+12<=_;omega
  ·have ea:e.args=[a]:=by rw[e1]
   have es:e.sub=[q]:=by rw[e1]
   have h1:=vA h (ha a (by rw[ea];simp)) b;have h2:=h.se q (hs q (by rw[es];simp)).2 false;rw[ea,es] at hw;simp only[dG,eZ,lZ,sO] at hw;rw[ea,es,if_neg (by simp)];show UL (aW F b a)+(_+(2*2+4+(2*1+4+(UL (F.se false q)+(2*1+4+0)))))+12<=_;omega
 ·obtain⟨q,e1⟩:=ho;have es:e.sub=[q]:=by rw[e1]
  have h2:=h.se q (hs q (by rw[es];simp)).2 false;rw[es] at hw;simp only[dG,eZ,lZ,sO] at hw;show UL ((if e.not then [pw b cN,pw true eG] else [pw b eG])++(ps true cL::(F.se false (e.sub.getD 0 aF.z)++[ps false cB])))+12<=_;have h3:UL (if e.not then [pw b cN,pw true eG] else [pw b eG])<=26:=by
   split
   ·show 2*3+4+(2*6+4+0)<=26;omega
   ·show 2*6+4+0<=26;omega
  rw[es,fA,iF,fA];show _+(2*1+4+(UL (F.se false q)+(2*1+4+0)))+12<=_;omega
 ·obtain⟨q,e1⟩:=ho;have es:e.sub=[q]:=by rw[e1]
  have h2:=h.se q (hs q (by rw[es];simp)).2 false;rw[es] at hw;simp only[dG,eZ,lZ,sO] at hw;show UL (ps b cL::(F.se false (e.sub.getD 0 aF.z)++[ps false cB]))+12<=_;rw[es,iF,fA];show 2*1+4+(UL (F.se false q)+(2*1+4+0))+12<=_;omega
 ·obtain⟨k,_,_,_,_,hal⟩:=ho;show UL (pw b jA::((caseA e.n.toNat e.args).flatMap (F.tx true)++(eQ F (iH e.n.toNat e.args)++(nP F (iK e.n.toNat e.args)++[pw true iO]))))+12<=_;have hz:(iK e.n.toNat e.args).length<=1:=by unfold iK;split<;>simp<;>omega
  revert hz
  generalize caseA e.n.toNat e.args=A at hal;generalize iH e.n.toNat e.args=B at hal;generalize iK e.n.toNat e.args=C at hal;intro hz;rw[hal] at ha hw;have h1:UL (A.flatMap (F.tx true))<=64*(A.map aA.w).sum:=Fj fun x hx=>by have:=h.ex x (ha x (by simp[hx])) true;omega
  have h2:=CH h B fun x hx=>ha x (by simp[hx]);have h3:UL (nP F C)<=64*(C.map aA.w).sum:=by
   match C,hz with
   |[],_=>exact dS _
   |[x],_=>
    have:=h.ex x (ha x (by simp)) true;show 2*4+4+UL (F.tx true x)<=_;simp only[dG,eZ,lZ,sO];omega
  simp only[eK,Hh] at hw;rw[iF,fA,fA,fA];show 2*4+4+(_+(_+(_+(2*3+4+0))))+12<=_;omega
 ·obtain⟨a,e1,_⟩:=ho;have ea:e.args=[a]:=by rw[e1]
  have h1:=h.ex a (ha a (by rw[ea];simp)) false;rw[ea] at hw;simp only[dG,eZ,lZ,sO] at hw;show UL (pw b pR::ps false cL::(F.tx false (e.args.getD 0 aA.z)++[pw true lW,pw true e.name,ps false cB]))+12<=_;rw[ea,iF,iF,fA];show 2*4+4+(2*1+4+(UL (F.tx false a)+(2*2+4+(2*e.name.size+4+(2*1+4+0)))))+12<=_;omega
 ·obtain⟨a,e1,_⟩:=ho;have ea:e.args=[a]:=by rw[e1]
  have h1:=vA h (ha a (by rw[ea];simp)) b;rw[ea] at hw;simp only[dG,eZ,lZ,sO] at hw;show UL (aW F b (e.args.getD 0 aA.z)++[pw true pM,pw true e.name])+12<=_;rw[ea,fA];show UL (aW F b a)+(2*7+4+(2*e.name.size+4+0))+12<=_;omega
 ·have h1:∀b,UL (cK F.tx b e.args)<=64*(e.args.map aA.w).sum:=fun b=>zT _ fun b x hx=>by have:=h.ex x (ha x hx) b;omega
  have h2:=h1 true;have h3:=h1 false;show UL (pw b e.name::ps false cL::((if e.n=1 then pw false kT::cK F.tx true e.args else if e.n=2 then [ps false mZ] else cK F.tx false e.args)++[ps false cB]))+12<=_;rw[iF,iF,fA];have h4:UL (if e.n=1 then pw false kT::cK F.tx true e.args else if e.n=2 then [ps false mZ] else cK F.tx false e.args)<=20+64*(e.args.map aA.w).sum:=by
   repeat' split
   ·show 2*8+4+UL (cK F.tx true e.args)<=_;omega
   ·show 2*1+4+0<=_;omega
   ·omega
  show 2*e.name.size+4+(2*1+4+(_+(2*1+4+0)))+12<=_;omega
omit h in
def GN (s:ByteArray):UL (mS s)<=12+2*s.size:=by
 unfold mS;split
 ·exact kK _
 ·show 2*2+4+(2*s.size+4+0)<=_;omega
def Ec {ws:List ByteArray} {l:List aA} (hl:∀x∈l,M.ex x):UL (dF F ws l)<=UL (ws.map (pw true))+64*(l.map aA.w).sum:=by
 unfold dF;split
 ·exact kK _
 ·rw[fA];have:UL (cK F.tx true l)<=64*(l.map aA.w).sum:=zT _ fun b x hx=>by have:=h.ex x (hl x hx) b;omega
  omega
omit h in
def Iz {l:List aA} (hl:l=[]∨∃x,l=[x]∧M.ex x):∀x∈l,M.ex x:=by
 rcases hl with rfl|⟨x,rfl,hx⟩
 ·intro x hx;cases hx
 ·intro y hy;simp at hy;rw[hy];exact hx
def ZC {it:bA} (hi:xF M it) (b:Bool):UL (gH F b it)+6<=64*bA.w it:=by
 have hw:=bA.dU it;unfold gH;rcases hi with⟨h1,_⟩|⟨h1,_,_,x,h2,hx⟩
 ·rw[h1,if_pos rfl];split
  ·show 2*1+4+0+6<=_;omega
  ·show 2*it.table.size+4+(2*1+4+(2*1+4+0))+6<=_;omega
 ·have h3:=GN it.az;have h4:=h.ex x hx b;rw[h1,if_neg (by simp),fA,h2];rw[h2] at hw;simp only[dG,eZ,lZ,sO] at hw;show UL (F.tx b x)+_+6<=_;omega
def DV {f:aO} (hf:rF M f) (b:Bool):UL (gW F b f++dF F [iJ] f.on)+36<=64*aO.w f:=by
 obtain⟨_,_,h1,h2⟩:=hf;have hw:=aO.dU f;have h3:=GN f.az;have h4:=Ec h (ws:=[iJ]) (Iz h1);have e1:UL ([iJ].map (pw true))=8:=by decide
 rw[fA];unfold gW;rw[fA];rcases h2 with⟨h2,_⟩|⟨_,q,h2,_,hq⟩
 ·rw[h2,if_pos rfl];show 2*f.name.size+4+0+_+_+36<=_;omega
 ·have h5:=h.se q hq false;rw[h2] at hw;simp only[dG,eZ,lZ,sO] at hw;rw[h2,if_neg (by simp),iF,fA];show 2*1+4+(UL (F.se false q)+(2*1+4+0))+_+_+36<=_;omega
def ZR {l:List aO} (hl:∀f∈l,rF M f):UL (vO F l)<=64*(l.map aO.w).sum:=by
 match l,hl with
 |[],_=>exact dS _
 |f::l,hl=>
  have h1:=DV h (hl f (by simp)) true;have h2:UL (l.flatMap fun f=>(if f.join=1 then [pw true mQ,pw true hU] else [pw true hU])++(gW F true f++dF F [iJ] f.on))<=64*(l.map aO.w).sum:=Fj fun x hx=>by
   have h1:=DV h (hl x (by simp[hx])) true;rw[fA];have:UL (if x.join=1 then [pw true mQ,pw true hU] else [pw true hU])<=24:=by split<;>decide
   omega
  show UL (pw true oI::(gW F true f++(dF F [iJ] f.on++_)))<=_;rw[iF,<-fS,fA,dG,lZ];show 2*4+4+(_+_)<=_;omega
def x9 {l:List aA} (hl:∀x∈l,M.ex x) (b:Bool):UL (iU F b l)+6<=64*(1+(l.map aA.w).sum):=by
 have:UL (cK F.tx false l)<=64*(l.map aA.w).sum:=zT _ fun b x hx=>by have:=h.ex x (hl x hx) b;omega
 unfold iU;rw[iF,fA];show 2*1+4+(_+(2*1+4+0))+6<=_;omega
def Zp {P:aK} (hP:nA M P) (b:Bool):UL (eO F b P)+24<=64*aK.w P:=by
 have hw:=aK.dU P;unfold eO;rcases hP with⟨h1,_,h2⟩|⟨h1,_,h2,h3,_,h4,h5,h6⟩
 ·rw[if_neg h1];have:UL (cK (iU F) true P.values)<=64*(P.values.map (fun z:List aA=>1+(z.map aA.w).sum)).sum:=zT _ fun b row hr=>x9 h (h2 row hr).2.2 b;rw[iF];show 2*6+4+_+24<=_;omega
 ·rw[if_pos h1];have a1:UL (cK (gH F) true P.items)<=64*(P.items.map bA.w).sum:=zT _ fun b x hx=>ZC h (h2 x hx) b;have a2:=ZR h h3;have a3:=Ec h (ws:=[oF]) (Iz h4);have a4:=Ec h (ws:=[lF,lB]) h5;have a5:=Ec h (ws:=[oB]) (Iz (h6.imp_right fun h=>h.2));have a6:UL (if P.distinct then [pw true kT] else [])<=20:=by split<;>decide
  have e1:UL ([oF].map (pw true))=14:=by decide
  have e2:UL ([lF,lB].map (pw true))=22:=by decide
  have e3:UL ([oB].map (pw true))=16:=by decide
  rw[iF,fA,fA,fA,fA,fA];show 2*6+4+_+24<=_;omega
def UC {l:List aK} (hl:∀p∈l,nA M p) (b:Bool):UL (Ci F b l)<=64*(l.map aK.w).sum:=by
 match l,hl with
 |[],_=>exact dS _
 |p::l,hl=>
  have h1:=Zp h (hl p (by simp)) b;have h2:UL (l.flatMap fun p=>uJ p.comp.toNat++eO F true p)<=64*(l.map aK.w).sum:=Fj fun x hx=>by
   have h1:=Zp h (hl x (by simp[hx])) true;have:UL (uJ x.comp.toNat)<=24:=by unfold uJ;split<;>first|decide|exact kK _
   rw[fA];omega
  show UL (eO F b p++_)<=_;rw[fA,dG,lZ];omega
def UI {l:List aX} (hl:∀o∈l,M.ex o.expr):UL (vF F l)<=24+64*(l.map aX.w).sum:=by
 unfold vF;split
 ·exact kK _
 ·have:UL (cK (mP F) true l)<=64*(l.map aX.w).sum:=zT _ fun b x hx=>by
   have h1:=h.ex _ (hl x hx) b;have h2:UL (if x.desc_ then [pw true xI] else [])<=12:=by split<;>decide
   unfold mP;rw[fA,aX.dU];omega
  rw[iF,iF];show 2*5+4+(2*2+4+_)<=_;omega
def ET {c:bE} {q:aF} (hc:c.body=[q]) (hq:M.se q):UL (nD F c)+18<=64*bE.w c:=by
 have hw:=bE.dU c;rw[hc] at hw;simp only[dG,eZ,lZ,sO] at hw;have h1:=h.se q hq false;have h2:UL (cK (fun b s=>[pw b s]) false c.cols)<=64*(c.cols.map (fun z:ByteArray=>z.size+1)).sum:=zT _ fun b x hx=>by
  show 2*x.size+4+0+6<=_;omega
 have h3:UL (if c.cols=[] then [] else ps false cL::(cK (fun b s=>[pw b s]) false c.cols++[ps false cB]))<=12+64*(c.cols.map (fun z:ByteArray=>z.size+1)).sum:=by
  split
  ·exact kK _
  ·rw[iF,fA];show 2*1+4+(_+(2*1+4+0))<=_;omega
 unfold nD;rw[hc,iF,fA,iF,iF,fA];show 2*c.name.size+4+(_+(2*2+4+(2*1+4+(UL (F.se false q)+(2*1+4+0)))))+18<=_;omega
def m6 {q:aF} (hq:uL M q) (b:Bool):UL (qK F b q)+12<=64*aF.w q:=by
 obtain⟨h1,⟨P,l,h2,_,h3,h4⟩,h5,h6⟩:=hq;have hw:=aF.dU q;have hp:∀p∈q.parts,nA M p:=fun p hp=>by
  rw[h2] at hp;rcases oR.1 hp with rfl|hp
  ·exact h3
  ·exact(h4 p hp).2.2
 have hl:(∀x∈q.limit,M.ex x)∧∀x∈q.offset,M.ex x:=by
  rcases h6 with⟨a,b⟩|⟨x,a,hx,b⟩
  ·rw[a,b];exact⟨fun _ h=>(by cases h),fun _ h=>(by cases h)⟩
  ·exact⟨Iz (.inr ⟨x,a,hx⟩),Iz b⟩
 have hc:∀b,UL (pD F b q)<=60+64*((q.parts.map aK.w).sum+(q.order.map aX.w).sum+(q.limit.map aA.w).sum+(q.offset.map aA.w).sum):=fun b=>by
  have a1:=UC h hp b;have a2:=UI h h5;have a3:=Ec h (ws:=[kM]) hl.1;have a4:=Ec h (ws:=[kU]) hl.2;have e1:UL ([kM].map (pw true))=14:=by decide
  have e2:UL ([kU].map (pw true))=16:=by decide
  unfold pD;rw[fA,fA,fA];omega
 have hcb:=hc b;have hct:=hc true;unfold qK;split
 ·omega
 ·rw[fA];have hwi:UL (Ey F b q.with_)<=12+64*(q.with_.map bE.w).sum:=by
   revert h1
   generalize q.with_=ws;intro h1
   match ws,h1 with
   |[],_=>exact kK _
   |c::l,h1=>
    obtain⟨_,_,y,hy,_,hy2⟩:=h1 c (by simp);have a1:=ET h hy hy2;have a2:UL (l.flatMap fun c=>ps false eU::nD F c)<=64*(l.map bE.w).sum:=Fj fun x hx=>by
     obtain⟨_,_,y,hy,_,hy2⟩:=h1 x (by simp[hx]);have:=ET h hy hy2;rw[iF];show 2*1+4+_<=_;omega
    show UL (pw b Js::(nD F c++_))<=_;rw[iF,fA,dG,lZ];show 2*4+4+(_+_)<=_;omega
  omega
omit h in
def Tq:∀n,LB (oM n) (uO n)
 |0=>⟨fun e h=>(by cases h),fun q h=>(by cases h)⟩
 |n+1=>⟨fun e he b=>WL (Tq n) he b,fun q hq b=>m6 (Tq n) hq b⟩
end
def QC {P:List Pc} {x:ByteArray} (h:x=aS (aG P)):x.data.toList=aG P:=by rw[h]
def aD7 (hd:s6=some true) (e:aA) (h:aA.w e<=1048576):s3 e=some true:=by
 have h39:aA.w e<549755813888:=by omega
 have hdeep:=x8 e h39;unfold s3 s5 Py;rw[hdeep,aN,hd];by_cases h12:gQ.e e>12
 ·rw[decide_eq_true h12,bL];rfl
 ·rw[Bj h12,aQ];obtain⟨b,hb,hp⟩:=s4 h39;rw[hb,aN];cases b with
  |false=>rfl
  |true=>
   have hm:=hp rfl;have hl:=Tq 549755813888 |>.ex e hm false;have hf:=DH ((oM 549755813888).tx false e);have ht:IX e=some (aS (aG ((oM 549755813888).tx false e))):=(DU 549755813888).tx e hm (by omega) bQ (by unfold bQ;omega);rw[show(!true)=false from rfl,aQ,aN,show((0:Int) != 0)=false from rfl,aQ,ht,aN,aN,aN];generalize hx:aS (aG ((oM 549755813888).tx false e))=x;rw[show(!true)=false from rfl,aQ,bY,show((0:Int) != 0)=false from rfl,aQ];by_cases hs:(x.size:Int)>2000
   ·dsimp only;rw[decide_eq_true hs,bL];rfl
   ·dsimp only;rw[Bj hs,aQ,MP hm (by unfold bQ;omega) (QC hx.symm) (by omega) hdeep (by omega),aN,bY];dsimp only;rw[show((0:Int)==0)=true from rfl,bL,bL,aDo e e (by unfold bQ;omega),aN,BX]
def ZH:s6=some true:=by decide+kernel
def aI9 (e:aA) (h:aA.w e<=1048576):cG prog 3 [.agg e.v] (aY true):=c3 e true (aD7 ZH e h)
end Go.Proofs.YtlfbdcfnimnhiaaGreatDoor.Ex
namespace Go.Proofs.YtlfbdcfnimnhiaaGreatDoor
open Go.Am Go.Ex Go.ChangeShapes Go.WideShapes Go.ChangeAt Go.RowKit
def KS:(Rows.exprRoundUptoRow.inPlace==prog.inPlace 3)=true:=by kernel_rfl
def KM:(Rows.exprRoundUptoRow.unfollowed==prog.unfollowed 3)=true:=by kernel_rfl
def KO:(Rows.exprRoundUptoRow.recurses==prog.recurses 3)=true:=by kernel_rfl
def KX:(Rows.exprRoundUptoRow.named==prog.varsNamed 3)=true:=by kernel_rfl
def LP {a b:Bool} (ha:a=true) (hb:b=true):(a&&b)=true:=by rw[ha,hb];rfl
def KU:joinedFacts prog 3 Tryz.f3 (Rows.OpenSpec.upto Rows.exprRoundSpec).bare Rows.exprRoundUptoRow=true:=by
 unfold joinedFacts
 repeat' (with_reducible refine LP ?_ ?_)
 all_goals first|(with_reducible exact KS)|(with_reducible exact KM)|(with_reducible exact KO)|(with_reducible exact KX)|kernel_rfl
end Go.Proofs.YtlfbdcfnimnhiaaGreatDoor
