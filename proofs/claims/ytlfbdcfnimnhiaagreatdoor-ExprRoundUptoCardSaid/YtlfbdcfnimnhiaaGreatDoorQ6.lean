/- A part. -/
import Derived.Test.YtlfbdcfnimnhiaaGreatDoorQ5
set_option linter.all false
set_option maxRecDepth 100000
open Go.IntKind (i64)
namespace Go.Proofs.YtlfbdcfnimnhiaaGreatDoor.Ex
open Go.Am Go.Ex
section
variable {x:ByteArray} {n:Nat} {R a:List UInt8} {c d:UInt8}
def jS:List UInt8->List UInt8
 |[]=>[]
 |c::s=>if c==39 then 39::39::jS s else c::jS s
def qL (s:List UInt8):List Int:=s.map fun c=>(c.toNat:Int)
def Yc (s:List UInt8):wT (qL s)=s:=by
 unfold wT qL;rw[List.map_map]
 conv=>rhs;rw[<-List.map_id s]
 refine Ha fun c _=>?_;simp
def Yi (s:List UInt8):Cd (qL s)=true:=by
 unfold Cd qL;rw[List.all_map,lY];intro c _;have:=c.toNat_lt;simp;omega
def Ks (c:UInt8):((c.toNat:Int)==39)=(c==39):=by
 have:∀k:Fin 256,((k.val:Int)==39)=(UInt8.ofNat k.val==39):=by decide+kernel
 have e:=this ⟨c.toNat,c.toNat_lt⟩;simp only[xU] at e;exact e
def Kq (x0:ByteArray):((List Int)×Int->Option (ByteArray×Int×Bool))->(List Int)×Int->Option (ByteArray×Int×Bool):=fun u8 q7=>(aE (decide (q7.2<(x0.size:Int))) (join (fun(u16:Int->Option (ByteArray×Int×Bool))=>(aR (0<=q7.2∧q7.2<(x0.size:Int)) (aE (((x0.data.toList.getD q7.2.toNat 0).toNat:Int)==39) (join (fun(u24:Bool->Option (ByteArray×Int×Bool))=>(aE ((i64.wrap (q7.2+1))==(x0.size:Int)) (u24 true) (aR (0<=(i64.wrap (q7.2+1))∧(i64.wrap (q7.2+1))<(x0.size:Int)) (u24 (((x0.data.toList.getD (i64.wrap (q7.2+1)).toNat 0).toNat:Int) != 39))))) (fun(q23:Bool)=>(aE q23 (aR (Cd q7.1=true) (some ((ByteArray.mk (wT q7.1).toArray),(i64.wrap (q7.2+1)),true))) (u16 (i64.wrap (q7.2+1)))))) (u16 q7.2)))) (fun(q15:Int)=>(aR (0<=q15∧q15<(x0.size:Int)) (aR ((q7.1.length+1)*1<=140737488355328) (u8 ((q7.1++([((x0.data.toList.getD q15.toNat 0).toNat:Int)])),(i64.wrap (q15+1)))))))) (some ((bm #[]),0,false)))
def XO (x0:ByteArray) (x1:Int):Ga x0 x1=cF (Kq x0) bQ (([]:List Int),(i64.wrap (x1+1))):=rfl
def aAi (hR:jY (· ==39) R=true):∀(s:List UInt8) (j m:Nat) (acc:List UInt8),s.length<m->acc.length+s.length<=5000->dT x j (jS s++39::R)->cF (Kq x) m (qL acc,(j:Int))=some (ByteArray.mk (acc++s).toArray,((j+(jS s).length+1:Nat):Int),true):=by
 intro s
 induction s with
 |nil=>
  intro j m acc hm ha h;obtain⟨m,rfl⟩:∃k,m=k+1:=⟨m-1,by simp at hm;omega⟩;have h:dT x j (39::R):=h;have hl:=h.lt;rw[eX];unfold Kq;simp only[tD h,cZ,h.get];rw[show decide ((j:Int)<(x.size:Int))=true by simp;omega,bL,bY,bV (by omega),show((((39:UInt8).toNat:Nat):Int)==39)=true from rfl,bL,bY];have hn:dT x (j+1) R:=h.next;have fin:∀u:Bool->Option (ByteArray×Int×Bool),(aE (((j+1:Nat):Int)==(x.size:Int)) (u true) (aR (0<=((j+1:Nat):Int)∧((j+1:Nat):Int)<(x.size:Int)) (u (((x.data.toList.getD (j+1) 0).toNat:Int) != 39))))=u true:=by
   intro u;cases R with
   |nil=>
    have:=hn.nil;have e:(((j+1:Nat):Int)==(x.size:Int))=true:=by simp;omega
    rw[e,bL]
   |cons d R=>
    have:=hn.lt;have e:(((j+1:Nat):Int)==(x.size:Int))=false:=by simp;omega
    simp only[jY,qR] at hR;rw[e,aQ,bV (by omega),hn.get,bne,Ks,hR];rfl
  rw[gL];exact(fin (fun q23=>aE q23 _ _)).trans (by rw[bL,bV (Yi acc),Yc];rfl)
 |cons c s ih=>
  intro j m acc hm ha h;obtain⟨m,rfl⟩:∃k,m=k+1:=⟨m-1,by simp at hm;omega⟩;simp only[bF] at hm ha;have hacc:∀c:UInt8,qL acc++[(c.toNat:Int)]=qL (acc++[c]):=fun c=>by simp[qL]
  have hlen:(qL acc).length=acc.length:=by simp[qL]
  rw[eX];by_cases hc:c=39
  ·subst hc;have h:dT x j (39::39::(jS s++39::R)):=h;have hl:=h.lt;have hl2:=h.next.lt;have:=ih (j+2) m (acc++[39]) (by omega) (by simp;omega) h.next.next;unfold Kq;simp only[tD h,cZ,h.get];rw[show decide ((j:Int)<(x.size:Int))=true by simp;omega,bL,bY,bV (by omega),show((((39:UInt8).toNat:Nat):Int)==39)=true from rfl,bL,bY,
    show(((j+1:Nat):Int)==(x.size:Int))=false by simp;omega,aQ,bV (by omega),h.next.get,show((((39:UInt8).toNat:Nat):Int) != 39)=false from rfl]
   dsimp only;rw[aQ,bV (by omega),bV (by rw[hlen];omega),cZ,h.next.get,hacc,tD h.next];refine this.trans ?_;rw[show jS (39::s)=39::39::jS s from rfl];simp only[bF,fS,List.singleton_append,iZ,qS,and_true,true_and];omega
  ·have hc':(c==39)=false:=by simpa using hc
   have hd:jS (c::s)=c::jS s:=by rw[jS,hc'];rfl
   rw[hd] at h ⊢;have h:dT x j (c::(jS s++39::R)):=h;have hl:=h.lt;have:=ih (j+1) m (acc++[c]) (by omega) (by simp;omega) h.next;unfold Kq;simp only[cZ,h.get];rw[show decide ((j:Int)<(x.size:Int))=true by simp;omega,bL,bY,bV (by omega),Ks,hc',aQ];dsimp only;rw[bV (by omega),bV (by rw[hlen];omega),cZ,h.get,hacc,tD h];refine this.trans ?_;simp only[bF,fS,List.singleton_append,iZ,qS,and_true,true_and];omega
def Tb:∀s:List UInt8,s.length<=(jS s).length
 |[]=>dS _
 |c::s=>by
  have:=Tb s;unfold jS;split<;>simp only[bF]<;>omega
def aAh (hR:jY (· ==39) R=true) {s:List UInt8} (h:dT x n (39::(jS s++39::R))):Ga x (n:Int)=some (ByteArray.mk s.toArray,((n+1+(jS s).length+1:Nat):Int),true):=by
 rw[XO,tD h];have hl:=h.next.len;have:=h.sz;have:=Tb s;simp only[bH,bF] at hl;exact aAi (x:=x) hR s (n+1) bQ [] (by unfold bQ;omega) (by simp;omega) h.next
def Mx:∀s:List UInt8,(iW s).length=2*s.length
 |[]=>rfl
 |c::s=>by rw[iW,bF,bF,Mx s,bF];omega
def DD:∀k:Fin 16,wF k.val≠39:=by decide+kernel
def DC:∀(s:List UInt8),∀c∈iW s,c≠39
 |[]=>fun c h=>by cases h
 |d::s=>fun c h=>by
  have:=d.toNat_lt;rcases oR.1 h with rfl|h
  ·exact DD ⟨d.toNat/16,by omega⟩
  rcases oR.1 h with rfl|h
  ·exact DD ⟨d.toNat%16,by omega⟩
  exact DC s c h
def GH:∀l:List UInt8,(∀c∈l,c≠39)->Lib.indexByte (l++39::R) 39=(l.length:Int)
 |[],_=>by simp[Lib.indexByte]
 |c::l,h=>by
  have hc:=h c (lK ..);have:=GH l fun c hc=>h c (iD _ hc);rw[jP,Lib.indexByte,show(c==39)=false by simpa using hc,this];rw[show((l.length:Int) == -1)=false by simp];simp
def AT (k:Nat) (h:k<16):Ar ((wF k).toNat:Int)=some (k:Int):=by
 have:∀k:Fin 16,Ar ((wF k.val).toNat:Int)=some (k.val:Int):=by decide+kernel
 exact this ⟨k,h⟩
def ZG (c:UInt8):IntKind.u8.wrap (zJ .i64 (mI .i64 ((c.toNat/16:Nat):Int) 4) ((c.toNat%16:Nat):Int))=(c.toNat:Int):=by
 have:∀k:Fin 256,IntKind.u8.wrap (zJ .i64 (mI .i64 ((k.val/16:Nat):Int) 4) ((k.val%16:Nat):Int))=(k.val:Int):=by decide+kernel
 exact this ⟨c.toNat,c.toNat_lt⟩
def Pq (x0:ByteArray) (E:Int) (W:Int):((List Int)×Int->Option (ByteArray×Int×Bool))->(List Int)×Int->Option (ByteArray×Int×Bool):=fun u17 q16=>(aE (decide (q16.2<(E))) (aR (0<=q16.2∧q16.2<(x0.size:Int)) (aR (0<=(i64.wrap (q16.2+1))∧(i64.wrap (q16.2+1))<(x0.size:Int)) (call (Ar ((x0.data.toList.getD q16.2.toNat 0).toNat:Int)) fun y24=>(call (Ar ((x0.data.toList.getD (i64.wrap (q16.2+1)).toNat 0).toNat:Int)) fun y25=>(join (fun(u30:Bool->Option (ByteArray×Int×Bool))=>(aE (decide (y24<0)) (u30 true) (u30 (decide (y25<0))))) (fun(q29:Bool)=>(aE q29 (some ((bm #[]),0,false)) (aR ((q16.1.length+1)*1<=140737488355328) (u17 ((q16.1++([(IntKind.u8.wrap (zJ .i64 (mI .i64 y24 4) y25))])),(i64.wrap (q16.2+2)))))))))))) (aR (Cd q16.1=true) (some ((ByteArray.mk (wT q16.1).toArray),W,true))))
def XN (x0:ByteArray) (x1:Int):Fz x0 x1=(aR (0<=(i64.wrap (x1+1))∧(i64.wrap (x1+1))<=(x0.size:Int)∧(x0.size:Int)<=(x0.size:Int)) (call (n156 (x0.extract (i64.wrap (x1+1)).toNat (x0.size:Int).toNat) 39) fun y2=>(join (fun(u6:Bool->Option (ByteArray×Int×Bool))=>(aE (decide (y2<0)) (u6 true) (u6 ((y2.tmod 2)==1)))) (fun(q5:Bool)=>(aE q5 (some ((bm #[]),0,false)) (cF (Pq x0 (i64.wrap ((i64.wrap (x1+1))+y2)) (i64.wrap ((i64.wrap (x1+y2))+2))) bQ (([]:List Int),(i64.wrap (x1+1))))))))):=rfl
def aA3 {W:Int}:∀(s:List UInt8) (j m:Nat) (acc:List UInt8),s.length<m->acc.length+s.length<=5000->dT x j (iW s++39::R)->cF (Pq x ((j+2*s.length:Nat):Int) W) m (qL acc,(j:Int))=some (ByteArray.mk (acc++s).toArray,W,true):=by
 intro s
 induction s with
 |nil=>
  intro j m acc hm ha h;obtain⟨m,rfl⟩:∃k,m=k+1:=⟨m-1,by simp at hm;omega⟩;rw[eX];unfold Pq;rw[show decide ((j:Int)<((j+2*([]:List UInt8).length:Nat):Int))=false by simp,aQ,bV (Yi acc),Yc,gL]
 |cons c s ih=>
  intro j m acc hm ha h;obtain⟨m,rfl⟩:∃k,m=k+1:=⟨m-1,by simp at hm;omega⟩;simp only[bF] at hm ha;have hacc:∀c:UInt8,qL acc++[(c.toNat:Int)]=qL (acc++[c]):=fun c=>by simp[qL]
  have hlen:(qL acc).length=acc.length:=by simp[qL]
  have hcl:=c.toNat_lt;have h:dT x j (wF (c.toNat/16)::wF (c.toNat%16)::(iW s++39::R)):=h;have hl:=h.lt;have hl2:=h.next.lt;have:=ih (j+2) m (acc++[c]) (by omega) (by simp;omega) h.next.next;rw[eX];unfold Pq;simp only[tD h,Vo h,cZ,h.get,h.next.get];rw[show decide ((j:Int)<((j+2*(c::s).length:Nat):Int))=true by simp;omega,bL,bV (by omega),bV (by omega),AT _ (by omega),aN,AT _ (by omega),aN,bY,
   show decide (((c.toNat/16:Nat):Int)<0)=false by simp;omega,aQ,show decide (((c.toNat%16:Nat):Int)<0)=false by simp;omega]
  dsimp only;rw[aQ,bV (by rw[hlen];omega),ZG,hacc];rw[show j+2*(c::s).length=j+2+2*s.length by simp;omega];refine this.trans ?_;simp only[fS,List.singleton_append]
def Ds {s:List UInt8} (h:dT x n (39::(iW s++39::R))):Fz x (n:Int)=some (ByteArray.mk s.toArray,((n+1+(iW s).length+1:Nat):Int),true):=by
 have hl:=h.next.len;have hz:=h.sz;have hh:=Mx s;simp only[bH,bF] at hl;rw[XN,tD h,bV (by omega)];unfold n156;rw[aN,cZ,cZ,h.next.rest,show(39:Int).toNat.toUInt8=39 from rfl,GH _ (DC s),bY,
  show decide (((iW s).length:Int)<0)=false by simp]
 have ev:((((iW s).length:Int).tmod 2)==1)=false:=by
  rw[Int.tmod_eq_emod_of_nonneg (by omega)];simp only[sN,ne_eq];omega
 rw[aQ,ev];dsimp only;rw[aQ];rw[Kz h.next (by omega),Kz h (by omega),show i64.wrap (((n+(iW s).length:Nat):Int)+2)=((n+1+(iW s).length+1:Nat):Int) by rw[nK (by omega) (by omega)];simp;omega,hh];exact aA3 (x:=x) s (n+1) bQ [] (by unfold bQ;omega) (by simp;omega) h.next
def uK (c d:UInt8):Bool:=(c==124&&d==124)||(c==61&&d==61)||(c==60&&d==62)||(c==33&&d==61)||(c==60&&d==61)||(c==62&&d==61)
def Ge (c:UInt8):Bool:=decide (Lib.indexByte [40,41,44,59,46,42,43,45,47,37,61,60,62] c>=0)
def AQ (c d:UInt8):([(bm #[124,124]),(bm #[61,61]),(bm #[60,62]),(bm #[33,61]),(bm #[60,61]),(bm #[62,61])].any fun w=>w.data.toList==(bm #[c,d]).data.toList)=uK c d:=by
 unfold uK;simp only[List.any_cons,List.any_nil,jE,List.cons_beq_cons,List.nil_beq_eq,Bool.and_true,List.isEmpty_nil];simp only[Bool.beq_comm,Bool.or_assoc]
def TI (h:dT x n (c::d::R)) (ht:uK c d=true):zD x (n:Int)=some 2:=by
 have hl:=h.next.lt;have he:=dT.ext (a:=[c,d]) h;unfold zD;rw[bY,Vo h,show decide (((n+2:Nat):Int)<=(x.size:Int))=true by simp;omega,bL,bV (by omega),cZ,cZ,show n+2=n+[c,d].length from rfl,he,Sl _ _ (by decide),aN];rw[show(List.toArray [c,d])= #[c,d] from rfl,AQ,ht];dsimp only;rw[bL]
def TJ (h:dT x n (c::R)) (h1:Ge c=true) (hf:∀d R',R=d::R'->uK c d=false):zD x (n:Int)=some 1:=by
 have hl:=h.lt;have go:∀u:Bool->Option Int,(aE (decide ((i64.wrap ((n:Int)+2))<=(x.size:Int))) (aR (0<=(n:Int)∧(n:Int)<=(i64.wrap ((n:Int)+2))∧(i64.wrap ((n:Int)+2))<=(x.size:Int)) (call (Cy ([(bm #[124,124]),(bm #[61,61]),(bm #[60,62]),(bm #[33,61]),(bm #[60,61]),(bm #[62,61])]) (x.extract (n:Int).toNat (i64.wrap ((n:Int)+2)).toNat)) fun y7=>(u y7))) (u false))=u false:=by
  intro u;rw[Vo h];cases R with
  |nil=>
   have:=h.next.nil;rw[show decide (((n+2:Nat):Int)<=(x.size:Int))=false by simp;omega,aQ]
  |cons d R=>
   have hl:=h.next.lt;have he:=dT.ext (a:=[c,d]) h;rw[show decide (((n+2:Nat):Int)<=(x.size:Int))=true by simp;omega,bL,bV (by omega),cZ,cZ,show n+2=n+[c,d].length from rfl,he,Sl _ _ (by decide),aN];rw[show(List.toArray [c,d])= #[c,d] from rfl,AQ,hf d R rfl]
 unfold zD;rw[bY,go];rw[aQ,bV (by omega),cZ,h.get];unfold n156;rw[aN,show((c.toNat:Int).toNat.toUInt8)=c by simp,show(bm #[40,41,44,59,46,42,43,45,47,37,61,60,62]).data.toList=[40,41,44,59,46,42,43,45,47,37,61,60,62] from rfl];rw[show decide (Lib.indexByte [40,41,44,59,46,42,43,45,47,37,61,60,62] c>=0)=true from h1,bL]
end
section
variable {x:ByteArray} {n:Nat} {R a:List UInt8} {c d:UInt8}
def zA (x0:ByteArray) (x1:Int) (u5:aP×aP×Int->Option (aP×Int×Bool)) (q10:Bool):Option (aP×Int×Bool):=
 (aE q10 (call (Fz x0 (i64.wrap (x1+1))) fun y19=>(some ((aP.mk 4 x1 y19.1),y19.2.1,y19.2.2))) (aE (((x0.data.toList.getD x1.toNat 0).toNat:Int)==63) (call (Ad x0 (i64.wrap (x1+1))) fun y21=>(aR (0<=(i64.wrap (x1+1))∧(i64.wrap (x1+1))<=y21∧y21<=(x0.size:Int)) (some ((aP.mk 5 x1 (x0.extract (i64.wrap (x1+1)).toNat y21.toNat)),y21,true)))) (call (rG ((x0.data.toList.getD x1.toNat 0).toNat:Int)) fun y23=>(aE y23 (call (Er x0 x1) fun y25=>(u5 ((aP.mk 0 0 bO),(aP.mk 1 x1 bO),y25))) (call (vZ ((x0.data.toList.getD x1.toNat 0).toNat:Int)) fun y26=>(aE y26 (call (Ad x0 x1) fun y28=>(u5 ((aP.mk 0 0 bO),(aP.mk 2 x1 bO),y28))) (call (zD x0 x1) fun y29=>(u5 ((aP.mk 0 0 bO),(aP.mk 6 x1 bO),(i64.wrap (x1+y29)))))))))))
def Fu (x0:ByteArray) (x1:Int) (q4:aP×aP×Int):Option (aP×Int×Bool):=(aR (0<=x1∧x1<=q4.2.2∧q4.2.2<=(x0.size:Int)) (some ((aP.mk q4.2.1.kind q4.2.1.at_ (x0.extract x1.toNat q4.2.2.toNat)),q4.2.2,(decide (q4.2.2>x1)))))
def xW (x0:ByteArray) (x1:Int) (u11:Bool->Option (aP×Int×Bool)):Option (aP×Int×Bool):=(aE (decide ((i64.wrap (x1+1))<(x0.size:Int))) (aR (0<=(i64.wrap (x1+1))∧(i64.wrap (x1+1))<(x0.size:Int)) (u11 (((x0.data.toList.getD (i64.wrap (x1+1)).toNat 0).toNat:Int)==39))) (u11 false))
def If (x0:ByteArray) (x1:Int):tF x0 x1=(aR (0<=x1∧x1<(x0.size:Int)) (aE (((x0.data.toList.getD x1.toNat 0).toNat:Int)==39) (call (Ga x0 x1) fun y8=>(some ((aP.mk 3 x1 y8.1),y8.2.1,y8.2.2))) (aE (((x0.data.toList.getD x1.toNat 0).toNat:Int)==120) (xW x0 x1 (zA x0 x1 (Fu x0 x1))) (aE (((x0.data.toList.getD x1.toNat 0).toNat:Int)==88) (xW x0 x1 (zA x0 x1 (Fu x0 x1))) (zA x0 x1 (Fu x0 x1) false))))):=rfl
def aCg (h:dT x n (c::R)) (hR:jY (· ==39) R=true) (u:Bool->Option (aP×Int×Bool)):xW x (n:Int) u=u false:=by
 unfold xW;rw[tD h];cases R with
 |nil=>
  have:=h.next.nil;rw[show decide (((n+1:Nat):Int)<(x.size:Int))=false by simp;omega,aQ]
 |cons d R=>
  have hl:=h.next.lt;simp only[jY,qR] at hR;rw[show decide (((n+1:Nat):Int)<(x.size:Int))=true by simp;omega,bL,bV (by omega),cZ,h.next.get,Ks,hR]
def AR (h:dT x n (c::R)) (hc:(c==39)=false) (hR:jY (· ==39) R=true):tF x (n:Int)=zA x (n:Int) (Fu x (n:Int)) false:=by
 have hl:=h.lt;rw[If,bV (by omega),cZ,h.get,Ks,hc,aQ,aCg h hR];cases ((c.toNat:Int)==120)<;>cases ((c.toNat:Int)==88)<;>rfl
def SX {s:List UInt8} (h:dT x n (39::(jS s++39::R))) (hR:jY (· ==39) R=true):tF x (n:Int)=some (aP.mk 3 (n:Int) (ByteArray.mk s.toArray),((n+1+(jS s).length+1:Nat):Int),true):=by
 have hl:=h.lt;rw[If,bV (by omega),cZ,h.get,show((((39:UInt8).toNat:Nat):Int)==39)=true from rfl,bL,aAh hR h,aN]
def SY {s:List UInt8} (h:dT x n (120::39::(iW s++39::R))):tF x (n:Int)=some (aP.mk 4 (n:Int) (ByteArray.mk s.toArray),((n+1+1+(iW s).length+1:Nat):Int),true):=by
 have hl:=h.lt;have hl2:=h.next.lt;rw[If,bV (by omega),cZ,h.get,show((((120:UInt8).toNat:Nat):Int)==39)=false from rfl,aQ,show((((120:UInt8).toNat:Nat):Int)==120)=true from rfl,bL];unfold xW;rw[tD h,show decide (((n+1:Nat):Int)<(x.size:Int))=true by simp;omega,bL,bV (by omega),cZ,h.next.get,show((((39:UInt8).toNat:Nat):Int)==39)=true from rfl];unfold zA;rw[bL,tD h,Ds h.next,aN]
def QA (h:dT x n (63::(a++R))) (ha:a.all lA=true) (hR:jY lA R=true):tF x (n:Int)=some (aP.mk 5 (n:Int) (ByteArray.mk a.toArray),((n+1+a.length:Nat):Int),true):=by
 have hl:=h.next.len;simp only[bH] at hl;have hl2:=h.lt;rw[If,bV (by omega),cZ,h.get,show((((63:UInt8).toNat:Nat):Int)==39)=false from rfl,aQ,show((((63:UInt8).toNat:Nat):Int)==120)=false from rfl,aQ,show((((63:UInt8).toNat:Nat):Int)==88)=false from rfl,aQ];unfold zA;rw[aQ,cZ,h.get,show((((63:UInt8).toNat:Nat):Int)==63)=true from rfl,bL,tD h,CR h.next ha hR,aN,bV (by omega),cZ,cZ,h.next.ext]
def Sk {k:Int} {m:Nat} (h:dT x n (a++R)) (ha:0<a.length) (e:m=n+a.length):Fu x (n:Int) (aP.mk 0 0 bO,aP.mk k (n:Int) bO,(m:Int))=some (aP.mk k (n:Int) (ByteArray.mk a.toArray),((n+a.length:Nat):Int),true):=by
 subst e;have hl:=h.len;simp only[bH] at hl;unfold Fu;rw[bV (by simp only;omega)];simp only[cZ];rw[h.ext,show decide (((n+a.length:Nat):Int)>(n:Int))=true by simp;omega]
def Yx {p:UInt8->Bool} (ha:a.all (fun c=> !(p c))=true) (hR:jY p R=true):jY p (a++R)=true:=by
 cases a with
 |nil=>exact hR
 |cons c a=>rw[tY,dI] at ha;exact ha.1
def Uc (c:UInt8) (h:oL c=true):(c==39)=false:=by
 have:∀k:Fin 256,oL (UInt8.ofNat k.val)=true->(UInt8.ofNat k.val==39)=false:=by decide+kernel
 have e:=this ⟨c.toNat,c.toNat_lt⟩;simp only[xU] at e;exact e h
def EM (c:UInt8) (h:oL c=true):((c.toNat:Int)==63)=false:=by
 have:∀k:Fin 256,oL (UInt8.ofNat k.val)=true->((k.val:Int)==63)=false:=by decide+kernel
 have e:=this ⟨c.toNat,c.toNat_lt⟩;simp only[xU] at e;exact e h
def ZW (c:UInt8) (h:lA c=true):mJ c=false:=by
 have:∀k:Fin 256,lA (UInt8.ofNat k.val)=true->mJ (UInt8.ofNat k.val)=false:=by decide+kernel
 have e:=this ⟨c.toNat,c.toNat_lt⟩;simp only[xU] at e;exact e h
def GQ {l:List UInt8} (h:l.all oL=true):l.all (fun c=> !((· ==39) c))=true:=by
 rw[lY] at h ⊢;intro c hc;simp only[qR];exact Uc c (h c hc)
def SW (h:dT x n ((c::a)++R)) (hc:mJ c=true) (ha:(c::a).all oL=true) (hR:jY oL R=true) (hR2:jY (· ==39) R=true):tF x (n:Int)=some (aP.mk 1 (n:Int) (ByteArray.mk (c::a).toArray),((n+(c::a).length:Nat):Int),true):=by
 have ha':=ha;rw[tY,dI] at ha';have h':dT x n (c::(a++R)):=h;rw[AR h' (Uc c ha'.1) (Yx (GQ ha'.2) hR2)];unfold zA;rw[aQ,cZ,h'.get,EM c ha'.1,aQ,wU,aN,hc,bL,XR h ha hR,aN,Sk h (by simp) rfl]
def WN (h:dT x n ((c::a)++R)) (ha:(c::a).all lA=true) (hR:jY lA R=true) (hR2:jY (· ==39) R=true):tF x (n:Int)=some (aP.mk 2 (n:Int) (ByteArray.mk (c::a).toArray),((n+(c::a).length:Nat):Int),true):=by
 have hal:(c::a).all oL=true:=by
  rw[lY] at ha ⊢;intro d hd;simp[oL,ha d hd]
 have ha':=ha;rw[tY,dI] at ha' hal;have h':dT x n (c::(a++R)):=h;rw[AR h' (Uc c hal.1) (Yx (GQ hal.2) hR2)];unfold zA;rw[aQ,cZ,h'.get,EM c hal.1,aQ,wU,aN,ZW c ha'.1,aQ,Nd,aN,ha'.1,bL,CR h ha hR,aN,Sk h (by simp) rfl]
def Cw (c:UInt8):Bool:=c==124||c==33||Ge c
def QI (c:UInt8) (h:Cw c=true):(c==39)=false∧((c.toNat:Int)==63)=false∧mJ c=false∧lA c=false∧((c.toNat:Int)==120)=false∧((c.toNat:Int)==88)=false:=by
 have:∀k:Fin 256,Cw (UInt8.ofNat k.val)=true->(UInt8.ofNat k.val==39)=false∧((k.val:Int)==63)=false∧mJ (UInt8.ofNat k.val)=false∧lA (UInt8.ofNat k.val)=false∧((k.val:Int)==120)=false∧((k.val:Int)==88)=false:=by decide+kernel
 have e:=this ⟨c.toNat,c.toNat_lt⟩;simp only[xU] at e;exact e h
def CJ (h:dT x n ((c::a)++R)) (hc:Cw c=true) (hs:zD x (n:Int)=some (((c::a).length:Nat):Int)) (hl:a.length<=1):tF x (n:Int)=some (aP.mk 6 (n:Int) (ByteArray.mk (c::a).toArray),((n+(c::a).length:Nat):Int),true):=by
 obtain⟨f1,f2,f3,f4,f5,f6⟩:=QI c hc;have h':dT x n (c::(a++R)):=h;have hlt:=h'.lt;rw[If,bV (by omega),cZ,h'.get,Ks,f1,aQ,f5,aQ,f6,aQ];unfold zA;rw[aQ,cZ,h'.get,f2,aQ,wU,aN,f3,aQ,Nd,aN,f4,aQ,hs,aN,Kz h (by simp;omega),Sk h (by simp) rfl]
def dK:Tk->List UInt8
 |(k,s)=>if k=3 then 39::(jS s.data.toList++[39]) else if k=4 then 120::39::(iW s.data.toList++[39]) else if k=5 then 63::s.data.toList else s.data.toList
inductive xJ:Tk->List UInt8->Prop
 |word {c:UInt8} {a R:List UInt8} {s:ByteArray}:s.data.toList=c::a->mJ c=true->(c::a).all oL=true->(∃r,kA s=some r)->jY oL R=true->jY (· ==39) R=true->xJ (1,s) R
 |int {c:UInt8} {a R:List UInt8} {s:ByteArray}:s.data.toList=c::a->(c::a).all lA=true->jY lA R=true->jY (· ==39) R=true->xJ (2,s) R
 |text {R:List UInt8} {s:ByteArray}:jY (· ==39) R=true->xJ (3,s) R
 |Ds {R:List UInt8} {s:ByteArray}:xJ (4,s) R
 |param {R:List UInt8} {s:ByteArray}:s.data.toList.all lA=true->jY lA R=true->xJ (5,s) R
 |two {c d:UInt8} {R:List UInt8} {s:ByteArray}:s.data.toList=[c,d]->uK c d=true->xJ (6,s) R
 |one {c:UInt8} {R:List UInt8} {s:ByteArray}:s.data.toList=[c]->Ge c=true->(∀d R',R=d::R'->uK c d=false)->xJ (6,s) R
def WM {c d:UInt8} (h:uK c d=true):Cw c=true:=by
 have:∀k:Fin 256,Cw (UInt8.ofNat k.val)=false->(UInt8.ofNat k.val==124)=false∧(UInt8.ofNat k.val==61)=false∧(UInt8.ofNat k.val==60)=false∧(UInt8.ofNat k.val==33)=false∧(UInt8.ofNat k.val==62)=false:=by decide+kernel
 have e:=this ⟨c.toNat,c.toNat_lt⟩;simp only[xU] at e;cases hs:Cw c with
 |true=>rfl
 |false=>
  obtain⟨e1,e2,e3,e4,e5⟩:=e hs;simp[uK,e1,e2,e3,e4,e5] at h
def mV (s:ByteArray):ByteArray.mk s.data.toList.toArray=s:=by cases s;rfl
def AU {t:Tk} (ht:xJ t R) (h:dT x n (dK t++R)):tF x (n:Int)=some (aP.mk t.1 (n:Int) t.2,((n+(dK t).length:Nat):Int),true)∧0<(dK t).length:=by
 cases ht with
 |word e hc ha _ h1 h2=>
  rename_i c a s _;have eb:dK (1,s)=c::a:=e;rw[eb] at h ⊢;refine⟨?_,by simp⟩;rw[SW h hc ha h1 h2,<-e,mV]
 |int e ha h1 h2=>
  rename_i c a s;have eb:dK (2,s)=c::a:=e;rw[eb] at h ⊢;refine⟨?_,by simp⟩;rw[WN h ha h1 h2,<-e,mV]
 |text h1=>
  rename_i s;have eb:dK (3,s)=39::(jS s.data.toList++[39]):=rfl;rw[eb] at h ⊢;refine⟨?_,by simp⟩;rw[SX (s:=s.data.toList) (R:=R) (by simpa using h) h1,mV];simp only[bF,bH,bS,iZ,qS,and_true,true_and];omega
 |Ds=>
  rename_i s;have eb:dK (4,s)=120::39::(iW s.data.toList++[39]):=rfl;rw[eb] at h ⊢;refine⟨?_,by simp⟩;rw[SY (s:=s.data.toList) (R:=R) (by simpa using h),mV];simp only[bF,bH,bS,iZ,qS,and_true,true_and];omega
 |param ha h1=>
  rename_i s;have eb:dK (5,s)=63::s.data.toList:=rfl;rw[eb] at h ⊢;refine⟨?_,by simp⟩;rw[QA (a:=s.data.toList) (R:=R) (by simpa using h) ha h1,mV];simp only[bF,iZ,qS,and_true,true_and];omega
 |two e ht=>
  rename_i c d s;have eb:dK (6,s)=[c,d]:=e;rw[eb] at h ⊢;refine⟨?_,by simp⟩;rw[CJ (c:=c) (a:=[d]) h (WM ht) (TI (R:=R) h ht) (by simp),<-e,mV]
 |one e ht hf=>
  rename_i c s;have eb:dK (6,s)=[c]:=e;rw[eb] at h ⊢;refine⟨?_,by simp⟩;rw[CJ (c:=c) (a:=[]) h (by simp[Cw,ht]) (TJ (R:=R) h ht hf) (by simp),<-e,mV]
abbrev Pc:=Bool×Tk
def kC:Pc->List UInt8
 |(b,t)=>if b then 32::dK t else dK t
def aG (P:List Pc):List UInt8:=P.flatMap kC
def fL:List Pc->List UInt8->Prop
 |[],R=>True
 |(_,t)::P,R=>xJ t (aG P++R)∧qD (dK t++(aG P++R))=true∧fL P R
def yE (q:Pc) (P:List Pc):aG (q::P)=kC q++aG P:=rfl
def dQ (P Q:List Pc):aG (P++Q)=aG P++aG Q:=List.flatMap_append ..
def fL.app {Q:List Pc}:∀{P:List Pc},fL P (aG Q++R)->fL Q R->fL (P++Q) R
 |[],_,hq=>hq
 |(_,t)::P,hp,hq=>by
  refine⟨?_,?_,fL.app hp.2.2 hq⟩
  ·show xJ t (aG (P++Q)++R);rw[dQ,fS];exact hp.1
  ·show qD (dK t++(aG (P++Q)++R))=true;rw[dQ,fS];exact hp.2.1
def XA:∀(P:List Pc) (b:Bool) (t:Tk) (n m:Nat),fL ((b,t)::P) []->P.length+1<m->dT x n (dK t++aG P)->
 ∃L,vD x m (n:Int)=some (L,none)∧(L.map Prod.snd).map tkR=t::P.map Prod.snd:=by
 intro P
 induction P with
 |nil=>
  intro b t n m hg hm h;obtain⟨m,rfl⟩:∃k,m=k+2:=⟨m-2,by simp at hm;omega⟩;have h':dT x n (dK t++[]):=h;obtain⟨h1,h0⟩:=AU (R:=[]) (by simpa[aG] using hg.1) h';have hn:=h'.app;have hlt:n<x.size:=by have:=hn.nil;omega
  refine⟨[(((n+(dK t).length:Nat):Int),aP.mk t.1 (n:Int) t.2)],?_,rfl⟩;have hz:=hn.nil;unfold vD;rw[show decide ((n:Int)<(x.size:Int))=true by simp;omega,bL,h1,aN,bL,Te hn rfl,aN];unfold vD;rw[show decide (((n+(dK t).length:Nat):Int)<(x.size:Int))=false by simp;omega,aQ,aN]
 |cons q P ih=>
  intro b t n m hg hm h;obtain⟨b',t'⟩:=q;obtain⟨m,rfl⟩:∃k,m=k+1:=⟨m-1,by simp at hm;omega⟩;obtain⟨h1,h0⟩:=AU (R:=aG ((b',t')::P)) (by simpa using hg.1) h;have hn:=h.app;have hlt:n<x.size:=by have:=h.len;simp only[bH] at this;omega
  have hg2:=hg.2.2;have hst:qD (dK t'++aG P)=true:=by simpa using hg2.2.1
  have key:∃j:Nat,uM x ((n+(dK t).length:Nat):Int)=some (j:Int)∧dT x j (dK t'++aG P):=by
   cases b' with
   |false=>exact⟨_,Te hn hst,hn⟩
   |true=>exact⟨_,u0 hn hst,hn.next⟩
  obtain⟨j,hj,hF⟩:=key;obtain⟨L,hL,hT⟩:=ih b' t' j m hg2 (by simp at hm;omega) hF;refine⟨(((n+(dK t).length:Nat):Int),aP.mk t.1 (n:Int) t.2)::L,?_,by simp only[dG,hT];rfl⟩;unfold vD;rw[show decide ((n:Int)<(x.size:Int))=true by simp;omega,bL,h1,aN,bL,hj,aN,hL,aN]
def DF:∀{P:List Pc},fL P R->∀t∈P.map Prod.snd,t.1=1->∃r,kA t.2=some r
 |[],_,t,ht,_=>by cases ht
 |(_,u)::P,hg,t,ht,h1=>by
  rcases oR.1 ht with rfl|ht
  ·cases hg.1 with
   |word _ _ _ h=>exact h
   |int=>cases h1
   |text=>cases h1
   |Ds=>cases h1
   |param=>cases h1
   |two=>cases h1
   |one=>cases h1
  ·exact DF hg.2.2 t ht h1
def Eh:∀{P:List Pc},fL P R->P.length<=(aG P).length
 |[],_=>dS _
 |(b,t)::P,hg=>by
  have:=Eh hg.2.2;have h0:0<(dK t).length:=by
   cases hg.1 with
   |word e=>rw[show dK (1,_)=_ from e];simp
   |int e=>rw[show dK (2,_)=_ from e];simp
   |text=>simp[dK]
   |Ds=>simp[dK]
   |param=>simp[dK]
   |two e=>rw[show dK (6,_)=_ from e];simp
   |one e=>rw[show dK (6,_)=_ from e];simp
  rw[yE,bH,bF];have:(dK t).length<=(kC (b,t)).length:=by cases b<;>simp[kC]
  omega
def QJ {b:Bool} {t:Tk} {P:List Pc} (hg:fL ((false,t)::P) []) (hx:x.data.toList=aG ((false,t)::P)) (hs:x.size<=2000):
 ∃l,Lc x=some (l,0,0)∧At l 0 (t::P.map Prod.snd):=by
 have hF:dT x 0 (dK t++aG P):=⟨by rw[kG];exact hx,kK _,hs⟩;have hst:qD (dK t++aG P)=true:=by simpa using hg.2.1
 have hlen:=Eh hg;rw[<-hx,lO,bF] at hlen;obtain⟨L,hL,hT⟩:=XA P false t 0 5000 hg (by omega) hF;refine⟨L.map Prod.snd,?_,?_,kK _,?_,?_⟩
 ·unfold Lc;rw[show decide ((x.size:Int)>2000)=false by simp;omega,aQ];have:=Te hF hst;rw[show((0:Nat):Int)=0 from rfl] at this hL;rw[this,aN,hL,aN]
 ·rw[kG];exact hT
 ·have:=congrArg List.length hT;simp only[gI,bF] at this;rw[gI];omega
 ·intro u hu hk;have:tkR u∈t::P.map Prod.snd:=by rw[<-hT];exact List.mem_map_of_mem hu
  exact DF hg (tkR u) (by simpa using this) hk
end
section
variable {l:List aP} {i N M:Nat} {T T' T1 T2 T3 T4:List Tk} {p p' p1 p2 p3 p4:Int}
def aZ {α:Type} (f:bD->nF α) (N:Nat) (T:List Tk) (p:Int) (v:α) (T':List Tk) (p':Int):Prop:=
 ∀n,N<=n->fP (f (bD.fix n)) T p v T' p'
def aZ.le {α:Type} {f:bD->nF α} {v:α} (h:aZ f N T p v T' p') (hm:N<=M):aZ f M T p v T' p':=fun n hn=>h n (by omega)
def aZ.succ {α:Type} {f:bD->nF α} {b:bD->nF α} {v:α} (hb:∀n,f (bD.fix (n+1))=b (bD.fix n)) (h:∀n,N<=n->fP (b (bD.fix n)) T p v T' p'):aZ f (N+1) T p v T' p':=fun n hn=>by
 obtain⟨m,rfl⟩:∃m,n=m+1:=⟨n-1,by omega⟩;rw[hb m];exact h m (by omega)
def Wf {α:Type} {f g:nF α} {v:α} (hg:∀m,g m=bK (f m) (fun q2=>(q2.1,q2.2)) fun y1=>some (PX.ok (y1.1,y1.2))) (h:fP f T p v T' p'):fP g T p v T' p':=by
 intro l i hA;obtain⟨j,hj,e⟩:=h l i hA;exact⟨j,hj,by rw[hg,e];rfl⟩
def IZ {up mid below:bD->nF aA} {op:ByteArray} {a:aA} (hu:∀n m,up (bD.fix (n+1)) m=bK (mid (bD.fix n) m) (fun q2=>(q2.1,q2.2)) fun y1=>some (PX.ok (y1.1,y1.2)))
 (hm:∀n,mid (bD.fix (n+1))=Ag op (below (bD.fix n))) (h:∀n,N<=n->fP (Ag op (below (bD.fix n))) T p a T' p'):aZ up (N+2) T p a T' p':=fun n hn=>by
 obtain⟨m,rfl⟩:∃m,n=m+1+1:=⟨n-2,by omega⟩;exact Wf (hu (m+1)) (by rw[hm m];exact h m (by omega))
def Eg {up mid below:bD->nF aA} {op:ByteArray} {a:aA} (hu:∀n m,up (bD.fix (n+1)) m=bK (mid (bD.fix n) m) (fun q2=>(q2.1,q2.2)) fun y1=>some (PX.ok (y1.1,y1.2)))
 (hm:∀n,mid (bD.fix (n+1))=Ag op (below (bD.fix n))) (h:aZ below N T p a T' p') (hs:(fQ op T').2=0):aZ up (N+2) T p a T' p':=IZ hu hm fun n hn=>OU (h n hn) hs
def Em {up mid below:bD->nF aA} {op:ByteArray} {x:Tk} {a b:aA} {o:Int} (hu:∀n m,up (bD.fix (n+1)) m=bK (mid (bD.fix n) m) (fun q2=>(q2.1,q2.2)) fun y1=>some (PX.ok (y1.1,y1.2)))
 (hm:∀n,mid (bD.fix (n+1))=Ag op (below (bD.fix n))) (ha:aZ below N T p a (x::T1) p1) (ho:fQ op (x::T1)=(o,1)) (hb:aZ below N T1 p1 b T2 p2) (hs:(fQ op T2).2=0):aZ up (N+2) T p (sA o a b) T2 p2:=
 IZ hu hm fun n hn=>RO (ha n hn) ho (hb n hn) hs
def Yy {a:aA} (h:aZ (·.p215_1) N T p a T' p') (hs:(fQ vH T').2=0):aZ (·.p209_1) (N+2) T p a T' p':=Eg (mid:=fun F=>F.p42_7 vH) (fun _ _=>rfl) (fun _=>rfl) h hs
def Ym {a:aA} (h:aZ (·.p209_1) N T p a T' p') (hs:(fQ vG T').2=0):aZ (·.p198_1) (N+2) T p a T' p':=Eg (mid:=fun F=>F.p42_6 vG) (fun _ _=>rfl) (fun _=>rfl) h hs
def AS {a:aA} (h:aZ (·.p198_1) N T p a T' p') (hs:(fQ wG T').2=0):aZ (·.p184_1) (N+2) T p a T' p':=Eg (mid:=fun F=>F.p42_5 wG) (fun _ _=>rfl) (fun _=>rfl) h hs
def Zy {a:aA} (h:aZ (·.p184_1) N T p a T' p') (hs:(fQ vR T').2=0):aZ (·.p161_1) (N+2) T p a T' p':=Eg (mid:=fun F=>F.p42_4 vR) (fun _ _=>rfl) (fun _=>rfl) h hs
def CD {a:aA} (h:aZ (·.p79_1) N T p a T' p') (hs:(fQ wH T').2=0):aZ (·.p43_1) (N+2) T p a T' p':=Eg (mid:=fun F=>F.p42_3 wH) (fun _ _=>rfl) (fun _=>rfl) h hs
def CU {a:aA} (h:aZ (·.p43_1) N T p a T' p') (hs:(fQ xO T').2=0):aZ (·.p15_1) (N+2) T p a T' p':=Eg (mid:=fun F=>F.p42_2 xO) (fun _ _=>rfl) (fun _=>rfl) h hs
def SK {x:Tk} {a b:aA} {o:Int} (ha:aZ (·.p215_1) N T p a (x::T1) p1) (ho:fQ vH (x::T1)=(o,1)) (hb:aZ (·.p215_1) N T1 p1 b T2 p2) (hs:(fQ vH T2).2=0):aZ (·.p209_1) (N+2) T p (sA o a b) T2 p2:=Em (mid:=fun F=>F.p42_7 vH) (fun _ _=>rfl) (fun _=>rfl) ha ho hb hs
def QB {x:Tk} {a b:aA} {o:Int} (ha:aZ (·.p209_1) N T p a (x::T1) p1) (ho:fQ vG (x::T1)=(o,1)) (hb:aZ (·.p209_1) N T1 p1 b T2 p2) (hs:(fQ vG T2).2=0):aZ (·.p198_1) (N+2) T p (sA o a b) T2 p2:=Em (mid:=fun F=>F.p42_6 vG) (fun _ _=>rfl) (fun _=>rfl) ha ho hb hs
def WX {x:Tk} {a b:aA} {o:Int} (ha:aZ (·.p198_1) N T p a (x::T1) p1) (ho:fQ wG (x::T1)=(o,1)) (hb:aZ (·.p198_1) N T1 p1 b T2 p2) (hs:(fQ wG T2).2=0):aZ (·.p184_1) (N+2) T p (sA o a b) T2 p2:=Em (mid:=fun F=>F.p42_5 wG) (fun _ _=>rfl) (fun _=>rfl) ha ho hb hs
def VB {x:Tk} {a b:aA} {o:Int} (ha:aZ (·.p184_1) N T p a (x::T1) p1) (ho:fQ vR (x::T1)=(o,1)) (hb:aZ (·.p184_1) N T1 p1 b T2 p2) (hs:(fQ vR T2).2=0):aZ (·.p161_1) (N+2) T p (sA o a b) T2 p2:=Em (mid:=fun F=>F.p42_4 vR) (fun _ _=>rfl) (fun _=>rfl) ha ho hb hs
def g9 {x:Tk} {a b:aA} {o:Int} (ha:aZ (·.p79_1) N T p a (x::T1) p1) (ho:fQ wH (x::T1)=(o,1)) (hb:aZ (·.p79_1) N T1 p1 b T2 p2) (hs:(fQ wH T2).2=0):aZ (·.p43_1) (N+2) T p (sA o a b) T2 p2:=Em (mid:=fun F=>F.p42_3 wH) (fun _ _=>rfl) (fun _=>rfl) ha ho hb hs
def aAu {x:Tk} {a b:aA} {o:Int} (ha:aZ (·.p43_1) N T p a (x::T1) p1) (ho:fQ xO (x::T1)=(o,1)) (hb:aZ (·.p43_1) N T1 p1 b T2 p2) (hs:(fQ xO T2).2=0):aZ (·.p15_1) (N+2) T p (sA o a b) T2 p2:=Em (mid:=fun F=>F.p42_2 xO) (fun _ _=>rfl) (fun _=>rfl) ha ho hb hs
end
section
variable {l:List aP} {i N M:Nat} {T T' T1 T2 T3 T4:List Tk} {p p' p1 p2 p3 p4:Int} {F:bD}
abbrev jM:ByteArray:=bm #[73,83]
abbrev cN:ByteArray:=bm #[78,79,84]
abbrev jZ:ByteArray:=bm #[76,73,75,69]
abbrev kY:ByteArray:=bm #[71,76,79,66]
abbrev jG:ByteArray:=bm #[66,69,84,87,69,69,78]
abbrev jN:ByteArray:=bm #[73,78]
abbrev eG:ByteArray:=bm #[69,88,73,83,84,83]
abbrev pM:ByteArray:=bm #[67,79,76,76,65,84,69]
abbrev rW:List ByteArray:=[(bm #[61]),(bm #[61,61]),(bm #[60,62]),(bm #[33,61])]
abbrev Pj:List ByteArray:=[(bm #[60,62]),(bm #[33,61])]
structure Na (T:List Tk):Prop where
 eq:cQ T rW=false
 is:aT T jM=false
 not:aT T cN=false
 like:aT T jZ=false
 glob:aT T kY=false
 between:aT T jG=false
 in_:aT T jN=false
abbrev zE:aA:=aA.mk 0 false bO bO 0 (aH.mk 0 0 bO) ([]:List aA) ([]:List aF)
def qW (F:bD):(aA×aD×aA->Option (PX (Int×aD) (aA×aD)))->aA×aD×aA->Option (PX (Int×aD) (aA×aD)):=fun u8 q7=>(call (sW ([(bm #[61]),(bm #[61,61]),(bm #[60,62]),(bm #[33,61])]) q7.2.1) fun y10=>(aE y10.1 (join (fun(u16:Int×aD×aA->Option (PX (Int×aD) (aA×aD)))=>(call (sW ([(bm #[60,62]),(bm #[33,61])]) y10.2) fun y17=>(aE y17.1 (u16 (14,y17.2,q7.2.2)) (u16 (13,y17.2,q7.2.2))))) (fun(q15:Int×aD×aA)=>(bK (F.p162_1 q15.1 false q15.2.2 (aD.mk q15.2.1.l (i64.wrap (q15.2.1.at_+1)) q15.2.1.params)) (fun q20=>(q20.1,q20.2.2)) fun y19=>(u8 (q7.1,y19.2,y19.1))))) (call (cE (bm #[73,83]) y10.2) fun y22=>(aE y22.1 (join (fun(u28:Int×aD×aA->Option (PX (Int×aD) (aA×aD)))=>(call (cE (bm #[78,79,84]) y22.2) fun y29=>(aE y29.1 (u28 (20,y29.2,q7.2.2)) (u28 (19,y29.2,q7.2.2))))) (fun(q27:Int×aD×aA)=>(bK (F.p162_1 q27.1 false q27.2.2 q27.2.1) (fun q32=>(q32.1,q32.2.2)) fun y31=>(u8 (q7.1,y31.2,y31.1))))) (call (cE (bm #[78,79,84]) y22.2) fun y33=>(call (cE (bm #[76,73,75,69]) y33.2) fun y34=>(aE y34.1 (bK (F.p162_1 23 y33.1 q7.2.2 y34.2) (fun q37=>(q37.1,q37.2.2)) fun y36=>(u8 (q7.1,y36.2,y36.1))) (call (cE (bm #[71,76,79,66]) y34.2) fun y38=>(aE y38.1 (bK (F.p162_1 24 y33.1 q7.2.2 y38.2) (fun q41=>(q41.1,q41.2.2)) fun y40=>(u8 (q7.1,y40.2,y40.1))) (call (cE (bm #[66,69,84,87,69,69,78]) y38.2) fun y42=>(aE y42.1 (bK (F.p161_1 y42.2) (fun q45=>(q45.1,q45.2)) fun y44=>(bK (fE (bm #[65,78,68]) y44.2) (fun q47=>(q47.1,q47.2)) fun y46=>(bK (F.p161_1 y46) (fun q51=>(q51.1,q51.2)) fun y50=>(u8 (q7.1,y50.2,(aA.mk 25 y33.1 bO bO 0 (aH.mk 0 0 bO) ([q7.2.2,y44.1,y50.1]) ([]:List aF))))))) (call (cE (bm #[73,78]) y42.2) fun y52=>(aE y52.1 (bK (F.p163_1 q7.2.2 y33.1 y52.2) (fun q55=>(q55.1,q55.2)) fun y54=>(u8 (q7.1,y54.2,y54.1))) (aE y33.1 (bK (uD y52.2) (fun q58=>(q58.1,q58.2)) fun y57=>(u8 (q7.1,y57,q7.2.2))) (some (PX.ok (q7.2.2,y52.2)))))))))))))))))
def DN (F:bD) (m:aD):Ew F m=bK (F.p161_1 m) (fun q2=>(q2.1,q2.2)) fun y1=>cF (qW F) bQ (zE,y1.2,y1.1):=rfl
def Ye {z e:aA} {u} (hA:At l i T) (hs:Na T):qW F u (z,aD.mk l (i:Int) p,e)=some (.ok (e,aD.mk l (i:Int) p)):=by
 unfold qW;dsimp only;rw[mU hA _ (by decide),aN];dsimp only;rw[show cQ T _=false from hs.eq,aQ,dM hA hs.is,aN];dsimp only;rw[aQ,dM hA hs.not,aN];dsimp only;rw[dM hA hs.like,aN];dsimp only;rw[aQ,dM hA hs.glob,aN];dsimp only;rw[aQ,dM hA hs.between,aN];dsimp only;rw[aQ,dM hA hs.in_,aN];rfl
def Zj {v:aA} (hB:aZ (·.p161_1) N T p v T' p') (hs:Na T'):aZ (·.p119_1) (N+1) T p v T' p':=aZ.succ (b:=Ew) (fun _=>rfl) fun n hn=>by
 intro l i hA;obtain⟨j,hj,e⟩:=hB n hn l i hA
 try dsimp only at e
 refine⟨j,hj,?_⟩;rw[DN,e,cH,Ov,eX];exact Ye hj hs
def qH (N:Nat) (T:List Tk) (p:Int) (a v:aA) (T':List Tk) (p':Int):Prop:=
 ∀n,N<=n->∀l i z,At l i T->∃j:Nat,At l j T'∧∀u,qW (bD.fix n) u (z,aD.mk l (i:Int) p,a)=u (z,aD.mk l (j:Int) p',v)
def NV {a v:aA} (hB:aZ (·.p161_1) N T p a T1 p1) (hr:qH N T1 p1 a v T2 p2) (hs:Na T2):aZ (·.p119_1) (N+1) T p v T2 p2:=aZ.succ (b:=Ew) (fun _=>rfl) fun n hn=>by
 intro l i hA;obtain⟨j,hj,e⟩:=hB n hn l i hA
 try dsimp only at e
 obtain⟨k,hk,e2⟩:=hr n hn l j zE hj
 try dsimp only at e2
 refine⟨k,hk,?_⟩;rw[DN,e,cH,Ou,eX,e2,eX];exact Ye hk hs
def pS (o:Int) (n:Bool) (a b:aA):aA:=aA.mk o n bO bO 0 (aH.mk 0 0 bO) ([a,b]) ([]:List aF)
def Cg {o:Int} {n:Bool} {a b:aA} (hb:aZ (·.p161_1) N T p b T' p'):∀m,N+1<=m->∀l i,At l i T->∃j:Nat,At l j T'∧(bD.fix m).p162_1 o n a (aD.mk l (i:Int) p)=some (.ok (pS o n a b,aD.mk l (j:Int) p')):=fun m hm l i hA=>by
 obtain⟨k,rfl⟩:∃k,m=k+1:=⟨m-1,by omega⟩;obtain⟨j,hj,e⟩:=hb k (by omega) l i hA
 try dsimp only at e
 refine⟨j,hj,?_⟩;show Jd (bD.fix k) o n a _=_;unfold Jd;rw[e];rfl
def NZ {x:Tk} {a b:aA} {o:Int} (he:cQ (x::T1) rW=true) (ho:(if cQ (x::T1) Pj=true then 14 else 13)=o) (hb:aZ (·.p161_1) N T1 p b T2 p2):qH (N+1) (x::T1) p a (pS o false a b) T2 p2:=by
 intro n hn l i z hA;obtain⟨j,hj,e⟩:=Cg (o:=o) (n:=false) (a:=a) hb n hn l (i+1) hA.next
 try dsimp only at e
 refine⟨j,hj,fun u=>?_⟩;unfold qW;dsimp only;rw[mU hA _ (by decide),aN];dsimp only;rw[show cQ (x::T1) _=true from he,bL,bY,mU hA _ (by decide),aN];dsimp only;rw[show cQ (x::T1) [(bm #[60,62]),(bm #[33,61])]=cQ (x::T1) Pj from rfl];cases hh:cQ (x::T1) Pj with
 |true=>rw[hh,if_pos rfl] at ho;subst ho;rw[bL,tQ hA,e,cH]
 |false=>rw[hh,if_neg (by decide)] at ho;subst ho;rw[aQ,tQ hA,e,cH]
def TS {x:Tk} {a b:aA} (h0:cQ (x::T1) rW=false) (he:aT (x::T1) jM=true) (hn:aT T1 cN=false) (hb:aZ (·.p161_1) N T1 p b T2 p2):qH (N+1) (x::T1) p a (pS 19 false a b) T2 p2:=by
 intro n hn' l i z hA;obtain⟨j,hj,e⟩:=Cg (o:=19) (n:=false) (a:=a) hb n hn' l (i+1) hA.next
 try dsimp only at e
 refine⟨j,hj,fun u=>?_⟩;unfold qW;dsimp only;rw[mU hA _ (by decide),aN];dsimp only;rw[show cQ (x::T1) _=false from h0,aQ,fU hA he,aN];dsimp only;rw[bL,bY,dM hA.next hn,aN];dsimp only;rw[aQ,e,cH]
def ML {x y:Tk} {a b:aA} (h0:cQ (x::y::T1) rW=false) (he:aT (x::y::T1) jM=true) (hn:aT (y::T1) cN=true) (hb:aZ (·.p161_1) N T1 p b T2 p2):qH (N+1) (x::y::T1) p a (pS 20 false a b) T2 p2:=by
 intro n hn' l i z hA;obtain⟨j,hj,e⟩:=Cg (o:=20) (n:=false) (a:=a) hb n hn' l (i+1+1) hA.next.next
 try dsimp only at e
 refine⟨j,hj,fun u=>?_⟩;unfold qW;dsimp only;rw[mU hA _ (by decide),aN];dsimp only;rw[show cQ (x::y::T1) _=false from h0,aQ,fU hA he,aN];dsimp only;rw[bL,bY,fU hA.next hn,aN];dsimp only;rw[bL,e,cH]
def OA {x:Tk} {a b:aA} (h0:cQ (x::T1) rW=false) (h1:aT (x::T1) jM=false) (h2:aT (x::T1) cN=false) (hw:aT (x::T1) jZ=true) (hb:aZ (·.p161_1) N T1 p b T2 p2):qH (N+1) (x::T1) p a (pS 23 false a b) T2 p2:=by
 intro n hn' l i z hA;obtain⟨j,hj,e⟩:=Cg (o:=23) (n:=false) (a:=a) hb n hn' l (i+1) hA.next
 try dsimp only at e
 refine⟨j,hj,fun u=>?_⟩;unfold qW;dsimp only;rw[mU hA _ (by decide),aN];dsimp only;rw[show cQ (x::T1) _=false from h0,aQ,dM hA h1,aN];dsimp only;rw[aQ,dM hA h2,aN];dsimp only;rw[fU hA hw,aN];dsimp only;rw[bL,e,cH]
def OB {x:Tk} {a b:aA} (h0:cQ (x::T1) rW=false) (h1:aT (x::T1) jM=false) (h2:aT (x::T1) cN=false) (g0:aT (x::T1) jZ=false) (hw:aT (x::T1) kY=true) (hb:aZ (·.p161_1) N T1 p b T2 p2):qH (N+1) (x::T1) p a (pS 24 false a b) T2 p2:=by
 intro n hn' l i z hA;obtain⟨j,hj,e⟩:=Cg (o:=24) (n:=false) (a:=a) hb n hn' l (i+1) hA.next
 try dsimp only at e
 refine⟨j,hj,fun u=>?_⟩;unfold qW;dsimp only;rw[mU hA _ (by decide),aN];dsimp only;rw[show cQ (x::T1) _=false from h0,aQ,dM hA h1,aN];dsimp only;rw[aQ,dM hA h2,aN];dsimp only;rw[dM hA g0,aN];dsimp only;rw[aQ];rw[fU hA hw,aN];dsimp only;rw[bL,e,cH]
def LN {x:Tk} {v:Tk} {a b c:aA} (h0:cQ (x::T1) rW=false) (h1:aT (x::T1) jM=false) (h2:aT (x::T1) cN=false) (g0:aT (x::T1) jZ=false) (g1:aT (x::T1) kY=false) (hw:aT (x::T1) jG=true) (hb:aZ (·.p161_1) N T1 p b (v::T2) p2) (hv:aT (v::T2) jB=true) (hc:aZ (·.p161_1) N T2 p2 c T3 p3):qH N (x::T1) p a (aA.mk 25 false bO bO 0 (aH.mk 0 0 bO) ([a,b,c]) []) T3 p3:=by
 intro n hn' l i z hA;obtain⟨j,hj,e⟩:=hb n hn' l (i+1) hA.next
 try dsimp only at e
 obtain⟨k,hk,e2⟩:=hc n hn' l (j+1) hj.next
 try dsimp only at e2
 refine⟨k,hk,fun u=>?_⟩;unfold qW;dsimp only;rw[mU hA _ (by decide),aN];dsimp only;rw[show cQ (x::T1) _=false from h0,aQ,dM hA h1,aN];dsimp only;rw[aQ,dM hA h2,aN];dsimp only;rw[dM hA g0,aN];dsimp only;rw[aQ,dM hA g1,aN];dsimp only;rw[aQ];rw[fU hA hw,aN];dsimp only;rw[bL,e,cH];dsimp only;rw[show fE _ _=_ from oE hj hv,cH,e2,cH]
def TT {x:Tk} {a v:aA} (h0:cQ (x::T1) rW=false) (h1:aT (x::T1) jM=false) (h2:aT (x::T1) cN=false) (g0:aT (x::T1) jZ=false) (g1:aT (x::T1) kY=false) (g2:aT (x::T1) jG=false) (hw:aT (x::T1) jN=true) (hb:aZ (fun F=>F.p163_1 a false) N T1 p v T2 p2):qH N (x::T1) p a v T2 p2:=by
 intro n hn' l i z hA;obtain⟨j,hj,e⟩:=hb n hn' l (i+1) hA.next
 try dsimp only at e
 refine⟨j,hj,fun u=>?_⟩;unfold qW;dsimp only;rw[mU hA _ (by decide),aN];dsimp only;rw[show cQ (x::T1) _=false from h0,aQ,dM hA h1,aN];dsimp only;rw[aQ,dM hA h2,aN];dsimp only;rw[dM hA g0,aN];dsimp only;rw[aQ,dM hA g1,aN];dsimp only;rw[aQ];rw[dM hA g2,aN];dsimp only;rw[aQ,fU hA hw,aN];dsimp only;rw[bL,e,cH]
def LA {x y:Tk} {a b:aA} (h0:cQ (x::y::T1) rW=false) (h1:aT (x::y::T1) jM=false) (h2:aT (x::y::T1) cN=true) (hw:aT (y::T1) jZ=true) (hb:aZ (·.p161_1) N T1 p b T2 p2):qH (N+1) (x::y::T1) p a (pS 23 true a b) T2 p2:=by
 intro n hn' l i z hA;obtain⟨j,hj,e⟩:=Cg (o:=23) (n:=true) (a:=a) hb n hn' l (i+1+1) hA.next.next
 try dsimp only at e
 refine⟨j,hj,fun u=>?_⟩;unfold qW;dsimp only;rw[mU hA _ (by decide),aN];dsimp only;rw[show cQ (x::y::T1) _=false from h0,aQ,dM hA h1,aN];dsimp only;rw[aQ,fU hA h2,aN];dsimp only;rw[fU hA.next hw,aN];dsimp only;rw[bL,e,cH]
def LD {x y:Tk} {a b:aA} (h0:cQ (x::y::T1) rW=false) (h1:aT (x::y::T1) jM=false) (h2:aT (x::y::T1) cN=true) (g0:aT (y::T1) jZ=false) (hw:aT (y::T1) kY=true) (hb:aZ (·.p161_1) N T1 p b T2 p2):qH (N+1) (x::y::T1) p a (pS 24 true a b) T2 p2:=by
 intro n hn' l i z hA;obtain⟨j,hj,e⟩:=Cg (o:=24) (n:=true) (a:=a) hb n hn' l (i+1+1) hA.next.next
 try dsimp only at e
 refine⟨j,hj,fun u=>?_⟩;unfold qW;dsimp only;rw[mU hA _ (by decide),aN];dsimp only;rw[show cQ (x::y::T1) _=false from h0,aQ,dM hA h1,aN];dsimp only;rw[aQ,fU hA h2,aN];dsimp only;rw[dM hA.next g0,aN];dsimp only;rw[aQ];rw[fU hA.next hw,aN];dsimp only;rw[bL,e,cH]
def KR {x y:Tk} {v:Tk} {a b c:aA} (h0:cQ (x::y::T1) rW=false) (h1:aT (x::y::T1) jM=false) (h2:aT (x::y::T1) cN=true) (g0:aT (y::T1) jZ=false) (g1:aT (y::T1) kY=false) (hw:aT (y::T1) jG=true) (hb:aZ (·.p161_1) N T1 p b (v::T2) p2) (hv:aT (v::T2) jB=true) (hc:aZ (·.p161_1) N T2 p2 c T3 p3):qH N (x::y::T1) p a (aA.mk 25 true bO bO 0 (aH.mk 0 0 bO) ([a,b,c]) []) T3 p3:=by
 intro n hn' l i z hA;obtain⟨j,hj,e⟩:=hb n hn' l (i+1+1) hA.next.next
 try dsimp only at e
 obtain⟨k,hk,e2⟩:=hc n hn' l (j+1) hj.next
 try dsimp only at e2
 refine⟨k,hk,fun u=>?_⟩;unfold qW;dsimp only;rw[mU hA _ (by decide),aN];dsimp only;rw[show cQ (x::y::T1) _=false from h0,aQ,dM hA h1,aN];dsimp only;rw[aQ,fU hA h2,aN];dsimp only;rw[dM hA.next g0,aN];dsimp only;rw[aQ,dM hA.next g1,aN];dsimp only;rw[aQ];rw[fU hA.next hw,aN];dsimp only;rw[bL,e,cH];dsimp only;rw[show fE _ _=_ from oE hj hv,cH,e2,cH]
def LZ {x y:Tk} {a v:aA} (h0:cQ (x::y::T1) rW=false) (h1:aT (x::y::T1) jM=false) (h2:aT (x::y::T1) cN=true) (g0:aT (y::T1) jZ=false) (g1:aT (y::T1) kY=false) (g2:aT (y::T1) jG=false) (hw:aT (y::T1) jN=true) (hb:aZ (fun F=>F.p163_1 a true) N T1 p v T2 p2):qH N (x::y::T1) p a v T2 p2:=by
 intro n hn' l i z hA;obtain⟨j,hj,e⟩:=hb n hn' l (i+1+1) hA.next.next
 try dsimp only at e
 refine⟨j,hj,fun u=>?_⟩;unfold qW;dsimp only;rw[mU hA _ (by decide),aN];dsimp only;rw[show cQ (x::y::T1) _=false from h0,aQ,dM hA h1,aN];dsimp only;rw[aQ,fU hA h2,aN];dsimp only;rw[dM hA.next g0,aN];dsimp only;rw[aQ,dM hA.next g1,aN];dsimp only;rw[aQ];rw[dM hA.next g2,aN];dsimp only;rw[aQ,fU hA.next hw,aN];dsimp only;rw[bL,e,cH]
def BG {v:aA} (h:aZ (·.p119_1) N T p v T' p') (h0:aT T cN=false):aZ (·.p79_1) (N+1) T p v T' p':=aZ.succ (b:=yX) (fun _=>rfl) fun n hn=>by
 intro l i hA;obtain⟨j,hj,e⟩:=h n hn l i hA
 try dsimp only at e
 refine⟨j,hj,?_⟩;unfold yX;rw[bY,lT hA,aN];dsimp only;rw[show((gC T).data.toList==(bm #[78,79,84]).data.toList)=false from h0,aQ]
 try dsimp only
 rw[aQ,dM hA h0,aN];dsimp only;rw[aQ,e];rfl
def CW {x:Tk} {v:aA} (h:aZ (·.p79_1) N T p v T' p') (h0:aT (x::T) cN=true) (h1:aT T eG=false):aZ (·.p79_1) (N+1) (x::T) p (aA.mk 6 false bO bO 0 zV [v] []) T' p':=aZ.succ (b:=yX) (fun _=>rfl) fun n hn=>by
 intro l i hA;obtain⟨j,hj,e⟩:=h n hn l (i+1) hA.next
 try dsimp only at e
 refine⟨j,hj,?_⟩;unfold yX;rw[bY,lT hA,aN];dsimp only;rw[show((gC (x::T)).data.toList==(bm #[78,79,84]).data.toList)=true from h0,bL,AV hA,aN];dsimp only;rw[show((gC T).data.toList==(bm #[69,88,73,83,84,83]).data.toList)=false from h1,aQ,fU hA h0,aN];dsimp only;rw[bL,e];rfl
def OM {x:Tk} {v:aA} (h:aZ (·.p118_1) N T p v T' p') (h0:aT (x::T) cN=true) (h1:aT T eG=true):aZ (·.p79_1) (N+1) (x::T) p (aA.mk v.op true v.table v.name v.n v.v_ v.args v.sub) T' p':=aZ.succ (b:=yX) (fun _=>rfl) fun n hn=>by
 intro l i hA;obtain⟨j,hj,e⟩:=h n hn l (i+1) hA.next
 try dsimp only at e
 refine⟨j,hj,?_⟩;unfold yX;rw[bY,lT hA,aN];dsimp only;rw[show((gC (x::T)).data.toList==(bm #[78,79,84]).data.toList)=true from h0,bL,AV hA,aN];dsimp only;rw[show((gC T).data.toList==(bm #[69,88,73,83,84,83]).data.toList)=true from h1,bL,tQ hA,e];rfl
abbrev sU:ByteArray:=bm #[45]
abbrev uG:ByteArray:=bm #[43]
def l9 {x:Tk} {v:aA} (h:aZ (·.p215_1) N T p v T' p') (h0:cQ (x::T) [sU]=true):aZ (·.p215_1) (N+1) (x::T) p (aA.mk 4 false bO bO 0 zV [v] []) T' p':=aZ.succ (b:=vJ) (fun _=>rfl) fun n hn=>by
 intro l i hA;obtain⟨j,hj,e⟩:=h n hn l (i+1) hA.next
 try dsimp only at e
 refine⟨j,hj,?_⟩;unfold vJ;rw[show eR _ _=_ from wX hA h0,aN];dsimp only;rw[bL,e];rfl
def WJ {x:Tk} {v:aA} (h:aZ (·.p215_1) N T p v T' p') (h0:cQ (x::T) [sU]=false) (h1:cQ (x::T) [uG]=true):aZ (·.p215_1) (N+1) (x::T) p (aA.mk 5 false bO bO 0 zV [v] []) T' p':=aZ.succ (b:=vJ) (fun _=>rfl) fun n hn=>by
 intro l i hA;obtain⟨j,hj,e⟩:=h n hn l (i+1) hA.next
 try dsimp only at e
 refine⟨j,hj,?_⟩;unfold vJ;rw[show eR _ _=_ from oD hA h0,aN];dsimp only;rw[aQ,show eR _ _=_ from wX hA h1,aN];dsimp only;rw[bL,e];rfl
def WK {v:aA} (h:aZ (·.p221_1) N T p v T' p') (h0:cQ T [sU]=false) (h1:cQ T [uG]=false) (h2:aT T' pM=false):aZ (·.p215_1) (N+1) T p v T' p':=aZ.succ (b:=vJ) (fun _=>rfl) fun n hn=>by
 intro l i hA;obtain⟨j,hj,e⟩:=h n hn l i hA
 try dsimp only at e
 refine⟨j,hj,?_⟩;unfold vJ;rw[show eR _ _=_ from oD hA h0,aN];dsimp only;rw[aQ,show eR _ _=_ from oD hA h1,aN];dsimp only;rw[aQ,e,cH,Ov,eX];dsimp only;rw[show cE _ _=_ from dM hj h2,aN];rfl
def DY {L:List ByteArray} {s:ByteArray} (h:At l i ((1,s)::T)) (hs:pT s L=some true):Ep L (aD.mk l (i:Int) p)=some (.ok (s,aD.mk l ((i+1:Nat):Int) p)):=by
 have hl:=h.lt;obtain⟨h1,h2⟩:=h.get;simp only at h1 h2;unfold Ep;simp only[bY];rw[show decide ((i:Int)>=(l.length:Int))=false by simp;omega,aQ,bV (by omega),cZ,h1,show((1:Int) != 1)=false from rfl,aQ,bV (by omega),h2,hs,aN,fM,aQ,Ie h,aN]
def NO {x:Tk} {s:ByteArray} {v:aA} (h:aZ (·.p221_1) N T p v (x::(1,s)::T') p') (h0:cQ T [sU]=false) (h1:cQ T [uG]=false) (h2:aT (x::(1,s)::T') pM=true) (hs:∀L,wA=some L->pT s L=some true) (h3:aT T' pM=false):aZ (·.p215_1) (N+1) T p (aA.mk 31 false bO s 0 zV [v] []) T' p':=aZ.succ (b:=vJ) (fun _=>rfl) fun n hn=>by
 intro l i hA;obtain⟨j,hj,e⟩:=h n hn l i hA
 try dsimp only at e
 refine⟨_,hj.next.next,?_⟩;unfold vJ;rw[show eR _ _=_ from oD hA h0,aN];dsimp only;rw[aQ,show eR _ _=_ from oD hA h1,aN];dsimp only;rw[aQ,e,cH,Ou,eX];dsimp only;rw[show cE _ _=_ from fU hj h2,aN];dsimp only;rw[bL];unfold wA;rw[aN,DY hj.next (hs _ rfl),cH,eX];dsimp only;rw[show cE _ _=_ from dM hj.next.next h3,aN];rfl
end
section
variable {l:List aP} {i N M:Nat} {T T' T1 T2 T3 T4:List Tk} {p p' p1 p2 p3 p4:Int} {F:bD}
abbrev rU:ByteArray:=bm #[78,85,76,76]
abbrev jA:ByteArray:=bm #[67,65,83,69]
abbrev pR:ByteArray:=bm #[67,65,83,84]
abbrev jX:ByteArray:=bm #[82,69,80,76,65,67,69]
abbrev oT:ByteArray:=bm #[83,69,76,69,67,84]
abbrev oA:ByteArray:=bm #[86,65,76,85,69,83]
abbrev cL:ByteArray:=bm #[40]
abbrev cB:ByteArray:=bm #[41]
abbrev iM:ByteArray:=bm #[46]
def Et:List Tk->Bool
 |(k,_)::_=>k != 2&&k != 3&&k != 4
 |[]=>true
def Ic (h:At l i T) (h0:aT T rU=false) (h1:Et T=true):qV (aD.mk l (i:Int) p)=some (zV,false,aD.mk l (i:Int) p):=by
 have hle:=h.le;unfold qV;rw[lT h,aN];dsimp only;rw[show((gC T).data.toList==(bm #[78,85,76,76]).data.toList)=false from h0,aQ];cases T with
 |nil=>
  obtain rfl:=h.nil;simp only[ge_iff_le,Int.le_refl,decide_true,bL]
 |cons x T=>
  obtain⟨k,s⟩:=x;have hl:=h.lt;obtain⟨g1,g2⟩:=h.get;simp only at g1 g2;simp only[Et,dI,bne_iff_ne,ne_eq] at h1;rw[show decide ((i:Int)>=(l.length:Int))=false by simp;omega,aQ,bV (by omega),cZ,g1,show(k==2)=false by simpa using h1.1.1,aQ,show(k==3)=false by simpa using h1.1.2,aQ,show(k==4)=false by simpa using h1.2,aQ]
def De (v:aH):aA:=aA.mk 1 false bO bO 0 v [] []
def YM {x:Tk} {v:aH} (h:∀l i p,At l i (x::T)->qV (aD.mk l (i:Int) p)=some (v,true,aD.mk l (i:Int) p)):aZ (·.p221_1) 1 (x::T) p (De v) T p:=aZ.succ (N:=0) (b:=mX) (fun _=>rfl) fun n hn=>by
 intro l i hA;refine⟨_,hA.next,?_⟩;unfold mX;rw[h l i p hA,aN];dsimp only;rw[bL,tQ hA];rfl
def UX {x:Tk} (h0:aT (x::T) rU=true) (hA:At l i (x::T)):qV (aD.mk l (i:Int) p)=some (zV,true,aD.mk l (i:Int) p):=by
 unfold qV;rw[lT hA,aN];dsimp only;rw[show((gC (x::T)).data.toList==(bm #[78,85,76,76]).data.toList)=true from h0,bL]
def Tr {k:Int} {s:ByteArray} (hk:k≠1):(gC ((k,s)::T))=bm #[]:=by simp only[gC,hk,if_false]
def YX {s:ByteArray} {n:Int} (h:Fw s 10 63=some (n,())) (hA:At l i ((2,s)::T)):qV (aD.mk l (i:Int) p)=some (aH.mk 1 (i64.wrap n) bO,true,aD.mk l (i:Int) p):=by
 have hl:=hA.lt;obtain⟨g1,g2⟩:=hA.get;simp only at g1 g2;unfold qV;rw[lT hA,aN];dsimp only;rw[Tr (by decide),show((bm #[]).data.toList==(bm #[78,85,76,76]).data.toList)=false from rfl,aQ,show decide ((i:Int)>=(l.length:Int))=false by simp;omega,aQ,bV (by omega),cZ,g1,g2,show((2:Int)==2)=true from rfl,bL,h,aN];rfl
def UW {s:ByteArray} {v:aH} (h:Kl s=some (v,0)) (hA:At l i ((3,s)::T)):qV (aD.mk l (i:Int) p)=some (v,true,aD.mk l (i:Int) p):=by
 have hl:=hA.lt;obtain⟨g1,g2⟩:=hA.get;simp only at g1 g2;unfold qV;rw[lT hA,aN];dsimp only;rw[Tr (by decide),show((bm #[]).data.toList==(bm #[78,85,76,76]).data.toList)=false from rfl,aQ,show decide ((i:Int)>=(l.length:Int))=false by simp;omega,aQ,bV (by omega),cZ,g1,g2,wq 3 2 rfl,show((3:Int)==3)=true from rfl,bL,h,aN];rfl
def UZ {s:ByteArray} {v:aH} (h:Kk s=some (v,0)) (hA:At l i ((4,s)::T)):qV (aD.mk l (i:Int) p)=some (v,true,aD.mk l (i:Int) p):=by
 have hl:=hA.lt;obtain⟨g1,g2⟩:=hA.get;simp only at g1 g2;unfold qV;rw[lT hA,aN];dsimp only;rw[Tr (by decide),show((bm #[]).data.toList==(bm #[78,85,76,76]).data.toList)=false from rfl,aQ,show decide ((i:Int)>=(l.length:Int))=false by simp;omega,aQ,bV (by omega),cZ,g1,g2,wq 4 2 rfl,wq 4 3 rfl,show((4:Int)==4)=true from rfl,bL,h,aN];rfl
def OL {x:Tk} {v:aA} (h:aZ (·.p118_1) N (x::T) p v T' p') (h0:aT (x::T) rU=false) (h1:Et (x::T)=true) (h2:aT (x::T) eG=true):aZ (·.p221_1) (N+1) (x::T) p v T' p':=aZ.succ (b:=mX) (fun _=>rfl) fun n hn=>by
 intro l i hA;obtain⟨j,hj,e⟩:=h n hn l i hA
 try dsimp only at e
 refine⟨j,hj,?_⟩;unfold mX;rw[Ic hA h0 h1,aN];dsimp only;rw[aQ,lT hA,aN];dsimp only;rw[show((gC (x::T)).data.toList==(bm #[69,88,73,83,84,83]).data.toList)=true from h2,bL,e];rfl
def UN {x:Tk} {v:aA} (h:aZ (·.p225_1) N (x::T) p v T' p') (h0:aT (x::T) rU=false) (h1:Et (x::T)=true) (h2:aT (x::T) eG=false) (h3:aT (x::T) jA=true):aZ (·.p221_1) (N+1) (x::T) p v T' p':=aZ.succ (b:=mX) (fun _=>rfl) fun n hn=>by
 intro l i hA;obtain⟨j,hj,e⟩:=h n hn l i hA
 try dsimp only at e
 refine⟨j,hj,?_⟩;unfold mX;rw[Ic hA h0 h1,aN];dsimp only;rw[aQ,lT hA,aN];dsimp only;rw[show((gC (x::T)).data.toList==(bm #[69,88,73,83,84,83]).data.toList)=false from h2,aQ,show((gC (x::T)).data.toList==(bm #[67,65,83,69]).data.toList)=true from h3,bL,e];rfl
def UM {x:Tk} {v:aA} (h:aZ (·.p226_1) N (x::T) p v T' p') (h0:aT (x::T) rU=false) (h1:Et (x::T)=true) (h2:aT (x::T) eG=false) (h3:aT (x::T) jA=false) (h4:aT (x::T) pR=true):aZ (·.p221_1) (N+1) (x::T) p v T' p':=aZ.succ (b:=mX) (fun _=>rfl) fun n hn=>by
 intro l i hA;obtain⟨j,hj,e⟩:=h n hn l i hA
 try dsimp only at e
 refine⟨j,hj,?_⟩;unfold mX;rw[Ic hA h0 h1,aN];dsimp only;rw[aQ,lT hA,aN];dsimp only;rw[show((gC (x::T)).data.toList==(bm #[69,88,73,83,84,83]).data.toList)=false from h2,aQ,show((gC (x::T)).data.toList==(bm #[67,65,83,69]).data.toList)=false from h3,aQ,show((gC (x::T)).data.toList==(bm #[67,65,83,84]).data.toList)=true from h4,bL,e];rfl
structure Dj (T:List Tk):Prop where
 null:aT T rU=false
 lit:Et T=true
 exists_:aT T eG=false
 case:aT T jA=false
 cast:aT T pR=false
def MQ {x:Tk} {v:aA} (h:aZ (fun F=>F.p227_1 x.2) N T p v T' p') (hk:Dj (x::T)) (h5:aT (x::T) jX=true):aZ (·.p221_1) (N+1) (x::T) p v T' p':=aZ.succ (b:=mX) (fun _=>rfl) fun n hn=>by
 intro l i hA;have hl:=hA.lt;obtain⟨j,hj,e⟩:=h n hn l (i+1) hA.next
 try dsimp only at e
 refine⟨j,hj,?_⟩;unfold mX;rw[Ic hA hk.null hk.lit,aN];dsimp only;rw[aQ,lT hA,aN];dsimp only;rw[show((gC (x::T)).data.toList==(bm #[69,88,73,83,84,83]).data.toList)=false from hk.exists_,aQ,show((gC (x::T)).data.toList==(bm #[67,65,83,69]).data.toList)=false from hk.case,aQ,show((gC (x::T)).data.toList==(bm #[67,65,83,84]).data.toList)=false from hk.cast,aQ,show((gC (x::T)).data.toList==(bm #[82,69,80,76,65,67,69]).data.toList)=true from h5,bL,tQ hA,HT hA,bV (by omega),cZ,hA.get.2,e];rfl
def Hx {F:bD} (hA:At l i T) (hk:Dj T) (h5:aT T jX=false):mX F (aD.mk l (i:Int) p)=(call (yP (aD.mk l (i:Int) p)) fun y22=>(aE y22.1 (call (yO y22.2) fun y24=>(call (sW ([(bm #[40])]) y24.2) fun y26=>(aE y26.1 (bK (F.p227_1 y24.1 y26.2) (fun q29=>(q29.1,q29.2)) fun y28=>(some (PX.ok (y28.1,y28.2)))) (call (eR (bm #[46]) y26.2) fun y31=>(aE y31.1 (bK (Ak y31.2) (fun q34=>(q34.1,q34.2)) fun y33=>(some (PX.ok ((aA.mk 2 false y24.1 y33.1 0 (aH.mk 0 0 bO) ([]:List aA) ([]:List aF)),y33.2)))) (some (PX.ok ((aA.mk 2 false bO y24.1 0 (aH.mk 0 0 bO) ([]:List aA) ([]:List aF)),y31.2)))))))) (join (fun(u37:Bool->Option (PX (Int×aD) (aA×aD)))=>(aE (decide (y22.2.at_<(y22.2.l.length:Int))) (aR (0<=y22.2.at_∧y22.2.at_<(y22.2.l.length:Int)) (u37 (((y22.2.l.getD y22.2.at_.toNat aP.z).kind)==5))) (u37 false))) (fun(q36:Bool)=>(aE q36 (bK (Eo y22.2) (fun q43=>(q43.1,q43.2)) fun y42=>(some (PX.ok ((aA.mk 3 false bO bO y42.1 (aH.mk 0 0 bO) ([]:List aA) ([]:List aF)),(aD.mk y42.2.l (i64.wrap (y42.2.at_+1)) (kD y42.2.params y42.1)))))) (bK (fJ (bm #[40]) y22.2) (fun q45=>(q45.1,q45.2)) fun y44=>(join (fun(u49:aA×aD->Option (PX (Int×aD) (aA×aD)))=>(call (Ac y44) fun y50=>(aE y50.1 (bK (F.p50_1 y50.2) (fun q53=>(q53.1,q53.2)) fun y52=>(u49 ((aA.mk 28 false bO bO 0 (aH.mk 0 0 bO) ([]:List aA) ([y52.1])),y52.2))) (bK (F.p15_1 y50.2) (fun q55=>(q55.1,q55.2)) fun y54=>(u49 (y54.1,y54.2)))))) (fun(q48:aA×aD)=>(bK (fJ (bm #[41]) q48.2) (fun q57=>(q57.1,q57.2)) fun y56=>(some (PX.ok (q48.1,y56)))))))))))):=by
 unfold mX;rw[Ic hA hk.null hk.lit,aN];dsimp only;rw[aQ,lT hA,aN];dsimp only;rw[show((gC T).data.toList==(bm #[69,88,73,83,84,83]).data.toList)=false from hk.exists_,aQ,show((gC T).data.toList==(bm #[67,65,83,69]).data.toList)=false from hk.case,aQ,show((gC T).data.toList==(bm #[67,65,83,84]).data.toList)=false from hk.cast,aQ,show((gC T).data.toList==(bm #[82,69,80,76,65,67,69]).data.toList)=false from h5,aQ]
def YN {s:ByteArray} (hs:gX s=some true) (hk:Dj ((1,s)::T')) (h5:aT ((1,s)::T') jX=false) (h6:cQ T' [cL]=false) (h7:cQ T' [iM]=false):aZ (·.p221_1) 1 ((1,s)::T') p (aA.mk 2 false bO s 0 zV [] []) T' p:=aZ.succ (N:=0) (b:=mX) (fun _=>rfl) fun n hn=>by
 intro l i hA;refine⟨_,hA.next,?_⟩;rw[Hx hA hk h5,yH hA (fun _=>⟨_,hs⟩),aN];dsimp only;rw[show nE ((1,s)::T')=true by simp[nE,hs],bL,Ie hA,aN];dsimp only;rw[mU hA.next _ (by decide),aN];dsimp only;rw[show cQ T' _=false from h6,aQ,show eR _ _=_ from oD hA.next h7,aN];rfl
def UK {s t:ByteArray} {x:Tk} (hs:gX s=some true) (ht:gX t=some true) (hk:Dj ((1,s)::x::(1,t)::T')) (h5:aT ((1,s)::x::(1,t)::T') jX=false) (h6:cQ (x::(1,t)::T') [cL]=false) (h7:cQ (x::(1,t)::T') [iM]=true):aZ (·.p221_1) 1 ((1,s)::x::(1,t)::T') p (aA.mk 2 false s t 0 zV [] []) T' p:=aZ.succ (N:=0) (b:=mX) (fun _=>rfl) fun n hn=>by
 intro l i hA;refine⟨_,hA.next.next.next,?_⟩;rw[Hx hA hk h5,yH hA (fun _=>⟨_,hs⟩),aN];dsimp only;rw[show nE ((1,s)::x::(1,t)::T')=true by simp[nE,hs],bL,Ie hA,aN];dsimp only;rw[mU hA.next _ (by decide),aN];dsimp only;rw[show cQ (x::(1,t)::T') _=false from h6,aQ,show eR _ _=_ from wX hA.next h7,aN];dsimp only;rw[bL,Tf hA.next.next ht,cH]
def UO {s:ByteArray} {v:aA} (h:aZ (fun F=>F.p227_1 s) N T p v T' p') (hs:gX s=some true) (hk:Dj ((1,s)::T)) (h5:aT ((1,s)::T) jX=false) (h6:cQ T [cL]=true):aZ (·.p221_1) (N+1) ((1,s)::T) p v T' p':=aZ.succ (b:=mX) (fun _=>rfl) fun n hn=>by
 intro l i hA;obtain⟨j,hj,e⟩:=h n hn l (i+1) hA.next
 try dsimp only at e
 refine⟨j,hj,?_⟩;rw[Hx hA hk h5,yH hA (fun _=>⟨_,hs⟩),aN];dsimp only;rw[show nE ((1,s)::T)=true by simp[nE,hs],bL,Ie hA,aN];dsimp only;rw[mU hA.next _ (by decide),aN];dsimp only;rw[show cQ T _=true from h6,bL,e];rfl
def noN {k:Int} {s:ByteArray} (hk:k≠1):nE ((k,s)::T)=false:=by simp[nE,hk]
def tN {k:Int} {s:ByteArray} (hk:k≠1):oU ((k,s)::T):=fun h=>absurd h hk
def r9 {s:ByteArray} {n:Int} (hA:At l i ((5,s)::T)) (hs:(s.data.toList==(bm #[]).data.toList)=false) (hz:0<s.size) (h:zC s=some (n,())) (hn:1<=n∧n<=16) (hp:(((s.data.toList.getD 0 0).toNat:Int)==43)=false):Eo (aD.mk l (i:Int) p)=some (.ok (n,aD.mk l (i:Int) p)):=by
 have hl:=hA.lt;obtain⟨g1,g2⟩:=hA.get;simp only at g1 g2;unfold Eo;dsimp only;rw[bV (by omega),cZ,g2,hs,aQ,h,aN,bY,bY,bV (by omega),hp,aQ];dsimp only;rw[show decide (n<1)=false by simp;omega,aQ,show decide (n>16)=false by simp;omega,aQ]
def RH {s:ByteArray} {n:Int} (hs:(s.data.toList==(bm #[]).data.toList)=false) (hz:0<s.size) (h:zC s=some (n,())) (hn:1<=n∧n<=16) (hp:(((s.data.toList.getD 0 0).toNat:Int)==43)=false):aZ (·.p221_1) 1 ((5,s)::T') p (aA.mk 3 false bO bO n zV [] []) T' (kD p n):=aZ.succ (N:=0) (b:=mX) (fun _=>rfl) fun n' hn'=>by
 intro l i hA;have hl:=hA.lt;obtain⟨g1,g2⟩:=hA.get;simp only at g1 g2;refine⟨_,hA.next,?_⟩;rw[Hx hA ⟨rfl,rfl,rfl,rfl,rfl⟩ rfl,yH hA (tN (by decide)),aN];dsimp only;rw[noN (by decide),aQ,bY];rw[show decide ((i:Int)<(l.length:Int))=true by simp;omega,bL,bV (by omega),cZ,g1];dsimp only;rw[show((5:Int)==5)=true from rfl,bL,r9 hA hs hz h hn hp,cH];dsimp only;rw[tQ hA]
def BF {F:bD} (hA:At l i ((6,cL)::T)):mX F (aD.mk l (i:Int) p)=(join (fun(u49:aA×aD->Option (PX (Int×aD) (aA×aD)))=>(call (Ac (aD.mk l ((i+1:Nat):Int) p)) fun y50=>(aE y50.1 (bK (F.p50_1 y50.2) (fun q53=>(q53.1,q53.2)) fun y52=>(u49 ((aA.mk 28 false bO bO 0 (aH.mk 0 0 bO) ([]:List aA) ([y52.1])),y52.2))) (bK (F.p15_1 y50.2) (fun q55=>(q55.1,q55.2)) fun y54=>(u49 (y54.1,y54.2)))))) (fun(q48:aA×aD)=>(bK (fJ (bm #[41]) q48.2) (fun q57=>(q57.1,q57.2)) fun y56=>(some (PX.ok (q48.1,y56)))))):=by
 have hl:=hA.lt;obtain⟨g1,g2⟩:=hA.get;simp only at g1 g2;rw[Hx hA ⟨rfl,rfl,rfl,rfl,rfl⟩ rfl,yH hA (tN (by decide)),aN];dsimp only;rw[noN (by decide),aQ,bY];rw[show decide ((i:Int)<(l.length:Int))=true by simp;omega,bL,bV (by omega),cZ,g1];dsimp only;rw[wq 6 5 rfl,show fJ _ _=_ from mD hA rfl,cH]
def Zq {x:Tk} {v:aA} (h:aZ (·.p15_1) N (x::T) p v ((6,cB)::T') p') (h1:aT (x::T) oT=false) (h2:aT (x::T) oA=false):aZ (·.p221_1) (N+1) ((6,cL)::x::T) p v T' p':=aZ.succ (b:=mX) (fun _=>rfl) fun n hn=>by
 intro l i hA;obtain⟨j,hj,e⟩:=h n hn l (i+1) hA.next
 try dsimp only at e
 refine⟨_,hj.next,?_⟩;rw[BF hA,bY,Id hA.next,show aT (x::T) _=false from h1,show aT (x::T) _=false from h2,Bool.or_self,aN];dsimp only;rw[aQ,e,cH];dsimp only;rw[show fJ _ _=_ from mD hj rfl,cH]
def OK {x:Tk} {v:aF} (h:aZ (·.p50_1) N (x::T) p v ((6,cB)::T') p') (h1:(aT (x::T) oT||aT (x::T) oA)=true):aZ (·.p221_1) (N+1) ((6,cL)::x::T) p (aA.mk 28 false bO bO 0 zV [] [v]) T' p':=aZ.succ (b:=mX) (fun _=>rfl) fun n hn=>by
 intro l i hA;obtain⟨j,hj,e⟩:=h n hn l (i+1) hA.next
 try dsimp only at e
 refine⟨_,hj.next,?_⟩;rw[BF hA,bY,Id hA.next,show(aT (x::T) _||aT (x::T) _)=true from h1,aN];dsimp only;rw[bL,e,cH];dsimp only;rw[show fJ _ _=_ from mD hj rfl,cH]
end
section
variable {l:List aP} {i N M:Nat} {T T' T1 T2 T3 T4:List Tk} {p p' p1 p2 p3 p4:Int} {F:bD} {α:Type}
abbrev eU:ByteArray:=bm #[44]
def Ow (f:nF α) (sz:Nat):(List α×aD->Option (PX (Int×aD) (List α×aD)))->List α×aD->Option (PX (Int×aD) (List α×aD)):=fun u11 q10=>(call (eR (bm #[44]) q10.2) fun y14=>(aE y14.1 (bK (f y14.2) (fun q18=>(q18.1,q18.2)) fun y17=>(aR ((q10.1.length+1)*sz<=140737488355328) (u11 ((q10.1++([y17.1])),y17.2)))) (some (PX.ok (q10.1,y14.2)))))
def Jq (f:nF α) (sz:Nat):nF (List α):=fun m0=>bK (f m0) (fun q3=>(q3.1,q3.2)) fun y2=>cF (Ow f sz) bQ ([y2.1],y2.2)
def d5 (F:bD):Je F=Jq F.p15_1 136:=rfl
def d9 (F:bD):Jt F=Jq F.p95_1 144:=rfl
def d7 (F:bD):Jg F=Jq F.p133_1 64:=rfl
inductive vU (f:nF α):List Tk->Int->List α->List Tk->Int->Prop where
 |nil {T:List Tk} {p:Int}:cQ T [eU]=false->vU f T p [] T p
 |cons {x:Tk} {T T1 T':List Tk} {p p1 p':Int} {v:α} {vs:List α}:cQ (x::T) [eU]=true->fP f T p v T1 p1->vU f T1 p1 vs T' p'->vU f (x::T) p (v::vs) T' p'
def OQ {f:nF α} {sz:Nat} {vs:List α} (h:vU f T p vs T' p'):∀(acc:List α) (m:Nat),vs.length<m->(acc.length+vs.length)*sz<=140737488355328->∀l i,At l i T->
 ∃j:Nat,At l j T'∧cF (Ow f sz) m (acc,aD.mk l (i:Int) p)=some (.ok (acc++vs,aD.mk l (j:Int) p')):=by
 induction h with
 |nil h0=>
  intro acc m hm hsz l i hA;obtain⟨k,rfl⟩:∃k,m=k+1:=⟨m-1,by simp at hm;omega⟩;refine⟨i,hA,?_⟩;rw[eX];unfold Ow;dsimp only;rw[show eR _ _=_ from oD hA h0,aN];dsimp only;rw[aQ,gL]
 |cons h0 hf hm ih=>
  rename_i x T0 T1' T'' p0 p1' p'' v vs;intro acc m hm' hsz l i hA;simp only[bF] at hm' hsz;obtain⟨k,rfl⟩:∃k,m=k+1:=⟨m-1,by omega⟩;obtain⟨j,hj,e⟩:=hf l (i+1) hA.next;obtain⟨j',hj',e'⟩:=ih (acc++[v]) k (by omega) (by simp only[bH,bF,bS];rw[show acc.length+(0+1)+vs.length=acc.length+(vs.length+1) by omega];exact hsz) l j hj;refine⟨j',hj',?_⟩;rw[eX];unfold Ow;dsimp only;rw[show eR _ _=_ from wX hA h0,aN];dsimp only;rw[bL,e,cH,bV (xX (rL _ (by omega)) hsz)];refine jF e' ?_;rw[fS];rfl
def Rf {f:nF α} {sz:Nat} {v:α} {vs:List α} (h:fP f T p v T1 p1) (hm:vU f T1 p1 vs T' p') (hsz:(1+vs.length)*sz<=140737488355328) (hl:vs.length<4611686018427387904):fP (Jq f sz) T p (v::vs) T' p':=by
 intro l i hA;obtain⟨j,hj,e⟩:=h l i hA
 try dsimp only at e
 obtain⟨k,hk,e'⟩:=OQ hm [v] bQ (by unfold bQ;exact hl) (by simpa using hsz) l j hj;refine⟨k,hk,?_⟩;unfold Jq;rw[e,cH];exact e'
end
section
variable {l:List aP} {i N M:Nat} {T T' T1 T2 T3 T4:List Tk} {p p' p1 p2 p3 p4:Int} {F:bD} {α:Type}
def aA1 {v:aA} {vs:List aA} (h:aZ (·.p15_1) N T p v T1 p1) (hm:∀n,N<=n->vU (bD.fix n).p15_1 T1 p1 vs T' p') (hl:vs.length<=1000000):aZ (·.p135_1) (N+1) T p (v::vs) T' p':=
 aZ.succ (b:=Je) (fun _=>rfl) fun n hn=>by rw[d5];exact Rf (h n hn) (hm n hn) (by omega) (by omega)
abbrev lW:ByteArray:=bm #[65,83]
abbrev kT:ByteArray:=bm #[68,73,83,84,73,78,67,84]
abbrev mZ:ByteArray:=bm #[42]
def MB {x:Tk} {v:aF} (hx:aT (x::(6,cL)::T) eG=true) (h:aZ (·.p50_1) N T p v ((6,cB)::T') p'):aZ (·.p118_1) (N+1) (x::(6,cL)::T) p (aA.mk 27 false bO bO 0 zV [] [v]) T' p':=aZ.succ (b:=Jh) (fun _=>rfl) fun n hn=>by
 intro l i hA;obtain⟨j,hj,e⟩:=h n hn l (i+1+1) hA.next.next
 try dsimp only at e
 refine⟨_,hj.next,?_⟩;unfold Jh;rw[show fE _ _=_ from oE hA hx,cH,show fJ _ _=_ from mD hA.next rfl,cH,e,cH];dsimp only;rw[show fJ _ _=_ from mD hj rfl,cH]
def SM {s:ByteArray}:aZ (fun F=>F.p227_1 s) 1 ((6,cL)::(6,mZ)::(6,cB)::T') p (aA.mk 32 false bO s 2 zV [] []) T' p:=aZ.succ (N:=0) (b:=fun F=>vI F s) (fun _=>rfl) fun n hn=>by
 intro l i hA;refine⟨_,hA.next.next.next,?_⟩;unfold vI;rw[show fJ _ _=_ from mD hA rfl,cH,bY,show eR _ _=_ from wX hA.next rfl,aN];dsimp only;rw[bL,show fJ _ _=_ from mD hA.next.next rfl,cH]
def SN {s:ByteArray}:aZ (fun F=>F.p227_1 s) 1 ((6,cL)::(6,cB)::T') p (aA.mk 32 false bO s 0 zV [] []) T' p:=aZ.succ (N:=0) (b:=fun F=>vI F s) (fun _=>rfl) fun n hn=>by
 intro l i hA;refine⟨_,hA.next.next,?_⟩;unfold vI;rw[show fJ _ _=_ from mD hA rfl,cH,bY,show eR _ _=_ from oD hA.next rfl,aN];dsimp only;rw[aQ,show cE _ _=_ from dM hA.next rfl,aN];dsimp only;rw[aQ,mU hA.next _ (by decide),aN];dsimp only;rw[show cQ ((6,cB)::T') _=true from rfl,fM,aQ,show fJ _ _=_ from mD hA.next rfl,cH]
def LR {s:ByteArray} {x:Tk} {v:aA} (h0:cQ (x::T) [mZ]=false) (h1:aT (x::T) kT=true) (h:aZ (·.p15_1) N T p v ((6,cB)::T') p'):aZ (fun F=>F.p227_1 s) (N+1) ((6,cL)::x::T) p (aA.mk 32 false bO s 1 zV [v] []) T' p':=aZ.succ (b:=fun F=>vI F s) (fun _=>rfl) fun n hn=>by
 intro l i hA;obtain⟨j,hj,e⟩:=h n hn l (i+1+1) hA.next.next
 try dsimp only at e
 refine⟨_,hj.next,?_⟩;unfold vI;rw[show fJ _ _=_ from mD hA rfl,cH,bY,show eR _ _=_ from oD hA.next h0,aN];dsimp only;rw[aQ,show cE _ _=_ from fU hA.next h1,aN];dsimp only;rw[bL,e,cH];dsimp only;rw[show fJ _ _=_ from mD hj rfl,cH]
def SO {s:ByteArray} {x:Tk} {vs:List aA} (h0:cQ (x::T) [mZ]=false) (h1:aT (x::T) kT=false) (h2:cQ (x::T) [cB]=false) (h:aZ (·.p135_1) N (x::T) p vs ((6,cB)::T') p'):aZ (fun F=>F.p227_1 s) (N+1) ((6,cL)::x::T) p (aA.mk 32 false bO s 0 zV vs []) T' p':=aZ.succ (b:=fun F=>vI F s) (fun _=>rfl) fun n hn=>by
 intro l i hA;obtain⟨j,hj,e⟩:=h n hn l (i+1) hA.next
 try dsimp only at e
 refine⟨_,hj.next,?_⟩;unfold vI;rw[show fJ _ _=_ from mD hA rfl,cH,bY,show eR _ _=_ from oD hA.next h0,aN];dsimp only;rw[aQ,show cE _ _=_ from dM hA.next h1,aN];dsimp only;rw[aQ,mU hA.next _ (by decide),aN];dsimp only;rw[show cQ (x::T) _=false from h2,fT,bL,e,cH];dsimp only;rw[show fJ _ _=_ from mD hj rfl,cH]
def PB {x y:Tk} {s:ByteArray} {v:aA} (hx:aT (x::(6,cL)::T) pR=true) (h:aZ (·.p15_1) N T p v (y::(1,s)::(6,cB)::T') p') (hy:aT (y::(1,s)::(6,cB)::T') lW=true) (hs:∀L,wB=some L->pT s L=some true):aZ (·.p226_1) (N+1) (x::(6,cL)::T) p (aA.mk 30 false bO s 0 zV [v] []) T' p':=aZ.succ (b:=Jc) (fun _=>rfl) fun n hn=>by
 intro l i hA;obtain⟨j,hj,e⟩:=h n hn l (i+1+1) hA.next.next
 try dsimp only at e
 refine⟨_,hj.next.next.next,?_⟩;unfold Jc;rw[show fE _ _=_ from oE hA hx,cH,show fJ _ _=_ from mD hA.next rfl,cH,e,cH];dsimp only;rw[show fE _ _=_ from oE hj hy,cH];unfold wB;rw[aN,DY hj.next (hs _ rfl),cH];dsimp only;rw[show fJ _ _=_ from mD hj.next.next rfl,cH]
def Dp (n:Bool) (a:aA) (vs:List aA) (q:List aF):aA:=aA.mk 26 n bO bO 0 zV (a::vs) q
def ZD {a:aA} {nt:Bool}:aZ (fun F=>F.p163_1 a nt) 1 ((6,cL)::(6,cB)::T') p (Dp nt a [] []) T' p:=aZ.succ (N:=0) (b:=fun F=>yU F a nt) (fun _=>rfl) fun n hn=>by
 intro l i hA;refine⟨_,hA.next.next,?_⟩;unfold yU;rw[show fJ _ _=_ from mD hA rfl,cH,bY,Id hA.next,show aT ((6,cB)::T') (bm #[83,69,76,69,67,84])=false from rfl,show aT ((6,cB)::T') (bm #[86,65,76,85,69,83])=false from rfl,Bool.or_self,aN];dsimp only;rw[aQ,mU hA.next _ (by decide),aN];dsimp only;rw[show cQ ((6,cB)::T') _=true from rfl,fM,aQ,show fJ _ _=_ from mD hA.next rfl,cH];rfl
def aA2 {a:aA} {nt:Bool} {x:Tk} {v:aF} (h1:(aT (x::T) oT||aT (x::T) oA)=true) (h:aZ (·.p50_1) N (x::T) p v ((6,cB)::T') p'):aZ (fun F=>F.p163_1 a nt) (N+1) ((6,cL)::x::T) p (Dp nt a [] [v]) T' p':=aZ.succ (b:=fun F=>yU F a nt) (fun _=>rfl) fun n hn=>by
 intro l i hA;obtain⟨j,hj,e⟩:=h n hn l (i+1) hA.next
 try dsimp only at e
 refine⟨_,hj.next,?_⟩;unfold yU;rw[show fJ _ _=_ from mD hA rfl,cH,bY,Id hA.next,show(aT (x::T) _||aT (x::T) _)=true from h1,aN];dsimp only;rw[bL,e,cH];dsimp only;rw[show fJ _ _=_ from mD hj rfl,cH];rfl
def ZE {a:aA} {nt:Bool} {x:Tk} {vs:List aA} (h1:aT (x::T) oT=false) (h2:aT (x::T) oA=false) (h3:cQ (x::T) [cB]=false) (hl:vs.length<=1000000) (h:aZ (·.p135_1) N (x::T) p vs ((6,cB)::T') p'):aZ (fun F=>F.p163_1 a nt) (N+1) ((6,cL)::x::T) p (Dp nt a vs []) T' p':=aZ.succ (b:=fun F=>yU F a nt) (fun _=>rfl) fun n hn=>by
 intro l i hA;obtain⟨j,hj,e⟩:=h n hn l (i+1) hA.next
 try dsimp only at e
 refine⟨_,hj.next,?_⟩;unfold yU;rw[show fJ _ _=_ from mD hA rfl,cH,bY,Id hA.next,show aT (x::T) (bm #[83,69,76,69,67,84])=false from h1,show aT (x::T) (bm #[86,65,76,85,69,83])=false from h2,Bool.or_self,aN];dsimp only;rw[aQ,mU hA.next _ (by decide),aN];dsimp only;rw[show cQ (x::T) _=false from h3,fT,bL,e,cH,bV (by simp only[bF,bS];omega)];dsimp only;rw[show fJ _ _=_ from mD hj rfl,cH];rfl
end
section
variable {l:List aP} {i N M:Nat} {T T' T1 T2 T3 T4:List Tk} {p p' p1 p2 p3 p4:Int} {F:bD} {α:Type}
def WC {x:Tk} {s:ByteArray} (hx:aT (x::(1,s)::T) lW=true) (hs:gX s=some true):fP sV (x::(1,s)::T) p s T p:=by
 intro l i hA;refine⟨_,hA.next.next,?_⟩;unfold sV;rw[show cE _ _=_ from fU hA hx,aN];dsimp only;rw[bL,Tf hA.next hs,cH]
def PJ (h0:aT T lW=false) (ht:oU T) (hn:nE T=false):fP sV T p (bm #[]) T p:=by
 intro l i hA;refine⟨_,hA,?_⟩;unfold sV;rw[show cE _ _=_ from dM hA h0,aN];dsimp only;rw[aQ,yH hA ht,aN];dsimp only;rw[hn,aQ]
def RS {x:Tk} {v:aA} {s:ByteArray} (h0:cQ (x::T) [mZ]=false) (ht:oU (x::T)) (hn:∀l i,At l i (x::T)->nE (x::T)=true->∀k s' T'',T=(k,s')::T''->(k=6∧s'.data.toList=iM.data.toList->∀k2 s2 T3,T''=(k2,s2)::T3->¬(k2=6∧s2.data.toList=mZ.data.toList))) (h:aZ (·.p15_1) N (x::T) p v T1 p1) (ha:fP sV T1 p1 s T' p'):aZ (·.p133_1) (N+1) (x::T) p (bA.mk false bO [v] s) T' p':=aZ.succ (b:=yV) (fun _=>rfl) fun n hn'=>by
 intro l i hA;obtain⟨j,hj,e⟩:=h n hn' l i hA
 try dsimp only at e
 obtain⟨k,hk,e2⟩:=ha l j hj;refine⟨k,hk,?_⟩;have hle:=hA.le;have hlen:=hA.len;have w2:i64.wrap ((i:Int)+2)=((i+2:Nat):Int):=by rw[nK (by omega) (by omega)];simp
 have fin:∀b:Bool,b=false->aE b (aR (0<=(i64.wrap ((i64.wrap ((aD.mk l (i:Int) p).at_+3))-3))∧(i64.wrap ((i64.wrap ((aD.mk l (i:Int) p).at_+3))-3))<(((aD.mk l (i:Int) p).l.length:Nat):Int)) (some (PX.ok ((bA.mk true (((aD.mk l (i:Int) p).l.getD (i64.wrap ((i64.wrap ((aD.mk l (i:Int) p).at_+3))-3)).toNat aP.z).text) ([]:List aA) bO),(aD.mk (aD.mk l (i:Int) p).l (i64.wrap ((aD.mk l (i:Int) p).at_+3)) (aD.mk l (i:Int) p).params))))) (bK ((bD.fix n).p15_1 (aD.mk l (i:Int) p)) (fun q27=>(q27.1,q27.2)) fun y26=>(bK (sV y26.2) (fun q30=>(q30.1,q30.2)) fun y29=>(some (PX.ok ((bA.mk false bO ([y26.1]) y29.1),y29.2)))))=some (PX.ok (bA.mk false bO [v] s,aD.mk l (k:Int) p')):=by
  rintro b rfl;rw[aQ,e,cH];dsimp only;rw[e2,cH]
 unfold yV;rw[show eR _ _=_ from oD hA h0,aN];dsimp only;rw[aQ,bY,yH hA ht,aN];dsimp only;cases hi:nE (x::T) with
 |false=>rw[aQ];exact fin _ rfl
 |true=>
  rw[bL,w2];by_cases h2:i+2<l.length
  ·rw[show decide (((i+2:Nat):Int)<(l.length:Int))=true by simp;omega,bL,tQ hA,bV (by omega),cZ,bV (by omega),cZ];cases T with
   |nil=>have:=hA.next.nil;omega
   |cons y T2=>
   cases T2 with
   |nil=>have:=hA.next.next.nil;omega
   |cons z T3=>
   obtain⟨k1,s1⟩:=y;obtain⟨k2,s2⟩:=z;obtain⟨a1,a2⟩:=hA.next.get;obtain⟨b1,b2⟩:=hA.next.next.get;simp only at a1 a2 b1 b2;rw[a1,a2];cases c1:(k1==6) with
   |false=>rw[aQ];exact fin _ rfl
   |true=>
   rw[bL]
   try rw[bV (by omega)]
   cases c2:(s1.data.toList==(bm #[46]).data.toList) with
   |false=>rw[aQ];exact fin _ rfl
   |true=>
   rw[bL,bV (by omega),b1,b2];cases c3:(k2==6) with
   |false=>rw[aQ];exact fin _ rfl
   |true=>
   rw[bL]
   try rw[bV (by omega)]
   refine fin _ ?_;rw[sN];intro c4;exact hn l i hA hi _ _ _ rfl ⟨eq_of_beq c1,eq_of_beq c2⟩ _ _ _ rfl ⟨eq_of_beq c3,c4⟩
  ·rw[show decide (((i+2:Nat):Int)<(l.length:Int))=false by simp;omega,aQ];exact fin _ rfl
end
section
variable {l:List aP} {i N M:Nat} {T T' T1 T2 T3 T4:List Tk} {p p' p1 p2 p3 p4:Int} {F:bD} {α:Type}
def RQ:aZ (·.p133_1) 1 ((6,mZ)::T') p (bA.mk true bO [] bO) T' p:=aZ.succ (N:=0) (b:=yV) (fun _=>rfl) fun n hn=>by
 intro l i hA;refine⟨_,hA.next,?_⟩;unfold yV;rw[show eR _ _=_ from wX hA rfl,aN];rfl
def OV {s:ByteArray} (hs:gX s=some true):aZ (·.p133_1) 1 ((1,s)::(6,iM)::(6,mZ)::T') p (bA.mk true s [] bO) T' p:=aZ.succ (N:=0) (b:=yV) (fun _=>rfl) fun n hn=>by
 intro l i hA;have hl:=hA.next.next.lt;have hle:=hA.le;have hlen:=hA.len;have w2:i64.wrap ((i:Int)+2)=((i+2:Nat):Int):=by rw[nK (by omega) (by omega)];simp
 have w3:i64.wrap ((i:Int)+3)=((i+3:Nat):Int):=by rw[nK (by omega) (by omega)];simp
 have w33:i64.wrap (((i+3:Nat):Int)-3)=(i:Int):=by rw[nK (by omega) (by omega)];simp
 obtain⟨g1,g2⟩:=hA.get;obtain⟨a1,a2⟩:=hA.next.get;obtain⟨b1,b2⟩:=hA.next.next.get;simp only at g1 g2 a1 a2 b1 b2;refine⟨i+1+1+1,hA.next.next.next,?_⟩;unfold yV;rw[show eR _ _=_ from oD hA rfl,aN];dsimp only;rw[aQ,bY,yH hA (fun _=>⟨_,hs⟩),aN];dsimp only;rw[show nE ((1,s)::(6,iM)::(6,mZ)::T')=true by simp[nE,hs],bL,w2];rw[show decide (((i+2:Nat):Int)<(l.length:Int))=true by simp;omega,bL,tQ hA,bV (by omega),cZ,bV (by omega),cZ,a1,a2,b1,b2];rw[show((6:Int)==6)=true from rfl,bL,show(iM.data.toList==(bm #[46]).data.toList)=true from rfl,bL]
 try rw[bV (by omega)]
 rw[bL]
 try rw[bV (by omega)]
 dsimp only;rw[show(mZ.data.toList==(bm #[42]).data.toList)=true from rfl,bL,w3,w33,bV (by omega),cZ,g2]
def MI {s a:ByteArray} (hs:gX s=some true) (ha:fP sV T1 p a T' p'):aZ (·.p170_1) 1 ((1,s)::T1) p (aO.mk 0 s [] a []) T' p':=aZ.succ (N:=0) (b:=Ck) (fun _=>rfl) fun n hn=>by
 intro l i hA;obtain⟨k,hk,e2⟩:=ha l (i+1) hA.next;refine⟨k,hk,?_⟩;unfold Ck;rw[bY,show eR _ _=_ from oD hA rfl,aN];dsimp only;rw[aQ,Tf hA hs,cH];dsimp only;rw[e2,cH]
def NQ {v:aF} {a:ByteArray} (h:aZ (·.p50_1) N T p v ((6,cB)::T1) p1) (ha:fP sV T1 p1 a T' p'):aZ (·.p170_1) (N+1) ((6,cL)::T) p (aO.mk 0 bO [v] a []) T' p':=aZ.succ (b:=Ck) (fun _=>rfl) fun n hn=>by
 intro l i hA;obtain⟨j,hj,e⟩:=h n hn l (i+1) hA.next
 try dsimp only at e
 obtain⟨k,hk,e2⟩:=ha l (j+1) hj.next;refine⟨k,hk,?_⟩;unfold Ck;rw[bY,show eR _ _=_ from wX hA rfl,aN];dsimp only;rw[bL,e,cH];dsimp only;rw[show fJ _ _=_ from mD hj rfl,cH]
 try dsimp only
 rw[e2,cH]
abbrev Pu:ByteArray:=bm #[65,83,67]
abbrev xI:ByteArray:=bm #[68,69,83,67]
def WZ {v:aA} (h:aZ (·.p15_1) N T p v T' p') (h0:aT T' Pu=false) (h1:aT T' xI=false):aZ (·.p95_1) (N+1) T p (aX.mk v false) T' p':=aZ.succ (b:=Cs) (fun _=>rfl) fun n hn=>by
 intro l i hA;obtain⟨j,hj,e⟩:=h n hn l i hA
 try dsimp only at e
 refine⟨j,hj,?_⟩;unfold Cs;rw[e,cH,bY,show cE _ _=_ from dM hj h0,aN];dsimp only;rw[fT,bL,show cE _ _=_ from dM hj h1,aN]
def QG {x:Tk} {v:aA} (h:aZ (·.p15_1) N T p v (x::T') p') (h0:aT (x::T') Pu=false) (h1:aT (x::T') xI=true):aZ (·.p95_1) (N+1) T p (aX.mk v true) T' p':=aZ.succ (b:=Cs) (fun _=>rfl) fun n hn=>by
 intro l i hA;obtain⟨j,hj,e⟩:=h n hn l i hA
 try dsimp only at e
 refine⟨_,hj.next,?_⟩;unfold Cs;rw[e,cH,bY,show cE _ _=_ from dM hj h0,aN];dsimp only;rw[fT,bL,show cE _ _=_ from fU hj h1,aN]
end
section
variable {l:List aP} {i N M:Nat} {T T' T1 T2 T3 T4:List Tk} {p p' p1 p2 p3 p4:Int} {F:bD} {α:Type}
abbrev hU:ByteArray:=bm #[74,79,73,78]
abbrev Oe:ByteArray:=bm #[73,78,78,69,82]
abbrev Of:ByteArray:=bm #[67,82,79,83,83]
abbrev mQ:ByteArray:=bm #[76,69,70,84]
abbrev FA:ByteArray:=bm #[79,85,84,69,82]
abbrev iJ:ByteArray:=bm #[79,78]
def zB (F:bD):(List aO×aD->Option (PX (Int×aD) (List aO×aD)))->List aO×aD->Option (PX (Int×aD) (List aO×aD)):=fun u10 q9=>(join (fun(u16:Int×aD->Option (PX (Int×aD) ((List aO)×aD)))=>(call (eR (bm #[44]) q9.2) fun y18=>(aE y18.1 (u16 (0,y18.2)) (call (cE (bm #[74,79,73,78]) y18.2) fun y20=>(aE y20.1 (u16 (0,y20.2)) (join (fun(u26:Bool×aD->Option (PX (Int×aD) ((List aO)×aD)))=>(call (cE (bm #[73,78,78,69,82]) y20.2) fun y28=>(aE y28.1 (u26 (y28.1,y28.2)) (call (cE (bm #[67,82,79,83,83]) y28.2) fun y30=>(u26 (y30.1,y30.2)))))) (fun(q25:Bool×aD)=>(aE q25.1 (bK (fE (bm #[74,79,73,78]) q25.2) (fun q33=>(q33.1,q33.2)) fun y32=>(u16 (0,y32))) (call (cE (bm #[76,69,70,84]) q25.2) fun y34=>(aE y34.1 (call (cE (bm #[79,85,84,69,82]) y34.2) fun y36=>(bK (fE (bm #[74,79,73,78]) y36.2) (fun q38=>(q38.1,q38.2)) fun y37=>(u16 (1,y37)))) (some (PX.ok (q9.1,y34.2))))))))))))) (fun(q15:Int×aD)=>(bK (F.p170_1 q15.2) (fun q40=>(q40.1,q40.2)) fun y39=>(join (fun(u45:aO×aD->Option (PX (Int×aD) ((List aO)×aD)))=>(call (cE (bm #[79,78]) y39.2) fun y47=>(aE y47.1 (bK (F.p15_1 y47.2) (fun q50=>(q50.1,q50.2)) fun y49=>(u45 ((aO.mk q15.1 y39.1.name y39.1.sub y39.1.az ([y49.1])),y49.2))) (u45 ((aO.mk q15.1 y39.1.name y39.1.sub y39.1.az y39.1.on),y47.2))))) (fun(q44:aO×aD)=>(aR ((q9.1.length+1)*88<=140737488355328) (u10 ((q9.1++([q44.1])),q44.2))))))))
def d6 (F:bD) (m0:aD):Jf F m0=bK (F.p170_1 m0) (fun q3=>(q3.1,q3.2)) fun y2=>cF (zB F) bQ ([y2.1],y2.2):=rfl
structure DP (T:List Tk):Prop where
 comma:cQ T [eU]=false
 join:aT T hU=false
 inner:aT T Oe=false
 cross:aT T Of=false
 left:aT T mQ=false
def QF {acc:List aO} {u} (hA:At l i T) (hs:DP T):zB F u (acc,aD.mk l (i:Int) p)=some (.ok (acc,aD.mk l (i:Int) p)):=by
 unfold zB;dsimp only;rw[bY,show eR _ _=_ from oD hA hs.comma,aN];dsimp only;rw[aQ,show cE _ _=_ from dM hA hs.join,aN];dsimp only;rw[aQ,bY,show cE _ _=_ from dM hA hs.inner,aN];dsimp only;rw[aQ,show cE _ _=_ from dM hA hs.cross,aN];dsimp only;rw[aQ,show cE _ _=_ from dM hA hs.left,aN];dsimp only;rw[aQ]
def Wl (F:bD) (T:List Tk) (p:Int) (v:aO) (T':List Tk) (p':Int):Prop:=
 ∀l i acc,At l i T->(acc.length+1)*88<=140737488355328->∃j:Nat,At l j T'∧∀u,zB F u (acc,aD.mk l (i:Int) p)=u (acc++[v],aD.mk l (j:Int) p')
def Ws (F:bD) (T:List Tk) (p:Int) (o:List aA) (T':List Tk) (p':Int):Prop:=
 (o=[]∧aT T iJ=false∧T'=T∧p'=p)∨∃x T1 e,T=x::T1∧aT (x::T1) iJ=true∧fP F.p15_1 T1 p e T' p'∧o=[e]
def TH {x:Tk} {s:aO} {o:List aA} (hs0:s.on=[]) (h0:cQ (x::T) [eU]=false) (h1:aT (x::T) hU=true) (hs:fP F.p170_1 T p s T1 p1) (ho:Ws F T1 p1 o T' p'):Wl F (x::T) p (aO.mk 0 s.name s.sub s.az o) T' p':=by
 intro l i acc hA hsz;obtain⟨j,hj,e⟩:=hs l (i+1) hA.next;rcases ho with⟨rfl,h2,rfl,rfl⟩|⟨y,T2,v,rfl,h2,hv,rfl⟩
 ·refine⟨j,hj,fun u=>?_⟩;unfold zB;dsimp only;rw[bY,show eR _ _=_ from oD hA h0,aN];dsimp only;rw[aQ,show cE _ _=_ from fU hA h1,aN];dsimp only;rw[bL,e,cH,bY];dsimp only;rw[show cE _ _=_ from dM hj h2,aN];dsimp only;rw[aQ,bV hsz,hs0]
 ·obtain⟨k,hk,e2⟩:=hv l (j+1) hj.next;refine⟨k,hk,fun u=>?_⟩;unfold zB;dsimp only;rw[bY,show eR _ _=_ from oD hA h0,aN];dsimp only;rw[aQ,show cE _ _=_ from fU hA h1,aN];dsimp only;rw[bL,e,cH,bY];dsimp only;rw[show cE _ _=_ from fU hj h2,aN];dsimp only;rw[bL,e2,cH,bV hsz]
end
section
variable {l:List aP} {i N M:Nat} {T T' T1 T2 T3 T4:List Tk} {p p' p1 p2 p3 p4:Int} {F:bD} {α:Type}
def TG {x y:Tk} {s:aO} {o:List aA} (hs0:s.on=[]) (h0:cQ (x::y::T) [eU]=false) (h1:aT (x::y::T) hU=false) (h2:aT (x::y::T) Oe=false) (h3:aT (x::y::T) Of=false) (h4:aT (x::y::T) mQ=true) (h5:aT (y::T) FA=false) (h6:aT (y::T) hU=true) (hs:fP F.p170_1 T p s T1 p1) (ho:Ws F T1 p1 o T' p'):Wl F (x::y::T) p (aO.mk 1 s.name s.sub s.az o) T' p':=by
 intro l i acc hA hsz;obtain⟨j,hj,e⟩:=hs l (i+1+1) hA.next.next;rcases ho with⟨rfl,g2,rfl,rfl⟩|⟨z,T2,v,rfl,g2,hv,rfl⟩
 ·refine⟨j,hj,fun u=>?_⟩;unfold zB;dsimp only;rw[bY,show eR _ _=_ from oD hA h0,aN];dsimp only;rw[aQ,show cE _ _=_ from dM hA h1,aN];dsimp only;rw[aQ,bY,show cE _ _=_ from dM hA h2,aN];dsimp only;rw[aQ,show cE _ _=_ from dM hA h3,aN];dsimp only;rw[aQ,show cE _ _=_ from fU hA h4,aN];dsimp only;rw[bL,show cE _ _=_ from dM hA.next h5,aN];dsimp only;rw[show fE _ _=_ from oE hA.next h6,cH,e,cH,bY];dsimp only;rw[show cE _ _=_ from dM hj g2,aN];dsimp only;rw[aQ,bV hsz,hs0]
 ·obtain⟨k,hk,e2⟩:=hv l (j+1) hj.next;refine⟨k,hk,fun u=>?_⟩;unfold zB;dsimp only;rw[bY,show eR _ _=_ from oD hA h0,aN];dsimp only;rw[aQ,show cE _ _=_ from dM hA h1,aN];dsimp only;rw[aQ,bY,show cE _ _=_ from dM hA h2,aN];dsimp only;rw[aQ,show cE _ _=_ from dM hA h3,aN];dsimp only;rw[aQ,show cE _ _=_ from fU hA h4,aN];dsimp only;rw[bL,show cE _ _=_ from dM hA.next h5,aN];dsimp only;rw[show fE _ _=_ from oE hA.next h6,cH,e,cH,bY];dsimp only;rw[show cE _ _=_ from fU hj g2,aN];dsimp only;rw[bL,e2,cH,bV hsz]
inductive Fl (F:bD):List Tk->Int->List aO->List Tk->Int->Prop where
 |nil {T:List Tk} {p:Int}:DP T->Fl F T p [] T p
 |cons {T T1 T':List Tk} {p p1 p':Int} {v:aO} {vs:List aO}:Wl F T p v T1 p1->Fl F T1 p1 vs T' p'->Fl F T p (v::vs) T' p'
def OP {vs:List aO} (h:Fl F T p vs T' p'):∀(acc:List aO) (m:Nat),vs.length<m->(acc.length+vs.length)*88<=140737488355328->∀l i,At l i T->
 ∃j:Nat,At l j T'∧cF (zB F) m (acc,aD.mk l (i:Int) p)=some (.ok (acc++vs,aD.mk l (j:Int) p')):=by
 induction h with
 |nil h0=>
  intro acc m hm hsz l i hA;obtain⟨k,rfl⟩:∃k,m=k+1:=⟨m-1,by simp at hm;omega⟩;refine⟨i,hA,?_⟩;rw[eX,QF hA h0,gL]
 |cons hf hm ih=>
  rename_i T0 T1' T'' p0 p1' p'' v vs;intro acc m hm' hsz l i hA;simp only[bF] at hm' hsz;obtain⟨k,rfl⟩:∃k,m=k+1:=⟨m-1,by omega⟩;obtain⟨j,hj,e⟩:=hf l i acc hA (xX (rL _ (by omega)) hsz);obtain⟨j',hj',e'⟩:=ih (acc++[v]) k (by omega) (by simp only[bH,bF,bS];rw[show acc.length+(0+1)+vs.length=acc.length+(vs.length+1) by omega];exact hsz) l j hj;refine⟨j',hj',?_⟩;rw[eX,e];refine jF e' ?_;rw[fS];rfl
def LM {v:aO} {vs:List aO} (h:aZ (·.p170_1) N T p v T1 p1) (hm:∀n,N<=n->Fl (bD.fix n) T1 p1 vs T' p') (hl:vs.length<=1000000):aZ (·.p134_1) (N+1) T p (v::vs) T' p':=aZ.succ (b:=Jf) (fun _=>rfl) fun n hn=>by
 intro l i hA;obtain⟨j,hj,e⟩:=h n hn l i hA
 try dsimp only at e
 obtain⟨k,hk,e'⟩:=OP (hm n hn) [v] bQ (by unfold bQ;omega) (by simp only[bF,bS];omega) l j hj;refine⟨k,hk,?_⟩;rw[d6,e,cH];exact e'
end
section
variable {l:List aP} {i N M:Nat} {T T' T1 T2 T3 T4:List Tk} {p p' p1 p2 p3 p4:Int} {F:bD} {α:Type}
abbrev kX:ByteArray:=bm #[87,72,69,78]
abbrev tC:ByteArray:=bm #[84,72,69,78]
abbrev qJ:ByteArray:=bm #[69,76,83,69]
abbrev iO:ByteArray:=bm #[69,78,68]
def vQ (F:bD):(aA×Bool×aD->Option (PX (Int×aD) (aA×aD)))->aA×Bool×aD->Option (PX (Int×aD) (aA×aD)):=fun u25 q24=>(join (fun(u32:Bool×aD->Option (PX (Int×aD) (aA×aD)))=>(aE q24.2.1 (u32 (true,q24.2.2)) (call (pC 0 q24.2.2) fun y35=>(u32 ((y35.1.data.toList==(bm #[87,72,69,78]).data.toList),y35.2))))) (fun(q31:Bool×aD)=>(aE q31.1 (bK (fE (bm #[87,72,69,78]) q31.2) (fun q39=>(q39.1,q39.2)) fun y38=>(bK (F.p15_1 y38) (fun q42=>(q42.1,q42.2)) fun y41=>(aR ((q24.1.args.length+1)*136<=140737488355328) (bK (fE (bm #[84,72,69,78]) y41.2) (fun q47=>(q47.1,q47.2)) fun y46=>(bK (F.p15_1 y46) (fun q50=>(q50.1,q50.2)) fun y49=>(aR (((q24.1.args++([y41.1])).length+1)*136<=140737488355328) (u25 ((aA.mk q24.1.op q24.1.not q24.1.table q24.1.name q24.1.n q24.1.v_ ((q24.1.args++([y41.1]))++([y49.1])) q24.1.sub),false,y49.2)))))))) (join (fun(u58:aA×aD->Option (PX (Int×aD) (aA×aD)))=>(call (cE (bm #[69,76,83,69]) q31.2) fun y60=>(aE y60.1 (bK (F.p15_1 y60.2) (fun q64=>(q64.1,q64.2)) fun y63=>(aR ((q24.1.args.length+1)*136<=140737488355328) (u58 ((aA.mk q24.1.op q24.1.not q24.1.table q24.1.name (i64.wrap (q24.1.n+2)) q24.1.v_ (q24.1.args++([y63.1])) q24.1.sub),y63.2)))) (u58 (q24.1,y60.2))))) (fun(q57:aA×aD)=>(bK (fE (bm #[69,78,68]) q57.2) (fun q69=>(q69.1,q69.2)) fun y68=>(some (PX.ok (q57.1,y68)))))))))
def mG (n:Int) (vs:List aA):aA:=aA.mk 29 false bO bO n zV vs []
def VY {x:Tk} (hA:At l i (x::T)) (h0:aT (x::T) jA=true) (h1:aT T kX=true):yT F (aD.mk l (i:Int) p)=cF (vQ F) bQ (mG 0 [],true,aD.mk l ((i+1:Nat):Int) p):=by
 unfold yT;rw[show fE _ _=_ from oE hA h0,cH,bY,lT hA.next,aN];dsimp only;rw[show((gC T).data.toList==(bm #[87,72,69,78]).data.toList)=true from h1,fM,aQ];rfl
def VX {x:Tk} {j:Nat} {v:aA} (hA:At l i (x::T)) (h0:aT (x::T) jA=true) (h1:aT T kX=false) (e:F.p15_1 (aD.mk l ((i+1:Nat):Int) p)=some (.ok (v,aD.mk l (j:Int) p'))):yT F (aD.mk l (i:Int) p)=cF (vQ F) bQ (mG 1 [v],true,aD.mk l (j:Int) p'):=by
 unfold yT;rw[show fE _ _=_ from oE hA h0,cH,bY,lT hA.next,aN];dsimp only;rw[show((gC T).data.toList==(bm #[87,72,69,78]).data.toList)=false from h1,fT,bL,e,cH,bV (by decide)];rfl
def ND {x y:Tk} {e c r:aA} {first:Bool} (h0:aT (x::T) kX=true) (hc:fP F.p15_1 T p c (y::T1) p1) (h1:aT (y::T1) tC=true) (hr:fP F.p15_1 T1 p1 r T' p') (hl:(e.args.length+2)*136<=140737488355328):
 ∀l i,At l i (x::T)->∃j:Nat,At l j T'∧∀u,vQ F u (e,first,aD.mk l (i:Int) p)=u (aA.mk e.op e.not e.table e.name e.n e.v_ (e.args++[c]++[r]) e.sub,false,aD.mk l (j:Int) p'):=by
 intro l i hA;obtain⟨j,hj,e1⟩:=hc l (i+1) hA.next;obtain⟨k,hk,e2⟩:=hr l (j+1) hj.next;refine⟨k,hk,fun u=>?_⟩;unfold vQ;dsimp only;rw[bY];cases first with
 |true=>
  rw[bL];dsimp only;rw[bL,show fE _ _=_ from oE hA h0,cH,e1,cH,bV (by omega),show fE _ _=_ from oE hj h1,cH,e2,cH,bV (by simp only[bH,bF,bS];omega)]
 |false=>
  rw[aQ,lT hA,aN];dsimp only;rw[show((gC (x::T)).data.toList==(bm #[87,72,69,78]).data.toList)=true from h0,bL,show fE _ _=_ from oE hA h0,cH,e1,cH,bV (by omega),show fE _ _=_ from oE hj h1,cH,e2,cH,bV (by simp only[bH,bF,bS];omega)]
def SL {x:Tk} {e:aA} {u} (hA:At l i (x::T)) (h0:aT (x::T) kX=false) (h1:aT (x::T) qJ=false) (h2:aT (x::T) iO=true):vQ F u (e,false,aD.mk l (i:Int) p)=some (.ok (e,aD.mk l ((i+1:Nat):Int) p)):=by
 unfold vQ;dsimp only;rw[bY,aQ,lT hA,aN];dsimp only;rw[show((gC (x::T)).data.toList==(bm #[87,72,69,78]).data.toList)=false from h0,aQ,bY,show cE _ _=_ from dM hA h1,aN];dsimp only;rw[aQ,show fE _ _=_ from oE hA h2,cH]
def PE {x y:Tk} {e v:aA} {j:Nat} {u} (hA:At l i (x::T)) (h0:aT (x::T) kX=false) (h1:aT (x::T) qJ=true) (e1:F.p15_1 (aD.mk l ((i+1:Nat):Int) p)=some (.ok (v,aD.mk l (j:Int) p'))) (hj:At l j (y::T')) (h2:aT (y::T') iO=true) (hl:(e.args.length+1)*136<=140737488355328):vQ F u (e,false,aD.mk l (i:Int) p)=some (.ok (aA.mk e.op e.not e.table e.name (i64.wrap (e.n+2)) e.v_ (e.args++[v]) e.sub,aD.mk l ((j+1:Nat):Int) p')):=by
 unfold vQ;dsimp only;rw[bY,aQ,lT hA,aN];dsimp only;rw[show((gC (x::T)).data.toList==(bm #[87,72,69,78]).data.toList)=false from h0,aQ,bY,show cE _ _=_ from fU hA h1,aN];dsimp only;rw[bL,e1,cH,bV hl];dsimp only;rw[show fE _ _=_ from oE hj h2,cH]
end
section
variable {l:List aP} {i N M:Nat} {T T' T1 T2 T3 T4:List Tk} {p p' p1 p2 p3 p4:Int} {F:bD} {α:Type}
inductive Cv (F:bD):List Tk->Int->Nat->List aA->List Tk->Int->Prop where
 |nil {T:List Tk} {p:Int}:Cv F T p 0 [] T p
 |cons {x y:Tk} {T T1 T2 T':List Tk} {p p1 p2 p':Int} {c r:aA} {n:Nat} {vs:List aA}:aT (x::T) kX=true->fP F.p15_1 T p c (y::T1) p1->aT (y::T1) tC=true->fP F.p15_1 T1 p1 r T2 p2->Cv F T2 p2 n vs T' p'->Cv F (x::T) p (n+1) (c::r::vs) T' p'
def Yv {k:Nat} {vs:List aA} (h:Cv F T p k vs T' p'):∀(n0:Int) (acc:List aA) (first:Bool) (m:Nat),(acc.length+vs.length+2)*136<=140737488355328->∀l i,At l i T->
 ∃j:Nat,At l j T'∧cF (vQ F) (m+k) (mG n0 acc,first,aD.mk l (i:Int) p)=cF (vQ F) m (mG n0 (acc++vs),(first&&k==0),aD.mk l (j:Int) p'):=by
 induction h with
 |nil=>
  intro n0 acc first m hsz l i hA
  refine⟨i,hA,?_⟩;have e1:(first&&((0:Nat)==0))=first:=by cases first<;>rfl
  have e2:acc++[]=acc:=gL acc;have e3:m+0=m:=rfl;rw[e1,e2,e3]
 |cons h0 hc h1 hr hm ih=>
  rename_i x y T0 T1' T2' T'' q0 q1 q2 q' c r n vs;intro n0 acc first m hsz l i hA
  simp only[bF] at hsz;have hq:acc.length+2<=acc.length+(vs.length+1+1)+2:=by clear hsz ih hm hr hc hA;omega
  have hh:((mG n0 acc).args.length+2)*136<=140737488355328:=xX (rL 136 hq) hsz;obtain⟨j,hj,e⟩:=ND (e:=mG n0 acc) (first:=first) h0 hc h1 hr hh l i hA;obtain⟨j',hj',e'⟩:=ih n0 (acc++[c]++[r]) false m (by simp only[bH,bF,bS];rw[show acc.length+(0+1)+(0+1)+vs.length+2=acc.length+(vs.length+1+1)+2 by clear hsz ih hm hr hc hA e hh hq;omega];exact hsz) l j hj;refine⟨j',hj',?_⟩;rw[show m+(n+1)=(m+n)+1 from rfl,eX,e];rw[show aA.mk (mG n0 acc).op (mG n0 acc).not (mG n0 acc).table (mG n0 acc).name (mG n0 acc).n (mG n0 acc).v_ ((mG n0 acc).args++[c]++[r]) (mG n0 acc).sub=mG n0 (acc++[c]++[r]) from rfl,e'];have e3:acc++[c]++[r]++vs=acc++c::r::vs:=by simp
  rw[e3];cases first<;>simp
def Pv (F:bD) (T:List Tk) (p:Int) (o:List aA) (T':List Tk) (p':Int):Prop:=
 (∃x,o=[]∧T=x::T'∧aT T kX=false∧aT T qJ=false∧aT T iO=true∧p'=p)∨
 ∃x y T1 v,o=[v]∧T=x::T1∧aT T kX=false∧aT T qJ=true∧fP F.p15_1 T1 p v (y::T') p'∧aT (y::T') iO=true
def CB {n0:Int} {vs o:List aA} (hn:0<=n0∧n0<=1) (hsz:(vs.length+1)*136<=140737488355328) (h:Pv F T p o T' p'):∀l i,At l i T->∃j:Nat,At l j T'∧∀u,vQ F u (mG n0 vs,false,aD.mk l (i:Int) p)=some (.ok (mG (n0+2*o.length) (vs++o),aD.mk l (j:Int) p')):=by
 intro l i hA;rcases h with⟨x,rfl,rfl,h0,h1,h2,rfl⟩|⟨x,y,T1,v,rfl,rfl,h0,h1,hv,h2⟩
 ·refine⟨_,hA.next,fun u=>?_⟩;rw[SL hA h0 h1 h2,gL];simp
 ·obtain⟨j,hj,e⟩:=hv l (i+1) hA.next;refine⟨_,hj.next,fun u=>?_⟩;have hh:((mG n0 vs).args.length+1)*136<=140737488355328:=by simp only[mG];exact hsz
  rw[PE hA h0 h1 e hj h2 hh];rw[show(mG n0 vs).n=n0 from rfl,show i64.wrap (n0+2)=n0+2 from nK (by omega) (by omega)];rfl
def PD {x:Tk} {k:Nat} {vs o:List aA} (h0:aT (x::T) jA=true) (h1:aT T kX=true) (hm:∀n,N<=n->Cv (bD.fix n) T p (k+1) vs T1 p1) (hk:k<1000000) (hl:vs.length<=1000000) (he:∀n,N<=n->Pv (bD.fix n) T1 p1 o T' p'):aZ (·.p225_1) (N+1) (x::T) p (mG (0+2*o.length) ([]++vs++o)) T' p':=aZ.succ (b:=yT) (fun _=>rfl) fun n hn=>by
 intro l i hA;obtain⟨j,hj,e⟩:=Yv (hm n hn) 0 [] true (4611686018427387904-(k+1)-1+1) (by simp only[bS];omega) l (i+1) hA.next;obtain⟨j',hj',e'⟩:=CB (n0:=0) (vs:=[]++vs) (by omega) (by simp only[iY];omega) (he n hn) l j hj;refine⟨j',hj',?_⟩;rw[VY hA h0 h1,show bQ=4611686018427387904-(k+1)-1+1+(k+1) by unfold bQ;omega,e,eX];exact e' _
def NC {x:Tk} {k:Nat} {v:aA} {vs o:List aA} (h0:aT (x::T) jA=true) (h1:aT T kX=false) (hv:aZ (·.p15_1) N T p v T2 p2) (hm:∀n,N<=n->Cv (bD.fix n) T2 p2 (k+1) vs T1 p1) (hk:k<1000000) (hl:vs.length<=1000000) (he:∀n,N<=n->Pv (bD.fix n) T1 p1 o T' p'):aZ (·.p225_1) (N+1) (x::T) p (mG (1+2*o.length) ([v]++vs++o)) T' p':=aZ.succ (b:=yT) (fun _=>rfl) fun n hn=>by
 intro l i hA;obtain⟨j0,hj0,e0⟩:=hv n hn l (i+1) hA.next
 try dsimp only at e0
 obtain⟨j,hj,e⟩:=Yv (hm n hn) 1 [v] true (4611686018427387904-(k+1)-1+1) (by simp only[bF,bS];omega) l j0 hj0;obtain⟨j',hj',e'⟩:=CB (n0:=1) (vs:=[v]++vs) (by omega) (by simp only[bH,bF,bS];omega) (he n hn) l j hj;refine⟨j',hj',?_⟩;rw[VX hA h0 h1 e0,show bQ=4611686018427387904-(k+1)-1+1+(k+1) by unfold bQ;omega,e,eX];exact e' _
end
section
variable {l:List aP} {i N M:Nat} {T T' T1 T2 T3 T4:List Tk} {p p' p1 p2 p3 p4:Int} {F:bD} {α:Type}
abbrev kL:ByteArray:=bm #[85,78,73,79,78]
abbrev sB:ByteArray:=bm #[65,76,76]
abbrev nJ:ByteArray:=bm #[73,78,84,69,82,83,69,67,84]
abbrev oC:ByteArray:=bm #[69,88,67,69,80,84]
def yZ (T:List Tk) (c:Int) (b:Bool) (T':List Tk):Prop:=∀l i (p:Int),At l i T->∃j:Nat,At l j T'∧xE (aD.mk l (i:Int) p)=some (c,b,aD.mk l (j:Int) p)
def SI (h0:aT T kL=false) (h1:aT T nJ=false) (h2:aT T oC=false):yZ T 0 false T:=by
 intro l i p hA;refine⟨i,hA,?_⟩;unfold xE;rw[show cE _ _=_ from dM hA h0,aN];dsimp only;rw[aQ,show cE _ _=_ from dM hA h1,aN];dsimp only;rw[aQ,show cE _ _=_ from dM hA h2,aN];dsimp only;rw[aQ]
def OZ {x:Tk} (h0:aT (x::T) kL=true) (h1:aT T sB=false):yZ (x::T) 1 true T:=by
 intro l i p hA;refine⟨_,hA.next,?_⟩;unfold xE;rw[show cE _ _=_ from fU hA h0,aN];dsimp only;rw[bL,show cE _ _=_ from dM hA.next h1,aN];dsimp only;rw[aQ]
def VR {x y:Tk} (h0:aT (x::y::T) kL=true) (h1:aT (y::T) sB=true):yZ (x::y::T) 2 true T:=by
 intro l i p hA;refine⟨_,hA.next.next,?_⟩;unfold xE;rw[show cE _ _=_ from fU hA h0,aN];dsimp only;rw[bL,show cE _ _=_ from fU hA.next h1,aN];dsimp only;rw[bL]
def LE {x:Tk} (h0:aT (x::T) kL=false) (h1:aT (x::T) nJ=true):yZ (x::T) 3 true T:=by
 intro l i p hA;refine⟨_,hA.next,?_⟩;unfold xE;rw[show cE _ _=_ from dM hA h0,aN];dsimp only;rw[aQ,show cE _ _=_ from fU hA h1,aN];dsimp only;rw[bL]
def MZ {x:Tk} (h0:aT (x::T) kL=false) (h1:aT (x::T) nJ=false) (h2:aT (x::T) oC=true):yZ (x::T) 4 true T:=by
 intro l i p hA;refine⟨_,hA.next,?_⟩;unfold xE;rw[show cE _ _=_ from dM hA h0,aN];dsimp only;rw[aQ,show cE _ _=_ from dM hA h1,aN];dsimp only;rw[aQ,show cE _ _=_ from fU hA h2,aN];dsimp only;rw[bL]
def Ky (F:bD) (w:ByteArray) (T:List Tk) (p:Int) (o:List aA) (T':List Tk) (p':Int):Prop:=
 (o=[]∧aT T w=false∧T'=T∧p'=p)∨∃x T1 e,T=x::T1∧aT (x::T1) w=true∧fP F.p15_1 T1 p e T' p'∧o=[e]
end
section
variable {l:List aP} {i N M:Nat} {T T' T1 T2 T3 T4:List Tk} {p p' p1 p2 p3 p4:Int} {F:bD} {α:Type}
abbrev oI:ByteArray:=bm #[70,82,79,77]
abbrev oF:ByteArray:=bm #[87,72,69,82,69]
abbrev lF:ByteArray:=bm #[71,82,79,85,80]
abbrev lB:ByteArray:=bm #[66,89]
abbrev oB:ByteArray:=bm #[72,65,86,73,78,71]
def Vn (F:bD) (T:List Tk) (p:Int) (o:List aO) (T':List Tk) (p':Int):Prop:=
 (o=[]∧aT T oI=false∧T'=T∧p'=p)∨∃x T1,T=x::T1∧aT (x::T1) oI=true∧fP F.p134_1 T1 p o T' p'
def ZT {o:List aO} (h:Vn F T p o T' p'):∀l i,At l i T->∃j:Nat,At l j T'∧∀(d:Bool) (its:List bA) (K:aK×aD->Option (PX (Int×aD) (aK×aD))),
 (call (cE oI (aD.mk l (i:Int) p)) fun y19=>(aE y19.1 (bK (F.p134_1 y19.2) (fun q22=>(q22.1,q22.2)) fun y21=>(K ((aK.mk 0 d its y21.1 [] [] [] []),y21.2))) (K ((aK.mk 0 d its [] [] [] [] []),y19.2))))=K (aK.mk 0 d its o [] [] [] [],aD.mk l (j:Int) p'):=by
 intro l i hA;rcases h with⟨rfl,h0,rfl,rfl⟩|⟨x,T1,rfl,h0,hv⟩
 ·refine⟨i,hA,fun d its K=>?_⟩;rw[show cE _ _=_ from dM hA h0,aN];dsimp only;rw[aQ]
 ·obtain⟨j,hj,e⟩:=hv l (i+1) hA.next;refine⟨j,hj,fun d its K=>?_⟩;rw[show cE _ _=_ from fU hA h0,aN];dsimp only;rw[bL,e,cH]
def SU {o:List aA} (h:Ky F oF T p o T' p'):∀l i,At l i T->∃j:Nat,At l j T'∧∀(P:aK) (hP:P.where_=[]) (K:aK×aD->Option (PX (Int×aD) (aK×aD))),
 (call (cE oF (aD.mk l (i:Int) p)) fun y27=>(aE y27.1 (bK (F.p15_1 y27.2) (fun q30=>(q30.1,q30.2)) fun y29=>(K ((aK.mk P.comp P.distinct P.items P.from_ ([y29.1]) P.group P.having P.values),y29.2))) (K (P,y27.2))))=K (aK.mk P.comp P.distinct P.items P.from_ o P.group P.having P.values,aD.mk l (j:Int) p'):=by
 intro l i hA;rcases h with⟨rfl,h0,rfl,rfl⟩|⟨x,T1,v,rfl,h0,hv,rfl⟩
 ·refine⟨i,hA,fun P hP K=>?_⟩;rw[show cE _ _=_ from dM hA h0,aN];dsimp only;obtain⟨a,b,c,d,e,f,g,h⟩:=P;simp only at hP;subst hP;rw[aQ]
 ·obtain⟨j,hj,e⟩:=hv l (i+1) hA.next;refine⟨j,hj,fun P hP K=>?_⟩;rw[show cE _ _=_ from fU hA h0,aN];dsimp only;rw[bL,e,cH]
def Ue (F:bD) (T:List Tk) (p:Int) (gs hs:List aA) (T':List Tk) (p':Int):Prop:=
 (gs=[]∧hs=[]∧aT T lF=false∧T'=T∧p'=p)∨∃x y T1 T2 p2,T=x::y::T1∧aT (x::y::T1) lF=true∧aT (y::T1) lB=true∧fP F.p135_1 T1 p gs T2 p2∧Ky F oB T2 p2 hs T' p'
def VJ {gs hs:List aA} (h:Ue F T p gs hs T' p'):∀l i,At l i T->∃j:Nat,At l j T'∧∀(P:aK) (hP:P.group=[]) (hP2:P.having=[]) (K:aK×aD->Option (PX (Int×aD) (aK×aD))),
 (call (cE lF (aD.mk l (i:Int) p)) fun y35=>(aE y35.1 (bK (fE lB y35.2) (fun q38=>(q38.1,q38.2)) fun y37=>(bK (F.p135_1 y37) (fun q40=>(q40.1,q40.2)) fun y39=>(call (cE oB y39.2) fun y41=>(aE y41.1 (bK (F.p15_1 y41.2) (fun q44=>(q44.1,q44.2)) fun y43=>(K ((aK.mk P.comp P.distinct P.items P.from_ P.where_ y39.1 ([y43.1]) P.values),y43.2))) (K ((aK.mk P.comp P.distinct P.items P.from_ P.where_ y39.1 P.having P.values),y41.2)))))) (K (P,y35.2))))=K (aK.mk P.comp P.distinct P.items P.from_ P.where_ gs hs P.values,aD.mk l (j:Int) p'):=by
 intro l i hA;rcases h with⟨rfl,rfl,h0,rfl,rfl⟩|⟨x,y,T1,T2,q,rfl,h0,h1,hv,ho⟩
 ·refine⟨i,hA,fun P hP hP2 K=>?_⟩;obtain⟨a,b,c,d,e,f,g,h⟩:=P;simp only at hP hP2;subst hP hP2;rw[show cE _ _=_ from dM hA h0,aN];dsimp only;rw[aQ]
 ·obtain⟨j,hj,e⟩:=hv l (i+1+1) hA.next.next;rcases ho with⟨rfl,g0,rfl,rfl⟩|⟨z,T3,v,rfl,g0,hw,rfl⟩
  ·refine⟨j,hj,fun P hP hP2 K=>?_⟩;rw[show cE _ _=_ from fU hA h0,aN];dsimp only;rw[bL,show fE _ _=_ from oE hA.next h1,cH,e,cH];dsimp only;rw[show cE _ _=_ from dM hj g0,aN];dsimp only;rw[aQ,hP2]
  ·obtain⟨k,hk,e2⟩:=hw l (j+1) hj.next;refine⟨k,hk,fun P hP hP2 K=>?_⟩;rw[show cE _ _=_ from fU hA h0,aN];dsimp only;rw[bL,show fE _ _=_ from oE hA.next h1,cH,e,cH];dsimp only;rw[show cE _ _=_ from fU hj g0,aN];dsimp only;rw[bL,e2,cH]
def HS (T:List Tk) (d:Bool) (T':List Tk):Prop:=(d=true∧∃y,T=y::T'∧aT T kT=true)∨(d=false∧T'=T∧aT T kT=false∧aT T sB=false)
def JA:aK×aD->Option (PX (Int×aD) (aK×aD)):=(fun(q33:aK×aD)=>(some (PX.ok (q33.1,q33.2))))
def Wq (F:bD):aK×aD->Option (PX (Int×aD) (aK×aD)):=(fun(q25:aK×aD)=>(join (fun(u34:aK×aD->Option (PX (Int×aD) (aK×aD)))=>(call (cE (bm #[71,82,79,85,80]) q25.2) fun y35=>(aE y35.1 (bK (fE (bm #[66,89]) y35.2) (fun q38=>(q38.1,q38.2)) fun y37=>(bK (F.p135_1 y37) (fun q40=>(q40.1,q40.2)) fun y39=>(call (cE (bm #[72,65,86,73,78,71]) y39.2) fun y41=>(aE y41.1 (bK (F.p15_1 y41.2) (fun q44=>(q44.1,q44.2)) fun y43=>(u34 ((aK.mk q25.1.comp q25.1.distinct q25.1.items q25.1.from_ q25.1.where_ y39.1 ([y43.1]) q25.1.values),y43.2))) (u34 ((aK.mk q25.1.comp q25.1.distinct q25.1.items q25.1.from_ q25.1.where_ y39.1 q25.1.having q25.1.values),y41.2)))))) (u34 (q25.1,y35.2))))) (fun(q33:aK×aD)=>(some (PX.ok (q33.1,q33.2))))))
def oY (F:bD):aK×aD->Option (PX (Int×aD) (aK×aD)):=(fun(q17:aK×aD)=>(join (fun(u26:aK×aD->Option (PX (Int×aD) (aK×aD)))=>(call (cE (bm #[87,72,69,82,69]) q17.2) fun y27=>(aE y27.1 (bK (F.p15_1 y27.2) (fun q30=>(q30.1,q30.2)) fun y29=>(u26 ((aK.mk q17.1.comp q17.1.distinct q17.1.items q17.1.from_ ([y29.1]) q17.1.group q17.1.having q17.1.values),y29.2))) (u26 (q17.1,y27.2))))) (fun(q25:aK×aD)=>(join (fun(u34:aK×aD->Option (PX (Int×aD) (aK×aD)))=>(call (cE (bm #[71,82,79,85,80]) q25.2) fun y35=>(aE y35.1 (bK (fE (bm #[66,89]) y35.2) (fun q38=>(q38.1,q38.2)) fun y37=>(bK (F.p135_1 y37) (fun q40=>(q40.1,q40.2)) fun y39=>(call (cE (bm #[72,65,86,73,78,71]) y39.2) fun y41=>(aE y41.1 (bK (F.p15_1 y41.2) (fun q44=>(q44.1,q44.2)) fun y43=>(u34 ((aK.mk q25.1.comp q25.1.distinct q25.1.items q25.1.from_ q25.1.where_ y39.1 ([y43.1]) q25.1.values),y43.2))) (u34 ((aK.mk q25.1.comp q25.1.distinct q25.1.items q25.1.from_ q25.1.where_ y39.1 q25.1.having q25.1.values),y41.2)))))) (u34 (q25.1,y35.2))))) (fun(q33:aK×aD)=>(some (PX.ok (q33.1,q33.2))))))))
def OH {x:Tk} {d:Bool} {its:List bA} {fs:List aO} {ws gs hs:List aA} (h0:aT (x::T) oA=false) (h1:aT (x::T) oT=true) (hd:HS T d T1) (hi:aZ (·.p132_1) N T1 p its T2 p2) (hf:∀n,N<=n->Vn (bD.fix n) T2 p2 fs T3 p3) {T5:List Tk} {p5:Int} (hw:∀n,N<=n->Ky (bD.fix n) oF T3 p3 ws T5 p5) (hg:∀n,N<=n->Ue (bD.fix n) T5 p5 gs hs T' p'):aZ (·.p91_1) (N+1) (x::T) p (aK.mk 0 d its fs ws gs hs []) T' p':=aZ.succ (b:=Ap) (fun _=>rfl) fun n hn=>by
 intro l i hA;have key:∀i1,At l i1 T1->∃i5:Nat,At l i5 T'∧(bK ((bD.fix n).p132_1 (aD.mk l (i1:Int) p)) (fun q14=>(q14.1,q14.2)) fun y13=>(call (cE oI y13.2) fun y19=>(aE y19.1 (bK ((bD.fix n).p134_1 y19.2) (fun q22=>(q22.1,q22.2)) fun y21=>(oY (bD.fix n) ((aK.mk 0 d y13.1 y21.1 [] [] [] []),y21.2))) (oY (bD.fix n) ((aK.mk 0 d y13.1 [] [] [] [] []),y19.2)))))=some (.ok (aK.mk 0 d its fs ws gs hs [],aD.mk l (i5:Int) p')):=by
  intro i1 hi1;obtain⟨i2,hi2,ei⟩:=hi n hn l i1 hi1
  try dsimp only at ei
  obtain⟨i3,hi3,ef⟩:=ZT (hf n hn) l i2 hi2;obtain⟨i4,hi4,ew⟩:=SU (hw n hn) l i3 hi3;obtain⟨i5,hi5,eg⟩:=VJ (hg n hn) l i4 hi4;refine⟨i5,hi5,?_⟩;rw[ei,cH];refine(ef d its (oY (bD.fix n))).trans ?_;refine jF (show oY (bD.fix n) _=_ from ew (aK.mk 0 d its fs [] [] [] []) rfl (Wq (bD.fix n))) ?_;refine jF (show Wq (bD.fix n) _=_ from eg (aK.mk 0 d its fs ws [] [] []) rfl rfl JA) ?_;rfl
 rcases hd with⟨rfl,y,rfl,hy⟩|⟨rfl,rfl,hy,hz⟩
 ·obtain⟨i5,hi5,ek⟩:=key (i+1+1) hA.next.next;refine⟨i5,hi5,?_⟩;unfold Ap;rw[show cE _ _=_ from dM hA h0,aN];dsimp only;rw[aQ,show fE _ _=_ from oE hA h1,cH,show cE _ _=_ from fU hA.next hy,aN,bY];exact ek
 ·obtain⟨i5,hi5,ek⟩:=key (i+1) hA.next;refine⟨i5,hi5,?_⟩;unfold Ap;rw[show cE _ _=_ from dM hA h0,aN];dsimp only;rw[aQ,show fE _ _=_ from oE hA h1,cH,show cE _ _=_ from dM hA.next hy,aN,bY];rw[fT,bL,show cE _ _=_ from dM hA.next hz,aN];exact ek
end
section
variable {l:List aP} {i N M:Nat} {T T' T1 T2 T3 T4:List Tk} {p p' p1 p2 p3 p4:Int} {F:bD} {α:Type}
abbrev mE:ByteArray:=bm #[79,82,68,69,82]
abbrev kM:ByteArray:=bm #[76,73,77,73,84]
abbrev kU:ByteArray:=bm #[79,70,70,83,69,84]
def Av (F:bD):(aF×aD->Option (PX (Int×aD) (aF×aD)))->aF×aD->Option (PX (Int×aD) (aF×aD)):=fun u11 q10=>(call (xE q10.2) fun y13=>(aE (!y13.2.1) (join (fun(u20:aF×aD->Option (PX (Int×aD) (aF×aD)))=>(call (cE (bm #[79,82,68,69,82]) y13.2.2) fun y22=>(aE y22.1 (bK (fE (bm #[66,89]) y22.2) (fun q25=>(q25.1,q25.2)) fun y24=>(bK (F.p94_1 y24) (fun q27=>(q27.1,q27.2)) fun y26=>(u20 ((aF.mk q10.1.with_ q10.1.parts y26.1 q10.1.limit q10.1.offset),y26.2)))) (u20 (q10.1,y22.2))))) (fun(q19:aF×aD)=>(join (fun(u32:aF×aD->Option (PX (Int×aD) (aF×aD)))=>(call (cE (bm #[76,73,77,73,84]) q19.2) fun y34=>(aE y34.1 (bK (F.p15_1 y34.2) (fun q37=>(q37.1,q37.2)) fun y36=>(call (cE (bm #[79,70,70,83,69,84]) y36.2) fun y38=>(aE y38.1 (bK (F.p15_1 y38.2) (fun q41=>(q41.1,q41.2)) fun y40=>(u32 ((aF.mk q19.1.with_ q19.1.parts q19.1.order ([y36.1]) ([y40.1])),y40.2))) (u32 ((aF.mk q19.1.with_ q19.1.parts q19.1.order ([y36.1]) q19.1.offset),y38.2))))) (u32 (q19.1,y34.2))))) (fun(q31:aF×aD)=>(some (PX.ok (q31.1,q31.2))))))) (bK (F.p91_1 y13.2.2) (fun q43=>(q43.1,q43.2)) fun y42=>(aR ((q10.1.parts.length+1)*160<=140737488355328) (u11 ((aF.mk q10.1.with_ (q10.1.parts++([(aK.mk y13.1 y42.1.distinct y42.1.items y42.1.from_ y42.1.where_ y42.1.group y42.1.having y42.1.values)])) q10.1.order q10.1.limit q10.1.offset),y42.2))))))
def e7 (F:bD) (m0:aD):Ka F m0=bK (F.p91_1 m0) (fun q3=>(q3.1,q3.2)) fun y2=>cF (Av F) bQ (aF.mk [] [y2.1] [] [] [],y2.2):=rfl
def Qa (F:bD):aF×aD->Option (PX (Int×aD) (aF×aD)):=(fun(q19:aF×aD)=>(join (fun(u32:aF×aD->Option (PX (Int×aD) (aF×aD)))=>(call (cE (bm #[76,73,77,73,84]) q19.2) fun y34=>(aE y34.1 (bK (F.p15_1 y34.2) (fun q37=>(q37.1,q37.2)) fun y36=>(call (cE (bm #[79,70,70,83,69,84]) y36.2) fun y38=>(aE y38.1 (bK (F.p15_1 y38.2) (fun q41=>(q41.1,q41.2)) fun y40=>(u32 ((aF.mk q19.1.with_ q19.1.parts q19.1.order ([y36.1]) ([y40.1])),y40.2))) (u32 ((aF.mk q19.1.with_ q19.1.parts q19.1.order ([y36.1]) q19.1.offset),y38.2))))) (u32 (q19.1,y34.2))))) (fun(q31:aF×aD)=>(some (PX.ok (q31.1,q31.2))))))
def Ud (F:bD) (T:List Tk) (p:Int) (o:List aX) (T':List Tk) (p':Int):Prop:=
 (o=[]∧aT T mE=false∧T'=T∧p'=p)∨∃x y T1,T=x::y::T1∧aT (x::y::T1) mE=true∧aT (y::T1) lB=true∧fP F.p94_1 T1 p o T' p'
def Og (F:bD) (T:List Tk) (p:Int) (a b:List aA) (T':List Tk) (p':Int):Prop:=
 (a=[]∧b=[]∧aT T kM=false∧T'=T∧p'=p)∨∃x T1 e T2 p2,T=x::T1∧aT (x::T1) kM=true∧fP F.p15_1 T1 p e T2 p2∧a=[e]∧Ky F kU T2 p2 b T' p'
def BN {a b:List aA} (h:Og F T p a b T' p'):∀l i,At l i T->∃j:Nat,At l j T'∧∀(ps:List aK) (os:List aX),Qa F (aF.mk [] ps os [] [],aD.mk l (i:Int) p)=some (.ok (aF.mk [] ps os a b,aD.mk l (j:Int) p')):=by
 intro l i hA;rcases h with⟨rfl,rfl,h0,rfl,rfl⟩|⟨x,T1,v,T2,q,rfl,h0,hv,rfl,ho⟩
 ·refine⟨i,hA,fun ps os=>?_⟩;unfold Qa;dsimp only;rw[bY,show cE _ _=_ from dM hA h0,aN];rfl
 ·obtain⟨j,hj,e⟩:=hv l (i+1) hA.next;rcases ho with⟨rfl,g0,rfl,rfl⟩|⟨z,T3,w,rfl,g0,hw,rfl⟩
  ·refine⟨j,hj,fun ps os=>?_⟩;unfold Qa;dsimp only;rw[bY,show cE _ _=_ from fU hA h0,aN];dsimp only;rw[bL,e,cH];dsimp only;rw[show cE _ _=_ from dM hj g0,aN];rfl
  ·obtain⟨k,hk,e2⟩:=hw l (j+1) hj.next;refine⟨k,hk,fun ps os=>?_⟩;unfold Qa;dsimp only;rw[bY,show cE _ _=_ from fU hA h0,aN];dsimp only;rw[bL,e,cH];dsimp only;rw[show cE _ _=_ from fU hj g0,aN];dsimp only;rw[bL,e2,cH]
end
section
variable {l:List aP} {i N M:Nat} {T T' T1 T2 T3 T4:List Tk} {p p' p1 p2 p3 p4:Int} {F:bD} {α:Type}
def QY {os:List aX} {a b:List aA} (hc:yZ T 0 false T) (ho:Ud F T p os T1 p1) (hl:Og F T1 p1 a b T' p'):∀l i,At l i T->∃j:Nat,At l j T'∧∀(ps:List aK) u,Av F u (aF.mk [] ps [] [] [],aD.mk l (i:Int) p)=some (.ok (aF.mk [] ps os a b,aD.mk l (j:Int) p')):=by
 intro l i hA;obtain⟨i',hA',ec⟩:=hc l i p hA;rcases ho with⟨rfl,h0,rfl,rfl⟩|⟨x,y,T2,rfl,h0,h1,hv⟩
 ·obtain⟨j,hj,e⟩:=BN hl l i' hA';refine⟨j,hj,fun ps u=>?_⟩;unfold Av;dsimp only;rw[ec,aN];dsimp only;rw[fT,bL,bY,show cE _ _=_ from dM hA' h0,aN];dsimp only;rw[aQ];exact e ps []
 ·obtain⟨k,hk,e1⟩:=hv l (i'+1+1) hA'.next.next;obtain⟨j,hj,e⟩:=BN hl l k hk;refine⟨j,hj,fun ps u=>?_⟩;unfold Av;dsimp only;rw[ec,aN];dsimp only;rw[fT,bL,bY,show cE _ _=_ from fU hA' h0,aN];dsimp only;rw[bL,show fE _ _=_ from oE hA'.next h1,cH,e1,cH];exact e ps os
def uY (c:Int) (P:aK):aK:=aK.mk c P.distinct P.items P.from_ P.where_ P.group P.having P.values
inductive Fm (F:bD):List Tk->Int->List aK->List Tk->Int->Prop where
 |nil {T:List Tk} {p:Int}:Fm F T p [] T p
 |cons {T T1 T2 T':List Tk} {p p2 p':Int} {c:Int} {v:aK} {vs:List aK}:yZ T c true T1->fP F.p91_1 T1 p v T2 p2->Fm F T2 p2 vs T' p'->Fm F T p (uY c v::vs) T' p'
def OR {vs:List aK} (h:Fm F T p vs T' p'):∀(acc:List aK) (m:Nat),(acc.length+vs.length)*160<=140737488355328->∀l i,At l i T->
 ∃j:Nat,At l j T'∧cF (Av F) (m+vs.length) (aF.mk [] acc [] [] [],aD.mk l (i:Int) p)=cF (Av F) m (aF.mk [] (acc++vs) [] [] [],aD.mk l (j:Int) p'):=by
 induction h with
 |nil=>
  intro acc m hsz l i hA;refine⟨i,hA,?_⟩;have e2:acc++[]=acc:=gL acc;have e3:m+([]:List aK).length=m:=rfl;rw[e2,e3]
 |cons hc hr hm ih=>
  rename_i T0 T1' T2' T'' q0 q2 q' c v vs;intro acc m hsz l i hA;simp only[bF] at hsz;obtain⟨i',hA',ec⟩:=hc l i _ hA;obtain⟨j,hj,e⟩:=hr l i' hA';have hq:acc.length+1<=acc.length+(vs.length+1):=by clear hsz ih hm hr hc hA hA' ec e hj;omega
  have hh:(acc.length+1)*160<=140737488355328:=xX (rL 160 hq) hsz;obtain⟨j',hj',e'⟩:=ih (acc++[uY c v]) m (by simp only[bH,bF,bS];rw[show acc.length+(0+1)+vs.length=acc.length+(vs.length+1) by clear hsz ih hm hr hc hA hA' ec e hj hh hq;omega];exact hsz) l j hj;refine⟨j',hj',?_⟩;rw[bF,show m+(vs.length+1)=(m+vs.length)+1 from rfl,eX];have step:∀u,Av F u (aF.mk [] acc [] [] [],aD.mk l (i:Int) q0)=u (aF.mk [] (acc++[uY c v]) [] [] [],aD.mk l (j:Int) q2):=fun u=>by
   unfold Av;dsimp only;rw[ec,aN];dsimp only;rw[fM,aQ,e,cH,bV hh];rfl
  rw[step,e'];rw[fS];rfl
def MM {P:aK} {vs:List aK} {os:List aX} {a b:List aA} (h:aZ (·.p91_1) N T p P T1 p1) (hm:∀n,N<=n->Fm (bD.fix n) T1 p1 vs T2 p2) (hl:vs.length<=1000000) (hc:yZ T2 0 false T2) (ho:∀n,N<=n->Ud (bD.fix n) T2 p2 os T3 p3) (hlm:∀n,N<=n->Og (bD.fix n) T3 p3 a b T' p'):aZ (·.p50_1) (N+1) T p (aF.mk [] (P::vs) os a b) T' p':=aZ.succ (b:=Ka) (fun _=>rfl) fun n hn=>by
 intro l i hA;obtain⟨j,hj,e⟩:=h n hn l i hA
 try dsimp only at e
 have hsz:([P].length+vs.length)*160<=140737488355328:=by simp only[bF,bS];clear hA hj e hc;omega
 obtain⟨k,hk,e1⟩:=OR (hm n hn) [P] (4611686018427387904-vs.length-1+1) hsz l j hj;obtain⟨q,hq,e2⟩:=QY hc (ho n hn) (hlm n hn) l k hk;refine⟨q,hq,?_⟩;rw[e7,e,cH];dsimp only;rw[show bQ=4611686018427387904-vs.length-1+1+vs.length by unfold bQ;clear hsz hA hj e hc e1 hk hq e2;omega,e1,eX];exact e2 _ _
end
section
variable {l:List aP} {i N M:Nat} {T T' T1 T2 T3 T4:List Tk} {p p' p1 p2 p3 p4:Int} {F:bD} {α:Type}
abbrev Js:ByteArray:=bm #[87,73,84,72]
end
def XP {s y:ByteArray} (h:kA s=some (y,false)):y=bm #[]:=by
 unfold kA at h;obtain⟨y1,h1,h⟩:=cC h;rw[bY] at h;dsimp only at h;have T:∀b:Bool,aE b (some (bm #[],false)) (some (y1,true))=some (y,false)->y=bm #[]:=by
  intro b hb;cases b with
  |true=>cases hb;rfl
  |false=>cases hb
 cases hc:((y1.size:Int) != (s.size:Int)) with
 |true=>rw[hc,bL] at h;exact T _ h
 |false=>
 rw[hc,aQ] at h;cases hc2:(s.data.toList==(bm #[]).data.toList) with
 |true=>rw[hc2,bL] at h;exact T _ h
 |false=>
 rw[hc2,aQ] at h;obtain⟨y8,h8,h⟩:=cC h;cases hc3:decide (y8<(s.size:Int)) with
 |true=>rw[hc3,bL] at h;exact T _ h
 |false=>
 rw[hc3,aQ] at h;obtain⟨_,h⟩:=aV h;obtain⟨_,h⟩:=aV h;obtain⟨y12,h12,h⟩:=cC h;exact T _ h
def YO {s:ByteArray} (h:gX s=some true):∃y,kA s=some (y,false):=by
 unfold gX at h;rw[bY] at h;dsimp only at h;have T:∀b:Bool,aE b (some false) (call (kA s) fun y10=>(join (fun(u13:Bool->Option Bool)=>(aE (!y10.2) (call (Ae s 0) fun y15=>(u13 (y15==(s.size:Int)))) (u13 false))) (fun(q12:Bool)=>(some q12))))=some true->∃y,kA s=some (y,false):=by
  intro b hb;cases b with
  |true=>cases hb
  |false=>
   rw[aQ] at hb;obtain⟨y10,h10,hb⟩:=cC hb;rw[bY] at hb;obtain⟨a,c⟩:=y10;cases c with
   |false=>exact⟨a,h10⟩
   |true=>cases hb
 cases hc:(s.data.toList==(bm #[]).data.toList) with
 |true=>rw[hc,bL] at h;exact T _ h
 |false=>
 rw[hc,aQ] at h;cases hc2:decide ((s.size:Int)>32) with
 |true=>rw[hc2,bL] at h;exact T _ h
 |false=>
 rw[hc2,aQ] at h;obtain⟨_,h⟩:=aV h;obtain⟨y8,h8,h⟩:=cC h;exact T _ h
def US {s:ByteArray} (h:gX s=some true):tR s=bm #[]:=by
 obtain⟨y,hy⟩:=YO h;unfold tR;rw[hy];exact XP hy
def Zr {s w:ByteArray} {T:List Tk} (h:gX s=some true) (hw:(([]:List UInt8)==w.data.toList)=false):aT ((1,s)::T) w=false:=by
 unfold aT gC;simp only[if_true];rw[US h];exact hw
structure eA where
 tx:Bool->aA->List Pc
 se:Bool->aF->List Pc
abbrev pw (b:Bool) (s:ByteArray):Pc:=(b,(1,s))
abbrev ps (b:Bool) (s:ByteArray):Pc:=(b,(6,s))
def Ip (n:Nat) (nt:Bool):Bool:=n==1||n==2||n==3||n==28||n==29||n==30||n==32||(n==27&& !nt)
def nL (e:aA):Bool:=Ip e.op.toNat e.not
def aW (F:eA) (b:Bool) (e:aA):List Pc:=if nL e then F.tx b e else ps b cL::(F.tx false e++[ps false cB])
def fO {α:Type} (f:Bool->α->List Pc) (l:List α):List Pc:=l.flatMap fun x=>ps false eU::f true x
def cK {α:Type} (f:Bool->α->List Pc) (b:Bool):List α->List Pc
 |[]=>[]
 |x::l=>f b x++fO f l
def iV (n:Bool):List Pc:=if n then [pw true cN] else []
def kP (n:Int):ByteArray:=ByteArray.mk (Lib.decDigits n.toNat).toArray
def jR (v:aH):Tk:=if v.kind=0 then(1,rU) else if v.kind=1 then(2,kP v.int) else if v.kind=2 then(3,v.text) else(4,v.text)
def oW:Nat->List Pc
 |7=>[ps true (bm #[43])]
 |8=>[ps true (bm #[45])]
 |9=>[ps true (bm #[42])]
 |10=>[ps true (bm #[47])]
 |11=>[ps true (bm #[37])]
 |12=>[ps true (bm #[124,124])]
 |13=>[ps true (bm #[61])]
 |14=>[ps true (bm #[60,62])]
 |15=>[ps true (bm #[60])]
 |16=>[ps true (bm #[60,61])]
 |17=>[ps true (bm #[62])]
 |18=>[ps true (bm #[62,61])]
 |19=>[pw true jM]
 |20=>[pw true jM,pw true cN]
 |21=>[pw true jB]
 |22=>[pw true Dr]
 |23=>[pw true jZ]
 |24=>[pw true kY]
 |_=>[]
def eQ (F:eA):List aA->List Pc
 |c::r::l=>pw true kX::(F.tx true c++(pw true tC::(F.tx true r++eQ F l)))
 |_=>[]
def nP (F:eA) (o:List aA):List Pc:=match o with
 |x::_=>pw true qJ::F.tx true x
 |[]=>[]
def caseA (n:Nat) (l:List aA):List aA:=if n%2=1 then l.take 1 else []
def iH (n:Nat) (l:List aA):List aA:=let m:=if n%2=1 then l.drop 1 else l;if n/2%2=1 then m.take (m.length-1) else m
def iK (n:Nat) (l:List aA):List aA:=if n/2%2=1 then l.drop (l.length-1) else []
def dX (F:eA) (b:Bool) (e:aA):Nat->List Pc
 |1=>[(b,jR e.v_)]
 |2=>if e.table.data.toList=[] then [pw b e.name] else [pw b e.table,ps false iM,pw false e.name]
 |3=>[(b,(5,kP e.n))]
 |4=>ps b sU::aW F false (e.args.getD 0 aA.z)
 |5=>ps b uG::aW F false (e.args.getD 0 aA.z)
 |6=>if(e.args.getD 0 aA.z).op=27 then pw b cN::ps true cL::(F.tx false (e.args.getD 0 aA.z)++[ps false cB]) else pw b cN::aW F true (e.args.getD 0 aA.z)
 |25=>aW F b (e.args.getD 0 aA.z)++(iV e.not++(pw true jG::(aW F true (e.args.getD 1 aA.z)++(pw true jB::aW F true (e.args.getD 2 aA.z)))))
 |26=>aW F b (e.args.getD 0 aA.z)++(iV e.not++(pw true jN::ps true cL::((if e.sub=[] then cK F.tx false (e.args.drop 1) else F.se false (e.sub.getD 0 aF.z))++[ps false cB])))
 |27=>(if e.not then [pw b cN,pw true eG] else [pw b eG])++(ps true cL::(F.se false (e.sub.getD 0 aF.z)++[ps false cB]))
 |28=>ps b cL::(F.se false (e.sub.getD 0 aF.z)++[ps false cB])
 |29=>pw b jA::((caseA e.n.toNat e.args).flatMap (F.tx true)++(eQ F (iH e.n.toNat e.args)++(nP F (iK e.n.toNat e.args)++[pw true iO])))
 |30=>pw b pR::ps false cL::(F.tx false (e.args.getD 0 aA.z)++[pw true lW,pw true e.name,ps false cB])
 |31=>aW F b (e.args.getD 0 aA.z)++[pw true pM,pw true e.name]
 |32=>pw b e.name::ps false cL::((if e.n=1 then pw false kT::cK F.tx true e.args else if e.n=2 then [ps false mZ] else cK F.tx false e.args)++[ps false cB])
 |k=>aW F b (e.args.getD 0 aA.z)++((if k=23∨k=24 then iV e.not else [])++(oW k++aW F true (e.args.getD 1 aA.z)))
def mF (F:eA) (b:Bool) (e:aA):List Pc:=dX F b e e.op.toNat
def mS (s:ByteArray):List Pc:=if s.data.toList=[] then [] else [pw true lW,pw true s]
def gH (F:eA) (b:Bool) (it:bA):List Pc:=
 if it.star then(if it.table.data.toList=[] then [ps b mZ] else [pw b it.table,ps false iM,ps false mZ]) else F.tx b (it.expr.getD 0 aA.z)++mS it.az
def gW (F:eA) (b:Bool) (f:aO):List Pc:=
 (if f.sub=[] then [pw b f.name] else ps b cL::(F.se false (f.sub.getD 0 aF.z)++[ps false cB]))++mS f.az
def dF (F:eA) (ws:List ByteArray) (l:List aA):List Pc:=if l=[] then [] else ws.map (pw true)++cK F.tx true l
def vO (F:eA):List aO->List Pc
 |[]=>[]
 |f::l=>pw true oI::(gW F true f++(dF F [iJ] f.on++l.flatMap fun f=>(if f.join=1 then [pw true mQ,pw true hU] else [pw true hU])++(gW F true f++dF F [iJ] f.on)))
def iU (F:eA) (b:Bool) (l:List aA):List Pc:=ps b cL::(cK F.tx false l++[ps false cB])
def eO (F:eA) (b:Bool) (p:aK):List Pc:=
 if p.values=[] then pw b oT::((if p.distinct then [pw true kT] else [])++(cK (gH F) true p.items++(vO F p.from_++(dF F [oF] p.where_++(dF F [lF,lB] p.group++dF F [oB] p.having)))))
 else pw b oA::cK (iU F) true p.values
def uJ:Nat->List Pc
 |1=>[pw true kL]
 |2=>[pw true kL,pw true sB]
 |3=>[pw true nJ]
 |4=>[pw true oC]
 |_=>[]
def Ci (F:eA) (b:Bool):List aK->List Pc
 |[]=>[]
 |p::l=>eO F b p++l.flatMap fun p=>uJ p.comp.toNat++eO F true p
def mP (F:eA) (b:Bool) (o:aX):List Pc:=F.tx b o.expr++(if o.desc_ then [pw true xI] else [])
def vF (F:eA) (l:List aX):List Pc:=if l=[] then [] else pw true mE::pw true lB::cK (mP F) true l
def nD (F:eA) (c:bE):List Pc:=pw true c.name::((if c.cols=[] then [] else ps false cL::(cK (fun b s=>[pw b s]) false c.cols++[ps false cB]))++(pw true lW::ps true cL::(F.se false (c.body.getD 0 aF.z)++[ps false cB])))
def Ey (F:eA) (b:Bool):List bE->List Pc
 |[]=>[]
 |c::l=>pw b Js::(nD F c++l.flatMap fun c=>ps false eU::nD F c)
def pD (F:eA) (b:Bool) (q:aF):List Pc:=Ci F b q.parts++(vF F q.order++(dF F [kM] q.limit++dF F [kU] q.offset))
def qK (F:eA) (b:Bool) (q:aF):List Pc:=if q.with_=[] then pD F b q else Ey F b q.with_++pD F true q
def oM:Nat->eA
 |0=>⟨fun _ _=>[],fun _ _=>[]⟩
 |n+1=>⟨mF (oM n),qK (oM n)⟩
structure iP where
 ex:aA->Prop
 se:aF->Prop
def kN (s:ByteArray):Prop:=gX s=some true
def Ao (s:ByteArray):Prop:=s.data.toList=[]∨kN s
def pN (s:ByteArray) (K:Option (List ByteArray)):Prop:=s.size<=4611686018427387000∧∀L,K=some L->pT s L=some true
def Db (e:aA):Nat->Prop
 |1=>e=De e.v_∧pH e.v_=some true∧0<=e.v_.int∧e.v_.int<9223372036854775808
 |2=>e=aA.mk 2 false e.table e.name 0 zV [] []∧kN e.name∧Ao e.table
 |3=>e=aA.mk 3 false eB eB e.n zV [] []∧1<=e.n∧e.n<=16
 |4=>∃a,e=aA.mk 4 false eB eB 0 zV [a] []
 |5=>∃a,e=aA.mk 5 false eB eB 0 zV [a] []
 |6=>∃a,e=aA.mk 6 false eB eB 0 zV [a] []
 |25=>∃a c d,e=aA.mk 25 e.not eB eB 0 zV [a,c,d] []
 |26=>(∃a l,e=aA.mk 26 e.not eB eB 0 zV (a::l) [])∨∃a q,e=aA.mk 26 e.not eB eB 0 zV [a] [q]
 |27=>∃q,e=aA.mk 27 e.not eB eB 0 zV [] [q]
 |28=>∃q,e=aA.mk 28 false eB eB 0 zV [] [q]
 |29=>∃k,e=aA.mk 29 false eB eB e.n zV e.args []∧0<=e.n∧e.n<=3∧(iH e.n.toNat e.args).length=2*(k+1)∧e.args=caseA e.n.toNat e.args++iH e.n.toNat e.args++iK e.n.toNat e.args
 |30=>∃a,e=aA.mk 30 false eB e.name 0 zV [a] []∧pN e.name wB
 |31=>∃a,e=aA.mk 31 false eB e.name 0 zV [a] []∧pN e.name wA
 |32=>e=aA.mk 32 false eB e.name e.n zV e.args []∧(kN e.name∨pN e.name (some [jX]))∧(e.n=0∨(e.n=1∧e.args.length=1)∨(e.n=2∧e.args=[]))
 |k=>7<=k∧k<=24∧∃a c,e=aA.mk k e.not eB eB 0 zV [a,c] []∧(k<23->e.not=false)
def rD (M:iP) (e:aA):Prop:=0<=e.op∧Db e e.op.toNat∧(∀x∈e.args,M.ex x)∧∀q∈e.sub,q.with_=[]∧M.se q
def xF (M:iP) (it:bA):Prop:=(it.star=true∧it.expr=[]∧it.az.data.toList=[]∧Ao it.table)∨(it.star=false∧it.table.data.toList=[]∧Ao it.az∧∃x,it.expr=[x]∧M.ex x)
def rF (M:iP) (f:aO):Prop:=(f.join=0∨f.join=1)∧Ao f.az∧(f.on=[]∨∃x,f.on=[x]∧M.ex x)∧((f.sub=[]∧kN f.name)∨(f.name.data.toList=[]∧∃q,f.sub=[q]∧q.with_=[]∧M.se q))
def nA (M:iP) (p:aK):Prop:=
 (p.values≠[]∧p=aK.mk p.comp false [] [] [] [] [] p.values∧∀row∈p.values,row≠[]∧row.length=(p.values.getD 0 []).length∧∀x∈row,M.ex x)∨
 (p.values=[]∧p.items≠[]∧(∀it∈p.items,xF M it)∧(∀f∈p.from_,rF M f)∧(∀f l,p.from_=f::l->f.join=0∧f.on=[])∧(p.where_=[]∨∃x,p.where_=[x]∧M.ex x)∧(∀x∈p.group,M.ex x)∧(p.having=[]∨(p.group≠[]∧∃x,p.having=[x]∧M.ex x)))
def uL (M:iP) (q:aF):Prop:=
 (∀c∈q.with_,kN c.name∧(∀s∈c.cols,kN s)∧∃b,c.body=[b]∧b.with_=[]∧M.se b)∧
 (∃p l,q.parts=p::l∧p.comp=0∧nA M p∧∀r∈l,1<=r.comp∧r.comp<=4∧nA M r)∧
 (∀o∈q.order,M.ex o.expr)∧(q.limit=[]∧q.offset=[]∨∃x,q.limit=[x]∧M.ex x∧(q.offset=[]∨∃y,q.offset=[y]∧M.ex y))
def uO:Nat->iP
 |0=>⟨fun _=>False,fun _=>False⟩
 |n+1=>⟨rD (uO n),uL (uO n)⟩
section
variable {T T':List Tk} {p p':Int} {N:Nat} {v:aA} {t:Tk}
def q1 (T:List Tk):Bool:= !aT T pM
def q2 (T:List Tk):Bool:=q1 T&&(fQ vH T).2==0
def q3 (T:List Tk):Bool:=q2 T&&(fQ vG T).2==0
def q4 (T:List Tk):Bool:=q3 T&&(fQ wG T).2==0
def q5 (T:List Tk):Bool:=q4 T&&(fQ vR T).2==0
def q6 (T:List Tk):Bool:=q5 T&&(!cQ T rW&& !aT T jM&& !aT T cN&& !aT T jZ&& !aT T kY&& !aT T jG&& !aT T jN)
def q8 (T:List Tk):Bool:=q6 T&&(fQ wH T).2==0
def q9 (T:List Tk):Bool:=q8 T&&(fQ xO T).2==0
def qC (T:List Tk):Bool:= !cQ T [cL]&& !cQ T [iM]
def qE (T:List Tk):Bool:=q9 T&&qC T
def hX (T:List Tk):Bool:= !cQ T [iM]&& !aT T oT&& !aT T oA&& !aT T kT&& !aT T sB&& !aT T kX&& !cQ T [mZ]&& !cQ T [cB]
def hP (T:List Tk):Bool:= !cQ T [sU]&& !cQ T [uG]&& !aT T cN
def Kr (h:q2 T=true):q1 T=true:=by unfold q2 at h;simp only[dI] at h;exact h.1
def Aw (h:q3 T=true):q2 T=true:=by unfold q3 at h;simp only[dI] at h;exact h.1
def wE (h:q4 T=true):q3 T=true:=by unfold q4 at h;simp only[dI] at h;exact h.1
def rX (h:q5 T=true):q4 T=true:=by unfold q5 at h;simp only[dI] at h;exact h.1
def pU (h:q6 T=true):q5 T=true:=by unfold q6 at h;rw[dI] at h;exact h.1
def nB (h:q8 T=true):q6 T=true:=by unfold q8 at h;simp only[dI] at h;exact h.1
def lV (h:q9 T=true):q8 T=true:=by unfold q9 at h;simp only[dI] at h;exact h.1
def wD (h:qE T=true):q9 T=true:=by unfold qE at h;simp only[dI] at h;exact h.1
def uN (h:qE T=true):qC T=true:=by unfold qE at h;simp only[dI] at h;exact h.2
def GE (h:q1 T=true):aT T pM=false:=by unfold q1 at h;simpa using h
def Uu (h:q2 T=true):(fQ vH T).2=0:=by unfold q2 at h;simp only[dI,eM] at h;exact h.2
def Ut (h:q3 T=true):(fQ vG T).2=0:=by unfold q3 at h;simp only[dI,eM] at h;exact h.2
def Us (h:q4 T=true):(fQ wG T).2=0:=by unfold q4 at h;simp only[dI,eM] at h;exact h.2
def Ur (h:q5 T=true):(fQ vR T).2=0:=by unfold q5 at h;simp only[dI,eM] at h;exact h.2
def Up (h:q8 T=true):(fQ wH T).2=0:=by unfold q8 at h;simp only[dI,eM] at h;exact h.2
def Uo (h:q9 T=true):(fQ xO T).2=0:=by unfold q9 at h;simp only[dI,eM] at h;exact h.2
def Uq (h:q6 T=true):Na T:=by
 unfold q6 at h;simp only[dI,qR] at h;obtain⟨_,⟨⟨⟨⟨⟨⟨h1,h2⟩,h3⟩,h4⟩,h5⟩,h6⟩,h7⟩⟩:=h;exact⟨h1,h2,h3,h4,h5,h6,h7⟩
def Un (h:qC T=true):cQ T [cL]=false∧cQ T [iM]=false:=by
 unfold qC at h;simpa only[dI,qR] using h
def xH (h:hP T=true):cQ T [sU]=false∧cQ T [uG]=false∧aT T cN=false:=by
 unfold hP at h;simp only[dI,qR] at h;exact⟨h.1.1,h.1.2,h.2⟩
def t1 (h:aZ (·.p221_1) N T p v T' p') (hh:hP T=true) (hs:q1 T'=true):aZ (·.p215_1) (N+1) T p v T' p':=WK h (xH hh).1 (xH hh).2.1 (GE hs)
def t2 (h:aZ (·.p221_1) N T p v T' p') (hh:hP T=true) (hs:q2 T'=true):aZ (·.p209_1) (N+3) T p v T' p':=Yy (t1 h hh (Kr hs)) (Uu hs)
def t3 (h:aZ (·.p221_1) N T p v T' p') (hh:hP T=true) (hs:q3 T'=true):aZ (·.p198_1) (N+5) T p v T' p':=Ym (t2 h hh (Aw hs)) (Ut hs)
def t4 (h:aZ (·.p221_1) N T p v T' p') (hh:hP T=true) (hs:q4 T'=true):aZ (·.p184_1) (N+7) T p v T' p':=AS (t3 h hh (wE hs)) (Us hs)
def t5 (h:aZ (·.p221_1) N T p v T' p') (hh:hP T=true) (hs:q5 T'=true):aZ (·.p161_1) (N+9) T p v T' p':=Zy (t4 h hh (rX hs)) (Ur hs)
def t6 (h:aZ (·.p221_1) N T p v T' p') (hh:hP T=true) (hs:q6 T'=true):aZ (·.p119_1) (N+10) T p v T' p':=Zj (t5 h hh (pU hs)) (Uq hs)
def t7 (h:aZ (·.p221_1) N T p v T' p') (hh:hP T=true) (hs:q6 T'=true):aZ (·.p79_1) (N+11) T p v T' p':=BG (t6 h hh hs) (xH hh).2.2
def t8 (h:aZ (·.p221_1) N T p v T' p') (hh:hP T=true) (hs:q8 T'=true):aZ (·.p43_1) (N+13) T p v T' p':=CD (t7 h hh (nB hs)) (Up hs)
def t9 (h:aZ (·.p221_1) N T p v T' p') (hh:hP T=true) (hs:q9 T'=true):aZ (·.p15_1) (N+15) T p v T' p':=CU (t8 h hh (lV hs)) (Uo hs)
def u8 (h:aZ (·.p43_1) N T p v T' p') (hs:q9 T'=true):aZ (·.p15_1) (N+2) T p v T' p':=CU h (Uo hs)
def u7 (h:aZ (·.p79_1) N T p v T' p') (hs:q9 T'=true):aZ (·.p15_1) (N+4) T p v T' p':=u8 (CD h (Up (lV hs))) hs
def u6 (h:aZ (·.p119_1) N T p v T' p') (hn:aT T cN=false) (hs:q9 T'=true):aZ (·.p15_1) (N+5) T p v T' p':=u7 (BG h hn) hs
def u5 (h:aZ (·.p161_1) N T p v T' p') (hn:aT T cN=false) (hs:q9 T'=true):aZ (·.p15_1) (N+6) T p v T' p':=u6 (Zj h (Uq (nB (lV hs)))) hn hs
def u4 (h:aZ (·.p184_1) N T p v T' p') (hn:aT T cN=false) (hs:q9 T'=true):aZ (·.p15_1) (N+8) T p v T' p':=u5 (Zy h (Ur (pU (nB (lV hs))))) hn hs
def u3 (h:aZ (·.p198_1) N T p v T' p') (hn:aT T cN=false) (hs:q9 T'=true):aZ (·.p15_1) (N+10) T p v T' p':=u4 (AS h (Us (rX (pU (nB (lV hs)))))) hn hs
def u2 (h:aZ (·.p209_1) N T p v T' p') (hn:aT T cN=false) (hs:q9 T'=true):aZ (·.p15_1) (N+12) T p v T' p':=u3 (Ym h (Ut (wE (rX (pU (nB (lV hs))))))) hn hs
def u1 (h:aZ (·.p215_1) N T p v T' p') (hn:aT T cN=false) (hs:q9 T'=true):aZ (·.p15_1) (N+14) T p v T' p':=u2 (Yy h (Uu (Aw (wE (rX (pU (nB (lV hs)))))))) hn hs
def aDy:q6 (t::T)=q6 [t]:=rfl
def aDx:q8 (t::T)=q8 [t]:=rfl
def Sx:List Tk:=[(6,cB),(6,eU),(1,lW),(1,oI),(1,oF),(1,lF),(1,oB),(1,mE),(1,xI),(1,kM),(1,kU),(1,kL),(1,nJ),(1,oC),(1,kX),(1,tC),(1,qJ),(1,iO),(1,hU),(1,mQ)]
def RY:∀t∈Sx,qE [t]=true:=by decide+kernel
def Wu (T:List Tk):Prop:=T=[]∨∃t∈Sx,∃T',T=t::T'
def Wu.ok (h:Wu T):qE T=true:=by
 rcases h with rfl|⟨t,ht,T',rfl⟩
 ·decide+kernel
 ·exact RY t ht
def Dq (t:Tk) (L:List Tk):Bool:=L.any fun u=>u.1==t.1&&u.2.data.toList==t.2.data.toList
def Oa {t:Tk} {L:List Tk} (h:Dq t L=true):t∈L:=by
 unfold Dq at h;rw[List.any_eq_true] at h;obtain⟨u,hu,h2⟩:=h;simp only[dI,eM] at h2;have:u=t:=by
  obtain⟨k,⟨⟨d⟩⟩⟩:=u;obtain⟨k',⟨⟨d'⟩⟩⟩:=t;obtain⟨h3,h4⟩:=h2;simp only at h3 h4;subst h3;subst h4;rfl
 rw[<-this];exact hu
def yG (T:List Tk) (h:Dq t Sx=true:=by decide+kernel):Wu (t::T):=.inr ⟨t,Oa h,T,rfl⟩
end
section
variable {T T' X:List Tk} {p p':Int} {N:Nat} {v a c:aA} {t:Tk} {b:Bool} {F:eA} {M:iP}
def tO (T:List Tk):Prop:=∀s0 s1 T2,T=(1,s0)::(6,s1)::T2->s1.data.toList=iM.data.toList->∃s2 T3,T2=(1,s2)::T3
abbrev ts (P:List Pc):List Tk:=P.map Prod.snd
def dY (P Q:List Pc):ts (P++Q)++T=ts P++(ts Q++T):=by rw[ts,eK,fS]
def lS (q:Pc) (Q:List Pc):ts (q::Q)++T=q.2::(ts Q++T):=rfl
structure RF (F:eA) (M:iP) (N:Nat):Prop where
 ex:∀e,M.ex e->∀b T p,qE T=true->∃p',aZ (·.p15_1) N (ts (F.tx b e)++T) p e T p'
 cl:∀e,M.ex e->nL e=true->∀b T p,qC T=true->∃p',aZ (·.p221_1) N (ts (F.tx b e)++T) p e T p'
 hx:∀e,M.ex e->∀b,∃t Q,F.tx b e=(b,t)::Q∧hX [t]=true∧(nL e=true->hP [t]=true∧(e.op≠27->aT [t] eG=false))
 se:∀q,M.se q->q.with_=[]->∀b T p,(T=[]∨∃T',T=(6,cB)::T')->∃p',aZ (·.p50_1) N (ts (F.se b q)++T) p q T p'
 hs:∀q,M.se q->q.with_=[]->∀b,∃t Q,F.se b q=(b,t)::Q∧(aT [t] oT||aT [t] oA)=true
 d3:∀e,M.ex e->∀b T,qC T=true->tO (ts (F.tx b e)++T)
 tn:∀e,M.ex e->∀b T,oU (ts (F.tx b e)++T)
def xG (h:hX T=true):aT T oT=false∧aT T oA=false∧aT T kT=false∧aT T sB=false∧aT T kX=false∧cQ T [mZ]=false∧cQ T [cB]=false:=by
 unfold hX at h;simp only[dI,qR] at h;obtain⟨⟨⟨⟨⟨⟨⟨h0,h1⟩,h2⟩,h3⟩,h4⟩,h5⟩,h6⟩,h7⟩:=h;exact⟨h1,h2,h3,h4,h5,h6,h7⟩
def EN (h:hX T=true):cQ T [iM]=false:=by
 unfold hX at h;simp only[dI,qR] at h;exact h.1.1.1.1.1.1.1
def Cn (h:RF F M N) {e:aA} (he:M.ex e) (b:Bool) (T:List Tk):∃t Q,ts (F.tx b e)++T=t::Q∧hX (t::Q)=true:=by
 obtain⟨t,Q,e1,e2,_⟩:=h.hx e he b;exact⟨t,ts Q++T,by rw[e1];rfl,e2⟩
def GA (h:RF F M N) {q:aF} (hq:M.se q) (hw:q.with_=[]) (b:Bool) (T:List Tk):∃t Q,ts (F.se b q)++T=t::Q∧(aT (t::Q) oT||aT (t::Q) oA)=true:=by
 obtain⟨t,Q,e1,e2⟩:=h.hs q hq hw b;exact⟨t,ts Q++T,by rw[e1];rfl,e2⟩
def Ei:qE ((6,cB)::T)=true:=(yG T).ok
def Nh (h:RF F M N) {e:aA} (he:M.ex e) (b:Bool) (T:List Tk):∃t Q,ts (aW F b e)++T=t::Q∧hX (t::Q)=true∧hP (t::Q)=true∧(e.op≠27->aT (t::Q) eG=false)∧aW F b e=(b,t)::(aW F b e).drop 1:=by
 unfold aW;cases hc:nL e with
 |true=>
  obtain⟨t,Q,e1,e2,e3⟩:=h.hx e he b;refine⟨t,ts Q++T,by rw[if_pos rfl,e1];rfl,e2,(e3 hc).1,(e3 hc).2,by rw[if_pos rfl,e1];rfl⟩
 |false=>exact⟨(6,cL),_,rfl,(by decide+kernel:hX [(6,cL)]=true),(by decide+kernel:hP [(6,cL)]=true),fun _=>(by decide+kernel:aT [(6,cL)] eG=false),rfl⟩
def mC (h:RF F M N) {e:aA} (he:M.ex e) (b:Bool) (T:List Tk):hP (ts (aW F b e)++T)=true:=by
 obtain⟨t,Q,e1,_,e2,_⟩:=Nh h he b T;rw[e1];exact e2
def kV (h:RF F M N) {e:aA} (he:M.ex e) (b:Bool) (p:Int) (hT:qC T=true):∃p',aZ (·.p221_1) (N+1) (ts (aW F b e)++T) p e T p':=by
 unfold aW;cases hc:nL e with
 |true=>
  obtain⟨p',h1⟩:=h.cl e he hc b T p hT;exact⟨p',h1.le (by omega)⟩
 |false=>
  obtain⟨p',h1⟩:=h.ex e he false ((6,cB)::T) p Ei;obtain⟨t,Q,e1,e2⟩:=Cn h he false ((6,cB)::T);rw[if_neg (by simp),lS,dY];show ∃p',aZ (·.p221_1) (N+1) ((6,cL)::(ts (F.tx false e)++(6,cB)::T)) p e T p'
  rw[e1] at h1 ⊢;exact⟨p',Zq h1 (xG e2).1 (xG e2).2.1⟩
def tI {s:ByteArray}:qC ((1,s)::T)=true:=rfl
def YD (h:RF F M N) (ha:M.ex a) (hc:M.ex c) (hT:qE T=true) {s:ByteArray} {o:Int} (hs:(q1 [(6,s)]&&qC [(6,s)])=true) (ho:fQ vH [(6,s)]=(o,1)) (b:Bool) (p:Int):∃p',aZ (·.p15_1) (N+30) (ts (aW F b a)++((6,s)::(ts (aW F true c)++T))) p (sA o a c) T p':=by
 rw[dI] at hs;have hq:=wD hT;obtain⟨p1,h1⟩:=kV (T:=(6,s)::(ts (aW F true c)++T)) h ha b p hs.2;obtain⟨p2,h2⟩:=kV (T:=T) h hc true p1 (uN hT);have k1:=t1 h1 (mC h ha b _) hs.1;have k2:=t1 h2 (mC h hc true T) (Kr (Aw (wE (rX (pU (nB (lV hq)))))));have k3:=SK (o:=o) k1 ho k2 (Uu (Aw (wE (rX (pU (nB (lV hq)))))));exact⟨p2,(u2 k3 (xH (mC h ha b _)).2.2 hq).le (by omega)⟩
def Sp (h:RF F M N) (ha:M.ex a) (hc:M.ex c) (hT:qE T=true) {s:ByteArray} {o:Int} (hs:(q2 [(6,s)]&&qC [(6,s)])=true) (ho:fQ vG [(6,s)]=(o,1)) (b:Bool) (p:Int):∃p',aZ (·.p15_1) (N+30) (ts (aW F b a)++((6,s)::(ts (aW F true c)++T))) p (sA o a c) T p':=by
 rw[dI] at hs;have hq:=wD hT;obtain⟨p1,h1⟩:=kV (T:=(6,s)::(ts (aW F true c)++T)) h ha b p hs.2;obtain⟨p2,h2⟩:=kV (T:=T) h hc true p1 (uN hT);have k1:=t2 h1 (mC h ha b _) hs.1;have k2:=t2 h2 (mC h hc true T) (Aw (wE (rX (pU (nB (lV hq))))));have k3:=QB (o:=o) k1 ho k2 (Ut (wE (rX (pU (nB (lV hq))))));exact⟨p2,(u3 k3 (xH (mC h ha b _)).2.2 hq).le (by omega)⟩
def GB (h:RF F M N) (ha:M.ex a) (hc:M.ex c) (hT:qE T=true) {s:ByteArray} {o:Int} (hs:(q3 [(6,s)]&&qC [(6,s)])=true) (ho:fQ wG [(6,s)]=(o,1)) (b:Bool) (p:Int):∃p',aZ (·.p15_1) (N+30) (ts (aW F b a)++((6,s)::(ts (aW F true c)++T))) p (sA o a c) T p':=by
 rw[dI] at hs;have hq:=wD hT;obtain⟨p1,h1⟩:=kV (T:=(6,s)::(ts (aW F true c)++T)) h ha b p hs.2;obtain⟨p2,h2⟩:=kV (T:=T) h hc true p1 (uN hT);have k1:=t3 h1 (mC h ha b _) hs.1;have k2:=t3 h2 (mC h hc true T) (wE (rX (pU (nB (lV hq)))));have k3:=WX (o:=o) k1 ho k2 (Us (rX (pU (nB (lV hq)))));exact⟨p2,(u4 k3 (xH (mC h ha b _)).2.2 hq).le (by omega)⟩
def Nw (h:RF F M N) (ha:M.ex a) (hc:M.ex c) (hT:qE T=true) {s:ByteArray} {o:Int} (hs:(q4 [(6,s)]&&qC [(6,s)])=true) (ho:fQ vR [(6,s)]=(o,1)) (b:Bool) (p:Int):∃p',aZ (·.p15_1) (N+30) (ts (aW F b a)++((6,s)::(ts (aW F true c)++T))) p (sA o a c) T p':=by
 rw[dI] at hs;have hq:=wD hT;obtain⟨p1,h1⟩:=kV (T:=(6,s)::(ts (aW F true c)++T)) h ha b p hs.2;obtain⟨p2,h2⟩:=kV (T:=T) h hc true p1 (uN hT);have k1:=t4 h1 (mC h ha b _) hs.1;have k2:=t4 h2 (mC h hc true T) (rX (pU (nB (lV hq))));have k3:=VB (o:=o) k1 ho k2 (Ur (pU (nB (lV hq))));exact⟨p2,(u5 k3 (xH (mC h ha b _)).2.2 hq).le (by omega)⟩
def aDw (h:RF F M N) (ha:M.ex a) (hc:M.ex c) (hT:qE T=true) (b:Bool) (p:Int):∃p',aZ (·.p15_1) (N+30) (ts (aW F b a)++((1,jB)::(ts (aW F true c)++T))) p (sA 21 a c) T p':=by
 have hq:=wD hT;obtain⟨p1,h1⟩:=kV (T:=(1,jB)::(ts (aW F true c)++T)) h ha b p tI;obtain⟨p2,h2⟩:=kV (T:=T) h hc true p1 (uN hT);have k1:=t7 h1 (mC h ha b _) (by rw[aDy];decide+kernel);have k2:=t7 h2 (mC h hc true T) (nB (lV hq));have k3:=g9 (o:=21) k1 (show fQ wH [(1,jB)]=(21,1) by decide+kernel) k2 (Up (lV hq));exact⟨p2,(u8 k3 hq).le (by omega)⟩
def aGm (h:RF F M N) (ha:M.ex a) (hc:M.ex c) (hT:qE T=true) (b:Bool) (p:Int):∃p',aZ (·.p15_1) (N+30) (ts (aW F b a)++((1,Dr)::(ts (aW F true c)++T))) p (sA 22 a c) T p':=by
 have hq:=wD hT;obtain⟨p1,h1⟩:=kV (T:=(1,Dr)::(ts (aW F true c)++T)) h ha b p tI;obtain⟨p2,h2⟩:=kV (T:=T) h hc true p1 (uN hT);have k1:=t8 h1 (mC h ha b _) (by rw[aDx];decide+kernel);have k2:=t8 h2 (mC h hc true T) (lV hq);have k3:=aAu (o:=22) k1 (show fQ xO [(1,Dr)]=(22,1) by decide+kernel) k2 (Uo hq);exact⟨p2,k3.le (by omega)⟩
def vB (h:RF F M N) (ha:M.ex a) (hT:qE T=true) {x:Tk} (hx:(q5 [x]&&qC [x])=true) {v:aA} {p1 p2:Int} {b:Bool} {p:Int} (h1:aZ (·.p221_1) (N+1) (ts (aW F b a)++(x::X)) p a (x::X) p1) (hr:qH (N+20) (x::X) p1 a v T p2):aZ (·.p15_1) (N+30) (ts (aW F b a)++(x::X)) p v T p2:=by
 rw[dI] at hx;have hq:=wD hT;have k1:=t5 h1 (mC h ha b _) hx.1;have k2:=NV (k1.le (by omega:N+1+9<=N+20)) hr (Uq (nB (lV hq)));exact(u6 k2 (xH (mC h ha b _)).2.2 hq).le (by omega)
def qH.le {N M:Nat} {T T':List Tk} {p p':Int} {a v:aA} (h:qH N T p a v T' p') (hm:N<=M):qH M T p a v T' p':=fun n hn=>h n (by omega)
def wC (h:RF F M N) (hc:M.ex c) (hT:(q5 T&&qC T)=true) (p:Int):∃p',aZ (·.p161_1) (N+10) (ts (aW F true c)++T) p c T p':=by
 rw[dI] at hT;obtain⟨p2,h2⟩:=kV (T:=T) h hc true p hT.2;exact⟨p2,t5 h2 (mC h hc true T) hT.1⟩
def zH (h:qE T=true):(q5 T&&qC T)=true:=by rw[pU (nB (lV (wD h))),uN h];rfl
def ED (h:RF F M N) (ha:M.ex a) (hc:M.ex c) (hT:qE T=true) {s:ByteArray} {o:Int} (hs:(q5 [(6,s)]&&qC [(6,s)])=true) (he:cQ [(6,s)] rW=true) (ho:(if cQ [(6,s)] Pj=true then 14 else 13)=o) (b:Bool) (p:Int):∃p',aZ (·.p15_1) (N+30) (ts (aW F b a)++((6,s)::(ts (aW F true c)++T))) p (pS o false a c) T p':=by
 obtain⟨p1,h1⟩:=kV (T:=(6,s)::(ts (aW F true c)++T)) h ha b p (dI _ _ ▸ hs).2;obtain⟨p2,h2⟩:=wC h hc (zH hT) p1;exact⟨p2,vB h ha hT hs h1 ((NZ (o:=o) (x:=(6,s)) (T1:=ts (aW F true c)++T) he ho h2).le (by omega))⟩
def aGo (h:RF F M N) (ha:M.ex a) (hc:M.ex c) (hT:qE T=true) (b:Bool) (p:Int):∃p',aZ (·.p15_1) (N+30) (ts (aW F b a)++((1,jM)::(ts (aW F true c)++T))) p (pS 19 false a c) T p':=by
 obtain⟨p1,h1⟩:=kV (T:=(1,jM)::(ts (aW F true c)++T)) h ha b p tI;obtain⟨p2,h2⟩:=wC h hc (zH hT) p1;exact⟨p2,vB h ha hT (by decide+kernel) h1 ((TS (x:=(1,jM)) (T1:=ts (aW F true c)++T) rfl (show aT [(1,jM)] jM=true by decide+kernel) (xH (mC h hc true T)).2.2 h2).le (by omega))⟩
def YA (h:RF F M N) (ha:M.ex a) (hc:M.ex c) (hT:qE T=true) (b:Bool) (p:Int):∃p',aZ (·.p15_1) (N+30) (ts (aW F b a)++((1,jM)::(1,cN)::(ts (aW F true c)++T))) p (pS 20 false a c) T p':=by
 obtain⟨p1,h1⟩:=kV (T:=(1,jM)::(1,cN)::(ts (aW F true c)++T)) h ha b p tI;obtain⟨p2,h2⟩:=wC h hc (zH hT) p1;exact⟨p2,vB h ha hT (by decide+kernel) h1 ((ML (x:=(1,jM)) (y:=(1,cN)) (T1:=ts (aW F true c)++T) rfl (show aT [(1,jM)] jM=true by decide+kernel) (show aT [(1,cN)] cN=true by decide+kernel) h2).le (by omega))⟩
def z7 (h:RF F M N) (ha:M.ex a) (hc:M.ex c) (hT:qE T=true) (n:Bool) (b:Bool) (p:Int):∃p',aZ (·.p15_1) (N+30) (ts (aW F b a)++(ts (iV n)++((1,jZ)::(ts (aW F true c)++T)))) p (pS 23 n a c) T p':=by
 cases n with
 |false=>
  show ∃p',aZ (·.p15_1) (N+30) (ts (aW F b a)++((1,jZ)::(ts (aW F true c)++T))) p (pS 23 false a c) T p'
  obtain⟨p1,h1⟩:=kV (T:=(1,jZ)::(ts (aW F true c)++T)) h ha b p tI;obtain⟨p2,h2⟩:=wC h hc (zH hT) p1;exact⟨p2,vB h ha hT (by decide+kernel) h1 ((OA (x:=(1,jZ)) (T1:=ts (aW F true c)++T) rfl (show aT [(1,jZ)] jM=false by decide+kernel) (show aT [(1,jZ)] cN=false by decide+kernel) (show aT [(1,jZ)] jZ=true by decide+kernel) h2).le (by omega))⟩
 |true=>
  show ∃p',aZ (·.p15_1) (N+30) (ts (aW F b a)++((1,cN)::(1,jZ)::(ts (aW F true c)++T))) p (pS 23 true a c) T p'
  obtain⟨p1,h1⟩:=kV (T:=(1,cN)::(1,jZ)::(ts (aW F true c)++T)) h ha b p tI;obtain⟨p2,h2⟩:=wC h hc (zH hT) p1;exact⟨p2,vB h ha hT (by decide+kernel) h1 ((LA (x:=(1,cN)) (y:=(1,jZ)) (T1:=ts (aW F true c)++T) rfl (show aT [(1,cN)] jM=false by decide+kernel) (show aT [(1,cN)] cN=true by decide+kernel) (show aT [(1,jZ)] jZ=true by decide+kernel) h2).le (by omega))⟩
def z8 (h:RF F M N) (ha:M.ex a) (hc:M.ex c) (hT:qE T=true) (n:Bool) (b:Bool) (p:Int):∃p',aZ (·.p15_1) (N+30) (ts (aW F b a)++(ts (iV n)++((1,kY)::(ts (aW F true c)++T)))) p (pS 24 n a c) T p':=by
 cases n with
 |false=>
  show ∃p',aZ (·.p15_1) (N+30) (ts (aW F b a)++((1,kY)::(ts (aW F true c)++T))) p (pS 24 false a c) T p'
  obtain⟨p1,h1⟩:=kV (T:=(1,kY)::(ts (aW F true c)++T)) h ha b p tI;obtain⟨p2,h2⟩:=wC h hc (zH hT) p1;exact⟨p2,vB h ha hT (by decide+kernel) h1 ((OB (x:=(1,kY)) (T1:=ts (aW F true c)++T) rfl (show aT [(1,kY)] jM=false by decide+kernel) (show aT [(1,kY)] cN=false by decide+kernel) (show aT [(1,kY)] jZ=false by decide+kernel) (show aT [(1,kY)] kY=true by decide+kernel) h2).le (by omega))⟩
 |true=>
  show ∃p',aZ (·.p15_1) (N+30) (ts (aW F b a)++((1,cN)::(1,kY)::(ts (aW F true c)++T))) p (pS 24 true a c) T p'
  obtain⟨p1,h1⟩:=kV (T:=(1,cN)::(1,kY)::(ts (aW F true c)++T)) h ha b p tI;obtain⟨p2,h2⟩:=wC h hc (zH hT) p1;exact⟨p2,vB h ha hT (by decide+kernel) h1 ((LD (x:=(1,cN)) (y:=(1,kY)) (T1:=ts (aW F true c)++T) rfl (show aT [(1,cN)] jM=false by decide+kernel) (show aT [(1,cN)] cN=true by decide+kernel) (show aT [(1,kY)] jZ=false by decide+kernel) (show aT [(1,kY)] kY=true by decide+kernel) h2).le (by omega))⟩
def aDv (h:RF F M N) (ha:M.ex a) (hc:M.ex c) (hT:qE T=true) {k:Nat} (hk:7<=k∧k<=24) {n:Bool} (hn:k<23->n=false) (b:Bool) (p:Int):∃p',aZ (·.p15_1) (N+30) (ts (aW F b a++(iV n++(oW k++aW F true c)))++T) p (aA.mk k n eB eB 0 zV [a,c] []) T p':=by
 rw[dY,dY,dY];have:k=7∨k=8∨k=9∨k=10∨k=11∨k=12∨k=13∨k=14∨k=15∨k=16∨k=17∨k=18∨k=19∨k=20∨k=21∨k=22∨k=23∨k=24:=by omega
 by_cases hk2:k<23
 ·obtain rfl:=hn hk2;rcases this with rfl|rfl|rfl|rfl|rfl|rfl|rfl|rfl|rfl|rfl|rfl|rfl|rfl|rfl|rfl|rfl|rfl|rfl
  ·exact GB h ha hc hT (s:=bm #[43]) (by decide+kernel) (by decide+kernel) b p
  ·exact GB h ha hc hT (s:=bm #[45]) (by decide+kernel) (by decide+kernel) b p
  ·exact Sp h ha hc hT (s:=bm #[42]) (by decide+kernel) (by decide+kernel) b p
  ·exact Sp h ha hc hT (s:=bm #[47]) (by decide+kernel) (by decide+kernel) b p
  ·exact Sp h ha hc hT (s:=bm #[37]) (by decide+kernel) (by decide+kernel) b p
  ·exact YD h ha hc hT (s:=bm #[124,124]) (by decide+kernel) (by decide+kernel) b p
  ·exact ED h ha hc hT (s:=bm #[61]) (by decide+kernel) (by decide+kernel) (by decide+kernel) b p
  ·exact ED h ha hc hT (s:=bm #[60,62]) (by decide+kernel) (by decide+kernel) (by decide+kernel) b p
  ·exact Nw h ha hc hT (s:=bm #[60]) (by decide+kernel) (by decide+kernel) b p
  ·exact Nw h ha hc hT (s:=bm #[60,61]) (by decide+kernel) (by decide+kernel) b p
  ·exact Nw h ha hc hT (s:=bm #[62]) (by decide+kernel) (by decide+kernel) b p
  ·exact Nw h ha hc hT (s:=bm #[62,61]) (by decide+kernel) (by decide+kernel) b p
  ·exact aGo h ha hc hT b p
  ·exact YA h ha hc hT b p
  ·exact aDw h ha hc hT b p
  ·exact aGm h ha hc hT b p
  ·omega
  ·omega
 ·have:k=23∨k=24:=by omega
  rcases this with rfl|rfl
  ·exact z7 h ha hc hT n b p
  ·exact z8 h ha hc hT n b p
def QX (h:RF F M N) {d:aA} (ha:M.ex a) (hc:M.ex c) (hd:M.ex d) (hT:qE T=true) (n:Bool) (b:Bool) (p:Int):∃p',aZ (·.p15_1) (N+30) (ts (aW F b a++(iV n++(pw true jG::(aW F true c++(pw true jB::aW F true d)))))++T) p (aA.mk 25 n eB eB 0 zV [a,c,d] []) T p':=by
 rw[dY,dY,lS,dY,lS];have hand:(q5 ((1,jB)::(ts (aW F true d)++T))&&qC ((1,jB)::(ts (aW F true d)++T)))=true:=(by decide+kernel:(q5 [(1,jB)]&&qC [(1,jB)])=true);cases n with
 |false=>
  show ∃p',aZ (·.p15_1) (N+30) (ts (aW F b a)++((1,jG)::(ts (aW F true c)++((1,jB)::(ts (aW F true d)++T))))) p (aA.mk 25 false eB eB 0 zV [a,c,d] []) T p'
  obtain⟨p1,h1⟩:=kV (T:=(1,jG)::(ts (aW F true c)++((1,jB)::(ts (aW F true d)++T)))) h ha b p tI;obtain⟨p2,h2⟩:=wC h hc hand p1;obtain⟨p3,h3⟩:=wC h hd (zH hT) p2;exact⟨p3,vB h ha hT (by decide+kernel) h1 ((LN (x:=(1,jG)) (v:=(1,jB)) (T1:=ts (aW F true c)++((1,jB)::(ts (aW F true d)++T))) (T2:=ts (aW F true d)++T) rfl (show aT [(1,jG)] jM=false by decide+kernel) (show aT [(1,jG)] cN=false by decide+kernel) (show aT [(1,jG)] jZ=false by decide+kernel) (show aT [(1,jG)] kY=false by decide+kernel) (show aT [(1,jG)] jG=true by decide+kernel) h2 (show aT [(1,jB)] jB=true by decide+kernel) h3).le (by omega))⟩
 |true=>
  show ∃p',aZ (·.p15_1) (N+30) (ts (aW F b a)++((1,cN)::(1,jG)::(ts (aW F true c)++((1,jB)::(ts (aW F true d)++T))))) p (aA.mk 25 true eB eB 0 zV [a,c,d] []) T p'
  obtain⟨p1,h1⟩:=kV (T:=(1,cN)::(1,jG)::(ts (aW F true c)++((1,jB)::(ts (aW F true d)++T)))) h ha b p tI;obtain⟨p2,h2⟩:=wC h hc hand p1;obtain⟨p3,h3⟩:=wC h hd (zH hT) p2;exact⟨p3,vB h ha hT (by decide+kernel) h1 ((KR (x:=(1,cN)) (y:=(1,jG)) (v:=(1,jB)) (T1:=ts (aW F true c)++((1,jB)::(ts (aW F true d)++T))) (T2:=ts (aW F true d)++T) rfl (show aT [(1,cN)] jM=false by decide+kernel) (show aT [(1,cN)] cN=true by decide+kernel) (show aT [(1,jG)] jZ=false by decide+kernel) (show aT [(1,jG)] kY=false by decide+kernel) (show aT [(1,jG)] jG=true by decide+kernel) h2 (show aT [(1,jB)] jB=true by decide+kernel) h3).le (by omega))⟩
end
section
variable {T T' X:List Tk} {p p':Int} {N:Nat} {v a c:aA} {t:Tk} {b:Bool} {F:eA} {M:iP} {α:Type}
def aZ.xQ {f:bD->nF α} {w:α} (h:4000<T.length):aZ f N T p w T' p':=by
 intro n _ l i hA;have:=congrArg List.length hA.drop;have:=hA.len;simp only[gI,uV] at*;omega
def fP.xQ {f:nF α} {w:α} (h:4000<T.length):fP f T p w T' p':=by
 intro l i hA;have:=congrArg List.length hA.drop;have:=hA.len;simp only[gI,uV] at*;omega
def Bt {g:Bool->α->List Pc}:∀l:List α,l.length<=(ts (fO g l)).length
 |[]=>kK _
 |x::l=>by
  have:=Bt (g:=g) l;show l.length+1<=(ts (ps false eU::(g true x++fO g l))).length;simp only[ts,dG,bF,gI,bH] at*;omega
def wZ {f:bD->nF α} {g:Bool->α->List Pc} {Stop:List Tk->Prop} (hc:∀T,Stop ((6,eU)::T)) (hT:Stop T) (hT2:cQ T [eU]=false):
 ∀(l:List α) (p:Int),(∀x∈l,∀b T p,Stop T->∃p',aZ f N (ts (g b x)++T) p x T p')->Stop (ts (fO g l)++T)∧∃p',∀n,N<=n->vU (f (bD.fix n)) (ts (fO g l)++T) p l T p'
 |[],p,_=>⟨hT,p,fun n hn=>.nil hT2⟩
 |x::l,p,hf=>by
  have e:ts (fO g (x::l))++T=(6,eU)::(ts (g true x)++(ts (fO g l)++T)):=by
   show(6,eU)::(ts (g true x++fO g l)++T)=_;rw[dY]
  obtain⟨h1,_⟩:=wZ hc hT hT2 l p fun y hy=>hf y (iD _ hy);obtain⟨p1,h2⟩:=hf x (lK ..) true _ p h1;obtain⟨_,p2,h3⟩:=wZ hc hT hT2 l p1 fun y hy=>hf y (iD _ hy);rw[e];exact⟨hc _,p2,fun n hn=>.cons rfl (h2 n hn) (h3 n hn)⟩
def Mv:qE ((6,eU)::T)=true:=(yG T).ok
def Ry (h:RF F M N) {x:aA} {l:List aA} (hl:∀y∈x::l,M.ex y) (hT:qE T=true) (hT2:cQ T [eU]=false) (b:Bool) (p:Int):∃p',aZ (·.p135_1) (N+1) (ts (cK F.tx b (x::l))++T) p (x::l) T p':=by
 obtain⟨h1,_⟩:=wZ (f:=(·.p15_1)) (N:=N) (g:=F.tx) (Stop:=fun T=>qE T=true) (fun _=>Mv) hT hT2 l p fun y hy b T p hs=>h.ex y (hl y (iD _ hy)) b T p hs
 obtain⟨p1,h2⟩:=h.ex x (hl x (lK ..)) b _ p h1;obtain⟨_,p2,h3⟩:=wZ (f:=(·.p15_1)) (N:=N) (g:=F.tx) (Stop:=fun T=>qE T=true) (fun _=>Mv) hT hT2 l p1 fun y hy b T p hs=>h.ex y (hl y (iD _ hy)) b T p hs
 have e:ts (cK F.tx b (x::l))++T=ts (F.tx b x)++(ts (fO F.tx l)++T):=dY _ _;rw[e];by_cases hlen:l.length<=1000000
 ·exact⟨p2,aA1 h2 h3 hlen⟩
 ·have:=Bt (g:=F.tx) l;exact⟨0,aZ.xQ (by simp only[bH];omega)⟩
def AG (h:RF F M N) {x:aA} {l:List aA} (hx:M.ex x) (b:Bool) (T:List Tk):∃t Q,ts (cK F.tx b (x::l))++T=t::Q∧hX (t::Q)=true:=by
 have e:ts (cK F.tx b (x::l))++T=ts (F.tx b x)++(ts (fO F.tx l)++T):=dY _ _;rw[e];exact Cn h hx b _
def PA (h:RF F M N):∀(l:List aA),l.length<=(ts (cK F.tx b l)).length+1
 |[]=>kK _
 |x::l=>by
  have:=Bt (g:=F.tx) l;show l.length+1<=(ts (F.tx b x++fO F.tx l)).length+1;simp only[ts,gI,bH] at*;omega
def YB (h:RF F M N) {l:List aA} (hl:∀y∈l,M.ex y) (nt:Bool) (p:Int):∃p',aZ (fun F=>F.p163_1 a nt) (N+3) ((6,cL)::(ts (cK F.tx false l)++((6,cB)::T))) p (Dp nt a l []) T p':=by
 cases l with
 |nil=>exact⟨p,(ZD (p:=p)).le (by omega)⟩
 |cons x l=>
  obtain⟨p1,h1⟩:=Ry (T:=(6,cB)::T) h hl Ei rfl false p;obtain⟨t,Q,e1,e2⟩:=AG (l:=l) h (hl x (lK ..)) false ((6,cB)::T);obtain⟨f1,f2,_,_,_,_,f3⟩:=xG e2;have hlen:=PA (b:=false) h (x::l);rw[e1] at h1 ⊢;by_cases hh:(x::l).length<=1000000
  ·exact⟨p1,(ZE f1 f2 f3 hh h1).le (by omega)⟩
  ·refine⟨0,aZ.xQ ?_⟩;have:=congrArg List.length e1;simp only[bH,bF] at*;omega
def TX (h:RF F M N) {q:aF} (hq:M.se q) (hw:q.with_=[]) (nt:Bool) (p:Int):∃p',aZ (fun F=>F.p163_1 a nt) (N+3) ((6,cL)::(ts (F.se false q)++((6,cB)::T))) p (Dp nt a [] [q]) T p':=by
 obtain⟨p1,h1⟩:=h.se q hq hw false ((6,cB)::T) p (.inr ⟨T,rfl⟩);obtain⟨t,Q,e1,e2⟩:=GA h hq hw false ((6,cB)::T);rw[e1] at h1 ⊢;exact⟨p1,(aA2 e2 h1).le (by omega)⟩
def HW (h:RF F M N) (ha:M.ex a) (hT:qE T=true) (n:Bool) (b:Bool) (p:Int) {I:List Pc} {v:aA} (hI:∀nt p,n=nt->∃p',aZ (fun F=>F.p163_1 a nt) (N+3) ((6,cL)::(ts I++((6,cB)::T))) p v T p'):
 ∃p',aZ (·.p15_1) (N+30) (ts (aW F b a++(iV n++(pw true jN::ps true cL::(I++[ps false cB]))))++T) p v T p':=by
 rw[dY,dY,lS,lS,dY];cases n with
 |false=>
  show ∃p',aZ (·.p15_1) (N+30) (ts (aW F b a)++((1,jN)::(6,cL)::(ts I++((6,cB)::T)))) p v T p'
  obtain⟨p1,h1⟩:=kV (T:=(1,jN)::(6,cL)::(ts I++((6,cB)::T))) h ha b p tI;obtain⟨p2,h2⟩:=hI false p1 rfl;exact⟨p2,vB h ha hT (by decide+kernel) h1 ((TT (x:=(1,jN)) (T1:=(6,cL)::(ts I++((6,cB)::T))) rfl (show aT [(1,jN)] jM=false by decide+kernel) (show aT [(1,jN)] cN=false by decide+kernel) (show aT [(1,jN)] jZ=false by decide+kernel) (show aT [(1,jN)] kY=false by decide+kernel) (show aT [(1,jN)] jG=false by decide+kernel) (show aT [(1,jN)] jN=true by decide+kernel) h2).le (by omega))⟩
 |true=>
  show ∃p',aZ (·.p15_1) (N+30) (ts (aW F b a)++((1,cN)::(1,jN)::(6,cL)::(ts I++((6,cB)::T)))) p v T p'
  obtain⟨p1,h1⟩:=kV (T:=(1,cN)::(1,jN)::(6,cL)::(ts I++((6,cB)::T))) h ha b p tI;obtain⟨p2,h2⟩:=hI true p1 rfl;exact⟨p2,vB h ha hT (by decide+kernel) h1 ((LZ (x:=(1,cN)) (y:=(1,jN)) (T1:=(6,cL)::(ts I++((6,cB)::T))) rfl (show aT [(1,cN)] jM=false by decide+kernel) (show aT [(1,cN)] cN=true by decide+kernel) (show aT [(1,jN)] jZ=false by decide+kernel) (show aT [(1,jN)] kY=false by decide+kernel) (show aT [(1,jN)] jG=false by decide+kernel) (show aT [(1,jN)] jN=true by decide+kernel) h2).le (by omega))⟩
def AX (h:RF F M N) {q:aF} (hq:M.se q) (hw:q.with_=[]) (p:Int):∃p',aZ (·.p118_1) (N+1) ((1,eG)::(6,cL)::(ts (F.se false q)++((6,cB)::T))) p (aA.mk 27 false eB eB 0 zV [] [q]) T p':=by
 obtain⟨p1,h1⟩:=h.se q hq hw false ((6,cB)::T) p (.inr ⟨T,rfl⟩);exact⟨p1,MB (show aT [(1,eG)] eG=true by decide+kernel) h1⟩
def QV (h:RF F M N) {q:aF} (hq:M.se q) (hw:q.with_=[]) (p:Int):∃p',aZ (·.p221_1) (N+2) ((1,eG)::(6,cL)::(ts (F.se false q)++((6,cB)::T))) p (aA.mk 27 false eB eB 0 zV [] [q]) T p':=by
 obtain⟨p1,h1⟩:=AX (T:=T) h hq hw p;exact⟨p1,OL h1 (show aT [(1,eG)] rU=false by decide+kernel) rfl (show aT [(1,eG)] eG=true by decide+kernel)⟩
def QU (h:RF F M N) {q:aF} (hq:M.se q) (hw:q.with_=[]) (p:Int):∃p',aZ (·.p79_1) (N+2) ((1,cN)::(1,eG)::(6,cL)::(ts (F.se false q)++((6,cB)::T))) p (aA.mk 27 true eB eB 0 zV [] [q]) T p':=by
 obtain⟨p1,h1⟩:=AX (T:=T) h hq hw p;exact⟨p1,OM h1 (show aT [(1,cN)] cN=true by decide+kernel) (show aT [(1,eG)] eG=true by decide+kernel)⟩
def TW (h:RF F M N) {q:aF} (hq:M.se q) (hw:q.with_=[]) (p:Int):∃p',aZ (·.p221_1) (N+1) ((6,cL)::(ts (F.se false q)++((6,cB)::T))) p (aA.mk 28 false eB eB 0 zV [] [q]) T p':=by
 obtain⟨p1,h1⟩:=h.se q hq hw false ((6,cB)::T) p (.inr ⟨T,rfl⟩);obtain⟨t,Q,e1,e2⟩:=GA h hq hw false ((6,cB)::T);rw[e1] at h1 ⊢;exact⟨p1,OK h1 e2⟩
def AN {l:List aA} (hT:qE T=true):qE (ts (eQ F l)++T)=true:=by
 match l with
 |c::r::l=>exact(yG (t:=(1,kX)) _).ok
 |[]=>exact hT
 |[c]=>exact hT
def Tg (h:RF F M N) (hT:qE T=true):∀(m:Nat) (l:List aA) (p:Int),l.length=2*m->(∀x∈l,M.ex x)->∃p',∀n,N<=n->Cv (bD.fix n) (ts (eQ F l)++T) p m l T p'
 |0,[],p,_,_=>⟨p,fun n hn=>.nil⟩
 |m+1,c::r::l,p,hl,hM=>by
  have e:ts (eQ F (c::r::l))++T=(1,kX)::(ts (F.tx true c)++((1,tC)::(ts (F.tx true r)++(ts (eQ F l)++T)))):=by
   show ts (pw true kX::(F.tx true c++(pw true tC::(F.tx true r++eQ F l))))++T=_;rw[lS,dY,lS,dY]
  obtain⟨p1,h1⟩:=h.ex c (hM c (by simp)) true ((1,tC)::(ts (F.tx true r)++(ts (eQ F l)++T))) p (yG _).ok;obtain⟨p2,h2⟩:=h.ex r (hM r (by simp)) true (ts (eQ F l)++T) p1 (AN hT);obtain⟨p3,h3⟩:=Tg h hT m l p2 (by simp at hl;omega) fun x hx=>hM x (by simp[hx]);rw[e];exact⟨p3,fun n hn=>.cons (show aT [(1,kX)] kX=true by decide+kernel) (h1 n hn) (show aT [(1,tC)] tC=true by decide+kernel) (h2 n hn) (h3 n hn)⟩
 |m+1,[],p,hl,_=>by simp at hl
 |m+1,[c],p,hl,_=>by simp at hl;omega
 |0,c::l,p,hl,_=>by simp at hl
def Nx (h:RF F M N) {o:List aA} (ho:o=[]∨∃x,o=[x]∧M.ex x) (p:Int):∃p',(∀n,N<=n->Pv (bD.fix n) (ts (nP F o)++((1,iO)::T)) p o T p')∧qE (ts (nP F o)++((1,iO)::T))=true:=by
 rcases ho with rfl|⟨x,rfl,hx⟩
 ·exact⟨p,fun n hn=>.inl ⟨_,rfl,rfl,(show aT [(1,iO)] kX=false by decide+kernel),(show aT [(1,iO)] qJ=false by decide+kernel),(show aT [(1,iO)] iO=true by decide+kernel),rfl⟩,(yG (t:=(1,iO)) _).ok⟩
 ·obtain⟨p1,h1⟩:=h.ex x hx true ((1,iO)::T) p (yG _).ok;exact⟨p1,fun n hn=>.inr ⟨(1,qJ),(1,iO),ts (F.tx true x)++((1,iO)::T),x,rfl,rfl,(show aT [(1,qJ)] kX=false by decide+kernel),(show aT [(1,qJ)] qJ=true by decide+kernel),h1 n hn,(show aT [(1,iO)] iO=true by decide+kernel)⟩,(yG (t:=(1,qJ)) _).ok⟩
def AM (F:eA):∀(m:Nat) (l:List aA),l.length=2*m->m<=(ts (eQ F l)).length
 |0,_,_=>kK _
 |m+1,c::r::l,hl=>by
  have:=AM F m l (by simp at hl;omega);show m+1<=(ts (pw true kX::(F.tx true c++(pw true tC::(F.tx true r++eQ F l))))).length;simp only[ts,dG,bF,gI,bH] at*;omega
 |m+1,[],hl=>by simp at hl
 |m+1,[c],hl=>by simp at hl;omega
def aAe (h:RF F M N) {k:Nat} {l o:List aA} {w:List aA} (hw:w=[]∨∃x,w=[x]∧M.ex x) (hl:l.length=2*(k+1)) (hM:∀x∈l,M.ex x) (ho:o=[]∨∃x,o=[x]∧M.ex x) (p:Int):
 ∃p',aZ (·.p221_1) (N+2) ((1,jA)::(ts (w.flatMap (F.tx true))++(ts (eQ F l)++(ts (nP F o)++((1,iO)::T))))) p (mG ((w.length:Int)+2*o.length) (w++l++o)) T p':=by
 have hcase:∀{p':Int} {v:aA} {Y:List Tk},aZ (·.p225_1) (N+1) ((1,jA)::Y) p v T p'->aZ (·.p221_1) (N+2) ((1,jA)::Y) p v T p':=fun h1=>UN h1 (show aT [(1,jA)] rU=false by decide+kernel) rfl (show aT [(1,jA)] eG=false by decide+kernel) (show aT [(1,jA)] jA=true by decide+kernel)
 by_cases hk:k<400000
 ·rcases hw with rfl|⟨x,rfl,hx⟩
  ·obtain⟨_,_,hq⟩:=Nx (T:=T) h ho p;obtain⟨p2,h2⟩:=Tg h hq (k+1) l p hl hM;obtain⟨p3,h3,_⟩:=Nx (T:=T) h ho p2
   match l,hl with
   |c::r::l',hl=>
    have:=PD (k:=k) (show aT ((1,jA)::(ts (eQ F (c::r::l'))++(ts (nP F o)++((1,iO)::T)))) jA=true from(show aT [(1,jA)] jA=true by decide+kernel)) (show aT [(1,kX)] kX=true by decide+kernel) h2 (by omega) (by omega) h3;exact⟨p3,hcase this⟩
  ·obtain⟨_,_,hq⟩:=Nx (T:=T) h ho p;obtain⟨p1,h1⟩:=h.ex x hx true (ts (eQ F l)++(ts (nP F o)++((1,iO)::T))) p (AN hq);obtain⟨p2,h2⟩:=Tg h hq (k+1) l p1 hl hM;obtain⟨p3,h3,_⟩:=Nx (T:=T) h ho p2;obtain⟨t,Q,e1,e2⟩:=Cn h hx true (ts (eQ F l)++(ts (nP F o)++((1,iO)::T)));have hf:[x].flatMap (F.tx true)=F.tx true x:=by simp
   rw[hf];have hwh:aT (ts (F.tx true x)++(ts (eQ F l)++(ts (nP F o)++((1,iO)::T)))) kX=false:=by rw[e1];exact(xG e2).2.2.2.2.1
   have:=NC (k:=k) (show aT ((1,jA)::(ts (F.tx true x)++(ts (eQ F l)++(ts (nP F o)++((1,iO)::T))))) jA=true from(show aT [(1,jA)] jA=true by decide+kernel)) hwh h1 h2 (by omega) (by omega) h3;exact⟨p3,hcase this⟩
 ·have:=AM F (k+1) l hl;exact⟨0,aZ.xQ (by simp only[bF,bH];omega)⟩
def aAd (h:RF F M N) (ha:M.ex a) {s:ByteArray} (hs:∀L,wB=some L->pT s L=some true) (p:Int):∃p',aZ (·.p221_1) (N+2) ((1,pR)::(6,cL)::(ts (F.tx false a)++((1,lW)::(1,s)::(6,cB)::T))) p (aA.mk 30 false eB s 0 zV [a] []) T p':=by
 obtain⟨p1,h1⟩:=h.ex a ha false ((1,lW)::(1,s)::(6,cB)::T) p (yG _).ok;have h2:=PB (x:=(1,pR)) (show aT [(1,pR)] pR=true by decide+kernel) h1 (show aT [(1,lW)] lW=true by decide+kernel) hs;exact⟨p1,UM h2 (show aT [(1,pR)] rU=false by decide+kernel) rfl (show aT [(1,pR)] eG=false by decide+kernel) (show aT [(1,pR)] jA=false by decide+kernel) (show aT [(1,pR)] pR=true by decide+kernel)⟩
def QW (h:RF F M N) (ha:M.ex a) (hT:qE T=true) {s:ByteArray} (hs:∀L,wA=some L->pT s L=some true) (b:Bool) (p:Int):∃p',aZ (·.p15_1) (N+30) (ts (aW F b a)++((1,pM)::(1,s)::T)) p (aA.mk 31 false eB s 0 zV [a] []) T p':=by
 have hq:=wD hT;obtain⟨p1,h1⟩:=kV (T:=(1,pM)::(1,s)::T) h ha b p tI;obtain⟨f1,f2,f3⟩:=xH (mC h ha b ((1,pM)::(1,s)::T));have h2:=NO h1 f1 f2 (show aT [(1,pM)] pM=true by decide+kernel) hs (GE (Kr (Aw (wE (rX (pU (nB (lV hq))))))));exact⟨p1,(u1 h2 f3 hq).le (by omega)⟩
end
section
variable {R:List UInt8} {P Q:List Pc} {b:Bool} {F:eA} {M:iP} {α:Type}
def iB:List UInt8->Bool
 |[]=>true
 |c::_=>c==32||c==41||c==44
def Bb (R:List UInt8):Bool:=jY oL R&&jY (· ==39) R
def Rm (h:iB R=true):R=[]∨∃c R',R=c::R'∧(c=32∨c=41∨c=44):=by
 cases R with
 |nil=>exact .inl rfl
 |cons c R=>
  simp only[iB,Bk,eM] at h;exact .inr ⟨c,R,rfl,by rcases h with(h|h)|h<;>simp[h]⟩
def Ot (h:iB R=true):Bb R=true:=by
 rcases Rm h with rfl|⟨c,R',rfl,rfl|rfl|rfl⟩<;>rfl
def CV (h:iB R=true):jY lA R=true:=by
 rcases Rm h with rfl|⟨c,R',rfl,rfl|rfl|rfl⟩<;>rfl
def EI (h:iB R=true):jY (· ==39) R=true:=by
 rcases Rm h with rfl|⟨c,R',rfl,rfl|rfl|rfl⟩<;>rfl
def Gd (b:Bool) (P:List Pc) (R:List UInt8):Prop:=(∃t Q,P=(b,t)::Q)∧fL P R
def Cj (w:ByteArray):Bool:=match w.data.toList with
 |c::a=>mJ c&&(c::a).all oL&&(kA w).isSome
 |[]=>false
def Bs {c:UInt8} {L:List UInt8} (h:qZ c=false) (h2:(c==45)=false):qD (c::L)=true:=by
 cases L with
 |nil=>simp[qD,h]
 |cons d L=>simp[qD,h,h2]
def Rq {c:UInt8} (h:mJ c=true):qZ c=false∧(c==45)=false:=by
 have:∀k:Fin 256,mJ (UInt8.ofNat k.val)=true->qZ (UInt8.ofNat k.val)=false∧(UInt8.ofNat k.val==45)=false:=by decide+kernel
 have e:=this ⟨c.toNat,c.toNat_lt⟩;simp only[xU] at e;exact e h
def Rt {c:UInt8} (h:lA c=true):qZ c=false∧(c==45)=false:=by
 have:∀k:Fin 256,lA (UInt8.ofNat k.val)=true->qZ (UInt8.ofNat k.val)=false∧(UInt8.ofNat k.val==45)=false:=by decide+kernel
 have e:=this ⟨c.toNat,c.toNat_lt⟩;simp only[xU] at e;exact e h
def rA (w:ByteArray):Prop:=∃c a,w.data.toList=c::a∧mJ c=true∧(c::a).all oL=true∧∃r,kA w=some r
def WG {w:ByteArray} (h:Cj w=true):rA w:=by
 unfold Cj at h;split at h
 ·rename_i c a e;simp only[dI,Option.isSome_iff_exists] at h;exact⟨c,a,e,h.1.1,h.1.2,h.2⟩
 ·cases h
def xC {w:ByteArray} (hw:rA w) (hf:Bb (aG P++R)=true) (hP:fL P R):fL (pw b w::P) R:=by
 obtain⟨c,a,e,h1,h2,h3⟩:=hw;unfold Bb at hf;rw[dI] at hf;refine⟨.word e h1 h2 h3 hf.1 hf.2,?_,hP⟩;have eb:dK (1,w)=c::a:=e;rw[eb];exact Bs (Rq h1).1 (Rq h1).2
def pF (w:ByteArray) (hf:Bb (aG P++R)=true) (hP:fL P R) (hw:Cj w=true:=by decide+kernel):fL (pw b w::P) R:=xC (WG hw) hf hP
def DW (c:UInt8):Bool:=Ge c&& !(c==124||c==61||c==60||c==33||c==62)&& !qZ c&& !(c==45)
def pO {c:UInt8} (hP:fL P R) (hc:DW c=true:=by decide+kernel):fL (ps b (bm #[c])::P) R:=by
 simp only[DW,dI,qR,Bool.or_eq_false_iff] at hc;obtain⟨⟨⟨h1,⟨⟨⟨⟨h2,h3⟩,h4⟩,h5⟩,h6⟩⟩,h7⟩,h8⟩:=hc;refine⟨.one (c:=c) rfl h1 (fun d R' _=>?_),Bs h7 h8,hP⟩;simp_all [uK]
def IV (s:ByteArray):Bool:=match s.data.toList with
 |[c]=>Ge c&& !(uK c 32)&& !qZ c
 |[c,d]=>uK c d&& !qZ c&& !(c==45)
 |_=>false
def ZN {s:ByteArray} {L:List UInt8} (hb:aG P++R=32::L) (hP:fL P R) (hs:IV s=true):fL (ps b s::P) R:=by
 unfold IV at hs;split at hs
 ·rename_i c e;simp only[dI,qR] at hs;have eb:dK (6,s)=[c]:=e;refine⟨.one e hs.1.1 (fun d R' h=>?_),?_,hP⟩
  ·rw[hb] at h;injection h with h;subst h;exact hs.1.2
  ·rw[eb,hb];show qD (c::32::L)=true;simp[qD,hs.2]
 ·rename_i c d e;simp only[dI,qR] at hs;have eb:dK (6,s)=[c,d]:=e;refine⟨.two e hs.1.1,?_,hP⟩;rw[eb];exact Bs hs.1.2 hs.2
 ·cases hs
def Cb (hP:∀S,iB S=true->fL P S):fL (P++[ps false cB]) R:=fL.app (hP _ rfl) (pO (c:=41) trivial)
def aA7 {f:Bool->α->List Pc} {l:List α} (hf:∀x∈l,∀b S,iB S=true->Gd b (f b x) S) (hR:iB R=true):fL (fO f l) R∧iB (aG (fO f l)++R)=true:=by
 induction l with
 |nil=>exact⟨trivial,hR⟩
 |cons x l ih=>
  obtain⟨h1,h2⟩:=ih fun y hy=>hf y (iD _ hy);have e:fO f (x::l)=ps false eU::(f true x++fO f l):=rfl;rw[e];exact⟨pO (c:=44) (fL.app (hf x (lK ..) true _ h2).2 h1),rfl⟩
def Bu {f:Bool->α->List Pc} {x:α} {l:List α} (hf:∀y∈x::l,∀b S,iB S=true->Gd b (f b y) S) (hR:iB R=true):Gd b (cK f b (x::l)) R:=by
 obtain⟨h1,h2⟩:=aA7 (fun y hy=>hf y (iD _ hy)) hR;obtain⟨⟨t,Q,e⟩,h3⟩:=hf x (lK ..) b _ h2;refine⟨⟨t,Q++fO f l,?_⟩,fL.app h3 h1⟩;show f b x++fO f l=_;rw[e];rfl
def Mr {f:Bool->α->List Pc} {l:List α} (hf:∀y∈l,∀b S,iB S=true->Gd b (f b y) S) (hR:iB R=true):fL (cK f b l) R:=by
 cases l with
 |nil=>trivial
 |cons x l=>exact(Bu hf hR).2
structure GF (F:eA) (M:iP):Prop where
 ex:∀e,M.ex e->∀b S,iB S=true->Gd b (F.tx b e) S
 cl:∀e,M.ex e->nL e=true->∀b,∃t Q c L,F.tx b e=(b,t)::Q∧dK t=c::L∧(c==45)=false
 se:∀q,M.se q->∀b S,iB S=true->Gd b (F.se b q) S
def yQ (h:GF F M) {e:aA} (he:M.ex e) (hR:iB R=true):Gd b (aW F b e) R∧∃t Q c L,aW F b e=(b,t)::Q∧dK t=c::L∧(c==45)=false:=by
 unfold aW;cases hc:nL e with
 |true=>exact⟨h.ex e he b R hR,h.cl e he hc b⟩
 |false=>exact⟨⟨⟨_,_,rfl⟩,pO (c:=40) (Cb fun S hS=>(h.ex e he false S hS).2)⟩,(6,cL),_,40,[],rfl,rfl,rfl⟩
def Gd.app (h:∀S,iB S=true->Gd b P S) (hQ:fL Q R) (hk:iB (aG Q++R)=true):Gd b (P++Q) R:=by
 obtain⟨⟨t,P',e⟩,h2⟩:=h _ hk;exact⟨⟨t,P'++Q,by rw[e];rfl⟩,fL.app h2 hQ⟩
def Oz (h:GF F M) {q:aF} (hq:M.se q):fL (ps b cL::(F.se false q++[ps false cB])) R:=pO (c:=40) (Cb fun S hS=>(h.se q hq false S hS).2)
def GK {c:UInt8} (h:GF F M) {e:aA} (he:M.ex e) (hR:iB R=true) (h1:Ge c=true) (h2:∀d,uK c d=false) (h3:qZ c=false):Gd b (ps b (bm #[c])::aW F false e) R:=by
 obtain⟨⟨_,hg⟩,t,Q,d,L,e1,e2,e3⟩:=yQ (b:=false) h he hR;refine⟨⟨_,_,rfl⟩,.one (c:=c) rfl h1 (fun d R' _=>h2 d),?_,hg⟩;show qD (c::(aG (aW F false e)++R))=true;rw[e1,yE,show kC (false,t)=dK t from rfl,e2];simp[qD,h3,e3]
def aA8 {k:Nat} (hk:7<=k∧k<=24) (hP:Gd true P R):fL (oW k++P) R∧∃L,aG (oW k++P)++R=32::L:=by
 obtain⟨⟨t,Q,rfl⟩,hg⟩:=hP;have hw:Bb (aG ((true,t)::Q)++R)=true:=rfl;have hs:∃L,aG ((true,t)::Q)++R=32::L:=⟨_,rfl⟩;obtain⟨L,hs⟩:=hs;obtain⟨h1,h2⟩:=hk;have:k=7∨k=8∨k=9∨k=10∨k=11∨k=12∨k=13∨k=14∨k=15∨k=16∨k=17∨k=18∨k=19∨k=20∨k=21∨k=22∨k=23∨k=24:=by omega
 rcases this with rfl|rfl|rfl|rfl|rfl|rfl|rfl|rfl|rfl|rfl|rfl|rfl|rfl|rfl|rfl|rfl|rfl|rfl
 all_goals first
  |exact⟨ZN hs hg (by decide+kernel),_,rfl⟩
  |exact⟨pF _ hw hg,_,rfl⟩
  |exact⟨pF _ rfl (pF _ hw hg),_,rfl⟩
def Uz {n:Bool} {L:List UInt8} (hP:fL P R) (hb:aG P++R=32::L):fL (iV n++P) R∧∃L,aG (iV n++P)++R=32::L:=by
 cases n with
 |false=>exact⟨hP,L,hb⟩
 |true=>exact⟨pF _ (by show Bb (aG P++R)=true;rw[hb];rfl) hP,_,rfl⟩
end
section
variable {R:List UInt8} {P Q:List Pc} {b:Bool} {F:eA} {M:iP}
def rP:Prop:=(∀s,gX s=some true->rA s)∧(∀s,pN s wB->rA s)∧(∀s,pN s wA->rA s)∧∀s,pN s (some [jX])->rA s
def Fo (n:Int):Prop:=(∃c a,(kP n).data.toList=c::a)∧(kP n).data.toList.all lA=true
def Nk (h:iB R=true):Bb (aG []++R)=true:=Ot h
def aEb (h:iB R=true):fL [pw b iO] R:=pF _ (Nk h) trivial
def Mq {w:ByteArray} (hw:rA w) (h:iB R=true):fL [pw b w] R:=xC hw (Nk h) trivial
def mW {t:Tk} (h:fL ((b,t)::P) R):Gd b ((b,t)::P) R:=⟨⟨t,P,rfl⟩,h⟩
def Gd.bl {P:List Pc} (h:Gd true P R):∃L,aG P++R=32::L:=by
 obtain⟨⟨t,Q,rfl⟩,_⟩:=h;exact⟨_,rfl⟩
def xB {P:List Pc} (h:∃L,aG P++R=32::L):iB (aG P++R)=true:=by
 obtain⟨L,h⟩:=h;rw[h];rfl
def aAv {P:List Pc} (h:∃L,aG P++R=32::L):Bb (aG P++R)=true:=Ot (xB h)
def lG (w:ByteArray) (hP:Gd true P R) (hw:Cj w=true:=by decide+kernel):Gd b (pw b w::P) R:=mW (pF w (aAv hP.bl) hP.2 hw)
def EP (h:GF F M) (hR:Gd true Q R):∀l:List aA,(∀x∈l,M.ex x)->Gd true (eQ F l++Q) R
 |c::r::l,hl=>by
  have ih:=EP h hR l fun x hx=>hl x (iD _ (iD _ hx));have e:eQ F (c::r::l)++Q=pw true kX::(F.tx true c++(pw true tC::(F.tx true r++(eQ F l++Q)))):=by simp[eQ]
  rw[e];have h1:=Gd.app (h.ex r (hl r (by simp)) true) ih.2 (xB ih.bl);have h2:=lG (b:=true) tC h1;have h3:=Gd.app (h.ex c (hl c (by simp)) true) h2.2 (xB h2.bl);exact lG kX h3
 |[],_=>hR
 |[c],_=>hR
def AB (h:GF F M) (hR:Gd true Q R):∀l:List aA,(∀x∈l,M.ex x)->Gd true (l.flatMap (F.tx true)++Q) R
 |[],_=>hR
 |c::l,hl=>by
  have ih:=AB h hR l fun x hx=>hl x (iD _ hx);rw[rN,fS];exact Gd.app (h.ex c (hl c (by simp)) true) ih.2 (xB ih.bl)
def ZQ (h:GF F M) (hR:Gd true Q R) (l:List aA) (hl:∀x∈l,M.ex x):Gd true (nP F l++Q) R:=by
 cases l with
 |nil=>exact hR
 |cons x l=>
  have e:nP F (x::l)++Q=pw true qJ::(F.tx true x++Q):=rfl;rw[e];exact lG qJ (Gd.app (h.ex x (hl x (by simp)) true) hR.2 (xB hR.bl))
def Zw {n:Nat} {l:List aA} {x:aA} (h:x∈caseA n l):x∈l:=by
 unfold caseA at h;split at h
 ·exact Du h
 ·cases h
def Zv {n:Nat} {l:List aA} {x:aA} (h:x∈iH n l):x∈l:=by
 unfold iH at h;dsimp only at h;split at h<;>split at h
 all_goals first
  |exact Gz (Du h)
  |exact Du h
  |exact Gz h
  |exact h
def Zu {n:Nat} {l:List aA} {x:aA} (h:x∈iK n l):x∈l:=by
 unfold iK at h;split at h
 ·exact Gz h
 ·cases h
def aEc (h:GF F M) {a c:aA} (ha:M.ex a) (hc:M.ex c) (hR:iB R=true) {k:Nat} (hk:7<=k∧k<=24) {n:Bool}:Gd b (aW F b a++(iV n++(oW k++aW F true c))) R:=by
 have h1:=(yQ (b:=true) h hc hR).1;obtain⟨h2,L,hL⟩:=aA8 hk h1;obtain⟨h3,h4⟩:=Uz (n:=n) h2 hL;exact Gd.app (fun S hS=>(yQ h ha hS).1) h3 (xB h4)
def aA0 (v:aH) (h:pH v=some true) (hd:v.kind=1->Fo v.int) (hR:iB R=true):fL [(b,jR v)] R:=by
 unfold jR;split
 ·exact pF _ (Nk hR) trivial
 split
 ·rename_i h1;obtain⟨⟨c,a,e⟩,h2⟩:=hd h1;rw[e] at h2;have hc:lA c=true:=by rw[tY,dI] at h2;exact h2.1
  refine⟨.int e h2 (CV hR) (EI hR),?_,trivial⟩;rw[show dK (2,kP v.int)=c::a from e];exact Bs (Rt hc).1 (Rt hc).2
 split
 ·exact⟨.text (EI hR),Bs (c:=39) rfl rfl,trivial⟩
 ·exact⟨.Ds,Bs (c:=120) rfl rfl,trivial⟩
def RN (v:aH) (hd:v.kind=1->Fo v.int):∃c L,dK (jR v)=c::L∧(c==45)=false:=by
 unfold jR;split
 ·exact⟨78,_,rfl,rfl⟩
 split
 ·rename_i h1;obtain⟨⟨c,a,e⟩,h2⟩:=hd h1;rw[e] at h2;have hc:lA c=true:=by rw[tY,dI] at h2;exact h2.1
  exact⟨c,a,e,(Rt hc).2⟩
 split
 ·exact⟨39,_,rfl,rfl⟩
 ·exact⟨120,_,rfl,rfl⟩
def Ra {w:ByteArray} (h:rA w):∃c L,dK (1,w)=c::L∧(c==45)=false:=by
 obtain⟨c,a,e,h1,_⟩:=h;exact⟨c,a,e,(Rq h1).2⟩
end
section
variable {R:List UInt8} {P Q:List Pc} {b:Bool} {F:eA} {M:iP}
def yJ {e:aA} {k:Nat} (hk:7<=k∧k<=24):dX F b e k=aW F b (e.args.getD 0 aA.z)++((if k=23∨k=24 then iV e.not else [])++(oW k++aW F true (e.args.getD 1 aA.z))):=by
 have:k=7∨k=8∨k=9∨k=10∨k=11∨k=12∨k=13∨k=14∨k=15∨k=16∨k=17∨k=18∨k=19∨k=20∨k=21∨k=22∨k=23∨k=24:=by omega
 rcases this with rfl|rfl|rfl|rfl|rfl|rfl|rfl|rfl|rfl|rfl|rfl|rfl|rfl|rfl|rfl|rfl|rfl|rfl<;>rfl
def By {e:aA} {k:Nat} (hk:7<=k∧k<=24) (h:Db e k):∃a c,e=aA.mk k e.not eB eB 0 zV [a,c] []∧(k<23->e.not=false):=by
 have:k=7∨k=8∨k=9∨k=10∨k=11∨k=12∨k=13∨k=14∨k=15∨k=16∨k=17∨k=18∨k=19∨k=20∨k=21∨k=22∨k=23∨k=24:=by omega
 rcases this with rfl|rfl|rfl|rfl|rfl|rfl|rfl|rfl|rfl|rfl|rfl|rfl|rfl|rfl|rfl|rfl|rfl|rfl<;>exact h.2.2
def yB {e:aA} {k:Nat} (h:Db e k):k=1∨k=2∨k=3∨k=4∨k=5∨k=6∨(7<=k∧k<=24)∨k=25∨k=26∨k=27∨k=28∨k=29∨k=30∨k=31∨k=32:=by
 unfold Db at h;split at h<;>omega
def To {n:Bool} {k:Nat} (hk:7<=k∧k<=24) (h:k<23->n=false):(if k=23∨k=24 then iV n else [])=iV n:=by
 by_cases h1:k<23
 ·rw[h h1];split<;>rfl
 ·rw[if_pos (by omega)]
def aBb (hN:rP) (hD:∀n:Int,0<=n->Fo n) (h:GF F M) {e:aA} (he:rD M e) (hR:iB R=true):Gd b (mF F b e) R:=by
 obtain⟨h0,ho,ha,hs⟩:=he;unfold mF;generalize e.op.toNat=k at ho ⊢;rcases yB ho with rfl|rfl|rfl|rfl|rfl|rfl|hk|rfl|rfl|rfl|rfl|rfl|rfl|rfl|rfl
 ·exact mW (aA0 _ ho.2.1 (fun _=>hD _ ho.2.2.1) hR)
 ·obtain⟨e1,hn,ht⟩:=ho;show Gd b (if e.table.data.toList=[] then [pw b e.name] else [pw b e.table,ps false iM,pw false e.name]) R;split
  ·exact mW (Mq (hN.1 _ hn) hR)
  ·rename_i hne;rcases ht with ht|ht
   ·exact absurd ht hne
   exact mW (xC (hN.1 _ ht) rfl (pO (c:=46) (Mq (hN.1 _ hn) hR)))
 ·obtain⟨e1,h1,h2⟩:=ho;exact mW ⟨.param (hD _ (by omega)).2 (CV hR),Bs (c:=63) rfl rfl,trivial⟩
 ·obtain⟨a,e1⟩:=ho;rw[e1] at ha ⊢;exact GK (c:=45) h (ha a (by simp)) hR (by decide+kernel) (fun d=>rfl) rfl
 ·obtain⟨a,e1⟩:=ho;rw[e1] at ha ⊢;exact GK (c:=43) h (ha a (by simp)) hR (by decide+kernel) (fun d=>rfl) rfl
 ·obtain⟨a,e1⟩:=ho;rw[e1] at ha ⊢;have hx:=ha a (by simp);show Gd b (if a.op=27 then pw b cN::ps true cL::(F.tx false a++[ps false cB]) else pw b cN::aW F true a) R;split
  ·exact mW (pF _ rfl (pO (c:=40) (Cb fun S hS=>(h.ex a hx false S hS).2)))
  ·exact lG _ (yQ h hx hR).1
 ·obtain⟨a,c,e1,e2⟩:=By hk ho;rw[yJ hk,To hk e2];rw[e1] at ha ⊢;exact aEc h (ha a (by simp)) (ha c (by simp)) hR hk
 ·obtain⟨a,c,d,e1⟩:=ho;rw[e1] at ha ⊢;have h1:=(yQ (b:=true) h (ha d (by simp)) hR).1;have h2:=lG (b:=true) jB h1;have h3:=Gd.app (fun S hS=>(yQ (b:=true) h (ha c (by simp)) hS).1) h2.2 (xB h2.bl);have h4:=lG (b:=true) jG h3;obtain⟨L,hL⟩:=h4.bl;obtain⟨h5,h6⟩:=Uz (n:=e.not) h4.2 hL;exact Gd.app (fun S hS=>(yQ h (ha a (by simp)) hS).1) h5 (xB h6)
 ·have fin:∀(a:aA) (X:List Pc),M.ex a->(∀S,iB S=true->fL X S)->Gd b (aW F b a++(iV e.not++(pw true jN::ps true cL::(X++[ps false cB])))) R:=by
   intro a X hx hX;have h4:fL (pw true jN::ps true cL::(X++[ps false cB])) R:=pF _ rfl (pO (c:=40) (Cb hX));obtain⟨h5,h6⟩:=Uz (n:=e.not) (L:=_) h4 rfl;exact Gd.app (fun S hS=>(yQ h hx hS).1) h5 (xB h6)
  rcases ho with⟨a,l,e1⟩|⟨a,q,e1⟩
  ·rw[e1] at ha;have:=fin a (cK F.tx false l) (ha a (by simp)) fun S hS=>Mr (fun x hx b' S' hS'=>h.ex x (ha x (by simp[hx])) b' S' hS') hS;rw[e1];exact this
  ·rw[e1] at ha hs;have:=fin a (F.se false q) (ha a (by simp)) fun S hS=>(h.se q (hs q (by simp)).2 false S hS).2;rw[e1];exact this
 ·obtain⟨q,e1⟩:=ho;rw[e1] at hs;have hq:=(hs q (by simp)).2;have h1:∀b',fL (ps b' cL::(F.se false q++[ps false cB])) R:=fun b'=>Oz h hq;rw[e1];show Gd b ((if e.not then [pw b cN,pw true eG] else [pw b eG])++(ps true cL::(F.se false q++[ps false cB]))) R;cases e.not with
  |true=>exact mW (pF _ rfl (pF _ rfl (h1 true)))
  |false=>exact mW (pF _ rfl (h1 true))
 ·obtain⟨q,e1⟩:=ho;rw[e1] at hs ⊢;exact mW (Oz h (hs q (by simp)).2)
 ·have h1:Gd true [pw true iO] R:=mW (aEb hR);have h2:=ZQ h h1 (iK e.n.toNat e.args) fun x hx=>ha x (Zu hx);have h3:=EP h h2 (iH e.n.toNat e.args) fun x hx=>ha x (Zv hx);have h4:=AB h h3 (caseA e.n.toNat e.args) fun x hx=>ha x (Zw hx);exact lG jA h4
 ·obtain⟨a,e1,hn⟩:=ho;have hw:rA e.name:=hN.2.1 e.name hn;have hx:M.ex a:=ha a (by rw[e1];simp);have ht:fL [pw true lW,pw true e.name,ps false cB] R:=pF _ rfl (xC hw rfl (pO (c:=41) trivial));have:Gd b (pw b pR::ps false cL::(F.tx false a++[pw true lW,pw true e.name,ps false cB])) R:=mW (pF _ rfl (pO (c:=40) (fL.app (h.ex a hx false _ rfl).2 ht)));rw[e1];exact this
 ·obtain⟨a,e1,hn⟩:=ho;have hw:rA e.name:=hN.2.2.1 e.name hn;have hx:M.ex a:=ha a (by rw[e1];simp);have:Gd b (aW F b a++[pw true pM,pw true e.name]) R:=Gd.app (fun S hS=>(yQ h hx hS).1) (pF _ rfl (Mq hw hR)) rfl;rw[e1];exact this
 ·obtain⟨e1,hn,hk⟩:=ho;have hw:rA e.name:=by
   rcases hn with hn|hn
   ·exact hN.1 _ hn
   ·exact hN.2.2.2 _ hn
  show Gd b (pw b e.name::ps false cL::((if e.n=1 then pw false kT::cK F.tx true e.args else if e.n=2 then [ps false mZ] else cK F.tx false e.args)++[ps false cB])) R;have hin:∀X:List Pc,(∀S,iB S=true->fL X S)->Gd b (pw b e.name::ps false cL::(X++[ps false cB])) R:=fun X hX=>mW (xC hw rfl (pO (c:=40) (Cb hX)));apply hin;intro S hS;have hf:∀x∈e.args,∀b' S',iB S'=true->Gd b' (F.tx b' x) S':=fun x hx b' S' hS'=>h.ex x (ha x hx) b' S' hS';split
  ·rename_i h1;have hl:e.args.length=1:=by
    rcases hk with h|h|h
    ·omega
    ·exact h.2
    ·omega
   match hm:e.args with
   |[]=>rw[hm] at hl;cases hl
   |x::l=>
    rw[hm] at hf;exact(lG (b:=false) kT (Bu hf hS)).2
  split
  ·exact pO (c:=42) trivial
  ·exact Mr hf hS
def VK (hN:rP) (hD:∀n:Int,0<=n->Fo n) {e:aA} (he:rD M e) (hc:nL e=true):∃t Q c L,mF F b e=(b,t)::Q∧dK t=c::L∧(c==45)=false:=by
 obtain⟨h0,ho,ha,hs⟩:=he;unfold nL at hc;unfold mF;generalize e.op.toNat=k at ho hc ⊢;rcases yB ho with rfl|rfl|rfl|rfl|rfl|rfl|hk|rfl|rfl|rfl|rfl|rfl|rfl|rfl|rfl
 ·obtain⟨c,L,h1,h2⟩:=RN e.v_ fun _=>hD _ ho.2.2.1;exact⟨_,_,c,L,rfl,h1,h2⟩
 ·obtain⟨e1,hn,ht⟩:=ho;show ∃t Q c L,(if e.table.data.toList=[] then [pw b e.name] else [pw b e.table,ps false iM,pw false e.name])=(b,t)::Q∧dK t=c::L∧(c==45)=false;split
  ·obtain⟨c,L,h1,h2⟩:=Ra (hN.1 _ hn);exact⟨_,_,c,L,rfl,h1,h2⟩
  ·rename_i hne;rcases ht with ht|ht
   ·exact absurd ht hne
   obtain⟨c,L,h1,h2⟩:=Ra (hN.1 _ ht);exact⟨_,_,c,L,rfl,h1,h2⟩
 ·exact⟨_,_,63,_,rfl,rfl,rfl⟩
 ·cases hc
 ·cases hc
 ·cases hc
 ·exfalso;obtain⟨h1,h2⟩:=hk;have:Ip k e.not=false:=by
   have:k=7∨k=8∨k=9∨k=10∨k=11∨k=12∨k=13∨k=14∨k=15∨k=16∨k=17∨k=18∨k=19∨k=20∨k=21∨k=22∨k=23∨k=24:=by omega
   rcases this with rfl|rfl|rfl|rfl|rfl|rfl|rfl|rfl|rfl|rfl|rfl|rfl|rfl|rfl|rfl|rfl|rfl|rfl<;>rfl
  rw[this] at hc;cases hc
 ·cases hc
 ·cases hc
 ·have hn:e.not=false:=by
   cases hh:e.not with
   |false=>rfl
   |true=>rw[hh] at hc;cases hc
  show ∃t Q c L,(if e.not then [pw b cN,pw true eG] else [pw b eG])++(ps true cL::(F.se false (e.sub.getD 0 aF.z)++[ps false cB]))=(b,t)::Q∧dK t=c::L∧(c==45)=false;rw[hn];exact⟨_,_,69,_,rfl,rfl,rfl⟩
 ·exact⟨_,_,40,_,rfl,rfl,rfl⟩
 ·exact⟨_,_,67,_,rfl,rfl,rfl⟩
 ·exact⟨_,_,67,_,rfl,rfl,rfl⟩
 ·cases hc
 ·obtain⟨e1,hn,hk⟩:=ho;have hw:rA e.name:=by
   rcases hn with hn|hn
   ·exact hN.1 _ hn
   ·exact hN.2.2.2 _ hn
  obtain⟨c,L,h1,h2⟩:=Ra hw;exact⟨_,_,c,L,rfl,h1,h2⟩
def Tl (P:List Pc) (R:List UInt8):Prop:=fL P R∧iB (aG P++R)=true
def Tl.nil (h:iB R=true):Tl [] R:=⟨trivial,h⟩
def Gd.tl (h:Gd true P R):Tl P R:=⟨h.2,xB h.bl⟩
def Tl.app (h:∀S,iB S=true->Gd b P S) (hQ:Tl Q R):Gd b (P++Q) R:=Gd.app h hQ.1 hQ.2
def Hv (h:GF F M) (w:ByteArray) {l:List aA} (hl:∀x∈l,M.ex x) (hQ:Tl Q R) (hw:Cj w=true:=by decide+kernel):Tl (dF F [w] l++Q) R:=by
 cases l with
 |nil=>exact hQ
 |cons x l=>
  have e:dF F [w] (x::l)++Q=pw true w::(cK F.tx true (x::l)++Q):=by simp[dF]
  rw[e];exact(lG w (Tl.app (fun S hS=>Bu (fun y hy b' S' hS'=>h.ex y (hl y hy) b' S' hS') hS) hQ) hw).tl
def RW (h:GF F M) (w v:ByteArray) {l:List aA} (hl:∀x∈l,M.ex x) (hQ:Tl Q R) (hw:Cj w=true:=by decide+kernel) (hv:Cj v=true:=by decide+kernel):Tl (dF F [w,v] l++Q) R:=by
 cases l with
 |nil=>exact hQ
 |cons x l=>
  have e:dF F [w,v] (x::l)++Q=pw true w::pw true v::(cK F.tx true (x::l)++Q):=by simp[dF]
  rw[e];exact(lG w (lG v (Tl.app (fun S hS=>Bu (fun y hy b' S' hS'=>h.ex y (hl y hy) b' S' hS') hS) hQ) hv) hw).tl
def IA (hN:rP) {s:ByteArray} (hs:Ao s) (hQ:Tl Q R):Tl (mS s++Q) R:=by
 unfold mS;split
 ·exact hQ
 ·rename_i hne;rcases hs with hs|hs
  ·exact absurd hs hne
  ·exact(mW (b:=true) (pF _ rfl (xC (hN.1 _ hs) (Ot hQ.2) hQ.1))).tl
def aA9 (hN:rP) (h:GF F M) {it:bA} (hi:xF M it) (hR:iB R=true):Gd b (gH F b it) R:=by
 unfold gH;rcases hi with⟨h1,h2,h3,h4⟩|⟨h1,h2,h3,x,h4,h5⟩
 ·rw[h1,if_pos rfl];split
  ·exact mW (pO (c:=42) trivial)
  ·rename_i hne;rcases h4 with h4|h4
   ·exact absurd h4 hne
   ·exact mW (xC (hN.1 _ h4) rfl (pO (c:=46) (pO (c:=42) trivial)))
 ·rw[h1,h4];have:=IA (Q:=[]) hN h3 (Tl.nil hR);rw[gL] at this;exact Tl.app (fun S hS=>h.ex x h5 b S hS) this
def GJ (hN:rP) (h:GF F M) {f:aO} (hf:rF M f) (hQ:Tl Q R):Gd b (gW F b f++Q) R:=by
 obtain⟨_,h1,_,h3⟩:=hf;have ht:=IA hN h1 hQ;unfold gW;rw[fS];rcases h3 with⟨h4,h5⟩|⟨h4,q,h5,h6,h7⟩
 ·rw[h4,if_pos rfl];exact mW (xC (hN.1 _ h5) (Ot ht.2) ht.1)
 ·rw[h5,if_neg (by simp)];refine Gd.app (fun S hS=>mW (Oz h h7)) ht.1 ht.2
def HZ (h:GF F M) {f:aO} (hf:rF M f) (hQ:Tl Q R):Tl (dF F [iJ] f.on++Q) R:=by
 refine Hv h iJ (fun x hx=>?_) hQ;rcases hf.2.2.1 with h1|⟨y,h1,h2⟩
 ·rw[h1] at hx;cases hx
 ·rw[h1,xT] at hx;rw[hx];exact h2
def aBa (hN:rP) (h:GF F M) {l:List aO} (hl:∀f∈l,rF M f) (hQ:Tl Q R):Tl (vO F l++Q) R:=by
 cases l with
 |nil=>exact hQ
 |cons f l=>
  have more:∀l:List aO,(∀f∈l,rF M f)->Tl ((l.flatMap fun f=>(if f.join=1 then [pw true mQ,pw true hU] else [pw true hU])++(gW F true f++dF F [iJ] f.on))++Q) R:=by
   intro l
   induction l with
   |nil=>intro _;exact hQ
   |cons f l ih=>
    intro hl;have h1:=ih fun g hg=>hl g (iD _ hg);have hf:=hl f (lK ..);rw[rN,fS,fS,fS];have h2:=GJ (b:=true) hN h hf (HZ h hf h1);split
    ·exact(lG (b:=true) mQ (lG (b:=true) hU h2)).tl
    ·exact(lG (b:=true) hU h2).tl
  have h1:=more l fun g hg=>hl g (iD _ hg);have hf:=hl f (lK ..);have e:vO F (f::l)++Q=pw true oI::(gW F true f++(dF F [iJ] f.on++((l.flatMap fun f=>(if f.join=1 then [pw true mQ,pw true hU] else [pw true hU])++(gW F true f++dF F [iJ] f.on))++Q))):=by
   simp[vO]
  rw[e];exact(lG oI (GJ (b:=true) hN h hf (HZ h hf h1))).tl
def aEa (h:GF F M) {l:List aA} (hl:∀x∈l,M.ex x):Gd b (iU F b l) R:=mW (pO (c:=40) (Cb fun S hS=>Mr (fun y hy b' S' hS'=>h.ex y (hl y hy) b' S' hS') hS))
def Uy {l:List aA} (hl:l=[]∨∃x,l=[x]∧M.ex x):∀x∈l,M.ex x:=by
 intro x hx;rcases hl with h|⟨y,h,hy⟩
 ·rw[h] at hx;cases hx
 ·rw[h,xT] at hx;rw[hx];exact hy
def BS (hN:rP) (h:GF F M) {p:aK} (hp:nA M p) (hR:iB R=true):Gd b (eO F b p) R:=by
 unfold eO;rcases hp with⟨h1,h2,h3⟩|⟨h1,h2,h3,h4,h5,h6,h7,h8⟩
 ·rw[if_neg h1];cases hv:p.values with
  |nil=>exact absurd hv h1
  |cons r l=>
   rw[hv] at h3;exact lG oA (Bu (fun y hy b' S' hS'=>aEa h (h3 y hy).2.2) hR)
 ·rw[if_pos h1];have a1:=Hv h oB (Q:=[]) (l:=p.having) (fun x hx=>Uy (h8.imp id fun h=>h.2) x hx) (Tl.nil hR);rw[gL] at a1;have a2:=RW h lF lB h7 a1;have a3:=Hv h oF (fun x hx=>Uy h6 x hx) a2;have a4:=aBa hN h h4 a3;cases hi:p.items with
  |nil=>exact absurd hi h2
  |cons i l=>
   rw[hi] at h3;have a5:Gd true (cK (gH F) true (i::l)++_) R:=Tl.app (fun S hS=>Bu (fun y hy b' S' hS'=>aA9 hN h (h3 y hy) hS') hS) a4;cases p.distinct with
   |true=>exact lG oT (lG kT a5)
   |false=>exact lG oT a5
def ZO (hN:rP) (h:GF F M) {p:aK} {l:List aK} (hp:nA M p) (hl:∀r∈l,1<=r.comp∧r.comp<=4∧nA M r) (hQ:Tl Q R):Gd b (Ci F b (p::l)++Q) R:=by
 have more:∀l:List aK,(∀r∈l,1<=r.comp∧r.comp<=4∧nA M r)->Tl ((l.flatMap fun p=>uJ p.comp.toNat++eO F true p)++Q) R:=by
  intro l
  induction l with
  |nil=>intro _;exact hQ
  |cons r l ih=>
   intro hl;have h1:=ih fun g hg=>hl g (iD _ hg);obtain⟨c1,c2,hr⟩:=hl r (lK ..);rw[rN,fS,fS];have h2:Gd true (eO F true r++_) R:=Tl.app (fun S hS=>BS hN h hr hS) h1;have:r.comp.toNat=1∨r.comp.toNat=2∨r.comp.toNat=3∨r.comp.toNat=4:=by omega
   rcases this with e|e|e|e<;>rw[e]
   ·exact(lG (b:=true) kL h2).tl
   ·exact(lG (b:=true) kL (lG (b:=true) sB h2)).tl
   ·exact(lG (b:=true) nJ h2).tl
   ·exact(lG (b:=true) oC h2).tl
 have e:Ci F b (p::l)++Q=eO F b p++((l.flatMap fun p=>uJ p.comp.toNat++eO F true p)++Q):=by simp[Ci]
 rw[e];exact Tl.app (fun S hS=>BS hN h hp hS) (more l hl)
def aA5 (h:GF F M) {o:aX} (ho:M.ex o.expr) (hR:iB R=true):Gd b (mP F b o) R:=by
 unfold mP;cases o.desc_ with
 |true=>exact Tl.app (fun S hS=>h.ex _ ho b S hS) (mW (b:=true) (pF _ (Nk hR) trivial)).tl
 |false=>exact Tl.app (fun S hS=>h.ex _ ho b S hS) (Tl.nil hR)
def ZP (h:GF F M) {l:List aX} (hl:∀o∈l,M.ex o.expr) (hQ:Tl Q R):Tl (vF F l++Q) R:=by
 cases l with
 |nil=>exact hQ
 |cons o l=>
  have e:vF F (o::l)++Q=pw true mE::pw true lB::(cK (mP F) true (o::l)++Q):=by simp[vF]
  rw[e];exact(lG mE (lG lB (Tl.app (fun S hS=>Bu (fun y hy b' S' hS'=>aA5 h (hl y hy) hS') hS) hQ))).tl
def EQ (hN:rP) (h:GF F M) {q:aF} (hq:uL M q) (hR:iB R=true):Gd b (pD F b q) R:=by
 obtain⟨_,⟨p,l,h2,_,h4,h5⟩,h6,h7⟩:=hq;have hlim:(∀x∈q.limit,M.ex x)∧∀x∈q.offset,M.ex x:=by
  rcases h7 with⟨e1,e2⟩|⟨x,e1,hx,h8⟩
  ·rw[e1,e2];exact⟨fun x hx=>(by cases hx),fun x hx=>(by cases hx)⟩
  ·refine⟨fun y hy=>by rw[e1,xT] at hy;rw[hy];exact hx,Uy h8⟩
 have a1:=Hv h kU (Q:=[]) hlim.2 (Tl.nil hR);rw[gL] at a1;have a2:=Hv h kM hlim.1 a1;have a3:=ZP h h6 a2;unfold pD;rw[h2];exact ZO hN h h4 h5 a3
def GL (hN:rP) (h:GF F M) {c:bE} (hc:kN c.name∧(∀s∈c.cols,kN s)∧∃b,c.body=[b]∧b.with_=[]∧M.se b):Gd true (nD F c) R:=by
 obtain⟨h1,h2,q,h3,_,h5⟩:=hc;have a1:∀b',fL (ps b' cL::(F.se false q++[ps false cB])) R:=fun b'=>Oz h h5;have a2:fL (pw true lW::ps true cL::(F.se false q++[ps false cB])) R:=pF _ rfl (a1 true);unfold nD;rw[h3];cases hcols:c.cols with
 |nil=>exact mW (xC (hN.1 _ h1) rfl a2)
 |cons s l=>
  rw[hcols] at h2;refine mW (xC (hN.1 _ h1) rfl ?_);rw[if_neg (by simp)];refine fL.app (P:=ps false cL::(cK (fun b s=>[pw b s]) false (s::l)++[ps false cB])) ?_ a2;exact pO (c:=40) (Cb fun S hS=>Mr (fun y hy b' S' hS'=>mW (Mq (hN.1 _ (h2 y hy)) hS')) hS)
def aA4 (hN:rP) (h:GF F M) {c:bE} {l:List bE} (hl:∀x∈c::l,kN x.name∧(∀s∈x.cols,kN s)∧∃b,x.body=[b]∧b.with_=[]∧M.se b) (hQ:Gd true Q R):Gd b (Ey F b (c::l)++Q) R:=by
 have more:∀l:List bE,(∀x∈l,kN x.name∧(∀s∈x.cols,kN s)∧∃b,x.body=[b]∧b.with_=[]∧M.se b)->Tl ((l.flatMap fun c=>ps false eU::nD F c)++Q) R:=by
  intro l
  induction l with
  |nil=>intro _;exact hQ.tl
  |cons c l ih=>
   intro hl;have h1:=ih fun g hg=>hl g (iD _ hg);rw[rN];have h2:Gd true (nD F c++((l.flatMap fun c=>ps false eU::nD F c)++Q)) R:=Tl.app (fun S hS=>GL hN h (hl c (lK ..))) h1;have e:((ps false eU::nD F c)++(l.flatMap fun c=>ps false eU::nD F c))++Q=ps false eU::(nD F c++((l.flatMap fun c=>ps false eU::nD F c)++Q)):=by simp
   rw[e];exact⟨pO (c:=44) h2.2,rfl⟩
 have e:Ey F b (c::l)++Q=pw b Js::(nD F c++((l.flatMap fun c=>ps false eU::nD F c)++Q)):=by simp[Ey]
 rw[e];exact lG Js (Tl.app (fun S hS=>GL hN h (hl c (lK ..))) (more l fun g hg=>hl g (iD _ hg)))
def aA6 (hN:rP) (h:GF F M) {q:aF} (hq:uL M q) (hR:iB R=true):Gd b (qK F b q) R:=by
 unfold qK;have hc:=hq.1;cases hw:q.with_ with
 |nil=>exact EQ hN h hq hR
 |cons c l=>
  rw[hw] at hc;exact aA4 hN h hc (EQ hN h hq hR)
def EO (hN:rP) (hD:∀n:Int,0<=n->Fo n):∀n,GF (oM n) (uO n)
 |0=>⟨fun e h=>(by cases h),fun e h=>(by cases h),fun q h=>(by cases h)⟩
 |n+1=>by
  have ih:=EO hN hD n;exact⟨fun e he b S hS=>aBb hN hD ih he hS,fun e he hc b=>VK hN hD he hc,fun q hq b S hS=>aA6 hN ih hq hS⟩
end
section
variable {T T' X:List Tk} {p p':Int} {N:Nat} {v a c:aA} {t:Tk} {b:Bool} {F:eA} {M:iP} {α:Type}
structure Di:Prop where
 lit:∀v,pH v=some true->0<=v.int->v.int<9223372036854775808->∀(T:List Tk) (l:List aP) (i:Nat) (p:Int),At l i (jR v::T)->qV (aD.mk l (i:Int) p)=some (v,true,aD.mk l (i:Int) p)
 par:∀n:Int,1<=n->n<=16->((kP n).data.toList==(bm #[]).data.toList)=false∧0<(kP n).size∧zC (kP n)=some (n,())∧((((kP n).data.toList.getD 0 0).toNat:Int)==43)=false
 repl:∀s,pN s (some [jX])->tR s=jX
 replN:∀s,pN s (some [jX])->∃b,gX s=some b
def UY (v:aH):hX [jR v]=true∧hP [jR v]=true∧aT [jR v] eG=false:=by
 unfold jR;split
 ·exact⟨by decide+kernel,by decide+kernel,by decide+kernel⟩
 split
 ·exact⟨rfl,rfl,rfl⟩
 split
 ·exact⟨rfl,rfl,rfl⟩
 ·exact⟨rfl,rfl,rfl⟩
def yK {s:ByteArray} (hs:kN s) (w:ByteArray) (hw:(([]:List UInt8)==w.data.toList)=false:=by decide+kernel):aT ((1,s)::T) w=false:=Zr hs hw
def Ro {s:ByteArray} (hs:kN s):hX [(1,s)]=true∧hP [(1,s)]=true∧aT [(1,s)] eG=false:=by
 have e1:∀w,(([]:List UInt8)==w.data.toList)=false->aT [(1,s)] w=false:=fun w hw=>Zr hs hw;refine⟨?_,?_,e1 _ (by decide+kernel)⟩
 ·unfold hX;rw[e1 _ (by decide+kernel),e1 _ (by decide+kernel),e1 _ (by decide+kernel),e1 _ (by decide+kernel),e1 _ (by decide+kernel)];rfl
 ·unfold hP;rw[e1 _ (by decide+kernel)];rfl
def Rn {s:ByteArray} (hs:kN s):Dj ((1,s)::T):=⟨yK hs _,rfl,yK hs _,yK hs _,yK hs _⟩
def Ff {s w u:ByteArray} (h:tR s=w):aT ((1,s)::T) u=(w.data.toList==u.data.toList):=by
 have e:gC ((1,s)::T)=w:=by simp only[gC,if_true,h]
 unfold aT;rw[e]
def QR {s:ByteArray} (h:tR s=jX):hX [(1,s)]=true∧hP [(1,s)]=true∧aT [(1,s)] eG=false:=by
 have e1:∀u,aT [(1,s)] u=(jX.data.toList==u.data.toList):=fun u=>Ff h;have l1:∀ws,cQ [(1,s)] ws=false:=fun _=>rfl;refine⟨?_,?_,by rw[e1];decide+kernel⟩
 ·unfold hX;rw[e1,e1,e1,e1,e1,l1,l1,l1];decide+kernel
 ·unfold hP;rw[e1,l1,l1];decide+kernel
def QQ {s:ByteArray} (h:tR s=jX):Dj ((1,s)::T):=⟨by rw[Ff h];decide+kernel,rfl,by rw[Ff h];decide+kernel,by rw[Ff h];decide+kernel,by rw[Ff h];decide+kernel⟩
def aAf (h:RF F M N) {n:Int} {l:List aA} {s:ByteArray} (hl:∀x∈l,M.ex x) (hk:n=0∨(n=1∧l.length=1)∨(n=2∧l=[])) (p:Int):
 ∃p',aZ (fun F=>F.p227_1 s) (N+3) ((6,cL)::(ts (if n=1 then pw false kT::cK F.tx true l else if n=2 then [ps false mZ] else cK F.tx false l)++((6,cB)::T))) p (aA.mk 32 false eB s n zV l []) T p':=by
 rcases hk with rfl|⟨rfl,hl1⟩|⟨rfl,rfl⟩
 ·rw[if_neg (by decide),if_neg (by decide)];cases l with
  |nil=>exact⟨p,(SN (p:=p)).le (by omega)⟩
  |cons x l=>
   obtain⟨p1,h1⟩:=Ry (T:=(6,cB)::T) h hl Ei rfl false p;obtain⟨t,Q,e1,e2⟩:=AG (l:=l) h (hl x (lK ..)) false ((6,cB)::T);obtain⟨f1,f2,f3,f4,f5,f6,f7⟩:=xG e2;rw[e1] at h1 ⊢;exact⟨p1,(SO f6 f3 f7 h1).le (by omega)⟩
 ·rw[if_pos rfl]
  match l,hl1 with
  |[x],_=>
   obtain⟨p1,h1⟩:=h.ex x (hl x (by simp)) true ((6,cB)::T) p Ei;have e:ts (pw false kT::cK F.tx true [x])++((6,cB)::T)=(1,kT)::(ts (F.tx true x)++((6,cB)::T)):=by
    rw[lS];show _::(ts (F.tx true x++[])++_)=_;rw[gL]
   rw[e];exact⟨p1,(LR (x:=(1,kT)) (T:=ts (F.tx true x)++((6,cB)::T)) rfl (show aT [(1,kT)] kT=true by decide+kernel) h1).le (by omega)⟩
 ·rw[if_neg (by decide),if_pos rfl];exact⟨p,(SM (p:=p)).le (by omega)⟩
def YE (h:RF F M N) (hO:Di) {n:Int} {l:List aA} {s:ByteArray} (hs:kN s∨pN s (some [jX])) (hl:∀x∈l,M.ex x) (hk:n=0∨(n=1∧l.length=1)∨(n=2∧l=[])) (p:Int):
 ∃p',aZ (·.p221_1) (N+4) ((1,s)::(6,cL)::(ts (if n=1 then pw false kT::cK F.tx true l else if n=2 then [ps false mZ] else cK F.tx false l)++((6,cB)::T))) p (aA.mk 32 false eB s n zV l []) T p':=by
 obtain⟨p1,h1⟩:=aAf (T:=T) (s:=s) h hl hk p;rcases hs with hs|hs
 ·exact⟨p1,UO h1 hs (Rn hs) (yK hs _) rfl⟩
 ·have hr:=hO.repl s hs;exact⟨p1,MQ (x:=(1,s)) h1 (QQ hr) (by rw[Ff hr];decide+kernel)⟩
def GM {n:Int} {l:List aA} {k:Nat} (h0:0<=n) (h3:n<=3) (hk:(iH n.toNat l).length=2*(k+1)):
 (caseA n.toNat l=[]∨∃x,caseA n.toNat l=[x]∧x∈l)∧(iK n.toNat l=[]∨∃x,iK n.toNat l=[x]∧x∈l)∧((caseA n.toNat l).length:Int)+2*(iK n.toNat l).length=n:=by
 have hn:n.toNat=0∨n.toNat=1∨n.toNat=2∨n.toNat=3:=by omega
 have hne:l≠[]:=by
  rintro rfl;have:iH n.toNat ([]:List aA)=[]:=by
   unfold iH;dsimp only;split<;>split<;>simp
  rw[this] at hk;simp at hk
 have hA:∀x∈caseA n.toNat l,x∈l:=fun x hx=>Zw hx;have hZ:∀x∈iK n.toNat l,x∈l:=fun x hx=>Zu hx;have hlen:1<=l.length:=by cases l with|nil=>exact absurd rfl hne|cons=>simp
 have a1:(l.take 1).length=1:=by rw[tX];omega
 have z1:(l.drop (l.length-1)).length=1:=by rw[uV];omega
 have one:∀{m:List aA},m.length=1->∃x,m=[x]:=fun {m} h=>by
  match m,h with
  |[x],_=>exact⟨x,rfl⟩
 obtain⟨xa,ea⟩:=one a1;obtain⟨xz,ez⟩:=one z1;rcases hn with e|e|e|e<;>rw[e] at hA hZ ⊢
 ·refine⟨.inl rfl,.inl rfl,?_⟩;show((0:Nat):Int)+2*((0:Nat):Int)=n;omega
 ·have e1:caseA 1 l=[xa]:=ea;rw[e1] at hA ⊢;refine⟨.inr ⟨xa,rfl,hA xa (by simp)⟩,.inl rfl,?_⟩;show((1:Nat):Int)+2*((0:Nat):Int)=n;omega
 ·have e1:iK 2 l=[xz]:=ez;rw[e1] at hZ ⊢;refine⟨.inl rfl,.inr ⟨xz,rfl,hZ xz (by simp)⟩,?_⟩;show((0:Nat):Int)+2*((1:Nat):Int)=n;omega
 ·have e1:caseA 3 l=[xa]:=ea;have e2:iK 3 l=[xz]:=ez;rw[e1] at hA ⊢;rw[e2] at hZ ⊢;refine⟨.inr ⟨xa,rfl,hA xa (by simp)⟩,.inr ⟨xz,rfl,hZ xz (by simp)⟩,?_⟩;show((1:Nat):Int)+2*((1:Nat):Int)=n;omega
def AY (h:RF F M N) (hO:Di) {e:aA} (he:rD M e) (hc:nL e=true) (hT:qC T=true) (b:Bool) (p:Int):∃p',aZ (·.p221_1) (N+10) (ts (mF F b e)++T) p e T p':=by
 obtain⟨h0,ho,ha,hs⟩:=he;unfold nL at hc;unfold mF;generalize e.op.toNat=k at ho hc ⊢;rcases yB ho with rfl|rfl|rfl|rfl|rfl|rfl|hk|rfl|rfl|rfl|rfl|rfl|rfl|rfl|rfl
 ·obtain⟨e1,h1,h2,h3⟩:=ho;have:=YM (T:=T) (p:=p) (x:=jR e.v_) (v:=e.v_) fun l i p hA=>hO.lit e.v_ h1 h2 h3 T l i p hA;rw[<-e1] at this;exact⟨p,this.le (by omega)⟩
 ·obtain⟨e1,hn,ht⟩:=ho;show ∃p',aZ (·.p221_1) (N+10) (ts (if e.table.data.toList=[] then [pw b e.name] else [pw b e.table,ps false iM,pw false e.name])++T) p e T p'
  split
  ·rename_i hnil;have et:e.table=eB:=by rw[<-mV e.table,hnil];rfl
   rw[et] at e1;have:=YN (T':=T) (p:=p) hn (Rn hn) (yK hn _) (Un hT).1 (Un hT).2;rw[<-e1] at this;exact⟨p,this.le (by omega)⟩
  ·rename_i hne;rcases ht with ht|ht
   ·exact absurd ht hne
   have:=UK (T':=T) (p:=p) (x:=(6,iM)) ht hn (Rn ht) (yK ht _) rfl rfl;rw[<-e1] at this;exact⟨p,this.le (by omega)⟩
 ·obtain⟨e1,h1,h2⟩:=ho;obtain⟨f1,f2,f3,f4⟩:=hO.par e.n h1 h2;have:=RH (T':=T) (p:=p) f1 f2 f3 ⟨h1,h2⟩ f4;rw[<-e1] at this;exact⟨_,this.le (by omega)⟩
 ·cases hc
 ·cases hc
 ·cases hc
 ·exfalso;obtain⟨h1,h2⟩:=hk;have:Ip k e.not=false:=by
   have:k=7∨k=8∨k=9∨k=10∨k=11∨k=12∨k=13∨k=14∨k=15∨k=16∨k=17∨k=18∨k=19∨k=20∨k=21∨k=22∨k=23∨k=24:=by omega
   rcases this with rfl|rfl|rfl|rfl|rfl|rfl|rfl|rfl|rfl|rfl|rfl|rfl|rfl|rfl|rfl|rfl|rfl|rfl<;>rfl
  rw[this] at hc;cases hc
 ·cases hc
 ·cases hc
 ·obtain⟨q,e1⟩:=ho;have hn:e.not=false:=by
   cases hh:e.not with
   |false=>rfl
   |true=>rw[hh] at hc;cases hc
  rw[hn] at e1;obtain⟨hw,hq⟩:=hs q (by rw[e1];simp);obtain⟨p',h1⟩:=QV (T:=T) h hq hw p;rw[<-e1] at h1;refine⟨p',?_⟩;have:aZ (·.p221_1) (N+10) (ts ((if e.not then [pw b cN,pw true eG] else [pw b eG])++(ps true cL::(F.se false (e.sub.getD 0 aF.z)++[ps false cB])))++T) p e T p':=by
   have eq:e.sub.getD 0 aF.z=q:=by rw[e1];rfl
   rw[hn,if_neg (by decide),eq];show aZ (·.p221_1) (N+10) ((1,eG)::(6,cL)::(ts (F.se false q++[ps false cB])++T)) p e T p'
   rw[dY];exact h1.le (by omega)
  exact this
 ·obtain⟨q,e1⟩:=ho;obtain⟨hw,hq⟩:=hs q (by rw[e1];simp);obtain⟨p',h1⟩:=TW (T:=T) h hq hw p;rw[<-e1] at h1;refine⟨p',?_⟩;have:aZ (·.p221_1) (N+10) (ts (ps b cL::(F.se false (e.sub.getD 0 aF.z)++[ps false cB]))++T) p e T p':=by
   rw[lS,dY];have eq:e.sub.getD 0 aF.z=q:=by rw[e1];rfl
   rw[eq];exact h1.le (by omega)
  exact this
 ·obtain⟨k,e1,h1,h2,h3,h4⟩:=ho;obtain⟨c1,c2,c3⟩:=GM h1 h2 h3;have c1':caseA e.n.toNat e.args=[]∨∃x,caseA e.n.toNat e.args=[x]∧M.ex x:=c1.imp id fun⟨x,hx,hm⟩=>⟨x,hx,ha x hm⟩;have c2':iK e.n.toNat e.args=[]∨∃x,iK e.n.toNat e.args=[x]∧M.ex x:=c2.imp id fun⟨x,hx,hm⟩=>⟨x,hx,ha x hm⟩;obtain⟨p',hr⟩:=aAe (T:=T) h c1' h3 (fun x hx=>ha x (Zv hx)) c2' p;rw[c3,<-h4] at hr;have e2:mG e.n e.args=e:=e1.symm;rw[e2] at hr;refine⟨p',?_⟩;have:aZ (·.p221_1) (N+10) (ts (pw b jA::((caseA e.n.toNat e.args).flatMap (F.tx true)++(eQ F (iH e.n.toNat e.args)++(nP F (iK e.n.toNat e.args)++[pw true iO]))))++T) p e T p':=by
   rw[lS,dY,dY,dY];exact hr.le (by omega)
  exact this
 ·obtain⟨a,e1,hn⟩:=ho;have hx:M.ex a:=ha a (by rw[e1];simp);obtain⟨p',hr⟩:=aAd (T:=T) h hx hn.2 p;rw[<-e1] at hr;refine⟨p',?_⟩;have:aZ (·.p221_1) (N+10) (ts (pw b pR::ps false cL::(F.tx false (e.args.getD 0 aA.z)++[pw true lW,pw true e.name,ps false cB]))++T) p e T p':=by
   rw[lS,lS,dY];have eq:e.args.getD 0 aA.z=a:=by rw[e1];rfl
   rw[eq];exact hr.le (by omega)
  exact this
 ·cases hc
 ·obtain⟨e1,hn,hk⟩:=ho;obtain⟨p',hr⟩:=YE (T:=T) h hO hn ha hk p;rw[<-e1] at hr;refine⟨p',?_⟩;have:aZ (·.p221_1) (N+10) (ts (pw b e.name::ps false cL::((if e.n=1 then pw false kT::cK F.tx true e.args else if e.n=2 then [ps false mZ] else cK F.tx false e.args)++[ps false cB]))++T) p e T p':=by
   rw[lS,lS,dY];exact hr.le (by omega)
  exact this
def Th (h:RF F M N) (hO:Di) {e:aA} (he:rD M e) (b:Bool):∃t Q,mF F b e=(b,t)::Q∧hX [t]=true∧(nL e=true->hP [t]=true∧(e.op≠27->aT [t] eG=false)):=by
 obtain⟨h0,ho,ha,hs⟩:=he;have part:∀(a:aA) (R:List Pc),M.ex a->∃t Q,aW F b a++R=(b,t)::Q∧hX [t]=true∧hP [t]=true:=by
  intro a R hx;obtain⟨t,Q,e1,e2,e3,_,e5⟩:=Nh h hx b [];refine⟨t,(aW F b a).drop 1++R,?_,e2,e3⟩
  conv=>lhs;rw[e5]
  rfl
 unfold nL;unfold mF;have hop:e.op.toNat=27∨e.op≠27:=by omega
 generalize hke:e.op.toNat=k at ho hop ⊢;rcases yB ho with rfl|rfl|rfl|rfl|rfl|rfl|hk|rfl|rfl|rfl|rfl|rfl|rfl|rfl|rfl
 ·obtain⟨f1,f2,f3⟩:=UY e.v_;exact⟨_,_,rfl,f1,fun _=>⟨f2,fun _=>f3⟩⟩
 ·obtain⟨e1,hn,ht⟩:=ho;show ∃t Q,(if e.table.data.toList=[] then [pw b e.name] else [pw b e.table,ps false iM,pw false e.name])=(b,t)::Q∧_;split
  ·obtain⟨f1,f2,f3⟩:=Ro hn;exact⟨_,_,rfl,f1,fun _=>⟨f2,fun _=>f3⟩⟩
  ·rename_i hne;rcases ht with ht|ht
   ·exact absurd ht hne
   obtain⟨f1,f2,f3⟩:=Ro ht;exact⟨_,_,rfl,f1,fun _=>⟨f2,fun _=>f3⟩⟩
 ·exact⟨_,_,rfl,rfl,fun _=>⟨rfl,fun _=>rfl⟩⟩
 ·exact⟨_,_,rfl,by decide+kernel,fun hc=>by cases hc⟩
 ·exact⟨_,_,rfl,by decide+kernel,fun hc=>by cases hc⟩
 ·show ∃t Q,(if(e.args.getD 0 aA.z).op=27 then pw b cN::ps true cL::(F.tx false (e.args.getD 0 aA.z)++[ps false cB]) else pw b cN::aW F true (e.args.getD 0 aA.z))=(b,t)::Q∧_;split
  ·exact⟨_,_,rfl,by decide+kernel,fun hc=>by cases hc⟩
  ·exact⟨_,_,rfl,by decide+kernel,fun hc=>by cases hc⟩
 ·obtain⟨a,c,e1,e2⟩:=By hk ho;rw[yJ hk];obtain⟨t,Q,f1,f2,f3⟩:=part (e.args.getD 0 aA.z) _ (ha _ (by rw[e1];simp));refine⟨t,Q,f1,f2,fun hc=>⟨f3,fun _=>?_⟩⟩;exfalso;obtain⟨h1,h2⟩:=hk;have:Ip k e.not=false:=by
   have:k=7∨k=8∨k=9∨k=10∨k=11∨k=12∨k=13∨k=14∨k=15∨k=16∨k=17∨k=18∨k=19∨k=20∨k=21∨k=22∨k=23∨k=24:=by omega
   rcases this with rfl|rfl|rfl|rfl|rfl|rfl|rfl|rfl|rfl|rfl|rfl|rfl|rfl|rfl|rfl|rfl|rfl|rfl<;>rfl
  rw[this] at hc;cases hc
 ·obtain⟨a,c,d,e1⟩:=ho;obtain⟨t,Q,f1,f2,f3⟩:=part (e.args.getD 0 aA.z) _ (ha _ (by rw[e1];simp));exact⟨t,Q,f1,f2,fun hc=>by cases hc⟩
 ·have hx:e.args.getD 0 aA.z∈e.args:=by
   rcases ho with⟨a,l,e1⟩|⟨a,q,e1⟩<;>rw[e1]<;>simp
  obtain⟨t,Q,f1,f2,f3⟩:=part (e.args.getD 0 aA.z) _ (ha _ hx);exact⟨t,Q,f1,f2,fun hc=>by cases hc⟩
 ·show ∃t Q,(if e.not then [pw b cN,pw true eG] else [pw b eG])++(ps true cL::(F.se false (e.sub.getD 0 aF.z)++[ps false cB]))=(b,t)::Q∧_;cases e.not with
  |true=>exact⟨_,_,rfl,by decide+kernel,fun hc=>by cases hc⟩
  |false=>exact⟨_,_,rfl,by decide+kernel,fun hc=>⟨by decide+kernel,fun hne=>absurd (by omega) hne⟩⟩
 ·exact⟨_,_,rfl,by decide+kernel,fun _=>⟨by decide+kernel,fun _=>by decide+kernel⟩⟩
 ·exact⟨_,_,rfl,by decide+kernel,fun _=>⟨by decide+kernel,fun _=>by decide+kernel⟩⟩
 ·exact⟨_,_,rfl,by decide+kernel,fun _=>⟨by decide+kernel,fun _=>by decide+kernel⟩⟩
 ·obtain⟨a,e1,_⟩:=ho;obtain⟨t,Q,f1,f2,f3⟩:=part (e.args.getD 0 aA.z) _ (ha _ (by rw[e1];simp));exact⟨t,Q,f1,f2,fun hc=>by cases hc⟩
 ·obtain⟨e1,hn,hk⟩:=ho;rcases hn with hn|hn
  ·obtain⟨f1,f2,f3⟩:=Ro hn;exact⟨_,_,rfl,f1,fun _=>⟨f2,fun _=>f3⟩⟩
  ·obtain⟨f1,f2,f3⟩:=QR (hO.repl _ hn);exact⟨_,_,rfl,f1,fun _=>⟨f2,fun _=>f3⟩⟩
def aAb (h:RF F M N) (hO:Di) {e:aA} (he:rD M e) (hT:qE T=true) (b:Bool) (p:Int):∃p',aZ (·.p15_1) (N+40) (ts (mF F b e)++T) p e T p':=by
 cases hc:nL e with
 |true=>
  obtain⟨p',h1⟩:=AY h hO he hc (uN hT) b p;obtain⟨t,Q,e1,_,e3⟩:=Th h hO he b;have:hP (ts (mF F b e)++T)=true:=by rw[e1];exact(e3 hc).1
  exact⟨p',(t9 h1 this (wD hT)).le (by omega)⟩
 |false=>
  obtain⟨h0,ho,ha,hs⟩:=he;unfold nL at hc;unfold mF;have hq:=wD hT;generalize e.op.toNat=k at ho hc ⊢;rcases yB ho with rfl|rfl|rfl|rfl|rfl|rfl|hk|rfl|rfl|rfl|rfl|rfl|rfl|rfl|rfl
  ·cases hc
  ·cases hc
  ·cases hc
  ·obtain⟨a,e1⟩:=ho;have hx:M.ex a:=ha a (by rw[e1];simp);obtain⟨p',h1⟩:=kV (T:=T) h hx false p (uN hT);have h2:=t1 h1 (mC h hx false T) (Kr (Aw (wE (rX (pU (nB (lV hq)))))));have h3:=l9 (x:=(6,sU)) h2 (show cQ [(6,sU)] [sU]=true by decide+kernel);have h4:=u1 h3 rfl hq;rw[<-e1] at h4;refine⟨p',?_⟩;have:aZ (·.p15_1) (N+40) (ts (ps b sU::aW F false (e.args.getD 0 aA.z))++T) p e T p':=by
    have eq:e.args.getD 0 aA.z=a:=by rw[e1];rfl
    rw[eq,lS];exact h4.le (by omega)
   exact this
  ·obtain⟨a,e1⟩:=ho;have hx:M.ex a:=ha a (by rw[e1];simp);obtain⟨p',h1⟩:=kV (T:=T) h hx false p (uN hT);have h2:=t1 h1 (mC h hx false T) (Kr (Aw (wE (rX (pU (nB (lV hq)))))));have h3:=WJ (x:=(6,uG)) h2 (show cQ [(6,uG)] [sU]=false by decide+kernel) (show cQ [(6,uG)] [uG]=true by decide+kernel);have h4:=u1 h3 rfl hq;rw[<-e1] at h4;refine⟨p',?_⟩;have:aZ (·.p15_1) (N+40) (ts (ps b uG::aW F false (e.args.getD 0 aA.z))++T) p e T p':=by
    have eq:e.args.getD 0 aA.z=a:=by rw[e1];rfl
    rw[eq,lS];exact h4.le (by omega)
   exact this
  ·obtain⟨a,e1⟩:=ho;have hx:M.ex a:=ha a (by rw[e1];simp);have eq:e.args.getD 0 aA.z=a:=by rw[e1];rfl
   show ∃p',aZ (·.p15_1) (N+40) (ts (if(e.args.getD 0 aA.z).op=27 then pw b cN::ps true cL::(F.tx false (e.args.getD 0 aA.z)++[ps false cB]) else pw b cN::aW F true (e.args.getD 0 aA.z))++T) p e T p'
   rw[eq];split
   ·obtain⟨p',h1⟩:=h.ex a hx false ((6,cB)::T) p Ei;obtain⟨t,Q,f1,f2⟩:=Cn h hx false ((6,cB)::T);have h2:aZ (·.p221_1) (N+1) ((6,cL)::(ts (F.tx false a)++((6,cB)::T))) p a T p':=by
     rw[f1] at h1 ⊢;exact Zq h1 (xG f2).1 (xG f2).2.1
    have h3:=t7 h2 (by decide+kernel:hP [(6,cL)]=true) (nB (lV hq));have h4:=u7 (CW (x:=(1,cN)) h3 (show aT [(1,cN)] cN=true by decide+kernel) rfl) hq;have e2:(aA.mk 6 false bO bO 0 zV [a] [])=e:=e1.symm;rw[e2] at h4;refine⟨p',?_⟩;rw[lS,lS,dY];exact h4.le (by omega)
   ·rename_i hne;obtain⟨p',h1⟩:=kV (T:=T) h hx true p (uN hT);have h3:=t7 h1 (mC h hx true T) (nB (lV hq));have hex:aT (ts (aW F true a)++T) eG=false:=by
     obtain⟨t,Q,f1,_,_,f4,_⟩:=Nh h hx true T;rw[f1];exact f4 hne
    have h4:=u7 (CW (x:=(1,cN)) h3 (show aT [(1,cN)] cN=true by decide+kernel) hex) hq;have e2:(aA.mk 6 false bO bO 0 zV [a] [])=e:=e1.symm;rw[e2] at h4;refine⟨p',?_⟩;rw[lS];exact h4.le (by omega)
  ·obtain⟨a,c,e1,e2⟩:=By hk ho;rw[yJ hk,To hk e2];obtain⟨p',h1⟩:=aDv h (ha a (by rw[e1];simp)) (ha c (by rw[e1];simp)) hT hk e2 b p;rw[<-e1] at h1;have q1:e.args.getD 0 aA.z=a:=by rw[e1];rfl
   have q2:e.args.getD 1 aA.z=c:=by rw[e1];rfl
   rw[q1,q2];exact⟨p',h1.le (by omega)⟩
  ·obtain⟨a,c,d,e1⟩:=ho;obtain⟨p',h1⟩:=QX h (ha a (by rw[e1];simp)) (ha c (by rw[e1];simp)) (ha d (by rw[e1];simp)) hT e.not b p;rw[<-e1] at h1;refine⟨p',?_⟩;have:aZ (·.p15_1) (N+40) (ts (aW F b (e.args.getD 0 aA.z)++(iV e.not++(pw true jG::(aW F true (e.args.getD 1 aA.z)++(pw true jB::aW F true (e.args.getD 2 aA.z))))))++T) p e T p':=by
    have q1:e.args.getD 0 aA.z=a:=by rw[e1];rfl
    have q2:e.args.getD 1 aA.z=c:=by rw[e1];rfl
    have q3:e.args.getD 2 aA.z=d:=by rw[e1];rfl
    rw[q1,q2,q3];exact h1.le (by omega)
   exact this
  ·show ∃p',aZ (·.p15_1) (N+40) (ts (aW F b (e.args.getD 0 aA.z)++(iV e.not++(pw true jN::ps true cL::((if e.sub=[] then cK F.tx false (e.args.drop 1) else F.se false (e.sub.getD 0 aF.z))++[ps false cB]))))++T) p e T p'
   rcases ho with⟨a,l,e1⟩|⟨a,q,e1⟩
   ·have hx:M.ex a:=ha a (by rw[e1];simp);have hl:∀y∈l,M.ex y:=fun y hy=>ha y (by rw[e1];simp[hy]);have q1:e.args.getD 0 aA.z=a:=by rw[e1];rfl
    have q2:e.args.drop 1=l:=by rw[e1];rfl
    have q3:e.sub=[]:=by rw[e1]
    rw[q1,q2,q3,if_pos rfl];obtain⟨p',h1⟩:=HW (T:=T) (v:=e) h hx hT e.not b p (I:=cK F.tx false l) fun nt p hnt=>by
     obtain⟨p',h2⟩:=YB (T:=T) (a:=a) h hl nt p;have:Dp nt a l []=e:=by rw[<-hnt];exact e1.symm
     rw[this] at h2;exact⟨p',h2⟩
    exact⟨p',h1.le (by omega)⟩
   ·have hx:M.ex a:=ha a (by rw[e1];simp);obtain⟨hw,hq'⟩:=hs q (by rw[e1];simp);have q1:e.args.getD 0 aA.z=a:=by rw[e1];rfl
    have q2:e.sub.getD 0 aF.z=q:=by rw[e1];rfl
    have q3:e.sub≠[]:=by rw[e1];simp
    rw[q1,q2,if_neg q3];obtain⟨p',h1⟩:=HW (T:=T) (v:=e) h hx hT e.not b p (I:=F.se false q) fun nt p hnt=>by
     obtain⟨p',h2⟩:=TX (T:=T) (a:=a) h hq' hw nt p;have:Dp nt a [] [q]=e:=by rw[<-hnt];exact e1.symm
     rw[this] at h2;exact⟨p',h2⟩
    exact⟨p',h1.le (by omega)⟩
  ·obtain⟨q,e1⟩:=ho;have hn:e.not=true:=by
    cases hh:e.not with
    |true=>rfl
    |false=>rw[hh] at hc;cases hc
   obtain⟨hw,hq'⟩:=hs q (by rw[e1];simp);obtain⟨p',h1⟩:=QU (T:=T) h hq' hw p;have h2:=u7 h1 hq;have e2:(aA.mk 27 true eB eB 0 zV [] [q])=e:=by rw[<-hn];exact e1.symm
   rw[e2] at h2;refine⟨p',?_⟩;have:aZ (·.p15_1) (N+40) (ts ((if e.not then [pw b cN,pw true eG] else [pw b eG])++(ps true cL::(F.se false (e.sub.getD 0 aF.z)++[ps false cB])))++T) p e T p':=by
    have q2:e.sub.getD 0 aF.z=q:=by rw[e1];rfl
    rw[hn,if_pos rfl,q2];show aZ (·.p15_1) (N+40) ((1,cN)::(1,eG)::(6,cL)::(ts (F.se false q++[ps false cB])++T)) p e T p'
    rw[dY];exact h2.le (by omega)
   exact this
  ·cases hc
  ·cases hc
  ·cases hc
  ·obtain⟨a,e1,hn⟩:=ho;obtain⟨p',h1⟩:=QW (T:=T) h (ha a (by rw[e1];simp)) hT hn.2 b p;rw[<-e1] at h1;refine⟨p',?_⟩;have:aZ (·.p15_1) (N+40) (ts (aW F b (e.args.getD 0 aA.z)++[pw true pM,pw true e.name])++T) p e T p':=by
    have q1:e.args.getD 0 aA.z=a:=by rw[e1];rfl
    rw[q1,dY];exact h1.le (by omega)
   exact this
  ·cases hc
end
section
variable {x:ByteArray} {n:Nat} {R:List UInt8}
def Td (p:UInt8->Bool):∀L:List UInt8,(L.takeWhile p).all p=true
 |[]=>rfl
 |c::L=>by
  rw[List.takeWhile_cons];cases h:p c with
  |true=>simp only[if_true,tY,h,Bool.true_and];exact Td p L
  |false=>rfl
def CI (p:UInt8->Bool):∀L:List UInt8,L.all p=true->L.takeWhile p=L
 |[],_=>rfl
 |c::L,h=>by
  rw[tY,dI] at h;rw[List.takeWhile_cons,h.1];simp only[if_true];rw[CI p L h.2]
def QP {f:Int->Option Bool} {p:UInt8->Bool} (hf:∀c:UInt8,f (c.toNat:Int)=some (p c)):∀(L:List UInt8) (n m:Nat),L.length<m->dT x n L->cF (zF f x) m (n:Int)=some ((n+(L.takeWhile p).length:Nat):Int):=by
 intro L n m hm h;have e:L.takeWhile p++L.dropWhile p=L:=List.takeWhile_append_dropWhile;have hR:jY p (L.dropWhile p)=true:=by
  cases hd:L.dropWhile p with
  |nil=>rfl
  |cons c R=>
   have:=List.head?_dropWhile_not p L;rw[hd] at this;simp only[List.head?_cons] at this;simp only[jY,this,fT]
 rw[<-e] at h;refine So hf hR (L.takeWhile p) n m ?_ ?_ h
 ·exact Td p L
 ·have:=congrArg List.length e;rw[bH] at this;omega
def aEd (hx:x.size<=2000):dT x 0 x.data.toList:=⟨kG,kK _,hx⟩
def Zk (x0:ByteArray) (x1:Int):Ae x0 x1=cF (zF Kp x0) bQ x1:=rfl
def Ri (x0:ByteArray) (x1:Int):Nv x0 x1=cF (zF rG x0) bQ x1:=rfl
def CP (c:UInt8):Kp (c.toNat:Int)=some (oL c):=CN c
def Ig {f:Int->Option Bool} {p:UInt8->Bool} (hf:∀c:UInt8,f (c.toNat:Int)=some (p c)) (hx:x.size<=2000):∃k:Nat,cF (zF f x) bQ 0=some (k:Int)∧k<=x.size∧(k=x.size->x.data.toList.all p=true)∧(x.data.toList.all p=true->k=x.size):=by
 have hl:=lO x;have h:=QP hf x.data.toList 0 bQ (by unfold bQ;omega) (aEd hx);rw[kH] at h;have e:x.data.toList.takeWhile p++x.data.toList.dropWhile p=x.data.toList:=List.takeWhile_append_dropWhile;have el:=congrArg List.length e;rw[bH,hl] at el;refine⟨_,h,by omega,fun hk=>?_,fun ha=>?_⟩
 ·have hd:x.data.toList.dropWhile p=[]:=List.length_eq_zero_iff.1 (by omega);rw[hd,gL] at e;rw[<-e];exact Td p _
 ·have:x.data.toList.takeWhile p=x.data.toList:=by
   exact CI p _ ha
  rw[this,hl]
def UT {s:ByteArray} (h:gX s=some true):(s.data.toList==(bm #[]).data.toList)=false∧s.size<=32∧0<s.size∧rG ((s.data.toList.getD 0 0).toNat:Int)=some true∧∃y,kA s=some y∧Ae s 0=some (s.size:Int):=by
 unfold gX at h;rw[bY] at h;dsimp only at h;have T:∀b:Bool,aE b (some false) (call (kA s) fun y10=>(join (fun(u13:Bool->Option Bool)=>(aE (!y10.2) (call (Ae s 0) fun y15=>(u13 (y15==(s.size:Int)))) (u13 false))) (fun(q12:Bool)=>(some q12))))=some true->b=false∧∃y,kA s=some y∧Ae s 0=some (s.size:Int):=by
  intro b hb;cases b with
  |true=>cases hb
  |false=>
   rw[aQ] at hb;obtain⟨y10,h10,hb⟩:=cC hb;rw[bY] at hb;obtain⟨a,c⟩:=y10;cases c with
   |false=>
    obtain⟨y15,h15,hb⟩:=cC hb;have:(y15==(s.size:Int))=true:=by injection hb
    rw[eM] at this;rw[this] at h15;exact⟨rfl,_,h10,h15⟩
   |true=>cases hb
 cases hc:(s.data.toList==(bm #[]).data.toList) with
 |true=>rw[hc,bL] at h;cases (T _ h).1
 |false=>
 rw[hc,aQ] at h;cases hc2:decide ((s.size:Int)>32) with
 |true=>rw[hc2,bL] at h;cases (T _ h).1
 |false=>
 rw[hc2,aQ] at h;obtain⟨h0,h⟩:=aV h;obtain⟨y8,h8,h⟩:=cC h;obtain⟨h9,h10⟩:=T _ h;have:y8=true:=by simpa using h9
 rw[this] at h8;refine⟨rfl,?_,by omega,h8,h10⟩;simp at hc2;omega
def RJ {s:ByteArray} (h:gX s=some true):rA s:=by
 obtain⟨h1,h2,h3,h4,y,h5,h6⟩:=UT h;obtain⟨k,e1,e2,e3,_⟩:=Ig (x:=s) CP (by omega);rw[Zk,e1] at h6;have hk:k=s.size:=by injection h6 with h6;omega
 have ha:=e3 hk
 match hs:s.data.toList with
 |[]=>
  have:=lO s;rw[hs] at this;simp at this;omega
 |c::a=>
  rw[hs] at ha h4;have hl:mJ c=true:=by
   have:rG ((c).toNat:Int)=some true:=h4;rw[wU] at this;injection this
  exact⟨c,a,hs,hl,ha,y,h5⟩
def IY (k:Nat):Nat:=if 65<=k∧k<=90 then k+32 else k
def pV (c:UInt8):UInt8:=UInt8.ofNat (IY c.toNat)
def kR (x:ByteArray):List UInt8:=x.data.toList.map pV
def CM (c:UInt8):Fx (c.toNat:Int)=some ((pV c).toNat:Int):=by
 have:∀k:Fin 256,Fx (k.val:Int)=some (((UInt8.ofNat (IY k.val)).toNat:Nat):Int):=by decide+kernel
 exact this ⟨c.toNat,c.toNat_lt⟩
def CL (x y:Int):∃z,Kn x y=some z∧(z==0)=(x==y):=by
 unfold Kn Km;simp only[aN,bne_self_eq_false,aQ];by_cases h1:x<y
 ·refine⟨-1,by rw[show decide (x<y)=true by simpa using h1];rfl,?_⟩;rw[show(x==y)=false by simp;omega];rfl
 ·rw[show decide (x<y)=false by simpa using h1,aQ];by_cases h2:x>y
  ·refine⟨1,by rw[show decide (x>y)=true by simpa using h2];rfl,?_⟩;rw[show(x==y)=false by simp;omega];rfl
  ·refine⟨0,by rw[show decide (x>y)=false by simpa using h2];rfl,?_⟩;rw[show(x==y)=true by simp;omega];rfl
def XL (x y:Int):∃z,Pn x y=some z∧(z==0)=(x==y):=CL x y
def Sa {α:Type} {n:Nat} (hn:n<=4611686018427387000) {b:(Int->Option α)->Int->Option α} (Q:Option α->Prop) (I:Nat->Prop)
 (hb:∀k (i:Nat),i<n->I i->Q (b k (i:Int))∨(b k (i:Int)=k ((i+1:Nat):Int)∧I (i+1))) (he:∀k,I n->Q (b k (n:Int))) (h0:I 0):Q (cF b bQ 0):=by
 have key:∀d i m:Nat,i+d=n->d<m->I i->Q (cF b m (i:Int)):=by
  intro d
  induction d with
  |zero=>
   intro i m hi hm hI;obtain rfl:i=n:=by omega
   cases m with
   |zero=>omega
   |succ m=>rw[eX];exact he _ hI
  |succ d ih=>
   intro i m hi hm hI;cases m with
   |zero=>omega
   |succ m=>
    rw[eX];rcases hb (cF b m) i (by omega) hI with h|⟨h,h'⟩
    ·exact h
    ·rw[h];exact ih (i+1) m (by omega) (by omega) h'
 exact key n 0 bQ (by omega) (by unfold bQ;omega) h0
def XM (a b:ByteArray) (ha:a.size<=4611686018427387000):∃z,Iu a b=some z∧(z==0)=decide (kR a=kR b):=by
 unfold Iu;rw[bY];dsimp only;have hmn:dW (a.size:Int) (b.size:Int)=((min a.size b.size:Nat):Int):=by unfold dW;split<;>omega
 simp only[hmn];have hget:∀(x:ByteArray) (i:Nat),i<x.size->(kR x)[i]? =some (pV (x.data.toList.getD i 0)):=by
  intro x i hi;have hi':i<x.data.toList.length:=by rw[lO];exact hi
  unfold kR;rw[qQ,fR,fH hi'];rfl
 have hlen:∀x:ByteArray,(kR x).length=x.size:=fun x=>by unfold kR;rw[gI,lO]
 refine Sa (n:=min a.size b.size) (by omega) (fun o=>∃z,o=some z∧(z==0)=decide (kR a=kR b)) (fun i=>∀j,j<i->pV (a.data.toList.getD j 0)=pV (b.data.toList.getD j 0)) (fun k i hi hI=>?_) (fun k hI=>?_) (fun j hj=>by omega)
 ·have h1:i<a.size:=by omega
  have h2:i<b.size:=by omega
  rw[show decide ((i:Int)<((min a.size b.size:Nat):Int))=true by simp;omega,bL,bV (by omega),bV (by omega),cZ,CM,aN,CM,aN];obtain⟨z,e1,e2⟩:=CL (((pV (a.data.toList.getD i 0)).toNat:Nat):Int) (((pV (b.data.toList.getD i 0)).toNat:Nat):Int);rw[e1,aN];by_cases he:pV (a.data.toList.getD i 0)=pV (b.data.toList.getD i 0)
  ·refine .inr ⟨?_,fun j hj=>?_⟩
   ·have:(z==0)=true:=by rw[e2,he];simp
    rw[bne,this];show aE false _ _=_;rw[aQ,jW hi (by omega)]
   ·by_cases hji:j=i
    ·subst hji;exact he
    ·exact hI j (by omega)
  ·refine .inl ⟨z,?_,?_⟩
   ·have:(z==0)=false:=by
     rw[e2];simp only[sN,ne_eq];intro h;exact he (UInt8.toNat_inj.1 (by omega))
    rw[bne,this];rfl
   ·rw[e2];have hne:kR a≠kR b:=by
     intro h;have:=hget a i h1;rw[h,hget b i h2] at this;injection this with this
     exact he this.symm
    rw[Bj hne];simp only[sN,ne_eq];intro h;exact he (UInt8.toNat_inj.1 (by omega))
 ·rw[show decide (((min a.size b.size:Nat):Int)<((min a.size b.size:Nat):Int))=false by simp,aQ];obtain⟨z,e1,e2⟩:=XL (a.size:Int) (b.size:Int);rw[e1,aN];refine⟨z,rfl,?_⟩;rw[e2];by_cases hs:a.size=b.size
  ·have:kR a=kR b:=by
    refine List.ext_getElem? fun j=>?_;by_cases hj:j<a.size
    ·rw[hget a j hj,hget b j (by omega),hI j (by omega)]
    ·rw[Gy (by rw[hlen];omega),Gy (by rw[hlen];omega)]
   rw[decide_eq_true this];simp;omega
  ·have:kR a≠kR b:=fun h=>hs (by rw[<-hlen a,h,hlen]);rw[Bj this];simp;omega
def sH (a b:ByteArray):Bool:=decide (kR a=kR b)
def Sm (s:ByteArray) (hs:s.size<=4611686018427387000) (L:List ByteArray) (hL:L.length<=4611686018427387000):pT s L=some (L.any fun t=>sH s t):=by
 have key:∃z,Iv L s=some z∧decide (z>=0)=L.any fun t=>sH s t:=by
  unfold Iv;refine Sa (n:=L.length) hL (fun o=>∃z,o=some z∧decide (z>=0)=L.any fun t=>sH s t) (fun i=>∀j,j<i->sH s (L.getD j bO)=false) (fun k i hi hI=>?_) (fun k hI=>?_) (fun j hj=>by omega)
  ·have hg:L.getD i bO∈L:=by
    rw[fR,fH hi,nH];exact sM hi
   rw[show decide ((i:Int)<(L.length:Int))=true by simp;omega,bL,bV (by omega),cZ];obtain⟨z,e1,e2⟩:=XM s (L.getD i bO) hs;unfold Nt Ns;rw[e1,aN,aN,aN,e2];cases he:sH s (L.getD i bO) with
   |true=>
    refine .inl ⟨(i:Int),?_,?_⟩
    ·show aE (sH s (L.getD i bO)) _ _=_;rw[he,bL]
    ·have:L.any (fun t=>sH s t)=true:=List.any_eq_true.2 ⟨_,hg,he⟩;rw[this];simp
   |false=>
    refine .inr ⟨?_,fun j hj=>?_⟩
    ·show aE (sH s (L.getD i bO)) _ _=_;rw[he,aQ,jW hi hL]
    ·by_cases hji:j=i
     ·subst hji;exact he
     ·exact hI j (by omega)
  ·rw[show decide ((L.length:Int)<(L.length:Int))=false by simp,aQ];refine⟨-1,rfl,?_⟩;have:L.any (fun t=>sH s t)=false:=by
    rw[List.any_eq_false];intro t ht;obtain⟨j,hj,e⟩:=List.getElem_of_mem ht;have:=hI j hj;rw[fR,fH hj,nH,e] at this;simp[this]
   rw[this];rfl
 obtain⟨z,e1,e2⟩:=key;unfold pT On;rw[e1,aN,aN,e2]
end
section
variable {T T' X:List Tk} {p p':Int} {N:Nat} {v a c:aA} {t:Tk} {b:Bool} {F:eA} {M:iP} {α:Type}
def yL (h:cQ T [iM]=false):tO (t::T):=by
 intro s0 s1 T2 e e2;injection e with _ e3
 rw[e3] at h;exfalso;simp[cQ,e2] at h
def Hz (h:t.1≠1):tO (t::T):=by
 intro s0 s1 T2 e _;injection e with e1 _
 rw[e1] at h;exact absurd rfl h
def Ni (h:RF F M N) {e:aA} (he:M.ex e) (b:Bool) (hT:qC T=true):tO (ts (aW F b e)++T):=by
 unfold aW;cases hc:nL e with
 |true=>exact h.d3 e he b T hT
 |false=>exact Hz (by simp)
def UF (h:RF F M N) {e:aA} (he:M.ex e) (b:Bool) (T:List Tk):cQ (ts (aW F b e)++T) [iM]=false:=by
 obtain⟨t,Q,e1,e2,_⟩:=Nh h he b T;rw[e1];exact EN e2
def Ng (h:RF F M N) {e:aA} (he:M.ex e) (b:Bool) (T:List Tk):oU (ts (aW F b e)++T):=by
 unfold aW;cases hc:nL e with
 |true=>exact h.tn e he b T
 |false=>exact fun h=>absurd h (by simp)
def Bx (w:ByteArray) (h:gX w=some false:=by decide+kernel):oU ((1,w)::T):=fun _=>⟨false,h⟩
def Ti {n:Bool} {x:Tk} (hx:qC [x]=true):qC (ts (iV n)++(x::T))=true:=by
 cases n with
 |false=>exact hx
 |true=>rfl
def UV {k:Nat} (hk:7<=k∧k<=24):∃x Q,oW k=(true,x)::Q∧qC [x]=true:=by
 have:k=7∨k=8∨k=9∨k=10∨k=11∨k=12∨k=13∨k=14∨k=15∨k=16∨k=17∨k=18∨k=19∨k=20∨k=21∨k=22∨k=23∨k=24:=by omega
 obtain⟨_,_⟩:=hk;rcases this with rfl|rfl|rfl|rfl|rfl|rfl|rfl|rfl|rfl|rfl|rfl|rfl|rfl|rfl|rfl|rfl|rfl|rfl<;>exact⟨_,_,rfl,by decide+kernel⟩
def EF (h:RF F M N) (hO:Di) {e:aA} (he:rD M e) (b:Bool) (hT:qC T=true):tO (ts (mF F b e)++T)∧oU (ts (mF F b e)++T):=by
 obtain⟨h0,ho,ha,hs⟩:=he;have hd:=(Un hT).2;unfold mF;generalize e.op.toNat=k at ho ⊢;rcases yB ho with rfl|rfl|rfl|rfl|rfl|rfl|hk|rfl|rfl|rfl|rfl|rfl|rfl|rfl|rfl
 ·show tO (jR e.v_::T)∧oU (jR e.v_::T);refine⟨yL hd,?_⟩;unfold jR;split
  ·exact Bx _
  split
  ·exact fun h=>absurd h (by simp)
  split
  ·exact fun h=>absurd h (by simp)
  ·exact fun h=>absurd h (by simp)
 ·obtain⟨e1,hn,ht⟩:=ho;show tO (ts (if e.table.data.toList=[] then [pw b e.name] else [pw b e.table,ps false iM,pw false e.name])++T)∧oU (ts (if e.table.data.toList=[] then [pw b e.name] else [pw b e.table,ps false iM,pw false e.name])++T);split
  ·exact⟨yL hd,fun _=>⟨true,hn⟩⟩
  ·rename_i hne;rcases ht with ht|ht
   ·exact absurd ht hne
   refine⟨?_,fun _=>⟨true,ht⟩⟩;intro s0 s1 T2 e2 _;have e3:ts [pw b e.table,ps false iM,pw false e.name]++T=(1,e.table)::(6,iM)::(1,e.name)::T:=rfl;rw[e3] at e2;injection e2 with _ e4
   injection e4 with _ e5
   exact⟨_,_,e5.symm⟩
 ·exact⟨Hz (by simp),fun h=>absurd h (by simp)⟩
 ·exact⟨Hz (by simp),fun h=>absurd h (by simp)⟩
 ·exact⟨Hz (by simp),fun h=>absurd h (by simp)⟩
 ·obtain⟨a,e1⟩:=ho;have hx:M.ex a:=ha a (by rw[e1];simp);have eq:e.args.getD 0 aA.z=a:=by rw[e1];rfl
  show tO (ts (if(e.args.getD 0 aA.z).op=27 then pw b cN::ps true cL::(F.tx false (e.args.getD 0 aA.z)++[ps false cB]) else pw b cN::aW F true (e.args.getD 0 aA.z))++T)∧oU (ts (if(e.args.getD 0 aA.z).op=27 then pw b cN::ps true cL::(F.tx false (e.args.getD 0 aA.z)++[ps false cB]) else pw b cN::aW F true (e.args.getD 0 aA.z))++T);rw[eq];split
  ·exact⟨yL (by decide+kernel:cQ [(6,cL)] [iM]=false),Bx _⟩
  ·exact⟨yL (UF h hx true T),Bx _⟩
 ·obtain⟨a,c,e1,e2⟩:=By hk ho;have hx:M.ex a:=ha a (by rw[e1];simp);have eq:e.args.getD 0 aA.z=a:=by rw[e1];rfl
  rw[yJ hk,To hk e2,eq,dY];refine⟨Ni h hx b ?_,Ng h hx b _⟩;obtain⟨x,Q,e3,e4⟩:=UV hk;rw[dY,dY,e3];exact Ti e4
 ·obtain⟨a,c,d,e1⟩:=ho;have hx:M.ex a:=ha a (by rw[e1];simp);have eq:e.args.getD 0 aA.z=a:=by rw[e1];rfl
  show tO (ts (aW F b (e.args.getD 0 aA.z)++(iV e.not++(pw true jG::(aW F true (e.args.getD 1 aA.z)++(pw true jB::aW F true (e.args.getD 2 aA.z))))))++T)∧oU (ts (aW F b (e.args.getD 0 aA.z)++(iV e.not++(pw true jG::(aW F true (e.args.getD 1 aA.z)++(pw true jB::aW F true (e.args.getD 2 aA.z))))))++T);rw[eq,dY,dY];exact⟨Ni h hx b (Ti rfl),Ng h hx b _⟩
 ·have hx:e.args.getD 0 aA.z∈e.args:=by
   rcases ho with⟨a,l,e1⟩|⟨a,q,e1⟩<;>rw[e1]<;>simp
  have hx:=ha _ hx;show tO (ts (aW F b (e.args.getD 0 aA.z)++(iV e.not++(pw true jN::ps true cL::((if e.sub=[] then cK F.tx false (e.args.drop 1) else F.se false (e.sub.getD 0 aF.z))++[ps false cB]))))++T)∧oU (ts (aW F b (e.args.getD 0 aA.z)++(iV e.not++(pw true jN::ps true cL::((if e.sub=[] then cK F.tx false (e.args.drop 1) else F.se false (e.sub.getD 0 aF.z))++[ps false cB]))))++T);rw[dY,dY];exact⟨Ni h hx b (Ti rfl),Ng h hx b _⟩
 ·show tO (ts ((if e.not then [pw b cN,pw true eG] else [pw b eG])++(ps true cL::(F.se false (e.sub.getD 0 aF.z)++[ps false cB])))++T)∧oU (ts ((if e.not then [pw b cN,pw true eG] else [pw b eG])++(ps true cL::(F.se false (e.sub.getD 0 aF.z)++[ps false cB])))++T);cases e.not with
  |true=>exact⟨yL (rfl:cQ [(1,eG)] [iM]=false),Bx _⟩
  |false=>exact⟨yL (by decide+kernel:cQ [(6,cL)] [iM]=false),Bx _⟩
 ·exact⟨Hz (by simp),fun h=>absurd h (by simp)⟩
 ·obtain⟨k,e1,h1,h2,h3,h4⟩:=ho;obtain⟨c1,_,_⟩:=GM h1 h2 h3;show tO (ts (pw b jA::((caseA e.n.toNat e.args).flatMap (F.tx true)++(eQ F (iH e.n.toNat e.args)++(nP F (iK e.n.toNat e.args)++[pw true iO]))))++T)∧oU (ts (pw b jA::((caseA e.n.toNat e.args).flatMap (F.tx true)++(eQ F (iH e.n.toNat e.args)++(nP F (iK e.n.toNat e.args)++[pw true iO]))))++T);refine⟨?_,Bx _⟩;rw[lS,dY,dY];refine yL ?_;rcases c1 with c1|⟨x,c1,hx⟩
  ·rw[c1]
   match hm:iH e.n.toNat e.args with
   |[]=>rw[hm] at h3;simp at h3
   |[_]=>rw[hm] at h3;simp at h3;omega
   |c::r::l=>rfl
  ·rw[c1];have hf:[x].flatMap (F.tx true)=F.tx true x:=by simp
   rw[hf];obtain⟨t,Q,f1,f2⟩:=Cn h (ha x hx) true (ts (eQ F (iH e.n.toNat e.args))++(ts (nP F (iK e.n.toNat e.args)++[pw true iO])++T));rw[f1];exact EN f2
 ·exact⟨yL (by decide+kernel:cQ [(6,cL)] [iM]=false),Bx _⟩
 ·obtain⟨a,e1,_⟩:=ho;have hx:M.ex (e.args.getD 0 aA.z):=ha _ (by rw[e1];simp);show tO (ts (aW F b (e.args.getD 0 aA.z)++[pw true pM,pw true e.name])++T)∧oU (ts (aW F b (e.args.getD 0 aA.z)++[pw true pM,pw true e.name])++T);rw[dY];exact⟨Ni h hx b rfl,Ng h hx b _⟩
 ·obtain⟨e1,hn,hk⟩:=ho;refine⟨yL (by decide+kernel:cQ [(6,cL)] [iM]=false),?_⟩;rcases hn with hn|hn
  ·exact fun _=>⟨true,hn⟩
  ·exact fun _=>hO.replN _ hn
end
def ER {k:Nat} (h:k<10):lA (UInt8.ofNat (48+k))=true:=by
 have:∀k:Fin 10,lA (UInt8.ofNat (48+k.val))=true:=by decide+kernel
 exact this ⟨k,h⟩
def Qp (u:Nat):(∃c a,Lib.decDigits u=c::a)∧(Lib.decDigits u).all lA=true:=by
 induction u using Nat.strongRecOn with
 |_ u ih=>
  by_cases h:u<10
  ·rw[Lib.decDigits,dif_pos h];exact⟨⟨_,_,rfl⟩,by rw[tY,ER h];rfl⟩
  ·obtain⟨⟨c,a,e⟩,h2⟩:=ih (u/10) (by omega);rw[Lib.decDigits,dif_neg h];refine⟨⟨c,a++[UInt8.ofNat (48+u%10)],by rw[e];rfl⟩,?_⟩;rw[List.all_append,h2,tY,ER (by omega)];rfl
def aBf (n:Int) (h:0<=n):Fo n:=Qp n.toNat
def aAm (n:Int) (h1:1<=n) (h2:n<=16):((kP n).data.toList==(bm #[]).data.toList)=false∧0<(kP n).size∧zC (kP n)=some (n,())∧((((kP n).data.toList.getD 0 0).toNat:Int)==43)=false:=by
 have e1:∀k:Fin 10,1<=k.val->(fun s:ByteArray=>(s.data.toList==(bm #[]).data.toList)=false∧0<s.size∧zC s=some ((k.val:Int),())∧(((s.data.toList.getD 0 0).toNat:Int)==43)=false) (ByteArray.mk [UInt8.ofNat (48+k.val)].toArray):=by decide+kernel
 have e2:∀k:Fin 7,(fun s:ByteArray=>(s.data.toList==(bm #[]).data.toList)=false∧0<s.size∧zC s=some (((10+k.val:Nat):Int),())∧(((s.data.toList.getD 0 0).toNat:Int)==43)=false) (ByteArray.mk [UInt8.ofNat (48+(10+k.val)/10),UInt8.ofNat (48+(10+k.val)%10)].toArray):=by decide+kernel
 obtain⟨m,rfl⟩:∃m:Nat,n=(m:Int):=⟨n.toNat,by omega⟩;unfold kP;rw[cZ];by_cases h:m<10
 ·rw[Lib.decDigits_one h];exact e1 ⟨m,h⟩ (by simp only;omega)
 ·obtain⟨k,rfl⟩:∃k,m=10+k:=⟨m-10,by omega⟩;rw[Lib.decDigits_two h (by omega)];exact e2 ⟨k,by omega⟩
section
variable {x:ByteArray}
def YU (c:UInt8) (h:mJ (pV c)=true) (h2:(pV c==95)=false):mJ c=true∧c.toNat<128:=by
 have:∀k:Fin 256,mJ (pV (UInt8.ofNat k.val))=true->(pV (UInt8.ofNat k.val)==95)=false->mJ (UInt8.ofNat k.val)=true∧k.val<128:=by decide+kernel
 have e:=this ⟨c.toNat,c.toNat_lt⟩;simp only[xU] at e;exact e h h2
def Es (t:ByteArray):Bool:=(kR t).all (fun c=>mJ c&& !(c==95))&&decide (0<t.size)&&decide (t.size<=32)
def Sb {s t:ByteArray} (h:sH s t=true) (ht:Es t=true):s.data.toList.all mJ=true∧(s.data.toList.all fun b=>decide (b.toNat<128))=true∧0<s.size∧s.size<=32:=by
 have he:kR s=kR t:=pK h;simp only[Es,dI,tW] at ht;obtain⟨⟨h1,h2⟩,h3⟩:=ht;have hl:=congrArg List.length he;unfold kR at hl;rw[gI,gI,lO,lO] at hl;have hall:∀c∈s.data.toList,mJ c=true∧c.toNat<128:=by
  intro c hc;have hm:pV c∈kR t:=by rw[<-he];exact List.mem_map_of_mem hc
  have:=lY.1 h1 _ hm;simp only[dI,qR] at this;exact YU c this.1 this.2
 refine⟨lY.2 fun c hc=>(hall c hc).1,lY.2 fun c hc=>by simpa using(hall c hc).2,by omega,by omega⟩
def PY (c:UInt8):Lib.upperB c=Lib.upperB (pV c):=by
 have:∀k:Fin 256,Lib.upperB (UInt8.ofNat k.val)=Lib.upperB (pV (UInt8.ofNat k.val)):=by decide+kernel
 have e:=this ⟨c.toNat,c.toNat_lt⟩;simp only[xU] at e;exact e
def aCj {s t:ByteArray} (h:sH s t=true):Lib.toUpperA s.data.toList=Lib.toUpperA t.data.toList:=by
 have he:kR s=kR t:=pK h;have k:∀l:List UInt8,Lib.toUpperA l=(l.map pV).map Lib.upperB:=by
  intro l;unfold Lib.toUpperA;rw[List.map_map];exact Ha fun c _=>PY c
 rw[k,k];exact congrArg _ he
def Zl {s t:ByteArray} (h:sH s t=true) (ht:Es t=true) (ht2:t.data.toList.all mJ=true) (ht3:(t.data.toList.all fun b=>decide (b.toNat<128))=true):kA s=kA t:=by
 obtain⟨h1,h2,h3,h4⟩:=Sb h ht;have ht':=ht;simp only[Es,dI,tW] at ht';obtain⟨⟨_,g2⟩,g3⟩:=ht';have he:kR s=kR t:=pK h;have hl:=congrArg List.length he;unfold kR at hl;rw[gI,gI,lO,lO] at hl;have hu:=aCj h;obtain⟨k,e1,_,_,e2⟩:=Ig (x:=s) wU (by omega);obtain⟨k',e1',_,_,e2'⟩:=Ig (x:=t) wU (by omega);have ek:=e2 h1;have ek':=e2' ht2;rw[ek] at e1;rw[ek'] at e1';have hes:(s.data.toList==(bm #[]).data.toList)=false:=by
  cases hs:s.data.toList with
  |nil=>have:=lO s;rw[hs] at this;simp at this;omega
  |cons c a=>rfl
 have het:(t.data.toList==(bm #[]).data.toList)=false:=by
  cases hs:t.data.toList with
  |nil=>have:=lO t;rw[hs] at this;simp at this;omega
  |cons c a=>rfl
 unfold kA Gf;rw[if_pos h2,if_pos ht3,bV (p:=s.size<=140737488355328) (by omega),bV (p:=t.size<=140737488355328) (by omega),hu,hes,het,Ri,Ri,e1,e1',hl]
def PU {s t:ByteArray} (h:sH s t=true) (ht:Es t=true) (ht2:t.data.toList.all mJ=true) (ht3:(t.data.toList.all fun b=>decide (b.toNat<128))=true) (hk:(kA t).isSome=true):rA s:=by
 obtain⟨h1,h2,h3,h4⟩:=Sb h ht;obtain⟨r,hr⟩:=Option.isSome_iff_exists.1 hk
 match hs:s.data.toList with
 |[]=>have:=lO s;rw[hs] at this;simp at this;omega
 |c::a=>
  rw[hs] at h1;have ha:(c::a).all oL=true:=by
   rw[lY] at h1 ⊢;intro d hd;simp[oL,h1 d hd]
  refine⟨c,a,hs,?_,ha,r,by rw[Zl h ht ht2 ht3];exact hr⟩;rw[tY,dI] at h1;exact h1.1
def GI (t:ByteArray):Bool:=Es t&&t.data.toList.all mJ&&(t.data.toList.all fun b=>decide (b.toNat<128))&&(kA t).isSome
def Sw {s:ByteArray} {L:List ByteArray} (hs:s.size<=4611686018427387000) (hL:L.length<=1000) (h:pT s L=some true) (hg:L.all GI=true):rA s:=by
 rw[Sm s hs L (by omega)] at h;injection h with h
 rw[List.any_eq_true] at h;obtain⟨t,ht,he⟩:=h;have:=lY.1 hg t ht;simp only[GI,dI] at this;obtain⟨⟨⟨g1,g2⟩,g3⟩,g4⟩:=this;exact PU he g1 g2 g3 g4
def UR:rP:=by
 refine⟨fun s h=>RJ h,fun s h=>?_,fun s h=>?_,fun s h=>?_⟩
 ·exact Sw h.1 (by decide) (h.2 _ rfl) (by decide+kernel)
 ·exact Sw h.1 (by decide) (h.2 _ rfl) (by decide+kernel)
 ·exact Sw h.1 (by decide) (h.2 _ rfl) (by decide+kernel)
def Zm {s:ByteArray} (h:pN s (some [jX])):sH s jX=true∧kA s=kA jX:=by
 have h2:=h.2 _ rfl;rw[Sm s h.1 _ (by decide)] at h2;injection h2 with h2
 simp only[List.any_cons,List.any_nil,jE] at h2;exact⟨h2,Zl h2 (by decide+kernel) (by decide+kernel) (by decide+kernel)⟩
def XT {s:ByteArray} (h:pN s (some [jX])):tR s=jX:=by
 have:tR jX=jX:=by
  have e:kA jX=some (jX,true):=by decide+kernel
  unfold tR;rw[e]
 unfold tR at this ⊢;rw[(Zm h).2];exact this
end
end Go.Proofs.YtlfbdcfnimnhiaaGreatDoor.Ex
