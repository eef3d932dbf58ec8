/- A part. -/
import Derived.Shelf.Spec.SlicesGrow
import Derived.Test.YtlfbdcfnimnhiaaGreatDoorQ2
set_option linter.all false
set_option maxHeartbeats 4000000
set_option maxRecDepth 100000
open Go.Proofs.Tryz
open Go.IntKind (i64)
namespace Go.Proofs.YtlfbdcfnimnhiaaGreatDoor.Ex
open Go.Am Go.Ex Go.Shelf
def Io:Ren:=⟨fun|4=>140|n=>n,fun|22=>26|25=>29|n=>n,fun|n=>n⟩
def BR:Lays8.n4 prog Io:={
 mixed:=by kernel_rfl
 f4:=⟨f140.name,by decide,func140.trans (congrArg some (by kernel_rfl))⟩
 t0:=underlying0
 a0:=isAgg0
 z0:=sizeOf0
 v0:=zeroValue0
 t3:=underlying3
 a3:=isAgg3
 z3:=sizeOf3
 v3:=zeroValue3
 t4:=underlying4
 a4:=isAgg4
 z4:=sizeOf4
 v4:=zeroValue4
 t9:=underlying9
 a9:=isAgg9
 z9:=sizeOf9
 v9:=zeroValue9
 t20:=underlying20
 a20:=isAgg20
 z20:=sizeOf20
 v20:=zeroValue20
 t22:=underlying26
 a22:=isAgg26
 z22:=sizeOf26
 v22:=zeroValue26 }
def KY (z:Array Value) (n:Nat):(Builtin.zeroCells z n).size=n*z.size:=by
 unfold Builtin.zeroCells;simp
def ZM (n:Int) (h:0<=n∧n*136<=140737488355328):CF prog 140 [.nil,aI n] 29 10 (List.map aA.v []):=fun s=>by
 obtain⟨i,u,z,hi,hu,hz,h1,h2,h3,h4,h5⟩:=gE nQ;refine mY.ownNew ⟨_,func140,rfl,by decide⟩ fun G w cargs hh hargs=>?_;obtain⟨v,l,e,k1,k2⟩:=bZ.sJ hargs;obtain⟨v',l',rfl,k3,k4⟩:=bZ.sJ k2;obtain rfl:=k4.Bd;cases k1;cases k3
 obtain rfl:cargs= #[.slice none 0 0,.int .i64 n]:=by rw[<-xV];exact e
 obtain⟨m,rfl⟩:∃m:Nat,n=(m:Int):=⟨n.toNat,by omega⟩;have hn:m*136<=140737488355328:=by omega
 rcases Mg m with rfl|hp
 ·refine(Any8.slices_Grow_room BR none 0 0 0 w (by omega) (by omega) (by omega) (by omega)).mono ?_;rintro e' w' ⟨rfl,rfl⟩;exact⟨⟨dS _,rfl,rfl,rfl,fun b hb=>rfl⟩,.inl ⟨none,rfl,fun b hb=>by simp[jT] at hb⟩⟩
 ·have hs:i.size=10:=by rw[<-h1]
  have hb:i.bytes=136:=by rw[<-h2]
  refine(Any8.slices_Grow_grow BR i z hi hz (by omega) none 0 0 m [] w (by omega) (by omega) (by rw[hb];omega) (by omega) (by simp) (fun _=>rfl) (fun a ha=>by cases ha)).mono ?_;rintro e' w' ⟨rfl,rfl⟩;have hge:=grownCap_ge w (0+m) 0 (Io.t 25);have hle:=grownCap_le_maxLen w (0+m) 0 (Io.t 25) (by unfold maxLen;omega);obtain⟨c,hc⟩:∃c,grownCap w (0+m) 0 (Io.t 25)=c+1:=⟨grownCap w (0+m) 0 (Io.t 25)-1,by omega⟩;rw[hc] at hge hle ⊢;have hzs:z.cells.size=10:=by have:=congrArg List.length h3;simpa using this.symm
  refine⟨(dP.drew w).trans (dP.alloc _ _),.inr ⟨c,_,rfl,World.alloc_heap_new _ _,?_,hle⟩⟩;simp only[Array.size_append,KY,hzs];simp only[List.size_toArray,bS];omega
end Go.Proofs.YtlfbdcfnimnhiaaGreatDoor.Ex
namespace Go.Proofs.YtlfbdcfnimnhiaaGreatDoor.Ex
open Go.Am Go.Ex
def xA:List (ByteArray×Int)->List (List V)
 |[]=>[]
 |(b,n)::l=>[.base (.iface 9 (.string b))]::[.base (.iface 22 (.int .i64 n))]::xA l
def jQ (s:ByteArray):List (ByteArray×Int)->Int×Int
 |[]=>(0,0)
 |(b,n)::l=>if(b.data.toList==s.data.toList)=true then(n,1) else jQ s l
def Mo:∀l,(xA l).length=2*l.length
 |[]=>rfl
 |(b,n)::l=>by simp only[xA,bF,Mo l];omega
def Yt:∀(l:List (ByteArray×Int)) (k:Nat) (b:ByteArray) (n:Int),l[k]? =some (b,n)->(xA l).getD (2*k) []=[.base (.iface 9 (.string b))]∧(xA l).getD (2*k+1) []=[.base (.iface 22 (.int .i64 n))]
 |[],k,b,n,h=>by simp at h
 |(b',n')::l,0,b,n,h=>by
  simp at h;obtain⟨rfl,rfl⟩:=h;exact⟨rfl,rfl⟩
 |(b',n')::l,k+1,b,n,h=>by
  have:=Yt l k b n (by simpa using h);simpa[xA,Nat.mul_add] using this
def Ja (s0:ByteArray) (l:List (ByteArray×Int)) (hl:l.length<=1000):cG prog 117 [aM s0,.slice 1 (xA l)] (.tuple [aI (jQ s0 l).1,aI (jQ s0 l).2]):=by
 intro s;refine Hw (fn:=f117) func117 rfl (by decide) (by show 2<=26;decide) ?_;rw[ntmps117];refine aB.eD fun Z1 hZ1=>?_;simp only[am,seval,reduceCtorEq];refine hZ1 _ ?_;clear hZ1 Z1;refine aB.rJ fun K1 hK1=>?_;refine aB.eD fun Z2 hZ2=>?_;simp only[am,seval,reduceCtorEq];refine hZ2 _ ?_;clear hZ2 Z2;refine aB.block ?_;refine aB.Qj (ι:=Nat) (fun k=>k<=l.length∧jQ s0 l=jQ s0 (l.drop k)) (fun k=>bN [(0,aM s0),(1,.slice 1 (xA l)),(6,aI ((2*k:Nat):Int))] [] s 26) (fun k=>l.length-k) 0 ⟨⟨kK _,rfl⟩,?_⟩ ?_
 ·refine qY ?_ ?_ ?_ (aL.le.refl _) rfl
  ·simp only[jK,am,seval,reduceCtorEq]<;>simp
  ·simp only[gB,iG,Nat.reduceBEq,kJ,kI,jE,and_self]
  ·simp only[jL,am,seval,reduceCtorEq]
 ·rintro k ⟨hk,hs⟩;(try simp only at hk hs ⊢);refine aB.rJ fun K2 hK2=>?_;refine aB.eD fun Z3 hZ3=>?_;simp only[Ol,Ft,Mo,xL,am,seval,reduceCtorEq];refine hZ3 _ ?_;clear hZ3 Z3;refine aB.cond (t:=decide (((2*k:Nat):Int)<((2*l.length:Nat):Int))) (by simp only[am,seval,reduceCtorEq]) (fun htj=>?_) (fun htj=>?_)
  ·have hlt:k<l.length:=by have:=pK htj;omega
   obtain⟨b,n,hbn⟩:∃b n,l[k]? =some (b,n):=⟨l[k].1,l[k].2,fH hlt⟩;have hdrop:l.drop k=(b,n)::l.drop (k+1):=by
    rw[tV hlt];congr 1;rw[fH hlt] at hbn;exact eS hbn
   obtain⟨g1,g2⟩:=Yt l k b n hbn;have ix0:(0<=((2*k:Nat):Int))=True:=eq_true (by omega);have ix1:(((2*k:Nat):Int)<((2*l.length:Nat):Int))=True:=eq_true (by omega);have hg1:(xA l).getD ((2*k:Nat):Int).toNat []=[.base (.iface 9 (.string b))]:=g1;refine aB.skip ?_;refine hK2 _ ?_;clear hK2;refine aB.rJ fun K3 hK3=>?_;refine aB.block ?_;refine aB.eD fun Z4 hZ4=>?_;have hu20:=underlying20;have hu9:=underlying9;have hcmp:((prog.info? 9).map (·.comparable)=some true)=True:=eq_true (by kernel_rfl)
   simp only[Ol,Ft,rH,ix0,ix1,hg1,hu20,hu9,hcmp,Mo,true_and,and_self,↓reduceIte,am,seval,reduceCtorEq];refine hZ4 _ ?_;clear hZ4 Z4;refine aB.cond (t:=(b.data.toList==s0.data.toList)) (by simp only[am,seval,reduceCtorEq]) (fun hc=>?_) (fun hc=>?_)
   ·have ix2:(0<=i64.wrap (((2*k:Nat):Int)+1))=True:=by rw[nK (by omega) (by omega)];exact eq_true (by omega)
    have ix3:(i64.wrap (((2*k:Nat):Int)+1)<((2*l.length:Nat):Int))=True:=by rw[nK (by omega) (by omega)];exact eq_true (by omega)
    have hg2:(xA l).getD (i64.wrap (((2*k:Nat):Int)+1)).toNat []=[.base (.iface 22 (.int .i64 n))]:=by
     rw[nK (by omega) (by omega),show(((2*k:Nat):Int)+1).toNat=2*k+1 by omega];exact g2
    refine aB.eD fun Z5 hZ5=>?_;simp only[Ol,Ft,HV,kQ,ix2,ix3,hg2,Mo,true_and,and_self,↓reduceIte,am,seval,reduceCtorEq];refine hZ5 _ ?_;clear hZ5 Z5;refine aB.ret ?_;refine qX (vs:=[aI n,aI 1]) (v:=.tuple [aI (jQ s0 l).1,aI (jQ s0 l).2]) (by show dC prog _ [.tmp 4,.tmp 5]=_;simp only[dC,am,seval,reduceCtorEq]) ?_ (aL.le.refl _) ⟨rfl,rfl⟩;rw[hs,hdrop];simp only[jQ,hc,↓reduceIte];exact Wk.refl _
   ·refine aB.skip ?_;refine hK3 _ ?_;clear hK3;refine aB.fW fun Z6 hZ6=>?_;simp only[am,seval,reduceCtorEq];refine hZ6 _ ?_;clear hZ6 Z6;refine⟨k+1,⟨⟨hlt,?_⟩,by omega⟩,?_⟩
    ·rw[hs,hdrop];simp only[jQ,hc,Bool.false_eq_true,↓reduceIte]
    refine qY ?_ ?_ ?_ (aL.le.refl _) rfl
    ·simp only[jK,am,seval,reduceCtorEq];have e2:i64.wrap (((2*k:Nat):Int)+2)=((2*(k+1):Nat):Int):=by
      rw[nK (by omega) (by omega)];omega
     first|(rw[e2];done)|(rw[e2];simp)
    ·simp only[gB,iG,Nat.reduceBEq,kJ,kI,jE,and_self]
    ·simp only[jL,am,seval,reduceCtorEq]
  ·have hge:k=l.length:=by have:=rM htj;omega
   refine aB.exit ?_;simp only[qI,Ai,↓reduceIte];refine hK1 _ ?_;clear hK1;refine aB.eD fun Z7 hZ7=>?_;simp only[am,seval,reduceCtorEq];refine hZ7 _ ?_;clear hZ7 Z7;refine aB.ret ?_;refine qX (vs:=[aI 0,aI 0]) (v:=.tuple [aI (jQ s0 l).1,aI (jQ s0 l).2]) (by show dC prog _ [.tmp 4,.tmp 5]=_;simp only[dC,am,seval,reduceCtorEq]) ?_ (aL.le.refl _) ⟨rfl,rfl⟩;rw[hs,hge,List.drop_length];exact Wk.refl _
end Go.Proofs.YtlfbdcfnimnhiaaGreatDoor.Ex
namespace Go.Am
section
variable {P:Program}
def sC (x:Nat) (o:Oper):Oper:={ o with after:=o.after.push { on:=x,ground:=.data } }
def fN (ops:Array Oper) (y x:Nat):Array Oper:=ops.modify y (sC x)
def pL (ops:Array Oper) (y x i:Nat):(fN ops y x)[i]? =if y=i then(ops[i]?).map (sC x) else ops[i]? :=by
 unfold fN;rw[Array.getElem?_modify]
def Dx (ops:Array Oper) (y x:Nat):(fN ops y x).size=ops.size:=by unfold fN;simp
def KV (ops:Array Oper) (y x:Nat) (tmps:Array Value):yielded (fN ops y x) tmps=yielded ops tmps:=by
 funext j;have e:((fN ops y x)[j]?).bind (·.dst)=(ops[j]?).bind (·.dst):=by
  rw[pL];split
  ·cases ops[j]? <;>rfl
  ·rfl
 unfold yielded;rw[e]
def Ml (ops:Array Oper) (y x i:Nat) (Q:Exit->Act->World->Prop) (K:Act->World->Prop) (a:Act) (w:World):wpOp P (fN ops y x) Q i K a w=wpOp P ops Q i K a w:=by
 unfold wpOp;rw[pL,KV];by_cases e:y=i
 ·rw[if_pos e];cases h:ops[i]? with
  |none=>rfl
  |some o=>rfl
 ·rw[if_neg e]
def Bm {ops:Array Oper} {y x i:Nat} {l:Array Bool}:i∈Region.ready .any (fN ops y x) l↔i∈Region.ready .any ops l∧(i=y->l.getD x false=true):=by
 unfold Region.ready;simp only[List.mem_filter,zQ,Dx,pL,dI];by_cases e:y=i
 ·subst e;simp only[if_true,forall_const];cases h:ops[y]? with
  |none=>simp
  |some o=>
   simp only[Option.map_some,nH,sC,Array.all_push,dI];constructor
   ·rintro⟨h1,h2,h3,h4⟩;refine⟨⟨h1,h2,h3⟩,?_⟩;simpa[Region.binds] using h4
   ·rintro⟨⟨h1,h2,h3⟩,h4⟩;exact⟨h1,h2,h3,by simp[h4]⟩
 ·simp only[if_neg e];constructor
  ·intro h;exact⟨h,fun h'=>absurd h'.symm e⟩
  ·exact fun h=>h.1
def MR {ops:Array Oper} {y x:Nat} {l:Array Bool} (h:Region.ready .any ops l=[]):Region.ready .any (fN ops y x) l=[]:=by
 cases hq:Region.ready .any (fN ops y x) l with
 |nil=>rfl
 |cons i r=>
  have:i∈Region.ready .any (fN ops y x) l:=by rw[hq];simp
  have:=(Bm.1 this).1;rw[h] at this;cases this
def Qz {ops:Array Oper} {y x:Nat} {Q:Exit->Act->World->Prop}:∀(f:Nat) (l:Array Bool) (a:Act) (w:World),l.getD x false=true->wpAny P .any (fN ops y x) Q f l a w->wpAny P .any ops Q f l a w
 |0,l,a,w,hx,h=>by
  refine⟨?_,h.2⟩;cases hq:Region.ready .any ops l with
  |nil=>rfl
  |cons i r=>
   have h2:i∈Region.ready .any (fN ops y x) l:=Bm.2 ⟨by rw[hq];simp,fun _=>hx⟩;rw[h.1] at h2;cases h2
 |f+1,l,a,w,hx,h=>by
  refine⟨fun h0=>h.1 (MR h0),fun i hi=>?_⟩;have h2:=h.2 i (Bm.2 ⟨hi,fun _=>hx⟩);rw[Ml] at h2;refine wpOp_mono (fun a' w' h'=>Qz f _ a' w' ?_ h') h2;rw[iS] at hx ⊢;rw[Xh];split
  ·rename_i e;subst e;cases hq:l[i]? with
   |none=>rw[hq] at hx;cases hx
   |some b=>simp[(gZ.1 hq).1]
  ·exact hx
structure Left (all:Array Oper) (listed:Array Bool) (rem:List Nat):Prop where
 hsz:listed.size=all.size
 hmem:∀i,i∈rem↔i<all.size∧listed.getD i true=false
 hnd:rem.Nodup
 hpw:rem.Pairwise (fun j i=>rI all j i∨∃oj oi,all[j]? =some oj∧all[i]? =some oi∧Af all oj oi=true)
 hcl:∀i o,listed.getD i false=true->all[i]? =some o->∀ed∈o.after,Region.binds .any ed=true->listed.getD ed.on false=true
def Left.step {all:Array Oper} {listed:Array Bool} {rem:List Nat} (h:Left all listed rem) {i:Nat} (hi:i∈Region.ready .any all listed):∃rem',Left all (listed.setIfInBounds i true) rem'∧rem'.length<rem.length∧∀st (K:St->Prop),oJ P all rem st K->∃o,all[i]? =some o∧gF P all o st fun st'=>oJ P all rem' st' K:=by
 obtain⟨hsz,hmem,hnd,hpw,hcl⟩:=h;obtain⟨h1,oi,ho,hdeps⟩:=mem_ready.1 hi;have hlt:i<all.size:=(gZ.1 ho).1;have hirem:i∈rem:=(hmem i).2 ⟨hlt,h1⟩;obtain⟨pre,post,rfl⟩:=List.append_of_mem hirem;have hnotanc:∀j∈pre,¬rI all j i:=by
  intro j hj hanc;have up:∀k,rI all j k->(∀o,all[k]? =some o->∀ed∈o.after,Region.binds .any ed=true->listed.getD ed.on false=true)->listed.getD j false=true:=by
   intro k hk
   induction hk with
   |direct ho' he hb hon=>intro hd;rw[<-hon];exact hd _ ho' _ he hb
   |step ho' he hb _ ih'=>
    intro hd;exact ih' fun o ho2=>hcl _ o (hd _ ho' _ he hb) ho2
  have hl:=up i hanc (fun o ho2=>by
   obtain rfl:o=oi:=eS (ho2.symm.trans ho);exact hdeps)
  have hjm:=((hmem j).1 (by simp[hj])).2;have hjs:=((hmem j).1 (by simp[hj])).1;rw[iS,oQ (by omega)] at hl hjm;rw[nH] at hl hjm;rw[hl] at hjm;cases hjm
 have hpass:∀j∈pre,∃oj,all[j]? =some oj∧Af all oj oi=true:=by
  intro j hj;have:=(List.pairwise_append.1 hpw).2.2 j hj i (by simp);rcases this with hA|⟨oj,oi',k1,k2,k3⟩
  ·exact absurd hA (hnotanc j hj)
  ·obtain rfl:oi'=oi:=eS (k2.symm.trans ho);exact⟨oj,k1,k3⟩
 have hsub:(pre++post).Sublist (pre++i::post):=List.Sublist.append_left (List.sublist_cons_self i post) pre;have hnd':=He.1 hnd;have hni:i ∉ pre++post:=by
  have h3:=(Hi.1 hnd'.2.1).1;intro hmm;rcases lN.1 hmm with hm|hm
  ·exact hnd'.2.2 i hm i (by simp) rfl
  ·exact h3 hm
 have hset:∀(k:Nat) (d:Bool),(listed.setIfInBounds i true).getD k d=if k=i then true else listed.getD k d:=fun k d=>by
  simp only[iS,Xh];by_cases e:i=k
  ·subst e;simp[hsz,hlt]
  ·simp[e,iE e]
 refine⟨pre++post,⟨by simpa using hsz,fun k=>?_,hnd.sublist hsub,hpw.sublist hsub,?_⟩,by simp,fun st K h=>⟨oi,ho,Tt ho pre hpass st h⟩⟩
 ·rw[hset];by_cases e:k=i
  ·subst e;simp only[↓reduceIte,Bool.true_eq_false,and_false,iff_false];exact hni
  ·rw[if_neg e,<-hmem k];simp[e]
 ·intro k o hk hok ed hed hbd;rw[hset];split
  ·rfl
  ·rw[hset] at hk;by_cases e:k=i
   ·subst e;obtain rfl:o=oi:=eS (hok.symm.trans ho);exact hdeps ed hed hbd
   ·rw[if_neg e] at hk;exact hcl k o hk hok ed hed hbd
def Left.anc {all:Array Oper} {listed:Array Bool} {rem:List Nat} (h:Left all listed rem) {i j:Nat} (hi:i∈Region.ready .any all listed) (ha:rI all j i):listed.getD j false=true:=by
 obtain⟨h1,oi,ho,hdeps⟩:=mem_ready.1 hi;have up:∀k,rI all j k->(∀o,all[k]? =some o->∀ed∈o.after,Region.binds .any ed=true->listed.getD ed.on false=true)->listed.getD j false=true:=by
  intro k hk
  induction hk with
  |direct ho' he hb hon=>intro hd;rw[<-hon];exact hd _ ho' _ he hb
  |step ho' he hb _ ih'=>
   intro hd;exact ih' fun o ho2=>h.hcl _ o (hd _ ho' _ he hb) ho2
 exact up i ha (fun o ho2=>by
  obtain rfl:o=oi:=eS (ho2.symm.trans ho);exact hdeps)
def Left.none {all:Array Oper} {listed:Array Bool} {rem:List Nat} (h:Left all listed rem) (hlow:∀(i:Nat) (o:Oper),all[i]? =some o->∀ed∈o.after,Region.binds .any ed=true->ed.on<all.size∧(ed.on<i∨listed.getD ed.on false=true)) (hr:Region.ready .any all listed=[]):rem=[]:=by
 cases hrem:rem with
 |nil=>rfl
 |cons x xs=>
  exfalso;have least:∀n,∀i,i<n->i∈rem->False:=by
   intro n
   induction n with
   |zero=>intro i hi;omega
   |succ n ihn=>
    intro i hi hirem;by_cases hin':i<n
    ·exact ihn i hin' hirem
    ·obtain rfl:i=n:=by omega
     obtain⟨h1,h2⟩:=(h.hmem i).1 hirem;have hready:i∈Region.ready .any all listed:=by
      refine mem_ready.2 ⟨h2,all[i],by simp[h1],fun ed hed hb=>?_⟩;obtain⟨hsz,hlt|hl⟩:=hlow i all[i] (by simp[h1]) ed hed hb
      ·cases hq:listed.getD ed.on false with
       |true=>rfl
       |false=>
        exfalso;refine ihn ed.on hlt ((h.hmem ed.on).2 ⟨hsz,?_⟩);rw[iS] at hq ⊢;have:ed.on<listed.size:=by rw[h.hsz];exact hsz
        rw[oQ this] at hq ⊢;exact hq
      ·exact hl
     rw[hr] at hready;simp at hready
  exact least (x+1) x (by omega) (by rw[hrem];simp)
def TK {l:Array Bool} {i j:Nat} (h:l.getD j false=true):(l.setIfInBounds i true).getD j false=true:=by
 rw[iS] at h ⊢;rw[Xh];split
 ·rename_i e;subst e;cases hq:l[i]? with
  |none=>rw[hq] at h;cases h
  |some b=>simp[(gZ.1 hq).1]
 ·exact h
def Wj {all:Array Oper} {e:Entry} {Q:Exit->Act->World->Prop} {K:St->Prop} (hPQ:PQ e Q) (hQ:∀a w,jC e K a w->Q .normal a w):∀(fuel:Nat) (listed:Array Bool) (rem:List Nat) (st:St) (a:Act) (w:World),rem.length<=fuel->Left all listed rem->
 (∀(i:Nat) (o:Oper),all[i]? =some o->∀ed∈o.after,Region.binds .any ed=true->ed.on<all.size∧(ed.on<i∨listed.getD ed.on false=true))->oJ P all rem st K->In e st a w->wpAny P .any all Q fuel listed a w
 |0,listed,rem,st,a,w,hlen,hl,hlow,h,hin=>by
  obtain rfl:rem=[]:=jU (by omega);refine⟨?_,hQ a w ⟨st,h,hin⟩⟩;cases hr:Region.ready .any all listed with
  |nil=>rfl
  |cons i r=>
   have:i∈Region.ready .any all listed:=by rw[hr];simp
   obtain⟨rem',_,hlt,_⟩:=hl.step (P:=P) this;simp at hlt
 |fuel+1,listed,rem,st,a,w,hlen,hl,hlow,h,hin=>by
  refine⟨fun hr=>?_,fun i hi=>?_⟩
  ·obtain rfl:=hl.none hlow hr;exact hQ a w ⟨st,h,hin⟩
  ·obtain⟨rem',hl',hlt,hb⟩:=hl.step hi;obtain⟨o,ho,hg⟩:=hb st K h;refine wpOp_mono ?_ (zR (i:=i) ho hPQ (Hm hg) hin);rintro a' w' ⟨st',h',hin'⟩;exact Wj hPQ hQ fuel _ rem' st' a' w' (by omega) hl' (fun k o hk ed hed hb=>⟨(hlow k o hk ed hed hb).1,(hlow k o hk ed hed hb).2.imp id TK⟩) h' hin'
def Oy (o:Oper):Bool:=match o.op with
 | .call { callee:=.builtin .append,args:=_,argTypes:=_ }=>true
 |_=>false
def Do (o:Oper):Bool:=decide (kd o≠ .eff)||Oy o
def DB {o:Oper} (h:Do o=true) (hk:kd o= .eff):Oy o=true:=by
 unfold Do at h;simpa[hk] using h
def RK {s:aL} {a:Option Addr} {n cap:Nat} {cs cs':List V} {e:TypeId} {sz:Nat} (h:Pe s a n cap cs e sz) (h':Pe s a n cap cs' e sz):cs=cs':=by
 rcases h with⟨h1,_,_,h4⟩|⟨b,h1,h2,_⟩
 ·rcases h' with⟨_,_,_,k4⟩|⟨b',k1,_⟩
  ·rw[h4,k4]
  ·rw[h1] at k1;cases k1
 ·rcases h' with⟨k1,_⟩|⟨b',k1,k2,_⟩
  ·rw[h1] at k1;cases k1
  ·rw[h1] at k1;cases k1;rw[h2] at k2;cases k2;rfl
def WB {o:Oper} {e:TypeId} {de:iC} {xs:List (List V)} {v:Value} {st:St} {K1 K2:St->Prop} (h1:zW o e de xs v st K1) (h2:zW o e de xs v st K2):zW o e de xs v st fun st'=>K1 st'∧K2 st':=by
 unfold zW at h1 h2 ⊢;cases v<;>simp only at h1 h2 ⊢
 split
 ·rename_i hx;rw[if_pos hx] at h1 h2;exact⟨h1.1,h1.2,h2.2⟩
 ·rename_i hx;rw[if_neg hx] at h1 h2;obtain⟨a1,a2,cs,a3,a4⟩:=h1;obtain⟨_,_,cs',b3,b4⟩:=h2;obtain rfl:=RK a3 b3;exact⟨a1,a2,cs,a3,fun b' cap' cs' q1 q2 q3 q4 q5=>⟨a4 b' cap' cs' q1 q2 q3 q4 q5,b4 b' cap' cs' q1 q2 q3 q4 q5⟩⟩
def e9 {o:Oper} {args:Array Operand} {ts:Array TypeId} {st:St} {K1 K2:St->Prop} (h1:vC P o args ts st K1) (h2:vC P o args ts st K2):vC P o args ts st fun st'=>K1 st'∧K2 st':=by
 unfold vC at h1 h2 ⊢;split at h1
 ·rename_i t t' x y e1 e2;rw[e1,e2] at h2;simp only at h2 ⊢;refine⟨h1.1,?_⟩;have h1:=h1.2;have h2:=h2.2;cases hd:bT P t with
  |none=>rw[hd] at h1;exact h1.elim
  |some d=>
   rw[hd] at h1 h2;simp only at h1 h2 ⊢;cases hs:d.shape<;>rw[hs] at h1 h2<;>simp only at h1 h2 ⊢
   rename_i e;cases he:bT P e with
   |none=>rw[he] at h1;exact h1.elim
   |some de=>
    rw[he] at h1 h2;simp only at h1 h2 ⊢;refine⟨h1.1,h1.2.1,?_⟩;have h1:=h1.2.2;have h2:=h2.2.2;cases ha:Kx de.size (st.eval y) with
    |none=>rw[ha] at h1;exact h1.elim
    |some xs=>
     rw[ha] at h1 h2;simp only at h1 h2 ⊢;cases hx:st.eval x<;>rw[hx] at h1 h2<;>simp only at h1 h2 ⊢
     all_goals first
      |exact WB h1 h2
      |exact⟨h1.1,h1.2.1,fun g hg=>⟨h1.2.2 g hg,h2.2.2 g hg⟩⟩
      |exact⟨h1.1,h1.2.1,h1.2.2.1,h1.2.2.2.1,fun g hg=>⟨h1.2.2.2.2 g hg,h2.2.2.2.2 g hg⟩⟩
 ·exact h1.elim
def DO {o:Oper} {st:St} {K1 K2:St->Prop} (hk:Do o=true) (h1:gD P o st K1) (h2:gD P o st K2):gD P o st fun st'=>K1 st'∧K2 st':=by
 have hp:lU P o st K1->lU P o st K2->lU P o st fun st'=>K1 st'∧K2 st':=fun h1 h2=>by
  unfold lU at h1 h2 ⊢;split at h1
  ·rename_i hv;rw[hv] at h2;exact⟨h1.1,h1.2.1,h1.2.2,h2.2.2⟩
  ·exact h1.elim
 have hb:∀t cs,oG o t cs st K1->oG o t cs st K2->oG o t cs st fun st'=>K1 st'∧K2 st':=fun t cs h1 h2=>by
  unfold oG at h1 h2 ⊢;split at h1
  ·rename_i hd;rw[hd] at h2;exact⟨h1.1,h1.2.1,h1.2.2,h2.2.2⟩
  ·exact h1.elim
 unfold gD at h1 h2 ⊢;split at h1
 ·rename_i t ho;rw[ho] at h2;simp only at h2 ⊢;cases ht:bT P t with
  |none=>rw[ht] at h1;exact h1.elim
  |some d=>rw[ht] at h1 h2;exact hb _ _ h1 h2
 ·rename_i t x ho;rw[ho] at h2;exact⟨h1.1,hb _ _ h1.2 h2.2⟩
 ·rename_i t x y ho;have:=DB hk (by unfold kd;rw[ho]);unfold Oy at this;rw[ho] at this;cases this
 ·rename_i t x ho;rw[ho] at h2;simp only at h2;unfold vT at h1 h2 ⊢;split at h1
  ·rename_i b off he;rw[he] at h2;simp only at h2;split at h1
   ·rename_i d cs ty hd hbx;rw[hd,hbx] at h2;simp only at h2;split at h1
    ·rename_i v hv;rw[hv] at h2;exact⟨h1.1,h1.2,h2.2⟩
    ·exact h1.elim
   ·exact h1.elim
  ·rename_i hne;split at h2
   ·rename_i b off he;exact absurd he (hne b off)
   ·exact hp h1 h2
 ·rename_i f args ts ho;have:=DB hk (by unfold kd;rw[ho]);unfold Oy at this;rw[ho] at this;cases this
 ·rename_i args ts ho;rw[ho] at h2;exact e9 h1 h2
 ·rename_i n1 n2 n3 n4 n5 n6;split at h2
  ·rename_i e;exact absurd e (n1 _)
  ·rename_i e;exact absurd e (n2 _ _)
  ·rename_i e;exact absurd e (n3 _ _ _)
  ·rename_i e;exact absurd e (n4 _ _)
  ·rename_i e;exact absurd e (n5 _ _ _)
  ·rename_i e;exact absurd e (n6 _ _)
  ·exact hp h1 h2
def OX {all all':Array Oper} {o o':Oper} {st:St} {K1 K2:St->Prop} (hk:Do o=true) (hg:gA all' o' st=gA all o st) (hd:o'.dst=o.dst) (ho:∀K,gD P o' st K->gD P o st K) (h1:gF P all o st K1) (h2:gF P all' o' st K2):gF P all o st fun st'=>K1 st'∧K2 st':=by
 have hdo:fV o' st=fV o st:=by unfold fV;rw[hd]
 unfold gF at h1 h2 ⊢;rw[hg,hdo,hd] at h2;split at h1
 ·rename_i hq;rw[hq] at h2;exact⟨h1.1,DO hk h1.2 (ho _ h2.2)⟩
 ·rename_i hq;rw[hq] at h2;exact⟨h1.1,h1.2,h2.2⟩
 ·rename_i c b hq;rw[hq] at h2;simp only at h2 ⊢;split at h1
  ·rename_i hc;rw[if_pos hc] at h2 ⊢;exact⟨h1.1,DO hk h1.2 (ho _ h2.2)⟩
  ·rename_i hc;rw[if_neg hc] at h2 ⊢;exact⟨h1.1,h1.2,h2.2⟩
 ·exact h1.elim
def AA {ops:Array Oper} {y x:Nat} {o:Oper} {st:St}:gA (fN ops y x) o st=gA ops o st:=by
 have e:∀j:Nat,((fN ops y x)[j]?).bind (fun o:Oper=>o.dst)=(ops[j]?).bind (fun o:Oper=>o.dst):=fun j=>by
  rw[pL];split
  ·cases ops[j]? <;>rfl
  ·rfl
 unfold gA;cases o.guard with
 |none=>rfl
 |some p=>simp only[e]
def aHj {ops:Array Oper} {x y:Nat} (hne:x≠y) (hy:y<ops.size) (hx:x<ops.size) {e:Entry} {Q:Exit->Act->World->Prop} {K:St->Prop} (hPQ:PQ e Q) (hQ:∀a w,jC e K a w->Q .normal a w)
 (hlow:∀(i:Nat) (o:Oper),ops[i]? =some o->∀ed∈o.after,Region.binds .any ed=true->ed.on<i) (hk:∀(i:Nat) (o:Oper),ops[i]? =some o->i≠x->i≠y->Do o=true∨rI (fN ops y x) x i∨rI (fN ops y x) y i):
 ∀(fuel:Nat) (listed:Array Bool) (rem1 rem2:List Nat) (st:St) (a:Act) (w:World),rem1.length<=fuel->rem2.length<=fuel->listed.getD x false=false->listed.getD y false=false->Left (fN ops y x) listed rem1->Left (fN ops x y) listed rem2->
  oJ P (fN ops y x) rem1 st K->oJ P (fN ops x y) rem2 st K->In e st a w->wpAny P .any ops Q fuel listed a w:=by
 have kR:∀(y x:Nat),x<ops.size->∀(listed:Array Bool),listed.getD x false=true->∀(i:Nat) (o:Oper),(fN ops y x)[i]? =some o->∀ed∈o.after,Region.binds .any ed=true->ed.on<(fN ops y x).size∧(ed.on<i∨listed.getD ed.on false=true):=by
  intro y x hx listed hl i o ho ed hed hb;rw[Dx];rw[pL] at ho;split at ho
  ·rename_i e1;cases hq:ops[i]? with
   |none=>rw[hq] at ho;cases ho
   |some o0=>
    rw[hq] at ho;cases ho;have hlt:=(gZ.1 hq).1;simp only[sC,Array.mem_push] at hed;rcases hed with hed|rfl
    ·have:=hlow i o0 hq ed hed hb;exact⟨by omega,.inl this⟩
    ·exact⟨hx,.inr hl⟩
  ·have:=hlow i o ho ed hed hb;have hlt:=(gZ.1 ho).1;exact⟨by omega,.inl this⟩
 have mem:∀{z:Nat} {listed:Array Bool},z<ops.size->listed.size=ops.size->listed.getD z false=false->listed.getD z true=false:=by
  intro z listed hz hs h;rw[iS] at h ⊢;rw[oQ (by omega)] at h ⊢;exact h
 intro fuel
 induction fuel with
 |zero=>
  intro listed rem1 rem2 st a w h1 h2 hlx hly l1 l2 a1 a2 hin;have:x∈rem1:=(l1.hmem x).2 ⟨by rw[Dx];exact hx,mem hx (by rw[l1.hsz,Dx]) hlx⟩;rw[jU (Nat.le_zero.1 h1)] at this;cases this
 |succ fuel ih=>
  intro listed rem1 rem2 st a w h1 h2 hlx hly l1 l2 a1 a2 hin;have hs:listed.size=ops.size:=by rw[l1.hsz,Dx]
  refine⟨fun hr=>?_,fun i hi=>?_⟩
  ·-- x or y is left,so something is ready
   exfalso;have least:∀n,∀i,i<n->i<ops.size->listed.getD i true=false->False:=by
    intro n
    induction n with
    |zero=>intro i hi;omega
    |succ n ihn=>
     intro i hi hsz hl;by_cases hin':i<n
     ·exact ihn i hin' hsz hl
     ·have hready:i∈Region.ready .any ops listed:=by
       refine mem_ready.2 ⟨hl,ops[i],by simp[hsz],fun ed hed hb=>?_⟩;have hlt:=hlow i ops[i] (by simp[hsz]) ed hed hb;cases hq:listed.getD ed.on false with
       |true=>rfl
       |false=>exact(ihn ed.on (by omega) (by omega) (mem (by omega) hs hq)).elim
      rw[hr] at hready;simp at hready
   exact least (x+1) x (by omega) hx (mem hx hs hlx)
  ·have hlt:i<listed.size:=by
    unfold Region.ready at hi;simp only[List.mem_filter,zQ] at hi;omega
   have set1:(listed.setIfInBounds i true).getD i false=true:=by
    rw[iS,Qn hlt];rfl
   have setne:∀z,z≠i->listed.getD z false=false->(listed.setIfInBounds i true).getD z false=false:=fun z hz h=>by
    rw[iS,Me (iE hz),<-iS];exact h
   by_cases ey:i=y
   ·subst ey;obtain⟨rem',hl',hlt',hb⟩:=l2.step (Bm.2 ⟨hi,fun e=>absurd e.symm hne⟩);obtain⟨o,ho,hg⟩:=hb st K a2;rw[<-Ml (y:=x) (x:=i)];refine wpOp_mono ?_ (zR (i:=i) ho hPQ (Hm hg) hin);rintro a' w' ⟨st',h',hin'⟩;exact Qz fuel _ a' w' set1 (Wj hPQ hQ fuel _ rem' st' a' w' (by omega) hl' (kR x i hy _ set1) h' hin')
   ·by_cases ex:i=x
    ·subst ex;obtain⟨rem',hl',hlt',hb⟩:=l1.step (Bm.2 ⟨hi,fun e=>absurd e ey⟩);obtain⟨o,ho,hg⟩:=hb st K a1;rw[<-Ml (y:=y) (x:=i)];refine wpOp_mono ?_ (zR (i:=i) ho hPQ (Hm hg) hin);rintro a' w' ⟨st',h',hin'⟩;exact Qz fuel _ a' w' set1 (Wj hPQ hQ fuel _ rem' st' a' w' (by omega) hl' (kR y i hx _ set1) h' hin')
    ·have r1:i∈Region.ready .any (fN ops y x) listed:=Bm.2 ⟨hi,fun e=>absurd e ey⟩;have r2:i∈Region.ready .any (fN ops x y) listed:=Bm.2 ⟨hi,fun e=>absurd e ex⟩;obtain⟨rem1',l1',hlt1,hb1⟩:=l1.step r1;obtain⟨rem2',l2',hlt2,hb2⟩:=l2.step r2;obtain⟨o1,ho1,hg1⟩:=hb1 st K a1;obtain⟨o2,ho2,hg2⟩:=hb2 st K a2;have q1:ops[i]? =some o1:=by rw[pL,if_neg (iE ey)] at ho1;exact ho1
     have q2:ops[i]? =some o2:=by rw[pL,if_neg (iE ex)] at ho2;exact ho2
     obtain rfl:o1=o2:=eS (q1.symm.trans q2);have hke:Do o1=true:=by
      rcases hk i o1 q1 ex ey with h|h|h
      ·exact h
      ·have:=l1.anc r1 h;rw[hlx] at this;cases this
      ·have:=l1.anc r1 h;rw[hly] at this;cases this
     have hg:=OX hke (by rw[AA,AA]) rfl (fun _ h=>h) hg1 hg2;rw[<-Ml (y:=y) (x:=x)];refine wpOp_mono ?_ (zR (i:=i) ho1 hPQ (Hm hg) hin);rintro a' w' ⟨st',⟨k1,k2⟩,hin'⟩;exact ih _ rem1' rem2' st' a' w' (by omega) (by omega) (setne x (iE ex) hlx) (setne y (iE ey) hly) l1' l2' k1 k2 hin'
def Np (all:Array Oper) (ord:List Nat):Bool:=(List.range all.size).all (ord.contains ·)&&ord.all (fun i=>decide (i<all.size))&&Ii all (Cr all.toList #[]) ord
def Cc (ops:Array Oper) (x y:Nat) (ord1 ord2:List Nat):Bool:=
 decide (x≠y)&&decide (x<ops.size)&&decide (y<ops.size)&&(ops.toList.zipIdx.all fun z=>z.1.after.all fun e=> !Region.binds .any e||decide (e.on<z.2))&&
 (ops.toList.zipIdx.all fun z=>z.2==x||z.2==y||Do z.1||((Cr (fN ops y x).toList #[]).getD z.2 0).testBit x||((Cr (fN ops y x).toList #[]).getD z.2 0).testBit y)&&
 Np (fN ops y x) ord1&&Np (fN ops x y) ord2
def Left.init {all:Array Oper} {ord:List Nat} (h:Np all ord=true):Left all (Array.replicate all.size false) ord∧ord.length<=all.size∧∀i∈ord,i<all.size:=by
 unfold Np at h;simp only[dI,lY,zQ,List.contains_eq_mem,tW] at h;obtain⟨⟨h1,h2⟩,h4⟩:=h;obtain⟨hpw,hnd⟩:=Qq h4;have hrep:∀(i:Nat) (d:Bool),i<all.size->(Array.replicate all.size false).getD i d=false:=fun i d hi=>by
  simp[iS,Gx,hi]
 refine⟨⟨by simp,fun i=>⟨fun hi=>⟨h2 i hi,hrep i true (h2 i hi)⟩,fun⟨hi,_⟩=>h1 i hi⟩,hnd,hpw.imp fun {j i} hji=>?_,fun i o hi ho=>?_⟩,?_,h2⟩
 ·unfold Ny at hji;simp only[Bk] at hji;rcases hji with hb|hb
  ·exact .inl (Hu all all.toList #[] (by simp) (fun i j h=>by simp at h) i j hb)
  ·split at hb
   ·rename_i oj oi k1 k2;exact .inr ⟨oj,oi,k1,k2,hb⟩
   ·cases hb
 ·have hlt:i<all.size:=(gZ.1 ho).1;rw[hrep i false hlt] at hi;cases hi
 ·have hsubset:∀x∈ord,x∈List.range all.size:=fun x hx=>zQ.2 (h2 x hx);simpa using hnd.length_le_of_subset hsubset
def SG {Q:Exit->St->Prop} {st:St} {ops:Array Oper} (x y:Nat) (ord1 ord2:List Nat) (hok:Cc ops x y ord1 ord2=true) (h1:oJ P (fN ops y x) ord1 st (Q .normal)) (h2:oJ P (fN ops x y) ord2 st (Q .normal)) {e:Entry} {a:Act} {w:World} (hin:In e st a w):wpAny P .any ops (fun x a' w'=>jC e (Q x) a' w'∨tT e x a' w') ops.size (Array.replicate ops.size false) a { w with drawn:=w.drawn+1 }:=by
 unfold Cc at hok;simp only[dI,tW] at hok;obtain⟨⟨⟨⟨⟨⟨c1,c2⟩,c3⟩,c4⟩,c5⟩,c6⟩,c7⟩:=hok;obtain⟨l1,n1,_⟩:=Left.init c6;obtain⟨l2,n2,_⟩:=Left.init c7;rw[Dx] at l1 l2 n1 n2;have hin':In e st a { w with drawn:=w.drawn+1 }:=by
  obtain⟨G,be,hx,hr⟩:=hin;exact⟨G,be,hx.trans (dD.more (dP.drew w)),hr.more (dP.drew w)⟩
 have hrep:∀(i:Nat) (d:Bool),i<ops.size->(Array.replicate ops.size false).getD i d=false:=fun i d hi=>by
  simp[iS,Gx,hi]
 refine aHj (K:=Q .normal) c1 c3 c2 vE (fun a w h=>.inl h) ?_ ?_ ops.size _ ord1 ord2 st a _ n1 n2 (hrep x false c2) (hrep y false c3) l1 l2 h1 h2 hin'
 ·intro i o ho ed hed hb;have:=lY.1 c4 (o,i) (by
   rw[List.mem_zipIdx_iff_getElem?];simpa using ho)
  simp only[Array.all_eq_true_iff_forall_mem,Bk,qR,tW] at this;rcases this ed hed with q|q
  ·rw[hb] at q;cases q
  ·exact q
 ·intro i o ho hix hiy;have:=lY.1 c5 (o,i) (by
   rw[List.mem_zipIdx_iff_getElem?];simpa using ho)
  simp only[Bk,eM,tW] at this;rcases this with(((q|q)|q)|q)|q
  ·exact absurd q hix
  ·exact absurd q hiy
  ·exact .inl q
  ·exact .inr (.inl (Hu _ _ #[] (by simp) (fun i j h=>by simp at h) i x q))
  ·exact .inr (.inr (Hu _ _ #[] (by simp) (fun i j h=>by simp at h) i y q))
def aB.KI {Q:Exit->St->Prop} {st:St} {id:Nat} {ops:Array Oper} (hm:P.follows .mixedOrders=true) (x y:Nat) (ord1 ord2:List Nat) (hok:Cc ops x y ord1 ord2=true) (h1:oJ P (fN ops y x) ord1 st (Q .normal)) (h2:oJ P (fN ops x y) ord2 st (Q .normal)):aB P (.region id ops true) Q st:=fun e a w hin=>wp_region_any hm (SG x y ord1 ord2 hok h1 h2 hin)
def aB.KH {Q:Exit->St->Prop} {st:St} {id:Nat} {ops:Array Oper} (hm:P.follows .mixedOrders=true) (x y:Nat) (ord1 ord2:List Nat) (hok:Cc ops x y ord1 ord2=true) (A:List Nat) (hA1:eF (fN ops y x)=A) (hA2:eF (fN ops x y)=A)
 (h1:∀K:St->Prop,(∀st,Q .normal st->K st)->mH P (fN ops y x) A (ord1.filterMap ((fN ops y x)[·]?)) st K) (h2:∀K:St->Prop,(∀st,Q .normal st->K st)->mH P (fN ops x y) A (ord2.filterMap ((fN ops x y)[·]?)) st K):aB P (.region id ops true) Q st:=by
 have hok':=hok;unfold Cc at hok';simp only[dI,tW] at hok';refine aB.KI hm x y ord1 ord2 hok (Cf ord1 (Left.init hok'.1.2).2.2 st _ ?_) (Cf ord2 (Left.init hok'.2).2.2 st _ ?_)
 ·rw[hA1];exact h1 _ fun _ h=>h
 ·rw[hA2];exact h2 _ fun _ h=>h
end
section
variable {P:Program}
inductive PX (β α:Type) where
 |ok (a:α)
 |bad (b:β)
def bK {α β γ δ:Type} (x:Option (PX β α)) (g:β->δ) (f:α->Option (PX δ γ)):Option (PX δ γ):=x.bind fun y=>match y with| .ok y=>f y| .bad b=>some (.bad (g b))
def Hq {α β γ δ:Type} {x:Option (PX β α)} {g:β->δ} {f:α->Option (PX δ γ)} {r:PX δ γ} (h:bK x g f=some r):∃y,x=some y∧((∃z,y= .ok z∧f z=some r)∨∃b,y= .bad b∧r= .bad (g b)):=by
 unfold bK at h;obtain⟨y,hy,h⟩:=Qo.1 h;cases y with
 |ok z=>exact⟨_,hy,.inl ⟨z,rfl,h⟩⟩
 |bad b=>exact⟨_,hy,.inr ⟨b,rfl,(eS h).symm⟩⟩
def qU (t:TypeId) (n:Int):Value:=.iface t (.agg #[.int .i64 n])
def yN {B R:Type} (P:Program) (f:FuncId) (a:Nat->List V) (pv:Int->Value) (r:PX (Int×B) R) (v:R->V) (X:List V×TypeId) (Xb:Int×B->List V×TypeId) (Xa:R->List V×TypeId):Prop:=
 ∀s b,s.box b=some X->gM P f (a b) s (fun p s'=>∃q,r= .bad q∧p=pv q.1∧s'=s.aU b (Xb q)) fun v' s'=>∃y,r= .ok y∧v'=v y∧s'=s.aU b (Xa y)
def Tc {B R:Type} (P:Program) (f:FuncId) (a:Nat->Nat->List V) (pv:Int->Value) (r:PX (Int×B) R) (v:R->V) (X Y:List V×TypeId) (Xb Yb:Int×B->List V×TypeId) (Xa Ya:R->List V×TypeId):Prop:=
 ∀s b c,b≠c->s.box b=some X->s.box c=some Y->gM P f (a b c) s (fun p s'=>∃q,r= .bad q∧p=pv q.1∧s'=(s.aU b (Xb q)).aU c (Yb q)) fun v' s'=>∃y,r= .ok y∧v'=v y∧s'=(s.aU b (Xa y)).aU c (Ya y)
def gS {B R:Type} {f:FuncId} {a:Nat->List V} {pv:Int->Value} {r:PX (Int×B) R} {v:R->V} {X:List V×TypeId} {Xb:Int×B->List V×TypeId} {Xa:R->List V×TypeId}
 (h:∀(s:aL) b (pp:Value->aL->Prop),(∀q,r= .bad q->pp (pv q.1) (s.aU b (Xb q)))->gM P f (a b) (s.aU b X) pp fun v' s'=>∃y,r= .ok y∧v'=v y∧s'=s.aU b (Xa y)):yN P f a pv r v X Xb Xa:=fun s b hb=>by
 have:=h s b (fun p s'=>∃q,r= .bad q∧p=pv q.1∧s'=s.aU b (Xb q)) (fun q hq=>⟨q,hq,rfl,rfl⟩);rwa[Mm hb] at this
def OY {B R:Type} {f:FuncId} {a:Nat->Nat->List V} {pv:Int->Value} {r:PX (Int×B) R} {v:R->V} {X Y:List V×TypeId} {Xb Yb:Int×B->List V×TypeId} {Xa Ya:R->List V×TypeId}
 (h:∀(s:aL) b c (pp:Value->aL->Prop),b≠c->(∀q,r= .bad q->pp (pv q.1) ((s.aU b (Xb q)).aU c (Yb q)))->gM P f (a b c) ((s.aU b X).aU c Y) pp fun v' s'=>∃y,r= .ok y∧v'=v y∧s'=(s.aU b (Xa y)).aU c (Ya y)):Tc P f a pv r v X Y Xb Yb Xa Ya:=fun s b c hne hb hc=>by
 have:=h s b c (fun p s'=>∃q,r= .bad q∧p=pv q.1∧s'=(s.aU b (Xb q)).aU c (Yb q)) hne (fun q hq=>⟨q,hq,rfl,rfl⟩);rwa[Mm hb,Mm hc] at this
def mY.goNew {f:FuncId} {args:List V} {s:aL} {v:Nat->V} {X:List V×TypeId} {PP:Value->aL->Prop} {R:V->aL->Prop} (h:mY P f args s fun v' s'=>∃b,s.box b=none∧v'=v b∧s'=s.aU b X) (hr:∀b,s.box b=none->R (v b) (s.aU b X)):gM P f args s PP R:=
 (h.mono fun v' s' ⟨b,hb,hv,hs⟩=>by rw[hv,hs];exact hr b hb).toP
def GG (ops:Array Oper) (o:Oper) (x:Operand) (st':St):Prop:=(match gA ops o st' with| .always=>True| .test c b=>c=b|_=>False)∧st'.ds=[]∧∃t v s',st'.eval x= .base (.iface t v)∧st'.s.le s'∧st'.pp (.iface t v) s'
def aB.regPan {Q:Exit->St->Prop} {st:St} {id:Nat} {ops:Array Oper} (j:Nat) {o:Oper} {x:Operand} (hj:ops[j]? =some o) (ho:o.op= .panic x) (hnd:oS ops=true)
 (h:gK P ops (ops.toList.take j) st (GG ops o x)):aB P (.region id ops false) Q st:=by
 refine fun e a w hin=>(wpIn_wide (n:=0)).1 (wpIn_region ?_);have hlt:j<ops.size:=(gZ.1 hj).1;have hsplit:List.range ops.size=List.range' 0 j++(j::List.range' (j+1) (ops.size-(j+1))):=by
  have h0:=@List.range'_append_1 0 j (ops.size-(j+1)+1);rw[kH,show j+(ops.size-(j+1)+1)=ops.size by omega] at h0;rw[Bg,<-Hg,h0]
 rw[hsplit];refine vK (.inl rfl) hnd (e:=e) (K:=GG ops o x) vE (fun a1 w1 hth=>?_) j 0 (by omega) st a w (by simpa using h) hin;obtain⟨st1,⟨hg,hds,t,v,s',hx,hle,hpp⟩,hin1⟩:=hth;obtain⟨g1,g2,g3⟩:=Dy (all:=ops) (o:=o) hin1;have hw:Region.wanted o (yielded ops a1.tmps)=true:=by
  split at hg
  ·rename_i hgd;exact g1 hgd
  ·rename_i c b hgd;rw[g3 c b hgd];simpa using hg
  ·exact hg.elim
 refine Hj hj ?_;unfold sS;rw[if_pos hw];refine Ji (.inl rfl) ?_ (Hp hnd hj);obtain⟨G,be,hx1,hr⟩:=hin1;have hv:=gT hr hx;have hrun:(execOp a1.eval o).run P w1= .halt (.panic (.iface t v)) w1:=by
  unfold execOp;simp only[ho,hv];rfl
 unfold Oper.wp;rw[hrun];exact .inr ⟨_,G,s',rfl,by rw[hr.df.eq,hds];rfl,hx1.weaken hle,hr.hr.weaken hle,(show st1.pp=e.pp from hr.df.pp) ▸ hpp⟩
end
end Go.Am
namespace Go.Proofs.YtlfbdcfnimnhiaaGreatDoor.Ex
open Go.Am Go.Ex
abbrev RX (α:Type):=Option (PX (Int×aD) (α×aD))
abbrev vz (v:aH):Bool:=(v.kind==0)&&((v.int==0)&&(v.text.data.toList==bO.data.toList))
def uD (m0:aD):Option (PX (Int×aD) aD):=some (.bad (m0.at_,m0))
def Ah (m0:aD) (r:PX (Int×aD) aD) (h:uD m0=some r):yN prog 136 (fun b0=>[.ptr b0 0]) (qU 149) r (fun y=>.tuple []) (rB m0) (fun q=>(rB q.2)) (fun y=>(rB y)):=by
 obtain rfl:=eS h;refine gS fun s b0 pp hpp=>?_;refine Zd (fn:=f136) func136 rfl (by decide) (by show 1<=8;decide) ?_;rw[ntmps136];refine aB.regPan 6 rfl rfl (by decide+kernel) ?_;simp only[aD.vs,kQ,Pg,Om,dJ,am,seval,reduceCtorEq];refine⟨?_,rfl,149,_,_,?_,aL.le.refl _,hpp _ rfl⟩
 ·simp only[gA,am,seval,reduceCtorEq]
 ·simp only[qU,am,seval,reduceCtorEq]
end Go.Proofs.YtlfbdcfnimnhiaaGreatDoor.Ex
namespace Go.Am
section
variable {P:Program} {Q:Exit->St->Prop} {st:St}
def PZ:undef= .tuple #[]:=rfl
def pY (v w:V):Prop:=v=w∨(Ux v=false∧Wk v w)
def pY.same {v:V}:pY v v=True:=eq_true (.inl rfl)
def gR (x y:Option (List V×TypeId)):Prop:=x=y∨∃cs cs' ty,x=some (cs,ty)∧y=some (cs',ty)∧iX cs cs'
def gR.refl (x:Option (List V×TypeId)):gR x x:=.inl rfl
def gR.none {x y:Option (List V×TypeId)} (h:gR x y):x=none↔y=none:=by
 rcases h with e|⟨cs,cs',ty,e1,e2,_⟩
 ·rw[e]
 ·rw[e1,e2];simp
def In.wkEs {e:Entry} {a:Act} {w:World} (h:In e st a w) (E':Nat->V) (hE:∀t,pY (st.E t) (E' t)):In e { st with E:=E' } a w:=by
 obtain⟨G,be,hx,hr⟩:=h;refine⟨G,be,hx,hr.hr,hr.n,hr.df,fun t'=>?_,hr.loc,hr.inj⟩;show eE G be st.loc (E' t') _;rcases hE t' with e|⟨h1,hw⟩
 ·rw[<-e];exact hr.tmps t'
 ·exact eE.kF (hw _ _ ((hr.tmps t').rep (BP h1)))
def In.wkBs {e:Entry} {a:Act} {w:World} (h:In e st a w) (L':Nat->Option (List V×TypeId)) (hB:∀t,gR (st.loc t) (L' t)):In e { st with loc:=L' } a w:=by
 obtain⟨G,be,hx,hr⟩:=h;have hne:∀t0,L' t0≠none->st.loc t0≠none:=fun t0 h e=>h ((hB t0).none.1 e);have hne':∀t0,st.loc t0≠none->L' t0≠none:=fun t0 h e=>h ((hB t0).none.2 e);refine⟨G,be,hx,hr.hr,hr.n,hr.df,fun t'=>?_,fun t' cs1 zI ht=>?_,fun t1 t2 b k1 k2=>hr.inj t1 t2 b (hne _ k1) (hne _ k2)⟩
 ·have:=hr.tmps t';show eE G be _ (st.E t') _;cases hv:st.E t'<;>rw[hv] at this<;>first|exact this|skip
  exact⟨hne' _ this.1,this.2⟩
 ·change L' t'=_ at ht;rcases hB t' with e|⟨cs,cs',ty,e1,e2,hw⟩
  ·exact hr.loc t' cs1 zI (e.trans ht)
  ·rw[e2] at ht;cases ht
   obtain⟨b,k1,k2,⟨ccs,k3,k4,k5⟩,k6⟩:=hr.loc t' cs _ e1;exact⟨b,k1,k2,⟨ccs,k3,hw.rep k4,k5⟩,k6⟩
def DG {G:bC} {s s':aL} (hb:∀b,gR (s.box b) (s'.box b)) (ho:s'.own=s.own) {b:Nat}:dL G s' b↔dL G s b:=by
 unfold dL;rw[ho];have:=(hb b).none;constructor
 ·rintro(h|h)
  ·exact .inl fun e=>h (this.1 e)
  ·exact .inr h
 ·rintro(h|h)
  ·exact .inl fun e=>h (this.2 e)
  ·exact .inr h
def cS.Ql {G:bC} {s s':aL} {w:World} (h:cS G s w) (hb:∀b,gR (s.box b) (s'.box b)) (ho:s'.own=s.own):cS G s' w where
 dO:=h.dO
 box:=fun b cs1 zI h1=>by
  rcases hb b with e|⟨cs,cs',ty,e1,e2,hw⟩
  ·exact h.box b cs1 zI (e.trans h1)
  ·rw[e2] at h1;cases h1
   obtain⟨ccs,k1,k2,k3⟩:=h.box b cs _ e1;exact⟨ccs,k1,hw.rep k2,k3⟩
 own:=by rw[ho];exact h.own
 sep:=by rw[ho];exact h.sep
 nobox:=fun g x v b k1 k2 k3=>by
  rw[ho] at k1;exact(hb b).none.1 (h.nobox g x v b k1 k2 k3)
 fin:=by rw[ho];exact h.fin
 ob:=h.ob
 tab:=h.tab
 siz:=h.siz
def In.Ql {e:Entry} {a:Act} {w:World} (h:In e st a w) (s':aL) (hb:∀b,gR (st.s.box b) (s'.box b)) (ho:s'.own=st.s.own):In e { st with s:=s' } a w:=by
 obtain⟨G,be,hx,hr⟩:=h;have hf:∀b',dL G s' b'->dL G st.s b':=fun b'=>(DG hb ho).1;refine⟨G,be,{ hx with dL:=fun b' hb'=>hx.dL b' (hf b' hb'),keys:=fun g hg=>hx.keys g (by rw[<-ho];exact hg) },hr.hr.Ql hb ho,hr.n,hr.df,hr.tmps,fun t cs1 zI ht=>?_,hr.inj⟩;obtain⟨b',k1,k2,k3,k4,k5⟩:=hr.loc t cs1 zI ht;exact⟨b',k1,k2,k3,k4,fun hh=>k5 (hf b' hh)⟩
structure aL.fC (s s':aL):Prop where
 box:∀b,gR (s.box b) (s'.box b)∨s'.box b=none
 own:∀g,s'.own g=s.own g∨s'.own g=none
def aL.le.W {s s':aL} (h:s.le s'):s.fC s':=⟨fun b=>(h.box b).imp (fun e=>.inl e.symm) id,h.own⟩
def In.fC {e:Entry} {a:Act} {w:World} (h:In e st a w) {s':aL} (hs:st.s.fC s'):In e { st with s:=s' } a w:=by
 classical
 have h1:=h.Ql { box:=fun b=>if gR (st.s.box b) (s'.box b) then s'.box b else st.s.box b,own:=st.s.own } (fun b=>by
  show gR _ (if _ then _ else _);split
  ·assumption
  ·exact .inl rfl) rfl
 refine h1.weaken ⟨fun _=>.inl rfl,fun _=>.inl rfl,fun b=>?_,hs.own,rfl,rfl,bC.Le.refl _,rfl⟩;show s'.box b=(if _ then _ else _)∨_;split
 ·exact .inl rfl
 ·rename_i hn;exact .inr ((hs.box b).resolve_left hn)
def DA {s s':aL} (h:s.fC s'):∃m:aL,(∀b,gR (s.box b) (m.box b))∧m.own=s.own∧m.le s':=by
 classical
 refine⟨{ box:=fun b=>if gR (s.box b) (s'.box b) then s'.box b else s.box b,own:=s.own },fun b=>?_,rfl,fun b=>?_,h.own⟩
 ·show gR _ (if _ then _ else _);split
  ·assumption
  ·exact .inl rfl
 ·show s'.box b=(if _ then _ else _)∨_;split
  ·exact .inl rfl
  ·rename_i hn;exact .inr ((h.box b).resolve_left hn)
def cS.Wz {G:bC} {s s':aL} {w:World} (h:cS G s w) (hs:s.fC s'):cS G s' w:=by
 obtain⟨m,h1,h2,h3⟩:=DA hs;exact(h.Ql h1 h2).weaken h3
def dD.Wz {G G':bC} {s s' s'':aL} {w w':World} (h:dD G s w G' s' w') (hs:s'.fC s''):dD G s w G' s'' w':=by
 obtain⟨m,h1,h2,h3⟩:=DA hs;have:dD G s w G' m w':={ h with dL:=fun b hb=>h.dL b ((DG h1 h2).1 hb),keys:=fun g hg=>h.keys g (by rw[<-h2];exact hg) };exact this.weaken h3
def gM.KL {f:FuncId} {args:List V} {s:aL} {PP PP':Value->aL->Prop} {R R':V->aL->Prop} (h:gM P f args s PP R) (hp:∀v s',PP v s'->∃s'',s'.fC s''∧PP' v s'') (hr:∀v s',R v s'->R' v s'):gM P f args s PP' R':=
 ⟨h.1,fun G w cargs h1 h2=>(h.2 G w cargs h1 h2).mono fun e w' h=>by
  rcases h with⟨G',s',v,cv,he,hv,hx,hh,r⟩|⟨G',s',v,he,hx,hh,r⟩
  ·exact .inl ⟨G',s',v,cv,he,hv,hx,hh,hr v s' r⟩
  ·obtain⟨s'',hle,r'⟩:=hp v s' r;exact .inr ⟨G',s'',v,he,hx.Wz hle,hh.Wz hle,r'⟩⟩
def St.to.fC {s':aL} (hs:st.s.fC s'):st.to { st with s:=s' }:=fun _ _ _ hin=>hin.fC hs
def aB.fC {c:Code} {s':aL} (hs:st.s.fC s') (h:aB P c Q { st with s:=s' }):aB P c Q st:=h.to (St.to.fC hs)
def tJ:List (Nat×V)->(Nat->V)->Prop
 |[],_=>True
 |(k,v)::r,g=>pY (g k) v∧tJ r g
def tK:List (Nat×(List V×TypeId))->(Nat->Option (List V×TypeId))->Prop
 |[],_=>True
 |(k,x)::r,g=>gR (g k) (some x)∧tK r g
def gR.same {x:Option (List V×TypeId)}:gR x x=True:=eq_true (.inl rfl)
def DI {g:Nat->V}:∀{L:List (Nat×V)},tJ L g->∀t,pY (g t) (nT L t)∨nT L t= .any
 |[],_,t=>.inr rfl
 |(k,v)::r,⟨h1,h2⟩,t=>by
  by_cases e:t=k
  ·subst e;exact .inl (by simp only[nT,eL];exact h1)
  ·simp only[nT,dA _ _ _ _ e];exact DI h2 t
def BM {g:Nat->Option (List V×TypeId)}:∀{B:List (Nat×(List V×TypeId))},tK B g->∀t,gR (g t) (lX B t)∨lX B t=none
 |[],_,t=>.inr rfl
 |(k,v)::r,⟨h1,h2⟩,t=>by
  by_cases e:t=k
  ·subst e;exact .inl (by simp only[lX,eL];exact h1)
  ·simp only[lX,dA _ _ _ _ e];exact BM h2 t
def Ir {pp:Value->aL->Prop} {L:List (Nat×V)} {B:List (Nat×(List V×TypeId))} {s:aL} {n:Nat} (h1:tJ L st.E) (h2:gB B L) (h3:tK B st.loc) (h4:st.s.fC s) (h5:n=st.n) (h6:st.ds=[]) (h7:st.pp=pp):st.to { E:=nT L,loc:=lX B,s:=s,n:=n,pp:=pp }:=fun e a w hin=>by
 classical
 have i1:=hin.wkEs (fun t=>if pY (st.E t) (nT L t) then nT L t else st.E t) (fun t=>by
  show pY _ (if _ then _ else _);split
  ·assumption
  ·exact .inl rfl)
 have i2:=i1.wkBs (fun t=>if gR (st.loc t) (lX B t) then lX B t else st.loc t) (fun t=>by
  show gR _ (if _ then _ else _);split
  ·assumption
  ·exact .inl rfl)
 have i3:=i2.fC h4;refine i3.weaken ⟨fun t=>?_,fun t=>?_,fun b=>.inl rfl,fun g=>.inl rfl,h5,h6.symm,bC.none_le _,h7.symm⟩
 ·show nT L t=(if _ then _ else _)∨_;split
  ·exact .inl rfl
  ·rename_i hn;exact .inr ((DI h1 t).resolve_left hn)
 ·show lX B t=(if _ then _ else _)∨_;split
  ·exact .inl rfl
  ·rename_i hn;have e:=(BM h3 t).resolve_left hn;exact .inr ⟨e,fun t' off h=>El h2 t' t off h e⟩
def HR {X α:Type} (k:X->Option α) (r:α) (T:X->St) (st':St):Prop:=∃q,k q=some r∧st'.to (T q)
def jn {X α:Type} {x y:Code} {b:(X->Option α)->Option α} {k:X->Option α} {r:α} (h:join b k=some r) (T:X->St)
 (hx:∀k':X->Option α,b k'=some r->aB P x (qI (HR k' r T) Q) st)
 (hy:∀q,k q=some r->aB P y Q (T q)):aB P (.seq x y) Q st:=
 aB.seq ((hx k h).mono fun e st' h=>by
  cases e<;>first|exact h|skip
  obtain⟨q,hq,hle⟩:=h;exact(hy q hq).to hle)
def lp {X α:Type} {c:Code} {b:(X->Option α)->X->Option α} {n:Nat} {q0:X} {r:α} (h:cF b n q0=some r) (T:X->St)
 (h0:st.to (T q0)) (round:∀(k:X->Option α) q,b k q=some r->aB P c (qI (HR k r T) Q) (T q)):aB P (.loop c) Q st:=by
 refine aB.loop (fun m st=>∃q,cF b m q=some r∧st.to (T q)) n ⟨q0,h,h0⟩ ?_;rintro m st1 ⟨q,hq,hle⟩;cases m with
 |zero=>cases hq
 |succ m=>
  refine(aB.to hle (round (cF b m) q hq)).mono fun e st' h=>?_;cases e<;>first|exact h|skip
  obtain⟨q',hq',hle'⟩:=h;exact⟨m,Nat.lt_succ_self m,q',hq',hle'⟩
def wy {α:Type} {b:Bool} {A B:Option α} {r:α} {G:Prop} (h:aE b A B=some r) (h1:b=true->A=some r->G) (h2:b=false->B=some r->G):G:=by
 cases b
 ·exact h2 rfl (Ug rfl h)
 ·exact h1 rfl (Uf rfl h)
def ac {f:FuncId} {fn:Func} {c:Code} {args:List V} {s:aL} {R:V->aL->Prop} {n:Nat} (hf:P.funcs[f]? =some fn) (hn:fn.ntmps=n) (h:aB P c (fun e st=>∃st',st.to st'∧Gc P fn R e st') { E:=uF args,loc:=fun _=>none,s:=s,n:=n }) (hb:fn.body=some c:=by rfl) (hm:(fn.name == "runtime.NumGoroutine")=false:=by decide) (hl:Nat.ble args.length n=true:=by rfl):mY P f args s R:=
 Hw hf hb hm (by rw[hn];exact Nat.le_of_ble_eq_true hl) (by rw[hn];exact aB.post h)
def gN {f:FuncId} {fn:Func} {c:Code} {args:List V} {s:aL} {PP:Value->aL->Prop} {R:V->aL->Prop} {n:Nat} (hf:P.funcs[f]? =some fn) (hn:fn.ntmps=n) (h:aB P c (fun e st=>∃st',st.to st'∧Gc P fn R e st') { E:=uF args,loc:=fun _=>none,s:=s,n:=n,pp:=PP }) (hb:fn.body=some c:=by rfl) (hm:(fn.name == "runtime.NumGoroutine")=false:=by decide) (hl:Nat.ble args.length n=true:=by rfl):gM P f args s PP R:=
 Zd hf hb hm (by rw[hn];exact Nat.le_of_ble_eq_true hl) (by rw[hn];exact aB.post h)
def Bp {s:aL}:∀l:List ResultVar,dC P { st with s:=s } l=dC P st l:=fun l=>by
 induction l with
 |nil=>rfl
 |cons x l ih=>cases x<;>simp only[dC,ih]<;>rfl
def rZ {α β γ δ:Type} {x:Option (PX β α)} {g:β->δ} {k:α->Option (PX δ γ)} {r:PX δ γ} (h:bK x g k=some r) {f:FuncId} {args:List V} {s:aL} {pv:β->Value} {ve:α->V} {S:β->aL} {T:α->aL} {PP:Value->aL->Prop} {R:V->aL->Prop}
 (hc:∀y,x=some y->gM P f args s (fun p s'=>∃q,y= .bad q∧p=pv q∧s'=S q) fun v' s'=>∃z,y= .ok z∧v'=ve z∧s'=T z)
 (hb:∀q,r= .bad (g q)->∃s'',(S q).fC s''∧PP (pv q) s'') (hk:∀z,x=some (.ok z)->k z=some r->R (ve z) (T z)):gM P f args s PP R:=by
 obtain⟨y,hy,h⟩:=Hq h;refine(hc y hy).KL ?_ ?_
 ·rintro _ _ ⟨q,rfl,rfl,rfl⟩;rcases h with⟨z,hz,_⟩|⟨b,hb',hr⟩
  ·cases hz
  ·cases hb';exact hb q hr
 ·rintro _ _ ⟨z,rfl,rfl,rfl⟩;rcases h with⟨z',hz,h⟩|⟨b,hb',hr⟩
  ·cases hz;exact hk z hy h
  ·cases hb'
def aGv {n:St->Prop} {Q:Exit->St->Prop} {st:St}:qI n Q .normal st=n st:=rfl
def aGu {n:St->Prop} {Q:Exit->St->Prop} {st:St} {i:Nat}:qI n Q (.exit i) st=Q (.exit i) st:=rfl
def aGt {Q:Exit->St->Prop} {st:St} {i j:Nat}:Ai i Q (.exit j) st=if j=i then Q .normal st else Q (.exit j) st:=rfl
def aGs {Q:Exit->St->Prop} {st:St} {i:Nat}:Ai i Q .normal st=Q .normal st:=rfl
def dR:=ai @aGv<|ai @aGu<|ai @aGt<|ai @aGs<|ai @k28<|ai @k34<|mB
end
end Go.Am
namespace Go.Proofs.YtlfbdcfnimnhiaaGreatDoor.Ex
open Go.Am Go.Ex
section
abbrev GP {R:Type} (f:FuncId) (a:Nat->List V) (r:PX (Int×aD) (R×aD)) (v:R×aD->V) (m:aD):Prop:=yN prog f a (qU 149) r v (rB m) (fun q=>rB q.2) (fun y=>rB y.2)
def SD (t:aA):aA.mk t.op t.not t.table t.name t.n t.v_ t.args t.sub=t:=by cases t;rfl
def SC (t:aX):aX.mk t.expr t.desc_=t:=by cases t;rfl
def xa:=ai am<|ai @wP<|ai PZ<|ai @true_and<|ai @and_true<|ai @decide_true<|ai @fM<|ai @fT<|ai @YT<|ai @YS<|ai @dJ<|ai @cU<|ai @fI<|ai @ne_eq.{1}<|ai eJ<|ai zI<|ai ty2<|ai kQ<|ai Gj<|ai ty5<|ai ty6<|ai ty7<|ai Lz<|ai rH<|ai aGc<|ai aGb<|ai aGa<|ai aF9<|ai aF8<|ai aF7<|ai aF6<|ai aF5<|ai Ft<|ai aF4<|ai HV<|ai aF3<|ai aF2<|ai aF1<|ai vX<|ai Vw<|ai nQ<|ai Kj<|ai aF0<|ai aFz<|ai aFy<|ai aFx<|ai Vv<|ai Vu<|ai Ph<|ai aFw<|ai aFv<|ai aFu<|ai aFt<|ai aFs<|ai aFr<|ai Fs<|ai aFq<|ai aFp<|ai aFo<|ai aFn<|ai aFm<|ai Vt<|ai Vs<|ai Vr<|ai Vq<|ai aFl<|ai aFk<|ai Vp<|ai aFj<|ai aFi<|ai aFh<|ai vW<|ai Pg<|ai aFg<|ai aFf<|ai Fq<|ai aDc<|ai aDb<|ai Uk<|ai aDa<|ai aC9<|ai Uj<|ai aC8<|ai aC7<|ai aC6<|ai aC5<|ai aC4<|ai aC3<|ai aC2<|ai aC1<|ai aC0<|ai aCz<|ai aCy<|ai Jj<|ai Om<|ai aCx<|ai aCw<|ai aCv<|ai aCu<|ai aCt<|ai aCs<|ai aCr<|ai aCq<|ai aCp<|ai aCo<|ai aCn<|ai Ol<|ai aCm<|ai aCl<|ai aCk<|ai aH.vs<|ai aA.vs<|ai aF.vs<|ai bE.vs<|ai aK.vs<|ai aX.vs<|ai bA.vs<|ai aO.vs<|ai aP.vs<|ai aD.vs<|ai cD.vs<|mB
def xm:=ai xa<|ai @List.all_append.{0}<|ai @bH.{0}<|ai @List.length_set.{0}<|ai @bF.{0}<|ai @bS.{0}<|ai @List.append_eq.{0}<|mB
def xs:=ai @yC<|ai @aH.snoc<|ai @aH.lE<|ai @aH.eta<|ai @aA.snoc<|ai @aA.lE<|ai @aA.eta<|ai @aF.snoc<|ai @aF.lE<|ai @aF.eta<|ai @bE.snoc<|ai @bE.lE<|ai @bE.eta<|ai @aK.snoc<|ai @aK.lE<|ai @aK.eta<|ai @aX.snoc<|ai @aX.lE<|ai @aX.eta<|ai @bA.snoc<|ai @bA.lE<|ai @bA.eta<|ai @aO.snoc<|ai @aO.lE<|ai @aO.eta<|ai @aP.snoc<|ai @aP.lE<|ai @aP.eta<|ai @aD.snoc<|ai @aD.lE<|ai @aD.eta<|ai @cD.snoc<|ai @cD.lE<|ai @cD.eta<|ai @SD<|ai @SC<|ai @aDm<|ai @aDk<|ai @aDn<|ai @aDl<|ai @Bh.{0}<|ai @Bi.{0}<|mB
def xe:=ai @aH.aC<|ai @aA.aC<|ai @aF.aC<|ai @bE.aC<|ai @aK.aC<|ai @aX.aC<|ai @bA.aC<|ai @aO.aC<|ai @aP.aC<|ai @aD.aC<|ai @cD.aC<|mB
def sx {G G':Prop} (k:G') (h:G'->G:=by intro z;(try simp only[xm,Nat.reduceAdd,Nat.reduceLeDiff,seval,reduceCtorEq]);exact z):G:=h k
def sF {p G G':Prop} (f:p) (k:G') (h:p->G'->G:=by intro f z;(try simp only[f,xm,Nat.reduceAdd,Nat.reduceLeDiff,seval,reduceCtorEq]);exact z):G:=h f k
def sL {G G':Prop} (k:G') (h:G'->G:=by intro z;(try simp only[eY,Nat.reduceBEq,xm,Nat.reduceAdd,Nat.reduceLeDiff,seval,reduceCtorEq]);exact z):G:=h k
def sG {p G G':Prop} (f:p) (k:G') (h:p->G'->G:=by intro f z;(try simp only[f,eY,Nat.reduceBEq,xm,Nat.reduceAdd,Nat.reduceLeDiff,seval,reduceCtorEq]);exact z):G:=h f k
def sy {G G':Prop} (k:G') (h:G'->G:=by intro z;(try simp only[xs,xa,Nat.reduceAdd,seval,reduceCtorEq]);exact z):G:=h k
def uQ {a b:V} (h:Wk a b:=by(repeat' first|with_reducible exact Wk.refl _|with_reducible exact iX.refl _|exact Wk.nil _|exact Wk.own _ _ _|exact mB|refine Wk.agg ?_|refine Wk.tuple ?_|refine Wk.slice ?_|(simp only[xe,eK,dG,eZ,iY,jP])|refine ai ?_ ?_)):Wk a b:=h
def Gi {a b:List V} (h:iX a b:=by(repeat' first|with_reducible exact Wk.refl _|with_reducible exact iX.refl _|exact Wk.nil _|exact Wk.own _ _ _|exact mB|refine Wk.agg ?_|refine Wk.tuple ?_|refine Wk.slice ?_|(simp only[xe,eK,dG,eZ,iY,jP])|refine ai ?_ ?_)):iX a b:=h
def iI {a b:aL} (h:∀k,gR (a.box k) (b.box k)∨b.box k=none:=by exact fun k=>by simp only[aL.aU,aL.cI,fI,cA,gR.same,true_or]<;>(repeat' split)<;>first|with_reducible exact .inl (gR.refl _)|trivial|(exfalso;omega)|(refine .inr ?_;rw[‹k=_›];assumption)|(refine .inl ?_;simp only[xe];with_reducible exact gR.refl _)|exact .inl (.inr ⟨_,_,_,rfl,rfl,Gi⟩)) (o:∀g,b.own g=a.own g∨b.own g=none:=by exact fun _=>.inl (by rfl)):a.fC b:=⟨h,o⟩
def dV {P:Program} {f:FuncId} {args args':List V} {s:aL} {v:V} {PP:Value->aL->Prop} {R:V->aL->Prop} (c:cG P f args' v) (k:R v s) (hw:iX args args':=by(repeat' first|with_reducible exact Wk.refl _|with_reducible exact iX.refl _|exact Wk.nil _|exact Wk.own _ _ _|exact mB|refine Wk.agg ?_|refine Wk.tuple ?_|refine Wk.slice ?_|(simp only[xe,eK,dG,eZ,iY,jP])|refine ai ?_ ?_)):gM P f args s PP R:=gM.wk hw ((c s).go k)
def jJ {P:Program} {f:FuncId} {a:Nat->List V} {args:List V} {s:aL} {v:V} {X Y:List V×TypeId} {b:Nat} {PP:Value->aL->Prop} {R:V->aL->Prop} (c:sX P f a v X Y) (k:R v (s.aU b Y)) (hw:iX args (a b):=by(repeat' first|with_reducible exact Wk.refl _|with_reducible exact iX.refl _|exact Wk.nil _|exact Wk.own _ _ _|exact mB|refine Wk.agg ?_|refine Wk.tuple ?_|refine Wk.slice ?_|(simp only[xe,eK,dG,eZ,iY,jP])|refine ai ?_ ?_)) (hb:s.box b=some X:=by first|exact dJ|exact(cU (by first|assumption|exact iE (by assumption))).trans dJ|rfl|exact(cU (by first|assumption|exact iE (by assumption))).trans ((cU (by first|assumption|exact iE (by assumption))).trans dJ)|(simp only[dJ,cU,ne_eq,eJ];done)):gM P f args s PP R:=gM.wk hw ((c s b hb).go k)
def Az {P:Program} {f:FuncId} {B D:Type} {a:Nat->List V} {args:List V} {s:aL} {pv:Int->Value} {r:PX (Int×B) D} {v:D->V} {X:List V×TypeId} {Xb:Int×B->List V×TypeId} {Xa:D->List V×TypeId} {b:Nat} (c:yN P f a pv r v X Xb Xa) (hw:iX args (a b):=by(repeat' first|with_reducible exact Wk.refl _|with_reducible exact iX.refl _|exact Wk.nil _|exact Wk.own _ _ _|exact mB|refine Wk.agg ?_|refine Wk.tuple ?_|refine Wk.slice ?_|(simp only[xe,eK,dG,eZ,iY,jP])|refine ai ?_ ?_)) (hb:s.box b=some X:=by first|exact dJ|exact(cU (by first|assumption|exact iE (by assumption))).trans dJ|rfl|exact(cU (by first|assumption|exact iE (by assumption))).trans ((cU (by first|assumption|exact iE (by assumption))).trans dJ)|(simp only[dJ,cU,ne_eq,eJ];done)):gM P f args s (fun p s'=>∃q,r= .bad q∧p=pv q.1∧s'=s.aU b (Xb q)) fun v' s'=>∃y,r= .ok y∧v'=v y∧s'=s.aU b (Xa y):=gM.wk hw (c s b hb)
def Gg {P:Program} {f:FuncId} {B D:Type} {a:Nat->Nat->List V} {args:List V} {s:aL} {pv:Int->Value} {r:PX (Int×B) D} {v:D->V} {X Y:List V×TypeId} {Xb Yb:Int×B->List V×TypeId} {Xa Ya:D->List V×TypeId} {b b':Nat} (c:Tc P f a pv r v X Y Xb Yb Xa Ya) (hw:iX args (a b b'):=by(repeat' first|with_reducible exact Wk.refl _|with_reducible exact iX.refl _|exact Wk.nil _|exact Wk.own _ _ _|exact mB|refine Wk.agg ?_|refine Wk.tuple ?_|refine Wk.slice ?_|(simp only[xe,eK,dG,eZ,iY,jP])|refine ai ?_ ?_)) (hn:b≠b':=by first|assumption|exact iE (by assumption)) (hb:s.box b=some X:=by first|exact dJ|exact(cU (by first|assumption|exact iE (by assumption))).trans dJ|rfl|exact(cU (by first|assumption|exact iE (by assumption))).trans ((cU (by first|assumption|exact iE (by assumption))).trans dJ)|(simp only[dJ,cU,ne_eq,eJ];done)) (hb':s.box b'=some Y:=by first|exact dJ|exact(cU (by first|assumption|exact iE (by assumption))).trans dJ|rfl|exact(cU (by first|assumption|exact iE (by assumption))).trans ((cU (by first|assumption|exact iE (by assumption))).trans dJ)|(simp only[dJ,cU,ne_eq,eJ];done)):gM P f args s (fun p s'=>∃q,r= .bad q∧p=pv q.1∧s'=(s.aU b (Xb q)).aU b' (Yb q)) fun v' s'=>∃y,r= .ok y∧v'=v y∧s'=(s.aU b (Xa y)).aU b' (Ya y):=gM.wk hw (c s b b' hn hb hb')
section
variable {Q:Exit->St->Prop} {st st':St} {id:Nat} {ops:Array Oper} {y:Code} {p q1 q2 q3:Prop}
def rg (k:aB prog y Q st') (h:∀K:St->Prop,K st'->gK prog ops ops.toList st K:=by intro K z;refine sx ?_;exact z):aB prog (.seq (.region id ops false) y) Q st:=aB.eD fun K hK=>h K (hK _ k)
def dH {α β:Type} {x:Option α} {kk:α->Option β} {r:β} {q:α->Prop} {T:α->St} (c:∀y,x=some y->q y) (h:call x kk=some r) (k:∀z,x=some z->kk z=some r->aB prog y Q (T z)) (hh:(∀y,x=some y->q y)->call x kk=some r->∀K:St->Prop,(∀z,x=some z->kk z=some r->K (T z))->gK prog ops ops.toList st K:=by intro c h K z;obtain⟨y,hy,h⟩:=cC h;refine sx ?_;(first|refine dV (c y hy) ?_|refine jJ (c y hy) ?_);refine sx ?_;exact z y hy h):aB prog (.seq (.region id ops false) y) Q st:=aB.eD fun K hK=>hh c h K fun z a b=>hK _ (k z a b)
def Dm {α β γ δ:Type} {x:Option (PX β α)} {g:β->δ} {kk:α->Option (PX δ γ)} {r:PX δ γ} {HP:Prop} {q:PX β α->Prop} {T:α->St} (hpp:HP) (c:∀y,x=some y->q y) (h:bK x g kk=some r) (k:∀z,x=some (.ok z)->kk z=some r->aB prog y Q (T z)) (hh:HP->(∀y,x=some y->q y)->bK x g kk=some r->∀K:St->Prop,(∀z,x=some (.ok z)->kk z=some r->K (T z))->gK prog ops ops.toList st K:=by intro hpp c h K z;refine sx ?_;(first|refine rZ h (fun y hy=>Az (c y hy)) (fun q hq=>⟨_,?_,by first|exact hpp _ hq|exact⟨rfl,hpp _ hq⟩⟩) (fun y hy h=>?_)|refine rZ h (fun y hy=>Gg (c y hy)) (fun q hq=>⟨_,?_,by first|exact hpp _ hq|exact⟨rfl,hpp _ hq⟩⟩) (fun y hy h=>?_));(first|exact(aL.le.refl _).W|exact iI);refine sx ?_;exact z y hy h):aB prog (.seq (.region id ops false) y) Q st:=aB.eD fun K hK=>hh hpp c h K fun z a b=>hK _ (k z a b)
def aGf {α β:Type} {x:Option α} {kk:α->Option β} {r:β} {q:α->Prop} {T:α->St} (c1:q1) (c:∀y,x=some y->q y) (h:call x kk=some r) (k:∀z,x=some z->kk z=some r->aB prog y Q (T z)) (hh:q1->(∀y,x=some y->q y)->call x kk=some r->∀K:St->Prop,(∀z,x=some z->kk z=some r->K (T z))->gK prog ops ops.toList st K:=by intro c1 c h K z;obtain⟨y,hy,h⟩:=cC h;refine sx ?_;(first|refine dV (c1) ?_|refine jJ (c1) ?_);refine sx ?_;(first|refine dV (c y hy) ?_|refine jJ (c y hy) ?_);refine sx ?_;exact z y hy h):aB prog (.seq (.region id ops false) y) Q st:=aB.eD fun K hK=>hh c1 c h K fun z a b=>hK _ (k z a b)
def bG (f:p) (k:aB prog y Q st') (h:p->∀K:St->Prop,K st'->gK prog ops ops.toList st K:=by intro f K z;refine sF f ?_;exact z):aB prog (.seq (.region id ops false) y) Q st:=aB.eD fun K hK=>h f K (hK _ k)
def dN {α β:Type} {x:Option α} {kk:α->Option β} {r:β} {q:α->Prop} {T:α->St} (f:p) (c:∀y,x=some y->q y) (h:call x kk=some r) (k:∀z,x=some z->kk z=some r->aB prog y Q (T z)) (hh:p->(∀y,x=some y->q y)->call x kk=some r->∀K:St->Prop,(∀z,x=some z->kk z=some r->K (T z))->gK prog ops ops.toList st K:=by intro f c h K z;obtain⟨y,hy,h⟩:=cC h;refine sF f ?_;(first|refine dV (c y hy) ?_|refine jJ (c y hy) ?_);refine sF f ?_;exact z y hy h):aB prog (.seq (.region id ops false) y) Q st:=aB.eD fun K hK=>hh f c h K fun z a b=>hK _ (k z a b)
def fK {α β γ δ:Type} {x:Option (PX β α)} {g:β->δ} {kk:α->Option (PX δ γ)} {r:PX δ γ} {HP:Prop} {q:PX β α->Prop} {T:α->St} (f:p) (hpp:HP) (c:∀y,x=some y->q y) (h:bK x g kk=some r) (k:∀z,x=some (.ok z)->kk z=some r->aB prog y Q (T z)) (hh:p->HP->(∀y,x=some y->q y)->bK x g kk=some r->∀K:St->Prop,(∀z,x=some (.ok z)->kk z=some r->K (T z))->gK prog ops ops.toList st K:=by intro f hpp c h K z;refine sF f ?_;(first|refine rZ h (fun y hy=>Az (c y hy)) (fun q hq=>⟨_,?_,by first|exact hpp _ hq|exact⟨rfl,hpp _ hq⟩⟩) (fun y hy h=>?_)|refine rZ h (fun y hy=>Gg (c y hy)) (fun q hq=>⟨_,?_,by first|exact hpp _ hq|exact⟨rfl,hpp _ hq⟩⟩) (fun y hy h=>?_));(first|exact(aL.le.refl _).W|exact iI);refine sF f ?_;exact z y hy h):aB prog (.seq (.region id ops false) y) Q st:=aB.eD fun K hK=>hh f hpp c h K fun z a b=>hK _ (k z a b)
def yW {α β γ δ:Type} {x:Option (PX β α)} {g:β->δ} {kk:α->Option (PX δ γ)} {r:PX δ γ} {HP:Prop} {q:PX β α->Prop} {T:α->St} {u v:aL} (hO:u.le v) (f:p) (hpp:HP) (c:∀y,x=some y->q y) (h:bK x g kk=some r) (k:∀z,x=some (.ok z)->kk z=some r->aB prog y Q (T z)) (hh:u.le v->p->HP->(∀y,x=some y->q y)->bK x g kk=some r->∀K:St->Prop,(∀z,x=some (.ok z)->kk z=some r->K (T z))->gK prog ops ops.toList st K:=by intro hO f hpp c h K z;refine sF f ?_;(first|refine rZ h (fun y hy=>Az (c y hy)) (fun q hq=>⟨_,?_,by first|exact hpp _ hq|exact⟨rfl,hpp _ hq⟩⟩) (fun y hy h=>?_)|refine rZ h (fun y hy=>Gg (c y hy)) (fun q hq=>⟨_,?_,by first|exact hpp _ hq|exact⟨rfl,hpp _ hq⟩⟩) (fun y hy h=>?_));(exact iI (o:=fun g=>hO.own g));refine sF f ?_;exact z y hy h):aB prog (.seq (.region id ops false) y) Q st:=aB.eD fun K hK=>hh hO f hpp c h K fun z a b=>hK _ (k z a b)
def tG (f:p) (c1:q1) (k:aB prog y Q st') (h:p->q1->∀K:St->Prop,K st'->gK prog ops ops.toList st K:=by intro f c1 K z;refine sF f ?_;(first|refine dV (c1) ?_|refine jJ (c1) ?_);refine sF f ?_;exact z):aB prog (.seq (.region id ops false) y) Q st:=aB.eD fun K hK=>h f c1 K (hK _ k)
def r1 (k:Q .normal st') (h:∀K:St->Prop,K st'->gK prog ops ops.toList st K:=by intro K z;refine sx ?_;exact z):aB prog (.region id ops false) Q st:=aB.fW fun K hK=>h K (hK _ k)
def Wo {α β:Type} {x:Option α} {kk:α->Option β} {r:β} {q:α->Prop} {T:α->St} (c:∀y,x=some y->q y) (h:call x kk=some r) (k:∀z,x=some z->kk z=some r->Q .normal (T z)) (hh:(∀y,x=some y->q y)->call x kk=some r->∀K:St->Prop,(∀z,x=some z->kk z=some r->K (T z))->gK prog ops ops.toList st K:=by intro c h K z;obtain⟨y,hy,h⟩:=cC h;refine sx ?_;(first|refine dV (c y hy) ?_|refine jJ (c y hy) ?_);refine sx ?_;exact z y hy h):aB prog (.region id ops false) Q st:=aB.fW fun K hK=>hh c h K fun z a b=>hK _ (k z a b)
def Gm {α β γ δ:Type} {x:Option (PX β α)} {g:β->δ} {kk:α->Option (PX δ γ)} {r:PX δ γ} {HP:Prop} {q:PX β α->Prop} {T:α->St} (hpp:HP) (c:∀y,x=some y->q y) (h:bK x g kk=some r) (k:∀z,x=some (.ok z)->kk z=some r->Q .normal (T z)) (hh:HP->(∀y,x=some y->q y)->bK x g kk=some r->∀K:St->Prop,(∀z,x=some (.ok z)->kk z=some r->K (T z))->gK prog ops ops.toList st K:=by intro hpp c h K z;refine sx ?_;(first|refine rZ h (fun y hy=>Az (c y hy)) (fun q hq=>⟨_,?_,by first|exact hpp _ hq|exact⟨rfl,hpp _ hq⟩⟩) (fun y hy h=>?_)|refine rZ h (fun y hy=>Gg (c y hy)) (fun q hq=>⟨_,?_,by first|exact hpp _ hq|exact⟨rfl,hpp _ hq⟩⟩) (fun y hy h=>?_));(first|exact(aL.le.refl _).W|exact iI);refine sx ?_;exact z y hy h):aB prog (.region id ops false) Q st:=aB.fW fun K hK=>hh hpp c h K fun z a b=>hK _ (k z a b)
def bU (f:p) (k:Q .normal st') (h:p->∀K:St->Prop,K st'->gK prog ops ops.toList st K:=by intro f K z;refine sF f ?_;exact z):aB prog (.region id ops false) Q st:=aB.fW fun K hK=>h f K (hK _ k)
def iA {α β:Type} {x:Option α} {kk:α->Option β} {r:β} {q:α->Prop} {T:α->St} (f:p) (c:∀y,x=some y->q y) (h:call x kk=some r) (k:∀z,x=some z->kk z=some r->Q .normal (T z)) (hh:p->(∀y,x=some y->q y)->call x kk=some r->∀K:St->Prop,(∀z,x=some z->kk z=some r->K (T z))->gK prog ops ops.toList st K:=by intro f c h K z;obtain⟨y,hy,h⟩:=cC h;refine sF f ?_;(first|refine dV (c y hy) ?_|refine jJ (c y hy) ?_);refine sF f ?_;exact z y hy h):aB prog (.region id ops false) Q st:=aB.fW fun K hK=>hh f c h K fun z a b=>hK _ (k z a b)
def tH {α β γ δ:Type} {x:Option (PX β α)} {g:β->δ} {kk:α->Option (PX δ γ)} {r:PX δ γ} {HP:Prop} {q:PX β α->Prop} {T:α->St} (f:p) (hpp:HP) (c:∀y,x=some y->q y) (h:bK x g kk=some r) (k:∀z,x=some (.ok z)->kk z=some r->Q .normal (T z)) (hh:p->HP->(∀y,x=some y->q y)->bK x g kk=some r->∀K:St->Prop,(∀z,x=some (.ok z)->kk z=some r->K (T z))->gK prog ops ops.toList st K:=by intro f hpp c h K z;refine sF f ?_;(first|refine rZ h (fun y hy=>Az (c y hy)) (fun q hq=>⟨_,?_,by first|exact hpp _ hq|exact⟨rfl,hpp _ hq⟩⟩) (fun y hy h=>?_)|refine rZ h (fun y hy=>Gg (c y hy)) (fun q hq=>⟨_,?_,by first|exact hpp _ hq|exact⟨rfl,hpp _ hq⟩⟩) (fun y hy h=>?_));(first|exact(aL.le.refl _).W|exact iI);refine sF f ?_;exact z y hy h):aB prog (.region id ops false) Q st:=aB.fW fun K hK=>hh f hpp c h K fun z a b=>hK _ (k z a b)
def Fb {α β γ δ:Type} {x:Option (PX β α)} {g:β->δ} {kk:α->Option (PX δ γ)} {r:PX δ γ} {HP:Prop} {q:PX β α->Prop} {T:α->St} {u v:aL} (hO:u.le v) (f:p) (hpp:HP) (c:∀y,x=some y->q y) (h:bK x g kk=some r) (k:∀z,x=some (.ok z)->kk z=some r->Q .normal (T z)) (hh:u.le v->p->HP->(∀y,x=some y->q y)->bK x g kk=some r->∀K:St->Prop,(∀z,x=some (.ok z)->kk z=some r->K (T z))->gK prog ops ops.toList st K:=by intro hO f hpp c h K z;refine sF f ?_;(first|refine rZ h (fun y hy=>Az (c y hy)) (fun q hq=>⟨_,?_,by first|exact hpp _ hq|exact⟨rfl,hpp _ hq⟩⟩) (fun y hy h=>?_)|refine rZ h (fun y hy=>Gg (c y hy)) (fun q hq=>⟨_,?_,by first|exact hpp _ hq|exact⟨rfl,hpp _ hq⟩⟩) (fun y hy h=>?_));(exact iI (o:=fun g=>hO.own g));refine sF f ?_;exact z y hy h):aB prog (.region id ops false) Q st:=aB.fW fun K hK=>hh hO f hpp c h K fun z a b=>hK _ (k z a b)
def kO (f:p) (c1:q1) (k:Q .normal st') (h:p->q1->∀K:St->Prop,K st'->gK prog ops ops.toList st K:=by intro f c1 K z;refine sF f ?_;(first|refine dV (c1) ?_|refine jJ (c1) ?_);refine sF f ?_;exact z):aB prog (.region id ops false) Q st:=aB.fW fun K hK=>h f c1 K (hK _ k)
def rC {α β:Type} {x:Option α} {kk:α->Option β} {r:β} {q:α->Prop} {T:α->St} (f:p) (c1:q1) (c:∀y,x=some y->q y) (h:call x kk=some r) (k:∀z,x=some z->kk z=some r->Q .normal (T z)) (hh:p->q1->(∀y,x=some y->q y)->call x kk=some r->∀K:St->Prop,(∀z,x=some z->kk z=some r->K (T z))->gK prog ops ops.toList st K:=by intro f c1 c h K z;obtain⟨y,hy,h⟩:=cC h;refine sF f ?_;(first|refine dV (c1) ?_|refine jJ (c1) ?_);refine sF f ?_;(first|refine dV (c y hy) ?_|refine jJ (c y hy) ?_);refine sF f ?_;exact z y hy h):aB prog (.region id ops false) Q st:=aB.fW fun K hK=>hh f c1 c h K fun z a b=>hK _ (k z a b)
def Fc (f:p) (c1:q1) (c2:q2) (k:Q .normal st') (h:p->q1->q2->∀K:St->Prop,K st'->gK prog ops ops.toList st K:=by intro f c1 c2 K z;refine sF f ?_;(first|refine dV (c1) ?_|refine jJ (c1) ?_);refine sF f ?_;(first|refine dV (c2) ?_|refine jJ (c2) ?_);refine sF f ?_;exact z):aB prog (.region id ops false) Q st:=aB.fW fun K hK=>h f c1 c2 K (hK _ k)
def Iy {α β:Type} {x:Option α} {kk:α->Option β} {r:β} {q:α->Prop} {T:α->St} (f:p) (c1:q1) (c2:q2) (c:∀y,x=some y->q y) (h:call x kk=some r) (k:∀z,x=some z->kk z=some r->Q .normal (T z)) (hh:p->q1->q2->(∀y,x=some y->q y)->call x kk=some r->∀K:St->Prop,(∀z,x=some z->kk z=some r->K (T z))->gK prog ops ops.toList st K:=by intro f c1 c2 c h K z;obtain⟨y,hy,h⟩:=cC h;refine sF f ?_;(first|refine dV (c1) ?_|refine jJ (c1) ?_);refine sF f ?_;(first|refine dV (c2) ?_|refine jJ (c2) ?_);refine sF f ?_;(first|refine dV (c y hy) ?_|refine jJ (c y hy) ?_);refine sF f ?_;exact z y hy h):aB prog (.region id ops false) Q st:=aB.fW fun K hK=>hh f c1 c2 c h K fun z a b=>hK _ (k z a b)
def Au (ord A:List Nat) (f:p) (k:aB prog y Q st') (h:p->∀K:St->Prop,K st'->mH prog ops A (ord.filterMap (ops[·]?)) st K:=by intro f K z;refine sG f ?_;exact z) (h1:nM ops ord=true:=by decide+kernel) (h2:eF ops=A:=by decide+kernel):aB prog (.seq (.region id ops true) y) Q st:=aB.Be mixed ord h1 A h2 fun K hK=>h f K (hK _ k)
def aDq {α β:Type} {x:Option α} {kk:α->Option β} {r:β} {q:α->Prop} {T:α->St} (ord A:List Nat) (f:p) (c:∀y,x=some y->q y) (h:call x kk=some r) (k:∀z,x=some z->kk z=some r->aB prog y Q (T z)) (hh:p->(∀y,x=some y->q y)->call x kk=some r->∀K:St->Prop,(∀z,x=some z->kk z=some r->K (T z))->mH prog ops A (ord.filterMap (ops[·]?)) st K:=by intro f c h K z;obtain⟨y,hy,h⟩:=cC h;refine sG f ?_;(first|refine dV (c y hy) ?_|refine jJ (c y hy) ?_);refine sG f ?_;exact z y hy h) (h1:nM ops ord=true:=by decide+kernel) (h2:eF ops=A:=by decide+kernel):aB prog (.seq (.region id ops true) y) Q st:=aB.Be mixed ord h1 A h2 fun K hK=>hh f c h K fun z a b=>hK _ (k z a b)
def Fa (ord A:List Nat) (f:p) (c1:q1) (k:aB prog y Q st') (h:p->q1->∀K:St->Prop,K st'->mH prog ops A (ord.filterMap (ops[·]?)) st K:=by intro f c1 K z;refine sG f ?_;(first|refine dV (c1) ?_|refine jJ (c1) ?_);refine sG f ?_;exact z) (h1:nM ops ord=true:=by decide+kernel) (h2:eF ops=A:=by decide+kernel):aB prog (.seq (.region id ops true) y) Q st:=aB.Be mixed ord h1 A h2 fun K hK=>h f c1 K (hK _ k)
def z6 {α β:Type} {x:Option α} {kk:α->Option β} {r:β} {q:α->Prop} {T:α->St} (ord A:List Nat) (f:p) (c1:q1) (c:∀y,x=some y->q y) (h:call x kk=some r) (k:∀z,x=some z->kk z=some r->aB prog y Q (T z)) (hh:p->q1->(∀y,x=some y->q y)->call x kk=some r->∀K:St->Prop,(∀z,x=some z->kk z=some r->K (T z))->mH prog ops A (ord.filterMap (ops[·]?)) st K:=by intro f c1 c h K z;obtain⟨y,hy,h⟩:=cC h;refine sG f ?_;(first|refine dV (c1) ?_|refine jJ (c1) ?_);refine sG f ?_;(first|refine dV (c y hy) ?_|refine jJ (c y hy) ?_);refine sG f ?_;exact z y hy h) (h1:nM ops ord=true:=by decide+kernel) (h2:eF ops=A:=by decide+kernel):aB prog (.seq (.region id ops true) y) Q st:=aB.Be mixed ord h1 A h2 fun K hK=>hh f c1 c h K fun z a b=>hK _ (k z a b)
def Iw (ord A:List Nat) (f:p) (c1:q1) (c2:q2) (k:aB prog y Q st') (h:p->q1->q2->∀K:St->Prop,K st'->mH prog ops A (ord.filterMap (ops[·]?)) st K:=by intro f c1 c2 K z;refine sG f ?_;(first|refine dV (c1) ?_|refine jJ (c1) ?_);refine sG f ?_;(first|refine dV (c2) ?_|refine jJ (c2) ?_);refine sG f ?_;exact z) (h1:nM ops ord=true:=by decide+kernel) (h2:eF ops=A:=by decide+kernel):aB prog (.seq (.region id ops true) y) Q st:=aB.Be mixed ord h1 A h2 fun K hK=>h f c1 c2 K (hK _ k)
def XS {α β:Type} {x:Option α} {kk:α->Option β} {r:β} {q:α->Prop} {T:α->St} (ord A:List Nat) (f:p) (c1:q1) (c2:q2) (c:∀y,x=some y->q y) (h:call x kk=some r) (k:∀z,x=some z->kk z=some r->aB prog y Q (T z)) (hh:p->q1->q2->(∀y,x=some y->q y)->call x kk=some r->∀K:St->Prop,(∀z,x=some z->kk z=some r->K (T z))->mH prog ops A (ord.filterMap (ops[·]?)) st K:=by intro f c1 c2 c h K z;obtain⟨y,hy,h⟩:=cC h;refine sG f ?_;(first|refine dV (c1) ?_|refine jJ (c1) ?_);refine sG f ?_;(first|refine dV (c2) ?_|refine jJ (c2) ?_);refine sG f ?_;(first|refine dV (c y hy) ?_|refine jJ (c y hy) ?_);refine sG f ?_;exact z y hy h) (h1:nM ops ord=true:=by decide+kernel) (h2:eF ops=A:=by decide+kernel):aB prog (.seq (.region id ops true) y) Q st:=aB.Be mixed ord h1 A h2 fun K hK=>hh f c1 c2 c h K fun z a b=>hK _ (k z a b)
def xK (ord A:List Nat) (f:p) (k:Q .normal st') (h:p->∀K:St->Prop,K st'->mH prog ops A (ord.filterMap (ops[·]?)) st K:=by intro f K z;refine sG f ?_;exact z) (h1:nM ops ord=true:=by decide+kernel) (h2:eF ops=A:=by decide+kernel):aB prog (.region id ops true) Q st:=aB.Gs mixed ord h1 A h2 fun K hK=>h f K (hK _ k)
def Um {α β:Type} {x:Option α} {kk:α->Option β} {r:β} {q:α->Prop} {T:α->St} (ord A:List Nat) (f:p) (c:∀y,x=some y->q y) (h:call x kk=some r) (k:∀z,x=some z->kk z=some r->Q .normal (T z)) (hh:p->(∀y,x=some y->q y)->call x kk=some r->∀K:St->Prop,(∀z,x=some z->kk z=some r->K (T z))->mH prog ops A (ord.filterMap (ops[·]?)) st K:=by intro f c h K z;obtain⟨y,hy,h⟩:=cC h;refine sG f ?_;(first|refine dV (c y hy) ?_|refine jJ (c y hy) ?_);refine sG f ?_;exact z y hy h) (h1:nM ops ord=true:=by decide+kernel) (h2:eF ops=A:=by decide+kernel):aB prog (.region id ops true) Q st:=aB.Gs mixed ord h1 A h2 fun K hK=>hh f c h K fun z a b=>hK _ (k z a b)
def Cp (ord A:List Nat) (f:p) (c1:q1) (k:Q .normal st') (h:p->q1->∀K:St->Prop,K st'->mH prog ops A (ord.filterMap (ops[·]?)) st K:=by intro f c1 K z;refine sG f ?_;(first|refine dV (c1) ?_|refine jJ (c1) ?_);refine sG f ?_;exact z) (h1:nM ops ord=true:=by decide+kernel) (h2:eF ops=A:=by decide+kernel):aB prog (.region id ops true) Q st:=aB.Gs mixed ord h1 A h2 fun K hK=>h f c1 K (hK _ k)
def EH {α β:Type} {x:Option α} {kk:α->Option β} {r:β} {q:α->Prop} {T:α->St} (ord A:List Nat) (f:p) (c1:q1) (c:∀y,x=some y->q y) (h:call x kk=some r) (k:∀z,x=some z->kk z=some r->Q .normal (T z)) (hh:p->q1->(∀y,x=some y->q y)->call x kk=some r->∀K:St->Prop,(∀z,x=some z->kk z=some r->K (T z))->mH prog ops A (ord.filterMap (ops[·]?)) st K:=by intro f c1 c h K z;obtain⟨y,hy,h⟩:=cC h;refine sG f ?_;(first|refine dV (c1) ?_|refine jJ (c1) ?_);refine sG f ?_;(first|refine dV (c y hy) ?_|refine jJ (c y hy) ?_);refine sG f ?_;exact z y hy h) (h1:nM ops ord=true:=by decide+kernel) (h2:eF ops=A:=by decide+kernel):aB prog (.region id ops true) Q st:=aB.Gs mixed ord h1 A h2 fun K hK=>hh f c1 c h K fun z a b=>hK _ (k z a b)
def aAg (ord A:List Nat) (f:p) (c1:q1) (c2:q2) (k:Q .normal st') (h:p->q1->q2->∀K:St->Prop,K st'->mH prog ops A (ord.filterMap (ops[·]?)) st K:=by intro f c1 c2 K z;refine sG f ?_;(first|refine dV (c1) ?_|refine jJ (c1) ?_);refine sG f ?_;(first|refine dV (c2) ?_|refine jJ (c2) ?_);refine sG f ?_;exact z) (h1:nM ops ord=true:=by decide+kernel) (h2:eF ops=A:=by decide+kernel):aB prog (.region id ops true) Q st:=aB.Gs mixed ord h1 A h2 fun K hK=>h f c1 c2 K (hK _ k)
def wz {α:Type} {c:Operand} {x y:Code} {b:Bool} {A B:Option α} {r:α} (h:aE b A B=some r) (h1:A=some r->aB prog x Q st) (h2:B=some r->aB prog y Q st) (hc:st.eval c= .base (.bool b):=by rfl):aB prog (.cond c x y) Q st:=aB.Qk h hc (fun _=>h1) (fun _=>h2)
def lL (ord A:List Nat) (h:∀K:St->Prop,(∀st,aB prog y Q st->K st)->mH prog ops A (ord.filterMap (ops[·]?)) st K) (hok:nM ops ord=true:=by decide+kernel) (hA:eF ops=A:=by decide+kernel):aB prog (.seq (.region id ops true) y) Q st:=aB.Be mixed ord hok A hA h
def lM (ord A:List Nat) (h:∀K:St->Prop,(∀st,Q .normal st->K st)->mH prog ops A (ord.filterMap (ops[·]?)) st K) (hok:nM ops ord=true:=by decide+kernel) (hA:eF ops=A:=by decide+kernel):aB prog (.region id ops true) Q st:=aB.Gs mixed ord hok A hA h
def sK (h:Q .normal st):aB prog .skip Q st:=aB.skip h
def xM {s':aL} {st'':St} (hs:st.s.fC s') (h:St.to { st with s:=s' } st''):st.to st'':=fun e a w hin=>h e a w (hin.fC hs)
def hL {c:Code} {s':aL} (k:aB prog c Q { st with s:=s' }) (h:st.s.fC s':=by exact iI):aB prog c Q st:=aB.fC h k
def ws {α:Type} {c:Operand} {x y:Code} {b:Bool} {A B:Option α} {r:α} (h:aE b A B=some r) (h1:b=true->A=some r->aB prog x Q st) (h2:b=false->B=some r->aB prog y Q st) (hc:st.eval c= .base (.bool b):=by rfl):aB prog (.cond c x y) Q st:=aB.Qk h hc h1 h2
def bX {L:List (Nat×V)} {B:List (Nat×(List V×TypeId))} {s:aL} {n:Nat} (h4:st.s.fC s:=by(first|exact(aL.le.refl _).W|exact iI)) (h1:tJ L st.E:=by(simp only[tJ,pY.same,xm,Nat.reduceAdd,Nat.reduceLeDiff,seval,reduceCtorEq]<;>(repeat' apply ai)<;>first|with_reducible exact pY.refl _|(refine .inl ?_;simp;done)|exact .inr ⟨rfl,uQ⟩)) (h2:gB B L:=by simp only[gB,iG,Nat.reduceBEq,kJ,kI,jE,and_self]) (h3:tK B st.loc:=by(simp only[tK,gR.same,xm,Nat.reduceAdd,Nat.reduceLeDiff,seval,reduceCtorEq]<;>(repeat' apply ai)<;>first|with_reducible exact gR.refl _|(simp only[xe];with_reducible exact gR.refl _)|exact .inr ⟨_,_,_,rfl,rfl,Gi⟩)) (h5:n=st.n:=by rfl) (h6:st.ds=[]:=by rfl) (h7:st.pp=kW:=by rfl):st.to (bN L B s n):=Ir h1 h2 h3 h4 h5 h6 h7
def bB {L:List (Nat×V)} {B:List (Nat×(List V×TypeId))} {s:aL} {n:Nat} (f:p) (h4:st.s.fC s:=by(first|exact(aL.le.refl _).W|exact iI)) (h1:p->tJ L st.E:=by intro f;(simp only[tJ,pY.same,xm,Nat.reduceAdd,Nat.reduceLeDiff,seval,reduceCtorEq]<;>(repeat' apply ai)<;>first|with_reducible exact pY.refl _|(refine .inl ?_;simp;done)|(refine .inl ?_;simp[f];done)|exact .inr ⟨rfl,uQ⟩)) (h2:gB B L:=by simp only[gB,iG,Nat.reduceBEq,kJ,kI,jE,and_self]) (h3:p->tK B st.loc:=by intro f;(simp only[tK,gR.same,xm,Nat.reduceAdd,Nat.reduceLeDiff,seval,reduceCtorEq]<;>(repeat' apply ai)<;>first|with_reducible exact gR.refl _|(simp only[xe];with_reducible exact gR.refl _)|exact .inr ⟨_,_,_,rfl,rfl,Gi⟩)) (h5:n=st.n:=by rfl) (h6:st.ds=[]:=by rfl) (h7:st.pp=kW:=by rfl):st.to (bN L B s n):=Ir (h1 f) h2 (h3 f) h4 h5 h6 h7
def lQ {pp:Value->aL->Prop} {L:List (Nat×V)} {B:List (Nat×(List V×TypeId))} {s:aL} {n:Nat} (h4:st.s.fC s:=by(first|exact(aL.le.refl _).W|exact iI)) (h1:tJ L st.E:=by(simp only[tJ,pY.same,xm,Nat.reduceAdd,Nat.reduceLeDiff,seval,reduceCtorEq]<;>(repeat' apply ai)<;>first|with_reducible exact pY.refl _|(refine .inl ?_;simp;done)|exact .inr ⟨rfl,uQ⟩)) (h2:gB B L:=by simp only[gB,iG,Nat.reduceBEq,kJ,kI,jE,and_self]) (h3:tK B st.loc:=by(simp only[tK,gR.same,xm,Nat.reduceAdd,Nat.reduceLeDiff,seval,reduceCtorEq]<;>(repeat' apply ai)<;>first|with_reducible exact gR.refl _|(simp only[xe];with_reducible exact gR.refl _)|exact .inr ⟨_,_,_,rfl,rfl,Gi⟩)) (h5:n=st.n:=by rfl) (h6:st.ds=[]:=by rfl) (h7:st.pp=pp:=by rfl):st.to (eH pp L B s n):=Ir h1 h2 h3 h4 h5 h6 h7
def aDd {pp:Value->aL->Prop} {L:List (Nat×V)} {B:List (Nat×(List V×TypeId))} {s:aL} {n:Nat} {u v:aL} (hO:u.le v) (h4:u.le v->st.s.fC s:=by intro hO;(exact iI (o:=fun g=>hO.own g))) (h1:tJ L st.E:=by(simp only[tJ,pY.same,xm,Nat.reduceAdd,Nat.reduceLeDiff,seval,reduceCtorEq]<;>(repeat' apply ai)<;>first|with_reducible exact pY.refl _|(refine .inl ?_;simp;done)|exact .inr ⟨rfl,uQ⟩)) (h2:gB B L:=by simp only[gB,iG,Nat.reduceBEq,kJ,kI,jE,and_self]) (h3:tK B st.loc:=by(simp only[tK,gR.same,xm,Nat.reduceAdd,Nat.reduceLeDiff,seval,reduceCtorEq]<;>(repeat' apply ai)<;>first|with_reducible exact gR.refl _|(simp only[xe];with_reducible exact gR.refl _)|exact .inr ⟨_,_,_,rfl,rfl,Gi⟩)) (h5:n=st.n:=by rfl) (h6:st.ds=[]:=by rfl) (h7:st.pp=pp:=by rfl):st.to (eH pp L B s n):=Ir h1 h2 h3 (h4 hO) h5 h6 h7
def cV {pp:Value->aL->Prop} {L:List (Nat×V)} {B:List (Nat×(List V×TypeId))} {s:aL} {n:Nat} (f:p) (h4:st.s.fC s:=by(first|exact(aL.le.refl _).W|exact iI)) (h1:p->tJ L st.E:=by intro f;(simp only[tJ,pY.same,xm,Nat.reduceAdd,Nat.reduceLeDiff,seval,reduceCtorEq]<;>(repeat' apply ai)<;>first|with_reducible exact pY.refl _|(refine .inl ?_;simp;done)|(refine .inl ?_;simp[f];done)|exact .inr ⟨rfl,uQ⟩)) (h2:gB B L:=by simp only[gB,iG,Nat.reduceBEq,kJ,kI,jE,and_self]) (h3:p->tK B st.loc:=by intro f;(simp only[tK,gR.same,xm,Nat.reduceAdd,Nat.reduceLeDiff,seval,reduceCtorEq]<;>(repeat' apply ai)<;>first|with_reducible exact gR.refl _|(simp only[xe];with_reducible exact gR.refl _)|exact .inr ⟨_,_,_,rfl,rfl,Gi⟩)) (h5:n=st.n:=by rfl) (h6:st.ds=[]:=by rfl) (h7:st.pp=pp:=by rfl):st.to (eH pp L B s n):=Ir (h1 f) h2 (h3 f) h4 h5 h6 h7
def bM {rs:Array ResultVar} {vs:List V} {v:V} {S:aL} (l:List ResultVar) (hv:dC prog st l=some vs:=by first|(simp only[dC,xm,Nat.reduceAdd,Nat.reduceLeDiff,seval,reduceCtorEq];rfl)|(simp only[dC,xm,Nat.reduceAdd,Nat.reduceLeDiff,seval,reduceCtorEq];done)) (hr:rs.toList=l:=by rfl) (h2:Wk (lR vs) v:=by first|with_reducible exact Wk.refl _|(simp only[lR];exact uQ)) (h3:st.s.fC S:=by(first|exact(aL.le.refl _).W|exact iI)):∃st',st.to st'∧∃vs v' s',dC prog st' rs.toList=some vs∧Wk (lR vs) v'∧st'.s.le s'∧(v'=v∧s'=S):=⟨_,St.to.fC h3,vs,_,_,by rw[hr,Bp];exact hv,h2,aL.le.refl _,rfl,rfl⟩
def Da {rs:Array ResultVar} {vs:List V} {v:V} {S:aL} {a b:aL} (hO:a.le b) (l:List ResultVar) (hv:dC prog st l=some vs:=by first|(simp only[dC,xm,Nat.reduceAdd,Nat.reduceLeDiff,seval,reduceCtorEq];rfl)|(simp only[dC,xm,Nat.reduceAdd,Nat.reduceLeDiff,seval,reduceCtorEq];done)) (hr:rs.toList=l:=by rfl) (h2:Wk (lR vs) v:=by first|with_reducible exact Wk.refl _|(simp only[lR];exact uQ)) (h3:a.le b->st.s.fC S:=by intro hO;(exact iI (o:=fun g=>hO.own g))):∃st',st.to st'∧∃vs v' s',dC prog st' rs.toList=some vs∧Wk (lR vs) v'∧st'.s.le s'∧(v'=v∧s'=S):=⟨_,St.to.fC (h3 hO),vs,_,_,by rw[hr,Bp];exact hv,h2,aL.le.refl _,rfl,rfl⟩
def iT {rs:Array ResultVar} {vs:List V} {v:V} {S:aL} (f:p) (l:List ResultVar) (hv:p->dC prog st l=some vs:=by intro f;first|(simp only[dC,xm,Nat.reduceAdd,Nat.reduceLeDiff,seval,reduceCtorEq];rfl)|(simp only[dC,xm,Nat.reduceAdd,Nat.reduceLeDiff,seval,reduceCtorEq];done)|(simp only[dC,f,xm,Nat.reduceAdd,Nat.reduceLeDiff,seval,reduceCtorEq];rfl)|(simp only[dC,f,xm,Nat.reduceAdd,Nat.reduceLeDiff,seval,reduceCtorEq];done)) (hr:rs.toList=l:=by rfl) (h2:Wk (lR vs) v:=by first|with_reducible exact Wk.refl _|(simp only[lR];exact uQ)) (h3:st.s.fC S:=by(first|exact(aL.le.refl _).W|exact iI)):∃st',st.to st'∧∃vs v' s',dC prog st' rs.toList=some vs∧Wk (lR vs) v'∧st'.s.le s'∧(v'=v∧s'=S):=⟨_,St.to.fC h3,vs,_,_,by rw[hr,Bp];exact hv f,h2,aL.le.refl _,rfl,rfl⟩
def pX {α β:Type} {rs:Array ResultVar} {vs:List V} {y:α} {v:α->V} {S:α->aL} (l:List ResultVar) (hv:dC prog st l=some vs:=by first|(simp only[dC,xm,Nat.reduceAdd,Nat.reduceLeDiff,seval,reduceCtorEq];rfl)|(simp only[dC,xm,Nat.reduceAdd,Nat.reduceLeDiff,seval,reduceCtorEq];done)) (hr:rs.toList=l:=by rfl) (h2:Wk (lR vs) (v y):=by first|with_reducible exact Wk.refl _|(simp only[lR];exact uQ)) (h3:st.s.fC (S y):=by(first|exact(aL.le.refl _).W|exact iI)):∃st',st.to st'∧∃vs v' s',dC prog st' rs.toList=some vs∧Wk (lR vs) v'∧st'.s.le s'∧∃z,(PX.ok y:PX β α)= .ok z∧v'=v z∧s'=S z:=⟨_,St.to.fC h3,vs,_,_,by rw[hr,Bp];exact hv,h2,aL.le.refl _,y,rfl,rfl,rfl⟩
def Wd {α β:Type} {rs:Array ResultVar} {vs:List V} {y:α} {v:α->V} {S:α->aL} {a b:aL} (hO:a.le b) (l:List ResultVar) (hv:dC prog st l=some vs:=by first|(simp only[dC,xm,Nat.reduceAdd,Nat.reduceLeDiff,seval,reduceCtorEq];rfl)|(simp only[dC,xm,Nat.reduceAdd,Nat.reduceLeDiff,seval,reduceCtorEq];done)) (hr:rs.toList=l:=by rfl) (h2:Wk (lR vs) (v y):=by first|with_reducible exact Wk.refl _|(simp only[lR];exact uQ)) (h3:a.le b->st.s.fC (S y):=by intro hO;(exact iI (o:=fun g=>hO.own g))):∃st',st.to st'∧∃vs v' s',dC prog st' rs.toList=some vs∧Wk (lR vs) v'∧st'.s.le s'∧∃z,(PX.ok y:PX β α)= .ok z∧v'=v z∧s'=S z:=⟨_,St.to.fC (h3 hO),vs,_,_,by rw[hr,Bp];exact hv,h2,aL.le.refl _,y,rfl,rfl,rfl⟩
def iN {α β:Type} {rs:Array ResultVar} {vs:List V} {y:α} {v:α->V} {S:α->aL} (f:p) (l:List ResultVar) (hv:p->dC prog st l=some vs:=by intro f;first|(simp only[dC,xm,Nat.reduceAdd,Nat.reduceLeDiff,seval,reduceCtorEq];rfl)|(simp only[dC,xm,Nat.reduceAdd,Nat.reduceLeDiff,seval,reduceCtorEq];done)|(simp only[dC,f,xm,Nat.reduceAdd,Nat.reduceLeDiff,seval,reduceCtorEq];rfl)|(simp only[dC,f,xm,Nat.reduceAdd,Nat.reduceLeDiff,seval,reduceCtorEq];done)) (hr:rs.toList=l:=by rfl) (h2:Wk (lR vs) (v y):=by first|with_reducible exact Wk.refl _|(simp only[lR];exact uQ)) (h3:st.s.fC (S y):=by(first|exact(aL.le.refl _).W|exact iI)):∃st',st.to st'∧∃vs v' s',dC prog st' rs.toList=some vs∧Wk (lR vs) v'∧st'.s.le s'∧∃z,(PX.ok y:PX β α)= .ok z∧v'=v z∧s'=S z:=⟨_,St.to.fC h3,vs,_,_,by rw[hr,Bp];exact hv f,h2,aL.le.refl _,y,rfl,rfl,rfl⟩
def Oq {α β:Type} {rs:Array ResultVar} {vs:List V} {y:α} {v:α->V} {S:α->aL} (f:p) {a b:aL} (hO:a.le b) (l:List ResultVar) (hv:p->dC prog st l=some vs:=by intro f;first|(simp only[dC,xm,Nat.reduceAdd,Nat.reduceLeDiff,seval,reduceCtorEq];rfl)|(simp only[dC,xm,Nat.reduceAdd,Nat.reduceLeDiff,seval,reduceCtorEq];done)|(simp only[dC,f,xm,Nat.reduceAdd,Nat.reduceLeDiff,seval,reduceCtorEq];rfl)|(simp only[dC,f,xm,Nat.reduceAdd,Nat.reduceLeDiff,seval,reduceCtorEq];done)) (hr:rs.toList=l:=by rfl) (h2:Wk (lR vs) (v y):=by first|with_reducible exact Wk.refl _|(simp only[lR];exact uQ)) (h3:a.le b->st.s.fC (S y):=by intro hO;(exact iI (o:=fun g=>hO.own g))):∃st',st.to st'∧∃vs v' s',dC prog st' rs.toList=some vs∧Wk (lR vs) v'∧st'.s.le s'∧∃z,(PX.ok y:PX β α)= .ok z∧v'=v z∧s'=S z:=⟨_,St.to.fC (h3 hO),vs,_,_,by rw[hr,Bp];exact hv f,h2,aL.le.refl _,y,rfl,rfl,rfl⟩
def mL {s:aL} {L:List (Nat×(TypeId×Nat))} {g:Nat} {x:TypeId×Nat} {O A B R H:Prop} (fr:Fr s (L.map Prod.fst)) (hn:H) (k:R) (ho:(cJ s L).own g=some x->O:=by exact id) (hm:(g,x)∈L:=by simp) (ha:H->A:=by intro hn;(try simp only[gI]);exact hn) (hb:H->B:=by intro hn;(try simp only[gI]);exact aCf hn (by decide)):O∧A∧B∧R:=⟨ho (zX L s fr.2 hm),ha hn,hb hn,k⟩
def mM {s:aL} {L:List (Nat×(TypeId×Nat))} {g:Nat} {x:TypeId×Nat} {O A R H:Prop} (fr:Fr s (L.map Prod.fst)) (hn:H) (k:R) (ho:(cJ s L).own g=some x->O:=by exact id) (hm:(g,x)∈L:=by simp) (ha:A:=by unfold maxLen;omega):O∧A∧R:=⟨ho (zX L s fr.2 hm),ha,k⟩
def tS {c:Code} {s' u v:aL} (hO:u.le v) (k:aB prog c Q { st with s:=s' }) (h:u.le v->st.s.fC s':=by intro hO;exact iI (o:=fun g=>hO.own g)):aB prog c Q st:=aB.fC (h hO) k
def oZ {P:Program} {f:FuncId} {E D γ δ:Type} {a:Nat->List V} {args:List V} {s:aL} {pv:Int->Value} {xx:Option (PX (Int×E) D)} {gg:Int×E->δ} {kk:D->Option (PX δ γ)} {r:PX δ γ} {v:D->V} {X:List V×TypeId} {Xb:Int×E->List V×TypeId} {Xa:D->List V×TypeId} {b:Nat} {PP:Value->aL->Prop} {R:V->aL->Prop} {HP:Prop} (hpp:HP) (c:∀y,xx=some y->yN P f a pv y v X Xb Xa) (h:bK xx gg kk=some r) (k:∀z,xx=some (.ok z)->kk z=some r->R (v z) (s.aU b (Xa z))) (hw:iX args (a b):=by(repeat' first|with_reducible exact Wk.refl _|with_reducible exact iX.refl _|exact Wk.nil _|exact Wk.own _ _ _|exact mB|refine Wk.agg ?_|refine Wk.tuple ?_|refine Wk.slice ?_|(simp only[xe,eK,dG,eZ,iY,jP])|refine ai ?_ ?_)) (hb:s.box b=some X:=by first|exact dJ|exact(cU (by first|assumption|exact iE (by assumption))).trans dJ|rfl|exact(cU (by first|assumption|exact iE (by assumption))).trans ((cU (by first|assumption|exact iE (by assumption))).trans dJ)|(simp only[dJ,cU,ne_eq,eJ];done)) (hq:HP->∀q,r= .bad (gg q)->∃s'',(s.aU b (Xb q)).fC s''∧PP (pv q.1) s'':=by intro hpp q hq;refine⟨_,?_,by first|exact hpp _ hq|exact⟨rfl,hpp _ hq⟩⟩;(first|exact(aL.le.refl _).W|exact iI)):gM P f args s PP R:=rZ h (fun y hy=>Az (c y hy) hw hb) (hq hpp) k
def tL {P:Program} {f:FuncId} {E D γ δ:Type} {a:Nat->List V} {args:List V} {s:aL} {pv:Int->Value} {xx:Option (PX (Int×E) D)} {gg:Int×E->δ} {kk:D->Option (PX δ γ)} {r:PX δ γ} {v:D->V} {X:List V×TypeId} {Xb:Int×E->List V×TypeId} {Xa:D->List V×TypeId} {b:Nat} {PP:Value->aL->Prop} {R:V->aL->Prop} {HP:Prop} {u w:aL} (hO:u.le w) (hpp:HP) (c:∀y,xx=some y->yN P f a pv y v X Xb Xa) (h:bK xx gg kk=some r) (k:∀z,xx=some (.ok z)->kk z=some r->R (v z) (s.aU b (Xa z))) (hw:iX args (a b):=by(repeat' first|with_reducible exact Wk.refl _|with_reducible exact iX.refl _|exact Wk.nil _|exact Wk.own _ _ _|exact mB|refine Wk.agg ?_|refine Wk.tuple ?_|refine Wk.slice ?_|(simp only[xe,eK,dG,eZ,iY,jP])|refine ai ?_ ?_)) (hb:s.box b=some X:=by first|exact dJ|exact(cU (by first|assumption|exact iE (by assumption))).trans dJ|rfl|exact(cU (by first|assumption|exact iE (by assumption))).trans ((cU (by first|assumption|exact iE (by assumption))).trans dJ)|(simp only[dJ,cU,ne_eq,eJ];done)) (hq:u.le w->HP->∀q,r= .bad (gg q)->∃s'',(s.aU b (Xb q)).fC s''∧PP (pv q.1) s'':=by intro hO hpp q hq;refine⟨_,?_,by first|exact hpp _ hq|exact⟨rfl,hpp _ hq⟩⟩;(exact iI (o:=fun g=>hO.own g))):gM P f args s PP R:=rZ h (fun y hy=>Az (c y hy) hw hb) (hq hO hpp) k
end
end
end Go.Proofs.YtlfbdcfnimnhiaaGreatDoor.Ex
namespace Go.Am
section
variable {P:Program}
def Ch (fn:FuncId) (tmps:Array Value) (p p2:Nat) (assign body:Code) (D:Nat) (s:LoopState):Loop:={ state:=s,pending:=none,fn:=fn,tmps:=tmps,params:= #[p,p2],assign:=assign,body:=body,defers:=D }
def CE {α:Type} (P:Program) (E:Nat->V) (n p p2:Nat) (enc:α->V×V) (Hs:List α->aL->Prop) (A:List α->α->Prop) (opsA opsB:Array Oper) (dB:Option OT):Prop:=
 ∀pre x s,Hs pre s->A pre x->∀K1:St->Prop,
  (∀st1 t5 cs ty,st1.loc=cA (fun _=>none) t5 (some (cs,ty))->st1.ds=[]->st1.lo=bC.bot->
   (∀b,st1.s.box b=none->∀K2:St->Prop,(∀st2 s',st2.s.le s'->Hs (pre++[x]) s'->K2 st2)->zG P dB opsB (st1.cM t5 b (cs,ty)) K2)->K1 st1)->
  gK P opsA opsA.toList { E:=cA (cA E p (enc x).1) p2 (enc x).2,loc:=fun _=>none,s:=s,n:=n } K1
def LY {α:Type} {lo:bC} {l p p2:Nat} {fn:FuncId} {tm:Array Value} {ida ib idb:Nat} {opsA opsB:Array Oper} {dB:Option OT} {D n:Nat} {E:Nat->V} {enc:α->V×V} {Hs:List α->aL->Prop}
 (hrec:lo.ob l=some (.loop (Ch fn tm p p2 (.region ida opsA false) (.block ib (.region idb opsB dB.isSome)) D .ready))) (htm:tm.size=n) (hE:∀t,bJ lo (E t) (tm.getD t undef)) (hp:p<n) (hp2:p2<n)
 (hA:oS opsA=true) (hB:oS opsB=true) {A:List α->α->Prop} (hround:CE P E n p p2 enc Hs A opsA opsB dB) (pre:List α) (x:α) (s:aL) (hs:Hs pre s) (hN:A pre x):
 wW P lo l [(enc x).1,(enc x).2] s fun v s'=>v= .base (.bool true)∧Hs (pre++[x]) s':=by
 intro G w cargs hh hlo hargs;obtain⟨v,vs,e1,hv,hvs⟩:=hargs.sJ;obtain⟨v2,vs2,e2,hv2,hnil⟩:=hvs.sJ;have:=hnil.Bd;subst this;subst e2;obtain rfl:cargs= #[v,v2]:=by rw[<-xV,e1]
 have hGl:G.ob l=some _:=hlo.b _ _ hrec;have hl:=(hh.ob l _ hGl).2;have hll:l<w.heap.size:=(gZ.1 hl).1;have hyr:=run_yield (P:=P) (args:= #[v,v2]) hl (by simp[Ch]);refine⟨_,_,_,_,hyr,roundIn_of_wpIn trivial ?_⟩;simp only[Ch];have htmps:Array.foldl (fun tmps (x:Tmp×Value)=>tmps.setIfInBounds x.1 x.2) tm (#[p,p2].zip #[v,v2])=(tm.setIfInBounds p v).setIfInBounds p2 v2:=by simp
 simp only[htmps];have hin0:In ⟨G.drop l,s,w,[],kW⟩ { E:=cA (cA E p (enc x).1) p2 (enc x).2,loc:=fun _=>none,s:=s,n:=n } { tmps:=(tm.setIfInBounds p v).setIfInBounds p2 v2,defers:=[] } w:=by
  refine⟨G.drop l,fun _=>none,dD.refl _ _ _,hh.drop l,by simpa using htm,zK.nil,fun t=>?_,(fun t cs ty ht=>by cases ht),fun t t' b h1=>absurd rfl h1⟩;by_cases ht2:t=p2
  ·subst ht2;simp only[eL,iS,Qn (by simp;omega:t<(tm.setIfInBounds p v).size),nH];exact eE.kF hv2.uU
  show eE _ _ _ (cA (cA E p (enc x).1) p2 (enc x).2 t) (((tm.setIfInBounds p v).setIfInBounds p2 v2).getD t undef);rw[show cA (cA E p (enc x).1) p2 (enc x).2 t=cA E p (enc x).1 t from dA _ _ _ _ ht2];have e3:((tm.setIfInBounds p v).setIfInBounds p2 v2).getD t undef=(tm.setIfInBounds p v).getD t undef:=by
   simp only[iS,Me (iE ht2)]
  simp only[e3];by_cases ht:t=p
  ·subst ht;simp only[eL,iS,Qn (by omega:t<tm.size),nH];exact eE.kF hv.uU
  ·simp only[dA _ _ _ _ ht,iS,Me (iE ht)];have:=hE t;rw[iS] at this;exact eE.kF (this.mono hlo).uU
 refine wpIn_region ?_;have hspl:∀ops:Array Oper,List.range ops.size=List.range' 0 ops.size++[]:=fun ops=>by rw[gL,Bg]
 rw[hspl];refine vK (.inr ⟨l,rfl⟩) hA (e:=⟨G.drop l,s,w,[],kW⟩) (K:=fun st1=>∃t5 cs ty,st1.loc=cA (fun _=>none) t5 (some (cs,ty))∧st1.ds=[]∧st1.lo=bC.bot∧∀b,st1.s.box b=none->∀K2:St->Prop,(∀st2 s',st2.s.le s'->Hs (pre++[x]) s'->K2 st2)->zG P dB opsB (st1.cM t5 b (cs,ty)) K2) (PQ.no rfl) (fun a1 w1 hth=>?_) opsA.size 0 (by omega) _ _ w (by
  rw[kG,nG (by simp)];exact hround pre x s hs hN _ fun st1 t5 cs ty h1 h2 h2' h3=>⟨t5,cs,ty,h1,h2,h2',h3⟩) hin0
 obtain⟨st1,⟨t5,cs,ty,hloc,hds,hlo1,hb⟩,hin1⟩:=hth;obtain⟨b,hbn,G1,be,hx1,hr1⟩:=hin1.cM (t0:=t5) (x:=(cs,ty)) (by rw[hloc,eL]);have nf:¬dL (G.drop l) s l:=fun hf=>by
  obtain⟨y,k1,k2⟩:=hh.Lx hf;rw[hl] at k1;cases k1;cases k2
 have hl1:=(hx1.keep l hll nf).trans hl;have hbr:=run_beginRound (P:=P) hl1 rfl;refine⟨_,hbr,?_⟩;generalize hw2:w1.putObj l _=w2;have hw2l:w2.heap[l]? =some (.loop (Ch fn tm p p2 (.region ida opsA false) (.block ib (.region idb opsB dB.isSome)) D .busy)):=by
  rw[<-hw2];exact World.putObj_heap_same (gZ.1 hl1).1
 have hw2s:w2.heap.size=w1.heap.size:=by rw[<-hw2];simp
 have hw2o:∀k,k≠l->w2.heap[k]? =w1.heap[k]? :=fun k hk=>by rw[<-hw2];exact World.putObj_heap_other hk
 have hH2:cS (G1.drop l) (st1.cM t5 b (cs,ty)).s w2:=by rw[<-hw2];exact(hr1.hr.drop l).putObj hl1 rfl (by simp[bC.drop])
 have hlocn:(st1.cM t5 b (cs,ty)).loc=fun _=>none:=by
  funext t;simp only[St.cM,hloc,cA];split<;>rfl
 have hsteq:st1.cM t5 b (cs,ty)={ E:=(st1.cM t5 b (cs,ty)).E,loc:=fun _=>none,s:=(st1.cM t5 b (cs,ty)).s,n:=st1.n }:=by
  have e1:(st1.cM t5 b (cs,ty)).ds=[]:=hds;have e2:(st1.cM t5 b (cs,ty)).lo=bC.bot:=hlo1;have e3:(st1.cM t5 b (cs,ty)).n=st1.n:=rfl;have e4:=hlocn;have e5:(st1.cM t5 b (cs,ty)).pp=kW:=hr1.df.pp;generalize st1.cM t5 b (cs,ty)=z at e1 e2 e3 e4 e5 ⊢;cases z
  simp only at e1 e2 e3 e4 e5;subst e1;subst e2;subst e3;subst e4;subst e5;rfl
 have hin2:In ⟨G1.drop l,(st1.cM t5 b (cs,ty)).s,w2,[],kW⟩ { E:=(st1.cM t5 b (cs,ty)).E,loc:=fun _=>none,s:=(st1.cM t5 b (cs,ty)).s,n:=st1.n } a1 w2:=by
  refine⟨G1.drop l,be,dD.refl _ _ _,hH2,hr1.n,⟨by have:=hr1.df.eq;rw[show(st1.cM t5 b (cs,ty)).ds=[] from hds] at this;exact this,(fun d h=>by cases h),Mi,bC.none_le _,rfl⟩,fun t=>?_,(fun t cs ty ht=>by cases ht),fun t t' b h1=>absurd rfl h1⟩;have:=hr1.tmps t;rw[hlocn] at this;cases hv:(st1.cM t5 b (cs,ty)).E t<;>rw[hv] at this<;>simp only[hv]<;>first|exact bJ.uU this|exact absurd rfl this.1
 have hbody:zG P dB opsB { E:=(st1.cM t5 b (cs,ty)).E,loc:=fun _=>none,s:=(st1.cM t5 b (cs,ty)).s,n:=st1.n } (fun st2=>∃s',st2.s.le s'∧Hs (pre++[x]) s'):=?_
 ·refine wpIn_block (DZ (.inr ⟨l,rfl⟩) hB (e:=⟨G1.drop l,(st1.cM t5 b (cs,ty)).s,w2,[],kW⟩) (K:=fun st2=>∃s',st2.s.le s'∧Hs (pre++[x]) s') (PQ.no rfl) (fun a2 w3 hth2=>?_) hbody hin2);obtain⟨st3,⟨s',hle,hHs⟩,G2,be2,hx2,hr2⟩:=hth2;have nf2:¬dL (G1.drop l) (st1.cM t5 b (cs,ty)).s l:=fun hf=>by
   obtain⟨y,k1,k2⟩:=hH2.Lx hf;rw[hw2l] at k1;cases k1;cases k2
  have hl2:=(hx2.keep l (gZ.1 hw2l).1 nf2).trans hw2l;have her:=run_endRound (P:=P) none hl2;show ∃v w',_;refine⟨_,_,her,(G2.drop l).gO l (.loop (Ch fn tm p p2 (.region ida opsA false) (.block ib (.region idb opsB dB.isSome)) D .ready)),s',.base (.bool true),_,rfl,bJ.base _,?_,?_,rfl,hHs⟩
  ·have hss:w.heap.size<=w1.heap.size:=hx1.size;have hss2:w2.heap.size<=w3.heap.size:=hx2.size;have fchain:∀b',dL (G1.drop l) (st1.cM t5 b (cs,ty)).s b'->dL G s b'∨w.heap.size<=b':=fun b' hf=>hx1.dL b' hf;refine⟨⟨fun b' o v' h=>hx2.le.f _ _ _ (hx1.le.f _ _ _ h),fun g v' h=>hx2.le.o _ _ (hx1.le.o _ _ h),fun k y hk=>?_⟩,by simp only[World.putObj_size];omega,(hx2.os.trans (by rw[<-hw2];rfl)).trans hx1.os,(hx2.tape.trans (by rw[<-hw2];rfl)).trans hx1.tape,(hx2.output.trans (by rw[<-hw2];rfl)).trans hx1.output,fun b' hb' hnf=>?_,fun b' hf=>?_,fun b' o hf=>?_,fun g hg=>?_⟩
   ·by_cases e:k=l
    ·subst e;rw[hGl] at hk;simp only[bC.gO,if_pos];exact hk
    ·have h1:=hx1.le.b k y (by simp only[bC.drop,if_neg e];exact hk);have h2:=hx2.le.b k y (by simp only[bC.drop,if_neg e];exact h1);simp only[bC.gO,bC.drop,if_neg e];exact h2
   ·by_cases e:b'=l
    ·subst e;rw[World.putObj_heap_same (gZ.1 hl2).1,hl];rfl
    ·rw[World.putObj_heap_other e];refine(hx2.keep b' (show b' <w2.heap.size by omega) fun hf=>?_).trans ((hw2o b' e).trans (hx1.keep b' hb' hnf));rcases fchain b' hf with k|k
     ·exact hnf k
     ·omega
   ·rcases hx2.dL b' (zZ hle hf) with k|k
    ·exact fchain b' k
    ·exact .inr (by simp only at k;omega)
   ·rcases hx2.dO b' o hf with k|k|k
    ·exact hx1.dO b' o k
    ·rcases fchain b' k with j|j
     ·exact .inr (.inl j)
     ·exact .inr (.inr j)
    ·exact .inr (.inr (by simp only at k;omega))
   ·have hg3:st3.s.own g≠none:=by
     rcases hle.own g with e|e
     ·rwa[<-e]
     ·exact absurd e hg
    rcases hx2.keys g hg3 with k|k
    ·exact hx1.keys g k
    ·refine .inr ?_;cases hq:G.om g with
     |none=>rfl
     |some y=>exact absurd (hx1.le.o g y hq) (by rw[show G1.om g=none from k];simp)
  ·exact(((hr2.hr.weaken hle).drop l).putObj hl2 rfl (by simp[bC.drop])).gO (World.putObj_heap_same (gZ.1 hl2).1) rfl
 ·have:=hb b hbn (fun st2=>∃s',st2.s.le s'∧Hs (pre++[x]) s') fun st2 s' h1 h2=>⟨s',h1,h2⟩;rw[hsteq] at this;exact this
def aB.aI7 {α:Type} {Q:Exit->St->Prop} {st:St} {tf p p2 ida ib idb:Nat} {opsA opsB:Array Oper} {dB:Option OT} {f:FuncId} {caps:List V} (enc:α->V×V) (Hs:List α->aL->Prop) (S:List α->Prop) (A:List α->α->Prop)
 (hE:st.E tf= .func f [] caps) (hloc:st.loc=fun _=>none) (hp:p<st.n) (hp2:p2<st.n) (hA:oS opsA=true) (hB:oS opsB=true)
 (hround:CE P st.E st.n p p2 enc Hs A opsA opsB dB)
 (hit:∀(lo:bC) (l:Nat),(∀pre x s,Hs pre s->A pre x->wW P lo l [(enc x).1,(enc x).2] s fun v s'=>v= .base (.bool true)∧Hs (pre++[x]) s')->Iq P lo f ([lP l]++caps) st.s fun _ s'=>∃xs,S xs∧Hs xs s')
 (hrest:∀xs s' D,S xs->Hs xs s'->Q .normal { E:=st.E,loc:=fun _=>none,s:=s',n:=st.n,ds:=uP D::st.ds,lo:=st.lo,pp:=st.pp }):
 aB P (.rangeFunc (.tmp tf) #[p,p2] (.region ida opsA false) (.block ib (.region idb opsB dB.isSome))) Q st:=fun e a w hin=>by
 obtain⟨G,be,hx,hr⟩:=hin;refine(wpIn_wide (n:=0)).1 (wpIn_rangeFunc fun fn _=>?_);generalize hrec:(Obj.loop (Ch fn a.tmps p p2 (.region ida opsA false) (.block ib (.region idb opsB dB.isSome)) w.heap.size .ready))=rec;have hrc:wJ rec=false:=by rw[<-hrec];rfl
 generalize hW1:(w.alloc (.deferred (some []))).alloc rec=W1;have hm:dP w W1:=by rw[<-hW1];exact(dP.alloc _ _).trans (dP.alloc _ _)
 have hD1:W1.heap[w.heap.size]? =some (.deferred (some [])):=by
  rw[<-hW1,(dP.alloc (w.alloc (.deferred (some []))) rec).keep _ (by simp)];exact World.alloc_heap_new _ _
 have hl1:W1.heap[w.heap.size+1]? =some rec:=by
  rw[<-hW1];have:=World.alloc_heap_new (w.alloc (.deferred (some []))) rec;simpa using this
 have hW1s:W1.heap.size=w.heap.size+2:=by rw[<-hW1];simp
 have hH1:cS ((G.gO w.heap.size (.deferred (some []))).gO (w.heap.size+1) rec) st.s W1:=((hr.hr.more hm).gO hD1 rfl).gO hl1 hrc;have hle1:G.Le ((G.gO w.heap.size (.deferred (some []))).gO (w.heap.size+1) rec):=by
  refine(bC.Qh fun y hy=>?_).trans (bC.Qh fun y hy=>?_)
  ·rw[hr.hr.Md (dS _)] at hy;cases hy
  ·simp only[bC.gO] at hy;rw[if_neg (by omega),hr.hr.Md (by omega)] at hy;cases hy
 have hx1:dD G st.s w ((G.gO w.heap.size (.deferred (some []))).gO (w.heap.size+1) rec) st.s W1:=
  ⟨hle1,hm.size,hm.os,hm.tape,hm.output,fun b hb _=>hm.keep b hb,fun _ h=>.inl h,fun _ _ h=>.inl h,fun _ h=>.inl h⟩
 generalize hG1:(G.gO w.heap.size (.deferred (some []))).gO (w.heap.size+1) rec=G1 at hH1 hle1 hx1;have hG1D:G1.ob w.heap.size=some (.deferred (some [])):=by rw[<-hG1];simp[bC.gO]
 have hG1l:G1.ob (w.heap.size+1)=some rec:=by rw[<-hG1];simp[bC.gO]
 have hnl:∀t,eE G be (fun _=>none) (st.E t) (a.tmps.getD t undef):=fun t=>by rw[<-hloc];exact hr.tmps t
 have hrep:∀t,bJ G (st.E t) (a.tmps.getD t undef):=fun t=>by
  have:=hnl t;cases hv:st.E t<;>rw[hv] at this<;>first|exact this|exact absurd rfl this.1
 have hh:=hrep tf;rw[hE] at hh;have hq:∃cc:Array Value,a.eval (.tmp tf)= .func (.func f) #[] cc∧bZ G caps cc.toList:=by
  show ∃cc:Array Value,a.tmps.getD tf undef= .func (.func f) #[] cc∧_;generalize a.tmps.getD tf undef=q at hh;cases hh with
  |func _ _ _ cf cc l1 l2 r1 r2=>
   have:cf= #[]:=Array.eq_empty_of_size_eq_zero (by simpa using l1.symm);subst this;exact⟨cc,rfl,sP l2 r2⟩
 obtain⟨cc,hq,hcc⟩:=hq;have hY:∀pre x s,Hs pre s->A pre x->wW P G1 (w.heap.size+1) [(enc x).1,(enc x).2] s fun v s'=>v= .base (.bool true)∧Hs (pre++[x]) s':=
  LY (by rw[hG1l,<-hrec]) hr.n (fun t=>(hrep t).mono hle1) hp hp2 hA hB hround
 obtain⟨⟨fnn,hfn,hbody,hname⟩,hcall⟩:=hit G1 (w.heap.size+1) hY;have hcall:=hcall G1 W1 (#[.func (.yield (w.heap.size+1)) #[] #[]]++cc) hH1 (bC.Le.refl _) (by
  simpa using bZ.cons (show bJ G1 (lP (w.heap.size+1)) _ from bJ.base _) (hcc.mono hle1))
 refine⟨w.heap.size+1,[uP w.heap.size],W1,{ target:=.fn (.func f) cc,args:= #[.func (.yield (w.heap.size+1)) #[] #[]] },W1,f, #[.func (.yield (w.heap.size+1)) #[] #[]]++cc,W1,?_,?_,fun _ _=>trivial,?_,fun h=>by simp[Fence.wide] at h,?_⟩
 ·rw[<-hW1,<-hrec];exact run_enterLoop_outer (P:=P) (w:=w) fn a.tmps #[p,p2] _ _
 ·simp only[resolve,hq,Deferred.ofValue,Sem.run_pure,Array.empty_append];simp[Act.eval]
 ·simp only[invoke,callFunc,run_program,Sem.run_bind,Result.andThen_ok,hfn,hname,Bool.false_eq_true,if_false,hbody,Sem.run_pure]
 ·refine callsIn_wide.2 (hcall.mono ?_);rintro e' w3 ⟨G3,s3,v,cv,rfl,hv,hx3,hh3,xs,hS,hHs⟩;have hl3:=(hh3.ob _ _ (hx3.le.b _ _ hG1l)).2;rw[<-hrec] at hl3;have hend:=run_endLoop (P:=P) hl3 (by simp[Ch]);refine⟨none,_,hend,?_⟩;have hxx:dD e.G e.s e.w G3 s3 w3:=(hx.trans hx1).trans hx3;have hsz:e.w.heap.size<=w.heap.size:=hx.size;have old:∀k y,G.ob k=some y->(G3.drop (w.heap.size+1)).ob k=some y∧k<w.heap.size:=fun k y hk=>by
   have h1:=(gZ.1 (hr.hr.ob k y hk).2).1;refine⟨?_,h1⟩;simp only[bC.drop];rw[if_neg (by omega)];exact hx3.le.b _ _ (hle1.b _ _ hk)
  have hle3:G.Le (G3.drop (w.heap.size+1)):=⟨fun b o v h=>hx3.le.f _ _ _ (hle1.f _ _ _ h),fun g v h=>hx3.le.o _ _ (hle1.o _ _ h),fun k y hk=>(old k y hk).1⟩;refine .inl ⟨_,hrest xs s3 w.heap.size hS hHs,G3.drop (w.heap.size+1),be,(hxx.putObj (by omega) _).Xe ?_,(hh3.drop _).putObj hl3 rfl (by simp[bC.drop]),hr.n,⟨?_,fun d hd=>?_,?_,hr.df.lo.trans hle3,hr.df.pp⟩,fun t=>?_,(fun t cs ty ht=>by cases ht),fun t t' b h1=>absurd rfl h1⟩
  ·cases hq:e.G.ob (w.heap.size+1) with
   |none=>rfl
   |some y=>have:=(old _ _ (hx.le.b _ _ hq)).2;omega
  ·show [uP w.heap.size]++a.defers=_;rw[hr.df.eq];rfl
  ·rcases oR.1 hd with rfl|hd
   ·refine⟨_,rfl,hsz,?_⟩;simp only[bC.drop];rw[if_neg (by omega)];exact hx3.le.b _ _ hG1D
   ·obtain⟨D,rfl,h1,h2⟩:=hr.df.ok d hd;exact⟨D,rfl,h1,(old _ _ h2).1⟩
  ·refine List.pairwise_cons.2 ⟨fun d hd=>?_,hr.df.nd⟩;obtain⟨D,rfl,h1,h2⟩:=hr.df.ok d hd;have:=(old _ _ h2).2;intro e;simp only[uP,Deferred.mk.injEq,Target.collected.injEq] at e;omega
  ·have:=(hrep t).mono hle3;exact eE.kF this
end
section
variable {P:Program}
def aB.regLT {Q:Exit->St->Prop} {st:St} {id:Nat} {ops:Array Oper} {c:Code} (hm:P.follows .mixedOrders=true) (x y:Nat) (ord1 ord2:List Nat) (hok:Cc ops x y ord1 ord2=true) (A1 A2:List Nat) (hA1:eF (fN ops y x)=A1) (hA2:eF (fN ops x y)=A2)
 (h1:∀K:St->Prop,(∀st,aB P c Q st->K st)->mH P (fN ops y x) A1 (ord1.filterMap ((fN ops y x)[·]?)) st K) (h2:∀K:St->Prop,(∀st,aB P c Q st->K st)->mH P (fN ops x y) A2 (ord2.filterMap ((fN ops x y)[·]?)) st K):aB P (.seq (.region id ops true) c) Q st:=by
 have hok':=hok;unfold Cc at hok';simp only[dI,tW] at hok';refine aB.seq (aB.KI hm x y ord1 ord2 hok (Cf ord1 (Left.init hok'.1.2).2.2 st _ ?_) (Cf ord2 (Left.init hok'.2).2.2 st _ ?_))
 ·rw[hA1];exact h1 _ fun _ h=>h
 ·rw[hA2];exact h2 _ fun _ h=>h
end
end Go.Am
namespace Go.Proofs.YtlfbdcfnimnhiaaGreatDoor.Ex
open Go.Am Go.Ex
def Gb (x0:(List (List aA))):Option (List aA):=(cF (fun u5 (q4:Int×Int)=>(aE (decide (q4.2<(x0.length:Int))) (aR (0<=q4.2∧q4.2<(x0.length:Int)) (aE (decide ((i64.wrap (q4.1+(((x0.getD q4.2.toNat ([])).length:Nat):Int)))<0)) none (u5 ((i64.wrap (q4.1+(((x0.getD q4.2.toNat ([])).length:Nat):Int))),(i64.wrap (q4.2+1)))))) (aR (0<=q4.1∧q4.1*136<=140737488355328) (cF (fun u21 (q20:(List aA)×Int)=>(aE (decide (q20.2<(x0.length:Int))) (aR (0<=q20.2∧q20.2<(x0.length:Int)) (aR ((q20.1.length+(x0.getD q20.2.toNat ([])).length)*136<=140737488355328) (u21 ((q20.1++(x0.getD q20.2.toNat ([]))),(i64.wrap (q20.2+1)))))) (some q20.1))) bQ (([]:List aA),0))))) bQ (0,0))
def IM (x0:(List (List aA))) (r:(List aA)) (h:Gb x0=some r):CF prog 100 [.slice 1 (List.map (fun x=>[V.slice 10 (x.map aA.v)]) x0)] 29 10 (r.map aA.v):=by
 intro s;unfold Gb at h;refine ac func100 ntmps100 ?_;refine rg ?_;refine rg ?_;apply aB.seq;refine rg ?_;apply aB.block;refine lp h (fun q4=>bN [(0,.slice 1 (List.map (fun x=>[V.slice 10 (x.map aA.v)]) x0)),(3,aI q4.1),(9,.slice 1 (List.map (fun x=>[V.slice 10 (x.map aA.v)]) x0)),(10,aI (x0.length:Int)),(11,aI q4.2)] [] s 36) ?_ ?_
 ·exact bX
 ·rintro u5 ⟨v2,v3⟩ h;(try dsimp only at h ⊢);refine rg ?_;apply aB.seq;refine wz h (fun h=>?_) fun h=>?_
  ·apply sK;apply aB.seq;apply aB.block;obtain⟨hn10,h⟩:=aV h;refine bG (ai (aJ hn10.1)<|ai (aJ hn10.2)<|(bW (fun x=>[V.slice 10 (x.map aA.v)]) ([]) hn10)) ?_;refine rg ?_;refine rg ?_;refine wz h (fun h=>?_) fun h=>?_
   ·cases h
   ·apply sK;refine r1 ?_;exact⟨((i64.wrap (v2+(((x0.getD v3.toNat ([])).length:Nat):Int))),(i64.wrap (v3+1))),h,bX⟩
  ·apply aB.exit;simp only[dR,seval];refine aB.eD fun Z12 hZ12=>?_;refine sy ?_;obtain⟨hn13,h⟩:=aV h;refine(ZM v2 hn13 _).Wv fun g14 hg14=>?_;change (s).own g14=none at hg14;have fr15:Fr s (List.map Prod.fst [(g14,(29,10))]):=Fr.snoc (l:=[]) (Fr.nil s) hg14;refine sy ?_;refine hZ12 _ ?_;clear hZ12 Z12;refine hL (s':=(cJ s [(g14,(29,10))])) ?_;apply aB.seq;refine rg ?_;apply aB.block;refine aB.pA (X:=(List aA)×Int) (G:=Nat) h (fun gq22=>Fr s (List.map Prod.fst [(gq22,(29,10))])) (fun q20 gq22=>bN [(6,.own gq22 10 (q20.1.map aA.v)),(25,.slice 1 (List.map (fun x=>[V.slice 10 (x.map aA.v)]) x0)),(26,aI (x0.length:Int)),(27,aI q20.2)] [] (cJ s [(gq22,(29,10))]) 36) ?_ ?_
   ·exact⟨g14,fr15,bX⟩
   ·rintro u21 ⟨v17,v19⟩ h g18 hg18f;(try dsimp only at h ⊢);refine rg ?_;apply aB.seq;refine wz h (fun h=>?_) fun h=>?_
    ·apply sK;apply aB.seq;apply aB.block;obtain⟨hn27,h⟩:=aV h;refine bG (ai (aJ hn27.1)<|ai (aJ hn27.2)<|(bW (fun x=>[V.slice 10 (x.map aA.v)]) ([]) hn27)) ?_;refine aB.fW fun Z28 hZ28=>?_;obtain⟨hn29,h⟩:=aV h;refine sy ?_
     first|refine mL hg18f hn29 fun g30 hg30=>?_|refine mM hg18f hn29 fun g30 hg30=>?_
     have fr31:Fr s (List.map Prod.fst [(g30,(29,10))]):=Fr.rep (a:=[]) (b:=[]) hg18f hg30;refine sy ?_;refine hZ28 _ ?_;clear hZ28 Z28;refine tS (Fr.mN (a:=[]) (b:=[]) hg18f hg30) (s':=(cJ s [(g30,(29,10))])) ?_;refine r1 ?_;exact⟨((v17++(x0.getD v19.toNat ([]))),(i64.wrap (v19+1))),h,g30,fr31,bX⟩
    ·apply aB.exit;simp only[dR,seval];refine rg ?_;refine aB.ret ?_;refine⟨_,St.to.refl _,?_⟩;obtain rfl:=eS h;refine qX (vs:=[.own g18 10 (v17.map aA.v)]) (v:=.own g18 10 (v17.map aA.v)) (by show dC prog _ [.tmp 2]=_;simp only[dC,aA.vs,am,seval,reduceCtorEq]) (Wk.refl _) (aL.le.refl _) ⟨g18,hg18f.1 _ (by simp),rfl,rfl⟩
def Wc (x0:(List aA)):Option (List aA):=(some x0)
def aHi (x0:(List aA)) (r:(List aA)) (h:Wc x0=some r):cG prog 101 [.slice 10 (x0.map aA.v)] (V.func 141 [] [.elt [.slice 10 (r.map aA.v)] 0]):=by
 intro s;unfold Wc at h;refine ac func101 ntmps101 ?_;refine rg ?_;refine aB.dO 1 (cs:=[.slice 10 (x0.map aA.v)]) (ty:=26) (by first|rfl|simp only[am,seval,reduceCtorEq]) ?_;refine aB.weaken (st':=bN [(0,.slice 10 (x0.map aA.v)),(1,.elt [V.slice 10 (x0.map aA.v)] 0)] [] s 4) ?_ ?_
 ·refine qY ?_ ?_ ?_ (aL.le.refl _) rfl
  ·simp only[jK,St.dO,tM,aA.vs,am,seval,reduceCtorEq]<;>simp
  ·simp only[gB,iG,Nat.reduceBEq,kJ,kI,jE,and_self]
  ·simp only[jL,St.dO,tM,aA.vs,am,seval,reduceCtorEq]<;>(repeat' apply ai)<;>first|rfl|(simp only[aA.aC];rfl)|simp[aA.aC]
 refine rg ?_;cases h;exact aB.ret (bM [.tmp 2])
def Wb (x0:(List aF)):Option (List aF):=(some x0)
def aHh (x0:(List aF)) (r:(List aF)) (h:Wb x0=some r):cG prog 102 [.slice 5 (x0.map aF.v)] (V.func 142 [] [.elt [.slice 5 (r.map aF.v)] 0]):=by
 intro s;unfold Wb at h;refine ac func102 ntmps102 ?_;refine rg ?_;refine aB.dO 1 (cs:=[.slice 5 (x0.map aF.v)]) (ty:=27) (by first|rfl|simp only[am,seval,reduceCtorEq]) ?_;refine aB.weaken (st':=bN [(0,.slice 5 (x0.map aF.v)),(1,.elt [V.slice 5 (x0.map aF.v)] 0)] [] s 4) ?_ ?_
 ·refine qY ?_ ?_ ?_ (aL.le.refl _) rfl
  ·simp only[jK,St.dO,tM,aF.vs,am,seval,reduceCtorEq]<;>simp
  ·simp only[gB,iG,Nat.reduceBEq,kJ,kI,jE,and_self]
  ·simp only[jL,St.dO,tM,aF.vs,am,seval,reduceCtorEq]<;>(repeat' apply ai)<;>first|rfl|(simp only[aF.aC];rfl)|simp[aF.aC]
 refine rg ?_;cases h;exact aB.ret (bM [.tmp 2])
def Fx (x0:Int):Option (Int):=(join (fun u4=>(aE (decide (x0>=65)) (u4 (decide (x0<=90))) (u4 false))) (fun(q3:Bool)=>(aE q3 (some (IntKind.u8.wrap (x0+32))) (some x0))))
def IF (x0:Int) (r:Int) (h:Fx x0=some r):cG prog 190 [.base (.int .u8 x0)] (.base (.int .u8 r)):=by
 intro s;unfold Fx at h;refine ac func190 ntmps190 ?_;refine rg ?_;apply aB.seq;refine jn h (fun q3=>bN [(0,.base (.int .u8 x0)),(8,aY q3)] [] s 12) (fun u4 h=>?_) ?_
 ·refine wy h (fun hg5 h=>?_) fun hg5 h=>?_
  ·refine bU hg5 ?_;exact⟨(decide (x0<=90)),h,bB hg5⟩
  ·refine bU hg5 ?_;exact⟨false,h,bB hg5⟩
 ·rintro v2 h;refine wz h (fun h=>?_) fun h=>?_
  ·refine rg ?_;cases h;exact aB.ret (bM [.tmp 2])
  ·apply sK;refine rg ?_;cases h;exact aB.ret (bM [.tmp 2])
def Km (x0:Int):Option (Bool):=(some (x0 != x0))
def IE (x0:Int) (r:Bool) (h:Km x0=some r):cG prog 207 [.base (.int .u8 x0)] (aY r):=by
 intro s;unfold Km at h;refine ac func207 ntmps207 ?_;refine rg ?_;refine rg ?_;cases h;exact aB.ret (bM [.tmp 2])
def Kn (x0:Int) (x1:Int):Option (Int):=(call (Km x0) fun y1=>(call (Km x1) fun y2=>(aE y1 (aE y2 (some 0) (some (-1))) (aE y2 (some 1) (aE (decide (x0<x1)) (some (-1)) (aE (decide (x0>x1)) (some 1) (some 0)))))))
def aG8 (x0:Int) (x1:Int) (r:Int) (h:Kn x0 x1=some r):cG prog 192 [.base (.int .u8 x0),.base (.int .u8 x1)] (aI r):=by
 intro s;unfold Kn at h;refine ac func192 ntmps192 ?_;refine rg ?_;refine dH (IE x0) h fun y1 _ h=>?_;refine dH (IE x1) h fun y2 _ h=>?_;apply aB.seq;refine rg ?_;refine wz h (fun h=>?_) fun h=>?_
 ·apply aB.seq;refine rg ?_;refine wz h (fun h=>?_) fun h=>?_
  ·refine rg ?_;cases h;exact aB.ret (bM [.tmp 4])
  ·apply sK;refine rg ?_;cases h;exact aB.ret (bM [.tmp 4])
 ·apply sK;apply aB.seq;refine rg ?_;refine wz h (fun h=>?_) fun h=>?_
  ·refine rg ?_;cases h;exact aB.ret (bM [.tmp 4])
  ·apply sK;apply aB.seq;refine rg ?_;refine wz h (fun h=>?_) fun h=>?_
   ·refine rg ?_;cases h;exact aB.ret (bM [.tmp 4])
   ·apply sK;apply aB.seq;refine rg ?_;refine wz h (fun h=>?_) fun h=>?_
    ·refine rg ?_;cases h;exact aB.ret (bM [.tmp 4])
    ·apply sK;refine rg ?_;cases h;exact aB.ret (bM [.tmp 4])
def Pm (x0:Int):Option (Bool):=(some (x0 != x0))
def ID (x0:Int) (r:Bool) (h:Pm x0=some r):cG prog 208 [aI x0] (aY r):=by
 intro s;unfold Pm at h;refine ac func208 ntmps208 ?_;refine rg ?_;refine rg ?_;cases h;exact aB.ret (bM [.tmp 2])
def Pn (x0:Int) (x1:Int):Option (Int):=(call (Pm x0) fun y1=>(call (Pm x1) fun y2=>(aE y1 (aE y2 (some 0) (some (-1))) (aE y2 (some 1) (aE (decide (x0<x1)) (some (-1)) (aE (decide (x0>x1)) (some 1) (some 0)))))))
def aG7 (x0:Int) (x1:Int) (r:Int) (h:Pn x0 x1=some r):cG prog 193 [aI x0,aI x1] (aI r):=by
 intro s;unfold Pn at h;refine ac func193 ntmps193 ?_;refine rg ?_;refine dH (ID x0) h fun y1 _ h=>?_;refine dH (ID x1) h fun y2 _ h=>?_;apply aB.seq;refine rg ?_;refine wz h (fun h=>?_) fun h=>?_
 ·apply aB.seq;refine rg ?_;refine wz h (fun h=>?_) fun h=>?_
  ·refine rg ?_;cases h;exact aB.ret (bM [.tmp 4])
  ·apply sK;refine rg ?_;cases h;exact aB.ret (bM [.tmp 4])
 ·apply sK;apply aB.seq;refine rg ?_;refine wz h (fun h=>?_) fun h=>?_
  ·refine rg ?_;cases h;exact aB.ret (bM [.tmp 4])
  ·apply sK;apply aB.seq;refine rg ?_;refine wz h (fun h=>?_) fun h=>?_
   ·refine rg ?_;cases h;exact aB.ret (bM [.tmp 4])
   ·apply sK;apply aB.seq;refine rg ?_;refine wz h (fun h=>?_) fun h=>?_
    ·refine rg ?_;cases h;exact aB.ret (bM [.tmp 4])
    ·apply sK;refine rg ?_;cases h;exact aB.ret (bM [.tmp 4])
def Iu (x0:ByteArray) (x1:ByteArray):Option (Int):=(join (fun u4=>(u4 (x0,x1))) (fun(q3:ByteArray×ByteArray)=>(cF (fun u9 (q8:Int)=>(aE (decide (q8<(dW (q3.1.size:Int) (q3.2.size:Int)))) (aR (0<=q8∧q8<(q3.1.size:Int)) (aR (0<=q8∧q8<(q3.2.size:Int)) (call (Fx ((q3.1.data.toList.getD q8.toNat 0).toNat:Int)) fun y15=>(call (Fx ((q3.2.data.toList.getD q8.toNat 0).toNat:Int)) fun y16=>(call (Kn y15 y16) fun y17=>(aE (y17 != 0) (some y17) (u9 (i64.wrap (q8+1))))))))) (call (Pn (q3.1.size:Int) (q3.2.size:Int)) fun y19=>(some y19)))) bQ 0)))
def aB7 (x0:ByteArray) (x1:ByteArray) (r:Int) (h:Iu x0 x1=some r):cG prog 172 [aM x0,aM x1,aI 1] (aI r):=by
 intro s;unfold Iu at h;refine ac func172 ntmps172 ?_;refine rg ?_;refine rg ?_;refine jn h (fun q3=>bN [(0,aM q3.1),(1,aM q3.2),(7,.func 190 [] [])] [] s 47) (fun u4 h=>?_) ?_
 ·refine rg ?_;apply aB.block;have hd5:((1:Int)==1)=true:=by decide
  refine bG hd5 ?_;refine aB.cond (t:=true) (by rfl) (fun _=>?_) (fun hf=>by cases hf);refine r1 ?_;exact⟨(x0,x1),h,bX⟩
 ·rintro⟨v1,v2⟩ h;(try dsimp only at h ⊢);apply aB.seq;refine rg ?_;apply aB.block;refine lp h (fun q8=>bN [(0,aM v1),(1,aM v2),(7,.func 190 [] []),(23,aI (dW (v1.size:Int) (v2.size:Int))),(24,aI q8)] [] s 47) ?_ ?_
  ·exact bX
  ·rintro u9 v7 h;refine rg ?_;apply aB.seq;refine wz h (fun h=>?_) fun h=>?_
   ·apply sK;apply aB.seq;apply aB.block;refine rg ?_;obtain⟨hn13,h⟩:=aV h;obtain⟨hn14,h⟩:=aV h;obtain⟨y15,hy15,h⟩:=cC h;obtain⟨y16,hy16,h⟩:=cC h;refine XS [0,1,2,3,5,6,7,8,4,9,10,11] [] (ai (aJ hn13.1)<|ai (aJ hn13.2)<|ai (aJ hn14.1)<|(aJ hn14.2)) (IF ((v1.data.toList.getD v7.toNat 0).toNat:Int) _ hy15) (IF ((v2.data.toList.getD v7.toNat 0).toNat:Int) _ hy16) (aG8 y15 y16) h fun y17 hy17 h=>?_;refine rg ?_;refine wz h (fun h=>?_) fun h=>?_
    ·refine rg ?_;cases h;exact aB.ret (bM [.tmp 6])
    ·apply sK;refine r1 ?_;exact⟨(i64.wrap (v7+1)),h,bX⟩
   ·apply aB.exit;simp only[dR,seval];refine dH (aG7 (v1.size:Int) (v2.size:Int)) h fun y19 _ h=>?_;cases h;exact aB.ret (bM [.tmp 6])
def Ns (x0:ByteArray) (x1:ByteArray):Option (Bool):=(call (Iu x0 x1) fun y1=>(some (y1==0)))
def aB8 (x0:ByteArray) (x1:ByteArray) (r:Bool) (h:Ns x0 x1=some r):cG prog 144 [aM x0,aM x1,aI 1] (aY r):=by
 intro s;unfold Ns at h;refine ac func144 ntmps144 ?_;refine rg ?_;refine dH (aB7 x0 x1) h fun y1 _ h=>?_;cases h;exact aB.ret (bM [.tmp 6])
def Nt (x0:ByteArray) (x1:ByteArray):Option (Bool):=(call (Ns x1 x0) fun y1=>(some y1))
def aB9 (x0:ByteArray) (x1:ByteArray) (r:Bool) (h:Nt x0 x1=some r):cG prog 143 [aM x0,.elt [aM x1] 0] (aY r):=by
 intro s;unfold Nt at h;refine ac func143 ntmps143 ?_;refine rg ?_;refine dH (aB8 x1 x0) h fun y1 _ h=>?_;cases h;exact aB.ret (bM [.tmp 3])
def Iv (x0:(List ByteArray)) (x1_0:ByteArray):Option (Int):=(cF (fun u4 (q3:Int)=>(aE (decide (q3<(x0.length:Int))) (aR (0<=q3∧q3<(x0.length:Int)) (call (Nt (x0.getD q3.toNat bO) x1_0) fun y10=>(aE y10 (some q3) (u4 (i64.wrap (q3+1)))))) (some (-1)))) bQ 0)
def aCb (x0:(List ByteArray)) (x1_0:ByteArray) (r:Int) (h:Iv x0 x1_0=some r):cG prog 125 [.slice 1 (List.map (fun x=>[aM x]) x0),.func 143 [] [.elt [aM x1_0] 0]] (aI r):=by
 intro s;unfold Iv at h;refine ac func125 ntmps125 ?_;refine rg ?_;apply aB.seq;refine rg ?_;apply aB.block;refine lp h (fun q3=>bN [(0,.slice 1 (List.map (fun x=>[aM x]) x0)),(1,.func 143 [] [.elt [aM x1_0] 0]),(7,aI (x0.length:Int)),(8,aI q3)] [] s 19) ?_ ?_
 ·exact bX
 ·rintro u4 v2 h;refine rg ?_;apply aB.seq;refine wz h (fun h=>?_) fun h=>?_
  ·apply sK;apply aB.seq;apply aB.block;refine rg ?_;obtain⟨hn9,h⟩:=aV h;refine dN (ai (aJ hn9.1)<|ai (aJ hn9.2)<|(bW (fun x=>[aM x]) bO hn9)) (aB9 (x0.getD v2.toNat bO) x1_0) h fun y10 hy10 h=>?_;refine wz h (fun h=>?_) fun h=>?_
   ·refine rg ?_;cases h;exact aB.ret (bM [.tmp 4])
   ·apply sK;refine r1 ?_;exact⟨(i64.wrap (v2+1)),h,bX⟩
  ·apply aB.exit;simp only[dR,seval];refine rg ?_;cases h;exact aB.ret (bM [.tmp 4])
def On (x0:(List ByteArray)) (x1_0:ByteArray):Option (Bool):=(call (Iv x0 x1_0) fun y1=>(some (decide (y1>=0))))
def aE7 (x0:(List ByteArray)) (x1_0:ByteArray) (r:Bool) (h:On x0 x1_0=some r):cG prog 81 [.slice 1 (List.map (fun x=>[aM x]) x0),.func 143 [] [.elt [aM x1_0] 0]] (aY r):=by
 intro s;unfold On at h;refine ac func81 ntmps81 ?_;refine rg ?_;refine dH (aCb x0 x1_0) h fun y1 _ h=>?_;cases h;exact aB.ret (bM [.tmp 4])
def pT (x0:ByteArray) (x1:(List ByteArray)):Option (Bool):=(call (On x1 x0) fun y1=>(some y1))
def Ps (x0:ByteArray) (x1:(List ByteArray)) (r:Bool) (h:pT x0 x1=some r):cG prog 103 [aM x0,.slice 1 (List.map (fun x=>[aM x]) x1)] (aY r):=by
 intro s;unfold pT at h;refine ac func103 ntmps103 ?_;refine rg ?_;refine aB.dO 2 (cs:=[aM x0]) (ty:=9) (by first|rfl|simp only[am,seval,reduceCtorEq]) ?_;refine aB.weaken (st':=bN [(0,aM x0),(1,.slice 1 (List.map (fun x=>[aM x]) x1)),(2,.elt [aM x0] 0),(4,aY false)] [] s 8) ?_ ?_
 ·refine qY ?_ ?_ ?_ (aL.le.refl _) rfl
  ·simp only[jK,St.dO,tM,am,seval,reduceCtorEq]<;>simp
  ·simp only[gB,iG,Nat.reduceBEq,kJ,kI,jE,and_self]
  ·simp only[jL,St.dO,tM,am,seval,reduceCtorEq]
 refine dH (aE7 x1 x0) h fun y1 _ h=>?_;cases h;exact aB.ret (bM [.tmp 4])
def wB:Option (List ByteArray):=(some ([(bm #[73,78,84,69,71,69,82]),(bm #[73,78,84]),(bm #[84,69,88,84]),(bm #[66,76,79,66])]))
def IL (r:(List ByteArray)) (h:wB=some r):cG prog 104 [] (.slice 1 (List.map (fun x=>[aM x]) r)):=by
 intro s;unfold wB at h;refine ac func104 ntmps104 ?_;refine rg ?_;refine rg ?_;cases h;exact aB.ret (bM [.tmp 0])
def wA:Option (List ByteArray):=(some ([(bm #[66,73,78,65,82,89]),(bm #[78,79,67,65,83,69]),(bm #[82,84,82,73,77])]))
def IK (r:(List ByteArray)) (h:wA=some r):cG prog 105 [] (.slice 1 (List.map (fun x=>[aM x]) r)):=by
 intro s;unfold wA at h;refine ac func105 ntmps105 ?_;refine rg ?_;refine rg ?_;cases h;exact aB.ret (bM [.tmp 0])
def Pw (x0:(List ByteArray)) (x1:(List ByteArray)):Option (Bool):=(aE ((x0.length:Int) != (x1.length:Int)) (some false) (cF (fun u6 (q5:Int)=>(aE (decide (q5<(x0.length:Int))) (aR (0<=q5∧q5<(x0.length:Int)) (aR (0<=q5∧q5<(x1.length:Int)) (aE (!((x0.getD q5.toNat bO).data.toList==(x1.getD q5.toNat bO).data.toList)) (some false) (u6 (i64.wrap (q5+1)))))) (some true))) bQ 0))
def JD (x0:(List ByteArray)) (x1:(List ByteArray)) (r:Bool) (h:Pw x0 x1=some r):cG prog 26 [.slice 1 (List.map (fun x=>[aM x]) x0),.slice 1 (List.map (fun x=>[aM x]) x1)] (aY r):=by
 intro s;unfold Pw at h;refine ac func26 ntmps26 ?_;refine rg ?_;apply aB.seq;refine rg ?_;refine wz h (fun h=>?_) fun h=>?_
 ·refine rg ?_;cases h;exact aB.ret (bM [.tmp 4])
 ·apply sK;apply aB.seq;refine rg ?_;apply aB.block;refine lp h (fun q5=>bN [(0,.slice 1 (List.map (fun x=>[aM x]) x0)),(1,.slice 1 (List.map (fun x=>[aM x]) x1)),(12,aI (x0.length:Int)),(13,aI q5)] [] s 26) ?_ ?_
  ·exact bX
  ·rintro u6 v4 h;refine rg ?_;apply aB.seq;refine wz h (fun h=>?_) fun h=>?_
   ·apply sK;apply aB.seq;apply aB.block;refine rg ?_;obtain⟨hn11,h⟩:=aV h;obtain⟨hn13,h⟩:=aV h;refine Au [0,1,2,3,4,5,6,7,8] [] (ai (aJ hn11.1)<|ai (aJ hn11.2)<|ai (bW (fun x=>[aM x]) bO hn11)<|ai (aJ hn13.1)<|ai (aJ hn13.2)<|(bW (fun x=>[aM x]) bO hn13)) ?_;refine wz h (fun h=>?_) fun h=>?_
    ·refine rg ?_;cases h;exact aB.ret (bM [.tmp 4])
    ·apply sK;refine r1 ?_;exact⟨(i64.wrap (v4+1)),h,bX⟩
   ·apply aB.exit;simp only[dR,seval];refine rg ?_;cases h;exact aB.ret (bM [.tmp 4])
structure cY where
 p11:aF->aF->Option (Bool)
 p17_1:(List aA)->(List aA)->Option (Bool)
 p18_1:(List aF)->(List aF)->Option (Bool)
 p24_1:(List bE)->(List bE)->Option (Bool)
 p25:bE->bE->Option (Bool)
 p27_1:(List aK)->(List aK)->Option (Bool)
 p28:aK->aK->Option (Bool)
 p29_1:(List aX)->(List aX)->Option (Bool)
 p30:aX->aX->Option (Bool)
 p54_1:(List bA)->(List bA)->Option (Bool)
 p55:bA->bA->Option (Bool)
 p56_1:(List aO)->(List aO)->Option (Bool)
 p57:aO->aO->Option (Bool)
 p58_1:(List (List aA))->(List (List aA))->Option (Bool)
 p59:(List aA)->(List aA)->Option (Bool)
 p8:aA->aA->Option (Bool)
abbrev KD (f:aF->aF->Option (Bool)):Prop:=∀(x0:aF) (x1:aF) (r:Bool),f x0 x1=some r->cG prog 11 [.agg x0.v,.agg x1.v] (aY r)
abbrev HO (f:(List aA)->(List aA)->Option (Bool)):Prop:=∀(x0:(List aA)) (x1:(List aA)) (r:Bool),f x0 x1=some r->cG prog 17 [.slice 10 (x0.map aA.v),.slice 10 (x1.map aA.v),.func 8 [] []] (aY r)
abbrev HN (f:(List aF)->(List aF)->Option (Bool)):Prop:=∀(x0:(List aF)) (x1:(List aF)) (r:Bool),f x0 x1=some r->cG prog 18 [.slice 5 (x0.map aF.v),.slice 5 (x1.map aF.v),.func 11 [] []] (aY r)
abbrev HM (f:(List bE)->(List bE)->Option (Bool)):Prop:=∀(x0:(List bE)) (x1:(List bE)) (r:Bool),f x0 x1=some r->cG prog 24 [.slice 3 (x0.map bE.v),.slice 3 (x1.map bE.v),.func 25 [] []] (aY r)
abbrev JY (f:bE->bE->Option (Bool)):Prop:=∀(x0:bE) (x1:bE) (r:Bool),f x0 x1=some r->cG prog 25 [.agg x0.v,.agg x1.v] (aY r)
abbrev HL (f:(List aK)->(List aK)->Option (Bool)):Prop:=∀(x0:(List aK)) (x1:(List aK)) (r:Bool),f x0 x1=some r->cG prog 27 [.slice 8 (x0.map aK.v),.slice 8 (x1.map aK.v),.func 28 [] []] (aY r)
abbrev JX (f:aK->aK->Option (Bool)):Prop:=∀(x0:aK) (x1:aK) (r:Bool),f x0 x1=some r->cG prog 28 [.agg x0.v,.agg x1.v] (aY r)
abbrev HK (f:(List aX)->(List aX)->Option (Bool)):Prop:=∀(x0:(List aX)) (x1:(List aX)) (r:Bool),f x0 x1=some r->cG prog 29 [.slice 11 (x0.map aX.v),.slice 11 (x1.map aX.v),.func 30 [] []] (aY r)
abbrev JW (f:aX->aX->Option (Bool)):Prop:=∀(x0:aX) (x1:aX) (r:Bool),f x0 x1=some r->cG prog 30 [.agg x0.v,.agg x1.v] (aY r)
abbrev HA (f:(List bA)->(List bA)->Option (Bool)):Prop:=∀(x0:(List bA)) (x1:(List bA)) (r:Bool),f x0 x1=some r->cG prog 54 [.slice 4 (x0.map bA.v),.slice 4 (x1.map bA.v),.func 55 [] []] (aY r)
abbrev JP (f:bA->bA->Option (Bool)):Prop:=∀(x0:bA) (x1:bA) (r:Bool),f x0 x1=some r->cG prog 55 [.agg x0.v,.agg x1.v] (aY r)
abbrev GZ (f:(List aO)->(List aO)->Option (Bool)):Prop:=∀(x0:(List aO)) (x1:(List aO)) (r:Bool),f x0 x1=some r->cG prog 56 [.slice 5 (x0.map aO.v),.slice 5 (x1.map aO.v),.func 57 [] []] (aY r)
abbrev JO (f:aO->aO->Option (Bool)):Prop:=∀(x0:aO) (x1:aO) (r:Bool),f x0 x1=some r->cG prog 57 [.agg x0.v,.agg x1.v] (aY r)
abbrev GY (f:(List (List aA))->(List (List aA))->Option (Bool)):Prop:=∀(x0:(List (List aA))) (x1:(List (List aA))) (r:Bool),f x0 x1=some r->cG prog 58 [.slice 1 (List.map (fun x=>[V.slice 10 (x.map aA.v)]) x0),.slice 1 (List.map (fun x=>[V.slice 10 (x.map aA.v)]) x1),.func 59 [] []] (aY r)
abbrev JN (f:(List aA)->(List aA)->Option (Bool)):Prop:=∀(x0:(List aA)) (x1:(List aA)) (r:Bool),f x0 x1=some r->cG prog 59 [.slice 10 (x0.map aA.v),.slice 10 (x1.map aA.v)] (aY r)
abbrev K8 (f:aA->aA->Option (Bool)):Prop:=∀(x0:aA) (x1:aA) (r:Bool),f x0 x1=some r->cG prog 8 [.agg x0.v,.agg x1.v] (aY r)
structure cY.Ok (F:cY):Prop where
 p11:KD F.p11
 p17_1:HO F.p17_1
 p18_1:HN F.p18_1
 p24_1:HM F.p24_1
 p25:JY F.p25
 p27_1:HL F.p27_1
 p28:JX F.p28
 p29_1:HK F.p29_1
 p30:JW F.p30
 p54_1:HA F.p54_1
 p55:JP F.p55
 p56_1:GZ F.p56_1
 p57:JO F.p57
 p58_1:GY F.p58_1
 p59:JN F.p59
 p8:K8 F.p8
def Lv (F:cY) (x0:aF) (x1:aF):Option (Bool):=(join (fun u3=>(call (F.p24_1 x0.with_ x1.with_) fun y5=>(aE y5 (call (F.p27_1 x0.parts x1.parts) fun y7=>(aE y7 (call (F.p29_1 x0.order x1.order) fun y9=>(aE y9 (call (F.p17_1 x0.limit x1.limit) fun y11=>(aE y11 (call (F.p17_1 x0.offset x1.offset) fun y13=>(u3 y13)) (u3 false))) (u3 false))) (u3 false))) (u3 false)))) (fun(q2:Bool)=>(some q2)))
def d11 (F:cY) (H:F.Ok):KD (Lv F):=fun x0 x1 r h=>by
 intro s;unfold Lv at h;refine ac func11 ntmps11 ?_;refine rg ?_;refine jn h (fun q2=>bN [(4,aY q2)] [] s 38) (fun u3 h=>?_) ?_
 ·refine aB.fW fun Z4 hZ4=>?_;(try simp only[undef,fM,fT,xm,Nat.reduceAdd,Nat.reduceLeDiff,seval,reduceCtorEq]);obtain⟨y5,hy5,h⟩:=cC h;refine dV (H.p24_1 x0.with_ x1.with_ _ hy5) ?_;(try simp only[undef,fM,fT,xm,Nat.reduceAdd,Nat.reduceLeDiff,seval,reduceCtorEq]);refine wL h (by rfl) (fun hg6 h=>?_) (fun hg6 h=>?_)
  ·(try simp only[hg6,undef,fM,fT,xm,Nat.reduceAdd,Nat.reduceLeDiff,seval,reduceCtorEq]);obtain⟨y7,hy7,h⟩:=cC h;refine dV (H.p27_1 x0.parts x1.parts _ hy7) ?_;(try simp only[hg6,undef,fM,fT,xm,Nat.reduceAdd,Nat.reduceLeDiff,seval,reduceCtorEq]);refine wL h (by rfl) (fun hg8 h=>?_) (fun hg8 h=>?_)
   ·(try simp only[hg6,hg8,undef,fM,fT,xm,Nat.reduceAdd,Nat.reduceLeDiff,seval,reduceCtorEq]);obtain⟨y9,hy9,h⟩:=cC h;refine dV (H.p29_1 x0.order x1.order _ hy9) ?_;(try simp only[hg6,hg8,undef,fM,fT,xm,Nat.reduceAdd,Nat.reduceLeDiff,seval,reduceCtorEq]);refine wL h (by rfl) (fun hg10 h=>?_) (fun hg10 h=>?_)
    ·(try simp only[hg6,hg8,hg10,undef,fM,fT,xm,Nat.reduceAdd,Nat.reduceLeDiff,seval,reduceCtorEq]);obtain⟨y11,hy11,h⟩:=cC h;refine dV (H.p17_1 x0.limit x1.limit _ hy11) ?_;(try simp only[hg6,hg8,hg10,undef,fM,fT,xm,Nat.reduceAdd,Nat.reduceLeDiff,seval,reduceCtorEq]);refine wL h (by rfl) (fun hg12 h=>?_) (fun hg12 h=>?_)
     ·(try simp only[hg6,hg8,hg10,hg12,undef,fM,fT,xm,Nat.reduceAdd,Nat.reduceLeDiff,seval,reduceCtorEq]);obtain⟨y13,hy13,h⟩:=cC h;refine dV (H.p17_1 x0.offset x1.offset _ hy13) ?_;(try simp only[hg6,hg8,hg10,hg12,undef,fM,fT,xm,Nat.reduceAdd,Nat.reduceLeDiff,seval,reduceCtorEq]);refine hZ4 _ ?_;clear hZ4 Z4;exact⟨y13,h,bB (ai hg6<|ai hg8<|ai hg10<|hg12)⟩
     ·(try simp only[hg6,hg8,hg10,hg12,undef,fM,fT,xm,Nat.reduceAdd,Nat.reduceLeDiff,seval,reduceCtorEq]);refine hZ4 _ ?_;clear hZ4 Z4;exact⟨false,h,bB (ai hg6<|ai hg8<|ai hg10<|hg12)⟩
    ·(try simp only[hg6,hg8,hg10,undef,fM,fT,xm,Nat.reduceAdd,Nat.reduceLeDiff,seval,reduceCtorEq]);refine hZ4 _ ?_;clear hZ4 Z4;exact⟨false,h,bB (ai hg6<|ai hg8<|hg10)⟩
   ·(try simp only[hg6,hg8,undef,fM,fT,xm,Nat.reduceAdd,Nat.reduceLeDiff,seval,reduceCtorEq]);refine hZ4 _ ?_;clear hZ4 Z4;exact⟨false,h,bB (ai hg6<|hg8)⟩
  ·(try simp only[hg6,undef,fM,fT,xm,Nat.reduceAdd,Nat.reduceLeDiff,seval,reduceCtorEq]);refine hZ4 _ ?_;clear hZ4 Z4;exact⟨false,h,bB hg6⟩
 ·rintro v1 h;cases h;exact aB.ret (bM [.tmp 4])
def Kh (F:cY) (x0:(List aA)) (x1:(List aA)):Option (Bool):=(aE ((x0.length:Int) != (x1.length:Int)) (some false) (cF (fun u6 (q5:Int)=>(aE (decide (q5<(x0.length:Int))) (aR (0<=q5∧q5<(x0.length:Int)) (aR (0<=q5∧q5<(x1.length:Int)) (call (F.p8 (x0.getD q5.toNat aA.z) (x1.getD q5.toNat aA.z)) fun y14=>(aE (!y14) (some false) (u6 (i64.wrap (q5+1))))))) (some true))) bQ 0))
def aE3 (F:cY) (H:F.Ok):HO (Kh F):=fun x0 x1 r h=>by
 intro s;unfold Kh at h;refine ac func17 ntmps17 ?_;refine rg ?_;apply aB.seq;refine rg ?_;refine wz h (fun h=>?_) fun h=>?_
 ·refine rg ?_;cases h;exact aB.ret (bM [.tmp 6])
 ·apply sK;apply aB.seq;refine rg ?_;apply aB.block;refine lp h (fun q5=>bN [(1,.slice 10 (x1.map aA.v)),(2,.func 8 [] []),(15,.slice 10 (x0.map aA.v)),(16,aI (x0.length:Int)),(17,aI q5)] [] s 32) ?_ ?_
  ·exact bX
  ·rintro u6 v4 h;refine rg ?_;apply aB.seq;refine wz h (fun h=>?_) fun h=>?_
   ·apply sK;apply aB.seq;apply aB.block;obtain⟨hn11,h⟩:=aV h;refine bG (ai (aJ hn11.1)<|ai (aJ hn11.2)<|(bW aA.v aA.z hn11)) ?_;obtain⟨hn13,h⟩:=aV h;refine bG (ai (aJ hn13.1)<|ai (aJ hn13.2)<|(bW aA.v aA.z hn13)) ?_;refine dH (H.p8 (x0.getD v4.toNat aA.z) (x1.getD v4.toNat aA.z)) h fun y14 _ h=>?_;refine wz h (fun h=>?_) fun h=>?_
    ·refine rg ?_;cases h;exact aB.ret (bM [.tmp 6])
    ·apply sK;refine r1 ?_;exact⟨(i64.wrap (v4+1)),h,bX⟩
   ·apply aB.exit;simp only[dR,seval];refine rg ?_;cases h;exact aB.ret (bM [.tmp 6])
def Kg (F:cY) (x0:(List aF)) (x1:(List aF)):Option (Bool):=(aE ((x0.length:Int) != (x1.length:Int)) (some false) (cF (fun u6 (q5:Int)=>(aE (decide (q5<(x0.length:Int))) (aR (0<=q5∧q5<(x0.length:Int)) (aR (0<=q5∧q5<(x1.length:Int)) (call (F.p11 (x0.getD q5.toNat aF.z) (x1.getD q5.toNat aF.z)) fun y14=>(aE (!y14) (some false) (u6 (i64.wrap (q5+1))))))) (some true))) bQ 0))
def aE2 (F:cY) (H:F.Ok):HN (Kg F):=fun x0 x1 r h=>by
 intro s;unfold Kg at h;refine ac func18 ntmps18 ?_;refine rg ?_;apply aB.seq;refine rg ?_;refine wz h (fun h=>?_) fun h=>?_
 ·refine rg ?_;cases h;exact aB.ret (bM [.tmp 6])
 ·apply sK;apply aB.seq;refine rg ?_;apply aB.block;refine lp h (fun q5=>bN [(1,.slice 5 (x1.map aF.v)),(2,.func 11 [] []),(15,.slice 5 (x0.map aF.v)),(16,aI (x0.length:Int)),(17,aI q5)] [] s 32) ?_ ?_
  ·exact bX
  ·rintro u6 v4 h;refine rg ?_;apply aB.seq;refine wz h (fun h=>?_) fun h=>?_
   ·apply sK;apply aB.seq;apply aB.block;obtain⟨hn11,h⟩:=aV h;refine bG (ai (aJ hn11.1)<|ai (aJ hn11.2)<|(bW aF.v aF.z hn11)) ?_;obtain⟨hn13,h⟩:=aV h;refine bG (ai (aJ hn13.1)<|ai (aJ hn13.2)<|(bW aF.v aF.z hn13)) ?_;refine dH (H.p11 (x0.getD v4.toNat aF.z) (x1.getD v4.toNat aF.z)) h fun y14 _ h=>?_;refine wz h (fun h=>?_) fun h=>?_
    ·refine rg ?_;cases h;exact aB.ret (bM [.tmp 6])
    ·apply sK;refine r1 ?_;exact⟨(i64.wrap (v4+1)),h,bX⟩
   ·apply aB.exit;simp only[dR,seval];refine rg ?_;cases h;exact aB.ret (bM [.tmp 6])
def Kf (F:cY) (x0:(List bE)) (x1:(List bE)):Option (Bool):=(aE ((x0.length:Int) != (x1.length:Int)) (some false) (cF (fun u6 (q5:Int)=>(aE (decide (q5<(x0.length:Int))) (aR (0<=q5∧q5<(x0.length:Int)) (aR (0<=q5∧q5<(x1.length:Int)) (call (F.p25 (x0.getD q5.toNat bE.z) (x1.getD q5.toNat bE.z)) fun y14=>(aE (!y14) (some false) (u6 (i64.wrap (q5+1))))))) (some true))) bQ 0))
def aE1 (F:cY) (H:F.Ok):HM (Kf F):=fun x0 x1 r h=>by
 intro s;unfold Kf at h;refine ac func24 ntmps24 ?_;refine rg ?_;apply aB.seq;refine rg ?_;refine wz h (fun h=>?_) fun h=>?_
 ·refine rg ?_;cases h;exact aB.ret (bM [.tmp 6])
 ·apply sK;apply aB.seq;refine rg ?_;apply aB.block;refine lp h (fun q5=>bN [(1,.slice 3 (x1.map bE.v)),(2,.func 25 [] []),(15,.slice 3 (x0.map bE.v)),(16,aI (x0.length:Int)),(17,aI q5)] [] s 32) ?_ ?_
  ·exact bX
  ·rintro u6 v4 h;refine rg ?_;apply aB.seq;refine wz h (fun h=>?_) fun h=>?_
   ·apply sK;apply aB.seq;apply aB.block;obtain⟨hn11,h⟩:=aV h;refine bG (ai (aJ hn11.1)<|ai (aJ hn11.2)<|(bW bE.v bE.z hn11)) ?_;obtain⟨hn13,h⟩:=aV h;refine bG (ai (aJ hn13.1)<|ai (aJ hn13.2)<|(bW bE.v bE.z hn13)) ?_;refine dH (H.p25 (x0.getD v4.toNat bE.z) (x1.getD v4.toNat bE.z)) h fun y14 _ h=>?_;refine wz h (fun h=>?_) fun h=>?_
    ·refine rg ?_;cases h;exact aB.ret (bM [.tmp 6])
    ·apply sK;refine r1 ?_;exact⟨(i64.wrap (v4+1)),h,bX⟩
   ·apply aB.exit;simp only[dR,seval];refine rg ?_;cases h;exact aB.ret (bM [.tmp 6])
def Lu (F:cY) (x0:bE) (x1:bE):Option (Bool):=(join (fun u3=>(aE (x0.name.data.toList==x1.name.data.toList) (call (Pw x0.cols x1.cols) fun y5=>(aE y5 (call (F.p18_1 x0.body x1.body) fun y7=>(u3 y7)) (u3 false))) (u3 false))) (fun(q2:Bool)=>(some q2)))
def d25 (F:cY) (H:F.Ok):JY (Lu F):=fun x0 x1 r h=>by
 intro s;unfold Lu at h;refine ac func25 ntmps25 ?_;refine rg ?_;refine jn h (fun q2=>bN [(4,aY q2)] [] s 24) (fun u3 h=>?_) ?_
 ·refine wy h (fun hg4 h=>?_) fun hg4 h=>?_
  ·obtain⟨y5,hy5,h⟩:=cC h;refine wy h (fun hg6 h=>?_) fun hg6 h=>?_
   ·refine rC (ai hg4<|hg6) (JD x0.cols x1.cols _ hy5) (H.p18_1 x0.body x1.body) h fun y7 hy7 h=>?_;exact⟨y7,h,bB (ai hg4<|hg6)⟩
   ·refine kO (ai hg4<|hg6) (JD x0.cols x1.cols _ hy5) ?_;exact⟨false,h,bB (ai hg4<|hg6)⟩
  ·refine bU hg4 ?_;exact⟨false,h,bB hg4⟩
 ·rintro v1 h;cases h;exact aB.ret (bM [.tmp 4])
def Ke (F:cY) (x0:(List aK)) (x1:(List aK)):Option (Bool):=(aE ((x0.length:Int) != (x1.length:Int)) (some false) (cF (fun u6 (q5:Int)=>(aE (decide (q5<(x0.length:Int))) (aR (0<=q5∧q5<(x0.length:Int)) (aR (0<=q5∧q5<(x1.length:Int)) (call (F.p28 (x0.getD q5.toNat aK.z) (x1.getD q5.toNat aK.z)) fun y14=>(aE (!y14) (some false) (u6 (i64.wrap (q5+1))))))) (some true))) bQ 0))
def aE0 (F:cY) (H:F.Ok):HL (Ke F):=fun x0 x1 r h=>by
 intro s;unfold Ke at h;refine ac func27 ntmps27 ?_;refine rg ?_;apply aB.seq;refine rg ?_;refine wz h (fun h=>?_) fun h=>?_
 ·refine rg ?_;cases h;exact aB.ret (bM [.tmp 6])
 ·apply sK;apply aB.seq;refine rg ?_;apply aB.block;refine lp h (fun q5=>bN [(1,.slice 8 (x1.map aK.v)),(2,.func 28 [] []),(15,.slice 8 (x0.map aK.v)),(16,aI (x0.length:Int)),(17,aI q5)] [] s 32) ?_ ?_
  ·exact bX
  ·rintro u6 v4 h;refine rg ?_;apply aB.seq;refine wz h (fun h=>?_) fun h=>?_
   ·apply sK;apply aB.seq;apply aB.block;obtain⟨hn11,h⟩:=aV h;refine bG (ai (aJ hn11.1)<|ai (aJ hn11.2)<|(bW aK.v aK.z hn11)) ?_;obtain⟨hn13,h⟩:=aV h;refine bG (ai (aJ hn13.1)<|ai (aJ hn13.2)<|(bW aK.v aK.z hn13)) ?_;refine dH (H.p28 (x0.getD v4.toNat aK.z) (x1.getD v4.toNat aK.z)) h fun y14 _ h=>?_;refine wz h (fun h=>?_) fun h=>?_
    ·refine rg ?_;cases h;exact aB.ret (bM [.tmp 6])
    ·apply sK;refine r1 ?_;exact⟨(i64.wrap (v4+1)),h,bX⟩
   ·apply aB.exit;simp only[dR,seval];refine rg ?_;cases h;exact aB.ret (bM [.tmp 6])
def Gp (F:cY) (x0:aK) (x1:aK):Option (Bool):=(join (fun u3=>(aE (x0.comp==x1.comp) (aE (x0.distinct==x1.distinct) (call (F.p54_1 x0.items x1.items) fun y7=>(aE y7 (call (F.p56_1 x0.from_ x1.from_) fun y9=>(aE y9 (call (F.p17_1 x0.where_ x1.where_) fun y11=>(aE y11 (call (F.p17_1 x0.group x1.group) fun y13=>(aE y13 (call (F.p17_1 x0.having x1.having) fun y15=>(aE y15 (call (F.p58_1 x0.values x1.values) fun y17=>(u3 y17)) (u3 false))) (u3 false))) (u3 false))) (u3 false))) (u3 false))) (u3 false)) (u3 false))) (fun(q2:Bool)=>(some q2)))
def d28 (F:cY) (H:F.Ok):JX (Gp F):=fun x0 x1 r h=>by
 intro s;unfold Gp at h;refine ac func28 ntmps28 ?_;refine rg ?_;refine jn h (fun q2=>bN [(4,aY q2)] [] s 59) (fun u3 h=>?_) ?_
 ·refine aB.fW fun Z4 hZ4=>?_;(try simp only[undef,fM,fT,xm,Nat.reduceAdd,Nat.reduceLeDiff,seval,reduceCtorEq]);refine wL h (by rfl) (fun hg5 h=>?_) (fun hg5 h=>?_)
  ·(try simp only[hg5,undef,fM,fT,xm,Nat.reduceAdd,Nat.reduceLeDiff,seval,reduceCtorEq]);refine wL h (by rfl) (fun hg6 h=>?_) (fun hg6 h=>?_)
   ·(try simp only[hg5,hg6,undef,fM,fT,xm,Nat.reduceAdd,Nat.reduceLeDiff,seval,reduceCtorEq]);obtain⟨y7,hy7,h⟩:=cC h;refine dV (H.p54_1 x0.items x1.items _ hy7) ?_;(try simp only[hg5,hg6,undef,fM,fT,xm,Nat.reduceAdd,Nat.reduceLeDiff,seval,reduceCtorEq]);refine wL h (by rfl) (fun hg8 h=>?_) (fun hg8 h=>?_)
    ·(try simp only[hg5,hg6,hg8,undef,fM,fT,xm,Nat.reduceAdd,Nat.reduceLeDiff,seval,reduceCtorEq]);obtain⟨y9,hy9,h⟩:=cC h;refine dV (H.p56_1 x0.from_ x1.from_ _ hy9) ?_;(try simp only[hg5,hg6,hg8,undef,fM,fT,xm,Nat.reduceAdd,Nat.reduceLeDiff,seval,reduceCtorEq]);refine wL h (by rfl) (fun hg10 h=>?_) (fun hg10 h=>?_)
     ·(try simp only[hg5,hg6,hg8,hg10,undef,fM,fT,xm,Nat.reduceAdd,Nat.reduceLeDiff,seval,reduceCtorEq]);obtain⟨y11,hy11,h⟩:=cC h;refine dV (H.p17_1 x0.where_ x1.where_ _ hy11) ?_;(try simp only[hg5,hg6,hg8,hg10,undef,fM,fT,xm,Nat.reduceAdd,Nat.reduceLeDiff,seval,reduceCtorEq]);refine wL h (by rfl) (fun hg12 h=>?_) (fun hg12 h=>?_)
      ·(try simp only[hg5,hg6,hg8,hg10,hg12,undef,fM,fT,xm,Nat.reduceAdd,Nat.reduceLeDiff,seval,reduceCtorEq]);obtain⟨y13,hy13,h⟩:=cC h;refine dV (H.p17_1 x0.group x1.group _ hy13) ?_;(try simp only[hg5,hg6,hg8,hg10,hg12,undef,fM,fT,xm,Nat.reduceAdd,Nat.reduceLeDiff,seval,reduceCtorEq]);refine wL h (by rfl) (fun hg14 h=>?_) (fun hg14 h=>?_)
       ·(try simp only[hg5,hg6,hg8,hg10,hg12,hg14,undef,fM,fT,xm,Nat.reduceAdd,Nat.reduceLeDiff,seval,reduceCtorEq]);obtain⟨y15,hy15,h⟩:=cC h;refine dV (H.p17_1 x0.having x1.having _ hy15) ?_;(try simp only[hg5,hg6,hg8,hg10,hg12,hg14,undef,fM,fT,xm,Nat.reduceAdd,Nat.reduceLeDiff,seval,reduceCtorEq]);refine wL h (by rfl) (fun hg16 h=>?_) (fun hg16 h=>?_)
        ·(try simp only[hg5,hg6,hg8,hg10,hg12,hg14,hg16,undef,fM,fT,xm,Nat.reduceAdd,Nat.reduceLeDiff,seval,reduceCtorEq]);obtain⟨y17,hy17,h⟩:=cC h;refine dV (H.p58_1 x0.values x1.values _ hy17) ?_;(try simp only[hg5,hg6,hg8,hg10,hg12,hg14,hg16,undef,fM,fT,xm,Nat.reduceAdd,Nat.reduceLeDiff,seval,reduceCtorEq]);refine hZ4 _ ?_;clear hZ4 Z4;exact⟨y17,h,bB (ai hg5<|ai hg6<|ai hg8<|ai hg10<|ai hg12<|ai hg14<|hg16)⟩
        ·(try simp only[hg5,hg6,hg8,hg10,hg12,hg14,hg16,undef,fM,fT,xm,Nat.reduceAdd,Nat.reduceLeDiff,seval,reduceCtorEq]);refine hZ4 _ ?_;clear hZ4 Z4;exact⟨false,h,bB (ai hg5<|ai hg6<|ai hg8<|ai hg10<|ai hg12<|ai hg14<|hg16)⟩
       ·(try simp only[hg5,hg6,hg8,hg10,hg12,hg14,undef,fM,fT,xm,Nat.reduceAdd,Nat.reduceLeDiff,seval,reduceCtorEq]);refine hZ4 _ ?_;clear hZ4 Z4;exact⟨false,h,bB (ai hg5<|ai hg6<|ai hg8<|ai hg10<|ai hg12<|hg14)⟩
      ·(try simp only[hg5,hg6,hg8,hg10,hg12,undef,fM,fT,xm,Nat.reduceAdd,Nat.reduceLeDiff,seval,reduceCtorEq]);refine hZ4 _ ?_;clear hZ4 Z4;exact⟨false,h,bB (ai hg5<|ai hg6<|ai hg8<|ai hg10<|hg12)⟩
     ·(try simp only[hg5,hg6,hg8,hg10,undef,fM,fT,xm,Nat.reduceAdd,Nat.reduceLeDiff,seval,reduceCtorEq]);refine hZ4 _ ?_;clear hZ4 Z4;exact⟨false,h,bB (ai hg5<|ai hg6<|ai hg8<|hg10)⟩
    ·(try simp only[hg5,hg6,hg8,undef,fM,fT,xm,Nat.reduceAdd,Nat.reduceLeDiff,seval,reduceCtorEq]);refine hZ4 _ ?_;clear hZ4 Z4;exact⟨false,h,bB (ai hg5<|ai hg6<|hg8)⟩
   ·(try simp only[hg5,hg6,undef,fM,fT,xm,Nat.reduceAdd,Nat.reduceLeDiff,seval,reduceCtorEq]);refine hZ4 _ ?_;clear hZ4 Z4;exact⟨false,h,bB (ai hg5<|hg6)⟩
  ·(try simp only[hg5,undef,fM,fT,xm,Nat.reduceAdd,Nat.reduceLeDiff,seval,reduceCtorEq]);refine hZ4 _ ?_;clear hZ4 Z4;exact⟨false,h,bB hg5⟩
 ·rintro v1 h;cases h;exact aB.ret (bM [.tmp 4])
def Kc (F:cY) (x0:(List aX)) (x1:(List aX)):Option (Bool):=(aE ((x0.length:Int) != (x1.length:Int)) (some false) (cF (fun u6 (q5:Int)=>(aE (decide (q5<(x0.length:Int))) (aR (0<=q5∧q5<(x0.length:Int)) (aR (0<=q5∧q5<(x1.length:Int)) (call (F.p30 (x0.getD q5.toNat aX.z) (x1.getD q5.toNat aX.z)) fun y14=>(aE (!y14) (some false) (u6 (i64.wrap (q5+1))))))) (some true))) bQ 0))
def aEz (F:cY) (H:F.Ok):HK (Kc F):=fun x0 x1 r h=>by
 intro s;unfold Kc at h;refine ac func29 ntmps29 ?_;refine rg ?_;apply aB.seq;refine rg ?_;refine wz h (fun h=>?_) fun h=>?_
 ·refine rg ?_;cases h;exact aB.ret (bM [.tmp 6])
 ·apply sK;apply aB.seq;refine rg ?_;apply aB.block;refine lp h (fun q5=>bN [(1,.slice 11 (x1.map aX.v)),(2,.func 30 [] []),(15,.slice 11 (x0.map aX.v)),(16,aI (x0.length:Int)),(17,aI q5)] [] s 32) ?_ ?_
  ·exact bX
  ·rintro u6 v4 h;refine rg ?_;apply aB.seq;refine wz h (fun h=>?_) fun h=>?_
   ·apply sK;apply aB.seq;apply aB.block;obtain⟨hn11,h⟩:=aV h;refine bG (ai (aJ hn11.1)<|ai (aJ hn11.2)<|(bW aX.v aX.z hn11)) ?_;obtain⟨hn13,h⟩:=aV h;refine bG (ai (aJ hn13.1)<|ai (aJ hn13.2)<|(bW aX.v aX.z hn13)) ?_;refine dH (H.p30 (x0.getD v4.toNat aX.z) (x1.getD v4.toNat aX.z)) h fun y14 _ h=>?_;refine wz h (fun h=>?_) fun h=>?_
    ·refine rg ?_;cases h;exact aB.ret (bM [.tmp 6])
    ·apply sK;refine r1 ?_;exact⟨(i64.wrap (v4+1)),h,bX⟩
   ·apply aB.exit;simp only[dR,seval];refine rg ?_;cases h;exact aB.ret (bM [.tmp 6])
def Lt (F:cY) (x0:aX) (x1:aX):Option (Bool):=(join (fun u3=>(aE (x0.desc_==x1.desc_) (call (F.p8 x0.expr x1.expr) fun y5=>(u3 y5)) (u3 false))) (fun(q2:Bool)=>(some q2)))
def d30 (F:cY) (H:F.Ok):JW (Lt F):=fun x0 x1 r h=>by
 intro s;unfold Lt at h;refine ac func30 ntmps30 ?_;refine rg ?_;refine jn h (fun q2=>bN [(4,aY q2)] [] s 17) (fun u3 h=>?_) ?_
 ·refine wy h (fun hg4 h=>?_) fun hg4 h=>?_
  ·refine iA hg4 (H.p8 x0.expr x1.expr) h fun y5 hy5 h=>?_;exact⟨y5,h,bB hg4⟩
  ·refine bU hg4 ?_;exact⟨false,h,bB hg4⟩
 ·rintro v1 h;cases h;exact aB.ret (bM [.tmp 4])
def Jz (F:cY) (x0:(List bA)) (x1:(List bA)):Option (Bool):=(aE ((x0.length:Int) != (x1.length:Int)) (some false) (cF (fun u6 (q5:Int)=>(aE (decide (q5<(x0.length:Int))) (aR (0<=q5∧q5<(x0.length:Int)) (aR (0<=q5∧q5<(x1.length:Int)) (call (F.p55 (x0.getD q5.toNat bA.z) (x1.getD q5.toNat bA.z)) fun y14=>(aE (!y14) (some false) (u6 (i64.wrap (q5+1))))))) (some true))) bQ 0))
def aEp (F:cY) (H:F.Ok):HA (Jz F):=fun x0 x1 r h=>by
 intro s;unfold Jz at h;refine ac func54 ntmps54 ?_;refine rg ?_;apply aB.seq;refine rg ?_;refine wz h (fun h=>?_) fun h=>?_
 ·refine rg ?_;cases h;exact aB.ret (bM [.tmp 6])
 ·apply sK;apply aB.seq;refine rg ?_;apply aB.block;refine lp h (fun q5=>bN [(1,.slice 4 (x1.map bA.v)),(2,.func 55 [] []),(15,.slice 4 (x0.map bA.v)),(16,aI (x0.length:Int)),(17,aI q5)] [] s 32) ?_ ?_
  ·exact bX
  ·rintro u6 v4 h;refine rg ?_;apply aB.seq;refine wz h (fun h=>?_) fun h=>?_
   ·apply sK;apply aB.seq;apply aB.block;obtain⟨hn11,h⟩:=aV h;refine bG (ai (aJ hn11.1)<|ai (aJ hn11.2)<|(bW bA.v bA.z hn11)) ?_;obtain⟨hn13,h⟩:=aV h;refine bG (ai (aJ hn13.1)<|ai (aJ hn13.2)<|(bW bA.v bA.z hn13)) ?_;refine dH (H.p55 (x0.getD v4.toNat bA.z) (x1.getD v4.toNat bA.z)) h fun y14 _ h=>?_;refine wz h (fun h=>?_) fun h=>?_
    ·refine rg ?_;cases h;exact aB.ret (bM [.tmp 6])
    ·apply sK;refine r1 ?_;exact⟨(i64.wrap (v4+1)),h,bX⟩
   ·apply aB.exit;simp only[dR,seval];refine rg ?_;cases h;exact aB.ret (bM [.tmp 6])
def Lp (F:cY) (x0:bA) (x1:bA):Option (Bool):=(join (fun u3=>(aE (x0.star==x1.star) (aE (x0.table.data.toList==x1.table.data.toList) (aE (x0.az.data.toList==x1.az.data.toList) (call (F.p17_1 x0.expr x1.expr) fun y7=>(u3 y7)) (u3 false)) (u3 false)) (u3 false))) (fun(q2:Bool)=>(some q2)))
def d55 (F:cY) (H:F.Ok):JP (Lp F):=fun x0 x1 r h=>by
 intro s;unfold Lp at h;refine ac func55 ntmps55 ?_;refine rg ?_;refine jn h (fun q2=>bN [(4,aY q2)] [] s 31) (fun u3 h=>?_) ?_
 ·refine wy h (fun hg4 h=>?_) fun hg4 h=>?_
  ·refine wy h (fun hg5 h=>?_) fun hg5 h=>?_
   ·refine wy h (fun hg6 h=>?_) fun hg6 h=>?_
    ·refine iA (ai hg4<|ai hg5<|hg6) (H.p17_1 x0.expr x1.expr) h fun y7 hy7 h=>?_;exact⟨y7,h,bB (ai hg4<|ai hg5<|hg6)⟩
    ·refine bU (ai hg4<|ai hg5<|hg6) ?_;exact⟨false,h,bB (ai hg4<|ai hg5<|hg6)⟩
   ·refine bU (ai hg4<|hg5) ?_;exact⟨false,h,bB (ai hg4<|hg5)⟩
  ·refine bU hg4 ?_;exact⟨false,h,bB hg4⟩
 ·rintro v1 h;cases h;exact aB.ret (bM [.tmp 4])
def Jy (F:cY) (x0:(List aO)) (x1:(List aO)):Option (Bool):=(aE ((x0.length:Int) != (x1.length:Int)) (some false) (cF (fun u6 (q5:Int)=>(aE (decide (q5<(x0.length:Int))) (aR (0<=q5∧q5<(x0.length:Int)) (aR (0<=q5∧q5<(x1.length:Int)) (call (F.p57 (x0.getD q5.toNat aO.z) (x1.getD q5.toNat aO.z)) fun y14=>(aE (!y14) (some false) (u6 (i64.wrap (q5+1))))))) (some true))) bQ 0))
def aEo (F:cY) (H:F.Ok):GZ (Jy F):=fun x0 x1 r h=>by
 intro s;unfold Jy at h;refine ac func56 ntmps56 ?_;refine rg ?_;apply aB.seq;refine rg ?_;refine wz h (fun h=>?_) fun h=>?_
 ·refine rg ?_;cases h;exact aB.ret (bM [.tmp 6])
 ·apply sK;apply aB.seq;refine rg ?_;apply aB.block;refine lp h (fun q5=>bN [(1,.slice 5 (x1.map aO.v)),(2,.func 57 [] []),(15,.slice 5 (x0.map aO.v)),(16,aI (x0.length:Int)),(17,aI q5)] [] s 32) ?_ ?_
  ·exact bX
  ·rintro u6 v4 h;refine rg ?_;apply aB.seq;refine wz h (fun h=>?_) fun h=>?_
   ·apply sK;apply aB.seq;apply aB.block;obtain⟨hn11,h⟩:=aV h;refine bG (ai (aJ hn11.1)<|ai (aJ hn11.2)<|(bW aO.v aO.z hn11)) ?_;obtain⟨hn13,h⟩:=aV h;refine bG (ai (aJ hn13.1)<|ai (aJ hn13.2)<|(bW aO.v aO.z hn13)) ?_;refine dH (H.p57 (x0.getD v4.toNat aO.z) (x1.getD v4.toNat aO.z)) h fun y14 _ h=>?_;refine wz h (fun h=>?_) fun h=>?_
    ·refine rg ?_;cases h;exact aB.ret (bM [.tmp 6])
    ·apply sK;refine r1 ?_;exact⟨(i64.wrap (v4+1)),h,bX⟩
   ·apply aB.exit;simp only[dR,seval];refine rg ?_;cases h;exact aB.ret (bM [.tmp 6])
def Lo (F:cY) (x0:aO) (x1:aO):Option (Bool):=(join (fun u3=>(aE (x0.join==x1.join) (aE (x0.name.data.toList==x1.name.data.toList) (aE (x0.az.data.toList==x1.az.data.toList) (call (F.p18_1 x0.sub x1.sub) fun y7=>(aE y7 (call (F.p17_1 x0.on x1.on) fun y9=>(u3 y9)) (u3 false))) (u3 false)) (u3 false)) (u3 false))) (fun(q2:Bool)=>(some q2)))
def d57 (F:cY) (H:F.Ok):JO (Lo F):=fun x0 x1 r h=>by
 intro s;unfold Lo at h;refine ac func57 ntmps57 ?_;refine rg ?_;refine jn h (fun q2=>bN [(4,aY q2)] [] s 38) (fun u3 h=>?_) ?_
 ·refine wy h (fun hg4 h=>?_) fun hg4 h=>?_
  ·refine wy h (fun hg5 h=>?_) fun hg5 h=>?_
   ·refine wy h (fun hg6 h=>?_) fun hg6 h=>?_
    ·obtain⟨y7,hy7,h⟩:=cC h;refine wy h (fun hg8 h=>?_) fun hg8 h=>?_
     ·refine rC (ai hg4<|ai hg5<|ai hg6<|hg8) (H.p18_1 x0.sub x1.sub _ hy7) (H.p17_1 x0.on x1.on) h fun y9 hy9 h=>?_;exact⟨y9,h,bB (ai hg4<|ai hg5<|ai hg6<|hg8)⟩
     ·refine kO (ai hg4<|ai hg5<|ai hg6<|hg8) (H.p18_1 x0.sub x1.sub _ hy7) ?_;exact⟨false,h,bB (ai hg4<|ai hg5<|ai hg6<|hg8)⟩
    ·refine bU (ai hg4<|ai hg5<|hg6) ?_;exact⟨false,h,bB (ai hg4<|ai hg5<|hg6)⟩
   ·refine bU (ai hg4<|hg5) ?_;exact⟨false,h,bB (ai hg4<|hg5)⟩
  ·refine bU hg4 ?_;exact⟨false,h,bB hg4⟩
 ·rintro v1 h;cases h;exact aB.ret (bM [.tmp 4])
def Jx (F:cY) (x0:(List (List aA))) (x1:(List (List aA))):Option (Bool):=(aE ((x0.length:Int) != (x1.length:Int)) (some false) (cF (fun u6 (q5:Int)=>(aE (decide (q5<(x0.length:Int))) (aR (0<=q5∧q5<(x0.length:Int)) (aR (0<=q5∧q5<(x1.length:Int)) (call (F.p59 (x0.getD q5.toNat ([])) (x1.getD q5.toNat ([]))) fun y14=>(aE (!y14) (some false) (u6 (i64.wrap (q5+1))))))) (some true))) bQ 0))
def aEn (F:cY) (H:F.Ok):GY (Jx F):=fun x0 x1 r h=>by
 intro s;unfold Jx at h;refine ac func58 ntmps58 ?_;refine rg ?_;apply aB.seq;refine rg ?_;refine wz h (fun h=>?_) fun h=>?_
 ·refine rg ?_;cases h;exact aB.ret (bM [.tmp 6])
 ·apply sK;apply aB.seq;refine rg ?_;apply aB.block;refine lp h (fun q5=>bN [(1,.slice 1 (List.map (fun x=>[V.slice 10 (x.map aA.v)]) x1)),(2,.func 59 [] []),(15,.slice 1 (List.map (fun x=>[V.slice 10 (x.map aA.v)]) x0)),(16,aI (x0.length:Int)),(17,aI q5)] [] s 32) ?_ ?_
  ·exact bX
  ·rintro u6 v4 h;refine rg ?_;apply aB.seq;refine wz h (fun h=>?_) fun h=>?_
   ·apply sK;apply aB.seq;apply aB.block;obtain⟨hn11,h⟩:=aV h;refine bG (ai (aJ hn11.1)<|ai (aJ hn11.2)<|(bW (fun x=>[V.slice 10 (x.map aA.v)]) ([]) hn11)) ?_;obtain⟨hn13,h⟩:=aV h;refine bG (ai (aJ hn13.1)<|ai (aJ hn13.2)<|(bW (fun x=>[V.slice 10 (x.map aA.v)]) ([]) hn13)) ?_;refine dH (H.p59 (x0.getD v4.toNat ([])) (x1.getD v4.toNat ([]))) h fun y14 _ h=>?_;refine wz h (fun h=>?_) fun h=>?_
    ·refine rg ?_;cases h;exact aB.ret (bM [.tmp 6])
    ·apply sK;refine r1 ?_;exact⟨(i64.wrap (v4+1)),h,bX⟩
   ·apply aB.exit;simp only[dR,seval];refine rg ?_;cases h;exact aB.ret (bM [.tmp 6])
def Ln (F:cY) (x0:(List aA)) (x1:(List aA)):Option (Bool):=(call (F.p17_1 x0 x1) fun y1=>(some y1))
def d59 (F:cY) (H:F.Ok):JN (Ln F):=fun x0 x1 r h=>by
 intro s;unfold Ln at h;refine ac func59 ntmps59 ?_;refine rg ?_;refine dH (H.p17_1 x0 x1) h fun y1 _ h=>?_;cases h;exact aB.ret (bM [.tmp 4])
def b8 (F:cY) (x0:aA) (x1:aA):Option (Bool):=(join (fun u3=>(aE (x0.op==x1.op) (aE (x0.not==x1.not) (aE (x0.table.data.toList==x1.table.data.toList) (aE (x0.name.data.toList==x1.name.data.toList) (aE (x0.n==x1.n) (aE ((x0.v_.kind==x1.v_.kind)&&((x0.v_.int==x1.v_.int)&&(x0.v_.text.data.toList==x1.v_.text.data.toList))) (call (F.p17_1 x0.args x1.args) fun y10=>(aE y10 (call (F.p18_1 x0.sub x1.sub) fun y12=>(u3 y12)) (u3 false))) (u3 false)) (u3 false)) (u3 false)) (u3 false)) (u3 false)) (u3 false))) (fun(q2:Bool)=>(some q2)))
def d8 (F:cY) (H:F.Ok):K8 (b8 F):=fun x0 x1 r h=>by
 intro s;unfold b8 at h;refine ac func8 ntmps8 ?_;refine rg ?_;refine jn h (fun q2=>bN [(4,aY q2)] [] s 59) (fun u3 h=>?_) ?_
 ·refine wy h (fun hg4 h=>?_) fun hg4 h=>?_
  ·refine wy h (fun hg5 h=>?_) fun hg5 h=>?_
   ·refine wy h (fun hg6 h=>?_) fun hg6 h=>?_
    ·refine wy h (fun hg7 h=>?_) fun hg7 h=>?_
     ·refine wy h (fun hg8 h=>?_) fun hg8 h=>?_
      ·refine wy h (fun hg9 h=>?_) fun hg9 h=>?_
       ·obtain⟨y10,hy10,h⟩:=cC h;refine wy h (fun hg11 h=>?_) fun hg11 h=>?_
        ·refine rC (ai (@aH.aC)<|ai hg4<|ai hg5<|ai hg6<|ai hg7<|ai hg8<|ai Jk<|ai aH.aC<|ai hg9<|hg11) (H.p17_1 x0.args x1.args _ hy10) (H.p18_1 x0.sub x1.sub) h fun y12 _ h=>?_;exact⟨y12,h,bB (ai @aH.aC<|ai hg4<|ai hg5<|ai hg6<|ai hg7<|ai hg8<|ai hg9<|hg11)⟩
        ·refine kO (ai (@aH.aC)<|ai hg4<|ai hg5<|ai hg6<|ai hg7<|ai hg8<|ai Jk<|ai aH.aC<|ai hg9<|hg11) (H.p17_1 x0.args x1.args _ hy10) ?_;exact⟨false,h,bB (ai @aH.aC<|ai hg4<|ai hg5<|ai hg6<|ai hg7<|ai hg8<|ai hg9<|hg11)⟩
       ·refine bU (ai (@aH.aC)<|ai hg4<|ai hg5<|ai hg6<|ai hg7<|ai hg8<|ai Jk<|ai aH.aC<|hg9) ?_;exact⟨false,h,bB (ai @aH.aC<|ai hg4<|ai hg5<|ai hg6<|ai hg7<|ai hg8<|hg9)⟩
      ·refine bU (ai (@aH.aC)<|ai hg4<|ai hg5<|ai hg6<|ai hg7<|hg8) ?_;exact⟨false,h,bB (ai @aH.aC<|ai hg4<|ai hg5<|ai hg6<|ai hg7<|hg8)⟩
     ·refine bU (ai (@aH.aC)<|ai hg4<|ai hg5<|ai hg6<|hg7) ?_;exact⟨false,h,bB (ai @aH.aC<|ai hg4<|ai hg5<|ai hg6<|hg7)⟩
    ·refine bU (ai (@aH.aC)<|ai hg4<|ai hg5<|hg6) ?_;exact⟨false,h,bB (ai @aH.aC<|ai hg4<|ai hg5<|hg6)⟩
   ·refine bU (ai (@aH.aC)<|ai hg4<|hg5) ?_;exact⟨false,h,bB (ai @aH.aC<|ai hg4<|hg5)⟩
  ·refine bU (ai (@aH.aC)<|hg4) ?_;exact⟨false,h,bB (ai @aH.aC<|hg4)⟩
 ·rintro v1 h;cases h;exact aB.ret (iT @aH.aC [.tmp 4])
def cY.fix:Nat->cY
 |0=>⟨fun _ _=>none,fun _ _=>none,fun _ _=>none,fun _ _=>none,fun _ _=>none,fun _ _=>none,fun _ _=>none,fun _ _=>none,fun _ _=>none,fun _ _=>none,fun _ _=>none,fun _ _=>none,fun _ _=>none,fun _ _=>none,fun _ _=>none,fun _ _=>none⟩
 |n+1=>⟨Lv (cY.fix n),Kh (cY.fix n),Kg (cY.fix n),Kf (cY.fix n),Lu (cY.fix n),Ke (cY.fix n),Gp (cY.fix n),Kc (cY.fix n),Lt (cY.fix n),Jz (cY.fix n),Lp (cY.fix n),Jy (cY.fix n),Lo (cY.fix n),Jx (cY.fix n),Ln (cY.fix n),b8 (cY.fix n)⟩
def cY.ok:∀n,cY.Ok (cY.fix n)
 |0=>by constructor<;>(repeat intro _)<;>contradiction
 |n+1=>⟨d11 _ (cY.ok n),aE3 _ (cY.ok n),aE2 _ (cY.ok n),aE1 _ (cY.ok n),d25 _ (cY.ok n),aE0 _ (cY.ok n),d28 _ (cY.ok n),aEz _ (cY.ok n),d30 _ (cY.ok n),aEp _ (cY.ok n),d55 _ (cY.ok n),aEo _ (cY.ok n),d57 _ (cY.ok n),aEn _ (cY.ok n),d59 _ (cY.ok n),d8 _ (cY.ok n)⟩
def s8:=(cY.fix bQ).p8
def c8:=(cY.ok bQ).p8
def uM (x0:ByteArray) (x1:Int):Option (Int):=(join (fun u3=>(cF (fun u6 (q5:Int)=>(aE (decide (q5<(x0.size:Int))) (aR (0<=q5∧q5<(x0.size:Int)) (join (fun u12=>(aE (((x0.data.toList.getD q5.toNat 0).toNat:Int)==32) (u12 true) (aE (((x0.data.toList.getD q5.toNat 0).toNat:Int)==9) (u12 true) (aE (((x0.data.toList.getD q5.toNat 0).toNat:Int)==10) (u12 true) (u12 (((x0.data.toList.getD q5.toNat 0).toNat:Int)==13)))))) (fun(q11:Bool)=>(aE q11 (u6 (i64.wrap (q5+1))) (aR (0<=q5∧q5<=(x0.size:Int)∧(x0.size:Int)<=(x0.size:Int)) (call (n155 (x0.extract q5.toNat (x0.size:Int).toNat) (bm #[45,45])) fun y18=>(aE y18 (aR (0<=q5∧q5<=(x0.size:Int)∧(x0.size:Int)<=(x0.size:Int)) (call (n156 (x0.extract q5.toNat (x0.size:Int).toNat) 10) fun y21=>(aE (decide (y21<0)) (some (x0.size:Int)) (u6 (i64.wrap (q5+(i64.wrap (y21+1)))))))) (u3 q5)))))))) (u3 q5))) bQ x1)) (fun(q2:Int)=>(some q2)))
def IJ (x0:ByteArray) (x1:Int) (r:Int) (h:uM x0 x1=some r):cG prog 115 [aM x0,aI x1] (aI r):=by
 intro s;unfold uM at h;refine ac func115 ntmps115 ?_;refine rg ?_;refine aB.scope ?_;apply aB.seq;refine aB.label ?_;show aB _ _ _ _;refine jn h (fun q2=>bN [(1,aI q2)] [] s 49) (fun u3 h=>?_) ?_
 ·apply aB.block;refine lp h (fun q5=>bN [(0,aM x0),(1,aI q5)] [] s 49) ?_ ?_
  ·exact bX
  ·rintro u6 v4 h;apply aB.seq;refine rg ?_;refine wz h (fun h=>?_) fun h=>?_
   ·apply sK;apply aB.block;obtain⟨hn9,h⟩:=aV h;refine bG (ai (aJ hn9.1)<|(aJ hn9.2)) ?_;apply aB.block;refine jn h (fun q11=>bN [(0,aM x0),(1,aI v4),(14,aY q11)] [] s 49) (fun u12 h=>?_) ?_
    ·refine wy h (fun hg13 h=>?_) fun hg13 h=>?_
     ·refine bU hg13 ?_;exact⟨true,h,bB hg13⟩
     ·refine wy h (fun hg14 h=>?_) fun hg14 h=>?_
      ·refine bU (ai hg13<|hg14) ?_;exact⟨true,h,bB (ai hg13<|hg14)⟩
      ·refine wy h (fun hg15 h=>?_) fun hg15 h=>?_
       ·refine bU (ai hg13<|ai hg14<|hg15) ?_;exact⟨true,h,bB (ai hg13<|ai hg14<|hg15)⟩
       ·refine bU (ai hg13<|ai hg14<|hg15) ?_;exact⟨(((x0.data.toList.getD v4.toNat 0).toNat:Int)==13),h,bB (ai hg13<|ai hg14<|hg15)⟩
    ·rintro v10 h;refine wz h (fun h=>?_) fun h=>?_
     ·refine r1 ?_;exact⟨(i64.wrap (v4+1)),h,bX⟩
     ·obtain⟨hn17,h⟩:=aV h;refine dN (ai (aJ hn17.1)<|ai (aJ hn17.2.1)<|(aJ hn17.2.2)) (aHn (x0.extract v4.toNat (x0.size:Int).toNat) (bm #[45,45])) h fun y18 _ h=>?_;refine wz h (fun h=>?_) fun h=>?_
      ·obtain⟨hn20,h⟩:=aV h;refine dN (ai (aJ hn20.1)<|ai (aJ hn20.2.1)<|(aJ hn20.2.2)) (Wm (x0.extract v4.toNat (x0.size:Int).toNat) 10) h fun y21 _ h=>?_;apply aB.seq;refine rg ?_;refine wz h (fun h=>?_) fun h=>?_
       ·refine rg ?_;cases h;exact aB.ret (bM [.tmp 4])
       ·apply sK;refine r1 ?_;exact⟨(i64.wrap (v4+(i64.wrap (y21+1)))),h,bX⟩
      ·apply aB.exit;simp only[dR,seval];exact⟨v4,h,bX⟩
   ·apply aB.exit;simp only[dR,seval];exact⟨v4,h,bX⟩
 ·rintro v1 h;refine rg ?_;cases h;exact aB.ret (bM [.tmp 4])
def rG (x0:Int):Option (Bool):=(join (fun u3=>(aE (decide (x0>=97)) (aE (decide (x0<=122)) (u3 true) (aE (decide (x0>=65)) (aE (decide (x0<=90)) (u3 true) (u3 (x0==95))) (u3 (x0==95)))) (aE (decide (x0>=65)) (aE (decide (x0<=90)) (u3 true) (u3 (x0==95))) (u3 (x0==95))))) (fun(q2:Bool)=>(some q2)))
def Dh (x0:Int) (r:Bool) (h:rG x0=some r):cG prog 120 [.base (.int .u8 x0)] (aY r):=by
 intro s;unfold rG at h;refine ac func120 ntmps120 ?_;refine rg ?_;refine jn h (fun q2=>bN [(2,aY q2)] [] s 21) (fun u3 h=>?_) ?_
 ·refine wy h (fun hg4 h=>?_) fun hg4 h=>?_
  ·refine wy h (fun hg5 h=>?_) fun hg5 h=>?_
   ·refine bU (ai hg4<|hg5) ?_;exact⟨true,h,bB (ai hg4<|hg5)⟩
   ·refine wy h (fun hg6 h=>?_) fun hg6 h=>?_
    ·refine wy h (fun hg7 h=>?_) fun hg7 h=>?_
     ·refine bU (ai hg4<|ai hg5<|ai hg6<|hg7) ?_;exact⟨true,h,bB (ai hg4<|ai hg5<|ai hg6<|hg7)⟩
     ·refine bU (ai hg4<|ai hg5<|ai hg6<|hg7) ?_;exact⟨(x0==95),h,bB (ai hg4<|ai hg5<|ai hg6<|hg7)⟩
    ·refine bU (ai hg4<|ai hg5<|hg6) ?_;exact⟨(x0==95),h,bB (ai hg4<|ai hg5<|hg6)⟩
  ·refine wy h (fun hg8 h=>?_) fun hg8 h=>?_
   ·refine wy h (fun hg9 h=>?_) fun hg9 h=>?_
    ·refine bU (ai hg4<|ai hg8<|hg9) ?_;exact⟨true,h,bB (ai hg4<|ai hg8<|hg9)⟩
    ·refine bU (ai hg4<|ai hg8<|hg9) ?_;exact⟨(x0==95),h,bB (ai hg4<|ai hg8<|hg9)⟩
   ·refine bU (ai hg4<|hg8) ?_;exact⟨(x0==95),h,bB (ai hg4<|hg8)⟩
 ·rintro v1 h;cases h;exact aB.ret (bM [.tmp 2])
def vZ (x0:Int):Option (Bool):=(join (fun u3=>(aE (decide (x0>=48)) (u3 (decide (x0<=57))) (u3 false))) (fun(q2:Bool)=>(some q2)))
def Ku (x0:Int) (r:Bool) (h:vZ x0=some r):cG prog 124 [.base (.int .u8 x0)] (aY r):=by
 intro s;unfold vZ at h;refine ac func124 ntmps124 ?_;refine rg ?_;refine jn h (fun q2=>bN [(2,aY q2)] [] s 9) (fun u3 h=>?_) ?_
 ·refine wy h (fun hg4 h=>?_) fun hg4 h=>?_
  ·refine bU hg4 ?_;exact⟨(decide (x0<=57)),h,bB hg4⟩
  ·refine bU hg4 ?_;exact⟨false,h,bB hg4⟩
 ·rintro v1 h;cases h;exact aB.ret (bM [.tmp 2])
def Ad (x0:ByteArray) (x1:Int):Option (Int):=(cF (fun u4 (q3:Int)=>(join (fun u8=>(aE (decide (q3<(x0.size:Int))) (aR (0<=q3∧q3<(x0.size:Int)) (call (vZ ((x0.data.toList.getD q3.toNat 0).toNat:Int)) fun y11=>(u8 y11))) (u8 false))) (fun(q7:Bool)=>(aE q7 (u4 (i64.wrap (q3+1))) (some q3))))) bQ x1)
def EX (x0:ByteArray) (x1:Int) (r:Int) (h:Ad x0 x1=some r):cG prog 122 [aM x0,aI x1,.func 124 [] []] (aI r):=by
 intro s;unfold Ad at h;refine ac func122 ntmps122 ?_;refine rg ?_;apply aB.seq;apply aB.block;refine lp h (fun q3=>bN [(0,aM x0),(1,aI q3),(2,.func 124 [] [])] [] s 21) ?_ ?_
 ·exact bX
 ·rintro u4 v2 h;apply aB.seq;refine jn h (fun q7=>bN [(0,aM x0),(1,aI v2),(2,.func 124 [] []),(17,aY q7)] [] s 21) (fun u8 h=>?_) ?_
  ·refine wy h (fun hg9 h=>?_) fun hg9 h=>?_
   ·obtain⟨hn10,h⟩:=aV h;refine iA (ai hg9<|ai (aJ hn10.1)<|(aJ hn10.2)) (Ku ((x0.data.toList.getD v2.toNat 0).toNat:Int)) h fun y11 _ h=>?_;exact⟨y11,h,bB hg9⟩
   ·refine bU hg9 ?_;exact⟨false,h,bB hg9⟩
  ·rintro v6 h;refine wz h (fun h=>?_) fun h=>?_
   ·apply sK;apply aB.block;refine r1 ?_;exact⟨(i64.wrap (v2+1)),h,bX⟩
   ·apply aB.exit;simp only[dR,seval];refine rg ?_;cases h;exact aB.ret (bM [.tmp 6])
def Fy (x0:Int):Option (Bool):=(join (fun u3=>(call (rG x0) fun y4=>(aE y4 (u3 true) (call (vZ x0) fun y6=>(u3 y6))))) (fun(q2:Bool)=>(some q2)))
def aHb (x0:Int) (r:Bool) (h:Fy x0=some r):cG prog 159 [.base (.int .u8 x0)] (aY r):=by
 intro s;unfold Fy at h;refine ac func159 ntmps159 ?_;refine rg ?_;refine jn h (fun q2=>bN [(2,aY q2)] [] s 9) (fun u3 h=>?_) ?_
 ·obtain⟨y4,hy4,h⟩:=cC h;refine wy h (fun hg5 h=>?_) fun hg5 h=>?_
  ·refine kO hg5 (Dh x0 _ hy4) ?_;exact⟨true,h,bB hg5⟩
  ·refine rC hg5 (Dh x0 _ hy4) (Ku x0) h fun y6 _ h=>?_;exact⟨y6,h,bB hg5⟩
 ·rintro v1 h;cases h;exact aB.ret (bM [.tmp 2])
def Er (x0:ByteArray) (x1:Int):Option (Int):=(cF (fun u4 (q3:Int)=>(join (fun u8=>(aE (decide (q3<(x0.size:Int))) (aR (0<=q3∧q3<(x0.size:Int)) (call (Fy ((x0.data.toList.getD q3.toNat 0).toNat:Int)) fun y11=>(u8 y11))) (u8 false))) (fun(q7:Bool)=>(aE q7 (u4 (i64.wrap (q3+1))) (some q3))))) bQ x1)
def aCc (x0:ByteArray) (x1:Int) (r:Int) (h:Er x0 x1=some r):cG prog 122 [aM x0,aI x1,.func 159 [] []] (aI r):=by
 intro s;unfold Er at h;refine ac func122 ntmps122 ?_;refine rg ?_;apply aB.seq;apply aB.block;refine lp h (fun q3=>bN [(0,aM x0),(1,aI q3),(2,.func 159 [] [])] [] s 21) ?_ ?_
 ·exact bX
 ·rintro u4 v2 h;apply aB.seq;refine jn h (fun q7=>bN [(0,aM x0),(1,aI v2),(2,.func 159 [] []),(17,aY q7)] [] s 21) (fun u8 h=>?_) ?_
  ·refine wy h (fun hg9 h=>?_) fun hg9 h=>?_
   ·obtain⟨hn10,h⟩:=aV h;refine iA (ai hg9<|ai (aJ hn10.1)<|(aJ hn10.2)) (aHb ((x0.data.toList.getD v2.toNat 0).toNat:Int)) h fun y11 _ h=>?_;exact⟨y11,h,bB hg9⟩
   ·refine bU hg9 ?_;exact⟨false,h,bB hg9⟩
  ·rintro v6 h;refine wz h (fun h=>?_) fun h=>?_
   ·apply sK;apply aB.block;refine r1 ?_;exact⟨(i64.wrap (v2+1)),h,bX⟩
   ·apply aB.exit;simp only[dR,seval];refine rg ?_;cases h;exact aB.ret (bM [.tmp 6])
def Ga (x0:ByteArray) (x1:Int):Option (ByteArray×Int×Bool):=(cF (fun u8 (q7:(List Int)×Int)=>(aE (decide (q7.2<(x0.size:Int))) (join (fun u16=>(aR (0<=q7.2∧q7.2<(x0.size:Int)) (aE (((x0.data.toList.getD q7.2.toNat 0).toNat:Int)==39) (join (fun u24=>(aE ((i64.wrap (q7.2+1))==(x0.size:Int)) (u24 true) (aR (0<=(i64.wrap (q7.2+1))∧(i64.wrap (q7.2+1))<(x0.size:Int)) (u24 (((x0.data.toList.getD (i64.wrap (q7.2+1)).toNat 0).toNat:Int) != 39))))) (fun(q23:Bool)=>(aE q23 (aR (Cd q7.1=true) (some ((ByteArray.mk (wT q7.1).toArray),(i64.wrap (q7.2+1)),true))) (u16 (i64.wrap (q7.2+1)))))) (u16 q7.2)))) (fun(q15:Int)=>(aR (0<=q15∧q15<(x0.size:Int)) (aR ((q7.1.length+1)*1<=140737488355328) (u8 ((q7.1++([((x0.data.toList.getD q15.toNat 0).toNat:Int)])),(i64.wrap (q15+1)))))))) (some ((bm #[]),0,false)))) bQ (([]:List Int),(i64.wrap (x1+1))))
def aHd (x0:ByteArray) (x1:Int) (r:ByteArray×Int×Bool) (h:Ga x0 x1=some r):cG prog 157 [aM x0,aI x1] (.tuple [aM r.1,aI r.2.1,aY r.2.2]):=by
 intro s;unfold Ga at h;refine ac func157 ntmps157 ?_;refine rg ?_;refine rg ?_;apply aB.seq;refine rg ?_;apply aB.block;refine aB.Gw 7 (5,1) (.inl (by rfl)) fun g2 hg2=>?_;change (s).own g2=none at hg2;have fr3:Fr s (List.map Prod.fst [(g2,(5,1))]):=Fr.snoc (l:=[]) (Fr.nil s) hg2;refine aB.pA (X:=(List Int)×Int) (G:=Nat) h (fun gq9=>Fr s (List.map Prod.fst [(gq9,(5,1))])) (fun q7 gq9=>bN [(0,aM x0),(7,.own gq9 1 (List.map (fun x=>[V.base (.int .u8 x)]) q7.1)),(8,aI q7.2)] [] (cJ s [(gq9,(5,1))]) 45) ?_ ?_
 ·exact⟨g2,fr3,bX⟩
 ·rintro u8 ⟨v4,v6⟩ h g5 hg5f;(try dsimp only at h ⊢);apply aB.seq;refine rg ?_;refine wz h (fun h=>?_) fun h=>?_
  ·apply sK;apply aB.seq;apply aB.block;refine aB.uT (X:=Int) (G:=Nat) h (fun gq17=>Fr s (List.map Prod.fst [(gq17,(5,1))])) (fun q15 gq17=>bN [(0,aM x0),(7,.own gq17 1 (List.map (fun x=>[V.base (.int .u8 x)]) v4)),(8,aI q15)] [] (cJ s [(gq17,(5,1))]) 45) (fun u16 h=>?_) ?_
   ·obtain⟨hn18,h⟩:=aV h;refine bG (ai (aJ hn18.1)<|(aJ hn18.2)) ?_;refine wz h (fun h=>?_) fun h=>?_
    ·apply aB.seq;refine aB.uT (X:=Bool) (G:=Nat) h (fun gq25=>Fr s (List.map Prod.fst [(gq25,(5,1))])) (fun q23 gq25=>bN [(0,aM x0),(7,.own gq25 1 (List.map (fun x=>[V.base (.int .u8 x)]) v4)),(8,aI v6),(32,aY q23)] [] (cJ s [(gq25,(5,1))]) 45) (fun u24 h=>?_) ?_
     ·refine wy h (fun hg26 h=>?_) fun hg26 h=>?_
      ·refine bU hg26 ?_;exact⟨true,h,g5,hg5f,bB hg26⟩
      ·obtain⟨hn27,h⟩:=aV h;refine bU (ai hg26<|ai (aJ hn27.1)<|(aJ hn27.2)) ?_;exact⟨(((x0.data.toList.getD (i64.wrap (v6+1)).toNat 0).toNat:Int) != 39),h,g5,hg5f,bB hg26⟩
     ·rintro v21 h g22 hg22f;refine wz h (fun h=>?_) fun h=>?_
      ·refine aB.xR 1 rfl (by decide+kernel) fun Z29 hZ29=>?_;obtain⟨hn30,h⟩:=aV h;(try simp only[qO,qN,qM,xs,xa,Nat.reduceAdd,seval,reduceCtorEq]);refine⟨by simp only[gA,am,seval,reduceCtorEq],_,Yh (e:=5) (l:=(wT v4)) rfl (by kernel_rfl) (by kernel_rfl) (by kernel_rfl) (by simp only[AJ hn30,am,seval,reduceCtorEq]) (by simp only[am,seval,reduceCtorEq]),?_⟩;rintro _ rfl;(try simp only[sE,sD,oY,xs,xa,Nat.reduceAdd,seval,reduceCtorEq]);refine hZ29 _ ?_;clear hZ29 Z29;cases h;exact aB.ret (Da (Fr.drop (l:=[(g22,(5,1))]) hg22f) [.tmp 4,.tmp 5,.tmp 6])
      ·apply sK;refine r1 ?_;exact⟨(i64.wrap (v6+1)),h,g22,hg22f,bX⟩
    ·apply sK;exact⟨v6,h,g5,hg5f,bX⟩
   ·rintro v13 h g14 hg14f;refine aB.fW fun Z31 hZ31=>?_;obtain⟨hn32,h⟩:=aV h;obtain⟨hn33,h⟩:=aV h;(try simp only[aJ hn32.1,aJ hn32.2,xs,xa,Nat.reduceAdd,seval,reduceCtorEq])
    first|refine mL hg14f hn33 fun g34 hg34=>?_|refine mM hg14f hn33 fun g34 hg34=>?_
    have fr35:Fr s (List.map Prod.fst [(g34,(5,1))]):=Fr.rep (a:=[]) (b:=[]) hg14f hg34;(try simp only[aJ hn32.1,aJ hn32.2,xs,xa,Nat.reduceAdd,seval,reduceCtorEq]);refine hZ31 _ ?_;clear hZ31 Z31;refine tS (Fr.mN (a:=[]) (b:=[]) hg14f hg34) (s':=(cJ s [(g34,(5,1))])) ?_;refine r1 ?_;exact⟨((v4++([((x0.data.toList.getD v13.toNat 0).toNat:Int)])),(i64.wrap (v13+1))),h,g34,fr35,bX⟩
  ·apply aB.exit;simp only[dR,seval];refine rg ?_;cases h;exact aB.ret (Da (Fr.drop (l:=[(g5,(5,1))]) hg5f) [.tmp 4,.tmp 5,.tmp 6])
def Ar (x0:Int):Option (Int):=(call (vZ x0) fun y2=>(aE y2 (some (i64.wrap (IntKind.u8.wrap (x0-48)))) (join (fun u6=>(aE (decide (x0>=97)) (u6 (decide (x0<=102))) (u6 false))) (fun(q5:Bool)=>(aE q5 (some (i64.wrap ((i64.wrap (IntKind.u8.wrap (x0-97)))+10))) (join (fun u11=>(aE (decide (x0>=65)) (u11 (decide (x0<=70))) (u11 false))) (fun(q10:Bool)=>(aE q10 (some (i64.wrap ((i64.wrap (IntKind.u8.wrap (x0-65)))+10))) (some (-1))))))))))
def IG (x0:Int) (r:Int) (h:Ar x0=some r):cG prog 183 [.base (.int .u8 x0)] (aI r):=by
 intro s;unfold Ar at h;refine ac func183 ntmps183 ?_;refine rg ?_;apply aB.seq;apply aB.block;refine dH (Ku x0) h fun y2 _ h=>?_;refine wz h (fun h=>?_) fun h=>?_
 ·refine rg ?_;cases h;exact aB.ret (bM [.tmp 2])
 ·refine jn h (fun q5=>bN [(0,.base (.int .u8 x0)),(9,aY q5)] [] s 31) (fun u6 h=>?_) ?_
  ·refine wy h (fun hg7 h=>?_) fun hg7 h=>?_
   ·refine bU hg7 ?_;exact⟨(decide (x0<=102)),h,bB hg7⟩
   ·refine bU hg7 ?_;exact⟨false,h,bB hg7⟩
  ·rintro v4 h;refine wz h (fun h=>?_) fun h=>?_
   ·refine rg ?_;cases h;exact aB.ret (bM [.tmp 2])
   ·refine jn h (fun q10=>bN [(0,.base (.int .u8 x0)),(20,aY q10)] [] s 31) (fun u11 h=>?_) ?_
    ·refine wy h (fun hg12 h=>?_) fun hg12 h=>?_
     ·refine bU hg12 ?_;exact⟨(decide (x0<=70)),h,bB hg12⟩
     ·refine bU hg12 ?_;exact⟨false,h,bB hg12⟩
    ·rintro v9 h;refine wz h (fun h=>?_) fun h=>?_
     ·refine rg ?_;cases h;exact aB.ret (bM [.tmp 2])
     ·apply sK;refine rg ?_;cases h;exact aB.ret (bM [.tmp 2])
def Fz (x0:ByteArray) (x1:Int):Option (ByteArray×Int×Bool):=(aR (0<=(i64.wrap (x1+1))∧(i64.wrap (x1+1))<=(x0.size:Int)∧(x0.size:Int)<=(x0.size:Int)) (call (n156 (x0.extract (i64.wrap (x1+1)).toNat (x0.size:Int).toNat) 39) fun y2=>(join (fun u6=>(aE (decide (y2<0)) (u6 true) (u6 ((y2.tmod 2)==1)))) (fun(q5:Bool)=>(aE q5 (some ((bm #[]),0,false)) (cF (fun u17 (q16:(List Int)×Int)=>(aE (decide (q16.2<(i64.wrap ((i64.wrap (x1+1))+y2)))) (aR (0<=q16.2∧q16.2<(x0.size:Int)) (aR (0<=(i64.wrap (q16.2+1))∧(i64.wrap (q16.2+1))<(x0.size:Int)) (call (Ar ((x0.data.toList.getD q16.2.toNat 0).toNat:Int)) fun y24=>(call (Ar ((x0.data.toList.getD (i64.wrap (q16.2+1)).toNat 0).toNat:Int)) fun y25=>(join (fun u30=>(aE (decide (y24<0)) (u30 true) (u30 (decide (y25<0))))) (fun(q29:Bool)=>(aE q29 (some ((bm #[]),0,false)) (aR ((q16.1.length+1)*1<=140737488355328) (u17 ((q16.1++([(IntKind.u8.wrap (zJ .i64 (mI .i64 y24 4) y25))])),(i64.wrap (q16.2+2)))))))))))) (aR (Cd q16.1=true) (some ((ByteArray.mk (wT q16.1).toArray),(i64.wrap ((i64.wrap (x1+y2))+2)),true))))) bQ (([]:List Int),(i64.wrap (x1+1)))))))))
def aHc (x0:ByteArray) (x1:Int) (r:ByteArray×Int×Bool) (h:Fz x0 x1=some r):cG prog 158 [aM x0,aI x1] (.tuple [aM r.1,aI r.2.1,aY r.2.2]):=by
 intro s;unfold Fz at h;refine ac func158 ntmps158 ?_;refine rg ?_;obtain⟨hn1,h⟩:=aV h;refine dN (ai (aJ hn1.1)<|ai (aJ hn1.2.1)<|(aJ hn1.2.2)) (Wm (x0.extract (i64.wrap (x1+1)).toNat (x0.size:Int).toNat) 39) h fun y2 _ h=>?_;apply aB.seq;refine jn h (fun q5=>bN [(0,aM x0),(1,aI x1),(7,aI y2),(23,aY q5)] [] s 63) (fun u6 h=>?_) ?_
 ·refine wy h (fun hg7 h=>?_) fun hg7 h=>?_
  ·refine bU hg7 ?_;exact⟨true,h,bB hg7⟩
  ·have hd8:((2:Int)≠0)=True:=aJ (by decide);refine bU (ai hg7<|hd8) ?_;exact⟨((y2.tmod 2)==1),h,bB hg7⟩
 ·rintro v4 h;refine wz h (fun h=>?_) fun h=>?_
  ·refine rg ?_;cases h;exact aB.ret (bM [.tmp 4,.tmp 5,.tmp 6])
  ·apply sK;refine rg ?_;apply aB.seq;refine rg ?_;apply aB.block;refine aB.Gw 8 (5,1) (.inl (by rfl)) fun g11 hg11=>?_;change (s).own g11=none at hg11;have fr12:Fr s (List.map Prod.fst [(g11,(5,1))]):=Fr.snoc (l:=[]) (Fr.nil s) hg11;refine aB.pA (X:=(List Int)×Int) (G:=Nat) h (fun gq18=>Fr s (List.map Prod.fst [(gq18,(5,1))])) (fun q16 gq18=>bN [(0,aM x0),(1,aI x1),(7,aI y2),(8,.own gq18 1 (List.map (fun x=>[V.base (.int .u8 x)]) q16.1)),(9,aI q16.2)] [] (cJ s [(gq18,(5,1))]) 63) ?_ ?_
   ·exact⟨g11,fr12,bX⟩
   ·rintro u17 ⟨v13,v15⟩ h g14 hg14f;(try dsimp only at h ⊢);apply aB.seq;refine rg ?_;refine wz h (fun h=>?_) fun h=>?_
    ·apply sK;apply aB.seq;apply aB.block;obtain⟨hn22,h⟩:=aV h;obtain⟨hn23,h⟩:=aV h;obtain⟨y24,hy24,h⟩:=cC h;refine z6 [0,1,2,4,5,6,7,3,8,9,10] [] (ai (aJ hn22.1)<|ai (aJ hn22.2)<|ai (aJ hn23.1)<|(aJ hn23.2)) (IG ((x0.data.toList.getD v15.toNat 0).toNat:Int) _ hy24) (IG ((x0.data.toList.getD (i64.wrap (v15+1)).toNat 0).toNat:Int)) h fun y25 _ h=>?_;apply aB.seq;refine aB.uT (X:=Bool) (G:=Nat) h (fun gq31=>Fr s (List.map Prod.fst [(gq31,(5,1))])) (fun q29 gq31=>bN [(0,aM x0),(1,aI x1),(7,aI y2),(8,.own gq31 1 (List.map (fun x=>[V.base (.int .u8 x)]) v13)),(9,aI v15),(10,aI y24),(11,aI y25),(48,aY q29)] [] (cJ s [(gq31,(5,1))]) 63) (fun u30 h=>?_) ?_
     ·refine wy h (fun hg32 h=>?_) fun hg32 h=>?_
      ·refine bU hg32 ?_;exact⟨true,h,g14,hg14f,bB hg32⟩
      ·refine bU hg32 ?_;exact⟨(decide (y25<0)),h,g14,hg14f,bB hg32⟩
     ·rintro v27 h g28 hg28f;refine wz h (fun h=>?_) fun h=>?_
      ·refine rg ?_;cases h;exact aB.ret (Da (Fr.drop (l:=[(g28,(5,1))]) hg28f) [.tmp 4,.tmp 5,.tmp 6])
      ·apply sK;refine aB.fW fun Z34 hZ34=>?_;have hd35:((0:Int)<=4)=True:=aJ (by decide);obtain⟨hn36,h⟩:=aV h;(try simp only[hd35,xs,xa,Nat.reduceAdd,seval,reduceCtorEq])
       first|refine mL hg28f hn36 fun g37 hg37=>?_|refine mM hg28f hn36 fun g37 hg37=>?_
       have fr38:Fr s (List.map Prod.fst [(g37,(5,1))]):=Fr.rep (a:=[]) (b:=[]) hg28f hg37;(try simp only[hd35,xs,xa,Nat.reduceAdd,seval,reduceCtorEq]);refine hZ34 _ ?_;clear hZ34 Z34;refine tS (Fr.mN (a:=[]) (b:=[]) hg28f hg37) (s':=(cJ s [(g37,(5,1))])) ?_;refine r1 ?_;exact⟨((v13++([(IntKind.u8.wrap (zJ .i64 (mI .i64 y24 4) y25))])),(i64.wrap (v15+2))),h,g37,fr38,bX⟩
    ·apply aB.exit;simp only[dR,seval];refine aB.xR 1 rfl (by decide+kernel) fun Z39 hZ39=>?_;obtain⟨hn40,h⟩:=aV h;(try simp only[qO,qN,qM,xs,xa,Nat.reduceAdd,seval,reduceCtorEq]);refine⟨by simp only[gA,am,seval,reduceCtorEq],_,Yh (e:=5) (l:=(wT v13)) rfl (by kernel_rfl) (by kernel_rfl) (by kernel_rfl) (by simp only[AJ hn40,am,seval,reduceCtorEq]) (by simp only[am,seval,reduceCtorEq]),?_⟩;rintro _ rfl;(try simp only[sE,sD,oY,xs,xa,Nat.reduceAdd,seval,reduceCtorEq]);refine hZ39 _ ?_;clear hZ39 Z39;cases h;exact aB.ret (Da (Fr.drop (l:=[(g14,(5,1))]) hg14f) [.tmp 4,.tmp 5,.tmp 6])
def Ko (x0:(List ByteArray)) (x1:ByteArray):Option (Int):=(cF (fun u4 (q3:Int)=>(aE (decide (q3<(x0.length:Int))) (aR (0<=q3∧q3<(x0.length:Int)) (aE (x1.data.toList==(x0.getD q3.toNat bO).data.toList) (some q3) (u4 (i64.wrap (q3+1))))) (some (-1)))) bQ 0)
def aG9 (x0:(List ByteArray)) (x1:ByteArray) (r:Int) (h:Ko x0 x1=some r):cG prog 188 [.slice 1 (List.map (fun x=>[aM x]) x0),aM x1] (aI r):=by
 intro s;unfold Ko at h;refine ac func188 ntmps188 ?_;refine rg ?_;apply aB.seq;refine rg ?_;apply aB.block;refine lp h (fun q3=>bN [(0,.slice 1 (List.map (fun x=>[aM x]) x0)),(1,aM x1),(7,aI (x0.length:Int)),(8,aI q3)] [] s 19) ?_ ?_
 ·exact bX
 ·rintro u4 v2 h;refine rg ?_;apply aB.seq;refine wz h (fun h=>?_) fun h=>?_
  ·apply sK;apply aB.seq;apply aB.block;refine rg ?_;obtain⟨hn9,h⟩:=aV h;refine bG (ai (aJ hn9.1)<|ai (aJ hn9.2)<|(bW (fun x=>[aM x]) bO hn9)) ?_;refine wz h (fun h=>?_) fun h=>?_
   ·refine rg ?_;cases h;exact aB.ret (bM [.tmp 4])
   ·apply sK;refine r1 ?_;exact⟨(i64.wrap (v2+1)),h,bX⟩
  ·apply aB.exit;simp only[dR,seval];refine rg ?_;cases h;exact aB.ret (bM [.tmp 4])
def Cy (x0:(List ByteArray)) (x1:ByteArray):Option (Bool):=(call (Ko x0 x1) fun y1=>(some (decide (y1>=0))))
def IH (x0:(List ByteArray)) (x1:ByteArray) (r:Bool) (h:Cy x0 x1=some r):cG prog 171 [.slice 1 (List.map (fun x=>[aM x]) x0),aM x1] (aY r):=by
 intro s;unfold Cy at h;refine ac func171 ntmps171 ?_;refine rg ?_;refine dH (aG9 x0 x1) h fun y1 _ h=>?_;cases h;exact aB.ret (bM [.tmp 4])
def zD (x0:ByteArray) (x1:Int):Option (Int):=(join (fun u4=>(aE (decide ((i64.wrap (x1+2))<=(x0.size:Int))) (aR (0<=x1∧x1<=(i64.wrap (x1+2))∧(i64.wrap (x1+2))<=(x0.size:Int)) (call (Cy ([(bm #[124,124]),(bm #[61,61]),(bm #[60,62]),(bm #[33,61]),(bm #[60,61]),(bm #[62,61])]) (x0.extract x1.toNat (i64.wrap (x1+2)).toNat)) fun y7=>(u4 y7))) (u4 false))) (fun(q3:Bool)=>(aE q3 (some 2) (aR (0<=x1∧x1<(x0.size:Int)) (call (n156 (bm #[40,41,44,59,46,42,43,45,47,37,61,60,62]) ((x0.data.toList.getD x1.toNat 0).toNat:Int)) fun y11=>(aE (decide (y11>=0)) (some 1) (some 0)))))))
def aHa (x0:ByteArray) (x1:Int) (r:Int) (h:zD x0 x1=some r):cG prog 160 [aM x0,aI x1] (aI r):=by
 intro s;unfold zD at h;refine ac func160 ntmps160 ?_;refine rg ?_;apply aB.seq;refine jn h (fun q3=>bN [(0,aM x0),(1,aI x1),(18,aY q3)] [] s 24) (fun u4 h=>?_) ?_
 ·refine wy h (fun hg5 h=>?_) fun hg5 h=>?_
  ·obtain⟨hn6,h⟩:=aV h;refine iA (ai hg5<|ai (aJ hn6.1)<|ai (aJ hn6.2.1)<|(aJ hn6.2.2)) (IH ([(bm #[124,124]),(bm #[61,61]),(bm #[60,62]),(bm #[33,61]),(bm #[60,61]),(bm #[62,61])]) (x0.extract x1.toNat (i64.wrap (x1+2)).toNat)) h fun y7 _ h=>?_;exact⟨y7,h,bB hg5⟩
  ·refine bU hg5 ?_;exact⟨false,h,bB hg5⟩
 ·rintro v2 h;refine wz h (fun h=>?_) fun h=>?_
  ·refine rg ?_;cases h;exact aB.ret (bM [.tmp 4])
  ·apply sK;apply aB.seq;obtain⟨hn10,h⟩:=aV h;refine dN (ai (aJ hn10.1)<|(aJ hn10.2)) (Wm (bm #[40,41,44,59,46,42,43,45,47,37,61,60,62]) ((x0.data.toList.getD x1.toNat 0).toNat:Int)) h fun y11 _ h=>?_;refine wz h (fun h=>?_) fun h=>?_
   ·refine rg ?_;cases h;exact aB.ret (bM [.tmp 4])
   ·apply sK;refine rg ?_;cases h;exact aB.ret (bM [.tmp 4])
def tF (x0:ByteArray) (x1:Int):Option (aP×Int×Bool):=(join (fun u5=>(aR (0<=x1∧x1<(x0.size:Int)) (aE (((x0.data.toList.getD x1.toNat 0).toNat:Int)==39) (call (Ga x0 x1) fun y8=>(some ((aP.mk 3 x1 y8.1),y8.2.1,y8.2.2))) (join (fun u11=>(aE (((x0.data.toList.getD x1.toNat 0).toNat:Int)==120) (aE (decide ((i64.wrap (x1+1))<(x0.size:Int))) (aR (0<=(i64.wrap (x1+1))∧(i64.wrap (x1+1))<(x0.size:Int)) (u11 (((x0.data.toList.getD (i64.wrap (x1+1)).toNat 0).toNat:Int)==39))) (u11 false)) (aE (((x0.data.toList.getD x1.toNat 0).toNat:Int)==88) (aE (decide ((i64.wrap (x1+1))<(x0.size:Int))) (aR (0<=(i64.wrap (x1+1))∧(i64.wrap (x1+1))<(x0.size:Int)) (u11 (((x0.data.toList.getD (i64.wrap (x1+1)).toNat 0).toNat:Int)==39))) (u11 false)) (u11 false)))) (fun(q10:Bool)=>(aE q10 (call (Fz x0 (i64.wrap (x1+1))) fun y19=>(some ((aP.mk 4 x1 y19.1),y19.2.1,y19.2.2))) (aE (((x0.data.toList.getD x1.toNat 0).toNat:Int)==63) (call (Ad x0 (i64.wrap (x1+1))) fun y21=>(aR (0<=(i64.wrap (x1+1))∧(i64.wrap (x1+1))<=y21∧y21<=(x0.size:Int)) (some ((aP.mk 5 x1 (x0.extract (i64.wrap (x1+1)).toNat y21.toNat)),y21,true)))) (call (rG ((x0.data.toList.getD x1.toNat 0).toNat:Int)) fun y23=>(aE y23 (call (Er x0 x1) fun y25=>(u5 ((aP.mk 0 0 bO),(aP.mk 1 x1 bO),y25))) (call (vZ ((x0.data.toList.getD x1.toNat 0).toNat:Int)) fun y26=>(aE y26 (call (Ad x0 x1) fun y28=>(u5 ((aP.mk 0 0 bO),(aP.mk 2 x1 bO),y28))) (call (zD x0 x1) fun y29=>(u5 ((aP.mk 0 0 bO),(aP.mk 6 x1 bO),(i64.wrap (x1+y29)))))))))))))))) (fun(q4:aP×aP×Int)=>(aR (0<=x1∧x1<=q4.2.2∧q4.2.2<=(x0.size:Int)) (some ((aP.mk q4.2.1.kind q4.2.1.at_ (x0.extract x1.toNat q4.2.2.toNat)),q4.2.2,(decide (q4.2.2>x1)))))))
def aHf (x0:ByteArray) (x1:Int) (r:aP×Int×Bool) (h:tF x0 x1=some r):cG prog 116 [aM x0,aI x1] (.tuple [.agg r.1.v,aI r.2.1,aY r.2.2]):=by
 intro s;unfold tF at h;refine ac func116 ntmps116 ?_;refine bG (@aP.aC) ?_;refine bG (@aP.aC) ?_;refine bG (@aP.aC) ?_;refine jn h (fun q4=>bN [(0,aM x0),(1,aI x1),(4,.loc 4 0),(7,.loc 7 0),(8,aI q4.2.2)] [(4,([aI q4.1.kind,aI q4.1.at_,aM q4.1.text],96)),(7,([aI q4.2.1.kind,aI q4.2.1.at_,aM q4.2.1.text],96))] s 112) (fun u5 h=>?_) ?_
 ·obtain⟨hn6,h⟩:=aV h;refine bG (ai (@aP.aC)<|ai (aJ hn6.1)<|(aJ hn6.2)) ?_;apply aB.block;refine bG (@aP.aC) ?_;refine wz h (fun h=>?_) fun h=>?_
  ·refine bG (@aP.aC) ?_;refine dN (@aP.aC) (aHd x0 x1) h fun y8 hy8 h=>?_;refine bG (@aP.aC) ?_;cases h;exact aB.ret (iT @aP.aC [.cell 4 96,.tmp 5,.tmp 6])
  ·refine jn h (fun q10=>bN [(0,aM x0),(1,aI x1),(4,.loc 4 0),(7,.loc 7 0),(10,.base (.int .u8 ((x0.data.toList.getD x1.toNat 0).toNat:Int))),(38,aY q10)] [(4,([aI 0,aI 0,aM bO],96)),(7,([aI 0,aI x1,aM bO],96))] s 112) (fun u11 h=>?_) ?_
   ·refine wy h (fun hg12 h=>?_) fun hg12 h=>?_
    ·refine wy h (fun hg13 h=>?_) fun hg13 h=>?_
     ·obtain⟨hn14,h⟩:=aV h;refine bU (ai (@aP.aC)<|ai hg12<|ai hg13<|ai (aJ hn14.1)<|(aJ hn14.2)) ?_;exact⟨(((x0.data.toList.getD (i64.wrap (x1+1)).toNat 0).toNat:Int)==39),h,bB (ai @aP.aC<|ai hg12<|hg13)⟩
     ·refine bU (ai (@aP.aC)<|ai hg12<|hg13) ?_;exact⟨false,h,bB (ai @aP.aC<|ai hg12<|hg13)⟩
    ·refine wy h (fun hg15 h=>?_) fun hg15 h=>?_
     ·refine wy h (fun hg16 h=>?_) fun hg16 h=>?_
      ·obtain⟨hn17,h⟩:=aV h;refine bU (ai (@aP.aC)<|ai hg12<|ai hg15<|ai hg16<|ai (aJ hn17.1)<|(aJ hn17.2)) ?_;exact⟨(((x0.data.toList.getD (i64.wrap (x1+1)).toNat 0).toNat:Int)==39),h,bB (ai @aP.aC<|ai hg12<|ai hg15<|hg16)⟩
      ·refine bU (ai (@aP.aC)<|ai hg12<|ai hg15<|hg16) ?_;exact⟨false,h,bB (ai @aP.aC<|ai hg12<|ai hg15<|hg16)⟩
     ·refine bU (ai (@aP.aC)<|ai hg12<|hg15) ?_;exact⟨false,h,bB (ai @aP.aC<|ai hg12<|hg15)⟩
   ·rintro v9 h;refine wz h (fun h=>?_) fun h=>?_
    ·refine bG (@aP.aC) ?_;refine dN (@aP.aC) (aHc x0 (i64.wrap (x1+1))) h fun y19 _ h=>?_;refine bG (@aP.aC) ?_;cases h;exact aB.ret (iT @aP.aC [.cell 4 96,.tmp 5,.tmp 6])
    ·refine bG (@aP.aC) ?_;refine wz h (fun h=>?_) fun h=>?_
     ·refine bG (@aP.aC) ?_;refine dN (@aP.aC) (EX x0 (i64.wrap (x1+1))) h fun y21 _ h=>?_;obtain⟨hn22,h⟩:=aV h;refine bG (ai (@aP.aC)<|ai (aJ hn22.1)<|ai (aJ hn22.2.1)<|(aJ hn22.2.2)) ?_;refine bG (@aP.aC) ?_;cases h;exact aB.ret (iT @aP.aC [.cell 4 96,.tmp 5,.tmp 6])
     ·refine dN (@aP.aC) (Dh ((x0.data.toList.getD x1.toNat 0).toNat:Int)) h fun y23 _ h=>?_;refine wz h (fun h=>?_) fun h=>?_
      ·refine bG (@aP.aC) ?_;refine iA (@aP.aC) (aCc x0 x1) h fun y25 _ h=>?_;exact⟨((aP.mk 0 0 bO),(aP.mk 1 x1 bO),y25),h,bB @aP.aC⟩
      ·refine dN (@aP.aC) (Ku ((x0.data.toList.getD x1.toNat 0).toNat:Int)) h fun y26 _ h=>?_;refine wz h (fun h=>?_) fun h=>?_
       ·refine bG (@aP.aC) ?_;refine iA (@aP.aC) (EX x0 x1) h fun y28 _ h=>?_;exact⟨((aP.mk 0 0 bO),(aP.mk 2 x1 bO),y28),h,bB @aP.aC⟩
       ·refine bG (@aP.aC) ?_;refine iA (@aP.aC) (aHa x0 x1) h fun y29 _ h=>?_;exact⟨((aP.mk 0 0 bO),(aP.mk 6 x1 bO),(i64.wrap (x1+y29))),h,bB @aP.aC⟩
 ·rintro⟨b1,b2,v3⟩ h;(try dsimp only at h ⊢);obtain⟨hn30,h⟩:=aV h;refine bG (ai (@aP.aC)<|ai (aJ hn30.1)<|ai (aJ hn30.2.1)<|(aJ hn30.2.2)) ?_;refine bG (@aP.aC) ?_;cases h;exact aB.ret (iT @aP.aC [.cell 4 96,.tmp 5,.tmp 6])
def Nv (x0:ByteArray) (x1:Int):Option (Int):=(cF (fun u4 (q3:Int)=>(join (fun u8=>(aE (decide (q3<(x0.size:Int))) (aR (0<=q3∧q3<(x0.size:Int)) (call (rG ((x0.data.toList.getD q3.toNat 0).toNat:Int)) fun y11=>(u8 y11))) (u8 false))) (fun(q7:Bool)=>(aE q7 (u4 (i64.wrap (q3+1))) (some q3))))) bQ x1)
def EY (x0:ByteArray) (x1:Int) (r:Int) (h:Nv x0 x1=some r):cG prog 122 [aM x0,aI x1,.func 120 [] []] (aI r):=by
 intro s;unfold Nv at h;refine ac func122 ntmps122 ?_;refine rg ?_;apply aB.seq;apply aB.block;refine lp h (fun q3=>bN [(0,aM x0),(1,aI q3),(2,.func 120 [] [])] [] s 21) ?_ ?_
 ·exact bX
 ·rintro u4 v2 h;apply aB.seq;refine jn h (fun q7=>bN [(0,aM x0),(1,aI v2),(2,.func 120 [] []),(17,aY q7)] [] s 21) (fun u8 h=>?_) ?_
  ·refine wy h (fun hg9 h=>?_) fun hg9 h=>?_
   ·obtain⟨hn10,h⟩:=aV h;refine iA (ai hg9<|ai (aJ hn10.1)<|(aJ hn10.2)) (Dh ((x0.data.toList.getD v2.toNat 0).toNat:Int)) h fun y11 _ h=>?_;exact⟨y11,h,bB hg9⟩
   ·refine bU hg9 ?_;exact⟨false,h,bB hg9⟩
  ·rintro v6 h;refine wz h (fun h=>?_) fun h=>?_
   ·apply sK;apply aB.block;refine r1 ?_;exact⟨(i64.wrap (v2+1)),h,bX⟩
   ·apply aB.exit;simp only[dR,seval];refine rg ?_;cases h;exact aB.ret (bM [.tmp 6])
def kA (x0:ByteArray):Option (ByteArray×Bool):=(call (Gf x0) fun y1=>(join (fun u5=>(aE ((y1.size:Int) != (x0.size:Int)) (u5 true) (aE (x0.data.toList==(bm #[]).data.toList) (u5 true) (call (Nv x0 0) fun y8=>(aE (decide (y8<(x0.size:Int))) (u5 true) (aR ((bm #[32]).size+y1.size<=maxLen) (aR (((bm #[32])++y1).size+(bm #[32]).size<=maxLen) (call (Pp (bm #[32,65,66,79,82,84,32,65,68,68,32,65,76,76,32,65,76,84,69,82,32,65,78,68,32,65,83,32,65,83,67,32,66,69,71,73,78,32,66,69,84,87,69,69,78,32,66,89,32,67,65,83,69,32,67,65,83,84,32,67,72,69,67,75,32,67,79,76,76,65,84,69,32,67,79,76,85,77,78,32,67,79,77,77,73,84,32,67,82,69,65,84,69,32,67,82,79,83,83,32,68,69,70,65,85,76,84,32,68,69,70,69,82,82,69,68,32,68,69,76,69,84,69,32,68,69,83,67,32,68,73,83,84,73,78,67,84,32,68,82,79,80,32,69,76,83,69,32,69,78,68,32,69,88,67,69,80,84,32,69,88,67,76,85,83,73,86,69,32,69,88,73,83,84,83,32,70,82,79,77,32,71,76,79,66,32,71,82,79,85,80,32,72,65,86,73,78,71,32,73,70,32,73,71,78,79,82,69,32,73,77,77,69,68,73,65,84,69,32,73,78,32,73,78,68,69,88,32,73,78,78,69,82,32,73,78,83,69,82,84,32,73,78,84,69,82,83,69,67,84,32,73,78,84,79,32,73,83,32,74,79,73,78,32,75,69,89,32,76,69,70,84,32,76,73,75,69,32,76,73,77,73,84,32,78,79,84,32,78,85,76,76,32,79,70,70,83,69,84,32,79,78,32,79,82,32,79,82,68,69,82,32,79,85,84,69,82,32,80,82,73,77,65,82,89,32,82,69,67,85,82,83,73,86,69,32,82,69,76,69,65,83,69,32,82,69,78,65,77,69,32,82,69,80,76,65,67,69,32,82,79,76,76,66,65,67,75,32,83,65,86,69,80,79,73,78,84,32,83,69,76,69,67,84,32,83,69,84,32,84,65,66,76,69,32,84,72,69,78,32,84,79,32,84,82,65,78,83,65,67,84,73,79,78,32,85,78,73,79,78,32,85,78,73,81,85,69,32,85,80,68,65,84,69,32,85,83,73,78,71,32,86,65,76,85,69,83,32,86,73,69,87,32,87,72,69,78,32,87,72,69,82,69,32,87,73,84,72,32]) (((bm #[32])++y1)++(bm #[32]))) fun y12=>(u5 (!y12)))))))))) (fun(q4:Bool)=>(aE q4 (some ((bm #[]),false)) (some (y1,true))))))
def II (x0:ByteArray) (r:ByteArray×Bool) (h:kA x0=some r):cG prog 121 [aM x0] (.tuple [aM r.1,aY r.2]):=by
 intro s;unfold kA at h;refine ac func121 ntmps121 ?_;refine rg ?_;refine dH (aHm x0) h fun y1 _ h=>?_;apply aB.seq;refine jn h (fun q4=>bN [(4,aM y1),(29,aY q4)] [] s 31) (fun u5 h=>?_) ?_
 ·refine wy h (fun hg6 h=>?_) fun hg6 h=>?_
  ·refine bU hg6 ?_;exact⟨true,h,bB hg6⟩
  ·refine wy h (fun hg7 h=>?_) fun hg7 h=>?_
   ·refine bU (ai hg6<|hg7) ?_;exact⟨true,h,bB (ai hg6<|hg7)⟩
   ·obtain⟨y8,hy8,h⟩:=cC h;refine wy h (fun hg9 h=>?_) fun hg9 h=>?_
    ·refine kO (ai hg6<|ai hg7<|hg9) (EY x0 0 _ hy8) ?_;exact⟨true,h,bB (ai hg6<|ai hg7<|hg9)⟩
    ·obtain⟨hn10,h⟩:=aV h;obtain⟨hn11,h⟩:=aV h;refine rC (ai hg6<|ai hg7<|ai hg9<|ai (aJ hn10)<|(aJ hn11)) (EY x0 0 _ hy8) (aHl (bm #[32,65,66,79,82,84,32,65,68,68,32,65,76,76,32,65,76,84,69,82,32,65,78,68,32,65,83,32,65,83,67,32,66,69,71,73,78,32,66,69,84,87,69,69,78,32,66,89,32,67,65,83,69,32,67,65,83,84,32,67,72,69,67,75,32,67,79,76,76,65,84,69,32,67,79,76,85,77,78,32,67,79,77,77,73,84,32,67,82,69,65,84,69,32,67,82,79,83,83,32,68,69,70,65,85,76,84,32,68,69,70,69,82,82,69,68,32,68,69,76,69,84,69,32,68,69,83,67,32,68,73,83,84,73,78,67,84,32,68,82,79,80,32,69,76,83,69,32,69,78,68,32,69,88,67,69,80,84,32,69,88,67,76,85,83,73,86,69,32,69,88,73,83,84,83,32,70,82,79,77,32,71,76,79,66,32,71,82,79,85,80,32,72,65,86,73,78,71,32,73,70,32,73,71,78,79,82,69,32,73,77,77,69,68,73,65,84,69,32,73,78,32,73,78,68,69,88,32,73,78,78,69,82,32,73,78,83,69,82,84,32,73,78,84,69,82,83,69,67,84,32,73,78,84,79,32,73,83,32,74,79,73,78,32,75,69,89,32,76,69,70,84,32,76,73,75,69,32,76,73,77,73,84,32,78,79,84,32,78,85,76,76,32,79,70,70,83,69,84,32,79,78,32,79,82,32,79,82,68,69,82,32,79,85,84,69,82,32,80,82,73,77,65,82,89,32,82,69,67,85,82,83,73,86,69,32,82,69,76,69,65,83,69,32,82,69,78,65,77,69,32,82,69,80,76,65,67,69,32,82,79,76,76,66,65,67,75,32,83,65,86,69,80,79,73,78,84,32,83,69,76,69,67,84,32,83,69,84,32,84,65,66,76,69,32,84,72,69,78,32,84,79,32,84,82,65,78,83,65,67,84,73,79,78,32,85,78,73,79,78,32,85,78,73,81,85,69,32,85,80,68,65,84,69,32,85,83,73,78,71,32,86,65,76,85,69,83,32,86,73,69,87,32,87,72,69,78,32,87,72,69,82,69,32,87,73,84,72,32]) (((bm #[32])++y1)++(bm #[32]))) h fun y12 _ h=>?_
     exact⟨(!y12),h,bB (ai hg6<|ai hg7<|hg9)⟩
 ·rintro v3 h;refine wz h (fun h=>?_) fun h=>?_
  ·refine rg ?_;cases h;exact aB.ret (bM [.tmp 2,.tmp 3])
  ·apply sK;refine rg ?_;cases h;exact aB.ret (bM [.tmp 2,.tmp 3])
def pC (x1:Int) (m0:aD):Option (ByteArray×aD):=(join (fun u4=>(aE (decide ((i64.wrap (m0.at_+x1))<(m0.l.length:Int))) (aR (0<=(i64.wrap (m0.at_+x1))∧(i64.wrap (m0.at_+x1))<(m0.l.length:Int)) (u4 (((m0.l.getD (i64.wrap (m0.at_+x1)).toNat aP.z).kind)==1))) (u4 false))) (fun(q3:Bool)=>(aE q3 (aR (0<=(i64.wrap (m0.at_+x1))∧(i64.wrap (m0.at_+x1))<(m0.l.length:Int)) (call (kA ((m0.l.getD (i64.wrap (m0.at_+x1)).toNat aP.z).text)) fun y11=>(some (y11.1,m0)))) (some ((bm #[]),m0)))))
def tB (x1:Int) (m0:aD) (r:ByteArray×aD) (h:pC x1 m0=some r):sX prog 90 (fun b0=>[.ptr b0 0,aI x1]) (aM r.1) (rB m0) (rB r.2):=by
 refine uW fun s b0=>?_;unfold pC at h;refine ac func90 ntmps90 ?_;refine rg ?_;apply aB.seq;refine rg ?_;refine jn h (fun q3=>bN [(0,.ptr b0 0),(5,aI (i64.wrap (m0.at_+x1))),(31,aY q3)] [] (s.aU b0 (rB m0)) 45) (fun u4 h=>?_) ?_
 ·refine wy h (fun hg5 h=>?_) fun hg5 h=>?_
  ·obtain⟨hn7,h⟩:=aV h;refine bU (ai hg5<|ai (aJ hn7.1)<|ai (aJ hn7.2)<|(bW aP.v aP.z hn7)) ?_;exact⟨(((m0.l.getD (i64.wrap (m0.at_+x1)).toNat aP.z).kind)==1),h,bB hg5⟩
  ·refine bU hg5 ?_;exact⟨false,h,bB hg5⟩
 ·rintro v2 h;refine wz h (fun h=>?_) fun h=>?_
  ·obtain⟨hn10,h⟩:=aV h;refine dN (ai (aJ hn10.1)<|ai (aJ hn10.2)<|(bW aP.v aP.z hn10)) (II ((m0.l.getD (i64.wrap (m0.at_+x1)).toNat aP.z).text)) h fun y11 _ h=>?_;refine rg ?_;cases h;exact aB.ret (bM [.tmp 4])
  ·apply sK;refine rg ?_;cases h;exact aB.ret (bM [.tmp 4])
def vM (x1:ByteArray) (m0:aD):Option (Int×Int×aD):=(join (fun u5=>(aE (x1.data.toList==(bm #[111,114]).data.toList) (call (pC 0 m0) fun y7=>(u5 ((y7.1.data.toList==(bm #[79,82]).data.toList),y7.2))) (u5 (false,m0)))) (fun(q4:Bool×aD)=>(aE q4.1 (some (22,1,q4.2)) (join (fun u13=>(aE (x1.data.toList==(bm #[97,110,100]).data.toList) (call (pC 0 q4.2) fun y15=>(u13 ((y15.1.data.toList==(bm #[65,78,68]).data.toList),y15.2))) (u13 (false,q4.2)))) (fun(q12:Bool×aD)=>(aE q12.1 (some (21,1,q12.2)) (join (fun u20=>(aE (decide (q12.2.at_>=(q12.2.l.length:Int))) (u20 true) (aR (0<=q12.2.at_∧q12.2.at_<(q12.2.l.length:Int)) (u20 (((q12.2.l.getD q12.2.at_.toNat aP.z).kind) != 6))))) (fun(q19:Bool)=>(aE q19 (some (0,0,q12.2)) (aR (0<=q12.2.at_∧q12.2.at_<(q12.2.l.length:Int)) (aE (x1.data.toList==(bm #[108,101,115,115]).data.toList) (some ((jQ ((q12.2.l.getD q12.2.at_.toNat aP.z).text) [((bm #[60]),15),((bm #[60,61]),16),((bm #[62]),17),((bm #[62,61]),18)]).1,(jQ ((q12.2.l.getD q12.2.at_.toNat aP.z).text) [((bm #[60]),15),((bm #[60,61]),16),((bm #[62]),17),((bm #[62,61]),18)]).2,q12.2)) (aE (x1.data.toList==(bm #[115,117,109]).data.toList) (some ((jQ ((q12.2.l.getD q12.2.at_.toNat aP.z).text) [((bm #[43]),7),((bm #[45]),8)]).1,(jQ ((q12.2.l.getD q12.2.at_.toNat aP.z).text) [((bm #[43]),7),((bm #[45]),8)]).2,q12.2)) (aE (x1.data.toList==(bm #[116,105,109,101,115]).data.toList) (some ((jQ ((q12.2.l.getD q12.2.at_.toNat aP.z).text) [((bm #[42]),9),((bm #[47]),10),((bm #[37]),11)]).1,(jQ ((q12.2.l.getD q12.2.at_.toNat aP.z).text) [((bm #[42]),9),((bm #[47]),10),((bm #[37]),11)]).2,q12.2)) (aE (x1.data.toList==(bm #[99,104,97,105,110]).data.toList) (some ((jQ ((q12.2.l.getD q12.2.at_.toNat aP.z).text) [((bm #[124,124]),12)]).1,(jQ ((q12.2.l.getD q12.2.at_.toNat aP.z).text) [((bm #[124,124]),12)]).2,q12.2)) (some (0,0,q12.2))))))))))))))))
def Fi (x1:ByteArray) (m0:aD) (r:Int×Int×aD) (h:vM x1 m0=some r):sX prog 78 (fun b0=>[.ptr b0 0,aM x1]) (.tuple [aI r.1,aI r.2.1]) (rB m0) (rB r.2.2):=by
 refine uW fun s b0=>?_;unfold vM at h;refine ac func78 ntmps78 ?_;refine rg ?_;apply aB.seq;refine jn h (fun q4=>bN [(0,.ptr b0 0),(1,aM x1),(13,aY q4.1)] [] (s.aU b0 (rB q4.2)) 105) (fun u5 h=>?_) ?_
 ·refine wy h (fun hg6 h=>?_) fun hg6 h=>?_
  ·refine iA hg6 (tB 0 m0) h fun y7 _ h=>?_;exact⟨((y7.1.data.toList==(bm #[79,82]).data.toList),y7.2),h,bB hg6⟩
  ·refine bU hg6 ?_;exact⟨(false,m0),h,bB hg6⟩
 ·rintro⟨v2,w3⟩ h;(try dsimp only at h ⊢);refine wz h (fun h=>?_) fun h=>?_
  ·refine rg ?_;cases h;exact aB.ret (bM [.tmp 4,.tmp 5])
  ·apply sK;apply aB.seq;refine jn h (fun q12=>bN [(0,.ptr b0 0),(1,aM x1),(20,aY q12.1)] [] (s.aU b0 (rB q12.2)) 105) (fun u13 h=>?_) ?_
   ·refine wy h (fun hg14 h=>?_) fun hg14 h=>?_
    ·refine iA hg14 (tB 0 w3) h fun y15 _ h=>?_;exact⟨((y15.1.data.toList==(bm #[65,78,68]).data.toList),y15.2),h,bB hg14⟩
    ·refine bU hg14 ?_;exact⟨(false,w3),h,bB hg14⟩
   ·rintro⟨v10,w11⟩ h;(try dsimp only at h ⊢);refine wz h (fun h=>?_) fun h=>?_
    ·refine rg ?_;cases h;exact aB.ret (bM [.tmp 4,.tmp 5])
    ·apply sK;apply aB.seq;refine jn h (fun q19=>bN [(0,.ptr b0 0),(1,aM x1),(44,aY q19)] [] (s.aU b0 (rB w11)) 105) (fun u20 h=>?_) ?_
     ·refine wy h (fun hg21 h=>?_) fun hg21 h=>?_
      ·refine xK [0,1,2,3,4,5,6,7,8,9,10,11,12,13,14,15,16,17,18,19,20,21,22,23] [] hg21 ?_;exact⟨true,h,bB hg21⟩
      ·obtain⟨hn23,h⟩:=aV h;refine xK [0,1,2,3,4,5,6,7,8,9,10,11,12,13,14,15,16,17,18,19,20,21,22,23] [] (ai hg21<|ai (aJ hn23.1)<|ai (aJ hn23.2)<|(bW aP.v aP.z hn23)) ?_;exact⟨(((w11.l.getD w11.at_.toNat aP.z).kind) != 6),h,bB hg21⟩
     ·rintro v18 h;refine wz h (fun h=>?_) fun h=>?_
      ·refine rg ?_;cases h;exact aB.ret (bM [.tmp 4,.tmp 5])
      ·apply sK;obtain⟨hn26,h⟩:=aV h;refine Au [0,1,2,3,4,5,6,7,8,9,10,11] [] (ai (aJ hn26.1)<|ai (aJ hn26.2)<|(bW aP.v aP.z hn26)) ?_;apply aB.seq;refine rg ?_;apply aB.block;refine rg ?_;refine wz h (fun h=>?_) fun h=>?_
       ·refine aB.eD fun Z29 hZ29=>?_;refine sx ?_;refine(Ja ((w11.l.getD w11.at_.toNat aP.z).text) [((bm #[60]),15),((bm #[60,61]),16),((bm #[62]),17),((bm #[62,61]),18)] (by decide) _).go ?_;refine sx ?_;refine hZ29 _ ?_;clear hZ29 Z29;cases h;exact aB.ret (bM [.tmp 4,.tmp 5])
       ·refine rg ?_;refine wz h (fun h=>?_) fun h=>?_
        ·refine aB.eD fun Z31 hZ31=>?_;refine sx ?_;refine(Ja ((w11.l.getD w11.at_.toNat aP.z).text) [((bm #[43]),7),((bm #[45]),8)] (by decide) _).go ?_;refine sx ?_;refine hZ31 _ ?_;clear hZ31 Z31;cases h;exact aB.ret (bM [.tmp 4,.tmp 5])
        ·refine rg ?_;refine wz h (fun h=>?_) fun h=>?_
         ·refine aB.eD fun Z33 hZ33=>?_;refine sx ?_;refine(Ja ((w11.l.getD w11.at_.toNat aP.z).text) [((bm #[42]),9),((bm #[47]),10),((bm #[37]),11)] (by decide) _).go ?_;refine sx ?_;refine hZ33 _ ?_;clear hZ33 Z33;cases h;exact aB.ret (bM [.tmp 4,.tmp 5])
         ·refine rg ?_;refine wz h (fun h=>?_) fun h=>?_
          ·refine aB.eD fun Z35 hZ35=>?_;refine sx ?_;refine(Ja ((w11.l.getD w11.at_.toNat aP.z).text) [((bm #[124,124]),12)] (by decide) _).go ?_;refine sx ?_;refine hZ35 _ ?_;clear hZ35 Z35;cases h;exact aB.ret (bM [.tmp 4,.tmp 5])
          ·apply sK;refine rg ?_;cases h;exact aB.ret (bM [.tmp 4,.tmp 5])
def sW (x1:(List ByteArray)) (m0:aD):Option (Bool×aD):=(join (fun u4=>(aE (decide (m0.at_<(m0.l.length:Int))) (aR (0<=m0.at_∧m0.at_<(m0.l.length:Int)) (aE (((m0.l.getD m0.at_.toNat aP.z).kind)==6) (aR (0<=m0.at_∧m0.at_<(m0.l.length:Int)) (call (Cy x1 ((m0.l.getD m0.at_.toNat aP.z).text)) fun y11=>(u4 (y11,m0)))) (u4 (false,m0)))) (u4 (false,m0)))) (fun(q3:Bool×aD)=>(some (q3.1,q3.2))))
def Ev (x1:(List ByteArray)) (m0:aD) (r:Bool×aD) (h:sW x1 m0=some r):sX prog 137 (fun b0=>[.ptr b0 0,.slice 1 (List.map (fun x=>[aM x]) x1)]) (aY r.1) (rB m0) (rB r.2):=by
 refine uW fun s b0=>?_;unfold sW at h;refine ac func137 ntmps137 ?_;refine rg ?_;refine jn h (fun q3=>bN [(4,aY q3.1)] [] (s.aU b0 (rB q3.2)) 44) (fun u4 h=>?_) ?_
 ·refine wy h (fun hg5 h=>?_) fun hg5 h=>?_
  ·obtain⟨hn7,h⟩:=aV h;refine wy h (fun hg8 h=>?_) fun hg8 h=>?_
   ·obtain⟨hn10,h⟩:=aV h;refine Um [0,1,2,3,4,5,6,7,8,9,10,11,12,13,14,15,16,17,18,19,20,21,22,23,24,25,26,27,28,29,30,31,32,33,34,35,36,37,38,39] [] (ai hg5<|ai (aJ hn7.1)<|ai (aJ hn7.2)<|ai (bW aP.v aP.z hn7)<|ai hg8<|ai (aJ hn10.1)<|ai (aJ hn10.2)<|(bW aP.v aP.z hn10)) (IH x1 ((m0.l.getD m0.at_.toNat aP.z).text)) h fun y11 _ h=>?_;exact⟨(y11,m0),h,bB (ai hg5<|hg8)⟩
   ·refine xK [0,1,2,3,4,5,6,7,8,9,10,11,12,13,14,15,16,17,18,19,20,21,22,23,24,25,26,27,28,29,30,31,32,33,34,35,36,37,38,39] [] (ai hg5<|ai (aJ hn7.1)<|ai (aJ hn7.2)<|ai (bW aP.v aP.z hn7)<|hg8) ?_;exact⟨(false,m0),h,bB (ai hg5<|hg8)⟩
  ·refine xK [0,1,2,3,4,5,6,7,8,9,10,11,12,13,14,15,16,17,18,19,20,21,22,23,24,25,26,27,28,29,30,31,32,33,34,35,36,37,38,39] [] hg5 ?_;exact⟨(false,m0),h,bB hg5⟩
 ·rintro⟨v1,w2⟩ h;(try dsimp only at h ⊢);cases h;exact aB.ret (bM [.tmp 4])
def Kp (x0:Int):Option (Bool):=(join (fun u3=>(call (rG x0) fun y4=>(aE y4 (u3 true) (call (vZ x0) fun y6=>(u3 y6))))) (fun(q2:Bool)=>(some q2)))
def aHe (x0:Int) (r:Bool) (h:Kp x0=some r):cG prog 123 [.base (.int .u8 x0)] (aY r):=by
 intro s;unfold Kp at h;refine ac func123 ntmps123 ?_;refine rg ?_;refine jn h (fun q2=>bN [(2,aY q2)] [] s 9) (fun u3 h=>?_) ?_
 ·obtain⟨y4,hy4,h⟩:=cC h;refine wy h (fun hg5 h=>?_) fun hg5 h=>?_
  ·refine kO hg5 (Dh x0 _ hy4) ?_;exact⟨true,h,bB hg5⟩
  ·refine rC hg5 (Dh x0 _ hy4) (Ku x0) h fun y6 _ h=>?_;exact⟨y6,h,bB hg5⟩
 ·rintro v1 h;cases h;exact aB.ret (bM [.tmp 2])
def Ae (x0:ByteArray) (x1:Int):Option (Int):=(cF (fun u4 (q3:Int)=>(join (fun u8=>(aE (decide (q3<(x0.size:Int))) (aR (0<=q3∧q3<(x0.size:Int)) (call (Kp ((x0.data.toList.getD q3.toNat 0).toNat:Int)) fun y11=>(u8 y11))) (u8 false))) (fun(q7:Bool)=>(aE q7 (u4 (i64.wrap (q3+1))) (some q3))))) bQ x1)
def aCd (x0:ByteArray) (x1:Int) (r:Int) (h:Ae x0 x1=some r):cG prog 122 [aM x0,aI x1,.func 123 [] []] (aI r):=by
 intro s;unfold Ae at h;refine ac func122 ntmps122 ?_;refine rg ?_;apply aB.seq;apply aB.block;refine lp h (fun q3=>bN [(0,aM x0),(1,aI q3),(2,.func 123 [] [])] [] s 21) ?_ ?_
 ·exact bX
 ·rintro u4 v2 h;apply aB.seq;refine jn h (fun q7=>bN [(0,aM x0),(1,aI v2),(2,.func 123 [] []),(17,aY q7)] [] s 21) (fun u8 h=>?_) ?_
  ·refine wy h (fun hg9 h=>?_) fun hg9 h=>?_
   ·obtain⟨hn10,h⟩:=aV h;refine iA (ai hg9<|ai (aJ hn10.1)<|(aJ hn10.2)) (aHe ((x0.data.toList.getD v2.toNat 0).toNat:Int)) h fun y11 _ h=>?_;exact⟨y11,h,bB hg9⟩
   ·refine bU hg9 ?_;exact⟨false,h,bB hg9⟩
  ·rintro v6 h;refine wz h (fun h=>?_) fun h=>?_
   ·apply sK;apply aB.block;refine r1 ?_;exact⟨(i64.wrap (v2+1)),h,bX⟩
   ·apply aB.exit;simp only[dR,seval];refine rg ?_;cases h;exact aB.ret (bM [.tmp 6])
def vD (x:ByteArray):Nat->Int->Option (List (Int×aP)×Option Int)
 |0,_=>none
 |n+1,a=>aE (decide (a<(x.size:Int))) (call (tF x a) fun t=>aE t.2.2 (call (uM x t.2.1) fun b=>call (vD x n b) fun r=>some ((t.2.1,t.1)::r.1,r.2)) (some ([],some a))) (some ([],none))
def Lc (x:ByteArray):Option (List aP×Int×Int):=aE (decide ((x.size:Int)>2000)) (some ([],0,3)) (call (uM x 0) fun a=>call (vD x 5000 a) fun r=>match r.2 with
 |some b=>if 0<=b then some ([],b,250) else none
 |none=>some (r.1.map Prod.snd,0,0))
def Yr (x:ByteArray):∀(n:Nat) (a:Int) r,vD x n a=some r->r.1.length<=n
 |0,_,_,h=>by cases h
 |n+1,a,r,h=>by
  unfold vD at h;cases hc:decide (a<(x.size:Int)) with
  |false=>rw[hc] at h;cases h;exact kK _
  |true=>
   rw[hc] at h;obtain⟨t,ht,h⟩:=cC (show call (tF x a) _=some r from h);cases hw:t.2.2 with
   |false=>rw[hw] at h;cases h;exact kK _
   |true=>
    rw[hw] at h;obtain⟨b,hb,h⟩:=cC (show call (uM x t.2.1) _=some r from h);obtain⟨r',hr,h⟩:=cC h;cases h
    have:=Yr x n b r' hr;simp;omega
def c75 (x:ByteArray) (b:Nat):cG prog 75 [aM x,.func 76 [] [.ptr b 0]] (.func 114 [] [.elt [aM x] 0,.elt [.func 76 [] [.ptr b 0]] 0]):=by
 intro s;refine Hw (fn:=f75) func75 rfl (by decide) (by show 2<=6;decide) ?_;rw[ntmps75];refine aB.eD fun Z1 hZ1=>?_;simp only[rH,Jj,am,seval,reduceCtorEq];refine hZ1 _ ?_;clear hZ1 Z1;refine aB.dO 2 (cs:=[aM x]) (ty:=9) (by first|rfl|simp only[am,seval,reduceCtorEq]) ?_;refine aB.dO 3 (cs:=[.func 76 [] [.ptr b 0]]) (ty:=147) (by first|rfl|simp only[St.dO,tM,am,seval,reduceCtorEq]) ?_;refine aB.eD fun Z1 hZ1=>?_;simp only[St.dO,tM,am,seval,reduceCtorEq];refine hZ1 _ ?_;clear hZ1 Z1;refine aB.ret ?_;refine qX (vs:=[.func 114 [] [.elt [aM x] 0,.elt [.func 76 [] [.ptr b 0]] 0]]) (v:=.func 114 [] [.elt [aM x] 0,.elt [.func 76 [] [.ptr b 0]] 0]) (by show dC prog _ [.tmp 4]=_;simp only[dC,St.dO,tM,am,seval,reduceCtorEq]) (Wk.refl _) (aL.le.refl _) ⟨rfl,rfl⟩
def c76 (n m:Int):sX prog 76 (fun b=>[aI n,.ptr b 0]) (.tuple []) ([aI m],3) ([aI n],3):=by
 refine uW fun s b=>?_;refine Hw (fn:=f76) func76 rfl (by decide) (by show 2<=4;decide) ?_;rw[ntmps76];refine aB.fW fun Z1 hZ1=>?_;simp only[kQ,dJ,am,seval,reduceCtorEq];refine hZ1 _ ?_;exact qX (vs:=[]) (v:=.tuple []) (by rfl) (Wk.refl _) (aL.le.refl _) ⟨rfl,by rw[wP]⟩
def gG (s:aL) (b5 b6 g:Nat) (l:List (Int×aP)) (b:Int):aL:=((s.cI g (some (96,3))).aU b5 ([aI b],3)).aU b6 ([.own g 3 (List.map aP.v (l.map Prod.snd))],87)
def Is (s:aL) (b5 b6:Nat) (l:List (Int×aP)) (h:aL):Prop:=∃g,s.own g=none∧h=gG s b5 b6 g l (-1)
def Nr (s:aL) (b5 b6:Nat) (bad:Option Int) (l:List (Option (Int×aP))) (h:aL):Prop:=∃P,(l=P.map some∧Is s b5 b6 P h)∨(l=P.map some++[none]∧∃b g,bad=some b∧s.own g=none∧h=gG s b5 b6 g P b)
def Xq {α:Type} {P T:List α} (h:T.map some=P.map some++[none]):False:=by
 have:none∈T.map some:=by rw[h];simp
 simp at this
def Qr {α:Type}:∀{P T:List α},P.map some=T.map some->P=T
 |[],[],_=>rfl
 |a::P,b::T,h=>by
  simp only[dG,List.cons.injEq,iZ] at h;rw[h.1,Qr h.2]
 |[],_::_,h=>by cases h
 |_::_,[],h=>by cases h
def Re {s:aL} {b5 b6:Nat} {bad:Option Int} {pre:List (Int×aP)} {h:aL} (hH:Nr s b5 b6 bad (pre.map some) h):Is s b5 b6 pre h:=by
 obtain⟨P,⟨e,k⟩|⟨e,k⟩⟩:=hH
 ·rw[Qr e];exact k
 ·exact(Xq e).elim
def NU {s:aL} {b5 b6:Nat} {bad:Option Int} {pre:List (Int×aP)} {h:aL} (hH:Nr s b5 b6 bad (pre.map some++[none]) h):∃b g,bad=some b∧s.own g=none∧h=gG s b5 b6 g pre b:=by
 obtain⟨P,⟨e,k⟩|⟨e,k⟩⟩:=hH
 ·exact(Xq e.symm).elim
 ·rw[Qr (List.append_cancel_right e)];exact k
def aHg {x:ByteArray} {s:aL} {b5 b6:Nat} (h56:b5≠b6) {a0:Int} {T:List (Int×aP)} {bad:Option Int} (h0:uM x 0=some a0) (hT:vD x 5000 a0=some (T,bad)) (lo:bC) (yl:Nat)
 (hY:∀pre y h,Is s b5 b6 pre h->(∃suf,T=pre++y::suf)->wW prog lo yl [aI y.1,.agg y.2.v] h fun v s'=>v= .base (.bool true)∧Nr s b5 b6 bad (pre.map some++[some y]) s') {g0:Nat} (hg0:s.own g0=none):
 Iq prog lo 114 ([lP yl]++[.elt [aM x] 0,.elt [.func 76 [] [.ptr b5 0]] 0]) (gG s b5 b6 g0 [] (-1)) fun _ s'=>(bad=none∧Is s b5 b6 T s')∨∃b g,bad=some b∧s.own g=none∧s'=gG s b5 b6 g T b:=by
 refine Mp (fn:=f114) func114 rfl (by decide) (by show 3<=35;decide) ?_;rw[ntmps114];refine aB.eD fun Z1 hZ1=>?_;simp only[jP,iY,rH,kQ,qO,qN,qM,am,seval,reduceCtorEq];refine(IJ _ _ _ h0 _).go ?_;simp only[rH,kQ,am,seval,reduceCtorEq];refine hZ1 _ ?_;clear hZ1 Z1;refine aB.block ?_;refine aB.Qj (ι:=List (Int×aP)×Int×Nat×List (Int×aP)×aL) (fun i=>T=i.1++i.2.2.2.1∧vD x i.2.2.1 i.2.1=some (i.2.2.2.1,bad)∧∃g,s.own g=none∧i.2.2.2.2=gG s b5 b6 g i.1 (-1)) (fun i=>vY lo [(0,lP yl),(1,.elt [aM x] 0),(2,.elt [.func 76 [] [.ptr b5 0]] 0),(4,aI i.2.1)] [] i.2.2.2.2 35) (fun i=>i.2.2.1) ([],a0,5000,T,gG s b5 b6 g0 [] (-1)) ⟨⟨rfl,hT,g0,hg0,rfl⟩,?_⟩ ?_
 ·refine En ?_ ?_ ?_ (aL.le.refl _) rfl
  ·simp only[jK,lP,am,seval,reduceCtorEq]<;>simp
  ·simp only[gB,lP,iG,Nat.reduceBEq,kJ,kI,jE,and_self]
  ·simp only[jL,am,seval,reduceCtorEq]<;>simp
 ·rintro⟨pre,a,n,suf,h1⟩ ⟨hTe,hgo,g,hg,hq⟩;simp only at hTe hgo hq ⊢;subst hq;cases n with
  |zero=>cases hgo
  |succ n=>
  unfold vD at hgo;refine aB.rJ fun K hK=>?_;refine aB.eD fun Z1 hZ1=>?_;simp only[vY,rH,kQ,am,seval,reduceCtorEq];refine hZ1 _ ?_;clear hZ1 Z1;refine aB.Qk hgo (by simp only[am,seval,reduceCtorEq]) (fun hc hgo=>?_) (fun hc hgo=>?_)
  ·refine aB.skip ?_;refine hK _ ?_;clear hK K;refine aB.rJ fun K hK=>?_;refine aB.block ?_;obtain⟨t,ht,hgo⟩:=cC hgo;refine aB.eD fun Z1 hZ1=>?_;simp only[rH,kQ,Fq,aP.vs,am,seval,reduceCtorEq];refine(aHf _ _ _ ht _).go ?_;simp only[rH,kQ,Fq,Gj,aP.vs,am,seval,reduceCtorEq];refine hZ1 _ ?_;clear hZ1 Z1;refine aB.rJ fun K2 hK2=>?_;refine aB.eD fun Z1 hZ1=>?_;simp only[Gj,am,seval,reduceCtorEq];refine hZ1 _ ?_;clear hZ1 Z1;cases hw:t.2.2 with
   |false=>
    rw[hw] at hgo;cases hgo
    refine aB.cond (t:=true) (by simp only[fT,am,seval,reduceCtorEq]) (fun _=>?_) (fun hf=>by cases hf);refine aB.eD fun Z1 hZ1=>?_;simp only[Jj,am,seval,reduceCtorEq];refine(c76 a (-1) _ b5 (by simp only[gG,dJ,cU,ne_eq,eJ,h56])).go ?_;simp only[am,seval,reduceCtorEq];refine hZ1 _ ?_;clear hZ1 Z1;refine aB.ret ?_;refine⟨[],.tuple [],gG s b5 b6 g pre a,rfl,Wk.refl _,⟨fun k=>.inl ?_,fun _=>.inl rfl⟩,.inr ⟨a,g,rfl,hg,by rw[show T=pre by simpa using hTe]⟩⟩;simp only[gG,aL.aU,aL.cI,cA]<;>(repeat' split)<;>first|with_reducible rfl|(simp_all;done)
   |true=>
    rw[hw] at hgo;obtain⟨a',ha',hgo⟩:=cC (show call (uM x t.2.1) _=_ from hgo);obtain⟨r',hr',hgo⟩:=cC hgo;obtain⟨suf',bad'⟩:=r';simp only[iZ,qS] at hgo;obtain⟨rfl,rfl⟩:=hgo;refine aB.cond (t:=false) (by simp only[fM,am,seval,reduceCtorEq]) (fun hf=>by cases hf) (fun _=>?_);refine aB.skip ?_;refine hK2 _ ?_;clear hK2 K2;refine aB.rJ fun K2 hK2=>?_;refine aB.Ww 3 rfl (by decide+kernel) fun Z1 hZ1=>?_;simp only[Fq,aP.vs,qO,qN,qM,am,seval,reduceCtorEq];refine⟨?_,?_,yl,[aI t.2.1,.agg t.1.v],_,?_,?_,hY pre (t.2.1,t.1) _ ⟨g,hg,rfl⟩ ⟨suf',hTe⟩,?_⟩
    ·simp only[gA,am,seval,reduceCtorEq]
    ·simp only[am,seval,reduceCtorEq]
    ·simp only[lP,am,seval,reduceCtorEq]
    ·simp only[am,seval,reduceCtorEq]
    rintro _ s2 ⟨rfl,hH2⟩;obtain⟨g2,hg2,hq2⟩:=Re (pre:=pre++[(t.2.1,t.1)]) (by rw[eK];exact hH2);simp only[fM,Gj,sE,sD,oY,am,seval,reduceCtorEq];refine hZ1 _ ?_;clear hZ1 Z1;refine aB.cond (t:=false) (by simp only[am,seval,reduceCtorEq]) (fun hf=>by cases hf) (fun _=>?_);refine aB.skip ?_;refine hK2 _ ?_;clear hK2 K2;refine aB.fW fun Z1 hZ1=>?_;simp only[am,seval,reduceCtorEq];refine hZ1 _ ?_;clear hZ1 Z1;refine hK _ ?_;clear hK K;refine aB.fW fun Z1 hZ1=>?_;simp only[rH,kQ,am,seval,reduceCtorEq];refine(IJ _ _ _ ha' _).go ?_;simp only[rH,kQ,am,seval,reduceCtorEq];refine hZ1 _ ?_;clear hZ1 Z1;refine⟨(pre++[(t.2.1,t.1)],a',n,suf',s2),⟨⟨by simpa using hTe,hr',g2,hg2,hq2⟩,by simp only;omega⟩,?_⟩
    ·refine En ?_ ?_ ?_ (aL.le.refl _) rfl
     ·simp only[jK,lP,am,seval,reduceCtorEq]<;>simp
     ·simp only[gB,lP,iG,Nat.reduceBEq,kJ,kI,jE,and_self]
     ·simp only[jL,am,seval,reduceCtorEq]<;>simp
  ·cases hgo
   refine aB.exit ?_;simp only[qI,Ai,↓reduceIte];refine⟨[],.tuple [],gG s b5 b6 g pre (-1),rfl,Wk.refl _,aL.le.refl _,.inl ⟨by first|rfl|trivial,g,hg,by rw[show T=pre by simpa using hTe]⟩⟩
def NT {s:aL} {b5 b6 b8 g g2:Nat} {P:List (Int×aP)} {x y:List V×TypeId} (hg:s.own g=none) (hb8:s.box b8=none) (h58:b5≠b8) (h68:b6≠b8):
 (((((gG s b5 b6 g P (-1)).aU b8 x).cI g none).cI g2 (some (96,3))).aU b6 y).le (((s.cI g2 (some (96,3))).aU b5 ([aI (-1)],3)).aU b6 y):=by
 refine⟨fun b=>?_,fun k=>?_⟩
 ·simp only[gG,aL.cI,aL.aU,cA];by_cases e:b=b6
  ·simp[e]
  ·by_cases e8:b=b8
   ·subst e8;refine .inr ?_;simp[e,iE h58,iE h68,hb8]
   ·left;simp[e,e8]
 ·simp only[gG,aL.cI,aL.aU,cA];by_cases e:k=g2
  ·simp[e]
  ·by_cases eg:k=g
   ·subst eg;simp[e,hg]
   ·simp[e,eg]
def RE {s:aL} {g g':Nat} {x:TypeId×Nat} (h:(s.cI g (some x)).own g'=none):s.own g'=none:=by
 simp only[aL.cI,cA] at h;split at h
 ·cases h
 ·exact h
def Zi {s:aL} {b5 b6 g:Nat} {l:List (Int×aP)} {b:Int} (hg:s.own g=none) (h5:s.box b5=none) (h6:s.box b6=none):(gG s b5 b6 g l b).le s:=by
 refine⟨fun b'=>?_,fun k=>?_⟩
 ·simp only[gG,aL.cI,aL.aU,cA];by_cases e:b'=b6
  ·subst e;exact .inr h6
  ·by_cases e8:b'=b5
   ·subst e8;exact .inr h5
   ·left;simp[e,e8]
 ·simp only[gG,aL.cI,aL.aU,cA];by_cases eg:k=g
  ·subst eg;exact .inr hg
  ·left;simp[eg]
def c40 (x:ByteArray) (r:List aP×Int×Int) (h:Lc x=some r):cG prog 40 [aM x] (.tuple [.slice 3 (r.1.map aP.v),aI r.2.1,aI r.2.2]):=by
 intro s;unfold Lc at h;refine Hw (fn:=f40) func40 rfl (by decide) (by show 1<=25;decide) ?_;rw[ntmps40];refine aB.eD fun Z1 hZ1=>?_;simp only[kQ,vW,qO,qN,qM,am,seval,reduceCtorEq];refine hZ1 _ ?_;clear hZ1 Z1;refine aB.rJ fun K hK=>?_;refine aB.eD fun Z1 hZ1=>?_;simp only[rH,kQ,am,seval,reduceCtorEq];refine hZ1 _ ?_;clear hZ1 Z1;refine aB.Qk h (by simp only[am,seval,reduceCtorEq]) (fun hc h=>?_) (fun hc h=>?_)
 ·cases h
  refine aB.eD fun Z1 hZ1=>?_;simp only[kQ,vW,am,seval,reduceCtorEq];refine hZ1 _ ?_;clear hZ1 Z1;refine aB.ret ?_;refine qX (vs:=[.nil,aI 0,aI 3]) (by show dC prog _ [.tmp 2,.tmp 3,.tmp 4]=_;simp only[dC,am,seval,reduceCtorEq]) ?_ (aL.le.refl _) ⟨rfl,rfl⟩;exact Wk.tuple ⟨Wk.nil _,Wk.refl _,Wk.refl _,trivial⟩
 obtain⟨a0,ha0,h⟩:=cC h;obtain⟨r',hr',h⟩:=cC h;obtain⟨T,bad⟩:=r';simp only at h;refine aB.skip ?_;refine hK _ ?_;clear hK K;refine aB.eD fun Z1 hZ1=>?_;simp only[kQ,vW,rH,am,seval,reduceCtorEq];refine hZ1 _ ?_;clear hZ1 Z1;refine aB.eD fun Z1 hZ1=>?_;simp only[kQ,vW,rH,am,seval,reduceCtorEq];refine hZ1 _ ?_;clear hZ1 Z1;refine aB.weaken (st':=bN [(0,aM x),(5,.loc 5 0),(6,.loc 6 0)] [(5,([aI (-1)],3)),(6,([.nil],87))] s 25) ?_ ?_
 ·refine qY ?_ ?_ ?_ (aL.le.refl _) rfl
  ·simp only[jK,am,seval,reduceCtorEq]<;>simp
  ·simp only[gB,iG,Nat.reduceBEq,kJ,kI,jE,and_self]
  ·simp only[jL,am,seval,reduceCtorEq]<;>simp
 refine aB.Wx 6 0 (96,3) (cs:=[.nil]) (ty:=87) (by simp only[bN,am,seval,reduceCtorEq]) (.inl rfl) fun g hg=>?_;simp only[List.set];refine aB.cM (t0:=5) (x:=([aI (-1)],3)) (by simp only[bN,am,seval,reduceCtorEq]) fun b5 hb5=>?_;refine aB.cM (t0:=6) (x:=([.own g 3 []],87)) (by simp only[bN,St.cM,am,seval,reduceCtorEq]) fun b6 hb6=>?_;have h56:b5≠b6:=fun e=>by
  subst e;simp only[bN,St.cM] at hb6;rw[dJ] at hb6;cases hb6
 simp only[bN,St.cM] at hb5 hg hb6;rw[cU (iE h56)] at hb6;have hb5':s.box b5=none:=hb5;have hb6':s.box b6=none:=hb6;refine aB.weaken (st':=bN [(0,aM x),(5,.ptr b5 0),(6,.ptr b6 0)] [] (gG s b5 b6 g [] (-1)) 25) ?_ ?_
 ·refine qY ?_ ?_ ?_ (aL.le.refl _) rfl
  ·simp only[jK,bN,St.cM,jH,am,seval,reduceCtorEq]<;>simp
  ·simp only[gB,iG,Nat.reduceBEq,kJ,kI,jE,and_self]
  ·simp only[jL,am,seval,reduceCtorEq]<;>simp
 refine aB.rJ fun K hK=>?_;refine aB.eD fun Z1 hZ1=>?_;simp only[bN,kQ,vW,rH,Jj,am,seval,reduceCtorEq];refine(c75 _ _ _).go ?_;simp only[kQ,vW,rH,Jj,am,seval,reduceCtorEq];refine hZ1 _ ?_;clear hZ1 Z1;refine aB.block ?_;refine aB.weaken (st':=bN [(5,.ptr b5 0),(6,.ptr b6 0),(14,.func 114 [] [.elt [aM x] 0,.elt [.func 76 [] [.ptr b5 0]] 0])] [] (gG s b5 b6 g [] (-1)) 25) ?_ ?_
 ·refine qY ?_ ?_ ?_ (aL.le.refl _) rfl
  ·simp only[jK,am,seval,reduceCtorEq]<;>simp
  ·simp only[gB,iG,Nat.reduceBEq,kJ,kI,jE,and_self]
  ·simp only[jL,am,seval,reduceCtorEq]<;>simp
 refine aB.aI7 (α:=Option (Int×aP)) (dB:=none) (fun y=>match y with|some y=>(aI y.1,.agg y.2.v)|none=>(.nil,.nil)) (Nr s b5 b6 bad) (fun xs=>(bad=none∧xs=T.map some)∨((∃b,bad=some b)∧xs=T.map some++[none])) (fun pre y=>∃P z suf,pre=P.map some∧y=some z∧T=P++z::suf) (f:=114) (caps:=[.elt [aM x] 0,.elt [.func 76 [] [.ptr b5 0]] 0]) (by simp only[bN,am,seval,reduceCtorEq]) (by funext z;simp only[bN,am,seval,reduceCtorEq]) (by simp only[bN];decide) (by simp only[bN];decide) (by decide+kernel) (by decide+kernel) ?_ ?_ ?_
 ·rintro _ _ h1 hH ⟨P,z,suf,rfl,rfl,hTe⟩ K1 hK1;obtain⟨g1,hg1,rfl⟩:=Re hH;have hlen:P.length+1<=5000:=by
   have h1:=Yr x 5000 a0 _ hr';have h2:=congrArg List.length hTe;simp only[bH,bF] at h1 h2;omega
  simp only[bN,Fq,aP.aC,am,seval,reduceCtorEq];refine hK1 _ 8 [aI z.2.kind,aI z.2.at_,aM z.2.text] 96 (by simp only[am,seval,reduceCtorEq];funext y;simp only[cA];split<;>rfl) rfl rfl ?_;intro b8 hb8 KK hKK;have hb8':(gG s b5 b6 g1 P (-1)).box b8=none:=hb8;have h68:b6≠b8:=fun e=>by
   subst e;simp only[gG] at hb8';rw[dJ] at hb8';cases hb8'
  have h58:b5≠b8:=fun e=>by
   subst e;simp only[gG] at hb8';rw[cU h56,dJ] at hb8';cases hb8'
  have hb8s:s.box b8=none:=by
   simp only[gG] at hb8';rw[cU (iE h68),cU (iE h58)] at hb8';exact hb8'
  have hx6:((gG s b5 b6 g1 P (-1)).aU b8 ([aI z.2.kind,aI z.2.at_,aM z.2.text],96)).box b6=some ([.own g1 3 (List.map aP.v (P.map Prod.snd))],87):=by
   rw[cU h68];simp only[gG];rw[dJ]
  have hx8:((gG s b5 b6 g1 P (-1)).aU b8 ([aI z.2.kind,aI z.2.at_,aM z.2.text],96)).box b8=some ([aI z.2.kind,aI z.2.at_,aM z.2.text],96):=dJ;have hxo:((gG s b5 b6 g1 P (-1)).aU b8 ([aI z.2.kind,aI z.2.at_,aM z.2.text],96)).own g1=some (96,3):=by
   simp only[gG,aL.aU,aL.cI,eL]
  simp only[St.cM,jH,zG,hx6,hx8,kQ,Fq,vW,am,seval,reduceCtorEq];refine⟨hxo,by omega,by simp only[maxLen];omega,fun g2 hg2=>?_⟩;have hx6':((((gG s b5 b6 g1 P (-1)).aU b8 ([aI z.2.kind,aI z.2.at_,aM z.2.text],96)).cI g1 none).cI g2 (some (96,3))).box b6=some ([.own g1 3 (List.map aP.v (P.map Prod.snd))],87):=hx6;have hs2:s.own g2=none:=by
   have h1:(gG s b5 b6 g1 P (-1)).own g2=none:=hg2;simp only[gG,aL.aU] at h1;exact RE (x:=(96,3)) h1
  rw[hx6'];refine⟨by simp,?_⟩;refine hKK _ (gG s b5 b6 g2 (P++[z]) (-1)) ?_ ⟨P++[z],.inl ⟨by simp only[eK,dG,eZ],g2,hs2,rfl⟩⟩;have e:List.map aP.v ((P++[z]).map Prod.snd)=List.map aP.v (P.map Prod.snd)++[aP.v z.2]:=by simp only[eK,dG,eZ]
  simp only[gG,e];exact NT hg1 hb8s h58 h68
 ·intro lo l hY;have hI:=aHg (b5:=b5) (b6:=b6) h56 ha0 hr' lo l (fun pre y h1 hp hs=>hY (pre.map some) (some y) h1 ⟨pre,.inl ⟨rfl,hp⟩⟩ (hs.elim fun suf hs=>⟨pre,y,suf,rfl,rfl,hs⟩)) hg;refine⟨hI.1,fun G w cargs h1 h2 h3=>(hI.2 G w cargs h1 h2 h3).mono ?_⟩;rintro e w' ⟨G',s',v,cv,k1,k2,k3,k4,k5⟩;refine⟨G',s',v,cv,k1,k2,k3,k4,?_⟩;rcases k5 with⟨e1,hp⟩|⟨b,g1,e1,hg1,e2⟩
  ·exact⟨_,.inl ⟨e1,rfl⟩,T,.inl ⟨rfl,hp⟩⟩
  ·exact⟨_,.inr ⟨⟨b,e1⟩,rfl⟩,T,.inr ⟨rfl,b,g1,e1,hg1,e2⟩⟩
 ·rintro xs s' D hS hH;refine hK _ ?_;clear hK K;refine aB.rJ fun K hK=>?_;have hend:(bad=none∧Is s b5 b6 T s')∨∃b g,bad=some b∧s.own g=none∧s'=gG s b5 b6 g T b:=by
   rcases hS with⟨e1,rfl⟩|⟨-,rfl⟩
   ·exact .inl ⟨e1,Re hH⟩
   ·exact .inr (NU hH)
  rcases hend with⟨rfl,g1,hg1,rfl⟩|⟨b,g1,rfl,hg1,rfl⟩
  ·simp only[iZ] at h;subst h;refine aB.weaken (st':=nR [Go.Am.uP D] [(5,.ptr b5 0),(6,.ptr b6 0)] [] (gG s b5 b6 g1 T (-1)) 25) ?_ ?_
   ·refine Sv ?_ ?_ ?_ (aL.le.refl _) rfl
    ·simp only[jK,bN,am,seval,reduceCtorEq]<;>simp
    ·simp only[gB,iG,Nat.reduceBEq,kJ,kI,jE,and_self]
    ·simp only[jL,am,seval,reduceCtorEq]<;>simp
   have e5:(gG s b5 b6 g1 T (-1)).box b5=some ([aI (-1)],3):=by simp only[gG];rw[cU h56,dJ]
   have e6:(gG s b5 b6 g1 T (-1)).box b6=some ([.own g1 3 (List.map aP.v (T.map Prod.snd))],87):=by simp only[gG];rw[dJ]
   refine aB.eD fun Z1 hZ1=>?_;simp only[nR,e5,kQ,am,seval,reduceCtorEq];refine hZ1 _ ?_;clear hZ1 Z1;refine aB.cond (t:=false) (by simp only[am,seval,reduceCtorEq];simp) (fun hf=>by cases hf) (fun _=>?_);refine aB.skip ?_;refine hK _ ?_;clear hK K;refine aB.eD fun Z1 hZ1=>?_;simp only[e6,vW,kQ,am,seval,reduceCtorEq];refine hZ1 _ ?_;clear hZ1 Z1;refine aB.ret ?_;refine qX (vs:=[.own g1 3 (List.map aP.v (T.map Prod.snd)),aI 0,aI 0]) (by show dC prog _ [.tmp 2,.tmp 3,.tmp 4]=_;simp only[dC,am,seval,reduceCtorEq]) ?_ ?_ ⟨rfl,rfl⟩
   ·exact Wk.tuple ⟨Wk.own _ _ _,Wk.refl _,Wk.refl _,trivial⟩
   ·exact Zi hg1 hb5' hb6'
  ·by_cases hb0:0<=b;rotate_left
   ·simp only[hb0,if_false] at h;cases h
   simp only[hb0,if_true,iZ] at h;subst h;refine aB.weaken (st':=nR [Go.Am.uP D] [(5,.ptr b5 0),(6,.ptr b6 0)] [] (gG s b5 b6 g1 T b) 25) ?_ ?_
   ·refine Sv ?_ ?_ ?_ (aL.le.refl _) rfl
    ·simp only[jK,bN,am,seval,reduceCtorEq]<;>simp
    ·simp only[gB,iG,Nat.reduceBEq,kJ,kI,jE,and_self]
    ·simp only[jL,am,seval,reduceCtorEq]<;>simp
   have e5:(gG s b5 b6 g1 T b).box b5=some ([aI b],3):=by simp only[gG];rw[cU h56,dJ]
   refine aB.eD fun Z1 hZ1=>?_;simp only[nR,e5,kQ,am,seval,reduceCtorEq];refine hZ1 _ ?_;clear hZ1 Z1;refine aB.cond (t:=true) (by simp only[am,seval,reduceCtorEq];simp[hb0]) (fun _=>?_) (fun hf=>by cases hf);refine aB.Be rfl [0,1,2,3] (by decide+kernel) [] (by decide+kernel) fun Z1 hZ1=>?_;simp only[e5,vW,kQ,eY,Nat.reduceBEq,Nat.reduceAdd,am,seval,reduceCtorEq];refine hZ1 _ ?_;clear hZ1 Z1;refine aB.ret ?_;refine qX (vs:=[.nil,aI b,aI 250]) (by show dC prog _ [.tmp 2,.tmp 3,.tmp 4]=_;simp only[dC,am,seval,reduceCtorEq]) ?_ ?_ ⟨rfl,rfl⟩
   ·exact Wk.tuple ⟨Wk.nil _,Wk.refl _,Wk.refl _,trivial⟩
   ·exact Zi hg1 hb5' hb6'
end Go.Proofs.YtlfbdcfnimnhiaaGreatDoor.Ex
