/- A part. -/
import Derived.Calls
import Derived.Lib.CaseU
import Derived.Lib.DecodeN
import Derived.Orders
import Derived.Laws.AppendOwn
import Derived.Laws.Cells
import Derived.Laws.NewBlocks
import Derived.Laws.Tables
import Derived.Laws.StructEq
import Derived.Laws.CopyRow
import Derived.Deep.MidRow
import Derived.Great.BuildSlice
import Derived.Laws.Small
import Derived.Laws.IdiomStrings
import Derived.Lib.LazyBuf
import Derived.Laws.Slices
import Derived.Deep.LoopGhost
import Derived.RangeFuncRecord
set_option linter.all false
open Go.IntKind (i64)
namespace Go.Am
def ai {a b:Prop}(x:a)(y:b):a∧b:=⟨x,y⟩
abbrev bm (a:Array UInt8):ByteArray:=⟨a⟩
abbrev bO:ByteArray:=ByteArray.empty
def bF.{u}:=@List.length_cons.{u}
def bH.{u}:=@List.length_append.{u}
def bS.{u}:=@List.length_nil.{u}
def cZ:=@Int.toNat_natCast
def dG.{u,v}:=@List.map_cons.{u,v}
def dI:=@Bool.and_eq_true
def dS:=@Nat.le_refl
def eJ:=@not_false_eq_true
def eK.{u,v}:=@List.map_append.{u,v}
def eM.{u}:=@beq_iff_eq.{u}
def eS.{u}:=@Option.some.inj.{u}
def eZ.{u,v}:=@List.map_nil.{u,v}
def fH.{u}:=@List.getElem?_eq_getElem.{u}
def fM:=@Bool.not_true
def fR.{u}:=@List.getD_eq_getElem?_getD.{u}
def fS.{u}:=@List.append_assoc.{u}
def fT:=@Bool.not_false
def gI.{u,v}:=@List.length_map.{u,v}
def gL.{u}:=@List.append_nil.{u}
def gZ.{u}:=@Array.getElem?_eq_some_iff.{u}
def iD.{u}:=@List.mem_cons_of_mem.{u}
def iE.{u}:=@Ne.symm.{u}
def iS.{u}:=@Array.getD_eq_getD_getElem?.{u}
def iY.{u}:=@List.nil_append.{u}
def iZ.{u}:=@Option.some.injEq.{u}
def jE:=@Bool.or_false
def jF.{u}:=@Eq.trans.{u}
def jP.{u}:=@List.cons_append.{u}
def jU.{u}:=@List.eq_nil_of_length_eq_zero.{u}
def kG.{u}:=@List.drop_zero.{u}
def kH:=@Nat.zero_add
def kI:=@Bool.true_or
def kJ:=@Bool.or_true
def kK:=@Nat.zero_le
def lJ.{u}:=@List.sizeOf_lt_of_mem.{u}
def lK.{u}:=@List.mem_cons_self.{u}
def lN.{u}:=@List.mem_append.{u}
def lY.{u}:=@List.all_eq_true.{u}
def lZ.{u}:=@List.sum_cons.{u}
def mA:=@Nat.add_mul
def mB:=@True.intro
def nG.{u}:=@List.take_of_length_le.{u}
def nH.{u}:=@Option.getD_some.{u}
def nI.{u}:=@List.take_length.{u}
def oQ.{u}:=@Array.getElem?_eq_getElem.{u}
def oR.{u}:=@List.mem_cons.{u}
def pB.{u}:=@List.getElem?_eq_some_iff.{u}
def pJ:=@decide_eq_true_iff
def pK:=@of_decide_eq_true
def pZ:=@decide_eq_false_iff_not
def qA:=@Nat.not_lt_zero
def qB.{u,v}:=@List.mem_map.{u,v}
def qQ.{u,v}:=@List.getElem?_map.{u,v}
def qR:=@Bool.not_eq_true'
def qS.{u,v}:=@Prod.mk.injEq.{u,v}
def rL:=@Nat.mul_le_mul_right
def rM:=@of_decide_eq_false
def rN.{u,v}:=@List.flatMap_cons.{u,v}
def sM.{u}:=@List.getElem_mem.{u}
def sN.{u}:=@beq_eq_false_iff_ne.{u}
def sO.{u}:=@List.sum_nil.{u}
def tV.{u}:=@List.drop_eq_getElem_cons.{u}
def tW:=@decide_eq_true_eq
def tX.{u}:=@List.length_take.{u}
def tY.{u}:=@List.all_cons.{u}
def uV.{u}:=@List.length_drop.{u}
def wO.{u}:=@List.take_zero.{u}
def xS.{u}:=@List.drop_of_length_le.{u}
def xT.{u}:=@List.mem_singleton.{u}
def xU:=@UInt8.ofNat_toNat
def xV.{u}:=@Array.toList_inj.{u}
def xX:=@Nat.le_trans
def zP.{u}:=@List.getElem?_append_left.{u}
def zQ:=@List.mem_range
def Bf.{u}:=@List.take_append_drop.{u}
def Bg:=@List.range_eq_range'
def Bh.{u}:=@List.set_cons_zero.{u}
def Bi.{u}:=@List.set_cons_succ.{u}
def Bj:=@decide_eq_false
def Bk:=@Bool.or_eq_true
def Bl.{u}:=@Array.mem_def.{u}
def Dt.{u}:=@List.getElem?_append_right.{u}
def Du.{u}:=@List.mem_of_mem_take.{u}
def Dv.{u}:=@List.mem_of_getElem?.{u}
def Gx.{u}:=@Array.getElem?_replicate.{u}
def Gy.{u}:=@List.getElem?_eq_none.{u}
def Gz.{u}:=@List.mem_of_mem_drop.{u}
def Ha.{u,v}:=@List.map_congr_left.{u,v}
def Hb:=@List.getElem?_range
def Hc.{u}:=@List.getElem?_drop.{u}
def He.{u}:=@List.nodup_append.{u}
def Hf.{u}:=@List.flatten_cons.{u}
def Hg:=@List.range'_succ
def Hh.{u}:=@List.sum_append.{u}
def Hi.{u}:=@List.nodup_cons.{u}
def Me.{u}:=@Array.getElem?_setIfInBounds_ne.{u}
def Mf.{u}:=@Array.length_toList.{u}
def Mg:=@Nat.eq_zero_or_pos
def Mh.{u}:=@List.getElem?_take.{u}
def Mi.{u}:=@List.Pairwise.nil.{u}
def Qm.{u}:=@List.drop_succ_cons.{u}
def Qn.{u}:=@Array.getElem?_setIfInBounds_self_of_lt.{u}
def Qo.{u,v}:=@Option.bind_eq_some_iff.{u,v}
def Xh.{u}:=@Array.getElem?_setIfInBounds.{u}
def Xi.{u}:=@Array.getElem?_append_left.{u}
def aDp (x:Lib.CaseRow):Nat->Value
 |0=>.int .u32 x.1
 |1=>.int .u32 x.2.1
 |2=>.int .i32 x.2.2.1
 |3=>.int .i32 x.2.2.2.1
 |_=>.int .i32 x.2.2.2.2
def Tables (w:World):Prop:=(∃m:Int,w.cell? ⟨1,0,none⟩=some (.int .i64 m))∧
 (∃R o cap,w.cell? ⟨6,0,none⟩=some (.slice (some ⟨R,o,none⟩) Lib.caseA.size cap)∧∀i j,i<Lib.caseA.size->j<5->w.cell? ⟨R,o+i*5+j,none⟩=some (aDp (Lib.caseA.getD i (0,0,0,0,0)) j))∧
 (∀c,c<256->w.cell? ⟨2,c,none⟩=some (.int .u8 (Lib.firstT c)))∧
 (∀i j,i<16->j<2->w.cell? ⟨3,2*i+j,none⟩=some (.int .u8 (if j=0 then Lib.accLo i else Lib.accHi i)))∧
 ∀i,i<20->w.cell? ⟨0,i,none⟩=some (.int .u64 ((10^i:Nat):Int))
def Rw:List (Nat×Nat):=[(0,20)]
inductive V where
 |any
 |base (v:Value)
 |agg (cs:List V)
 |nil
 |zcap
 |slice (sz:Nat) (es:List (List V))
 |own (g sz:Nat) (es:List (List V))
 |ptr (b off:Nat)
 |loc (t off:Nat)
 |elt (cs:List V) (off:Nat)
 |func (f:FuncId) (first captured:List V)
 |tuple (vs:List V)
instance:Inhabited V:=⟨.any⟩
structure bC where
 F:Nat->Nat->Option Value
 om:Nat->Option Value
 ob:Nat->Option Obj:=fun _=>none
structure bC.Le (G G':bC):Prop where
 f:∀b o v,G.F b o=some v->G'.F b o=some v
 o:∀g v,G.om g=some v->G'.om g=some v
 b:∀k x,G.ob k=some x->G'.ob k=some x
def bC.Le.refl (G:bC):G.Le G:=⟨fun _ _ _ h=>h,fun _ _ h=>h,fun _ _ h=>h⟩
def bC.Le.trans {A B C:bC} (h:A.Le B) (h':B.Le C):A.Le C:=⟨fun _ _ _ x=>h'.f _ _ _ (h.f _ _ _ x),fun _ _ x=>h'.o _ _ (h.o _ _ x),fun _ _ x=>h'.b _ _ (h.b _ _ x)⟩
inductive bJ (G:bC):V->Value->Prop
 |any (v:Value):bJ G .any v
 |base (v:Value):bJ G (.base v) v
 |agg (cs:List V) (ccs:Array Value):cs.length=ccs.size->(∀(i:Nat) c v,cs[i]? =some c->ccs[i]? =some v->bJ G c v)->bJ G (.agg cs) (.agg ccs)
 |nil:bJ G .nil (.slice none 0 0)
 |zcap (a:Option Addr):bJ G .zcap (.slice a 0 0)
 |slice (sz:Nat) (es:List (List V)) (b o cap:Nat) (cells:Nat->Value):(∀cs∈es,cs.length=sz)->es.length<=cap->cap<=maxLen->
  (∀k,k<es.length*sz->G.F b (o+k)=some (cells k))->
  (∀(i j:Nat) cs c,es[i]? =some cs->cs[j]? =some c->bJ G c (cells (i*sz+j)))->(∀k,k<es.length*sz->(cells k).oneCell'=true)->bJ G (.slice sz es) (.slice (some ⟨b,o,none⟩) es.length cap)
 |slice0 (sz:Nat) (a:Option Addr) (cap:Nat):bJ G (.slice sz []) (.slice a 0 cap)
 |own (g sz:Nat) (es:List (List V)) (v:Value):bJ G (.slice sz es) v->G.om g=some v->bJ G (.own g sz es) v
 |ptr (b off:Nat):bJ G (.ptr b off) (.pointer (some ⟨b,off,none⟩))
 |elt (cs:List V) (off b o:Nat) (cells:Nat->Value):(∀(j:Nat) c,cs[j]? =some c->G.F b (o+j)=some (cells j))->(∀(j:Nat) c,cs[j]? =some c->bJ G c (cells j))->
  (∀(j:Nat) c,cs[j]? =some c->(cells j).oneCell'=true)->bJ G (.elt cs off) (.pointer (some ⟨b,o+off,none⟩))
 |func (f:FuncId) (first cap:List V) (cf cc:Array Value):first.length=cf.size->cap.length=cc.size->(∀(i:Nat) c v,first[i]? =some c->cf[i]? =some v->bJ G c v)->
  (∀(i:Nat) c v,cap[i]? =some c->cc[i]? =some v->bJ G c v)->bJ G (.func f first cap) (.func (.func f) cf cc)
 |tuple (cs:List V) (ccs:Array Value):cs.length=ccs.size->(∀(i:Nat) c v,cs[i]? =some c->ccs[i]? =some v->bJ G c v)->bJ G (.tuple cs) (.tuple ccs)
def bJ.Xc {G G':bC} (hgf:∀b o v,G.F b o=some v->G'.F b o=some v) (hgo:∀g v,G.om g=some v->G'.om g=some v) {c:V} {v:Value} (h:bJ G c v):bJ G' c v:=by
 induction h with
 |any v=>exact .any v
 |base v=>exact .base v
 |agg cs ccs hl _ ih=>exact .agg cs ccs hl ih
 |nil=>exact .nil
 |zcap a=>exact .zcap a
 |slice sz es b o cap cells hs h1 h2 hf _ h3 ih=>exact .slice sz es b o cap cells hs h1 h2 (fun k hk=>hgf _ _ _ (hf k hk)) ih h3
 |slice0 sz a cap=>exact .slice0 sz a cap
 |own g sz es v _ ho ih=>exact .own g sz es v ih (hgo _ _ ho)
 |ptr b off=>exact .ptr b off
 |elt cs off b o cells hf _ h1 ih=>exact .elt cs off b o cells (fun j c h=>hgf _ _ _ (hf j c h)) ih h1
 |func f first cap cf cc h1 h2 _ _ i1 i2=>exact .func f first cap cf cc h1 h2 i1 i2
 |tuple cs ccs hl _ ih=>exact .tuple cs ccs hl ih
def bJ.mono {G G':bC} (hg:G.Le G') {c:V} {v:Value} (h:bJ G c v):bJ G' c v:=h.Xc hg.f hg.o
def bZ (G:bC) (cs:List V) (vs:List Value):Prop:=cs.length=vs.length∧∀(i:Nat) c v,cs[i]? =some c->vs[i]? =some v->bJ G c v
def bZ.mono {G G':bC} (hg:G.Le G') {cs:List V} {vs:List Value} (h:bZ G cs vs):bZ G' cs vs:=⟨h.1,fun i c v a b=>(h.2 i c v a b).mono hg⟩
def bZ.nil (G:bC):bZ G [] []:=⟨rfl,fun i c v h=>by simp at h⟩
def bZ.cons {G:bC} {c:V} {v:Value} {cs:List V} {vs:List Value} (h:bJ G c v) (hs:bZ G cs vs):bZ G (c::cs) (v::vs):=by
 refine⟨by simp[hs.1],fun i c' v' a b=>?_⟩;cases i with
 |zero=>simp at a b;subst a;subst b;exact h
 |succ i=>simp at a b;exact hs.2 i c' v' a b
def bZ.sJ {G:bC} {c:V} {cs:List V} {vs:List Value} (h:bZ G (c::cs) vs):∃v vs',vs=v::vs'∧bJ G c v∧bZ G cs vs':=by
 cases vs with
 |nil=>have:=h.1;simp at this
 |cons v vs'=>
  refine⟨v,vs',rfl,h.2 0 c v rfl rfl,by have:=h.1;simpa using this,fun i c' v' a b=>h.2 (i+1) c' v' (by simpa using a) (by simpa using b)⟩
def bZ.Bd {G:bC} {vs:List Value} (h:bZ G [] vs):vs=[]:=jU (by have:=h.1;simpa using this.symm)
def bZ.append {G:bC} {cs cs':List V} {vs vs':List Value} (h:bZ G cs vs) (h':bZ G cs' vs'):bZ G (cs++cs') (vs++vs'):=by
 refine⟨by simp[h.1,h'.1],fun i c v a b=>?_⟩;by_cases hi:i<cs.length
 ·rw[zP hi] at a;rw[zP (by rw[<-h.1];exact hi)] at b;exact h.2 i c v a b
 ·rw[Dt (by omega)] at a;rw[Dt (by rw[<-h.1];omega),<-h.1] at b;exact h'.2 _ c v a b
def bZ.get {G:bC} {cs:List V} {vs:List Value} (h:bZ G cs vs) {i:Nat} {c:V} (hc:cs[i]? =some c):∃v,vs[i]? =some v∧bJ G c v:=by
 have hi:i<vs.length:=by rw[<-h.1];exact(pB.1 hc).1
 exact⟨vs[i],fH hi,h.2 i c _ hc (fH hi)⟩
def bZ.set {G:bC} {cs:List V} {vs:List Value} (h:bZ G cs vs) (i:Nat) {c:V} {v:Value} (hc:bJ G c v):bZ G (cs.set i c) (vs.set i v):=by
 refine⟨by simp[h.1],fun j c' v' a b=>?_⟩;rw[List.getElem?_set] at a b;by_cases hj:i=j
 ·subst hj;by_cases hi:i<cs.length
  ·have hi':i<vs.length:=by rw[<-h.1];exact hi
   simp[hi,hi'] at a b;subst a;subst b;exact hc
  ·simp[hi] at a
 ·simp[hj] at a b;exact h.2 j c' v' a b
def bZ.take {G:bC} {cs:List V} {vs:List Value} (h:bZ G cs vs) (n:Nat):bZ G (cs.take n) (vs.take n):=by
 refine⟨by simp[h.1],fun i c v a b=>?_⟩;rw[Mh] at a b;split at a
 ·rename_i hi;simp[hi] at b;exact h.2 i c v a b
 ·simp at a
def bZ.drop {G:bC} {cs:List V} {vs:List Value} (h:bZ G cs vs) (n:Nat):bZ G (cs.drop n) (vs.drop n):=by
 refine⟨by simp[h.1],fun i c v a b=>?_⟩;rw[Hc] at a b;exact h.2 _ c v a b
def sP {G:bC} {cs:List V} {ccs:Array Value} (hl:cs.length=ccs.size) (h:∀(i:Nat) c v,cs[i]? =some c->ccs[i]? =some v->bJ G c v):bZ G cs ccs.toList:=
 ⟨by simpa using hl,fun i c v a b=>h i c v a (by simpa using b)⟩
def bZ.agg {G:bC} {cs:List V} {ccs:Array Value} (h:bZ G cs ccs.toList):bJ G (.agg cs) (.agg ccs):=
 .agg cs ccs (by simpa using h.1) fun i c v a b=>h.2 i c v a (by simpa using b)
def bZ.tuple {G:bC} {cs:List V} {ccs:Array Value} (h:bZ G cs ccs.toList):bJ G (.tuple cs) (.tuple ccs):=
 .tuple cs ccs (by simpa using h.1) fun i c v a b=>h.2 i c v a (by simpa using b)
def V.iR:V->Bool
 | .base v=>v.oneCell'
 | .any| .agg _| .tuple _| .loc _ _=>false
 |_=>true
def bJ.Wy {G:bC} {c:V} {v:Value} (h:bJ G c v) (hc:c.iR=true):v.oneCell'=true:=by
 cases h<;>first|exact hc|(simp[V.iR] at hc;done)|rfl|skip
 case own h _=>cases h<;>rfl
def Pd (F:Nat->Nat->Option Value):Prop:=∀w:World,(∀b o v,F b o=some v->w.cell? ⟨b,o,none⟩=some v)->Tables w
def yY (w:World):Prop:=∀p∈Rw,∃(cs:Array Value) (ty:TypeId) (fr:Nat×Nat),w.heap[p.1]? =some (.cells cs ty fr)∧cs.size=p.2
def yY.of {w w':World} (h:yY w) (hw:∀(b:Nat) (cs:Array Value) (ty:TypeId) (fr:Nat×Nat),w.heap[b]? =some (.cells cs ty fr)->∃(cs':Array Value) (ty':TypeId) (fr':Nat×Nat),w'.heap[b]? =some (.cells cs' ty' fr')∧cs'.size=cs.size):yY w':=fun p hp=>by
 obtain⟨cs,ty,fr,h1,h2⟩:=h p hp;obtain⟨cs',ty',fr',h3,h4⟩:=hw _ _ _ _ h1;exact⟨cs',ty',fr',h3,h4.trans h2⟩
def Pd.mono {F F':Nat->Nat->Option Value} (h:Pd F) (hle:∀b o v,F b o=some v->F' b o=some v):Pd F':=fun w hw=>h w fun b o v hv=>hw b o v (hle b o v hv)
structure aL where
 box:Nat->Option (List V×TypeId)
 own:Nat->Option (TypeId×Nat)
def jT:Value->Option Nat
 | .slice (some a) _ (_+1)=>some a.block
 |_=>none
def Vm (G:bC) (w:World) (e:TypeId) (sz:Nat) (v:Value):Prop:=
 (∃a,v= .slice a 0 0)∨∃b n cap cur,v= .slice (some ⟨b,0,none⟩) n (cap+1)∧w.heap[b]? =some (.cells cur e (0,0))∧cur.size=(cap+1)*sz∧n<=cap+1∧cap+1<=maxLen∧
  (∀o,n*sz<=o->G.F b o=none)
def wJ:Obj->Bool
 | .cells .. =>true
 |_=>false
structure cS (G:bC) (s:aL) (w:World):Prop where
 dO:∀b o v,G.F b o=some v->w.cell? ⟨b,o,none⟩=some v
 box:∀b cs ty,s.box b=some (cs,ty)->∃ccs:Array Value,w.heap[b]? =some (.cells ccs ty (0,0))∧bZ G cs ccs.toList∧(∀v∈ccs.toList,v.oneCell'=true)∧∀o,G.F b o=none
 own:∀g e sz,s.own g=some (e,sz)->∃v,G.om g=some v∧Vm G w e sz v
 sep:∀g g' x x' v v' b,s.own g=some x->s.own g'=some x'->G.om g=some v->G.om g'=some v'->jT v=some b->jT v'=some b->g=g'
 nobox:∀g x v b,s.own g=some x->G.om g=some v->jT v=some b->s.box b=none
 fin:∃N,∀g,N<=g->G.om g=none∧s.own g=none
 ob:∀k x,G.ob k=some x->wJ x=false∧w.heap[k]? =some x
 tab:Pd G.F
 siz:yY w
def dL (G:bC) (s:aL) (b:Nat):Prop:=s.box b≠none∨∃g x v,s.own g=some x∧G.om g=some v∧jT v=some b
structure dD (G:bC) (s:aL) (w:World) (G':bC) (s':aL) (w':World):Prop where
 le:G.Le G'
 size:w.heap.size<=w'.heap.size
 os:w'.os=w.os
 tape:w'.tape=w.tape
 output:w'.output=w.output
 keep:∀b,b<w.heap.size->¬dL G s b->w'.heap[b]? =w.heap[b]?
 dL:∀b,dL G' s' b->dL G s b∨w.heap.size<=b
 dO:∀b o,G'.F b o≠none->G.F b o≠none∨Am.dL G s b∨w.heap.size<=b
 keys:∀g,s'.own g≠none->s.own g≠none∨G.om g=none
def dD.refl (G:bC) (s:aL) (w:World):dD G s w G s w:=
 ⟨.refl G,dS _,rfl,rfl,rfl,fun _ _ _=>rfl,fun _ h=>.inl h,fun _ _ h=>.inl h,fun _ h=>.inl h⟩
def dD.trans {G G' G'':bC} {s s' s'':aL} {w w' w'':World} (h:dD G s w G' s' w') (h':dD G' s' w' G'' s'' w''):dD G s w G'' s'' w'' where
 le:=h.le.trans h'.le
 size:=xX h.size h'.size
 os:=h'.os.trans h.os
 tape:=h'.tape.trans h.tape
 output:=h'.output.trans h.output
 keep:=fun b hb hf=>(h'.keep b (Nat.lt_of_lt_of_le hb h.size) fun hf'=>by rcases h.dL b hf' with x|x;exact hf x;omega).trans (h.keep b hb hf)
 dL:=fun b hb=>by
  rcases h'.dL b hb with x|x
  ·exact h.dL b x
  ·exact .inr (xX h.size x)
 dO:=fun b o hb=>by
  rcases h'.dO b o hb with x|x|x
  ·exact h.dO b o x
  ·rcases h.dL b x with y|y
   ·exact .inr (.inl y)
   ·exact .inr (.inr y)
  ·exact .inr (.inr (xX h.size x))
 keys:=fun g hg=>by
  rcases h'.keys g hg with x|x
  ·exact h.keys g x
  ·refine .inr ?_;cases hq:G.om g with
   |none=>rfl
   |some v=>rw[h.le.o g v hq] at x;cases x
def cS.zM {G:bC} {s:aL} {w:World} (h:cS G s w) {b:Nat} (hb:dL G s b):b<w.heap.size:=by
 rcases hb with hb|⟨g,⟨e,sz⟩,v,h1,h2,h3⟩
 ·cases hx:s.box b with
  |none=>exact absurd hx hb
  |some x=>
   obtain⟨cs,ty⟩:=x;obtain⟨ccs,hc,_⟩:=h.box b cs ty hx;exact(gZ.1 hc).1
 ·obtain⟨v',hv,ho⟩:=h.own g e sz h1;obtain rfl:v'=v:=eS (hv.symm.trans h2);rcases ho with⟨a,rfl⟩|⟨b',n,cap,cur,rfl,hc,_⟩
  ·cases a<;>simp[jT] at h3
  ·simp[jT] at h3;subst h3;exact(gZ.1 hc).1
def cS.zO {G:bC} {s:aL} {w:World} (h:cS G s w) {b o:Nat} (hb:G.F b o≠none):b<w.heap.size:=by
 cases hx:G.F b o with
 |none=>exact absurd hx hb
 |some v=>exact block_lt_of_cell (h.dO b o v hx)
def V.rK:Value->V
 | .slice none 0 0=>.nil
 |v=>.base v
def V.xP:Value->V
 | .slice none 0 0=>.nil
 | .agg cs=>.agg (cs.toList.map V.rK)
 |v=>.base v
def OD (G:bC) (v:Value):bJ G (V.rK v) v:=by
 unfold V.rK;split
 ·exact .nil
 ·exact .base _
def Hl (G:bC) (l:List Value):bZ G (l.map V.rK) l:=by
 refine⟨by simp,fun i c v a b=>?_⟩;simp[b] at a;subst a;exact OD G v
def Zn (G:bC) (v:Value):bJ G (V.xP v) v:=by
 unfold V.xP;split
 ·exact .nil
 ·exact(Hl G _).agg
 ·exact .base _
def kW:Value->aL->Prop:=fun _ _=>False
structure St where
 E:Nat->V
 loc:Nat->Option (List V×TypeId)
 s:aL
 n:Nat
 ds:List Deferred:=[]
 lo:bC:=⟨fun _ _=>none,fun _=>none,fun _=>none⟩
 pp:Value->aL->Prop:=kW
def St.eval (st:St):Operand->V
 | .tmp t=>st.E t
 | .const v=>V.xP v
 | .global _=>.any
 | .func f=>.func f [] []
def cA {α:Type} (f:Nat->α) (t:Nat) (v:α):Nat->α:=fun t'=>if t'=t then v else f t'
def eL {α:Type} (f:Nat->α) (t:Nat) (v:α):cA f t v t=v:=by simp[cA]
def dA {α:Type} (f:Nat->α) (t:Nat) (v:α) (t':Nat) (h:t'≠t):cA f t v t'=f t':=by simp[cA,h]
def AP {α:Type} (f:Nat->α) (t u:Nat) (v x:α) (h:t≠u):cA (cA f t v) u x=cA (cA f u x) t v:=by
 funext k;unfold cA;by_cases h1:k=t
 ·by_cases h2:k=u
  ·exact absurd (h1.symm.trans h2) h
  ·simp[h1,h]
 ·simp[h1]
def St.put (st:St) (d:Option Tmp) (v:V):St:=
 match d with
 |some t=>{ st with E:=cA st.E t v }
 |none=>st
def eE (G:bC) (be:Nat->Option Nat) (loc:Nat->Option (List V×TypeId)) (c:V) (v:Value):Prop:=
 match c with
 | .loc t off=>loc t≠none∧∃b,be t=some b∧v= .pointer (some ⟨b,off,none⟩)
 |c=>bJ G c v
def eE.mono {G G':bC} (hg:G.Le G') {be:Nat->Option Nat} {loc:Nat->Option (List V×TypeId)} {c:V} {v:Value} (h:eE G be loc c v):eE G' be loc c v:=by
 cases c<;>first|exact bJ.mono hg h|exact h
def eE.kF {G:bC} {be:Nat->Option Nat} {loc:Nat->Option (List V×TypeId)} {c:V} {v:Value} (h:bJ G c v):eE G be loc c v:=by
 cases h<;>first
  |exact .any _|exact .base _|exact .nil|exact .zcap _|exact .slice0 _ _ _|exact .ptr _ _|skip
 case agg cs ccs hl h=>exact .agg _ _ hl h
 case slice sz es b o cap cells h1 h2 h3 h4 h5 h6=>exact bJ.slice sz es b o cap cells h1 h2 h3 h4 h5 h6
 case own g sz es h ho=>exact bJ.own g sz es _ h ho
 case elt cs off b o cells h1 h2 h3=>exact bJ.elt cs off b o cells h1 h2 h3
 case func f first cap cf cc h1 h2 h3 h4=>exact bJ.func f first cap cf cc h1 h2 h3 h4
 case tuple cs ccs hl h=>exact .tuple _ _ hl h
def eE.rep {G:bC} {be:Nat->Option Nat} {loc:Nat->Option (List V×TypeId)} {c:V} {v:Value} (h:eE G be loc c v) (hc:∀t off,c≠ .loc t off):bJ G c v:=by
 cases c<;>first|exact h|exact absurd rfl (hc _ _)
def uP (D:Nat):Deferred:={ target:=.collected D,args:= #[] }
structure nS where
 n:Nat
 tl:List Deferred
 pp:Value->aL->Prop:=kW
structure zK (n0:nS) (G:bC) (l:List Deferred) (ds:List Deferred) (lo:bC) (pp:Value->aL->Prop):Prop where
 eq:l=ds++n0.tl
 ok:∀d∈ds,∃D,d=uP D∧n0.n<=D∧G.ob D=some (.deferred (some []))
 nd:ds.Pairwise (· ≠ ·)
 lo:lo.Le G
 pp:pp=n0.pp
def zK.mono {n0:nS} {G G':bC} {l ds:List Deferred} {lo:bC} {pp:Value->aL->Prop} (h:zK n0 G l ds lo pp) (hle:G.Le G'):zK n0 G' l ds lo pp:=
 ⟨h.eq,fun d hd=>let ⟨D,a,b,c⟩:=h.ok d hd;⟨D,a,b,hle.b _ _ c⟩,h.nd,h.lo.trans hle,h.pp⟩
def bC.none_le (G:bC):bC.Le ⟨fun _ _=>none,fun _=>none,fun _=>none⟩ G:=⟨(fun _ _ _ h=>by cases h),(fun _ _ h=>by cases h),(fun _ _ h=>by cases h)⟩
def zK.nil {n:Nat} {G:bC} {pp:Value->aL->Prop}:zK ⟨n,[],pp⟩ G [] [] ⟨fun _ _=>none,fun _=>none,fun _=>none⟩ pp:=⟨rfl,(fun d h=>by cases h),Mi,G.none_le,rfl⟩
structure cW (n0:nS) (G:bC) (be:Nat->Option Nat) (st:St) (a:Act) (w:World):Prop where
 hr:cS G st.s w
 n:a.tmps.size=st.n
 df:zK n0 G a.defers st.ds st.lo st.pp
 tmps:∀t,eE G be st.loc (st.E t) (a.tmps.getD t undef)
 loc:∀t cs ty,st.loc t=some (cs,ty)->∃b,be t=some b∧n0.n<=b∧(∃ccs:Array Value,w.heap[b]? =some (.cells ccs ty (0,0))∧bZ G cs ccs.toList∧(∀v∈ccs.toList,v.oneCell'=true))∧(∀o,G.F b o=none)∧¬dL G st.s b
 inj:∀t t' b,st.loc t≠none->st.loc t'≠none->be t=some b->be t'=some b->t=t'
def cW.eval {n0:nS} {G:bC} {be:Nat->Option Nat} {st:St} {a:Act} {w:World} (h:cW n0 G be st a w) (x:Operand):eE G be st.loc (st.eval x) (a.eval x):=by
 cases x with
 |tmp t=>exact h.tmps t
 |const v=>exact eE.kF (Zn G v)
 |global g=>exact bJ.any _
 |func f=>exact bJ.func f [] [] #[] #[] rfl rfl (fun i c v h=>by simp at h) (fun i c v h=>by simp at h)
structure Entry where
 G:bC
 s:aL
 w:World
 tl:List Deferred:=[]
 pp:Value->aL->Prop:=kW
abbrev Entry.base (e:Entry):nS:=⟨e.w.heap.size,e.tl,e.pp⟩
def In (e:Entry) (st:St) (a:Act) (w:World):Prop:=∃G be,dD e.G e.s e.w G st.s w∧cW e.base G be st a w
structure St.le (st st':St):Prop where
 E:∀t,st'.E t=st.E t∨st'.E t= .any
 loc:∀t,st'.loc t=st.loc t∨(st'.loc t=none∧∀t' off,st'.E t'≠ .loc t off)
 box:∀b,st'.s.box b=st.s.box b∨st'.s.box b=none
 own:∀g,st'.s.own g=st.s.own g∨st'.s.own g=none
 n:st'.n=st.n
 ds:st'.ds=st.ds
 lo:st'.lo.Le st.lo
 pp:st'.pp=st.pp
structure aL.le (s s':aL):Prop where
 box:∀b,s'.box b=s.box b∨s'.box b=none
 own:∀g,s'.own g=s.own g∨s'.own g=none
def aL.le.refl (s:aL):s.le s:=⟨fun _=>.inl rfl,fun _=>.inl rfl⟩
def zZ {G:bC} {s s':aL} (h:s.le s') {b:Nat} (hb:dL G s' b):dL G s b:=by
 rcases hb with hb|⟨g,x,v,h1,h2,h3⟩
 ·refine .inl ?_;rcases h.box b with e|e
  ·rw[<-e];exact hb
  ·exact absurd e hb
 ·refine .inr ⟨g,x,v,?_,h2,h3⟩;rcases h.own g with e|e
  ·rw[<-e];exact h1
  ·rw[e] at h1;cases h1
def cS.weaken {G:bC} {s s':aL} {w:World} (h:cS G s w) (hle:s.le s'):cS G s' w where
 dO:=h.dO
 box:=fun b cs ty hb=>by
  rcases hle.box b with e|e
  ·exact h.box b cs ty (e ▸ hb)
  ·rw[e] at hb;cases hb
 own:=fun g e sz hg=>by
  rcases hle.own g with e'|e'
  ·exact h.own g e sz (e' ▸ hg)
  ·rw[e'] at hg;cases hg
 sep:=fun g g' x x' v v' b h1 h2=>by
  rcases hle.own g with e|e
  ·rcases hle.own g' with e'|e'
   ·exact h.sep g g' x x' v v' b (e ▸ h1) (e' ▸ h2)
   ·rw[e'] at h2;cases h2
  ·rw[e] at h1;cases h1
 nobox:=fun g x v b h1 h2 h3=>by
  rcases hle.own g with e|e
  ·rcases hle.box b with e'|e'
   ·rw[e'];exact h.nobox g x v b (e ▸ h1) h2 h3
   ·exact e'
  ·rw[e] at h1;cases h1
 fin:=by
  obtain⟨N,hN⟩:=h.fin;refine⟨N,fun g hg=>⟨(hN g hg).1,?_⟩⟩;rcases hle.own g with e|e
  ·rw[e];exact(hN g hg).2
  ·exact e
 ob:=h.ob
 tab:=h.tab
 siz:=h.siz
def dD.weaken {G G':bC} {s s' s'':aL} {w w':World} (h:dD G s w G' s' w') (hle:s'.le s''):dD G s w G' s'' w':=
 { h with
  dL:=fun b hb=>h.dL b (zZ hle hb)
  keys:=fun g hg=>h.keys g (by rcases hle.own g with e|e;rwa[e] at hg;exact absurd e hg) }
def In.weaken {e:Entry} {st st':St} {a:Act} {w:World} (h:In e st a w) (hle:st.le st'):In e st' a w:=by
 obtain⟨G,be,hx,hr⟩:=h;have hs:st.s.le st'.s:=⟨hle.box,hle.own⟩;refine⟨G,be,hx.weaken hs,hr.hr.weaken hs,hr.n.trans hle.n.symm,⟨by rw[hle.ds];exact hr.df.eq,fun d hd=>hr.df.ok d (hle.ds ▸ hd),hle.ds ▸ hr.df.nd,hle.lo.trans hr.df.lo,hle.pp.trans hr.df.pp⟩,fun t=>?_,fun t cs ty ht=>?_,fun t t' b h1 h2=>?_⟩
 ·rcases hle.E t with e|e
  ·have:=hr.tmps t;rw[<-e] at this;cases hv:st'.E t<;>rw[hv] at this<;>first|exact this|skip
   rename_i t0 off;refine⟨?_,this.2⟩;rcases hle.loc t0 with e'|⟨_,e'⟩
   ·rw[e'];exact this.1
   ·exact absurd hv (e' t off)
  ·rw[e];exact .any _
 ·rcases hle.loc t with e|⟨e,_⟩
  ·obtain⟨b,h1,h2,h3,h4,h5⟩:=hr.loc t cs ty (e ▸ ht);exact⟨b,h1,h2,h3,h4,fun h=>h5 (zZ hs h)⟩
  ·rw[e] at ht;cases ht
 ·have f:∀t,st'.loc t≠none->st.loc t≠none:=fun t h=>by
   rcases hle.loc t with e|⟨e,_⟩
   ·rw[<-e];exact h
   ·exact absurd e h
  exact hr.inj t t' b (f t h1) (f t' h2)
def cW.put {n0:nS} {G:bC} {be:Nat->Option Nat} {st:St} {a:Act} {w:World} (h:cW n0 G be st a w) (d:Option Tmp) {c:V} {v:Value} (hd:∀t,d=some t->t<st.n) (hv:eE G be st.loc c v):
 cW n0 G be (st.put d c) (a.put d v) w:=by
 cases d with
 |none=>exact h
 |some d=>
  refine⟨h.hr,by simp[Act.put,St.put,h.n],h.df,fun t=>?_,h.loc,h.inj⟩;have hlt:d<a.tmps.size:=by rw[h.n];exact hd d rfl
  by_cases ht:t=d
  ·subst ht;simp only[Act.put,St.put,eL,iS,Qn hlt,nH];exact hv
  ·simp only[Act.put,St.put,dA _ _ _ _ ht,iS,Me (iE ht)];have:=h.tmps t;rwa[iS] at this
section
variable {P:Program}
inductive Cu where
 |bool|int (k:IntKind)|string
 |struct (fs:List (Nat×Nat×Bool))
 |slice (e:TypeId)
 |func
 |other
structure iC where
 size:Nat
 bytes:Nat
 zero:List Value
 agg:Bool
 shape:Cu
def wV (P:Program) (t:TypeId):Bool:=match P.underlying t with
 |some (.struct _)|some (.array _ _)=>true
 |_=>false
def Sy (P:Program) (f:Field):Option (Nat×Nat×Bool):=match P.info? f.type,P.underlying f.type with
 |some i,some _=>some (f.offset,i.size,wV P f.type)
 |_,_=>none
def fieldsOf (P:Program):List Field->Option (List (Nat×Nat×Bool))
 |[]=>some []
 |f::r=>match Sy P f,fieldsOf P r with
  |some x,some l=>some (x::l)
  |_,_=>none
def qT (P:Program):TypeDesc->Cu
 | .bool=>.bool
 | .int k=>.int k
 | .string=>.string
 | .struct fs=>match fieldsOf P fs.toList with
  |some l=>.struct l
  |none=>.other
 | .slice e=>.slice e
 | .func _ _ _=>.func
 |_=>.other
def bT (P:Program) (t:TypeId):Option iC:=
 match P.info? t,P.underlying t with
 |some i,some u=>match i.zero with
  |some z=>if z.cells.toList.all (·.oneCell')=true∧z.cells.size=i.size then some { size:=i.size,bytes:=i.bytes,zero:=z.cells.toList,agg:=wV P t,shape:=qT P u } else none
  |none=>none
 |_,_=>none
def gE {t:TypeId} {d:iC} (h:bT P t=some d):∃i u z,P.info? t=some i∧P.underlying t=some u∧i.zero=some z∧d.size=i.size∧d.bytes=i.bytes∧d.zero=z.cells.toList∧d.agg=wV P t∧d.shape=qT P u:=by
 unfold bT at h;split at h
 ·rename_i i u hi hu;split at h
  ·rename_i z hz;split at h
   ·cases h
    exact⟨i,u,z,hi,hu,hz,rfl,rfl,rfl,rfl,rfl⟩
   ·cases h
  ·cases h
 ·cases h
def Ea {t:TypeId} {d:iC} (h:bT P t=some d):d.zero.length=d.size∧∀x∈d.zero,x.oneCell'=true:=by
 unfold bT at h;split at h
 ·split at h
  ·split at h
   ·rename_i hc;cases h
    exact⟨by simpa using hc.2,fun x hx=>lY.1 hc.1 x hx⟩
   ·cases h
  ·cases h
 ·cases h
def V.cells:V->List V
 | .agg cs=>cs
 |v=>[v]
def sT (cs:List V) (off:Nat) (l:List V):List V:=cs.take off++l++cs.drop (off+l.length)
def rd (d:iC) (cs:List V) (off:Nat):Option V:=
 if d.agg then(if off+d.size<=cs.length then some (.agg ((cs.drop off).take d.size)) else none) else cs[off]?
def Jp:V->Option V
 | .loc _ _=>none
 |v=>some v
def qF:List V->Option (List V)
 |[]=>some []
 |v::r=>match Jp v,qF r with
  |some v,some r=>some (v::r)
  |_,_=>none
def uI (place:Nat->Option (Nat×Nat)):List V->List (Nat×V)->Option (List V)
 |cs,[]=>some cs
 |cs,(i,v)::r=>match place i with
  |some (off,size)=>if v.cells.length=size∧off+v.cells.length<=cs.length∧v.cells.all V.iR=true then uI place (sT cs off v.cells) r else none
  |none=>none
def qG (sz:Nat):Nat->List V->List (List V)
 |0,_=>[]
 |n+1,cs=>cs.take sz::qG sz n (cs.drop sz)
def mK (k:IntKind) (a b:Int):Int:=k.wrap (BitVec.ofInt k.bits a&&& BitVec.ofInt k.bits b).toNat
def zJ (k:IntKind) (a b:Int):Int:=k.wrap (BitVec.ofInt k.bits a|||BitVec.ofInt k.bits b).toNat
def mI (k:IntKind) (a b:Int):Int:=k.wrap (a*2^(min b.toNat k.bits))
def tE (k:IntKind) (a b:Int):Int:=a.fdiv (2^(min b.toNat k.bits))
def Pt (op:BinOp) (x y:V):Option (V×Prop):=
 match x,y with
 | .base (.int k a),.base (.int k' b)=>match op with
  | .shl=>some (.base (.int k (mI k a b)),0<=b)
  | .shr=>some (.base (.int k (tE k a b)),0<=b)
  |_=>if k=k' then
   (match op with
   | .and=>some (.base (.int k (mK k a b)),True)
   | .or=>some (.base (.int k (zJ k a b)),True)
   | .add=>some (.base (.int k (k.wrap (a+b))),True)
   | .sub=>some (.base (.int k (k.wrap (a-b))),True)
   | .mul=>some (.base (.int k (k.wrap (a*b))),True)
   | .quo=>some (.base (.int k (k.wrap (a.tdiv b))),b≠0)
   | .rem=>some (.base (.int k (a.tmod b)),b≠0)
   | .eql=>some (.base (.bool (a==b)),True)
   | .neq=>some (.base (.bool (a != b)),True)
   | .lss=>some (.base (.bool (decide (a<b))),True)
   | .leq=>some (.base (.bool (decide (a<=b))),True)
   | .gtr=>some (.base (.bool (decide (a>b))),True)
   | .geq=>some (.base (.bool (decide (a>=b))),True)
   |_=>none) else none
 | .base (.string a),.base (.string b)=>match op with
  | .eql=>some (.base (.bool (a.toList==b.toList)),True)
  | .neq=>some (.base (.bool (!(a.toList==b.toList))),True)
  | .add=>some (.base (.string (a++b)),a.size+b.size<=maxLen)
  | .lss=>some (.base (.bool (Op.bytesLess a.toList b.toList)),True)
  | .leq=>some (.base (.bool (Op.bytesLess a.toList b.toList||a.toList==b.toList)),True)
  | .gtr=>some (.base (.bool (!(Op.bytesLess a.toList b.toList||a.toList==b.toList))),True)
  | .geq=>some (.base (.bool (!Op.bytesLess a.toList b.toList)),True)
  |_=>none
 |_,_=>none
def Pr (P:Program) (t:TypeId):Option (List Nat):=match P.underlying t with
 |some (.struct fs)=>if P.stoodInHeld t=false∧P.eqGuardType P.depth t=false∧(fs.toList.zipIdx.all fun x=>x.1.name != "_"&&x.1.offset==x.2)=true then
  fs.toList.mapM fun f=>match P.underlying f.type with
   |some .bool=>some 0
   |some (.int _)=>some 1
   |some .string=>some 2
   |_=>none
  else none
 |_=>none
def uA:List Nat->List V->List V->Option Bool
 |[],[],[]=>some true
 |0::ks,.base (.bool a)::r,.base (.bool b)::r'=>(uA ks r r').map ((a==b)&& ·)
 |1::ks,.base (.int k a)::r,.base (.int k' b)::r'=>if k=k' then(uA ks r r').map ((a==b)&& ·) else none
 |2::ks,.base (.string a)::r,.base (.string b)::r'=>(uA ks r r').map ((a.toList==b.toList)&& ·)
 |_,_,_=>none
def xL:V->Option Nat
 | .slice _ es| .own _ _ es=>some es.length
 | .nil| .zcap=>some 0
 | .base (.slice _ n _)=>some n
 |_=>none
def Po:V->Option Bool
 | .nil=>some true
 | .slice _ (_::_)=>some false
 | .base (.slice a _ _)=>some a.isNone
 |_=>none
def Ab:V->Option (Nat×List (List V))
 | .slice sz es| .own _ sz es=>some (sz,es)
 |_=>none
def Ss (de:iC):V->V->Option (V×Prop)
 | .base (.slice (some ⟨b,o,none⟩) len _),.base (.int _ n)=>some (.ptr b (o+n.toNat*de.size),0<=n∧n<(len:Int))
 |_,_=>none
def wI (st:St):Option Operand->Option Int
 |none=>some 0
 |some o=>match st.eval o with| .base (.int _ n)=>some n|_=>none
def wK (st:St) (len:Nat):Option Operand->Option Int
 |none=>some len
 |some o=>match st.eval o with| .base (.int _ n)=>some n|_=>none
def Eu (P:Program) (st:St) (args:Array Operand) (ts:Array TypeId):Option (V×Prop):=
 match ts[0]? with
 |some t=>match bT P t,args[0]? with
  |some d,some x=>match d.shape with
   | .slice _=>match xL (st.eval x) with
    |some n=>some (.base (.int .i64 (n:Int)),True)
    |none=>none
   | .string=>match st.eval x with
    | .base (.string s)=>some (.base (.int .i64 s.size),True)
    |_=>none
   |_=>none
  |_,_=>none
 |none=>none
def Nm (P:Program) (t:TypeId) (y:Operand) (op:BinOp):Option (V×Prop):=match P.underlying t,y,op with
 |some (.interface _),.const _,.eql=>some (.base (.bool true),True)
 |some (.interface _),.const _,.neq=>some (.base (.bool false),True)
 |_,_,_=>none
def Nn (P:Program) (t:TypeId) (y:Operand) (op:BinOp):Option (V×Prop):=match P.underlying t,y,op with
 |some (.interface _),.const _,.eql=>some (.base (.bool false),True)
 |some (.interface _),.const _,.neq=>some (.base (.bool true),True)
 |_,_,_=>none
def Pa (P:Program) (t tx ty:TypeId) (p q:ByteArray) (op:BinOp):Option (V×Prop):=match P.underlying t,P.underlying tx,op with
 |some (.interface _),some .string,.eql=>if tx=ty∧(P.info? tx).map (·.comparable)=some true then some (.base (.bool (p.toList==q.toList)),True) else none
 |_,_,_=>none
def Pb (P:Program) (t tx ty:TypeId) (op:BinOp):Option (V×Prop):=match P.underlying t,op with
 |some (.interface _),.eql=>if tx≠ty then some (.base (.bool false),True) else none
 |_,_=>none
def dZ (s:ByteArray):List Int:=s.data.toList.map fun x=>(x.toNat:Int)
def Aa:List V->Option (List Value)
 |[]=>some []
 | .base v::l=>match Aa l with
  |some l=>some (v::l)
  |none=>none
 |_::_=>none
def vN (mx:Bool) (st:St) (args:Array Operand):Option (V×Prop):=
 match args.toList with
 |[x,y]=>match st.eval x,st.eval y with
  | .base (.int k n),.base (.int _ m)=>some (.base (.int k (if mx then(if n<m then m else n) else(if m<n then m else n))),True)
  |_,_=>none
 |_=>none
def fF (P:Program) (st:St) (op:Op):Option (V×Prop):=
 match op with
 | .move x| .assign x=>some (st.eval x,True)
 | .pick c a b=>match st.eval c with
  | .base (.bool t)=>some (if t then st.eval a else st.eval b,True)
  |_=>none
 | .build t parts=>match bT P t with
  |some d=>match d.shape with
   | .struct fs=>match uI (fun i=>(fs[i]?).map fun f=>(f.1,f.2.1)) (d.zero.map V.rK) (parts.toList.map fun x=>(x.1,st.eval x.2)) with
    |some cs=>some (.agg cs,True)
    |none=>none
   |_=>none
  |none=>none
 | .buildSlice t len parts=>match bT P t with
  |some d=>match d.shape with
   | .slice e=>match bT P e with
    |some de=>if 0<len*de.size∧len*de.size<=2^24 then
     match uI (fun i=>some (i*de.size,de.size)) ((List.range (len*de.size)).map fun i=>V.rK (de.zero.getD (i%de.size) undef)) (parts.toList.map fun x=>(x.1,st.eval x.2)) with
     |some cs=>some (.slice de.size (qG de.size len cs),True)
     |none=>none
     else if len=0∧parts.toList=[] then some (.zcap,True) else none
    |none=>none
   |_=>none
  |none=>none
 | .load t x=>match bT P t with
  |some d=>match st.eval x with
   | .loc b off=>match st.loc b with
    |some (cs,_)=>(rd d cs off).map fun v=>(v,True)
    |none=>none
   | .elt cs off=>(rd d cs off).map fun v=>(v,True)
   |_=>none
  |none=>none
 | .nilCheck x=>match st.eval x with
  | .ptr b o=>some (.ptr b o,True)
  | .loc t o=>some (.loc t o,True)
  | .elt cs o=>some (.elt cs o,True)
  | .func f a c=>some (.func f a c,True)
  |_=>none
 | .binOp op t x y _=>match st.eval x,st.eval y with
  | .base (.bool a),.base (.bool b)=>match bT P t with
   |some d=>match d.shape,op with
    | .bool,.eql=>some (.base (.bool (a==b)),True)
    | .bool,.neq=>some (.base (.bool (!(a==b))),True)
    |_,_=>none
   |none=>none
  | .func _ _ _,.base .nilFunc=>match bT P t with
   |some d=>match d.shape,op with
    | .func,.eql=>some (.base (.bool false),True)
    | .func,.neq=>some (.base (.bool true),True)
    |_,_=>none
   |none=>none
  | .base .nilFunc,.base .nilFunc=>match bT P t with
   |some d=>match d.shape,op with
    | .func,.eql=>some (.base (.bool true),True)
    | .func,.neq=>some (.base (.bool false),True)
    |_,_=>none
   |none=>none
  | .agg cs,.agg cs'=>match Pr P t with
   |some ks=>match uA ks cs cs',op with
    |some r,.eql=>some (.base (.bool r),True)
    |some r,.neq=>some (.base (.bool !r),True)
    |_,_=>none
   |none=>none
  |v,.nil=>match Po v,bT P t with
   |some r,some d=>match d.shape,op with
    | .slice _,.eql=>some (.base (.bool r),True)
    | .slice _,.neq=>some (.base (.bool (!r)),True)
    |_,_=>none
   |_,_=>none
  | .base .nilIface,.base .nilIface=>Nm P t y op
  | .base (.iface _ _),.base .nilIface=>Nn P t y op
  | .base (.iface tx (.string p)),.base (.iface ty (.string q))=>Pa P t tx ty p q op
  | .base (.iface tx (.int _ _)),.base (.iface ty (.string _))=>Pb P t tx ty op
  |a,b=>Pt op a b
 | .unOp op _ x=>match op,st.eval x with
  | .not,.base (.bool b)=>some (.base (.bool !b),True)
  | .neg,.base (.int k n)=>some (.base (.int k (k.wrap (0-n))),True)
  |_,_=>none
 | .convert src dst x=>match bT P src,bT P dst,st.eval x with
  |some ds,some dd,.base (.int k n)=>match ds.shape,dd.shape with
   | .int _,.int k'=>some (.base (.int k' (k'.wrap n)),True)
   |_,_=>none
  |some ds,some dd,.base (.string s)=>match ds.shape,dd.shape with
   | .string,.string=>some (.base (.string s),True)
   | .string,.slice e=>match bT P e with
    |some de=>match de.shape with
     | .int .u8=>some (.slice 1 ((dZ s).map fun x=>[.base (.int .u8 x)]),s.size<=maxLen)
     |_=>none
    |none=>none
   |_,_=>none
  |_,_,_=>none
 | .makeFunc (.func f) first captured=>match qF (first.toList.map st.eval),qF (captured.toList.map st.eval) with
  |some a,some c=>some (.func f a c,True)
  |_,_=>none
 | .fieldAddr s x k=>match bT P s with
  |some d=>match d.shape with
   | .struct fs=>match fs[k]? with
    |some (off,size,_)=>if size=0 then none else match st.eval x with
     | .loc t o=>some (.loc t (o+off),True)
     | .elt cs o=>some (.elt cs (o+off),True)
     | .ptr b o=>some (.ptr b (o+off),True)
     |_=>none
    |none=>none
   |_=>none
  |none=>none
 | .field s x k=>match bT P s with
  |some d=>match d.shape with
   | .struct fs=>match fs[k]? with
    |some (off,size,agg)=>match st.eval x with
     | .agg cs=>(if agg then(if off+size<=cs.length then some (.agg ((cs.drop off).take size)) else none) else cs[off]?).map fun v=>(v,True)
     |_=>none
    |none=>none
   |_=>none
  |none=>none
 | .indexAddr t x i=>match bT P t with
  |some d=>match d.shape with
   | .slice e=>match bT P e with
    |some de=>match Ab (st.eval x),st.eval i with
     |some (sz,es),.base (.int _ n)=>if sz=de.size then some (.elt (es.getD n.toNat []) 0,0<=n∧n<es.length) else none
     |none,i=>Ss de (st.eval x) i
     |_,_=>none
    |none=>none
   |_=>none
  |none=>none
 | .index t x i=>match bT P t with
  |some d=>match d.shape,st.eval x,st.eval i with
   | .string,.base (.string s),.base (.int _ n)=>some (.base (.int .u8 (s.data.toList.getD n.toNat 0).toNat),0<=n∧n<s.size)
   |_,_,_=>none
  |none=>none
 | .extract x i=>match st.eval x with
  | .tuple vs=>(vs[i]?).map fun v=>(v,True)
  |_=>none
 | .slice t x lo hi none=>match bT P t with
  |some d=>match d.shape with
   | .string=>match st.eval x with
    | .base (.string s)=>match wI st lo,wK st s.size hi with
     |some l,some h=>some (.base (.string (s.extract l.toNat h.toNat)),0<=l∧l<=h∧h<=s.size)
     |_,_=>none
    |_=>none
   | .slice e=>match Ab (st.eval x),bT P e with
    |some (sz,es),some de=>if sz=de.size then
     match wI st lo,wK st es.length hi with
     |some l,some h=>some (.slice sz ((es.drop l.toNat).take (h.toNat-l.toNat)),0<=l∧l<=h∧h<=es.length)
     |_,_=>none
     else none
    |_,_=>none
   |_=>none
  |none=>none
 | .slice t x none (some hi) (some mx)=>match bT P t with
  |some d=>match d.shape with
   | .slice e=>match bT P e,st.eval hi,st.eval mx with
    |some _,.base (.int _ n),.base (.int _ m)=>if n=0∧m=0 then
     match st.eval x with
     | .slice _ _=>some (.zcap,True)
     | .own _ _ _=>some (.zcap,True)
     | .nil=>some (.zcap,True)
     |_=>none
     else none
    |_,_,_=>none
   |_=>none
  |none=>none
 | .call { callee:=.builtin .len,args:=args,argTypes:=ts }=>Eu P st args ts
 | .call { callee:=.builtin .max,args:=args,argTypes:=_ }=>vN true st args
 | .call { callee:=.builtin .min,args:=args,argTypes:=_ }=>vN false st args
 | .makeInterface t x=>match bT P t,st.eval x with
  |some d,.base v=>match d.shape with
   | .int _=>some (.base (.iface t v),True)
   | .string=>some (.base (.iface t v),True)
   |_=>none
  |some d,.agg cs=>match d.shape,Aa cs with
   | .struct _,some vs=>some (.base (.iface t (.agg vs.toArray)),True)
   |_,_=>none
  |_,_=>none
 | .typeAssert x _ t false=>match bT P t,st.eval x with
  |some d,.base (.iface t' v)=>match d.shape with
   | .int _=>if t'=t then some (.base v,True) else none
   |_=>none
  |_,_=>none
 | .typeAssert x _ t true=>match bT P t,st.eval x with
  |some d,.base (.iface t' v)=>match d.shape with
   | .struct _=>if t'=t then some (.tuple [V.xP v,.base (.bool true)],True) else none
   |_=>none
  |_,_=>none
 |_=>none
end
def cS.same {G:bC} {s:aL} {w w':World} (h:cS G s w) (hc:∀b o v,G.F b o=some v->w'.cell? ⟨b,o,none⟩=w.cell? ⟨b,o,none⟩)
 (hb:∀b,dL G s b->w'.heap[b]? =w.heap[b]?) (ho:∀b x,G.ob b=some x->w'.heap[b]? =w.heap[b]?)
 (hz:∀(b:Nat) (cs:Array Value) (ty:TypeId) (fr:Nat×Nat),w.heap[b]? =some (.cells cs ty fr)->∃(cs':Array Value) (ty':TypeId) (fr':Nat×Nat),w'.heap[b]? =some (.cells cs' ty' fr')∧cs'.size=cs.size):cS G s w' where
 dO:=fun b o v hv=>(hc b o v hv).trans (h.dO b o v hv)
 box:=fun b cs ty hx=>by
  obtain⟨ccs,h1,h2⟩:=h.box b cs ty hx;exact⟨ccs,(hb b (.inl (by rw[hx];simp))).trans h1,h2⟩
 own:=fun g e sz hg=>by
  obtain⟨v,hv,ho⟩:=h.own g e sz hg;refine⟨v,hv,?_⟩;rcases ho with⟨a,rfl⟩|⟨b,n,cap,cur,rfl,h1,h2⟩
  ·exact .inl ⟨a,rfl⟩
  ·exact .inr ⟨b,n,cap,cur,rfl,(hb b (.inr ⟨g,_,_,hg,hv,rfl⟩)).trans h1,h2⟩
 sep:=h.sep
 nobox:=h.nobox
 fin:=h.fin
 ob:=fun k x hk=>⟨(h.ob k x hk).1,(ho k x hk).trans (h.ob k x hk).2⟩
 tab:=h.tab
 siz:=h.siz.of hz
structure dP (w w':World):Prop where
 size:w.heap.size<=w'.heap.size
 os:w'.os=w.os
 tape:w'.tape=w.tape
 output:w'.output=w.output
 keep:∀b,b<w.heap.size->w'.heap[b]? =w.heap[b]?
def dP.alloc (w:World) (o:Obj):dP w (w.alloc o):=⟨by simp,rfl,rfl,rfl,fun b hb=>heap_alloc_old w o b hb⟩
def dP.drew (w:World):dP w w.drew:=⟨dS _,rfl,rfl,rfl,fun _ _=>rfl⟩
def dP.trans {a b c:World} (h:dP a b) (h':dP b c):dP a c:=
 ⟨xX h.size h'.size,h'.os.trans h.os,h'.tape.trans h.tape,h'.output.trans h.output,fun k hk=>(h'.keep k (Nat.lt_of_lt_of_le hk h.size)).trans (h.keep k hk)⟩
def dP.cell {w w':World} (h:dP w w') {b o:Nat} (hb:b<w.heap.size):w'.cell? ⟨b,o,none⟩=w.cell? ⟨b,o,none⟩:=by
 simp[World.cell?,h.keep b hb]
def cS.more {G:bC} {s:aL} {w w':World} (h:cS G s w) (hm:dP w w'):cS G s w':=
 h.same (fun b o v hv=>hm.cell (h.zO (by rw[hv];simp))) (fun b hb=>hm.keep b (h.zM hb)) (fun b x hb=>hm.keep b (gZ.1 (h.ob b x hb).2).1) fun b cs ty fr hb=>⟨cs,ty,fr,(hm.keep b (gZ.1 hb).1).trans hb,rfl⟩
def Rc {w:World} {b:Nat} {cur ccs':Array Value} {ty0:TypeId} {fr0:Nat×Nat} (hb:w.heap[b]? =some (.cells cur ty0 fr0)) (hs:ccs'.size=cur.size):∀(b':Nat) (cs:Array Value) (ty:TypeId) (fr:Nat×Nat),w.heap[b']? =some (.cells cs ty fr)->∃(cs':Array Value) (ty':TypeId) (fr':Nat×Nat),(w.setRow b ccs').heap[b']? =some (.cells cs' ty' fr')∧cs'.size=cs.size:=fun b' cs ty fr h=>by
 by_cases e:b'=b
 ·subst e;rw[hb] at h;cases h;exact⟨ccs',_,_,setRow_heap _ _ _ _ _ _ hb,hs⟩
 ·exact⟨cs,ty,fr,(setRow_other _ _ _ _ e).trans h,rfl⟩
def dD.more {G:bC} {s:aL} {w w':World} (hm:dP w w'):dD G s w G s w':=
 ⟨.refl G,hm.size,hm.os,hm.tape,hm.output,fun b hb _=>hm.keep b hb,fun _ h=>.inl h,fun _ _ h=>.inl h,fun _ h=>.inl h⟩
def cW.Xd {n0:nS} {G:bC} {be:Nat->Option Nat} {st:St} {a:Act} {w:World} (h:cW n0 G be st a w) {t b:Nat} (ht:st.loc t≠none) (hb:be t=some b):b<w.heap.size:=by
 cases hx:st.loc t with
 |none=>exact absurd hx ht
 |some x=>
  obtain⟨b',h1,_,⟨ccs,h2,_⟩,_⟩:=h.loc t x.1 x.2 hx;obtain rfl:b'=b:=eS (h1.symm.trans hb);exact(gZ.1 h2).1
def cW.more {n0:nS} {G:bC} {be:Nat->Option Nat} {st:St} {a:Act} {w w':World} (h:cW n0 G be st a w) (hm:dP w w'):cW n0 G be st a w':=by
 refine⟨h.hr.more hm,h.n,h.df,h.tmps,fun t cs ty ht=>?_,h.inj⟩;obtain⟨b,h1,h2,⟨ccs,h3,h4⟩,h5⟩:=h.loc t cs ty ht;exact⟨b,h1,h2,⟨ccs,(hm.keep b (gZ.1 h3).1).trans h3,h4⟩,h5⟩
def bC.freeze (G:bC) (b:Nat) (ccs:Array Value):bC:={ G with F:=fun b' o=>if b'=b then ccs[o]? else G.F b' o }
def bC.zN {G:bC} {b:Nat} (ccs:Array Value) (hF:∀o,G.F b o=none):G.Le (G.freeze b ccs):=
 ⟨fun b' o v h=>by
  have:b'≠b:=fun e=>by subst e;rw[hF o] at h;cases h
  simpa[bC.freeze,this] using h,fun g v h=>h,fun _ _ h=>h⟩
def cS.freeze {G:bC} {s:aL} {w:World} (h:cS G s w) {b:Nat} {ccs:Array Value} {e:TypeId} {fr:Nat×Nat} (hb:w.heap[b]? =some (.cells ccs e fr)) (hf:¬dL G s b) (hF:∀o,G.F b o=none):
 cS (G.freeze b ccs) s w where
 dO:=fun b' o v hv=>by
  by_cases e':b'=b
  ·subst e';simp[bC.freeze] at hv;rw[cell_of_row w b' o ccs e fr hb];exact hv
  ·simp[bC.freeze,e'] at hv;exact h.dO b' o v hv
 box:=fun b' cs ty hx=>by
  obtain⟨c',h1,h2,h3,h4⟩:=h.box b' cs ty hx;have hne:b'≠b:=fun e'=>hf (.inl (by rw[<-e',hx];simp));exact⟨c',h1,h2.mono (bC.zN ccs hF),h3,fun o=>by simp[bC.freeze,hne,h4 o]⟩
 own:=fun g e' sz hg=>by
  obtain⟨v,hv,ho⟩:=h.own g e' sz hg;refine⟨v,hv,?_⟩;rcases ho with⟨a,rfl⟩|⟨b',n,cap,cur,rfl,h1,h2,h3,h4,h5⟩
  ·exact .inl ⟨a,rfl⟩
  ·have hne:b'≠b:=fun e''=>hf (.inr ⟨g,_,_,hg,hv,by simp[jT,e'']⟩);exact .inr ⟨b',n,cap,cur,rfl,h1,h2,h3,h4,fun o ho=>by simp[bC.freeze,hne,h5 o ho]⟩
 sep:=h.sep
 nobox:=h.nobox
 fin:=h.fin
 ob:=h.ob
 tab:=h.tab.mono (bC.zN ccs hF).f
 siz:=h.siz
def cW.freeze {n0:nS} {G:bC} {be:Nat->Option Nat} {st:St} {a:Act} {w:World} (h:cW n0 G be st a w) {b:Nat} {ccs:Array Value} {e:TypeId} {fr:Nat×Nat} (hb:w.heap[b]? =some (.cells ccs e fr)) (hf:¬dL G st.s b)
 (hF:∀o,G.F b o=none) (hl:∀t,st.loc t≠none->be t≠some b):cW n0 (G.freeze b ccs) be st a w:=by
 refine⟨h.hr.freeze hb hf hF,h.n,h.df.mono (bC.zN ccs hF),fun t=>(h.tmps t).mono (bC.zN ccs hF),fun t cs ty ht=>?_,h.inj⟩;obtain⟨b',h1,h2,⟨c',h3,h4,h5⟩,h6,h7⟩:=h.loc t cs ty ht;have hne:b'≠b:=fun e'=>hl t (by rw[ht];simp) (by rw[h1,e']);exact⟨b',h1,h2,⟨c',h3,h4.mono (bC.zN ccs hF),h5⟩,fun o=>by simp[bC.freeze,hne,h6 o],h7⟩
def cW.Xf {n0:nS} {G:bC} {be:Nat->Option Nat} {st:St} {a:Act} {w:World} (h:cW n0 G be st a w) (ccs:Array Value) (e:TypeId):
 cW n0 (G.freeze w.heap.size ccs) be st a (w.alloc (.cells ccs e))∧dD G st.s w (G.freeze w.heap.size ccs) st.s (w.alloc (.cells ccs e)):=by
 have hF:∀o,G.F w.heap.size o=none:=fun o=>by
  cases hx:G.F w.heap.size o with
  |none=>rfl
  |some v=>have:=h.hr.zO (b:=w.heap.size) (o:=o) (by rw[hx];simp);omega
 have hf:¬dL G st.s w.heap.size:=fun hf=>by have:=h.hr.zM hf;omega
 have h':=h.more (dP.alloc w (.cells ccs e));refine⟨h'.freeze (heap_alloc_new w _) hf hF (fun t ht hb=>by have:=h.Xd ht hb;omega),?_⟩;have hm:=dP.alloc w (.cells ccs e);refine⟨bC.zN ccs hF,hm.size,hm.os,hm.tape,hm.output,fun b hb _=>hm.keep b hb,fun b hb=>.inl hb,fun b o hb=>?_,fun _ h=>.inl h⟩;by_cases e':b=w.heap.size
 ·exact .inr (.inr (by omega))
 ·simp[bC.freeze,e'] at hb;exact .inl hb
section
variable {P:Program}
def AD:∀(l:List Value) (k:Nat) (cells:Array Value) (off:Nat),off+k+l.length<=cells.size->
 ((l.zipIdx k).foldl (fun(cs:Array Value) (x:Value×Nat)=>cs.setIfInBounds (off+x.2) x.1) cells).toList=cells.toList.take (off+k)++l++cells.toList.drop (off+k+l.length)
 |[],k,cells,off,h=>by simp
 |v::l,k,cells,off,h=>by
  simp only[List.zipIdx_cons,List.foldl_cons];simp only[bF] at h;rw[AD l (k+1) _ off (by simp;omega)];have e:=list_seg_step cells.toList (off+k) v l (by simpa using h);simpa[Array.toList_setIfInBounds,Nat.add_assoc] using e
def SA (off:Nat) (v cells:Array Value) (h:off+v.size<=cells.size):
 (v.zipIdx.foldl (fun(cs:Array Value) (x:Value×Nat)=>cs.setIfInBounds (off+x.2) x.1) cells).toList=cells.toList.take off++v.toList++cells.toList.drop (off+v.size):=by
 have:=AD v.toList 0 cells off (by simpa using h);rw[<-Array.foldl_toList];simpa using this
def Mt {G:bC} {be:Nat->Option Nat} {loc:Nat->Option (List V×TypeId)} {c:V} {v:Value} (h:eE G be loc c v) (hc:c.cells.all V.iR=true):
 bZ G c.cells v.cells.toList∧∀x∈v.cells.toList,x.oneCell'=true:=by
 have one:∀(cs:List V) (vs:List Value),bZ G cs vs->cs.all V.iR=true->∀x∈vs,x.oneCell'=true:=by
  intro cs vs hr hall x hx;obtain⟨i,hi,rfl⟩:=List.mem_iff_getElem.1 hx;have hi':i<cs.length:=by rw[hr.1];exact hi
  exact(hr.2 i _ _ (fH hi') (fH hi)).Wy (lY.1 hall _ (sM hi'))
 by_cases hagg:∃cs,c= .agg cs
 ·obtain⟨cs,rfl⟩:=hagg;cases (show bJ G (.agg cs) v from h) with
  |agg _ ccs hl hh=>
   have:=sP hl hh;exact⟨this,one _ _ this hc⟩
 ·have hcs:c.cells=[c]:=by cases c<;>first|rfl|exact absurd ⟨_,rfl⟩ hagg
  rw[hcs] at hc ⊢;have hcell:c.iR=true:=by simpa using hc
  have hr:bJ G c v:=h.rep (fun t off e=>by subst e;simp[V.iR] at hcell);have h1:=hr.Wy hcell;have hv:v.cells= #[v]:=by cases v<;>first|rfl|(simp[Value.oneCell'] at h1)
  rw[hv];exact⟨bZ.cons hr (bZ.nil G),by simpa using h1⟩
def My {G:bC} {be:Nat->Option Nat} {loc:Nat->Option (List V×TypeId)} (place:Nat->Option (Nat×Nat)):∀(parts:List (Nat×V)) (vparts:List (Nat×Value)) (cs cs':List V) (ccs:Array Value),
 uI place cs parts=some cs'->bZ G cs ccs.toList->(∀x∈ccs.toList,x.oneCell'=true)->parts.length=vparts.length->(∀(i:Nat) p q,parts[i]? =some p->vparts[i]? =some q->p.1=q.1∧eE G be loc p.2 q.2)->
 ∃ccs',Instr.fill place ccs vparts=some ccs'∧bZ G cs' ccs'.toList∧(∀x∈ccs'.toList,x.oneCell'=true)
 |[],vparts,cs,cs',ccs,h,hr,h1,hl,hp=>by
  obtain rfl:vparts=[]:=jU (by simpa using hl.symm);simp[uI] at h;subst h;exact⟨ccs,rfl,hr,h1⟩
 |(i,c)::parts,vparts,cs,cs',ccs,h,hr,h1,hl,hp=>by
  cases vparts with
  |nil=>simp at hl
  |cons q vparts=>
   obtain⟨j,v⟩:=q;obtain⟨rfl,hv⟩:=hp 0 (i,c) (j,v) rfl rfl;simp only[uI] at h;cases hpl:place i with
   |none=>rw[hpl] at h;cases h
   |some x=>
    obtain⟨off,size⟩:=x;rw[hpl] at h;simp only at h;split at h
    ·rename_i hc;obtain⟨hsz,hoff,hall⟩:=hc;obtain⟨hrc,hone⟩:=Mt hv hall;have hvs:v.cells.size=c.cells.length:=by rw[hrc.1];simp
     have hcs:ccs.size=cs.length:=by rw[hr.1];simp
     have hstep:=SA off v.cells ccs (by omega);have hsp:bZ G (sT cs off c.cells) (v.cells.zipIdx.foldl (fun(cs:Array Value) (x:Value×Nat)=>cs.setIfInBounds (off+x.2) x.1) ccs).toList:=by
      rw[hstep,sT,hvs];exact((hr.take off).append hrc).append (hr.drop _)
     have hone':∀x∈(v.cells.zipIdx.foldl (fun(cs:Array Value) (x:Value×Nat)=>cs.setIfInBounds (off+x.2) x.1) ccs).toList,x.oneCell'=true:=by
      rw[hstep];intro x hx;simp only[lN] at hx;rcases hx with(hx|hx)|hx
      ·exact h1 x (Du hx)
      ·exact hone x hx
      ·exact h1 x (Gz hx)
     obtain⟨ccs',hf,hres⟩:=My place parts vparts _ cs' _ h hsp hone' (by simpa using hl) (fun k p q a b=>hp (k+1) p q (by simpa using a) (by simpa using b));refine⟨ccs',?_,hres⟩;simp only[Instr.fill,hpl];rw[if_neg (by simp;omega)];exact hf
    ·cases h
def Rs {t:TypeId} {u:TypeDesc} (hu:P.underlying t=some u) (w:World):(isAgg t).run P w= .ok (wV P t) w:=by
 unfold isAgg wV;rw[Sem.run_bind,run_underlying hu w,hu];cases u<;>simp
def Ix {G:bC} {w:World} {b o off:Nat} {cs:List V} {vs:List Value} {t:TypeId} {d:iC} {v:V} (hr:bZ G cs vs) (hc:w.rangeAt b o vs) (ht:bT P t=some d) (h:rd d cs off=some v):
 ∃cv,(Instr.loadAt t (.pointer (some ⟨b,o+off,none⟩))).run P w= .ok cv w∧bJ G v cv:=by
 obtain⟨i,u,z,hi,hu,hz,h1,h2,h3,h4,h5⟩:=gE ht;unfold rd at h;by_cases ha:d.agg=true
 ·rw[if_pos ha] at h;split at h
  ·rename_i hle;cases h
   have hlen:((vs.drop off).take d.size).length=d.size:=by rw[tX,uV];have:=hr.1;omega
   refine⟨.agg ((vs.drop off).take d.size).toArray,?_,?_⟩
   ·refine run_loadAt_mid w b (o+off) t _ u (fun j v hv=>?_) hu ?_ (by rw[hi,hlen,h1];rfl)
    ·rw[Mh] at hv;split at hv
     ·rw[Hc] at hv;have:=hc (off+j) v hv;rwa[<-Nat.add_assoc] at this
     ·cases hv
    ·rw[h4] at ha;unfold wV at ha;rw[hu] at ha;cases u<;>simp_all
   ·exact(show bZ G _ _ from by simpa using((hr.drop off).take d.size)).agg
  ·cases h
 ·rw[if_neg ha] at h;obtain⟨cv,hv,hrep⟩:=hr.get h;refine⟨cv,?_,hrep⟩;have hcell:=hc off cv hv;have hagg:wV P t=false:=by rw[<-h4];simpa using ha
  simp[Instr.loadAt,Instr.sureAddr,loadVar,Rs hu,hagg,run_load,hcell]
end
section
variable {P:Program} {n0:nS} {G:bC} {be:Nat->Option Nat} {st:St} {a:Act} {w:World}
def cX (P:Program) (n0:nS) (G:bC) (be:Nat->Option Nat) (st:St) (a:Act) (w:World) (o:Oper) (v:V):Prop:=
 ∃cv w1 G1,(execOp a.eval o).run P w= .ok (.value cv) w1∧cW n0 G1 be st a w1∧dD G st.s w G1 st.s w1∧eE G1 be st.loc v cv
def cX.same (hr:cW n0 G be st a w) {o:Oper} {v:V} {cv:Value} (h:(execOp a.eval o).run P w= .ok (.value cv) w) (hv:eE G be st.loc v cv):cX P n0 G be st a w o v:=
 ⟨cv,w,G,h,hr,dD.refl _ _ _,hv⟩
def gT (hr:cW n0 G be st a w) {x:Operand} {v:Value} (h:st.eval x= .base v):a.eval x=v:=by
 have:=hr.eval x;rw[h] at this;cases (show bJ G (.base v) (a.eval x) from this)
 rfl
def Yu {c c':V} (h:Jp c=some c'):c'=c∧∀t off,c≠ .loc t off:=by
 cases c<;>simp[Jp] at h<;>exact⟨h.symm,by simp⟩
def Ho (hr:cW n0 G be st a w):∀(xs:List Operand) (cs:List V),qF (xs.map st.eval)=some cs->bZ G cs (xs.map a.eval)
 |[],cs,h=>by simp[qF] at h;subst h;exact bZ.nil G
 |x::xs,cs,h=>by
  simp only[dG,qF] at h;split at h
  ·rename_i v r hv hrr;cases h
   obtain⟨rfl,hne⟩:=Yu hv;exact bZ.cons ((hr.eval x).rep hne) (Ho hr xs _ hrr)
  ·cases h
def Yp {c:V} {v:Value} {sz:Nat} {es:List (List V)} (h:eE G be st.loc c v) (hs:Ab c=some (sz,es)):bJ G (.slice sz es) v:=by
 cases c<;>simp[Ab] at hs
 case slice=>obtain⟨rfl,rfl⟩:=hs;exact h
 case own=>obtain⟨rfl,rfl⟩:=hs;cases (show bJ G (.own _ _ _) v from h) with|own _ _ _ _ h _=>exact h
def Mw {c:V} {v:Value} {n:Nat} (h:eE G be st.loc c v) (hs:xL c=some n):∃b cap,v= .slice b n cap:=by
 cases c<;>try (simp[xL] at hs;done)
 case base x=>
  cases x<;>first|(simp[xL] at hs;done)|skip
  rename_i a m k;have hs:m=n:=by simpa[xL] using hs
  subst hs;cases (show bJ G (.base (.slice a m k)) v from h);exact⟨_,_,rfl⟩
 all_goals simp[xL] at hs
 case nil=>subst hs;cases (show bJ G .nil v from h);exact⟨_,_,rfl⟩
 case zcap=>subst hs;cases (show bJ G .zcap v from h);exact⟨_,_,rfl⟩
 case slice=>
  subst hs;cases (show bJ G (.slice _ _) v from h)<;>exact⟨_,_,rfl⟩
 case own=>
  subst hs;cases (show bJ G (.own _ _ _) v from h) with|own _ _ _ _ h _=>cases h<;>exact⟨_,_,rfl⟩
def MC (d:Nat) (t:TypeId) (ps rs:Array TypeId) (vr:Bool) (hu:P.underlying t=some (.func ps rs vr)) (f:Fn) (x y:Array Value) (w:World):
 (Op.equalIn (d+1) t (.func f x y) .nilFunc).run P w= .ok false w∧(Op.equalIn (d+1) t .nilFunc .nilFunc).run P w= .ok true w:=by
 constructor<;>simp[Op.equalIn,run_underlying hu]
def Xu (t:TypeId) (u:TypeDesc) (hu:P.underlying t=some u) (hf:qT P u= .func) (f:Fn) (x y:Array Value) (w:World):
 (binOp .eql t (.func f x y) .nilFunc).run P w= .ok (.bool false) w∧(binOp .neq t (.func f x y) .nilFunc).run P w= .ok (.bool true) w∧
 (binOp .eql t .nilFunc .nilFunc).run P w= .ok (.bool true) w∧(binOp .neq t .nilFunc .nilFunc).run P w= .ok (.bool false) w:=by
 cases u<;>simp[qT] at hf
 case struct=>split at hf<;>cases hf
 obtain⟨h1,h2⟩:=MC 9999 t _ _ _ hu f x y w;have h1':(Op.equal t (.func f x y) .nilFunc).run P w= .ok false w:=h1;have h2':(Op.equal t .nilFunc .nilFunc).run P w= .ok true w:=h2;refine⟨?_,?_,?_,?_⟩<;>simp only[binOp]<;>simp[h1',h2']
def VW {op:BinOp} {x y:V} {v:V} {side:Prop} (h:Pt op x y=some (v,side)) (hs:side) (t:TypeId) (ox oy:Operand) (w:World):
 ∃vx vy cv,x= .base vx∧y= .base vy∧v= .base cv∧(do eqGuard op t ox oy vx vy;binOp op t vx vy:Sem Value).run P w= .ok cv w:=by
 unfold Pt at h;split at h
 ·rename_i k a k' b;by_cases hsh:op= .shl∨op= .shr
  ·rcases hsh with rfl|rfl<;>(simp only[iZ,qS] at h;obtain⟨rfl,rfl⟩:=h;refine⟨_,_,_,rfl,rfl,rfl,?_⟩;simp[eqGuard_at_int,Sem.run_bind,binOp,Op.shift,mI,tE,show ¬b<0 by omega])
  ·have h':(if k=k' then(match op with
    | .and=>some (V.base (.int k (mK k a b)),True)
    | .or=>some (.base (.int k (zJ k a b)),True)
    | .add=>some (.base (.int k (k.wrap (a+b))),True)
    | .sub=>some (.base (.int k (k.wrap (a-b))),True)
    | .mul=>some (.base (.int k (k.wrap (a*b))),True)
    | .quo=>some (.base (.int k (k.wrap (a.tdiv b))),b≠0)
    | .rem=>some (.base (.int k (a.tmod b)),b≠0)
    | .eql=>some (.base (.bool (a==b)),True)
    | .neq=>some (.base (.bool (a != b)),True)
    | .lss=>some (.base (.bool (decide (a<b))),True)
    | .leq=>some (.base (.bool (decide (a<=b))),True)
    | .gtr=>some (.base (.bool (decide (a>b))),True)
    | .geq=>some (.base (.bool (decide (a>=b))),True)
    |_=>none) else none)=some (v,side):=by
    cases op<;>first|exact h|exact absurd (.inl rfl) hsh|exact absurd (.inr rfl) hsh
   clear h;split at h'
   ·rename_i hk;subst hk;cases op<;>simp only[iZ,qS,reduceCtorEq] at h'
    all_goals
     obtain⟨rfl,rfl⟩:=h';refine⟨_,_,_,rfl,rfl,rfl,?_⟩;simp[eqGuard_at_int,Sem.run_bind,binOp,Op.intArith,Op.intCmp,Op.intDiv,Op.intBits,mK,zJ,hs]
   ·cases h'
 ·rename_i a b;cases op<;>simp only[iZ,qS,reduceCtorEq] at h
  all_goals
   obtain⟨rfl,rfl⟩:=h;refine⟨_,_,_,rfl,rfl,rfl,?_⟩;simp[eqGuard_at_string,Sem.run_bind,binOp,Op.stringOp]
  case add=>
   have:¬(((a.size+b.size:Nat):Int)>i64.max):=by
    simp only[IntKind.max,IntKind.signed,IntKind.bits,maxLen] at hs ⊢;omega
   simp at this;simp[this]
 ·cases h
def tZ {u:TypeDesc} {e:TypeId} (h:Cu.slice e=qT P u):u= .slice e:=by
 cases u<;>simp[qT] at h
 ·rw[h]
 ·split at h<;>cases h
def NS {u:TypeDesc} (h:Cu.bool=qT P u):u= .bool:=by
 cases u<;>simp[qT] at h
 ·rfl
 ·split at h<;>cases h
def Bn {u:TypeDesc} (h:Cu.string=qT P u):u= .string:=by
 cases u<;>simp[qT] at h
 ·rfl
 ·split at h<;>cases h
def Ht {u:TypeDesc} {k:IntKind} (h:Cu.int k=qT P u):u= .int k:=by
 cases u<;>simp[qT] at h
 ·rw[h]
 ·split at h<;>cases h
def Hk {u:TypeDesc} {fs:List (Nat×Nat×Bool)} (h:Cu.struct fs=qT P u):∃f:Array Field,u= .struct f∧fieldsOf P f.toList=some fs:=by
 cases u<;>simp[qT] at h
 split at h
 ·rename_i l hl;cases h;exact⟨_,rfl,hl⟩
 ·cases h
def Xk:∀(l:List Field) (fs:List (Nat×Nat×Bool)),fieldsOf P l=some fs->l.mapM (fun f=>(P.info? f.type).map fun i=>(f.offset,i.size))=some (fs.map fun x=>(x.1,x.2.1))
 |[],fs,h=>by simp[fieldsOf] at h;subst h;rfl
 |f::l,fs,h=>by
  simp only[fieldsOf] at h;split at h
  ·rename_i x r hx hr;cases h
   have ih:=Xk l r hr;unfold Sy at hx;split at hx
   ·rename_i i u hi hu;cases hx
    simp[List.mapM_cons,hi,ih]
   ·cases hx
  ·cases h
def Qt:∀(l:List Field) (fs:List (Nat×Nat×Bool)),fieldsOf P l=some fs->∀(k:Nat) x,fs[k]? =some x->∃f i u,l[k]? =some f∧P.info? f.type=some i∧P.underlying f.type=some u∧x=(f.offset,i.size,wV P f.type)
 |[],fs,h,k,x,hx=>by simp[fieldsOf] at h;subst h;simp at hx
 |f::l,fs,h,k,x,hx=>by
  simp only[fieldsOf] at h;split at h
  ·rename_i y r hy hr;cases h
   cases k with
   |zero=>
    simp at hx;subst hx;unfold Sy at hy;split at hy
    ·rename_i i u hi hu;cases hy
     exact⟨f,i,u,rfl,hi,hu,rfl⟩
    ·cases hy
   |succ k=>exact Qt l r hr k x (by simpa using hx)
  ·cases h
def Ca (b o k:Nat):(⟨b,o,none⟩:Addr).add k=⟨b,o+k,none⟩:=Addr.add_mid b o k
def AL (hr:cW n0 G be st a w) {o:Oper} {x:Operand} (ho:o.op= .move x∨o.op= .assign x):cX P n0 G be st a w o (st.eval x):=by
 refine cX.same hr (cv:=a.eval x) ?_ (hr.eval x);rcases ho with ho|ho<;>simp[execOp,ho]
def SS (hr:cW n0 G be st a w) {o:Oper} {c x y:Operand} (ho:o.op= .pick c x y) {t:Bool} (hc:st.eval c= .base (.bool t)):cX P n0 G be st a w o (if t then st.eval x else st.eval y):=by
 have:=gT hr hc;refine cX.same hr (cv:=if t then a.eval x else a.eval y) ?_ ?_
 ·simp[execOp,ho,this,asBool]
 ·cases t
  ·exact hr.eval y
  ·exact hr.eval x
def Rk (hr:cW n0 G be st a w) (parts:Array (Nat×Operand)):∀(i:Nat) (p:Nat×V) (q:Nat×Value),(parts.toList.map fun x=>(x.1,st.eval x.2))[i]? =some p->(parts.toList.map fun x=>(x.1,a.eval x.2))[i]? =some q->p.1=q.1∧eE G be st.loc p.2 q.2:=by
 intro i p q h1 h2;rw[qQ] at h1 h2;cases hx:parts.toList[i]? with
 |none=>rw[hx] at h1;cases h1
 |some x=>
  rw[hx] at h1 h2;cases h1;cases h2
  exact⟨rfl,hr.eval x.2⟩
def PT (hr:cW n0 G be st a w) {o:Oper} {t:TypeId} {parts:Array (Nat×Operand)} (ho:o.op= .build t parts) {d:iC} (hd:bT P t=some d) {fs:List (Nat×Nat×Bool)} (hfs:d.shape= .struct fs) {cs:List V}
 (h:uI (fun i=>(fs[i]?).map fun f=>(f.1,f.2.1)) (d.zero.map V.rK) (parts.toList.map fun x=>(x.1,st.eval x.2))=some cs):cX P n0 G be st a w o (.agg cs):=by
 obtain⟨i,u,z,hi,hu,hz,h1,h2,h3,h4,h5⟩:=gE hd;obtain⟨f,rfl,hff⟩:=Hk (hfs.symm.trans h5);have hzr:bZ G (d.zero.map V.rK) z.cells.toList:=by rw[h3];exact Hl G _
 obtain⟨ccs,hf,hrep,_⟩:=My (G:=G) (be:=be) (loc:=st.loc) _ _ (parts.toList.map fun x=>(x.1,a.eval x.2)) _ _ z.cells h hzr (by rw[<-h3];exact(Ea hd).2) (by simp) (Rk hr parts);have hb:P.built t (parts.map fun(i,x)=>(i,a.eval x)).toList=some ccs:=by
  unfold Program.built;rw[hi,hu];simp only[hz,Xk _ _ hff];rw[<-hf];congr 1
  ·funext k;simp
  ·simp
 refine cX.same hr (cv:=.agg ccs) ?_ hrep.agg;unfold execOp;simp only[ho,Sem.run_bind,run_build w t _ ccs hb,Result.andThen_ok,Sem.run_pure]
def Rh (sz:Nat):∀(n:Nat) (cs:List V),cs.length=n*sz->(∀c∈qG sz n cs,c.length=sz)∧(qG sz n cs).length=n∧
 (∀(i j:Nat) c x,(qG sz n cs)[i]? =some c->c[j]? =some x->cs[i*sz+j]? =some x)
 |0,cs,h=>⟨by simp[qG],rfl,fun i j c x h=>by simp[qG] at h⟩
 |n+1,cs,h=>by
  have hl:cs.length=n*sz+sz:=by rw[h,mA,Nat.one_mul]
  obtain⟨h1,h2,h3⟩:=Rh sz n (cs.drop sz) (by rw[uV];omega);refine⟨?_,by simp[qG,h2],?_⟩
  ·intro c hc;simp only[qG,oR] at hc;rcases hc with rfl|hc
   ·rw[tX];omega
   ·exact h1 c hc
  ·intro i j c x hi hj;cases i with
   |zero=>
    simp only[qG,List.getElem?_cons_zero,iZ] at hi;subst hi;rw[Mh] at hj;split at hj
    ·simpa using hj
    ·cases hj
   |succ i=>
    simp only[qG,List.getElem?_cons_succ] at hi;have:=h3 i j c x hi hj;rw[Hc] at this;rw[<-this];congr 1;rw[mA];omega
def Qs (place:Nat->Option (Nat×Nat)):∀(parts:List (Nat×V)) (cs cs':List V),uI place cs parts=some cs'->cs'.length=cs.length
 |[],cs,cs',h=>by simp[uI] at h;rw[h]
 |(i,v)::r,cs,cs',h=>by
  simp only[uI] at h;split at h
  ·split at h
   ·rename_i hc;rw[Qs place r _ _ h,sT];simp only[bH,tX,uV];omega
   ·cases h
  ·cases h
def Xl (hr:cW n0 G be st a w) {o:Oper} {t e:TypeId} {len:Nat} {parts:Array (Nat×Operand)} (ho:o.op= .buildSlice t len parts) {d de:iC} (hd:bT P t=some d) (hfs:d.shape= .slice e) (hde:bT P e=some de) {cs:List V}
 (hpos:0<len*de.size) (hsmall:len*de.size<=2^24)
 (h:uI (fun i=>some (i*de.size,de.size)) ((List.range (len*de.size)).map fun i=>V.rK (de.zero.getD (i%de.size) undef)) (parts.toList.map fun x=>(x.1,st.eval x.2))=some cs):cX P n0 G be st a w o (.slice de.size (qG de.size len cs)):=by
 obtain⟨i,u,z,hi,hu,hz,h1,h2,h3,h4,h5⟩:=gE hd;obtain⟨ie,ue,ze,hie,hue,hze,k1,k2,k3,k4,k5⟩:=gE hde;obtain⟨hzl,hz1⟩:=Ea hde;obtain rfl:=tZ (hfs.symm.trans h5);have hzs:ze.cells.size=de.size:=by rw[<-hzl,k3];simp
 have hrow:((Array.range (len*ie.size)).map (ze.cells[· %ze.cells.size]!)).toList=(List.range (len*de.size)).map fun i=>de.zero.getD (i%de.size) undef:=by
  rw[Array.toList_map,Array.toList_range,<-k1];apply Ha;intro i hi;have hp:0<de.size:=by rcases Mg de.size with e|e;rw[e] at hpos;simp at hpos;exact e
  have:i%de.size<ze.cells.size:=by rw[hzs];exact Nat.mod_lt _ hp
  rw[hzs,getElem!_pos ze.cells _ this,k3,fR,fH (by simpa using this)];simp
 have hzr:bZ G ((List.range (len*de.size)).map fun i=>V.rK (de.zero.getD (i%de.size) undef)) ((Array.range (len*ie.size)).map (ze.cells[· %ze.cells.size]!)).toList:=by
  rw[hrow];have:=Hl G ((List.range (len*de.size)).map fun i=>de.zero.getD (i%de.size) undef);rwa[List.map_map] at this
 have hone:∀x∈((Array.range (len*ie.size)).map (ze.cells[· %ze.cells.size]!)).toList,x.oneCell'=true:=by
  rw[hrow];intro x hx;obtain⟨i,hi,rfl⟩:=qB.1 hx;have hp:0<de.size:=by rcases Mg de.size with e|e;rw[e] at hpos;simp at hpos;exact e
  have:i%de.size<de.zero.length:=by rw[hzl];exact Nat.mod_lt _ hp
  rw[fR,fH this];exact hz1 _ (sM this)
 obtain⟨ccs,hf,hrep,hone'⟩:=My (G:=G) (be:=be) (loc:=st.loc) _ _ (parts.toList.map fun x=>(x.1,a.eval x.2)) _ _ _ h hzr hone (by simp) (Rk hr parts);have hlen:cs.length=len*de.size:=by rw[Qs _ _ _ _ h];simp
 obtain⟨c1,c2,c3⟩:=Rh de.size len cs hlen;obtain⟨hr',hx'⟩:=hr.Xf ccs e;have hrun:(execOp a.eval o).run P w= .ok (.value (.slice (some ⟨w.heap.size,0,none⟩) len len)) (w.alloc (.cells ccs e)):=by
  unfold execOp;have:=run_buildSlice (P:=P) w t e len (parts.map fun(i,x)=>(i,a.eval x)) ccs ie ze hu hie hze (by rw[<-k1];omega) (by rw[<-k1];omega) (by rw[<-k1] at*;simpa using hf);simp only[ho,Sem.run_bind,this,Result.andThen_ok,Sem.run_pure]
 refine⟨_,_,_,hrun,hr',hx',?_⟩;have hml:len<=maxLen:=by
  have:len<=len*de.size:=Nat.le_mul_of_pos_right _ (by rcases Mg de.size with e|e;rw[e] at hpos;simp at hpos;exact e);unfold maxLen;omega
 have hsz:ccs.size=len*de.size:=by rw[<-hlen,hrep.1];simp
 have:=bJ.slice (G:=G.freeze w.heap.size ccs) de.size (qG de.size len cs) w.heap.size 0 len (fun k=>ccs.getD k undef) c1 (by omega) hml
  (fun k hk=>by rw[c2] at hk;simp[bC.freeze,oQ (show k<ccs.size by omega)])
  (fun i j c x hi hj=>by
   have hx:=c3 i j c x hi hj;have hlt:i*de.size+j<ccs.size:=by rw[hsz,<-hlen];exact(pB.1 hx).1
   have:=hrep.2 _ x (ccs[i*de.size+j]) hx (by rw[Array.getElem?_toList];exact oQ hlt);simp[hlt];exact this.mono hx'.le)
  (fun k hk=>by
   rw[c2] at hk;have hlt:k<ccs.size:=by omega
   simp[hlt];exact hone' _ (by simp))
 rw[c2] at this;exact this
end
section
variable {P:Program} {n0:nS} {G:bC} {be:Nat->Option Nat} {st:St} {a:Act} {w:World}
def Tp (hr:cW n0 G be st a w) {x:Operand} {t off:Nat} (h:st.eval x= .loc t off):∃b,be t=some b∧a.eval x= .pointer (some ⟨b,off,none⟩):=by
 have:=hr.eval x;rw[h] at this;exact this.2
def aBc (hr:cW n0 G be st a w) {x:Operand} {cs:List V} {off:Nat} (h:st.eval x= .elt cs off):
 ∃b o,∃vs:List Value,a.eval x= .pointer (some ⟨b,o+off,none⟩)∧bZ G cs vs∧w.rangeAt b o vs∧(∀(j:Nat) v,vs[j]? =some v->G.F b (o+j)=some v)∧∀v∈vs,v.oneCell'=true:=by
 have:=hr.eval x;rw[h] at this;generalize hv:a.eval x=v at this;cases (show bJ G (.elt cs off) v from this) with
 |elt _ _ b o cells h1 h2 h3=>
  have key:∀(j:Nat) v,((List.range cs.length).map cells)[j]? =some v->v=cells j∧∃c,cs[j]? =some c:=by
   intro j v hv;rw[qQ] at hv;by_cases hj:j<cs.length
   ·rw[Hb hj] at hv;exact⟨(eS hv).symm,_,fH hj⟩
   ·rw[Gy (by simpa using hj)] at hv;cases hv
  refine⟨b,o,(List.range cs.length).map cells,rfl,⟨by simp,fun j c v hc hv=>?_⟩,fun j v hv=>?_,fun j v hv=>?_,fun v hv=>?_⟩
  ·obtain⟨rfl,_⟩:=key j v hv;exact h2 j c hc
  ·obtain⟨rfl,c,hc⟩:=key j v hv;exact hr.hr.dO _ _ _ (h1 j c hc)
  ·obtain⟨rfl,c,hc⟩:=key j v hv;exact h1 j c hc
  ·obtain⟨i,hi,rfl⟩:=List.mem_iff_getElem.1 hv;obtain⟨e,c,hc⟩:=key i _ (fH hi);rw[e];exact h3 i c hc
def LU (hr:cW n0 G be st a w) {o:Oper} {t:TypeId} {x:Operand} (ho:o.op= .load t x) {d:iC} (hd:bT P t=some d) {b off:Nat} (hx:st.eval x= .loc b off) {cs:List V} {ty:TypeId} (hb:st.loc b=some (cs,ty)) {v:V} (h:rd d cs off=some v):
 cX P n0 G be st a w o v:=by
 obtain⟨bl,h1,h2,⟨ccs,h3,h4,h5⟩,h6⟩:=hr.loc b cs ty hb;obtain⟨bl',h1',hv⟩:=Tp hr hx;obtain rfl:bl'=bl:=eS (h1'.symm.trans h1);obtain⟨cv,hrun,hrep⟩:=Ix (P:=P) (w:=w) (b:=bl') (o:=0) h4 (fun j v hv=>by rw[kH,cell_of_row w bl' j ccs ty _ h3];simpa using hv) hd h;refine cX.same hr (cv:=cv) ?_ (eE.kF hrep);rw[kH] at hrun;unfold execOp;simp only[ho,hv,Sem.run_bind,hrun,Result.andThen_ok,Sem.run_pure]
def LV (hr:cW n0 G be st a w) {o:Oper} {t:TypeId} {x:Operand} (ho:o.op= .load t x) {d:iC} (hd:bT P t=some d) {cs:List V} {off:Nat} (hx:st.eval x= .elt cs off) {v:V} (h:rd d cs off=some v):
 cX P n0 G be st a w o v:=by
 obtain⟨b,o',vs,hv,h1,h2,_⟩:=aBc hr hx;obtain⟨cv,hrun,hrep⟩:=Ix (P:=P) h1 h2 hd h;refine cX.same hr (cv:=cv) ?_ (eE.kF hrep);unfold execOp;simp only[ho,hv,Sem.run_bind,hrun,Result.andThen_ok,Sem.run_pure]
def MV {s:TypeId} {d:iC} (hd:bT P s=some d) {fs:List (Nat×Nat×Bool)} (hfs:d.shape= .struct fs) {k off size:Nat} {ag:Bool} (hk:fs[k]? =some (off,size,ag)) (hs:size≠0) (b o:Nat) (w:World):
 (Instr.fieldAt s (.pointer (some ⟨b,o,none⟩)) k).run P w= .ok (.pointer (some ⟨b,o+off,none⟩)) w:=by
 obtain⟨i,u,z,hi,hu,hz,h1,h2,h3,h4,h5⟩:=gE hd;obtain⟨f,rfl,hff⟩:=Hk (hfs.symm.trans h5);obtain⟨fd,i',u',hf1,hf2,hf3,hf4⟩:=Qt _ _ hff k _ hk;cases hf4
 have hf1':f[k]? =some fd:=by simpa using hf1
 simp[Instr.fieldAt,run_underlying hu,hf1',Instr.sureAddr,fieldPlace,sizeOf,typeInfo,hf2,hs,Ca]
def LL (hr:cW n0 G be st a w) {o:Oper} {s:TypeId} {x:Operand} {k:Nat} (ho:o.op= .fieldAddr s x k) {d:iC} (hd:bT P s=some d) {fs:List (Nat×Nat×Bool)} (hfs:d.shape= .struct fs) {off size:Nat} {ag:Bool} (hk:fs[k]? =some (off,size,ag)) (hs:size≠0):
 (∀t o',st.eval x= .loc t o'->cX P n0 G be st a w o (.loc t (o'+off)))∧(∀cs o',st.eval x= .elt cs o'->cX P n0 G be st a w o (.elt cs (o'+off)))∧(∀b o',st.eval x= .ptr b o'->cX P n0 G be st a w o (.ptr b (o'+off))):=by
 have run:∀b o',a.eval x= .pointer (some ⟨b,o',none⟩)->(execOp a.eval o).run P w= .ok (.value (.pointer (some ⟨b,o'+off,none⟩))) w:=by
  intro b o' hv;unfold execOp;simp only[ho,hv,Sem.run_bind,MV hd hfs hk hs b o' w,Result.andThen_ok,Sem.run_pure]
 refine⟨fun t o' hx=>?_,fun cs o' hx=>?_,fun b o' hx=>?_⟩
 ·have hh:=hr.eval x;rw[hx] at hh;obtain⟨hne,b,hb,hv⟩:=hh;exact cX.same hr (run b o' hv) ⟨hne,b,hb,rfl⟩
 ·have hh:=hr.eval x;rw[hx] at hh;generalize hv:a.eval x=v at hh;cases (show bJ G (.elt cs o') v from hh) with
  |elt _ _ b ob cells h1 h2 h3=>
   have:=run b _ hv;rw[Nat.add_assoc] at this;exact cX.same hr this (bJ.elt cs (o'+off) b ob cells h1 h2 h3)
 ·have hh:=hr.eval x;rw[hx] at hh;generalize hv:a.eval x=v at hh;cases (show bJ G (.ptr b o') v from hh)
  exact cX.same hr (run b o' hv) (bJ.ptr _ _)
def UD {t:TypeId} {i:TypeInfo} {u:TypeDesc} (hi:P.info? t=some i) (hu:P.underlying t=some u) {cs:List V} {ccs:Array Value} (hr:bZ G cs ccs.toList) {off:Nat} {v:V}
 (h:(if wV P t then(if off+i.size<=cs.length then some (.agg ((cs.drop off).take i.size)) else none) else cs[off]?)=some v) (w:World):∃cv,(part t ccs off).run P w= .ok cv w∧bJ G v cv:=by
 unfold part;by_cases ha:wV P t=true
 ·rw[if_pos ha] at h;split at h
  ·cases h
   refine⟨.agg (ccs.extract off (off+i.size)),?_,?_⟩
   ·simp[Rs hu,ha,sizeOf,typeInfo,hi]
   ·have:=(hr.drop off).take i.size;refine bZ.agg ?_;simpa[Array.toList_extract,List.extract_eq_take_drop] using this
  ·cases h
 ·rw[if_neg ha] at h;obtain⟨cv,hc,hrep⟩:=hr.get h;refine⟨cv,?_,hrep⟩;have hc':ccs[off]? =some cv:=by simpa using hc
  simp[Rs hu,ha,hc']
def PS (hr:cW n0 G be st a w) {o:Oper} {s:TypeId} {x:Operand} {k:Nat} (ho:o.op= .field s x k) {d:iC} (hd:bT P s=some d) {fs:List (Nat×Nat×Bool)} (hfs:d.shape= .struct fs) {off size:Nat} {ag:Bool} (hk:fs[k]? =some (off,size,ag))
 {cs:List V} (hx:st.eval x= .agg cs) {v:V} (h:(if ag then(if off+size<=cs.length then some (.agg ((cs.drop off).take size)) else none) else cs[off]?)=some v):cX P n0 G be st a w o v:=by
 obtain⟨i,u,z,hi,hu,hz,h1,h2,h3,h4,h5⟩:=gE hd;obtain⟨f,rfl,hff⟩:=Hk (hfs.symm.trans h5);obtain⟨fd,i',u',hf1,hf2,hf3,hf4⟩:=Qt _ _ hff k _ hk;cases hf4
 have hf1':f[k]? =some fd:=by simpa using hf1
 have hh:=hr.eval x;rw[hx] at hh;generalize hv:a.eval x=v' at hh;cases (show bJ G (.agg cs) v' from hh) with
 |agg _ ccs hl hc=>
  obtain⟨cv,hrun,hrep⟩:=UD (P:=P) hf2 hf3 (sP hl hc) h w;refine cX.same hr (cv:=cv) ?_ (eE.kF hrep);unfold execOp;simp[ho,hv,Instr.field,run_underlying hu,hf1',asAgg,hrun]
def LK (hr:cW n0 G be st a w) {o:Oper} {t e:TypeId} {x i:Operand} (ho:o.op= .indexAddr t x i) {d de:iC} (hd:bT P t=some d) (hfs:d.shape= .slice e) (hde:bT P e=some de) {sz:Nat} {es:List (List V)} (hx:Ab (st.eval x)=some (sz,es))
 {k:IntKind} {n:Int} (hi:st.eval i= .base (.int k n)) (hsz:sz=de.size) (h0:0<=n∧n<es.length):cX P n0 G be st a w o (.elt (es.getD n.toNat []) 0):=by
 obtain⟨i',u,z,hi',hu,hz,h1,h2,h3,h4,h5⟩:=gE hd;obtain⟨ie,ue,ze,hie,hue,hze,k1,k2,k3,k4,k5⟩:=gE hde;obtain rfl:=tZ (hfs.symm.trans h5);have hn:=gT hr hi;have hs:=Yp (hr.eval x) hx;have hlt:n.toNat<es.length:=by omega
 generalize hv:a.eval x=v at hs;cases hs with
 |slice0=>simp at hlt
 |slice _ _ b o' cap cells c1 c2 c3 c4 c5 c6=>
  have hes:es[n.toNat]? =some es[n.toNat]:=fH hlt;have hg:es.getD n.toNat []=es[n.toNat]:=by rw[fR,hes];rfl
  have hlen:es[n.toNat].length=sz:=c1 _ (sM hlt);have hk:∀j,j<sz->n.toNat*sz+j<es.length*sz:=fun j hj=>by
   have:(n.toNat+1)*sz<=es.length*sz:=rL _ hlt;rw[mA] at this;omega
  refine cX.same hr (cv:=.pointer (some ⟨b,o'+n.toNat*sz,none⟩)) ?_ ?_
  ·unfold execOp;have hel:(es.length:Int)=(es.length:Int):=rfl;simp[ho,hv,hn,Instr.indexAt,asIntOf,run_underlying hu,h0.1,h0.2,sizeOf,typeInfo,hie,<-k1,<-hsz,Ca]
  ·rw[hg];have:=bJ.elt (G:=G) es[n.toNat] 0 b (o'+n.toNat*sz) (fun j=>cells (n.toNat*sz+j))
    (fun j c hj=>by
     have:=c4 (n.toNat*sz+j) (hk j (by rw[<-hlen];exact(pB.1 hj).1));rwa[<-Nat.add_assoc] at this)
    (fun j c hj=>c5 n.toNat j _ c hes hj)
    (fun j c hj=>c6 _ (hk j (by rw[<-hlen];exact(pB.1 hj).1)))
   exact eE.kF (by simpa using this)
def MG (hr:cW n0 G be st a w) {o:Oper} {t e:TypeId} {x i:Operand} (ho:o.op= .indexAddr t x i) {d de:iC} (hd:bT P t=some d) (hfs:d.shape= .slice e) (hde:bT P e=some de) {v:V} {side:Prop} (h:Ss de (st.eval x) (st.eval i)=some (v,side)) (hs:side):cX P n0 G be st a w o v:=by
 obtain⟨i',u,z,hi',hu,hz,h1,h2,h3,h4,h5⟩:=gE hd;obtain⟨ie,ue,ze,hie,hue,hze,k1,k2,k3,k4,k5⟩:=gE hde;obtain rfl:=tZ (hfs.symm.trans h5);unfold Ss at h;split at h
 ·rename_i b o' len cap k n hx hi;cases h
  have hn:=gT hr hi;have hv:=gT hr hx;refine cX.same hr (cv:=.pointer (some ⟨b,o'+n.toNat*de.size,none⟩)) ?_ (eE.kF (.ptr _ _));unfold execOp;simp[ho,hv,hn,Instr.indexAt,asIntOf,run_underlying hu,hs.1,hs.2,sizeOf,typeInfo,hie,<-k1,Ca]
 ·cases h
def PR (hr:cW n0 G be st a w) {o:Oper} {t:TypeId} {x i:Operand} (ho:o.op= .index t x i) {d:iC} (hd:bT P t=some d) (hfs:d.shape= .string) {s:ByteArray} (hx:st.eval x= .base (.string s))
 {k:IntKind} {n:Int} (hi:st.eval i= .base (.int k n)) (h0:0<=n∧n<s.size):cX P n0 G be st a w o (.base (.int .u8 (s.data.toList.getD n.toNat 0).toNat)):=by
 obtain⟨i',u,z,hi',hu,hz,h1,h2,h3,h4,h5⟩:=gE hd;obtain rfl:=Bn (hfs.symm.trans h5);have hn:=gT hr hi;have hs:=gT hr hx;have hlt:n.toNat<s.size:=by omega
 refine cX.same hr (cv:=.int .u8 (s.data.toList.getD n.toNat 0).toNat) ?_ (bJ.base _);have e1:s[n.toNat]? =some s[n.toNat]:=by rw[getElem?_pos s n.toNat hlt]
 have e2:s.data.toList.getD n.toNat 0=s[n.toNat]:=by
  rw[fR,fH (by simpa using hlt)];rfl
 unfold execOp;have e3:(s.data[n.toNat]?.getD 0)=s[n.toNat]:=by rw[<-e2];simp[fR]
 simp[ho,hn,hs,Instr.index,asIntOf,run_underlying hu,h0.1,e1,e3]
def MH (hr:cW n0 G be st a w) {o:Oper} {x:Operand} {k:Nat} (ho:o.op= .extract x k) {vs:List V} (hx:st.eval x= .tuple vs) {v:V} (h:vs[k]? =some v):cX P n0 G be st a w o v:=by
 have hh:=hr.eval x;rw[hx] at hh;generalize hv:a.eval x=v' at hh;cases (show bJ G (.tuple vs) v' from hh) with
 |tuple _ ccs hl hc=>
  obtain⟨cv,h1,h2⟩:=(sP hl hc).get h;refine cX.same hr (cv:=cv) ?_ (eE.kF h2);have h1':ccs[k]? =some cv:=by simpa using h1
  unfold execOp;simp[ho,hv,Instr.extract,h1']
def CG (hr:cW n0 G be st a w) {o:Oper} {x:Operand} {args:Array Operand} {ts:Array TypeId} (ho:o.op= .call { callee:=.builtin .len,args:=args,argTypes:=ts }) {t:TypeId} (ht:ts[0]? =some t) (hxx:args[0]? =some x) {d:iC} (hd:bT P t=some d):
 (∀e n,d.shape= .slice e->xL (st.eval x)=some n->cX P n0 G be st a w o (.base (.int .i64 n)))∧(∀s,d.shape= .string->st.eval x= .base (.string s)->cX P n0 G be st a w o (.base (.int .i64 s.size))):=by
 obtain⟨i',u,z,hi',hu,hz,h1,h2,h3,h4,h5⟩:=gE hd;have hargs:(args.map a.eval)[0]? =some (a.eval x):=by simp[hxx]
 refine⟨fun e n hs hn=>?_,fun s hs hx=>?_⟩
 ·obtain rfl:=tZ (hs.symm.trans h5);obtain⟨b,cap,hv⟩:=Mw (hr.eval x) hn;refine cX.same hr (cv:=.int .i64 n) ?_ (bJ.base _);rw[hv] at hargs;unfold execOp;simp[ho,resolve,invoke,builtin,Builtin.len_,ht,hxx,hv,run_underlying hu,goInt]
 ·obtain rfl:=Bn (hs.symm.trans h5);have hv:=gT hr hx;refine cX.same hr (cv:=.int .i64 s.size) ?_ (bJ.base _);unfold execOp;simp[ho,resolve,invoke,builtin,Builtin.len_,ht,hxx,hv,run_underlying hu,goInt]
def DS (hr:cW n0 G be st a w) {o:Oper} {mx:Bool} {args:Array Operand} {ts:Array TypeId} (ho:o.op= .call { callee:=.builtin (if mx then .max else .min),args:=args,argTypes:=ts }) {v:V} {side:Prop} (h:vN mx st args=some (v,side)):cX P n0 G be st a w o v:=by
 unfold vN at h;split at h
 ·rename_i x y hl;split at h
  ·rename_i k n k' m hx hy;cases h
   have h1:=gT hr hx;have h2:=gT hr hy;have ha:args.map a.eval= #[.int k n,.int k' m]:=by
    obtain⟨l⟩:=args;simp only at hl;subst hl;simp[h1,h2]
   refine cX.same hr (cv:=.int k (if mx then(if n<m then m else n) else(if m<n then m else n))) ?_ (bJ.base _);unfold execOp;cases mx
   ·simp only[ho,resolve,Sem.run_bind,Sem.run_pure,Result.andThen_ok,invoke,Bool.false_eq_true,if_false];rw[ha];simp[builtin,run_min_int2,Sem.run_bind]
   ·simp only[ho,resolve,Sem.run_bind,Sem.run_pure,Result.andThen_ok,invoke,if_true];rw[ha];simp[builtin,run_max_int2,Sem.run_bind]
  ·cases h
 ·cases h
def Mj (hr:cW n0 G be st a w) {o:Oper} {x:Operand} (ho:o.op= .nilCheck x) {v:V} (hx:st.eval x=v) (hv:(∃b k,v= .ptr b k)∨(∃t k,v= .loc t k)∨(∃cs k,v= .elt cs k)∨(∃f c d,v= .func f c d)):cX P n0 G be st a w o v:=by
 have hh:=hr.eval x;rw[hx] at hh;refine cX.same hr (cv:=a.eval x) ?_ hh;unfold execOp;rcases hv with⟨b,k,rfl⟩|⟨t,k,rfl⟩|⟨cs,k,rfl⟩|⟨f,c,d,rfl⟩
 ·generalize hv:a.eval x=v at hh;cases (show bJ G (.ptr b k) v from hh)
  simp[ho,hv]
 ·obtain⟨b,_,hv⟩:=Tp hr hx;simp[ho,hv]
 ·generalize hv:a.eval x=v at hh;cases (show bJ G (.elt cs k) v from hh)
  simp[ho,hv]
 ·generalize hv:a.eval x=v at hh;cases (show bJ G (.func f c d) v from hh)
  simp[ho,hv]
def WF (hr:cW n0 G be st a w) {o:Oper} {op:BinOp} {t t':TypeId} {x y:Operand} (ho:o.op= .binOp op t x y t') {v:V} {side:Prop} (h:Pt op (st.eval x) (st.eval y)=some (v,side)) (hs:side):cX P n0 G be st a w o v:=by
 obtain⟨vx,vy,cv,hx,hy,rfl,hrun⟩:=VW (P:=P) h hs t x y w;refine cX.same hr (cv:=cv) ?_ (bJ.base _);unfold execOp;simp only[ho,gT hr hx,gT hr hy];rw[Sem.run_bind,hrun];rfl
def Xt (hr:cW n0 G be st a w) {o:Oper} {op:BinOp} {t t':TypeId} {x y:Operand} (ho:o.op= .binOp op t x y t') {p q:Bool} (hx:st.eval x= .base (.bool p)) (hy:st.eval y= .base (.bool q)) {d:iC} (hd:bT P t=some d) (hs:d.shape= .bool):
 (op= .eql->cX P n0 G be st a w o (.base (.bool (p==q))))∧(op= .neq->cX P n0 G be st a w o (.base (.bool (!(p==q))))):=by
 obtain⟨i',u,z,hi',hu,hz,h1,h2,h3,h4,h5⟩:=gE hd;obtain rfl:=NS (hs.symm.trans h5);constructor<;>rintro rfl<;>refine cX.same hr (cv:=.bool _) ?_ (bJ.base _)<;>unfold execOp<;>simp[ho,gT hr hx,gT hr hy,eqGuard_at_bool,run_eql_bool w t p q hu,run_neq_bool w t p q hu]
def Mk (hr:cW n0 G be st a w) {o:Oper} {op:BinOp} {t t':TypeId} {x y:Operand} (ho:o.op= .binOp op t x y t') (hy:st.eval y= .base .nilFunc) {d:iC} (hd:bT P t=some d) (hs:d.shape= .func):
 ((∃f c e,st.eval x= .func f c e)->(op= .eql->cX P n0 G be st a w o (.base (.bool false)))∧(op= .neq->cX P n0 G be st a w o (.base (.bool true))))∧
 (st.eval x= .base .nilFunc->(op= .eql->cX P n0 G be st a w o (.base (.bool true)))∧(op= .neq->cX P n0 G be st a w o (.base (.bool false)))):=by
 obtain⟨i',u,z,hi',hu,hz,h1,h2,h3,h4,h5⟩:=gE hd;have hf:qT P u= .func:=by rw[<-h5];exact hs
 refine⟨?_,fun hx=>?_⟩
 ·rintro⟨f,c,e,hx⟩;have hh:=hr.eval x;rw[hx] at hh;generalize hv:a.eval x=v at hh;cases (show bJ G (.func f c e) v from hh) with
  |func _ _ _ cf cc=>
   obtain⟨r1,r2,_,_⟩:=Xu (P:=P) t u hu hf (.func f) cf cc w;constructor<;>rintro rfl<;>refine cX.same hr (cv:=.bool _) ?_ (bJ.base _)<;>unfold execOp<;>simp[ho,hv,gT hr hy,eqGuard_at_func,r1,r2]
 ·obtain⟨_,_,r1,r2⟩:=Xu (P:=P) t u hu hf (.func 0) #[] #[] w;constructor<;>rintro rfl<;>refine cX.same hr (cv:=.bool _) ?_ (bJ.base _)<;>unfold execOp<;>simp[ho,gT hr hx,gT hr hy,eqGuard_at_nilFunc,r1,r2]
def UP {G:bC} {be:Nat->Option Nat} {loc:Nat->Option (List V×TypeId)} {c:V} {v:Value} {r:Bool} (h:eE G be loc c v) (hr:Po c=some r):∃a n k,v= .slice a n k∧a.isNone=r:=by
 cases c<;>simp only[Po] at hr<;>try (cases hr;done)
 case nil=>cases hr;cases (show bJ G .nil v from h);exact⟨_,_,_,rfl,rfl⟩
 case base x=>
  cases x<;>simp only at hr<;>try (cases hr;done)
  cases hr
  cases (show bJ G (.base _) v from h)
  exact⟨_,_,_,rfl,rfl⟩
 case slice sz es=>
  cases es<;>simp only at hr<;>try (cases hr;done)
  cases hr
  cases (show bJ G (.slice sz _) v from h) with
  |slice=>exact⟨_,_,_,rfl,rfl⟩
def Xx (hr:cW n0 G be st a w) {o:Oper} {op:BinOp} {t t':TypeId} {x y:Operand} (ho:o.op= .binOp op t x y t') (hy:st.eval y= .nil) {r:Bool} (hx:Po (st.eval x)=some r) {d:iC} (hd:bT P t=some d) {e:TypeId} (hs:d.shape= .slice e):
 (op= .eql->cX P n0 G be st a w o (.base (.bool r)))∧(op= .neq->cX P n0 G be st a w o (.base (.bool (!r)))):=by
 obtain⟨i',u,z,hi',hu,hz,h1,h2,h3,h4,h5⟩:=gE hd;obtain rfl:=tZ (hs.symm.trans h5);obtain⟨ad,n,k,hv,rfl⟩:=UP (hr.eval x) hx;have hyv:a.eval y= .slice none 0 0:=by
  have hh:=hr.eval y;rw[hy] at hh;generalize a.eval y=q at hh;cases (show bJ G .nil q from hh);rfl
 have r1:=Go.run_eql_slice_nil (P:=P) w t e ad n k hu;have r2:=Go.run_neq_slice_nil (P:=P) w t e ad n k hu;constructor<;>rintro rfl<;>refine cX.same hr (cv:=.bool _) ?_ (bJ.base _)<;>unfold execOp<;>simp[ho,hv,hyv,eqGuard_at_slice,r1,r2]
def Xo {t:TypeId} {u:TypeDesc} (hu:P.underlying t=some u) (hn:(∃k,u= .int k)∨u= .bool∨u= .string) {xs:Array Value} {off:Nat} {v:Value} (hx:xs[off]? =some v) (w:World):(part t xs off).run P w= .ok v w:=by
 rcases hn with⟨k,rfl⟩|rfl|rfl<;>simp[part,isAgg,run_underlying hu,hx]
def Xw {G:bC} (w:World) (d:Nat) (xs ys:Array Value):∀(fs:List Field) (k:Nat) (ks:List Nat) (cs cs':List V) (r:Bool),(fs.mapM fun f=>match P.underlying f.type with
 |some .bool=>some 0
 |some (.int _)=>some 1
 |some .string=>some 2
 |_=>none)=some ks->(fs.zipIdx k).all (fun x=>x.1.name != "_"&&x.1.offset==x.2)=true->uA ks cs cs'=some r->bZ G cs (xs.toList.drop k)->bZ G cs' (ys.toList.drop k)->
 (Op.eqFields (d+1) xs ys fs).run P w= .ok r w
 |[],k,ks,cs,cs',r,h1,h2,h3,h4,h5=>by
  simp at h1;subst h1;cases cs<;>cases cs'<;>simp[uA] at h3
  subst h3;simp[Op.eqFields]
 |f::fs,k,ks,cs,cs',r,h1,h2,h3,h4,h5=>by
  rw[List.mapM_cons] at h1;simp only[bind,Qo,pure,iZ] at h1;obtain⟨n,hn,ks',hks,rfl⟩:=h1;rw[List.zipIdx_cons,tY] at h2;simp only[dI,bne_iff_ne,eM] at h2;obtain⟨⟨hname,hoff⟩,h2⟩:=h2;have go:∀(x y:Value) (c c':V) (rs rs':List V) (b:Bool) (u:TypeDesc),cs=c::rs->cs'=c'::rs'->c= .base x->c'= .base y->P.underlying f.type=some u->((∃k,u= .int k)∨u= .bool∨u= .string)->(∀w,(Op.equalIn (d+1) f.type x y).run P w= .ok b w)->
   (uA ks' rs rs').map (b&& ·)=some r->(Op.eqFields (d+1) xs ys (f::fs)).run P w= .ok r w:=by
   intro x y c c' rs rs' b u e1 e2 e3 e4 hu hk he hm;subst e1;subst e2;subst e3;subst e4;obtain⟨v,vs,hv,hv1,hv2⟩:=h4.sJ;obtain⟨v',vs',hv',hv1',hv2'⟩:=h5.sJ;cases hv1
   cases hv1'
   have g1:xs[f.offset]? =some x:=by
    rw[hoff];have:=congrArg (·[0]?) hv
    simpa[Hc] using this
   have g2:ys[f.offset]? =some y:=by
    rw[hoff];have:=congrArg (·[0]?) hv'
    simpa[Hc] using this
   have d1:xs.toList.drop (k+1)=vs:=by rw[<-List.drop_drop,hv];rfl
   have d2:ys.toList.drop (k+1)=vs':=by rw[<-List.drop_drop,hv'];rfl
   cases hrec:uA ks' rs rs' with
   |none=>rw[hrec] at hm;cases hm
   |some r'=>
    rw[hrec] at hm;have hm':(b&&r')=r:=by simpa using hm
    have ih:=Xw w d xs ys fs (k+1) ks' rs rs' r' hks h2 hrec (by rw[d1];exact hv2) (by rw[d2];exact hv2');simp only[Op.eqFields,hname,ne_eq,eJ,if_true,Sem.run_bind,Xo hu hk g1,Xo hu hk g2,Result.andThen_ok,he];cases b
    ·simp at hm';subst hm';simp
    ·simp at hm';subst hm';simpa using ih
  split at hn
  ·rename_i hu;cases hn
   unfold uA at h3;split at h3<;>first|(cases h3;done)|skip
   all_goals first|(rename_i hh;cases hh;done)|skip
   rename_i ks2 a rs b rs' e1;cases e1
   exact go (.bool a) (.bool b) _ _ rs rs' (a==b) _ rfl rfl rfl rfl hu (.inr (.inl rfl)) (fun w=>run_equalIn_bool w d _ _ _ hu) h3
  ·rename_i q hu;cases hn
   unfold uA at h3;split at h3<;>first|(cases h3;done)|skip
   all_goals first|(rename_i hh;cases hh;done)|skip
   rename_i ks2 k0 a rs k1 b rs' e1;cases e1
   split at h3
   ·rename_i hk;subst hk;exact go (.int k0 a) (.int k0 b) _ _ rs rs' (a==b) _ rfl rfl rfl rfl hu (.inl ⟨q,rfl⟩) (fun w=>run_equalIn_int w d _ _ _ _ _ hu) h3
   ·cases h3
  ·rename_i hu;cases hn
   unfold uA at h3;split at h3<;>first|(cases h3;done)|skip
   all_goals first|(rename_i hh;cases hh;done)|skip
   rename_i ks2 a rs b rs' e1;cases e1
   exact go (.string a) (.string b) _ _ rs rs' (a.toList==b.toList) _ rfl rfl rfl rfl hu (.inr (.inr rfl)) (fun w=>run_equalIn_string w d _ _ _ hu) h3
  ·cases hn
def Xy (hr:cW n0 G be st a w) {o:Oper} {op:BinOp} {t t':TypeId} {x y:Operand} (ho:o.op= .binOp op t x y t') {cs cs':List V} (hx:st.eval x= .agg cs) (hy:st.eval y= .agg cs') {ks:List Nat} (hk:Pr P t=some ks) {r:Bool} (hc:uA ks cs cs'=some r):
 (op= .eql->cX P n0 G be st a w o (.base (.bool r)))∧(op= .neq->cX P n0 G be st a w o (.base (.bool !r))):=by
 have h1:=hr.eval x;have h2:=hr.eval y;rw[hx] at h1;rw[hy] at h2;generalize hvx:a.eval x=vx at h1;generalize hvy:a.eval y=vy at h2;cases (show bJ G (.agg cs) vx from h1) with
 |agg _ xs l1 m1=>
 cases (show bJ G (.agg cs') vy from h2) with
 |agg _ ys l2 m2=>
 unfold Pr at hk;split at hk
 ·rename_i fs hu;split at hk
  ·rename_i hcond;obtain⟨c1,c2,c3⟩:=hcond;have hfs:P.fieldsOf t=fs:=by unfold Program.fieldsOf;rw[hu]
   have hrun:(Op.equalIn 10000 t (.agg xs) (.agg ys)).run P w= .ok r w:=by
    rw[show(10000:Nat)=9999+1 from rfl,run_equalIn_struct w 9999 t xs ys (by rw[hfs];exact hu) c1,hfs];exact Xw (G:=G) w 9998 xs ys fs.toList 0 ks cs cs' r hk (by simpa using c3) hc (by simpa using sP l1 m1) (by simpa using sP l2 m2)
   constructor<;>rintro rfl<;>refine cX.same hr (cv:=.bool _) ?_ (bJ.base _)<;>unfold execOp<;>simp only[ho,hvx,hvy,Sem.run_bind,run_eqGuard_agg w _ t x y xs ys c2,Result.andThen_ok,run_eql_struct,run_neq_struct,hrun]<;>rfl
  ·cases hk
 ·cases hk
def DR (hr:cW n0 G be st a w) {o:Oper} {op:UnOp} {t:TypeId} {x:Operand} (ho:o.op= .unOp op t x):(∀b,op= .not->st.eval x= .base (.bool b)->cX P n0 G be st a w o (.base (.bool !b)))∧
 (∀k n,op= .neg->st.eval x= .base (.int k n)->cX P n0 G be st a w o (.base (.int k (k.wrap (0-n))))):=by
 refine⟨fun b hop hx=>?_,fun k n hop hx=>?_⟩<;>subst hop<;>refine cX.same hr (cv:=_) ?_ (bJ.base _)<;>unfold execOp<;>simp[ho,gT hr hx,Op.unary,Op.intArith]
def KW (hr:cW n0 G be st a w) {o:Oper} {s t:TypeId} {x:Operand} (ho:o.op= .convert s t x) {ds dd:iC} (hs:bT P s=some ds) (hd:bT P t=some dd) {k k' k0:IntKind} {n:Int} (h1:ds.shape= .int k0) (h2:dd.shape= .int k') (hx:st.eval x= .base (.int k n)):
 cX P n0 G be st a w o (.base (.int k' (k'.wrap n))):=by
 obtain⟨i,u,z,hi,hu,hz,_,_,_,_,h5⟩:=gE hs;obtain⟨i',u',z',hi',hu',hz',_,_,_,_,h5'⟩:=gE hd;obtain rfl:=Ht (h1.symm.trans h5);obtain rfl:=Ht (h2.symm.trans h5');refine cX.same hr (cv:=.int k' (k'.wrap n)) ?_ (bJ.base _);unfold execOp;simp[ho,gT hr hx,convert,run_underlying hu,run_underlying hu',Conv.intToInt]
def KN (hr:cW n0 G be st a w) {o:Oper} {s t:TypeId} {x:Operand} (ho:o.op= .convert s t x) {ds dd:iC} (hs:bT P s=some ds) (hd:bT P t=some dd) {b:ByteArray} (h1:ds.shape= .string) (h2:dd.shape= .string) (hx:st.eval x= .base (.string b)):
 cX P n0 G be st a w o (.base (.string b)):=by
 obtain⟨i,u,z,hi,hu,hz,_,_,_,_,h5⟩:=gE hs;obtain⟨i',u',z',hi',hu',hz',_,_,_,_,h5'⟩:=gE hd;obtain rfl:=Bn (h1.symm.trans h5);obtain rfl:=Bn (h2.symm.trans h5');refine cX.same hr (cv:=.string b) ?_ (bJ.base _);unfold execOp;simp[ho,gT hr hx,convert,run_underlying hu,run_underlying hu']
def KP (hr:cW n0 G be st a w) {o:Oper} {s t e:TypeId} {x:Operand} (ho:o.op= .convert s t x) {ds dd de:iC} (hs:bT P s=some ds) (hd:bT P t=some dd) {b:ByteArray} (h1:ds.shape= .string) (h2:dd.shape= .slice e) (h3:bT P e=some de) (h4:de.shape= .int .u8) (hx:st.eval x= .base (.string b)) (hb:b.size<=maxLen):
 cX P n0 G be st a w o (.slice 1 ((dZ b).map fun x=>[.base (.int .u8 x)])):=by
 obtain⟨i,u,z,hi,hu,hz,_,_,_,_,h5⟩:=gE hs;obtain⟨i',u',z',hi',hu',hz',_,_,_,_,h5'⟩:=gE hd;obtain⟨i2,u2,z2,hi2,hu2,hz2,_,_,_,_,h52⟩:=gE h3;obtain rfl:=Bn (h1.symm.trans h5);obtain rfl:=tZ (h2.symm.trans h5');obtain rfl:=Ht (h4.symm.trans h52);have hrun:=run_bytes_of_string (P:=P) w s t e b hu hu' hu2;generalize hcap:grownCap w b.size 0 e=cap at hrun;have hc1:b.size<=cap:=by rw[<-hcap];exact grownCap_ge w _ _ _
 have hc2:cap<=maxLen:=by rw[<-hcap];exact grownCap_le_maxLen w _ _ _ hb
 generalize hfr:((bytesRow b cap).size,(bytesRow b cap).size+1)=fr at hrun;have hF:∀o,G.F w.heap.size o=none:=fun o=>by
  cases hq:G.F w.heap.size o with
  |none=>rfl
  |some v=>have:=hr.hr.zO (b:=w.heap.size) (o:=o) (by rw[hq];simp);omega
 have hf:¬dL G st.s w.heap.size:=fun hf=>by have:=hr.hr.zM hf;omega
 have hm:dP w (w.drew.alloc (.cells (bytesRow b cap) e fr)):=(dP.drew w).trans (dP.alloc _ _);have hnew:(w.drew.alloc (.cells (bytesRow b cap) e fr)).heap[w.heap.size]? =some (.cells (bytesRow b cap) e fr):=heap_alloc_new w.drew _;have hr1:=(hr.more hm).freeze hnew hf hF (fun t ht hb=>by have:=hr.Xd ht hb;omega);have hlen:(dZ b).length=b.size:=by unfold dZ;rw[gI,Mf];rfl
 have hcell:∀j,j<b.size->(bytesRow b cap)[j]? =some (.int .u8 ((b.data.toList.getD j 0).toNat:Int)):=fun j hj=>by
  have hj':j<b.data.size:=hj;unfold bytesRow;rw[Xi (by simpa using hj')];have hg:b.data[j]? =some b.data[j]:=oQ hj';simp[fR,hg]
 refine⟨.slice (some ⟨w.heap.size,0,none⟩) b.size cap,_,G.freeze w.heap.size (bytesRow b cap),?_,hr1,?_,?_⟩
 ·unfold execOp;simp only[ho,gT hr hx,Sem.run_bind,hrun,Result.andThen_ok,Sem.run_pure]
 ·refine⟨bC.zN _ hF,hm.size,hm.os,hm.tape,hm.output,fun b hb _=>hm.keep b hb,fun b hb=>.inl hb,fun b' o hb=>?_,fun _ h=>.inl h⟩;by_cases e':b'=w.heap.size
  ·exact .inr (.inr (by omega))
  ·simp[bC.freeze,e'] at hb;exact .inl hb
 ·refine eE.kF ?_;have key:=bJ.slice (G:=G.freeze w.heap.size (bytesRow b cap)) 1 ((dZ b).map fun x=>[V.base (.int .u8 x)]) w.heap.size 0 cap (fun k=>.int .u8 ((b.data.toList.getD k 0).toNat:Int))
   (fun cs hcs=>by obtain⟨y,_,rfl⟩:=qB.1 hcs;rfl) (by rw[gI,hlen];exact hc1) hc2
   (fun k hk=>by
    rw[gI,hlen,Nat.mul_one] at hk;simp only[bC.freeze,if_pos,kH];exact hcell k hk)
   (fun i j cs c hi hj=>by
    rw[qQ] at hi;cases hq:(dZ b)[i]? with
    |none=>rw[hq] at hi;cases hi
    |some y=>
     rw[hq] at hi;cases hi
     cases j with
     |succ j=>simp at hj
     |zero=>
      simp at hj;subst hj;have:y=((b.data.toList.getD i 0).toNat:Int):=by
       unfold dZ at hq;rw[qQ] at hq;cases hz:b.data.toList[i]? with
       |none=>rw[hz] at hq;cases hq
       |some z=>rw[hz] at hq;cases hq;simp[fR,hz]
      rw[this,Nat.mul_one,Nat.add_zero];exact bJ.base _)
   (fun k hk=>rfl)
  rw[gI,hlen] at key;exact key
def SP (p q:ByteArray):(p==q)=(p.toList==q.toList):=by
 cases p with|mk a=>cases q with|mk b=>
 show(a==b)=_;rw[Bool.eq_iff_iff];simp only[eM,ByteArray.toList_eq];exact⟨fun h=>by rw[h],fun h=>xV.1 h⟩
def DT (hr:cW n0 G be st a w) {o:Oper} {t:TypeId} {x:Operand} (ho:o.op= .makeInterface t x) {d:iC} (hd:bT P t=some d) {v:Value} (hx:st.eval x= .base v) (hs:(∃k,d.shape= .int k)∨d.shape= .string):cX P n0 G be st a w o (.base (.iface t v)):=by
 obtain⟨i,u,z,hi,hu,hz,_,_,_,_,h5⟩:=gE hd;refine cX.same hr (cv:=.iface t v) ?_ (bJ.base _);unfold execOp;rcases hs with⟨k,hs⟩|hs
 ·obtain rfl:=Ht (hs.symm.trans h5);simp[ho,gT hr hx,Instr.makeInterface,run_underlying hu]
 ·obtain rfl:=Bn (hs.symm.trans h5);simp[ho,gT hr hx,Instr.makeInterface,run_underlying hu]
def Yj {G:bC}:∀{cs:List V} {vs ws:List Value},Aa cs=some vs->bZ G cs ws->ws=vs
 |[],vs,ws,h,hr=>by cases h;exact hr.Bd
 |c::cs,vs,ws,h,hr=>by
  obtain⟨v,ws',rfl,hv,hr'⟩:=hr.sJ;cases c<;>simp only[Aa] at h<;>first|cases h|skip
  rename_i b;split at h
  ·rename_i l hl;cases h
   cases hv
   rw[Yj hl hr']
  ·cases h
def NJ (hr:cW n0 G be st a w) {o:Oper} {t:TypeId} {x:Operand} (ho:o.op= .makeInterface t x) {d:iC} (hd:bT P t=some d) {cs:List V} (hx:st.eval x= .agg cs) {fs:List (Nat×Nat×Bool)} (hs:d.shape= .struct fs) {vs:List Value} (hb:Aa cs=some vs):cX P n0 G be st a w o (.base (.iface t (.agg vs.toArray))):=by
 obtain⟨i,u,z,hi,hu,hz,_,_,_,_,h5⟩:=gE hd;obtain⟨f,rfl,_⟩:=Hk (hs.symm.trans h5);have hh:=hr.eval x;rw[hx] at hh;generalize hq:a.eval x=q at hh;cases (show bJ G (.agg cs) q from hh) with
 |agg _ ccs hl hr2=>
  have e:=Yj hb (sP hl hr2);have e2:ccs=vs.toArray:=by rw[<-e]
  refine cX.same hr (cv:=.iface t (.agg vs.toArray)) ?_ (bJ.base _);unfold execOp;simp[ho,hq,e2,Instr.makeInterface,run_underlying hu]
def WE (hr:cW n0 G be st a w) {o:Oper} {t xt:TypeId} {x:Operand} (ho:o.op= .typeAssert x xt t true) {d:iC} (hd:bT P t=some d) {v:Value} (hx:st.eval x= .base (.iface t v)) {fs:List (Nat×Nat×Bool)} (hs:d.shape= .struct fs):cX P n0 G be st a w o (.tuple [V.xP v,.base (.bool true)]):=by
 obtain⟨i,u,z,hi,hu,hz,_,_,_,_,h5⟩:=gE hd;obtain⟨f,rfl,_⟩:=Hk (hs.symm.trans h5);refine cX.same hr (cv:=.tuple #[v,.bool true]) ?_ (bZ.tuple (ccs:= #[v,.bool true]) (bZ.cons (Zn G v) (bZ.cons (bJ.base _) (bZ.nil G))));unfold execOp;simp[ho,gT hr hx,Instr.typeAssert,run_underlying hu]
def j8 (hr:cW n0 G be st a w) {o:Oper} {t xt:TypeId} {x:Operand} (ho:o.op= .typeAssert x xt t false) {d:iC} (hd:bT P t=some d) {v:Value} (hx:st.eval x= .base (.iface t v)) {k:IntKind} (hs:d.shape= .int k):cX P n0 G be st a w o (.base v):=by
 obtain⟨i,u,z,hi,hu,hz,_,_,_,_,h5⟩:=gE hd;obtain rfl:=Ht (hs.symm.trans h5);refine cX.same hr (cv:=v) ?_ (bJ.base _);unfold execOp;simp[ho,gT hr hx,Instr.typeAssert,run_underlying hu]
def Xr (hr:cW n0 G be st a w) {o:Oper} {op:BinOp} {t t':TypeId} {x y:Operand} {c:Value} (ho:o.op= .binOp op t x y t') (hy:y= .const c) (hx:st.eval x= .base .nilIface) (hyv:st.eval y= .base .nilIface) {ms:Array (String×TypeId)} (hu:P.underlying t=some (.interface ms)):
 (op= .eql->cX P n0 G be st a w o (.base (.bool true)))∧(op= .neq->cX P n0 G be st a w o (.base (.bool false))):=by
 have h1:=gT hr hx;have h2:=gT hr hyv;have hq:∀d:Nat,(Op.equalIn (d+1) t .nilIface .nilIface).run P w= .ok true w:=fun d=>by simp[Op.equalIn,run_underlying hu]
 subst hy;constructor<;>rintro rfl
 ·refine cX.same hr (cv:=.bool true) ?_ (bJ.base _);unfold execOp;simp only[ho,h1,h2];simp[eqGuard,binOp,Op.equal,Op.maxDepth,hq 9999]
 ·refine cX.same hr (cv:=.bool false) ?_ (bJ.base _);unfold execOp;simp only[ho,h1,h2];simp[eqGuard,binOp,Op.equal,Op.maxDepth,hq 9999]
def Xs (hr:cW n0 G be st a w) {o:Oper} {op:BinOp} {t t':TypeId} {x y:Operand} {c:Value} (ho:o.op= .binOp op t x y t') (hy:y= .const c) {tx:TypeId} {vx:Value} (hx:st.eval x= .base (.iface tx vx)) (hyv:st.eval y= .base .nilIface) {ms:Array (String×TypeId)} (hu:P.underlying t=some (.interface ms)):
 (op= .eql->cX P n0 G be st a w o (.base (.bool false)))∧(op= .neq->cX P n0 G be st a w o (.base (.bool true))):=by
 have h1:=gT hr hx;have h2:=gT hr hyv;have hq:∀d:Nat,(Op.equalIn (d+1) t (.iface tx vx) .nilIface).run P w= .ok false w:=fun d=>by simp[Op.equalIn,run_underlying hu]
 subst hy;constructor<;>rintro rfl
 ·refine cX.same hr (cv:=.bool false) ?_ (bJ.base _);unfold execOp;simp only[ho,h1,h2];simp[eqGuard,binOp,Op.equal,Op.maxDepth,hq 9999]
 ·refine cX.same hr (cv:=.bool true) ?_ (bJ.base _);unfold execOp;simp only[ho,h1,h2];simp[eqGuard,binOp,Op.equal,Op.maxDepth,hq 9999]
def Yl (hr:cW n0 G be st a w) {o:Oper} {t t' tx ty:TypeId} {x y:Operand} (ho:o.op= .binOp .eql t x y t') {vx vy:Value} (hx:st.eval x= .base (.iface tx vx)) (hy:st.eval y= .base (.iface ty vy)) {ms:Array (String×TypeId)} (hu:P.underlying t=some (.interface ms)):
 (tx≠ty->cX P n0 G be st a w o (.base (.bool false)))∧(∀p q,vx= .string p->vy= .string q->tx=ty->P.underlying tx=some .string->(P.info? tx).map (·.comparable)=some true->cX P n0 G be st a w o (.base (.bool (p.toList==q.toList)))):=by
 have h1:=gT hr hx;have h2:=gT hr hy;refine⟨fun hne=>?_,fun p q e1 e2 e3 hs hc=>?_⟩
 ·have hq:∀d:Nat,(Op.equalIn (d+1) t (.iface tx vx) (.iface ty vy)).run P w= .ok false w:=fun d=>by simp[Op.equalIn,run_underlying hu,hne]
  refine cX.same hr (cv:=.bool false) ?_ (bJ.base _);unfold execOp;simp only[ho,h1,h2];simp[eqGuard,binOp,Op.equal,Op.maxDepth,hq 9999]
 ·subst e1;subst e2;subst e3;cases hi:P.info? tx with
  |none=>rw[hi] at hc;cases hc
  |some i=>
   have hcc:i.comparable=true:=by simpa[hi] using hc
   have hpq:(p==q)=(p.toList==q.toList):=by
    exact SP p q
   have hq:∀d:Nat,(Op.equalIn (d+2) t (.iface tx (.string p)) (.iface tx (.string q))).run P w= .ok (p.toList==q.toList) w:=fun d=>by
    simp[Op.equalIn,run_underlying hu,run_underlying hs,typeInfo,hi,hcc,hpq]
   refine cX.same hr (cv:=.bool (p.toList==q.toList)) ?_ (bJ.base _);unfold execOp;simp only[ho,h1,h2];simp[eqGuard,binOp,Op.equal,Op.maxDepth,hq 9998]
def LT (hr:cW n0 G be st a w) {o:Oper} {f:FuncId} {first captured:Array Operand} (ho:o.op= .makeFunc (.func f) first captured) {x y:List V} (h1:qF (first.toList.map st.eval)=some x) (h2:qF (captured.toList.map st.eval)=some y):
 cX P n0 G be st a w o (.func f x y):=by
 have r1:=Ho hr _ _ h1;have r2:=Ho hr _ _ h2;refine cX.same hr (cv:=.func (.func f) (first.map a.eval) (captured.map a.eval)) ?_ ?_
 ·unfold execOp;simp[ho,Instr.makeFunc]
 ·exact bJ.func f x y _ _ (by rw[r1.1];simp) (by rw[r2.1];simp) (fun i c v a b=>r1.2 i c v a (by simpa using b)) (fun i c v a b=>r2.2 i c v a (by simpa using b))
def YW (hr:cW n0 G be st a w) {lo:Option Operand} {l:Int} (h:wI st lo=some l):(lo=none∧l=0)∨∃o k,lo=some o∧a.eval o= .int k l:=by
 cases lo with
 |none=>exact .inl ⟨rfl,by simp[wI] at h;exact h.symm⟩
 |some o=>
  simp only[wI] at h;split at h
  ·rename_i k n hx;cases h;exact .inr ⟨o,k,rfl,gT hr hx⟩
  ·cases h
def ZF (hr:cW n0 G be st a w) {hi:Option Operand} {len:Nat} {l:Int} (h:wK st len hi=some l):(hi=none∧l=len)∨∃o k,hi=some o∧a.eval o= .int k l:=by
 cases hi with
 |none=>exact .inl ⟨rfl,by simp[wK] at h;exact h.symm⟩
 |some o=>
  simp only[wK] at h;split at h
  ·rename_i k n hx;cases h;exact .inr ⟨o,k,rfl,gT hr hx⟩
  ·cases h
def Yz (isSlice:Bool) (hr:cW n0 G be st a w) {lo hi:Option Operand} {len cap:Nat} {l h:Int} (hl:wI st lo=some l) (hh:wK st len hi=some h) (h0:0<=l) (h1:l<=h) (h2:h<=len) (hc:len<=cap):
 (Instr.sliceBounds isSlice len cap (lo.map a.eval) (hi.map a.eval) none).run P w= .ok (l.toNat,h.toNat,cap) w:=by
 have sb:∀(k:IntKind) (i:Int) (y:Nat) (code:BoundsCode),0<=i->i<=y->(Instr.sliceBound (.int k i) y code).run P w= .ok i.toNat w:=fun k i y code a b=>by
  simp[Instr.sliceBound,asIntOf,a,b]
 rcases YW hr hl with⟨rfl,rfl⟩|⟨ol,kl,rfl,el⟩<;>rcases ZF hr hh with⟨rfl,rfl⟩|⟨oh,kh,rfl,eh⟩
 ·simp[Instr.sliceBounds]
 ·simp[Instr.sliceBounds,eh,sb kh h cap _ (by omega) (by omega)]
 ·simp[Instr.sliceBounds,el,sb kl l len _ (by omega) (by omega)]
 ·simp[Instr.sliceBounds,el,eh,sb kh h cap _ (by omega) (by omega)];rw[sb kl l h.toNat _ (by omega) (by omega)];simp
def Rb {t:TypeId} {u:TypeDesc} (hu:P.underlying t=some u) (hn:∀n e,u≠ .array n e) (x:Value) (lo hi mx:Option Value) (w:World):(Instr.sliceAt t x lo hi mx).run P w=(Instr.slice t x lo hi mx).run P w:=by
 unfold Instr.sliceAt;rw[Sem.run_bind,run_underlying hu];cases u<;>first|rfl|exact absurd rfl (hn _ _)
def XU {sz:Nat} {es:List (List V)} {v:Value} (h:bJ G (.slice sz es) v) (l h':Nat) (hl:l<=h') (hh:h'<=es.length) (cap':Nat):∃b len cap,v= .slice b len cap∧len=es.length∧es.length<=cap∧
 (bJ G (.slice sz ((es.drop l).take (h' -l))) (.slice (if cap=l then b else b.map (·.add (l*sz))) (h' -l) (cap-l))):=by
 cases h with
 |slice0 _ b cap=>
  have:h'=0:=by simpa using hh
  subst this;have:l=0:=by omega
  subst this;refine⟨b,0,cap,rfl,rfl,by simp,?_⟩;simpa using bJ.slice0 sz _ _
 |slice _ _ b o cap cells c1 c2 c3 c4 c5 c6=>
  refine⟨_,_,cap,rfl,rfl,c2,?_⟩;by_cases hz:h' -l=0
  ·rw[hz];simpa using bJ.slice0 sz _ _
  ·have hne:cap≠l:=by omega
   rw[if_neg hne];have hlen:((es.drop l).take (h' -l)).length=h' -l:=by rw[tX,uV];omega
   have hget:∀(i:Nat) cs,((es.drop l).take (h' -l))[i]? =some cs->es[l+i]? =some cs:=by
    intro i cs hi;rw[Mh] at hi;split at hi
    ·rwa[Hc] at hi
    ·cases hi
   have hk:∀k,k<(h' -l)*sz->l*sz+k<es.length*sz:=fun k hk=>by
    have h1:h'*sz<=es.length*sz:=rL _ hh;have h2:(h' -l)*sz+l*sz=h'*sz:=by rw[<-mA];congr 1;omega
    omega
   have:=bJ.slice (G:=G) sz ((es.drop l).take (h' -l)) b (o+l*sz) (cap-l) (fun k=>cells (l*sz+k))
    (fun cs hcs=>c1 cs (Gz (Du hcs))) (by rw[hlen];omega) (by omega)
    (fun k hk'=>by rw[hlen] at hk';have:=c4 _ (hk k hk');rwa[<-Nat.add_assoc] at this)
    (fun i j cs c hi hj=>by
     have:=c5 (l+i) j cs c (hget i cs hi) hj;rw[mA,Nat.add_assoc] at this;exact this)
    (fun k hk'=>by rw[hlen] at hk';exact c6 _ (hk k hk'))
   rw[hlen] at this;simpa[Ca] using this
def PO (hr:cW n0 G be st a w) {o:Oper} {t e:TypeId} {x:Operand} {lo hi:Option Operand} (ho:o.op= .slice t x lo hi none) {d de:iC} (hd:bT P t=some d) (hfs:d.shape= .slice e) (hde:bT P e=some de) {sz:Nat} {es:List (List V)} (hx:Ab (st.eval x)=some (sz,es)) (hsz:sz=de.size)
 {l h:Int} (hl:wI st lo=some l) (hh:wK st es.length hi=some h) (h0:0<=l∧l<=h∧h<=es.length):cX P n0 G be st a w o (.slice sz ((es.drop l.toNat).take (h.toNat-l.toNat))):=by
 obtain⟨i',u,z,hi',hu,hz,h1,h2,h3,h4,h5⟩:=gE hd;obtain⟨ie,ue,ze,hie,hue,hze,k1,k2,k3,k4,k5⟩:=gE hde;obtain rfl:=tZ (hfs.symm.trans h5);obtain⟨b,len,cap,hv,rfl,hc,hrep⟩:=XU (Yp (hr.eval x) hx) l.toNat h.toNat (by omega) (by omega) 0;refine cX.same hr (cv:=_) ?_ (eE.kF hrep);have hb:=Yz (P:=P) true hr hl hh h0.1 h0.2.1 h0.2.2 hc;have hs:(Instr.sliceAt t (a.eval x) (lo.map a.eval) (hi.map a.eval) none).run P w= .ok (.slice (if cap=l.toNat then b else b.map (·.add (l.toNat*sz))) (h.toNat-l.toNat) (cap-l.toNat)) w:=by
  rw[Rb hu (by simp),hv];simp[Instr.slice,run_underlying hu,hb,sizeOf,typeInfo,hie,hsz,k1]
 unfold execOp;simp only[ho,Option.map_none,Sem.run_bind,hs,Result.andThen_ok,Sem.run_pure]
def KT (hr:cW n0 G be st a w) {o:Oper} {t:TypeId} {x:Operand} {lo hi:Option Operand} (ho:o.op= .slice t x lo hi none) {d:iC} (hd:bT P t=some d) (hfs:d.shape= .string) {s:ByteArray} (hx:st.eval x= .base (.string s))
 {l h:Int} (hl:wI st lo=some l) (hh:wK st s.size hi=some h) (h0:0<=l∧l<=h∧h<=s.size):cX P n0 G be st a w o (.base (.string (s.extract l.toNat h.toNat))):=by
 obtain⟨i',u,z,hi',hu,hz,h1,h2,h3,h4,h5⟩:=gE hd;obtain rfl:=Bn (hfs.symm.trans h5);have hb:=Yz (P:=P) false hr hl hh h0.1 h0.2.1 h0.2.2 (dS _);refine cX.same hr (cv:=.string (s.extract l.toNat h.toNat)) ?_ (bJ.base _);have hs:(Instr.sliceAt t (a.eval x) (lo.map a.eval) (hi.map a.eval) none).run P w= .ok (.string (s.extract l.toNat h.toNat)) w:=by
  rw[Rb hu (by simp),gT hr hx];simp[Instr.slice,run_underlying hu,hb]
 unfold execOp;simp only[ho,Option.map_none,Sem.run_bind,hs,Result.andThen_ok,Sem.run_pure]
def Rv (hr:cW n0 G be st a w) {o:Oper} {t e:TypeId} {x hi mx:Operand} (ho:o.op= .slice t x none (some hi) (some mx)) {d de:iC} (hd:bT P t=some d) (hfs:d.shape= .slice e) (hde:bT P e=some de) {v:V} (hx:st.eval x=v) (hv:(∃sz es,v= .slice sz es)∨(∃g sz es,v= .own g sz es)∨v= .nil)
 {k k':IntKind} (hh:st.eval hi= .base (.int k 0)) (hm:st.eval mx= .base (.int k' 0)):cX P n0 G be st a w o .zcap:=by
 obtain⟨i',u,z,hi',hu,hz,h1,h2,h3,h4,h5⟩:=gE hd;obtain⟨ie,ue,ze,hie,hue,hze,k1,k2,k3,k4,k5⟩:=gE hde;obtain rfl:=tZ (hfs.symm.trans h5);have hsl:∃b len cap,a.eval x= .slice b len cap:=by
  have hh:=hr.eval x;rw[hx] at hh;rcases hv with⟨sz,es,rfl⟩|⟨g,sz,es,rfl⟩|rfl
  ·obtain⟨b,cap,e⟩:=Mw (n:=es.length) hh rfl;exact⟨_,_,_,e⟩
  ·obtain⟨b,cap,e⟩:=Mw (n:=es.length) hh rfl;exact⟨_,_,_,e⟩
  ·obtain⟨b,cap,e⟩:=Mw (n:=0) hh rfl;exact⟨_,_,_,e⟩
 obtain⟨b,len,cap,hxv⟩:=hsl;refine cX.same hr (cv:=.slice b 0 0) ?_ (eE.kF (bJ.zcap b));have hs:(Instr.sliceAt t (a.eval x) none (some (a.eval hi)) (some (a.eval mx))).run P w= .ok (.slice b 0 0) w:=by
  rw[Rb hu (by simp),hxv,gT hr hh,gT hr hm];simp[Instr.slice,run_underlying hu,Instr.sliceBounds,Instr.sliceBound,asIntOf,sizeOf,typeInfo,hie]
 unfold execOp;simp only[ho,Option.map_none,Option.map_some,Sem.run_bind,hs,Result.andThen_ok,Sem.run_pure]
def KZ (hr:cW n0 G be st a w) {o:Oper} {t e:TypeId} {len:Nat} {parts:Array (Nat×Operand)} (ho:o.op= .buildSlice t len parts) {d de:iC} (hd:bT P t=some d) (hfs:d.shape= .slice e) (hde:bT P e=some de) (h0:len=0) (hp:parts.toList=[]):cX P n0 G be st a w o .zcap:=by
 obtain⟨i,u,z,hi,hu,hz,h1,h2,h3,h4,h5⟩:=gE hd;obtain⟨ie,ue,ze,hie,hue,hze,k1,k2,k3,k4,k5⟩:=gE hde;obtain rfl:=tZ (hfs.symm.trans h5);obtain rfl:parts= #[]:=by rw[<-xV];simpa using hp
 subst h0;obtain⟨hr',hx'⟩:=hr.Xf #[] e;refine⟨_,_,_,?_,hr',hx',bJ.zcap (some ⟨w.heap.size,0,none⟩)⟩;unfold execOp;simp[ho,Instr.buildSlice,run_underlying hu,sizeOf,typeInfo,hie,Instr.fill,newRow];congr 2;apply Array.ext';simp
def OE (hr:cW n0 G be st a w) {o:Oper} {v:V} {side:Prop} (h:fF P st o.op=some (v,side)) (hs:side):cX P n0 G be st a w o v:=by
 generalize hop:o.op=op at h;cases op<;>simp only[fF] at h<;>try (cases h;done)
 case move x=>cases h;exact AL hr (.inl hop)
 case assign x=>cases h;exact AL hr (.inr hop)
 case pick c x y=>
  split at h
  ·rename_i t ht;cases h;exact SS hr hop ht
  ·cases h
 case build t parts=>
  split at h
  ·rename_i d hd;split at h
   ·rename_i fs hfs;split at h
    ·rename_i cs hcs;cases h;exact PT hr hop hd hfs hcs
    ·cases h
   ·cases h
  ·cases h
 case buildSlice t len parts=>
  split at h
  ·rename_i d hd;split at h
   ·rename_i e hfs;split at h
    ·rename_i de hde;split at h
     ·rename_i hc;split at h
      ·rename_i cs hcs;cases h;exact Xl hr hop hd hfs hde hc.1 hc.2 hcs
      ·cases h
     ·split at h
      ·rename_i hc;cases h;exact KZ hr hop hd hfs hde hc.1 hc.2
      ·cases h
    ·cases h
   ·cases h
  ·cases h
 case load t x=>
  split at h
  ·rename_i d hd;split at h
   ·rename_i b off hx;split at h
    ·rename_i cs ty hb;cases hrd:rd d cs off with
     |none=>rw[hrd] at h;cases h
     |some v'=>rw[hrd] at h;cases h;exact LU hr hop hd hx hb hrd
    ·cases h
   ·rename_i cs off hx;cases hrd:rd d cs off with
    |none=>rw[hrd] at h;cases h
    |some v'=>rw[hrd] at h;cases h;exact LV hr hop hd hx hrd
   ·cases h
  ·cases h
 case nilCheck x=>
  split at h<;>first|(cases h;done)|skip
  ·rename_i b k hx;cases h;exact Mj hr hop hx (.inl ⟨_,_,rfl⟩)
  ·rename_i b k hx;cases h;exact Mj hr hop hx (.inr (.inl ⟨_,_,rfl⟩))
  ·rename_i b k hx;cases h;exact Mj hr hop hx (.inr (.inr (.inl ⟨_,_,rfl⟩)))
  ·rename_i b c d hx;cases h;exact Mj hr hop hx (.inr (.inr (.inr ⟨_,_,_,rfl⟩)))
 case binOp op t x y t'=>
  split at h
  ·rename_i p q hx hy;split at h
   ·rename_i d hd;split at h
    ·rename_i hsh;cases h;exact(Xt hr hop hx hy hd hsh).1 rfl
    ·rename_i hsh;cases h;exact(Xt hr hop hx hy hd hsh).2 rfl
    ·cases h
   ·cases h
  ·rename_i f c e hx hy;split at h
   ·rename_i d hd;split at h
    ·rename_i hsh;cases h;exact((Mk hr hop hy hd hsh).1 ⟨_,_,_,hx⟩).1 rfl
    ·rename_i hsh;cases h;exact((Mk hr hop hy hd hsh).1 ⟨_,_,_,hx⟩).2 rfl
    ·cases h
   ·cases h
  ·rename_i hx hy;split at h
   ·rename_i d hd;split at h
    ·rename_i hsh;cases h;exact((Mk hr hop hy hd hsh).2 hx).1 rfl
    ·rename_i hsh;cases h;exact((Mk hr hop hy hd hsh).2 hx).2 rfl
    ·cases h
   ·cases h
  ·rename_i cs cs' hx hy;split at h
   ·rename_i ks hks;split at h
    ·rename_i r hc;cases h;exact(Xy hr hop hx hy hks hc).1 rfl
    ·rename_i r hc;cases h;exact(Xy hr hop hx hy hks hc).2 rfl
    ·cases h
   ·cases h
  ·rename_i v hv hy;split at h
   ·rename_i r d hnv hd;split at h
    ·rename_i hsh;cases h;exact(Xx hr hop hy hnv hd hsh).1 rfl
    ·rename_i hsh;cases h;exact(Xx hr hop hy hnv hd hsh).2 rfl
    ·cases h
   ·cases h
  ·rename_i hx hy;unfold Nm at h;split at h
   ·rename_i hu;cases h;exact(Xr hr hop rfl hx hy hu).1 rfl
   ·rename_i hu;cases h;exact(Xr hr hop rfl hx hy hu).2 rfl
   ·cases h
  ·rename_i tx vx hx hy;unfold Nn at h;split at h
   ·rename_i hu;cases h;exact(Xs hr hop rfl hx hy hu).1 rfl
   ·rename_i hu;cases h;exact(Xs hr hop rfl hx hy hu).2 rfl
   ·cases h
  ·rename_i tx p ty q hx hy;unfold Pa at h;split at h
   ·rename_i hu hs';split at h
    ·rename_i hc;cases h;exact(Yl hr hop hx hy hu).2 p q rfl rfl hc.1 hs' hc.2
    ·cases h
   ·cases h
  ·rename_i tx k n ty q hx hy;unfold Pb at h;split at h
   ·rename_i hu;split at h
    ·rename_i hc;cases h;exact(Yl hr hop hx hy hu).1 hc
    ·cases h
   ·cases h
  ·exact WF hr hop h hs
 case unOp op t x=>
  split at h
  ·rename_i b hx;cases h;exact(DR hr hop).1 b rfl hx
  ·rename_i k n hx;cases h;exact(DR hr hop).2 k n rfl hx
  ·cases h
 case convert s t x=>
  split at h
  ·rename_i ds dd k n h1 h2 hx;split at h
   ·rename_i k0 k' e1 e2;cases h;exact KW hr hop h1 h2 e1 e2 hx
   ·cases h
  ·rename_i ds dd b h1 h2 hx;split at h
   ·rename_i e1 e2;cases h;exact KN hr hop h1 h2 e1 e2 hx
   ·rename_i e e1 e2;split at h
    ·rename_i de h3;split at h
     ·rename_i h4;cases h;exact KP hr hop h1 h2 e1 e2 h3 h4 hx hs
     ·cases h
    ·cases h
   ·cases h
  ·cases h
 case makeFunc fn first captured=>
  cases fn<;>simp only[fF] at h<;>try (cases h;done)
  split at h
  ·rename_i x y h1 h2;cases h;exact LT hr hop h1 h2
  ·cases h
 case fieldAddr s x k=>
  split at h
  ·rename_i d hd;split at h
   ·rename_i fs hfs;split at h
    ·rename_i off size ag hk;split at h
     ·cases h
     ·rename_i hsz;obtain⟨y1,y2,y3⟩:=LL hr hop hd hfs hk hsz;split at h
      ·rename_i t o' hx;cases h;exact y1 _ _ hx
      ·rename_i cs o' hx;cases h;exact y2 _ _ hx
      ·rename_i b o' hx;cases h;exact y3 _ _ hx
      ·cases h
    ·cases h
   ·cases h
  ·cases h
 case field s x k=>
  split at h
  ·rename_i d hd;split at h
   ·rename_i fs hfs;split at h
    ·rename_i off size ag hk;split at h
     ·rename_i cs hx;cases hq:(if ag then(if off+size<=cs.length then some (V.agg ((cs.drop off).take size)) else none) else cs[off]?) with
      |none=>rw[hq] at h;cases h
      |some v'=>rw[hq] at h;cases h;exact PS hr hop hd hfs hk hx hq
     ·cases h
    ·cases h
   ·cases h
  ·cases h
 case indexAddr t x i=>
  split at h
  ·rename_i d hd;split at h
   ·rename_i e hfs;split at h
    ·rename_i de hde;split at h
     ·rename_i sz es k n hx hi;split at h
      ·rename_i hsz;cases h;exact LK hr hop hd hfs hde hx hi hsz hs
      ·cases h
     ·exact MG hr hop hd hfs hde h hs
     ·cases h
    ·cases h
   ·cases h
  ·cases h
 case index t x i=>
  split at h
  ·rename_i d hd;split at h
   ·rename_i s k n h1 h2 h3;cases h;exact PR hr hop hd h1 h2 h3 hs
   ·cases h
  ·cases h
 case makeInterface t x=>
  split at h
  ·rename_i d v hd hx;split at h
   ·rename_i k hsh;cases h;exact DT hr hop hd hx (.inl ⟨k,hsh⟩)
   ·rename_i hsh;cases h;exact DT hr hop hd hx (.inr hsh)
   ·cases h
  ·rename_i d cs hd hx;split at h
   ·rename_i fs vs hsh hb;cases h;exact NJ hr hop hd hx hsh hb
   ·cases h
  ·cases h
 case typeAssert x xt t ok=>
  cases ok with
  |true=>
   simp only[fF] at h;split at h
   ·rename_i d t' v hd hx;split at h
    ·rename_i fs hsh;split at h
     ·rename_i ht;subst ht;cases h;exact WE hr hop hd hx hsh
     ·cases h
    ·cases h
   ·cases h
  |false=>
   simp only[fF] at h;split at h
   ·rename_i d t' v hd hx;split at h
    ·rename_i k hsh;split at h
     ·rename_i ht;subst ht;cases h;exact j8 hr hop hd hx hsh
     ·cases h
    ·cases h
   ·cases h
 case extract x k=>
  split at h
  ·rename_i vs hx;cases hq:vs[k]? with
   |none=>rw[hq] at h;cases h
   |some v'=>rw[hq] at h;cases h;exact MH hr hop hx hq
  ·cases h
 case slice t x lo hi mx=>
  cases mx with
  |none=>
   simp only[fF] at h;split at h
   ·rename_i d hd;split at h
    ·rename_i hfs;split at h
     ·rename_i s hx;split at h
      ·rename_i l h' hl hh;cases h;exact KT hr hop hd hfs hx hl hh hs
      ·cases h
     ·cases h
    ·rename_i e hfs;split at h
     ·rename_i sz es de hx hde;split at h
      ·rename_i hsz;split at h
       ·rename_i l h' hl hh;cases h;exact PO hr hop hd hfs hde hx hsz hl hh hs
       ·cases h
      ·cases h
     ·cases h
    ·cases h
   ·cases h
  |some mx=>
   cases lo with
   |some lo=>first|(cases h;done)|(simp only[fF] at h;cases h)
   |none=>
    cases hi with
    |none=>first|(cases h;done)|(simp only[fF] at h;cases h)
    |some hi=>
     simp only[fF] at h;split at h
     ·rename_i d hd;split at h
      ·rename_i e hfs;split at h
       ·rename_i de k n k' m hde hh hm;split at h
        ·rename_i hc;obtain⟨rfl,rfl⟩:=hc;split at h
         ·rename_i sz es hx;cases h;exact Rv hr hop hd hfs hde hx (.inl ⟨_,_,rfl⟩) hh hm
         ·rename_i g sz es hx;cases h;exact Rv hr hop hd hfs hde hx (.inr (.inl ⟨_,_,_,rfl⟩)) hh hm
         ·rename_i hx;cases h;exact Rv hr hop hd hfs hde hx (.inr (.inr rfl)) hh hm
         ·cases h
        ·cases h
       ·cases h
      ·cases h
     ·cases h
 case call c=>
  obtain⟨callee,args,ts⟩:=c;cases callee<;>first|(cases h;done)|skip
  rename_i b;cases b<;>first|(cases h;done)|skip
  case max=>exact DS (mx:=true) hr hop h
  case min=>exact DS (mx:=false) hr hop h
  replace h:Eu P st args ts=some (v,side):=h;unfold Eu at h;split at h
  ·rename_i t ht;split at h
   ·rename_i d x hd hx;split at h
    ·rename_i e hsh;cases hq:xL (st.eval x) with
     |none=>rw[hq] at h;cases h
     |some n=>rw[hq] at h;cases h;exact(CG hr hop ht hx hd).1 e n hsh hq
    ·rename_i hsh;split at h
     ·rename_i s hx';cases h;exact(CG hr hop ht hx hd).2 s hsh hx'
     ·cases h
    ·cases h
   ·cases h
  ·cases h
end
section
variable {P:Program}
def mY (P:Program) (f:FuncId) (args:List V) (s:aL) (R:V->aL->Prop):Prop:=
 (∃fn,P.funcs[f]? =some fn∧fn.body.isNone=false∧(fn.name == "runtime.NumGoroutine")=false)∧
 ∀G w (cargs:Array Value),cS G s w->bZ G args cargs.toList->Calls P f cargs w fun e w'=>∃G' s' v cv,e= .returned cv∧bJ G' v cv∧dD G s w G' s' w'∧cS G' s' w'∧R v s'
def mY.mono {f:FuncId} {args:List V} {s:aL} {R R':V->aL->Prop} (h:mY P f args s R) (hr:∀v s',R v s'->R' v s'):mY P f args s R':=
 ⟨h.1,fun G w cargs h1 h2=>(h.2 G w cargs h1 h2).mono fun e w' ⟨G',s',v,cv,he,hv,hx,hh,r⟩=>⟨G',s',v,cv,he,hv,hx,hh,hr v s' r⟩⟩
def gM (P:Program) (f:FuncId) (args:List V) (s:aL) (PP:Value->aL->Prop) (R:V->aL->Prop):Prop:=
 (∃fn,P.funcs[f]? =some fn∧fn.body.isNone=false∧(fn.name == "runtime.NumGoroutine")=false)∧
 ∀G w (cargs:Array Value),cS G s w->bZ G args cargs.toList->Calls P f cargs w fun e w'=>(∃G' s' v cv,e= .returned cv∧bJ G' v cv∧dD G s w G' s' w'∧cS G' s' w'∧R v s')∨∃G' s' v,e= .panicked [{ v:=v,recovered:=false }]∧dD G s w G' s' w'∧cS G' s' w'∧PP v s'
def mY.toP {f:FuncId} {args:List V} {s:aL} {PP:Value->aL->Prop} {R:V->aL->Prop} (h:mY P f args s R):gM P f args s PP R:=
 ⟨h.1,fun G w cargs h1 h2=>(h.2 G w cargs h1 h2).mono fun e w' h=>.inl h⟩
def gM.mono {f:FuncId} {args:List V} {s:aL} {PP PP':Value->aL->Prop} {R R':V->aL->Prop} (h:gM P f args s PP R) (hp:∀v s',PP v s'->∃s'',s'.le s''∧PP' v s'') (hr:∀v s',R v s'->R' v s'):gM P f args s PP' R':=
 ⟨h.1,fun G w cargs h1 h2=>(h.2 G w cargs h1 h2).mono fun e w' h=>by
  rcases h with⟨G',s',v,cv,he,hv,hx,hh,r⟩|⟨G',s',v,he,hx,hh,r⟩
  ·exact .inl ⟨G',s',v,cv,he,hv,hx,hh,hr v s' r⟩
  ·obtain⟨s'',hle,r'⟩:=hp v s' r;exact .inr ⟨G',s'',v,he,hx.weaken hle,hh.weaken hle,r'⟩⟩
def gM.monoR {f:FuncId} {args:List V} {s:aL} {PP:Value->aL->Prop} {R R':V->aL->Prop} (h:gM P f args s PP R) (hr:∀v s',R v s'->R' v s'):gM P f args s PP R':=
 h.mono (fun v s' h=>⟨s',aL.le.refl _,h⟩) hr
def Wk (c c':V):Prop:=∀G v,bJ G c v->bJ G c' v
def Wk.refl (c:V):Wk c c:=fun _ _ h=>h
def Wk.own (g sz:Nat) (es:List (List V)):Wk (.own g sz es) (.slice sz es):=fun G v h=>by cases h with|own _ _ _ _ h _=>exact h
def Wk.nil (sz:Nat):Wk .nil (.slice sz []):=fun G v h=>by cases h;exact .slice0 sz _ _
def iX:List V->List V->Prop
 |[],[]=>True
 |c::l,c'::l'=>Wk c c'∧iX l l'
 |_,_=>False
def iX.rep {G:bC}:∀{l l':List V} {vs:List Value},iX l l'->bZ G l vs->bZ G l' vs
 |[],[],_,_,h=>h
 |[],_::_,_,h,_=>h.elim
 |_::_,[],_,h,_=>h.elim
 |c::l,c'::l',vs,⟨h1,h2⟩,h=>by
  obtain⟨v,vs',rfl,hc,hl⟩:=h.sJ;exact bZ.cons (h1 G v hc) (h2.rep hl)
def gM.wk {f:FuncId} {args args':List V} {s:aL} {PP:Value->aL->Prop} {R:V->aL->Prop} (hw:iX args args') (h:gM P f args' s PP R):gM P f args s PP R:=
 ⟨h.1,fun G w cargs h1 h2=>h.2 G w cargs h1 (hw.rep h2)⟩
def aL.aU (s:aL) (b:Nat) (x:List V×TypeId):aL:={ s with box:=cA s.box b (some x) }
def aL.cI (s:aL) (g:Nat) (x:Option (TypeId×Nat)):aL:={ s with own:=cA s.own g x }
def fV (o:Oper) (st:St):Prop:=match o.dst with
 |some t=>t<st.n
 |none=>True
def oG (o:Oper) (t:TypeId) (cs:List V) (st:St) (K:St->Prop):Prop:=
 match o.dst with
 |some t0=>t0<st.n∧st.loc t0=none∧K ({ st with loc:=cA st.loc t0 (some (cs,t)) }.put (some t0) (.loc t0 0))
 |none=>False
def Kx (sz:Nat):V->Option (List (List V))
 | .nil| .zcap| .base (.slice _ 0 _)=>some []
 | .slice sz' es| .own _ sz' es=>if sz'=sz then some es else none
 |_=>none
def Pe (s:aL) (a:Option Addr) (n cap:Nat) (cs:List V) (e:TypeId) (sz:Nat):Prop:=
 (a=none∧n=0∧cap=0∧cs=[])∨∃b,a=some ⟨b,0,none⟩∧s.box b=some (cs,e)∧cs.length=cap*sz∧n<=cap∧cap<=maxLen
def zW (o:Oper) (e:TypeId) (de:iC) (xs:List (List V)) (v:Value) (st:St) (K:St->Prop):Prop:=
 match v with
 | .slice a n cap=>if xs.length=0 then n<=cap∧K (st.put o.dst (.base (.slice a n cap))) else
  (n+xs.length)*de.bytes<=2^47∧n+xs.length<=maxLen∧∃cs,Pe st.s a n cap cs e de.size∧∀b' cap' cs',(a=some ⟨b',0,none⟩∨st.s.box b'=none)->cs'.length=cap'*de.size->cs'.take ((n+xs.length)*de.size)=cs.take (n*de.size)++xs.flatten->n+xs.length<=cap'->cap'<=maxLen->
  K ({ st with s:=st.s.aU b' (cs',e) }.put o.dst (.base (.slice (some ⟨b',0,none⟩) (n+xs.length) cap')))
 |_=>False
def vC (P:Program) (o:Oper) (args:Array Operand) (ts:Array TypeId) (st:St) (K:St->Prop):Prop:=
 match ts.toList,args.toList with
 |[t,t'],[x,y]=>t=t'∧match bT P t with
  |some d=>match d.shape with
   | .slice e=>match bT P e with
    |some de=>0<de.size∧fV o st∧match Kx de.size (st.eval y) with
     |some xs=>match st.eval x with
      | .nil=>xs.length*de.bytes<=2^47∧xs.length<=maxLen∧∀g,st.s.own g=none->K ({ st with s:=st.s.cI g (some (e,de.size)) }.put o.dst (.own g de.size xs))
      | .zcap=>xs.length*de.bytes<=2^47∧xs.length<=maxLen∧∀g,st.s.own g=none->K ({ st with s:=st.s.cI g (some (e,de.size)) }.put o.dst (.own g de.size xs))
      | .own g0 sz es=>sz=de.size∧st.s.own g0=some (e,sz)∧(es.length+xs.length)*de.bytes<=2^47∧es.length+xs.length<=maxLen∧
       ∀g,st.s.own g=none->K ({ st with s:=(st.s.cI g0 none).cI g (some (e,de.size)) }.put o.dst (.own g de.size (es++xs)))
      | .base v=>zW o e de xs v st K
      |_=>False
     |none=>False
    |none=>False
   |_=>False
  |none=>False
 |_,_=>False
def Cm (P:Program) (o:Oper) (t:TypeId) (x y:Operand) (st:St) (K:St->Prop):Prop:=
 match bT P t with
 |some d=>(st.eval y).cells.all V.iR=true∧(st.eval y).cells.length=d.size∧fV o st∧match st.eval x with
  | .loc b off=>match st.loc b with
   |some (cs,ty)=>off+d.size<=cs.length∧K ({ st with loc:=cA st.loc b (some (sT cs off (st.eval y).cells,ty)) }.put o.dst (.base undef))
   |none=>False
  | .ptr b off=>match st.s.box b with
   |some (cs,ty)=>off+d.size<=cs.length∧K ({ st with s:=st.s.aU b (sT cs off (st.eval y).cells,ty) }.put o.dst (.base undef))
   |none=>False
  |_=>False
 |none=>False
def lU (P:Program) (o:Oper) (st:St) (K:St->Prop):Prop:=
 match fF P st o.op with
 |some (v,side)=>side∧fV o st∧K (st.put o.dst v)
 |none=>False
def vT (P:Program) (o:Oper) (t:TypeId) (x:Operand) (st:St) (K:St->Prop):Prop:=
 match st.eval x with
 | .ptr b off=>match bT P t,st.s.box b with
  |some d,some (cs,_)=>match rd d cs off with
   |some v=>fV o st∧K (st.put o.dst v)
   |none=>False
  |_,_=>False
 |_=>lU P o st K
def Aq (P:Program) (o:Oper) (f:Operand) (args:Array Operand) (st:St) (K:St->Prop):Prop:=
 match st.eval f with
 | .func k first cap=>match qF (args.toList.map st.eval) with
  |some vs=>fV o st∧gM P k (first++vs++cap) st.s (fun v s'=>st.ds=[]∧st.pp v s') fun v s'=>K ({ st with s:=s' }.put o.dst v)
  |none=>False
 |_=>False
def gD (P:Program) (o:Oper) (st:St) (K:St->Prop):Prop:=
 match o.op with
 | .alloc t=>match bT P t with
  |some d=>oG o t (d.zero.map V.rK) st K
  |none=>False
 | .box t x=>(st.eval x).cells.all V.iR=true∧oG o t (st.eval x).cells st K
 | .store t x y=>Cm P o t x y st K
 | .load t x=>vT P o t x st K
 | .call { callee:=.value f,args:=args,argTypes:=_ }=>Aq P o f args st K
 | .call { callee:=.builtin .append,args:=args,argTypes:=ts }=>vC P o args ts st K
 |_=>lU P o st K
def jC (e:Entry) (K:St->Prop) (a:Act) (w:World):Prop:=∃st,K st∧In e st a w
def tT (e:Entry) (x:Exit) (a:Act) (w:World):Prop:=∃v G s',x= .panic [{ v:=v,recovered:=false }]∧a.defers=e.tl∧dD e.G e.s e.w G s' w∧cS G s' w∧e.pp v s'
def PQ (e:Entry) (Q:Exit->Act->World->Prop):Prop:=∀x a w,tT e x a w->Q x a w
def PQ.no {e:Entry} {Q:Exit->Act->World->Prop} (h:e.pp=kW):PQ e Q:=fun x a w ⟨v,G,s',h1,h2,h3,h4,h5⟩=>by rw[h] at h5;exact h5.elim
def Yk {e:Entry} {o:Oper} {st:St} {K:St->Prop} {a:Act} {w:World} {Q:Exit->Act->World->Prop} (h:lU P o st K) (hin:In e st a w):o.wp P a w (jC e K) Q:=by
 unfold lU at h;split at h
 ·rename_i v side hp;obtain⟨hs,hd,hK⟩:=h;obtain⟨G,be,hx,hr⟩:=hin;obtain⟨cv,w1,G1,hrun,hr1,hx1,hv⟩:=OE hr hp hs;unfold Oper.wp;rw[hrun];refine⟨_,hK,G1,be,?_,hr1.put o.dst (fun t ht=>by unfold fV at hd;rw[ht] at hd;exact hd) hv⟩;have:(st.put o.dst v).s=st.s:=by cases hd':o.dst<;>rfl
  rw[this];exact hx.trans hx1
 ·exact h.elim
end
section
variable {P:Program}
def uZ {o:Oper} {st:St} (h:fV o st):∀t,o.dst=some t->t<st.n:=fun t ht=>by unfold fV at h;rw[ht] at h;exact h
def cW.aI3 {n0:nS} {G:bC} {be:Nat->Option Nat} {st:St} {a:Act} {w:World} (h:cW n0 G be st a w) (h0:n0.n<=w.heap.size) {t0:Nat} (hl:st.loc t0=none) {cs:List V} {ccs:Array Value} (t:TypeId) (hr:bZ G cs ccs.toList) (h1:∀v∈ccs.toList,v.oneCell'=true):
 cW n0 G (cA be t0 (some w.heap.size)) { st with loc:=cA st.loc t0 (some (cs,t)) } a (w.alloc (.cells ccs t)):=by
 have hm:=dP.alloc w (.cells ccs t);have hF:∀o,G.F w.heap.size o=none:=fun o=>by
  cases hx:G.F w.heap.size o with
  |none=>rfl
  |some v=>have:=h.hr.zO (b:=w.heap.size) (o:=o) (by rw[hx];simp);omega
 have hf:¬dL G st.s w.heap.size:=fun hf=>by have:=h.hr.zM hf;omega
 refine⟨h.hr.more hm,h.n,h.df,fun t'=>?_,fun t' cs' ty' ht'=>?_,fun t1 t2 b e1 e2 b1 b2=>?_⟩
 ·have:=h.tmps t';cases hv:st.E t'<;>rw[hv] at this<;>first|exact this|skip
  rename_i t1 off;obtain⟨hne,b,hb,hv'⟩:=this;have ht:t1≠t0:=fun e=>hne (e ▸ hl);exact⟨by simpa[cA,ht] using hne,b,by simpa[cA,ht] using hb,hv'⟩
 ·by_cases ht:t'=t0
  ·subst ht;simp only[eL,iZ,qS] at ht';obtain⟨rfl,rfl⟩:=ht';exact⟨w.heap.size,eL _ _ _,h0,⟨ccs,heap_alloc_new w _,hr,h1⟩,hF,hf⟩
  ·simp only[dA _ _ _ _ ht] at ht';obtain⟨b,k1,k2,⟨c',k3,k4⟩,k5⟩:=h.loc t' cs' ty' ht';exact⟨b,by rw[dA _ _ _ _ ht];exact k1,k2,⟨c',(hm.keep b (gZ.1 k3).1).trans k3,k4⟩,k5⟩
 ·have key:∀t',(cA st.loc t0 (some (cs,t))) t'≠none->(cA be t0 (some w.heap.size)) t'=some b->(t'=t0∧b=w.heap.size)∨(st.loc t'≠none∧be t'=some b∧b<w.heap.size):=by
   intro t' a1 a2;by_cases ht:t'=t0
   ·subst ht;rw[eL] at a2;exact .inl ⟨rfl,(eS a2).symm⟩
   ·rw[dA _ _ _ _ ht] at a1 a2;exact .inr ⟨a1,a2,h.Xd a1 a2⟩
  rcases key t1 e1 b1 with⟨rfl,rfl⟩|⟨a1,a2,a3⟩<;>rcases key t2 e2 b2 with⟨rfl,hb⟩|⟨c1,c2,c3⟩
  ·rfl
  ·omega
  ·omega
  ·exact h.inj t1 t2 b a1 c1 a2 c2
def eE.lX {G:bC} {be be':Nat->Option Nat} {loc loc':Nat->Option (List V×TypeId)} {c:V} {v:Value} (h:eE G be loc c v) (hl:∀t,loc t≠none->loc' t≠none∧be' t=be t):eE G be' loc' c v:=by
 cases c<;>first|exact h|skip
 obtain⟨h1,b,h2,h3⟩:=h;exact⟨(hl _ h1).1,b,by rw[(hl _ h1).2];exact h2,h3⟩
def Qv {e:Entry} {o:Oper} {t:TypeId} {cs:List V} {st:St} {K:St->Prop} {a:Act} {w:World} {Q:Exit->Act->World->Prop} (h:oG o t cs st K) {G:bC} {be:Nat->Option Nat}
 (hx:dD e.G e.s e.w G st.s w) (hr:cW e.base G be st a w) {ccs:Array Value} (hrep:bZ G cs ccs.toList) (h1:∀v∈ccs.toList,v.oneCell'=true)
 (hrun:(execOp a.eval o).run P w= .ok (.value (.pointer (some ⟨w.heap.size,0,none⟩))) (w.alloc (.cells ccs t))):o.wp P a w (jC e K) Q:=by
 unfold oG at h;split at h
 ·rename_i t0 hd;obtain⟨hlt,hl,hK⟩:=h;unfold Oper.wp;rw[hrun];have hA:=hr.aI3 hx.size hl t hrep h1;refine⟨_,hK,G,cA be t0 (some w.heap.size),hx.trans (dD.more (dP.alloc w _)),?_⟩;rw[hd];exact hA.put (some t0) (fun t ht=>by cases ht;exact hlt) ⟨by simp[cA],w.heap.size,eL _ _ _,rfl⟩
 ·exact h.elim
def jH (t0 b:Nat):V->V
 | .loc t off=>if t=t0 then .ptr b off else .loc t off
 |v=>v
def St.cM (st:St) (t0 b:Nat) (x:List V×TypeId):St:={ E:=fun t=>jH t0 b (st.E t),loc:=cA st.loc t0 none,s:=st.s.aU b x,n:=st.n,ds:=st.ds,lo:=st.lo,pp:=st.pp }
def In.cM {e:Entry} {st:St} {a:Act} {w:World} (h:In e st a w) {t0:Nat} {x:List V×TypeId} (hl:st.loc t0=some x):∃b,st.s.box b=none∧In e (st.cM t0 b x) a w:=by
 obtain⟨G,be,hx,hr⟩:=h;obtain⟨cs,ty⟩:=x;obtain⟨b,k1,k2,⟨ccs,k3,k4,k5⟩,k6,k7⟩:=hr.loc t0 cs ty hl;have hbn:st.s.box b=none:=by
  cases hq:st.s.box b with
  |none=>rfl
  |some y=>exact absurd (.inl (by rw[hq];simp)) k7
 have hfoot:∀b',dL G (st.s.aU b (cs,ty)) b'->b'=b∨dL G st.s b':=fun b' hf=>by
  by_cases e:b'=b
  ·exact .inl e
  ·rcases hf with hf|hf
   ·exact .inr (.inl (by simpa[aL.aU,cA,e] using hf))
   ·exact .inr (.inr hf)
 refine⟨b,hbn,G,be,⟨hx.le,hx.size,hx.os,hx.tape,hx.output,hx.keep,fun b' hf=>?_,hx.dO,hx.keys⟩,⟨⟨hr.hr.dO,fun b' cs' ty' hb'=>?_,hr.hr.own,hr.hr.sep,fun g x v b' j1 j2 j3=>?_,hr.hr.fin,hr.hr.ob,hr.hr.tab,hr.hr.siz⟩,hr.n,hr.df,fun t=>?_,fun t cs' ty' ht=>?_,fun t t' b' h1 h2=>?_⟩⟩
 ·rcases hfoot b' hf with rfl|hf
  ·exact .inr k2
  ·exact hx.dL b' hf
 ·by_cases e':b'=b
  ·subst e';simp only[St.cM,aL.aU,eL,iZ,qS] at hb';obtain⟨rfl,rfl⟩:=hb';exact⟨ccs,k3,k4,k5,k6⟩
  ·simp only[St.cM,aL.aU,dA _ _ _ _ e'] at hb';exact hr.hr.box b' cs' ty' hb'
 ·have:b'≠b:=fun e'=>k7 (.inr ⟨g,x,v,j1,j2,e' ▸ j3⟩);simp only[St.cM,aL.aU,dA _ _ _ _ this];exact hr.hr.nobox g x v b' j1 j2 j3
 ·have:=hr.tmps t;simp only[St.cM];cases hv:st.E t<;>rw[hv] at this<;>simp only[jH]<;>first|exact this|skip
  rename_i t1 off;obtain⟨hne,b1,hb1,hpv⟩:=this;split
  ·rename_i e';subst e';obtain rfl:b1=b:=eS (hb1.symm.trans k1);rw[hpv];exact bJ.ptr _ _
  ·rename_i e';exact⟨by simpa[cA,e'] using hne,b1,hb1,hpv⟩
 ·have e':t≠t0:=fun e'=>by subst e';simp[St.cM,cA] at ht
  simp only[St.cM,dA _ _ _ _ e'] at ht;obtain⟨b2,j1,j2,j3,j4,j5⟩:=hr.loc t cs' ty' ht;refine⟨b2,j1,j2,j3,j4,fun hf=>?_⟩;rcases hfoot b2 hf with rfl|hf
  ·exact e' (hr.inj t t0 b2 (by rw[ht];simp) (by rw[hl];simp) j1 k1)
  ·exact j5 hf
 ·have f:∀t,(cA st.loc t0 none) t≠none->st.loc t≠none:=fun t ht=>by
   by_cases e':t=t0
   ·subst e';simp[cA] at ht
   ·simpa[cA,e'] using ht
  exact hr.inj t t' b' (f t h1) (f t' h2)
def cW.setLoc {n0:nS} {G:bC} {be:Nat->Option Nat} {st:St} {a:Act} {w:World} (h:cW n0 G be st a w) {t0 b:Nat} {cs:List V} {ty:TypeId} (hl:st.loc t0=some (cs,ty)) (hb:be t0=some b) {cs':List V} {ccs':Array Value} (hsl:cs'.length=cs.length) (hr:bZ G cs' ccs'.toList) (h1:∀v∈ccs'.toList,v.oneCell'=true):
 cW n0 G be { st with loc:=cA st.loc t0 (some (cs',ty)) } a (w.setRow b ccs')∧(¬dL G st.s b)∧n0.n<=b:=by
 obtain⟨b',k1,k2,⟨ccs,k3,k4⟩,k5,k6⟩:=h.loc t0 cs ty hl;obtain rfl:b'=b:=eS (k1.symm.trans hb);refine⟨⟨?_,h.n,h.df,fun t=>(h.tmps t).lX fun t' ht'=>⟨?_,rfl⟩,fun t cs'' ty'' ht=>?_,fun t1 t2 b0 e1 e2=>?_⟩,k6,k2⟩
 ·refine h.hr.same (fun b o v hv=>?_) (fun b hb=>setRow_other _ _ _ _ (fun e=>k6 (e ▸ hb))) (fun b x hb=>setRow_other _ _ _ _ (fun e=>by
   have hx:=h.hr.ob b x hb;rw[e,k3] at hx;have:=eS hx.2;subst this;exact absurd hx.1 (by simp[wJ]))) (Rc k3 (by have q1:=hr.1;have q2:=k4.1.1;simp at q1 q2;omega))
  refine cell_setRow_other _ _ _ _ (fun e=>?_);simp only at e;rw[e,k5 o] at hv;cases hv
 ·by_cases e:t'=t0
  ·subst e;simp[cA]
  ·simpa[cA,e] using ht'
 ·by_cases e:t=t0
  ·subst e;simp only[eL,iZ,qS] at ht;obtain⟨rfl,rfl⟩:=ht;exact⟨b',hb,k2,⟨ccs',setRow_heap _ _ _ _ _ _ k3,hr,h1⟩,k5,k6⟩
  ·simp only[dA _ _ _ _ e] at ht;obtain⟨b2,j1,j2,⟨c2,j3,j4⟩,j5⟩:=h.loc t cs'' ty'' ht;have hne:b2≠b':=fun e'=>e (h.inj t t0 b2 (by rw[ht];simp) (by rw[hl];simp) j1 (e' ▸ hb));exact⟨b2,j1,j2,⟨c2,(setRow_other _ _ _ _ hne).trans j3,j4⟩,j5⟩
 ·have f:∀t,(cA st.loc t0 (some (cs',ty))) t≠none->st.loc t≠none:=fun t ht=>by
   by_cases e:t=t0
   ·subst e;rw[hl];simp
   ·simpa[cA,e] using ht
  exact h.inj t1 t2 b0 (f t1 e1) (f t2 e2)
def Yo {cs l:List V} {off:Nat} (h:off+l.length<=cs.length):(sT cs off l).length=cs.length:=by
 unfold sT;simp;omega
def cS.aU {G:bC} {s:aL} {w:World} (h:cS G s w) {b:Nat} {cs:List V} {ty:TypeId} (hb:s.box b=some (cs,ty)) {cs':List V} {ccs':Array Value} (hsl:cs'.length=cs.length) (hr:bZ G cs' ccs'.toList) (h1:∀v∈ccs'.toList,v.oneCell'=true):
 cS G (s.aU b (cs',ty)) (w.setRow b ccs')∧dD G s w G (s.aU b (cs',ty)) (w.setRow b ccs'):=by
 obtain⟨ccs,k1,k2,k3,k4⟩:=h.box b cs ty hb;have hfoot:∀b',dL G (s.aU b (cs',ty)) b'->dL G s b':=fun b' hf=>by
  rcases hf with hf|hf
  ·by_cases e:b'=b
   ·subst e;exact .inl (by rw[hb];simp)
   ·exact .inl (by simpa[aL.aU,cA,e] using hf)
  ·exact .inr hf
 refine⟨⟨fun b' o v hv=>?_,fun b' cs'' ty'' hb'=>?_,fun g e sz hg=>?_,h.sep,fun g x v b' j1 j2 j3=>?_,h.fin,fun k x hk=>⟨(h.ob k x hk).1,(setRow_other _ _ _ _ (fun e=>by
  have hx:=h.ob k x hk;rw[e,k1] at hx;have:=eS hx.2;subst this;exact absurd hx.1 (by simp[wJ]))).trans (h.ob k x hk).2⟩,h.tab,h.siz.of (Rc k1 (by have q1:=hr.1;have q2:=k2.1;simp at q1 q2;omega))⟩,⟨.refl G,by simp,rfl,rfl,rfl,fun b' hb' hf=>setRow_other _ _ _ _ (fun e=>hf (e ▸ .inl (by rw[hb];simp))),fun b' hb'=>.inl (hfoot b' hb'),fun _ _ h=>.inl h,fun _ h=>.inl h⟩⟩
 ·refine(cell_setRow_other _ _ _ _ (fun e=>?_)).trans (h.dO b' o v hv);simp only at e;rw[e,k4 o] at hv;cases hv
 ·by_cases e:b'=b
  ·subst e;simp only[aL.aU,eL,iZ,qS] at hb';obtain⟨rfl,rfl⟩:=hb';exact⟨ccs',setRow_heap _ _ _ _ _ _ k1,hr,h1,k4⟩
  ·simp only[aL.aU,dA _ _ _ _ e] at hb';obtain⟨c2,j1,j2⟩:=h.box b' cs'' ty'' hb';exact⟨c2,(setRow_other _ _ _ _ e).trans j1,j2⟩
 ·obtain⟨v,hv,ho⟩:=h.own g e sz hg;refine⟨v,hv,?_⟩;rcases ho with⟨a,rfl⟩|⟨b',n,cap,cur,rfl,j1,j2⟩
  ·exact .inl ⟨a,rfl⟩
  ·have hne:b'≠b:=fun e'=>by
    have:=h.nobox g _ _ b' hg hv rfl;rw[e',hb] at this;cases this
   exact .inr ⟨b',n,cap,cur,rfl,(setRow_other _ _ _ _ hne).trans j1,j2⟩
 ·by_cases e:b'=b
  ·subst e;have:=h.nobox g x v b' j1 j2 j3;rw[hb] at this;cases this
  ·simp only[aL.aU,dA _ _ _ _ e];exact h.nobox g x v b' j1 j2 j3
def dD.setRow {G G':bC} {s s':aL} {w w':World} (h:dD G s w G' s' w') {b:Nat} (hb:w.heap.size<=b) (ccs:Array Value):dD G s w G' s' (w'.setRow b ccs):=
 ⟨h.le,by simpa using h.size,h.os,h.tape,h.output,fun b' hb' hf=>(setRow_other _ _ _ _ (by omega)).trans (h.keep b' hb' hf),h.dL,h.dO,h.keys⟩
def Yn {G:bC} {cs l:List V} {vs vl:List Value} (h:bZ G cs vs) (hl:bZ G l vl) (off:Nat):bZ G (sT cs off l) (vs.take off++vl++vs.drop (off+vl.length)):=by
 unfold sT;rw[<-hl.1];exact((h.take off).append hl).append (h.drop _)
def Yd {t:TypeId} {d:iC} (hd:bT P t=some d) {v:Value} {b off:Nat} {ccs:Array Value} {ty:TypeId} (w:World) (hb:w.heap[b]? =some (.cells ccs ty (0,0))) (hs:v.cells.size=d.size) (hle:off+d.size<=ccs.size) (h1:∀x∈v.cells.toList,x.oneCell'=true):
 (Instr.storeAt t (.pointer (some ⟨b,off,none⟩)) v).run P w= .ok () (w.setRow b (ccs.toList.take off++v.cells.toList++ccs.toList.drop (off+v.cells.toList.length)).toArray):=by
 obtain⟨i,u,z,hi,hu,hz,e1,e2,e3,e4,e5⟩:=gE hd;have hsz:(sizeOf t).run P w= .ok d.size w:=by simp[sizeOf,typeInfo,hi,e1]
 have hst:=run_storeCells_at P b off ty v.cells.toList 0 ccs w hb (by simpa[hs] using hle) h1;rw[Nat.add_zero] at hst;simp only[Instr.storeAt,Instr.sureAddr,Sem.run_bind,Sem.run_pure,Result.andThen_ok,storeVar,hsz,hs,ne_eq,not_true_eq_false,if_false];simpa using hst
def Xm {vs vl:List Value} {off:Nat} (h:∀v∈vs,v.oneCell'=true) (hl:∀v∈vl,v.oneCell'=true):∀v∈vs.take off++vl++vs.drop (off+vl.length),v.oneCell'=true:=by
 intro v hv;simp only[lN] at hv;rcases hv with(hv|hv)|hv
 ·exact h v (Du hv)
 ·exact hl v hv
 ·exact h v (Gz hv)
def MD {e:Entry} {o:Oper} {t:TypeId} {x y:Operand} (ho:o.op= .store t x y) {st:St} {K:St->Prop} {a:Act} {w:World} {Q:Exit->Act->World->Prop} (h:Cm P o t x y st K) (hin:In e st a w):o.wp P a w (jC e K) Q:=by
 unfold Cm at h;split at h
 ·rename_i d hd;obtain⟨hall,hlen,hdst,h⟩:=h;obtain⟨G,be,hx,hr⟩:=hin;obtain⟨hyr,hy1⟩:=Mt (hr.eval y) hall;have hys:(a.eval y).cells.size=d.size:=by have:=hyr.1;simp at this;omega
  split at h
  ·rename_i b off hxv;split at h
   ·rename_i cs ty hb;obtain⟨hle,hK⟩:=h;obtain⟨bl,k1,k2,⟨ccs,k3,k4,k5⟩,k6,k7⟩:=hr.loc b cs ty hb;obtain⟨bl',k1',hv⟩:=Tp hr hxv;obtain rfl:bl'=bl:=eS (k1'.symm.trans k1);have hcs:ccs.size=cs.length:=by have:=k4.1;simp at this;omega
    have hrun:=Yd (P:=P) hd (v:=a.eval y) (b:=bl') (off:=off) w k3 hys (by omega) hy1;obtain⟨hA,_,hn0⟩:=hr.setLoc hb k1 (cs':=sT cs off (st.eval y).cells) (ccs':=(ccs.toList.take off++(a.eval y).cells.toList++ccs.toList.drop (off+(a.eval y).cells.toList.length)).toArray) (Yo (by omega)) (by simpa using Yn k4 hyr off) (by simpa using Xm k5 hy1);unfold Oper.wp;have:(execOp a.eval o).run P w= .ok .skip (w.setRow bl' (ccs.toList.take off++(a.eval y).cells.toList++ccs.toList.drop (off+(a.eval y).cells.toList.length)).toArray):=by
     unfold execOp;simp only[ho,hv,Sem.run_bind,hrun,Result.andThen_ok,Sem.run_pure]
    rw[this];refine⟨_,hK,G,be,?_,hA.put o.dst (uZ hdst) (bJ.base _)⟩;have hs:∀(s1:St) (v:V),(s1.put o.dst v).s=s1.s:=fun s1 v=>by cases o.dst<;>rfl
    rw[hs];exact hx.setRow hn0 _
   ·exact h.elim
  ·rename_i b off hxv;split at h
   ·rename_i cs ty hb;obtain⟨hle,hK⟩:=h;obtain⟨ccs,k3,k4,k5,k6⟩:=hr.hr.box b cs ty hb;have hh:=hr.eval x;rw[hxv] at hh;have hv:a.eval x= .pointer (some ⟨b,off,none⟩):=by
     generalize hv:a.eval x=v at hh;cases (show bJ G (.ptr b off) v from hh);rfl
    have hcs:ccs.size=cs.length:=by have:=k4.1;simp at this;omega
    have hrun:=Yd (P:=P) hd (v:=a.eval y) (b:=b) (off:=off) w k3 hys (by omega) hy1;obtain⟨hH,hX⟩:=hr.hr.aU hb (cs':=sT cs off (st.eval y).cells) (ccs':=(ccs.toList.take off++(a.eval y).cells.toList++ccs.toList.drop (off+(a.eval y).cells.toList.length)).toArray) (Yo (by omega)) (by simpa using Yn k4 hyr off) (by simpa using Xm k5 hy1);unfold Oper.wp;have:(execOp a.eval o).run P w= .ok .skip (w.setRow b (ccs.toList.take off++(a.eval y).cells.toList++ccs.toList.drop (off+(a.eval y).cells.toList.length)).toArray):=by
     unfold execOp;simp only[ho,hv,Sem.run_bind,hrun,Result.andThen_ok,Sem.run_pure]
    rw[this];have hA:cW e.base G be { st with s:=st.s.aU b (sT cs off (st.eval y).cells,ty) } a (w.setRow b (ccs.toList.take off++(a.eval y).cells.toList++ccs.toList.drop (off+(a.eval y).cells.toList.length)).toArray):=
     ⟨hH,hr.n,hr.df,hr.tmps,fun t' cs' ty' ht'=>by
      obtain⟨bl,j1,j2,⟨c2,j3,j4⟩,j5,j6⟩:=hr.loc t' cs' ty' ht';have hne:bl≠b:=fun e'=>j6 (.inl (by rw[e',hb];simp));refine⟨bl,j1,j2,⟨c2,(setRow_other _ _ _ _ hne).trans j3,j4⟩,j5,fun hf=>?_⟩;rcases hX.dL bl hf with x|x
      ·exact j6 x
      ·have:=(gZ.1 j3).1;omega,hr.inj⟩
    refine⟨_,hK,G,be,?_,hA.put o.dst (uZ hdst) (bJ.base _)⟩;have hs:∀(s1:St) (v:V),(s1.put o.dst v).s=s1.s:=fun s1 v=>by cases o.dst<;>rfl
    rw[hs];exact hx.trans hX
   ·exact h.elim
  ·exact h.elim
 ·exact h.elim
end
section
variable {P:Program}
def uH (st:St) (d:Option Tmp) (v:V):(st.put d v).s=st.s:=by cases d<;>rfl
def cW.ext {n0:nS} {G G':bC} {be:Nat->Option Nat} {st:St} {a:Act} {w w':World} {s':aL} (h:cW n0 G be st a w) (hx:dD G st.s w G' s' w') (hh:cS G' s' w'):cW n0 G' be { st with s:=s' } a w':=by
 refine⟨hh,h.n,h.df.mono hx.le,fun t=>(h.tmps t).mono hx.le,fun t cs ty ht=>?_,h.inj⟩;obtain⟨b,k1,k2,⟨ccs,k3,k4,k5⟩,k6,k7⟩:=h.loc t cs ty ht;have hlt:b<w.heap.size:=(gZ.1 k3).1;refine⟨b,k1,k2,⟨ccs,(hx.keep b hlt k7).trans k3,k4.mono hx.le,k5⟩,fun o=>?_,fun hf=>?_⟩
 ·cases hq:G'.F b o with
  |none=>rfl
  |some v=>
   rcases hx.dO b o (by rw[hq];simp) with x|x|x
   ·exact absurd (k6 o) x
   ·exact absurd x k7
   ·omega
 ·rcases hx.dL b hf with x|x
  ·exact k7 x
  ·omega
def NG {e:Entry} {o:Oper} {t:TypeId} {x:Operand} (ho:o.op= .load t x) {st:St} {K:St->Prop} {a:Act} {w:World} {Q:Exit->Act->World->Prop} (h:vT P o t x st K) (hin:In e st a w):o.wp P a w (jC e K) Q:=by
 unfold vT at h;split at h
 ·rename_i b off hxv;split at h
  ·rename_i d cs ty hd hb;split at h
   ·rename_i v hv;obtain⟨hdst,hK⟩:=h;obtain⟨G,be,hx,hr⟩:=hin;obtain⟨ccs,k3,k4,k5,k6⟩:=hr.hr.box b cs ty hb;have hh:=hr.eval x;rw[hxv] at hh;have hpv:a.eval x= .pointer (some ⟨b,off,none⟩):=by
     generalize hq:a.eval x=q at hh;cases (show bJ G (.ptr b off) q from hh);rfl
    obtain⟨cv,hrun,hrep⟩:=Ix (P:=P) (w:=w) (b:=b) (o:=0) k4 (fun j v hv=>by rw[kH,cell_of_row w b j ccs ty _ k3];simpa using hv) hd hv;rw[kH] at hrun;unfold Oper.wp;have:(execOp a.eval o).run P w= .ok (.value cv) w:=by
     unfold execOp;simp only[ho,hpv,Sem.run_bind,hrun,Result.andThen_ok,Sem.run_pure]
    rw[this];refine⟨_,hK,G,be,?_,hr.put o.dst (uZ hdst) (eE.kF hrep)⟩;rw[uH];exact hx
   ·exact h.elim
  ·exact h.elim
 ·exact Yk h hin
def NH {e:Entry} {o:Oper} {f:Operand} {args:Array Operand} {ts:Array TypeId} (ho:o.op= .call { callee:=.value f,args:=args,argTypes:=ts }) {st:St} {K:St->Prop} {a:Act} {w:World} {Q:Exit->Act->World->Prop}
 (hQ:PQ e Q) (h:Aq P o f args st K) (hin:In e st a w):o.wp P a w (jC e K) Q:=by
 unfold Aq at h;split at h
 ·rename_i k first cap hf
  split at h
  ·rename_i vs hvs;obtain⟨hdst,⟨fn,hfn,hbody,hname⟩,hc⟩:=h;obtain⟨G,be,hx,hr⟩:=hin;have hh:=hr.eval f;rw[hf] at hh;generalize hq:a.eval f=q at hh;cases (show bJ G (.func k first cap) q from hh) with
   |func _ _ _ cf cc l1 l2 r1 r2=>
    have hargs:=Ho hr _ _ hvs;have hcall:=hc G w (cf++args.map a.eval++cc) hr.hr (by
     have:=((sP l1 r1).append hargs).append (sP l2 r2);simpa using this)
    unfold Oper.wp;have:(execOp a.eval o).run P w= .ok (.enter k (cf++args.map a.eval++cc)) w:=by
     unfold execOp;have hb':fn.body.isNone=false:=hbody;simp only[ho,resolve,hq,Deferred.ofValue,Sem.run_bind,Sem.run_pure,Result.andThen_ok,invoke,callFunc,run_program,hfn,hname,Bool.false_eq_true,if_false,hb']
    rw[this];refine hcall.mono ?_;rintro e' w' (⟨G',s',v,cv,rfl,hv,hx',hh',hR⟩|⟨G',s',v,rfl,hx',hh',hds,hp⟩)
    ·refine⟨_,hR,G',be,?_,(hr.ext hx' hh').put o.dst (uZ hdst) (eE.kF hv)⟩;rw[uH];exact hx.trans hx'
    ·exact hQ _ _ _ ⟨v,G',s',rfl,by rw[hr.df.eq,hds];rfl,hx.trans hx',hh',(show st.pp=e.pp from hr.df.pp) ▸ hp⟩
  ·exact h.elim
 ·exact h.elim
def bC.kE (G:bC) (b lo:Nat) (news:List Value) (g:Nat) (v:Value):bC:=
 { F:=fun b' o=>if b'=b∧lo<=o∧o<lo+news.length then news[o-lo]? else G.F b' o,om:=cA G.om g (some v),ob:=G.ob }
def bC.Gv {G:bC} {b lo:Nat} (news:List Value) {g:Nat} (v:Value) (hF:∀o,lo<=o->G.F b o=none) (hg:G.om g=none):G.Le (G.kE b lo news g v) where
 f:=fun b' o x hx=>by
  simp only[bC.kE];split
  ·rename_i h;obtain⟨rfl,h1,_⟩:=h;rw[hF o h1] at hx;cases hx
  ·exact hx
 o:=fun g' x hx=>by
  have:g'≠g:=fun e=>by subst e;rw[hg] at hx;cases hx
  simpa[bC.kE,cA,this] using hx
 b:=fun _ _ hx=>hx
def cS.KG {G:bC} {s:aL} {w:World} (h:cS G s w) {b lo n cap sz:Nat} {news:List Value} {cur:Array Value} {e:TypeId} {g:Nat} (hb:w.heap[b]? =some (.cells cur e (0,0))) (hnf:¬dL G s b) (hF:∀o,lo<=o->G.F b o=none)
 (hg:G.om g=none) (hcur:∀(j:Nat) v,news[j]? =some v->cur[lo+j]? =some v) (hlo:lo+news.length=n*sz) (hsz:cur.size=(cap+1)*sz) (hn:n<=cap+1) (hm:cap+1<=maxLen):
 cS (G.kE b lo news g (.slice (some ⟨b,0,none⟩) n (cap+1))) (s.cI g (some (e,sz))) w where
 dO:=fun b' o v hv=>by
  simp only[bC.kE] at hv;split at hv
  ·rename_i hc;obtain⟨rfl,h1,h2⟩:=hc;rw[cell_of_row w b' o cur e _ hb];have:=hcur (o-lo) v hv;rwa[show lo+(o-lo)=o by omega] at this
  ·exact h.dO b' o v hv
 box:=fun b' cs ty hx=>by
  obtain⟨c',h1,h2,h3,h4⟩:=h.box b' cs ty hx;have hne:b'≠b:=fun e'=>hnf (.inl (by rw[<-e',show s.box b'=some (cs,ty) from hx];simp));refine⟨c',h1,h2.mono (bC.Gv news _ hF hg),h3,fun o=>?_⟩;simp[bC.kE,hne,h4 o]
 own:=fun g' e' sz' hx=>by
  by_cases eg:g'=g
  ·subst eg;simp only[aL.cI,eL,iZ,qS] at hx;obtain⟨rfl,rfl⟩:=hx;refine⟨_,eL _ _ _,.inr ⟨b,n,cap,cur,rfl,hb,hsz,hn,hm,fun o ho=>?_⟩⟩;simp only[bC.kE];rw[if_neg (by omega)];exact hF o (by omega)
  ·simp only[aL.cI,dA _ _ _ _ eg] at hx;obtain⟨v,hv,ho⟩:=h.own g' e' sz' hx;refine⟨v,by simpa[bC.kE,cA,eg] using hv,?_⟩;rcases ho with⟨a,rfl⟩|⟨b',n',cap',cur',rfl,h1,h2,h3,h4,h5⟩
   ·exact .inl ⟨a,rfl⟩
   ·have hne:b'≠b:=fun e''=>hnf (.inr ⟨g',_,_,hx,hv,by simp[jT,e'']⟩);exact .inr ⟨b',n',cap',cur',rfl,h1,h2,h3,h4,fun o ho=>by simp[bC.kE,hne,h5 o ho]⟩
 sep:=fun g1 g2 x1 x2 v1 v2 b' k1 k2 k3 k4 k5 k6=>by
  by_cases e1:g1=g
  ·by_cases e2:g2=g
   ·rw[e1,e2]
   ·exfalso;subst e1;simp only[aL.cI,dA _ _ _ _ e2] at k2;simp only[bC.kE,eL,iZ] at k3;simp only[bC.kE,dA _ _ _ _ e2] at k4;subst k3;simp[jT] at k5;exact hnf (.inr ⟨g2,_,_,k2,k4,by rw[k6,k5]⟩)
  ·by_cases e2:g2=g
   ·exfalso;subst e2;simp only[aL.cI,dA _ _ _ _ e1] at k1;simp only[bC.kE,eL,iZ] at k4;simp only[bC.kE,dA _ _ _ _ e1] at k3;subst k4;simp[jT] at k6;exact hnf (.inr ⟨g1,_,_,k1,k3,by rw[k5,k6]⟩)
   ·simp only[aL.cI,dA _ _ _ _ e1] at k1;simp only[aL.cI,dA _ _ _ _ e2] at k2;simp only[bC.kE,dA _ _ _ _ e1] at k3;simp only[bC.kE,dA _ _ _ _ e2] at k4;exact h.sep g1 g2 x1 x2 v1 v2 b' k1 k2 k3 k4 k5 k6
 nobox:=fun g' x v b' k1 k2 k3=>by
  by_cases eg:g'=g
  ·subst eg;simp only[bC.kE,eL,iZ] at k2;subst k2;simp[jT] at k3;cases hx:s.box b' with
   |none=>exact hx
   |some y=>exact absurd (.inl (by rw[k3,hx];simp)) hnf
  ·simp only[aL.cI,dA _ _ _ _ eg] at k1;simp only[bC.kE,dA _ _ _ _ eg] at k2;exact h.nobox g' x v b' k1 k2 k3
 fin:=by
  obtain⟨N,hN⟩:=h.fin;refine⟨max N (g+1),fun g' hg'=>?_⟩;have:g'≠g:=by omega
  have:=hN g' (by omega);simp[bC.kE,aL.cI,cA, *]
 ob:=h.ob
 tab:=h.tab.mono (bC.Gv news _ hF hg).f
 siz:=h.siz
def cS.claim0 {G:bC} {s:aL} {w:World} (h:cS G s w) {a:Option Addr} {e:TypeId} {sz g:Nat} (hg:G.om g=none):
 G.Le { G with om:=cA G.om g (some (.slice a 0 0)) }∧cS { G with om:=cA G.om g (some (.slice a 0 0)) } (s.cI g (some (e,sz))) w∧
 ∀b,dL { G with om:=cA G.om g (some (.slice a 0 0)) } (s.cI g (some (e,sz))) b->dL G s b:=by
 have hle:G.Le { G with om:=cA G.om g (some (.slice a 0 0)) }:=⟨fun _ _ _ h=>h,fun g' v hv=>by
  have:g'≠g:=fun e=>by subst e;rw[hg] at hv;cases hv
  simpa[cA,this] using hv,fun _ _ hx=>hx⟩
 have hb0:jT (.slice a 0 0)=none:=by cases a<;>rfl
 refine⟨hle,⟨h.dO,fun b cs ty hx=>?_,fun g' e' sz' hx=>?_,fun g1 g2 x1 x2 v1 v2 b' k1 k2 k3 k4 k5 k6=>?_,fun g' x v b' k1 k2 k3=>?_,?_,h.ob,h.tab,h.siz⟩,fun b hf=>?_⟩
 ·obtain⟨c',h1,h2,h3⟩:=h.box b cs ty hx;exact⟨c',h1,h2.mono hle,h3⟩
 ·by_cases eg:g'=g
  ·subst eg;exact⟨_,eL _ _ _,.inl ⟨a,rfl⟩⟩
  ·simp only[aL.cI,dA _ _ _ _ eg] at hx;obtain⟨v,hv,ho⟩:=h.own g' e' sz' hx;exact⟨v,by simpa[cA,eg] using hv,ho⟩
 ·have f:∀g1 v1,(cA G.om g (some (.slice a 0 0))) g1=some v1->jT v1=some b'->g1≠g:=fun g1 v1 k k' e=>by
   subst e;rw[eL] at k;cases k;rw[hb0] at k';cases k'
  have e1:=f g1 v1 k3 k5;have e2:=f g2 v2 k4 k6;simp only[aL.cI,dA _ _ _ _ e1] at k1;simp only[aL.cI,dA _ _ _ _ e2] at k2;simp only[dA _ _ _ _ e1] at k3;simp only[dA _ _ _ _ e2] at k4;exact h.sep g1 g2 x1 x2 v1 v2 b' k1 k2 k3 k4 k5 k6
 ·have eg:g'≠g:=fun e=>by
   subst e;simp only[eL,iZ] at k2;subst k2;rw[hb0] at k3;cases k3
  simp only[aL.cI,dA _ _ _ _ eg] at k1;simp only[dA _ _ _ _ eg] at k2;exact h.nobox g' x v b' k1 k2 k3
 ·obtain⟨N,hN⟩:=h.fin;refine⟨max N (g+1),fun g' hg'=>?_⟩;have:g'≠g:=by omega
  have:=hN g' (by omega);simp[aL.cI,cA, *]
 ·rcases hf with hf|⟨g',x,v,k1,k2,k3⟩
  ·exact .inl hf
  ·have eg:g'≠g:=fun e=>by
    subst e;simp only[eL,iZ] at k2;subst k2;rw[hb0] at k3;cases k3
   simp only[aL.cI,dA _ _ _ _ eg] at k1;simp only[dA _ _ _ _ eg] at k2;exact .inr ⟨g',x,v,k1,k2,k3⟩
def WA {G:bC} {be:Nat->Option Nat} {loc:Nat->Option (List V×TypeId)} {c:V} {v:Value} {sz:Nat} {xs:List (List V)} (h:eE G be loc c v) (hx:Kx sz c=some xs):bJ G (.slice sz xs) v:=by
 cases c<;>simp[Kx] at hx
 case base x=>
  split at hx
  ·rename_i e;cases e
  ·rename_i e;cases e
  ·rename_i e;simp at hx;subst hx;cases e
   cases (show bJ G (.base _) v from h)
   exact .slice0 _ _ _
  ·rename_i e;cases e
  ·rename_i e;cases e
  ·simp at hx
 case nil=>subst hx;cases (show bJ G .nil v from h);exact .slice0 _ _ _
 case zcap=>subst hx;cases (show bJ G .zcap v from h);exact .slice0 _ _ _
 case slice=>obtain⟨rfl,rfl⟩:=hx;exact h
 case own=>obtain⟨rfl,rfl⟩:=hx;cases (show bJ G (.own _ _ _) v from h) with|own _ _ _ _ h _=>exact h
end
section
variable {P:Program}
def Sr {G:bC} {s:aL} {w:World} (h:cS G s w) {sz:Nat} {xs:List (List V)} {v:Value} (hr:bJ G (.slice sz xs) v):
 (xs=[]∧∃a c,v= .slice a 0 c)∨∃a c,∃cells:Nat->Value,v= .slice (some a) xs.length c∧0<xs.length∧(∀(j:Nat) u,((List.range (xs.length*sz)).map cells)[j]? =some u->w.cell? (a.add j)=some u)∧
  (∀u∈(List.range (xs.length*sz)).map cells,u.oneCell'=true)∧(∀cs∈xs,cs.length=sz)∧(∀(i j:Nat) cs c,xs[i]? =some cs->cs[j]? =some c->bJ G c (cells (i*sz+j))):=by
 cases hr with
 |slice0 _ a c=>exact .inl ⟨rfl,_,_,rfl⟩
 |slice _ _ b o cap cells c1 c2 c3 c4 c5 c6=>
  by_cases hx:xs=[]
  ·subst hx;exact .inl ⟨rfl,_,_,rfl⟩
  ·refine .inr ⟨_,cap,cells,rfl,List.length_pos_iff.2 hx,fun j u hu=>?_,fun u hu=>?_,c1,c5⟩
   ·rw[qQ] at hu;by_cases hj:j<xs.length*sz
    ·rw[Hb hj] at hu;obtain rfl:=eS hu;rw[Ca];exact h.dO _ _ _ (c4 j hj)
    ·rw[Gy (by simpa using hj)] at hu;cases hu
   ·obtain⟨k,hk,rfl⟩:=qB.1 hu;exact c6 k (zQ.1 hk)
def Xj {t ty e:TypeId} {i:TypeInfo} (ht:P.underlying t=some (.slice e)) (hi:P.info? e=some i) (b:Option Addr) (n cap:Nat) (hn:n<=cap) (a:Option Addr) (c:Nat) (w:World):
 (Builtin.append_ #[t,t] ty #[.slice b n cap,.slice a 0 c]).run P w= .ok (.slice b n cap) w:=by
 cases a<;>cases b<;>simp[Builtin.append_,run_underlying ht,sizeOf,typeInfo,hi,Builtin.lenOf,hn,Builtin.firstCells,loadCells,loadCellsFrom,storeCells]
def Qy {o:Oper} {x y:Operand} {t:TypeId} (ho:o.op= .call { callee:=.builtin .append,args:= #[x,y],argTypes:= #[t,t] }) {a:Act} {w w':World} {v:Value} (h:(Builtin.append_ #[t,t] o.type #[a.eval x,a.eval y]).run P w= .ok v w'):
 (execOp a.eval o).run P w= .ok (.value v) w':=by
 unfold execOp;simp[ho,resolve,invoke,builtin,h]
def QH {G:bC} {sz:Nat} {es:List (List V)} {v:Value} (h:bJ G (.slice sz es) v):∃b cap,v= .slice b es.length cap:=by
 cases h<;>exact⟨_,_,rfl⟩
def MJ {G:bC} {s:aL} {w:World} (h:cS G s w) {sz:Nat} {es:List (List V)} {b o n cap:Nat} (hr:bJ G (.slice sz es) (.slice (some ⟨b,o,none⟩) n cap)):
 ∃cells:Nat->Value,(∀k,k<es.length*sz->G.F b (o+k)=some (cells k))∧(∀cs∈es,cs.length=sz)∧(∀(i j:Nat) cs c,es[i]? =some cs->cs[j]? =some c->bJ G c (cells (i*sz+j)))∧(∀k,k<es.length*sz->(cells k).oneCell'=true):=by
 cases hr with
 |slice0=>exact⟨fun _=>undef,by simp,by simp,by simp,by simp⟩
 |slice _ _ _ _ _ cells c1 c2 c3 c4 c5 c6=>exact⟨cells,c4,c1,c5,c6⟩
def PH {G:bC} {s:aL} {w:World} (h:cS G s w) {t ty e:TypeId} {i:TypeInfo} {z:Value} (ht:P.underlying t=some (.slice e)) (hi:P.info? e=some i) (hz:i.zero=some z) (hzs:z.cells.size=i.size) (hsz:0<i.size)
 {v0 vy:Value} {es xs:List (List V)} (hv0:bJ G (.slice i.size es) v0) (hy:bJ G (.slice i.size xs) vy) (hfit:(es.length+xs.length)*i.bytes<=2^47) (hmax:es.length+xs.length<=maxLen)
 (hown:(∃a,v0= .slice a 0 0)∨∃g0,s.own g0=some (e,i.size)∧G.om g0=some v0):
 ∃v' w' G',(Builtin.append_ #[t,t] ty #[v0,vy]).run P w= .ok v' w'∧∃g,s.own g=none∧bJ G' (.own g i.size (es++xs)) v'∧
  (∀g0,(s.own g0=some (e,i.size)∧G.om g0=some v0)∨((∃a,v0= .slice a 0 0)∧s.own g0=none)->cS G' ((s.cI g0 none).cI g (some (e,i.size))) w'∧dD G s w G' ((s.cI g0 none).cI g (some (e,i.size))) w'):=by
 obtain⟨N,hN⟩:=h.fin;obtain⟨hNo,hNs⟩:=hN N (dS _);have hkill:∀g0,s.le (s.cI g0 none):=fun g0=>⟨fun b=>.inl rfl,fun g=>by
  by_cases e:g=g0
  ·exact .inr (by simp[aL.cI,cA,e])
  ·exact .inl (by simp[aL.cI,cA,e])⟩
 have hkeys:∀g0 g,((s.cI g0 none).cI N (some (e,i.size))).own g≠none->s.own g≠none∨G.om g=none:=fun g0 g hg=>by
  by_cases eN:g=N
  ·exact .inr (eN ▸ hNo)
  ·simp only[aL.cI,dA _ _ _ _ eN] at hg;by_cases e0:g=g0
   ·subst e0;simp[cA] at hg
   ·simp only[dA _ _ _ _ e0] at hg;exact .inl hg
 have hval:(∃a,v0= .slice a 0 0)∨∃g0 b cap cur,s.own g0=some (e,i.size)∧G.om g0=some v0∧v0= .slice (some ⟨b,0,none⟩) es.length (cap+1)∧w.heap[b]? =some (.cells cur e (0,0))∧cur.size=(cap+1)*i.size∧es.length<=cap+1∧cap+1<=maxLen∧(∀o,es.length*i.size<=o->G.F b o=none):=by
  rcases hown with h0|⟨g0,k1,k2⟩
  ·exact .inl h0
  ·obtain⟨v,hv,ho⟩:=h.own g0 e i.size k1;obtain rfl:v=v0:=eS (hv.symm.trans k2);rcases ho with⟨a,rfl⟩|⟨b,n,cap,cur,rfl,j1,j2,j3,j4,j5⟩
   ·exact .inl ⟨a,rfl⟩
   ·have hn:n=es.length:=by cases hv0<;>first|rfl|simp
    subst hn;exact .inr ⟨g0,b,cap,cur,k1,k2,rfl,j1,j2,j3,j4,j5⟩
 have hlen0:∀a,v0= .slice a 0 0->es=[]:=fun a e=>by
  obtain⟨b,cap,hq⟩:=QH hv0;rw[e] at hq;cases hq':es with
  |nil=>rfl
  |cons x r=>rw[hq'] at hq;simp at hq
 rcases Sr h hy with⟨rfl,ay,cy,rfl⟩|⟨ay,cy,cells,rfl,hpos,hnews,hone,hclen,hrepx⟩
 ·-- nothing is appended
  simp only[gL];have hn:∃b n cap,v0= .slice b n cap∧n<=cap:=by
   rcases hval with⟨a,rfl⟩|⟨g0,b,cap,cur,_,_,rfl,_,_,hle,_⟩
   ·exact⟨_,_,_,rfl,dS _⟩
   ·exact⟨_,_,_,rfl,hle⟩
  obtain⟨b,n,cap,rfl,hle⟩:=hn;have hrun:=Xj (P:=P) (ty:=ty) ht hi b n cap hle ay cy w;have hle':G.Le { G with om:=cA G.om N (some (.slice b n cap)) }:=⟨fun _ _ _ h=>h,fun g' v hv=>by
   have:g'≠N:=fun e=>by subst e;rw[hNo] at hv;cases hv
   simpa[cA,this] using hv,fun _ _ hx=>hx⟩
  refine⟨_,w,{ G with om:=cA G.om N (some (.slice b n cap)) },hrun,N,hNs,.own _ _ _ _ (hv0.mono hle') (eL _ _ _),fun g0 hg0=>?_⟩;have hw:=h.weaken (hkill g0);rcases hg0 with⟨k1,k2⟩|⟨⟨a,hva⟩,k2⟩
  ·-- the key is renamed
   obtain⟨v,hv,ho⟩:=h.own g0 e i.size k1;obtain rfl:v= .slice b n cap:=eS (hv.symm.trans k2);have hne:g0≠N:=fun e=>by subst e;rw[hNs] at k1;cases k1
   have hfoot:∀b',dL { G with om:=cA G.om N (some (.slice b n cap)) } ((s.cI g0 none).cI N (some (e,i.size))) b'->dL G s b':=fun b' hf=>by
    rcases hf with hf|⟨g',x,v,j1,j2,j3⟩
    ·exact .inl hf
    ·by_cases eN:g'=N
     ·subst eN;simp only[eL,iZ] at j2;subst j2;exact .inr ⟨g0,_,_,k1,k2,j3⟩
     ·simp only[aL.cI,dA _ _ _ _ eN] at j1;simp only[dA _ _ _ _ eN] at j2;by_cases e0:g'=g0
      ·subst e0;simp[cA] at j1
      ·simp only[dA _ _ _ _ e0] at j1;exact .inr ⟨g',x,v,j1,j2,j3⟩
   refine⟨⟨h.dO,fun b' cs ty' hx=>?_,fun g' e' sz' hx=>?_,fun g1 g2 x1 x2 v1 v2 b' j1 j2 j3 j4 j5 j6=>?_,fun g' x v b' j1 j2 j3=>?_,?_,h.ob,h.tab,h.siz⟩,⟨hle',dS _,rfl,rfl,rfl,fun _ _ _=>rfl,fun b' hf=>.inl (hfoot b' hf),fun _ _ h=>.inl h,hkeys g0⟩⟩
   ·obtain⟨c',h1,h2,h3⟩:=h.box b' cs ty' hx;exact⟨c',h1,h2.mono hle',h3⟩
   ·by_cases eN:g'=N
    ·subst eN;simp only[aL.cI,eL,iZ,qS] at hx;obtain⟨rfl,rfl⟩:=hx;exact⟨_,eL _ _ _,ho⟩
    ·simp only[aL.cI,dA _ _ _ _ eN] at hx;obtain⟨v,hv,ho'⟩:=hw.own g' e' sz' hx;exact⟨v,by simpa[cA,eN] using hv,ho'⟩
   ·have key:∀g1 x1 v1,((s.cI g0 none).cI N (some (e,i.size))).own g1=some x1->(cA G.om N (some (.slice b n cap))) g1=some v1->∃gg xx,s.own gg=some xx∧G.om gg=some v1∧(gg=g0↔g1=N)∧(g1≠N->gg=g1):=by
     intro g1 x1 v1 j1 j2;by_cases eN:g1=N
     ·subst eN;simp only[eL,iZ] at j2;subst j2;exact⟨g0,_,k1,k2,by simp,by simp⟩
     ·simp only[aL.cI,dA _ _ _ _ eN] at j1;simp only[dA _ _ _ _ eN] at j2;by_cases e0:g1=g0
      ·subst e0;simp[cA] at j1
      ·simp only[dA _ _ _ _ e0] at j1;exact⟨g1,x1,j1,j2,by simp[eN,e0],fun _=>rfl⟩
    obtain⟨a1,y1,p1,p2,p3,p4⟩:=key g1 x1 v1 j1 j3;obtain⟨a2,y2,q1,q2,q3,q4⟩:=key g2 x2 v2 j2 j4;have:=h.sep a1 a2 y1 y2 v1 v2 b' p1 q1 p2 q2 j5 j6;by_cases e1:g1=N
    ·by_cases e2:g2=N
     ·rw[e1,e2]
     ·have:=q4 e2;have:=p3.2 e1;have:a2=g0:=by omega
      exact absurd (q3.1 this) e2
    ·by_cases e2:g2=N
     ·have:=p4 e1;have:=q3.2 e2;have:a1=g0:=by omega
      exact absurd (p3.1 this) e1
     ·rw[<-p4 e1,<-q4 e2];exact this
   ·have:dL G s b':=hfoot b' (.inr ⟨g',x,v,j1,j2,j3⟩);by_cases eN:g'=N
    ·subst eN;simp only[eL,iZ] at j2;subst j2;exact h.nobox g0 _ _ b' k1 k2 j3
    ·simp only[aL.cI,dA _ _ _ _ eN] at j1;simp only[dA _ _ _ _ eN] at j2;exact hw.nobox g' x v b' j1 j2 j3
   ·refine⟨N+1,fun g' hg'=>?_⟩;have:g'≠N:=by omega
    have:=hN g' (by omega);have e0:g'≠g0:=fun e=>by rw[e,k1] at this;simp at this
    simp[aL.cI,cA, *]
  ·cases hva
   obtain⟨c1,c2,c3⟩:=hw.claim0 (a:=b) (e:=e) (sz:=i.size) (g:=N) hNo;exact⟨c2,⟨c1,dS _,rfl,rfl,rfl,fun _ _ _=>rfl,fun b' hf=>.inl (zZ (hkill g0) (c3 b' hf)),fun _ _ h=>.inl h,hkeys g0⟩⟩
 ·-- what is appended has cells
  have hl:((List.range (xs.length*i.size)).map cells).length=xs.length*i.size:=by simp
  have hNk:∀g0,(s.own g0=some (e,i.size)∧G.om g0=some v0)∨((∃a,v0= .slice a 0 0)∧s.own g0=none)->(s.cI g0 none).own N=none:=fun g0 _=>by
   by_cases e0:N=g0
   ·simp[aL.cI,cA,e0]
   ·simpa[aL.cI,cA,e0] using hNs
  have fresh:∀(olds:List Value) (cap:Nat) (zeros:Array Value),olds.length=es.length*i.size->(∀(k:Nat),k<es.length*i.size->∃u,olds[k]? =some u∧u.oneCell'=true)->(∀(i' j:Nat) cs c,es[i']? =some cs->cs[j]? =some c->∃u,olds[i'*i.size+j]? =some u∧bJ G c u)->(∀cs∈es,cs.length=i.size)->
   es.length+xs.length<=cap+1->cap+1<=maxLen->(olds.toArray++((List.range (xs.length*i.size)).map cells).toArray++zeros).size=(cap+1)*i.size->
   (Builtin.append_ #[t,t] ty #[v0,.slice (some ay) xs.length cy]).run P w= .ok (.slice (some ⟨w.heap.size,0,none⟩) (es.length+xs.length) (cap+1)) (w.drew.alloc (.cells (olds.toArray++((List.range (xs.length*i.size)).map cells).toArray++zeros) e))->
   ∃v' w' G',(Builtin.append_ #[t,t] ty #[v0,.slice (some ay) xs.length cy]).run P w= .ok v' w'∧∃g,s.own g=none∧bJ G' (.own g i.size (es++xs)) v'∧
    (∀g0,(s.own g0=some (e,i.size)∧G.om g0=some v0)∨((∃a,v0= .slice a 0 0)∧s.own g0=none)->cS G' ((s.cI g0 none).cI g (some (e,i.size))) w'∧dD G s w G' ((s.cI g0 none).cI g (some (e,i.size))) w'):=by
   intro olds cap zeros ho1 ho2 ho3 hcl hle hcm hsize hrun;have hm:dP w (w.drew.alloc (.cells (olds.toArray++((List.range (xs.length*i.size)).map cells).toArray++zeros) e)):=(dP.drew w).trans (dP.alloc _ _);have hF:∀o,G.F w.heap.size o=none:=fun o=>by
    cases hx:G.F w.heap.size o with
    |none=>rfl
    |some v=>have:=h.zO (b:=w.heap.size) (o:=o) (by rw[hx];simp);omega
   have hnf:∀g0,¬dL G (s.cI g0 none) w.heap.size:=fun g0 hf=>by have:=h.zM (zZ (hkill g0) hf);omega
   have hb:(w.drew.alloc (.cells (olds.toArray++((List.range (xs.length*i.size)).map cells).toArray++zeros) e)).heap[w.heap.size]? =some (.cells (olds.toArray++((List.range (xs.length*i.size)).map cells).toArray++zeros) e (0,0)):=heap_alloc_new w.drew _;have hcur:∀(j:Nat) v,(olds++(List.range (xs.length*i.size)).map cells)[j]? =some v->(olds.toArray++((List.range (xs.length*i.size)).map cells).toArray++zeros)[0+j]? =some v:=fun j v hv=>by
    rw[kH,<-Array.getElem?_toList];simp only[Array.toList_append];rw[zP (by have:=(pB.1 hv).1;simpa using this)];exact hv
   have hlen:0+(olds++(List.range (xs.length*i.size)).map cells).length=(es.length+xs.length)*i.size:=by simp[ho1,mA]
   refine⟨_,_,G.kE w.heap.size 0 (olds++(List.range (xs.length*i.size)).map cells) N (.slice (some ⟨w.heap.size,0,none⟩) (es.length+xs.length) (cap+1)),hrun,N,hNs,?_,fun g0 hg0=>?_⟩
   ·refine .own _ _ _ _ ?_ (eL _ _ _);have hG:=bC.Gv (G:=G) (b:=w.heap.size) (lo:=0) (olds++(List.range (xs.length*i.size)).map cells) (g:=N) (.slice (some ⟨w.heap.size,0,none⟩) (es.length+xs.length) (cap+1)) (fun o _=>hF o) hNo;have hel:(es++xs).length=es.length+xs.length:=by simp
    have hmul:=mA es.length xs.length i.size;have key:=bJ.slice (G:=G.kE w.heap.size 0 (olds++(List.range (xs.length*i.size)).map cells) N (.slice (some ⟨w.heap.size,0,none⟩) (es.length+xs.length) (cap+1))) i.size (es++xs) w.heap.size 0 (cap+1) (fun k=>(olds++(List.range (xs.length*i.size)).map cells).getD k undef) ?a (by rw[hel];exact hle) hcm ?b ?c ?d
    ·rw[hel] at key;exact key
    ·intro cs hcs;rcases lN.1 hcs with hc|hc
     ·exact hcl cs hc
     ·exact hclen cs hc
    ·intro k hk;rw[hel] at hk;simp only[bC.kE,kH,kK,true_and,Nat.sub_zero];rw[if_pos (by omega),fR];rw[fH (by omega)];rfl
    ·intro i' j cs c hi' hj;refine bJ.mono hG ?_;by_cases hlt:i' <es.length
     ·rw[zP hlt] at hi';obtain⟨u,hu,hru⟩:=ho3 i' j cs c hi' hj;rw[fR,zP (pB.1 hu).1,hu];exact hru
     ·rw[Dt (by omega)] at hi';have hj':j<i.size:=by rw[<-hclen cs (Dv hi')];exact(pB.1 hj).1
      have hi2:i' -es.length<xs.length:=(pB.1 hi').1;have hidx:i'*i.size+j=olds.length+((i' -es.length)*i.size+j):=by
       rw[ho1,<-Nat.add_assoc,<-mA];congr 2;omega
      have hlt2:(i' -es.length)*i.size+j<xs.length*i.size:=by
       have:(i' -es.length+1)*i.size<=xs.length*i.size:=rL _ hi2;rw[mA] at this;omega
      rw[fR,hidx,Dt (by omega),Nat.add_sub_cancel_left,qQ,Hb hlt2];exact hrepx _ j cs c hi' hj
    ·intro k hk;rw[hel] at hk;by_cases hlt:k<olds.length
     ·obtain⟨u,hu,h1⟩:=ho2 k (by omega);rw[fR,zP hlt,hu];exact h1
     ·have hlt2:k-olds.length<xs.length*i.size:=by rw[ho1];omega
      rw[fR,Dt (by omega),qQ,Hb hlt2];exact hone _ (qB.2 ⟨_,zQ.2 hlt2,rfl⟩)
   ·have hw:=(h.weaken (hkill g0)).more hm;have hc:=hw.KG (b:=w.heap.size) (lo:=0) (n:=es.length+xs.length) (cap:=cap) (sz:=i.size) (news:=olds++(List.range (xs.length*i.size)).map cells) hb (hnf g0) (fun o _=>hF o) hNo hcur hlen hsize hle hcm;refine⟨hc,⟨bC.Gv _ _ (fun o _=>hF o) hNo,hm.size,rfl,rfl,rfl,fun b' hb' _=>hm.keep b' hb',fun b' hf=>?_,fun b' o hf=>?_,hkeys g0⟩⟩
    ·rcases hf with hf|⟨g',x,v,j1,j2,j3⟩
     ·exact .inl (.inl hf)
     ·by_cases eN:g'=N
      ·subst eN;simp only[bC.kE,eL,iZ] at j2;subst j2;simp[jT] at j3;exact .inr (by omega)
      ·simp only[aL.cI,dA _ _ _ _ eN] at j1;simp only[bC.kE,dA _ _ _ _ eN] at j2;exact .inl (zZ (hkill g0) (.inr ⟨g',x,v,j1,j2,j3⟩))
    ·simp only[bC.kE] at hf;split at hf
     ·rename_i hc';exact .inr (.inr (by omega))
     ·exact .inl hf
  have hfit':(es.length+xs.length)*i.bytes<=140737488355328:=hfit;have hmax':es.length+xs.length<=9223372036854775807:=by unfold maxLen at hmax;omega
  have grown:∀(old:Nat),∃cap,grownCap w (es.length+xs.length) old e=cap+1∧es.length+xs.length<=cap+1∧cap+1<=maxLen:=fun old=>by
   have h1:=grownCap_ge w (es.length+xs.length) old e;have h2:=grownCap_le_maxLen w (es.length+xs.length) old e hmax;exact⟨grownCap w (es.length+xs.length) old e-1,by omega,by omega,by omega⟩
  have zsize:∀(olds:List Value) (cap:Nat),olds.length=es.length*i.size->es.length+xs.length<=cap+1->
   (olds.toArray++((List.range (xs.length*i.size)).map cells).toArray++Builtin.zeroCells z.cells (cap+1-(es.length+xs.length))).size=(cap+1)*i.size:=fun olds cap ho hle=>by
   simp only[Array.size_append,List.size_toArray,ho,gI,List.length_range,size_zeroCells,hzs,<-mA];congr 1;omega
  rcases hval with⟨a,rfl⟩|⟨g0,b,cap,cur,k1,k2,rfl,j1,j2,j3,j4,j5⟩
  ·have he:=hlen0 a rfl;subst he;obtain⟨cap,hc1,hc2,hc3⟩:=grown 0;refine fresh [] cap _ (by simp) (by simp) (by simp) (by simp) hc2 hc3 (zsize [] cap (by simp) hc2) ?_;simp only[bS,kH] at hc1 hmax' hfit' ⊢;cases a with
   |none=>
    have hr:=run_append_nil (P:=P) w t ty e i z ht hi hz ay xs.length cy _ hl hnews hpos (by omega) (by omega);rw[hc1] at hr;simpa using hr
   |some ad=>
    have hr:=run_append_grow (P:=P) w t ty e i z ht hi hz ad 0 0 [] (by simp) (by simp) ay xs.length cy _ hl hnews (by omega) (by omega) (growslice_fits (by omega) (by simpa using hfit'));simp only[kH] at hr;rw[hc1] at hr;simpa using hr
  ·obtain⟨oc,d1,d2,d3,d4⟩:=MJ h hv0;simp only[kH] at d1;by_cases hroom:es.length+xs.length<=cap+1
   ·-- there is room
    have hrun:=run_append_room (P:=P) w t ty e i ht hi b es.length (cap+1) cur j1 ay xs.length cy _ hl hnews hone hroom (by rw[hl,j2,<-mA];exact rL _ hroom);have hmul:=mA es.length xs.length i.size;have hle:es.length*i.size+xs.length*i.size<=cur.size:=by rw[j2,<-mA];exact rL _ hroom
    refine⟨_,_,G.kE b (es.length*i.size) ((List.range (xs.length*i.size)).map cells) N (.slice (some ⟨b,0,none⟩) (es.length+xs.length) (cap+1)),hrun,N,hNs,?_,fun g1 hg1=>?_⟩
    ·refine .own _ _ _ _ ?_ (eL _ _ _);have hG:=bC.Gv (G:=G) (b:=b) (lo:=es.length*i.size) ((List.range (xs.length*i.size)).map cells) (g:=N) (.slice (some ⟨b,0,none⟩) (es.length+xs.length) (cap+1)) j5 hNo;have hel:(es++xs).length=es.length+xs.length:=by simp
     have key:=bJ.slice (G:=G.kE b (es.length*i.size) ((List.range (xs.length*i.size)).map cells) N (.slice (some ⟨b,0,none⟩) (es.length+xs.length) (cap+1))) i.size (es++xs) b 0 (cap+1)
      (fun k=>if k<es.length*i.size then oc k else cells (k-es.length*i.size)) ?a2 (by rw[hel];exact hroom) j4 ?b2 ?c2 ?d2
     ·rw[hel] at key;exact key
     ·intro cs hcs;rcases lN.1 hcs with hc|hc
      ·exact d2 cs hc
      ·exact hclen cs hc
     ·intro k hk;rw[hel] at hk;simp only[bC.kE,kH,true_and,hl];by_cases hlt:k<es.length*i.size
      ·rw[if_neg (by omega),if_pos hlt];exact d1 k hlt
      ·rw[if_pos (by omega),if_neg hlt,qQ,Hb (by omega)];rfl
     ·intro i' j cs c hi' hj;refine bJ.mono hG ?_;by_cases hlt:i' <es.length
      ·rw[zP hlt] at hi';have hjs:j<i.size:=by rw[<-d2 cs (Dv hi')];exact(pB.1 hj).1
       have:(i'+1)*i.size<=es.length*i.size:=rL _ hlt;rw[mA] at this;rw[if_pos (by omega)];exact d3 i' j cs c hi' hj
      ·rw[Dt (by omega)] at hi';have hidx:i'*i.size+j-es.length*i.size=(i' -es.length)*i.size+j:=by
        rw[Nat.sub_mul];have:es.length*i.size<=i'*i.size:=rL _ (by omega);omega
       have:es.length*i.size<=i'*i.size:=rL _ (by omega);rw[if_neg (by omega),hidx];exact hrepx _ j cs c hi' hj
     ·intro k hk;rw[hel] at hk;by_cases hlt:k<es.length*i.size
      ·simp only[hlt,if_true];exact d4 k hlt
      ·simp only[hlt,if_false];exact hone _ (qB.2 ⟨_,zQ.2 (by omega),rfl⟩)
    ·have hg:s.own g1=some (e,i.size)∧G.om g1=some (.slice (some ⟨b,0,none⟩) es.length (cap+1)):=by
      rcases hg1 with hg1|⟨⟨a,ha⟩,_⟩
      ·exact hg1
      ·exact absurd (Value.slice.inj ha).2.2 (by omega)
     have hnf:¬dL G (s.cI g1 none) b:=fun hf=>by
      rcases hf with hf|⟨g',x,v,m1,m2,m3⟩
      ·exact hf (h.nobox g1 _ _ b hg.1 hg.2 rfl)
      ·by_cases eg:g'=g1
       ·subst eg;simp[aL.cI,cA] at m1
       ·simp only[aL.cI,dA _ _ _ _ eg] at m1;exact eg (h.sep g' g1 x _ v _ b m1 hg.1 m2 hg.2 m3 rfl)
     have hrow:(w.setRow b (cur.toList.take (es.length*i.size)++(List.range (xs.length*i.size)).map cells++cur.toList.drop (es.length*i.size+((List.range (xs.length*i.size)).map cells).length)).toArray).heap[b]? =some (.cells _ e (0,0)):=setRow_heap w b cur _ e _ j1;have hw:cS G (s.cI g1 none) (w.setRow b (cur.toList.take (es.length*i.size)++(List.range (xs.length*i.size)).map cells++cur.toList.drop (es.length*i.size+((List.range (xs.length*i.size)).map cells).length)).toArray):=by
      refine(h.weaken (hkill g1)).same (fun b' o v hv=>?_) (fun b' hf=>setRow_other _ _ _ _ (fun e'=>hnf (e' ▸ hf))) (fun b' x hb'=>setRow_other _ _ _ _ (fun e'=>by
       have hx:=h.ob b' x hb';rw[e',j1] at hx;have:=eS hx.2;subst this;exact absurd hx.1 (by simp[wJ]))) (Rc j1 (by simp;omega))
      by_cases eb:b'=b
      ·subst eb;have ho:o<es.length*i.size:=by
        rcases Nat.lt_or_ge o (es.length*i.size) with hlt|hge
        ·exact hlt
        ·rw[j5 o hge] at hv;cases hv
       rw[cell_setRow_same w b' o cur _ e _ j1,cell_of_row w b' o cur e _ j1];simp only[List.getElem?_toArray,fS];rw[zP (by simp;omega),Mh,if_pos ho];simp
      ·exact cell_setRow_other _ _ _ _ eb
     have hc:=hw.KG (b:=b) (lo:=es.length*i.size) (n:=es.length+xs.length) (cap:=cap) (sz:=i.size) (news:=(List.range (xs.length*i.size)).map cells) hrow hnf j5 hNo
      (fun j v hv=>by
       have hlt:j<xs.length*i.size:=by have:=(pB.1 hv).1;simpa using this
       simp only[List.getElem?_toArray,fS];rw[Dt (by simp;omega),zP (by simp;omega)];rw[<-hv];congr 1;simp;omega)
      (by rw[hl];omega) (by simp;omega) hroom j4
     refine⟨hc,⟨bC.Gv _ _ j5 hNo,by simp,rfl,rfl,rfl,fun b' hb' hf=>setRow_other _ _ _ _ (fun e'=>hf (e' ▸ .inr ⟨g1,_,_,hg.1,hg.2,rfl⟩)),fun b' hf=>?_,fun b' o hf=>?_,hkeys g1⟩⟩
     ·rcases hf with hf|⟨g',x,v,m1,m2,m3⟩
      ·exact .inl (.inl hf)
      ·by_cases eN:g'=N
       ·subst eN;simp only[bC.kE,eL,iZ] at m2;subst m2;exact .inl (.inr ⟨g1,_,_,hg.1,hg.2,m3⟩)
       ·simp only[aL.cI,dA _ _ _ _ eN] at m1;simp only[bC.kE,dA _ _ _ _ eN] at m2;exact .inl (zZ (hkill g1) (.inr ⟨g',x,v,m1,m2,m3⟩))
     ·simp only[bC.kE] at hf;split at hf
      ·rename_i hc';exact .inr (.inl (hc'.1 ▸ .inr ⟨g1,_,_,hg.1,hg.2,rfl⟩))
      ·exact .inl hf
   ·-- a new array
    obtain⟨cap',hc1,hc2,hc3⟩:=grown (cap+1);have hol:((List.range (es.length*i.size)).map oc).length=es.length*i.size:=by simp
    have hget:∀k,k<es.length*i.size->((List.range (es.length*i.size)).map oc)[k]? =some (oc k):=fun k hk=>by
     rw[qQ,Hb hk];rfl
    refine fresh ((List.range (es.length*i.size)).map oc) cap' _ hol (fun k hk=>⟨_,hget k hk,d4 k hk⟩) (fun i' j cs c hi' hj=>?_) d2 hc2 hc3 (zsize _ cap' hol hc2) ?_
    ·have hjs:j<i.size:=by rw[<-d2 cs (Dv hi')];exact(pB.1 hj).1
     have hi2:i' <es.length:=(pB.1 hi').1;have:(i'+1)*i.size<=es.length*i.size:=rL _ hi2;rw[mA] at this;exact⟨_,hget _ (by omega),d3 i' j cs c hi' hj⟩
    ·have hr:=run_append_grow (P:=P) w t ty e i z ht hi hz ⟨b,0,none⟩ es.length (cap+1) ((List.range (es.length*i.size)).map oc) hol (fun j v hv=>by
      have hlt:j<es.length*i.size:=by have:=(pB.1 hv).1;simpa using this
      rw[hget j hlt] at hv;obtain rfl:=eS hv;rw[Ca,kH];exact h.dO _ _ _ (d1 j hlt)) ay xs.length cy _ hl hnews (by omega) (by omega) (growslice_fits (by omega) hfit')
     rw[hc1] at hr;exact hr
def CC {e:Entry} {o:Oper} {x y:Operand} {t el:TypeId} (ho:o.op= .call { callee:=.builtin .append,args:= #[x,y],argTypes:= #[t,t] }) {d de:iC} (hd:bT P t=some d) (hs:d.shape= .slice el) (hde:bT P el=some de) (hsz:0<de.size) {st:St} (hdst:fV o st) {a:Act} {w:World} {Q:Exit->Act->World->Prop}
 {K:St->Prop} {G:bC} {be:Nat->Option Nat} (hx:dD e.G e.s e.w G st.s w) (hr:cW e.base G be st a w) {es xs:List (List V)} (h0:bJ G (.slice de.size es) (a.eval x)) (hy:bJ G (.slice de.size xs) (a.eval y)) (hfit:(es.length+xs.length)*de.bytes<=2^47) (hmax:es.length+xs.length<=maxLen) {g0:Nat}
 (hg0:(st.s.own g0=some (el,de.size)∧G.om g0=some (a.eval x))∨((∃b,a.eval x= .slice b 0 0)∧st.s.own g0=none))
 (hK:∀g,st.s.own g=none->K ({ st with s:=(st.s.cI g0 none).cI g (some (el,de.size)) }.put o.dst (.own g de.size (es++xs)))):o.wp P a w (jC e K) Q:=by
 obtain⟨i',u,z',hi',hu,hz',h1,h2,h3,h4,h5⟩:=gE hd;obtain⟨ie,ue,z,hie,hue,hze,k1,k2,k3,k4,k5⟩:=gE hde;obtain⟨hzl,_⟩:=Ea hde;obtain rfl:=tZ (hs.symm.trans h5);have hzs:z.cells.size=ie.size:=by rw[<-k1,<-hzl,k3];simp
 rw[k1] at h0 hy hsz hg0;obtain⟨v',w',G',hrun,g,hg,hrep,hres⟩:=PH (P:=P) (ty:=o.type) hr.hr hu hie hze hzs hsz h0 hy (by rw[<-k2];exact hfit) hmax (by
  rcases hg0 with h|h
  ·exact .inr ⟨g0,h⟩
  ·exact .inl h.1)
 obtain⟨hh,hx'⟩:=hres g0 hg0;unfold Oper.wp;rw[Qy ho hrun];refine⟨_,hK g hg,G',be,?_,?_⟩
 ·rw[uH,k1];exact hx.trans hx'
 ·rw[k1];exact(hr.ext hx' hh).put o.dst (uZ hdst) (eE.kF hrep)
def cS.newBox {G:bC} {s:aL} {w w':World} (h:cS G s w) (hm:dP w w') {b:Nat} (hb:w.heap.size<=b) {cs:List V} {ccs:Array Value} {t:TypeId} (hc:w'.heap[b]? =some (.cells ccs t (0,0))) (hr:bZ G cs ccs.toList) (h1:∀v∈ccs.toList,v.oneCell'=true):
 cS G (s.aU b (cs,t)) w'∧dD G s w G (s.aU b (cs,t)) w':=by
 have hF:∀o,G.F b o=none:=fun o=>by
  cases hx:G.F b o with
  |none=>rfl
  |some v=>have:=h.zO (b:=b) (o:=o) (by rw[hx];simp);omega
 have hnf:¬dL G s b:=fun hf=>by have:=h.zM hf;omega
 have hh:=h.more hm;refine⟨⟨hh.dO,fun b' cs' ty' hb'=>?_,hh.own,hh.sep,fun g x v b' j1 j2 j3=>?_,hh.fin,hh.ob,hh.tab,hh.siz⟩,⟨.refl G,hm.size,hm.os,hm.tape,hm.output,fun b' hb' _=>hm.keep b' hb',fun b' hf=>?_,fun _ _ h=>.inl h,fun _ h=>.inl h⟩⟩
 ·by_cases e:b'=b
  ·subst e;simp only[aL.aU,eL,iZ,qS] at hb';obtain⟨rfl,rfl⟩:=hb';exact⟨ccs,hc,hr,h1,hF⟩
  ·simp only[aL.aU,dA _ _ _ _ e] at hb';exact hh.box b' cs' ty' hb'
 ·by_cases e:b'=b
  ·subst e;exact absurd (.inr ⟨g,x,v,j1,j2,j3⟩) hnf
  ·simp only[aL.aU,dA _ _ _ _ e];exact hh.nobox g x v b' j1 j2 j3
 ·by_cases e:b'=b
  ·exact .inr (by omega)
  ·rcases hf with hf|hf
   ·exact .inl (.inl (by simpa[aL.aU,dA _ _ _ _ e] using hf))
   ·exact .inl (.inr hf)
def QT {G:bC} (vs:List Value):bZ G (List.replicate vs.length .any) vs:=by
 refine⟨by simp,fun i c v a b=>?_⟩;rw[List.getElem?_replicate] at a;split at a
 ·cases a;exact .any _
 ·cases a
def Eh {sz:Nat}:∀{es:List (List V)},(∀r∈es,r.length=sz)->es.flatten.length=es.length*sz
 |[],_=>by simp
 |r::es,h=>by
  rw[Hf,bH,Eh (fun x hx=>h x (iD _ hx)),h r (by simp),bF,mA];omega
def BW {sz:Nat}:∀{es:List (List V)},(∀r∈es,r.length=sz)->∀(i j:Nat) (r:List V),es[i]? =some r->j<sz->es.flatten[i*sz+j]? =r[j]?
 |[],_,i,j,r,h,_=>by simp at h
 |x::es,hs,i,j,r,h,hj=>by
  have hx:x.length=sz:=hs x (by simp);rw[Hf];cases i with
  |zero=>
   simp at h;subst h;rw[Nat.zero_mul,kH,zP (by omega)]
  |succ i=>
   simp at h;have e:(i+1)*sz+j=x.length+(i*sz+j):=by rw[mA,hx];omega
   rw[e,Dt (by omega),Nat.add_sub_cancel_left];exact BW (fun r hr=>hs r (iD _ hr)) i j r h hj
def UQ {G:bC} {sz:Nat} (hsz:0<sz) {xs:List (List V)} {cells:Nat->Value} (hlen:∀cs∈xs,cs.length=sz) (hrepx:∀(i j:Nat) cs c,xs[i]? =some cs->cs[j]? =some c->bJ G c (cells (i*sz+j))):bZ G xs.flatten ((List.range (xs.length*sz)).map cells):=by
 have hfl:=Eh hlen;refine⟨by simp[hfl],fun j c v hc hv=>?_⟩;have hj:j<xs.length*sz:=by rw[<-hfl];exact(pB.1 hc).1
 have e:j=(j/sz)*sz+j%sz:=by rw[Nat.mul_comm];exact(Nat.div_add_mod j sz).symm
 have hq:j/sz<xs.length:=Nat.div_lt_of_lt_mul (by rw[Nat.mul_comm];exact hj);have hmod:=Nat.mod_lt j hsz;have hc':=BW hlen (j/sz) (j%sz) xs[j/sz] (fH hq) hmod;rw[<-e,hc] at hc';have:=hrepx (j/sz) (j%sz) _ c (fH hq) hc'.symm;rw[<-e] at this;rw[qQ,Hb hj] at hv;cases hv
 exact this
def NF {G:bC} {s:aL} {w:World} (h:cS G s w) {t ty e:TypeId} {i:TypeInfo} {z:Value} (ht:P.underlying t=some (.slice e)) (hi:P.info? e=some i) (hz:i.zero=some z) (hzs:z.cells.size=i.size) (hz1:∀x∈z.cells.toList,x.oneCell'=true) (hsz:0<i.size)
 {vy:Value} {a:Option Addr} {n cap:Nat} {cs:List V} {xs:List (List V)} (hpos:0<xs.length) (hm:Pe s a n cap cs e i.size) (hy:bJ G (.slice i.size xs) vy) (hfit:(n+xs.length)*i.bytes<=2^47) (hmax:n+xs.length<=maxLen):
 ∃b' cap' cs' w',(Builtin.append_ #[t,t] ty #[.slice a n cap,vy]).run P w= .ok (.slice (some ⟨b',0,none⟩) (n+xs.length) cap') w'∧(a=some ⟨b',0,none⟩∨s.box b'=none)∧cs'.length=cap'*i.size∧cs'.take ((n+xs.length)*i.size)=cs.take (n*i.size)++xs.flatten∧n+xs.length<=cap'∧cap'<=maxLen∧
  cS G (s.aU b' (cs',e)) w'∧dD G s w G (s.aU b' (cs',e)) w':=by
 have hfit':(n+xs.length)*i.bytes<=140737488355328:=hfit;have hmax':n+xs.length<=9223372036854775807:=by unfold maxLen at hmax;omega
 rcases Sr h hy with⟨h0,_⟩|⟨ay,cy,cells,rfl,_,hnews,hone,hlen,hrepx⟩
 ·rw[h0] at hpos;simp at hpos
 have hrepn:=UQ hsz hlen hrepx;have hfl:=Eh hlen;have fresh:∀(olds:List Value) (ocs:List V),olds.length=n*i.size->bZ G ocs olds->(∀v∈olds,v.oneCell'=true)->ocs=cs.take (n*i.size)->∀old,
  (Builtin.append_ #[t,t] ty #[.slice a n cap,.slice (some ay) xs.length cy]).run P w= .ok (.slice (some ⟨w.heap.size,0,none⟩) (n+xs.length) (grownCap w (n+xs.length) old e)) (w.drew.alloc (.cells (olds.toArray++((List.range (xs.length*i.size)).map cells).toArray++Builtin.zeroCells z.cells (grownCap w (n+xs.length) old e-(n+xs.length))) e))->
  ∃b' cap' cs' w',(Builtin.append_ #[t,t] ty #[.slice a n cap,.slice (some ay) xs.length cy]).run P w= .ok (.slice (some ⟨b',0,none⟩) (n+xs.length) cap') w'∧(a=some ⟨b',0,none⟩∨s.box b'=none)∧cs'.length=cap'*i.size∧cs'.take ((n+xs.length)*i.size)=cs.take (n*i.size)++xs.flatten∧n+xs.length<=cap'∧cap'<=maxLen∧
  cS G (s.aU b' (cs',e)) w'∧dD G s w G (s.aU b' (cs',e)) w':=by
  intro olds ocs ho hrl ho1 hoc old hrun;have hg1:=grownCap_ge w (n+xs.length) old e;have hg2:=grownCap_le_maxLen w (n+xs.length) old e hmax;have hm:dP w (w.drew.alloc (.cells (olds.toArray++((List.range (xs.length*i.size)).map cells).toArray++Builtin.zeroCells z.cells (grownCap w (n+xs.length) old e-(n+xs.length))) e)):=(dP.drew w).trans (dP.alloc _ _);have hbn:s.box w.heap.size=none:=by
   cases hq:s.box w.heap.size with
   |none=>rfl
   |some y=>have:=h.zM (b:=w.heap.size) (.inl (by rw[hq];simp));omega
  have hzl:(Builtin.zeroCells z.cells (grownCap w (n+xs.length) old e-(n+xs.length))).toList.length=(grownCap w (n+xs.length) old e-(n+xs.length))*i.size:=by rw[Mf,size_zeroCells,hzs]
  have hocl:ocs.length=n*i.size:=by rw[hrl.1,ho]
  have hnb:=h.newBox hm (b:=w.heap.size) (dS _) (cs:=ocs++xs.flatten++List.replicate (Builtin.zeroCells z.cells (grownCap w (n+xs.length) old e-(n+xs.length))).toList.length .any) (t:=e) (heap_alloc_new w.drew _)
   (by
    have:=(hrl.append hrepn).append (QT (G:=G) (Builtin.zeroCells z.cells (grownCap w (n+xs.length) old e-(n+xs.length))).toList);simpa using this)
   (by
    intro v hv;simp only[Array.toList_append,lN] at hv;rcases hv with(hv|hv)|hv
    ·exact ho1 v (by simpa using hv)
    ·exact hone v (by simpa using hv)
    ·unfold Builtin.zeroCells at hv;simp only[Array.toList_map,qB] at hv;obtain⟨k,_,rfl⟩:=hv;have hk:k%z.cells.size<z.cells.size:=Nat.mod_lt _ (by omega);rw[getElem!_pos z.cells _ hk];exact hz1 _ (by simp))
  refine⟨w.heap.size,_,_,_,hrun,.inr hbn,?_,?_,hg1,hg2,hnb⟩
  ·rw[bH,bH,hocl,hfl,List.length_replicate,hzl,<-mA,<-mA];congr 1;omega
  ·rw[List.take_append_of_le_length (by rw[bH,hocl,hfl,<-mA];exact dS _),nG (by rw[bH,hocl,hfl,<-mA];exact dS _),hoc]
 have hnl:((List.range (xs.length*i.size)).map cells).length=xs.length*i.size:=by simp
 rcases hm with⟨rfl,rfl,rfl,rfl⟩|⟨b,rfl,hb,hl,hn,hcm⟩
 ·refine fresh [] [] (by simp) (bZ.nil G) (by simp) (by simp) 0 ?_;have hr:=run_append_nil (P:=P) w t ty e i z ht hi hz ay xs.length cy _ hnl hnews hpos (by omega) (by rw[kH] at hfit';omega);simpa using hr
 ·obtain⟨ccs,k1,k2,k3,k4⟩:=h.box b cs e hb;have hcl:ccs.size=cap*i.size:=by rw[<-hl,k2.1];simp
  by_cases hroom:n+xs.length<=cap
  ·have hle:(n+xs.length)*i.size<=cap*i.size:=rL _ hroom;rw[mA] at hle;have hrun:=run_append_room (P:=P) w t ty e i ht hi b n cap ccs k1 ay xs.length cy _ hnl hnews hone hroom (by rw[hcl];omega);have hsb:=h.aU hb (cs':=cs.take (n*i.size)++xs.flatten++cs.drop ((n+xs.length)*i.size)) (ccs':=(ccs.toList.take (n*i.size)++(List.range (xs.length*i.size)).map cells++ccs.toList.drop ((n+xs.length)*i.size)).toArray) (by simp only[bH,tX,uV,hl,hfl,mA];omega) (by
    simpa using((k2.take _).append hrepn).append (k2.drop _)) (by
    intro v hv;simp only[lN] at hv;rcases hv with(hv|hv)|hv
    ·exact k3 v (Du hv)
    ·exact hone v hv
    ·exact k3 v (Gz hv))
   refine⟨b,cap,cs.take (n*i.size)++xs.flatten++cs.drop ((n+xs.length)*i.size),_,hrun,.inl rfl,?_,?_,hroom,hcm,?_⟩
   ·simp only[bH,tX,uV,hl,hfl,mA];omega
   ·have hl2:(cs.take (n*i.size)++xs.flatten).length=(n+xs.length)*i.size:=by rw[bH,tX,hl,hfl,mA];omega
    rw[List.take_append_of_le_length (by rw[hl2];exact dS _),nG (by rw[hl2];exact dS _)]
   ·simpa[mA] using hsb
  ·have hle:n*i.size<=cap*i.size:=rL _ hn;refine fresh (ccs.toList.take (n*i.size)) (cs.take (n*i.size)) (by rw[tX,Mf,hcl];omega) (k2.take _) (fun v hv=>k3 v (Du hv)) rfl cap ?_;exact run_append_grow (P:=P) w t ty e i z ht hi hz ⟨b,0,none⟩ n cap (ccs.toList.take (n*i.size)) (by rw[tX,Mf,hcl];omega) (fun j v hv=>by
    rw[Ca,kH,cell_of_row w b j ccs e _ k1];rw[Mh] at hv;split at hv
    ·simpa using hv
    ·cases hv) ay xs.length cy _ hnl hnews (by omega) (by omega) (growslice_fits (by omega) hfit')
def LS {e:Entry} {o:Oper} {args:Array Operand} {ts:Array TypeId} (ho:o.op= .call { callee:=.builtin .append,args:=args,argTypes:=ts }) {st:St} {K:St->Prop} {a:Act} {w:World} {Q:Exit->Act->World->Prop}
 (h:vC P o args ts st K) (hin:In e st a w):o.wp P a w (jC e K) Q:=by
 unfold vC at h;split at h
 ·rename_i t t' x y hts hargs;obtain rfl:ts= #[t,t']:=by rw[<-hts]
  obtain rfl:args= #[x,y]:=by rw[<-hargs]
  obtain⟨rfl,h⟩:=h;split at h
  ·rename_i d hd;split at h
   ·rename_i el hs;split at h
    ·rename_i de hde;obtain⟨hsz,hdst,h⟩:=h;split at h
     ·rename_i xs hxs;obtain⟨G,be,hx,hr⟩:=hin;have hy:=WA (hr.eval y) hxs;have nil:∀b,a.eval x= .slice b 0 0->bJ G (.slice de.size []) (a.eval x)->(xs.length*de.bytes<=2^47∧xs.length<=maxLen∧∀g,st.s.own g=none->K ({ st with s:=st.s.cI g (some (el,de.size)) }.put o.dst (.own g de.size xs)))->o.wp P a w (jC e K) Q:=by
       intro b hb h0 ⟨c1,c2,c3⟩;obtain⟨N,hN⟩:=hr.hr.fin;have hNs:=(hN N (dS _)).2;have hsame:st.s.cI N none=st.s:=by
        unfold aL.cI;have:cA st.s.own N none=st.s.own:=by funext g;by_cases eg:g=N<;>simp[cA,eg,hNs]
        rw[this]
       refine CC ho hd hs hde hsz hdst hx hr h0 hy (by simpa using c1) (by simpa using c2) (g0:=N) (.inr ⟨⟨b,hb⟩,hNs⟩) (fun g hg=>?_);rw[hsame,iY];exact c3 g hg
      split at h
      ·rename_i hxv;have hh:=hr.eval x;rw[hxv] at hh;have hb:a.eval x= .slice none 0 0:=by
        generalize hq:a.eval x=q at hh;cases (show bJ G .nil q from hh);rfl
       exact nil none hb (by rw[hb];exact .slice0 _ _ _) h
      ·rename_i hxv;have hh:=hr.eval x;rw[hxv] at hh;obtain⟨b,hb⟩:∃b,a.eval x= .slice b 0 0:=by
        generalize hq:a.eval x=q at hh;cases (show bJ G .zcap q from hh);exact⟨_,rfl⟩
       exact nil b hb (by rw[hb];exact .slice0 _ _ _) h
      ·rename_i g0 sz es hxv;obtain⟨rfl,c1,c2,c3,c4⟩:=h;have hh:=hr.eval x;rw[hxv] at hh;have h0:bJ G (.slice de.size es) (a.eval x)∧G.om g0=some (a.eval x):=by
        generalize a.eval x=q at hh ⊢;cases (show bJ G (.own g0 de.size es) q from hh) with
        |own _ _ _ _ k1 k2=>exact⟨k1,k2⟩
       exact CC ho hd hs hde hsz hdst hx hr h0.1 hy c2 c3 (g0:=g0) (.inl ⟨c1,h0.2⟩) c4
      ·rename_i v hxv;unfold zW at h;split at h
       ·rename_i an n cap;obtain⟨i',u,z',hi',hu,hz',h1,h2,h3,h4,h5⟩:=gE hd;obtain⟨ie,ue,z,hie,hue,hze,k1,k2,k3,k4,k5⟩:=gE hde;obtain⟨hzl,hz1⟩:=Ea hde;obtain rfl:=tZ (hs.symm.trans h5);have hzs:z.cells.size=ie.size:=by rw[<-k1,<-hzl,k3];simp
        have hxe:a.eval x= .slice an n cap:=by
         have hh:=hr.eval x;rw[hxv] at hh;generalize a.eval x=q at hh;cases (show bJ G (.base (.slice an n cap)) q from hh);rfl
        split at h
        ·rename_i hx0;obtain rfl:xs=[]:=jU hx0;rcases Sr hr.hr hy with⟨_,ay,cy,hyv⟩|⟨_,_,_,_,hp,_⟩
         ·have hrun:=Xj (P:=P) (ty:=o.type) hu hie an n cap h.1 ay cy w;unfold Oper.wp;rw[Qy ho (by rw[hxe,hyv];exact hrun)];exact⟨_,h.2,G,be,by rw[uH];exact hx,hr.put o.dst (uZ hdst) (eE.kF (bJ.base _))⟩
         ·simp at hp
        ·rename_i hx0;obtain⟨m2,m3,cs,m4,m5⟩:=h;obtain⟨b',cap',cs',w',hrun,q1,q2,q3,q4,q5,q6,q7⟩:=NF (P:=P) (ty:=o.type) hr.hr hu hie hze hzs (by rw[<-k3];exact hz1) (by omega) (by omega) (by rw[<-k1];exact m4) (by rw[<-k1];exact hy) (by rw[<-k2];exact m2) m3;unfold Oper.wp;rw[Qy ho (by rw[hxe];exact hrun)];refine⟨_,m5 b' cap' cs' q1 (by rw[k1];exact q2) (by rw[k1];exact q3) q4 q5,G,be,?_,?_⟩
         ·rw[uH];exact hx.trans q7
         ·exact(hr.ext q7 q6).put o.dst (uZ hdst) (eE.kF (bJ.base _))
       ·exact h.elim
      ·exact h.elim
     ·exact h.elim
    ·exact h.elim
   ·exact h.elim
  ·exact h.elim
 ·exact h.elim
def Mu {e:Entry} {o:Oper} {st:St} {K:St->Prop} {a:Act} {w:World} {Q:Exit->Act->World->Prop} (hQ:PQ e Q) (h:gD P o st K) (hin:In e st a w):o.wp P a w (jC e K) Q:=by
 unfold gD at h;split at h
 ·rename_i t ho;split at h
  ·rename_i d hd;obtain⟨G,be,hx,hr⟩:=hin;obtain⟨i,u,z,hi,hu,hz,e1,e2,e3,e4,e5⟩:=gE hd;refine Qv h hx hr (ccs:=z.cells) (by rw[e3];exact Hl G _) (by rw[<-e3];exact(Ea hd).2) ?_;unfold execOp;simp[ho,Instr.alloc,zeroValue,typeInfo,hi,hz,newVar,newRow]
  ·exact h.elim
 ·rename_i t x ho;obtain⟨hall,h⟩:=h;obtain⟨G,be,hx,hr⟩:=hin;obtain⟨h1,h2⟩:=Mt (hr.eval x) hall;refine Qv h hx hr h1 h2 ?_;unfold execOp;simp[ho,Instr.box,newVar,newRow]
 ·rename_i t x y ho;exact MD ho h hin
 ·rename_i t x ho;exact NG ho h hin
 ·rename_i f args ts ho;exact NH ho hQ h hin
 ·rename_i args ts ho;exact LS ho h hin
 ·exact Yk h hin
end
section
variable {P:Program}
inductive Gd where
 |always|never|stuck
 |test (c b:Bool)
def gA (all:Array Oper) (o:Oper) (st:St):Gd:=
 match o.guard with
 |none=>.always
 |some (j,b)=>match (all[j]?).bind (·.dst) with
  |some t=>match st.E t with
   | .base (.bool c)=>.test c b
   | .base (.tuple _)=>.never
   |_=>.stuck
  |none=>.never
def rS (P:Program) (all:Array Oper) (o:Oper) (st:St) (K:St->Prop):Prop:=
 match gA all o st with
 | .always=>gD P o st K
 | .never=>fV o st∧K (st.put o.dst (.base undef))
 | .test c b=>if c=b then gD P o st K else fV o st∧K (st.put o.dst (.base undef))
 | .stuck=>False
def gK (P:Program) (all:Array Oper):List Oper->St->(St->Prop)->Prop
 |[],st,K=>K st
 |o::r,st,K=>rS P all o st fun st'=>gK P all r st' K
def Dy {e:Entry} {all:Array Oper} {o:Oper} {st:St} {a:Act} {w:World} (hin:In e st a w):
 (gA all o st= .always->Region.wanted o (yielded all a.tmps)=true)∧(gA all o st= .never->Region.wanted o (yielded all a.tmps)=false)∧
 (∀c b,gA all o st= .test c b->Region.wanted o (yielded all a.tmps)=decide (c=b)):=by
 obtain⟨G,be,hx,hr⟩:=hin;unfold gA Region.wanted;split
 ·rename_i hg;simp[hg]
 ·rename_i j b hg;simp only[hg];split
  ·rename_i t ht;have hy:∀v,a.tmps.getD t undef=v->v≠undef->a.tmps[t]? =some v:=fun v hv hne=>by
    rw[iS] at hv;cases hq:a.tmps[t]? with
    |none=>rw[hq] at hv;exact absurd hv.symm hne
    |some x=>rw[hq] at hv;simp at hv;rw[hv]
   have htm:=hr.tmps t;split
   ·rename_i c hc;rw[hc] at htm;have hv:a.tmps.getD t undef= .bool c:=by
     generalize a.tmps.getD t undef=v at htm;cases (show bJ G (.base (.bool c)) v from htm);rfl
    have:=hy _ hv (by simp[undef]);refine⟨by simp,by simp,fun c' b' h=>?_⟩;cases h
    simp[yielded,ht,this];cases c<;>cases b<;>rfl
   ·rename_i vs hc;rw[hc] at htm;have hv:a.tmps.getD t undef= .tuple vs:=by
     generalize a.tmps.getD t undef=v at htm;cases (show bJ G (.base (.tuple vs)) v from htm);rfl
    refine⟨by simp,fun _=>?_,by simp⟩;have:yielded all a.tmps j=none:=by
     simp only[yielded,ht,Option.bind_some];rw[iS] at hv;cases hq:a.tmps[t]? with
     |none=>rfl
     |some x=>rw[hq] at hv;simp at hv;rw[hv]
    simp[this]
   ·simp
  ·rename_i ht;refine⟨by simp,fun _=>?_,by simp⟩;simp[yielded,ht]
def Nc {e:Entry} {o:Oper} {st:St} {a:Act} {w:World} (hd:fV o st) (hin:In e st a w):In e (st.put o.dst (.base undef)) (a.put o.dst undef) w:=by
 obtain⟨G,be,hx,hr⟩:=hin;exact⟨G,be,by rw[uH];exact hx,hr.put o.dst (uZ hd) (bJ.base _)⟩
def zR {e:Entry} {all:Array Oper} {i:Nat} {o:Oper} (ho:all[i]? =some o) {st:St} {K:St->Prop} {a:Act} {w:World} {Q:Exit->Act->World->Prop} (hQ:PQ e Q) (h:rS P all o st K) (hin:In e st a w):wpOp P all Q i (jC e K) a w:=by
 obtain⟨g1,g2,g3⟩:=Dy (all:=all) (o:=o) hin;unfold wpOp;simp only[ho];unfold rS at h;split at h
 ·rename_i hg;rw[if_pos (g1 hg)];exact .inl (Mu hQ h hin)
 ·rename_i hg;rw[g2 hg];exact⟨_,h.2,Nc h.1 hin⟩
 ·rename_i c b hg;rw[g3 c b hg];split at h
  ·rename_i hc;rw[if_pos (by simpa using hc)];exact .inl (Mu hQ h hin)
  ·rename_i hc;rw[if_neg (by simpa using hc)];exact⟨_,h.2,Nc h.1 hin⟩
 ·exact h.elim
def Zb {e:Entry} {all:Array Oper} {Q:Exit->Act->World->Prop} {K:St->Prop} (hPQ:PQ e Q) (hQ:∀a w,jC e K a w->Q .normal a w):∀(n k:Nat),k+n=all.size->∀(st:St) (a:Act) (w:World),
 gK P all (all.toList.drop k) st K->In e st a w->wpOps P all Q (List.range' k n) a w
 |0,k,hk,st,a,w,h,hin=>by
  rw[List.drop_eq_nil_of_le (by simp;omega)] at h;exact hQ a w ⟨st,h,hin⟩
 |n+1,k,hk,st,a,w,h,hin=>by
  have hlt:k<all.size:=by omega
  rw[tV (by simpa using hlt)] at h;rw[Hg,wpOps_cons];refine wpOp_mono ?_ (zR (i:=k) (by simp[hlt]) hPQ h hin);rintro a' w' ⟨st',h',hin'⟩;exact Zb hPQ hQ n (k+1) (by omega) st' a' w' h' hin'
def aB (P:Program) (c:Code) (Q:Exit->St->Prop) (st:St):Prop:=
 ∀(e:Entry) (a:Act) (w:World),In e st a w->c.wp P (fun x a' w'=>jC e (Q x) a' w'∨tT e x a' w') a w
def vE {e:Entry} {Q:Exit->St->Prop}:PQ e (fun x a' w'=>jC e (Q x) a' w'∨tT e x a' w'):=fun _ _ _ h=>.inr h
def tT.normal {e:Entry} {a:Act} {w:World} (h:tT e .normal a w):False:=by obtain⟨v,G,s',h,_⟩:=h;cases h
def tT.exit {e:Entry} {i:Nat} {a:Act} {w:World} (h:tT e (.exit i) a w):False:=by obtain⟨v,G,s',h,_⟩:=h;cases h
def tT.goto {e:Entry} {i:Nat} {a:Act} {w:World} (h:tT e (.goto i) a w):False:=by obtain⟨v,G,s',h,_⟩:=h;cases h
def qI (next:St->Prop) (Q:Exit->St->Prop):Exit->St->Prop
 | .normal,st=>next st
 |e,st=>Q e st
def Ai (id:Nat) (Q:Exit->St->Prop):Exit->St->Prop
 | .exit id',st=>if id'=id then Q .normal st else Q (.exit id') st
 |e,st=>Q e st
section
variable {Q:Exit->St->Prop} {st:St}
def aB.mono {c:Code} {Q':Exit->St->Prop} (h:aB P c Q st) (hq:∀e st,Q e st->Q' e st):aB P c Q' st:=
 fun e a w hin=>wp_mono (h e a w hin) fun x a' w' h=>h.imp (fun⟨st',h1,h2⟩=>⟨st',hq _ _ h1,h2⟩) id
def aB.weaken {c:Code} {st':St} (hle:st.le st') (h:aB P c Q st'):aB P c Q st:=
 fun e a w hin=>h e a w (hin.weaken hle)
def aB.skip (h:Q .normal st):aB P .skip Q st:=fun e a w hin=>wp_skip (.inl ⟨st,h,hin⟩)
def aB.label {l:Nat} (h:Q .normal st):aB P (.label l) Q st:=fun e a w hin=>wp_label (.inl ⟨st,h,hin⟩)
def aB.exit {id:Nat} (h:Q (.exit id) st):aB P (.exit id) Q st:=fun e a w hin=>wp_exit (.inl ⟨st,h,hin⟩)
def aB.ret (h:Q .ret st):aB P .ret Q st:=fun e a w hin=>wp_ret (.inl ⟨st,h,hin⟩)
def aB.seq {x y:Code} (h:aB P x (qI (aB P y Q) Q) st):aB P (.seq x y) Q st:=fun e a w hin=>by
 refine wp_seq (wp_mono (h e a w hin) fun ex a' w' h=>?_);rcases h with⟨st',h1,h2⟩|hp
 ·cases ex<;>first|exact .inl ⟨st',h1,h2⟩|exact h1 e a' w' h2
 ·cases ex<;>first|exact hp.normal.elim|exact .inr hp
def aB.cond {c:Operand} {x y:Code} {t:Bool} (hc:st.eval c= .base (.bool t)) (h1:t=true->aB P x Q st) (h2:t=false->aB P y Q st):aB P (.cond c x y) Q st:=fun e a w hin=>by
 obtain⟨G,be,hx,hr⟩:=hin;have hv:=gT hr hc;exact wp_cond_split hv (fun ht=>h1 ht e a w ⟨G,be,hx,hr⟩) (fun ht=>h2 ht e a w ⟨G,be,hx,hr⟩)
def aB.block {id:Nat} {c:Code} (h:aB P c (Ai id Q) st):aB P (.block id c) Q st:=fun e a w hin=>by
 refine wp_block (wp_mono (h e a w hin) fun ex a' w' h=>?_);rcases h with⟨st',h1,h2⟩|hp
 rotate_left
 ·cases ex<;>first|exact hp.exit.elim|exact .inr hp
 cases ex<;>first|exact .inl ⟨st',h1,h2⟩|skip
 rename_i id';simp only[Exit.inBlock];simp only[Ai] at h1;split at h1
 ·rename_i hid;rw[if_pos hid];exact .inl ⟨st',h1,h2⟩
 ·rename_i hid;rw[if_neg hid];exact .inl ⟨st',h1,h2⟩
def aB.cM {c:Code} {t0:Nat} {x:List V×TypeId} (hl:st.loc t0=some x) (h:∀b,st.s.box b=none->aB P c Q (st.cM t0 b x)):aB P c Q st:=fun e a w hin=>by
 obtain⟨b,hb,hin'⟩:=hin.cM hl;exact h b hb e a w hin'
def aB.loop {c:Code} (I:Nat->St->Prop) (n0:Nat) (h0:I n0 st) (round:∀n st,I n st->aB P c (qI (fun st'=>∃m,m<n∧I m st') Q) st):aB P (.loop c) Q st:=fun e a w hin=>by
 refine wp_loop_ghost (fun n a w=>∃st,I n st∧In e st a w) n0 ⟨st,h0,hin⟩ ?_;rintro n a w ⟨st1,hI,hin1⟩;refine wp_mono (round n st1 hI e a w hin1) fun ex a' w' h=>?_;rcases h with⟨st',h1,h2⟩|hp
 rotate_left
 ·cases ex<;>first|exact hp.normal.elim|exact .inr hp
 cases ex<;>first|exact .inl ⟨st',h1,h2⟩|skip
 obtain⟨m,hm,hI'⟩:=h1;exact⟨m,hm,st',hI',h2⟩
def aB.region {id:Nat} {ops:Array Oper} (h:gK P ops ops.toList st (Q .normal)):aB P (.region id ops false) Q st:=fun e a w hin=>by
 refine wp_region ?_;rw[Bg];exact Zb (e:=e) (K:=Q .normal) vE (fun a w h=>.inl h) ops.size 0 (by simp) st a w (by simpa using h) hin
end
def dC (P:Program) (st:St):List ResultVar->Option (List V)
 |[]=>some []
 | .tmp t::r=>match Jp (st.E t),dC P st r with
  |some v,some l=>some (v::l)
  |_,_=>none
 | .cell t ty::r=>match st.E t,bT P ty,dC P st r with
  | .loc b off,some d,some l=>match st.loc b with
   |some (cs,_)=>match rd d cs off with
    |some v=>some (v::l)
    |none=>none
   |none=>none
  |_,_,_=>none
def lR:List V->V
 |[v]=>v
 |l=>.tuple l
def wY (tmps:Array Value):ResultVar->Sem Value
 | .tmp t=>pure (tmps.getD t undef)
 | .cell x t=>do loadVar t (←asAddr (tmps.getD x undef))
def Rx {e:Entry} {st:St} {a:Act} {w:World} {G:bC} {be:Nat->Option Nat} {n0:nS} (hr:cW n0 G be st a w):∀(l:List ResultVar) (vs:List V),dC P st l=some vs->
 ∃cvs:List Value,(l.mapM (wY a.tmps)).run P w= .ok cvs w∧bZ G vs cvs
 |[],vs,h=>by simp[dC] at h;subst h;exact⟨[],by simp,bZ.nil G⟩
 | .tmp t::r,vs,h=>by
  simp only[dC] at h;split at h
  ·rename_i v l hv hl;cases h
   obtain⟨cvs,h1,h2⟩:=Rx (e:=e) hr r l hl;obtain⟨rfl,hne⟩:=Yu hv;refine⟨a.tmps.getD t undef::cvs,?_,bZ.cons ((hr.tmps t).rep hne) h2⟩;simp only[List.mapM_cons,wY,Sem.run_bind,Sem.run_pure,Result.andThen_ok,h1]
  ·cases h
 | .cell t ty::r,vs,h=>by
  simp only[dC] at h;split at h
  ·rename_i b off d l hE hd hl;split at h
   ·rename_i cs ty' hb;split at h
    ·rename_i v hv;cases h
     obtain⟨cvs,h1,h2⟩:=Rx (e:=e) hr r l hl;obtain⟨bl,k1,k2,⟨ccs,k3,k4,k5⟩,k6⟩:=hr.loc b cs ty' hb;have htm:=hr.tmps t;rw[hE] at htm;obtain⟨_,bl',k1',hpv⟩:=htm;obtain rfl:bl'=bl:=eS (k1'.symm.trans k1);obtain⟨cv,hrun,hrep⟩:=Ix (P:=P) (w:=w) (b:=bl') (o:=0) k4 (fun j v hv=>by rw[kH,cell_of_row w bl' j ccs ty' _ k3];simpa using hv) hd hv;rw[kH] at hrun;simp only[Instr.loadAt,Instr.sureAddr,Sem.run_bind,Sem.run_pure,Result.andThen_ok] at hrun;refine⟨cv::cvs,?_,bZ.cons hrep h2⟩;have ha:asAddr (a.tmps.getD t undef)=pure ⟨bl',off,none⟩:=by rw[hpv];rfl
     simp only[List.mapM_cons,wY,Sem.run_bind,ha,Sem.run_pure,Result.andThen_ok,hrun,h1]
    ·cases h
   ·cases h
  ·cases h
def Gc (P:Program) (fn:Func) (R:V->aL->Prop):Exit->St->Prop
 | .normal,st| .ret,st=>∃vs v s',dC P st fn.results.toList=some vs∧Wk (lR vs) v∧st.s.le s'∧R v s'
 |_,_=>False
def uF (args:List V):Nat->V:=fun t=>args.getD t (.base undef)
def bC.drop (G:bC) (k:Nat):bC:={ G with ob:=fun k'=>if k'=k then none else G.ob k' }
def bJ.uU {G:bC} {k:Nat} {c:V} {v:Value} (h:bJ G c v):bJ (G.drop k) c v:=bJ.Xc (G:=G) (G':=G.drop k) (fun _ _ _ h=>h) (fun _ _ h=>h) h
def bZ.uU {G:bC} {k:Nat} {c:List V} {v:List Value} (h:bZ G c v):bZ (G.drop k) c v:=⟨h.1,fun i c v a b=>(h.2 i c v a b).uU⟩
def cS.drop {G:bC} {s:aL} {w:World} (h:cS G s w) (k:Nat):cS (G.drop k) s w where
 dO:=h.dO
 box:=fun b cs ty hb=>by
  obtain⟨ccs,a,c,d⟩:=h.box b cs ty hb;exact⟨ccs,a,c.uU,d⟩
 own:=h.own
 sep:=h.sep
 nobox:=h.nobox
 fin:=h.fin
 ob:=fun k' x hk=>by
  simp only[bC.drop] at hk;split at hk
  ·cases hk
  ·exact h.ob k' x hk
 tab:=h.tab
 siz:=h.siz
def cS.Lx {G:bC} {s:aL} {w:World} (h:cS G s w) {b:Nat} (hb:dL G s b):∃x,w.heap[b]? =some x∧wJ x=true:=by
 rcases hb with hb|⟨g,⟨e,sz⟩,v,h1,h2,h3⟩
 ·cases hx:s.box b with
  |none=>exact absurd hx hb
  |some x=>
   obtain⟨cs,ty⟩:=x;obtain⟨ccs,hc,_⟩:=h.box b cs ty hx;exact⟨_,hc,rfl⟩
 ·obtain⟨v',hv,ho⟩:=h.own g e sz h1;obtain rfl:v'=v:=eS (hv.symm.trans h2);rcases ho with⟨a,rfl⟩|⟨b',n,cap,cur,rfl,hc,_⟩
  ·cases a<;>simp[jT] at h3
  ·simp[jT] at h3;subst h3;exact⟨_,hc,rfl⟩
def cS.aI6 {G:bC} {s:aL} {w:World} (h:cS G s w) {b o:Nat} {v:Value} (hb:G.F b o=some v):∃x,w.heap[b]? =some x∧wJ x=true:=by
 have:=h.dO b o v hb;unfold World.cell? at this;cases hq:w.heap[b]? with
 |none=>simp[hq] at this
 |some x=>
  refine⟨x,rfl,?_⟩;cases x<;>simp[hq] at this<;>rfl
def cS.putObj {G:bC} {s:aL} {w:World} (h:cS G s w) {k:Nat} {x x':Obj} (hk:w.heap[k]? =some x) (hx:wJ x=false) (hG:G.ob k=none):cS G s (w.putObj k x'):=by
 have ne:∀b,(∃y,w.heap[b]? =some y∧wJ y=true)->b≠k:=fun b ⟨y,h1,h2⟩ e=>by
  subst e;rw[hk] at h1;cases h1;rw[hx] at h2;cases h2
 refine h.same (fun b o v hv=>?_) (fun b hb=>World.putObj_heap_other (ne b (h.Lx hb))) (fun b y hb=>World.putObj_heap_other (fun e=>by subst e;rw[hG] at hb;cases hb)) (fun b cs ty fr hb=>⟨cs,ty,fr,(World.putObj_heap_other (fun e=>by subst e;rw[hk] at hb;cases hb;cases hx)).trans hb,rfl⟩);simp[World.cell?,World.putObj_heap_other (ne b (h.aI6 hv))]
def dD.putObj {G G':bC} {s s':aL} {w w':World} (h:dD G s w G' s' w') {k:Nat} (hk:w.heap.size<=k) (x:Obj):dD G s w G' s' (w'.putObj k x):=
 ⟨h.le,by simpa using h.size,h.os,h.tape,h.output,fun b hb hf=>(World.putObj_heap_other (by omega)).trans (h.keep b hb hf),h.dL,h.dO,h.keys⟩
def dD.Xe {G G':bC} {s s':aL} {w w':World} (h:dD G s w G' s' w') {k:Nat} (hk:G.ob k=none):dD G s w (G'.drop k) s' w':=
 ⟨⟨h.le.f,h.le.o,fun k' x hx=>by
  have:k'≠k:=fun e=>by subst e;rw[hk] at hx;cases hx
  simpa[bC.drop,this] using h.le.b k' x hx⟩,h.size,h.os,h.tape,h.output,h.keep,h.dL,h.dO,h.keys⟩
def cS.Md {G:bC} {s:aL} {w:World} (h:cS G s w) {k:Nat} (hk:w.heap.size<=k):G.ob k=none:=by
 cases hq:G.ob k with
 |none=>rfl
 |some x=>have:=(gZ.1 (h.ob k x hq).2).1;omega
def cW.unmark {n0:nS} {G:bC} {be:Nat->Option Nat} {st:St} {a:Act} {w:World} (h:cW n0 G be st a w) {d:Deferred} {ds:List Deferred} (hds:st.ds=d::ds):
 ∃D,d=uP D∧n0.n<=D∧G.ob D=some (.deferred (some []))∧w.heap[D]? =some (.deferred (some []))∧cW n0 (G.drop D) be { st with ds:=ds,lo:=⟨fun _ _=>none,fun _=>none,fun _=>none⟩ } { a with defers:=ds++n0.tl } (w.putObj D (.deferred none)):=by
 have hdf:=h.df;rw[hds] at hdf;obtain⟨D,rfl,hD1,hD2⟩:=hdf.ok d (by simp);have hw:=(h.hr.ob D _ hD2).2;have hDl:D<w.heap.size:=(gZ.1 hw).1;refine⟨D,rfl,hD1,hD2,hw,(h.hr.drop D).putObj hw rfl (by simp[bC.drop]),h.n,⟨rfl,fun d' hd'=>?_,(List.pairwise_cons.1 hdf.nd).2,bC.none_le _,hdf.pp⟩,fun t=>?_,fun t cs ty ht=>?_,h.inj⟩
 ·obtain⟨D',rfl,h1,h2⟩:=hdf.ok d' (by simp[hd']);refine⟨D',rfl,h1,?_⟩;have:D'≠D:=fun e=>by subst e;exact(List.pairwise_cons.1 hdf.nd).1 _ hd' rfl
  simp[bC.drop,this,h2]
 ·have:=h.tmps t;cases hv:st.E t<;>rw[hv] at this<;>simp only[hv]<;>first|exact bJ.uU this|exact this
 ·obtain⟨b,k1,k2,⟨ccs,k3,k4,k5⟩,k6,k7⟩:=h.loc t cs ty ht;have hne:b≠D:=fun e=>by subst e;rw[hw] at k3;cases k3
  exact⟨b,k1,k2,⟨ccs,(World.putObj_heap_other hne).trans k3,k4.uU,k5⟩,k6,k7⟩
def Xv {e:Entry} (he:cS e.G e.s e.w) {fn:Func} {tmps:Array Value} {R:Ending->World->Prop} {E:Nat->V} {loc:Nat->Option (List V×TypeId)} {s:aL} {n:Nat} {pp:Value->aL->Prop} {u:FrameMode} (hu:u≠ .run)
 (fin:∀G be a w,dD e.G e.s e.w G s w->cW e.base G be { E:=E,loc:=loc,s:=s,n:=n,pp:=pp } a w->a.tmps=tmps->LeavesInM Fence.wide 0 P fn tmps R e.tl u w):
 ∀(ds:List Deferred) (lo:bC) (G:bC) (be:Nat->Option Nat) (a:Act) (w:World),dD e.G e.s e.w G s w->cW e.base G be { E:=E,loc:=loc,s:=s,n:=n,ds:=ds,lo:=lo,pp:=pp } a w->a.tmps=tmps->LeavesInM Fence.wide 0 P fn tmps R a.defers u w
 |[],lo,G,be,a,w,hx,hr,ht=>by
  rw[show a.defers=e.tl from hr.df.eq];exact fin G be a w hx ⟨hr.hr,hr.n,⟨hr.df.eq,(fun d h=>by cases h),Mi,bC.none_le _,hr.df.pp⟩,hr.tmps,hr.loc,hr.inj⟩ ht
 |d::ds,lo,G,be,a,w,hx,hr,ht=>by
  obtain⟨D,rfl,h1,h2,hw,hr'⟩:=hr.unmark rfl;rw[show a.defers=uP D::(ds++e.tl) from hr.df.eq];have ih:=Xv he hu fin ds ⟨fun _ _=>none,fun _=>none,fun _=>none⟩ (G.drop D) be { a with defers:=ds++e.tl } (w.putObj D (.deferred none)) ((hx.putObj h1 _).Xe (he.Md h1)) hr' ht;exact⟨hu,.inl ⟨D,_,rfl,run_takeDeferred hw,ih⟩⟩
def Iq (P:Program) (lo:bC) (f:FuncId) (args:List V) (s:aL) (R:V->aL->Prop):Prop:=
 (∃fn,P.funcs[f]? =some fn∧fn.body.isNone=false∧(fn.name == "runtime.NumGoroutine")=false)∧
 ∀G w (cargs:Array Value),cS G s w->lo.Le G->bZ G args cargs.toList->Calls P f cargs w fun e w'=>∃G' s' v cv,e= .returned cv∧bJ G' v cv∧dD G s w G' s' w'∧cS G' s' w'∧R v s'
def Zc {lo:bC} {PP:Value->aL->Prop} {f:FuncId} {fn:Func} {c:Code} {args:List V} {s:aL} {R:V->aL->Prop} (hf:P.funcs[f]? =some fn) (hb:fn.body=some c) (hn:(fn.name == "runtime.NumGoroutine")=false) (hlen:args.length<=fn.ntmps)
 (h:aB P c (Gc P fn R) { E:=uF args,loc:=fun _=>none,s:=s,n:=fn.ntmps,lo:=lo,pp:=PP }):(∃fn,P.funcs[f]? =some fn∧fn.body.isNone=false∧(fn.name == "runtime.NumGoroutine")=false)∧
 ∀G w (cargs:Array Value),cS G s w->lo.Le G->bZ G args cargs.toList->Calls P f cargs w fun e w'=>(∃G' s' v cv,e= .returned cv∧bJ G' v cv∧dD G s w G' s' w'∧cS G' s' w'∧R v s')∨∃G' s' v,e= .panicked [{ v:=v,recovered:=false }]∧dD G s w G' s' w'∧cS G' s' w'∧PP v s':=by
 refine⟨⟨fn,hf,by simp[hb],hn⟩,fun G w cargs hh hob hargs=>?_⟩;have hsz:cargs.size=args.length:=by have:=hargs.1;simp at this;omega
 refine(callsIn_wide (n:=0)).1 (callsIn_of_wp_marks hf hb trivial (wpIn_wide.2 ?_));have hin:In ⟨G,s,w,[],PP⟩ { E:=uF args,loc:=fun _=>none,s:=s,n:=fn.ntmps,lo:=lo,pp:=PP } { tmps:=cargs++Array.replicate (fn.ntmps-cargs.size) undef,defers:=[] } w:=by
  refine⟨G,fun _=>none,dD.refl _ _ _,hh,by simp;omega,⟨rfl,(fun d h=>by cases h),Mi,hob,rfl⟩,fun t=>?_,(fun t cs ty ht=>(by cases ht)),fun t t' b h1=>absurd rfl h1⟩;simp only[uF];by_cases ht:t<args.length
  ·have e1:args.getD t (.base undef)=args[t]:=by simp[fR,ht]
   have e2:(cargs++Array.replicate (fn.ntmps-cargs.size) undef).getD t undef=cargs[t]'(by omega):=by
    rw[iS,Xi (by omega),oQ (by omega)];rfl
   rw[e1,e2];exact eE.kF (hargs.2 t _ _ (fH ht) (by simp[show t<cargs.size by omega]))
  ·have e1:args.getD t (.base undef)= .base undef:=by simp[fR,Gy (Nat.le_of_not_lt ht)]
   have e2:(cargs++Array.replicate (fn.ntmps-cargs.size) undef).getD t undef=undef:=by
    rw[iS,Array.getElem?_append_right (by omega)];by_cases h2:t-cargs.size<fn.ntmps-cargs.size
    ·simp[Gx,h2]
    ·simp[Gx,h2]
   rw[e1,e2];exact bJ.base _
 refine wp_mono (h _ _ _ hin) fun ex a' w' h'=>?_;rcases h' with⟨st',hq,hin'⟩|⟨v,G',s',rfl,h2,h3,h4,h5⟩
 rotate_left
 ·show LeavesInM Fence.wide 0 P fn a'.tmps _ a'.defers _ w';rw[h2];exact .inr ⟨G',s',v,rfl,h3,h4,h5⟩
 have fin:(∃vs v s',dC P st' fn.results.toList=some vs∧Wk (lR vs) v∧st'.s.le s'∧R v s')->LeavesInM Fence.wide 0 P fn a'.tmps (fun e w'=>(∃G' s' v cv,e= .returned cv∧bJ G' v cv∧dD G s w G' s' w'∧cS G' s' w'∧R v s')∨∃G' s' v,e= .panicked [{ v:=v,recovered:=false }]∧dD G s w G' s' w'∧cS G' s' w'∧PP v s') a'.defers .returning w':=by
  rintro⟨vs,v,s',h1,h2,h3,h4⟩;obtain⟨G',be,hx,hr⟩:=hin';refine Xv (e:=⟨G,s,w,[],PP⟩) hh (pp:=st'.pp) (by simp) (E:=st'.E) (loc:=st'.loc) (s:=st'.s) (n:=st'.n) (fun G1 be1 a1 w1 hx1 hr1 ht1=>?_) st'.ds st'.lo G' be a' w' hx hr rfl;have hres1:dC P { E:=st'.E,loc:=st'.loc,s:=st'.s,n:=st'.n,pp:=st'.pp } fn.results.toList=some vs:=by
   rw[<-h1];generalize fn.results.toList=l
   induction l with
   |nil=>rfl
   |cons x l ih=>cases x<;>simp only[dC,ih]
  obtain⟨cvs,k1,k2⟩:=Rx (P:=P) (e:=⟨G,s,w,[],PP⟩) hr1 _ _ hres1;rw[ht1] at k1;show ∃v,(results fn a'.tmps).run P w1=Result.ok v w1∧_;refine⟨(if h:cvs.toArray.size=1 then cvs.toArray[0] else .tuple cvs.toArray),?_,.inl ⟨G1,s',v,_,rfl,?_,hx1.weaken h3,hr1.hr.weaken h3,h4⟩⟩
  ·have hres:results fn a'.tmps=(do let vs ←fn.results.mapM (wY a'.tmps);pure (if h:vs.size=1 then vs[0] else .tuple vs)):=by
    unfold results;congr 1
   rw[hres,Sem.run_bind,Array.mapM_eq_mapM_toList,Sem.run_map,k1];rfl
  ·refine h2 G1 _ ?_
   match vs,cvs,k2 with
   |[],[],k2=>exact bZ.tuple (ccs:= #[]) (bZ.nil G1)
   |[x],[y],k2=>exact k2.2 0 x y rfl rfl
   |x::y::r,x'::y'::r',k2=>simpa[lR] using bZ.tuple (ccs:=(x'::y'::r').toArray) k2
   |[],_::_,k2=>have:=k2.1;simp at this
   |[_],[],k2=>have:=k2.1;simp at this
   |[_],_::_::_,k2=>have:=k2.1;simp at this
   |_::_::_,[],k2=>have:=k2.1;simp at this
   |_::_::_,[_],k2=>have:=k2.1;simp at this
 cases ex<;>first|exact fin hq|exact hq.elim
def Mp {lo:bC} {f:FuncId} {fn:Func} {c:Code} {args:List V} {s:aL} {R:V->aL->Prop} (hf:P.funcs[f]? =some fn) (hb:fn.body=some c) (hn:(fn.name == "runtime.NumGoroutine")=false) (hlen:args.length<=fn.ntmps)
 (h:aB P c (Gc P fn R) { E:=uF args,loc:=fun _=>none,s:=s,n:=fn.ntmps,lo:=lo }):Iq P lo f args s R:=
 have h':=Zc hf hb hn hlen h
 ⟨h'.1,fun G w cargs h1 h2 h3=>(h'.2 G w cargs h1 h2 h3).mono fun e w' h=>h.elim id fun⟨_,_,_,_,_,_,h⟩=>h.elim⟩
def Zd {PP:Value->aL->Prop} {f:FuncId} {fn:Func} {c:Code} {args:List V} {s:aL} {R:V->aL->Prop} (hf:P.funcs[f]? =some fn) (hb:fn.body=some c) (hn:(fn.name == "runtime.NumGoroutine")=false) (hlen:args.length<=fn.ntmps)
 (h:aB P c (Gc P fn R) { E:=uF args,loc:=fun _=>none,s:=s,n:=fn.ntmps,pp:=PP }):gM P f args s PP R:=
 have h':=Zc hf hb hn hlen h
 ⟨h'.1,fun G w cargs h1 h2=>h'.2 G w cargs h1 G.none_le h2⟩
def Hw {f:FuncId} {fn:Func} {c:Code} {args:List V} {s:aL} {R:V->aL->Prop} (hf:P.funcs[f]? =some fn) (hb:fn.body=some c) (hn:(fn.name == "runtime.NumGoroutine")=false) (hlen:args.length<=fn.ntmps)
 (h:aB P c (Gc P fn R) { E:=uF args,loc:=fun _=>none,s:=s,n:=fn.ntmps }):mY P f args s R:=
 have h':=Mp hf hb hn hlen h
 ⟨h'.1,fun G w cargs hh hargs=>h'.2 G w cargs hh G.none_le hargs⟩
end
section
variable {P:Program} {Q:Exit->St->Prop} {st:St}
def nT:List (Nat×V)->Nat->V
 |[]=>fun _=>.any
 |(t,v)::r=>cA (nT r) t v
def lX:List (Nat×(List V×TypeId))->Nat->Option (List V×TypeId)
 |[]=>fun _=>none
 |(t,x)::r=>cA (lX r) t (some x)
def bN (L:List (Nat×V)) (B:List (Nat×(List V×TypeId))) (s:aL) (n:Nat):St:={ E:=nT L,loc:=lX B,s:=s,n:=n }
def jK:List (Nat×V)->(Nat->V)->Prop
 |[],_=>True
 |(k,v)::r,g=>v=g k∧jK r g
def jL:List (Nat×(List V×TypeId))->(Nat->Option (List V×TypeId))->Prop
 |[],_=>True
 |(k,x)::r,g=>g k=some x∧jL r g
def iG (b:Nat):List (Nat×(List V×TypeId))->Bool
 |[]=>false
 |(k,_)::r=>b==k||iG b r
def gB (B:List (Nat×(List V×TypeId))):List (Nat×V)->Prop
 |[]=>True
 |(_,v)::r=>(match v with| .loc b _=>iG b B=true|_=>True)∧gB B r
def Jb {g:Nat->V}:∀{L:List (Nat×V)},jK L g->∀t,nT L t=g t∨nT L t= .any
 |[],_,t=>.inr rfl
 |(k,v)::r,⟨h1,h2⟩,t=>by
  by_cases e:t=k
  ·subst e;exact .inl (by simp only[nT,eL];exact h1)
  ·simp only[nT,dA _ _ _ _ e];exact Jb h2 t
def Il {g:Nat->Option (List V×TypeId)}:∀{B:List (Nat×(List V×TypeId))},jL B g->∀t,lX B t=g t∨lX B t=none
 |[],_,t=>.inr rfl
 |(k,v)::r,⟨h1,h2⟩,t=>by
  by_cases e:t=k
  ·subst e;exact .inl (by simp only[lX,eL];exact h1.symm)
  ·simp only[lX,dA _ _ _ _ e];exact Il h2 t
def Yw {b:Nat}:∀{B:List (Nat×(List V×TypeId))},iG b B=true->lX B b≠none
 |[],h=>by simp[iG] at h
 |(k,v)::r,h=>by
  by_cases e:b=k
  ·subst e;simp[lX,cA]
  ·simp only[lX,dA _ _ _ _ e];exact Yw (by simpa[iG,e] using h)
def El {B:List (Nat×(List V×TypeId))}:∀{L:List (Nat×V)},gB B L->∀t b off,nT L t= .loc b off->lX B b≠none
 |[],_,t,b,off,h=>by simp[nT] at h
 |(k,v)::r,⟨h1,h2⟩,t,b,off,h=>by
  by_cases e:t=k
  ·subst e;simp only[nT,eL] at h;subst h;exact Yw h1
  ·simp only[nT,dA _ _ _ _ e] at h;exact El h2 t b off h
def qY {L:List (Nat×V)} {B:List (Nat×(List V×TypeId))} {s:aL} {n:Nat} (h1:jK L st.E) (h2:gB B L) (h3:jL B st.loc) (h4:st.s.le s) (h5:n=st.n) (h6:st.ds=[]:=by rfl) (h7:st.pp=kW:=by rfl):st.le (bN L B s n) where
 E:=Jb h1
 loc:=fun t=>(Il h3 t).imp id fun e=>⟨e,fun t' off h=>El h2 t' t off h e⟩
 box:=h4.box
 own:=h4.own
 n:=h5
 ds:=h6.symm
 lo:=bC.none_le _
 pp:=h7.symm
def eH (pp:Value->aL->Prop) (L:List (Nat×V)) (B:List (Nat×(List V×TypeId))) (s:aL) (n:Nat):St:={ E:=nT L,loc:=lX B,s:=s,n:=n,pp:=pp }
def CZ {pp:Value->aL->Prop} {L:List (Nat×V)} {B:List (Nat×(List V×TypeId))} {s:aL} {n:Nat} (h1:jK L st.E) (h2:gB B L) (h3:jL B st.loc) (h4:st.s.le s) (h5:n=st.n) (h6:st.ds=[]:=by rfl) (h7:st.pp=pp:=by rfl):st.le (eH pp L B s n) where
 E:=Jb h1
 loc:=fun t=>(Il h3 t).imp id fun e=>⟨e,fun t' off h=>El h2 t' t off h e⟩
 box:=h4.box
 own:=h4.own
 n:=h5
 ds:=h6.symm
 lo:=bC.none_le _
 pp:=h7.symm
def aL.le.trans {a b c:aL} (h:a.le b) (h':b.le c):a.le c:=
 ⟨fun k=>(h'.box k).elim (fun e=>by rw[e];exact h.box k) .inr,fun k=>(h'.own k).elim (fun e=>by rw[e];exact h.own k) .inr⟩
def aB.rJ {x y:Code} (h:∀K:St->Prop,(∀st,aB P y Q st->K st)->aB P x (qI K Q) st):aB P (.seq x y) Q st:=aB.seq (h _ fun _ h=>h)
def aB.eD {id:Nat} {ops:Array Oper} {y:Code} (h:∀K:St->Prop,(∀st,aB P y Q st->K st)->gK P ops ops.toList st K):aB P (.seq (.region id ops false) y) Q st:=aB.seq (aB.region (h _ fun _ h=>h))
def aB.fW {id:Nat} {ops:Array Oper} (h:∀K:St->Prop,(∀st,Q .normal st->K st)->gK P ops ops.toList st K):aB P (.region id ops false) Q st:=aB.region (h _ fun _ h=>h)
def aB.Qj {ι:Type} {c:Code} (I:ι->Prop) (T:ι->St) (μ:ι->Nat) (i0:ι) (h0:I i0∧st.le (T i0)) (round:∀i,I i->aB P c (qI (fun st'=>∃j,(I j∧μ j<μ i)∧st'.le (T j)) Q) (T i)):aB P (.loop c) Q st:=by
 refine aB.loop (fun n st=>∃i,I i∧μ i=n∧st.le (T i)) (μ i0) ⟨i0,h0.1,rfl,h0.2⟩ ?_;rintro n st1 ⟨i,hi,rfl,hle⟩;refine((round i hi).weaken hle).mono fun e st' h=>?_;cases e<;>first|exact h|skip
 obtain⟨j,⟨h1,h2⟩,h3⟩:=h;exact⟨μ j,h2,j,h1,rfl,h3⟩
def cG (P:Program) (f:FuncId) (args:List V) (v:V):Prop:=∀s,mY P f args s fun v' s'=>v'=v∧s'=s
end
end Go.Am
