/- A part. -/
import Derived.BigCall
import Derived.Lib.SplitLaws
import Derived.Lib.CountLaws
import Derived.Lib.MapU
import Derived.Test.YtlfbdcfnimnhiaaGreatDoorQ4
set_option linter.all false
set_option maxHeartbeats 4000000
set_option maxRecDepth 1000000
open Go.Proofs.Tryz
open Go.IntKind (i64)
namespace Go.Proofs.YtlfbdcfnimnhiaaGreatDoor.Ex
open Go.Am Go.Ex
def Lb (x0:aF):Option ((List aA)×(List aF)):=(cF (fun u8 (q7:(List aF)×Int)=>(aE (decide (q7.2<(x0.with_.length:Int))) (aR (0<=q7.2∧q7.2<(x0.with_.length:Int)) (aR ((q7.1.length+((x0.with_.getD q7.2.toNat bE.z).body).length)*120<=140737488355328) (u8 ((q7.1++((x0.with_.getD q7.2.toNat bE.z).body)),(i64.wrap (q7.2+1)))))) (cF (fun u28 (q27:(List aA)×(List aF)×Int)=>(aE (decide (q27.2.2<(x0.parts.length:Int))) (aR (0<=q27.2.2∧q27.2.2<(x0.parts.length:Int)) (cF (fun u41 (q40:(List aA)×Int)=>(aE (decide (q40.2<((((x0.parts.getD q27.2.2.toNat aK.z).items).length:Nat):Int))) (aR (0<=q40.2∧q40.2<((((x0.parts.getD q27.2.2.toNat aK.z).items).length:Nat):Int)) (aR ((q40.1.length+((((x0.parts.getD q27.2.2.toNat aK.z).items).getD q40.2.toNat bA.z).expr).length)*136<=140737488355328) (u41 ((q40.1++((((x0.parts.getD q27.2.2.toNat aK.z).items).getD q40.2.toNat bA.z).expr)),(i64.wrap (q40.2+1)))))) (cF (fun u59 (q58:(List aA)×(List aF)×Int)=>(aE (decide (q58.2.2<((((x0.parts.getD q27.2.2.toNat aK.z).from_).length:Nat):Int))) (aR (0<=q58.2.2∧q58.2.2<((((x0.parts.getD q27.2.2.toNat aK.z).from_).length:Nat):Int)) (aR ((q58.1.length+((((x0.parts.getD q27.2.2.toNat aK.z).from_).getD q58.2.2.toNat aO.z).on).length)*136<=140737488355328) (aR ((q58.2.1.length+((((x0.parts.getD q27.2.2.toNat aK.z).from_).getD q58.2.2.toNat aO.z).sub).length)*120<=140737488355328) (u59 ((q58.1++((((x0.parts.getD q27.2.2.toNat aK.z).from_).getD q58.2.2.toNat aO.z).on)),(q58.2.1++((((x0.parts.getD q27.2.2.toNat aK.z).from_).getD q58.2.2.toNat aO.z).sub)),(i64.wrap (q58.2.2+1))))))) (call (Gb ([q58.1,(x0.parts.getD q27.2.2.toNat aK.z).where_,(x0.parts.getD q27.2.2.toNat aK.z).group,(x0.parts.getD q27.2.2.toNat aK.z).having])) fun y75=>(cF (fun u84 (q83:(List aA)×Int)=>(aE (decide (q83.2<((((x0.parts.getD q27.2.2.toNat aK.z).values).length:Nat):Int))) (aR (0<=q83.2∧q83.2<((((x0.parts.getD q27.2.2.toNat aK.z).values).length:Nat):Int)) (aR ((q83.1.length+(((x0.parts.getD q27.2.2.toNat aK.z).values).getD q83.2.toNat ([])).length)*136<=140737488355328) (u84 ((q83.1++(((x0.parts.getD q27.2.2.toNat aK.z).values).getD q83.2.toNat ([]))),(i64.wrap (q83.2+1)))))) (u28 (q83.1,q58.2.1,(i64.wrap (q27.2.2+1)))))) bQ (y75,0))))) bQ (q40.1,q27.2.1,0)))) bQ (q27.1,0))) (cF (fun u101 (q100:(List aA)×Int)=>(aE (decide (q100.2<(x0.order.length:Int))) (aR (0<=q100.2∧q100.2<(x0.order.length:Int)) (aR ((q100.1.length+1)*136<=140737488355328) (u101 ((q100.1++([(x0.order.getD q100.2.toNat aX.z).expr])),(i64.wrap (q100.2+1)))))) (call (Gb ([q100.1,x0.limit,x0.offset])) fun y113=>(call (Wc y113) fun y116=>(call (Wb q27.2.1) fun y117=>(some (y116,y117))))))) bQ (q27.1,0)))) bQ (([]:List aA),q7.1,0)))) bQ (([]:List aF),0))
def c53 (x0:aF) (r:(List aA)×(List aF)) (h:Lb x0=some r):cG prog 53 [.agg x0.v] (.tuple [V.func 141 [] [.elt [.slice 10 (r.1.map aA.v)] 0],V.func 142 [] [.elt [.slice 5 (r.2.map aF.v)] 0]]):=by
 intro s;unfold Lb at h;refine ac func53 ntmps53 ?_;refine rg ?_;refine rg ?_;refine rg ?_;apply aB.seq;refine rg ?_;apply aB.block;refine aB.Gw 5 (42,5) (.inl (by rfl)) fun g2 hg2=>?_;change (s).own g2=none at hg2;have fr3:Fr s (List.map Prod.fst [(g2,(42,5))]):=Fr.snoc (l:=[]) (Fr.nil s) hg2;refine aB.pA (X:=(List aF)×Int) (G:=Nat) h (fun gq9=>Fr s (List.map Prod.fst [(gq9,(42,5))])) (fun q7 gq9=>bN [(1,.loc 1 0),(4,.nil),(5,.own gq9 5 (q7.1.map aF.v)),(19,.slice 3 (x0.with_.map bE.v)),(20,aI (x0.with_.length:Int)),(21,aI q7.2)] [(1,(x0.v,42))] (cJ s [(gq9,(42,5))]) 110) ?_ ?_
 ·exact⟨g2,fr3,bX⟩
 ·rintro u8 ⟨v4,v6⟩ h g5 hg5f;(try dsimp only at h ⊢);refine rg ?_;apply aB.seq;refine wz h (fun h=>?_) fun h=>?_
  ·apply sK;apply aB.seq;apply aB.block;obtain⟨hn14,h⟩:=aV h;refine bG (ai (aJ hn14.1)<|ai (aJ hn14.2)<|(bW bE.v bE.z hn14)) ?_;refine aB.fW fun Z15 hZ15=>?_;obtain⟨hn16,h⟩:=aV h;refine sy ?_
   first|refine mL hg5f hn16 fun g17 hg17=>?_|refine mM hg5f hn16 fun g17 hg17=>?_
   have fr18:Fr s (List.map Prod.fst [(g17,(42,5))]):=Fr.rep (a:=[]) (b:=[]) hg5f hg17;refine sy ?_;refine hZ15 _ ?_;clear hZ15 Z15;refine tS (Fr.mN (a:=[]) (b:=[]) hg5f hg17) (s':=(cJ s [(g17,(42,5))])) ?_;refine r1 ?_;exact⟨((v4++((x0.with_.getD v6.toNat bE.z).body)),(i64.wrap (v6+1))),h,g17,fr18,bX⟩
  ·apply aB.exit;simp only[dR,seval];apply aB.seq;refine rg ?_;apply aB.block;refine aB.Gw 4 (29,10) (.inl (by rfl)) fun g20 hg20=>?_;change (cJ s [(g5,(42,5))]).own g20=none at hg20;have fr21:Fr s (List.map Prod.fst [(g5,(42,5)),(g20,(29,10))]):=Fr.snoc (l:=[(g5,(42,5))]) hg5f hg20;refine aB.pA (X:=(List aA)×(List aF)×Int) (G:=Nat×Nat) h (fun gq29=>Fr s (List.map Prod.fst [(gq29.1,(42,5)),(gq29.2,(29,10))])) (fun q27 gq29=>bN [(1,.loc 1 0),(4,.own gq29.2 10 (q27.1.map aA.v)),(5,.own gq29.1 5 (q27.2.1.map aF.v)),(31,.slice 8 (x0.parts.map aK.v)),(32,aI (x0.parts.length:Int)),(33,aI q27.2.2)] [(1,(x0.v,42))] (cJ s [(gq29.1,(42,5)),(gq29.2,(29,10))]) 110) ?_ ?_
   ·exact⟨(g5,g20),fr21,bX⟩
   ·rintro u28 ⟨v22,v24,v26⟩ h ⟨g25,g23⟩ hg25f;(try dsimp only at h ⊢);refine rg ?_;apply aB.seq;refine wz h (fun h=>?_) fun h=>?_
    ·apply sK;apply aB.seq;apply aB.block;obtain⟨hn34,h⟩:=aV h;refine bG (ai (aJ hn34.1)<|ai (aJ hn34.2)<|(bW aK.v aK.z hn34)) ?_;apply aB.seq;refine rg ?_;apply aB.block;refine aB.pA (X:=(List aA)×Int) (G:=Nat×Nat) h (fun gq42=>Fr s (List.map Prod.fst [(gq42.1,(42,5)),(gq42.2,(29,10))])) (fun q40 gq42=>bN [(1,.loc 1 0),(4,.own gq42.2 10 (q40.1.map aA.v)),(5,.own gq42.1 5 (v24.map aF.v)),(9,.loc 9 0),(31,.slice 8 (x0.parts.map aK.v)),(32,aI (x0.parts.length:Int)),(33,aI v26),(38,.slice 4 (List.map bA.v ((x0.parts.getD v26.toNat aK.z).items))),(39,aI ((((x0.parts.getD v26.toNat aK.z).items).length:Nat):Int)),(40,aI q40.2)] [(1,(x0.v,42)),(9,((x0.parts.getD v26.toNat aK.z).v,75))] (cJ s [(gq42.1,(42,5)),(gq42.2,(29,10))]) 110) ?_ ?_
     ·exact⟨(g25,g23),hg25f,bX⟩
     ·rintro u41 ⟨v36,v38⟩ h ⟨g39,g37⟩ hg39f;(try dsimp only at h ⊢);refine rg ?_;apply aB.seq;refine wz h (fun h=>?_) fun h=>?_
      ·apply sK;apply aB.seq;apply aB.block;obtain⟨hn47,h⟩:=aV h;refine bG (ai (aJ hn47.1)<|ai (aJ hn47.2)<|(bW bA.v bA.z hn47)) ?_;refine aB.fW fun Z48 hZ48=>?_;obtain⟨hn49,h⟩:=aV h;refine sy ?_
       first|refine mL hg39f hn49 fun g50 hg50=>?_|refine mM hg39f hn49 fun g50 hg50=>?_
       have fr51:Fr s (List.map Prod.fst [(g39,(42,5)),(g50,(29,10))]):=Fr.rep (a:=[(g39,(42,5))]) (b:=[]) hg39f hg50;refine sy ?_;refine hZ48 _ ?_;clear hZ48 Z48;refine tS (Fr.mN (a:=[(g39,(42,5))]) (b:=[]) hg39f hg50) (s':=(cJ s [(g39,(42,5)),(g50,(29,10))])) ?_;refine r1 ?_;exact⟨((v36++((((x0.parts.getD v26.toNat aK.z).items).getD v38.toNat bA.z).expr)),(i64.wrap (v38+1))),h,(g39,g50),fr51,bX⟩
      ·apply aB.exit;simp only[dR,seval];apply aB.seq;refine rg ?_;apply aB.block;refine aB.pA (X:=(List aA)×(List aF)×Int) (G:=Nat×Nat) h (fun gq60=>Fr s (List.map Prod.fst [(gq60.1,(42,5)),(gq60.2,(29,10))])) (fun q58 gq60=>bN [(1,.loc 1 0),(4,.own gq60.2 10 (q58.1.map aA.v)),(5,.own gq60.1 5 (q58.2.1.map aF.v)),(9,.loc 9 0),(31,.slice 8 (x0.parts.map aK.v)),(32,aI (x0.parts.length:Int)),(33,aI v26),(50,.slice 5 (List.map aO.v ((x0.parts.getD v26.toNat aK.z).from_))),(51,aI ((((x0.parts.getD v26.toNat aK.z).from_).length:Nat):Int)),(52,aI q58.2.2)] [(1,(x0.v,42)),(9,((x0.parts.getD v26.toNat aK.z).v,75))] (cJ s [(gq60.1,(42,5)),(gq60.2,(29,10))]) 110) ?_ ?_
       ·exact⟨(g39,g37),hg39f,bX⟩
       ·rintro u59 ⟨v53,v55,v57⟩ h ⟨g56,g54⟩ hg56f;(try dsimp only at h ⊢);refine rg ?_;apply aB.seq;refine wz h (fun h=>?_) fun h=>?_
        ·apply sK;apply aB.seq;apply aB.block;obtain⟨hn65,h⟩:=aV h;refine bG (ai (aJ hn65.1)<|ai (aJ hn65.2)<|(bW aO.v aO.z hn65)) ?_;refine aB.eD fun Z66 hZ66=>?_;obtain⟨hn67,h⟩:=aV h;refine sy ?_
         first|refine mL hg56f hn67 fun g68 hg68=>?_|refine mM hg56f hn67 fun g68 hg68=>?_
         have fr69:Fr s (List.map Prod.fst [(g56,(42,5)),(g68,(29,10))]):=Fr.rep (a:=[(g56,(42,5))]) (b:=[]) hg56f hg68;refine sy ?_;refine hZ66 _ ?_;clear hZ66 Z66;refine tS (Fr.mN (a:=[(g56,(42,5))]) (b:=[]) hg56f hg68) (s':=(cJ s [(g56,(42,5)),(g68,(29,10))])) ?_;refine aB.fW fun Z70 hZ70=>?_;obtain⟨hn71,h⟩:=aV h;refine sy ?_
         first|refine mL fr69 hn71 fun g72 hg72=>?_|refine mM fr69 hn71 fun g72 hg72=>?_
         have fr73:Fr s (List.map Prod.fst [(g72,(42,5)),(g68,(29,10))]):=Fr.rep (a:=[]) (b:=[(g68,(29,10))]) fr69 hg72;refine sy ?_;refine hZ70 _ ?_;clear hZ70 Z70;refine tS (Fr.mN (a:=[]) (b:=[(g68,(29,10))]) fr69 hg72) (s':=(cJ s [(g72,(42,5)),(g68,(29,10))])) ?_;refine r1 ?_;exact⟨((v53++((((x0.parts.getD v26.toNat aK.z).from_).getD v57.toNat aO.z).on)),(v55++((((x0.parts.getD v26.toNat aK.z).from_).getD v57.toNat aO.z).sub)),(i64.wrap (v57+1))),h,(g72,g68),fr73,bX⟩
        ·apply aB.exit;simp only[dR,seval];refine aB.eD fun Z74 hZ74=>?_;refine sy ?_;obtain⟨y75,hy75,h⟩:=cC h;refine gM.wk (args':=[.slice 1 (List.map (fun x=>[V.slice 10 (x.map aA.v)]) ([v53,(x0.parts.getD v26.toNat aK.z).where_,(x0.parts.getD v26.toNat aK.z).group,(x0.parts.getD v26.toNat aK.z).having]))]) ⟨Wk.slice ⟨⟨Wk.own _ _ _,trivial⟩,⟨Wk.refl _,trivial⟩,⟨Wk.refl _,trivial⟩,⟨Wk.refl _,trivial⟩,trivial⟩,trivial⟩ ?_;refine(IM ([v53,(x0.parts.getD v26.toNat aK.z).where_,(x0.parts.getD v26.toNat aK.z).group,(x0.parts.getD v26.toNat aK.z).having]) _ hy75 _).Wv fun g76 hg76=>?_;change (cJ s [(g56,(42,5)),(g54,(29,10))]).own g76=none at hg76;have fr77:Fr s (List.map Prod.fst [(g56,(42,5)),(g54,(29,10)),(g76,(29,10))]):=Fr.snoc (l:=[(g56,(42,5)),(g54,(29,10))]) hg56f hg76;refine sy ?_;refine hZ74 _ ?_;clear hZ74 Z74;refine hL (s':=(cJ s [(g56,(42,5)),(g54,(29,10)),(g76,(29,10))])) ?_;refine rg ?_;apply aB.block;refine aB.pA (X:=(List aA)×Int) (G:=Nat×Nat×Nat) h (fun gq85=>Fr s (List.map Prod.fst [(gq85.1,(42,5)),(gq85.2.1,(29,10)),(gq85.2.2,(29,10))])) (fun q83 gq85=>bN [(1,.loc 1 0),(4,.own gq85.2.2 10 (q83.1.map aA.v)),(5,.own gq85.1 5 (v55.map aF.v)),(31,.slice 8 (x0.parts.map aK.v)),(32,aI (x0.parts.length:Int)),(33,aI v26),(75,.slice 1 (List.map (fun x=>[V.slice 10 (x.map aA.v)]) ((x0.parts.getD v26.toNat aK.z).values))),(76,aI ((((x0.parts.getD v26.toNat aK.z).values).length:Nat):Int)),(77,aI q83.2)] [(1,(x0.v,42))] (cJ s [(gq85.1,(42,5)),(gq85.2.1,(29,10)),(gq85.2.2,(29,10))]) 110) ?_ ?_
         ·exact⟨(g56,g54,g76),fr77,bX⟩
         ·rintro u84 ⟨v78,v80⟩ h ⟨g81,g82,g79⟩ hg81f;(try dsimp only at h ⊢);refine rg ?_;apply aB.seq;refine wz h (fun h=>?_) fun h=>?_
          ·apply sK;apply aB.seq;apply aB.block;obtain⟨hn90,h⟩:=aV h;refine bG (ai (aJ hn90.1)<|ai (aJ hn90.2)<|(bW (fun x=>[V.slice 10 (x.map aA.v)]) ([]) hn90)) ?_;refine aB.fW fun Z91 hZ91=>?_;obtain⟨hn92,h⟩:=aV h;refine sy ?_
           first|refine mL hg81f hn92 fun g93 hg93=>?_|refine mM hg81f hn92 fun g93 hg93=>?_
           have fr94:Fr s (List.map Prod.fst [(g81,(42,5)),(g82,(29,10)),(g93,(29,10))]):=Fr.rep (a:=[(g81,(42,5)),(g82,(29,10))]) (b:=[]) hg81f hg93;refine sy ?_;refine hZ91 _ ?_;clear hZ91 Z91;refine tS (Fr.mN (a:=[(g81,(42,5)),(g82,(29,10))]) (b:=[]) hg81f hg93) (s':=(cJ s [(g81,(42,5)),(g82,(29,10)),(g93,(29,10))])) ?_;refine r1 ?_;exact⟨((v78++(((x0.parts.getD v26.toNat aK.z).values).getD v80.toNat ([]))),(i64.wrap (v80+1))),h,(g81,g82,g93),fr94,bX⟩
          ·apply aB.exit;simp only[dR,seval];refine r1 ?_;refine⟨(v78,v55,(i64.wrap (v26+1))),h,(g81,g79),(Fr.sub (l:=[(g81,(42,5)),(g82,(29,10)),(g79,(29,10))]) (l':=[(g81,(42,5)),(g79,(29,10))]) hg81f (by simp) (by have:=(hg81f).2;simp at this ⊢;simp[this,eq_comm])).1,?_⟩;refine St.to.heapLe (s':=(cJ s [(g81,(42,5)),(g79,(29,10))])) ((Fr.sub (l:=[(g81,(42,5)),(g82,(29,10)),(g79,(29,10))]) (l':=[(g81,(42,5)),(g79,(29,10))]) hg81f (by simp) (by have:=(hg81f).2;simp at this ⊢;simp[this,eq_comm])).2) ?_;exact bX
    ·apply aB.exit;simp only[dR,seval];apply aB.seq;refine rg ?_;apply aB.block;refine aB.pA (X:=(List aA)×Int) (G:=Nat×Nat) h (fun gq102=>Fr s (List.map Prod.fst [(gq102.1,(42,5)),(gq102.2,(29,10))])) (fun q100 gq102=>bN [(1,.loc 1 0),(4,.own gq102.2 10 (q100.1.map aA.v)),(5,.own gq102.1 5 (v24.map aF.v)),(87,.slice 11 (x0.order.map aX.v)),(88,aI (x0.order.length:Int)),(89,aI q100.2)] [(1,(x0.v,42))] (cJ s [(gq102.1,(42,5)),(gq102.2,(29,10))]) 110) ?_ ?_
     ·exact⟨(g25,g23),hg25f,bX⟩
     ·rintro u101 ⟨v96,v98⟩ h ⟨g99,g97⟩ hg99f;(try dsimp only at h ⊢);refine rg ?_;apply aB.seq;refine wz h (fun h=>?_) fun h=>?_
      ·apply sK;apply aB.seq;apply aB.block;obtain⟨hn107,h⟩:=aV h;refine bG (ai (aJ hn107.1)<|ai (aJ hn107.2)<|(bW aX.v aX.z hn107)) ?_;refine aB.fW fun Z108 hZ108=>?_;obtain⟨hn109,h⟩:=aV h;refine sy ?_
       first|refine mL hg99f hn109 fun g110 hg110=>?_|refine mM hg99f hn109 fun g110 hg110=>?_
       have fr111:Fr s (List.map Prod.fst [(g99,(42,5)),(g110,(29,10))]):=Fr.rep (a:=[(g99,(42,5))]) (b:=[]) hg99f hg110;refine sy ?_;refine hZ108 _ ?_;clear hZ108 Z108;refine tS (Fr.mN (a:=[(g99,(42,5))]) (b:=[]) hg99f hg110) (s':=(cJ s [(g99,(42,5)),(g110,(29,10))])) ?_;refine r1 ?_;exact⟨((v96++([(x0.order.getD v98.toNat aX.z).expr])),(i64.wrap (v98+1))),h,(g99,g110),fr111,bX⟩
      ·apply aB.exit;simp only[dR,seval];refine aB.eD fun Z112 hZ112=>?_;refine sy ?_;obtain⟨y113,hy113,h⟩:=cC h;refine gM.wk (args':=[.slice 1 (List.map (fun x=>[V.slice 10 (x.map aA.v)]) ([v96,x0.limit,x0.offset]))]) ⟨Wk.slice ⟨⟨Wk.own _ _ _,trivial⟩,⟨Wk.refl _,trivial⟩,⟨Wk.refl _,trivial⟩,trivial⟩,trivial⟩ ?_;refine(IM ([v96,x0.limit,x0.offset]) _ hy113 _).Wv fun g114 hg114=>?_;change (cJ s [(g99,(42,5)),(g97,(29,10))]).own g114=none at hg114;have fr115:Fr s (List.map Prod.fst [(g99,(42,5)),(g97,(29,10)),(g114,(29,10))]):=Fr.snoc (l:=[(g99,(42,5)),(g97,(29,10))]) hg99f hg114;refine sy ?_;refine hZ112 _ ?_;clear hZ112 Z112;refine hL (s':=(cJ s [(g99,(42,5)),(g97,(29,10)),(g114,(29,10))])) ?_;obtain⟨y116,hy116,h⟩:=cC h;refine aGf (aHi y113 _ hy116) (aHh v24) h fun y117 _ h=>?_;cases h;exact aB.ret (Da (Fr.drop (l:=[(g99,(42,5)),(g97,(29,10)),(g114,(29,10))]) fr115) [.tmp 2,.tmp 3])
structure nN where
 p16:aA->Option (Int)
 p23:aF->Option (Int)
abbrev KB (f:aA->Option (Int)):Prop:=∀(x0:aA) (r:Int),f x0=some r->cG prog 16 [.agg x0.v] (aI r)
abbrev JZ (f:aF->Option (Int)):Prop:=∀(x0:aF) (r:Int),f x0=some r->cG prog 23 [.agg x0.v] (aI r)
structure nN.Ok (F:nN):Prop where
 p16:KB F.p16
 p23:JZ F.p23
def sI (F:nN) (x0:aA):Option (Int):=(cF (fun u5 (q4:Int×Int)=>(aE (decide (q4.2<(x0.args.length:Int))) (aR (0<=q4.2∧q4.2<(x0.args.length:Int)) (call (F.p16 (x0.args.getD q4.2.toNat aA.z)) fun y11=>(u5 ((kD q4.1 y11),(i64.wrap (q4.2+1)))))) (cF (fun u16 (q15:Int×Int)=>(aE (decide (q15.2<(x0.sub.length:Int))) (aR (0<=q15.2∧q15.2<(x0.sub.length:Int)) (call (F.p23 (x0.sub.getD q15.2.toNat aF.z)) fun y22=>(u16 ((kD q15.1 y22),(i64.wrap (q15.2+1)))))) (some (i64.wrap (q15.1+1))))) bQ (q4.1,0)))) bQ (0,0))
def d16 (F:nN) (H:F.Ok):KB (sI F):=fun x0 r h=>by
 intro s;unfold sI at h;refine ac func16 ntmps16 ?_;refine rg ?_;refine rg ?_;apply aB.seq;refine rg ?_;apply aB.block;refine lp h (fun q4=>bN [(1,.loc 1 0),(3,aI q4.1),(9,.slice 10 (x0.args.map aA.v)),(10,aI (x0.args.length:Int)),(11,aI q4.2)] [(1,(x0.v,29))] s 34) ?_ ?_
 ·exact bX
 ·rintro u5 ⟨v2,v3⟩ h;(try dsimp only at h ⊢);refine rg ?_;apply aB.seq;refine wz h (fun h=>?_) fun h=>?_
  ·apply sK;apply aB.seq;apply aB.block;obtain⟨hn10,h⟩:=aV h;refine bG (ai (aJ hn10.1)<|ai (aJ hn10.2)<|(bW aA.v aA.z hn10)) ?_;refine Wo (H.p16 (x0.args.getD v3.toNat aA.z)) h fun y11 _ h=>?_;refine r1 ?_;exact⟨((kD v2 y11),(i64.wrap (v3+1))),h,bX⟩
  ·apply aB.exit;simp only[dR,seval];apply aB.seq;refine rg ?_;apply aB.block;refine lp h (fun q15=>bN [(3,aI q15.1),(21,.slice 5 (x0.sub.map aF.v)),(22,aI (x0.sub.length:Int)),(23,aI q15.2)] [] s 34) ?_ ?_
   ·exact bX
   ·rintro u16 ⟨v13,v14⟩ h;(try dsimp only at h ⊢);refine rg ?_;apply aB.seq;refine wz h (fun h=>?_) fun h=>?_
    ·apply sK;apply aB.seq;apply aB.block;obtain⟨hn21,h⟩:=aV h;refine bG (ai (aJ hn21.1)<|ai (aJ hn21.2)<|(bW aF.v aF.z hn21)) ?_;refine Wo (H.p23 (x0.sub.getD v14.toNat aF.z)) h fun y22 _ h=>?_;refine r1 ?_;exact⟨((kD v13 y22),(i64.wrap (v14+1))),h,bX⟩
    ·apply aB.exit;simp only[dR,seval];refine rg ?_;cases h;exact aB.ret (bM [.tmp 2])
def oN (F:nN) (x0:aF):Option (Int):=(call (Lb x0) fun y1=>(call (vP (fun(q5:Int) (y8:aA)=>(call (F.p16 y8) fun y14=>(some (kD q5 y14)))) y1.1 0) fun q6=>(call (vP (fun(q18:Int) (y21:aF)=>(call (F.p23 y21) fun y27=>(some (kD q18 y27)))) y1.2 q6) fun q19=>(some (i64.wrap (q19+1))))))
def d23 (F:nN) (H:F.Ok):JZ (oN F):=fun x0 r h=>by
 intro s;unfold oN at h;refine ac func23 ntmps23 ?_;refine rg ?_;refine rg ?_;refine dH (c53 x0) h fun y1 _ h=>?_;apply aB.seq;refine rg ?_;apply aB.block;refine aB.cM (t0:=3) (x:=([aI 0],3)) (by first|rfl|simp only[am,seval,reduceCtorEq]) fun e3 he3=>?_;change (s).box e3=none at he3;have ne3:s.box e3=none:=by simpa only[cU,fI,ne_eq,eJ] using he3
 refine aB.weaken (st':=bN [(0,.agg x0.v),(1,.loc 1 0),(2,aI 0),(3,.ptr e3 0),(4,V.func 141 [] [.elt [.slice 10 (y1.1.map aA.v)] 0]),(5,V.func 142 [] [.elt [.slice 5 (y1.2.map aF.v)] 0]),(8,.tuple [V.func 141 [] [.elt [.slice 10 (y1.1.map aA.v)] 0],V.func 142 [] [.elt [.slice 5 (y1.2.map aF.v)] 0]]),(9,.agg x0.v),(10,.tuple [V.func 141 [] [.elt [.slice 10 (y1.1.map aA.v)] 0],V.func 142 [] [.elt [.slice 5 (y1.2.map aF.v)] 0]]),(11,V.func 141 [] [.elt [.slice 10 (y1.1.map aA.v)] 0]),(12,V.func 142 [] [.elt [.slice 5 (y1.2.map aF.v)] 0]),(13,V.func 141 [] [.elt [.slice 10 (y1.1.map aA.v)] 0])] [(1,(x0.v,42))] (s.aU e3 ([aI 0],3)) 27) ?_ ?_
 ·refine qY ?_ ?_ ?_ (aL.le.refl _) rfl
  ·simp only[jK,St.cM,jH,aF.vs,am,seval,reduceCtorEq]<;>simp
  ·simp only[gB,iG,Nat.reduceBEq,kJ,kI,jE,and_self]
  ·simp only[jL,St.cM,jH,aF.vs,am,seval,reduceCtorEq]<;>(repeat' apply ai)<;>first|rfl|(simp only[aF.aC];rfl)|simp[aF.aC]
 refine aB.weaken (st':=bN [(3,.ptr e3 0),(5,V.func 142 [] [.elt [.slice 5 (y1.2.map aF.v)] 0]),(13,V.func 141 [] [.elt [.slice 10 (y1.1.map aA.v)] 0])] [] (s.aU e3 ([aI 0],3)) 27) ?_ ?_
 ·refine qY ?_ ?_ ?_ (aL.le.refl _) rfl
  ·simp only[jK,bN,aF.vs,am,seval,reduceCtorEq]<;>simp
  ·simp only[gB,iG,Nat.reduceBEq,kJ,kI,jE,and_self]
  ·simp only[jL,bN,aF.vs,am,seval,reduceCtorEq]<;>(repeat' apply ai)<;>first|rfl|(simp only[aF.aC];rfl)|simp[aF.aC]
 obtain⟨q6,hq6,h⟩:=cC h;refine aB.KF (X:=Int) (α:=aA) (enc:=fun x=>.agg x.v) (xs:=y1.1) (o7 y1.1) hq6 (fun q5=>(s.aU e3 ([aI q5],3))) (some (.both (.op 0 (.op 1 (.op 2 (.op 3 (.op 4 .fin))))) (.op 1 (.both (.op 0 (.op 2 (.op 3 (.op 4 .fin)))) (.op 2 (.op 0 (.op 3 (.op 4 .fin)))))))) rfl rfl rfl (by show 14<27;decide) (by decide+kernel) (by decide+kernel) ?_ (fun D9=>?_)
 ·rintro y8 w4 q7 h Z10 hZ10;refine sx ?_;refine hZ10 _ 6 y8.v 29 ?_ rfl rfl fun e11 he11 Z102 hZ102=>?_
  ·funext k;simp only[cA];(repeat' split)<;>first|rfl|(simp_all;done)
  change (s.aU e3 ([aI w4],3)).box e11=none at he11;have he11e3:e11≠e3:=fun hq=>by rw[hq] at he11;simp only[dJ,cU,fI,reduceCtorEq,ne_eq,eJ] at he11
  have ne11:s.box e11=none:=by simpa only[cU,fI,ne_eq,eJ,he11e3] using he11
  refine⟨by decide+kernel,mixed,?_⟩;(try simp only[St.cM,jH,fZ,fX,fY,he11e3,he11e3.symm,xm,Nat.reduceAdd,Nat.reduceLeDiff,seval,reduceCtorEq]);refine sQ ?_ ?_
  ·(try simp only[St.cM,jH,fZ,fX,fY,he11e3,he11e3.symm,xm,Nat.reduceAdd,Nat.reduceLeDiff,seval,reduceCtorEq]);obtain⟨y14,hy14,h⟩:=cC h;refine dV (H.p16 y8 _ hy14) ?_;(try simp only[St.cM,jH,fZ,fX,fY,he11e3,he11e3.symm,xm,Nat.reduceAdd,Nat.reduceLeDiff,seval,reduceCtorEq]);obtain rfl:=eS h;exact hZ102 _ (aL.le.trans (b:=((s.aU e3 ([aI (kD w4 y14)],3)).aU e11 (y8.v,29))) (⟨fun k=>.inl (by simp only[aL.aU,aL.cI,fI,cA]<;>(repeat' split)<;>first|with_reducible rfl|(simp only[aA.aC,aF.aC];done)|(simp_all;done)|(simp_all [aA.aC,aF.aC];done)),fun _=>.inl (by rfl)⟩) (aL.le.qP (by simp only[cU,fI,he11e3,he11e3.symm,ne_eq,eJ,ne11]) _))
  ·(try simp only[St.cM,jH,fZ,fX,fY,he11e3,he11e3.symm,xm,Nat.reduceAdd,Nat.reduceLeDiff,seval,reduceCtorEq]);refine sQ ?_ ?_
   ·(try simp only[St.cM,jH,fZ,fX,fY,he11e3,he11e3.symm,xm,Nat.reduceAdd,Nat.reduceLeDiff,seval,reduceCtorEq]);obtain⟨y14,hy14,h⟩:=cC h;refine dV (H.p16 y8 _ hy14) ?_;(try simp only[St.cM,jH,fZ,fX,fY,he11e3,he11e3.symm,xm,Nat.reduceAdd,Nat.reduceLeDiff,seval,reduceCtorEq]);obtain rfl:=eS h;exact hZ102 _ (aL.le.trans (b:=((s.aU e3 ([aI (kD w4 y14)],3)).aU e11 (y8.v,29))) (⟨fun k=>.inl (by simp only[aL.aU,aL.cI,fI,cA]<;>(repeat' split)<;>first|with_reducible rfl|(simp only[aA.aC,aF.aC];done)|(simp_all;done)|(simp_all [aA.aC,aF.aC];done)),fun _=>.inl (by rfl)⟩) (aL.le.qP (by simp only[cU,fI,he11e3,he11e3.symm,ne_eq,eJ,ne11]) _))
   ·(try simp only[St.cM,jH,fZ,fX,fY,he11e3,he11e3.symm,xm,Nat.reduceAdd,Nat.reduceLeDiff,seval,reduceCtorEq]);obtain⟨y14,hy14,h⟩:=cC h;refine dV (H.p16 y8 _ hy14) ?_;(try simp only[St.cM,jH,fZ,fX,fY,he11e3,he11e3.symm,xm,Nat.reduceAdd,Nat.reduceLeDiff,seval,reduceCtorEq]);obtain rfl:=eS h;exact hZ102 _ (aL.le.trans (b:=((s.aU e3 ([aI (kD w4 y14)],3)).aU e11 (y8.v,29))) (⟨fun k=>.inl (by simp only[aL.aU,aL.cI,fI,cA]<;>(repeat' split)<;>first|with_reducible rfl|(simp only[aA.aC,aF.aC];done)|(simp_all;done)|(simp_all [aA.aC,aF.aC];done)),fun _=>.inl (by rfl)⟩) (aL.le.qP (by simp only[cU,fI,he11e3,he11e3.symm,ne_eq,eJ,ne11]) _))
 ·apply aB.seq;refine aB.eD fun Z16 hZ16=>?_;(try simp only[nR,xm,Nat.reduceAdd,Nat.reduceLeDiff,seval,reduceCtorEq]);refine hZ16 _ ?_;clear hZ16 Z16;apply aB.block;refine aB.weaken (st':=nR [Go.Am.uP D9] [(3,.ptr e3 0),(19,V.func 142 [] [.elt [.slice 5 (y1.2.map aF.v)] 0])] [] (s.aU e3 ([aI q6],3)) 27) ?_ ?_
  ·refine Sv ?_ ?_ ?_ (aL.le.refl _) rfl
   ·simp only[jK,nR,nR,aA.vs,aF.vs,am,seval,reduceCtorEq]<;>simp
   ·simp only[gB,iG,Nat.reduceBEq,kJ,kI,jE,and_self]
   ·simp only[jL,nR,nR,aA.vs,aF.vs,am,seval,reduceCtorEq]<;>(repeat' apply ai)<;>first|rfl|(simp only[aA.aC,aF.aC];rfl)|simp[aA.aC,aF.aC]
  obtain⟨q19,hq19,h⟩:=cC h;refine aB.KF (X:=Int) (α:=aF) (enc:=fun x=>.agg x.v) (xs:=y1.2) (o6 y1.2) hq19 (fun q18=>(s.aU e3 ([aI q18],3))) (some (.both (.op 0 (.op 1 (.op 2 (.op 3 (.op 4 .fin))))) (.op 1 (.both (.op 0 (.op 2 (.op 3 (.op 4 .fin)))) (.op 2 (.op 0 (.op 3 (.op 4 .fin)))))))) rfl rfl rfl (by show 20<27;decide) (by decide+kernel) (by decide+kernel) ?_ (fun D22=>?_)
  ·rintro y21 w17 q20 h Z23 hZ23;(try simp only[nR,xm,Nat.reduceAdd,Nat.reduceLeDiff,seval,reduceCtorEq]);refine hZ23 _ 7 y21.v 42 ?_ rfl rfl fun e24 he24 Z232 hZ232=>?_
   ·funext k;simp only[cA];(repeat' split)<;>first|rfl|(simp_all;done)
   change (s.aU e3 ([aI w17],3)).box e24=none at he24;have he24e3:e24≠e3:=fun hq=>by rw[hq] at he24;simp only[dJ,cU,fI,reduceCtorEq,ne_eq,eJ] at he24
   have ne24:s.box e24=none:=by simpa only[cU,fI,ne_eq,eJ,he24e3] using he24
   refine⟨by decide+kernel,mixed,?_⟩;(try simp only[nR,St.cM,jH,fZ,fX,fY,he24e3,he24e3.symm,xm,Nat.reduceAdd,Nat.reduceLeDiff,seval,reduceCtorEq]);refine sQ ?_ ?_
   ·(try simp only[nR,St.cM,jH,fZ,fX,fY,he24e3,he24e3.symm,xm,Nat.reduceAdd,Nat.reduceLeDiff,seval,reduceCtorEq]);obtain⟨y27,hy27,h⟩:=cC h;refine dV (H.p23 y21 _ hy27) ?_;(try simp only[nR,St.cM,jH,fZ,fX,fY,he24e3,he24e3.symm,xm,Nat.reduceAdd,Nat.reduceLeDiff,seval,reduceCtorEq]);obtain rfl:=eS h;exact hZ232 _ (aL.le.trans (b:=((s.aU e3 ([aI (kD w17 y27)],3)).aU e24 (y21.v,42))) (⟨fun k=>.inl (by simp only[aL.aU,aL.cI,fI,cA]<;>(repeat' split)<;>first|with_reducible rfl|(simp only[aA.aC,aF.aC];done)|(simp_all;done)|(simp_all [aA.aC,aF.aC];done)),fun _=>.inl (by rfl)⟩) (aL.le.qP (by simp only[cU,fI,he24e3,he24e3.symm,ne_eq,eJ,ne24]) _))
   ·(try simp only[nR,St.cM,jH,fZ,fX,fY,he24e3,he24e3.symm,xm,Nat.reduceAdd,Nat.reduceLeDiff,seval,reduceCtorEq]);refine sQ ?_ ?_
    ·(try simp only[nR,St.cM,jH,fZ,fX,fY,he24e3,he24e3.symm,xm,Nat.reduceAdd,Nat.reduceLeDiff,seval,reduceCtorEq]);obtain⟨y27,hy27,h⟩:=cC h;refine dV (H.p23 y21 _ hy27) ?_;(try simp only[nR,St.cM,jH,fZ,fX,fY,he24e3,he24e3.symm,xm,Nat.reduceAdd,Nat.reduceLeDiff,seval,reduceCtorEq]);obtain rfl:=eS h;exact hZ232 _ (aL.le.trans (b:=((s.aU e3 ([aI (kD w17 y27)],3)).aU e24 (y21.v,42))) (⟨fun k=>.inl (by simp only[aL.aU,aL.cI,fI,cA]<;>(repeat' split)<;>first|with_reducible rfl|(simp only[aA.aC,aF.aC];done)|(simp_all;done)|(simp_all [aA.aC,aF.aC];done)),fun _=>.inl (by rfl)⟩) (aL.le.qP (by simp only[cU,fI,he24e3,he24e3.symm,ne_eq,eJ,ne24]) _))
    ·(try simp only[nR,St.cM,jH,fZ,fX,fY,he24e3,he24e3.symm,xm,Nat.reduceAdd,Nat.reduceLeDiff,seval,reduceCtorEq]);obtain⟨y27,hy27,h⟩:=cC h;refine dV (H.p23 y21 _ hy27) ?_;(try simp only[nR,St.cM,jH,fZ,fX,fY,he24e3,he24e3.symm,xm,Nat.reduceAdd,Nat.reduceLeDiff,seval,reduceCtorEq]);obtain rfl:=eS h;exact hZ232 _ (aL.le.trans (b:=((s.aU e3 ([aI (kD w17 y27)],3)).aU e24 (y21.v,42))) (⟨fun k=>.inl (by simp only[aL.aU,aL.cI,fI,cA]<;>(repeat' split)<;>first|with_reducible rfl|(simp only[aA.aC,aF.aC];done)|(simp_all;done)|(simp_all [aA.aC,aF.aC];done)),fun _=>.inl (by rfl)⟩) (aL.le.qP (by simp only[cU,fI,he24e3,he24e3.symm,ne_eq,eJ,ne24]) _))
  ·refine aB.eD fun Z28 hZ28=>?_;(try simp only[nR,xm,Nat.reduceAdd,Nat.reduceLeDiff,seval,reduceCtorEq]);refine hZ28 _ ?_;clear hZ28 Z28;refine aB.ret ?_;refine⟨_,St.to.refl _,?_⟩;obtain rfl:=eS h;refine qX (vs:=[aI (i64.wrap (q19+1))]) (v:=aI (i64.wrap (q19+1))) (by show dC prog _ [.tmp 2]=_;simp only[dC,aA.vs,aF.vs,am,seval,reduceCtorEq]) (Wk.refl _) (aL.le.trans (aL.le.qP (by simp only[cU,fI,ne_eq,eJ,ne3]) _) (aL.le.refl _)) ⟨?_,rfl⟩;rfl
def nN.fix:Nat->nN
 |0=>⟨fun _=>none,fun _=>none⟩
 |n+1=>⟨sI (nN.fix n),oN (nN.fix n)⟩
def nN.ok:∀n,nN.Ok (nN.fix n)
 |0=>by constructor<;>(repeat intro _)<;>contradiction
 |n+1=>⟨d16 _ (nN.ok n),d23 _ (nN.ok n)⟩
def Px:=(nN.fix bQ).p16
def JE:=(nN.ok bQ).p16
def pH (x0:aH):Option (Bool):=(join (fun u2=>(join (fun u4=>(aE (x0.kind==0) (some ((x0.kind==0)&&((x0.int==0)&&(x0.text.data.toList==bO.data.toList)))) (aE (x0.kind==1) (some (x0.text.data.toList==(bm #[]).data.toList)) (aE (x0.kind==2) (u4 ()) (aE (x0.kind==3) (u4 ()) (u2 ())))))) (fun(q3:Unit)=>(join (fun u20=>(aE (x0.int==0) (u20 (decide ((x0.text.size:Int)<=400))) (u20 false))) (fun(q19:Bool)=>(some q19)))))) (fun(q1:Unit)=>(some false)))
def Qb (x0:aH) (r:Bool) (h:pH x0=some r):cG prog 66 [.agg x0.v] (aY r):=by
 intro s;unfold pH at h;refine ac func66 ntmps66 ?_;refine bG (@aH.aC) ?_;refine jn h (fun q1=>bN [] [] s 28) (fun u2 h=>?_) ?_
 ·refine bG (@aH.aC) ?_;apply aB.block;refine jn h (fun q3=>bN [(1,.loc 1 0)] [(1,([aI x0.kind,aI x0.int,aM x0.text],25))] s 28) (fun u4 h=>?_) ?_
  ·apply aB.block;apply aB.block;apply aB.seq;apply aB.block;apply aB.seq;apply aB.block;apply aB.seq;apply aB.seq;refine bG (@aH.aC) ?_;refine wz h (fun h=>?_) fun h=>?_
   ·apply aB.exit;simp only[dR,seval];apply aB.seq;refine bG (ai (@aH.aC)<|ai Jk<|aH.aC) ?_;cases h;exact aB.ret (iT @aH.aC [.tmp 2])
   ·apply sK;apply aB.seq;refine bG (@aH.aC) ?_;refine wz h (fun h=>?_) fun h=>?_
    ·apply aB.exit;simp only[dR,seval];apply aB.seq;refine bG (@aH.aC) ?_;cases h;exact aB.ret (iT @aH.aC [.tmp 2])
    ·apply sK;apply aB.seq;refine bG (@aH.aC) ?_;refine wz h (fun h=>?_) fun h=>?_
     ·apply aB.exit;simp only[dR,seval];exact⟨(),h,bB @aH.aC⟩
     ·apply sK;refine bG (@aH.aC) ?_;refine wz h (fun h=>?_) fun h=>?_
      ·apply aB.exit;simp only[dR,seval];exact⟨(),h,bB @aH.aC⟩
      ·apply sK;apply aB.exit;simp only[dR,seval];exact⟨(),h,bB @aH.aC⟩
  ·rintro _ h;apply aB.seq;refine jn h (fun q19=>bN [(2,aY q19)] [] s 28) (fun u20 h=>?_) ?_
   ·refine wy h (fun hg21 h=>?_) fun hg21 h=>?_
    ·refine bU (ai (@aH.aC)<|hg21) ?_;exact⟨(decide ((x0.text.size:Int)<=400)),h,bB (ai @aH.aC<|hg21)⟩
    ·refine bU (ai (@aH.aC)<|hg21) ?_;exact⟨false,h,bB (ai @aH.aC<|hg21)⟩
   ·rintro v18 h;cases h;exact aB.ret (iT @aH.aC [.tmp 2])
 ·rintro _ h;refine bG (@aH.aC) ?_;cases h;exact aB.ret (iT @aH.aC [.tmp 2])
def Pk (x0:aH):Option (ByteArray×Int):=(call (pH x0) fun y2=>(aE (!y2) (some ((bm #[]),2)) (aE (x0.kind==0) (some ((bm #[78,85,76,76]),0)) (aE (x0.kind==1) (call (Lf x0.int 10) fun y7=>(some (y7,0))) (aE (x0.kind==2) (call (Dn x0.text (bm #[39]) (bm #[39,39])) fun y9=>(aR ((bm #[39]).size+y9.size<=maxLen) (aR (((bm #[39])++y9).size+(bm #[39]).size<=maxLen) (some ((((bm #[39])++y9)++(bm #[39])),0))))) none)))))
def aGy (x0:aH) (r:ByteArray×Int) (h:Pk x0=some r):cG prog 32 [.agg x0.v] (.tuple [aM r.1,aI r.2]):=by
 intro s;unfold Pk at h;refine ac func32 ntmps32 ?_;refine rg ?_;apply aB.seq;refine dH (Qb x0) h fun y2 _ h=>?_;refine wz h (fun h=>?_) fun h=>?_
 ·refine rg ?_;cases h;exact aB.ret (bM [.tmp 2,.tmp 3])
 ·apply sK;apply aB.seq;refine rg ?_;apply aB.block;refine rg ?_;refine wz h (fun h=>?_) fun h=>?_
  ·refine rg ?_;cases h;exact aB.ret (bM [.tmp 2,.tmp 3])
  ·refine rg ?_;refine wz h (fun h=>?_) fun h=>?_
   ·refine dH (N67 x0.int 10) h fun y7 _ h=>?_;cases h;exact aB.ret (bM [.tmp 2,.tmp 3])
   ·refine rg ?_;refine wz h (fun h=>?_) fun h=>?_
    ·obtain⟨y9,hy9,h⟩:=cC h;obtain⟨hn10,h⟩:=aV h;obtain⟨hn11,h⟩:=aV h;refine tG (ai (aJ hn10)<|(aJ hn11)) (JF x0.text (bm #[39]) (bm #[39,39]) _ hy9) ?_;cases h;exact aB.ret (bM [.tmp 2,.tmp 3])
    ·apply sK;cases h
def Dk (x0:Int):Option (cD×Bool):=(join (fun u4=>(aE (x0==1) (u4 (x0==1)) (aE (x0==2) (u4 (x0==2)) (u4 (x0==3))))) (fun(q3:Bool)=>(aE q3 (some ((cD.mk 0 0 false),true)) (aE (x0==27) (some ((cD.mk 0 0 true),true)) (aE (x0==28) (some ((cD.mk 0 0 false),true)) (join (fun u12=>(aE (x0==4) (u12 (x0==4)) (aE (x0==5) (u12 (x0==5)) (aE (x0==6) (u12 (x0==6)) (aE (x0==30) (u12 (x0==30)) (u12 (x0==31))))))) (fun(q11:Bool)=>(aE q11 (some ((cD.mk 1 1 false),true)) (join (fun u20=>(aE (x0==23) (u20 (x0==23)) (u20 (x0==24)))) (fun(q19:Bool)=>(aE q19 (some ((cD.mk 2 2 true),true)) (aE (x0==25) (some ((cD.mk 3 3 true),true)) (aE (x0==26) (some ((cD.mk 1 (-1) true),true)) (aE (x0==29) (some ((cD.mk 2 (-1) false),true)) (aE (x0==32) (some ((cD.mk 0 (-1) false),true)) (join (fun u30=>(aE (decide (x0>=7)) (u30 ((cD.mk 2 2 false),(decide (x0<=22)))) (u30 ((cD.mk 2 2 false),false)))) (fun(q29:cD×Bool)=>(some (q29.1,q29.2)))))))))))))))))))
def c60 (x0:Int) (r:cD×Bool) (h:Dk x0=some r):cG prog 60 [aI x0] (.tuple [.agg r.1.v,aY r.2]):=by
 intro s;unfold Dk at h;refine ac func60 ntmps60 ?_;refine bG (@cD.aC) ?_;apply aB.seq;refine bG (@cD.aC) ?_;apply aB.block;refine jn h (fun q3=>bN [(0,aI x0),(2,.loc 2 0),(4,aI x0),(5,aY q3)] [(2,([aI 0,aI 0,aY false],124))] s 46) (fun u4 h=>?_) ?_
 ·refine bG (@cD.aC) ?_;refine wz h (fun h=>?_) fun h=>?_
  ·apply sK;exact⟨(x0==1),h,bB @cD.aC⟩
  ·refine bG (@cD.aC) ?_;refine wz h (fun h=>?_) fun h=>?_
   ·apply sK;exact⟨(x0==2),h,bB @cD.aC⟩
   ·refine bU (@cD.aC) ?_;exact⟨(x0==3),h,bB @cD.aC⟩
 ·rintro v2 h;refine wz h (fun h=>?_) fun h=>?_
  ·refine bG (@cD.aC) ?_;cases h;exact aB.ret (iT @cD.aC [.cell 2 124,.tmp 3])
  ·refine bG (@cD.aC) ?_;refine wz h (fun h=>?_) fun h=>?_
   ·refine bG (@cD.aC) ?_;cases h;exact aB.ret (iT @cD.aC [.cell 2 124,.tmp 3])
   ·refine bG (@cD.aC) ?_;refine wz h (fun h=>?_) fun h=>?_
    ·refine bG (@cD.aC) ?_;cases h;exact aB.ret (iT @cD.aC [.cell 2 124,.tmp 3])
    ·refine jn h (fun q11=>bN [(0,aI x0),(2,.loc 2 0),(4,aI x0),(16,aY q11)] [(2,([aI 0,aI 0,aY false],124))] s 46) (fun u12 h=>?_) ?_
     ·refine bG (@cD.aC) ?_;refine wz h (fun h=>?_) fun h=>?_
      ·apply sK;exact⟨(x0==4),h,bB @cD.aC⟩
      ·refine bG (@cD.aC) ?_;refine wz h (fun h=>?_) fun h=>?_
       ·apply sK;exact⟨(x0==5),h,bB @cD.aC⟩
       ·refine bG (@cD.aC) ?_;refine wz h (fun h=>?_) fun h=>?_
        ·apply sK;exact⟨(x0==6),h,bB @cD.aC⟩
        ·refine bG (@cD.aC) ?_;refine wz h (fun h=>?_) fun h=>?_
         ·apply sK;exact⟨(x0==30),h,bB @cD.aC⟩
         ·refine bU (@cD.aC) ?_;exact⟨(x0==31),h,bB @cD.aC⟩
     ·rintro v10 h;refine wz h (fun h=>?_) fun h=>?_
      ·refine bG (@cD.aC) ?_;cases h;exact aB.ret (iT @cD.aC [.cell 2 124,.tmp 3])
      ·refine jn h (fun q19=>bN [(0,aI x0),(2,.loc 2 0),(4,aI x0),(23,aY q19)] [(2,([aI 0,aI 0,aY false],124))] s 46) (fun u20 h=>?_) ?_
       ·refine bG (@cD.aC) ?_;refine wz h (fun h=>?_) fun h=>?_
        ·apply sK;exact⟨(x0==23),h,bB @cD.aC⟩
        ·refine bU (@cD.aC) ?_;exact⟨(x0==24),h,bB @cD.aC⟩
       ·rintro v18 h;refine wz h (fun h=>?_) fun h=>?_
        ·refine bG (@cD.aC) ?_;cases h;exact aB.ret (iT @cD.aC [.cell 2 124,.tmp 3])
        ·refine bG (@cD.aC) ?_;refine wz h (fun h=>?_) fun h=>?_
         ·refine bG (@cD.aC) ?_;cases h;exact aB.ret (iT @cD.aC [.cell 2 124,.tmp 3])
         ·refine bG (@cD.aC) ?_;refine wz h (fun h=>?_) fun h=>?_
          ·refine bG (@cD.aC) ?_;cases h;exact aB.ret (iT @cD.aC [.cell 2 124,.tmp 3])
          ·refine bG (@cD.aC) ?_;refine wz h (fun h=>?_) fun h=>?_
           ·refine bG (@cD.aC) ?_;cases h;exact aB.ret (iT @cD.aC [.cell 2 124,.tmp 3])
           ·refine bG (@cD.aC) ?_;refine wz h (fun h=>?_) fun h=>?_
            ·refine bG (@cD.aC) ?_;cases h;exact aB.ret (iT @cD.aC [.cell 2 124,.tmp 3])
            ·apply sK;refine jn h (fun q29=>bN [(2,.loc 2 0),(3,aY q29.2)] [(2,([aI q29.1.least,aI q29.1.most,aY q29.1.not],124))] s 46) (fun u30 h=>?_) ?_
             ·refine wy h (fun hg31 h=>?_) fun hg31 h=>?_
              ·refine bU (ai (@cD.aC)<|hg31) ?_;exact⟨((cD.mk 2 2 false),(decide (x0<=22))),h,bB (ai @cD.aC<|hg31)⟩
              ·refine bU (ai (@cD.aC)<|hg31) ?_;exact⟨((cD.mk 2 2 false),false),h,bB (ai @cD.aC<|hg31)⟩
             ·rintro⟨b27,v28⟩ h;(try dsimp only at h ⊢);cases h;exact aB.ret (iT @cD.aC [.cell 2 124,.tmp 3])
def iQ (x0:aA):Option (Bool):=(join (fun u7=>(aE (x0.op==1) (call (pH x0.v_) fun y9=>(aE y9 (u7 ((x0.name.data.toList==(bm #[]).data.toList),(x0.n==0),((x0.sub.length:Int)==0),(x0.table.data.toList==(bm #[]).data.toList),(decide (x0.v_.int>=0)))) (u7 ((x0.name.data.toList==(bm #[]).data.toList),(x0.n==0),((x0.sub.length:Int)==0),(x0.table.data.toList==(bm #[]).data.toList),false)))) (aE (x0.op==2) (call (gX x0.name) fun y12=>(aE (x0.table.data.toList==(bm #[]).data.toList) (u7 (y12,(x0.n==0),((x0.sub.length:Int)==0),true,(vz x0.v_))) (call (gX x0.table) fun y14=>(u7 (y12,(x0.n==0),((x0.sub.length:Int)==0),y14,(vz x0.v_)))))) (aE (x0.op==3) (aE (decide (x0.n>=1)) (u7 ((x0.name.data.toList==(bm #[]).data.toList),(decide (x0.n<=16)),((x0.sub.length:Int)==0),(x0.table.data.toList==(bm #[]).data.toList),(vz x0.v_))) (u7 ((x0.name.data.toList==(bm #[]).data.toList),false,((x0.sub.length:Int)==0),(x0.table.data.toList==(bm #[]).data.toList),(vz x0.v_)))) (join (fun u19=>(aE (x0.op==27) (u19 (x0.op==27)) (u19 (x0.op==28)))) (fun(q18:Bool)=>(aE q18 (u7 ((x0.name.data.toList==(bm #[]).data.toList),(x0.n==0),((x0.sub.length:Int)==1),(x0.table.data.toList==(bm #[]).data.toList),(vz x0.v_))) (aE (x0.op==26) (aE ((x0.sub.length:Int)==0) (u7 ((x0.name.data.toList==(bm #[]).data.toList),(x0.n==0),true,(x0.table.data.toList==(bm #[]).data.toList),(vz x0.v_))) (aE ((x0.sub.length:Int)==1) (u7 ((x0.name.data.toList==(bm #[]).data.toList),(x0.n==0),((x0.args.length:Int)==1),(x0.table.data.toList==(bm #[]).data.toList),(vz x0.v_))) (u7 ((x0.name.data.toList==(bm #[]).data.toList),(x0.n==0),false,(x0.table.data.toList==(bm #[]).data.toList),(vz x0.v_))))) (aE (x0.op==29) (aE (decide (x0.n>=0)) (aE (decide (x0.n<=3)) (aE (((i64.wrap ((i64.wrap ((x0.args.length:Int)-(mK .i64 x0.n 1)))-(tE .i64 x0.n 1))).tmod 2)==0) (u7 ((x0.name.data.toList==(bm #[]).data.toList),(decide ((i64.wrap ((i64.wrap ((x0.args.length:Int)-(mK .i64 x0.n 1)))-(tE .i64 x0.n 1)))>=2)),((x0.sub.length:Int)==0),(x0.table.data.toList==(bm #[]).data.toList),(vz x0.v_))) (u7 ((x0.name.data.toList==(bm #[]).data.toList),false,((x0.sub.length:Int)==0),(x0.table.data.toList==(bm #[]).data.toList),(vz x0.v_)))) (u7 ((x0.name.data.toList==(bm #[]).data.toList),false,((x0.sub.length:Int)==0),(x0.table.data.toList==(bm #[]).data.toList),(vz x0.v_)))) (u7 ((x0.name.data.toList==(bm #[]).data.toList),false,((x0.sub.length:Int)==0),(x0.table.data.toList==(bm #[]).data.toList),(vz x0.v_)))) (aE (x0.op==30) (call wB fun y33=>(call (pT x0.name y33) fun y34=>(u7 (y34,(x0.n==0),((x0.sub.length:Int)==0),(x0.table.data.toList==(bm #[]).data.toList),(vz x0.v_))))) (aE (x0.op==31) (call wA fun y36=>(call (pT x0.name y36) fun y37=>(u7 (y37,(x0.n==0),((x0.sub.length:Int)==0),(x0.table.data.toList==(bm #[]).data.toList),(vz x0.v_))))) (aE (x0.op==32) (join (fun u41=>(call (gX x0.name) fun y42=>(aE y42 (u41 true) (call (pT x0.name ([(bm #[82,69,80,76,65,67,69])])) fun y44=>(u41 y44))))) (fun(q40:Bool)=>(aE (x0.n==0) (u7 (q40,true,((x0.sub.length:Int)==0),(x0.table.data.toList==(bm #[]).data.toList),(vz x0.v_))) (aE (x0.n==1) (aE ((x0.args.length:Int)==1) (u7 (q40,true,((x0.sub.length:Int)==0),(x0.table.data.toList==(bm #[]).data.toList),(vz x0.v_))) (aE (x0.n==2) (u7 (q40,((x0.args.length:Int)==0),((x0.sub.length:Int)==0),(x0.table.data.toList==(bm #[]).data.toList),(vz x0.v_))) (u7 (q40,false,((x0.sub.length:Int)==0),(x0.table.data.toList==(bm #[]).data.toList),(vz x0.v_))))) (aE (x0.n==2) (u7 (q40,((x0.args.length:Int)==0),((x0.sub.length:Int)==0),(x0.table.data.toList==(bm #[]).data.toList),(vz x0.v_))) (u7 (q40,false,((x0.sub.length:Int)==0),(x0.table.data.toList==(bm #[]).data.toList),(vz x0.v_)))))))) (u7 ((x0.name.data.toList==(bm #[]).data.toList),(x0.n==0),((x0.sub.length:Int)==0),(x0.table.data.toList==(bm #[]).data.toList),(vz x0.v_))))))))))))))) (fun(q6:Bool×Bool×Bool×Bool×Bool)=>(join (fun u52=>(aE q6.1 (aE q6.2.1 (aE q6.2.2.1 (aE q6.2.2.2.1 (u52 q6.2.2.2.2) (u52 false)) (u52 false)) (u52 false)) (u52 false))) (fun(q51:Bool)=>(some q51)))))
def Qc (x0:aA) (r:Bool) (h:iQ x0=some r):cG prog 61 [.agg x0.v] (aY r):=by
 intro s;unfold iQ at h;refine ac func61 ntmps61 ?_;refine rg ?_;refine rg ?_;refine rg ?_;refine rg ?_;refine rg ?_;refine bG (ai (@aH.aC)<|ai Jk<|aH.aC) ?_;refine jn h (fun q6=>bN [(3,aY q6.1),(4,aY q6.2.1),(5,aY q6.2.2.1),(6,aY q6.2.2.2.1),(7,aY q6.2.2.2.2)] [] s 186) (fun u7 h=>?_) ?_
 ·refine bG (@aH.aC) ?_;apply aB.block;refine bG (@aH.aC) ?_;refine wz h (fun h=>?_) fun h=>?_
  ·obtain⟨y9,hy9,h⟩:=cC h;refine wy h (fun hg10 h=>?_) fun hg10 h=>?_
   ·refine kO (ai (@aH.aC)<|hg10) (Qb x0.v_ _ hy9) ?_;exact⟨((x0.name.data.toList==(bm #[]).data.toList),(x0.n==0),((x0.sub.length:Int)==0),(x0.table.data.toList==(bm #[]).data.toList),(decide (x0.v_.int>=0))),h,bB (ai @aH.aC<|hg10)⟩
   ·refine kO (ai (@aH.aC)<|hg10) (Qb x0.v_ _ hy9) ?_;exact⟨((x0.name.data.toList==(bm #[]).data.toList),(x0.n==0),((x0.sub.length:Int)==0),(x0.table.data.toList==(bm #[]).data.toList),false),h,bB (ai @aH.aC<|hg10)⟩
  ·refine bG (@aH.aC) ?_;refine wz h (fun h=>?_) fun h=>?_
   ·refine dN (@aH.aC) (uS x0.name) h fun y12 _ h=>?_;refine wy h (fun hg13 h=>?_) fun hg13 h=>?_
    ·refine bU (ai (@aH.aC)<|hg13) ?_;exact⟨(y12,(x0.n==0),((x0.sub.length:Int)==0),true,(vz x0.v_)),h,bB (ai @aH.aC<|hg13)⟩
    ·refine iA (ai (@aH.aC)<|hg13) (uS x0.table) h fun y14 _ h=>?_;exact⟨(y12,(x0.n==0),((x0.sub.length:Int)==0),y14,(vz x0.v_)),h,bB (ai @aH.aC<|hg13)⟩
   ·refine bG (@aH.aC) ?_;refine wz h (fun h=>?_) fun h=>?_
    ·refine wy h (fun hg16 h=>?_) fun hg16 h=>?_
     ·refine bU (ai (@aH.aC)<|hg16) ?_;exact⟨((x0.name.data.toList==(bm #[]).data.toList),(decide (x0.n<=16)),((x0.sub.length:Int)==0),(x0.table.data.toList==(bm #[]).data.toList),(vz x0.v_)),h,bB (ai @aH.aC<|hg16)⟩
     ·refine bU (ai (@aH.aC)<|hg16) ?_;exact⟨((x0.name.data.toList==(bm #[]).data.toList),false,((x0.sub.length:Int)==0),(x0.table.data.toList==(bm #[]).data.toList),(vz x0.v_)),h,bB (ai @aH.aC<|hg16)⟩
    ·refine jn h (fun q18=>bN [(1,.loc 1 0),(3,aY (x0.name.data.toList==(bm #[]).data.toList)),(4,aY (x0.n==0)),(5,aY ((x0.sub.length:Int)==0)),(6,aY (x0.table.data.toList==(bm #[]).data.toList)),(7,aY (vz x0.v_)),(26,aI x0.op),(61,aY q18)] [(1,(x0.v,29))] s 186) (fun u19 h=>?_) ?_
     ·refine bG (@aH.aC) ?_;refine wz h (fun h=>?_) fun h=>?_
      ·apply sK;exact⟨(x0.op==27),h,bB @aH.aC⟩
      ·refine bU (@aH.aC) ?_;exact⟨(x0.op==28),h,bB @aH.aC⟩
     ·rintro v17 h;refine wz h (fun h=>?_) fun h=>?_
      ·refine bU (@aH.aC) ?_;exact⟨((x0.name.data.toList==(bm #[]).data.toList),(x0.n==0),((x0.sub.length:Int)==1),(x0.table.data.toList==(bm #[]).data.toList),(vz x0.v_)),h,bB @aH.aC⟩
      ·refine bG (@aH.aC) ?_;refine wz h (fun h=>?_) fun h=>?_
       ·refine wy h (fun hg23 h=>?_) fun hg23 h=>?_
        ·refine bU (ai (@aH.aC)<|hg23) ?_;exact⟨((x0.name.data.toList==(bm #[]).data.toList),(x0.n==0),true,(x0.table.data.toList==(bm #[]).data.toList),(vz x0.v_)),h,bB (ai @aH.aC<|hg23)⟩
        ·refine wy h (fun hg24 h=>?_) fun hg24 h=>?_
         ·refine bU (ai (@aH.aC)<|ai hg23<|hg24) ?_;exact⟨((x0.name.data.toList==(bm #[]).data.toList),(x0.n==0),((x0.args.length:Int)==1),(x0.table.data.toList==(bm #[]).data.toList),(vz x0.v_)),h,bB (ai @aH.aC<|ai hg23<|hg24)⟩
         ·refine bU (ai (@aH.aC)<|ai hg23<|hg24) ?_;exact⟨((x0.name.data.toList==(bm #[]).data.toList),(x0.n==0),false,(x0.table.data.toList==(bm #[]).data.toList),(vz x0.v_)),h,bB (ai @aH.aC<|ai hg23<|hg24)⟩
       ·refine bG (@aH.aC) ?_;refine wz h (fun h=>?_) fun h=>?_
        ·refine wy h (fun hg26 h=>?_) fun hg26 h=>?_
         ·refine wy h (fun hg27 h=>?_) fun hg27 h=>?_
          ·have hd28:((0:Int)<=1)=True:=aJ (by decide);have hd29:((2:Int)≠0)=True:=aJ (by decide);refine wy h (fun hg30 h=>?_) fun hg30 h=>?_
           ·have hd31:((0:Int)<=1)=True:=aJ (by decide);refine bU (ai (@aH.aC)<|ai hg26<|ai hg27<|ai hd28<|ai hd29<|ai hg30<|hd31) ?_;exact⟨((x0.name.data.toList==(bm #[]).data.toList),(decide ((i64.wrap ((i64.wrap ((x0.args.length:Int)-(mK .i64 x0.n 1)))-(tE .i64 x0.n 1)))>=2)),((x0.sub.length:Int)==0),(x0.table.data.toList==(bm #[]).data.toList),(vz x0.v_)),h,bB (ai @aH.aC<|ai hg26<|ai hg27<|hg30)⟩
           ·refine bU (ai (@aH.aC)<|ai hg26<|ai hg27<|ai hd28<|ai hd29<|hg30) ?_;exact⟨((x0.name.data.toList==(bm #[]).data.toList),false,((x0.sub.length:Int)==0),(x0.table.data.toList==(bm #[]).data.toList),(vz x0.v_)),h,bB (ai @aH.aC<|ai hg26<|ai hg27<|hg30)⟩
          ·refine bU (ai (@aH.aC)<|ai hg26<|hg27) ?_;exact⟨((x0.name.data.toList==(bm #[]).data.toList),false,((x0.sub.length:Int)==0),(x0.table.data.toList==(bm #[]).data.toList),(vz x0.v_)),h,bB (ai @aH.aC<|ai hg26<|hg27)⟩
         ·refine bU (ai (@aH.aC)<|hg26) ?_;exact⟨((x0.name.data.toList==(bm #[]).data.toList),false,((x0.sub.length:Int)==0),(x0.table.data.toList==(bm #[]).data.toList),(vz x0.v_)),h,bB (ai @aH.aC<|hg26)⟩
        ·refine bG (@aH.aC) ?_;refine wz h (fun h=>?_) fun h=>?_
         ·obtain⟨y33,hy33,h⟩:=cC h;refine EH [0,1,2,3,4] [100128] (@aH.aC) (IL _ hy33) (Ps x0.name y33) h fun y34 _ h=>?_;exact⟨(y34,(x0.n==0),((x0.sub.length:Int)==0),(x0.table.data.toList==(bm #[]).data.toList),(vz x0.v_)),h,bB @aH.aC⟩
         ·refine bG (@aH.aC) ?_;refine wz h (fun h=>?_) fun h=>?_
          ·obtain⟨y36,hy36,h⟩:=cC h;refine EH [0,1,2,3,4] [100134] (@aH.aC) (IK _ hy36) (Ps x0.name y36) h fun y37 _ h=>?_;exact⟨(y37,(x0.n==0),((x0.sub.length:Int)==0),(x0.table.data.toList==(bm #[]).data.toList),(vz x0.v_)),h,bB @aH.aC⟩
          ·refine bG (@aH.aC) ?_;refine wz h (fun h=>?_) fun h=>?_
           ·refine jn h (fun q40=>bN [(1,.loc 1 0),(3,aY q40),(5,aY ((x0.sub.length:Int)==0)),(6,aY (x0.table.data.toList==(bm #[]).data.toList)),(7,aY (vz x0.v_))] [(1,(x0.v,29))] s 186) (fun u41 h=>?_) ?_
            ·obtain⟨y42,hy42,h⟩:=cC h;refine wy h (fun hg43 h=>?_) fun hg43 h=>?_
             ·refine kO (ai (@aH.aC)<|hg43) (uS x0.name _ hy42) ?_;exact⟨true,h,bB (ai @aH.aC<|hg43)⟩
             ·refine rC (ai (@aH.aC)<|hg43) (uS x0.name _ hy42) (Ps x0.name ([(bm #[82,69,80,76,65,67,69])])) h fun y44 _ h=>?_;exact⟨y44,h,bB (ai @aH.aC<|hg43)⟩
            ·rintro v39 h;refine wy h (fun hg45 h=>?_) fun hg45 h=>?_
             ·refine bU (ai (@aH.aC)<|hg45) ?_;exact⟨(v39,true,((x0.sub.length:Int)==0),(x0.table.data.toList==(bm #[]).data.toList),(vz x0.v_)),h,bB (ai @aH.aC<|hg45)⟩
             ·refine wy h (fun hg46 h=>?_) fun hg46 h=>?_
              ·refine wy h (fun hg47 h=>?_) fun hg47 h=>?_
               ·refine bU (ai (@aH.aC)<|ai hg45<|ai hg46<|hg47) ?_;exact⟨(v39,true,((x0.sub.length:Int)==0),(x0.table.data.toList==(bm #[]).data.toList),(vz x0.v_)),h,bB (ai @aH.aC<|ai hg45<|ai hg46<|hg47)⟩
               ·refine wy h (fun hg48 h=>?_) fun hg48 h=>?_
                ·refine bU (ai (@aH.aC)<|ai hg45<|ai hg46<|ai hg47<|hg48) ?_;exact⟨(v39,((x0.args.length:Int)==0),((x0.sub.length:Int)==0),(x0.table.data.toList==(bm #[]).data.toList),(vz x0.v_)),h,bB (ai @aH.aC<|ai hg45<|ai hg46<|ai hg47<|hg48)⟩
                ·refine bU (ai (@aH.aC)<|ai hg45<|ai hg46<|ai hg47<|hg48) ?_;exact⟨(v39,false,((x0.sub.length:Int)==0),(x0.table.data.toList==(bm #[]).data.toList),(vz x0.v_)),h,bB (ai @aH.aC<|ai hg45<|ai hg46<|ai hg47<|hg48)⟩
              ·refine wy h (fun hg49 h=>?_) fun hg49 h=>?_
               ·refine bU (ai (@aH.aC)<|ai hg45<|ai hg46<|hg49) ?_;exact⟨(v39,((x0.args.length:Int)==0),((x0.sub.length:Int)==0),(x0.table.data.toList==(bm #[]).data.toList),(vz x0.v_)),h,bB (ai @aH.aC<|ai hg45<|ai hg46<|hg49)⟩
               ·refine bU (ai (@aH.aC)<|ai hg45<|ai hg46<|hg49) ?_;exact⟨(v39,false,((x0.sub.length:Int)==0),(x0.table.data.toList==(bm #[]).data.toList),(vz x0.v_)),h,bB (ai @aH.aC<|ai hg45<|ai hg46<|hg49)⟩
           ·apply sK;exact⟨((x0.name.data.toList==(bm #[]).data.toList),(x0.n==0),((x0.sub.length:Int)==0),(x0.table.data.toList==(bm #[]).data.toList),(vz x0.v_)),h,bB @aH.aC⟩
 ·rintro⟨v1,v2,v3,v4,v5⟩ h;(try dsimp only at h ⊢);refine jn h (fun q51=>bN [(2,aY q51)] [] s 186) (fun u52 h=>?_) ?_
  ·refine wy h (fun hg53 h=>?_) fun hg53 h=>?_
   ·refine wy h (fun hg54 h=>?_) fun hg54 h=>?_
    ·refine wy h (fun hg55 h=>?_) fun hg55 h=>?_
     ·refine wy h (fun hg56 h=>?_) fun hg56 h=>?_
      ·refine bU (ai (@aH.aC)<|ai hg53<|ai hg54<|ai hg55<|hg56) ?_;exact⟨v5,h,bB (ai @aH.aC<|ai hg53<|ai hg54<|ai hg55<|hg56)⟩
      ·refine bU (ai (@aH.aC)<|ai hg53<|ai hg54<|ai hg55<|hg56) ?_;exact⟨false,h,bB (ai @aH.aC<|ai hg53<|ai hg54<|ai hg55<|hg56)⟩
     ·refine bU (ai (@aH.aC)<|ai hg53<|ai hg54<|hg55) ?_;exact⟨false,h,bB (ai @aH.aC<|ai hg53<|ai hg54<|hg55)⟩
    ·refine bU (ai (@aH.aC)<|ai hg53<|hg54) ?_;exact⟨false,h,bB (ai @aH.aC<|ai hg53<|hg54)⟩
   ·refine bU (ai (@aH.aC)<|hg53) ?_;exact⟨false,h,bB (ai @aH.aC<|hg53)⟩
  ·rintro v50 h;cases h;exact aB.ret (iT @aH.aC [.tmp 2])
def Gk (x0:ByteArray):Option (Bool):=(call (gX x0) fun y1=>(some (!y1)))
def c82 (x0:ByteArray) (r:Bool) (h:Gk x0=some r):cG prog 82 [aM x0] (aY r):=by
 intro s;unfold Gk at h;refine ac func82 ntmps82 ?_;refine rg ?_;refine dH (uS x0) h fun y1 _ h=>?_;cases h;exact aB.ret (bM [.tmp 2])
def Nu (x0:(List ByteArray)):Option (Int):=(cF (fun u4 (q3:Int)=>(aE (decide (q3<(x0.length:Int))) (aR (0<=q3∧q3<(x0.length:Int)) (call (Gk (x0.getD q3.toNat bO)) fun y10=>(aE y10 (some q3) (u4 (i64.wrap (q3+1)))))) (some (-1)))) bQ 0)
def aCa (x0:(List ByteArray)) (r:Int) (h:Nu x0=some r):cG prog 125 [.slice 1 (List.map (fun x=>[aM x]) x0),.func 82 [] []] (aI r):=by
 intro s;unfold Nu at h;refine ac func125 ntmps125 ?_;refine rg ?_;apply aB.seq;refine rg ?_;apply aB.block;refine lp h (fun q3=>bN [(0,.slice 1 (List.map (fun x=>[aM x]) x0)),(1,.func 82 [] []),(7,aI (x0.length:Int)),(8,aI q3)] [] s 19) ?_ ?_
 ·exact bX
 ·rintro u4 v2 h;refine rg ?_;apply aB.seq;refine wz h (fun h=>?_) fun h=>?_
  ·apply sK;apply aB.seq;apply aB.block;refine rg ?_;obtain⟨hn9,h⟩:=aV h;refine dN (ai (aJ hn9.1)<|ai (aJ hn9.2)<|(bW (fun x=>[aM x]) bO hn9)) (c82 (x0.getD v2.toNat bO)) h fun y10 _ h=>?_;refine wz h (fun h=>?_) fun h=>?_
   ·refine rg ?_;cases h;exact aB.ret (bM [.tmp 4])
   ·apply sK;refine r1 ?_;exact⟨(i64.wrap (v2+1)),h,bX⟩
  ·apply aB.exit;simp only[dR,seval];refine rg ?_;cases h;exact aB.ret (bM [.tmp 4])
def Jm (x0:(List ByteArray)):Option (Bool):=(call (Nu x0) fun y1=>(some (decide (y1>=0))))
def Vb (x0:(List ByteArray)) (r:Bool) (h:Jm x0=some r):cG prog 81 [.slice 1 (List.map (fun x=>[aM x]) x0),.func 82 [] []] (aY r):=by
 intro s;unfold Jm at h;refine ac func81 ntmps81 ?_;refine rg ?_;refine dH (aCa x0) h fun y1 _ h=>?_;cases h;exact aB.ret (bM [.tmp 4])
def As (x0:ByteArray):Option (Bool):=(join (fun u3=>(aE (x0.data.toList==(bm #[]).data.toList) (u3 true) (call (gX x0) fun y5=>(u3 y5)))) (fun(q2:Bool)=>(some q2)))
def Dg (x0:ByteArray) (r:Bool) (h:As x0=some r):cG prog 126 [aM x0] (aY r):=by
 intro s;unfold As at h;refine ac func126 ntmps126 ?_;refine rg ?_;refine jn h (fun q2=>bN [(2,aY q2)] [] s 9) (fun u3 h=>?_) ?_
 ·refine wy h (fun hg4 h=>?_) fun hg4 h=>?_
  ·refine bU hg4 ?_;exact⟨true,h,bB hg4⟩
  ·refine iA hg4 (uS x0) h fun y5 _ h=>?_;exact⟨y5,h,bB hg4⟩
 ·rintro v1 h;cases h;exact aB.ret (bM [.tmp 2])
structure cP where
 p106_1:(List aA)->Option (Int)
 p106_2:(List aA)->Option (Int)
 p107_1:(List aF)->Option (Int)
 p127:aO->Option (Bool)
 p128:aA->Option (Bool)
 p31:aA->Option (Bool)
 p44:aF->Option (Bool)
 p62_1:(List aA)->Option (Bool)
 p62_2:(List aA)->Option (Bool)
 p63:aA->Option (Bool)
 p64_1:(List aF)->Option (Bool)
 p65:aF->Option (Bool)
 p83:aF->Option (Bool)
 p84:aK->Option (Bool)
 p85:(List aA)->Int->Option (Bool)
abbrev FY (f:(List aA)->Option (Int)):Prop:=∀(x0:(List aA)) (r:Int),f x0=some r->cG prog 106 [.slice 10 (x0.map aA.v),.func 128 [] []] (aI r)
abbrev FX (f:(List aA)->Option (Int)):Prop:=∀(x0:(List aA)) (r:Int),f x0=some r->cG prog 106 [.slice 10 (x0.map aA.v),.func 63 [] []] (aI r)
abbrev FW (f:(List aF)->Option (Int)):Prop:=∀(x0:(List aF)) (r:Int),f x0=some r->cG prog 107 [.slice 5 (x0.map aF.v),.func 65 [] []] (aI r)
abbrev IR (f:aO->Option (Bool)):Prop:=∀(x0:aO) (r:Bool),f x0=some r->cG prog 127 [.agg x0.v] (aY r)
abbrev IQ (f:aA->Option (Bool)):Prop:=∀(x0:aA) (r:Bool),f x0=some r->cG prog 128 [.agg x0.v] (aY r)
abbrev JV (f:aA->Option (Bool)):Prop:=∀(x0:aA) (r:Bool),f x0=some r->cG prog 31 [.agg x0.v] (aY r)
abbrev JS (f:aF->Option (Bool)):Prop:=∀(x0:aF) (r:Bool),f x0=some r->cG prog 44 [.agg x0.v] (aY r)
abbrev GX (f:(List aA)->Option (Bool)):Prop:=∀(x0:(List aA)) (r:Bool),f x0=some r->cG prog 62 [.slice 10 (x0.map aA.v),.func 128 [] []] (aY r)
abbrev GW (f:(List aA)->Option (Bool)):Prop:=∀(x0:(List aA)) (r:Bool),f x0=some r->cG prog 62 [.slice 10 (x0.map aA.v),.func 63 [] []] (aY r)
abbrev JM (f:aA->Option (Bool)):Prop:=∀(x0:aA) (r:Bool),f x0=some r->cG prog 63 [.agg x0.v] (aY r)
abbrev GV (f:(List aF)->Option (Bool)):Prop:=∀(x0:(List aF)) (r:Bool),f x0=some r->cG prog 64 [.slice 5 (x0.map aF.v),.func 65 [] []] (aY r)
abbrev JL (f:aF->Option (Bool)):Prop:=∀(x0:aF) (r:Bool),f x0=some r->cG prog 65 [.agg x0.v] (aY r)
abbrev JK (f:aF->Option (Bool)):Prop:=∀(x0:aF) (r:Bool),f x0=some r->cG prog 83 [.agg x0.v] (aY r)
abbrev JJ (f:aK->Option (Bool)):Prop:=∀(x0:aK) (r:Bool),f x0=some r->cG prog 84 [.agg x0.v] (aY r)
abbrev JI (f:(List aA)->Int->Option (Bool)):Prop:=∀(x0:(List aA)) (x1:Int) (r:Bool),f x0 x1=some r->cG prog 85 [.slice 10 (x0.map aA.v),aI x1] (aY r)
structure cP.Ok (F:cP):Prop where
 p106_1:FY F.p106_1
 p106_2:FX F.p106_2
 p107_1:FW F.p107_1
 p127:IR F.p127
 p128:IQ F.p128
 p31:JV F.p31
 p44:JS F.p44
 p62_1:GX F.p62_1
 p62_2:GW F.p62_2
 p63:JM F.p63
 p64_1:GV F.p64_1
 p65:JL F.p65
 p83:JK F.p83
 p84:JJ F.p84
 p85:JI F.p85
def Ub (F:cP) (x0:(List aA)):Option (Int):=(cF (fun u4 (q3:Int)=>(aE (decide (q3<(x0.length:Int))) (aR (0<=q3∧q3<(x0.length:Int)) (call (F.p128 (x0.getD q3.toNat aA.z)) fun y10=>(aE y10 (some q3) (u4 (i64.wrap (q3+1)))))) (some (-1)))) bQ 0)
def aB1 (F:cP) (H:F.Ok):FY (Ub F):=fun x0 r h=>by
 intro s;unfold Ub at h;refine ac func106 ntmps106 ?_;refine rg ?_;apply aB.seq;refine rg ?_;apply aB.block;refine lp h (fun q3=>bN [(0,.slice 10 (x0.map aA.v)),(1,.func 128 [] []),(7,aI (x0.length:Int)),(8,aI q3)] [] s 19) ?_ ?_
 ·exact bX
 ·rintro u4 v2 h;refine rg ?_;apply aB.seq;refine wz h (fun h=>?_) fun h=>?_
  ·apply sK;apply aB.seq;apply aB.block;refine rg ?_;obtain⟨hn9,h⟩:=aV h;refine dN (ai (aJ hn9.1)<|ai (aJ hn9.2)<|(bW aA.v aA.z hn9)) (H.p128 (x0.getD v2.toNat aA.z)) h fun y10 _ h=>?_;refine wz h (fun h=>?_) fun h=>?_
   ·refine rg ?_;cases h;exact aB.ret (bM [.tmp 4])
   ·apply sK;refine r1 ?_;exact⟨(i64.wrap (v2+1)),h,bX⟩
  ·apply aB.exit;simp only[dR,seval];refine rg ?_;cases h;exact aB.ret (bM [.tmp 4])
def Ua (F:cP) (x0:(List aA)):Option (Int):=(cF (fun u4 (q3:Int)=>(aE (decide (q3<(x0.length:Int))) (aR (0<=q3∧q3<(x0.length:Int)) (call (F.p63 (x0.getD q3.toNat aA.z)) fun y10=>(aE y10 (some q3) (u4 (i64.wrap (q3+1)))))) (some (-1)))) bQ 0)
def aB0 (F:cP) (H:F.Ok):FX (Ua F):=fun x0 r h=>by
 intro s;unfold Ua at h;refine ac func106 ntmps106 ?_;refine rg ?_;apply aB.seq;refine rg ?_;apply aB.block;refine lp h (fun q3=>bN [(0,.slice 10 (x0.map aA.v)),(1,.func 63 [] []),(7,aI (x0.length:Int)),(8,aI q3)] [] s 19) ?_ ?_
 ·exact bX
 ·rintro u4 v2 h;refine rg ?_;apply aB.seq;refine wz h (fun h=>?_) fun h=>?_
  ·apply sK;apply aB.seq;apply aB.block;refine rg ?_;obtain⟨hn9,h⟩:=aV h;refine dN (ai (aJ hn9.1)<|ai (aJ hn9.2)<|(bW aA.v aA.z hn9)) (H.p63 (x0.getD v2.toNat aA.z)) h fun y10 _ h=>?_;refine wz h (fun h=>?_) fun h=>?_
   ·refine rg ?_;cases h;exact aB.ret (bM [.tmp 4])
   ·apply sK;refine r1 ?_;exact⟨(i64.wrap (v2+1)),h,bX⟩
  ·apply aB.exit;simp only[dR,seval];refine rg ?_;cases h;exact aB.ret (bM [.tmp 4])
def Tz (F:cP) (x0:(List aF)):Option (Int):=(cF (fun u4 (q3:Int)=>(aE (decide (q3<(x0.length:Int))) (aR (0<=q3∧q3<(x0.length:Int)) (call (F.p65 (x0.getD q3.toNat aF.z)) fun y10=>(aE y10 (some q3) (u4 (i64.wrap (q3+1)))))) (some (-1)))) bQ 0)
def aBz (F:cP) (H:F.Ok):FW (Tz F):=fun x0 r h=>by
 intro s;unfold Tz at h;refine ac func107 ntmps107 ?_;refine rg ?_;apply aB.seq;refine rg ?_;apply aB.block;refine lp h (fun q3=>bN [(0,.slice 5 (x0.map aF.v)),(1,.func 65 [] []),(7,aI (x0.length:Int)),(8,aI q3)] [] s 19) ?_ ?_
 ·exact bX
 ·rintro u4 v2 h;refine rg ?_;apply aB.seq;refine wz h (fun h=>?_) fun h=>?_
  ·apply sK;apply aB.seq;apply aB.block;refine rg ?_;obtain⟨hn9,h⟩:=aV h;refine dN (ai (aJ hn9.1)<|ai (aJ hn9.2)<|(bW aF.v aF.z hn9)) (H.p65 (x0.getD v2.toNat aF.z)) h fun y10 _ h=>?_;refine wz h (fun h=>?_) fun h=>?_
   ·refine rg ?_;cases h;exact aB.ret (bM [.tmp 4])
   ·apply sK;refine r1 ?_;exact⟨(i64.wrap (v2+1)),h,bX⟩
  ·apply aB.exit;simp only[dR,seval];refine rg ?_;cases h;exact aB.ret (bM [.tmp 4])
def Kw (F:cP) (x0:aO):Option (Bool):=(aE ((x0.sub.length:Int)==0) (call (gX x0.name) fun y3=>(some y3)) (join (fun u6=>(aE (x0.name.data.toList==(bm #[]).data.toList) (aE ((x0.sub.length:Int)==1) (aR (0<=(0:Int)∧(0:Int)<(x0.sub.length:Int)) (call (F.p83 (x0.sub.getD 0 aF.z)) fun y12=>(u6 y12))) (u6 false)) (u6 false))) (fun(q5:Bool)=>(some q5))))
def aGx (F:cP) (H:F.Ok):IR (Kw F):=fun x0 r h=>by
 intro s;unfold Kw at h;refine ac func127 ntmps127 ?_;refine rg ?_;apply aB.seq;refine rg ?_;refine wz h (fun h=>?_) fun h=>?_
 ·refine dH (uS x0.name) h fun y3 _ h=>?_;cases h;exact aB.ret (bM [.tmp 2])
 ·apply sK;refine jn h (fun q5=>bN [(2,aY q5)] [] s 26) (fun u6 h=>?_) ?_
  ·refine wy h (fun hg7 h=>?_) fun hg7 h=>?_
   ·refine wy h (fun hg8 h=>?_) fun hg8 h=>?_
    ·obtain⟨hn10,h⟩:=aV h;have hg11:(x0.sub.map aF.v).getD 0 []=aF.v (x0.sub.getD 0 aF.z):=bW aF.v aF.z hn10;refine iA (ai hg7<|ai hg8<|ai (aJ hn10.1)<|ai (aJ hn10.2)<|ai (bW aF.v aF.z hn10)<|hg11) (H.p83 (x0.sub.getD 0 aF.z)) h fun y12 _ h=>?_;exact⟨y12,h,bB (ai hg7<|hg8)⟩
    ·refine bU (ai hg7<|hg8) ?_;exact⟨false,h,bB (ai hg7<|hg8)⟩
   ·refine bU hg7 ?_;exact⟨false,h,bB hg7⟩
  ·rintro v4 h;cases h;exact aB.ret (bM [.tmp 2])
def Kv (F:cP) (x0:aA):Option (Bool):=(call (F.p31 x0) fun y1=>(some (!y1)))
def aGw (F:cP) (H:F.Ok):IQ (Kv F):=fun x0 r h=>by
 intro s;unfold Kv at h;refine ac func128 ntmps128 ?_;refine rg ?_;refine dH (H.p31 x0) h fun y1 _ h=>?_;cases h;exact aB.ret (bM [.tmp 2])
def Gn (F:cP) (x0:aA):Option (Bool):=(call (Dk x0.op) fun y1=>(join (fun u5=>(aE (!y1.2) (u5 true) (aE (decide ((x0.args.length:Int)<y1.1.least)) (u5 true) (aE (decide (y1.1.most>=0)) (aE (decide ((x0.args.length:Int)>y1.1.most)) (u5 true) (aE x0.not (aE (!y1.1.not) (u5 true) (call (iQ x0) fun y12=>(u5 (!y12)))) (call (iQ x0) fun y13=>(u5 (!y13))))) (aE x0.not (aE (!y1.1.not) (u5 true) (call (iQ x0) fun y16=>(u5 (!y16)))) (call (iQ x0) fun y17=>(u5 (!y17)))))))) (fun(q4:Bool)=>(aE q4 (some false) (join (fun u21=>(call (F.p62_2 x0.args) fun y22=>(aE (!y22) (call (F.p64_1 x0.sub) fun y24=>(u21 (!y24))) (u21 false)))) (fun(q20:Bool)=>(some q20)))))))
def d31 (F:cP) (H:F.Ok):JV (Gn F):=fun x0 r h=>by
 intro s;unfold Gn at h;refine ac func31 ntmps31 ?_;refine rg ?_;refine dH (c60 x0.op) h fun y1 _ h=>?_;apply aB.seq;refine jn h (fun q4=>bN [(1,.loc 1 0),(47,aY q4)] [(1,(x0.v,29))] s 58) (fun u5 h=>?_) ?_
 ·refine wy h (fun hg6 h=>?_) fun hg6 h=>?_
  ·refine bU hg6 ?_;exact⟨true,h,bB hg6⟩
  ·refine wy h (fun hg7 h=>?_) fun hg7 h=>?_
   ·refine bU (ai hg6<|hg7) ?_;exact⟨true,h,bB (ai hg6<|hg7)⟩
   ·refine wy h (fun hg8 h=>?_) fun hg8 h=>?_
    ·refine wy h (fun hg9 h=>?_) fun hg9 h=>?_
     ·refine bU (ai hg6<|ai hg7<|ai hg8<|hg9) ?_;exact⟨true,h,bB (ai hg6<|ai hg7<|ai hg8<|hg9)⟩
     ·refine wy h (fun hg10 h=>?_) fun hg10 h=>?_
      ·refine wy h (fun hg11 h=>?_) fun hg11 h=>?_
       ·refine bU (ai hg6<|ai hg7<|ai hg8<|ai hg9<|ai hg10<|hg11) ?_;exact⟨true,h,bB (ai hg6<|ai hg7<|ai hg8<|ai hg9<|ai hg10<|hg11)⟩
       ·refine iA (ai hg6<|ai hg7<|ai hg8<|ai hg9<|ai hg10<|hg11) (Qc x0) h fun y12 _ h=>?_;exact⟨(!y12),h,bB (ai hg6<|ai hg7<|ai hg8<|ai hg9<|ai hg10<|hg11)⟩
      ·refine iA (ai hg6<|ai hg7<|ai hg8<|ai hg9<|hg10) (Qc x0) h fun y13 _ h=>?_;exact⟨(!y13),h,bB (ai hg6<|ai hg7<|ai hg8<|ai hg9<|hg10)⟩
    ·refine wy h (fun hg14 h=>?_) fun hg14 h=>?_
     ·refine wy h (fun hg15 h=>?_) fun hg15 h=>?_
      ·refine bU (ai hg6<|ai hg7<|ai hg8<|ai hg14<|hg15) ?_;exact⟨true,h,bB (ai hg6<|ai hg7<|ai hg8<|ai hg14<|hg15)⟩
      ·refine iA (ai hg6<|ai hg7<|ai hg8<|ai hg14<|hg15) (Qc x0) h fun y16 _ h=>?_;exact⟨(!y16),h,bB (ai hg6<|ai hg7<|ai hg8<|ai hg14<|hg15)⟩
     ·refine iA (ai hg6<|ai hg7<|ai hg8<|hg14) (Qc x0) h fun y17 _ h=>?_;exact⟨(!y17),h,bB (ai hg6<|ai hg7<|ai hg8<|hg14)⟩
 ·rintro v3 h;refine wz h (fun h=>?_) fun h=>?_
  ·refine rg ?_;cases h;exact aB.ret (bM [.tmp 2])
  ·apply sK;refine jn h (fun q20=>bN [(2,aY q20)] [] s 58) (fun u21 h=>?_) ?_
   ·obtain⟨y22,hy22,h⟩:=cC h;refine wy h (fun hg23 h=>?_) fun hg23 h=>?_
    ·refine rC hg23 (H.p62_2 x0.args _ hy22) (H.p64_1 x0.sub) h fun y24 _ h=>?_;exact⟨(!y24),h,bB hg23⟩
    ·refine kO hg23 (H.p62_2 x0.args _ hy22) ?_;exact⟨false,h,bB hg23⟩
   ·rintro v19 h;cases h;exact aB.ret (bM [.tmp 2])
def Lr (F:cP) (x0:aF):Option (Bool):=(cF (fun u4 (q3:Int)=>(aE (decide (q3<(x0.with_.length:Int))) (aR (0<=q3∧q3<(x0.with_.length:Int)) (join (fun u12=>(call (gX ((x0.with_.getD q3.toNat bE.z).name)) fun y13=>(aE (!y13) (u12 true) (call (Jm ((x0.with_.getD q3.toNat bE.z).cols)) fun y15=>(aE y15 (u12 true) (aE (((((x0.with_.getD q3.toNat bE.z).body).length:Nat):Int) != 1) (u12 true) (aR (0<=(0:Int)∧(0:Int)<((((x0.with_.getD q3.toNat bE.z).body).length:Nat):Int)) (call (F.p83 (((x0.with_.getD q3.toNat bE.z).body).getD 0 aF.z)) fun y21=>(u12 (!y21)))))))))) (fun(q11:Bool)=>(aE q11 (some false) (u4 (i64.wrap (q3+1))))))) (cF (fun u26 (q25:Int)=>(aE (decide (q25<(x0.parts.length:Int))) (aR (0<=q25∧q25<(x0.parts.length:Int)) (join (fun u34=>(aE (decide (((x0.parts.getD q25.toNat aK.z).comp)<0)) (u34 true) (aE (decide (((x0.parts.getD q25.toNat aK.z).comp)>4)) (u34 true) (aE (!((((x0.parts.getD q25.toNat aK.z).comp)==0)==(q25==0))) (u34 true) (call (F.p84 (x0.parts.getD q25.toNat aK.z)) fun y38=>(u34 (!y38))))))) (fun(q33:Bool)=>(aE q33 (some false) (u26 (i64.wrap (q25+1))))))) (cF (fun u43 (q42:Int)=>(aE (decide (q42<(x0.order.length:Int))) (aR (0<=q42∧q42<(x0.order.length:Int)) (call (F.p31 ((x0.order.getD q42.toNat aX.z).expr)) fun y49=>(aE (!y49) (some false) (u43 (i64.wrap (q42+1)))))) (join (fun u53=>(aE (decide ((x0.parts.length:Int)>0)) (call (F.p85 x0.limit 1) fun y55=>(aE y55 (call (F.p85 x0.offset (x0.limit.length:Int)) fun y57=>(u53 y57)) (u53 false))) (u53 false))) (fun(q52:Bool)=>(some q52))))) bQ 0))) bQ 0))) bQ 0)
def d44 (F:cP) (H:F.Ok):JS (Lr F):=fun x0 r h=>by
 intro s;unfold Lr at h;refine ac func44 ntmps44 ?_;refine rg ?_;apply aB.seq;refine rg ?_;apply aB.block;refine lp h (fun q3=>bN [(1,.loc 1 0),(10,.slice 3 (x0.with_.map bE.v)),(11,aI (x0.with_.length:Int)),(12,aI q3)] [(1,(x0.v,42))] s 99) ?_ ?_
 ·exact bX
 ·rintro u4 v2 h;refine rg ?_;apply aB.seq;refine wz h (fun h=>?_) fun h=>?_
  ·apply sK;apply aB.seq;apply aB.block;obtain⟨hn9,h⟩:=aV h;refine bG (ai (aJ hn9.1)<|ai (aJ hn9.2)<|(bW bE.v bE.z hn9)) ?_;refine jn h (fun q11=>bN [(1,.loc 1 0),(10,.slice 3 (x0.with_.map bE.v)),(11,aI (x0.with_.length:Int)),(12,aI v2),(38,aY q11)] [(1,(x0.v,42))] s 99) (fun u12 h=>?_) ?_
   ·obtain⟨y13,hy13,h⟩:=cC h;refine wy h (fun hg14 h=>?_) fun hg14 h=>?_
    ·refine kO hg14 (uS ((x0.with_.getD v2.toNat bE.z).name) _ hy13) ?_;exact⟨true,h,bB hg14⟩
    ·obtain⟨y15,hy15,h⟩:=cC h;refine wy h (fun hg16 h=>?_) fun hg16 h=>?_
     ·refine Fc (ai hg14<|hg16) (uS ((x0.with_.getD v2.toNat bE.z).name) _ hy13) (Vb ((x0.with_.getD v2.toNat bE.z).cols) _ hy15) ?_;exact⟨true,h,bB (ai hg14<|hg16)⟩
     ·refine wy h (fun hg17 h=>?_) fun hg17 h=>?_
      ·refine Fc (ai hg14<|ai hg16<|hg17) (uS ((x0.with_.getD v2.toNat bE.z).name) _ hy13) (Vb ((x0.with_.getD v2.toNat bE.z).cols) _ hy15) ?_;exact⟨true,h,bB (ai hg14<|ai hg16<|hg17)⟩
      ·obtain⟨hn19,h⟩:=aV h;have hg20:(List.map aF.v ((x0.with_.getD v2.toNat bE.z).body)).getD 0 []=aF.v (((x0.with_.getD v2.toNat bE.z).body).getD 0 aF.z):=bW aF.v aF.z hn19;refine Iy (ai hg14<|ai hg16<|ai hg17<|ai (aJ hn19.1)<|ai (aJ hn19.2)<|ai (bW aF.v aF.z hn19)<|hg20) (uS ((x0.with_.getD v2.toNat bE.z).name) _ hy13) (Vb ((x0.with_.getD v2.toNat bE.z).cols) _ hy15) (H.p83 (((x0.with_.getD v2.toNat bE.z).body).getD 0 aF.z)) h fun y21 _ h=>?_;exact⟨(!y21),h,bB (ai hg14<|ai hg16<|hg17)⟩
   ·rintro v10 h;refine wz h (fun h=>?_) fun h=>?_
    ·refine rg ?_;cases h;exact aB.ret (bM [.tmp 2])
    ·apply sK;refine r1 ?_;exact⟨(i64.wrap (v2+1)),h,bX⟩
  ·apply aB.exit;simp only[dR,seval];apply aB.seq;refine rg ?_;apply aB.block;refine lp h (fun q25=>bN [(1,.loc 1 0),(41,.slice 8 (x0.parts.map aK.v)),(42,aI (x0.parts.length:Int)),(43,aI q25)] [(1,(x0.v,42))] s 99) ?_ ?_
   ·exact bX
   ·rintro u26 v24 h;refine rg ?_;apply aB.seq;refine wz h (fun h=>?_) fun h=>?_
    ·apply sK;apply aB.seq;apply aB.block;obtain⟨hn31,h⟩:=aV h;refine bG (ai (aJ hn31.1)<|ai (aJ hn31.2)<|(bW aK.v aK.z hn31)) ?_;refine jn h (fun q33=>bN [(1,.loc 1 0),(41,.slice 8 (x0.parts.map aK.v)),(42,aI (x0.parts.length:Int)),(43,aI v24),(68,aY q33)] [(1,(x0.v,42))] s 99) (fun u34 h=>?_) ?_
     ·refine wy h (fun hg35 h=>?_) fun hg35 h=>?_
      ·refine bU hg35 ?_;exact⟨true,h,bB hg35⟩
      ·refine wy h (fun hg36 h=>?_) fun hg36 h=>?_
       ·refine bU (ai hg35<|hg36) ?_;exact⟨true,h,bB (ai hg35<|hg36)⟩
       ·refine wy h (fun hg37 h=>?_) fun hg37 h=>?_
        ·refine bU (ai hg35<|ai hg36<|hg37) ?_;exact⟨true,h,bB (ai hg35<|ai hg36<|hg37)⟩
        ·refine iA (ai hg35<|ai hg36<|hg37) (H.p84 (x0.parts.getD v24.toNat aK.z)) h fun y38 _ h=>?_;exact⟨(!y38),h,bB (ai hg35<|ai hg36<|hg37)⟩
     ·rintro v32 h;refine wz h (fun h=>?_) fun h=>?_
      ·refine rg ?_;cases h;exact aB.ret (bM [.tmp 2])
      ·apply sK;refine r1 ?_;exact⟨(i64.wrap (v24+1)),h,bX⟩
    ·apply aB.exit;simp only[dR,seval];apply aB.seq;refine rg ?_;apply aB.block;refine lp h (fun q42=>bN [(1,.loc 1 0),(71,.slice 11 (x0.order.map aX.v)),(72,aI (x0.order.length:Int)),(73,aI q42)] [(1,(x0.v,42))] s 99) ?_ ?_
     ·exact bX
     ·rintro u43 v41 h;refine rg ?_;apply aB.seq;refine wz h (fun h=>?_) fun h=>?_
      ·apply sK;apply aB.seq;apply aB.block;obtain⟨hn48,h⟩:=aV h;refine bG (ai (aJ hn48.1)<|ai (aJ hn48.2)<|(bW aX.v aX.z hn48)) ?_;refine dH (H.p31 ((x0.order.getD v41.toNat aX.z).expr)) h fun y49 _ h=>?_;refine wz h (fun h=>?_) fun h=>?_
       ·refine rg ?_;cases h;exact aB.ret (bM [.tmp 2])
       ·apply sK;refine r1 ?_;exact⟨(i64.wrap (v41+1)),h,bX⟩
      ·apply aB.exit;simp only[dR,seval];refine jn h (fun q52=>bN [(2,aY q52)] [] s 99) (fun u53 h=>?_) ?_
       ·refine wy h (fun hg54 h=>?_) fun hg54 h=>?_
        ·obtain⟨y55,hy55,h⟩:=cC h;refine wy h (fun hg56 h=>?_) fun hg56 h=>?_
         ·refine rC (ai hg54<|hg56) (H.p85 x0.limit 1 _ hy55) (H.p85 x0.offset (x0.limit.length:Int)) h fun y57 _ h=>?_;exact⟨y57,h,bB (ai hg54<|hg56)⟩
         ·refine kO (ai hg54<|hg56) (H.p85 x0.limit 1 _ hy55) ?_;exact⟨false,h,bB (ai hg54<|hg56)⟩
        ·refine bU hg54 ?_;exact⟨false,h,bB hg54⟩
       ·rintro v51 h;cases h;exact aB.ret (bM [.tmp 2])
def Jw (F:cP) (x0:(List aA)):Option (Bool):=(call (F.p106_1 x0) fun y1=>(some (decide (y1>=0))))
def aEm (F:cP) (H:F.Ok):GX (Jw F):=fun x0 r h=>by
 intro s;unfold Jw at h;refine ac func62 ntmps62 ?_;refine rg ?_;refine dH (H.p106_1 x0) h fun y1 hy1 h=>?_;cases h;exact aB.ret (bM [.tmp 4])
def Jv (F:cP) (x0:(List aA)):Option (Bool):=(call (F.p106_2 x0) fun y1=>(some (decide (y1>=0))))
def aEl (F:cP) (H:F.Ok):GW (Jv F):=fun x0 r h=>by
 intro s;unfold Jv at h;refine ac func62 ntmps62 ?_;refine rg ?_;refine dH (H.p106_2 x0) h fun y1 hy1 h=>?_;cases h;exact aB.ret (bM [.tmp 4])
def Lm (F:cP) (x0:aA):Option (Bool):=(call (F.p31 x0) fun y1=>(some (!y1)))
def d63 (F:cP) (H:F.Ok):JM (Lm F):=fun x0 r h=>by
 intro s;unfold Lm at h;refine ac func63 ntmps63 ?_;refine rg ?_;refine dH (H.p31 x0) h fun y1 hy1 h=>?_;cases h;exact aB.ret (bM [.tmp 2])
def Ju (F:cP) (x0:(List aF)):Option (Bool):=(call (F.p107_1 x0) fun y1=>(some (decide (y1>=0))))
def aEk (F:cP) (H:F.Ok):GV (Ju F):=fun x0 r h=>by
 intro s;unfold Ju at h;refine ac func64 ntmps64 ?_;refine rg ?_;refine dH (H.p107_1 x0) h fun y1 hy1 h=>?_;cases h;exact aB.ret (bM [.tmp 4])
def Ll (F:cP) (x0:aF):Option (Bool):=(join (fun u3=>(aE (decide ((x0.with_.length:Int)>0)) (u3 true) (call (F.p44 x0) fun y5=>(u3 (!y5))))) (fun(q2:Bool)=>(some q2)))
def d65 (F:cP) (H:F.Ok):JL (Ll F):=fun x0 r h=>by
 intro s;unfold Ll at h;refine ac func65 ntmps65 ?_;refine rg ?_;refine jn h (fun q2=>bN [(2,aY q2)] [] s 12) (fun u3 h=>?_) ?_
 ·refine wy h (fun hg4 h=>?_) fun hg4 h=>?_
  ·refine bU hg4 ?_;exact⟨true,h,bB hg4⟩
  ·refine iA hg4 (H.p44 x0) h fun y5 _ h=>?_;exact⟨(!y5),h,bB hg4⟩
 ·rintro v1 h;cases h;exact aB.ret (bM [.tmp 2])
def Lk (F:cP) (x0:aF):Option (Bool):=(join (fun u3=>(aE ((x0.with_.length:Int)==0) (call (F.p44 x0) fun y5=>(u3 y5)) (u3 false))) (fun(q2:Bool)=>(some q2)))
def d83 (F:cP) (H:F.Ok):JK (Lk F):=fun x0 r h=>by
 intro s;unfold Lk at h;refine ac func83 ntmps83 ?_;refine rg ?_;refine jn h (fun q2=>bN [(2,aY q2)] [] s 11) (fun u3 h=>?_) ?_
 ·refine wy h (fun hg4 h=>?_) fun hg4 h=>?_
  ·refine iA hg4 (H.p44 x0) h fun y5 _ h=>?_;exact⟨y5,h,bB hg4⟩
  ·refine bU hg4 ?_;exact⟨false,h,bB hg4⟩
 ·rintro v1 h;cases h;exact aB.ret (bM [.tmp 2])
def Lj (F:cP) (x0:aK):Option (Bool):=(aE (decide ((x0.values.length:Int)>0)) (cF (fun u6 (q5:Int)=>(aE (decide (q5<(x0.values.length:Int))) (aR (0<=q5∧q5<(x0.values.length:Int)) (join (fun u14=>(aE ((((x0.values.getD q5.toNat ([])).length:Nat):Int)==0) (u14 true) (aR (0<=(0:Int)∧(0:Int)<(x0.values.length:Int)) (aE ((((x0.values.getD q5.toNat ([])).length:Nat):Int) != (((x0.values.getD 0 ([])).length:Nat):Int)) (u14 true) (call (F.p85 (x0.values.getD q5.toNat ([])) (((x0.values.getD q5.toNat ([])).length:Nat):Int)) fun y20=>(u14 (!y20))))))) (fun(q13:Bool)=>(aE q13 (some false) (u6 (i64.wrap (q5+1))))))) (join (fun u24=>(aE (!x0.distinct) (u24 ((i64.wrap ((i64.wrap ((i64.wrap ((i64.wrap ((x0.items.length:Int)+(x0.from_.length:Int)))+(x0.where_.length:Int)))+(x0.group.length:Int)))+(x0.having.length:Int)))==0)) (u24 false))) (fun(q23:Bool)=>(some q23))))) bQ 0) (cF (fun u29 (q28:Int)=>(aE (decide (q28<(x0.items.length:Int))) (aR (0<=q28∧q28<(x0.items.length:Int)) (join (fun u37=>(aE ((x0.items.getD q28.toNat bA.z).star) (aE (decide (((((x0.items.getD q28.toNat bA.z).expr).length:Nat):Int)>0)) (u37 true) (aE (!(((x0.items.getD q28.toNat bA.z).az).data.toList==(bm #[]).data.toList)) (u37 true) (call (As ((x0.items.getD q28.toNat bA.z).table)) fun y41=>(aE (!y41) (u37 true) (u37 false))))) (aE (((((x0.items.getD q28.toNat bA.z).expr).length:Nat):Int) != 1) (u37 true) (call (F.p85 ((x0.items.getD q28.toNat bA.z).expr) 1) fun y44=>(aE (!y44) (u37 true) (aE (!(((x0.items.getD q28.toNat bA.z).table).data.toList==(bm #[]).data.toList)) (u37 true) (call (As ((x0.items.getD q28.toNat bA.z).az)) fun y47=>(u37 (!y47))))))))) (fun(q36:Bool)=>(aE q36 (some false) (u29 (i64.wrap (q28+1))))))) (cF (fun u52 (q51:Int)=>(aE (decide (q51<(x0.from_.length:Int))) (aR (0<=q51∧q51<(x0.from_.length:Int)) (join (fun u60=>(aE (decide (((x0.from_.getD q51.toNat aO.z).join)<0)) (u60 true) (aE (decide (((x0.from_.getD q51.toNat aO.z).join)>1)) (u60 true) (aE (q51==0) (aE (((x0.from_.getD q51.toNat aO.z).join) != 0) (u60 true) (aE (decide (((((x0.from_.getD q51.toNat aO.z).on).length:Nat):Int)>0)) (u60 true) (call (F.p85 ((x0.from_.getD q51.toNat aO.z).on) 1) fun y66=>(aE (!y66) (u60 true) (call (As ((x0.from_.getD q51.toNat aO.z).az)) fun y68=>(aE (!y68) (u60 true) (call (F.p127 (x0.from_.getD q51.toNat aO.z)) fun y70=>(u60 (!y70))))))))) (call (F.p85 ((x0.from_.getD q51.toNat aO.z).on) 1) fun y71=>(aE (!y71) (u60 true) (call (As ((x0.from_.getD q51.toNat aO.z).az)) fun y73=>(aE (!y73) (u60 true) (call (F.p127 (x0.from_.getD q51.toNat aO.z)) fun y75=>(u60 (!y75))))))))))) (fun(q59:Bool)=>(aE q59 (some false) (u52 (i64.wrap (q51+1))))))) (join (fun u79=>(aE (decide ((x0.items.length:Int)>0)) (call (F.p85 x0.where_ 1) fun y81=>(aE y81 (call (F.p85 x0.group (x0.group.length:Int)) fun y83=>(aE y83 (call (F.p85 x0.having (dW (x0.group.length:Int) 1)) fun y85=>(u79 y85)) (u79 false))) (u79 false))) (u79 false))) (fun(q78:Bool)=>(some q78))))) bQ 0))) bQ 0))
def d84 (F:cP) (H:F.Ok):JJ (Lj F):=fun x0 r h=>by
 intro s;unfold Lj at h;refine ac func84 ntmps84 ?_;refine rg ?_;apply aB.seq;refine rg ?_;refine wz h (fun h=>?_) fun h=>?_
 ·apply aB.seq;refine rg ?_;apply aB.block;refine lp h (fun q5=>bN [(1,.loc 1 0),(14,.slice 1 (List.map (fun x=>[V.slice 10 (x.map aA.v)]) x0.values)),(15,aI (x0.values.length:Int)),(16,aI q5)] [(1,(x0.v,75))] s 196) ?_ ?_
  ·exact bX
  ·rintro u6 v4 h;refine rg ?_;apply aB.seq;refine wz h (fun h=>?_) fun h=>?_
   ·apply sK;apply aB.seq;apply aB.block;obtain⟨hn11,h⟩:=aV h;refine bG (ai (aJ hn11.1)<|ai (aJ hn11.2)<|(bW (fun x=>[V.slice 10 (x.map aA.v)]) ([]) hn11)) ?_;refine jn h (fun q13=>bN [(1,.loc 1 0),(14,.slice 1 (List.map (fun x=>[V.slice 10 (x.map aA.v)]) x0.values)),(15,aI (x0.values.length:Int)),(16,aI v4),(39,aY q13)] [(1,(x0.v,75))] s 196) (fun u14 h=>?_) ?_
    ·refine wy h (fun hg15 h=>?_) fun hg15 h=>?_
     ·refine bU hg15 ?_;exact⟨true,h,bB hg15⟩
     ·obtain⟨hn17,h⟩:=aV h;have hg18:(List.map (fun x=>[V.slice 10 (x.map aA.v)]) x0.values).getD 0 []=(fun x=>[V.slice 10 (x.map aA.v)]) (x0.values.getD 0 ([])):=bW (fun x=>[V.slice 10 (x.map aA.v)]) ([]) hn17;refine wy h (fun hg19 h=>?_) fun hg19 h=>?_
      ·refine bU (ai hg15<|ai (aJ hn17.1)<|ai (aJ hn17.2)<|ai (bW (fun x=>[V.slice 10 (x.map aA.v)]) ([]) hn17)<|ai hg18<|hg19) ?_;exact⟨true,h,bB (ai hg15<|hg19)⟩
      ·refine iA (ai hg15<|ai (aJ hn17.1)<|ai (aJ hn17.2)<|ai (bW (fun x=>[V.slice 10 (x.map aA.v)]) ([]) hn17)<|ai hg18<|hg19) (H.p85 (x0.values.getD v4.toNat ([])) (((x0.values.getD v4.toNat ([])).length:Nat):Int)) h fun y20 _ h=>?_;exact⟨(!y20),h,bB (ai hg15<|hg19)⟩
    ·rintro v12 h;refine wz h (fun h=>?_) fun h=>?_
     ·refine rg ?_;cases h;exact aB.ret (bM [.tmp 2])
     ·apply sK;refine r1 ?_;exact⟨(i64.wrap (v4+1)),h,bX⟩
   ·apply aB.exit;simp only[dR,seval];refine jn h (fun q23=>bN [(2,aY q23)] [] s 196) (fun u24 h=>?_) ?_
    ·refine wy h (fun hg25 h=>?_) fun hg25 h=>?_
     ·refine bU hg25 ?_;exact⟨((i64.wrap ((i64.wrap ((i64.wrap ((i64.wrap ((x0.items.length:Int)+(x0.from_.length:Int)))+(x0.where_.length:Int)))+(x0.group.length:Int)))+(x0.having.length:Int)))==0),h,bB hg25⟩
     ·refine bU hg25 ?_;exact⟨false,h,bB hg25⟩
    ·rintro v22 h;cases h;exact aB.ret (bM [.tmp 2])
 ·apply sK;apply aB.seq;refine rg ?_;apply aB.block;refine lp h (fun q28=>bN [(1,.loc 1 0),(67,.slice 4 (x0.items.map bA.v)),(68,aI (x0.items.length:Int)),(69,aI q28)] [(1,(x0.v,75))] s 196) ?_ ?_
  ·exact bX
  ·rintro u29 v27 h;refine rg ?_;apply aB.seq;refine wz h (fun h=>?_) fun h=>?_
   ·apply sK;apply aB.seq;apply aB.block;obtain⟨hn34,h⟩:=aV h;refine bG (ai (aJ hn34.1)<|ai (aJ hn34.2)<|(bW bA.v bA.z hn34)) ?_;refine jn h (fun q36=>bN [(1,.loc 1 0),(67,.slice 4 (x0.items.map bA.v)),(68,aI (x0.items.length:Int)),(69,aI v27),(119,aY q36)] [(1,(x0.v,75))] s 196) (fun u37 h=>?_) ?_
    ·refine wy h (fun hg38 h=>?_) fun hg38 h=>?_
     ·refine wy h (fun hg39 h=>?_) fun hg39 h=>?_
      ·refine bU (ai hg38<|hg39) ?_;exact⟨true,h,bB (ai hg38<|hg39)⟩
      ·refine wy h (fun hg40 h=>?_) fun hg40 h=>?_
       ·refine bU (ai hg38<|ai hg39<|hg40) ?_;exact⟨true,h,bB (ai hg38<|ai hg39<|hg40)⟩
       ·obtain⟨y41,hy41,h⟩:=cC h;refine wy h (fun hg42 h=>?_) fun hg42 h=>?_
        ·refine kO (ai hg38<|ai hg39<|ai hg40<|hg42) (Dg ((x0.items.getD v27.toNat bA.z).table) _ hy41) ?_;exact⟨true,h,bB (ai hg38<|ai hg39<|ai hg40<|hg42)⟩
        ·refine kO (ai hg38<|ai hg39<|ai hg40<|hg42) (Dg ((x0.items.getD v27.toNat bA.z).table) _ hy41) ?_;exact⟨false,h,bB (ai hg38<|ai hg39<|ai hg40<|hg42)⟩
     ·refine wy h (fun hg43 h=>?_) fun hg43 h=>?_
      ·refine bU (ai hg38<|hg43) ?_;exact⟨true,h,bB (ai hg38<|hg43)⟩
      ·obtain⟨y44,hy44,h⟩:=cC h;refine wy h (fun hg45 h=>?_) fun hg45 h=>?_
       ·refine kO (ai hg38<|ai hg43<|hg45) (H.p85 ((x0.items.getD v27.toNat bA.z).expr) 1 _ hy44) ?_;exact⟨true,h,bB (ai hg38<|ai hg43<|hg45)⟩
       ·refine wy h (fun hg46 h=>?_) fun hg46 h=>?_
        ·refine kO (ai hg38<|ai hg43<|ai hg45<|hg46) (H.p85 ((x0.items.getD v27.toNat bA.z).expr) 1 _ hy44) ?_;exact⟨true,h,bB (ai hg38<|ai hg43<|ai hg45<|hg46)⟩
        ·refine rC (ai hg38<|ai hg43<|ai hg45<|hg46) (H.p85 ((x0.items.getD v27.toNat bA.z).expr) 1 _ hy44) (Dg ((x0.items.getD v27.toNat bA.z).az)) h fun y47 _ h=>?_;exact⟨(!y47),h,bB (ai hg38<|ai hg43<|ai hg45<|hg46)⟩
    ·rintro v35 h;refine wz h (fun h=>?_) fun h=>?_
     ·refine rg ?_;cases h;exact aB.ret (bM [.tmp 2])
     ·apply sK;refine r1 ?_;exact⟨(i64.wrap (v27+1)),h,bX⟩
   ·apply aB.exit;simp only[dR,seval];apply aB.seq;refine rg ?_;apply aB.block;refine lp h (fun q51=>bN [(1,.loc 1 0),(122,.slice 5 (x0.from_.map aO.v)),(123,aI (x0.from_.length:Int)),(124,aI q51)] [(1,(x0.v,75))] s 196) ?_ ?_
    ·exact bX
    ·rintro u52 v50 h;refine rg ?_;apply aB.seq;refine wz h (fun h=>?_) fun h=>?_
     ·apply sK;apply aB.seq;apply aB.block;obtain⟨hn57,h⟩:=aV h;refine bG (ai (aJ hn57.1)<|ai (aJ hn57.2)<|(bW aO.v aO.z hn57)) ?_;refine jn h (fun q59=>bN [(1,.loc 1 0),(122,.slice 5 (x0.from_.map aO.v)),(123,aI (x0.from_.length:Int)),(124,aI v50),(168,aY q59)] [(1,(x0.v,75))] s 196) (fun u60 h=>?_) ?_
      ·refine wy h (fun hg61 h=>?_) fun hg61 h=>?_
       ·refine bU hg61 ?_;exact⟨true,h,bB hg61⟩
       ·refine wy h (fun hg62 h=>?_) fun hg62 h=>?_
        ·refine bU (ai hg61<|hg62) ?_;exact⟨true,h,bB (ai hg61<|hg62)⟩
        ·refine wy h (fun hg63 h=>?_) fun hg63 h=>?_
         ·refine wy h (fun hg64 h=>?_) fun hg64 h=>?_
          ·refine bU (ai hg61<|ai hg62<|ai hg63<|hg64) ?_;exact⟨true,h,bB (ai hg61<|ai hg62<|ai hg63<|hg64)⟩
          ·refine wy h (fun hg65 h=>?_) fun hg65 h=>?_
           ·refine bU (ai hg61<|ai hg62<|ai hg63<|ai hg64<|hg65) ?_;exact⟨true,h,bB (ai hg61<|ai hg62<|ai hg63<|ai hg64<|hg65)⟩
           ·obtain⟨y66,hy66,h⟩:=cC h;refine wy h (fun hg67 h=>?_) fun hg67 h=>?_
            ·refine kO (ai hg61<|ai hg62<|ai hg63<|ai hg64<|ai hg65<|hg67) (H.p85 ((x0.from_.getD v50.toNat aO.z).on) 1 _ hy66) ?_;exact⟨true,h,bB (ai hg61<|ai hg62<|ai hg63<|ai hg64<|ai hg65<|hg67)⟩
            ·obtain⟨y68,hy68,h⟩:=cC h;refine wy h (fun hg69 h=>?_) fun hg69 h=>?_
             ·refine Fc (ai hg61<|ai hg62<|ai hg63<|ai hg64<|ai hg65<|ai hg67<|hg69) (H.p85 ((x0.from_.getD v50.toNat aO.z).on) 1 _ hy66) (Dg ((x0.from_.getD v50.toNat aO.z).az) _ hy68) ?_;exact⟨true,h,bB (ai hg61<|ai hg62<|ai hg63<|ai hg64<|ai hg65<|ai hg67<|hg69)⟩
             ·refine Iy (ai hg61<|ai hg62<|ai hg63<|ai hg64<|ai hg65<|ai hg67<|hg69) (H.p85 ((x0.from_.getD v50.toNat aO.z).on) 1 _ hy66) (Dg ((x0.from_.getD v50.toNat aO.z).az) _ hy68) (H.p127 (x0.from_.getD v50.toNat aO.z)) h fun y70 _ h=>?_;exact⟨(!y70),h,bB (ai hg61<|ai hg62<|ai hg63<|ai hg64<|ai hg65<|ai hg67<|hg69)⟩
         ·obtain⟨y71,hy71,h⟩:=cC h;refine wy h (fun hg72 h=>?_) fun hg72 h=>?_
          ·refine kO (ai hg61<|ai hg62<|ai hg63<|hg72) (H.p85 ((x0.from_.getD v50.toNat aO.z).on) 1 _ hy71) ?_;exact⟨true,h,bB (ai hg61<|ai hg62<|ai hg63<|hg72)⟩
          ·obtain⟨y73,hy73,h⟩:=cC h;refine wy h (fun hg74 h=>?_) fun hg74 h=>?_
           ·refine Fc (ai hg61<|ai hg62<|ai hg63<|ai hg72<|hg74) (H.p85 ((x0.from_.getD v50.toNat aO.z).on) 1 _ hy71) (Dg ((x0.from_.getD v50.toNat aO.z).az) _ hy73) ?_;exact⟨true,h,bB (ai hg61<|ai hg62<|ai hg63<|ai hg72<|hg74)⟩
           ·refine Iy (ai hg61<|ai hg62<|ai hg63<|ai hg72<|hg74) (H.p85 ((x0.from_.getD v50.toNat aO.z).on) 1 _ hy71) (Dg ((x0.from_.getD v50.toNat aO.z).az) _ hy73) (H.p127 (x0.from_.getD v50.toNat aO.z)) h fun y75 _ h=>?_;exact⟨(!y75),h,bB (ai hg61<|ai hg62<|ai hg63<|ai hg72<|hg74)⟩
      ·rintro v58 h;refine wz h (fun h=>?_) fun h=>?_
       ·refine rg ?_;cases h;exact aB.ret (bM [.tmp 2])
       ·apply sK;refine r1 ?_;exact⟨(i64.wrap (v50+1)),h,bX⟩
     ·apply aB.exit;simp only[dR,seval];refine jn h (fun q78=>bN [(2,aY q78)] [] s 196) (fun u79 h=>?_) ?_
      ·refine wy h (fun hg80 h=>?_) fun hg80 h=>?_
       ·obtain⟨y81,hy81,h⟩:=cC h;refine wy h (fun hg82 h=>?_) fun hg82 h=>?_
        ·obtain⟨y83,hy83,h⟩:=cC h;refine wy h (fun hg84 h=>?_) fun hg84 h=>?_
         ·refine Iy (ai hg80<|ai hg82<|hg84) (H.p85 x0.where_ 1 _ hy81) (H.p85 x0.group (x0.group.length:Int) _ hy83) (H.p85 x0.having (dW (x0.group.length:Int) 1)) h fun y85 _ h=>?_;exact⟨y85,h,bB (ai hg80<|ai hg82<|hg84)⟩
         ·refine Fc (ai hg80<|ai hg82<|hg84) (H.p85 x0.where_ 1 _ hy81) (H.p85 x0.group (x0.group.length:Int) _ hy83) ?_;exact⟨false,h,bB (ai hg80<|ai hg82<|hg84)⟩
        ·refine kO (ai hg80<|hg82) (H.p85 x0.where_ 1 _ hy81) ?_;exact⟨false,h,bB (ai hg80<|hg82)⟩
       ·refine bU hg80 ?_;exact⟨false,h,bB hg80⟩
      ·rintro v77 h;cases h;exact aB.ret (bM [.tmp 2])
def Li (F:cP) (x0:(List aA)) (x1:Int):Option (Bool):=(join (fun u3=>(aE (decide ((x0.length:Int)<=x1)) (call (F.p62_1 x0) fun y5=>(u3 (!y5))) (u3 false))) (fun(q2:Bool)=>(some q2)))
def d85 (F:cP) (H:F.Ok):JI (Li F):=fun x0 x1 r h=>by
 intro s;unfold Li at h;refine ac func85 ntmps85 ?_;refine rg ?_;refine jn h (fun q2=>bN [(4,aY q2)] [] s 14) (fun u3 h=>?_) ?_
 ·refine wy h (fun hg4 h=>?_) fun hg4 h=>?_
  ·refine iA hg4 (H.p62_1 x0) h fun y5 _ h=>?_;exact⟨(!y5),h,bB hg4⟩
  ·refine bU hg4 ?_;exact⟨false,h,bB hg4⟩
 ·rintro v1 h;cases h;exact aB.ret (bM [.tmp 4])
def cP.fix:Nat->cP
 |0=>⟨fun _=>none,fun _=>none,fun _=>none,fun _=>none,fun _=>none,fun _=>none,fun _=>none,fun _=>none,fun _=>none,fun _=>none,fun _=>none,fun _=>none,fun _=>none,fun _=>none,fun _ _=>none⟩
 |n+1=>⟨Ub (cP.fix n),Ua (cP.fix n),Tz (cP.fix n),Kw (cP.fix n),Kv (cP.fix n),Gn (cP.fix n),Lr (cP.fix n),Jw (cP.fix n),Jv (cP.fix n),Lm (cP.fix n),Ju (cP.fix n),Ll (cP.fix n),Lk (cP.fix n),Lj (cP.fix n),Li (cP.fix n)⟩
def cP.ok:∀n,cP.Ok (cP.fix n)
 |0=>by constructor<;>(repeat intro _)<;>contradiction
 |n+1=>⟨aB1 _ (cP.ok n),aB0 _ (cP.ok n),aBz _ (cP.ok n),aGx _ (cP.ok n),aGw _ (cP.ok n),d31 _ (cP.ok n),d44 _ (cP.ok n),aEm _ (cP.ok n),aEl _ (cP.ok n),d63 _ (cP.ok n),aEk _ (cP.ok n),d65 _ (cP.ok n),d83 _ (cP.ok n),d84 _ (cP.ok n),d85 _ (cP.ok n)⟩
def IW:=(cP.fix bQ).p31
def c31:=(cP.ok bQ).p31
def Py (x0:aA):Option (Int):=(call (Px x0) fun y2=>(aE (decide (y2>12)) (some 261) (call (IW x0) fun y4=>(aE (!y4) (some 262) (some 0)))))
def c12 (x0:aA) (r:Int) (h:Py x0=some r):cG prog 12 [.agg x0.v] (aI r):=by
 intro s;unfold Py at h;refine ac func12 ntmps12 ?_;refine rg ?_;apply aB.seq;apply aB.block;refine dH (JE x0) h fun y2 _ h=>?_;refine wz h (fun h=>?_) fun h=>?_
 ·refine rg ?_;cases h;exact aB.ret (bM [.tmp 2])
 ·refine dH (c31 x0) h fun y4 _ h=>?_;refine wz h (fun h=>?_) fun h=>?_
  ·refine rg ?_;cases h;exact aB.ret (bM [.tmp 2])
  ·apply sK;refine rg ?_;cases h;exact aB.ret (bM [.tmp 2])
def Cz (x0:ByteArray):Option (ByteArray):=(aE (x0.data.toList==(bm #[]).data.toList) (some (bm #[])) (aR ((bm #[32,65,83,32]).size+x0.size<=maxLen) (some ((bm #[32,65,83,32])++x0))))
def Wi (x0:ByteArray) (r:ByteArray) (h:Cz x0=some r):cG prog 130 [aM x0] (aM r):=by
 intro s;unfold Cz at h;refine ac func130 ntmps130 ?_;refine rg ?_;apply aB.seq;refine rg ?_;refine wz h (fun h=>?_) fun h=>?_
 ·refine rg ?_;cases h;exact aB.ret (bM [.tmp 2])
 ·apply sK;obtain⟨hn3,h⟩:=aV h;refine bG (aJ hn3) ?_;cases h;exact aB.ret (bM [.tmp 2])
def La (x0:aA):Option (Bool):=(join (fun u4=>(aE (x0.op==1) (u4 (x0.op==1)) (aE (x0.op==2) (u4 (x0.op==2)) (aE (x0.op==3) (u4 (x0.op==3)) (aE (x0.op==28) (u4 (x0.op==28)) (aE (x0.op==29) (u4 (x0.op==29)) (aE (x0.op==30) (u4 (x0.op==30)) (u4 (x0.op==32))))))))) (fun(q3:Bool)=>(aE q3 (some true) (aE (x0.op==27) (some (!x0.not)) (some false)))))
def c72 (x0:aA) (r:Bool) (h:La x0=some r):cG prog 72 [.agg x0.v] (aY r):=by
 intro s;unfold La at h;refine ac func72 ntmps72 ?_;refine rg ?_;apply aB.seq;refine rg ?_;apply aB.block;refine jn h (fun q3=>bN [(1,.loc 1 0),(4,aI x0.op),(5,aY q3)] [(1,(x0.v,29))] s 18) (fun u4 h=>?_) ?_
 ·refine rg ?_;refine wz h (fun h=>?_) fun h=>?_
  ·apply sK;exact⟨(x0.op==1),h,bX⟩
  ·refine rg ?_;refine wz h (fun h=>?_) fun h=>?_
   ·apply sK;exact⟨(x0.op==2),h,bX⟩
   ·refine rg ?_;refine wz h (fun h=>?_) fun h=>?_
    ·apply sK;exact⟨(x0.op==3),h,bX⟩
    ·refine rg ?_;refine wz h (fun h=>?_) fun h=>?_
     ·apply sK;exact⟨(x0.op==28),h,bX⟩
     ·refine rg ?_;refine wz h (fun h=>?_) fun h=>?_
      ·apply sK;exact⟨(x0.op==29),h,bX⟩
      ·refine rg ?_;refine wz h (fun h=>?_) fun h=>?_
       ·apply sK;exact⟨(x0.op==30),h,bX⟩
       ·refine r1 ?_;exact⟨(x0.op==32),h,bX⟩
 ·rintro v2 h;refine wz h (fun h=>?_) fun h=>?_
  ·refine rg ?_;cases h;exact aB.ret (bM [.tmp 2])
  ·refine rg ?_;refine wz h (fun h=>?_) fun h=>?_
   ·refine rg ?_;cases h;exact aB.ret (bM [.tmp 2])
   ·apply sK;refine rg ?_;cases h;exact aB.ret (bM [.tmp 2])
def Dl (x0:Bool):Option (ByteArray):=(aE x0 (some (bm #[78,79,84,32])) (some (bm #[])))
def Qd (x0:Bool) (r:ByteArray) (h:Dl x0=some r):cG prog 35 [aY x0] (aM r):=by
 intro s;unfold Dl at h;refine ac func35 ntmps35 ?_;refine rg ?_;apply aB.seq;refine rg ?_;refine wz h (fun h=>?_) fun h=>?_
 ·refine rg ?_;cases h;exact aB.ret (bM [.tmp 2])
 ·apply sK;refine rg ?_;cases h;exact aB.ret (bM [.tmp 2])
def Gl (x0:Int):Option (ByteArray):=(call (Wp (bm #[43,32,45,32,42,32,47,32,37,32,124,124,32,61,32,60,62,32,60,32,60,61,32,62,32,62,61,32,73,83,32,73,83,95,78,79,84,32,65,78,68,32,79,82,32,76,73,75,69,32,71,76,79,66]) (bm #[32])) fun y1=>(aR (0<=(i64.wrap (x0-7))∧(i64.wrap (x0-7))<(y1.length:Int)) (some (y1.getD (i64.wrap (x0-7)).toNat bO))))
def JC (x0:Int) (r:ByteArray) (h:Gl x0=some r):cG prog 38 [aI x0] (aM r):=by
 intro s;unfold Gl at h;refine ac func38 ntmps38 ?_;refine rg ?_;obtain⟨y1,hy1,h⟩:=cC h;obtain⟨hn3,h⟩:=aV h;refine tG (ai (aJ hn3.1)<|ai (aJ hn3.2)<|(bW (fun x=>[aM x]) bO hn3)) (N73 (bm #[43,32,45,32,42,32,47,32,37,32,124,124,32,61,32,60,62,32,60,32,60,61,32,62,32,62,61,32,73,83,32,73,83,95,78,79,84,32,65,78,68,32,79,82,32,76,73,75,69,32,71,76,79,66]) (bm #[32]) _ hy1) ?_;cases h;exact aB.ret (bM [.tmp 2])
structure cO where
 p13:aA->Option (ByteArray)
 p20:aF->Option (ByteArray)
 p34:aA->Option (ByteArray)
 p36_1:(List aA)->ByteArray->Option (ByteArray)
 p37:aA->Option (ByteArray)
 p46:aK->Option (ByteArray)
 p47:ByteArray->(List aA)->Option (ByteArray)
 p87:bA->Option (ByteArray)
 p88:aO->Option (ByteArray)
abbrev KC (f:aA->Option (ByteArray)):Prop:=∀(x0:aA) (r:ByteArray),f x0=some r->cG prog 13 [.agg x0.v] (aM r)
abbrev KA (f:aF->Option (ByteArray)):Prop:=∀(x0:aF) (r:ByteArray),f x0=some r->cG prog 20 [.agg x0.v] (aM r)
abbrev JU (f:aA->Option (ByteArray)):Prop:=∀(x0:aA) (r:ByteArray),f x0=some r->cG prog 34 [.agg x0.v] (aM r)
abbrev HJ (f:(List aA)->ByteArray->Option (ByteArray)):Prop:=∀(x0:(List aA)) (x2:ByteArray) (r:ByteArray),f x0 x2=some r->cG prog 36 [.slice 10 (x0.map aA.v),.func 13 [] [],aM x2] (aM r)
abbrev JT (f:aA->Option (ByteArray)):Prop:=∀(x0:aA) (r:ByteArray),f x0=some r->cG prog 37 [.agg x0.v] (aM r)
abbrev JR (f:aK->Option (ByteArray)):Prop:=∀(x0:aK) (r:ByteArray),f x0=some r->cG prog 46 [.agg x0.v] (aM r)
abbrev JQ (f:ByteArray->(List aA)->Option (ByteArray)):Prop:=∀(x0:ByteArray) (x1:(List aA)) (r:ByteArray),f x0 x1=some r->cG prog 47 [aM x0,.slice 10 (x1.map aA.v)] (aM r)
abbrev JH (f:bA->Option (ByteArray)):Prop:=∀(x0:bA) (r:ByteArray),f x0=some r->cG prog 87 [.agg x0.v] (aM r)
abbrev JG (f:aO->Option (ByteArray)):Prop:=∀(x0:aO) (r:ByteArray),f x0=some r->cG prog 88 [.agg x0.v] (aM r)
structure cO.Ok (F:cO):Prop where
 p13:KC F.p13
 p20:KA F.p20
 p34:JU F.p34
 p36_1:HJ F.p36_1
 p37:JT F.p37
 p46:JR F.p46
 p47:JQ F.p47
 p87:JH F.p87
 p88:JG F.p88
end Go.Proofs.YtlfbdcfnimnhiaaGreatDoor.Ex
namespace Go.Proofs.YtlfbdcfnimnhiaaGreatDoor.Ex
open Go.Am Go.Ex Go.RowKit
def Uh (B b:Nat) (bs:List Value) (c:Int) (w:World) (h:Lib.IsBuilder 134 5 B b bs w) (hlen:bs.length+1<=140737488355328) (hB:B<=w.heap.size):
 Calls prog 69 #[.pointer (some ⟨b,0,none⟩),.int .u8 c] w fun e w'=>e= .returned .nilIface∧(Lib.BuilderAt 134 5 B b (.pointer (some ⟨b,0,none⟩)) (bs++[.int .u8 c]) w'∧Below B w w'):=
 Any.Builder_WriteByte (ρ:=lays158_ren) { lays158 with } Builder_Extra_158 B b bs c w h hlen hB
def aCh (B b:Nat) (bs:List Value) (s:ByteArray) (w:World) (h:Lib.IsBuilder 134 5 B b bs w) (hlen:bs.length+s.size<=140737488355328) (hB:B<=w.heap.size):
 Calls prog 68 #[.pointer (some ⟨b,0,none⟩),.string s] w fun e w'=>e= .returned (.tuple #[.int .i64 s.size,.nilIface])∧(Lib.BuilderAt 134 5 B b (.pointer (some ⟨b,0,none⟩)) (bs++Lib.strCells s) w'∧Below B w w'):=
 Any.Builder_WriteString (ρ:=lays158_ren) { lays158 with } Builder_Extra_158 B b bs s w h hlen hB
def aCi (B b:Nat) (l:List UInt8) (w:World) (h:Lib.IsBuilder 134 5 B b (Lib.byteCells l) w) (hB:B<=w.heap.size):
 Calls prog 70 #[.pointer (some ⟨b,0,none⟩)] w fun e w'=>e= .returned (.string ⟨l.toArray⟩)∧Below B w w':=
 Any.Builder_String_any (ρ:=lays158_ren) { lays158 with } Builder_Extra_158 B b l w h hB
def wF (k:Nat):UInt8:=if k<10 then UInt8.ofNat (48+k) else UInt8.ofNat (87+k)
def iW:List UInt8->List UInt8
 |[]=>[]
 |c::s=>wF (c.toNat/16)::wF (c.toNat%16)::iW s
def Sd:∀l:List UInt8,(iW l).length=2*l.length
 |[]=>rfl
 |c::l=>by have:=Sd l;unfold iW;simp only[bF];omega
def BQ:∀(l m:List UInt8),iW (l++m)=iW l++iW m
 |[],m=>rfl
 |c::l,m=>by rw[jP,iW,iW,BQ l m];rfl
def HY:∀(j:Nat) (h:j<16),(⟨#[48,49,50,51,52,53,54,55,56,57,97,98,99,100,101,102]⟩:ByteArray)[j]'h=wF j:=by
 intro j h;have:∀k:Fin 16,(⟨#[48,49,50,51,52,53,54,55,56,57,97,98,99,100,101,102]⟩:ByteArray)[k.val]'k.isLt=wF k.val:=by decide
 exact this ⟨j,h⟩
def VU {α β:Type} {y:α} {f:α->Option β}:call (some y) f=f y:=rfl
def PG (k z:Int) (s:ByteArray) (w:World) (R:World->Prop) (hs:s.size<=1000000000) (h0:k≠0) (h1:k≠1) (h2:k≠2)
 (hmay:Calls prog 66 #[.agg #[.int .i64 k,.int .i64 z,.string s]] (w.alloc (.cells #[.int .i64 k,.int .i64 z,.string s] 25)) fun e w1=>e= .returned (.bool true)∧R w1∧w1.heap[w.heap.size]? =some (.cells #[.int .i64 k,.int .i64 z,.string s] 25 (0,0))∧w.heap.size<w1.heap.size):
 Calls prog 32 #[.agg #[.int .i64 k,.int .i64 z,.string s]] w fun e w'=>e= .returned (.tuple #[.string ⟨(120::39::(iW s.data.toList++[39])).toArray⟩,.int .i64 0])∧∃w1,R w1∧Below w1.heap.size w1 w':=by
 go_enter func32,ntmps32
 go_wp2_with (go_at_call 66;refine hmay.mono ?_)
 rintro e w1 ⟨rfl,hR,hbx,hlt⟩;have c0:w1.cell? ⟨w.heap.size,0,none⟩=some (.int .i64 k):=by rw[Lib.cell_of_heap hbx];rfl
 have c2:w1.cell? ⟨w.heap.size,2,none⟩=some (.string s):=by rw[Lib.cell_of_heap hbx];rfl
 go_wp2_with (go_at_call 68;refine(aCh w1.heap.size w1.heap.size [] ⟨#[120,39]⟩ _ (Lib.fresh_isBuilder 134 5 w1) (by decide) (by simp)).mono ?_)
 rintro e w2 ⟨rfl,hB2,hb2⟩;have hb12:Below w1.heap.size w1 w2:=((Below.refl _ w1).alloc (dS _) _).trans hb2;have c22:w2.cell? ⟨w.heap.size,2,none⟩=some (.string s):=(hb12.cell hlt).trans c2
 go_wp2
 go_loopw [29] (fun i wr=>∃n:Nat,n<=s.size∧i= .int .i64 n∧Lib.IsBuilder 134 5 w1.heap.size w1.heap.size (Lib.byteCells (120::39::iW (s.data.toList.take n))) wr∧Below w1.heap.size w1 wr) (fun i _=>s.size-(intOf i).toNat)
 case atStart=>exact⟨0,kK _,rfl,Or.inr hB2,hb12⟩
 case round=>
  obtain⟨n,hn,rfl,hI,hbw⟩:=hrel;have c2r:wr.cell? ⟨w.heap.size,2,none⟩=some (.string s):=(hbw.cell hlt).trans c2;by_cases hp:n<s.size
  ·have hbyte:s[n].toNat<256:=s[n].toNat_lt;have hlen:(Lib.byteCells (120::39::iW (s.data.toList.take n))).length+2<=140737488355328:=by
    rw[Lib.byteCells_length,bF,bF,Sd,tX];omega
   have hsz:w1.heap.size<=wr.heap.size:=hbw.size
   go_wp2_with (go_at_call 69;refine(Uh w1.heap.size w1.heap.size _ _ _ hI (by omega) hsz).mono ?_)
   rintro e w3 ⟨rfl,hB3,hb3⟩;have hb13:Below w1.heap.size w1 w3:=hbw.trans hb3;have c23:w3.cell? ⟨w.heap.size,2,none⟩=some (.string s):=(hb13.cell hlt).trans c2;have hsz3:w1.heap.size<=w3.heap.size:=hb13.size
   go_wp2_with (go_at_call 69;refine(Uh w1.heap.size w1.heap.size _ _ _ (Or.inr hB3) (by rw[bH,List.length_singleton];omega) hsz3).mono ?_)
   rintro e w4 ⟨rfl,hB4,hb4⟩
   go_wp2
   go_roundw
   case rel=>
    refine⟨n+1,hp,by go_num,?_,hb13.trans hb4⟩;have e:Lib.byteCells (120::39::iW (s.data.toList.take (n+1)))=Lib.byteCells (120::39::iW (s.data.toList.take n))++[Value.int .u8 (wF (s[n].toNat/16)).toNat]++[Value.int .u8 (wF (s[n].toNat%16)).toNat]:=by
     have ht:s.data.toList.take (n+1)=s.data.toList.take n++[s[n]]:=by
      rw[List.take_succ];congr 1;show(s.data.toList[n]?).toList=[s.data[n]];rw[Array.getElem?_toList,oQ (by exact hp)];rfl
     rw[ht,BQ,<-jP,<-jP,Lib.byteCells_append,fS];rfl
    rw[e];have q1:=HY (s[n].toNat/16) (by omega);have q2:=HY (s[n].toNat%16) (by omega);rw[<-q1,<-q2];exact Or.inr hB4
   case measure=>simp[intOf];omega
  ·obtain rfl:n=s.size:=by omega
   have hlen:(Lib.byteCells (120::39::iW (s.data.toList.take s.size))).length+2<=140737488355328:=by
    rw[Lib.byteCells_length,bF,bF,Sd,tX];omega
   have hsz:w1.heap.size<=wr.heap.size:=hbw.size
   go_wp2_with (go_at_call 69;refine(Uh w1.heap.size w1.heap.size _ _ _ hI (by omega) hsz).mono ?_)
   rintro e w3 ⟨rfl,hB3,hb3⟩;have hb13:Below w1.heap.size w1 w3:=hbw.trans hb3;have hsz3:w1.heap.size<=w3.heap.size:=hb13.size;have e1:s.data.toList.take s.size=s.data.toList:=by
    rw[nG];show s.data.toList.length<=s.data.size;simp
   have hB3:Lib.IsBuilder 134 5 w1.heap.size w1.heap.size (Lib.byteCells (120::39::(iW s.data.toList++[39]))) w3:=by
    refine Or.inr ?_;rw[e1] at hB3;rw[<-jP,<-jP,Lib.byteCells_append];exact hB3
   go_wp2_with (go_at_call 70;refine(aCi w1.heap.size w1.heap.size _ _ hB3 hsz3).mono ?_)
   rintro e w4 ⟨rfl,hb4⟩
   go_wp2
   go_ret2
   exact⟨rfl,w1,hR,hb13.trans hb4⟩
def Ld (x0:aH):Option (ByteArray×Int):=(call (pH x0) fun y2=>(aE (!y2) (some ((bm #[]),2)) (aE (x0.kind==0) (some ((bm #[78,85,76,76]),0)) (aE (x0.kind==1) (call (Lf x0.int 10) fun y7=>(some (y7,0))) (aE (x0.kind==2) (call (Dn x0.text (bm #[39]) (bm #[39,39])) fun y9=>(aR ((bm #[39]).size+y9.size<=maxLen) (aR (((bm #[39])++y9).size+(bm #[39]).size<=maxLen) (some ((((bm #[39])++y9)++(bm #[39])),0))))) (aR (x0.text.size<=1000000000) (some ((ByteArray.mk (120::39::(iW x0.text.data.toList++[39])).toArray),0))))))))
def c32 (x0:aH) (r:ByteArray×Int) (h:Ld x0=some r):cG prog 32 [.agg x0.v] (.tuple [aM r.1,aI r.2]):=by
 have key:Pk x0=some r∨(pH x0=some true∧x0.kind≠0∧x0.kind≠1∧x0.kind≠2∧x0.text.size<=1000000000∧r=(⟨(120::39::(iW x0.text.data.toList++[39])).toArray⟩,0)):=by
  unfold Ld at h;obtain⟨y,hy,h⟩:=cC h;unfold Pk;rw[hy];cases y with
  |false=>exact .inl h
  |true=>
   by_cases hb:(x0.kind==0)=false∧(x0.kind==1)=false∧(x0.kind==2)=false
   ·obtain⟨h0,h1,h2⟩:=hb;rw[h0,h1,h2] at h;obtain⟨hn,h⟩:=aV (show aR _ _=some r from h);exact .inr ⟨rfl,by simpa using h0,by simpa using h1,by simpa using h2,hn,(eS h).symm⟩
   ·left
    revert h hb
    show(aE _ _ _=_)->_->call (some true) _=_;rw[VU];cases (x0.kind==0)<;>cases (x0.kind==1)<;>cases (x0.kind==2)<;>first|exact fun h _=>h|exact fun _ h=>absurd ⟨rfl,rfl,rfl⟩ h
 rcases key with k|⟨hm,h0,h1,h2,hs,rfl⟩
 ·exact aGy x0 r k
 intro s;refine⟨⟨_,func32,rfl,by decide⟩,fun G w cargs hh hargs=>?_⟩;obtain⟨v,l1,e1,hv,hl1⟩:=hargs.sJ;obtain rfl:=hl1.Bd;obtain rfl:v= .agg #[.int .i64 x0.kind,.int .i64 x0.int,.string x0.text]:=by
  rw[aH.aC] at hv;cases hv with
  |agg _ ccs q1 q2=>
   obtain⟨c0,k0⟩:∃c,ccs[0]? =some c:=⟨_,oQ (by rw[<-q1];simp)⟩;obtain⟨c1,k1⟩:∃c,ccs[1]? =some c:=⟨_,oQ (by rw[<-q1];simp)⟩;obtain⟨c2,k2⟩:∃c,ccs[2]? =some c:=⟨_,oQ (by rw[<-q1];simp)⟩;have r0:=q2 0 _ c0 rfl k0;have r1:=q2 1 _ c1 rfl k1;have r2:=q2 2 _ c2 rfl k2;cases r0;cases r1;cases r2
   congr 1;refine Array.ext (by rw[<-q1];rfl) fun i hi hj=>?_
   match i,hj with
   |0,_=>rw[oQ hi] at k0;exact eS k0
   |1,_=>rw[oQ hi] at k1;exact eS k1
   |2,_=>rw[oQ hi] at k2;exact eS k2
 obtain rfl:cargs= #[.agg #[.int .i64 x0.kind,.int .i64 x0.int,.string x0.text]]:=by rw[<-xV,e1]
 generalize hw1:w.alloc (.cells #[.int .i64 x0.kind,.int .i64 x0.int,.string x0.text] 25)=w1;have hm1:dP w w1:=hw1 ▸ dP.alloc w _;have hc:=(Qb x0 true hm s).2 G w1 _ (hh.more hm1) (bZ.cons hv (bZ.nil _));have hsz:w1.heap.size=w.heap.size+1:=by rw[<-hw1];simp
 have hbx:w1.heap[w.heap.size]? =some (.cells #[.int .i64 x0.kind,.int .i64 x0.int,.string x0.text] 25 (0,0)):=by rw[<-hw1];exact heap_alloc_new w _
 refine(PG x0.kind x0.int x0.text w (fun w2=>∃G',dD G s w G' s w2∧cS G' s w2) hs h0 h1 h2 (hw1 ▸ hc.mono ?_)).mono ?_
 ·rintro e w2 ⟨G',s',v,cv,rfl,hr,hx,hh',rfl,rfl⟩;cases hr
  refine⟨rfl,⟨G',(dD.more hm1).trans hx,hh'⟩,?_,by have:=hx.size;omega⟩;rw[hx.keep _ (by omega) (fun hf=>by have:=hh.zM hf;omega)];exact hbx
 ·rintro e w2 ⟨rfl,w3,⟨G',hx,hh'⟩,hb⟩;have hm2:dP w3 w2:=dP.below hb;exact⟨G',s,_,_,rfl,bJ.tuple _ _ rfl (fun i c v k1 k2=>by
   match i with
   |0=>cases k1;cases k2;exact .base _
   |1=>cases k1;cases k2;exact .base _
   |n+2=>cases k1),hx.trans (dD.more hm2),hh'.more hm2,rfl,rfl⟩
end Go.Proofs.YtlfbdcfnimnhiaaGreatDoor.Ex
namespace Go.Proofs.YtlfbdcfnimnhiaaGreatDoor.Ex
open Go.Am Go.Ex
def lC (F:cO) (x0:aA):Option (ByteArray):=(aE (x0.op==1) (call (Ld x0.v_) fun y3=>(some y3.1)) (aE (x0.op==2) (aE (!(x0.table.data.toList==(bm #[]).data.toList)) (aR (x0.table.size+(bm #[46]).size<=maxLen) (aR ((x0.table++(bm #[46])).size+x0.name.size<=maxLen) (some ((x0.table++(bm #[46]))++x0.name)))) (some x0.name)) (aE (x0.op==3) (call (Pz x0.n) fun y10=>(aR ((bm #[63]).size+y10.size<=maxLen) (some ((bm #[63])++y10)))) (aE (x0.op==4) (aR (0<=(0:Int)∧(0:Int)<(x0.args.length:Int)) (call (F.p34 (x0.args.getD 0 aA.z)) fun y16=>(aR ((bm #[45]).size+y16.size<=maxLen) (some ((bm #[45])++y16))))) (aE (x0.op==5) (aR (0<=(0:Int)∧(0:Int)<(x0.args.length:Int)) (call (F.p34 (x0.args.getD 0 aA.z)) fun y22=>(aR ((bm #[43]).size+y22.size<=maxLen) (some ((bm #[43])++y22))))) (aE (x0.op==6) (aR (0<=(0:Int)∧(0:Int)<(x0.args.length:Int)) (aE (((x0.args.getD 0 aA.z).op)==27) (aR (0<=(0:Int)∧(0:Int)<(x0.args.length:Int)) (call (F.p13 (x0.args.getD 0 aA.z)) fun y33=>(aR ((bm #[78,79,84,32,40]).size+y33.size<=maxLen) (aR (((bm #[78,79,84,32,40])++y33).size+(bm #[41]).size<=maxLen) (some (((bm #[78,79,84,32,40])++y33)++(bm #[41]))))))) (aR (0<=(0:Int)∧(0:Int)<(x0.args.length:Int)) (call (F.p34 (x0.args.getD 0 aA.z)) fun y39=>(aR ((bm #[78,79,84,32]).size+y39.size<=maxLen) (some ((bm #[78,79,84,32])++y39))))))) (aE (x0.op==25) (aR (0<=(0:Int)∧(0:Int)<(x0.args.length:Int)) (aR (0<=(1:Int)∧(1:Int)<(x0.args.length:Int)) (aR (0<=(2:Int)∧(2:Int)<(x0.args.length:Int)) (call (F.p34 (x0.args.getD 0 aA.z)) fun y52=>(aR (y52.size+(bm #[32]).size<=maxLen) (call (Dl x0.not) fun y54=>(aR ((y52++(bm #[32])).size+y54.size<=maxLen) (aR (((y52++(bm #[32]))++y54).size+(bm #[66,69,84,87,69,69,78,32]).size<=maxLen) (call (F.p34 (x0.args.getD 1 aA.z)) fun y57=>(aR ((((y52++(bm #[32]))++y54)++(bm #[66,69,84,87,69,69,78,32])).size+y57.size<=maxLen) (aR (((((y52++(bm #[32]))++y54)++(bm #[66,69,84,87,69,69,78,32]))++y57).size+(bm #[32,65,78,68,32]).size<=maxLen) (call (F.p34 (x0.args.getD 2 aA.z)) fun y60=>(aR ((((((y52++(bm #[32]))++y54)++(bm #[66,69,84,87,69,69,78,32]))++y57)++(bm #[32,65,78,68,32])).size+y60.size<=maxLen) (some ((((((y52++(bm #[32]))++y54)++(bm #[66,69,84,87,69,69,78,32]))++y57)++(bm #[32,65,78,68,32]))++y60))))))))))))))) (aE (x0.op==26) (aR (0<=(1:Int)∧(1:Int)<=(x0.args.length:Int)∧(x0.args.length:Int)<=(x0.args.length:Int)) (call (F.p36_1 (List.take ((x0.args.length:Int).toNat-1) (List.drop 1 x0.args)) (bm #[44,32])) fun y64=>(join (fun u67=>(aE (decide ((x0.sub.length:Int)>0)) (aR (0<=(0:Int)∧(0:Int)<(x0.sub.length:Int)) (call (F.p20 (x0.sub.getD 0 aF.z)) fun y72=>(u67 y72))) (u67 y64))) (fun(q66:ByteArray)=>(aR (0<=(0:Int)∧(0:Int)<(x0.args.length:Int)) (call (F.p34 (x0.args.getD 0 aA.z)) fun y76=>(aR (y76.size+(bm #[32]).size<=maxLen) (call (Dl x0.not) fun y78=>(aR ((y76++(bm #[32])).size+y78.size<=maxLen) (aR (((y76++(bm #[32]))++y78).size+(bm #[73,78,32,40]).size<=maxLen) (aR ((((y76++(bm #[32]))++y78)++(bm #[73,78,32,40])).size+q66.size<=maxLen) (aR (((((y76++(bm #[32]))++y78)++(bm #[73,78,32,40]))++q66).size+(bm #[41]).size<=maxLen) (some (((((y76++(bm #[32]))++y78)++(bm #[73,78,32,40]))++q66)++(bm #[41]))))))))))))))) (aE (x0.op==27) (aR (0<=(0:Int)∧(0:Int)<(x0.sub.length:Int)) (call (Dl x0.not) fun y87=>(aR (y87.size+(bm #[69,88,73,83,84,83,32,40]).size<=maxLen) (call (F.p20 (x0.sub.getD 0 aF.z)) fun y89=>(aR ((y87++(bm #[69,88,73,83,84,83,32,40])).size+y89.size<=maxLen) (aR (((y87++(bm #[69,88,73,83,84,83,32,40]))++y89).size+(bm #[41]).size<=maxLen) (some (((y87++(bm #[69,88,73,83,84,83,32,40]))++y89)++(bm #[41]))))))))) (aE (x0.op==28) (aR (0<=(0:Int)∧(0:Int)<(x0.sub.length:Int)) (call (F.p20 (x0.sub.getD 0 aF.z)) fun y96=>(aR ((bm #[40]).size+y96.size<=maxLen) (aR (((bm #[40])++y96).size+(bm #[41]).size<=maxLen) (some (((bm #[40])++y96)++(bm #[41]))))))) (aE (x0.op==29) (call (F.p37 x0) fun y100=>(some y100)) (aE (x0.op==30) (aR (0<=(0:Int)∧(0:Int)<(x0.args.length:Int)) (call (F.p13 (x0.args.getD 0 aA.z)) fun y105=>(aR ((bm #[67,65,83,84,40]).size+y105.size<=maxLen) (aR (((bm #[67,65,83,84,40])++y105).size+(bm #[32,65,83,32]).size<=maxLen) (aR ((((bm #[67,65,83,84,40])++y105)++(bm #[32,65,83,32])).size+x0.name.size<=maxLen) (aR (((((bm #[67,65,83,84,40])++y105)++(bm #[32,65,83,32]))++x0.name).size+(bm #[41]).size<=maxLen) (some (((((bm #[67,65,83,84,40])++y105)++(bm #[32,65,83,32]))++x0.name)++(bm #[41]))))))))) (aE (x0.op==31) (aR (0<=(0:Int)∧(0:Int)<(x0.args.length:Int)) (call (F.p34 (x0.args.getD 0 aA.z)) fun y114=>(aR (y114.size+(bm #[32,67,79,76,76,65,84,69,32]).size<=maxLen) (aR ((y114++(bm #[32,67,79,76,76,65,84,69,32])).size+x0.name.size<=maxLen) (some ((y114++(bm #[32,67,79,76,76,65,84,69,32]))++x0.name)))))) (aE (x0.op==32) (aR (x0.name.size+(bm #[40]).size<=maxLen) (aR (0<=x0.n∧x0.n<((([(bm #[]),(bm #[68,73,83,84,73,78,67,84,32]),(bm #[42])]).length:Nat):Int)) (aR ((x0.name++(bm #[40])).size+(([(bm #[]),(bm #[68,73,83,84,73,78,67,84,32]),(bm #[42])]).getD x0.n.toNat bO).size<=maxLen) (call (F.p36_1 x0.args (bm #[44,32])) fun y124=>(aR (((x0.name++(bm #[40]))++(([(bm #[]),(bm #[68,73,83,84,73,78,67,84,32]),(bm #[42])]).getD x0.n.toNat bO)).size+y124.size<=maxLen) (aR ((((x0.name++(bm #[40]))++(([(bm #[]),(bm #[68,73,83,84,73,78,67,84,32]),(bm #[42])]).getD x0.n.toNat bO))++y124).size+(bm #[41]).size<=maxLen) (some ((((x0.name++(bm #[40]))++(([(bm #[]),(bm #[68,73,83,84,73,78,67,84,32]),(bm #[42])]).getD x0.n.toNat bO))++y124)++(bm #[41]))))))))) (join (fun u129=>(aE (x0.op==23) (u129 (x0.op==23)) (u129 (x0.op==24)))) (fun(q128:Bool)=>(aE q128 (aR (0<=(0:Int)∧(0:Int)<(x0.args.length:Int)) (aR (0<=(1:Int)∧(1:Int)<(x0.args.length:Int)) (call (F.p34 (x0.args.getD 0 aA.z)) fun y139=>(aR (y139.size+(bm #[32]).size<=maxLen) (call (Dl x0.not) fun y141=>(aR ((y139++(bm #[32])).size+y141.size<=maxLen) (call (Gl x0.op) fun y143=>(aR (((y139++(bm #[32]))++y141).size+y143.size<=maxLen) (aR ((((y139++(bm #[32]))++y141)++y143).size+(bm #[32]).size<=maxLen) (call (F.p34 (x0.args.getD 1 aA.z)) fun y146=>(aR (((((y139++(bm #[32]))++y141)++y143)++(bm #[32])).size+y146.size<=maxLen) (some (((((y139++(bm #[32]))++y141)++y143)++(bm #[32]))++y146))))))))))))) (aR (0<=(0:Int)∧(0:Int)<(x0.args.length:Int)) (aR (0<=(1:Int)∧(1:Int)<(x0.args.length:Int)) (call (F.p34 (x0.args.getD 0 aA.z)) fun y155=>(aR (y155.size+(bm #[32]).size<=maxLen) (call (Gl x0.op) fun y157=>(call (Dn y157 (bm #[95]) (bm #[32])) fun y158=>(aR ((y155++(bm #[32])).size+y158.size<=maxLen) (aR (((y155++(bm #[32]))++y158).size+(bm #[32]).size<=maxLen) (call (F.p34 (x0.args.getD 1 aA.z)) fun y161=>(aR ((((y155++(bm #[32]))++y158)++(bm #[32])).size+y161.size<=maxLen) (some ((((y155++(bm #[32]))++y158)++(bm #[32]))++y161)))))))))))))))))))))))))))))
def d13 (F:cO) (H:F.Ok):KC (lC F):=fun x0 r h=>by
 intro s;unfold lC at h;refine ac func13 ntmps13 ?_;refine rg ?_;apply aB.seq;refine rg ?_;apply aB.block;refine rg ?_;refine wz h (fun h=>?_) fun h=>?_
 ·refine dH (c32 x0.v_) h fun y3 _ h=>?_;refine rg ?_;cases h;exact aB.ret (bM [.tmp 2])
 ·refine rg ?_;refine wz h (fun h=>?_) fun h=>?_
  ·apply aB.seq;refine rg ?_;refine wz h (fun h=>?_) fun h=>?_
   ·obtain⟨hn7,h⟩:=aV h;obtain⟨hn8,h⟩:=aV h;refine bG (ai (aJ hn7)<|(aJ hn8)) ?_;cases h;exact aB.ret (bM [.tmp 2])
   ·apply sK;refine rg ?_;cases h;exact aB.ret (bM [.tmp 2])
  ·refine rg ?_;refine wz h (fun h=>?_) fun h=>?_
   ·obtain⟨y10,hy10,h⟩:=cC h;obtain⟨hn11,h⟩:=aV h;refine tG (aJ hn11) (N33 x0.n _ hy10) ?_;cases h;exact aB.ret (bM [.tmp 2])
   ·refine rg ?_;refine wz h (fun h=>?_) fun h=>?_
    ·obtain⟨hn14,h⟩:=aV h;have hg15:(x0.args.map aA.v).getD 0 []=aA.v (x0.args.getD 0 aA.z):=bW aA.v aA.z hn14;obtain⟨y16,hy16,h⟩:=cC h;obtain⟨hn17,h⟩:=aV h;refine tG (ai (aJ hn14.1)<|ai (aJ hn14.2)<|ai (bW aA.v aA.z hn14)<|ai hg15<|(aJ hn17)) (H.p34 (x0.args.getD 0 aA.z) _ hy16) ?_;cases h;exact aB.ret (bM [.tmp 2])
    ·refine rg ?_;refine wz h (fun h=>?_) fun h=>?_
     ·obtain⟨hn20,h⟩:=aV h;have hg21:(x0.args.map aA.v).getD 0 []=aA.v (x0.args.getD 0 aA.z):=bW aA.v aA.z hn20;obtain⟨y22,hy22,h⟩:=cC h;obtain⟨hn23,h⟩:=aV h;refine tG (ai (aJ hn20.1)<|ai (aJ hn20.2)<|ai (bW aA.v aA.z hn20)<|ai hg21<|(aJ hn23)) (H.p34 (x0.args.getD 0 aA.z) _ hy22) ?_;cases h;exact aB.ret (bM [.tmp 2])
     ·refine rg ?_;refine wz h (fun h=>?_) fun h=>?_
      ·apply aB.seq;obtain⟨hn27,h⟩:=aV h;have hg28:(x0.args.map aA.v).getD 0 []=aA.v (x0.args.getD 0 aA.z):=bW aA.v aA.z hn27;refine bG (ai (aJ hn27.1)<|ai (aJ hn27.2)<|ai (bW aA.v aA.z hn27)<|hg28) ?_;refine wz h (fun h=>?_) fun h=>?_
       ·obtain⟨hn31,h⟩:=aV h;have hg32:(x0.args.map aA.v).getD 0 []=aA.v (x0.args.getD 0 aA.z):=bW aA.v aA.z hn31;obtain⟨y33,hy33,h⟩:=cC h;obtain⟨hn34,h⟩:=aV h;obtain⟨hn35,h⟩:=aV h;refine tG (ai (aJ hn31.1)<|ai (aJ hn31.2)<|ai (bW aA.v aA.z hn31)<|ai hg32<|ai (aJ hn34)<|(aJ hn35)) (H.p13 (x0.args.getD 0 aA.z) _ hy33) ?_;cases h;exact aB.ret (bM [.tmp 2])
       ·apply sK;obtain⟨hn37,h⟩:=aV h;have hg38:(x0.args.map aA.v).getD 0 []=aA.v (x0.args.getD 0 aA.z):=bW aA.v aA.z hn37;obtain⟨y39,hy39,h⟩:=cC h;obtain⟨hn40,h⟩:=aV h;refine tG (ai (aJ hn37.1)<|ai (aJ hn37.2)<|ai (bW aA.v aA.z hn37)<|ai hg38<|(aJ hn40)) (H.p34 (x0.args.getD 0 aA.z) _ hy39) ?_;cases h;exact aB.ret (bM [.tmp 2])
      ·refine rg ?_;refine wz h (fun h=>?_) fun h=>?_
       ·refine lL [0,1,2,3,6,7,11,12,13,14,18,19,20,21,4,5,8,9,10,15,16,17,22,23,24] [100082,100087,100089,100094,100096] fun Z42 hZ42=>?_;obtain⟨hn44,h⟩:=aV h;have hg45:(x0.args.map aA.v).getD 0 []=aA.v (x0.args.getD 0 aA.z):=bW aA.v aA.z hn44;obtain⟨hn47,h⟩:=aV h;have hg48:(x0.args.map aA.v).getD 1 []=aA.v (x0.args.getD 1 aA.z):=bW aA.v aA.z hn47;obtain⟨hn50,h⟩:=aV h;have hg51:(x0.args.map aA.v).getD 2 []=aA.v (x0.args.getD 2 aA.z):=bW aA.v aA.z hn50;(try simp only[aJ hn44.1,aJ hn44.2,bW aA.v aA.z hn44,hg45,aJ hn47.1,aJ hn47.2,bW aA.v aA.z hn47,hg48,aJ hn50.1,aJ hn50.2,bW aA.v aA.z hn50,hg51,eY,Nat.reduceBEq,xm,Nat.reduceAdd,Nat.reduceLeDiff,seval,reduceCtorEq]);obtain⟨y52,hy52,h⟩:=cC h;refine dV (H.p34 (x0.args.getD 0 aA.z) _ hy52) ?_;obtain⟨hn53,h⟩:=aV h;(try simp only[aJ hn44.1,aJ hn44.2,bW aA.v aA.z hn44,hg45,aJ hn47.1,aJ hn47.2,bW aA.v aA.z hn47,hg48,aJ hn50.1,aJ hn50.2,bW aA.v aA.z hn50,hg51,aJ hn53,eY,Nat.reduceBEq,xm,Nat.reduceAdd,Nat.reduceLeDiff,seval,reduceCtorEq]);obtain⟨y54,hy54,h⟩:=cC h;refine dV (Qd x0.not _ hy54) ?_;obtain⟨hn55,h⟩:=aV h;obtain⟨hn56,h⟩:=aV h;(try simp only[aJ hn44.1,aJ hn44.2,bW aA.v aA.z hn44,hg45,aJ hn47.1,aJ hn47.2,bW aA.v aA.z hn47,hg48,aJ hn50.1,aJ hn50.2,bW aA.v aA.z hn50,hg51,aJ hn53,aJ hn55,aJ hn56,eY,Nat.reduceBEq,xm,Nat.reduceAdd,Nat.reduceLeDiff,seval,reduceCtorEq])
        obtain⟨y57,hy57,h⟩:=cC h;refine dV (H.p34 (x0.args.getD 1 aA.z) _ hy57) ?_;obtain⟨hn58,h⟩:=aV h;obtain⟨hn59,h⟩:=aV h;(try simp only[aJ hn44.1,aJ hn44.2,bW aA.v aA.z hn44,hg45,aJ hn47.1,aJ hn47.2,bW aA.v aA.z hn47,hg48,aJ hn50.1,aJ hn50.2,bW aA.v aA.z hn50,hg51,aJ hn53,aJ hn55,aJ hn56,aJ hn58,aJ hn59,eY,Nat.reduceBEq,xm,Nat.reduceAdd,Nat.reduceLeDiff,seval,reduceCtorEq]);obtain⟨y60,hy60,h⟩:=cC h;refine dV (H.p34 (x0.args.getD 2 aA.z) _ hy60) ?_;obtain⟨hn61,h⟩:=aV h;(try simp only[aJ hn44.1,aJ hn44.2,bW aA.v aA.z hn44,hg45,aJ hn47.1,aJ hn47.2,bW aA.v aA.z hn47,hg48,aJ hn50.1,aJ hn50.2,bW aA.v aA.z hn50,hg51,aJ hn53,aJ hn55,aJ hn56,aJ hn58,aJ hn59,aJ hn61,eY,Nat.reduceBEq,xm,Nat.reduceAdd,Nat.reduceLeDiff,seval,reduceCtorEq]);refine hZ42 _ ?_;clear hZ42 Z42;cases h;exact aB.ret (bM [.tmp 2])
       ·refine rg ?_;refine wz h (fun h=>?_) fun h=>?_
        ·obtain⟨hn63,h⟩:=aV h;refine dN (ai (aJ hn63.1)<|ai (aJ hn63.2.1)<|(aJ hn63.2.2)) (H.p36_1 (List.take ((x0.args.length:Int).toNat-1) (List.drop 1 x0.args)) (bm #[44,32])) h fun y64 _ h=>?_;refine jn h (fun q66=>bN [(1,.loc 1 0),(5,aM q66)] [(1,(x0.v,29))] s 236) (fun u67 h=>?_) ?_
         ·refine rg ?_;refine wz h (fun h=>?_) fun h=>?_
          ·obtain⟨hn70,h⟩:=aV h;have hg71:(x0.sub.map aF.v).getD 0 []=aF.v (x0.sub.getD 0 aF.z):=bW aF.v aF.z hn70;refine iA (ai (aJ hn70.1)<|ai (aJ hn70.2)<|ai (bW aF.v aF.z hn70)<|hg71) (H.p20 (x0.sub.getD 0 aF.z)) h fun y72 _ h=>?_;exact⟨y72,h,bX⟩
          ·apply sK;exact⟨y64,h,bX⟩
         ·rintro v65 h;obtain⟨hn74,h⟩:=aV h;have hg75:(x0.args.map aA.v).getD 0 []=aA.v (x0.args.getD 0 aA.z):=bW aA.v aA.z hn74;obtain⟨y76,hy76,h⟩:=cC h;obtain⟨hn77,h⟩:=aV h;obtain⟨y78,hy78,h⟩:=cC h;obtain⟨hn79,h⟩:=aV h;obtain⟨hn80,h⟩:=aV h;obtain⟨hn81,h⟩:=aV h;obtain⟨hn82,h⟩:=aV h;refine Iw [0,1,2,3,6,7,11,4,5,8,9,10,12,13,14] [100121] (ai (aJ hn74.1)<|ai (aJ hn74.2)<|ai (bW aA.v aA.z hn74)<|ai hg75<|ai (aJ hn77)<|ai (aJ hn79)<|ai (aJ hn80)<|ai (aJ hn81)<|(aJ hn82)) (H.p34 (x0.args.getD 0 aA.z) _ hy76) (Qd x0.not _ hy78) ?_;cases h;exact aB.ret (bM [.tmp 2])
        ·refine rg ?_;refine wz h (fun h=>?_) fun h=>?_
         ·obtain⟨hn85,h⟩:=aV h;have hg86:(x0.sub.map aF.v).getD 0 []=aF.v (x0.sub.getD 0 aF.z):=bW aF.v aF.z hn85;obtain⟨y87,hy87,h⟩:=cC h;obtain⟨hn88,h⟩:=aV h;obtain⟨y89,hy89,h⟩:=cC h;obtain⟨hn90,h⟩:=aV h;obtain⟨hn91,h⟩:=aV h;refine Iw [0,1,4,5,6,7,2,3,8,9,10,11] [100135,100137] (ai (aJ hn85.1)<|ai (aJ hn85.2)<|ai (bW aF.v aF.z hn85)<|ai hg86<|ai (aJ hn88)<|ai (aJ hn90)<|(aJ hn91)) (Qd x0.not _ hy87) (H.p20 (x0.sub.getD 0 aF.z) _ hy89) ?_;cases h;exact aB.ret (bM [.tmp 2])
         ·refine rg ?_;refine wz h (fun h=>?_) fun h=>?_
          ·obtain⟨hn94,h⟩:=aV h;have hg95:(x0.sub.map aF.v).getD 0 []=aF.v (x0.sub.getD 0 aF.z):=bW aF.v aF.z hn94;obtain⟨y96,hy96,h⟩:=cC h;obtain⟨hn97,h⟩:=aV h;obtain⟨hn98,h⟩:=aV h;refine tG (ai (aJ hn94.1)<|ai (aJ hn94.2)<|ai (bW aF.v aF.z hn94)<|ai hg95<|ai (aJ hn97)<|(aJ hn98)) (H.p20 (x0.sub.getD 0 aF.z) _ hy96) ?_;cases h;exact aB.ret (bM [.tmp 2])
          ·refine rg ?_;refine wz h (fun h=>?_) fun h=>?_
           ·refine dH (H.p37 x0) h fun y100 _ h=>?_;cases h;exact aB.ret (bM [.tmp 2])
           ·refine rg ?_;refine wz h (fun h=>?_) fun h=>?_
            ·obtain⟨hn103,h⟩:=aV h;have hg104:(x0.args.map aA.v).getD 0 []=aA.v (x0.args.getD 0 aA.z):=bW aA.v aA.z hn103;obtain⟨y105,hy105,h⟩:=cC h;obtain⟨hn106,h⟩:=aV h;obtain⟨hn107,h⟩:=aV h;obtain⟨hn108,h⟩:=aV h;obtain⟨hn109,h⟩:=aV h;refine Fa [0,1,2,3,7,8,4,5,6,9,10,11] [100164] (ai (aJ hn103.1)<|ai (aJ hn103.2)<|ai (bW aA.v aA.z hn103)<|ai hg104<|ai (aJ hn106)<|ai (aJ hn107)<|ai (aJ hn108)<|(aJ hn109)) (H.p13 (x0.args.getD 0 aA.z) _ hy105) ?_;cases h;exact aB.ret (bM [.tmp 2])
            ·refine rg ?_;refine wz h (fun h=>?_) fun h=>?_
             ·obtain⟨hn112,h⟩:=aV h;have hg113:(x0.args.map aA.v).getD 0 []=aA.v (x0.args.getD 0 aA.z):=bW aA.v aA.z hn112;obtain⟨y114,hy114,h⟩:=cC h;obtain⟨hn115,h⟩:=aV h;obtain⟨hn116,h⟩:=aV h;refine Fa [0,1,2,3,6,7,4,5,8,9] [100176] (ai (aJ hn112.1)<|ai (aJ hn112.2)<|ai (bW aA.v aA.z hn112)<|ai hg113<|ai (aJ hn115)<|(aJ hn116)) (H.p34 (x0.args.getD 0 aA.z) _ hy114) ?_;cases h;exact aB.ret (bM [.tmp 2])
             ·refine rg ?_;refine wz h (fun h=>?_) fun h=>?_
              ·obtain⟨hn118,h⟩:=aV h;obtain⟨hn120,h⟩:=aV h;have hg121:(List.map (fun x=>[aM x]) ([(bm #[]),(bm #[68,73,83,84,73,78,67,84,32]),(bm #[42])])).getD x0.n.toNat []=(fun x=>[aM x]) (([(bm #[]),(bm #[68,73,83,84,73,78,67,84,32]),(bm #[42])]).getD x0.n.toNat bO):=bW (fun x=>[aM x]) bO hn120;simp only[dG,eZ] at hg121;have hg122:(x0.n<3)=True:=aJ (by simpa using hn120.2);obtain⟨hn123,h⟩:=aV h;obtain⟨y124,hy124,h⟩:=cC h;obtain⟨hn125,h⟩:=aV h;obtain⟨hn126,h⟩:=aV h;refine Fa [0,1,2,3,4,5,6,7,8,9,10,11,12,13,14] [100181,100185,100187] (ai (aJ hn118)<|ai (aJ hn120.1)<|ai (aJ hn120.2)<|ai (bW (fun x=>[aM x]) bO hn120)<|ai hg121<|ai hg122<|ai (aJ hn123)<|ai (aJ hn125)<|(aJ hn126)) (H.p36_1 x0.args (bm #[44,32]) _ hy124) ?_;cases h;exact aB.ret (bM [.tmp 2])
              ·refine jn h (fun q128=>bN [(1,.loc 1 0),(194,aY q128)] [(1,(x0.v,29))] s 236) (fun u129 h=>?_) ?_
               ·refine rg ?_;refine wz h (fun h=>?_) fun h=>?_
                ·apply sK;exact⟨(x0.op==23),h,bX⟩
                ·refine r1 ?_;exact⟨(x0.op==24),h,bX⟩
               ·rintro v127 h;refine wz h (fun h=>?_) fun h=>?_
                ·refine lL [0,1,2,3,6,7,10,11,15,16,17,18,4,5,8,9,12,13,14,19,20,21] [100204,100208,100213,100215] fun Z132 hZ132=>?_;obtain⟨hn134,h⟩:=aV h;have hg135:(x0.args.map aA.v).getD 0 []=aA.v (x0.args.getD 0 aA.z):=bW aA.v aA.z hn134;obtain⟨hn137,h⟩:=aV h;have hg138:(x0.args.map aA.v).getD 1 []=aA.v (x0.args.getD 1 aA.z):=bW aA.v aA.z hn137;(try simp only[aJ hn134.1,aJ hn134.2,bW aA.v aA.z hn134,hg135,aJ hn137.1,aJ hn137.2,bW aA.v aA.z hn137,hg138,eY,Nat.reduceBEq,xm,Nat.reduceAdd,Nat.reduceLeDiff,seval,reduceCtorEq]);obtain⟨y139,hy139,h⟩:=cC h;refine dV (H.p34 (x0.args.getD 0 aA.z) _ hy139) ?_;obtain⟨hn140,h⟩:=aV h;(try simp only[aJ hn134.1,aJ hn134.2,bW aA.v aA.z hn134,hg135,aJ hn137.1,aJ hn137.2,bW aA.v aA.z hn137,hg138,aJ hn140,eY,Nat.reduceBEq,xm,Nat.reduceAdd,Nat.reduceLeDiff,seval,reduceCtorEq]);obtain⟨y141,hy141,h⟩:=cC h;refine dV (Qd x0.not _ hy141) ?_;obtain⟨hn142,h⟩:=aV h;(try simp only[aJ hn134.1,aJ hn134.2,bW aA.v aA.z hn134,hg135,aJ hn137.1,aJ hn137.2,bW aA.v aA.z hn137,hg138,aJ hn140,aJ hn142,eY,Nat.reduceBEq,xm,Nat.reduceAdd,Nat.reduceLeDiff,seval,reduceCtorEq]);obtain⟨y143,hy143,h⟩:=cC h;refine dV (JC x0.op _ hy143) ?_;obtain⟨hn144,h⟩:=aV h;obtain⟨hn145,h⟩:=aV h
                 (try simp only[aJ hn134.1,aJ hn134.2,bW aA.v aA.z hn134,hg135,aJ hn137.1,aJ hn137.2,bW aA.v aA.z hn137,hg138,aJ hn140,aJ hn142,aJ hn144,aJ hn145,eY,Nat.reduceBEq,xm,Nat.reduceAdd,Nat.reduceLeDiff,seval,reduceCtorEq]);obtain⟨y146,hy146,h⟩:=cC h;refine dV (H.p34 (x0.args.getD 1 aA.z) _ hy146) ?_;obtain⟨hn147,h⟩:=aV h;(try simp only[aJ hn134.1,aJ hn134.2,bW aA.v aA.z hn134,hg135,aJ hn137.1,aJ hn137.2,bW aA.v aA.z hn137,hg138,aJ hn140,aJ hn142,aJ hn144,aJ hn145,aJ hn147,eY,Nat.reduceBEq,xm,Nat.reduceAdd,Nat.reduceLeDiff,seval,reduceCtorEq]);refine hZ132 _ ?_;clear hZ132 Z132;cases h;exact aB.ret (bM [.tmp 2])
                ·apply sK;refine lL [0,1,2,3,6,7,12,13,14,15,4,5,8,9,10,11,16,17,18] [100225,100231,100233] fun Z148 hZ148=>?_;obtain⟨hn150,h⟩:=aV h;have hg151:(x0.args.map aA.v).getD 0 []=aA.v (x0.args.getD 0 aA.z):=bW aA.v aA.z hn150;obtain⟨hn153,h⟩:=aV h;have hg154:(x0.args.map aA.v).getD 1 []=aA.v (x0.args.getD 1 aA.z):=bW aA.v aA.z hn153;(try simp only[aJ hn150.1,aJ hn150.2,bW aA.v aA.z hn150,hg151,aJ hn153.1,aJ hn153.2,bW aA.v aA.z hn153,hg154,eY,Nat.reduceBEq,xm,Nat.reduceAdd,Nat.reduceLeDiff,seval,reduceCtorEq]);obtain⟨y155,hy155,h⟩:=cC h;refine dV (H.p34 (x0.args.getD 0 aA.z) _ hy155) ?_;obtain⟨hn156,h⟩:=aV h;(try simp only[aJ hn150.1,aJ hn150.2,bW aA.v aA.z hn150,hg151,aJ hn153.1,aJ hn153.2,bW aA.v aA.z hn153,hg154,aJ hn156,eY,Nat.reduceBEq,xm,Nat.reduceAdd,Nat.reduceLeDiff,seval,reduceCtorEq]);obtain⟨y157,hy157,h⟩:=cC h;refine dV (JC x0.op _ hy157) ?_;(try simp only[aJ hn150.1,aJ hn150.2,bW aA.v aA.z hn150,hg151,aJ hn153.1,aJ hn153.2,bW aA.v aA.z hn153,hg154,aJ hn156,eY,Nat.reduceBEq,xm,Nat.reduceAdd,Nat.reduceLeDiff,seval,reduceCtorEq]);obtain⟨y158,hy158,h⟩:=cC h;refine dV (JF y157 (bm #[95]) (bm #[32]) _ hy158) ?_;obtain⟨hn159,h⟩:=aV h;obtain⟨hn160,h⟩:=aV h;(try simp only[aJ hn150.1,aJ hn150.2,bW aA.v aA.z hn150,hg151,aJ hn153.1,aJ hn153.2,bW aA.v aA.z hn153,hg154,aJ hn156,aJ hn159,aJ hn160,eY,Nat.reduceBEq,xm,Nat.reduceAdd,Nat.reduceLeDiff,seval,reduceCtorEq])
                 obtain⟨y161,hy161,h⟩:=cC h;refine dV (H.p34 (x0.args.getD 1 aA.z) _ hy161) ?_;obtain⟨hn162,h⟩:=aV h;(try simp only[aJ hn150.1,aJ hn150.2,bW aA.v aA.z hn150,hg151,aJ hn153.1,aJ hn153.2,bW aA.v aA.z hn153,hg154,aJ hn156,aJ hn159,aJ hn160,aJ hn162,eY,Nat.reduceBEq,xm,Nat.reduceAdd,Nat.reduceLeDiff,seval,reduceCtorEq]);refine hZ148 _ ?_;clear hZ148 Z148;cases h;exact aB.ret (bM [.tmp 2])
def jD (F:cO) (x0:aF):Option (ByteArray):=(cF (fun u5 (q4:ByteArray×Int)=>(aE (decide (q4.2<(x0.with_.length:Int))) (aR (0<=q4.2∧q4.2<(x0.with_.length:Int)) (aR (0<=(dW q4.2 1)∧(dW q4.2 1)<((([(bm #[87,73,84,72,32]),(bm #[44,32])]).length:Nat):Int)) (aR ((([(bm #[87,73,84,72,32]),(bm #[44,32])]).getD (dW q4.2 1).toNat bO).size+((x0.with_.getD q4.2.toNat bE.z).name).size<=maxLen) (aR (q4.1.size+((([(bm #[87,73,84,72,32]),(bm #[44,32])]).getD (dW q4.2 1).toNat bO)++((x0.with_.getD q4.2.toNat bE.z).name)).size<=maxLen) (join (fun u19=>(aE (decide (((((x0.with_.getD q4.2.toNat bE.z).cols).length:Nat):Int)>0)) (call (uR ((x0.with_.getD q4.2.toNat bE.z).cols) (bm #[44,32])) fun y21=>(aR ((bm #[40]).size+y21.size<=maxLen) (aR (((bm #[40])++y21).size+(bm #[41]).size<=maxLen) (aR ((q4.1++((([(bm #[87,73,84,72,32]),(bm #[44,32])]).getD (dW q4.2 1).toNat bO)++((x0.with_.getD q4.2.toNat bE.z).name))).size+(((bm #[40])++y21)++(bm #[41])).size<=maxLen) (u19 ((q4.1++((([(bm #[87,73,84,72,32]),(bm #[44,32])]).getD (dW q4.2 1).toNat bO)++((x0.with_.getD q4.2.toNat bE.z).name)))++(((bm #[40])++y21)++(bm #[41])))))))) (u19 (q4.1++((([(bm #[87,73,84,72,32]),(bm #[44,32])]).getD (dW q4.2 1).toNat bO)++((x0.with_.getD q4.2.toNat bE.z).name)))))) (fun(q18:ByteArray)=>(aR (0<=(0:Int)∧(0:Int)<((((x0.with_.getD q4.2.toNat bE.z).body).length:Nat):Int)) (call (F.p20 (((x0.with_.getD q4.2.toNat bE.z).body).getD 0 aF.z)) fun y28=>(aR ((bm #[32,65,83,32,40]).size+y28.size<=maxLen) (aR (((bm #[32,65,83,32,40])++y28).size+(bm #[41]).size<=maxLen) (aR (q18.size+(((bm #[32,65,83,32,40])++y28)++(bm #[41])).size<=maxLen) (u5 ((q18++(((bm #[32,65,83,32,40])++y28)++(bm #[41]))),(i64.wrap (q4.2+1))))))))))))))) (join (fun u34=>(aE (decide ((x0.with_.length:Int)>0)) (aR (q4.1.size+(bm #[32]).size<=maxLen) (u34 (q4.1++(bm #[32])))) (u34 q4.1))) (fun(q33:ByteArray)=>(cF (fun u41 (q40:ByteArray×Int)=>(aE (decide (q40.2<(x0.parts.length:Int))) (aR (0<=q40.2∧q40.2<(x0.parts.length:Int)) (aR (0<=((x0.parts.getD q40.2.toNat aK.z).comp)∧((x0.parts.getD q40.2.toNat aK.z).comp)<((([(bm #[]),(bm #[32,85,78,73,79,78,32]),(bm #[32,85,78,73,79,78,32,65,76,76,32]),(bm #[32,73,78,84,69,82,83,69,67,84,32]),(bm #[32,69,88,67,69,80,84,32])]).length:Nat):Int)) (call (F.p46 (x0.parts.getD q40.2.toNat aK.z)) fun y51=>(aR ((([(bm #[]),(bm #[32,85,78,73,79,78,32]),(bm #[32,85,78,73,79,78,32,65,76,76,32]),(bm #[32,73,78,84,69,82,83,69,67,84,32]),(bm #[32,69,88,67,69,80,84,32])]).getD ((x0.parts.getD q40.2.toNat aK.z).comp).toNat bO).size+y51.size<=maxLen) (aR (q40.1.size+((([(bm #[]),(bm #[32,85,78,73,79,78,32]),(bm #[32,85,78,73,79,78,32,65,76,76,32]),(bm #[32,73,78,84,69,82,83,69,67,84,32]),(bm #[32,69,88,67,69,80,84,32])]).getD ((x0.parts.getD q40.2.toNat aK.z).comp).toNat bO)++y51).size<=maxLen) (u41 ((q40.1++((([(bm #[]),(bm #[32,85,78,73,79,78,32]),(bm #[32,85,78,73,79,78,32,65,76,76,32]),(bm #[32,73,78,84,69,82,83,69,67,84,32]),(bm #[32,69,88,67,69,80,84,32])]).getD ((x0.parts.getD q40.2.toNat aK.z).comp).toNat bO)++y51)),(i64.wrap (q40.2+1))))))))) (cF (fun u58 (q57:ByteArray×Int)=>(aE (decide (q57.2<(x0.order.length:Int))) (join (fun u63=>(aR (0<=q57.2∧q57.2<(x0.order.length:Int)) (aR (0<=(dW q57.2 1)∧(dW q57.2 1)<((([(bm #[32,79,82,68,69,82,32,66,89,32]),(bm #[44,32])]).length:Nat):Int)) (call (F.p13 ((x0.order.getD q57.2.toNat aX.z).expr)) fun y70=>(aR ((([(bm #[32,79,82,68,69,82,32,66,89,32]),(bm #[44,32])]).getD (dW q57.2 1).toNat bO).size+y70.size<=maxLen) (aR (q57.1.size+((([(bm #[32,79,82,68,69,82,32,66,89,32]),(bm #[44,32])]).getD (dW q57.2 1).toNat bO)++y70).size<=maxLen) (aE ((x0.order.getD q57.2.toNat aX.z).desc_) (aR ((q57.1++((([(bm #[32,79,82,68,69,82,32,66,89,32]),(bm #[44,32])]).getD (dW q57.2 1).toNat bO)++y70)).size+(bm #[32,68,69,83,67]).size<=maxLen) (u63 ((q57.1++((([(bm #[32,79,82,68,69,82,32,66,89,32]),(bm #[44,32])]).getD (dW q57.2 1).toNat bO)++y70))++(bm #[32,68,69,83,67])))) (u63 (q57.1++((([(bm #[32,79,82,68,69,82,32,66,89,32]),(bm #[44,32])]).getD (dW q57.2 1).toNat bO)++y70)))))))))) (fun(q62:ByteArray)=>(u58 (q62,(i64.wrap (q57.2+1)))))) (call (F.p47 (bm #[32,76,73,77,73,84,32]) x0.limit) fun y75=>(aR (q57.1.size+y75.size<=maxLen) (call (F.p47 (bm #[32,79,70,70,83,69,84,32]) x0.offset) fun y77=>(aR ((q57.1++y75).size+y77.size<=maxLen) (some ((q57.1++y75)++y77)))))))) bQ (q40.1,0)))) bQ (q33,0)))))) bQ ((bm #[]),0))
def d20 (F:cO) (H:F.Ok):KA (jD F):=fun x0 r h=>by
 intro s;unfold jD at h;refine ac func20 ntmps20 ?_;refine rg ?_;refine rg ?_;apply aB.seq;refine rg ?_;apply aB.block;refine lp h (fun q4=>bN [(1,.loc 1 0),(3,aM q4.1),(11,.slice 3 (x0.with_.map bE.v)),(12,aI (x0.with_.length:Int)),(13,aI q4.2)] [(1,(x0.v,42))] s 106) ?_ ?_
 ·exact bX
 ·rintro u5 ⟨v2,v3⟩ h;(try dsimp only at h ⊢);refine rg ?_;apply aB.seq;refine wz h (fun h=>?_) fun h=>?_
  ·apply sK;apply aB.seq;apply aB.block;obtain⟨hn10,h⟩:=aV h;refine bG (ai (aJ hn10.1)<|ai (aJ hn10.2)<|(bW bE.v bE.z hn10)) ?_;obtain⟨hn12,h⟩:=aV h;have hg13:(List.map (fun x=>[aM x]) ([(bm #[87,73,84,72,32]),(bm #[44,32])])).getD (dW v3 1).toNat []=(fun x=>[aM x]) (([(bm #[87,73,84,72,32]),(bm #[44,32])]).getD (dW v3 1).toNat bO):=bW (fun x=>[aM x]) bO hn12;simp only[dG,eZ] at hg13;have hg14:((dW v3 1)<2)=True:=aJ (by simpa using hn12.2);obtain⟨hn15,h⟩:=aV h;obtain⟨hn16,h⟩:=aV h;refine Au [0,1,2,3,4,5,6,7,8,9,10] [] (ai (aJ hn12.1)<|ai (aJ hn12.2)<|ai (bW (fun x=>[aM x]) bO hn12)<|ai hg13<|ai hg14<|ai (aJ hn15)<|(aJ hn16)) ?_;refine jn h (fun q18=>bN [(1,.loc 1 0),(3,aM q18),(5,.loc 5 0),(11,.slice 3 (x0.with_.map bE.v)),(12,aI (x0.with_.length:Int)),(13,aI v3)] [(1,(x0.v,42)),(5,((x0.with_.getD v3.toNat bE.z).v,66))] s 106) (fun u19 h=>?_) ?_
   ·refine rg ?_;refine wz h (fun h=>?_) fun h=>?_
    ·obtain⟨y21,hy21,h⟩:=cC h;obtain⟨hn22,h⟩:=aV h;obtain⟨hn23,h⟩:=aV h;obtain⟨hn24,h⟩:=aV h;refine kO (ai (aJ hn22)<|ai (aJ hn23)<|(aJ hn24)) (Wt ((x0.with_.getD v3.toNat bE.z).cols) (bm #[44,32]) _ hy21) ?_;exact⟨((v2++((([(bm #[87,73,84,72,32]),(bm #[44,32])]).getD (dW v3 1).toNat bO)++((x0.with_.getD v3.toNat bE.z).name)))++(((bm #[40])++y21)++(bm #[41]))),h,bX⟩
    ·apply sK;exact⟨(v2++((([(bm #[87,73,84,72,32]),(bm #[44,32])]).getD (dW v3 1).toNat bO)++((x0.with_.getD v3.toNat bE.z).name))),h,bX⟩
   ·rintro v17 h;obtain⟨hn26,h⟩:=aV h;have hg27:(List.map aF.v ((x0.with_.getD v3.toNat bE.z).body)).getD 0 []=aF.v (((x0.with_.getD v3.toNat bE.z).body).getD 0 aF.z):=bW aF.v aF.z hn26;obtain⟨y28,hy28,h⟩:=cC h;obtain⟨hn29,h⟩:=aV h;obtain⟨hn30,h⟩:=aV h;obtain⟨hn31,h⟩:=aV h;refine kO (ai (aJ hn26.1)<|ai (aJ hn26.2)<|ai (bW aF.v aF.z hn26)<|ai hg27<|ai (aJ hn29)<|ai (aJ hn30)<|(aJ hn31)) (H.p20 (((x0.with_.getD v3.toNat bE.z).body).getD 0 aF.z) _ hy28) ?_;refine r1 ?_;exact⟨((v17++(((bm #[32,65,83,32,40])++y28)++(bm #[41]))),(i64.wrap (v3+1))),h,bX⟩
  ·apply aB.exit;simp only[dR,seval];refine jn h (fun q33=>bN [(1,.loc 1 0),(3,aM q33)] [(1,(x0.v,42))] s 106) (fun u34 h=>?_) ?_
   ·refine rg ?_;refine wz h (fun h=>?_) fun h=>?_
    ·obtain⟨hn36,h⟩:=aV h;refine bU (aJ hn36) ?_;exact⟨(v2++(bm #[32])),h,bX⟩
    ·apply sK;exact⟨v2,h,bX⟩
   ·rintro v32 h;apply aB.seq;refine rg ?_;apply aB.block;refine lp h (fun q40=>bN [(1,.loc 1 0),(3,aM q40.1),(56,.slice 8 (x0.parts.map aK.v)),(57,aI (x0.parts.length:Int)),(58,aI q40.2)] [(1,(x0.v,42))] s 106) ?_ ?_
    ·exact bX
    ·rintro u41 ⟨v38,v39⟩ h;(try dsimp only at h ⊢);refine rg ?_;apply aB.seq;refine wz h (fun h=>?_) fun h=>?_
     ·apply sK;apply aB.seq;apply aB.block;obtain⟨hn46,h⟩:=aV h;refine bG (ai (aJ hn46.1)<|ai (aJ hn46.2)<|(bW aK.v aK.z hn46)) ?_;obtain⟨hn48,h⟩:=aV h;have hg49:(List.map (fun x=>[aM x]) ([(bm #[]),(bm #[32,85,78,73,79,78,32]),(bm #[32,85,78,73,79,78,32,65,76,76,32]),(bm #[32,73,78,84,69,82,83,69,67,84,32]),(bm #[32,69,88,67,69,80,84,32])])).getD ((x0.parts.getD v39.toNat aK.z).comp).toNat []=(fun x=>[aM x]) (([(bm #[]),(bm #[32,85,78,73,79,78,32]),(bm #[32,85,78,73,79,78,32,65,76,76,32]),(bm #[32,73,78,84,69,82,83,69,67,84,32]),(bm #[32,69,88,67,69,80,84,32])]).getD ((x0.parts.getD v39.toNat aK.z).comp).toNat bO):=bW (fun x=>[aM x]) bO hn48;simp only[dG,eZ] at hg49;have hg50:(((x0.parts.getD v39.toNat aK.z).comp)<5)=True:=aJ (by simpa using hn48.2);obtain⟨y51,hy51,h⟩:=cC h;obtain⟨hn52,h⟩:=aV h;obtain⟨hn53,h⟩:=aV h;refine Cp [0,1,2,3,4,5,6,7,8,9,10] [100065,100067] (ai (aJ hn48.1)<|ai (aJ hn48.2)<|ai (bW (fun x=>[aM x]) bO hn48)<|ai hg49<|ai hg50<|ai (aJ hn52)<|(aJ hn53)) (H.p46 (x0.parts.getD v39.toNat aK.z) _ hy51) ?_;refine r1 ?_;exact⟨((v38++((([(bm #[]),(bm #[32,85,78,73,79,78,32]),(bm #[32,85,78,73,79,78,32,65,76,76,32]),(bm #[32,73,78,84,69,82,83,69,67,84,32]),(bm #[32,69,88,67,69,80,84,32])]).getD ((x0.parts.getD v39.toNat aK.z).comp).toNat bO)++y51)),(i64.wrap (v39+1))),h,bX⟩
     ·apply aB.exit;simp only[dR,seval];apply aB.seq;refine rg ?_;apply aB.block;refine lp h (fun q57=>bN [(1,.loc 1 0),(3,aM q57.1),(74,.slice 11 (x0.order.map aX.v)),(75,aI (x0.order.length:Int)),(76,aI q57.2)] [(1,(x0.v,42))] s 106) ?_ ?_
      ·exact bX
      ·rintro u58 ⟨v55,v56⟩ h;(try dsimp only at h ⊢);refine rg ?_;apply aB.seq;refine wz h (fun h=>?_) fun h=>?_
       ·apply sK;refine jn h (fun q62=>bN [(1,.loc 1 0),(3,aM q62),(74,.slice 11 (x0.order.map aX.v)),(75,aI (x0.order.length:Int)),(76,aI v56)] [(1,(x0.v,42))] s 106) (fun u63 h=>?_) ?_
        ·apply aB.block;obtain⟨hn65,h⟩:=aV h;refine bG (ai (aJ hn65.1)<|ai (aJ hn65.2)<|(bW aX.v aX.z hn65)) ?_;obtain⟨hn67,h⟩:=aV h;have hg68:(List.map (fun x=>[aM x]) ([(bm #[32,79,82,68,69,82,32,66,89,32]),(bm #[44,32])])).getD (dW v56 1).toNat []=(fun x=>[aM x]) (([(bm #[32,79,82,68,69,82,32,66,89,32]),(bm #[44,32])]).getD (dW v56 1).toNat bO):=bW (fun x=>[aM x]) bO hn67;simp only[dG,eZ] at hg68;have hg69:((dW v56 1)<2)=True:=aJ (by simpa using hn67.2);obtain⟨y70,hy70,h⟩:=cC h;obtain⟨hn71,h⟩:=aV h;obtain⟨hn72,h⟩:=aV h;refine Fa [0,1,2,3,4,5,6,7,8,9,10,11] [100086] (ai (aJ hn67.1)<|ai (aJ hn67.2)<|ai (bW (fun x=>[aM x]) bO hn67)<|ai hg68<|ai hg69<|ai (aJ hn71)<|(aJ hn72)) (H.p13 ((x0.order.getD v56.toNat aX.z).expr) _ hy70) ?_;refine rg ?_;refine wz h (fun h=>?_) fun h=>?_
         ·obtain⟨hn74,h⟩:=aV h;refine bU (aJ hn74) ?_;exact⟨((v55++((([(bm #[32,79,82,68,69,82,32,66,89,32]),(bm #[44,32])]).getD (dW v56 1).toNat bO)++y70))++(bm #[32,68,69,83,67])),h,bX⟩
         ·apply sK;exact⟨(v55++((([(bm #[32,79,82,68,69,82,32,66,89,32]),(bm #[44,32])]).getD (dW v56 1).toNat bO)++y70)),h,bX⟩
        ·rintro v61 h;refine r1 ?_;exact⟨(v61,(i64.wrap (v56+1))),h,bX⟩
       ·apply aB.exit;simp only[dR,seval];obtain⟨y75,hy75,h⟩:=cC h;obtain⟨hn76,h⟩:=aV h;obtain⟨y77,hy77,h⟩:=cC h;obtain⟨hn78,h⟩:=aV h;refine Iw [0,1,2,5,6,3,4,7,8,9] [100103] (ai (aJ hn76)<|(aJ hn78)) (H.p47 (bm #[32,76,73,77,73,84,32]) x0.limit _ hy75) (H.p47 (bm #[32,79,70,70,83,69,84,32]) x0.offset _ hy77) ?_;cases h;exact aB.ret (bM [.tmp 2])
def Ls (F:cO) (x0:aA):Option (ByteArray):=(call (La x0) fun y2=>(aE y2 (call (F.p13 x0) fun y4=>(some y4)) (call (F.p13 x0) fun y5=>(aR ((bm #[40]).size+y5.size<=maxLen) (aR (((bm #[40])++y5).size+(bm #[41]).size<=maxLen) (some (((bm #[40])++y5)++(bm #[41]))))))))
def d34 (F:cO) (H:F.Ok):JU (Ls F):=fun x0 r h=>by
 intro s;unfold Ls at h;refine ac func34 ntmps34 ?_;refine rg ?_;apply aB.seq;refine dH (c72 x0) h fun y2 _ h=>?_;refine wz h (fun h=>?_) fun h=>?_
 ·refine dH (H.p13 x0) h fun y4 _ h=>?_;cases h;exact aB.ret (bM [.tmp 2])
 ·apply sK;obtain⟨y5,hy5,h⟩:=cC h;obtain⟨hn6,h⟩:=aV h;obtain⟨hn7,h⟩:=aV h;refine tG (ai (aJ hn6)<|(aJ hn7)) (H.p13 x0 _ hy5) ?_;cases h;exact aB.ret (bM [.tmp 2])
def Kb (F:cO) (x0:(List aA)) (x2:ByteArray):Option (ByteArray):=(cF (fun u8 (q7:(List ByteArray)×Int)=>(aE (decide (q7.2<(x0.length:Int))) (aR (0<=q7.2∧q7.2<(x0.length:Int)) (call (F.p13 (x0.getD q7.2.toNat aA.z)) fun y16=>(aR ((q7.1.length+1)*16<=140737488355328) (u8 ((q7.1++([y16])),(i64.wrap (q7.2+1))))))) (call (uR q7.1 x2) fun y20=>(some y20)))) bQ (([]:List ByteArray),0))
def aEy (F:cO) (H:F.Ok):HJ (Kb F):=fun x0 x2 r h=>by
 intro s;unfold Kb at h;refine ac func36 ntmps36 ?_;refine rg ?_;refine rg ?_;apply aB.seq;refine rg ?_;apply aB.block;refine aB.Gw 7 (9,1) (.inl (by rfl)) fun g2 hg2=>?_;change (s).own g2=none at hg2;have fr3:Fr s (List.map Prod.fst [(g2,(9,1))]):=Fr.snoc (l:=[]) (Fr.nil s) hg2;refine aB.pA (X:=(List ByteArray)×Int) (G:=Nat) h (fun gq9=>Fr s (List.map Prod.fst [(gq9,(9,1))])) (fun q7 gq9=>bN [(1,.func 13 [] []),(2,aM x2),(7,.own gq9 1 (List.map (fun x=>[aM x]) q7.1)),(10,.slice 10 (x0.map aA.v)),(11,aI (x0.length:Int)),(12,aI q7.2)] [] (cJ s [(gq9,(9,1))]) 26) ?_ ?_
 ·exact⟨g2,fr3,bX⟩
 ·rintro u8 ⟨v4,v6⟩ h g5 hg5f;(try dsimp only at h ⊢);refine rg ?_;apply aB.seq;refine wz h (fun h=>?_) fun h=>?_
  ·apply sK;apply aB.seq;apply aB.block;obtain⟨hn14,h⟩:=aV h;refine bG (ai (aJ hn14.1)<|ai (aJ hn14.2)<|(bW aA.v aA.z hn14)) ?_;refine aB.fW fun Z15 hZ15=>?_;refine sy ?_;obtain⟨y16,hy16,h⟩:=cC h;refine dV (H.p13 (x0.getD v6.toNat aA.z) _ hy16) ?_;obtain⟨hn17,h⟩:=aV h;refine sy ?_
   first|refine mL hg5f hn17 fun g18 hg18=>?_|refine mM hg5f hn17 fun g18 hg18=>?_
   have fr19:Fr s (List.map Prod.fst [(g18,(9,1))]):=Fr.rep (a:=[]) (b:=[]) hg5f hg18;refine sy ?_;refine hZ15 _ ?_;clear hZ15 Z15;refine tS (Fr.mN (a:=[]) (b:=[]) hg5f hg18) (s':=(cJ s [(g18,(9,1))])) ?_;refine r1 ?_;exact⟨((v4++([y16])),(i64.wrap (v6+1))),h,g18,fr19,bX⟩
  ·apply aB.exit;simp only[dR,seval];refine dH (Wt v4 x2) h fun y20 hy20 h=>?_;cases h;exact aB.ret (Da (Fr.drop (l:=[(g5,(9,1))]) hg5f) [.tmp 6])
def wM (F:cO) (x0:aA):Option (ByteArray):=(join (fun u4=>(aE ((mK .i64 x0.n 1)==1) (aR (0<=(0:Int)∧(0:Int)<(x0.args.length:Int)) (call (F.p13 (x0.args.getD 0 aA.z)) fun y9=>(aR ((bm #[32]).size+y9.size<=maxLen) (aR ((bm #[67,65,83,69]).size+((bm #[32])++y9).size<=maxLen) (aR (0<=(1:Int)∧(1:Int)<=(x0.args.length:Int)∧(x0.args.length:Int)<=(x0.args.length:Int)) (u4 ((List.take ((x0.args.length:Int).toNat-1) (List.drop 1 x0.args)),((bm #[67,65,83,69])++((bm #[32])++y9))))))))) (u4 (x0.args,(bm #[67,65,83,69]))))) (fun(q3:(List aA)×ByteArray)=>(join (fun u16=>(aE ((mK .i64 x0.n 2)==2) (aR (0<=(i64.wrap ((q3.1.length:Int)-1))∧(i64.wrap ((q3.1.length:Int)-1))<(q3.1.length:Int)) (call (F.p13 (q3.1.getD (i64.wrap ((q3.1.length:Int)-1)).toNat aA.z)) fun y20=>(aR ((bm #[32,69,76,83,69,32]).size+y20.size<=maxLen) (aR (0<=(0:Int)∧(0:Int)<=(i64.wrap ((q3.1.length:Int)-1))∧(i64.wrap ((q3.1.length:Int)-1))<=(q3.1.length:Int)) (u16 ((List.take ((i64.wrap ((q3.1.length:Int)-1)).toNat-0) (List.drop 0 q3.1)),((bm #[32,69,76,83,69,32])++y20))))))) (u16 (q3.1,(bm #[]))))) (fun(q15:(List aA)×ByteArray)=>(cF (fun u27 (q26:ByteArray×Int)=>(aE (decide (q26.2<(q15.1.length:Int))) (aR (0<=q26.2∧q26.2<(q15.1.length:Int)) (aR (0<=(i64.wrap (q26.2+1))∧(i64.wrap (q26.2+1))<(q15.1.length:Int)) (call (F.p13 (q15.1.getD q26.2.toNat aA.z)) fun y35=>(aR ((bm #[32,87,72,69,78,32]).size+y35.size<=maxLen) (aR (((bm #[32,87,72,69,78,32])++y35).size+(bm #[32,84,72,69,78,32]).size<=maxLen) (call (F.p13 (q15.1.getD (i64.wrap (q26.2+1)).toNat aA.z)) fun y38=>(aR ((((bm #[32,87,72,69,78,32])++y35)++(bm #[32,84,72,69,78,32])).size+y38.size<=maxLen) (aR (q26.1.size+((((bm #[32,87,72,69,78,32])++y35)++(bm #[32,84,72,69,78,32]))++y38).size<=maxLen) (u27 ((q26.1++((((bm #[32,87,72,69,78,32])++y35)++(bm #[32,84,72,69,78,32]))++y38)),(i64.wrap (q26.2+2)))))))))))) (aR (q26.1.size+q15.2.size<=maxLen) (aR ((q26.1++q15.2).size+(bm #[32,69,78,68]).size<=maxLen) (some ((q26.1++q15.2)++(bm #[32,69,78,68]))))))) bQ (q3.2,0))))))
def d37 (F:cO) (H:F.Ok):JT (wM F):=fun x0 r h=>by
 intro s;unfold wM at h;refine ac func37 ntmps37 ?_;refine rg ?_;refine rg ?_;refine rg ?_;refine jn h (fun q3=>bN [(1,.loc 1 0),(3,.slice 10 (q3.1.map aA.v)),(4,aM q3.2)] [(1,(x0.v,29))] s 65) (fun u4 h=>?_) ?_
 ·refine rg ?_;refine wz h (fun h=>?_) fun h=>?_
  ·obtain⟨hn7,h⟩:=aV h;have hg8:(x0.args.map aA.v).getD 0 []=aA.v (x0.args.getD 0 aA.z):=bW aA.v aA.z hn7;obtain⟨y9,hy9,h⟩:=cC h;obtain⟨hn10,h⟩:=aV h;obtain⟨hn11,h⟩:=aV h;refine tG (ai (aJ hn7.1)<|ai (aJ hn7.2)<|ai (bW aA.v aA.z hn7)<|ai hg8<|ai (aJ hn10)<|(aJ hn11)) (H.p13 (x0.args.getD 0 aA.z) _ hy9) ?_;obtain⟨hn12,h⟩:=aV h;refine bU (ai (aJ hn12.1)<|ai (aJ hn12.2.1)<|(aJ hn12.2.2)) ?_;exact⟨((List.take ((x0.args.length:Int).toNat-1) (List.drop 1 x0.args)),((bm #[67,65,83,69])++((bm #[32])++y9))),h,bX⟩
  ·apply sK;exact⟨(x0.args,(bm #[67,65,83,69])),h,bX⟩
 ·rintro⟨v1,v2⟩ h;(try dsimp only at h ⊢);refine rg ?_;refine jn h (fun q15=>bN [(3,.slice 10 (q15.1.map aA.v)),(4,aM v2),(5,aM q15.2)] [] s 65) (fun u16 h=>?_) ?_
  ·refine rg ?_;refine wz h (fun h=>?_) fun h=>?_
   ·obtain⟨hn19,h⟩:=aV h;obtain⟨y20,hy20,h⟩:=cC h;obtain⟨hn21,h⟩:=aV h;refine tG (ai (aJ hn19.1)<|ai (aJ hn19.2)<|ai (bW aA.v aA.z hn19)<|(aJ hn21)) (H.p13 (v1.getD (i64.wrap ((v1.length:Int)-1)).toNat aA.z) _ hy20) ?_;obtain⟨hn22,h⟩:=aV h;refine bU (ai (aJ hn22.1)<|ai (aJ hn22.2.1)<|(aJ hn22.2.2)) ?_;exact⟨((List.take ((i64.wrap ((v1.length:Int)-1)).toNat-0) (List.drop 0 v1)),((bm #[32,69,76,83,69,32])++y20)),h,bX⟩
   ·apply sK;exact⟨(v1,(bm #[])),h,bX⟩
  ·rintro⟨v13,v14⟩ h;(try dsimp only at h ⊢);apply aB.seq;refine rg ?_;apply aB.block;refine lp h (fun q26=>bN [(3,.slice 10 (v13.map aA.v)),(4,aM q26.1),(5,aM v14),(6,aI q26.2)] [] s 65) ?_ ?_
   ·exact bX
   ·rintro u27 ⟨v24,v25⟩ h;(try dsimp only at h ⊢);apply aB.seq;refine rg ?_;refine wz h (fun h=>?_) fun h=>?_
    ·apply sK;apply aB.seq;apply aB.block;obtain⟨hn32,h⟩:=aV h;obtain⟨hn34,h⟩:=aV h;obtain⟨y35,hy35,h⟩:=cC h;obtain⟨hn36,h⟩:=aV h;obtain⟨hn37,h⟩:=aV h;obtain⟨y38,hy38,h⟩:=cC h;obtain⟨hn39,h⟩:=aV h;obtain⟨hn40,h⟩:=aV h;refine aAg [0,1,2,3,4,8,9,10,11,12,5,6,7,13,14,15,16] [100057] (ai (aJ hn32.1)<|ai (aJ hn32.2)<|ai (bW aA.v aA.z hn32)<|ai (aJ hn34.1)<|ai (aJ hn34.2)<|ai (bW aA.v aA.z hn34)<|ai (aJ hn36)<|ai (aJ hn37)<|ai (aJ hn39)<|(aJ hn40)) (H.p13 (v13.getD v25.toNat aA.z) _ hy35) (H.p13 (v13.getD (i64.wrap (v25+1)).toNat aA.z) _ hy38) ?_;refine r1 ?_;exact⟨((v24++((((bm #[32,87,72,69,78,32])++y35)++(bm #[32,84,72,69,78,32]))++y38)),(i64.wrap (v25+2))),h,bX⟩
    ·apply aB.exit;simp only[dR,seval];obtain⟨hn41,h⟩:=aV h;obtain⟨hn42,h⟩:=aV h;refine bG (ai (aJ hn41)<|(aJ hn42)) ?_;cases h;exact aB.ret (bM [.tmp 2])
def Bc (F:cO) (x0:aK):Option (ByteArray):=(aE (decide ((x0.values.length:Int)>0)) (cF (fun u10 (q9:(List ByteArray)×Int)=>(aE (decide (q9.2<(x0.values.length:Int))) (aR (0<=q9.2∧q9.2<(x0.values.length:Int)) (call (F.p36_1 (x0.values.getD q9.2.toNat ([])) (bm #[44,32])) fun y18=>(aR ((bm #[40]).size+y18.size<=maxLen) (aR (((bm #[40])++y18).size+(bm #[41]).size<=maxLen) (aR ((q9.1.length+1)*16<=140737488355328) (u10 ((q9.1++([(((bm #[40])++y18)++(bm #[41]))])),(i64.wrap (q9.2+1))))))))) (call (uR q9.1 (bm #[44,32])) fun y24=>(aR ((bm #[86,65,76,85,69,83,32]).size+y24.size<=maxLen) (some ((bm #[86,65,76,85,69,83,32])++y24)))))) bQ (([]:List ByteArray),0)) (join (fun u28=>(aE x0.distinct (aR ((bm #[83,69,76,69,67,84,32]).size+(bm #[68,73,83,84,73,78,67,84,32]).size<=maxLen) (u28 ((bm #[83,69,76,69,67,84,32])++(bm #[68,73,83,84,73,78,67,84,32])))) (u28 (bm #[83,69,76,69,67,84,32])))) (fun(q27:ByteArray)=>(cF (fun u35 (q34:ByteArray×Int)=>(aE (decide (q34.2<(x0.items.length:Int))) (aR (0<=q34.2∧q34.2<(x0.items.length:Int)) (join (fun u43=>(aE (decide (q34.2>0)) (aR (q34.1.size+(bm #[44,32]).size<=maxLen) (u43 (q34.1++(bm #[44,32])))) (u43 q34.1))) (fun(q42:ByteArray)=>(call (F.p87 (x0.items.getD q34.2.toNat bA.z)) fun y46=>(aR (q42.size+y46.size<=maxLen) (u35 ((q42++y46),(i64.wrap (q34.2+1))))))))) (cF (fun u52 (q51:ByteArray×Int)=>(aE (decide (q51.2<(x0.from_.length:Int))) (aR (0<=q51.2∧q51.2<(x0.from_.length:Int)) (aR (0<=(dW q51.2 1)∧(dW q51.2 1)<((([[(bm #[32,70,82,79,77,32]),(bm #[32,70,82,79,77,32])],[(bm #[32,74,79,73,78,32]),(bm #[32,76,69,70,84,32,74,79,73,78,32])]]).length:Nat):Int)) (aR (0<=((x0.from_.getD q51.2.toNat aO.z).join)∧((x0.from_.getD q51.2.toNat aO.z).join)<(((([[(bm #[32,70,82,79,77,32]),(bm #[32,70,82,79,77,32])],[(bm #[32,74,79,73,78,32]),(bm #[32,76,69,70,84,32,74,79,73,78,32])]]).getD (dW q51.2 1).toNat ([])).length:Nat):Int)) (call (F.p88 (x0.from_.getD q51.2.toNat aO.z)) fun y64=>(aR (((([[(bm #[32,70,82,79,77,32]),(bm #[32,70,82,79,77,32])],[(bm #[32,74,79,73,78,32]),(bm #[32,76,69,70,84,32,74,79,73,78,32])]]).getD (dW q51.2 1).toNat ([])).getD ((x0.from_.getD q51.2.toNat aO.z).join).toNat bO).size+y64.size<=maxLen) (aR (q51.1.size+(((([[(bm #[32,70,82,79,77,32]),(bm #[32,70,82,79,77,32])],[(bm #[32,74,79,73,78,32]),(bm #[32,76,69,70,84,32,74,79,73,78,32])]]).getD (dW q51.2 1).toNat ([])).getD ((x0.from_.getD q51.2.toNat aO.z).join).toNat bO)++y64).size<=maxLen) (call (F.p47 (bm #[32,79,78,32]) ((x0.from_.getD q51.2.toNat aO.z).on)) fun y67=>(aR ((q51.1++(((([[(bm #[32,70,82,79,77,32]),(bm #[32,70,82,79,77,32])],[(bm #[32,74,79,73,78,32]),(bm #[32,76,69,70,84,32,74,79,73,78,32])]]).getD (dW q51.2 1).toNat ([])).getD ((x0.from_.getD q51.2.toNat aO.z).join).toNat bO)++y64)).size+y67.size<=maxLen) (u52 (((q51.1++(((([[(bm #[32,70,82,79,77,32]),(bm #[32,70,82,79,77,32])],[(bm #[32,74,79,73,78,32]),(bm #[32,76,69,70,84,32,74,79,73,78,32])]]).getD (dW q51.2 1).toNat ([])).getD ((x0.from_.getD q51.2.toNat aO.z).join).toNat bO)++y64))++y67),(i64.wrap (q51.2+1)))))))))))) (call (F.p47 (bm #[32,87,72,69,82,69,32]) x0.where_) fun y70=>(aR (q51.1.size+y70.size<=maxLen) (call (F.p47 (bm #[32,71,82,79,85,80,32,66,89,32]) x0.group) fun y72=>(aR ((q51.1++y70).size+y72.size<=maxLen) (call (F.p47 (bm #[32,72,65,86,73,78,71,32]) x0.having) fun y74=>(aR (((q51.1++y70)++y72).size+y74.size<=maxLen) (some (((q51.1++y70)++y72)++y74)))))))))) bQ (q34.1,0)))) bQ (q27,0)))))
def d46 (F:cO) (H:F.Ok):JR (Bc F):=fun x0 r h=>by
 intro s;unfold Bc at h;refine ac func46 ntmps46 ?_;refine rg ?_;apply aB.seq;refine rg ?_;refine wz h (fun h=>?_) fun h=>?_
 ·refine rg ?_;apply aB.seq;refine rg ?_;apply aB.block;refine aB.Gw 3 (9,1) (.inl (by rfl)) fun g4 hg4=>?_;change (s).own g4=none at hg4;have fr5:Fr s (List.map Prod.fst [(g4,(9,1))]):=Fr.snoc (l:=[]) (Fr.nil s) hg4;refine aB.pA (X:=(List ByteArray)×Int) (G:=Nat) h (fun gq11=>Fr s (List.map Prod.fst [(gq11,(9,1))])) (fun q9 gq11=>bN [(3,.own gq11 1 (List.map (fun x=>[aM x]) q9.1)),(16,.slice 1 (List.map (fun x=>[V.slice 10 (x.map aA.v)]) x0.values)),(17,aI (x0.values.length:Int)),(18,aI q9.2)] [] (cJ s [(gq11,(9,1))]) 97) ?_ ?_
  ·exact⟨g4,fr5,bX⟩
  ·rintro u10 ⟨v6,v8⟩ h g7 hg7f;(try dsimp only at h ⊢);refine rg ?_;apply aB.seq;refine wz h (fun h=>?_) fun h=>?_
   ·apply sK;apply aB.seq;apply aB.block;obtain⟨hn16,h⟩:=aV h;refine bG (ai (aJ hn16.1)<|ai (aJ hn16.2)<|(bW (fun x=>[V.slice 10 (x.map aA.v)]) ([]) hn16)) ?_;refine aB.fW fun Z17 hZ17=>?_;refine sy ?_;obtain⟨y18,hy18,h⟩:=cC h;refine dV (H.p36_1 (x0.values.getD v8.toNat ([])) (bm #[44,32]) _ hy18) ?_;obtain⟨hn19,h⟩:=aV h;obtain⟨hn20,h⟩:=aV h;obtain⟨hn21,h⟩:=aV h;(try simp only[aJ hn19,aJ hn20,xs,xa,Nat.reduceAdd,seval,reduceCtorEq])
    first|refine mL hg7f hn21 fun g22 hg22=>?_|refine mM hg7f hn21 fun g22 hg22=>?_
    have fr23:Fr s (List.map Prod.fst [(g22,(9,1))]):=Fr.rep (a:=[]) (b:=[]) hg7f hg22;(try simp only[aJ hn19,aJ hn20,xs,xa,Nat.reduceAdd,seval,reduceCtorEq]);refine hZ17 _ ?_;clear hZ17 Z17;refine tS (Fr.mN (a:=[]) (b:=[]) hg7f hg22) (s':=(cJ s [(g22,(9,1))])) ?_;refine r1 ?_;exact⟨((v6++([(((bm #[40])++y18)++(bm #[41]))])),(i64.wrap (v8+1))),h,g22,fr23,bX⟩
   ·apply aB.exit;simp only[dR,seval];obtain⟨y24,hy24,h⟩:=cC h;obtain⟨hn25,h⟩:=aV h;refine tG (aJ hn25) (Wt v6 (bm #[44,32]) _ hy24) ?_;cases h;exact aB.ret (Da (Fr.drop (l:=[(g7,(9,1))]) hg7f) [.tmp 2])
 ·apply sK;refine rg ?_;refine jn h (fun q27=>bN [(1,.loc 1 0),(6,aM q27)] [(1,(x0.v,75))] s 97) (fun u28 h=>?_) ?_
  ·refine rg ?_;refine wz h (fun h=>?_) fun h=>?_
   ·obtain⟨hn30,h⟩:=aV h;refine bU (aJ hn30) ?_;exact⟨((bm #[83,69,76,69,67,84,32])++(bm #[68,73,83,84,73,78,67,84,32])),h,bX⟩
   ·apply sK;exact⟨(bm #[83,69,76,69,67,84,32]),h,bX⟩
  ·rintro v26 h;apply aB.seq;refine rg ?_;apply aB.block;refine lp h (fun q34=>bN [(1,.loc 1 0),(6,aM q34.1),(38,.slice 4 (x0.items.map bA.v)),(39,aI (x0.items.length:Int)),(40,aI q34.2)] [(1,(x0.v,75))] s 97) ?_ ?_
   ·exact bX
   ·rintro u35 ⟨v32,v33⟩ h;(try dsimp only at h ⊢);refine rg ?_;apply aB.seq;refine wz h (fun h=>?_) fun h=>?_
    ·apply sK;apply aB.seq;apply aB.block;obtain⟨hn40,h⟩:=aV h;refine bG (ai (aJ hn40.1)<|ai (aJ hn40.2)<|(bW bA.v bA.z hn40)) ?_;refine jn h (fun q42=>bN [(1,.loc 1 0),(6,aM q42),(8,.loc 8 0),(38,.slice 4 (x0.items.map bA.v)),(39,aI (x0.items.length:Int)),(40,aI v33)] [(1,(x0.v,75)),(8,((x0.items.getD v33.toNat bA.z).v,114))] s 97) (fun u43 h=>?_) ?_
     ·refine rg ?_;refine wz h (fun h=>?_) fun h=>?_
      ·obtain⟨hn45,h⟩:=aV h;refine bU (aJ hn45) ?_;exact⟨(v32++(bm #[44,32])),h,bX⟩
      ·apply sK;exact⟨v32,h,bX⟩
     ·rintro v41 h;obtain⟨y46,hy46,h⟩:=cC h;obtain⟨hn47,h⟩:=aV h;refine kO (aJ hn47) (H.p87 (x0.items.getD v33.toNat bA.z) _ hy46) ?_;refine r1 ?_;exact⟨((v41++y46),(i64.wrap (v33+1))),h,bX⟩
    ·apply aB.exit;simp only[dR,seval];apply aB.seq;refine rg ?_;apply aB.block;refine lp h (fun q51=>bN [(1,.loc 1 0),(6,aM q51.1),(55,.slice 5 (x0.from_.map aO.v)),(56,aI (x0.from_.length:Int)),(57,aI q51.2)] [(1,(x0.v,75))] s 97) ?_ ?_
     ·exact bX
     ·rintro u52 ⟨v49,v50⟩ h;(try dsimp only at h ⊢);refine rg ?_;apply aB.seq;refine wz h (fun h=>?_) fun h=>?_
      ·apply sK;apply aB.seq;apply aB.block;obtain⟨hn57,h⟩:=aV h;refine bG (ai (aJ hn57.1)<|ai (aJ hn57.2)<|(bW aO.v aO.z hn57)) ?_;obtain⟨hn59,h⟩:=aV h;have hg60:(List.map (fun x=>[V.slice 1 (List.map (fun x=>[aM x]) x)]) ([[(bm #[32,70,82,79,77,32]),(bm #[32,70,82,79,77,32])],[(bm #[32,74,79,73,78,32]),(bm #[32,76,69,70,84,32,74,79,73,78,32])]])).getD (dW v50 1).toNat []=(fun x=>[V.slice 1 (List.map (fun x=>[aM x]) x)]) (([[(bm #[32,70,82,79,77,32]),(bm #[32,70,82,79,77,32])],[(bm #[32,74,79,73,78,32]),(bm #[32,76,69,70,84,32,74,79,73,78,32])]]).getD (dW v50 1).toNat ([])):=bW (fun x=>[V.slice 1 (List.map (fun x=>[aM x]) x)]) ([]) hn59;simp only[dG,eZ] at hg60;have hg61:((dW v50 1)<2)=True:=aJ (by simpa using hn59.2);obtain⟨hn63,h⟩:=aV h;obtain⟨y64,hy64,h⟩:=cC h;obtain⟨hn65,h⟩:=aV h;obtain⟨hn66,h⟩:=aV h;refine Fa [0,1,2,3,4,5,6,7,8,9,10,11,12,13,14,15,16] [100069,100071,100073] (ai (aJ hn59.1)<|ai (aJ hn59.2)<|ai (bW (fun x=>[V.slice 1 (List.map (fun x=>[aM x]) x)]) ([]) hn59)<|ai hg60<|ai hg61<|ai (aJ hn63.1)<|ai (aJ hn63.2)<|ai (bW (fun x=>[aM x]) bO hn63)<|ai (aJ hn65)<|(aJ hn66)) (H.p88 (x0.from_.getD v50.toNat aO.z) _ hy64) ?_;obtain⟨y67,hy67,h⟩:=cC h;obtain⟨hn68,h⟩:=aV h;refine kO (aJ hn68) (H.p47 (bm #[32,79,78,32]) ((x0.from_.getD v50.toNat aO.z).on) _ hy67) ?_
       refine r1 ?_;exact⟨(((v49++(((([[(bm #[32,70,82,79,77,32]),(bm #[32,70,82,79,77,32])],[(bm #[32,74,79,73,78,32]),(bm #[32,76,69,70,84,32,74,79,73,78,32])]]).getD (dW v50 1).toNat ([])).getD ((x0.from_.getD v50.toNat aO.z).join).toNat bO)++y64))++y67),(i64.wrap (v50+1))),h,bX⟩
      ·apply aB.exit;simp only[dR,seval];refine lL [0,1,2,5,6,9,10,3,4,7,8,11,12,13] [100090,100094] fun Z69 hZ69=>?_;(try simp only[eY,Nat.reduceBEq,xs,xa,Nat.reduceAdd,seval,reduceCtorEq]);obtain⟨y70,hy70,h⟩:=cC h;refine dV (H.p47 (bm #[32,87,72,69,82,69,32]) x0.where_ _ hy70) ?_;obtain⟨hn71,h⟩:=aV h;(try simp only[aJ hn71,eY,Nat.reduceBEq,xs,xa,Nat.reduceAdd,seval,reduceCtorEq]);obtain⟨y72,hy72,h⟩:=cC h;refine dV (H.p47 (bm #[32,71,82,79,85,80,32,66,89,32]) x0.group _ hy72) ?_;obtain⟨hn73,h⟩:=aV h;(try simp only[aJ hn71,aJ hn73,eY,Nat.reduceBEq,xs,xa,Nat.reduceAdd,seval,reduceCtorEq]);obtain⟨y74,hy74,h⟩:=cC h;refine dV (H.p47 (bm #[32,72,65,86,73,78,71,32]) x0.having _ hy74) ?_;obtain⟨hn75,h⟩:=aV h;(try simp only[aJ hn71,aJ hn73,aJ hn75,eY,Nat.reduceBEq,xs,xa,Nat.reduceAdd,seval,reduceCtorEq]);refine hZ69 _ ?_;clear hZ69 Z69;cases h;exact aB.ret (bM [.tmp 2])
def Lq (F:cO) (x0:ByteArray) (x1:(List aA)):Option (ByteArray):=(aE ((x1.length:Int)==0) (some (bm #[])) (call (F.p36_1 x1 (bm #[44,32])) fun y3=>(aR (x0.size+y3.size<=maxLen) (some (x0++y3)))))
def d47 (F:cO) (H:F.Ok):JQ (Lq F):=fun x0 x1 r h=>by
 intro s;unfold Lq at h;refine ac func47 ntmps47 ?_;refine rg ?_;apply aB.seq;refine rg ?_;refine wz h (fun h=>?_) fun h=>?_
 ·refine rg ?_;cases h;exact aB.ret (bM [.tmp 4])
 ·apply sK;obtain⟨y3,hy3,h⟩:=cC h;obtain⟨hn4,h⟩:=aV h;refine tG (aJ hn4) (H.p36_1 x1 (bm #[44,32]) _ hy3) ?_;cases h;exact aB.ret (bM [.tmp 4])
def Lh (F:cO) (x0:bA):Option (ByteArray):=(join (fun u4=>(aE x0.star (u4 (!(x0.table.data.toList==(bm #[]).data.toList))) (u4 false))) (fun(q3:Bool)=>(aE q3 (aR (x0.table.size+(bm #[46,42]).size<=maxLen) (some (x0.table++(bm #[46,42])))) (aE x0.star (some (bm #[42])) (aR (0<=(0:Int)∧(0:Int)<(x0.expr.length:Int)) (call (F.p13 (x0.expr.getD 0 aA.z)) fun y12=>(call (Cz x0.az) fun y13=>(aR (y12.size+y13.size<=maxLen) (some (y12++y13))))))))))
def d87 (F:cO) (H:F.Ok):JH (Lh F):=fun x0 r h=>by
 intro s;unfold Lh at h;refine ac func87 ntmps87 ?_;refine rg ?_;apply aB.seq;apply aB.block;refine jn h (fun q3=>bN [(1,.loc 1 0),(3,aY q3)] [(1,(x0.v,114))] s 26) (fun u4 h=>?_) ?_
 ·refine wy h (fun hg5 h=>?_) fun hg5 h=>?_
  ·refine bU hg5 ?_;exact⟨(!(x0.table.data.toList==(bm #[]).data.toList)),h,bB hg5⟩
  ·refine bU hg5 ?_;exact⟨false,h,bB hg5⟩
 ·rintro v2 h;refine wz h (fun h=>?_) fun h=>?_
  ·obtain⟨hn7,h⟩:=aV h;refine bG (aJ hn7) ?_;cases h;exact aB.ret (bM [.tmp 2])
  ·refine rg ?_;refine wz h (fun h=>?_) fun h=>?_
   ·refine rg ?_;cases h;exact aB.ret (bM [.tmp 2])
   ·apply sK;obtain⟨hn10,h⟩:=aV h;have hg11:(x0.expr.map aA.v).getD 0 []=aA.v (x0.expr.getD 0 aA.z):=bW aA.v aA.z hn10;obtain⟨y12,hy12,h⟩:=cC h;obtain⟨y13,hy13,h⟩:=cC h;obtain⟨hn14,h⟩:=aV h;refine Iw [0,1,2,3,5,6,4,7,8,9] [100023] (ai (aJ hn10.1)<|ai (aJ hn10.2)<|ai (bW aA.v aA.z hn10)<|ai hg11<|(aJ hn14)) (H.p13 (x0.expr.getD 0 aA.z) _ hy12) (Wi x0.az _ hy13) ?_;cases h;exact aB.ret (bM [.tmp 2])
def Lg (F:cO) (x0:aO):Option (ByteArray):=(aE (decide ((x0.sub.length:Int)>0)) (aR (0<=(0:Int)∧(0:Int)<(x0.sub.length:Int)) (call (F.p20 (x0.sub.getD 0 aF.z)) fun y6=>(aR ((bm #[40]).size+y6.size<=maxLen) (aR (((bm #[40])++y6).size+(bm #[41]).size<=maxLen) (call (Cz x0.az) fun y9=>(aR ((((bm #[40])++y6)++(bm #[41])).size+y9.size<=maxLen) (some ((((bm #[40])++y6)++(bm #[41]))++y9)))))))) (call (Cz x0.az) fun y11=>(aR (x0.name.size+y11.size<=maxLen) (some (x0.name++y11)))))
def d88 (F:cO) (H:F.Ok):JG (Lg F):=fun x0 r h=>by
 intro s;unfold Lg at h;refine ac func88 ntmps88 ?_;refine rg ?_;apply aB.seq;refine rg ?_;refine wz h (fun h=>?_) fun h=>?_
 ·obtain⟨hn4,h⟩:=aV h;have hg5:(x0.sub.map aF.v).getD 0 []=aF.v (x0.sub.getD 0 aF.z):=bW aF.v aF.z hn4;obtain⟨y6,hy6,h⟩:=cC h;obtain⟨hn7,h⟩:=aV h;obtain⟨hn8,h⟩:=aV h;obtain⟨y9,hy9,h⟩:=cC h;obtain⟨hn10,h⟩:=aV h;refine Iw [0,1,2,3,7,8,4,5,6,9,10,11] [100015] (ai (aJ hn4.1)<|ai (aJ hn4.2)<|ai (bW aF.v aF.z hn4)<|ai hg5<|ai (aJ hn7)<|ai (aJ hn8)<|(aJ hn10)) (H.p20 (x0.sub.getD 0 aF.z) _ hy6) (Wi x0.az _ hy9) ?_;cases h;exact aB.ret (bM [.tmp 2])
 ·apply sK;obtain⟨y11,hy11,h⟩:=cC h;obtain⟨hn12,h⟩:=aV h;refine Fa [0,1,2,3,4,5,6] [100019] (aJ hn12) (Wi x0.az _ hy11) ?_;cases h;exact aB.ret (bM [.tmp 2])
def cO.fix:Nat->cO
 |0=>⟨fun _=>none,fun _=>none,fun _=>none,fun _ _=>none,fun _=>none,fun _=>none,fun _ _=>none,fun _=>none,fun _=>none⟩
 |n+1=>⟨lC (cO.fix n),jD (cO.fix n),Ls (cO.fix n),Kb (cO.fix n),wM (cO.fix n),Bc (cO.fix n),Lq (cO.fix n),Lh (cO.fix n),Lg (cO.fix n)⟩
def cO.ok:∀n,cO.Ok (cO.fix n)
 |0=>by constructor<;>(repeat intro _)<;>contradiction
 |n+1=>⟨d13 _ (cO.ok n),d20 _ (cO.ok n),d34 _ (cO.ok n),aEy _ (cO.ok n),d37 _ (cO.ok n),d46 _ (cO.ok n),d47 _ (cO.ok n),d87 _ (cO.ok n),d88 _ (cO.ok n)⟩
def IX:=(cO.fix bQ).p13
def c13:=(cO.ok bQ).p13
def Jn (x0:ByteArray):Option (aA×Int×Int):=(call (Lc x0) fun y1=>(aE (y1.2.2 != 0) (some ((aA.mk 0 false bO bO 0 (aH.mk 0 0 bO) ([]:List aA) ([]:List aF)),y1.2.1,y1.2.2)) (call (Ia Oo y1.1 0 0) fun y5=>(join (fun u10=>(aE (y5.2.2 != 0) (u10 true) (u10 (decide (y5.2.1.at_<(y1.1.length:Int)))))) (fun(q9:Bool)=>(aE q9 (aE (decide (y5.2.1.at_<(y1.1.length:Int))) (aR (0<=y5.2.1.at_∧y5.2.1.at_<(y1.1.length:Int)) (some ((aA.mk 0 false bO bO 0 (aH.mk 0 0 bO) ([]:List aA) ([]:List aF)),(y1.1.getD y5.2.1.at_.toNat aP.z).at_,260))) (some ((aA.mk 0 false bO bO 0 (aH.mk 0 0 bO) ([]:List aA) ([]:List aF)),(x0.size:Int),260))) (call (Px y5.1) fun y20=>(aE (decide (y20>12)) (some ((aA.mk 0 false bO bO 0 (aH.mk 0 0 bO) ([]:List aA) ([]:List aF)),0,261)) (some (y5.1,0,0))))))))))
def aE9 (x0:ByteArray) (r:aA×Int×Int) (h:Jn x0=some r):cG prog 14 [aM x0,.func 15 [] [],.func 16 [] []] (.tuple [.agg r.1.v,aI r.2.1,aI r.2.2]):=by
 intro s;unfold Jn at h;refine ac func14 ntmps14 ?_;refine rg ?_;refine rg ?_;refine dH (c40 x0) h fun y1 _ h=>?_;apply aB.seq;refine rg ?_;refine wz h (fun h=>?_) fun h=>?_
 ·refine rg ?_;cases h;exact aB.ret (bM [.cell 6 29,.tmp 7,.tmp 8])
 ·apply sK;refine aB.eD fun Z4 hZ4=>?_;refine sx ?_;obtain⟨y5,hy5,h⟩:=cC h;refine(m8 (R:=Oo) aE8 _ hy5 _).goNew fun e6 he6=>?_;change (s).box e6=none at he6;have ne6:s.box e6=none:=by simpa only[cU,fI,ne_eq,eJ] using he6
  refine sx ?_;refine hZ4 _ ?_;clear hZ4 Z4;apply aB.seq;refine jn h (fun q9=>bN [(0,aM x0),(2,.func 16 [] []),(6,.loc 6 0),(9,.loc 9 0),(10,.slice 3 (y1.1.map aP.v)),(13,.loc 13 0),(14,.ptr e6 0),(43,aY q9)] [(6,([aI 0,aY false,aM bO,aM bO,aI 0,aI 0,aI 0,aM bO,.nil,.nil],29)),(9,([aI 0,aY false,aM bO,aM bO,aI 0,aI 0,aI 0,aM bO,.nil,.nil],29)),(13,(y5.1.v,29))] (s.aU e6 (rB y5.2.1)) 69) (fun u10 h=>?_) ?_
  ·refine wy h (fun hg11 h=>?_) fun hg11 h=>?_
   ·refine bU hg11 ?_;exact⟨true,h,bB hg11⟩
   ·refine bU hg11 ?_;exact⟨(decide (y5.2.1.at_<(y1.1.length:Int))),h,bB hg11⟩
  ·rintro v8 h;refine wz h (fun h=>?_) fun h=>?_
   ·apply aB.seq;refine rg ?_;refine wz h (fun h=>?_) fun h=>?_
    ·refine aB.regLT mixed 5 9 [0,1,2,3,4,5,6,7,8,9,10,11] [0,1,2,3,4,9,5,6,7,8,10,11] (by decide+kernel) [6,100059] [6] (by decide+kernel) (by decide+kernel) (fun Z15 hZ15=>?_) (fun Z15 hZ15=>?_)
     ·obtain⟨hn18,h⟩:=aV h;(try simp only[aJ hn18.1,aJ hn18.2,bW aP.v aP.z hn18,pL,sC,eY,Nat.reduceBEq,xm,Nat.reduceAdd,Nat.reduceLeDiff,seval,reduceCtorEq]);refine hZ15 _ ?_;clear hZ15 Z15;refine aB.ret ?_;refine⟨_,St.to.refl _,?_⟩;obtain rfl:=eS h;refine qX (vs:=[.agg [aI 0,aY false,aM bO,aM bO,aI 0,aI 0,aI 0,aM bO,.nil,.nil],aI ((y1.1.getD y5.2.1.at_.toNat aP.z).at_),aI 260]) (v:=.tuple [.agg (aA.mk 0 false bO bO 0 (aH.mk 0 0 bO) ([]:List aA) ([]:List aF)).v,aI ((y1.1.getD y5.2.1.at_.toNat aP.z).at_),aI 260]) (by show dC prog _ [.cell 6 29,.tmp 7,.tmp 8]=_;simp only[dC,nQ,aA.vs,aD.vs,aP.vs,am,seval,reduceCtorEq]) (Wk.tuple ⟨Wk.agg (by rw[aA.aC];exact⟨Wk.refl _,Wk.refl _,Wk.refl _,Wk.refl _,Wk.refl _,Wk.refl _,Wk.refl _,Wk.refl _,Wk.nil _,Wk.nil _,trivial⟩),Wk.refl _,Wk.refl _,trivial⟩) (aL.le.trans (aL.le.qP (by simp only[cU,fI,ne_eq,eJ,ne6]) _) (aL.le.refl _)) ⟨?_,rfl⟩;rfl
     ·obtain⟨hn18,h⟩:=aV h;(try simp only[aJ hn18.1,aJ hn18.2,bW aP.v aP.z hn18,pL,sC,eY,Nat.reduceBEq,xm,Nat.reduceAdd,Nat.reduceLeDiff,seval,reduceCtorEq]);refine hZ15 _ ?_;clear hZ15 Z15;refine aB.ret ?_;refine⟨_,St.to.refl _,?_⟩;obtain rfl:=eS h;refine qX (vs:=[.agg [aI 0,aY false,aM bO,aM bO,aI 0,aI 0,aI 0,aM bO,.nil,.nil],aI ((y1.1.getD y5.2.1.at_.toNat aP.z).at_),aI 260]) (v:=.tuple [.agg (aA.mk 0 false bO bO 0 (aH.mk 0 0 bO) ([]:List aA) ([]:List aF)).v,aI ((y1.1.getD y5.2.1.at_.toNat aP.z).at_),aI 260]) (by show dC prog _ [.cell 6 29,.tmp 7,.tmp 8]=_;simp only[dC,nQ,aA.vs,aD.vs,aP.vs,am,seval,reduceCtorEq]) (Wk.tuple ⟨Wk.agg (by rw[aA.aC];exact⟨Wk.refl _,Wk.refl _,Wk.refl _,Wk.refl _,Wk.refl _,Wk.refl _,Wk.refl _,Wk.refl _,Wk.nil _,Wk.nil _,trivial⟩),Wk.refl _,Wk.refl _,trivial⟩) (aL.le.trans (aL.le.qP (by simp only[cU,fI,ne_eq,eJ,ne6]) _) (aL.le.refl _)) ⟨?_,rfl⟩;rfl
    ·apply sK;refine rg ?_;refine aB.ret ?_;refine⟨_,St.to.refl _,?_⟩;obtain rfl:=eS h;refine qX (vs:=[.agg [aI 0,aY false,aM bO,aM bO,aI 0,aI 0,aI 0,aM bO,.nil,.nil],aI (x0.size:Int),aI 260]) (v:=.tuple [.agg (aA.mk 0 false bO bO 0 (aH.mk 0 0 bO) ([]:List aA) ([]:List aF)).v,aI (x0.size:Int),aI 260]) (by show dC prog _ [.cell 6 29,.tmp 7,.tmp 8]=_;simp only[dC,nQ,aA.vs,aD.vs,aP.vs,am,seval,reduceCtorEq]) (Wk.tuple ⟨Wk.agg (by rw[aA.aC];exact⟨Wk.refl _,Wk.refl _,Wk.refl _,Wk.refl _,Wk.refl _,Wk.refl _,Wk.refl _,Wk.refl _,Wk.nil _,Wk.nil _,trivial⟩),Wk.refl _,Wk.refl _,trivial⟩) (aL.le.trans (aL.le.qP (by simp only[cU,fI,ne_eq,eJ,ne6]) _) (aL.le.refl _)) ⟨?_,rfl⟩;rfl
   ·apply sK;apply aB.seq;refine dH (JE y5.1) h fun y20 _ h=>?_;refine wz h (fun h=>?_) fun h=>?_
    ·refine rg ?_;refine aB.ret ?_;refine⟨_,St.to.refl _,?_⟩;obtain rfl:=eS h;refine qX (vs:=[.agg [aI 0,aY false,aM bO,aM bO,aI 0,aI 0,aI 0,aM bO,.nil,.nil],aI 0,aI 261]) (v:=.tuple [.agg (aA.mk 0 false bO bO 0 (aH.mk 0 0 bO) ([]:List aA) ([]:List aF)).v,aI 0,aI 261]) (by show dC prog _ [.cell 6 29,.tmp 7,.tmp 8]=_;simp only[dC,nQ,aA.vs,aD.vs,aP.vs,am,seval,reduceCtorEq]) (Wk.tuple ⟨Wk.agg (by rw[aA.aC];exact⟨Wk.refl _,Wk.refl _,Wk.refl _,Wk.refl _,Wk.refl _,Wk.refl _,Wk.refl _,Wk.refl _,Wk.nil _,Wk.nil _,trivial⟩),Wk.refl _,Wk.refl _,trivial⟩) (aL.le.trans (aL.le.qP (by simp only[cU,fI,ne_eq,eJ,ne6]) _) (aL.le.refl _)) ⟨?_,rfl⟩;rfl
    ·apply sK;refine rg ?_;refine aB.ret ?_;refine⟨_,St.to.refl _,?_⟩;obtain rfl:=eS h;refine qX (vs:=[.agg y5.1.v,aI 0,aI 0]) (v:=.tuple [.agg y5.1.v,aI 0,aI 0]) (by show dC prog _ [.cell 6 29,.tmp 7,.tmp 8]=_;simp only[dC,nQ,aA.vs,aD.vs,aP.vs,am,seval,reduceCtorEq]) (Wk.tuple ⟨Wk.refl _,Wk.refl _,Wk.refl _,trivial⟩) (aL.le.trans (aL.le.qP (by simp only[cU,fI,ne_eq,eJ,ne6]) _) (aL.le.refl _)) ⟨?_,rfl⟩;rfl
def s5 (x0:aA):Option (ByteArray×Int):=(call (Py x0) fun y2=>(aE (y2 != 0) (some ((bm #[]),y2)) (call (IX x0) fun y4=>(some (y4,0)))))
def c5 (x0:aA) (r:ByteArray×Int) (h:s5 x0=some r):cG prog 5 [.agg x0.v] (.tuple [aM r.1,aI r.2]):=by
 intro s;unfold s5 at h;refine ac func5 ntmps5 ?_;refine rg ?_;apply aB.seq;refine dH (c12 x0) h fun y2 _ h=>?_;refine rg ?_;refine wz h (fun h=>?_) fun h=>?_
 ·refine rg ?_;cases h;exact aB.ret (bM [.tmp 2,.tmp 3])
 ·apply sK;refine dH (c13 x0) h fun y4 _ h=>?_;cases h;exact aB.ret (bM [.tmp 2,.tmp 3])
def s7 (x0:ByteArray):Option (aA×Int×Int):=(call (Jn x0) fun y1=>(some (y1.1,y1.2.1,y1.2.2)))
def c7 (x0:ByteArray) (r:aA×Int×Int) (h:s7 x0=some r):cG prog 7 [aM x0] (.tuple [.agg r.1.v,aI r.2.1,aI r.2.2]):=by
 intro s;unfold s7 at h;refine ac func7 ntmps7 ?_;refine rg ?_;refine dH (aE9 x0) h fun y1 _ h=>?_;cases h;exact aB.ret (bM [.cell 2 29,.tmp 3,.tmp 4])
def s6:Option (Bool):=(call (s7 (bm #[97,32,43,32,49])) fun y1=>(call (s5 y1.1) fun y2=>(call (s7 (bm #[97,32,98])) fun y3=>(join (fun u6=>(aE (y1.2.2==0) (aE (y2.2==0) (aE (y2.1.data.toList==(bm #[97,32,43,32,49]).data.toList) (aE (y3.2.2==260) (u6 (y3.2.1==2)) (u6 false)) (u6 false)) (u6 false)) (u6 false))) (fun(q5:Bool)=>(some q5))))))
def c6 (r:Bool) (h:s6=some r):cG prog 6 [] (aY r):=by
 intro s;unfold s6 at h;refine ac func6 ntmps6 ?_;refine rg ?_;refine dH (c7 (bm #[97,32,43,32,49])) h fun y1 _ h=>?_;refine dH (c5 y1.1) h fun y2 _ h=>?_;refine dH (c7 (bm #[97,32,98])) h fun y3 _ h=>?_;refine jn h (fun q5=>bN [(0,aY q5)] [] s 42) (fun u6 h=>?_) ?_
 ·refine wy h (fun hg7 h=>?_) fun hg7 h=>?_
  ·refine wy h (fun hg8 h=>?_) fun hg8 h=>?_
   ·refine wy h (fun hg9 h=>?_) fun hg9 h=>?_
    ·refine wy h (fun hg10 h=>?_) fun hg10 h=>?_
     ·refine bU (ai hg7<|ai hg8<|ai hg9<|hg10) ?_;exact⟨(y3.2.1==2),h,bB (ai hg7<|ai hg8<|ai hg9<|hg10)⟩
     ·refine bU (ai hg7<|ai hg8<|ai hg9<|hg10) ?_;exact⟨false,h,bB (ai hg7<|ai hg8<|ai hg9<|hg10)⟩
    ·refine bU (ai hg7<|ai hg8<|hg9) ?_;exact⟨false,h,bB (ai hg7<|ai hg8<|hg9)⟩
   ·refine bU (ai hg7<|hg8) ?_;exact⟨false,h,bB (ai hg7<|hg8)⟩
  ·refine bU hg7 ?_;exact⟨false,h,bB hg7⟩
 ·rintro v4 h;cases h;exact aB.ret (bM [.tmp 0])
def s3 (x0:aA):Option (Bool):=(call (s5 x0) fun y1=>(call s6 fun y3=>(aE (!y3) (some false) (join (fun u8=>(aE (y1.2 != 0) (u8 true) (u8 (decide ((y1.1.size:Int)>2000))))) (fun(q7:Bool)=>(aE q7 (join (fun u13=>(aE (y1.2==0) (u13 true) (aE (y1.2==261) (u13 true) (u13 (y1.2==262))))) (fun(q12:Bool)=>(some q12))) (call (s7 y1.1) fun y16=>(join (fun u19=>(aE (y16.2.2==0) (aE (y16.2.1==0) (call (s8 y16.1 x0) fun y22=>(u19 y22)) (u19 false)) (u19 false))) (fun(q18:Bool)=>(some q18))))))))))
def c3 (x0:aA) (r:Bool) (h:s3 x0=some r):cG prog 3 [.agg x0.v] (aY r):=by
 intro s;unfold s3 at h;refine ac func3 ntmps3 ?_;refine rg ?_;refine dH (c5 x0) h fun y1 _ h=>?_;apply aB.seq;refine dH (c6) h fun y3 _ h=>?_;refine wz h (fun h=>?_) fun h=>?_
 ·refine rg ?_;cases h;exact aB.ret (bM [.tmp 2])
 ·apply sK;apply aB.seq;refine jn h (fun q7=>bN [(1,.loc 1 0),(3,aM y1.1),(4,aI y1.2),(21,aY q7)] [(1,(x0.v,29))] s 49) (fun u8 h=>?_) ?_
  ·refine wy h (fun hg9 h=>?_) fun hg9 h=>?_
   ·refine bU hg9 ?_;exact⟨true,h,bB hg9⟩
   ·refine bU hg9 ?_;exact⟨(decide ((y1.1.size:Int)>2000)),h,bB hg9⟩
  ·rintro v6 h;refine wz h (fun h=>?_) fun h=>?_
   ·refine jn h (fun q12=>bN [(2,aY q12)] [] s 49) (fun u13 h=>?_) ?_
    ·refine wy h (fun hg14 h=>?_) fun hg14 h=>?_
     ·refine bU hg14 ?_;exact⟨true,h,bB hg14⟩
     ·refine wy h (fun hg15 h=>?_) fun hg15 h=>?_
      ·refine bU (ai hg14<|hg15) ?_;exact⟨true,h,bB (ai hg14<|hg15)⟩
      ·refine bU (ai hg14<|hg15) ?_;exact⟨(y1.2==262),h,bB (ai hg14<|hg15)⟩
    ·rintro v11 h;cases h;exact aB.ret (bM [.tmp 2])
   ·apply sK;refine dH (c7 y1.1) h fun y16 _ h=>?_;refine jn h (fun q18=>bN [(2,aY q18)] [] s 49) (fun u19 h=>?_) ?_
    ·refine wy h (fun hg20 h=>?_) fun hg20 h=>?_
     ·refine wy h (fun hg21 h=>?_) fun hg21 h=>?_
      ·refine iA (ai hg20<|hg21) (c8 y16.1 x0) h fun y22 _ h=>?_;exact⟨y22,h,bB (ai hg20<|hg21)⟩
      ·refine bU (ai hg20<|hg21) ?_;exact⟨false,h,bB (ai hg20<|hg21)⟩
     ·refine bU hg20 ?_;exact⟨false,h,bB hg20⟩
    ·rintro v17 h;cases h;exact aB.ret (bM [.tmp 2])
end Go.Proofs.YtlfbdcfnimnhiaaGreatDoor.Ex
namespace Go.Am
def jW {i n:Nat} (hi:i<n) (hn:n<=4611686018427387000):i64.wrap ((i:Int)+1)=((i+1:Nat):Int):=by
 rw[nK (by omega) (by omega)];simp
def bV {α:Type} {p:Prop} [Decidable p] {k:Option α} (h:p):aR p k=k:=if_pos h
def bL {α:Type} {a b:Option α}:aE true a b=a:=rfl
def aQ {α:Type} {a b:Option α}:aE false a b=b:=rfl
def wq (a b:Int) (h:(a==b)=false) {α:Type} {x y:Option α}:aE (a==b) x y=y:=by rw[h,aQ]
def aN {α β:Type} {y:α} {f:α->Option β}:call (some y) f=f y:=rfl
def bY {X α:Type} {b:(X->Option α)->Option α} {k:X->Option α}:join b k=b k:=rfl
def eX {X α:Type} {b:(X->Option α)->X->Option α} {n:Nat} {q:X}:cF b (n+1) q=b (cF b n) q:=rfl
def Bw {b c:Bool}:aE b (some c) (some false)=some (b&&c):=by cases b<;>rfl
def j9 {b c:Bool}:aE b (some true) (some c)=some (b||c):=by cases b<;>rfl
def k8 {α:Type} {b:Bool} {x y:Option α}:aE b x y=if b=true then x else y:=by cases b<;>rfl
def YV {α:Type} {n:Nat} (hn:n<=4611686018427387000) (p:Nat->Bool) {b:(Int->Option α)->Int->Option α} {E N:Option α}
 (hb:∀k (i:Nat),i<n->b k (i:Int)=if p i=true then k ((i+1:Nat):Int) else N) (he:∀k,b k (n:Int)=E):cF b bQ 0=if(List.range n).all p=true then E else N:=by
 have key:∀i:Nat,i<=n->∀m,n-i<m->cF b m (i:Int)=if(List.range' i (n-i)).all p=true then E else N:=by
  intro i hi m hm
  induction h:n-i generalizing i m with
  |zero=>
   obtain rfl:i=n:=by omega
   cases m with
   |zero=>omega
   |succ m=>rw[eX,he];rfl
  |succ d ih=>
   cases m with
   |zero=>omega
   |succ m=>
    rw[eX,hb _ i (by omega),Hg,tY];cases hp:p i with
    |false=>rfl
    |true=>simp only[if_true,Bool.true_and];exact ih (i+1) (by omega) m (by omega) (by omega)
 have:=key 0 (kK _) bQ (by unfold bQ;omega);rw[<-Bg] at this;exact this
noncomputable def eI {α:Type} (x y:α):Bool:=@decide (x=y) (Classical.propDecidable _)
def uC {α:Type} {x y:α}:eI x y=true↔x=y:=by unfold eI;exact @pJ _ (Classical.propDecidable _)
def BX {α:Type} (x:α):eI x x=true:=uC.2 rfl
def uE {α:Type} {x y:α} {b:Bool} (h:b=true↔x=y):b=eI x y:=by
 rw[Bool.eq_iff_iff,h,uC]
def zU (x y:ByteArray):(x.data.toList==y.data.toList)=eI x y:=uE (by
 rw[eM,xV];exact⟨fun h=>ByteArray.ext h,fun h=>by rw[h]⟩)
def Ce (x y:Int):(x==y)=eI x y:=uE eM
def Bv (x y:Bool):(x==y)=eI x y:=uE eM
def i6 {α:Type} (z:α) {l m:List α} (h:l.length=m.length):(List.range l.length).all (fun i=>eI (l.getD i z) (m.getD i z))=eI l m:=uE (by
 rw[lY];constructor
 ·intro hp;refine List.ext_getElem h fun i h1 h2=>?_;have:=uC.1 (hp i (zQ.2 h1));simpa[fR,h1,h2] using this
 ·rintro rfl i hi;exact BX _)
def ZV {α:Type} {l m:List α} (h:l.length≠m.length):eI l m=false:=by
 cases e:eI l m with
 |false=>rfl
 |true=>exact absurd (by rw[uC.1 e]) h
def yD {α:Type} (p:α->α->Option Bool) (z:α) (l m:List α) (hl:l.length<=4611686018427387000) (hp:∀x∈l,∀y,p x y=some (eI x y)):
 (aE ((l.length:Int) != (m.length:Int)) (some false) (cF (fun(JB:Int->Option (Bool)) (q9:Int)=>(aE (decide (q9<(l.length:Int))) (aR (0<=q9∧q9<(l.length:Int)) (aR (0<=q9∧q9<(m.length:Int)) (call (p (l.getD q9.toNat z) (m.getD q9.toNat z)) fun y22=>(aE (!y22) (some false) (JB (i64.wrap (q9+1))))))) (some true))) bQ 0))=some (eI l m):=by
 by_cases h:l.length=m.length
 ·rw[show((l.length:Int) != (m.length:Int))=false by rw[h];simp,aQ];rw[YV (n:=l.length) hl (fun i=>eI (l.getD i z) (m.getD i z)) (E:=some true) (N:=some false)]
  ·rw[i6 z h];cases eI l m<;>rfl
  ·intro k i hi;rw[show decide ((i:Int)<(l.length:Int))=true by simp;exact hi,bL,bV (by omega),bV (by omega),cZ,hp _ (by
    rw[fR,fH hi];exact sM hi),aN,jW hi hl,k8]
   cases eI (l.getD i z) (m.getD i z)<;>rfl
  ·intro k;rw[show decide ((l.length:Int)<(l.length:Int))=false by simp];rfl
 ·rw[show((l.length:Int) != (m.length:Int))=true by simp;omega,bL,ZV h]
def hJ {α:Type} (f:α->Nat) (h:∀x,1<=f x):∀l:List α,l.length<=(l.map f).sum
 |[]=>dS _
 |x::l=>by have:=hJ f h l;have:=h x;simp only[bF,dG,lZ];omega
def jV {α:Type} (f:α->Nat):∀{l:List α} {x:α},x∈l->f x<=(l.map f).sum
 |y::l,x,h=>by
  simp only[dG,lZ];rcases oR.1 h with rfl|h
  ·omega
  ·have:=jV f h;omega
end Go.Am
namespace Go.Ex
open Go.Am
def aK.exprs (p:aK):List aA:=(p.items.map bA.expr).flatten++(p.from_.map aO.on).flatten++p.where_++p.group++p.having++p.values.flatten
def aK.lI (p:aK):List aF:=(p.from_.map aO.sub).flatten
def aF.exprs (q:aF):List aA:=(q.parts.map aK.exprs).flatten++q.order.map aX.expr++q.limit++q.offset
def aF.lI (q:aF):List aF:=(q.with_.map bE.body).flatten++(q.parts.map aK.lI).flatten
def xY {α β:Type} (f:β->Nat) (g:α->List β) (w:α->Nat):∀l:List α,(∀x∈l,((g x).map f).sum<=w x)->(((l.map g).flatten).map f).sum<=(l.map w).sum
 |[],_=>dS _
 |x::l,h=>by
  have h1:=h x (by simp);have h2:=xY f g w l fun y hy=>h y (by simp[hy]);simp only[dG,Hf,eK,Hh,lZ];omega
def aK.Qg (p:aK):(p.exprs.map aA.w).sum+1<=aK.w p:=by
 rw[aK.dU];have h1:=xY aA.w bA.expr bA.w p.items fun x _=>by rw[bA.dU];omega
 have h2:=xY aA.w aO.on aO.w p.from_ fun x _=>by rw[aO.dU];omega
 have h3:=xY aA.w (fun z:List aA=>z) (fun z:List aA=>(1+(z.map aA.w).sum)) p.values fun x _=>by simp
 simp only[List.map_id'] at h3;simp only[aK.exprs,eK,Hh];omega
def aK.Qi (p:aK):(p.lI.map aF.w).sum+1<=aK.w p:=by
 rw[aK.dU];have h2:=xY aF.w aO.sub aO.w p.from_ fun x _=>by rw[aO.dU];omega
 simp only[aK.lI];omega
def aF.Qg (q:aF):(q.exprs.map aA.w).sum+1<=aF.w q:=by
 rw[aF.dU];have h1:=xY aA.w aK.exprs aK.w q.parts fun x _=>by have:=x.Qg;omega
 have h2:=xY aA.w (fun t:aX=>[t.expr]) aX.w q.order fun x _=>by rw[aX.dU];simp;omega
 have e:(q.order.map fun t:aX=>[t.expr]).flatten=q.order.map aX.expr:=by
  induction q.order with
  |nil=>rfl
  |cons x l ih=>simp[ih]
 rw[e] at h2;simp only[aF.exprs,eK,Hh];omega
def aF.Qi (q:aF):(q.lI.map aF.w).sum+1<=aF.w q:=by
 rw[aF.dU];have h1:=xY aF.w aK.lI aK.w q.parts fun x _=>by have:=x.Qi;omega
 have h2:=xY aF.w bE.body bE.w q.with_ fun x _=>by rw[bE.dU];omega
 simp only[aF.lI,eK,Hh];omega
def aF.Gu {q:aF} {e:aA} (h:e∈q.exprs):aA.w e<aF.w q:=by
 have:=jV aA.w h;have:=q.Qg;omega
def aF.Gt {q s:aF} (h:s∈q.lI):aF.w s<aF.w q:=by
 have:=jV aF.w h;have:=q.Qi;omega
def aA.Gq {t e:aA} (h:e∈t.args):aA.w e<aA.w t:=by
 have:=jV aA.w h;have:=t.dU;omega
def aA.sub_lt {t:aA} {s:aF} (h:s∈t.sub):aF.w s<aA.w t:=by
 have:=jV aF.w h;have:=t.dU;omega
def most (b:Int) (l:List Int):Int:=l.foldl kD b
def Zt (b x:Int) (l:List Int):most b (x::l)=most (kD b x) l:=rfl
def MS (b:Int) (l m:List Int):most b (l++m)=most (most b l) m:=List.foldl_append
def EJ (a b:Int):kD a b=max a b:=by unfold kD;split<;>omega
def Ij {b k:Int}:∀{l:List Int},b<=k->(∀x∈l,x<=k)->most b l<=k
 |[],h,_=>h
 |x::l,h,hl=>by
  rw[Zt,EJ];exact Ij (by have:=hl x (by simp);omega) fun y hy=>hl y (by simp[hy])
def Im (b:Int):∀l:List Int,b<=most b l
 |[]=>Int.le_refl _
 |x::l=>by
  rw[Zt,EJ];exact Int.le_trans (Int.le_max_left _ _) (Im _ l)
structure pW where
 own:aA->Int
 up:Int
def nC (a:pW):Nat->(aA->Int)×(aF->Int)
 |0=>(fun _=>0,fun _=>0)
 |n+1=>(fun e=>most (most (a.own e) (e.args.map (nC a n).1)) (e.sub.map (nC a n).2)+a.up,
  fun q=>most (most 0 (q.exprs.map (nC a n).1)) (q.lI.map (nC a n).2)+a.up)
def xZ {α β:Type} {f g:α->β}:∀{l:List α},(∀x∈l,f x=g x)->l.map f=l.map g
 |[],_=>rfl
 |x::l,h=>by rw[dG,dG,h x (by simp),xZ fun y hy=>h y (by simp[hy])]
def Ik (a:pW):∀n m,(∀e,aA.w e<=n->aA.w e<=m->(nC a n).1 e=(nC a m).1 e)∧(∀q,aF.w q<=n->aF.w q<=m->(nC a n).2 q=(nC a m).2 q)
 |0,m=>⟨fun e h=>by have:=e.fG;omega,fun q h=>by have:=q.fG;omega⟩
 |n+1,0=>⟨fun e _ h=>by have:=e.fG;omega,fun q _ h=>by have:=q.fG;omega⟩
 |n+1,m+1=>by
  obtain⟨i1,i2⟩:=Ik a n m;refine⟨fun e h1 h2=>?_,fun q h1 h2=>?_⟩
  ·show most (most (a.own e) (e.args.map (nC a n).1)) (e.sub.map (nC a n).2)+a.up=most (most (a.own e) (e.args.map (nC a m).1)) (e.sub.map (nC a m).2)+a.up;rw[xZ fun x hx=>i1 x (by have:=aA.Gq hx;omega) (by have:=aA.Gq hx;omega),xZ fun x hx=>i2 x (by have:=aA.sub_lt hx;omega) (by have:=aA.sub_lt hx;omega)]
  ·show most (most 0 (q.exprs.map (nC a n).1)) (q.lI.map (nC a n).2)+a.up=most (most 0 (q.exprs.map (nC a m).1)) (q.lI.map (nC a m).2)+a.up;rw[xZ fun x hx=>i1 x (by have:=aF.Gu hx;omega) (by have:=aF.Gu hx;omega),xZ fun x hx=>i2 x (by have:=aF.Gt hx;omega) (by have:=aF.Gt hx;omega)]
def pW.e (a:pW) (e:aA):Int:=(nC a (aA.w e)).1 e
def pW.q (a:pW) (q:aF):Int:=(nC a (aF.w q)).2 q
def pW.e_eq (a:pW) (e:aA):a.e e=most (most (a.own e) (e.args.map a.e)) (e.sub.map a.q)+a.up:=by
 have h:=e.fG;unfold pW.e;obtain⟨n,hn⟩:∃n,aA.w e=n+1:=⟨aA.w e-1,by omega⟩;rw[hn];show most (most (a.own e) (e.args.map (nC a n).1)) (e.sub.map (nC a n).2)+a.up=_;rw[xZ (g:=a.e) fun x hx=>(Ik a n _).1 x (by have:=aA.Gq hx;omega) (dS _),xZ (g:=a.q) fun x hx=>(Ik a n _).2 x (by have:=aA.sub_lt hx;omega) (dS _)];rfl
def pW.q_eq (a:pW) (q:aF):a.q q=most (most 0 (q.exprs.map a.e)) (q.lI.map a.q)+a.up:=by
 have h:=q.fG;unfold pW.q;obtain⟨n,hn⟩:∃n,aF.w q=n+1:=⟨aF.w q-1,by omega⟩;rw[hn];show most (most 0 (q.exprs.map (nC a n).1)) (q.lI.map (nC a n).2)+a.up=_;rw[xZ (g:=a.e) fun x hx=>(Ik a n _).1 x (by have:=aF.Gu hx;omega) (dS _),xZ (g:=a.q) fun x hx=>(Ik a n _).2 x (by have:=aF.Gt hx;omega) (dS _)];rfl
def gQ:pW:=⟨fun _=>0,1⟩
def Sz:∀n,(∀e,aA.w e<=n->0<=gQ.e e∧gQ.e e<=(aA.w e:Int))∧(∀q,aF.w q<=n->0<=gQ.q q∧gQ.q q<=(aF.w q:Int))
 |0=>⟨fun e h=>by have:=e.fG;omega,fun q h=>by have:=q.fG;omega⟩
 |n+1=>by
  obtain⟨i1,i2⟩:=Sz n;refine⟨fun e h=>?_,fun q h=>?_⟩
  ·rw[pW.e_eq];have h1:=e.fG;have l1:=Im (gQ.own e) (e.args.map gQ.e);have l2:=Im (most (gQ.own e) (e.args.map gQ.e)) (e.sub.map gQ.q);have u1:most (gQ.own e) (e.args.map gQ.e)<=(aA.w e:Int)-1:=Ij (by show(0:Int)<=_;omega) fun x hx=>by
    obtain⟨y,hy,rfl⟩:=qB.1 hx;have:=aA.Gq hy;have:=(i1 y (by omega)).2;omega
   have u2:most (most (gQ.own e) (e.args.map gQ.e)) (e.sub.map gQ.q)<=(aA.w e:Int)-1:=Ij u1 fun x hx=>by
    obtain⟨y,hy,rfl⟩:=qB.1 hx;have:=aA.sub_lt hy;have:=(i2 y (by omega)).2;omega
   have z:gQ.own e=0:=rfl;have z1:gQ.up=1:=rfl;omega
  ·rw[pW.q_eq];have h1:=q.fG;have l1:=Im 0 (q.exprs.map gQ.e);have l2:=Im (most 0 (q.exprs.map gQ.e)) (q.lI.map gQ.q);have u1:most 0 (q.exprs.map gQ.e)<=(aF.w q:Int)-1:=Ij (by omega) fun x hx=>by
    obtain⟨y,hy,rfl⟩:=qB.1 hx;have:=aF.Gu hy;have:=(i1 y (by omega)).2;omega
   have u2:most (most 0 (q.exprs.map gQ.e)) (q.lI.map gQ.q)<=(aF.w q:Int)-1:=Ij u1 fun x hx=>by
    obtain⟨y,hy,rfl⟩:=qB.1 hx;have:=aF.Gt hy;have:=(i2 y (by omega)).2;omega
   have z1:gQ.up=1:=rfl;omega
def Su {X β:Type} (st:Nat->X) (n:Nat) (hn:n<=4611686018427387000) {b:(X->Option β)->X->Option β} (hb:∀k i,i<n->b k (st i)=k (st (i+1))) (he:∀k,b k (st n)=b (fun _=>none) (st n)):cF b bQ (st 0)=b (fun _=>none) (st n):=by
 have key:∀d i m,i+d=n->d<m->cF b m (st i)=b (fun _=>none) (st n):=by
  intro d
  induction d with
  |zero=>
   intro i m hi hm;obtain rfl:i=n:=by omega
   cases m with
   |zero=>omega
   |succ m=>rw[eX,he]
  |succ d ih=>
   intro i m hi hm;cases m with
   |zero=>omega
   |succ m=>rw[eX,hb _ i (by omega)];exact ih (i+1) m (by omega) (by omega)
 exact key n 0 bQ (by omega) (by unfold bQ;omega)
def Xn {α β:Type} (f:α->β) (z:α) {l:List α} {i:Nat} (h:i<l.length):(l.take (i+1)).map f=(l.take i).map f++[f (l.getD i z)]:=by
 have e:l[i]? =some (l.getD i z):=by rw[fR,fH h];rfl
 rw[List.take_add_one,e];simp only[Option.toList,eK,dG,eZ]
def Zs {α:Type} (f:α->Int) (z:α) (b:Int) {l:List α} {i:Nat} (h:i<l.length):most b ((l.take (i+1)).map f)=kD (most b ((l.take i).map f)) (f (l.getD i z)):=by
 rw[Xn f z h,MS];rfl
def uX {α β:Type} (f:α->List β) (z:α) (b:List β) {l:List α} {i:Nat} (h:i<l.length):b++((l.take (i+1)).map f).flatten=(b++((l.take i).map f).flatten)++f (l.getD i z):=by
 rw[Xn f z h,List.flatten_append];simp
end Go.Ex
namespace Go.Proofs.YtlfbdcfnimnhiaaGreatDoor.Ex
open Go.Am Go.Ex
def xD {i n:Nat} (h:i<n):decide ((i:Int)<(n:Int))=true:=by simp;exact h
def nZ (n:Nat):decide ((n:Int)<(n:Int))=false:=by simp
def Se {α:Type} {l:List α} {i:Nat} (z:α) (h:i<l.length):l.getD i z∈l:=by
 rw[fR,fH h];exact sM h
def wQ {X β:Type} (st:Nat->X) (n:Nat) (hn:n<=4611686018427387000) {b:(X->Option β)->X->Option β} {x0:X} (h0:st 0=x0) (hb:∀k i,i<n->b k (st i)=k (st (i+1))) (he:∀k,b k (st n)=b (fun _=>none) (st n)):cF b bQ x0=b (fun _=>none) (st n):=h0 ▸ Su st n hn hb he
def wS {α β:Type} (f:α->List β) (z:α) (b:List β) {l:List α} {i:Nat} (h:i<l.length):(b++((l.take i).map f).flatten).length+(f (l.getD i z)).length<=b.length+((l.map f).flatten).length:=by
 have e1:=congrArg List.length (uX f z b h);have e2:=congrArg List.length (congrArg List.flatten (congrArg (List.map f) (Bf (i+1) l)));simp only[eK,List.flatten_append,bH] at e1 e2 ⊢;omega
def SB (q:aF):q.exprs.length<aF.w q:=by have:=q.Qg;have:=hJ aA.w aA.fG q.exprs;omega
def TE (q:aF):q.lI.length<aF.w q:=by have:=q.Qi;have:=hJ aF.w aF.fG q.lI;omega
def RC (q:aF):q.parts.length<aF.w q:=by have:=q.dU;have:=hJ aK.w aK.fG q.parts;omega
def ST (q:aF):q.with_.length<aF.w q:=by have:=q.dU;have:=hJ bE.w bE.fG q.with_;omega
def RG (q:aF):q.order.length<aF.w q:=by have:=q.dU;have:=hJ aX.w aX.fG q.order;omega
def aAl {q:aF} {i:Nat} (h:i<q.parts.length):aK.w (q.parts.getD i aK.z)<aF.w q:=by have:=q.dU;have:=jV aK.w (Se aK.z h);omega
def RP (p:aK):p.items.length<aK.w p:=by have:=p.dU;have:=hJ bA.w bA.fG p.items;omega
def VM (p:aK):p.from_.length<aK.w p:=by have:=p.dU;have:=hJ aO.w aO.fG p.from_;omega
def NL (p:aK):p.values.length<aK.w p:=by have:=p.dU;have:=hJ (fun z:List aA=>(1+(z.map aA.w).sum)) (fun _=>Nat.le_add_right _ _) p.values;omega
def CQ (L:List (List aA)) (h1:L.length<549755813888) (h2:L.flatten.length<549755813888):Gb L=some L.flatten:=by
 unfold Gb;have hid:∀i,i<L.length->((L.take i).flatten).length+(L.getD i []).length<=L.flatten.length:=fun i hi=>by
  have:=wS (fun z:List aA=>z) [] [] hi;simpa using this
 refine(wQ (fun j:Nat=>(((L.take j).flatten.length:Int),(j:Int))) L.length (by omega) (by simp) (fun k j hj=>?_) (fun k=>?_)).trans ?_
 ·dsimp only;have hf:=hid j hj;have he:(L.take (j+1)).flatten.length=(L.take j).flatten.length+(L.getD j []).length:=by
   have:=congrArg List.length (uX (fun z:List aA=>z) [] [] hj);simpa using this
  rw[xD hj,bL,bV (by omega),cZ,jW hj (by omega),nK (by omega) (by omega),Bj (by omega),aQ,he];simp
 ·dsimp only;rw[nZ,aQ,aQ]
 dsimp only;rw[nZ,aQ,nI];rw[bV (by omega)];refine(wQ (fun j:Nat=>(([]:List aA)++((L.take j).map fun z:List aA=>z).flatten,(j:Int))) L.length (by omega) (by simp) (fun k j hj=>?_) (fun k=>?_)).trans ?_
 ·dsimp only;have hf:=wS (fun z:List aA=>z) [] ([]:List aA) hj;simp only[List.map_id',bS,kH] at hf;have e:=uX (fun z:List aA=>z) [] ([]:List aA) hj;rw[e,xD hj,bL,bV (by omega),cZ,jW hj (by omega),bV (by simp only[List.map_id'];omega)]
 ·dsimp only;rw[nZ,aQ,aQ]
 dsimp only;rw[nZ,aQ,nI];simp
def UE (p:aK):p.exprs.length=((p.items.map bA.expr).flatten).length+((p.from_.map aO.on).flatten).length+p.where_.length+p.group.length+p.having.length+(p.values.flatten).length:=by
 simp only[aK.exprs,bH]
def RZ (acc:List aA) (p:aK):acc++(p.items.map bA.expr).flatten++(p.from_.map aO.on).flatten++p.where_++p.group++p.having++p.values.flatten=acc++p.exprs:=by
 simp only[aK.exprs,fS]
def MW (q:aF):q.exprs.length=((q.parts.map aK.exprs).flatten).length+q.order.length+q.limit.length+q.offset.length:=by
 simp only[aF.exprs,bH,gI]
def BE (l:List aX):(l.map fun t:aX=>[t.expr]).flatten=l.map aX.expr:=by
 induction l with
 |nil=>rfl
 |cons x l ih=>simp[ih]
def r8 (q:aF) (h:aF.w q<549755813888):Lb q=some (q.exprs,q.lI):=by
 have hs:=SB q;have hq:=MW q;have hs2:=TE q;have hq2:q.lI.length=((q.with_.map bE.body).flatten).length+((q.parts.map aK.lI).flatten).length:=by rw[aF.lI,bH]
 have hw:=ST q;have hp:=RC q;have ho:=RG q;unfold Lb;refine(wQ (fun j:Nat=>(([]:List aF)++((q.with_.take j).map bE.body).flatten,(j:Int))) q.with_.length (by omega) (by simp) (fun k j hj=>?_) (fun k=>?_)).trans ?_
 ·dsimp only;have hf:=wS bE.body bE.z ([]:List aF) hj;rw[xD hj,bL,bV (by omega),cZ,bV (by simp only[bS] at hf;omega),jW hj (by omega),uX bE.body bE.z _ hj]
 ·dsimp only;rw[nZ,aQ,aQ]
 dsimp only;rw[nZ,aQ,nI];rw[iY];refine(wQ (fun j:Nat=>(([]:List aA)++((q.parts.take j).map aK.exprs).flatten,(q.with_.map bE.body).flatten++((q.parts.take j).map aK.lI).flatten,(j:Int))) q.parts.length (by omega) (by simp) (fun k j hj=>?_) (fun k=>?_)).trans ?_
 ·dsimp only;have hf2:=wS aK.lI aK.z ((q.with_.map bE.body).flatten) hj;have hf:=wS aK.exprs aK.z ([]:List aA) hj;simp only[bS,kH] at hf;have hpw:=aAl hj;have hfl:=VM (q.parts.getD j aK.z);have hil:=RP (q.parts.getD j aK.z);have hvl:=NL (q.parts.getD j aK.z);have hpl:=UE (q.parts.getD j aK.z);rw[xD hj,bL,bV (by omega),jW hj (by omega),uX aK.exprs aK.z _ hj,uX aK.lI aK.z _ hj];generalize hacc:([]:List aA)++((q.parts.take j).map aK.exprs).flatten=acc at hf ⊢;generalize hacc2:(q.with_.map bE.body).flatten++((q.parts.take j).map aK.lI).flatten=acc2 at hf2 ⊢;simp only[cZ];have hsub:(q.parts.getD j aK.z).lI.length=(((q.parts.getD j aK.z).from_.map aO.sub).flatten).length:=rfl;refine(wQ (fun i:Nat=>(acc++(((q.parts.getD j aK.z).items.take i).map bA.expr).flatten,(i:Int))) (q.parts.getD j aK.z).items.length (by omega) (by simp) (fun k2 i hi=>?_) (fun k2=>?_)).trans ?_
  ·have hg:=wS bA.expr bA.z acc hi;dsimp only;rw[xD hi,bL,bV (by omega),cZ,bV (by omega),jW hi (by omega),uX bA.expr bA.z _ hi]
  ·dsimp only;rw[nZ,aQ,aQ]
  dsimp only;rw[nZ,aQ,nI];refine(wQ (fun i:Nat=>(acc++((q.parts.getD j aK.z).items.map bA.expr).flatten++(((q.parts.getD j aK.z).from_.take i).map aO.on).flatten,acc2++(((q.parts.getD j aK.z).from_.take i).map aO.sub).flatten,(i:Int))) (q.parts.getD j aK.z).from_.length (by omega) (by simp) (fun k2 i hi=>?_) (fun k2=>?_)).trans ?_
  ·have hg:=wS aO.on aO.z (acc++((q.parts.getD j aK.z).items.map bA.expr).flatten) hi;have hg2:=wS aO.sub aO.z acc2 hi;simp only[bH] at hg hg2;dsimp only;rw[xD hi,bL,bV (by omega),cZ,bV (by simp only[bH];omega),bV (by simp only[bH];omega),jW hi (by omega),uX aO.on aO.z _ hi,uX aO.sub aO.z _ hi]
  ·dsimp only;rw[nZ,aQ,aQ]
  dsimp only;rw[nZ,aQ,nI];rw[CQ _ (by simp) (by simp only[Hf,List.flatten_nil,bH,bS];omega),aN];simp only[Hf,List.flatten_nil,gL,<-fS];refine(wQ (fun i:Nat=>((acc++((q.parts.getD j aK.z).items.map bA.expr).flatten++((q.parts.getD j aK.z).from_.map aO.on).flatten++(q.parts.getD j aK.z).where_++(q.parts.getD j aK.z).group++(q.parts.getD j aK.z).having)++(((q.parts.getD j aK.z).values.take i).map fun z:List aA=>z).flatten,(i:Int))) (q.parts.getD j aK.z).values.length (by omega) (by simp) (fun k2 i hi=>?_) (fun k2=>?_)).trans ?_
  ·have hg:=wS (fun z:List aA=>z) [] (acc++((q.parts.getD j aK.z).items.map bA.expr).flatten++((q.parts.getD j aK.z).from_.map aO.on).flatten++(q.parts.getD j aK.z).where_++(q.parts.getD j aK.z).group++(q.parts.getD j aK.z).having) hi;simp only[List.map_id',bH] at hg;dsimp only;rw[uX (fun z:List aA=>z) [] (acc++((q.parts.getD j aK.z).items.map bA.expr).flatten++((q.parts.getD j aK.z).from_.map aO.on).flatten++(q.parts.getD j aK.z).where_++(q.parts.getD j aK.z).group++(q.parts.getD j aK.z).having) hi,xD hi,bL,bV (by omega),cZ,bV (by simp only[List.map_id',bH];omega),jW hi (by omega)]
  ·dsimp only;rw[nZ,aQ,aQ]
  dsimp only;rw[nZ,aQ,nI,List.map_id',RZ];rfl
 ·dsimp only;rw[nZ,aQ,aQ]
 dsimp only;rw[nZ,aQ,nI];rw[iY];refine(wQ (fun j:Nat=>((q.parts.map aK.exprs).flatten++((q.order.take j).map fun t:aX=>[t.expr]).flatten,(j:Int))) q.order.length (by omega) (by simp) (fun k j hj=>?_) (fun k=>?_)).trans ?_
 ·dsimp only;have e:=uX (fun t:aX=>[t.expr]) aX.z ((q.parts.map aK.exprs).flatten) hj;have hf:=wS (fun t:aX=>[t.expr]) aX.z ((q.parts.map aK.exprs).flatten) hj;rw[BE q.order] at hf;simp only[bH,gI,bF,bS] at hf;rw[e,xD hj,bL,bV (by omega),cZ,bV (by simp only[bH];omega),jW hj (by omega)]
 ·dsimp only;rw[nZ,aQ,aQ]
 dsimp only;rw[nZ,aQ,nI];rw[BE,CQ _ (by simp) (by simp only[Hf,List.flatten_nil,bH,bS,gI];omega),aN];simp only[Hf,List.flatten_nil,gL,<-fS];rfl
def Rg {α:Type} (p:α->Option Int) (f:α->Int):∀(l:List α) (b:Int),(∀x∈l,p x=some (f x))->vP (fun(q:Int) (y:α)=>call (p y) fun z=>some (kD q z)) l b=some (most b (l.map f))
 |[],b,_=>rfl
 |x::l,b,h=>by
  simp only[vP,h x (lK ..),aN];exact Rg p f l (kD b (f x)) fun y hy=>h y (iD _ hy)
def VZ (e:aA):e.args.length<aA.w e:=by have:=e.dU;have:=hJ aA.w aA.fG e.args;omega
def WY (e:aA):e.sub.length<aA.w e:=by have:=e.dU;have:=hJ aF.w aF.fG e.sub;omega
structure Vl (F:nN) (n:Nat):Prop where
 e:∀e,aA.w e<n->aA.w e<549755813888->F.p16 e=some (gQ.e e)
 q:∀q,aF.w q<n->aF.w q<549755813888->F.p23 q=some (gQ.q q)
def i9 {F:nN} {n:Nat} (ih:Vl F n) (e:aA) (h:aA.w e<n+1) (hk:aA.w e<549755813888):sI F e=some (gQ.e e):=by
 have ha:=VZ e;have hs:=WY e;unfold sI;refine(wQ (fun j:Nat=>(most (0:Int) ((e.args.take j).map gQ.e),(j:Int))) e.args.length (by omega) (by simp[most]) (fun k j hj=>?_) (fun k=>?_)).trans ?_
 ·have hm:=Se aA.z hj;have hlt:=aA.Gq hm;dsimp only;rw[xD hj,bL,bV (by omega),cZ,ih.e _ (by omega) (by omega),aN,jW hj (by omega),Zs gQ.e aA.z _ hj]
 ·dsimp only;rw[nZ,aQ,aQ]
 dsimp only;rw[nZ,aQ,nI];refine(wQ (fun j:Nat=>(most (most (0:Int) (e.args.map gQ.e)) ((e.sub.take j).map gQ.q),(j:Int))) e.sub.length (by omega) (by simp[most]) (fun k j hj=>?_) (fun k=>?_)).trans ?_
 ·have hm:=Se aF.z hj;have hlt:=aA.sub_lt hm;dsimp only;rw[xD hj,bL,bV (by omega),cZ,ih.q _ (by omega) (by omega),aN,jW hj (by omega),Zs gQ.q aF.z _ hj]
 ·dsimp only;rw[nZ,aQ,aQ]
 dsimp only;rw[nZ,aQ,nI];have hb:=(Sz _).1 e (dS _);rw[pW.e_eq] at hb ⊢;have z:gQ.own e=0:=rfl;have z1:gQ.up=1:=rfl;rw[z,z1] at hb ⊢;rw[nK (by omega) (by omega)]
def i8 {F:nN} {n:Nat} (ih:Vl F n) (q:aF) (h:aF.w q<n+1) (hk:aF.w q<549755813888):oN F q=some (gQ.q q):=by
 unfold oN;rw[r8 q hk,aN];dsimp only;rw[Rg F.p16 gQ.e q.exprs 0 (fun x hx=>ih.e x (by have:=aF.Gu hx;omega) (by have:=aF.Gu hx;omega)),aN,Rg F.p23 gQ.q q.lI _ (fun x hx=>ih.q x (by have:=aF.Gt hx;omega) (by have:=aF.Gt hx;omega)),aN];have hb:=(Sz _).2 q (dS _);rw[pW.q_eq] at hb ⊢;have z1:gQ.up=1:=rfl;rw[z1] at hb ⊢;rw[nK (by omega) (by omega)]
def Ru:∀n,Vl (nN.fix n) n
 |0=>⟨fun _ h=>absurd h (qA _),fun _ h=>absurd h (qA _)⟩
 |n+1=>⟨i9 (Ru n),i8 (Ru n)⟩
def x8 (e:aA) (h:aA.w e<549755813888):Px e=some (gQ.e e):=(Ru bQ).e e (by unfold bQ;omega) h
def Bo (x y:aH):(eI x.kind y.kind&&(eI x.int y.int&&eI x.text y.text))=eI x y:=uE (by
 cases x;cases y
 simp only[dI,uC,aH.mk.injEq])
def ZZ (t:bE):t.cols.length<=bE.w t:=by
 have:=hJ (fun z:ByteArray=>(z.size+1)) (fun _=>Nat.le_add_left _ _) t.cols;rw[bE.dU];omega
def s9 (l m:List ByteArray) (hl:l.length<=4611686018427387000):Pw l m=some (eI l m):=by
 have h:=yD (fun x y=>some (x.data.toList==y.data.toList)) bO l m hl (fun x _ y=>by rw[zU]);exact h
structure pP (F:cY) (n:Nat):Prop where
 e:∀x y,2*aA.w x<n->F.p8 x y=some (eI x y)
 q:∀x y,2*aF.w x<n->F.p11 x y=some (eI x y)
 item:∀x y,2*bA.w x<n->F.p55 x y=some (eI x y)
 src:∀x y,2*aO.w x<n->F.p57 x y=some (eI x y)
 cte:∀x y,2*bE.w x<n->F.p25 x y=some (eI x y)
 part:∀x y,2*aK.w x<n->F.p28 x y=some (eI x y)
 sort:∀x y,2*aX.w x<n->F.p30 x y=some (eI x y)
 row:∀(x y:List aA),2*(1+(x.map aA.w).sum)+1<n->F.p59 x y=some (eI x y)
 el:∀(l m:List aA),2*(1+(l.map aA.w).sum)<n->F.p17_1 l m=some (eI l m)
 ql:∀(l m:List aF),2*(1+(l.map aF.w).sum)<n->F.p18_1 l m=some (eI l m)
 il:∀(l m:List bA),2*(1+(l.map bA.w).sum)<n->F.p54_1 l m=some (eI l m)
 sl:∀(l m:List aO),2*(1+(l.map aO.w).sum)<n->F.p56_1 l m=some (eI l m)
 cl:∀(l m:List bE),2*(1+(l.map bE.w).sum)<n->F.p24_1 l m=some (eI l m)
 pl:∀(l m:List aK),2*(1+(l.map aK.w).sum)<n->F.p27_1 l m=some (eI l m)
 ol:∀(l m:List aX),2*(1+(l.map aX.w).sum)<n->F.p29_1 l m=some (eI l m)
 rl:∀(l m:List (List aA)),2*(1+(l.map (fun z:List aA=>(1+(z.map aA.w).sum))).sum)<n->F.p58_1 l m=some (eI l m)
def p6 {F:cY} {n:Nat} (ih:pP F n) (hn:n+1<=bQ) (x y:aA) (h:2*aA.w x<n+1):b8 F x y=some (eI x y):=by
 have hw:=aA.dU x;unfold b8;rw[bY];simp only[ih.el x.args y.args (by omega),ih.ql x.sub y.sub (by omega),aN,Bw,zU,Ce,Bv,Bo];refine congrArg some (uE ?_);cases x;cases y
 simp only[dI,uC,aA.mk.injEq]
 try (constructor<;>intro hh<;>simp_all)
def o9 {F:cY} {n:Nat} (ih:pP F n) (hn:n+1<=bQ) (x y:aF) (h:2*aF.w x<n+1):Lv F x y=some (eI x y):=by
 have hw:=aF.dU x;unfold Lv;rw[bY];simp only[ih.cl x.with_ y.with_ (by omega),ih.pl x.parts y.parts (by omega),ih.ol x.order y.order (by omega),ih.el x.limit y.limit (by omega),ih.el x.offset y.offset (by omega),aN,Bw,zU,Ce,Bv,Bo];refine congrArg some (uE ?_);cases x;cases y
 simp only[dI,uC,aF.mk.injEq]
 try (constructor<;>intro hh<;>simp_all)
def QM {F:cY} {n:Nat} (ih:pP F n) (hn:n+1<=bQ) (x y:bA) (h:2*bA.w x<n+1):Lp F x y=some (eI x y):=by
 have hw:=bA.dU x;unfold Lp;rw[bY];simp only[ih.el x.expr y.expr (by omega),aN,Bw,zU,Ce,Bv,Bo];refine congrArg some (uE ?_);cases x;cases y
 simp only[dI,uC,bA.mk.injEq]
 try (constructor<;>intro hh<;>simp_all)
def TL {F:cY} {n:Nat} (ih:pP F n) (hn:n+1<=bQ) (x y:aO) (h:2*aO.w x<n+1):Lo F x y=some (eI x y):=by
 have hw:=aO.dU x;unfold Lo;rw[bY];simp only[ih.ql x.sub y.sub (by omega),ih.el x.on y.on (by omega),aN,Bw,zU,Ce,Bv,Bo];refine congrArg some (uE ?_);cases x;cases y
 simp only[dI,uC,aO.mk.injEq]
 try (constructor<;>intro hh<;>simp_all)
def TN {F:cY} {n:Nat} (ih:pP F n) (hn:n+1<=bQ) (x y:bE) (h:2*bE.w x<n+1):Lu F x y=some (eI x y):=by
 have hw:=bE.dU x;unfold Lu;rw[bY];simp only[s9 x.cols y.cols (by have:=ZZ x;unfold bQ at hn;omega),ih.ql x.body y.body (by omega),aN,Bw,zU,Ce,Bv,Bo];refine congrArg some (uE ?_);cases x;cases y
 simp only[dI,uC,bE.mk.injEq]
 try (constructor<;>intro hh<;>simp_all)
def QL {F:cY} {n:Nat} (ih:pP F n) (hn:n+1<=bQ) (x y:aK) (h:2*aK.w x<n+1):Gp F x y=some (eI x y):=by
 have hw:=aK.dU x;unfold Gp;rw[bY];simp only[ih.il x.items y.items (by omega),ih.sl x.from_ y.from_ (by omega),ih.el x.where_ y.where_ (by omega),ih.el x.group y.group (by omega),ih.el x.having y.having (by omega),ih.rl x.values y.values (by omega),aN,Bw,zU,Ce,Bv,Bo];refine congrArg some (uE ?_);cases x;cases y
 simp only[dI,uC,aK.mk.injEq]
 try (constructor<;>intro hh<;>simp_all)
def QK {F:cY} {n:Nat} (ih:pP F n) (hn:n+1<=bQ) (x y:aX) (h:2*aX.w x<n+1):Lt F x y=some (eI x y):=by
 have hw:=aX.dU x;unfold Lt;rw[bY];simp only[ih.e x.expr y.expr (by omega),aN,Bw,zU,Ce,Bv,Bo];refine congrArg some (uE ?_);cases x;cases y
 simp only[dI,uC,aX.mk.injEq]
 try (constructor<;>intro hh<;>simp_all)
def TM {F:cY} {n:Nat} (ih:pP F n) (x y:List aA) (h:2*(1+(x.map aA.w).sum)+1<n+1):Ln F x y=some (eI x y):=by
 unfold Ln;rw[ih.el x y (by omega),aN]
def XH {F:cY} {n:Nat} (ih:pP F n) (hn:n+1<=bQ) (l m:List aA) (h:2*(1+(l.map aA.w).sum)<n+1):Kh F l m=some (eI l m):=by
 unfold Kh;exact yD F.p8 aA.z l m (by have:=hJ aA.w aA.fG l;unfold bQ at hn;omega) fun x hx y=>ih.e x y (by have:=jV aA.w hx;omega)
def XD {F:cY} {n:Nat} (ih:pP F n) (hn:n+1<=bQ) (l m:List aF) (h:2*(1+(l.map aF.w).sum)<n+1):Kg F l m=some (eI l m):=by
 unfold Kg;exact yD F.p11 aF.z l m (by have:=hJ aF.w aF.fG l;unfold bQ at hn;omega) fun x hx y=>ih.q x y (by have:=jV aF.w hx;omega)
def XG {F:cY} {n:Nat} (ih:pP F n) (hn:n+1<=bQ) (l m:List bA) (h:2*(1+(l.map bA.w).sum)<n+1):Jz F l m=some (eI l m):=by
 unfold Jz;exact yD F.p55 bA.z l m (by have:=hJ bA.w bA.fG l;unfold bQ at hn;omega) fun x hx y=>ih.item x y (by have:=jV bA.w hx;omega)
def XB {F:cY} {n:Nat} (ih:pP F n) (hn:n+1<=bQ) (l m:List aO) (h:2*(1+(l.map aO.w).sum)<n+1):Jy F l m=some (eI l m):=by
 unfold Jy;exact yD F.p57 aO.z l m (by have:=hJ aO.w aO.fG l;unfold bQ at hn;omega) fun x hx y=>ih.src x y (by have:=jV aO.w hx;omega)
def XI {F:cY} {n:Nat} (ih:pP F n) (hn:n+1<=bQ) (l m:List bE) (h:2*(1+(l.map bE.w).sum)<n+1):Kf F l m=some (eI l m):=by
 unfold Kf;exact yD F.p25 bE.z l m (by have:=hJ bE.w bE.fG l;unfold bQ at hn;omega) fun x hx y=>ih.cte x y (by have:=jV bE.w hx;omega)
def XE {F:cY} {n:Nat} (ih:pP F n) (hn:n+1<=bQ) (l m:List aK) (h:2*(1+(l.map aK.w).sum)<n+1):Ke F l m=some (eI l m):=by
 unfold Ke;exact yD F.p28 aK.z l m (by have:=hJ aK.w aK.fG l;unfold bQ at hn;omega) fun x hx y=>ih.part x y (by have:=jV aK.w hx;omega)
def XF {F:cY} {n:Nat} (ih:pP F n) (hn:n+1<=bQ) (l m:List aX) (h:2*(1+(l.map aX.w).sum)<n+1):Kc F l m=some (eI l m):=by
 unfold Kc;exact yD F.p30 aX.z l m (by have:=hJ aX.w aX.fG l;unfold bQ at hn;omega) fun x hx y=>ih.sort x y (by have:=jV aX.w hx;omega)
def XC {F:cY} {n:Nat} (ih:pP F n) (hn:n+1<=bQ) (l m:List (List aA)) (h:2*(1+(l.map (fun z:List aA=>(1+(z.map aA.w).sum))).sum)<n+1):Jx F l m=some (eI l m):=by
 unfold Jx;exact yD F.p59 [] l m (by have:=hJ (fun z:List aA=>(1+(z.map aA.w).sum)) (fun _=>Nat.le_add_right _ _) l;unfold bQ at hn;omega) fun x hx y=>ih.row x y (by have:=jV (fun z:List aA=>(1+(z.map aA.w).sum)) hx;(try simp only at this);omega)
def DX:∀n,n<=bQ->pP (cY.fix n) n
 |0,_=>⟨fun _ _ h=>absurd h (qA _),fun _ _ h=>absurd h (qA _),fun _ _ h=>absurd h (qA _),fun _ _ h=>absurd h (qA _),fun _ _ h=>absurd h (qA _),fun _ _ h=>absurd h (qA _),fun _ _ h=>absurd h (qA _),fun _ _ h=>absurd h (qA _),fun _ _ h=>absurd h (qA _),fun _ _ h=>absurd h (qA _),fun _ _ h=>absurd h (qA _),fun _ _ h=>absurd h (qA _),fun _ _ h=>absurd h (qA _),fun _ _ h=>absurd h (qA _),fun _ _ h=>absurd h (qA _),fun _ _ h=>absurd h (qA _)⟩
 |n+1,hn=>
  have ih:=DX n (Nat.le_of_succ_le hn)
  ⟨p6 ih hn,o9 ih hn,QM ih hn,TL ih hn,TN ih hn,QL ih hn,QK ih hn,TM ih,XH ih hn,XD ih hn,XG ih hn,XB ih hn,XI ih hn,XE ih hn,XF ih hn,XC ih hn⟩
def aDo (x y:aA) (h:2*aA.w x<bQ):s8 x y=some (eI x y):=(DX bQ (dS _)).e x y h
section
abbrev Tk:=Int×ByteArray
def tkR (t:aP):Tk:=(t.kind,t.text)
structure At (l:List aP) (i:Nat) (T:List Tk):Prop where
 drop:(l.drop i).map tkR=T
 le:i<=l.length
 len:l.length<=4000
 kw:∀t∈l,t.kind=1->∃r,kA t.text=some r
def tR (s:ByteArray):ByteArray:=match kA s with|some r=>r.1|none=>bO
def gC:List Tk->ByteArray
 |(k,s)::_=>if k=1 then tR s else bm #[]
 |[]=>bm #[]
def aT (T:List Tk) (w:ByteArray):Bool:=(gC T).data.toList==w.data.toList
def cQ:List Tk->List ByteArray->Bool
 |(k,s)::_,ws=>(k==6)&&ws.any fun w=>w.data.toList==s.data.toList
 |[],_=>false
variable {l:List aP} {i:Nat} {T:List Tk} {p:Int}
def At.nil (h:At l i []):i=l.length:=by
 have:=h.drop;rw[List.map_eq_nil_iff,List.drop_eq_nil_iff] at this;have:=h.le;omega
def At.lt {x:Tk} (h:At l i (x::T)):i<l.length:=by
 have:=congrArg List.length h.drop;simp at this;omega
def At.get {x:Tk} (h:At l i (x::T)):(l.getD i aP.z).kind=x.1∧(l.getD i aP.z).text=x.2:=by
 have hl:=h.lt;have:=h.drop;rw[tV hl,dG] at this;injection this with h1 h2
 rw[fR,fH hl,nH,<-h1];exact⟨rfl,rfl⟩
def At.next {x:Tk} (h:At l i (x::T)):At l (i+1) T:=by
 have hl:=h.lt;have:=h.drop;rw[tV hl,dG] at this;injection this with h1 h2
 exact⟨h2,hl,h.len,h.kw⟩
def At.word {s:ByteArray} (h:At l i ((1,s)::T)):∃r,kA s=some r:=by
 have hl:=h.lt;obtain⟨h1,h2⟩:=h.get;have e:l.getD i aP.z=l[i]:=by rw[fR,fH hl,nH]
 rw[e] at h1 h2;simp only at h2;rw[<-h2];exact h.kw _ (sM hl) h1
def IU (h:At l i T):i64.wrap ((i:Int)+0)=(i:Int):=by
 have:=h.le;have:=h.len;rw[nK (by omega) (by omega)];simp
def tQ (h:At l i T):i64.wrap ((i:Int)+1)=((i+1:Nat):Int):=by
 have:=h.le;have:=h.len;rw[nK (by omega) (by omega)];simp
def HT (h:At l i T):i64.wrap (((i+1:Nat):Int)-1)=(i:Int):=by
 have:=h.le;have:=h.len;rw[nK (by omega) (by omega)];simp
def lT (h:At l i T):pC 0 (aD.mk l (i:Int) p)=some (gC T,aD.mk l (i:Int) p):=by
 have hle:=h.le;unfold pC;simp only[IU h,bY];cases T with
 |nil=>
  obtain rfl:=h.nil;simp only[Int.lt_irrefl,decide_false,aQ];rfl
 |cons x T=>
  obtain⟨k,s⟩:=x;have hl:=h.lt;obtain⟨h1,h2⟩:=h.get;simp only at h1 h2;rw[show decide ((i:Int)<(l.length:Int))=true by simp;exact hl,bL,bV (by omega),cZ,h1];by_cases hk:k=1
  ·subst hk;obtain⟨r,hr⟩:=h.word;rw[show((1:Int)==1)=true from rfl,bL,bV (by omega),h2,hr,aN];simp only[gC,if_true,tR,hr]
  ·rw[show(k==1)=false by simpa using hk,aQ];simp only[gC,hk,if_false]
def AV {x:Tk} (h:At l i (x::T)):pC 1 (aD.mk l (i:Int) p)=some (gC T,aD.mk l (i:Int) p):=by
 have:=lT (p:=p) h.next;unfold pC at this ⊢;simp only[IU h.next,bY] at this;simp only[tQ h,bY];cases T with
 |nil=>
  have e:=h.next.nil;simp only[e,Int.lt_irrefl,decide_false,aQ] at this ⊢;rfl
 |cons y T=>
  obtain⟨k,s⟩:=y;have hl:=h.next.lt;obtain⟨h1,h2⟩:=h.next.get;simp only at h1 h2;rw[show decide (((i+1:Nat):Int)<(l.length:Int))=true by simp;omega,bL,bV (by omega),cZ,h1];by_cases hk:k=1
  ·subst hk;obtain⟨r,hr⟩:=h.next.word;rw[show((1:Int)==1)=true from rfl,bL,bV (by omega),h2,hr,aN];simp only[gC,if_true,tR,hr]
  ·rw[show(k==1)=false by simpa using hk,aQ];simp only[gC,hk,if_false]
def fU {x:Tk} {w:ByteArray} (h:At l i (x::T)) (hb:aT (x::T) w=true):cE w (aD.mk l (i:Int) p)=some (true,aD.mk l ((i+1:Nat):Int) p):=by
 unfold cE;rw[lT h,aN];simp only;rw[show((gC (x::T)).data.toList==w.data.toList)=true from hb,bL,tQ h]
def dM {w:ByteArray} (h:At l i T) (hb:aT T w=false):cE w (aD.mk l (i:Int) p)=some (false,aD.mk l (i:Int) p):=by
 unfold cE;rw[lT h,aN];simp only;rw[show((gC T).data.toList==w.data.toList)=false from hb,aQ]
def oE {x:Tk} {w:ByteArray} (h:At l i (x::T)) (hb:aT (x::T) w=true):fE w (aD.mk l (i:Int) p)=some (.ok (aD.mk l ((i+1:Nat):Int) p)):=by
 unfold fE;rw[fU h hb,aN];rfl
def XK (L:List ByteArray) (s:ByteArray) (hL:L.length<=4611686018427387000):∃z,Ko L s=some z∧(decide (z>=0))=L.any fun w=>w.data.toList==s.data.toList:=by
 have key:∀(d n:Nat),n+d=L.length->∀m,d<m->∃z,cF (fun(u4:Int->Option (Int)) (q3:Int)=>(aE (decide (q3<(L.length:Int))) (aR (0<=q3∧q3<(L.length:Int)) (aE (s.data.toList==(L.getD q3.toNat bO).data.toList) (some q3) (u4 (i64.wrap (q3+1))))) (some (-1)))) m (n:Int)=some z∧(decide (z>=0))=(L.drop n).any fun w=>w.data.toList==s.data.toList:=by
  intro d
  induction d with
  |zero=>
   intro n hn m hm;cases m with
   |zero=>omega
   |succ m=>
    rw[eX,show decide ((n:Int)<(L.length:Int))=false by simp;omega,aQ];exact⟨_,rfl,by rw[List.drop_eq_nil_of_le (by omega)];rfl⟩
  |succ d ih=>
   intro n hn m hm;cases m with
   |zero=>omega
   |succ m=>
    have hlt:n<L.length:=by omega
    rw[eX,show decide ((n:Int)<(L.length:Int))=true by simp;omega,bL,bV (by omega),cZ,fR,fH hlt,nH,jW hlt hL,tV hlt,List.any_cons];by_cases he:s.data.toList=L[n].data.toList
    ·rw[show(s.data.toList==L[n].data.toList)=true by simpa using he,bL];refine⟨_,rfl,?_⟩;rw[he];simp
    ·rw[show(s.data.toList==L[n].data.toList)=false by simpa using he,aQ,show(L[n].data.toList==s.data.toList)=false from by rw[sN];exact fun h=>he h.symm,Bool.false_or];exact ih (n+1) (by omega) m (by omega)
 obtain⟨z,h1,h2⟩:=key L.length 0 (by omega) bQ (by unfold bQ;omega);exact⟨z,by unfold Ko;exact h1,h2⟩
def Sl (L:List ByteArray) (s:ByteArray) (hL:L.length<=4611686018427387000):Cy L s=some (L.any fun w=>w.data.toList==s.data.toList):=by
 obtain⟨z,h1,h2⟩:=XK L s hL;unfold Cy;rw[h1,aN,h2]
def mU (h:At l i T) (L:List ByteArray) (hL:L.length<=4611686018427387000):sW L (aD.mk l (i:Int) p)=some (cQ T L,aD.mk l (i:Int) p):=by
 have hle:=h.le;unfold sW;simp only[bY];cases T with
 |nil=>
  obtain rfl:=h.nil;simp only[Int.lt_irrefl,decide_false,aQ];rfl
 |cons x T=>
  obtain⟨k,s⟩:=x;have hl:=h.lt;obtain⟨h1,h2⟩:=h.get;simp only at h1 h2;rw[show decide ((i:Int)<(l.length:Int))=true by simp;exact hl,bL,bV (by omega),cZ,h1];by_cases hk:k=6
  ·subst hk;rw[show((6:Int)==6)=true from rfl,bL,bV (by omega),h2,Sl L s hL,aN];simp only[cQ,beq_self_eq_true,Bool.true_and]
  ·rw[show(k==6)=false by simpa using hk,aQ];simp only[cQ,show(k==6)=false by simpa using hk,Bool.false_and]
def wX {x:Tk} {w:ByteArray} (h:At l i (x::T)) (hb:cQ (x::T) [w]=true):eR w (aD.mk l (i:Int) p)=some (true,aD.mk l ((i+1:Nat):Int) p):=by
 unfold eR;rw[mU h [w] (by simp),aN,hb,bL,tQ h]
def oD {w:ByteArray} (h:At l i T) (hb:cQ T [w]=false):eR w (aD.mk l (i:Int) p)=some (false,aD.mk l (i:Int) p):=by
 unfold eR;rw[mU h [w] (by simp),aN,hb,aQ]
def mD {x:Tk} {w:ByteArray} (h:At l i (x::T)) (hb:cQ (x::T) [w]=true):fJ w (aD.mk l (i:Int) p)=some (.ok (aD.mk l ((i+1:Nat):Int) p)):=by
 unfold fJ;rw[wX h hb,aN];rfl
def nE:List Tk->Bool
 |(k,s)::_=>(k==1)&&(gX s==some true)
 |[]=>false
def oU:List Tk->Prop
 |(k,s)::_=>k=1->∃b,gX s=some b
 |[]=>True
def yH (h:At l i T) (ht:oU T):yP (aD.mk l (i:Int) p)=some (nE T,aD.mk l (i:Int) p):=by
 have hle:=h.le;unfold yP;simp only[bY];cases T with
 |nil=>
  obtain rfl:=h.nil;simp only[Int.lt_irrefl,decide_false,aQ];rfl
 |cons x T=>
  obtain⟨k,s⟩:=x;have hl:=h.lt;obtain⟨h1,h2⟩:=h.get;simp only at h1 h2;rw[show decide ((i:Int)<(l.length:Int))=true by simp;exact hl,bL,bV (by omega),cZ,h1];by_cases hk:k=1
  ·subst hk;obtain⟨b,hb⟩:=ht rfl;rw[show((1:Int)==1)=true from rfl,bL,bV (by omega),h2,hb,aN];simp only[nE,beq_self_eq_true,Bool.true_and,hb];cases b<;>rfl
  ·rw[show(k==1)=false by simpa using hk,aQ];simp only[nE,show(k==1)=false by simpa using hk,Bool.false_and]
def Ie {x:Tk} (h:At l i (x::T)):yO (aD.mk l (i:Int) p)=some (x.2,aD.mk l ((i+1:Nat):Int) p):=by
 have hl:=h.lt;unfold yO;simp only[tQ h,HT h];rw[bV (by omega),cZ,h.get.2]
def Tf {s:ByteArray} (h:At l i ((1,s)::T)) (hs:gX s=some true):Ak (aD.mk l (i:Int) p)=some (.ok (s,aD.mk l ((i+1:Nat):Int) p)):=by
 unfold Ak;rw[bY,yH h (fun _=>⟨_,hs⟩),aN];simp only[nE,hs,beq_self_eq_true,Bool.and_self,fM,aQ];rw[Ie h,aN]
def Id (h:At l i T):Ac (aD.mk l (i:Int) p)=some (aT T (bm #[83,69,76,69,67,84])||aT T (bm #[86,65,76,85,69,83]),aD.mk l (i:Int) p):=by
 unfold Ac;rw[bY,lT h,aN];simp only[aT];cases (gC T).data.toList==(bm #[83,69,76,69,67,84]).data.toList with
 |true=>rfl
 |false=>rw[aQ,lT h,aN];rfl
end
section
abbrev nF (α:Type):=aD->Option (PX (Int×aD) (α×aD))
def fP {α:Type} (f:nF α) (T:List Tk) (p:Int) (v:α) (T':List Tk) (p':Int):Prop:=
 ∀l i,At l i T->∃j:Nat,At l j T'∧f (aD.mk l (i:Int) p)=some (.ok (v,aD.mk l (j:Int) p'))
def cH {α β γ δ:Type} {y:α} {g:β->δ} {f:α->Option (PX δ γ)}:bK (some (.ok y)) g f=f y:=rfl
variable {l:List aP} {i:Nat} {T T' T1 T2:List Tk} {p p' p1 p2:Int}
abbrev eB:ByteArray:=bO
abbrev zV:aH:=aH.mk 0 0 bO
def sA (o:Int) (a b:aA):aA:=aA.mk o false bO bO 0 (aH.mk 0 0 bO) [a,b] []
def Ag (op:ByteArray) (B:nF aA):nF aA:=fun m0=>
 (bK (B m0) (fun q2=>(q2.1,q2.2)) fun y1=>(cF (fun(u7:aA×aA×aD->Option (PX (Int×aD) (aA×aD))) (q6:aA×aA×aD)=>(call (vM op q6.2.2) fun y8=>(aE (y8.2.1==0) (some (PX.ok (q6.2.1,y8.2.2))) (bK (B (aD.mk y8.2.2.l (i64.wrap (y8.2.2.at_+y8.2.1)) y8.2.2.params)) (fun q13=>(q13.1,q13.2)) fun y12=>(u7 (q6.1,(aA.mk y8.1 false bO bO 0 (aH.mk 0 0 bO) ([q6.2.1,y12.1]) ([]:List aF)),y12.2)))))) bQ ((aA.mk 0 false bO bO 0 (aH.mk 0 0 bO) ([]:List aA) ([]:List aF)),y1.1,y1.2)))
abbrev Dr:ByteArray:=bm #[79,82]
abbrev jB:ByteArray:=bm #[65,78,68]
def Uv:List (ByteArray×Int):=[((bm #[60]),15),((bm #[60,61]),16),((bm #[62]),17),((bm #[62,61]),18)]
def Wg:List (ByteArray×Int):=[((bm #[43]),7),((bm #[45]),8)]
def Tj:List (ByteArray×Int):=[((bm #[42]),9),((bm #[47]),10),((bm #[37]),11)]
def Tm:List (ByteArray×Int):=[((bm #[124,124]),12)]
def xO:ByteArray:=bm #[111,114]
def wH:ByteArray:=bm #[97,110,100]
def vR:ByteArray:=bm #[108,101,115,115]
def wG:ByteArray:=bm #[115,117,109]
def vG:ByteArray:=bm #[116,105,109,101,115]
def vH:ByteArray:=bm #[99,104,97,105,110]
def Pi (op:ByteArray) (s:ByteArray):Int×Int:=
 bif op.data.toList==vR.data.toList then jQ s Uv else bif op.data.toList==wG.data.toList then jQ s Wg else
 bif op.data.toList==vG.data.toList then jQ s Tj else bif op.data.toList==vH.data.toList then jQ s Tm else(0,0)
def fQ (op:ByteArray) (T:List Tk):Int×Int:=
 bif (op.data.toList==xO.data.toList)&&aT T Dr then(22,1) else bif (op.data.toList==wH.data.toList)&&aT T jB then(21,1) else
 match T with
 |[]=>(0,0)
 |(k,s)::_=>bif k != 6 then(0,0) else Pi op s
def Sn (op:ByteArray) (h:At l i T):vM op (aD.mk l (i:Int) p)=some ((fQ op T).1,(fQ op T).2,aD.mk l (i:Int) p):=by
 have hle:=h.le;have tail:∀(R:Option (Int×Int×aD)),R=(join (fun(u20:Bool->Option (Int×Int×aD))=>(aE (decide ((aD.mk l (i:Int) p).at_>=(((aD.mk l (i:Int) p).l.length:Nat):Int))) (u20 true) (aR (0<=(aD.mk l (i:Int) p).at_∧(aD.mk l (i:Int) p).at_<(((aD.mk l (i:Int) p).l.length:Nat):Int)) (u20 ((((aD.mk l (i:Int) p).l.getD (aD.mk l (i:Int) p).at_.toNat aP.z).kind) != 6))))) (fun(q19:Bool)=>(aE q19 (some (0,0,(aD.mk l (i:Int) p))) (aR (0<=(aD.mk l (i:Int) p).at_∧(aD.mk l (i:Int) p).at_<(((aD.mk l (i:Int) p).l.length:Nat):Int)) (aE (op.data.toList==vR.data.toList) (some ((jQ (((aD.mk l (i:Int) p).l.getD (aD.mk l (i:Int) p).at_.toNat aP.z).text) Uv).1,(jQ (((aD.mk l (i:Int) p).l.getD (aD.mk l (i:Int) p).at_.toNat aP.z).text) Uv).2,(aD.mk l (i:Int) p))) (aE (op.data.toList==wG.data.toList) (some ((jQ (((aD.mk l (i:Int) p).l.getD (aD.mk l (i:Int) p).at_.toNat aP.z).text) Wg).1,(jQ (((aD.mk l (i:Int) p).l.getD (aD.mk l (i:Int) p).at_.toNat aP.z).text) Wg).2,(aD.mk l (i:Int) p))) (aE (op.data.toList==vG.data.toList) (some ((jQ (((aD.mk l (i:Int) p).l.getD (aD.mk l (i:Int) p).at_.toNat aP.z).text) Tj).1,(jQ (((aD.mk l (i:Int) p).l.getD (aD.mk l (i:Int) p).at_.toNat aP.z).text) Tj).2,(aD.mk l (i:Int) p))) (aE (op.data.toList==vH.data.toList) (some ((jQ (((aD.mk l (i:Int) p).l.getD (aD.mk l (i:Int) p).at_.toNat aP.z).text) Tm).1,(jQ (((aD.mk l (i:Int) p).l.getD (aD.mk l (i:Int) p).at_.toNat aP.z).text) Tm).2,(aD.mk l (i:Int) p))) (some (0,0,(aD.mk l (i:Int) p)))))))))))->
  R=some ((match T with|[]=>(0,0)|(k,s)::_=>bif k != 6 then(0,0) else Pi op s).1,(match T with|[]=>(0,0)|(k,s)::_=>bif k != 6 then(0,0) else Pi op s).2,aD.mk l (i:Int) p):=by
  rintro R rfl;simp only[bY];cases T with
  |nil=>
   obtain rfl:=h.nil;simp only[ge_iff_le,Int.le_refl,decide_true,bL]
  |cons x T=>
   obtain⟨k,s⟩:=x;have hl:=h.lt;obtain⟨h1,h2⟩:=h.get;simp only at h1 h2;rw[show decide ((i:Int)>=(l.length:Int))=false by simp;omega,aQ,bV (by omega),cZ,h1,h2];cases hk:(k != 6) with
   |true=>rw[bL];simp only[hk,cond_true]
   |false=>
    rw[aQ,bV (by omega)];simp only[hk,cond_false,Pi];cases (op.data.toList==vR.data.toList) with
    |true=>rfl
    |false=>
    cases (op.data.toList==wG.data.toList) with
    |true=>rfl
    |false=>
    cases (op.data.toList==vG.data.toList) with
    |true=>rfl
    |false=>
    cases (op.data.toList==vH.data.toList) with
    |true=>rfl
    |false=>rfl
 unfold vM fQ;rw[bY];cases h1:(op.data.toList==xO.data.toList) with
 |true=>
  rw[show(op.data.toList==(bm #[111,114]).data.toList)=true from h1,bL,lT h,aN];have e:(op.data.toList==wH.data.toList)=false:=by
   rw[eq_of_beq h1];rfl
  rw[show(op.data.toList==(bm #[97,110,100]).data.toList)=false from e,e];dsimp only;rw[show((gC T).data.toList==(bm #[79,82]).data.toList)=aT T Dr from rfl];cases aT T Dr with
  |true=>rfl
  |false=>
   rw[aQ,bY,aQ];exact tail _ rfl
 |false=>
  rw[show(op.data.toList==(bm #[111,114]).data.toList)=false from h1,aQ];dsimp only;rw[aQ,bY];cases h2:(op.data.toList==wH.data.toList) with
  |true=>
   rw[show(op.data.toList==(bm #[97,110,100]).data.toList)=true from h2,bL,lT h,aN];dsimp only;rw[show((gC T).data.toList==(bm #[65,78,68]).data.toList)=aT T jB from rfl];cases aT T jB with
   |true=>rfl
   |false=>exact tail _ rfl
  |false=>
   rw[show(op.data.toList==(bm #[97,110,100]).data.toList)=false from h2,aQ];exact tail _ rfl
def Ov:bQ=4611686018427387903+1:=rfl
def Ou:bQ=4611686018427387902+1+1:=rfl
def OU {op:ByteArray} {B:nF aA} {v:aA} (hB:fP B T p v T' p') (hs:(fQ op T').2=0):fP (Ag op B) T p v T' p':=by
 intro l i hA;obtain⟨j,hj,e⟩:=hB l i hA;refine⟨j,hj,?_⟩;unfold Ag;rw[e,cH,Ov,eX];dsimp only;rw[Sn op hj,aN];dsimp only;rw[hs];rfl
def RO {op:ByteArray} {B:nF aA} {x:Tk} {a b:aA} {o:Int} (ha:fP B T p a (x::T1) p1) (ho:fQ op (x::T1)=(o,1)) (hb:fP B T1 p1 b T2 p2) (hs:(fQ op T2).2=0):fP (Ag op B) T p (sA o a b) T2 p2:=by
 intro l i hA;obtain⟨j,hj,e⟩:=ha l i hA;obtain⟨k,hk,e2⟩:=hb l (j+1) hj.next;refine⟨k,hk,?_⟩;unfold Ag;rw[e,cH,Ou,eX];dsimp only;rw[Sn op hj,aN,ho];dsimp only;rw[wq 1 0 rfl,tQ hj,e2,cH,eX];dsimp only;rw[Sn op hk,aN];dsimp only;rw[hs];rfl
end
section
structure dT (x:ByteArray) (n:Nat) (R:List UInt8):Prop where
 drop:x.data.toList.drop n=R
 le:n<=x.size
 sz:x.size<=2000
variable {x:ByteArray} {n:Nat} {R a:List UInt8} {c d:UInt8}
def lO (x:ByteArray):x.data.toList.length=x.size:=by rw[Mf];rfl
def dT.nil (h:dT x n []):n=x.size:=by
 have:=h.drop;rw[List.drop_eq_nil_iff,lO] at this;have:=h.le;omega
def dT.len (h:dT x n R):n+R.length=x.size:=by
 have:=congrArg List.length h.drop;rw[uV,lO] at this;have:=h.le;omega
def dT.lt (h:dT x n (c::R)):n<x.size:=by
 have:=h.len;simp only[bF] at this;omega
def dT.get (h:dT x n (c::R)):x.data.toList.getD n 0=c:=by
 have hn:n<x.data.toList.length:=by rw[lO];exact h.lt
 have:=h.drop;rw[tV hn] at this;injection this with h1 h2
 rw[fR,fH hn,nH,h1]
def dT.app (h:dT x n (a++R)):dT x (n+a.length) R:=by
 refine⟨?_,?_,h.sz⟩
 ·rw[<-List.drop_drop,h.drop,List.drop_left]
 ·have:=h.len;simp only[bH] at this;omega
def dT.next (h:dT x n (c::R)):dT x (n+1) R:=dT.app (a:=[c]) h
def dT.ext (h:dT x n (a++R)):x.extract n (n+a.length)=ByteArray.mk a.toArray:=by
 apply ByteArray.ext;apply xV.1;rw[ByteArray.data_extract,Array.toList_extract,List.extract_eq_take_drop,h.drop,Nat.add_sub_cancel_left,List.take_left]
def dT.rest (h:dT x n R):(x.extract n x.size).data.toList=R:=by
 have:=h.len;rw[ByteArray.data_extract,Array.toList_extract,List.extract_eq_take_drop,h.drop,<-this,Nat.add_sub_cancel_left,nI]
def Kz (h:dT x n R) {k:Nat} (hk:k<=4000):i64.wrap ((n:Int)+(k:Int))=((n+k:Nat):Int):=by
 have:=h.le;have:=h.sz;rw[nK (by omega) (by omega)];simp
def tD (h:dT x n R):i64.wrap ((n:Int)+1)=((n+1:Nat):Int):=Kz (k:=1) h (by omega)
def Vo (h:dT x n R):i64.wrap ((n:Int)+2)=((n+2:Nat):Int):=Kz (k:=2) h (by omega)
def HX (c:Nat):Bool:=(decide (97<=c)&&decide (c<=122))||(decide (65<=c)&&decide (c<=90))||(c==95)
def Wh (c:Nat):Bool:=decide (48<=c)&&decide (c<=57)
def mJ (c:UInt8):Bool:=HX c.toNat
def lA (c:UInt8):Bool:=Wh c.toNat
def oL (c:UInt8):Bool:=mJ c||lA c
def wU (c:UInt8):rG (c.toNat:Int)=some (mJ c):=by
 have:∀k:Fin 256,rG (k.val:Int)=some (HX k.val):=by decide+kernel
 exact this ⟨c.toNat,c.toNat_lt⟩
def Nd (c:UInt8):vZ (c.toNat:Int)=some (lA c):=by
 have:∀k:Fin 256,vZ (k.val:Int)=some (Wh k.val):=by decide+kernel
 exact this ⟨c.toNat,c.toNat_lt⟩
def CN (c:UInt8):Fy (c.toNat:Int)=some (oL c):=by
 unfold Fy;simp only[bY,wU,Nd,aN,j9];rfl
def zF (f:Int->Option Bool) (x0:ByteArray):(Int->Option Int)->Int->Option Int:=fun u4 q3=>(join (fun(u8:Bool->Option (Int))=>(aE (decide (q3<(x0.size:Int))) (aR (0<=q3∧q3<(x0.size:Int)) (call (f ((x0.data.toList.getD q3.toNat 0).toNat:Int)) fun y11=>(u8 y11))) (u8 false))) (fun(q7:Bool)=>(aE q7 (u4 (i64.wrap (q3+1))) (some q3))))
def QO (x0:ByteArray) (x1:Int):Ad x0 x1=cF (zF vZ x0) bQ x1:=rfl
def QN (x0:ByteArray) (x1:Int):Er x0 x1=cF (zF Fy x0) bQ x1:=rfl
def jY (p:UInt8->Bool):List UInt8->Bool
 |[]=>true
 |c::_=> !(p c)
def So {f:Int->Option Bool} {p:UInt8->Bool} (hf:∀c:UInt8,f (c.toNat:Int)=some (p c)) (hR:jY p R=true):∀(a:List UInt8) (n m:Nat),a.all p=true->a.length<m->dT x n (a++R)->cF (zF f x) m (n:Int)=some ((n+a.length:Nat):Int):=by
 intro a
 induction a with
 |nil=>
  intro n m _ hm h;obtain⟨m,rfl⟩:∃k,m=k+1:=⟨m-1,by simp at hm;omega⟩;rw[eX];unfold zF;cases R with
  |nil=>
   have:=dT.nil h;rw[show decide ((n:Int)<(x.size:Int))=false by simp;omega];rfl
  |cons c R=>
   have hl:=dT.lt h;have hg:=dT.get h;simp only[bY];rw[show decide ((n:Int)<(x.size:Int))=true by simp;omega,bL,bV (by omega),cZ,hg,hf,aN];simp only[jY,qR] at hR;rw[hR];rfl
 |cons c a ih=>
  intro n m ha hm h;obtain⟨m,rfl⟩:∃k,m=k+1:=⟨m-1,by simp at hm;omega⟩;rw[tY,dI] at ha;have hl:=dT.lt h;have hg:=dT.get h;have hw:=tD h;have:=ih (n+1) m ha.2 (by simp at hm;omega) h.next;rw[eX];unfold zF;simp only[bY];rw[show decide ((n:Int)<(x.size:Int))=true by simp;omega,bL,bV (by omega),cZ,hg,hf,aN,ha.1,bL,hw];refine this.trans ?_;rw[bF];congr 2;omega
def CY {a:List UInt8} (h:dT x n (a++R)):a.length<bQ:=by
 have:=h.len;have:=h.sz;simp only[bH] at*;unfold bQ;omega
def CR (h:dT x n (a++R)) (ha:a.all lA=true) (hR:jY lA R=true):Ad x (n:Int)=some ((n+a.length:Nat):Int):=by
 rw[QO];exact So Nd hR a n bQ ha (CY h) h
def XR (h:dT x n (a++R)) (ha:a.all oL=true) (hR:jY oL R=true):Er x (n:Int)=some ((n+a.length:Nat):Int):=by
 rw[QN];exact So CN hR a n bQ ha (CY h) h
def qZ (c:UInt8):Bool:=c==32||c==9||c==10||c==13
def qD:List UInt8->Bool
 |[]=>true
 |[c]=> !qZ c
 |c::d::_=> !qZ c&& !(c==45&&d==45)
def Za {α:Type} (c:UInt8) (K:Bool->Option α):(join (fun(u12:Bool->Option α)=>(aE ((c.toNat:Int)==32) (u12 true) (aE ((c.toNat:Int)==9) (u12 true) (aE ((c.toNat:Int)==10) (u12 true) (u12 ((c.toNat:Int)==13)))))) K)=K (qZ c):=by
 have:∀j:Fin 256,(((j.val:Int)==32)||((j.val:Int)==9)||((j.val:Int)==10)||((j.val:Int)==13))=qZ (UInt8.ofNat j.val):=by decide+kernel
 have e:=this ⟨c.toNat,c.toNat_lt⟩;simp only[xU] at e;rw[<-e];simp only[bY];cases ((c.toNat:Int)==32)<;>cases ((c.toNat:Int)==9)<;>cases ((c.toNat:Int)==10)<;>rfl
def Jl (x0:ByteArray) (u3:Int->Option Int):(Int->Option Int)->Int->Option Int:=fun u6 q5=>(aE (decide (q5<(x0.size:Int))) (aR (0<=q5∧q5<(x0.size:Int)) (join (fun(u12:Bool->Option (Int))=>(aE (((x0.data.toList.getD q5.toNat 0).toNat:Int)==32) (u12 true) (aE (((x0.data.toList.getD q5.toNat 0).toNat:Int)==9) (u12 true) (aE (((x0.data.toList.getD q5.toNat 0).toNat:Int)==10) (u12 true) (u12 (((x0.data.toList.getD q5.toNat 0).toNat:Int)==13)))))) (fun(q11:Bool)=>(aE q11 (u6 (i64.wrap (q5+1))) (aR (0<=q5∧q5<=(x0.size:Int)∧(x0.size:Int)<=(x0.size:Int)) (call (n155 (x0.extract q5.toNat (x0.size:Int).toNat) (bm #[45,45])) fun y18=>(aE y18 (aR (0<=q5∧q5<=(x0.size:Int)∧(x0.size:Int)<=(x0.size:Int)) (call (n156 (x0.extract q5.toNat (x0.size:Int).toNat) 10) fun y21=>(aE (decide (y21<0)) (some (x0.size:Int)) (u6 (i64.wrap (q5+(i64.wrap (y21+1)))))))) (u3 q5)))))))) (u3 q5))
def CO (x0:ByteArray) (x1:Int):uM x0 x1=cF (Jl x0 some) bQ x1:=by
 unfold uM;refine jF bY ?_;exact congrArg (fun b=>cF b bQ x1) rfl
def Zh {u:Int->Option Int} (h:dT x n R) (hs:qD R=true):Jl x some u (n:Int)=some (n:Int):=by
 unfold Jl;cases R with
 |nil=>
  have:=h.nil;rw[show decide ((n:Int)<(x.size:Int))=false by simp;omega];rfl
 |cons c R=>
  have hl:=h.lt;have hb:qZ c=false:=by
   cases R<;>simp[qD] at hs
   ·exact hs
   ·exact hs.1
  have hp:Lib.hasPrefix (c::R) [45,45]=false:=by
   cases R with
   |nil=>simp[Lib.hasPrefix,List.isPrefixOf]
   |cons d R=>
    simp only[qD,dI,qR] at hs;have:=hs.2;simp only[Lib.hasPrefix,List.isPrefixOf,Bool.and_true];rw[Bool.and_eq_false_iff] at this ⊢;rcases this with h|h
    ·exact .inl (sN.2 fun e=>sN.1 h e.symm)
    ·exact .inr (sN.2 fun e=>sN.1 h e.symm)
  rw[show decide ((n:Int)<(x.size:Int))=true by simp;omega,bL,bV (by omega),cZ,h.get,Za,hb,aQ,bV (by have:=h.le;omega),cZ];unfold n155;rw[aN,h.rest,show(bm #[45,45]).data.toList=[45,45] from rfl,hp,aQ]
def NR {u:Int->Option Int} (h:dT x n (32::R)):Jl x some u (n:Int)=u ((n+1:Nat):Int):=by
 unfold Jl;have hl:=h.lt;rw[show decide ((n:Int)<(x.size:Int))=true by simp;omega,bL,bV (by omega),cZ,h.get,Za,show qZ 32=true from rfl,bL,tD h]
def Te (h:dT x n R) (hs:qD R=true):uM x (n:Int)=some (n:Int):=by
 rw[CO,Ov,eX];exact Zh h hs
def u0 (h:dT x n (32::R)) (hs:qD R=true):uM x (n:Int)=some ((n+1:Nat):Int):=by
 rw[CO,Ou,eX,NR h,eX];exact Zh h.next hs
end
end Go.Proofs.YtlfbdcfnimnhiaaGreatDoor.Ex
