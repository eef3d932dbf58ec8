/- What is proved: bureaulaw16.ExprRound returns true, and the input reads as it did, for every expression whose reading is of bulk at most 1048576 (the second form's card). Conditions: that bulk; the row's own cells (no memory leads back into itself; the two tables of unicode/utf8 are tied to the program's text). -/
import Derived.Test.YtlfbdcfnimnhiaaGreatDoorQ7
set_option linter.all false
set_option maxRecDepth 100000
open Go.Proofs.Tryz
namespace Go.Proofs.YtlfbdcfnimnhiaaGreatDoor
open Go.Am Go.Ex Go.ChangeShapes Go.WideShapes Go.ChangeAt Go.RowKit
namespace exprRound
theorem VP (H:Type) (enc:TypeId×Value->H) (W:World) (base:Nat) (args:Array Value) (ds gs:List (DataW H)) (before:List MemPlace)
 (hval:∀(j:Nat) t v,Tryz.f3.params[j]? =some t->args[j]? =some v->Value.okWide prog W .any base t v)
 (hW:DataW.Whole enc prog Tryz.f3.params.toList Rows.exprRoundSpec.vars false W args.toList ds gs before) (hk:Rows.uptoSmall H (ds++gs)=true) (hL:laidMet prog Rows.exprRoundUptoRow.laid W) (hSh:W.ShapedOpen prog):
 Calls prog 3 args W fun e W'=>∃v,e= .returned v∧Rows.exprRoundSpec.post enc prog Tryz.f3 false true false false W args v W':=by
 have hW':=hW;obtain⟨p,q,hA0,hV,rfl,hfz,hnd⟩:=hW;have hA:DataW.TrodAll enc prog W 0 (fun _=>true) true Tryz.f3.params.toList args.toList ds p:=hA0;rw[params3] at hA hval;obtain⟨v0,vs0,d0,ds0,p0,q0,harg0,rfl,rfl,h0,r0⟩:=trodAll_cons hA;obtain⟨rfl,rfl,rfl⟩:=trodAll_nil r0;obtain rfl:args= #[v0]:=by cases args;simp_all
 obtain⟨rfl,rfl⟩:=trodVars_none hV;clear hA0;have hb:Rows.uptoBulkAll ([d0]++[])<=1048576:=pK hk;simp only[jP,iY,Rows.uptoBulkAll] at hb;have hW':DataW.Whole enc prog Tryz.f3.params.toList Rows.exprRoundSpec.vars false W (#[v0]:Array Value).toList [d0] [] ((p0++[])++[]):=hW';obtain⟨cs0,rfl,hcs0,_⟩:∃cs,v0= .agg cs∧cs.size=prog.cellsOf 29∧Row.okWide prog W .any base 29 cs:=by
  have:=hval 0 29 v0 rfl rfl;unfold Value.okWide at this;rw[underlying29] at this;exact this
 have h0k:=h0;obtain⟨fuel0,hf0⟩:=h0;obtain⟨a,ht0,hw0⟩:=(EB enc W fuel0).h29 _ _ hf0;simp only at hw0;have hrep:bZ (G0 W) [.agg a.v] (#[Value.agg cs0]:Array Value).toList:=bZ.cons (bZ.agg ht0) (bZ.nil _);have hlt0:∀x∈p0,x.block<W.heap.size:=fun x hx=>by simpa using hW'.lt x (by simp[hx])
 refine(MU (Ex.aI9 a (by omega)) (tables hL hSh) hrep).mono ?_;rintro e W' ⟨rfl,bel⟩;have e1:Rows.exprRoundSpec.fn H ([d0]++[])={ results:=[.lit (.bool true)],args:=[d0] }:=rfl;refine⟨_,rfl,[d0],[],_,[],(p0++[]),[],hW',?_,?_,?_,bel.frame _,fun h=>by cases h⟩
 ·rw[e1];exact trodAll_cons_mk (shut_bool underlying4 _) trodAll_mk0
 ·rw[e1,params3];have:=trodAll_cons_mk (Below.trod ZA (by kernel_rfl) (pK (by kernel_rfl)) h0k bel hlt0) (trodAll_mk0);simpa using this
 ·rw[e1];rfl
noncomputable def Wn:Array Value:= #[.agg #[Value.int .i64 0,Value.bool false,Value.string bO,Value.string bO,Value.int .i64 0,Value.int .i64 0,Value.int .i64 0,Value.string bO,Value.slice none 0 0,Value.slice none 0 0]]
theorem reads (os:Os) {H:Type} (enc:TypeId×Value->H):∃places,DataW.whole enc prog ((Rr os).forCall (fun _ _=>0) ⟨#[],Wn,[]⟩).memory Tryz.f3.params.toList Rows.exprRoundSpec.vars false Wn.toList 8=
 some ([.agg [.lit (.int .i64 0),.lit (.bool false),.lit (.string []),.lit (.string []),.lit (.int .i64 0),.agg [.lit (.int .i64 0),.lit (.int .i64 0),.lit (.string [])],.nil,.nil]],[],places):=
 ⟨[],by kernel_rfl⟩
set_option maxRecDepth 100000 in
theorem OS (os:Os) (started:os.Started) (H:Type) (enc:TypeId×Value->H) (F:Stop.Interp):
 ReturnsInHanded {} checked os 3 .any ((Rows.OpenSpec.upto Rows.exprRoundSpec).preRow enc prog Tryz.f3 Rows.exprRoundUptoRow.domain false Rows.exprRoundUptoRow.laid) (((Rows.OpenSpec.upto Rows.exprRoundSpec).at F).post enc prog Tryz.f3 false true false false):=by
 obtain⟨places,hx⟩:=reads os enc;refine returnsInHanded_of_row (C:=checked) (s:=Rows.OpenSpec.upto Rows.exprRoundSpec) own started (by kernel_rfl) func3
  (witness_row_atRef (enc:=enc) (C:=checked) false (Rr os) Wn (World.laidAll_os _ _ _) (by kernel_rfl) (by kernel_rfl) (by kernel_rfl)
   (OpenSpec.preRow_of_cond 8 hx (by kernel_rfl) (fun k hk=>by cases hk;kernel_rfl) (by kernel_rfl) (VC os _))) ?_
 intro W base args ds gs before hval hW _ hcond _ hL hSh _;exact VP H enc W base args ds gs before hval hW (hcond _ rfl) hL hSh
theorem TO:Rows.ExprRoundUptoSaid:=
 OpenClaim.holds_of_cond 3 Tryz.f3 rfl rfl rfl rfl rfl rfl rfl ⟨rfl,rfl,rfl,rfl,rfl⟩ rfl rfl rfl rfl rfl (by kernel_rfl) func3 KU
  (pK (by kernel_rfl)) (by unfold Func.isWrapper;first|(rw[if_pos (by decide+kernel)];kernel_rfl)|(rw[if_neg (by decide+kernel)];exact⟨rfl,rfl⟩))
  (fun os started H enc _ F=>by rw[OpenClaim.pre_eq_preRow];exact OS os started H enc F)
theorem plain (f:FuncId) (fn:Func) (hf:Tryz.pinned.checked.prog.funcNamed Rows.exprRoundUptoRow.func=some f) (hfn:Tryz.pinned.checked.prog.funcs[f]? =some fn):
 true=Tryz.pinned.checked.prog.looks []∧∀(j:Nat) t,fn.params[j]? =some t->Tryz.pinned.checked.prog.wantsStandIn t=false:=by
 obtain rfl:f=3:=eS ((show prog.funcNamed Rows.exprRoundUptoRow.func=some 3 by kernel_rfl).symm.trans hf) |>.symm;obtain rfl:fn=Tryz.f3:=(eS (func3.symm.trans hfn)).symm;refine⟨by kernel_rfl,fun j t ht=>?_⟩;rw[params3] at ht;obtain rfl:t=29:=by simpa using Array.mem_of_getElem? ht
 exact(show prog.wantsStandIn 29=false by kernel_rfl)
theorem aB2:Rows.exprRoundUptoRow.wfByText (Rows.OpenSpec.upto Rows.exprRoundSpec)=true:=by kernel_rfl
theorem aB3:Tryz.pinned.checked.prog.mainIs=some (true, "0e4acf8a88c0825f6c41834826b045483e0ad79bcae72d23fb0537809ca947fd".toList):=by kernel_rfl
theorem aB4:false=Rows.exprRoundUptoRow.goesBy Tryz.pinned.checked.prog:=by kernel_rfl
theorem cardUpto:Rows.ExprRoundUptoCardSaid:=
 Claim7.holds_tied_plain_at .later [] _ _ _ _ TO (fun _ h=>by cases h) aB2 (fun _ h=>by cases h) exprRoundUpto_row_tie rfl ⟨rfl,rfl⟩ aB3 rfl plain aB4
end exprRound
#print axioms exprRound.cardUpto
end Go.Proofs.YtlfbdcfnimnhiaaGreatDoor
