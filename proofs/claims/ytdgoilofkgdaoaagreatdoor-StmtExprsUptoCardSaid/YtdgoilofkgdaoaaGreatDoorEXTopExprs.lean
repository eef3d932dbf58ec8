/- What is proved: bureaulaw17.StmtExprs returns true, and the input reads as it did, for every statement and number whose reading is of bulk at most 1048576 (the second form's card). Conditions: that bulk; the row's own cells (no memory leads back into itself; the two tables of unicode/utf8 are tied to the program's text). -/
import Derived.Test.YtdgoilofkgdaoaaGreatDoorEXTop
import Derived.Test.YtdgoilofkgdaoaaGreatDoorE5
import Derived.Test.YtdgoilofkgdaoaaGreatDoorE16
import Derived.Test.YtdgoilofkgdaoaaGreatDoorE18
import Derived.Test.YtdgoilofkgdaoaaGreatDoorE11
set_option linter.unusedVariables false
set_option maxRecDepth 100000
namespace Go.Proofs.YtdgoilofkgdaoaaGreatDoor
open Go.Am Go.Ex Go.ChangeShapes Go.WideShapes Go.ChangeAt Go.RowKit
namespace stmtExprs
theorem contract (H : Type) (enc : TypeId × Value → H) (W : World) (base : Nat) (args : Array Value) (ds gs : List (DataW H)) (before : List MemPlace)
  (hval : ∀ (j : Nat) t v, Tryz.f3.params[j]? = some t → args[j]? = some v → Value.okWide Tryz.prog W .any base t v)
  (hW : DataW.Whole enc Tryz.prog Tryz.f3.params.toList Rows.stmtExprsSpec.vars false W args.toList ds gs before) (hk : Rows.uptoSmall H (ds ++ gs) = true) (hSh : W.ShapedOpen Tryz.prog) :
  Calls Tryz.prog 3 args W fun e W' => ∃ v, e = .returned v ∧ Rows.stmtExprsSpec.post enc Tryz.prog Tryz.f3 false true false false W args v W' := by
 have hW' := hW
 obtain ⟨p, q, hA0, hV, rfl, hfz, hnd⟩ := hW
 have hA : DataW.TrodAll enc Tryz.prog W 0 (fun _ => true) true Tryz.f3.params.toList args.toList ds p := hA0
 rw [Tryz.params3] at hA hval
 obtain ⟨v0, vs0, d0, ds0, p0, q0, harg0, rfl, rfl, h0, r0⟩ := trodAll_cons hA
 obtain ⟨v1, vs1, d1, ds1, p1, q1, harg1, rfl, rfl, h1, r1⟩ := trodAll_cons r0
 obtain ⟨rfl, rfl, rfl⟩ := trodAll_nil r1
 subst harg1
 obtain rfl : args = #[v0, v1] := by cases args; simp_all
 obtain ⟨rfl, rfl⟩ := trodVars_none hV
 clear hA0
 have hb : Rows.uptoBulkAll ([d0, d1] ++ []) ≤ 1048576 := of_decide_eq_true hk
 simp only [List.cons_append, List.nil_append, Rows.uptoBulkAll] at hb
 have hW' : DataW.Whole enc Tryz.prog Tryz.f3.params.toList Rows.stmtExprsSpec.vars false W (#[v0, v1] : Array Value).toList [d0, d1] [] ((p0 ++ (p1 ++ [])) ++ []) := hW'
 obtain ⟨cs0, rfl, hcs0, _⟩ : ∃ cs, v0 = .agg cs ∧ cs.size = Tryz.prog.cellsOf 31 ∧ Row.okWide Tryz.prog W .any base 31 cs := by
  have := hval 0 31 v0 rfl rfl
  unfold Value.okWide at this
  rw [Tryz.underlying31] at this
  exact this
 have hne1 : ∀ cs, v1 ≠ .agg cs := by
  rintro cs rfl
  have := hval 1 3 _ rfl rfl
  unfold Value.okWide at this
  rw [Tryz.underlying3] at this
  simp only at this
  unfold Cell.okWide at this
  rw [Tryz.underlying3] at this
  simp only at this
  unfold Cell.ok at this
  rw [Tryz.underlying3] at this
  exact this
 have hc1 : v1.cells = #[v1] := by cases v1 <;> first | rfl | exact absurd rfl (hne1 _)
 have h0k := h0
 obtain ⟨fuel0, hf0⟩ := h0
 obtain ⟨a, ht0, hw0⟩ := (rd_all enc W fuel0).h31 _ _ hf0
 simp only at hw0
 have h1k := h1
 obtain ⟨fuel1, hf1⟩ := h1
 obtain ⟨n, ht1, hw1⟩ := (rd_int (enc := enc) (W := W) (n := fuel1) Tryz.underlying3) _ _ hf1
 simp only at hw1
 rw [hc1] at ht1
 have hrep : RepL (G0 W) [.agg a.v, vint n] (#[Value.agg cs0, v1] : Array Value).toList := RepL.cons (RepL.agg ht0) (RepL.cons (rep_one ht1) (RepL.nil _))
 have hlt0 : ∀ x ∈ p0, x.block < W.heap.size := fun x hx => by simpa using hW'.lt x (by simp [hx])
 have hlt1 : ∀ x ∈ p1, x.block < W.heap.size := fun x hx => by simpa using hW'.lt x (by simp [hx])
 refine (gives_calls (Ex.law3 a n (by omega)) (Tryz.laysM144.s1_3 W hSh) hrep).mono ?_
 rintro e W' ⟨rfl, bel⟩
 have e1 : Rows.stmtExprsSpec.fn H ([d0, d1] ++ []) = { results := [.lit (.bool true)], args := [d0, d1] } := rfl
 refine ⟨_, rfl, [d0, d1], [], _, [], (p0 ++ (p1 ++ [])), [], hW', ?_, ?_, ?_, bel.frame _, fun h => by cases h⟩
 ·rw [e1]; exact trodAll_cons_mk (shut_bool Tryz.underlying4 _) trodAll_mk0
 ·rw [e1, Tryz.params3]
  have := trodAll_cons_mk (Below.trod laidOut (by kernel_rfl) (of_decide_eq_true (by kernel_rfl)) h0k bel hlt0) (trodAll_cons_mk (Below.trod laidOut (by kernel_rfl) (of_decide_eq_true (by kernel_rfl)) h1k bel hlt1) (trodAll_mk0))
  simpa using this
 ·rw [e1]; rfl
noncomputable def wit : Array Value := #[.agg #[Value.int .i64 0, Value.string ByteArray.empty, Value.bool false, Value.bool false, Value.int .i64 0, Value.string ByteArray.empty, Value.string ByteArray.empty, Value.string ByteArray.empty, Value.slice none 0 0, Value.slice none 0 0, Value.slice none 0 0, Value.slice none 0 0, Value.slice none 0 0, Value.slice none 0 0], Value.int .i64 0]
theorem reads (os : Os) {H : Type} (enc : TypeId × Value → H) : ∃ places, DataW.whole enc Tryz.prog ((laidWorld os).forCall (fun _ _ => 0) ⟨#[], wit, []⟩).memory Tryz.f3.params.toList Rows.stmtExprsSpec.vars false wit.toList 8 =
  some ([.agg [.lit (.int .i64 0), .lit (.string []), .lit (.bool false), .lit (.bool false), .lit (.int .i64 0), .lit (.string []), .lit (.string []), .lit (.string []), .nil, .nil, .nil, .nil, .nil, .nil], .lit (.int .i64 0)], [], places) :=
 ⟨[], by kernel_rfl⟩
set_option maxRecDepth 100000 in
theorem liftedUpto (os : Os) (started : os.Started) (H : Type) (enc : TypeId × Value → H) (F : Stop.Interp) :
  ReturnsInHanded {} Tryz.checked os 3 .any ((Rows.OpenSpec.upto Rows.stmtExprsSpec).preRow enc Tryz.prog Tryz.f3 Rows.stmtExprsUptoRow.domain false Rows.stmtExprsUptoRow.laid) (((Rows.OpenSpec.upto Rows.stmtExprsSpec).at F).post enc Tryz.prog Tryz.f3 false true false false) := by
 obtain ⟨places, hx⟩ := reads os enc
 refine returnsInHanded_of_row (C := Tryz.checked) (s := Rows.OpenSpec.upto Rows.stmtExprsSpec) own started (by kernel_rfl) Tryz.func3
  (witness_row_atRef (enc := enc) (C := Tryz.checked) false (laidWorld os) wit (World.laidAll_os _ _ _) (by kernel_rfl) (by kernel_rfl) (by kernel_rfl)
   (OpenSpec.preRow_of_cond 8 hx (by kernel_rfl) (fun k hk => by cases hk; kernel_rfl) (by kernel_rfl) (laid_met os _))) ?_
 intro W base args ds gs before hval hW _ hcond _ hL hSh _
 exact contract H enc W base args ds gs before hval hW (hcond _ rfl) hSh
theorem saidUpto : Rows.StmtExprsUptoSaid :=
 OpenClaim.holds_of_cond 3 Tryz.f3 rfl rfl rfl rfl rfl rfl rfl ⟨rfl, rfl, rfl, rfl, rfl⟩ rfl rfl rfl rfl rfl (by kernel_rfl) Tryz.func3 stmtExprs_closed
  (of_decide_eq_true (by kernel_rfl)) (by unfold Func.isWrapper; first | (rw [if_pos (by decide +kernel)]; kernel_rfl) | (rw [if_neg (by decide +kernel)]; exact ⟨rfl, rfl⟩))
  (fun os started H enc _ F => by rw [OpenClaim.pre_eq_preRow]; exact liftedUpto os started H enc F)
theorem plain (f : FuncId) (fn : Func) (hf : Tryz.pinned.checked.prog.funcNamed Rows.stmtExprsUptoRow.func = some f) (hfn : Tryz.pinned.checked.prog.funcs[f]? = some fn) :
  true = Tryz.pinned.checked.prog.looks [] ∧ ∀ (j : Nat) t, fn.params[j]? = some t → Tryz.pinned.checked.prog.wantsStandIn t = false := by
 obtain rfl : f = 3 := Option.some.inj ((show Tryz.prog.funcNamed Rows.stmtExprsUptoRow.func = some 3 by kernel_rfl).symm.trans hf) |>.symm
 obtain rfl : fn = Tryz.f3 := (Option.some.inj (Tryz.func3.symm.trans hfn)).symm
 refine ⟨by kernel_rfl, fun j t ht => ?_⟩
 rw [Tryz.params3] at ht
 have hm := Array.mem_of_getElem? ht
 simp only [List.mem_toArray, List.mem_cons, List.not_mem_nil, or_false] at hm
 rcases hm with rfl | rfl
 ·exact (show Tryz.prog.wantsStandIn 31 = false by kernel_rfl)
 ·exact (show Tryz.prog.wantsStandIn 3 = false by kernel_rfl)
theorem card_w : Rows.stmtExprsUptoRow.wfByText (Rows.OpenSpec.upto Rows.stmtExprsSpec) = true := by kernel_rfl
theorem card_m : Tryz.pinned.checked.prog.mainIs = some (true, "b4a5ff034f7ec09b890cdac897a495e3bd356a2f55e17770da4ef893b9232d73".toList) := by kernel_rfl
theorem card_g : false = Rows.stmtExprsUptoRow.goesBy Tryz.pinned.checked.prog := by kernel_rfl
/-- The second form's card. -/
theorem cardUpto : Rows.StmtExprsUptoCardSaid :=
 Claim7.holds_tied_plain_at .later [] _ _ _ _ saidUpto (fun _ h => by cases h) card_w (fun _ h => by cases h) stmtExprsUpto_row_tie rfl ⟨rfl, rfl⟩ card_m rfl plain card_g
end stmtExprs
#print axioms stmtExprs.cardUpto
end Go.Proofs.YtdgoilofkgdaoaaGreatDoor
