/- What is proved: bureaulaw21.SchemaFinds returns true, and the input reads as it did, for every catalog and two texts whose reading is of bulk at most 1048576 (the second form's card). Conditions: that bulk; the row's own cells (no memory leads back into itself; the two tables of unicode/utf8 are tied to the program's text). -/
import Derived.Test.YtdomhnkffghmlaaGreatDoorSXTop
import Derived.Test.YtdomhnkffghmlaaGreatDoorS9
import Derived.Test.YtdomhnkffghmlaaGreatDoorS16
import Derived.Test.YtdomhnkffghmlaaGreatDoorS13
import Derived.Test.YtdomhnkffghmlaaGreatDoorS18
import Derived.Test.YtdomhnkffghmlaaGreatDoorSXGoes
set_option linter.unusedVariables false
set_option maxRecDepth 100000
namespace Go.Proofs.YtdomhnkffghmlaaGreatDoor
open Go.Am Go.Ex Go.ChangeShapes Go.WideShapes Go.ChangeAt Go.RowKit
namespace schemaFinds
theorem contract (H : Type) (enc : TypeId × Value → H) (W : World) (base : Nat) (args : Array Value) (ds gs : List (DataW H)) (before : List MemPlace)
  (hval : ∀ (j : Nat) t v, Tryz.f3.params[j]? = some t → args[j]? = some v → Value.okWide Tryz.prog W .any base t v)
  (hW : DataW.Whole enc Tryz.prog Tryz.f3.params.toList Rows.schemaFindsSpec.vars false W args.toList ds gs before) (hk : Rows.uptoSmall H (ds ++ gs) = true) (hSh : W.ShapedOpen Tryz.prog) :
  Calls Tryz.prog 3 args W fun e W' => ∃ v, e = .returned v ∧ Rows.schemaFindsSpec.post enc Tryz.prog Tryz.f3 false true false false W args v W' := by
 have hW' := hW
 obtain ⟨p, q, hA0, hV, rfl, hfz, hnd⟩ := hW
 have hA : DataW.TrodAll enc Tryz.prog W 0 (fun _ => true) true Tryz.f3.params.toList args.toList ds p := hA0
 rw [Tryz.params3] at hA hval
 obtain ⟨v0, vs0, d0, ds0, p0, q0, harg0, rfl, rfl, h0, r0⟩ := trodAll_cons hA
 obtain ⟨v1, vs1, d1, ds1, p1, q1, harg1, rfl, rfl, h1, r1⟩ := trodAll_cons r0
 obtain ⟨v2, vs2, d2, ds2, p2, q2, harg2, rfl, rfl, h2, r2⟩ := trodAll_cons r1
 obtain ⟨rfl, rfl, rfl⟩ := trodAll_nil r2
 subst harg1; subst harg2
 obtain rfl : args = #[v0, v1, v2] := by cases args; simp_all
 obtain ⟨rfl, rfl⟩ := trodVars_none hV
 clear hA0
 have hb : Rows.uptoBulkAll ([d0, d1, d2] ++ []) ≤ 1048576 := of_decide_eq_true hk
 simp only [List.cons_append, List.nil_append, Rows.uptoBulkAll] at hb
 have hW' : DataW.Whole enc Tryz.prog Tryz.f3.params.toList Rows.schemaFindsSpec.vars false W (#[v0, v1, v2] : Array Value).toList [d0, d1, d2] [] ((p0 ++ (p1 ++ (p2 ++ []))) ++ []) := hW'
 obtain ⟨cs0, rfl, hcs0, _⟩ : ∃ cs, v0 = .agg cs ∧ cs.size = Tryz.prog.cellsOf 26 ∧ Row.okWide Tryz.prog W .any base 26 cs := by
  have := hval 0 26 v0 rfl rfl
  unfold Value.okWide at this
  rw [Tryz.underlying26] at this
  exact this
 have hne1 : ∀ cs, v1 ≠ .agg cs := by
  rintro cs rfl
  have := hval 1 9 _ rfl rfl
  unfold Value.okWide at this
  rw [Tryz.underlying9] at this
  simp only at this
  unfold Cell.okWide at this
  rw [Tryz.underlying9] at this
  simp only at this
  unfold Cell.ok at this
  rw [Tryz.underlying9] at this
  exact this
 have hc1 : v1.cells = #[v1] := by cases v1 <;> first | rfl | exact absurd rfl (hne1 _)
 have hne2 : ∀ cs, v2 ≠ .agg cs := by
  rintro cs rfl
  have := hval 2 9 _ rfl rfl
  unfold Value.okWide at this
  rw [Tryz.underlying9] at this
  simp only at this
  unfold Cell.okWide at this
  rw [Tryz.underlying9] at this
  simp only at this
  unfold Cell.ok at this
  rw [Tryz.underlying9] at this
  exact this
 have hc2 : v2.cells = #[v2] := by cases v2 <;> first | rfl | exact absurd rfl (hne2 _)
 have h0k := h0
 obtain ⟨fuel0, hf0⟩ := h0
 obtain ⟨s, ht0, hw0⟩ := (rd_all enc W fuel0).h26 _ _ hf0
 simp only at hw0
 have h1k := h1
 obtain ⟨fuel1, hf1⟩ := h1
 obtain ⟨t, ht1, hw1⟩ := (rd_strw (enc := enc) (W := W) (n := fuel1) Tryz.underlying9) _ _ hf1
 simp only at hw1
 rw [hc1] at ht1
 have h2k := h2
 obtain ⟨fuel2, hf2⟩ := h2
 obtain ⟨c, ht2, hw2⟩ := (rd_strw (enc := enc) (W := W) (n := fuel2) Tryz.underlying9) _ _ hf2
 simp only at hw2
 rw [hc2] at ht2
 have hrep : RepL (G0 W) [.agg s.v, vstr t, vstr c] (#[Value.agg cs0, v1, v2] : Array Value).toList := RepL.cons (RepL.agg ht0) (RepL.cons (rep_one ht1) (RepL.cons (rep_one ht2) (RepL.nil _)))
 have hlt0 : ∀ x ∈ p0, x.block < W.heap.size := fun x hx => by simpa using hW'.lt x (by simp [hx])
 have hlt1 : ∀ x ∈ p1, x.block < W.heap.size := fun x hx => by simpa using hW'.lt x (by simp [hx])
 have hlt2 : ∀ x ∈ p2, x.block < W.heap.size := fun x hx => by simpa using hW'.lt x (by simp [hx])
 refine (gives_calls (Ex.finds_ok s t c (by omega) (by omega) (by omega)) (Tryz.laysM144.s1_3 W hSh) hrep).mono ?_
 rintro e W' ⟨rfl, bel⟩
 have e1 : Rows.schemaFindsSpec.fn H ([d0, d1, d2] ++ []) = { results := [.lit (.bool true)], args := [d0, d1, d2] } := rfl
 refine ⟨_, rfl, [d0, d1, d2], [], _, [], (p0 ++ (p1 ++ (p2 ++ []))), [], hW', ?_, ?_, ?_, bel.frame _, fun h => by cases h⟩
 ·rw [e1]; exact trodAll_cons_mk (shut_bool Tryz.underlying4 _) trodAll_mk0
 ·rw [e1, Tryz.params3]
  have := trodAll_cons_mk (Below.trod laidOut (by kernel_rfl) (of_decide_eq_true (by kernel_rfl)) h0k bel hlt0) (trodAll_cons_mk (Below.trod laidOut (by kernel_rfl) (of_decide_eq_true (by kernel_rfl)) h1k bel hlt1) (trodAll_cons_mk (Below.trod laidOut (by kernel_rfl) (of_decide_eq_true (by kernel_rfl)) h2k bel hlt2) (trodAll_mk0)))
  simpa using this
 ·rw [e1]; rfl
noncomputable def wit : Array Value := #[.agg #[Value.slice none 0 0, Value.slice none 0 0, Value.slice none 0 0], Value.string ByteArray.empty, Value.string ByteArray.empty]
theorem reads (os : Os) {H : Type} (enc : TypeId × Value → H) : ∃ places, DataW.whole enc Tryz.prog ((laidWorld os).forCall (fun _ _ => 0) ⟨#[], wit, []⟩).memory Tryz.f3.params.toList Rows.schemaFindsSpec.vars false wit.toList 8 =
  some ([.agg [.nil, .nil, .nil], .lit (.string []), .lit (.string [])], [], places) :=
 ⟨[], by kernel_rfl⟩
set_option maxRecDepth 100000 in
theorem liftedUpto (os : Os) (started : os.Started) (H : Type) (enc : TypeId × Value → H) (F : Stop.Interp) :
  ReturnsInHanded {} Tryz.checked os 3 .any ((Rows.OpenSpec.upto Rows.schemaFindsSpec).preRow enc Tryz.prog Tryz.f3 Rows.schemaFindsUptoRow.domain false Rows.schemaFindsUptoRow.laid) (((Rows.OpenSpec.upto Rows.schemaFindsSpec).at F).post enc Tryz.prog Tryz.f3 false true false false) := by
 obtain ⟨places, hx⟩ := reads os enc
 refine returnsInHanded_of_row (C := Tryz.checked) (s := Rows.OpenSpec.upto Rows.schemaFindsSpec) own started (by kernel_rfl) Tryz.func3
  (witness_row_atRef (enc := enc) (C := Tryz.checked) false (laidWorld os) wit (World.laidAll_os _ _ _) (by kernel_rfl) (by kernel_rfl) (by kernel_rfl)
   (OpenSpec.preRow_of_cond 8 hx (by kernel_rfl) (fun k hk => by cases hk; kernel_rfl) (by kernel_rfl) (laid_met os _))) ?_
 intro W base args ds gs before hval hW _ hcond _ hL hSh _
 exact contract H enc W base args ds gs before hval hW (hcond _ rfl) hSh
theorem saidUpto : Rows.SchemaFindsUptoSaid :=
 OpenClaim.holds_of_cond 3 Tryz.f3 rfl rfl rfl rfl rfl rfl rfl ⟨rfl, rfl, rfl, rfl, rfl⟩ rfl rfl rfl rfl rfl (by kernel_rfl) Tryz.func3 schemaFinds_closed
  (of_decide_eq_true (by kernel_rfl)) (by unfold Func.isWrapper; first | (rw [if_pos (by decide +kernel)]; kernel_rfl) | (rw [if_neg (by decide +kernel)]; exact ⟨rfl, rfl⟩))
  (fun os started H enc _ F => by rw [OpenClaim.pre_eq_preRow]; exact liftedUpto os started H enc F)
theorem plain (f : FuncId) (fn : Func) (hf : Tryz.pinned.checked.prog.funcNamed Rows.schemaFindsUptoRow.func = some f) (hfn : Tryz.pinned.checked.prog.funcs[f]? = some fn) :
  true = Tryz.pinned.checked.prog.looks [] ∧ ∀ (j : Nat) t, fn.params[j]? = some t → Tryz.pinned.checked.prog.wantsStandIn t = false := by
 obtain rfl : f = 3 := Option.some.inj ((show Tryz.prog.funcNamed Rows.schemaFindsUptoRow.func = some 3 by kernel_rfl).symm.trans hf) |>.symm
 obtain rfl : fn = Tryz.f3 := (Option.some.inj (Tryz.func3.symm.trans hfn)).symm
 refine ⟨by kernel_rfl, fun j t ht => ?_⟩
 rw [Tryz.params3] at ht
 have hm := Array.mem_of_getElem? ht
 simp only [List.mem_toArray, List.mem_cons, List.not_mem_nil, or_false] at hm
 rcases hm with rfl | rfl | rfl
 ·exact (show Tryz.prog.wantsStandIn 26 = false by kernel_rfl)
 ·exact (show Tryz.prog.wantsStandIn 9 = false by kernel_rfl)
 ·exact (show Tryz.prog.wantsStandIn 9 = false by kernel_rfl)
theorem card_w : Rows.schemaFindsUptoRow.wfByText (Rows.OpenSpec.upto Rows.schemaFindsSpec) = true := by kernel_rfl
theorem card_m : Tryz.pinned.checked.prog.mainIs = some (true, "2c631971d1079594c5a5d37ad10f0ecb3b70a10bf8cd4d8d05df2e1c7d8bfbd2".toList) := by kernel_rfl
/-- The second form's card. -/
theorem cardUpto : Rows.SchemaFindsUptoCardSaid :=
 Claim7.holds_tied_plain_at .later [] _ _ _ _ saidUpto (fun _ h => by cases h) card_w (fun _ h => by cases h) schemaFindsUpto_row_tie rfl ⟨rfl, rfl⟩ card_m rfl plain card_g
end schemaFinds
#print axioms schemaFinds.cardUpto
end Go.Proofs.YtdomhnkffghmlaaGreatDoor
