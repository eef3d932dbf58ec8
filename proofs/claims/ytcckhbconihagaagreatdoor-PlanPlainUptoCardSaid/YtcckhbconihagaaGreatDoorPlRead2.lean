/- What is read of queries as data, in abstract values. -/
import Derived.Test.YtcckhbconihagaaGreatDoorPlRead
import Derived.Test.YtcckhbconihagaaGreatDoorPlBound
set_option linter.unusedVariables false
set_option linter.unusedSimpArgs false
set_option maxRecDepth 100000
namespace Go.Proofs.YtcckhbconihagaaGreatDoor
open Go.Am Go.Pl
variable {H : Type} {enc : TypeId × Value → H} {W : World}
theorem Term_cell (t : Term) : (Term.v t).length = 14 ∧ (Term.v t).all V.isCell = true := by rw [Term.v_eq]; exact ⟨rfl, rfl⟩
theorem Query_cell (t : Query) : (Query.v t).length = 5 ∧ (Query.v t).all V.isCell = true := by rw [Query.v_eq]; exact ⟨rfl, rfl⟩
theorem Arm_cell (t : Arm) : (Arm.v t).length = 13 ∧ (Arm.v t).all V.isCell = true := by rw [Arm.v_eq]; exact ⟨rfl, rfl⟩
theorem From_cell (t : From) : (From.v t).length = 7 ∧ (From.v t).all V.isCell = true := by rw [From.v_eq]; exact ⟨rfl, rfl⟩
theorem Agg_cell (t : Agg) : (Agg.v t).length = 5 ∧ (Agg.v t).all V.isCell = true := by rw [Agg.v_eq]; exact ⟨rfl, rfl⟩
theorem Step_cell (t : Step) : (Step.v t).length = 7 ∧ (Step.v t).all V.isCell = true := by rw [Step.v_eq]; exact ⟨rfl, rfl⟩
theorem Sorted_cell (t : Sorted) : (Sorted.v t).length = 3 ∧ (Sorted.v t).all V.isCell = true := by rw [Sorted.v_eq]; exact ⟨rfl, rfl⟩
theorem Bound_cell (t : Bound) : (Bound.v t).length = 15 ∧ (Bound.v t).all V.isCell = true := by rw [Bound.v_eq, Term.v_eq]; exact ⟨rfl, rfl⟩
theorem With_cell (t : With) : (With.v t).length = 9 ∧ (With.v t).all V.isCell = true := by rw [With.v_eq, Query.v_eq]; exact ⟨rfl, rfl⟩
theorem rd44 {n : Nat}  : Rd enc Tryz.prog W (n + 1) 44 (fun z : Int × Int × ByteArray => [vint z.1, vint z.2.1, vstr z.2.2]) (fun _ => 1) := fun cs x hx => by
  obtain ⟨xs, m, hm, rfl, hcs, hl, hq⟩ := DataW.trod_struct Tryz.underlying44 hx
  obtain rfl : n = m := by omega
  have hcs : cs.length = 3 := hcs.trans (by kernel_rfl)
  have hl : xs.length = 3 := hl
  obtain ⟨x0, y0, rfl, l0⟩ := len_succ hl
  obtain ⟨x1, y1, rfl, l1⟩ := len_succ l0
  obtain ⟨x2, y2, rfl, l2⟩ := len_succ l1
  obtain rfl := List.eq_nil_of_length_eq_zero l2
  obtain ⟨a0, r0, w0⟩ := fld hq 0 rfl (d := x0) rfl 42 0 1 rfl rfl (by kernel_rfl) (rd_int Tryz.underlying42)
  obtain ⟨a1, r1, w1⟩ := fld hq 1 rfl (d := x1) rfl 2 1 1 rfl rfl (by kernel_rfl) (rd_int Tryz.underlying2)
  obtain ⟨a2, r2, w2⟩ := fld hq 2 rfl (d := x2) rfl 9 2 1 rfl rfl (by kernel_rfl) (rd_str Tryz.underlying9)
  have q0 : RepL (G0 W) [] (cs.take 0) := by rw [List.take_zero]; exact RepL.nil _
  have q1 := rep_step q0 r0
  have q2 := rep_step q1 r1
  have q3 := rep_step q2 r2
  have e : cs.take 3 = cs := by rw [← hcs, List.take_length]
  simp only [Rows.uptoBulk, Rows.uptoBulkAll, List.map_cons, List.map_nil]
  refine ⟨⟨a0, a1, a2⟩, ?_, ?_⟩
  · rw [e] at q3; exact q3
  · simp only at *; omega
theorem rd118 {n : Nat}  : Rd enc Tryz.prog W (n + 1) 118 Sorted.v (fun _ => 1) := fun cs x hx => by
  obtain ⟨xs, m, hm, rfl, hcs, hl, hq⟩ := DataW.trod_struct Tryz.underlying118 hx
  obtain rfl : n = m := by omega
  have hcs : cs.length = 3 := hcs.trans (by kernel_rfl)
  have hl : xs.length = 3 := hl
  obtain ⟨x0, y0, rfl, l0⟩ := len_succ hl
  obtain ⟨x1, y1, rfl, l1⟩ := len_succ l0
  obtain ⟨x2, y2, rfl, l2⟩ := len_succ l1
  obtain rfl := List.eq_nil_of_length_eq_zero l2
  obtain ⟨a0, r0, w0⟩ := fld hq 0 rfl (d := x0) rfl 3 0 1 rfl rfl (by kernel_rfl) (rd_int Tryz.underlying3)
  obtain ⟨a1, r1, w1⟩ := fld hq 1 rfl (d := x1) rfl 45 1 1 rfl rfl (by kernel_rfl) (rd_int Tryz.underlying45)
  obtain ⟨a2, r2, w2⟩ := fld hq 2 rfl (d := x2) rfl 4 2 1 rfl rfl (by kernel_rfl) (rd_bool Tryz.underlying4)
  have q0 : RepL (G0 W) [] (cs.take 0) := by rw [List.take_zero]; exact RepL.nil _
  have q1 := rep_step q0 r0
  have q2 := rep_step q1 r1
  have q3 := rep_step q2 r2
  have e : cs.take 3 = cs := by rw [← hcs, List.take_length]
  simp only [Rows.uptoBulk, Rows.uptoBulkAll, List.map_cons, List.map_nil]
  refine ⟨⟨a0, a1, a2⟩, ?_, ?_⟩
  · rw [e] at q3; rw [Sorted.v_eq]; exact q3
  · show 1 ≤ _; omega
theorem rd49 {n : Nat} (h44 : Rd enc Tryz.prog W n 44 (fun z : Int × Int × ByteArray => [vint z.1, vint z.2.1, vstr z.2.2]) (fun _ => 1)) (h31 : Rd enc Tryz.prog W n 31 (fun l : List Term => [V.slice 14 (l.map Term.v)]) (fun l : List Term => 1 + (l.map Term.w).sum)) (h47 : Rd enc Tryz.prog W n 47 (fun l : List Query => [V.slice 5 (l.map Query.v)]) (fun l : List Query => 1 + (l.map Query.w).sum)) : Rd enc Tryz.prog W (n + 1) 49 Term.v Term.w := fun cs x hx => by
  obtain ⟨xs, m, hm, rfl, hcs, hl, hq⟩ := DataW.trod_struct Tryz.underlying49 hx
  obtain rfl : n = m := by omega
  have hcs : cs.length = 14 := hcs.trans (by kernel_rfl)
  have hl : xs.length = 12 := hl
  obtain ⟨x0, y0, rfl, l0⟩ := len_succ hl
  obtain ⟨x1, y1, rfl, l1⟩ := len_succ l0
  obtain ⟨x2, y2, rfl, l2⟩ := len_succ l1
  obtain ⟨x3, y3, rfl, l3⟩ := len_succ l2
  obtain ⟨x4, y4, rfl, l4⟩ := len_succ l3
  obtain ⟨x5, y5, rfl, l5⟩ := len_succ l4
  obtain ⟨x6, y6, rfl, l6⟩ := len_succ l5
  obtain ⟨x7, y7, rfl, l7⟩ := len_succ l6
  obtain ⟨x8, y8, rfl, l8⟩ := len_succ l7
  obtain ⟨x9, y9, rfl, l9⟩ := len_succ l8
  obtain ⟨x10, y10, rfl, l10⟩ := len_succ l9
  obtain ⟨x11, y11, rfl, l11⟩ := len_succ l10
  obtain rfl := List.eq_nil_of_length_eq_zero l11
  obtain ⟨a0, r0, w0⟩ := fld hq 0 rfl (d := x0) rfl 41 0 1 rfl rfl (by kernel_rfl) (rd_int Tryz.underlying41)
  obtain ⟨a1, r1, w1⟩ := fld hq 1 rfl (d := x1) rfl 4 1 1 rfl rfl (by kernel_rfl) (rd_bool Tryz.underlying4)
  obtain ⟨a2, r2, w2⟩ := fld hq 2 rfl (d := x2) rfl 3 2 1 rfl rfl (by kernel_rfl) (rd_int Tryz.underlying3)
  obtain ⟨a3, r3, w3⟩ := fld hq 3 rfl (d := x3) rfl 3 3 1 rfl rfl (by kernel_rfl) (rd_int Tryz.underlying3)
  obtain ⟨a4, r4, w4⟩ := fld hq 4 rfl (d := x4) rfl 3 4 1 rfl rfl (by kernel_rfl) (rd_int Tryz.underlying3)
  obtain ⟨a5, r5, w5⟩ := fld hq 5 rfl (d := x5) rfl 9 5 1 rfl rfl (by kernel_rfl) (rd_str Tryz.underlying9)
  obtain ⟨a6, r6, w6⟩ := fld hq 6 rfl (d := x6) rfl 44 6 3 rfl rfl (by kernel_rfl) h44
  obtain ⟨a7, r7, w7⟩ := fld hq 7 rfl (d := x7) rfl 45 9 1 rfl rfl (by kernel_rfl) (rd_int Tryz.underlying45)
  obtain ⟨a8, r8, w8⟩ := fld hq 8 rfl (d := x8) rfl 46 10 1 rfl rfl (by kernel_rfl) (rd_int Tryz.underlying46)
  obtain ⟨a9, r9, w9⟩ := fld hq 9 rfl (d := x9) rfl 46 11 1 rfl rfl (by kernel_rfl) (rd_int Tryz.underlying46)
  obtain ⟨a10, r10, w10⟩ := fld hq 10 rfl (d := x10) rfl 31 12 1 rfl rfl (by kernel_rfl) h31
  obtain ⟨a11, r11, w11⟩ := fld hq 11 rfl (d := x11) rfl 47 13 1 rfl rfl (by kernel_rfl) h47
  have q0 : RepL (G0 W) [] (cs.take 0) := by rw [List.take_zero]; exact RepL.nil _
  have q1 := rep_step q0 r0
  have q2 := rep_step q1 r1
  have q3 := rep_step q2 r2
  have q4 := rep_step q3 r3
  have q5 := rep_step q4 r4
  have q6 := rep_step q5 r5
  have q7 := rep_step q6 r6
  have q8 := rep_step q7 r7
  have q9 := rep_step q8 r8
  have q10 := rep_step q9 r9
  have q11 := rep_step q10 r10
  have q12 := rep_step q11 r11
  have e : cs.take 14 = cs := by rw [← hcs, List.take_length]
  simp only [Rows.uptoBulk, Rows.uptoBulkAll, List.map_cons, List.map_nil]
  refine ⟨⟨a0, a1, a2, a3, a4, a5, a6.1, a6.2.1, a6.2.2, a7, a8, a9, a10, a11⟩, ?_, ?_⟩
  · rw [e] at q12; rw [Term.v_eq]; exact q12
  · rw [Term.w_eq]; simp only [List.map_const', List.sum_replicate_nat, Nat.mul_one] at *; omega
theorem rd66 {n : Nat} (h31 : Rd enc Tryz.prog W n 31 (fun l : List Term => [V.slice 14 (l.map Term.v)]) (fun l : List Term => 1 + (l.map Term.w).sum)) (h64 : Rd enc Tryz.prog W n 64 (fun l : List Bound => [V.slice 15 (l.map Bound.v)]) (fun l : List Bound => 1 + (l.map Bound.w).sum)) : Rd enc Tryz.prog W (n + 1) 66 (fun z : Int × ByteArray × List Term × List Bound × List Bound => [vint z.1, vstr z.2.1, V.slice 14 (z.2.2.1.map Term.v), V.slice 15 (z.2.2.2.1.map Bound.v), V.slice 15 (z.2.2.2.2.map Bound.v)]) (fun z => 1 + (z.2.2.1.map Term.w).sum + (z.2.2.2.1.map Bound.w).sum + (z.2.2.2.2.map Bound.w).sum) := fun cs x hx => by
  obtain ⟨xs, m, hm, rfl, hcs, hl, hq⟩ := DataW.trod_struct Tryz.underlying66 hx
  obtain rfl : n = m := by omega
  have hcs : cs.length = 5 := hcs.trans (by kernel_rfl)
  have hl : xs.length = 5 := hl
  obtain ⟨x0, y0, rfl, l0⟩ := len_succ hl
  obtain ⟨x1, y1, rfl, l1⟩ := len_succ l0
  obtain ⟨x2, y2, rfl, l2⟩ := len_succ l1
  obtain ⟨x3, y3, rfl, l3⟩ := len_succ l2
  obtain ⟨x4, y4, rfl, l4⟩ := len_succ l3
  obtain rfl := List.eq_nil_of_length_eq_zero l4
  obtain ⟨a0, r0, w0⟩ := fld hq 0 rfl (d := x0) rfl 63 0 1 rfl rfl (by kernel_rfl) (rd_int Tryz.underlying63)
  obtain ⟨a1, r1, w1⟩ := fld hq 1 rfl (d := x1) rfl 9 1 1 rfl rfl (by kernel_rfl) (rd_str Tryz.underlying9)
  obtain ⟨a2, r2, w2⟩ := fld hq 2 rfl (d := x2) rfl 31 2 1 rfl rfl (by kernel_rfl) h31
  obtain ⟨a3, r3, w3⟩ := fld hq 3 rfl (d := x3) rfl 64 3 1 rfl rfl (by kernel_rfl) h64
  obtain ⟨a4, r4, w4⟩ := fld hq 4 rfl (d := x4) rfl 64 4 1 rfl rfl (by kernel_rfl) h64
  have q0 : RepL (G0 W) [] (cs.take 0) := by rw [List.take_zero]; exact RepL.nil _
  have q1 := rep_step q0 r0
  have q2 := rep_step q1 r1
  have q3 := rep_step q2 r2
  have q4 := rep_step q3 r3
  have q5 := rep_step q4 r4
  have e : cs.take 5 = cs := by rw [← hcs, List.take_length]
  simp only [Rows.uptoBulk, Rows.uptoBulkAll, List.map_cons, List.map_nil]
  refine ⟨⟨a0, a1, a2, a3, a4⟩, ?_, ?_⟩
  · rw [e] at q5; exact q5
  · simp only at *; omega
theorem rd33 {n : Nat} (h28 : Rd enc Tryz.prog W n 28 (fun l : List ByteArray => [V.slice 1 (l.map (fun z : ByteArray => [vstr z]))]) (fun l : List ByteArray => 1 + (l.map (fun _ => 1)).sum)) (h29 : Rd enc Tryz.prog W n 29 (fun l : List Arm => [V.slice 13 (l.map Arm.v)]) (fun l : List Arm => 1 + (l.map Arm.w).sum)) (h30 : Rd enc Tryz.prog W n 30 (fun l : List Sorted => [V.slice 3 (l.map Sorted.v)]) (fun l : List Sorted => 1 + (l.map (fun _ => 1)).sum)) (h31 : Rd enc Tryz.prog W n 31 (fun l : List Term => [V.slice 14 (l.map Term.v)]) (fun l : List Term => 1 + (l.map Term.w).sum)) : Rd enc Tryz.prog W (n + 1) 33 Query.v Query.w := fun cs x hx => by
  obtain ⟨xs, m, hm, rfl, hcs, hl, hq⟩ := DataW.trod_struct Tryz.underlying33 hx
  obtain rfl : n = m := by omega
  have hcs : cs.length = 5 := hcs.trans (by kernel_rfl)
  have hl : xs.length = 5 := hl
  obtain ⟨x0, y0, rfl, l0⟩ := len_succ hl
  obtain ⟨x1, y1, rfl, l1⟩ := len_succ l0
  obtain ⟨x2, y2, rfl, l2⟩ := len_succ l1
  obtain ⟨x3, y3, rfl, l3⟩ := len_succ l2
  obtain ⟨x4, y4, rfl, l4⟩ := len_succ l3
  obtain rfl := List.eq_nil_of_length_eq_zero l4
  obtain ⟨a0, r0, w0⟩ := fld hq 0 rfl (d := x0) rfl 28 0 1 rfl rfl (by kernel_rfl) h28
  obtain ⟨a1, r1, w1⟩ := fld hq 1 rfl (d := x1) rfl 29 1 1 rfl rfl (by kernel_rfl) h29
  obtain ⟨a2, r2, w2⟩ := fld hq 2 rfl (d := x2) rfl 30 2 1 rfl rfl (by kernel_rfl) h30
  obtain ⟨a3, r3, w3⟩ := fld hq 3 rfl (d := x3) rfl 31 3 1 rfl rfl (by kernel_rfl) h31
  obtain ⟨a4, r4, w4⟩ := fld hq 4 rfl (d := x4) rfl 31 4 1 rfl rfl (by kernel_rfl) h31
  have q0 : RepL (G0 W) [] (cs.take 0) := by rw [List.take_zero]; exact RepL.nil _
  have q1 := rep_step q0 r0
  have q2 := rep_step q1 r1
  have q3 := rep_step q2 r2
  have q4 := rep_step q3 r3
  have q5 := rep_step q4 r4
  have e : cs.take 5 = cs := by rw [← hcs, List.take_length]
  simp only [Rows.uptoBulk, Rows.uptoBulkAll, List.map_cons, List.map_nil]
  refine ⟨⟨a0, a1, a2, a3, a4⟩, ?_, ?_⟩
  · rw [e] at q5; rw [Query.v_eq]; exact q5
  · rw [Query.w_eq]; simp only [List.map_const', List.sum_replicate_nat, Nat.mul_one] at *; omega
theorem rd75 {n : Nat} (h71 : Rd enc Tryz.prog W n 71 (fun l : List (List Term) => [V.slice 1 (l.map (fun l : List Term => [V.slice 14 (l.map Term.v)]))]) (fun l : List (List Term) => 1 + (l.map (fun l : List Term => 1 + (l.map Term.w).sum)).sum)) (h72 : Rd enc Tryz.prog W n 72 (fun l : List From => [V.slice 7 (l.map From.v)]) (fun l : List From => 1 + (l.map From.w).sum)) (h31 : Rd enc Tryz.prog W n 31 (fun l : List Term => [V.slice 14 (l.map Term.v)]) (fun l : List Term => 1 + (l.map Term.w).sum)) (h73 : Rd enc Tryz.prog W n 73 (fun l : List Agg => [V.slice 5 (l.map Agg.v)]) (fun l : List Agg => 1 + (l.map Agg.w).sum)) (h69 : Rd enc Tryz.prog W n 69 (fun l : List Step => [V.slice 7 (l.map Step.v)]) (fun l : List Step => 1 + (l.map Step.w).sum)) : Rd enc Tryz.prog W (n + 1) 75 Arm.v Arm.w := fun cs x hx => by
  obtain ⟨xs, m, hm, rfl, hcs, hl, hq⟩ := DataW.trod_struct Tryz.underlying75 hx
  obtain rfl : n = m := by omega
  have hcs : cs.length = 13 := hcs.trans (by kernel_rfl)
  have hl : xs.length = 13 := hl
  obtain ⟨x0, y0, rfl, l0⟩ := len_succ hl
  obtain ⟨x1, y1, rfl, l1⟩ := len_succ l0
  obtain ⟨x2, y2, rfl, l2⟩ := len_succ l1
  obtain ⟨x3, y3, rfl, l3⟩ := len_succ l2
  obtain ⟨x4, y4, rfl, l4⟩ := len_succ l3
  obtain ⟨x5, y5, rfl, l5⟩ := len_succ l4
  obtain ⟨x6, y6, rfl, l6⟩ := len_succ l5
  obtain ⟨x7, y7, rfl, l7⟩ := len_succ l6
  obtain ⟨x8, y8, rfl, l8⟩ := len_succ l7
  obtain ⟨x9, y9, rfl, l9⟩ := len_succ l8
  obtain ⟨x10, y10, rfl, l10⟩ := len_succ l9
  obtain ⟨x11, y11, rfl, l11⟩ := len_succ l10
  obtain ⟨x12, y12, rfl, l12⟩ := len_succ l11
  obtain rfl := List.eq_nil_of_length_eq_zero l12
  obtain ⟨a0, r0, w0⟩ := fld hq 0 rfl (d := x0) rfl 70 0 1 rfl rfl (by kernel_rfl) (rd_int Tryz.underlying70)
  obtain ⟨a1, r1, w1⟩ := fld hq 1 rfl (d := x1) rfl 4 1 1 rfl rfl (by kernel_rfl) (rd_bool Tryz.underlying4)
  obtain ⟨a2, r2, w2⟩ := fld hq 2 rfl (d := x2) rfl 4 2 1 rfl rfl (by kernel_rfl) (rd_bool Tryz.underlying4)
  obtain ⟨a3, r3, w3⟩ := fld hq 3 rfl (d := x3) rfl 71 3 1 rfl rfl (by kernel_rfl) h71
  obtain ⟨a4, r4, w4⟩ := fld hq 4 rfl (d := x4) rfl 72 4 1 rfl rfl (by kernel_rfl) h72
  obtain ⟨a5, r5, w5⟩ := fld hq 5 rfl (d := x5) rfl 31 5 1 rfl rfl (by kernel_rfl) h31
  obtain ⟨a6, r6, w6⟩ := fld hq 6 rfl (d := x6) rfl 4 6 1 rfl rfl (by kernel_rfl) (rd_bool Tryz.underlying4)
  obtain ⟨a7, r7, w7⟩ := fld hq 7 rfl (d := x7) rfl 31 7 1 rfl rfl (by kernel_rfl) h31
  obtain ⟨a8, r8, w8⟩ := fld hq 8 rfl (d := x8) rfl 73 8 1 rfl rfl (by kernel_rfl) h73
  obtain ⟨a9, r9, w9⟩ := fld hq 9 rfl (d := x9) rfl 31 9 1 rfl rfl (by kernel_rfl) h31
  obtain ⟨a10, r10, w10⟩ := fld hq 10 rfl (d := x10) rfl 31 10 1 rfl rfl (by kernel_rfl) h31
  obtain ⟨a11, r11, w11⟩ := fld hq 11 rfl (d := x11) rfl 31 11 1 rfl rfl (by kernel_rfl) h31
  obtain ⟨a12, r12, w12⟩ := fld hq 12 rfl (d := x12) rfl 69 12 1 rfl rfl (by kernel_rfl) h69
  have q0 : RepL (G0 W) [] (cs.take 0) := by rw [List.take_zero]; exact RepL.nil _
  have q1 := rep_step q0 r0
  have q2 := rep_step q1 r1
  have q3 := rep_step q2 r2
  have q4 := rep_step q3 r3
  have q5 := rep_step q4 r4
  have q6 := rep_step q5 r5
  have q7 := rep_step q6 r6
  have q8 := rep_step q7 r7
  have q9 := rep_step q8 r8
  have q10 := rep_step q9 r9
  have q11 := rep_step q10 r10
  have q12 := rep_step q11 r11
  have q13 := rep_step q12 r12
  have e : cs.take 13 = cs := by rw [← hcs, List.take_length]
  simp only [Rows.uptoBulk, Rows.uptoBulkAll, List.map_cons, List.map_nil]
  refine ⟨⟨a0, a1, a2, a3, a4, a5, a6, a7, a8, a9, a10, a11, a12⟩, ?_, ?_⟩
  · rw [e] at q13; rw [Arm.v_eq]; exact q13
  · rw [Arm.w_eq]; simp only [List.map_const', List.sum_replicate_nat, Nat.mul_one] at *; omega
theorem rd107 {n : Nat} (h47 : Rd enc Tryz.prog W n 47 (fun l : List Query => [V.slice 5 (l.map Query.v)]) (fun l : List Query => 1 + (l.map Query.w).sum)) (h31 : Rd enc Tryz.prog W n 31 (fun l : List Term => [V.slice 14 (l.map Term.v)]) (fun l : List Term => 1 + (l.map Term.w).sum)) : Rd enc Tryz.prog W (n + 1) 107 From.v From.w := fun cs x hx => by
  obtain ⟨xs, m, hm, rfl, hcs, hl, hq⟩ := DataW.trod_struct Tryz.underlying107 hx
  obtain rfl : n = m := by omega
  have hcs : cs.length = 7 := hcs.trans (by kernel_rfl)
  have hl : xs.length = 7 := hl
  obtain ⟨x0, y0, rfl, l0⟩ := len_succ hl
  obtain ⟨x1, y1, rfl, l1⟩ := len_succ l0
  obtain ⟨x2, y2, rfl, l2⟩ := len_succ l1
  obtain ⟨x3, y3, rfl, l3⟩ := len_succ l2
  obtain ⟨x4, y4, rfl, l4⟩ := len_succ l3
  obtain ⟨x5, y5, rfl, l5⟩ := len_succ l4
  obtain ⟨x6, y6, rfl, l6⟩ := len_succ l5
  obtain rfl := List.eq_nil_of_length_eq_zero l6
  obtain ⟨a0, r0, w0⟩ := fld hq 0 rfl (d := x0) rfl 104 0 1 rfl rfl (by kernel_rfl) (rd_int Tryz.underlying104)
  obtain ⟨a1, r1, w1⟩ := fld hq 1 rfl (d := x1) rfl 105 1 1 rfl rfl (by kernel_rfl) (rd_int Tryz.underlying105)
  obtain ⟨a2, r2, w2⟩ := fld hq 2 rfl (d := x2) rfl 9 2 1 rfl rfl (by kernel_rfl) (rd_str Tryz.underlying9)
  obtain ⟨a3, r3, w3⟩ := fld hq 3 rfl (d := x3) rfl 3 3 1 rfl rfl (by kernel_rfl) (rd_int Tryz.underlying3)
  obtain ⟨a4, r4, w4⟩ := fld hq 4 rfl (d := x4) rfl 3 4 1 rfl rfl (by kernel_rfl) (rd_int Tryz.underlying3)
  obtain ⟨a5, r5, w5⟩ := fld hq 5 rfl (d := x5) rfl 47 5 1 rfl rfl (by kernel_rfl) h47
  obtain ⟨a6, r6, w6⟩ := fld hq 6 rfl (d := x6) rfl 31 6 1 rfl rfl (by kernel_rfl) h31
  have q0 : RepL (G0 W) [] (cs.take 0) := by rw [List.take_zero]; exact RepL.nil _
  have q1 := rep_step q0 r0
  have q2 := rep_step q1 r1
  have q3 := rep_step q2 r2
  have q4 := rep_step q3 r3
  have q5 := rep_step q4 r4
  have q6 := rep_step q5 r5
  have q7 := rep_step q6 r6
  have e : cs.take 7 = cs := by rw [← hcs, List.take_length]
  simp only [Rows.uptoBulk, Rows.uptoBulkAll, List.map_cons, List.map_nil]
  refine ⟨⟨a0, a1, a2, a3, a4, a5, a6⟩, ?_, ?_⟩
  · rw [e] at q7; rw [From.v_eq]; exact q7
  · rw [From.w_eq]; simp only [List.map_const', List.sum_replicate_nat, Nat.mul_one] at *; omega
theorem rd130 {n : Nat} (h31 : Rd enc Tryz.prog W n 31 (fun l : List Term => [V.slice 14 (l.map Term.v)]) (fun l : List Term => 1 + (l.map Term.w).sum)) : Rd enc Tryz.prog W (n + 1) 130 Agg.v Agg.w := fun cs x hx => by
  obtain ⟨xs, m, hm, rfl, hcs, hl, hq⟩ := DataW.trod_struct Tryz.underlying130 hx
  obtain rfl : n = m := by omega
  have hcs : cs.length = 5 := hcs.trans (by kernel_rfl)
  have hl : xs.length = 5 := hl
  obtain ⟨x0, y0, rfl, l0⟩ := len_succ hl
  obtain ⟨x1, y1, rfl, l1⟩ := len_succ l0
  obtain ⟨x2, y2, rfl, l2⟩ := len_succ l1
  obtain ⟨x3, y3, rfl, l3⟩ := len_succ l2
  obtain ⟨x4, y4, rfl, l4⟩ := len_succ l3
  obtain rfl := List.eq_nil_of_length_eq_zero l4
  obtain ⟨a0, r0, w0⟩ := fld hq 0 rfl (d := x0) rfl 9 0 1 rfl rfl (by kernel_rfl) (rd_str Tryz.underlying9)
  obtain ⟨a1, r1, w1⟩ := fld hq 1 rfl (d := x1) rfl 4 1 1 rfl rfl (by kernel_rfl) (rd_bool Tryz.underlying4)
  obtain ⟨a2, r2, w2⟩ := fld hq 2 rfl (d := x2) rfl 4 2 1 rfl rfl (by kernel_rfl) (rd_bool Tryz.underlying4)
  obtain ⟨a3, r3, w3⟩ := fld hq 3 rfl (d := x3) rfl 45 3 1 rfl rfl (by kernel_rfl) (rd_int Tryz.underlying45)
  obtain ⟨a4, r4, w4⟩ := fld hq 4 rfl (d := x4) rfl 31 4 1 rfl rfl (by kernel_rfl) h31
  have q0 : RepL (G0 W) [] (cs.take 0) := by rw [List.take_zero]; exact RepL.nil _
  have q1 := rep_step q0 r0
  have q2 := rep_step q1 r1
  have q3 := rep_step q2 r2
  have q4 := rep_step q3 r3
  have q5 := rep_step q4 r4
  have e : cs.take 5 = cs := by rw [← hcs, List.take_length]
  simp only [Rows.uptoBulk, Rows.uptoBulkAll, List.map_cons, List.map_nil]
  refine ⟨⟨a0, a1, a2, a3, a4⟩, ?_, ?_⟩
  · rw [e] at q5; rw [Agg.v_eq]; exact q5
  · rw [Agg.w_eq]; simp only [List.map_const', List.sum_replicate_nat, Nat.mul_one] at *; omega
theorem rd132 {n : Nat} (h49 : Rd enc Tryz.prog W n 49 Term.v Term.w) : Rd enc Tryz.prog W (n + 1) 132 Bound.v Bound.w := fun cs x hx => by
  obtain ⟨xs, m, hm, rfl, hcs, hl, hq⟩ := DataW.trod_struct Tryz.underlying132 hx
  obtain rfl : n = m := by omega
  have hcs : cs.length = 15 := hcs.trans (by kernel_rfl)
  have hl : xs.length = 2 := hl
  obtain ⟨x0, y0, rfl, l0⟩ := len_succ hl
  obtain ⟨x1, y1, rfl, l1⟩ := len_succ l0
  obtain rfl := List.eq_nil_of_length_eq_zero l1
  obtain ⟨a0, r0, w0⟩ := fld hq 0 rfl (d := x0) rfl 49 0 14 rfl rfl (by kernel_rfl) h49
  obtain ⟨a1, r1, w1⟩ := fld hq 1 rfl (d := x1) rfl 4 14 1 rfl rfl (by kernel_rfl) (rd_bool Tryz.underlying4)
  have q0 : RepL (G0 W) [] (cs.take 0) := by rw [List.take_zero]; exact RepL.nil _
  have q1 := rep_step q0 r0
  have q2 := rep_step q1 r1
  have e : cs.take 15 = cs := by rw [← hcs, List.take_length]
  simp only [Rows.uptoBulk, Rows.uptoBulkAll, List.map_cons, List.map_nil]
  refine ⟨⟨a0, a1⟩, ?_, ?_⟩
  · rw [e] at q2; rw [Bound.v_eq]; exact q2
  · rw [Bound.w_eq]; simp only [List.map_const', List.sum_replicate_nat, Nat.mul_one] at *; omega
theorem rd68 {n : Nat} (h66 : Rd enc Tryz.prog W n 66 (fun z : Int × ByteArray × List Term × List Bound × List Bound => [vint z.1, vstr z.2.1, V.slice 14 (z.2.2.1.map Term.v), V.slice 15 (z.2.2.2.1.map Bound.v), V.slice 15 (z.2.2.2.2.map Bound.v)]) (fun z => 1 + (z.2.2.1.map Term.w).sum + (z.2.2.2.1.map Bound.w).sum + (z.2.2.2.2.map Bound.w).sum)) (h50 : Rd enc Tryz.prog W n 50 (fun l : List Int => [V.slice 1 (l.map (fun z : Int => [vint z]))]) (fun l : List Int => 1 + (l.map (fun _ => 1)).sum)) : Rd enc Tryz.prog W (n + 1) 68 Step.v Step.w := fun cs x hx => by
  obtain ⟨xs, m, hm, rfl, hcs, hl, hq⟩ := DataW.trod_struct Tryz.underlying68 hx
  obtain rfl : n = m := by omega
  have hcs : cs.length = 7 := hcs.trans (by kernel_rfl)
  have hl : xs.length = 3 := hl
  obtain ⟨x0, y0, rfl, l0⟩ := len_succ hl
  obtain ⟨x1, y1, rfl, l1⟩ := len_succ l0
  obtain ⟨x2, y2, rfl, l2⟩ := len_succ l1
  obtain rfl := List.eq_nil_of_length_eq_zero l2
  obtain ⟨a0, r0, w0⟩ := fld hq 0 rfl (d := x0) rfl 3 0 1 rfl rfl (by kernel_rfl) (rd_int Tryz.underlying3)
  obtain ⟨a1, r1, w1⟩ := fld hq 1 rfl (d := x1) rfl 66 1 5 rfl rfl (by kernel_rfl) h66
  obtain ⟨a2, r2, w2⟩ := fld hq 2 rfl (d := x2) rfl 50 6 1 rfl rfl (by kernel_rfl) h50
  have q0 : RepL (G0 W) [] (cs.take 0) := by rw [List.take_zero]; exact RepL.nil _
  have q1 := rep_step q0 r0
  have q2 := rep_step q1 r1
  have q3 := rep_step q2 r2
  have e : cs.take 7 = cs := by rw [← hcs, List.take_length]
  simp only [Rows.uptoBulk, Rows.uptoBulkAll, List.map_cons, List.map_nil]
  refine ⟨⟨a0, a1.1, a1.2.1, a1.2.2.1, a1.2.2.2.1, a1.2.2.2.2, a2⟩, ?_, ?_⟩
  · rw [e] at q3; rw [Step.v_eq]; exact q3
  · rw [Step.w_eq]; simp only [List.map_const', List.sum_replicate_nat, Nat.mul_one] at *; omega
/-- All at once. -/
structure RdAll (enc : TypeId × Value → H) (W : World) (n : Nat) : Prop where
  h49 : Rd enc Tryz.prog W n 49 Term.v Term.w
  h33 : Rd enc Tryz.prog W n 33 Query.v Query.w
  h75 : Rd enc Tryz.prog W n 75 Arm.v Arm.w
  h107 : Rd enc Tryz.prog W n 107 From.v From.w
  h130 : Rd enc Tryz.prog W n 130 Agg.v Agg.w
  h132 : Rd enc Tryz.prog W n 132 Bound.v Bound.w
  h68 : Rd enc Tryz.prog W n 68 Step.v Step.w
  h31 : Rd enc Tryz.prog W n 31 (fun l : List Term => [V.slice 14 (l.map Term.v)]) (fun l : List Term => 1 + (l.map Term.w).sum)
  h47 : Rd enc Tryz.prog W n 47 (fun l : List Query => [V.slice 5 (l.map Query.v)]) (fun l : List Query => 1 + (l.map Query.w).sum)
  h29 : Rd enc Tryz.prog W n 29 (fun l : List Arm => [V.slice 13 (l.map Arm.v)]) (fun l : List Arm => 1 + (l.map Arm.w).sum)
  h71 : Rd enc Tryz.prog W n 71 (fun l : List (List Term) => [V.slice 1 (l.map (fun l : List Term => [V.slice 14 (l.map Term.v)]))]) (fun l : List (List Term) => 1 + (l.map (fun l : List Term => 1 + (l.map Term.w).sum)).sum)
  h72 : Rd enc Tryz.prog W n 72 (fun l : List From => [V.slice 7 (l.map From.v)]) (fun l : List From => 1 + (l.map From.w).sum)
  h73 : Rd enc Tryz.prog W n 73 (fun l : List Agg => [V.slice 5 (l.map Agg.v)]) (fun l : List Agg => 1 + (l.map Agg.w).sum)
  h69 : Rd enc Tryz.prog W n 69 (fun l : List Step => [V.slice 7 (l.map Step.v)]) (fun l : List Step => 1 + (l.map Step.w).sum)
  h64 : Rd enc Tryz.prog W n 64 (fun l : List Bound => [V.slice 15 (l.map Bound.v)]) (fun l : List Bound => 1 + (l.map Bound.w).sum)
  h66 : Rd enc Tryz.prog W n 66 (fun z : Int × ByteArray × List Term × List Bound × List Bound => [vint z.1, vstr z.2.1, V.slice 14 (z.2.2.1.map Term.v), V.slice 15 (z.2.2.2.1.map Bound.v), V.slice 15 (z.2.2.2.2.map Bound.v)]) (fun z => 1 + (z.2.2.1.map Term.w).sum + (z.2.2.2.1.map Bound.w).sum + (z.2.2.2.2.map Bound.w).sum)
theorem rd_all (enc : TypeId × Value → H) (W : World) : ∀ n, RdAll enc W n
  | 0 => by constructor <;> exact rd_zero
  | n + 1 => by
    have h := rd_all enc W n
    have h28 : ∀ m, Rd enc Tryz.prog W m 28 (fun l : List ByteArray => [V.slice 1 (l.map (fun z : ByteArray => [vstr z]))]) (fun l : List ByteArray => 1 + (l.map (fun _ => 1)).sum) := fun m => by
      cases m with
      | zero => exact rd_zero
      | succ m => exact rd_slice Tryz.underlying28 (by kernel_rfl : Tryz.prog.cellsOf 9 = 1) (by decide) (fun a => ⟨rfl, rfl⟩) (rd_str Tryz.underlying9)
    have h50 : ∀ m, Rd enc Tryz.prog W m 50 (fun l : List Int => [V.slice 1 (l.map (fun z : Int => [vint z]))]) (fun l : List Int => 1 + (l.map (fun _ => 1)).sum) := fun m => by
      cases m with
      | zero => exact rd_zero
      | succ m => exact rd_slice Tryz.underlying50 (by kernel_rfl : Tryz.prog.cellsOf 3 = 1) (by decide) (fun a => ⟨rfl, rfl⟩) (rd_int Tryz.underlying3)
    have h44 : ∀ m, Rd enc Tryz.prog W m 44 (fun z : Int × Int × ByteArray => [vint z.1, vint z.2.1, vstr z.2.2]) (fun _ => 1) := fun m => by
      cases m with
      | zero => exact rd_zero
      | succ m => exact rd44
    have h118 : ∀ m, Rd enc Tryz.prog W m 118 Sorted.v (fun _ => 1) := fun m => by
      cases m with
      | zero => exact rd_zero
      | succ m => exact rd118
    have h30 : ∀ m, Rd enc Tryz.prog W m 30 (fun l : List Sorted => [V.slice 3 (l.map Sorted.v)]) (fun l : List Sorted => 1 + (l.map (fun _ => 1)).sum) := fun m => by
      cases m with
      | zero => exact rd_zero
      | succ m => exact rd_slice Tryz.underlying30 (by kernel_rfl : Tryz.prog.cellsOf 118 = 3) (by decide) Sorted_cell (h118 m)
    have g49 : Rd enc Tryz.prog W (n + 1) 49 Term.v Term.w := rd49 (h44 n) h.h31 h.h47
    have g33 : Rd enc Tryz.prog W (n + 1) 33 Query.v Query.w := rd33 (h28 n) h.h29 (h30 n) h.h31
    have g75 : Rd enc Tryz.prog W (n + 1) 75 Arm.v Arm.w := rd75 h.h71 h.h72 h.h31 h.h73 h.h69
    have g107 : Rd enc Tryz.prog W (n + 1) 107 From.v From.w := rd107 h.h47 h.h31
    have g130 : Rd enc Tryz.prog W (n + 1) 130 Agg.v Agg.w := rd130 h.h31
    have g132 : Rd enc Tryz.prog W (n + 1) 132 Bound.v Bound.w := rd132 h.h49
    have g68 : Rd enc Tryz.prog W (n + 1) 68 Step.v Step.w := rd68 h.h66 (h50 n)
    have g31 : Rd enc Tryz.prog W (n + 1) 31 (fun l : List Term => [V.slice 14 (l.map Term.v)]) (fun l : List Term => 1 + (l.map Term.w).sum) := rd_slice Tryz.underlying31 (by kernel_rfl : Tryz.prog.cellsOf 49 = 14) (by decide) Term_cell h.h49
    have g47 : Rd enc Tryz.prog W (n + 1) 47 (fun l : List Query => [V.slice 5 (l.map Query.v)]) (fun l : List Query => 1 + (l.map Query.w).sum) := rd_slice Tryz.underlying47 (by kernel_rfl : Tryz.prog.cellsOf 33 = 5) (by decide) Query_cell h.h33
    have g29 : Rd enc Tryz.prog W (n + 1) 29 (fun l : List Arm => [V.slice 13 (l.map Arm.v)]) (fun l : List Arm => 1 + (l.map Arm.w).sum) := rd_slice Tryz.underlying29 (by kernel_rfl : Tryz.prog.cellsOf 75 = 13) (by decide) Arm_cell h.h75
    have g71 : Rd enc Tryz.prog W (n + 1) 71 (fun l : List (List Term) => [V.slice 1 (l.map (fun l : List Term => [V.slice 14 (l.map Term.v)]))]) (fun l : List (List Term) => 1 + (l.map (fun l : List Term => 1 + (l.map Term.w).sum)).sum) := rd_slice Tryz.underlying71 (by kernel_rfl : Tryz.prog.cellsOf 31 = 1) (by decide) (fun a => ⟨rfl, rfl⟩) h.h31
    have g72 : Rd enc Tryz.prog W (n + 1) 72 (fun l : List From => [V.slice 7 (l.map From.v)]) (fun l : List From => 1 + (l.map From.w).sum) := rd_slice Tryz.underlying72 (by kernel_rfl : Tryz.prog.cellsOf 107 = 7) (by decide) From_cell h.h107
    have g73 : Rd enc Tryz.prog W (n + 1) 73 (fun l : List Agg => [V.slice 5 (l.map Agg.v)]) (fun l : List Agg => 1 + (l.map Agg.w).sum) := rd_slice Tryz.underlying73 (by kernel_rfl : Tryz.prog.cellsOf 130 = 5) (by decide) Agg_cell h.h130
    have g69 : Rd enc Tryz.prog W (n + 1) 69 (fun l : List Step => [V.slice 7 (l.map Step.v)]) (fun l : List Step => 1 + (l.map Step.w).sum) := rd_slice Tryz.underlying69 (by kernel_rfl : Tryz.prog.cellsOf 68 = 7) (by decide) Step_cell h.h68
    have g64 : Rd enc Tryz.prog W (n + 1) 64 (fun l : List Bound => [V.slice 15 (l.map Bound.v)]) (fun l : List Bound => 1 + (l.map Bound.w).sum) := rd_slice Tryz.underlying64 (by kernel_rfl : Tryz.prog.cellsOf 132 = 15) (by decide) Bound_cell h.h132
    have g66 : Rd enc Tryz.prog W (n + 1) 66 (fun z : Int × ByteArray × List Term × List Bound × List Bound => [vint z.1, vstr z.2.1, V.slice 14 (z.2.2.1.map Term.v), V.slice 15 (z.2.2.2.1.map Bound.v), V.slice 15 (z.2.2.2.2.map Bound.v)]) (fun z => 1 + (z.2.2.1.map Term.w).sum + (z.2.2.2.1.map Bound.w).sum + (z.2.2.2.2.map Bound.w).sum) := rd66 h.h31 h.h64
    exact ⟨g49, g33, g75, g107, g130, g132, g68, g31, g47, g29, g71, g72, g73, g69, g64, g66⟩
end Go.Proofs.YtcckhbconihagaaGreatDoor
