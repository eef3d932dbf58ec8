/- What is read of resolved queries as data, in abstract values. -/
import Derived.Test.YtcckhbconihagaaGreatDoorPlRead2
set_option linter.unusedVariables false
set_option linter.unusedSimpArgs false
set_option maxRecDepth 100000
namespace Go.Proofs.YtcckhbconihagaaGreatDoor
open Go.Am Go.Pl
variable {H : Type} {enc : TypeId × Value → H} {W : World}
theorem rd62 {n : Nat} (h28 : Rd enc Tryz.prog W n 28 (fun l : List ByteArray => [V.slice 1 (l.map (fun z : ByteArray => [vstr z]))]) (fun l : List ByteArray => 1 + (l.map (fun _ => 1)).sum)) (h33 : Rd enc Tryz.prog W n 33 Query.v Query.w) (h47 : Rd enc Tryz.prog W n 47 (fun l : List Query => [V.slice 5 (l.map Query.v)]) (fun l : List Query => 1 + (l.map Query.w).sum)) : Rd enc Tryz.prog W (n + 1) 62 With.v With.w := fun cs x hx => by
  obtain ⟨xs, m, hm, rfl, hcs, hl, hq⟩ := DataW.trod_struct Tryz.underlying62 hx
  obtain rfl : n = m := by omega
  have hcs : cs.length = 9 := hcs.trans (by kernel_rfl)
  have hl : xs.length = 5 := hl
  obtain ⟨x0, y0, rfl, l0⟩ := len_succ hl
  obtain ⟨x1, y1, rfl, l1⟩ := len_succ l0
  obtain ⟨x2, y2, rfl, l2⟩ := len_succ l1
  obtain ⟨x3, y3, rfl, l3⟩ := len_succ l2
  obtain ⟨x4, y4, rfl, l4⟩ := len_succ l3
  obtain rfl := List.eq_nil_of_length_eq_zero l4
  obtain ⟨a0, r0, w0⟩ := fld hq 0 rfl (d := x0) rfl 9 0 1 rfl rfl (by kernel_rfl) (rd_str Tryz.underlying9)
  obtain ⟨a1, r1, w1⟩ := fld hq 1 rfl (d := x1) rfl 28 1 1 rfl rfl (by kernel_rfl) h28
  obtain ⟨a2, r2, w2⟩ := fld hq 2 rfl (d := x2) rfl 33 2 5 rfl rfl (by kernel_rfl) h33
  obtain ⟨a3, r3, w3⟩ := fld hq 3 rfl (d := x3) rfl 47 7 1 rfl rfl (by kernel_rfl) h47
  obtain ⟨a4, r4, w4⟩ := fld hq 4 rfl (d := x4) rfl 4 8 1 rfl rfl (by kernel_rfl) (rd_bool Tryz.underlying4)
  have q0 : RepL (G0 W) [] (cs.take 0) := by rw [List.take_zero]; exact RepL.nil _
  have q1 := rep_step q0 r0
  have q2 := rep_step q1 r1
  have q3 := rep_step q2 r2
  have q4 := rep_step q3 r3
  have q5 := rep_step q4 r4
  have e : cs.take 9 = cs := by rw [← hcs, List.take_length]
  simp only [Rows.uptoBulk, Rows.uptoBulkAll, List.map_cons, List.map_nil]
  refine ⟨⟨a0, a1, a2, a3, a4⟩, ?_, ?_⟩
  · rw [e] at q5; rw [With.v_eq]; simp only [List.nil_append, List.append_assoc, List.cons_append] at q5 ⊢; exact q5
  · rw [With.w_eq]; simp only [List.map_const', List.sum_replicate_nat, Nat.mul_one] at *; omega
theorem rd35 {n : Nat} (h27 : Rd enc Tryz.prog W n 27 (fun l : List With => [V.slice 9 (l.map With.v)]) (fun l : List With => 1 + (l.map With.w).sum)) (h33 : Rd enc Tryz.prog W n 33 Query.v Query.w) : Rd enc Tryz.prog W (n + 1) 35 Resolved.v Resolved.w := fun cs x hx => by
  obtain ⟨xs, m, hm, rfl, hcs, hl, hq⟩ := DataW.trod_struct Tryz.underlying35 hx
  obtain rfl : n = m := by omega
  have hcs : cs.length = 6 := hcs.trans (by kernel_rfl)
  have hl : xs.length = 2 := hl
  obtain ⟨x0, y0, rfl, l0⟩ := len_succ hl
  obtain ⟨x1, y1, rfl, l1⟩ := len_succ l0
  obtain rfl := List.eq_nil_of_length_eq_zero l1
  obtain ⟨a0, r0, w0⟩ := fld hq 0 rfl (d := x0) rfl 27 0 1 rfl rfl (by kernel_rfl) h27
  obtain ⟨a1, r1, w1⟩ := fld hq 1 rfl (d := x1) rfl 33 1 5 rfl rfl (by kernel_rfl) h33
  have q0 : RepL (G0 W) [] (cs.take 0) := by rw [List.take_zero]; exact RepL.nil _
  have q1 := rep_step q0 r0
  have q2 := rep_step q1 r1
  have e : cs.take 6 = cs := by rw [← hcs, List.take_length]
  simp only [Rows.uptoBulk, Rows.uptoBulkAll, List.map_cons, List.map_nil]
  refine ⟨⟨a0, a1⟩, ?_, ?_⟩
  · rw [e] at q2; rw [Resolved.v_eq]; simp only [List.nil_append, List.append_assoc, List.cons_append] at q2 ⊢; exact q2
  · rw [Resolved.w_eq]; simp only [List.map_const', List.sum_replicate_nat, Nat.mul_one] at *; omega
theorem rd35_any (enc : TypeId × Value → H) (W : World) : ∀ n, Rd enc Tryz.prog W n 35 Resolved.v Resolved.w := by
  have h28 : ∀ m, Rd enc Tryz.prog W m 28 (fun l : List ByteArray => [V.slice 1 (l.map (fun z : ByteArray => [vstr z]))]) (fun l : List ByteArray => 1 + (l.map (fun _ => 1)).sum) := fun m => by
    cases m with
    | zero => exact rd_zero
    | succ m => exact rd_slice Tryz.underlying28 (by kernel_rfl : Tryz.prog.cellsOf 9 = 1) (by decide) (fun a => ⟨rfl, rfl⟩) (rd_str Tryz.underlying9)
  have h62 : ∀ m, Rd enc Tryz.prog W m 62 With.v With.w := fun m => by
    cases m with
    | zero => exact rd_zero
    | succ m => exact rd62 (h28 m) (rd_all enc W m).h33 (rd_all enc W m).h47
  have h27 : ∀ m, Rd enc Tryz.prog W m 27 (fun l : List With => [V.slice 9 (l.map With.v)]) (fun l : List With => 1 + (l.map With.w).sum) := fun m => by
    cases m with
    | zero => exact rd_zero
    | succ m => exact rd_slice Tryz.underlying27 (by kernel_rfl : Tryz.prog.cellsOf 62 = 9) (by decide) With_cell (h62 m)
  intro n
  cases n with
  | zero => exact rd_zero
  | succ n => exact rd35 (h27 n) (rd_all enc W n).h33
end Go.Proofs.YtcckhbconihagaaGreatDoor
