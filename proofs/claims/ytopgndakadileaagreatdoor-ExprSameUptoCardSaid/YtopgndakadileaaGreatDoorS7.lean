/- Depth and parameters: as the program and the reference reckon them. -/
import Derived.Test.YtopgndakadileaaGreatDoorS6
import Derived.Test.YtopgndakadileaaGreatDoorS1
import Derived.Test.YtopgndakadileaaGreatDoorS2
import Derived.Test.YtopgndakadileaaGreatDoorS3
set_option linter.unusedVariables false
set_option linter.unusedSimpArgs false
set_option maxRecDepth 100000
set_option maxHeartbeats 4000000
namespace Go.Proofs.YtopgndakadileaaGreatDoor.Ex
open Go.Am Go.Ex Go.Proofs.YtopgndakadileaaGreatDoor
theorem way_gt {α : Type} (f : Int → Option α) (y q : Int) : way (decide (y > q)) (f y) (f q) = f (mxI q y) := by
  rw [mxI_eq]
  by_cases h : y > q
  · rw [decide_eq_true h, way_tt, Int.max_eq_right (by omega)]
  · rw [decide_eq_false h, way_ff, Int.max_eq_left (by omega)]
theorem foldC_most {α : Type} (p : α → Option Int) (f : α → Int) : ∀ (l : List α) (b : Int), (∀ x ∈ l, p x = some (f x)) → foldC (fun (q : Int) (y : α) => call (p y) fun z => some (mxI q z)) l b = some (most b (l.map f))
  | [], b, _ => rfl
  | x :: l, b, h => by
    simp only [foldC, h x (List.mem_cons_self ..), call_of]
    exact foldC_most p f l (mxI b (f x)) fun y hy => h y (List.mem_cons_of_mem _ hy)
theorem join_way {X α : Type} {c : Bool} {a b : X} {G : X → Option α} : join (fun k => way c (k a) (k b)) G = G (if c = true then a else b) := by cases c <;> rfl
theorem args_len (e : XExpr) : e.args.length < XExpr.w e := by have := e.w_eq; have := length_le_sum XExpr.w XExpr.w_pos e.args; omega
theorem sub_len (e : XExpr) : e.sub.length < XExpr.w e := by have := e.w_eq; have := length_le_sum XSelect.w XSelect.w_pos e.sub; omega
structure ProgD (F : F27_32) (n : Nat) : Prop where
  e : ∀ e, XExpr.w e < n → XExpr.w e < 549755813888 → F.p27 e = some (deepM.e e)
  q : ∀ q, XSelect.w q < n → XSelect.w q < 549755813888 → F.p32 q = some (deepM.q q)
theorem ProgD_e {F : F27_32} {n : Nat} (ih : ProgD F n) (e : XExpr) (h : XExpr.w e < n + 1) (hk : XExpr.w e < 549755813888) : b27 F e = some (deepM.e e) := by
  have ha := args_len e
  have hs := sub_len e
  unfold b27
  refine (loop_from (fun j : Nat => (most (0 : Int) ((e.args.take j).map deepM.e), (j : Int))) e.args.length (by omega) (by simp [most]) (fun k j hj => ?_) (fun k => ?_)).trans ?_
  · have hm := getD_mem XExpr.z hj
    have hlt := XExpr.args_lt hm
    dsimp only
    rw [dec_lt hj, way_tt, need_t (by omega), Int.toNat_natCast, ih.e _ (by omega) (by omega), call_of, wrap_succ hj (by omega), most_take deepM.e XExpr.z _ hj]
  · dsimp only; rw [dec_self, way_ff, way_ff]
  dsimp only
  rw [dec_self, way_ff, List.take_length]
  refine (loop_from (fun j : Nat => (most (most (0 : Int) (e.args.map deepM.e)) ((e.sub.take j).map deepM.q), (j : Int))) e.sub.length (by omega) (by simp [most]) (fun k j hj => ?_) (fun k => ?_)).trans ?_
  · have hm := getD_mem XSelect.z hj
    have hlt := XExpr.sub_lt hm
    dsimp only
    rw [dec_lt hj, way_tt, need_t (by omega), Int.toNat_natCast, ih.q _ (by omega) (by omega), call_of, wrap_succ hj (by omega), most_take deepM.q XSelect.z _ hj]
  · dsimp only; rw [dec_self, way_ff, way_ff]
  dsimp only
  rw [dec_self, way_ff, List.take_length]
  have hb := (deep_le _).1 e (Nat.le_refl _)
  rw [Meas.e_eq] at hb ⊢
  have z : deepM.own e = 0 := rfl
  have z1 : deepM.up = 1 := rfl
  rw [z, z1] at hb ⊢
  rw [wrap_id (by omega) (by omega)]
theorem ProgD_q {F : F27_32} {n : Nat} (ih : ProgD F n) (q : XSelect) (h : XSelect.w q < n + 1) (hk : XSelect.w q < 549755813888) : b32 F q = some (deepM.q q) := by
  unfold b32
  rw [s68_eq q hk, call_of]
  dsimp only
  rw [foldC_most F.p27 deepM.e q.exprs 0 (fun x hx => ih.e x (by have := XSelect.exprs_lt hx; omega) (by have := XSelect.exprs_lt hx; omega)), call_of, foldC_most F.p32 deepM.q q.subs _ (fun x hx => ih.q x (by have := XSelect.subs_lt hx; omega) (by have := XSelect.subs_lt hx; omega)), call_of]
  have hb := (deep_le _).2 q (Nat.le_refl _)
  rw [Meas.q_eq] at hb ⊢
  have z1 : deepM.up = 1 := rfl
  rw [z1] at hb ⊢
  rw [wrap_id (by omega) (by omega)]
theorem ProgD_all : ∀ n, ProgD (F27_32.fix n) n
  | 0 => ⟨fun _ h => absurd h (Nat.not_lt_zero _), fun _ h => absurd h (Nat.not_lt_zero _)⟩
  | n + 1 => ⟨ProgD_e (ProgD_all n), ProgD_q (ProgD_all n)⟩
theorem s32_eq (q : XSelect) (h : XSelect.w q < 549755813888) : s32 q = some (deepM.q q) := (ProgD_all manyC).q q (by unfold manyC; omega) h
structure ProgP (F : F29_34) (n : Nat) : Prop where
  e : ∀ e, XExpr.w e < n → XExpr.w e < 549755813888 → F.p29 e = some (parsM.e e)
  q : ∀ q, XSelect.w q < n → XSelect.w q < 549755813888 → F.p34 q = some (parsM.q q)
theorem ProgP_e {F : F29_34} {n : Nat} (ih : ProgP F n) (e : XExpr) (h : XExpr.w e < n + 1) (hk : XExpr.w e < 549755813888) : b29 F e = some (parsM.e e) := by
  have ha := args_len e
  have hs := sub_len e
  unfold b29
  rw [join_way, show (if (e.op == 3) = true then mxI 0 e.n else 0) = parsM.own e by simp [parsM]]
  refine (loop_from (fun j : Nat => (most (parsM.own e) ((e.args.take j).map parsM.e), (j : Int))) e.args.length (by omega) (by simp [most]) (fun k j hj => ?_) (fun k => ?_)).trans ?_
  · have hm := getD_mem XExpr.z hj
    have hlt := XExpr.args_lt hm
    dsimp only
    rw [dec_lt hj, way_tt, need_t (by omega), Int.toNat_natCast, ih.e _ (by omega) (by omega), call_of, wrap_succ hj (by omega), most_take parsM.e XExpr.z _ hj]
  · dsimp only; rw [dec_self, way_ff, way_ff]
  dsimp only
  rw [dec_self, way_ff, List.take_length]
  refine (loop_from (fun j : Nat => (most (most (parsM.own e) (e.args.map parsM.e)) ((e.sub.take j).map parsM.q), (j : Int))) e.sub.length (by omega) (by simp [most]) (fun k j hj => ?_) (fun k => ?_)).trans ?_
  · have hm := getD_mem XSelect.z hj
    have hlt := XExpr.sub_lt hm
    dsimp only
    rw [dec_lt hj, way_tt, need_t (by omega), Int.toNat_natCast, ih.q _ (by omega) (by omega), call_of, wrap_succ hj (by omega), most_take parsM.q XSelect.z _ hj]
  · dsimp only; rw [dec_self, way_ff, way_ff]
  dsimp only
  rw [dec_self, way_ff, List.take_length]
  rw [Meas.e_eq]
  exact congrArg some (Int.add_zero _).symm
theorem ProgP_q {F : F29_34} {n : Nat} (ih : ProgP F n) (q : XSelect) (h : XSelect.w q < n + 1) (hk : XSelect.w q < 549755813888) : b34 F q = some (parsM.q q) := by
  unfold b34
  rw [s68_eq q hk, call_of]
  dsimp only
  rw [foldC_most F.p29 parsM.e q.exprs 0 (fun x hx => ih.e x (by have := XSelect.exprs_lt hx; omega) (by have := XSelect.exprs_lt hx; omega)), call_of, foldC_most F.p34 parsM.q q.subs _ (fun x hx => ih.q x (by have := XSelect.subs_lt hx; omega) (by have := XSelect.subs_lt hx; omega)), call_of]
  rw [Meas.q_eq]
  exact congrArg some (Int.add_zero _).symm
theorem ProgP_all : ∀ n, ProgP (F29_34.fix n) n
  | 0 => ⟨fun _ h => absurd h (Nat.not_lt_zero _), fun _ h => absurd h (Nat.not_lt_zero _)⟩
  | n + 1 => ⟨ProgP_e (ProgP_all n), ProgP_q (ProgP_all n)⟩
theorem s34_eq (q : XSelect) (h : XSelect.w q < 549755813888) : s34 q = some (parsM.q q) := (ProgP_all manyC).q q (by unfold manyC; omega) h
structure RefD (F : F28_33_59) (n : Nat) : Prop where
  e : ∀ e, 2 * XExpr.w e < n → XExpr.w e < 549755813888 → F.p28 e = some (deepM.e e)
  q : ∀ q, 2 * XSelect.w q < n → XSelect.w q < 549755813888 → F.p33 q = some (deepM.q q)
  l : ∀ (l : List XExpr) (m : List XSelect) (h0 : 0 < n) (hl : ∀ x ∈ l, 2 * XExpr.w x + 1 < n ∧ XExpr.w x < 549755813888) (hm : ∀ x ∈ m, 2 * XSelect.w x + 1 < n ∧ XSelect.w x < 549755813888) (h1 : l.length < 549755813888) (h2 : m.length < 549755813888), F.p59 l m = some (most (most 0 (l.map deepM.e)) (m.map deepM.q))
theorem RefD_l {F : F28_33_59} {n : Nat} (ih : RefD F n) (l : List XExpr) (m : List XSelect) (h0 : 0 < n + 1) (hl : ∀ x ∈ l, 2 * XExpr.w x + 1 < n + 1 ∧ XExpr.w x < 549755813888) (hm : ∀ x ∈ m, 2 * XSelect.w x + 1 < n + 1 ∧ XSelect.w x < 549755813888) (h1 : l.length < 549755813888) (h2 : m.length < 549755813888) : b59 F l m = some (most (most 0 (l.map deepM.e)) (m.map deepM.q)) := by
  unfold b59
  refine (loop_from (fun j : Nat => (most (0 : Int) ((l.take j).map deepM.e), (j : Int))) l.length (by omega) (by simp [most]) (fun k j hj => ?_) (fun k => ?_)).trans ?_
  · have hm' := getD_mem XExpr.z hj
    obtain ⟨g1, g2⟩ := hl _ hm'
    dsimp only
    rw [dec_lt hj, way_tt, join_of, need_t (by omega), Int.toNat_natCast, ih.e _ (by omega) g2, call_of, wrap_succ hj (by omega), way_gt (fun z => k (z, _)), most_take deepM.e XExpr.z _ hj]
  · dsimp only; rw [dec_self, way_ff, way_ff]
  dsimp only
  rw [dec_self, way_ff, List.take_length]
  refine (loop_from (fun j : Nat => (most (most 0 (l.map deepM.e)) ((m.take j).map deepM.q), (j : Int))) m.length (by omega) (by simp [most]) (fun k j hj => ?_) (fun k => ?_)).trans ?_
  · have hm' := getD_mem XSelect.z hj
    obtain ⟨g1, g2⟩ := hm _ hm'
    dsimp only
    rw [dec_lt hj, way_tt, join_of, need_t (by omega), Int.toNat_natCast, ih.q _ (by omega) g2, call_of, wrap_succ hj (by omega), way_gt (fun z => k (z, _)), most_take deepM.q XSelect.z _ hj]
  · dsimp only; rw [dec_self, way_ff, way_ff]
  dsimp only
  rw [dec_self, way_ff, List.take_length]
theorem RefD_e {F : F28_33_59} {n : Nat} (ih : RefD F n) (e : XExpr) (h : 2 * XExpr.w e < n + 1) (hk : XExpr.w e < 549755813888) : b28 F e = some (deepM.e e) := by
  have ha := args_len e
  have hs := sub_len e
  have hp := e.w_pos
  unfold b28
  rw [ih.l _ _ (by omega) (fun x hx => by have := XExpr.args_lt hx; omega) (fun x hx => by have := XExpr.sub_lt hx; omega) (by omega) (by omega), call_of]
  have hb := (deep_le _).1 e (Nat.le_refl _)
  rw [Meas.e_eq] at hb ⊢
  have z : deepM.own e = 0 := rfl
  have z1 : deepM.up = 1 := rfl
  rw [z, z1] at hb ⊢
  rw [Int.add_comm, wrap_id (by omega) (by omega)]
theorem RefD_q {F : F28_33_59} {n : Nat} (ih : RefD F n) (q : XSelect) (h : 2 * XSelect.w q < n + 1) (hk : XSelect.w q < 549755813888) : b33 F q = some (deepM.q q) := by
  have ha := exprs_len q
  have hs := subs_len q
  have hp := q.w_pos
  unfold b33
  rw [s69_eq q hk, call_of, s70_eq q hk, call_of, ih.l _ _ (by omega) (fun x hx => by have := XSelect.exprs_lt hx; omega) (fun x hx => by have := XSelect.subs_lt hx; omega) (by omega) (by omega), call_of]
  have hb := (deep_le _).2 q (Nat.le_refl _)
  rw [Meas.q_eq] at hb ⊢
  have z1 : deepM.up = 1 := rfl
  rw [z1] at hb ⊢
  rw [Int.add_comm, wrap_id (by omega) (by omega)]
theorem RefD_all : ∀ n, RefD (F28_33_59.fix n) n
  | 0 => ⟨fun _ h => absurd h (Nat.not_lt_zero _), fun _ h => absurd h (Nat.not_lt_zero _), fun _ _ h => absurd h (Nat.not_lt_zero _)⟩
  | n + 1 => ⟨RefD_e (RefD_all n), RefD_q (RefD_all n), RefD_l (RefD_all n)⟩
theorem s33_eq (q : XSelect) (h : XSelect.w q < 549755813888) : s33 q = some (deepM.q q) := (RefD_all manyC).q q (by unfold manyC; omega) h
structure RefP (F : F30_60) (n : Nat) : Prop where
  e : ∀ e, 2 * XExpr.w e < n → XExpr.w e < 549755813888 → F.p30 e = some (parsM.e e)
  l : ∀ (l : List XExpr) (m : List XSelect) (h0 : 0 < n) (hl : ∀ x ∈ l, 2 * XExpr.w x + 1 < n ∧ XExpr.w x < 549755813888) (hm : ∀ x ∈ m, 2 * XSelect.w x + 1 < n ∧ XSelect.w x < 549755813888) (h1 : l.length < 549755813888) (h2 : m.length < 549755813888), F.p60 l m = some (most (most 0 (l.map parsM.e)) (m.map parsM.q))
theorem RefP_l {F : F30_60} {n : Nat} (ih : RefP F n) (l : List XExpr) (m : List XSelect) (h0 : 0 < n + 1) (hl : ∀ x ∈ l, 2 * XExpr.w x + 1 < n + 1 ∧ XExpr.w x < 549755813888) (hm : ∀ x ∈ m, 2 * XSelect.w x + 1 < n + 1 ∧ XSelect.w x < 549755813888) (h1 : l.length < 549755813888) (h2 : m.length < 549755813888) : b60 F l m = some (most (most 0 (l.map parsM.e)) (m.map parsM.q)) := by
  unfold b60
  refine (loop_from (fun j : Nat => (most (0 : Int) ((l.take j).map parsM.e), (j : Int))) l.length (by omega) (by simp [most]) (fun k j hj => ?_) (fun k => ?_)).trans ?_
  · have hm' := getD_mem XExpr.z hj
    obtain ⟨g1, g2⟩ := hl _ hm'
    dsimp only
    rw [dec_lt hj, way_tt, join_of, need_t (by omega), Int.toNat_natCast, ih.e _ (by omega) g2, call_of, wrap_succ hj (by omega), way_gt (fun z => k (z, _)), most_take parsM.e XExpr.z _ hj]
  · dsimp only; rw [dec_self, way_ff, way_ff]
  dsimp only
  rw [dec_self, way_ff, List.take_length]
  refine (loop_from (fun j : Nat => (most (most 0 (l.map parsM.e)) ((m.take j).map parsM.q), (j : Int))) m.length (by omega) (by simp [most]) (fun k j hj => ?_) (fun k => ?_)).trans ?_
  · have hm' := getD_mem XSelect.z hj
    obtain ⟨g1, g2⟩ := hm _ hm'
    have hel := exprs_len (m.getD j XSelect.z)
    have hsl := subs_len (m.getD j XSelect.z)
    have hp := (m.getD j XSelect.z).w_pos
    dsimp only
    rw [dec_lt hj, way_tt, join_of, need_t (by omega), need_t (by omega), Int.toNat_natCast, s69_eq _ g2, call_of, s70_eq _ g2, call_of, ih.l _ _ (by omega) (fun x hx => by have := XSelect.exprs_lt hx; omega) (fun x hx => by have := XSelect.subs_lt hx; omega) (by omega) (by omega), call_of, wrap_succ hj (by omega), way_gt (fun z => k (z, _)), most_take parsM.q XSelect.z _ hj, Meas.q_eq]
    rw [show parsM.up = 0 from rfl, Int.add_zero]
  · dsimp only; rw [dec_self, way_ff, way_ff]
  dsimp only
  rw [dec_self, way_ff, List.take_length]
theorem RefP_e {F : F30_60} {n : Nat} (ih : RefP F n) (e : XExpr) (h : 2 * XExpr.w e < n + 1) (hk : XExpr.w e < 549755813888) : b30 F e = some (parsM.e e) := by
  have ha := args_len e
  have hs := sub_len e
  have hp := e.w_pos
  unfold b30
  rw [ih.l _ _ (by omega) (fun x hx => by have := XExpr.args_lt hx; omega) (fun x hx => by have := XExpr.sub_lt hx; omega) (by omega) (by omega), call_of, join_of]
  rw [Meas.e_eq]
  generalize hY : most (most 0 (e.args.map parsM.e)) (e.sub.map parsM.q) = y
  have hup : parsM.up = 0 := rfl
  by_cases h3 : e.op = 3
  · rw [show (e.op == 3) = true by simp [h3], way_tt]
    have ho : parsM.own e = max e.n 0 := by simp [parsM, h3, mxI_eq, Int.max_comm]
    rw [ho, most_max, most_max, hY, hup, Int.add_zero]
    by_cases h4 : e.n > y
    · rw [decide_eq_true h4]; dsimp only; rw [way_tt, Int.max_eq_left (by omega)]
    · rw [decide_eq_false h4]; dsimp only; rw [way_ff, Int.max_eq_right (by omega)]
  · rw [show (e.op == 3) = false by simp [h3], way_ff]; dsimp only; rw [way_ff]
    have ho : parsM.own e = 0 := by simp [parsM, h3]
    rw [ho, hY, hup, Int.add_zero]
theorem RefP_all : ∀ n, RefP (F30_60.fix n) n
  | 0 => ⟨fun _ h => absurd h (Nat.not_lt_zero _), fun _ _ h => absurd h (Nat.not_lt_zero _)⟩
  | n + 1 => ⟨RefP_e (RefP_all n), RefP_l (RefP_all n)⟩
theorem s35_eq (q : XSelect) (h : XSelect.w q < 549755813888) : s35 q = some (parsM.q q) := by
  have ha := exprs_len q
  have hs := subs_len q
  unfold s35
  rw [s69_eq q h, call_of, s70_eq q h, call_of, show s60 q.exprs q.subs = _ from (RefP_all manyC).l _ _ (by unfold manyC; omega) (fun x hx => by have := XSelect.exprs_lt hx; unfold manyC; omega) (fun x hx => by have := XSelect.subs_lt hx; unfold manyC; omega) (by omega) (by omega), call_of, Meas.q_eq]
  exact congrArg some (Int.add_zero _).symm
end Go.Proofs.YtopgndakadileaaGreatDoor.Ex
namespace Go.Proofs.YtopgndakadileaaGreatDoor.Ex
open Go.Am Go.Ex Go.Proofs.YtopgndakadileaaGreatDoor
theorem head_ok : s15 = some true := by decide +kernel
end Go.Proofs.YtopgndakadileaaGreatDoor.Ex
namespace Go.Proofs.YtopgndakadileaaGreatDoor.Ex
open Go.Am Go.Ex Go.Proofs.YtopgndakadileaaGreatDoor
theorem law_same (a b : XSelect) (ha : XSelect.w a < 549755813888) (hb : XSelect.w b < 549755813888) : s10 a b = some true := by
  have h1 : 2 * XSelect.w a < manyC := by unfold manyC; omega
  have h2 : 2 * XSelect.w b < manyC := by unfold manyC; omega
  unfold s10
  rw [join_of]
  dsimp only
  rw [head_ok, call_of, way_tt, s31_eq a b h1, call_of, s25_eq a b h1, call_of, beq_self_eq_true, way_tt, s31_eq b b h2, call_of, eqb_refl, way_tt, s32_eq a ha, call_of, s33_eq a ha, call_of, beq_self_eq_true, way_tt, s34_eq a ha, call_of, s35_eq a ha, call_of, beq_self_eq_true]
theorem same_ok (a b : XSelect) (ha : XSelect.w a < 549755813888) (hb : XSelect.w b < 549755813888) : Gives Tryz.prog 10 [.agg a.v, .agg b.v] (vbool true) := c10 a b true (law_same a b ha hb)
end Go.Proofs.YtopgndakadileaaGreatDoor.Ex
