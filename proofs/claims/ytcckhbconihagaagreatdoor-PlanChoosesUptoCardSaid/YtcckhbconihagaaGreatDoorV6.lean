/-
 DERIVED: THE SHELF's CONTRACTS AT THIS DUMP, IN PLAIN WORDS (tools/lay-plain.mjs out of 'TryzShelf.lean', which tools/lay-shelf.mjs wrote): THE SAME DECLARATIONS UNDER THE SAME NAMES: 'import', 'namespace', 'open', 'def', 'theorem' AND NOTHING ELSE: no command of the shelf's: FOR A HAND-IN. Each laying: the table of numbers ('.._ren') and one theorem, a field a fact of the dump's own or the kernel's comparison; each contract: ONE APPLICATION.
-/
import Derived.Shelf.Sort.Plain
import Derived.Shelf.Slices.CompactI
import Derived.Shelf.Slices.In.SortNone
import Derived.Ground.NamesProg
import Derived.Ground.Names2Prog
import Derived.Test.YtcckhbconihagaaGreatDoorProg
import Derived.Test.YtcckhbconihagaaGreatDoorVPlUse
import Derived.Test.YtcckhbconihagaaGreatDoorV9
import Derived.Test.YtcckhbconihagaaGreatDoorVAmFrame
set_option linter.unusedSimpArgs false
set_option linter.unusedVariables false
namespace Go.Proofs
open Go.Shelf
def Tryz.lays189_ren : Go.Shelf.Ren := ⟨fun | 189 => 26 | 125 => 56 | 257 => 55 | 128 => 99 | 129 => 100 | 294 => 90 | 295 => 91 | 296 => 92 | 297 => 93 | 298 => 94 | 299 => 95 | 216 => 96 | 300 => 97 | 301 => 98 | 328 => 137 | 329 => 138 | 330 => 139 | 331 => 140 | 332 => 141 | 215 => 142 | 343 => 155 | n => n, fun | 28 => 50 | 3 => 3 | 46 => 96 | 0 => 0 | 51 => 167 | 53 => 169 | 4 => 4 | 183 => 159 | 182 => 158 | 131 => 164 | 5 => 5 | 9 => 9 | 218 => 208 | 222 => 212 | 228 => 227 | 229 => 228 | n => n, fun | n => n⟩
theorem Tryz.lays189 : Go.Proofs.Lays.n189 Tryz.prog Tryz.lays189_ren := {
 mixed := by kernel_rfl
 f125 := Tryz.func56.trans (congrArg some (by kernel_rfl))
 f128 := Tryz.func99.trans (congrArg some (by kernel_rfl))
 f129 := Tryz.func100.trans (congrArg some (by kernel_rfl))
 f189 := Tryz.func26.trans (congrArg some (by kernel_rfl))
 f215 := Tryz.func142.trans (congrArg some (by kernel_rfl))
 f216 := Tryz.func96.trans (congrArg some (by kernel_rfl))
 f257 := Tryz.func55.trans (congrArg some (by kernel_rfl))
 f294 := Tryz.func90.trans (congrArg some (by kernel_rfl))
 f295 := Tryz.func91.trans (congrArg some (by kernel_rfl))
 f296 := Tryz.func92.trans (congrArg some (by kernel_rfl))
 f297 := Tryz.func93.trans (congrArg some (by kernel_rfl))
 f298 := Tryz.func94.trans (congrArg some (by kernel_rfl))
 f299 := Tryz.func95.trans (congrArg some (by kernel_rfl))
 f300 := Tryz.func97.trans (congrArg some (by kernel_rfl))
 f301 := Tryz.func98.trans (congrArg some (by kernel_rfl))
 f328 := Tryz.func137.trans (congrArg some (by kernel_rfl))
 f329 := Tryz.func138.trans (congrArg some (by kernel_rfl))
 f330 := Tryz.func139.trans (congrArg some (by kernel_rfl))
 f331 := Tryz.func140.trans (congrArg some (by kernel_rfl))
 f332 := Tryz.func141.trans (congrArg some (by kernel_rfl))
 f343 := Tryz.func155.trans (congrArg some (by kernel_rfl))
 t0 := Tryz.underlying0
 a0 := Tryz.isAgg0
 z0 := Tryz.sizeOf0
 v0 := Tryz.zeroValue0
 t3 := Tryz.underlying3
 a3 := Tryz.isAgg3
 z3 := Tryz.sizeOf3
 v3 := Tryz.zeroValue3
 t4 := Tryz.underlying4
 a4 := Tryz.isAgg4
 z4 := Tryz.sizeOf4
 v4 := Tryz.zeroValue4
 t5 := Tryz.underlying5
 a5 := Tryz.isAgg5
 z5 := Tryz.sizeOf5
 v5 := Tryz.zeroValue5
 t9 := Tryz.underlying9
 a9 := Tryz.isAgg9
 z9 := Tryz.sizeOf9
 v9 := Tryz.zeroValue9
 t28 := Tryz.underlying50
 a28 := Tryz.isAgg50
 z28 := Tryz.sizeOf50
 v28 := Tryz.zeroValue50
 t46 := Tryz.underlying96
 a46 := Tryz.isAgg96
 z46 := Tryz.sizeOf96
 v46 := Tryz.zeroValue96
 t51 := Tryz.underlying167
 a51 := Tryz.isAgg167
 z51 := Tryz.sizeOf167
 v51 := Tryz.zeroValue167
 t53 := Tryz.underlying169
 a53 := Tryz.isAgg169
 z53 := Tryz.sizeOf169
 v53 := Tryz.zeroValue169
 t131 := Tryz.underlying164
 a131 := Tryz.isAgg164
 z131 := Tryz.sizeOf164
 v131 := Tryz.zeroValue164
 t182 := Tryz.underlying158
 a182 := Tryz.isAgg158
 z182 := Tryz.sizeOf158
 v182 := Tryz.zeroValue158
 t183 := Tryz.underlying159
 a183 := Tryz.isAgg159
 z183 := Tryz.sizeOf159
 v183 := Tryz.zeroValue159
 t218 := Tryz.underlying208
 a218 := Tryz.isAgg208
 z218 := Tryz.sizeOf208
 v218 := Tryz.zeroValue208
 t222 := Tryz.underlying212
 a222 := Tryz.isAgg212
 z222 := Tryz.sizeOf212
 v222 := Tryz.zeroValue212
 t228 := Tryz.underlying227
 a228 := Tryz.isAgg227
 z228 := Tryz.sizeOf227
 v228 := Tryz.zeroValue227
 t229 := Tryz.underlying228
 a229 := Tryz.isAgg228
 z229 := Tryz.sizeOf228
 v229 := Tryz.zeroValue228 }
def Tryz.lays20_ren : Go.Shelf.Ren := ⟨fun | 20 => 27 | n => n, fun | 22 => 50 | 3 => 3 | 4 => 4 | 0 => 0 | n => n, fun | n => n⟩
theorem Tryz.lays20 : Go.Proofs.Lays2.n20 Tryz.prog Tryz.lays20_ren := {
 mixed := by kernel_rfl
 f20 := Tryz.func27.trans (congrArg some (by kernel_rfl))
 t0 := Tryz.underlying0
 a0 := Tryz.isAgg0
 z0 := Tryz.sizeOf0
 v0 := Tryz.zeroValue0
 t3 := Tryz.underlying3
 a3 := Tryz.isAgg3
 z3 := Tryz.sizeOf3
 v3 := Tryz.zeroValue3
 t4 := Tryz.underlying4
 a4 := Tryz.isAgg4
 z4 := Tryz.sizeOf4
 v4 := Tryz.zeroValue4
 t22 := Tryz.underlying50
 a22 := Tryz.isAgg50
 z22 := Tryz.sizeOf50
 v22 := Tryz.zeroValue50
 i3 := by kernel_rfl }
end Go.Proofs
namespace Go.Am
open Go.Sort
/-- A box is written by a call that the shelf knows. -/
theorem HRel.writeBox {G : Ghost} {s : Heap} {w w' : World} (h : HRel G s w) {b : Nat} {cs cs' : List V} {ty : TypeId} {ccs' : Array Value} (hb : s.box b = some (cs, ty)) (hr : RepL G cs' ccs'.toList) (h1 : ∀ v ∈ ccs'.toList, v.oneCell' = true)
  (hsz : w.heap.size ≤ w'.heap.size) (hos : w'.os = w.os) (htape : w'.tape = w.tape) (hout : w'.output = w.output) (hrow : w'.heap[b]? = some (.cells ccs' ty (0, 0))) (hoth : ∀ b', b' ≠ b → b' < w.heap.size → w'.heap[b']? = w.heap[b']?) :
  HRel G (s.setBox b (cs', ty)) w' ∧ Ext G s w G (s.setBox b (cs', ty)) w' := by
 obtain ⟨ccs, k1, _⟩ := h.box b cs ty hb
 obtain ⟨g1, g2⟩ := h.setBox hb hr h1
 have hm : More (w.setRow b ccs') w' := ⟨by simpa using hsz, hos, htape, hout, fun b' hb' => by
  by_cases e : b' = b
  ·subst e; rw [hrow, setRow_heap _ _ _ _ _ _ k1]
  ·rw [setRow_other _ _ _ _ e]; exact hoth b' e (by simpa using hb')⟩
 exact ⟨g1.more hm, g2.trans (Ext.more hm)⟩
abbrev encI : Int → Value := Value.int .i64
theorem putCells_list (d : List Int) (ccs : Array Value) (h : d.length ≤ ccs.size) : (putCells encI 0 d.toArray ccs).toList = d.map encI ++ ccs.toList.drop d.length := by
 apply List.ext_getElem?
 intro k
 unfold putCells
 rw [Array.getElem?_toList, Array.getElem?_mapIdx]
 by_cases hk : k < d.length
 ·rw [List.getElem?_append_left (by simpa using hk)]
  have : k < ccs.size := by omega
  simp [this, hk]
 ·rw [List.getElem?_append_right (by simpa using Nat.le_of_not_lt hk)]
  have e : d.length + (k - d.length) = k := by omega
  simp [hk, e]
theorem putRow_heap (w : World) (b : Nat) (d : List Int) (ccs : Array Value) (ty : TypeId) (n : Nat) (os : Array Obj) (hc : w.heap[b]? = some (.cells ccs ty (0, 0))) :
  (grow (putRow encI (Go.Sort.ahead w n) b 0 d.toArray) os).heap[b]? = some (.cells (putCells encI 0 d.toArray ccs) ty (0, 0)) ∧
  (∀ b', b' ≠ b → b' < w.heap.size → (grow (putRow encI (Go.Sort.ahead w n) b 0 d.toArray) os).heap[b']? = w.heap[b']?) ∧ w.heap.size ≤ (grow (putRow encI (Go.Sort.ahead w n) b 0 d.toArray) os).heap.size := by
 have hlt : b < w.heap.size := (Array.getElem?_eq_some_iff.1 hc).1
 have hsz : (putRow encI (Go.Sort.ahead w n) b 0 d.toArray).heap.size = w.heap.size := by simp [putRow, mapBlock, Go.Sort.ahead]
 refine ⟨?_, fun b' hne hb' => ?_, ?_⟩
 ·show ((putRow encI (Go.Sort.ahead w n) b 0 d.toArray).heap ++ os)[b]? = _
  rw [Array.getElem?_append_left (by omega)]
  simp only [putRow, mapBlock, Go.Sort.ahead, Array.getElem?_modify, if_true]
  rw [hc]; rfl
 ·show ((putRow encI (Go.Sort.ahead w n) b 0 d.toArray).heap ++ os)[b']? = _
  rw [Array.getElem?_append_left (by omega)]
  simp only [putRow, mapBlock, Go.Sort.ahead, Array.getElem?_modify, if_neg (Ne.symm hne)]
 ·show w.heap.size ≤ ((putRow encI (Go.Sort.ahead w n) b 0 d.toArray).heap ++ os).size
  rw [Array.size_append, hsz]; omega
theorem grow_none (w : World) : grow w #[] = w := by simp [grow]
/-- What a box of ints holds, in memory. -/
theorem holds_of {G : Ghost} {s : Heap} {w : World} (h : HRel G s w) {b n : Nat} {cs : List V} {ty : TypeId} {zs : List Int} (hb : s.box b = some (cs, ty)) (hzs : cs.take n = zs.map fun x => V.base (.int .i64 x)) :
  ∃ ccs : Array Value, w.heap[b]? = some (.cells ccs ty (0, 0)) ∧ RepL G cs ccs.toList ∧ (∀ v ∈ ccs.toList, v.oneCell' = true) ∧ Holds encI w b 0 zs.toArray ∧ b < w.heap.size ∧ zs.length ≤ ccs.size := by
 obtain ⟨ccs, k1, k2, k3, k4⟩ := h.box b cs ty hb
 have hget : ∀ j, (hj : j < zs.length) → ccs[j]? = some (encI zs[j]) := fun j hj => by
  have h1 : (cs.take n)[j]? = some (.base (.int .i64 zs[j])) := by rw [hzs]; simp [hj]
  have h2 : cs[j]? = some (.base (.int .i64 zs[j])) := by
   rw [List.getElem?_take] at h1
   split at h1
   ·exact h1
   ·cases h1
  obtain ⟨v, hv, hr⟩ := k2.get h2
  cases hr
  simpa using hv
 refine ⟨ccs, k1, k2, k3, fun j hj => ?_, (Array.getElem?_eq_some_iff.1 k1).1, ?_⟩
 ·have hj' : j < zs.length := by simpa using hj
  rw [Nat.zero_add]
  refine ⟨?_, ?_⟩
  ·rw [cell_of_row w b j ccs ty _ k1, hget j hj']
   simp [hj']
  ·simp [World.frozen?, k1]
 ·rcases Nat.lt_or_ge ccs.size zs.length with hlt | hge
  ·have := hget ccs.size hlt
   simp at this
  ·exact hge
end Go.Am
namespace Go.Proofs.YtcckhbconihagaaGreatDoor
open Go.Am Go.Pl Go.Sort
theorem f26_none (a : Option Addr) (cap : Nat) (s : Heap) : ACalls Tryz.prog 26 [.base (.slice a 0 cap)] s fun _ s' => s' = s := by
 refine ⟨⟨Tryz.f26, Tryz.func26, rfl, by decide⟩, fun G w cargs hh ha => ?_⟩
 obtain ⟨v, vs, e, hv, hr⟩ := ha.uncons
 obtain rfl := hr.nil_inv
 obtain rfl : cargs = #[v] := by rw [← Array.toList_inj, e]
 cases hv
 have hc : Calls Tryz.prog 26 #[.slice a 0 cap] w fun e w' => e = .returned (.tuple #[]) ∧ w' = w := Any.slices_Sort_int_none Tryz.lays189 a cap w
 refine hc.mono ?_
 rintro e w' ⟨rfl, rfl⟩
 exact ⟨G, s, .any, _, rfl, .any _, Ext.refl _ _ _, hh, rfl⟩
theorem f26_spec {s : Heap} {b n cap : Nat} {cs : List V} {ty : TypeId} (zs : List Int) (hb : s.box b = some (cs, ty)) (hn : n = zs.length) (hzs : cs.take n = zs.map vint) (hlen : n < 2 ^ 62) :
  ACalls Tryz.prog 26 [.base (.slice (some ⟨b, 0, none⟩) n cap)] s fun _ s' => s' = s.setBox b ((zs.mergeSort fun x y => decide (x ≤ y)).map vint ++ cs.drop n, ty) := by
 subst hn
 refine ⟨⟨Tryz.f26, Tryz.func26, rfl, by decide⟩, fun G w cargs hh ha => ?_⟩
 obtain ⟨v, vs, e, hv, hr⟩ := ha.uncons
 obtain rfl := hr.nil_inv
 obtain rfl : cargs = #[v] := by rw [← Array.toList_inj, e]
 cases hv
 obtain ⟨ccs, k1, k2, k3, k4, k5, k6⟩ := holds_of hh hb hzs
 have hc : Calls Tryz.prog 26 #[.slice (some ⟨b, 0, none⟩) zs.length cap] w fun e w' => e = .returned (.tuple #[]) ∧ ∃ n os, w' = grow (putRow (Value.int .i64) (Go.Sort.ahead w n) b 0 (zs.mergeSort fun x y => decide (x ≤ y)).toArray) os := Any.slices_Sort_int Tryz.lays189 b 0 cap zs w k4 k5 (by omega)
 refine hc.mono ?_
 rintro e w' ⟨rfl, n, os, rfl⟩
 have hl : (zs.mergeSort fun x y => decide (x ≤ y)).length = zs.length := List.length_mergeSort _
 obtain ⟨p1, p2, p3⟩ := putRow_heap w b (zs.mergeSort fun x y => decide (x ≤ y)) ccs ty n os k1
 have hpl := putCells_list (zs.mergeSort fun x y => decide (x ≤ y)) ccs (by omega)
 obtain ⟨q1, q2⟩ := hh.writeBox (cs' := (zs.mergeSort fun x y => decide (x ≤ y)).map vint ++ cs.drop zs.length) (ccs' := putCells encI 0 (zs.mergeSort fun x y => decide (x ≤ y)).toArray ccs) hb (by
   rw [hpl, hl]
   refine RepL.append ⟨by simp, fun i c v a b => ?_⟩ (k2.drop _)
   rw [List.getElem?_map] at a b
   cases hq : (zs.mergeSort fun x y => decide (x ≤ y))[i]? with
   | none => rw [hq] at a; cases a
   | some z => rw [hq] at a b; cases a; cases b; exact Rep.base _) (by
   rw [hpl, hl]
   intro v hv
   rcases List.mem_append.1 hv with hv | hv
   ·obtain ⟨z, _, rfl⟩ := List.mem_map.1 hv; rfl
   ·exact k3 v (List.mem_of_mem_drop hv)) p3 rfl rfl rfl p1 p2
 exact ⟨G, _, .any, _, rfl, .any _, q2, q1, rfl⟩
theorem f27_none (a : Option Addr) (cap : Nat) (s : Heap) : ACalls Tryz.prog 27 [.base (.slice a 0 cap)] s fun v s' => v = .base (.slice a 0 cap) ∧ s' = s := by
 refine ⟨⟨Tryz.f27, Tryz.func27, rfl, by decide⟩, fun G w cargs hh ha => ?_⟩
 obtain ⟨v, vs, e, hv, hr⟩ := ha.uncons
 obtain rfl := hr.nil_inv
 obtain rfl : cargs = #[v] := by rw [← Array.toList_inj, e]
 cases hv
 have hc : Calls Tryz.prog 27 #[.slice a 0 cap] w fun e w' => e = .returned (.slice a 0 cap) ∧ w' = w := Any.slices_Compact_int_empty Tryz.lays20 a cap w
 refine hc.mono ?_
 rintro e w' ⟨rfl, rfl⟩
 exact ⟨G, s, _, _, rfl, .base _, Ext.refl _ _ _, hh, rfl, rfl⟩
theorem f27_spec {s : Heap} {b n cap : Nat} {cs : List V} {ty : TypeId} (zs : List Int) (hb : s.box b = some (cs, ty)) (hn : n = zs.length) (hzs : cs.take n = zs.map vint) (hlen : n < 2 ^ 62) (hcap : n ≤ cap) :
  ACalls Tryz.prog 27 [.base (.slice (some ⟨b, 0, none⟩) n cap)] s fun v s' => v = .base (.slice (some ⟨b, 0, none⟩) (Lib.compact zs).length cap) ∧ s' = s.setBox b ((Lib.compact zs ++ List.replicate (zs.length - (Lib.compact zs).length) 0).map vint ++ cs.drop n, ty) := by
 subst hn
 refine ⟨⟨Tryz.f27, Tryz.func27, rfl, by decide⟩, fun G w cargs hh ha => ?_⟩
 obtain ⟨v, vs, e, hv, hr⟩ := ha.uncons
 obtain rfl := hr.nil_inv
 obtain rfl : cargs = #[v] := by rw [← Array.toList_inj, e]
 cases hv
 obtain ⟨ccs, k1, k2, k3, k4, k5, k6⟩ := holds_of hh hb hzs
 have hc : Calls Tryz.prog 27 #[.slice (some ⟨b, 0, none⟩) zs.length cap] w fun e w' => e = .returned (.slice (some ⟨b, 0, none⟩) (Lib.compact zs).length cap) ∧ ∃ q, w' = putRow (Value.int .i64) (Go.Sort.ahead w q) b 0 (Lib.compact zs ++ List.replicate (zs.length - (Lib.compact zs).length) 0).toArray := Any.slices_Compact_int Tryz.lays20 b 0 cap zs w k4 (by omega) hcap
 refine hc.mono ?_
 rintro e w' ⟨rfl, n, rfl⟩
 have hle : (Lib.compact zs).length ≤ zs.length := by
  unfold Lib.compact Lib.compactUpTo
  rw [List.length_map]
  exact Nat.le_trans (List.length_filter_le _ _) (by simp)
 have hl : (Lib.compact zs ++ List.replicate (zs.length - (Lib.compact zs).length) 0).length = zs.length := by simp; omega
 generalize hd : (Lib.compact zs ++ List.replicate (zs.length - (Lib.compact zs).length) 0) = d at hl ⊢
 obtain ⟨p1, p2, p3⟩ := putRow_heap w b d ccs ty n #[] k1
 rw [grow_none] at p1 p2 p3
 have hpl := putCells_list d ccs (by omega)
 obtain ⟨q1, q2⟩ := hh.writeBox (cs' := d.map vint ++ cs.drop zs.length) (ccs' := putCells encI 0 d.toArray ccs) hb (by
   rw [hpl, hl]
   refine RepL.append ⟨by simp, fun i c v a b => ?_⟩ (k2.drop _)
   rw [List.getElem?_map] at a b
   cases hq : d[i]? with
   | none => rw [hq] at a; cases a
   | some z => rw [hq] at a b; cases a; cases b; exact Rep.base _) (by
   rw [hpl, hl]
   intro v hv
   rcases List.mem_append.1 hv with hv | hv
   ·obtain ⟨z, _, rfl⟩ := List.mem_map.1 hv; rfl
   ·exact k3 v (List.mem_of_mem_drop hv)) p3 rfl rfl rfl p1 p2
 exact ⟨G, _, _, _, rfl, .base _, q2, q1, rfl, rfl⟩
end Go.Proofs.YtcckhbconihagaaGreatDoor
