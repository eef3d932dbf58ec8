/- Closed calls of the program, reckoned. -/
import Derived.Test.YtdomhnkffghmlaaGreatDoorSXHd2

namespace Go.Proofs.YtdomhnkffghmlaaGreatDoor.Ex
open Go.Am Go.Ev Go.Proofs.YtdomhnkffghmlaaGreatDoor
noncomputable section
def mm12 : Memo := ⟨64, [.v (.string ⟨#[67, 82, 69, 65, 84, 69]⟩)], [], (.tu [.v (.string ⟨#[67, 82, 69, 65, 84, 69]⟩), .v (.bool true)]), []⟩
theorem all12 : ∀ m ∈ [mm0, mm1, mm2, mm3, mm4, mm5, mm6, mm7, mm8, mm9, mm10, mm11], MemoOk Tryz.prog Go.Am.Tables m := by
 intro m hm
 simp only [List.mem_cons, List.not_mem_nil, or_false] at hm
 rcases hm with rfl | rfl | rfl | rfl | rfl | rfl | rfl | rfl | rfl | rfl | rfl | rfl
 ·exact ok0
 ·exact ok1
 ·exact ok2
 ·exact ok3
 ·exact ok4
 ·exact ok5
 ·exact ok6
 ·exact ok7
 ·exact ok8
 ·exact ok9
 ·exact ok10
 ·exact ok11
theorem ok12 : MemoOk Tryz.prog Go.Am.Tables mm12 := memo_run (tab := [mm0, mm1, mm2, mm3, mm4, mm5, mm6, mm7, mm8, mm9, mm10, mm11]) nt_ok (all12) 300 30 (by kernel_rfl)
def mm13 : Memo := ⟨64, [.v (.string ⟨#[84, 65, 66, 76, 69]⟩)], [], (.tu [.v (.string ⟨#[84, 65, 66, 76, 69]⟩), .v (.bool true)]), []⟩
theorem all13 : ∀ m ∈ [mm0, mm1, mm2, mm3, mm4, mm5, mm6, mm7, mm8, mm9, mm10, mm11, mm12], MemoOk Tryz.prog Go.Am.Tables m := by
 intro m hm
 simp only [List.mem_cons, List.not_mem_nil, or_false] at hm
 rcases hm with rfl | rfl | rfl | rfl | rfl | rfl | rfl | rfl | rfl | rfl | rfl | rfl | rfl
 ·exact ok0
 ·exact ok1
 ·exact ok2
 ·exact ok3
 ·exact ok4
 ·exact ok5
 ·exact ok6
 ·exact ok7
 ·exact ok8
 ·exact ok9
 ·exact ok10
 ·exact ok11
 ·exact ok12
theorem ok13 : MemoOk Tryz.prog Go.Am.Tables mm13 := memo_run (tab := [mm0, mm1, mm2, mm3, mm4, mm5, mm6, mm7, mm8, mm9, mm10, mm11, mm12]) nt_ok (all13) 300 30 (by kernel_rfl)
def mm14 : Memo := ⟨64, [.v (.string ⟨#[73, 78, 84, 69, 71, 69, 82]⟩)], [], (.tu [.v (.string ⟨#[]⟩), .v (.bool false)]), []⟩
theorem all14 : ∀ m ∈ [mm0, mm1, mm2, mm3, mm4, mm5, mm6, mm7, mm8, mm9, mm10, mm11, mm12, mm13], MemoOk Tryz.prog Go.Am.Tables m := by
 intro m hm
 simp only [List.mem_cons, List.not_mem_nil, or_false] at hm
 rcases hm with rfl | rfl | rfl | rfl | rfl | rfl | rfl | rfl | rfl | rfl | rfl | rfl | rfl | rfl
 ·exact ok0
 ·exact ok1
 ·exact ok2
 ·exact ok3
 ·exact ok4
 ·exact ok5
 ·exact ok6
 ·exact ok7
 ·exact ok8
 ·exact ok9
 ·exact ok10
 ·exact ok11
 ·exact ok12
 ·exact ok13
theorem ok14 : MemoOk Tryz.prog Go.Am.Tables mm14 := memo_run (tab := [mm0, mm1, mm2, mm3, mm4, mm5, mm6, mm7, mm8, mm9, mm10, mm11, mm12, mm13]) nt_ok (all14) 300 30 (by kernel_rfl)
def mm15 : Memo := ⟨64, [.v (.string ⟨#[80, 82, 73, 77, 65, 82, 89]⟩)], [], (.tu [.v (.string ⟨#[80, 82, 73, 77, 65, 82, 89]⟩), .v (.bool true)]), []⟩
theorem all15 : ∀ m ∈ [mm0, mm1, mm2, mm3, mm4, mm5, mm6, mm7, mm8, mm9, mm10, mm11, mm12, mm13, mm14], MemoOk Tryz.prog Go.Am.Tables m := by
 intro m hm
 simp only [List.mem_cons, List.not_mem_nil, or_false] at hm
 rcases hm with rfl | rfl | rfl | rfl | rfl | rfl | rfl | rfl | rfl | rfl | rfl | rfl | rfl | rfl | rfl
 ·exact ok0
 ·exact ok1
 ·exact ok2
 ·exact ok3
 ·exact ok4
 ·exact ok5
 ·exact ok6
 ·exact ok7
 ·exact ok8
 ·exact ok9
 ·exact ok10
 ·exact ok11
 ·exact ok12
 ·exact ok13
 ·exact ok14
theorem ok15 : MemoOk Tryz.prog Go.Am.Tables mm15 := memo_run (tab := [mm0, mm1, mm2, mm3, mm4, mm5, mm6, mm7, mm8, mm9, mm10, mm11, mm12, mm13, mm14]) nt_ok (all15) 300 30 (by kernel_rfl)
def mm16 : Memo := ⟨64, [.v (.string ⟨#[75, 69, 89]⟩)], [], (.tu [.v (.string ⟨#[75, 69, 89]⟩), .v (.bool true)]), []⟩
theorem all16 : ∀ m ∈ [mm0, mm1, mm2, mm3, mm4, mm5, mm6, mm7, mm8, mm9, mm10, mm11, mm12, mm13, mm14, mm15], MemoOk Tryz.prog Go.Am.Tables m := by
 intro m hm
 simp only [List.mem_cons, List.not_mem_nil, or_false] at hm
 rcases hm with rfl | rfl | rfl | rfl | rfl | rfl | rfl | rfl | rfl | rfl | rfl | rfl | rfl | rfl | rfl | rfl
 ·exact ok0
 ·exact ok1
 ·exact ok2
 ·exact ok3
 ·exact ok4
 ·exact ok5
 ·exact ok6
 ·exact ok7
 ·exact ok8
 ·exact ok9
 ·exact ok10
 ·exact ok11
 ·exact ok12
 ·exact ok13
 ·exact ok14
 ·exact ok15
theorem ok16 : MemoOk Tryz.prog Go.Am.Tables mm16 := memo_run (tab := [mm0, mm1, mm2, mm3, mm4, mm5, mm6, mm7, mm8, mm9, mm10, mm11, mm12, mm13, mm14, mm15]) nt_ok (all16) 300 30 (by kernel_rfl)
def mm17 : Memo := ⟨64, [.v (.string ⟨#[84, 69, 88, 84]⟩)], [], (.tu [.v (.string ⟨#[]⟩), .v (.bool false)]), []⟩
theorem all17 : ∀ m ∈ [mm0, mm1, mm2, mm3, mm4, mm5, mm6, mm7, mm8, mm9, mm10, mm11, mm12, mm13, mm14, mm15, mm16], MemoOk Tryz.prog Go.Am.Tables m := by
 intro m hm
 simp only [List.mem_cons, List.not_mem_nil, or_false] at hm
 rcases hm with rfl | rfl | rfl | rfl | rfl | rfl | rfl | rfl | rfl | rfl | rfl | rfl | rfl | rfl | rfl | rfl | rfl
 ·exact ok0
 ·exact ok1
 ·exact ok2
 ·exact ok3
 ·exact ok4
 ·exact ok5
 ·exact ok6
 ·exact ok7
 ·exact ok8
 ·exact ok9
 ·exact ok10
 ·exact ok11
 ·exact ok12
 ·exact ok13
 ·exact ok14
 ·exact ok15
 ·exact ok16
theorem ok17 : MemoOk Tryz.prog Go.Am.Tables mm17 := memo_run (tab := [mm0, mm1, mm2, mm3, mm4, mm5, mm6, mm7, mm8, mm9, mm10, mm11, mm12, mm13, mm14, mm15, mm16]) nt_ok (all17) 300 30 (by kernel_rfl)
def mm18 : Memo := ⟨64, [.v (.string ⟨#[85, 78, 73, 81, 85, 69]⟩)], [], (.tu [.v (.string ⟨#[85, 78, 73, 81, 85, 69]⟩), .v (.bool true)]), []⟩
theorem all18 : ∀ m ∈ [mm0, mm1, mm2, mm3, mm4, mm5, mm6, mm7, mm8, mm9, mm10, mm11, mm12, mm13, mm14, mm15, mm16, mm17], MemoOk Tryz.prog Go.Am.Tables m := by
 intro m hm
 simp only [List.mem_cons, List.not_mem_nil, or_false] at hm
 rcases hm with rfl | rfl | rfl | rfl | rfl | rfl | rfl | rfl | rfl | rfl | rfl | rfl | rfl | rfl | rfl | rfl | rfl | rfl
 ·exact ok0
 ·exact ok1
 ·exact ok2
 ·exact ok3
 ·exact ok4
 ·exact ok5
 ·exact ok6
 ·exact ok7
 ·exact ok8
 ·exact ok9
 ·exact ok10
 ·exact ok11
 ·exact ok12
 ·exact ok13
 ·exact ok14
 ·exact ok15
 ·exact ok16
 ·exact ok17
theorem ok18 : MemoOk Tryz.prog Go.Am.Tables mm18 := memo_run (tab := [mm0, mm1, mm2, mm3, mm4, mm5, mm6, mm7, mm8, mm9, mm10, mm11, mm12, mm13, mm14, mm15, mm16, mm17]) nt_ok (all18) 300 30 (by kernel_rfl)
def mm19 : Memo := ⟨29, [.v (.string ⟨#[67, 82, 69, 65, 84, 69, 32, 84, 65, 66, 76, 69, 32, 116, 40, 97, 32, 73, 78, 84, 69, 71, 69, 82, 32, 80, 82, 73, 77, 65, 82, 89, 32, 75, 69, 89, 44, 32, 98, 32, 84, 69, 88, 84, 32, 85, 78, 73, 81, 85, 69, 41]⟩)], [], (.tu [.sl 0 0 13 0 true, .v (.int .i64 0), .v (.int .i64 0)]), [.live [.v (.int .i64 1), .v (.int .i64 0), .v (.string ⟨#[67, 82, 69, 65, 84, 69]⟩), .v (.int .i64 1), .v (.int .i64 7), .v (.string ⟨#[84, 65, 66, 76, 69]⟩), .v (.int .i64 1), .v (.int .i64 13), .v (.string ⟨#[116]⟩), .v (.int .i64 6), .v (.int .i64 14), .v (.string ⟨#[40]⟩), .v (.int .i64 1), .v (.int .i64 15), .v (.string ⟨#[97]⟩), .v (.int .i64 1), .v (.int .i64 17), .v (.string ⟨#[73, 78, 84, 69, 71, 69, 82]⟩), .v (.int .i64 1), .v (.int .i64 25), .v (.string ⟨#[80, 82, 73, 77, 65, 82, 89]⟩), .v (.int .i64 1), .v (.int .i64 33), .v (.string ⟨#[75, 69, 89]⟩), .v (.int .i64 6), .v (.int .i64 36), .v (.string ⟨#[44]⟩), .v (.int .i64 1), .v (.int .i64 38), .v (.string ⟨#[98]⟩), .v (.int .i64 1), .v (.int .i64 40), .v (.string ⟨#[84, 69, 88, 84]⟩), .v (.int .i64 1), .v (.int .i64 45), .v (.string ⟨#[85, 78, 73, 81, 85, 69]⟩), .v (.int .i64 6), .v (.int .i64 51), .v (.string ⟨#[41]⟩)] 85 3]⟩
theorem all19 : ∀ m ∈ [mm0, mm1, mm2, mm3, mm4, mm5, mm6, mm7, mm8, mm9, mm10, mm11, mm12, mm13, mm14, mm15, mm16, mm17, mm18], MemoOk Tryz.prog Go.Am.Tables m := by
 intro m hm
 simp only [List.mem_cons, List.not_mem_nil, or_false] at hm
 rcases hm with rfl | rfl | rfl | rfl | rfl | rfl | rfl | rfl | rfl | rfl | rfl | rfl | rfl | rfl | rfl | rfl | rfl | rfl | rfl
 ·exact ok0
 ·exact ok1
 ·exact ok2
 ·exact ok3
 ·exact ok4
 ·exact ok5
 ·exact ok6
 ·exact ok7
 ·exact ok8
 ·exact ok9
 ·exact ok10
 ·exact ok11
 ·exact ok12
 ·exact ok13
 ·exact ok14
 ·exact ok15
 ·exact ok16
 ·exact ok17
 ·exact ok18
theorem ok19 : MemoOk Tryz.prog Go.Am.Tables mm19 := memo_run (tab := [mm0, mm1, mm2, mm3, mm4, mm5, mm6, mm7, mm8, mm9, mm10, mm11, mm12, mm13, mm14, mm15, mm16, mm17, mm18]) nt_ok (all19) 300 30 (by kernel_rfl)
end
end Go.Proofs.YtdomhnkffghmlaaGreatDoor.Ex
