/- Closed calls of the program, reckoned. -/
import Derived.Test.YtdomhnkffghmlaaGreatDoorS14

namespace Go.Proofs.YtdomhnkffghmlaaGreatDoor.Ex
open Go.Am Go.Ev Go.Proofs.YtdomhnkffghmlaaGreatDoor
noncomputable section
def mm0 : Memo := ⟨64, [.v (.string ⟨#[99, 114, 101, 97, 116, 101]⟩)], [], (.tu [.v (.string ⟨#[67, 82, 69, 65, 84, 69]⟩), .v (.bool true)]), []⟩
theorem ok0 : MemoOk Tryz.prog Go.Am.Tables mm0 := memo_run (tab := []) nt_ok (fun _ h => (by cases h)) 300 30 (by kernel_rfl)
def mm1 : Memo := ⟨64, [.v (.string ⟨#[116, 97, 98, 108, 101]⟩)], [], (.tu [.v (.string ⟨#[84, 65, 66, 76, 69]⟩), .v (.bool true)]), []⟩
theorem all1 : ∀ m ∈ [mm0], MemoOk Tryz.prog Go.Am.Tables m := by
 intro m hm
 simp only [List.mem_cons, List.not_mem_nil, or_false] at hm
 rcases hm with rfl
 ·exact ok0
theorem ok1 : MemoOk Tryz.prog Go.Am.Tables mm1 := memo_run (tab := [mm0]) nt_ok (all1) 300 30 (by kernel_rfl)
def mm2 : Memo := ⟨64, [.v (.string ⟨#[116]⟩)], [], (.tu [.v (.string ⟨#[]⟩), .v (.bool false)]), []⟩
theorem all2 : ∀ m ∈ [mm0, mm1], MemoOk Tryz.prog Go.Am.Tables m := by
 intro m hm
 simp only [List.mem_cons, List.not_mem_nil, or_false] at hm
 rcases hm with rfl | rfl
 ·exact ok0
 ·exact ok1
theorem ok2 : MemoOk Tryz.prog Go.Am.Tables mm2 := memo_run (tab := [mm0, mm1]) nt_ok (all2) 300 30 (by kernel_rfl)
def mm3 : Memo := ⟨64, [.v (.string ⟨#[97]⟩)], [], (.tu [.v (.string ⟨#[]⟩), .v (.bool false)]), []⟩
theorem all3 : ∀ m ∈ [mm0, mm1, mm2], MemoOk Tryz.prog Go.Am.Tables m := by
 intro m hm
 simp only [List.mem_cons, List.not_mem_nil, or_false] at hm
 rcases hm with rfl | rfl | rfl
 ·exact ok0
 ·exact ok1
 ·exact ok2
theorem ok3 : MemoOk Tryz.prog Go.Am.Tables mm3 := memo_run (tab := [mm0, mm1, mm2]) nt_ok (all3) 300 30 (by kernel_rfl)
def mm4 : Memo := ⟨64, [.v (.string ⟨#[105, 110, 116, 101, 103, 101, 114]⟩)], [], (.tu [.v (.string ⟨#[]⟩), .v (.bool false)]), []⟩
theorem all4 : ∀ m ∈ [mm0, mm1, mm2, mm3], MemoOk Tryz.prog Go.Am.Tables m := by
 intro m hm
 simp only [List.mem_cons, List.not_mem_nil, or_false] at hm
 rcases hm with rfl | rfl | rfl | rfl
 ·exact ok0
 ·exact ok1
 ·exact ok2
 ·exact ok3
theorem ok4 : MemoOk Tryz.prog Go.Am.Tables mm4 := memo_run (tab := [mm0, mm1, mm2, mm3]) nt_ok (all4) 300 30 (by kernel_rfl)
def mm5 : Memo := ⟨64, [.v (.string ⟨#[112, 114, 105, 109, 97, 114, 121]⟩)], [], (.tu [.v (.string ⟨#[80, 82, 73, 77, 65, 82, 89]⟩), .v (.bool true)]), []⟩
theorem all5 : ∀ m ∈ [mm0, mm1, mm2, mm3, mm4], MemoOk Tryz.prog Go.Am.Tables m := by
 intro m hm
 simp only [List.mem_cons, List.not_mem_nil, or_false] at hm
 rcases hm with rfl | rfl | rfl | rfl | rfl
 ·exact ok0
 ·exact ok1
 ·exact ok2
 ·exact ok3
 ·exact ok4
theorem ok5 : MemoOk Tryz.prog Go.Am.Tables mm5 := memo_run (tab := [mm0, mm1, mm2, mm3, mm4]) nt_ok (all5) 300 30 (by kernel_rfl)
def mm6 : Memo := ⟨64, [.v (.string ⟨#[107, 101, 121]⟩)], [], (.tu [.v (.string ⟨#[75, 69, 89]⟩), .v (.bool true)]), []⟩
theorem all6 : ∀ m ∈ [mm0, mm1, mm2, mm3, mm4, mm5], MemoOk Tryz.prog Go.Am.Tables m := by
 intro m hm
 simp only [List.mem_cons, List.not_mem_nil, or_false] at hm
 rcases hm with rfl | rfl | rfl | rfl | rfl | rfl
 ·exact ok0
 ·exact ok1
 ·exact ok2
 ·exact ok3
 ·exact ok4
 ·exact ok5
theorem ok6 : MemoOk Tryz.prog Go.Am.Tables mm6 := memo_run (tab := [mm0, mm1, mm2, mm3, mm4, mm5]) nt_ok (all6) 300 30 (by kernel_rfl)
def mm7 : Memo := ⟨64, [.v (.string ⟨#[98]⟩)], [], (.tu [.v (.string ⟨#[]⟩), .v (.bool false)]), []⟩
theorem all7 : ∀ m ∈ [mm0, mm1, mm2, mm3, mm4, mm5, mm6], MemoOk Tryz.prog Go.Am.Tables m := by
 intro m hm
 simp only [List.mem_cons, List.not_mem_nil, or_false] at hm
 rcases hm with rfl | rfl | rfl | rfl | rfl | rfl | rfl
 ·exact ok0
 ·exact ok1
 ·exact ok2
 ·exact ok3
 ·exact ok4
 ·exact ok5
 ·exact ok6
theorem ok7 : MemoOk Tryz.prog Go.Am.Tables mm7 := memo_run (tab := [mm0, mm1, mm2, mm3, mm4, mm5, mm6]) nt_ok (all7) 300 30 (by kernel_rfl)
def mm8 : Memo := ⟨64, [.v (.string ⟨#[116, 101, 120, 116]⟩)], [], (.tu [.v (.string ⟨#[]⟩), .v (.bool false)]), []⟩
theorem all8 : ∀ m ∈ [mm0, mm1, mm2, mm3, mm4, mm5, mm6, mm7], MemoOk Tryz.prog Go.Am.Tables m := by
 intro m hm
 simp only [List.mem_cons, List.not_mem_nil, or_false] at hm
 rcases hm with rfl | rfl | rfl | rfl | rfl | rfl | rfl | rfl
 ·exact ok0
 ·exact ok1
 ·exact ok2
 ·exact ok3
 ·exact ok4
 ·exact ok5
 ·exact ok6
 ·exact ok7
theorem ok8 : MemoOk Tryz.prog Go.Am.Tables mm8 := memo_run (tab := [mm0, mm1, mm2, mm3, mm4, mm5, mm6, mm7]) nt_ok (all8) 300 30 (by kernel_rfl)
def mm9 : Memo := ⟨64, [.v (.string ⟨#[117, 110, 105, 113, 117, 101]⟩)], [], (.tu [.v (.string ⟨#[85, 78, 73, 81, 85, 69]⟩), .v (.bool true)]), []⟩
theorem all9 : ∀ m ∈ [mm0, mm1, mm2, mm3, mm4, mm5, mm6, mm7, mm8], MemoOk Tryz.prog Go.Am.Tables m := by
 intro m hm
 simp only [List.mem_cons, List.not_mem_nil, or_false] at hm
 rcases hm with rfl | rfl | rfl | rfl | rfl | rfl | rfl | rfl | rfl
 ·exact ok0
 ·exact ok1
 ·exact ok2
 ·exact ok3
 ·exact ok4
 ·exact ok5
 ·exact ok6
 ·exact ok7
 ·exact ok8
theorem ok9 : MemoOk Tryz.prog Go.Am.Tables mm9 := memo_run (tab := [mm0, mm1, mm2, mm3, mm4, mm5, mm6, mm7, mm8]) nt_ok (all9) 300 30 (by kernel_rfl)
def mm10 : Memo := ⟨29, [.v (.string ⟨#[99, 114, 101, 97, 116, 101, 32, 116, 97, 98, 108, 101, 32, 116, 40, 97, 32, 105, 110, 116, 101, 103, 101, 114, 32, 112, 114, 105, 109, 97, 114, 121, 32, 107, 101, 121, 44, 32, 98, 32, 116, 101, 120, 116, 32, 117, 110, 105, 113, 117, 101, 41]⟩)], [], (.tu [.sl 0 0 13 0 true, .v (.int .i64 0), .v (.int .i64 0)]), [.live [.v (.int .i64 1), .v (.int .i64 0), .v (.string ⟨#[99, 114, 101, 97, 116, 101]⟩), .v (.int .i64 1), .v (.int .i64 7), .v (.string ⟨#[116, 97, 98, 108, 101]⟩), .v (.int .i64 1), .v (.int .i64 13), .v (.string ⟨#[116]⟩), .v (.int .i64 6), .v (.int .i64 14), .v (.string ⟨#[40]⟩), .v (.int .i64 1), .v (.int .i64 15), .v (.string ⟨#[97]⟩), .v (.int .i64 1), .v (.int .i64 17), .v (.string ⟨#[105, 110, 116, 101, 103, 101, 114]⟩), .v (.int .i64 1), .v (.int .i64 25), .v (.string ⟨#[112, 114, 105, 109, 97, 114, 121]⟩), .v (.int .i64 1), .v (.int .i64 33), .v (.string ⟨#[107, 101, 121]⟩), .v (.int .i64 6), .v (.int .i64 36), .v (.string ⟨#[44]⟩), .v (.int .i64 1), .v (.int .i64 38), .v (.string ⟨#[98]⟩), .v (.int .i64 1), .v (.int .i64 40), .v (.string ⟨#[116, 101, 120, 116]⟩), .v (.int .i64 1), .v (.int .i64 45), .v (.string ⟨#[117, 110, 105, 113, 117, 101]⟩), .v (.int .i64 6), .v (.int .i64 51), .v (.string ⟨#[41]⟩)] 85 3]⟩
theorem all10 : ∀ m ∈ [mm0, mm1, mm2, mm3, mm4, mm5, mm6, mm7, mm8, mm9], MemoOk Tryz.prog Go.Am.Tables m := by
 intro m hm
 simp only [List.mem_cons, List.not_mem_nil, or_false] at hm
 rcases hm with rfl | rfl | rfl | rfl | rfl | rfl | rfl | rfl | rfl | rfl
 ·exact ok0
 ·exact ok1
 ·exact ok2
 ·exact ok3
 ·exact ok4
 ·exact ok5
 ·exact ok6
 ·exact ok7
 ·exact ok8
 ·exact ok9
theorem ok10 : MemoOk Tryz.prog Go.Am.Tables mm10 := memo_run (tab := [mm0, mm1, mm2, mm3, mm4, mm5, mm6, mm7, mm8, mm9]) nt_ok (all10) 300 30 (by kernel_rfl)
end
end Go.Proofs.YtdomhnkffghmlaaGreatDoor.Ex
