/- Closed calls of the program, reckoned. -/
import Derived.Test.YtdomhnkffghmlaaGreatDoorSXHd4

namespace Go.Proofs.YtdomhnkffghmlaaGreatDoor.Ex
open Go.Am Go.Ev Go.Proofs.YtdomhnkffghmlaaGreatDoor
noncomputable section
def mm21 : Memo := ⟨77, [.sl 0 0 2 0 true, .v (.string ⟨#[44, 32]⟩)], [.live [.v (.string ⟨#[97, 32, 73, 78, 84, 69, 71, 69, 82, 32, 80, 82, 73, 77, 65, 82, 89, 32, 75, 69, 89]⟩), .v (.string ⟨#[98, 32, 84, 69, 88, 84, 32, 85, 78, 73, 81, 85, 69]⟩)] 9 1], (.v (.string ⟨#[97, 32, 73, 78, 84, 69, 71, 69, 82, 32, 80, 82, 73, 77, 65, 82, 89, 32, 75, 69, 89, 44, 32, 98, 32, 84, 69, 88, 84, 32, 85, 78, 73, 81, 85, 69]⟩)), [.live [.v (.string ⟨#[97, 32, 73, 78, 84, 69, 71, 69, 82, 32, 80, 82, 73, 77, 65, 82, 89, 32, 75, 69, 89]⟩), .v (.string ⟨#[98, 32, 84, 69, 88, 84, 32, 85, 78, 73, 81, 85, 69]⟩)] 9 1]⟩
theorem ok21 : MemoOk Tryz.prog Go.Am.Tables mm21 := join_ok _ _ _ _ (by decide +kernel) (by decide +kernel)
def mm22 : Memo := ⟨14, [.sl 0 0 1 1 false], [.live [.v (.string ⟨#[99, 114, 101, 97, 116, 101, 32, 116, 97, 98, 108, 101, 32, 116, 40, 97, 32, 105, 110, 116, 101, 103, 101, 114, 32, 112, 114, 105, 109, 97, 114, 121, 32, 107, 101, 121, 44, 32, 98, 32, 116, 101, 120, 116, 32, 117, 110, 105, 113, 117, 101, 41]⟩)] 9 0], (.tu [.ag [.sl 1 0 1 0 true, .sl 2 0 1 0 true, .v (.slice none 0 0)], .v (.int .i64 0)]), [.live [.v (.string ⟨#[99, 114, 101, 97, 116, 101, 32, 116, 97, 98, 108, 101, 32, 116, 40, 97, 32, 105, 110, 116, 101, 103, 101, 114, 32, 112, 114, 105, 109, 97, 114, 121, 32, 107, 101, 121, 44, 32, 98, 32, 116, 101, 120, 116, 32, 117, 110, 105, 113, 117, 101, 41]⟩)] 9 0, .live [.v (.string ⟨#[116]⟩), .sl 3 0 2 0 true, .v (.int .i64 0)] 34 3, .live [.v (.string ⟨#[116, 46, 98]⟩), .v (.string ⟨#[116]⟩), .sl 4 0 1 0 true, .v (.bool true), .v (.bool true)] 30 5, .live [.v (.string ⟨#[97]⟩), .v (.string ⟨#[73, 78, 84, 69, 71, 69, 82]⟩), .v (.int .i64 0), .v (.bool true), .v (.bool false), .v (.bool false), .v (.slice none 0 0), .v (.slice none 0 0), .v (.string ⟨#[98]⟩), .v (.string ⟨#[84, 69, 88, 84]⟩), .v (.int .i64 0), .v (.bool false), .v (.bool true), .v (.bool false), .v (.slice none 0 0), .v (.slice none 0 0)] 44 8, .live [.v (.int .i64 1), .v (.int .i64 0), .v (.bool false)] 62 3]⟩
theorem all22 : ∀ m ∈ [mm0, mm1, mm2, mm3, mm4, mm5, mm6, mm7, mm8, mm9, mm10, mm11, mm12, mm13, mm14, mm15, mm16, mm17, mm18, mm19, mm20, mm21], MemoOk Tryz.prog Go.Am.Tables m := by
 intro m hm
 simp only [List.mem_cons, List.not_mem_nil, or_false] at hm
 rcases hm with rfl | rfl | rfl | rfl | rfl | rfl | rfl | rfl | rfl | rfl | rfl | rfl | rfl | rfl | rfl | rfl | rfl | rfl | rfl | rfl | rfl | rfl
 ·exact ok0
 ·exact ok1
 ·exact ok2
 ·exact ok3
 ·exact ok4
 ·exact ok5
 ·exact ok6
 ·exact ok7
 ·exact ok8
 ·exact ok9
 ·exact ok10
 ·exact ok11
 ·exact ok12
 ·exact ok13
 ·exact ok14
 ·exact ok15
 ·exact ok16
 ·exact ok17
 ·exact ok18
 ·exact ok19
 ·exact ok20
 ·exact ok21
theorem ok22 : MemoOk Tryz.prog Go.Am.Tables mm22 := memo_run (tab := [mm0, mm1, mm2, mm3, mm4, mm5, mm6, mm7, mm8, mm9, mm10, mm11, mm12, mm13, mm14, mm15, mm16, mm17, mm18, mm19, mm20, mm21]) nt_ok (all22) 300 30 (by kernel_rfl)
end
end Go.Proofs.YtdomhnkffghmlaaGreatDoor.Ex
namespace Go.Proofs.YtdomhnkffghmlaaGreatDoor.Ex
open Go.Am Go.Ev Go.Proofs.YtdomhnkffghmlaaGreatDoor
noncomputable section
def mm23 : Memo := ⟨17, [.ag [.sl 0 0 1 0 true, .sl 1 0 1 0 true, .v (.slice none 0 0)]], [.live [.v (.string ⟨#[116]⟩), .sl 2 0 2 0 true, .v (.int .i64 0)] 34 3, .live [.v (.string ⟨#[116, 46, 98]⟩), .v (.string ⟨#[116]⟩), .sl 3 0 1 0 true, .v (.bool true), .v (.bool true)] 30 5, .live [.v (.string ⟨#[97]⟩), .v (.string ⟨#[73, 78, 84, 69, 71, 69, 82]⟩), .v (.int .i64 0), .v (.bool true), .v (.bool false), .v (.bool false), .v (.slice none 0 0), .v (.slice none 0 0), .v (.string ⟨#[98]⟩), .v (.string ⟨#[84, 69, 88, 84]⟩), .v (.int .i64 0), .v (.bool false), .v (.bool true), .v (.bool false), .v (.slice none 0 0), .v (.slice none 0 0)] 44 8, .live [.v (.int .i64 1), .v (.int .i64 0), .v (.bool false)] 62 3], (.v (.int .i64 0)), [.live [.v (.string ⟨#[116]⟩), .sl 2 0 2 0 true, .v (.int .i64 0)] 34 3, .live [.v (.string ⟨#[116, 46, 98]⟩), .v (.string ⟨#[116]⟩), .sl 3 0 1 0 true, .v (.bool true), .v (.bool true)] 30 5, .live [.v (.string ⟨#[97]⟩), .v (.string ⟨#[73, 78, 84, 69, 71, 69, 82]⟩), .v (.int .i64 0), .v (.bool true), .v (.bool false), .v (.bool false), .v (.slice none 0 0), .v (.slice none 0 0), .v (.string ⟨#[98]⟩), .v (.string ⟨#[84, 69, 88, 84]⟩), .v (.int .i64 0), .v (.bool false), .v (.bool true), .v (.bool false), .v (.slice none 0 0), .v (.slice none 0 0)] 44 8, .live [.v (.int .i64 1), .v (.int .i64 0), .v (.bool false)] 62 3]⟩
theorem all23 : ∀ m ∈ [mm0, mm1, mm2, mm3, mm4, mm5, mm6, mm7, mm8, mm9, mm10, mm11, mm12, mm13, mm14, mm15, mm16, mm17, mm18, mm19, mm20, mm21, mm22], MemoOk Tryz.prog Go.Am.Tables m := by
 intro m hm
 simp only [List.mem_cons, List.not_mem_nil, or_false] at hm
 rcases hm with rfl | rfl | rfl | rfl | rfl | rfl | rfl | rfl | rfl | rfl | rfl | rfl | rfl | rfl | rfl | rfl | rfl | rfl | rfl | rfl | rfl | rfl | rfl
 ·exact ok0
 ·exact ok1
 ·exact ok2
 ·exact ok3
 ·exact ok4
 ·exact ok5
 ·exact ok6
 ·exact ok7
 ·exact ok8
 ·exact ok9
 ·exact ok10
 ·exact ok11
 ·exact ok12
 ·exact ok13
 ·exact ok14
 ·exact ok15
 ·exact ok16
 ·exact ok17
 ·exact ok18
 ·exact ok19
 ·exact ok20
 ·exact ok21
 ·exact ok22
theorem ok23 : MemoOk Tryz.prog Go.Am.Tables mm23 := memo_run (tab := [mm0, mm1, mm2, mm3, mm4, mm5, mm6, mm7, mm8, mm9, mm10, mm11, mm12, mm13, mm14, mm15, mm16, mm17, mm18, mm19, mm20, mm21, mm22]) nt_ok (all23) 300 30 (by kernel_rfl)
end
end Go.Proofs.YtdomhnkffghmlaaGreatDoor.Ex
