/- Closed calls of the program, reckoned. -/
import Derived.Test.YtdomhnkffghmlaaGreatDoorSXHd3

namespace Go.Proofs.YtdomhnkffghmlaaGreatDoor.Ex
open Go.Am Go.Ev Go.Proofs.YtdomhnkffghmlaaGreatDoor
noncomputable section
def mm20 : Memo := ⟨20, [.v (.string ⟨#[67, 82, 69, 65, 84, 69, 32, 84, 65, 66, 76, 69, 32, 116, 40, 97, 32, 73, 78, 84, 69, 71, 69, 82, 32, 80, 82, 73, 77, 65, 82, 89, 32, 75, 69, 89, 44, 32, 98, 32, 84, 69, 88, 84, 32, 85, 78, 73, 81, 85, 69, 41]⟩)], [], (.tu [.ag [.v (.int .i64 5), .v (.string ⟨#[]⟩), .v (.bool false), .v (.bool false), .v (.int .i64 0), .v (.string ⟨#[116]⟩), .v (.string ⟨#[]⟩), .v (.string ⟨#[]⟩), .v (.slice none 0 0), .sl 0 0 2 0 true, .v (.slice none 0 0), .v (.slice none 0 0), .v (.slice none 0 0), .v (.slice none 0 0)], .v (.int .i64 0), .v (.int .i64 0)]), [.live [.v (.string ⟨#[97]⟩), .v (.string ⟨#[73, 78, 84, 69, 71, 69, 82]⟩), .v (.int .i64 0), .v (.bool true), .v (.bool false), .v (.bool false), .v (.slice none 0 0), .v (.slice none 0 0), .v (.string ⟨#[98]⟩), .v (.string ⟨#[84, 69, 88, 84]⟩), .v (.int .i64 0), .v (.bool false), .v (.bool true), .v (.bool false), .v (.slice none 0 0), .v (.slice none 0 0)] 44 8]⟩
theorem all20 : ∀ m ∈ [mm0, mm1, mm2, mm3, mm4, mm5, mm6, mm7, mm8, mm9, mm10, mm11, mm12, mm13, mm14, mm15, mm16, mm17, mm18, mm19], MemoOk Tryz.prog Go.Am.Tables m := by
 intro m hm
 simp only [List.mem_cons, List.not_mem_nil, or_false] at hm
 rcases hm with rfl | rfl | rfl | rfl | rfl | rfl | rfl | rfl | rfl | rfl | rfl | rfl | rfl | rfl | rfl | rfl | rfl | rfl | rfl | rfl
 ·exact ok0
 ·exact ok1
 ·exact ok2
 ·exact ok3
 ·exact ok4
 ·exact ok5
 ·exact ok6
 ·exact ok7
 ·exact ok8
 ·exact ok9
 ·exact ok10
 ·exact ok11
 ·exact ok12
 ·exact ok13
 ·exact ok14
 ·exact ok15
 ·exact ok16
 ·exact ok17
 ·exact ok18
 ·exact ok19
theorem ok20 : MemoOk Tryz.prog Go.Am.Tables mm20 := memo_run (tab := [mm0, mm1, mm2, mm3, mm4, mm5, mm6, mm7, mm8, mm9, mm10, mm11, mm12, mm13, mm14, mm15, mm16, mm17, mm18, mm19]) nt_ok (all20) 300 30 (by kernel_rfl)
end
end Go.Proofs.YtdomhnkffghmlaaGreatDoor.Ex
