/- Closed calls of the program, reckoned. -/
import Derived.Test.YtdomhnkffghmlaaGreatDoorSXHd1

namespace Go.Proofs.YtdomhnkffghmlaaGreatDoor.Ex
open Go.Am Go.Ev Go.Proofs.YtdomhnkffghmlaaGreatDoor
noncomputable section
def mm11 : Memo := ⟨20, [.v (.string ⟨#[99, 114, 101, 97, 116, 101, 32, 116, 97, 98, 108, 101, 32, 116, 40, 97, 32, 105, 110, 116, 101, 103, 101, 114, 32, 112, 114, 105, 109, 97, 114, 121, 32, 107, 101, 121, 44, 32, 98, 32, 116, 101, 120, 116, 32, 117, 110, 105, 113, 117, 101, 41]⟩)], [], (.tu [.ag [.v (.int .i64 5), .v (.string ⟨#[]⟩), .v (.bool false), .v (.bool false), .v (.int .i64 0), .v (.string ⟨#[116]⟩), .v (.string ⟨#[]⟩), .v (.string ⟨#[]⟩), .v (.slice none 0 0), .sl 0 0 2 0 true, .v (.slice none 0 0), .v (.slice none 0 0), .v (.slice none 0 0), .v (.slice none 0 0)], .v (.int .i64 0), .v (.int .i64 0)]), [.live [.v (.string ⟨#[97]⟩), .v (.string ⟨#[73, 78, 84, 69, 71, 69, 82]⟩), .v (.int .i64 0), .v (.bool true), .v (.bool false), .v (.bool false), .v (.slice none 0 0), .v (.slice none 0 0), .v (.string ⟨#[98]⟩), .v (.string ⟨#[84, 69, 88, 84]⟩), .v (.int .i64 0), .v (.bool false), .v (.bool true), .v (.bool false), .v (.slice none 0 0), .v (.slice none 0 0)] 44 8]⟩
theorem all11 : ∀ m ∈ [mm0, mm1, mm2, mm3, mm4, mm5, mm6, mm7, mm8, mm9, mm10], MemoOk Tryz.prog Go.Am.Tables m := by
 intro m hm
 simp only [List.mem_cons, List.not_mem_nil, or_false] at hm
 rcases hm with rfl | rfl | rfl | rfl | rfl | rfl | rfl | rfl | rfl | rfl | rfl
 ·exact ok0
 ·exact ok1
 ·exact ok2
 ·exact ok3
 ·exact ok4
 ·exact ok5
 ·exact ok6
 ·exact ok7
 ·exact ok8
 ·exact ok9
 ·exact ok10
theorem ok11 : MemoOk Tryz.prog Go.Am.Tables mm11 := memo_run (tab := [mm0, mm1, mm2, mm3, mm4, mm5, mm6, mm7, mm8, mm9, mm10]) nt_ok (all11) 300 30 (by kernel_rfl)
end
end Go.Proofs.YtdomhnkffghmlaaGreatDoor.Ex
