/- Closed calls of the program, reckoned. -/
import Derived.Test.YtdgoilofkgdaoaaGreatDoorS19

namespace Go.Proofs.YtdgoilofkgdaoaaGreatDoor.Ex
open Go.Am Go.Ev Go.Proofs.YtdgoilofkgdaoaaGreatDoor
noncomputable section
def mm0 : Memo := ⟨77, [.v (.string ⟨#[100, 114, 111, 112]⟩)], [], (.tu [.v (.string ⟨#[68, 82, 79, 80]⟩), .v (.bool true)]), []⟩
theorem ok0 : MemoOk Tryz.prog Go.Am.Tables mm0 := memo_run (tab := []) nt_ok (fun _ h => (by cases h)) 300 30 (by kernel_rfl)
def mm1 : Memo := ⟨77, [.v (.string ⟨#[116, 97, 98, 108, 101]⟩)], [], (.tu [.v (.string ⟨#[84, 65, 66, 76, 69]⟩), .v (.bool true)]), []⟩
theorem all1 : ∀ m ∈ [mm0], MemoOk Tryz.prog Go.Am.Tables m := by
 intro m hm
 simp only [List.mem_cons, List.not_mem_nil, or_false] at hm
 rcases hm with rfl
 ·exact ok0
theorem ok1 : MemoOk Tryz.prog Go.Am.Tables mm1 := memo_run (tab := [mm0]) nt_ok (all1) 300 30 (by kernel_rfl)
def mm2 : Memo := ⟨77, [.v (.string ⟨#[116]⟩)], [], (.tu [.v (.string ⟨#[]⟩), .v (.bool false)]), []⟩
theorem all2 : ∀ m ∈ [mm0, mm1], MemoOk Tryz.prog Go.Am.Tables m := by
 intro m hm
 simp only [List.mem_cons, List.not_mem_nil, or_false] at hm
 rcases hm with rfl | rfl
 ·exact ok0
 ·exact ok1
theorem ok2 : MemoOk Tryz.prog Go.Am.Tables mm2 := memo_run (tab := [mm0, mm1]) nt_ok (all2) 300 30 (by kernel_rfl)
def mm3 : Memo := ⟨36, [.v (.string ⟨#[100, 114, 111, 112, 32, 116, 97, 98, 108, 101, 32, 116, 59]⟩)], [], (.tu [.sl 0 0 4 0 true, .v (.int .i64 0), .v (.int .i64 0)]), [.live [.v (.int .i64 1), .v (.int .i64 0), .v (.string ⟨#[100, 114, 111, 112]⟩), .v (.int .i64 1), .v (.int .i64 5), .v (.string ⟨#[116, 97, 98, 108, 101]⟩), .v (.int .i64 1), .v (.int .i64 11), .v (.string ⟨#[116]⟩), .v (.int .i64 6), .v (.int .i64 12), .v (.string ⟨#[59]⟩)] 90 3]⟩
theorem all3 : ∀ m ∈ [mm0, mm1, mm2], MemoOk Tryz.prog Go.Am.Tables m := by
 intro m hm
 simp only [List.mem_cons, List.not_mem_nil, or_false] at hm
 rcases hm with rfl | rfl | rfl
 ·exact ok0
 ·exact ok1
 ·exact ok2
theorem ok3 : MemoOk Tryz.prog Go.Am.Tables mm3 := memo_run (tab := [mm0, mm1, mm2]) nt_ok (all3) 300 30 (by kernel_rfl)
end
end Go.Proofs.YtdgoilofkgdaoaaGreatDoor.Ex
namespace Go.Proofs.YtdgoilofkgdaoaaGreatDoor.Ex
open Go.Am Go.Ev Go.Proofs.YtdgoilofkgdaoaaGreatDoor
noncomputable section
def mm4 : Memo := ⟨13, [.v (.string ⟨#[100, 114, 111, 112, 32, 116, 97, 98, 108, 101, 32, 116, 59]⟩)], [], (.tu [.ag [.v (.int .i64 8), .v (.string ⟨#[116, 97, 98, 108, 101]⟩), .v (.bool false), .v (.bool false), .v (.int .i64 0), .v (.string ⟨#[116]⟩), .v (.string ⟨#[]⟩), .v (.string ⟨#[]⟩), .v (.slice none 0 0), .v (.slice none 0 0), .v (.slice none 0 0), .v (.slice none 0 0), .v (.slice none 0 0), .v (.slice none 0 0)], .v (.int .i64 0), .v (.int .i64 0)]), []⟩
theorem all4 : ∀ m ∈ [mm0, mm1, mm2, mm3], MemoOk Tryz.prog Go.Am.Tables m := by
 intro m hm
 simp only [List.mem_cons, List.not_mem_nil, or_false] at hm
 rcases hm with rfl | rfl | rfl | rfl
 ·exact ok0
 ·exact ok1
 ·exact ok2
 ·exact ok3
theorem ok4 : MemoOk Tryz.prog Go.Am.Tables mm4 := memo_run (tab := [mm0, mm1, mm2, mm3]) nt_ok (all4) 300 30 (by kernel_rfl)
end
end Go.Proofs.YtdgoilofkgdaoaaGreatDoor.Ex
