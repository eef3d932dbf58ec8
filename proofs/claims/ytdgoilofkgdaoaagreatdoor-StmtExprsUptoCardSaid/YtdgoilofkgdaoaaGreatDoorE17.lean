/- Closed calls of the program, reckoned. -/
import Derived.Test.YtdgoilofkgdaoaaGreatDoorE19
import Derived.Test.YtdgoilofkgdaoaaGreatDoorEXData

namespace Go.Proofs.YtdgoilofkgdaoaaGreatDoor.Ex
open Go.Am Go.Ev Go.Proofs.YtdgoilofkgdaoaaGreatDoor
noncomputable section
def mm0 : Memo := ⟨77, [.v (.string ⟨#[100, 114, 111, 112]⟩)], [], (.tu [.v (.string ⟨#[68, 82, 79, 80]⟩), .v (.bool true)]), []⟩
theorem ok0 : MemoOk Tryz.prog Go.Am.Tables mm0 := memo_run (tab := []) nt_ok (fun _ h => (by cases h)) 300 30 (by kernel_rfl)
def mm1 : Memo := ⟨77, [.v (.string ⟨#[116, 97, 98, 108, 101]⟩)], [], (.tu [.v (.string ⟨#[84, 65, 66, 76, 69]⟩), .v (.bool true)]), []⟩
theorem all1 : ∀ m ∈ [mm0], MemoOk Tryz.prog Go.Am.Tables m := by
 intro m hm
 simp only [List.mem_cons, List.not_mem_nil, or_false] at hm
 rcases hm with rfl
 ·exact ok0
theorem ok1 : MemoOk Tryz.prog Go.Am.Tables mm1 := memo_run (tab := [mm0]) nt_ok (all1) 300 30 (by kernel_rfl)
def mm2 : Memo := ⟨77, [.v (.string ⟨#[116]⟩)], [], (.tu [.v (.string ⟨#[]⟩), .v (.bool false)]), []⟩
theorem all2 : ∀ m ∈ [mm0, mm1], MemoOk Tryz.prog Go.Am.Tables m := by
 intro m hm
 simp only [List.mem_cons, List.not_mem_nil, or_false] at hm
 rcases hm with rfl | rfl
 ·exact ok0
 ·exact ok1
theorem ok2 : MemoOk Tryz.prog Go.Am.Tables mm2 := memo_run (tab := [mm0, mm1]) nt_ok (all2) 300 30 (by kernel_rfl)
def mm3 : Memo := ⟨36, [.v (.string ⟨#[100, 114, 111, 112, 32, 116, 97, 98, 108, 101, 32, 116, 59]⟩)], [], (.tu [.sl 0 0 4 0 true, .v (.int .i64 0), .v (.int .i64 0)]), [.live [.v (.int .i64 1), .v (.int .i64 0), .v (.string ⟨#[100, 114, 111, 112]⟩), .v (.int .i64 1), .v (.int .i64 5), .v (.string ⟨#[116, 97, 98, 108, 101]⟩), .v (.int .i64 1), .v (.int .i64 11), .v (.string ⟨#[116]⟩), .v (.int .i64 6), .v (.int .i64 12), .v (.string ⟨#[59]⟩)] 90 3]⟩
theorem all3 : ∀ m ∈ [mm0, mm1, mm2], MemoOk Tryz.prog Go.Am.Tables m := by
 intro m hm
 simp only [List.mem_cons, List.not_mem_nil, or_false] at hm
 rcases hm with rfl | rfl | rfl
 ·exact ok0
 ·exact ok1
 ·exact ok2
theorem ok3 : MemoOk Tryz.prog Go.Am.Tables mm3 := memo_run (tab := [mm0, mm1, mm2]) nt_ok (all3) 300 30 (by kernel_rfl)
end
end Go.Proofs.YtdgoilofkgdaoaaGreatDoor.Ex
namespace Go.Proofs.YtdgoilofkgdaoaaGreatDoor.Ex
open Go.Am Go.Ev Go.Proofs.YtdgoilofkgdaoaaGreatDoor
noncomputable section
def mm4 : Memo := ⟨13, [.v (.string ⟨#[100, 114, 111, 112, 32, 116, 97, 98, 108, 101, 32, 116, 59]⟩)], [], (.tu [.ag [.v (.int .i64 8), .v (.string ⟨#[116, 97, 98, 108, 101]⟩), .v (.bool false), .v (.bool false), .v (.int .i64 0), .v (.string ⟨#[116]⟩), .v (.string ⟨#[]⟩), .v (.string ⟨#[]⟩), .v (.slice none 0 0), .v (.slice none 0 0), .v (.slice none 0 0), .v (.slice none 0 0), .v (.slice none 0 0), .v (.slice none 0 0)], .v (.int .i64 0), .v (.int .i64 0)]), []⟩
theorem all4 : ∀ m ∈ [mm0, mm1, mm2, mm3], MemoOk Tryz.prog Go.Am.Tables m := by
 intro m hm
 simp only [List.mem_cons, List.not_mem_nil, or_false] at hm
 rcases hm with rfl | rfl | rfl | rfl
 ·exact ok0
 ·exact ok1
 ·exact ok2
 ·exact ok3
theorem ok4 : MemoOk Tryz.prog Go.Am.Tables mm4 := memo_run (tab := [mm0, mm1, mm2, mm3]) nt_ok (all4) 300 30 (by kernel_rfl)
end
end Go.Proofs.YtdgoilofkgdaoaaGreatDoor.Ex
namespace Go.Proofs.YtdgoilofkgdaoaaGreatDoor.Ex
open Go.Am Go.Ev Go.Proofs.YtdgoilofkgdaoaaGreatDoor
noncomputable section
def mm5 : Memo := ⟨36, [.v (.string ⟨#[100, 114, 111, 112, 32, 116]⟩)], [], (.tu [.sl 0 0 2 0 true, .v (.int .i64 0), .v (.int .i64 0)]), [.live [.v (.int .i64 1), .v (.int .i64 0), .v (.string ⟨#[100, 114, 111, 112]⟩), .v (.int .i64 1), .v (.int .i64 5), .v (.string ⟨#[116]⟩)] 90 3]⟩
theorem all5 : ∀ m ∈ [mm0, mm1, mm2, mm3, mm4], MemoOk Tryz.prog Go.Am.Tables m := by
 intro m hm
 simp only [List.mem_cons, List.not_mem_nil, or_false] at hm
 rcases hm with rfl | rfl | rfl | rfl | rfl
 ·exact ok0
 ·exact ok1
 ·exact ok2
 ·exact ok3
 ·exact ok4
theorem ok5 : MemoOk Tryz.prog Go.Am.Tables mm5 := memo_run (tab := [mm0, mm1, mm2, mm3, mm4]) nt_ok (all5) 300 30 (by kernel_rfl)
def mm6 : Memo := ⟨13, [.v (.string ⟨#[100, 114, 111, 112, 32, 116]⟩)], [], (.tu [.ag [.v (.int .i64 0), .v (.string ⟨#[]⟩), .v (.bool false), .v (.bool false), .v (.int .i64 0), .v (.string ⟨#[]⟩), .v (.string ⟨#[]⟩), .v (.string ⟨#[]⟩), .v (.slice none 0 0), .v (.slice none 0 0), .v (.slice none 0 0), .v (.slice none 0 0), .v (.slice none 0 0), .v (.slice none 0 0)], .v (.int .i64 5), .v (.int .i64 260)]), []⟩
theorem all6 : ∀ m ∈ [mm0, mm1, mm2, mm3, mm4, mm5], MemoOk Tryz.prog Go.Am.Tables m := by
 intro m hm
 simp only [List.mem_cons, List.not_mem_nil, or_false] at hm
 rcases hm with rfl | rfl | rfl | rfl | rfl | rfl
 ·exact ok0
 ·exact ok1
 ·exact ok2
 ·exact ok3
 ·exact ok4
 ·exact ok5
theorem ok6 : MemoOk Tryz.prog Go.Am.Tables mm6 := memo_run (tab := [mm0, mm1, mm2, mm3, mm4, mm5]) nt_ok (all6) 300 30 (by kernel_rfl)
end
end Go.Proofs.YtdgoilofkgdaoaaGreatDoor.Ex
namespace Go.Proofs.YtdgoilofkgdaoaaGreatDoor.Ex
open Go.Am Go.Ev Go.Ex Go.Proofs.YtdgoilofkgdaoaaGreatDoor
noncomputable section
def mm7 : Memo := ⟨5, [], [], (.v (.bool true)), []⟩
theorem all7 : ∀ m ∈ [mm0, mm1, mm2, mm3, mm4, mm5, mm6], MemoOk Tryz.prog Go.Am.Tables m := by
 intro m hm
 simp only [List.mem_cons, List.not_mem_nil, or_false] at hm
 rcases hm with rfl | rfl | rfl | rfl | rfl | rfl | rfl
 ·exact ok0
 ·exact ok1
 ·exact ok2
 ·exact ok3
 ·exact ok4
 ·exact ok5
 ·exact ok6
theorem ok7 : MemoOk Tryz.prog Go.Am.Tables mm7 := memo_run (tab := [mm0, mm1, mm2, mm3, mm4, mm5, mm6]) nt_ok (all7) 300 30 (by kernel_rfl)
theorem repL_base {G : Ghost} : ∀ {vs l : List Value}, RepL G (vs.map V.base) l → l = vs
 | [], l, h => h.nil_inv
 | v :: vs, l, h => by
  obtain ⟨v', l', rfl, h1, h2⟩ := RepL.uncons (by simpa using h)
  cases h1
  rw [repL_base h2]
/-- A call of the library on plain values, with a plain answer. -/
theorem gives_lib {f : FuncId} (vs : List Value) (r : Value) (hf : ∃ fn, Tryz.prog.funcs[f]? = some fn ∧ fn.body.isNone = false ∧ (fn.name == "runtime.NumGoroutine") = false) (h : ∀ w, Go.Am.Tables w → Calls Tryz.prog f vs.toArray w fun e w' => e = .returned r ∧ More w w') : Gives Tryz.prog f (vs.map V.base) (.base r) := by
 intro s
 refine ⟨hf, fun G w cargs hh hargs => ?_⟩
 obtain rfl : cargs = vs.toArray := by rw [← Array.toList_inj]; exact repL_base hargs
 refine (h w (hh.tab w hh.frz)).mono ?_
 rintro e w' ⟨rfl, hm⟩
 exact ⟨G, s, .base r, r, rfl, .base r, Ext.more hm, hh.more hm, rfl, rfl⟩
theorem head_ok : Gives Tryz.prog 5 [] (vbool true) :=
 gives_lib [] (.bool true) ⟨_, Tryz.func5, rfl, by decide⟩ fun w hw => (memo_calls tab_more ok7 (vs := []) rfl rfl rfl w hw).2
end
end Go.Proofs.YtdgoilofkgdaoaaGreatDoor.Ex
