/- Closed calls of the program, reckoned. -/
import Derived.Test.YtdomhnkffghmlaaGreatDoorS19
import Derived.Test.YtdomhnkffghmlaaGreatDoorSXData
import Derived.Test.YtdomhnkffghmlaaGreatDoorS10

namespace Go.Proofs.YtdomhnkffghmlaaGreatDoor.Ex
open Go.Am Go.Ev Go.Ex Go.Proofs.YtdomhnkffghmlaaGreatDoor
noncomputable section
def mm24 : Memo := ⟨15, [.ag [.sl 0 0 1 0 true, .sl 1 0 1 0 true, .v (.slice none 0 0)], .v (.string ⟨#[84, 46, 66]⟩)], [.live [.v (.string ⟨#[116]⟩), .sl 2 0 2 0 true, .v (.int .i64 0)] 34 3, .live [.v (.string ⟨#[116, 46, 98]⟩), .v (.string ⟨#[116]⟩), .sl 3 0 1 0 true, .v (.bool true), .v (.bool true)] 30 5, .live [.v (.string ⟨#[97]⟩), .v (.string ⟨#[73, 78, 84, 69, 71, 69, 82]⟩), .v (.int .i64 0), .v (.bool true), .v (.bool false), .v (.bool false), .v (.slice none 0 0), .v (.slice none 0 0), .v (.string ⟨#[98]⟩), .v (.string ⟨#[84, 69, 88, 84]⟩), .v (.int .i64 0), .v (.bool false), .v (.bool true), .v (.bool false), .v (.slice none 0 0), .v (.slice none 0 0)] 44 8, .live [.v (.int .i64 1), .v (.int .i64 0), .v (.bool false)] 62 3], (.tu [.ag [.v (.string ⟨#[116, 46, 98]⟩), .v (.string ⟨#[116]⟩), .sl 4 0 1 0 true, .v (.bool true), .v (.bool true)], .v (.bool true)]), [.live [.v (.string ⟨#[116]⟩), .sl 2 0 2 0 true, .v (.int .i64 0)] 34 3, .live [.v (.string ⟨#[116, 46, 98]⟩), .v (.string ⟨#[116]⟩), .sl 3 0 1 0 true, .v (.bool true), .v (.bool true)] 30 5, .live [.v (.string ⟨#[97]⟩), .v (.string ⟨#[73, 78, 84, 69, 71, 69, 82]⟩), .v (.int .i64 0), .v (.bool true), .v (.bool false), .v (.bool false), .v (.slice none 0 0), .v (.slice none 0 0), .v (.string ⟨#[98]⟩), .v (.string ⟨#[84, 69, 88, 84]⟩), .v (.int .i64 0), .v (.bool false), .v (.bool true), .v (.bool false), .v (.slice none 0 0), .v (.slice none 0 0)] 44 8, .live [.v (.int .i64 1), .v (.int .i64 0), .v (.bool false)] 62 3, .live [.v (.int .i64 1), .v (.int .i64 0), .v (.bool false)] 62 3]⟩
theorem all24 : ∀ m ∈ [mm0, mm1, mm2, mm3, mm4, mm5, mm6, mm7, mm8, mm9, mm10, mm11, mm12, mm13, mm14, mm15, mm16, mm17, mm18, mm19, mm20, mm21, mm22, mm23], MemoOk Tryz.prog Go.Am.Tables m := by
 intro m hm
 simp only [List.mem_cons, List.not_mem_nil, or_false] at hm
 rcases hm with rfl | rfl | rfl | rfl | rfl | rfl | rfl | rfl | rfl | rfl | rfl | rfl | rfl | rfl | rfl | rfl | rfl | rfl | rfl | rfl | rfl | rfl | rfl | rfl
 ·exact ok0
 ·exact ok1
 ·exact ok2
 ·exact ok3
 ·exact ok4
 ·exact ok5
 ·exact ok6
 ·exact ok7
 ·exact ok8
 ·exact ok9
 ·exact ok10
 ·exact ok11
 ·exact ok12
 ·exact ok13
 ·exact ok14
 ·exact ok15
 ·exact ok16
 ·exact ok17
 ·exact ok18
 ·exact ok19
 ·exact ok20
 ·exact ok21
 ·exact ok22
 ·exact ok23
theorem ok24 : MemoOk Tryz.prog Go.Am.Tables mm24 := memo_run (tab := [mm0, mm1, mm2, mm3, mm4, mm5, mm6, mm7, mm8, mm9, mm10, mm11, mm12, mm13, mm14, mm15, mm16, mm17, mm18, mm19, mm20, mm21, mm22, mm23]) nt_ok (all24) 300 30 (by kernel_rfl)
def mm25 : Memo := ⟨16, [.ag [.sl 0 0 1 0 true, .sl 1 0 1 0 true, .v (.slice none 0 0)], .ag [.v (.int .i64 0), .v (.string ⟨#[]⟩), .v (.bool false), .v (.bool false), .v (.int .i64 0), .v (.string ⟨#[]⟩), .v (.string ⟨#[]⟩), .v (.string ⟨#[]⟩), .v (.slice none 0 0), .v (.slice none 0 0), .v (.slice none 0 0), .v (.slice none 0 0), .v (.slice none 0 0), .v (.slice none 0 0)]], [.live [.v (.string ⟨#[116]⟩), .sl 2 0 2 0 true, .v (.int .i64 0)] 34 3, .live [.v (.string ⟨#[116, 46, 98]⟩), .v (.string ⟨#[116]⟩), .sl 3 0 1 0 true, .v (.bool true), .v (.bool true)] 30 5, .live [.v (.string ⟨#[97]⟩), .v (.string ⟨#[73, 78, 84, 69, 71, 69, 82]⟩), .v (.int .i64 0), .v (.bool true), .v (.bool false), .v (.bool false), .v (.slice none 0 0), .v (.slice none 0 0), .v (.string ⟨#[98]⟩), .v (.string ⟨#[84, 69, 88, 84]⟩), .v (.int .i64 0), .v (.bool false), .v (.bool true), .v (.bool false), .v (.slice none 0 0), .v (.slice none 0 0)] 44 8, .live [.v (.int .i64 1), .v (.int .i64 0), .v (.bool false)] 62 3], (.tu [.ag [.v (.slice none 0 0), .v (.slice none 0 0), .v (.slice none 0 0)], .v (.int .i64 2)]), [.live [.v (.string ⟨#[116]⟩), .sl 2 0 2 0 true, .v (.int .i64 0)] 34 3, .live [.v (.string ⟨#[116, 46, 98]⟩), .v (.string ⟨#[116]⟩), .sl 3 0 1 0 true, .v (.bool true), .v (.bool true)] 30 5, .live [.v (.string ⟨#[97]⟩), .v (.string ⟨#[73, 78, 84, 69, 71, 69, 82]⟩), .v (.int .i64 0), .v (.bool true), .v (.bool false), .v (.bool false), .v (.slice none 0 0), .v (.slice none 0 0), .v (.string ⟨#[98]⟩), .v (.string ⟨#[84, 69, 88, 84]⟩), .v (.int .i64 0), .v (.bool false), .v (.bool true), .v (.bool false), .v (.slice none 0 0), .v (.slice none 0 0)] 44 8, .live [.v (.int .i64 1), .v (.int .i64 0), .v (.bool false)] 62 3]⟩
theorem all25 : ∀ m ∈ [mm0, mm1, mm2, mm3, mm4, mm5, mm6, mm7, mm8, mm9, mm10, mm11, mm12, mm13, mm14, mm15, mm16, mm17, mm18, mm19, mm20, mm21, mm22, mm23, mm24], MemoOk Tryz.prog Go.Am.Tables m := by
 intro m hm
 simp only [List.mem_cons, List.not_mem_nil, or_false] at hm
 rcases hm with rfl | rfl | rfl | rfl | rfl | rfl | rfl | rfl | rfl | rfl | rfl | rfl | rfl | rfl | rfl | rfl | rfl | rfl | rfl | rfl | rfl | rfl | rfl | rfl | rfl
 ·exact ok0
 ·exact ok1
 ·exact ok2
 ·exact ok3
 ·exact ok4
 ·exact ok5
 ·exact ok6
 ·exact ok7
 ·exact ok8
 ·exact ok9
 ·exact ok10
 ·exact ok11
 ·exact ok12
 ·exact ok13
 ·exact ok14
 ·exact ok15
 ·exact ok16
 ·exact ok17
 ·exact ok18
 ·exact ok19
 ·exact ok20
 ·exact ok21
 ·exact ok22
 ·exact ok23
 ·exact ok24
theorem ok25 : MemoOk Tryz.prog Go.Am.Tables mm25 := memo_run (tab := [mm0, mm1, mm2, mm3, mm4, mm5, mm6, mm7, mm8, mm9, mm10, mm11, mm12, mm13, mm14, mm15, mm16, mm17, mm18, mm19, mm20, mm21, mm22, mm23, mm24]) nt_ok (all25) 300 30 (by kernel_rfl)
def mm26 : Memo := ⟨7, [], [], (.v (.bool true)), []⟩
theorem all26 : ∀ m ∈ [mm0, mm1, mm2, mm3, mm4, mm5, mm6, mm7, mm8, mm9, mm10, mm11, mm12, mm13, mm14, mm15, mm16, mm17, mm18, mm19, mm20, mm21, mm22, mm23, mm24, mm25], MemoOk Tryz.prog Go.Am.Tables m := by
 intro m hm
 simp only [List.mem_cons, List.not_mem_nil, or_false] at hm
 rcases hm with rfl | rfl | rfl | rfl | rfl | rfl | rfl | rfl | rfl | rfl | rfl | rfl | rfl | rfl | rfl | rfl | rfl | rfl | rfl | rfl | rfl | rfl | rfl | rfl | rfl | rfl
 ·exact ok0
 ·exact ok1
 ·exact ok2
 ·exact ok3
 ·exact ok4
 ·exact ok5
 ·exact ok6
 ·exact ok7
 ·exact ok8
 ·exact ok9
 ·exact ok10
 ·exact ok11
 ·exact ok12
 ·exact ok13
 ·exact ok14
 ·exact ok15
 ·exact ok16
 ·exact ok17
 ·exact ok18
 ·exact ok19
 ·exact ok20
 ·exact ok21
 ·exact ok22
 ·exact ok23
 ·exact ok24
 ·exact ok25
theorem ok26 : MemoOk Tryz.prog Go.Am.Tables mm26 := memo_run (tab := [mm0, mm1, mm2, mm3, mm4, mm5, mm6, mm7, mm8, mm9, mm10, mm11, mm12, mm13, mm14, mm15, mm16, mm17, mm18, mm19, mm20, mm21, mm22, mm23, mm24, mm25]) nt_ok (all26) 300 30 (by kernel_rfl)
theorem repL_base {G : Ghost} : ∀ {vs l : List Value}, RepL G (vs.map V.base) l → l = vs
 | [], l, h => h.nil_inv
 | v :: vs, l, h => by
  obtain ⟨v', l', rfl, h1, h2⟩ := RepL.uncons (by simpa using h)
  cases h1
  rw [repL_base h2]
/-- A call of the library on plain values, with a plain answer. -/
theorem gives_lib {f : FuncId} (vs : List Value) (r : Value) (hf : ∃ fn, Tryz.prog.funcs[f]? = some fn ∧ fn.body.isNone = false ∧ (fn.name == "runtime.NumGoroutine") = false) (h : ∀ w, Go.Am.Tables w → Calls Tryz.prog f vs.toArray w fun e w' => e = .returned r ∧ More w w') : Gives Tryz.prog f (vs.map V.base) (.base r) := by
 intro s
 refine ⟨hf, fun G w cargs hh hargs => ?_⟩
 obtain rfl : cargs = vs.toArray := by rw [← Array.toList_inj]; exact repL_base hargs
 refine (h w (hh.tab w hh.frz)).mono ?_
 rintro e w' ⟨rfl, hm⟩
 exact ⟨G, s, .base r, r, rfl, .base r, Ext.more hm, hh.more hm, rfl, rfl⟩
def n7 : Option Bool := some true
theorem N7 (r : Bool) (h : n7 = some r) : Gives Tryz.prog 7 [] (vbool r) := by
 cases h
 exact gives_lib [] (.bool true) ⟨_, Tryz.func7, rfl, by decide⟩ fun w hw => (memo_calls tab_more ok26  (vs := []) rfl rfl rfl w hw).2
end
end Go.Proofs.YtdomhnkffghmlaaGreatDoor.Ex
