/- Contracts of Go's library, laid by the kit's tool at this program. -/
import Derived.Shelf.Strings.Builder1
import Derived.Shelf.Strings.Builder2
import Derived.Shelf.Strings.OnBuilder
import Derived.Shelf.Strings.Trim
import Derived.Shelf.Small.Utf8
import Derived.Shelf.Small.Strs
import Derived.Shelf.Strings.BuilderF
import Derived.Shelf.Strings.BuilderK
import Derived.Shelf.Strings.BuilderRune
import Derived.Shelf.Strconv.Atoi
import Derived.Shelf.Strconv.Itoa0
import Derived.Shelf.Strconv.Itoa1
import Derived.Shelf.LaysM
import Derived.Shelf.Strconv.Itoa2
import Derived.Shelf.Strconv.Itoa3
import Derived.Shelf.Strconv.Itoa4
import Derived.Shelf.Strconv.AtoiErrFast
import Derived.Shelf.Strconv.ParseIntEmpty
import Derived.Shelf.Strconv.AtoiFail
import Derived.Shelf.Strconv.Clone
import Derived.Shelf.Strconv.SyntaxError
import Derived.Shelf.LaysC
import Derived.Shelf.Strconv.ToError
import Derived.Shelf.Strconv.Lower
import Derived.Shelf.Strconv.ParseUint10
import Derived.Shelf.Strconv.ParseUint10Empty
import Derived.Shelf.Strconv.ParseUint10Any
import Derived.Shelf.Strconv.ParseInt10
import Derived.Shelf.Strconv.AtoiLong
import Derived.Shelf.Strconv.AtoiInnerAll
import Derived.Shelf.Strconv.RangeError
import Derived.Shelf.Strconv.ToErrorRange
import Derived.Shelf.Strconv.AtoiAll
import Derived.Shelf.Strconv.ErrVarAll
import Derived.Shelf.Strings.Search1
import Derived.Shelf.Strings.Search2
import Derived.Shelf.Strings.Search3
import Derived.Shelf.Strings.Count
import Derived.Shelf.Strings.Shaped
import Derived.Shelf.Strings.Prefix
import Derived.Shelf.Unicode.Latin
import Derived.Shelf.Strings.Runes
import Derived.Shelf.Strings.AsciiSet
import Derived.Shelf.Unicode.DecodeSlow
import Derived.Shelf.Unicode.DecodeAny
import Derived.Shelf.Unicode.CaseLookup
import Derived.Shelf.Unicode.CaseConvert
import Derived.Shelf.Unicode.CaseTo
import Derived.Shelf.Unicode.CaseLaid
import Derived.Shelf.Strings.MapAny
import Derived.Shelf.Strings.CaseAny
import Derived.Test.YtdomhnkffghmlaaGreatDoorProg

namespace Go.Proofs
open Go.Shelf
def Tryz.lays158_ren : Go.Shelf.Ren := ⟨fun | 158 => 90 | 165 => 181 | 166 => 182 | 167 => 186 | 169 => 183 | 230 => 187 | 203 => 188 | 240 => 255 | 241 => 256 | 197 => 258 | 118 => 259 | 168 => 260 | 270 => 261 | 262 => 262 | 276 => 310 | 277 => 311 | 260 => 320 | 242 => 321 | 313 => 322 | 278 => 363 | 274 => 364 | 275 => 365 | n => n, fun | 9 => 9 | 4 => 4 | 3 => 3 | 5 => 5 | 72 => 262 | 0 => 0 | 76 => 265 | 75 => 264 | 107 => 271 | 70 => 260 | 20 => 20 | 37 => 64 | 127 => 334 | 21 => 21 | 105 => 299 | 164 => 378 | 162 => 390 | 203 => 388 | 119 => 421 | 46 => 360 | 139 => 424 | 138 => 423 | 51 => 425 | 160 => 426 | 208 => 455 | 206 => 453 | 80 => 233 | n => n, fun | 13 => 0 | 3 => 2 | 4 => 3 | n => n⟩
theorem Tryz.lays158 : Go.Proofs.Lays.n158 Tryz.prog Tryz.lays158_ren := {
 mixed := by kernel_rfl
 f118 := Tryz.func259.trans (congrArg some (by kernel_rfl))
 f158 := Tryz.func90.trans (congrArg some (by kernel_rfl))
 f165 := Tryz.func181.trans (congrArg some (by kernel_rfl))
 f166 := Tryz.func182.trans (congrArg some (by kernel_rfl))
 f167 := Tryz.func186.trans (congrArg some (by kernel_rfl))
 f168 := Tryz.func260.trans (congrArg some (by kernel_rfl))
 f169 := Tryz.func183.trans (congrArg some (by kernel_rfl))
 f197 := Tryz.func258.trans (congrArg some (by kernel_rfl))
 f203 := Tryz.func188.trans (congrArg some (by kernel_rfl))
 f230 := Tryz.func187.trans (congrArg some (by kernel_rfl))
 f240 := Tryz.func255.trans (congrArg some (by kernel_rfl))
 f241 := Tryz.func256.trans (congrArg some (by kernel_rfl))
 f242 := Tryz.func321.trans (congrArg some (by kernel_rfl))
 f260 := Tryz.func320.trans (congrArg some (by kernel_rfl))
 f262 := Tryz.func262.trans (congrArg some (by kernel_rfl))
 f270 := Tryz.func261.trans (congrArg some (by kernel_rfl))
 f274 := Tryz.func364.trans (congrArg some (by kernel_rfl))
 f275 := Tryz.func365.trans (congrArg some (by kernel_rfl))
 f276 := Tryz.func310.trans (congrArg some (by kernel_rfl))
 f277 := Tryz.func311.trans (congrArg some (by kernel_rfl))
 f278 := Tryz.func363.trans (congrArg some (by kernel_rfl))
 f313 := Tryz.func322.trans (congrArg some (by kernel_rfl))
 t0 := Tryz.underlying0
 a0 := Tryz.isAgg0
 z0 := Tryz.sizeOf0
 v0 := Tryz.zeroValue0
 t3 := Tryz.underlying3
 a3 := Tryz.isAgg3
 z3 := Tryz.sizeOf3
 v3 := Tryz.zeroValue3
 t4 := Tryz.underlying4
 a4 := Tryz.isAgg4
 z4 := Tryz.sizeOf4
 v4 := Tryz.zeroValue4
 t5 := Tryz.underlying5
 a5 := Tryz.isAgg5
 z5 := Tryz.sizeOf5
 v5 := Tryz.zeroValue5
 t9 := Tryz.underlying9
 a9 := Tryz.isAgg9
 z9 := Tryz.sizeOf9
 v9 := Tryz.zeroValue9
 t20 := Tryz.underlying20
 a20 := Tryz.isAgg20
 z20 := Tryz.sizeOf20
 v20 := Tryz.zeroValue20
 t21 := Tryz.underlying21
 a21 := Tryz.isAgg21
 z21 := Tryz.sizeOf21
 v21 := Tryz.zeroValue21
 t37 := Tryz.underlying64
 a37 := Tryz.isAgg64
 z37 := Tryz.sizeOf64
 v37 := Tryz.zeroValue64
 t46 := Tryz.underlying360
 a46 := Tryz.isAgg360
 z46 := Tryz.sizeOf360
 v46 := Tryz.zeroValue360
 t51 := Tryz.underlying425
 a51 := Tryz.isAgg425
 z51 := Tryz.sizeOf425
 v51 := Tryz.zeroValue425
 t70 := Tryz.underlying260
 a70 := Tryz.isAgg260
 z70 := Tryz.sizeOf260
 v70 := Tryz.zeroValue260
 t72 := Tryz.underlying262
 a72 := Tryz.isAgg262
 z72 := Tryz.sizeOf262
 v72 := Tryz.zeroValue262
 t75 := Tryz.underlying264
 a75 := Tryz.isAgg264
 z75 := Tryz.sizeOf264
 v75 := Tryz.zeroValue264
 t76 := Tryz.underlying265
 a76 := Tryz.isAgg265
 z76 := Tryz.sizeOf265
 v76 := Tryz.zeroValue265
 t105 := Tryz.underlying299
 a105 := Tryz.isAgg299
 z105 := Tryz.sizeOf299
 v105 := Tryz.zeroValue299
 t107 := Tryz.underlying271
 a107 := Tryz.isAgg271
 z107 := Tryz.sizeOf271
 v107 := Tryz.zeroValue271
 t119 := Tryz.underlying421
 a119 := Tryz.isAgg421
 z119 := Tryz.sizeOf421
 t127 := Tryz.underlying334
 a127 := Tryz.isAgg334
 z127 := Tryz.sizeOf334
 v127 := Tryz.zeroValue334
 t138 := Tryz.underlying423
 a138 := Tryz.isAgg423
 z138 := Tryz.sizeOf423
 v138 := Tryz.zeroValue423
 t139 := Tryz.underlying424
 a139 := Tryz.isAgg424
 z139 := Tryz.sizeOf424
 v139 := Tryz.zeroValue424
 t160 := Tryz.underlying426
 a160 := Tryz.isAgg426
 z160 := Tryz.sizeOf426
 v160 := Tryz.zeroValue426
 t162 := Tryz.underlying390
 a162 := Tryz.isAgg390
 z162 := Tryz.sizeOf390
 v162 := Tryz.zeroValue390
 t164 := Tryz.underlying378
 a164 := Tryz.isAgg378
 z164 := Tryz.sizeOf378
 v164 := Tryz.zeroValue378
 t203 := Tryz.underlying388
 a203 := Tryz.isAgg388
 z203 := Tryz.sizeOf388
 v203 := Tryz.zeroValue388
 t206 := Tryz.underlying453
 a206 := Tryz.isAgg453
 z206 := Tryz.sizeOf453
 v206 := Tryz.zeroValue453
 t208 := Tryz.underlying455
 a208 := Tryz.isAgg455
 z208 := Tryz.sizeOf455
 v208 := Tryz.zeroValue455
 g3 := by kernel_rfl
 g4 := by kernel_rfl
 g13 := by kernel_rfl }
theorem Tryz.Builder_Extra_158 : Builder.Extra Tryz.prog Tryz.lays158_ren := {
 sizeBuilder := by kernel_rfl
 liesBuilder := by kernel_rfl
 t5 := Tryz.underlying5
 a5 := Tryz.isAgg5
 z5 := Tryz.sizeOf5
 v5 := Tryz.zeroValue5
 infoByte := by kernel_rfl
 cellsByte := by kernel_rfl
 sizeByte := by kernel_rfl
 neB5 := by decide }
open Go.RowKit in
theorem Tryz.strings_ToUpper_ascii (s : ByteArray) (w : World) (hs : s.size ≤ 140737488355328) (hascii : ∀ (j : Nat) (b : UInt8), s.data.toList[j]? = some b → b.toNat < 128) :
  Calls Tryz.prog 90 #[.string s] w fun e w' => e = .returned (.string ⟨(Lib.toUpperA s.data.toList).toArray⟩) ∧ Below w.heap.size w w' := Any.strings_ToUpper_ascii Tryz.lays158 Tryz.Builder_Extra_158 s w hs hascii
def Tryz.lays156_ren : Go.Shelf.Ren := ⟨fun | 156 => 77 | 165 => 181 | 166 => 182 | 169 => 183 | 240 => 255 | 241 => 256 | 276 => 310 | 277 => 311 | n => n, fun | 31 => 54 | 9 => 9 | 3 => 3 | 4 => 4 | 0 => 0 | 20 => 20 | 72 => 262 | 76 => 265 | 70 => 260 | 37 => 64 | 75 => 264 | 127 => 334 | 164 => 378 | 5 => 5 | 80 => 233 | n => n, fun | n => n⟩
theorem Tryz.lays156 : Go.Proofs.Lays.n156 Tryz.prog Tryz.lays156_ren := {
 mixed := by kernel_rfl
 f156 := Tryz.func77.trans (congrArg some (by kernel_rfl))
 f165 := Tryz.func181.trans (congrArg some (by kernel_rfl))
 f166 := Tryz.func182.trans (congrArg some (by kernel_rfl))
 f169 := Tryz.func183.trans (congrArg some (by kernel_rfl))
 f240 := Tryz.func255.trans (congrArg some (by kernel_rfl))
 f241 := Tryz.func256.trans (congrArg some (by kernel_rfl))
 f276 := Tryz.func310.trans (congrArg some (by kernel_rfl))
 f277 := Tryz.func311.trans (congrArg some (by kernel_rfl))
 t0 := Tryz.underlying0
 a0 := Tryz.isAgg0
 z0 := Tryz.sizeOf0
 v0 := Tryz.zeroValue0
 t3 := Tryz.underlying3
 a3 := Tryz.isAgg3
 z3 := Tryz.sizeOf3
 v3 := Tryz.zeroValue3
 t4 := Tryz.underlying4
 a4 := Tryz.isAgg4
 z4 := Tryz.sizeOf4
 v4 := Tryz.zeroValue4
 t9 := Tryz.underlying9
 a9 := Tryz.isAgg9
 z9 := Tryz.sizeOf9
 v9 := Tryz.zeroValue9
 t20 := Tryz.underlying20
 a20 := Tryz.isAgg20
 z20 := Tryz.sizeOf20
 v20 := Tryz.zeroValue20
 t31 := Tryz.underlying54
 a31 := Tryz.isAgg54
 z31 := Tryz.sizeOf54
 v31 := Tryz.zeroValue54
 t37 := Tryz.underlying64
 a37 := Tryz.isAgg64
 z37 := Tryz.sizeOf64
 v37 := Tryz.zeroValue64
 t70 := Tryz.underlying260
 a70 := Tryz.isAgg260
 z70 := Tryz.sizeOf260
 v70 := Tryz.zeroValue260
 t72 := Tryz.underlying262
 a72 := Tryz.isAgg262
 z72 := Tryz.sizeOf262
 v72 := Tryz.zeroValue262
 t75 := Tryz.underlying264
 a75 := Tryz.isAgg264
 z75 := Tryz.sizeOf264
 v75 := Tryz.zeroValue264
 t76 := Tryz.underlying265
 a76 := Tryz.isAgg265
 z76 := Tryz.sizeOf265
 v76 := Tryz.zeroValue265
 t127 := Tryz.underlying334
 a127 := Tryz.isAgg334
 z127 := Tryz.sizeOf334
 v127 := Tryz.zeroValue334
 t164 := Tryz.underlying378
 a164 := Tryz.isAgg378
 z164 := Tryz.sizeOf378
 v164 := Tryz.zeroValue378 }
theorem Tryz.Builder_Extra_156 : Builder.Extra Tryz.prog Tryz.lays156_ren := {
 sizeBuilder := by kernel_rfl
 liesBuilder := by kernel_rfl
 t5 := Tryz.underlying5
 a5 := Tryz.isAgg5
 z5 := Tryz.sizeOf5
 v5 := Tryz.zeroValue5
 infoByte := by kernel_rfl
 cellsByte := by kernel_rfl
 sizeByte := by kernel_rfl
 neB5 := by decide }
open Go.RowKit in
theorem Tryz.strings_Join (bk o c : Nat) (xs : List ByteArray) (sep : ByteArray) (w : World) (hcells : ∀ (j : Nat) x, xs[j]? = some x → w.cell? ⟨bk, o + j, none⟩ = some (.string x)) (hbk : bk < w.heap.size) (hN : xs.length ≤ 140737488355328) (hcap : xs.length ≤ c) (hlen : (Lib.join (xs.map (·.data.toList)) sep.data.toList).length ≤ 140737488355328) :
  Calls Tryz.prog 77 #[.slice (some ⟨bk, o, none⟩) xs.length c, .string sep] w fun e w' => e = .returned (.string ⟨(Lib.join (xs.map (·.data.toList)) sep.data.toList).toArray⟩) ∧ Below w.heap.size w w' := Any.strings_Join Tryz.lays156 Tryz.Builder_Extra_156 bk o c xs sep w hcells hbk hN hcap hlen
def Tryz.lays137_ren : Go.Shelf.Ren := ⟨fun | 137 => 216 | 217 => 286 | 266 => 348 | n => n, fun | 9 => 9 | 5 => 5 | 3 => 3 | n => n, fun | n => n⟩
theorem Tryz.lays137 : Go.Proofs.Lays.n137 Tryz.prog Tryz.lays137_ren := {
 mixed := by kernel_rfl
 f137 := Tryz.func216.trans (congrArg some (by kernel_rfl))
 f217 := Tryz.func286.trans (congrArg some (by kernel_rfl))
 f266 := Tryz.func348.trans (congrArg some (by kernel_rfl))
 t3 := Tryz.underlying3
 a3 := Tryz.isAgg3
 z3 := Tryz.sizeOf3
 v3 := Tryz.zeroValue3
 t5 := Tryz.underlying5
 a5 := Tryz.isAgg5
 z5 := Tryz.sizeOf5
 v5 := Tryz.zeroValue5
 t9 := Tryz.underlying9
 a9 := Tryz.isAgg9
 z9 := Tryz.sizeOf9
 v9 := Tryz.zeroValue9 }
open Go.RowKit in
theorem Tryz.strings_IndexByte (s : ByteArray) (c : Int) (w : World) :
  Calls Tryz.prog 216 #[.string s, .int .u8 c] w fun e w' => e = .returned (.int .i64 (Lib.indexByte s.data.toList c.toNat.toUInt8)) ∧ w' = w := Any.strings_IndexByte Tryz.lays137 s c w
def Tryz.lays144_ren : Go.Shelf.Ren := ⟨fun | 144 => 153 | 143 => 233 | 219 => 293 | 217 => 286 | 225 => 347 | 224 => 346 | 267 => 351 | 266 => 348 | 314 => 384 | n => n, fun | 9 => 9 | 4 => 4 | 3 => 3 | 5 => 5 | 46 => 360 | 146 => 437 | 51 => 425 | n => n, fun | 1 => 1 | n => n⟩
theorem Tryz.lays144 : Go.Proofs.Lays.n144 Tryz.prog Tryz.lays144_ren := {
 mixed := by kernel_rfl
 f143 := Tryz.func233.trans (congrArg some (by kernel_rfl))
 f144 := Tryz.func153.trans (congrArg some (by kernel_rfl))
 f217 := Tryz.func286.trans (congrArg some (by kernel_rfl))
 f219 := Tryz.func293.trans (congrArg some (by kernel_rfl))
 f224 := Tryz.func346.trans (congrArg some (by kernel_rfl))
 f225 := Tryz.func347.trans (congrArg some (by kernel_rfl))
 f266 := Tryz.func348.trans (congrArg some (by kernel_rfl))
 f267 := Tryz.func351.trans (congrArg some (by kernel_rfl))
 f314 := Tryz.func384.trans (congrArg some (by kernel_rfl))
 t3 := Tryz.underlying3
 a3 := Tryz.isAgg3
 z3 := Tryz.sizeOf3
 v3 := Tryz.zeroValue3
 t4 := Tryz.underlying4
 a4 := Tryz.isAgg4
 z4 := Tryz.sizeOf4
 v4 := Tryz.zeroValue4
 t5 := Tryz.underlying5
 a5 := Tryz.isAgg5
 z5 := Tryz.sizeOf5
 v5 := Tryz.zeroValue5
 t9 := Tryz.underlying9
 a9 := Tryz.isAgg9
 z9 := Tryz.sizeOf9
 v9 := Tryz.zeroValue9
 t46 := Tryz.underlying360
 a46 := Tryz.isAgg360
 z46 := Tryz.sizeOf360
 v46 := Tryz.zeroValue360
 t51 := Tryz.underlying425
 a51 := Tryz.isAgg425
 z51 := Tryz.sizeOf425
 v51 := Tryz.zeroValue425
 t146 := Tryz.underlying437
 a146 := Tryz.isAgg437
 z146 := Tryz.sizeOf437
 v146 := Tryz.zeroValue437
 g1 := by kernel_rfl }
open Go.RowKit Go.Lib in
theorem Tryz.strings_Contains (s sub : ByteArray) (m : Int) (w : World) (hs : s.size < 4294967281) (hm : w.cell? ⟨1, 0, none⟩ = some (.int .i64 m)) :
  Calls Tryz.prog 153 #[.string s, .string sub] w fun e w' => e = .returned (.bool (Lib.contains s.data.toList sub.data.toList)) ∧ w' = w := Any.strings_Contains Tryz.lays144 s sub m w hs hm
def Tryz.lays99_ren : Go.Shelf.Ren := ⟨fun | 99 => 215 | 206 => 285 | n => n, fun | 9 => 9 | 4 => 4 | 3 => 3 | n => n, fun | n => n⟩
theorem Tryz.lays99 : Go.Proofs.Lays.n99 Tryz.prog Tryz.lays99_ren := {
 mixed := by kernel_rfl
 f99 := Tryz.func215.trans (congrArg some (by kernel_rfl))
 f206 := Tryz.func285.trans (congrArg some (by kernel_rfl))
 t3 := Tryz.underlying3
 a3 := Tryz.isAgg3
 z3 := Tryz.sizeOf3
 v3 := Tryz.zeroValue3
 t4 := Tryz.underlying4
 a4 := Tryz.isAgg4
 z4 := Tryz.sizeOf4
 v4 := Tryz.zeroValue4
 t9 := Tryz.underlying9
 a9 := Tryz.isAgg9
 z9 := Tryz.sizeOf9
 v9 := Tryz.zeroValue9 }
open Go.RowKit Go.Lib in
theorem Tryz.strings_HasPrefix (s p : ByteArray) (w : World) :
  Calls Tryz.prog 215 #[.string s, .string p] w fun e w' => e = .returned (.bool (Lib.hasPrefix s.data.toList p.data.toList)) ∧ w' = w := Any.strings_HasPrefix Tryz.lays99 s p w
end Go.Proofs
namespace Go.Proofs
open Go.Shelf
def Tryz.laysM144_ren : Go.Shelf.Ren := ⟨fun | 144 => 153 | 143 => 233 | 219 => 293 | 217 => 286 | 225 => 347 | 224 => 346 | 267 => 351 | 266 => 348 | 314 => 384 | n => n, fun | 9 => 9 | 4 => 4 | 3 => 3 | 5 => 5 | 46 => 360 | 146 => 437 | 51 => 425 | n => n, fun | 1 => 1 | n => n⟩
theorem Tryz.laysM144 : Go.Proofs.LaysM.n144 Tryz.prog Tryz.laysM144_ren := {
 mixed := by kernel_rfl
 f143 := Tryz.func233.trans (congrArg some (by kernel_rfl))
 f144 := Tryz.func153.trans (congrArg some (by kernel_rfl))
 f217 := Tryz.func286.trans (congrArg some (by kernel_rfl))
 f219 := Tryz.func293.trans (congrArg some (by kernel_rfl))
 f224 := Tryz.func346.trans (congrArg some (by kernel_rfl))
 f225 := Tryz.func347.trans (congrArg some (by kernel_rfl))
 f266 := Tryz.func348.trans (congrArg some (by kernel_rfl))
 f267 := Tryz.func351.trans (congrArg some (by kernel_rfl))
 f314 := Tryz.func384.trans (congrArg some (by kernel_rfl))
 t3 := Tryz.underlying3
 a3 := Tryz.isAgg3
 z3 := Tryz.sizeOf3
 v3 := Tryz.zeroValue3
 t4 := Tryz.underlying4
 a4 := Tryz.isAgg4
 z4 := Tryz.sizeOf4
 v4 := Tryz.zeroValue4
 t5 := Tryz.underlying5
 a5 := Tryz.isAgg5
 z5 := Tryz.sizeOf5
 v5 := Tryz.zeroValue5
 t9 := Tryz.underlying9
 a9 := Tryz.isAgg9
 z9 := Tryz.sizeOf9
 v9 := Tryz.zeroValue9
 t46 := Tryz.underlying360
 a46 := Tryz.isAgg360
 z46 := Tryz.sizeOf360
 v46 := Tryz.zeroValue360
 t51 := Tryz.underlying425
 a51 := Tryz.isAgg425
 z51 := Tryz.sizeOf425
 v51 := Tryz.zeroValue425
 t146 := Tryz.underlying437
 a146 := Tryz.isAgg437
 z146 := Tryz.sizeOf437
 v146 := Tryz.zeroValue437
 g1 := by kernel_rfl
 i3 := by kernel_rfl
 i4 := by kernel_rfl
 i5 := by kernel_rfl
 i9 := by kernel_rfl
 i46 := by kernel_rfl
 i51 := by kernel_rfl
 i146 := by kernel_rfl
 m1 := by kernel_rfl
 s1_3 := fun w h => Go.Proofs.cell_of_shapedOpen_int (zero := #[.int .i64 0]) (t := 3) h (of_decide_eq_true (by kernel_rfl)) (by kernel_rfl) rfl (by kernel_rfl) (by kernel_rfl) Tryz.underlying3 }
open Go.RowKit Go.Lib in
theorem Tryz.strings_Contains_shaped (s sub : ByteArray) (w : World) (h : w.ShapedOpen Tryz.prog) (hs : s.size < 4294967281) :
  Calls Tryz.prog 153 #[.string s, .string sub] w fun e w' => e = .returned (.bool (Lib.contains s.data.toList sub.data.toList)) ∧ w' = w := Any.strings_Contains_shaped Tryz.laysM144 s sub w h hs
end Go.Proofs
