/- What is asked of the program's types. -/
import Derived.Test.YtcckhbconihagaaGreatDoorSAmMore
import Derived.Test.YtcckhbconihagaaGreatDoorProg
import Derived.KernelRfl
namespace Go.Proofs.YtcckhbconihagaaGreatDoor
open Go.Am
theorem ty1 : tyOf Tryz.prog 1 = some { size := 1, bytes := 8, zero := [.nilFunc], agg := false, shape := .func } := by kernel_rfl
theorem ty3 : tyOf Tryz.prog 3 = some { size := 1, bytes := 8, zero := [.int .i64 0], agg := false, shape := (.int .i64) } := by kernel_rfl
theorem ty4 : tyOf Tryz.prog 4 = some { size := 1, bytes := 1, zero := [.bool false], agg := false, shape := .bool } := by kernel_rfl
theorem ty5 : tyOf Tryz.prog 5 = some { size := 1, bytes := 1, zero := [.int .u8 0], agg := false, shape := (.int .u8) } := by kernel_rfl
theorem ty9 : tyOf Tryz.prog 9 = some { size := 1, bytes := 16, zero := [.string ByteArray.empty], agg := false, shape := .string } := by kernel_rfl
theorem ty22 : tyOf Tryz.prog 22 = some { size := 1, bytes := 24, zero := [.slice none 0 0], agg := false, shape := (.slice 137) } := by kernel_rfl
theorem ty23 : tyOf Tryz.prog 23 = some { size := 1, bytes := 24, zero := [.slice none 0 0], agg := false, shape := (.slice 147) } := by kernel_rfl
theorem ty26 : tyOf Tryz.prog 26 = some { size := 3, bytes := 72, zero := [.slice none 0 0, .slice none 0 0, .slice none 0 0], agg := true, shape := (.struct [(0, 1, false), (1, 1, false), (2, 1, false)]) } := by kernel_rfl
theorem ty27 : tyOf Tryz.prog 27 = some { size := 1, bytes := 24, zero := [.slice none 0 0], agg := false, shape := (.slice 62) } := by kernel_rfl
theorem ty28 : tyOf Tryz.prog 28 = some { size := 1, bytes := 24, zero := [.slice none 0 0], agg := false, shape := (.slice 9) } := by kernel_rfl
theorem ty29 : tyOf Tryz.prog 29 = some { size := 1, bytes := 24, zero := [.slice none 0 0], agg := false, shape := (.slice 75) } := by kernel_rfl
theorem ty30 : tyOf Tryz.prog 30 = some { size := 1, bytes := 24, zero := [.slice none 0 0], agg := false, shape := (.slice 118) } := by kernel_rfl
theorem ty31 : tyOf Tryz.prog 31 = some { size := 1, bytes := 24, zero := [.slice none 0 0], agg := false, shape := (.slice 49) } := by kernel_rfl
theorem ty33 : tyOf Tryz.prog 33 = some { size := 5, bytes := 120, zero := [.slice none 0 0, .slice none 0 0, .slice none 0 0, .slice none 0 0, .slice none 0 0], agg := true, shape := (.struct [(0, 1, false), (1, 1, false), (2, 1, false), (3, 1, false), (4, 1, false)]) } := by kernel_rfl
theorem ty35 : tyOf Tryz.prog 35 = some { size := 6, bytes := 144, zero := [.slice none 0 0, .slice none 0 0, .slice none 0 0, .slice none 0 0, .slice none 0 0, .slice none 0 0], agg := true, shape := (.struct [(0, 1, false), (1, 5, true)]) } := by kernel_rfl
theorem ty37 : tyOf Tryz.prog 37 = some { size := 1, bytes := 8, zero := [.int .i64 0], agg := false, shape := (.int .i64) } := by kernel_rfl
theorem ty41 : tyOf Tryz.prog 41 = some { size := 1, bytes := 8, zero := [.int .i64 0], agg := false, shape := (.int .i64) } := by kernel_rfl
theorem ty44 : tyOf Tryz.prog 44 = some { size := 3, bytes := 32, zero := [.int .i64 0, .int .i64 0, .string ByteArray.empty], agg := true, shape := (.struct [(0, 1, false), (1, 1, false), (2, 1, false)]) } := by kernel_rfl
theorem ty45 : tyOf Tryz.prog 45 = some { size := 1, bytes := 8, zero := [.int .i64 0], agg := false, shape := (.int .i64) } := by kernel_rfl
theorem ty46 : tyOf Tryz.prog 46 = some { size := 1, bytes := 8, zero := [.int .i64 0], agg := false, shape := (.int .i64) } := by kernel_rfl
theorem ty47 : tyOf Tryz.prog 47 = some { size := 1, bytes := 24, zero := [.slice none 0 0], agg := false, shape := (.slice 33) } := by kernel_rfl
theorem ty49 : tyOf Tryz.prog 49 = some { size := 14, bytes := 160, zero := [.int .i64 0, .bool false, .int .i64 0, .int .i64 0, .int .i64 0, .string ByteArray.empty, .int .i64 0, .int .i64 0, .string ByteArray.empty, .int .i64 0, .int .i64 0, .int .i64 0, .slice none 0 0, .slice none 0 0], agg := true, shape := (.struct [(0, 1, false), (1, 1, false), (2, 1, false), (3, 1, false), (4, 1, false), (5, 1, false), (6, 3, true), (9, 1, false), (10, 1, false), (11, 1, false), (12, 1, false), (13, 1, false)]) } := by kernel_rfl
theorem ty50 : tyOf Tryz.prog 50 = some { size := 1, bytes := 24, zero := [.slice none 0 0], agg := false, shape := (.slice 3) } := by kernel_rfl
theorem ty62 : tyOf Tryz.prog 62 = some { size := 9, bytes := 192, zero := [.string ByteArray.empty, .slice none 0 0, .slice none 0 0, .slice none 0 0, .slice none 0 0, .slice none 0 0, .slice none 0 0, .slice none 0 0, .bool false], agg := true, shape := (.struct [(0, 1, false), (1, 1, false), (2, 5, true), (7, 1, false), (8, 1, false)]) } := by kernel_rfl
theorem ty63 : tyOf Tryz.prog 63 = some { size := 1, bytes := 8, zero := [.int .i64 0], agg := false, shape := (.int .i64) } := by kernel_rfl
theorem ty64 : tyOf Tryz.prog 64 = some { size := 1, bytes := 24, zero := [.slice none 0 0], agg := false, shape := (.slice 132) } := by kernel_rfl
theorem ty66 : tyOf Tryz.prog 66 = some { size := 5, bytes := 96, zero := [.int .i64 0, .string ByteArray.empty, .slice none 0 0, .slice none 0 0, .slice none 0 0], agg := true, shape := (.struct [(0, 1, false), (1, 1, false), (2, 1, false), (3, 1, false), (4, 1, false)]) } := by kernel_rfl
theorem ty68 : tyOf Tryz.prog 68 = some { size := 7, bytes := 128, zero := [.int .i64 0, .int .i64 0, .string ByteArray.empty, .slice none 0 0, .slice none 0 0, .slice none 0 0, .slice none 0 0], agg := true, shape := (.struct [(0, 1, false), (1, 5, true), (6, 1, false)]) } := by kernel_rfl
theorem ty69 : tyOf Tryz.prog 69 = some { size := 1, bytes := 24, zero := [.slice none 0 0], agg := false, shape := (.slice 68) } := by kernel_rfl
theorem ty70 : tyOf Tryz.prog 70 = some { size := 1, bytes := 8, zero := [.int .i64 0], agg := false, shape := (.int .i64) } := by kernel_rfl
theorem ty71 : tyOf Tryz.prog 71 = some { size := 1, bytes := 24, zero := [.slice none 0 0], agg := false, shape := (.slice 31) } := by kernel_rfl
theorem ty72 : tyOf Tryz.prog 72 = some { size := 1, bytes := 24, zero := [.slice none 0 0], agg := false, shape := (.slice 107) } := by kernel_rfl
theorem ty73 : tyOf Tryz.prog 73 = some { size := 1, bytes := 24, zero := [.slice none 0 0], agg := false, shape := (.slice 130) } := by kernel_rfl
theorem ty75 : tyOf Tryz.prog 75 = some { size := 13, bytes := 240, zero := [.int .i64 0, .bool false, .bool false, .slice none 0 0, .slice none 0 0, .slice none 0 0, .bool false, .slice none 0 0, .slice none 0 0, .slice none 0 0, .slice none 0 0, .slice none 0 0, .slice none 0 0], agg := true, shape := (.struct [(0, 1, false), (1, 1, false), (2, 1, false), (3, 1, false), (4, 1, false), (5, 1, false), (6, 1, false), (7, 1, false), (8, 1, false), (9, 1, false), (10, 1, false), (11, 1, false), (12, 1, false)]) } := by kernel_rfl
theorem ty77 : tyOf Tryz.prog 77 = some { size := 16, bytes := 312, zero := [.slice none 0 0, .slice none 0 0, .slice none 0 0, .int .i64 0, .bool false, .bool false, .slice none 0 0, .slice none 0 0, .slice none 0 0, .bool false, .slice none 0 0, .slice none 0 0, .slice none 0 0, .slice none 0 0, .slice none 0 0, .slice none 0 0], agg := true, shape := (.struct [(0, 3, true), (3, 13, true)]) } := by kernel_rfl
theorem ty78 : tyOf Tryz.prog 78 = some { size := 1, bytes := 8, zero := [.nilFunc], agg := false, shape := .func } := by kernel_rfl
theorem ty79 : tyOf Tryz.prog 79 = some { size := 1, bytes := 8, zero := [.nilFunc], agg := false, shape := .func } := by kernel_rfl
theorem ty81 : tyOf Tryz.prog 81 = some { size := 2, bytes := 16, zero := [.nilFunc, .nilFunc], agg := true, shape := (.struct [(0, 1, false), (1, 1, false)]) } := by kernel_rfl
theorem ty93 : tyOf Tryz.prog 93 = some { size := 1, bytes := 24, zero := [.slice none 0 0], agg := false, shape := (.slice 95) } := by kernel_rfl
theorem ty95 : tyOf Tryz.prog 95 = some { size := 6, bytes := 104, zero := [.int .i64 0, .int .i64 0, .string ByteArray.empty, .slice none 0 0, .slice none 0 0, .slice none 0 0], agg := true, shape := (.struct [(0, 1, false), (1, 5, true)]) } := by kernel_rfl
theorem ty96 : tyOf Tryz.prog 96 = some { size := 1, bytes := 8, zero := [.int .u64 0], agg := false, shape := (.int .u64) } := by kernel_rfl
theorem ty97 : tyOf Tryz.prog 97 = some { size := 1, bytes := 8, zero := [.nilFunc], agg := false, shape := .func } := by kernel_rfl
theorem ty104 : tyOf Tryz.prog 104 = some { size := 1, bytes := 8, zero := [.int .i64 0], agg := false, shape := (.int .i64) } := by kernel_rfl
theorem ty105 : tyOf Tryz.prog 105 = some { size := 1, bytes := 8, zero := [.int .i64 0], agg := false, shape := (.int .i64) } := by kernel_rfl
theorem ty107 : tyOf Tryz.prog 107 = some { size := 7, bytes := 96, zero := [.int .i64 0, .int .i64 0, .string ByteArray.empty, .int .i64 0, .int .i64 0, .slice none 0 0, .slice none 0 0], agg := true, shape := (.struct [(0, 1, false), (1, 1, false), (2, 1, false), (3, 1, false), (4, 1, false), (5, 1, false), (6, 1, false)]) } := by kernel_rfl
theorem ty118 : tyOf Tryz.prog 118 = some { size := 3, bytes := 24, zero := [.int .i64 0, .int .i64 0, .bool false], agg := true, shape := (.struct [(0, 1, false), (1, 1, false), (2, 1, false)]) } := by kernel_rfl
theorem ty130 : tyOf Tryz.prog 130 = some { size := 5, bytes := 56, zero := [.string ByteArray.empty, .bool false, .bool false, .int .i64 0, .slice none 0 0], agg := true, shape := (.struct [(0, 1, false), (1, 1, false), (2, 1, false), (3, 1, false), (4, 1, false)]) } := by kernel_rfl
theorem ty132 : tyOf Tryz.prog 132 = some { size := 15, bytes := 168, zero := [.int .i64 0, .bool false, .int .i64 0, .int .i64 0, .int .i64 0, .string ByteArray.empty, .int .i64 0, .int .i64 0, .string ByteArray.empty, .int .i64 0, .int .i64 0, .int .i64 0, .slice none 0 0, .slice none 0 0, .bool false], agg := true, shape := (.struct [(0, 14, true), (14, 1, false)]) } := by kernel_rfl
theorem ty135 : tyOf Tryz.prog 135 = some { size := 1, bytes := 24, zero := [.slice none 0 0], agg := false, shape := (.slice 193) } := by kernel_rfl
theorem ty137 : tyOf Tryz.prog 137 = some { size := 3, bytes := 48, zero := [.string ByteArray.empty, .slice none 0 0, .int .i64 0], agg := true, shape := (.struct [(0, 1, false), (1, 1, false), (2, 1, false)]) } := by kernel_rfl
theorem ty140 : tyOf Tryz.prog 140 = some { size := 1, bytes := 24, zero := [.slice none 0 0], agg := false, shape := (.slice 41) } := by kernel_rfl
theorem ty142 : tyOf Tryz.prog 142 = some { size := 1, bytes := 8, zero := [.nilFunc], agg := false, shape := .func } := by kernel_rfl
theorem ty145 : tyOf Tryz.prog 145 = some { size := 1, bytes := 24, zero := [.slice none 0 0], agg := false, shape := (.slice 149) } := by kernel_rfl
theorem ty147 : tyOf Tryz.prog 147 = some { size := 5, bytes := 64, zero := [.string ByteArray.empty, .string ByteArray.empty, .slice none 0 0, .bool false, .bool false], agg := true, shape := (.struct [(0, 1, false), (1, 1, false), (2, 1, false), (3, 1, false), (4, 1, false)]) } := by kernel_rfl
theorem ty149 : tyOf Tryz.prog 149 = some { size := 3, bytes := 24, zero := [.int .i64 0, .int .i64 0, .bool false], agg := true, shape := (.struct [(0, 1, false), (1, 1, false), (2, 1, false)]) } := by kernel_rfl
theorem ty193 : tyOf Tryz.prog 193 = some { size := 8, bytes := 96, zero := [.string ByteArray.empty, .string ByteArray.empty, .int .i64 0, .bool false, .bool false, .bool false, .slice none 0 0, .slice none 0 0], agg := true, shape := (.struct [(0, 1, false), (1, 1, false), (2, 1, false), (3, 1, false), (4, 1, false), (5, 1, false), (6, 1, false), (7, 1, false)]) } := by kernel_rfl
theorem ty195 : tyOf Tryz.prog 195 = some { size := 1, bytes := 24, zero := [.slice none 0 0], agg := false, shape := (.slice 197) } := by kernel_rfl
theorem ty197 : tyOf Tryz.prog 197 = some { size := 17, bytes := 184, zero := [.int .i64 0, .int .i64 0, .int .i64 0, .int .i64 0, .bool false, .int .i64 0, .int .i64 0, .int .i64 0, .string ByteArray.empty, .int .i64 0, .int .i64 0, .string ByteArray.empty, .int .i64 0, .int .i64 0, .int .i64 0, .slice none 0 0, .slice none 0 0], agg := true, shape := (.struct [(0, 1, false), (1, 1, false), (2, 1, false), (3, 14, true)]) } := by kernel_rfl
theorem ty243 : tyOf Tryz.prog 243 = some { size := 1, bytes := 24, zero := [.slice none 0 0], agg := false, shape := (.slice 5) } := by kernel_rfl
end Go.Proofs.YtcckhbconihagaaGreatDoor
