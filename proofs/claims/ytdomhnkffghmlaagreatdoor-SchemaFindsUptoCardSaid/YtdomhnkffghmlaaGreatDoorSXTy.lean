/- What is asked of the program's types. -/
import Derived.Test.YtdomhnkffghmlaaGreatDoorSAmSpec
import Derived.Test.YtdomhnkffghmlaaGreatDoorProg
import Derived.KernelRfl

namespace Go.Proofs.YtdomhnkffghmlaaGreatDoor
open Go.Am
theorem ty1 : tyOf Tryz.prog 1 = some { size := 1, bytes := 8, zero := [.nilFunc], agg := false, shape := .func } := by kernel_rfl
theorem ty2 : tyOf Tryz.prog 2 = some { size := 1, bytes := 8, zero := [.int .i64 0], agg := false, shape := (.int .i64) } := by kernel_rfl
theorem ty3 : tyOf Tryz.prog 3 = some { size := 1, bytes := 8, zero := [.int .i64 0], agg := false, shape := (.int .i64) } := by kernel_rfl
theorem ty4 : tyOf Tryz.prog 4 = some { size := 1, bytes := 1, zero := [.bool false], agg := false, shape := .bool } := by kernel_rfl
theorem ty5 : tyOf Tryz.prog 5 = some { size := 1, bytes := 1, zero := [.int .u8 0], agg := false, shape := (.int .u8) } := by kernel_rfl
theorem ty6 : tyOf Tryz.prog 6 = some { size := 1, bytes := 1, zero := [.int .u8 0], agg := false, shape := (.int .u8) } := by kernel_rfl
theorem ty7 : tyOf Tryz.prog 7 = some { size := 4, bytes := 24, zero := [.int .i64 0, .int .i64 0, .bool false, .int .u8 0], agg := true, shape := (.struct [(0, 1, false), (1, 1, false), (2, 1, false), (3, 1, false)]) } := by kernel_rfl
theorem ty8 : tyOf Tryz.prog 8 = some { size := 4, bytes := 24, zero := [.int .i64 0, .int .i64 0, .bool false, .int .u8 0], agg := true, shape := (.struct [(0, 1, false), (1, 1, false), (2, 1, false), (3, 1, false)]) } := by kernel_rfl
theorem ty9 : tyOf Tryz.prog 9 = some { size := 1, bytes := 16, zero := [.string ByteArray.empty], agg := false, shape := .string } := by kernel_rfl
theorem ty10 : tyOf Tryz.prog 10 = some { size := 1, bytes := 16, zero := [.string ByteArray.empty], agg := false, shape := .string } := by kernel_rfl
theorem ty11 : tyOf Tryz.prog 11 = some { size := 1, bytes := 16, zero := [.string ByteArray.empty], agg := false, shape := .string } := by kernel_rfl
theorem ty12 : tyOf Tryz.prog 12 = some { size := 1, bytes := 8, zero := [.int .u64 0], agg := false, shape := (.int .u64) } := by kernel_rfl
theorem ty13 : tyOf Tryz.prog 13 = some { size := 2, bytes := 24, zero := [.string ByteArray.empty, .int .u64 0], agg := true, shape := (.struct [(0, 1, false), (1, 1, false)]) } := by kernel_rfl
theorem ty14 : tyOf Tryz.prog 14 = some { size := 2, bytes := 24, zero := [.string ByteArray.empty, .int .u64 0], agg := true, shape := (.struct [(0, 1, false), (1, 1, false)]) } := by kernel_rfl
theorem ty15 : tyOf Tryz.prog 15 = some { size := 1, bytes := 8, zero := [.pointer none], agg := false, shape := .other } := by kernel_rfl
theorem ty16 : tyOf Tryz.prog 16 = some { size := 1, bytes := 8, zero := [.pointer none], agg := false, shape := .other } := by kernel_rfl
theorem ty17 : tyOf Tryz.prog 17 = some { size := 1, bytes := 8, zero := [.pointer none], agg := false, shape := .other } := by kernel_rfl
theorem ty18 : tyOf Tryz.prog 18 = some { size := 1, bytes := 8, zero := [.pointer none], agg := true, shape := (.struct [(0, 1, false)]) } := by kernel_rfl
theorem ty19 : tyOf Tryz.prog 19 = some { size := 1, bytes := 8, zero := [.pointer none], agg := true, shape := (.struct [(0, 1, false)]) } := by kernel_rfl
theorem ty20 : tyOf Tryz.prog 20 = some { size := 1, bytes := 16, zero := [.nilIface], agg := false, shape := .other } := by kernel_rfl
theorem ty21 : tyOf Tryz.prog 21 = some { size := 1, bytes := 4, zero := [.int .i32 0], agg := false, shape := (.int .i32) } := by kernel_rfl
theorem ty22 : tyOf Tryz.prog 22 = some { size := 1, bytes := 24, zero := [.slice none 0 0], agg := false, shape := (.slice 34) } := by kernel_rfl
theorem ty23 : tyOf Tryz.prog 23 = some { size := 1, bytes := 24, zero := [.slice none 0 0], agg := false, shape := (.slice 30) } := by kernel_rfl
theorem ty24 : tyOf Tryz.prog 24 = some { size := 1, bytes := 24, zero := [.slice none 0 0], agg := false, shape := (.slice 128) } := by kernel_rfl
theorem ty25 : tyOf Tryz.prog 25 = some { size := 3, bytes := 72, zero := [.slice none 0 0, .slice none 0 0, .slice none 0 0], agg := true, shape := (.struct [(0, 1, false), (1, 1, false), (2, 1, false)]) } := by kernel_rfl
theorem ty26 : tyOf Tryz.prog 26 = some { size := 3, bytes := 72, zero := [.slice none 0 0, .slice none 0 0, .slice none 0 0], agg := true, shape := (.struct [(0, 1, false), (1, 1, false), (2, 1, false)]) } := by kernel_rfl
theorem ty27 : tyOf Tryz.prog 27 = some { size := 1, bytes := 8, zero := [.nilFunc], agg := false, shape := .func } := by kernel_rfl
theorem ty28 : tyOf Tryz.prog 28 = some { size := 1, bytes := 24, zero := [.slice none 0 0], agg := false, shape := (.slice 62) } := by kernel_rfl
theorem ty29 : tyOf Tryz.prog 29 = some { size := 5, bytes := 64, zero := [.string ByteArray.empty, .string ByteArray.empty, .slice none 0 0, .bool false, .bool false], agg := true, shape := (.struct [(0, 1, false), (1, 1, false), (2, 1, false), (3, 1, false), (4, 1, false)]) } := by kernel_rfl
theorem ty30 : tyOf Tryz.prog 30 = some { size := 5, bytes := 64, zero := [.string ByteArray.empty, .string ByteArray.empty, .slice none 0 0, .bool false, .bool false], agg := true, shape := (.struct [(0, 1, false), (1, 1, false), (2, 1, false), (3, 1, false), (4, 1, false)]) } := by kernel_rfl
theorem ty31 : tyOf Tryz.prog 31 = some { size := 1, bytes := 8, zero := [.nilFunc], agg := false, shape := .func } := by kernel_rfl
theorem ty32 : tyOf Tryz.prog 32 = some { size := 1, bytes := 24, zero := [.slice none 0 0], agg := false, shape := (.slice 44) } := by kernel_rfl
theorem ty33 : tyOf Tryz.prog 33 = some { size := 3, bytes := 48, zero := [.string ByteArray.empty, .slice none 0 0, .int .i64 0], agg := true, shape := (.struct [(0, 1, false), (1, 1, false), (2, 1, false)]) } := by kernel_rfl
theorem ty34 : tyOf Tryz.prog 34 = some { size := 3, bytes := 48, zero := [.string ByteArray.empty, .slice none 0 0, .int .i64 0], agg := true, shape := (.struct [(0, 1, false), (1, 1, false), (2, 1, false)]) } := by kernel_rfl
theorem ty35 : tyOf Tryz.prog 35 = some { size := 1, bytes := 8, zero := [.nilFunc], agg := false, shape := .func } := by kernel_rfl
theorem ty36 : tyOf Tryz.prog 36 = some { size := 1, bytes := 8, zero := [.nilFunc], agg := false, shape := .func } := by kernel_rfl
theorem ty37 : tyOf Tryz.prog 37 = some { size := 1, bytes := 8, zero := [.nilFunc], agg := false, shape := .func } := by kernel_rfl
theorem ty38 : tyOf Tryz.prog 38 = some { size := 1, bytes := 8, zero := [.nilFunc], agg := false, shape := .func } := by kernel_rfl
theorem ty39 : tyOf Tryz.prog 39 = some { size := 1, bytes := 8, zero := [.nilFunc], agg := false, shape := .func } := by kernel_rfl
theorem ty40 : tyOf Tryz.prog 40 = some { size := 1, bytes := 8, zero := [.int .i64 0], agg := false, shape := (.int .i64) } := by kernel_rfl
theorem ty41 : tyOf Tryz.prog 41 = some { size := 1, bytes := 8, zero := [.nilFunc], agg := false, shape := .func } := by kernel_rfl
theorem ty42 : tyOf Tryz.prog 42 = some { size := 1, bytes := 24, zero := [.slice none 0 0], agg := false, shape := (.slice 156) } := by kernel_rfl
theorem ty43 : tyOf Tryz.prog 43 = some { size := 8, bytes := 96, zero := [.string ByteArray.empty, .string ByteArray.empty, .int .i64 0, .bool false, .bool false, .bool false, .slice none 0 0, .slice none 0 0], agg := true, shape := (.struct [(0, 1, false), (1, 1, false), (2, 1, false), (3, 1, false), (4, 1, false), (5, 1, false), (6, 1, false), (7, 1, false)]) } := by kernel_rfl
theorem ty44 : tyOf Tryz.prog 44 = some { size := 8, bytes := 96, zero := [.string ByteArray.empty, .string ByteArray.empty, .int .i64 0, .bool false, .bool false, .bool false, .slice none 0 0, .slice none 0 0], agg := true, shape := (.struct [(0, 1, false), (1, 1, false), (2, 1, false), (3, 1, false), (4, 1, false), (5, 1, false), (6, 1, false), (7, 1, false)]) } := by kernel_rfl
theorem ty45 : tyOf Tryz.prog 45 = some { size := 1, bytes := 8, zero := [.nilFunc], agg := false, shape := .func } := by kernel_rfl
theorem ty46 : tyOf Tryz.prog 46 = some { size := 1, bytes := 8, zero := [.int .i64 0], agg := false, shape := (.int .i64) } := by kernel_rfl
theorem ty48 : tyOf Tryz.prog 48 = some { size := 1, bytes := 8, zero := [.nilFunc], agg := false, shape := .func } := by kernel_rfl
theorem ty50 : tyOf Tryz.prog 50 = some { size := 1, bytes := 8, zero := [.nilFunc], agg := false, shape := .func } := by kernel_rfl
theorem ty51 : tyOf Tryz.prog 51 = some { size := 1, bytes := 8, zero := [.nilFunc], agg := false, shape := .func } := by kernel_rfl
theorem ty52 : tyOf Tryz.prog 52 = some { size := 1, bytes := 8, zero := [.int .i64 0], agg := false, shape := (.int .i64) } := by kernel_rfl
theorem ty53 : tyOf Tryz.prog 53 = some { size := 1, bytes := 8, zero := [.int .i64 0], agg := false, shape := (.int .i64) } := by kernel_rfl
theorem ty54 : tyOf Tryz.prog 54 = some { size := 1, bytes := 24, zero := [.slice none 0 0], agg := false, shape := (.slice 9) } := by kernel_rfl
theorem ty55 : tyOf Tryz.prog 55 = some { size := 1, bytes := 24, zero := [.slice none 0 0], agg := false, shape := (.slice 176) } := by kernel_rfl
theorem ty56 : tyOf Tryz.prog 56 = some { size := 1, bytes := 24, zero := [.slice none 0 0], agg := false, shape := (.slice 170) } := by kernel_rfl
theorem ty57 : tyOf Tryz.prog 57 = some { size := 1, bytes := 24, zero := [.slice none 0 0], agg := false, shape := (.slice 126) } := by kernel_rfl
theorem ty58 : tyOf Tryz.prog 58 = some { size := 14, bytes := 232, zero := [.int .i64 0, .string ByteArray.empty, .bool false, .bool false, .int .i64 0, .string ByteArray.empty, .string ByteArray.empty, .string ByteArray.empty, .slice none 0 0, .slice none 0 0, .slice none 0 0, .slice none 0 0, .slice none 0 0, .slice none 0 0], agg := true, shape := (.struct [(0, 1, false), (1, 1, false), (2, 1, false), (3, 1, false), (4, 1, false), (5, 1, false), (6, 1, false), (7, 1, false), (8, 1, false), (9, 1, false), (10, 1, false), (11, 1, false), (12, 1, false), (13, 1, false)]) } := by kernel_rfl
theorem ty59 : tyOf Tryz.prog 59 = some { size := 14, bytes := 232, zero := [.int .i64 0, .string ByteArray.empty, .bool false, .bool false, .int .i64 0, .string ByteArray.empty, .string ByteArray.empty, .string ByteArray.empty, .slice none 0 0, .slice none 0 0, .slice none 0 0, .slice none 0 0, .slice none 0 0, .slice none 0 0], agg := true, shape := (.struct [(0, 1, false), (1, 1, false), (2, 1, false), (3, 1, false), (4, 1, false), (5, 1, false), (6, 1, false), (7, 1, false), (8, 1, false), (9, 1, false), (10, 1, false), (11, 1, false), (12, 1, false), (13, 1, false)]) } := by kernel_rfl
theorem ty60 : tyOf Tryz.prog 60 = some { size := 1, bytes := 8, zero := [.nilFunc], agg := false, shape := .func } := by kernel_rfl
theorem ty61 : tyOf Tryz.prog 61 = some { size := 3, bytes := 24, zero := [.int .i64 0, .int .i64 0, .bool false], agg := true, shape := (.struct [(0, 1, false), (1, 1, false), (2, 1, false)]) } := by kernel_rfl
theorem ty62 : tyOf Tryz.prog 62 = some { size := 3, bytes := 24, zero := [.int .i64 0, .int .i64 0, .bool false], agg := true, shape := (.struct [(0, 1, false), (1, 1, false), (2, 1, false)]) } := by kernel_rfl
theorem ty63 : tyOf Tryz.prog 63 = some { size := 1, bytes := 8, zero := [.nilFunc], agg := false, shape := .func } := by kernel_rfl
theorem ty64 : tyOf Tryz.prog 64 = some { size := 1, bytes := 24, zero := [.slice none 0 0], agg := false, shape := (.slice 5) } := by kernel_rfl
theorem ty65 : tyOf Tryz.prog 65 = some { size := 1, bytes := 8, zero := [.nilFunc], agg := false, shape := .func } := by kernel_rfl
theorem ty67 : tyOf Tryz.prog 67 = some { size := 1, bytes := 8, zero := [.nilFunc], agg := false, shape := .func } := by kernel_rfl
theorem ty68 : tyOf Tryz.prog 68 = some { size := 1, bytes := 8, zero := [.nilFunc], agg := false, shape := .func } := by kernel_rfl
theorem ty69 : tyOf Tryz.prog 69 = some { size := 1, bytes := 8, zero := [.nilFunc], agg := false, shape := .func } := by kernel_rfl
theorem ty70 : tyOf Tryz.prog 70 = some { size := 1, bytes := 8, zero := [.nilFunc], agg := false, shape := .func } := by kernel_rfl
theorem ty71 : tyOf Tryz.prog 71 = some { size := 1, bytes := 8, zero := [.nilFunc], agg := false, shape := .func } := by kernel_rfl
theorem ty72 : tyOf Tryz.prog 72 = some { size := 1, bytes := 8, zero := [.nilFunc], agg := false, shape := .func } := by kernel_rfl
theorem ty73 : tyOf Tryz.prog 73 = some { size := 1, bytes := 8, zero := [.nilFunc], agg := false, shape := .func } := by kernel_rfl
theorem ty74 : tyOf Tryz.prog 74 = some { size := 1, bytes := 8, zero := [.nilFunc], agg := false, shape := .func } := by kernel_rfl
theorem ty75 : tyOf Tryz.prog 75 = some { size := 1, bytes := 8, zero := [.nilFunc], agg := false, shape := .func } := by kernel_rfl
theorem ty76 : tyOf Tryz.prog 76 = some { size := 1, bytes := 8, zero := [.nilFunc], agg := false, shape := .func } := by kernel_rfl
theorem ty77 : tyOf Tryz.prog 77 = some { size := 1, bytes := 24, zero := [.slice none 0 0], agg := false, shape := (.slice 85) } := by kernel_rfl
theorem ty79 : tyOf Tryz.prog 79 = some { size := 1, bytes := 8, zero := [.nilFunc], agg := false, shape := .func } := by kernel_rfl
theorem ty80 : tyOf Tryz.prog 80 = some { size := 2, bytes := 16, zero := [.int .i64 0, .int .i64 0], agg := true, shape := (.struct [(0, 1, false), (1, 1, false)]) } := by kernel_rfl
theorem ty81 : tyOf Tryz.prog 81 = some { size := 2, bytes := 16, zero := [.int .i64 0, .int .i64 0], agg := true, shape := (.struct [(0, 1, false), (1, 1, false)]) } := by kernel_rfl
theorem ty83 : tyOf Tryz.prog 83 = some { size := 1, bytes := 8, zero := [.int .i64 0], agg := false, shape := (.int .i64) } := by kernel_rfl
theorem ty84 : tyOf Tryz.prog 84 = some { size := 3, bytes := 32, zero := [.int .i64 0, .int .i64 0, .string ByteArray.empty], agg := true, shape := (.struct [(0, 1, false), (1, 1, false), (2, 1, false)]) } := by kernel_rfl
theorem ty85 : tyOf Tryz.prog 85 = some { size := 3, bytes := 32, zero := [.int .i64 0, .int .i64 0, .string ByteArray.empty], agg := true, shape := (.struct [(0, 1, false), (1, 1, false), (2, 1, false)]) } := by kernel_rfl
theorem ty86 : tyOf Tryz.prog 86 = some { size := 1, bytes := 8, zero := [.pointer none], agg := false, shape := .other } := by kernel_rfl
theorem ty87 : tyOf Tryz.prog 87 = some { size := 3, bytes := 40, zero := [.slice none 0 0, .int .i64 0, .int .i64 0], agg := true, shape := (.struct [(0, 1, false), (1, 1, false), (2, 1, false)]) } := by kernel_rfl
theorem ty88 : tyOf Tryz.prog 88 = some { size := 3, bytes := 40, zero := [.slice none 0 0, .int .i64 0, .int .i64 0], agg := true, shape := (.struct [(0, 1, false), (1, 1, false), (2, 1, false)]) } := by kernel_rfl
theorem ty89 : tyOf Tryz.prog 89 = some { size := 1, bytes := 8, zero := [.nilFunc], agg := false, shape := .func } := by kernel_rfl
theorem ty90 : tyOf Tryz.prog 90 = some { size := 1, bytes := 8, zero := [.nilFunc], agg := false, shape := .func } := by kernel_rfl
theorem ty91 : tyOf Tryz.prog 91 = some { size := 1, bytes := 8, zero := [.nilFunc], agg := false, shape := .func } := by kernel_rfl
theorem ty92 : tyOf Tryz.prog 92 = some { size := 1, bytes := 8, zero := [.nilFunc], agg := false, shape := .func } := by kernel_rfl
theorem ty93 : tyOf Tryz.prog 93 = some { size := 1, bytes := 8, zero := [.nilFunc], agg := false, shape := .func } := by kernel_rfl
theorem ty94 : tyOf Tryz.prog 94 = some { size := 1, bytes := 8, zero := [.int .i64 0], agg := true, shape := (.struct [(0, 1, false)]) } := by kernel_rfl
theorem ty95 : tyOf Tryz.prog 95 = some { size := 1, bytes := 8, zero := [.int .i64 0], agg := true, shape := (.struct [(0, 1, false)]) } := by kernel_rfl
theorem ty98 : tyOf Tryz.prog 98 = some { size := 1, bytes := 8, zero := [.nilFunc], agg := false, shape := .func } := by kernel_rfl
theorem ty99 : tyOf Tryz.prog 99 = some { size := 1, bytes := 8, zero := [.nilFunc], agg := false, shape := .func } := by kernel_rfl
theorem ty100 : tyOf Tryz.prog 100 = some { size := 1, bytes := 8, zero := [.pointer none], agg := false, shape := .other } := by kernel_rfl
theorem ty101 : tyOf Tryz.prog 101 = some { size := 1, bytes := 8, zero := [.nilFunc], agg := false, shape := .func } := by kernel_rfl
theorem ty102 : tyOf Tryz.prog 102 = some { size := 3, bytes := 72, zero := [.slice none 0 0, .slice none 0 0, .slice none 0 0], agg := true, shape := (.struct [(0, 3, true)]) } := by kernel_rfl
theorem ty103 : tyOf Tryz.prog 103 = some { size := 3, bytes := 72, zero := [.slice none 0 0, .slice none 0 0, .slice none 0 0], agg := true, shape := (.struct [(0, 3, true)]) } := by kernel_rfl
theorem ty105 : tyOf Tryz.prog 105 = some { size := 1, bytes := 8, zero := [.nilFunc], agg := false, shape := .func } := by kernel_rfl
theorem ty106 : tyOf Tryz.prog 106 = some { size := 1, bytes := 8, zero := [.nilFunc], agg := false, shape := .func } := by kernel_rfl
theorem ty107 : tyOf Tryz.prog 107 = some { size := 1, bytes := 8, zero := [.nilFunc], agg := false, shape := .func } := by kernel_rfl
theorem ty108 : tyOf Tryz.prog 108 = some { size := 1, bytes := 24, zero := [.slice none 0 0], agg := false, shape := (.slice 111) } := by kernel_rfl
theorem ty109 : tyOf Tryz.prog 109 = some { size := 1, bytes := 8, zero := [.nilFunc], agg := false, shape := .func } := by kernel_rfl
theorem ty110 : tyOf Tryz.prog 110 = some { size := 1, bytes := 16, zero := [.nilIface], agg := false, shape := .other } := by kernel_rfl
theorem ty111 : tyOf Tryz.prog 111 = some { size := 1, bytes := 16, zero := [.nilIface], agg := false, shape := .other } := by kernel_rfl
theorem ty112 : tyOf Tryz.prog 112 = some { size := 1, bytes := 8, zero := [.nilFunc], agg := false, shape := .func } := by kernel_rfl
theorem ty113 : tyOf Tryz.prog 113 = some { size := 1, bytes := 8, zero := [.nilFunc], agg := false, shape := .func } := by kernel_rfl
theorem ty114 : tyOf Tryz.prog 114 = some { size := 1, bytes := 8, zero := [.nilFunc], agg := false, shape := .func } := by kernel_rfl
theorem ty115 : tyOf Tryz.prog 115 = some { size := 3, bytes := 48, zero := [.string ByteArray.empty, .slice none 0 0, .int .i64 0], agg := true, shape := (.struct [(0, 3, true)]) } := by kernel_rfl
theorem ty116 : tyOf Tryz.prog 116 = some { size := 3, bytes := 48, zero := [.string ByteArray.empty, .slice none 0 0, .int .i64 0], agg := true, shape := (.struct [(0, 3, true)]) } := by kernel_rfl
theorem ty117 : tyOf Tryz.prog 117 = some { size := 1, bytes := 8, zero := [.nilFunc], agg := false, shape := .func } := by kernel_rfl
theorem ty118 : tyOf Tryz.prog 118 = some { size := 1, bytes := 8, zero := [.nilFunc], agg := false, shape := .func } := by kernel_rfl
theorem ty119 : tyOf Tryz.prog 119 = some { size := 1, bytes := 8, zero := [.nilFunc], agg := false, shape := .func } := by kernel_rfl
theorem ty120 : tyOf Tryz.prog 120 = some { size := 1, bytes := 8, zero := [.nilFunc], agg := false, shape := .func } := by kernel_rfl
theorem ty121 : tyOf Tryz.prog 121 = some { size := 1, bytes := 8, zero := [.nilFunc], agg := false, shape := .func } := by kernel_rfl
theorem ty122 : tyOf Tryz.prog 122 = some { size := 1, bytes := 24, zero := [.slice none 0 0], agg := false, shape := (.slice 284) } := by kernel_rfl
theorem ty123 : tyOf Tryz.prog 123 = some { size := 1, bytes := 24, zero := [.slice none 0 0], agg := false, shape := (.slice 292) } := by kernel_rfl
theorem ty124 : tyOf Tryz.prog 124 = some { size := 1, bytes := 24, zero := [.slice none 0 0], agg := false, shape := (.slice 296) } := by kernel_rfl
theorem ty125 : tyOf Tryz.prog 125 = some { size := 5, bytes := 120, zero := [.slice none 0 0, .slice none 0 0, .slice none 0 0, .slice none 0 0, .slice none 0 0], agg := true, shape := (.struct [(0, 1, false), (1, 1, false), (2, 1, false), (3, 1, false), (4, 1, false)]) } := by kernel_rfl
theorem ty126 : tyOf Tryz.prog 126 = some { size := 5, bytes := 120, zero := [.slice none 0 0, .slice none 0 0, .slice none 0 0, .slice none 0 0, .slice none 0 0], agg := true, shape := (.struct [(0, 1, false), (1, 1, false), (2, 1, false), (3, 1, false), (4, 1, false)]) } := by kernel_rfl
theorem ty127 : tyOf Tryz.prog 127 = some { size := 7, bytes := 160, zero := [.string ByteArray.empty, .slice none 0 0, .slice none 0 0, .slice none 0 0, .slice none 0 0, .slice none 0 0, .slice none 0 0], agg := true, shape := (.struct [(0, 1, false), (1, 1, false), (2, 5, true)]) } := by kernel_rfl
theorem ty128 : tyOf Tryz.prog 128 = some { size := 7, bytes := 160, zero := [.string ByteArray.empty, .slice none 0 0, .slice none 0 0, .slice none 0 0, .slice none 0 0, .slice none 0 0, .slice none 0 0], agg := true, shape := (.struct [(0, 1, false), (1, 1, false), (2, 5, true)]) } := by kernel_rfl
theorem ty129 : tyOf Tryz.prog 129 = some { size := 7, bytes := 160, zero := [.string ByteArray.empty, .slice none 0 0, .slice none 0 0, .slice none 0 0, .slice none 0 0, .slice none 0 0, .slice none 0 0], agg := true, shape := (.struct [(0, 7, true)]) } := by kernel_rfl
theorem ty130 : tyOf Tryz.prog 130 = some { size := 7, bytes := 160, zero := [.string ByteArray.empty, .slice none 0 0, .slice none 0 0, .slice none 0 0, .slice none 0 0, .slice none 0 0, .slice none 0 0], agg := true, shape := (.struct [(0, 7, true)]) } := by kernel_rfl
theorem ty131 : tyOf Tryz.prog 131 = some { size := 1, bytes := 8, zero := [.nilFunc], agg := false, shape := .func } := by kernel_rfl
theorem ty132 : tyOf Tryz.prog 132 = some { size := 1, bytes := 8, zero := [.nilFunc], agg := false, shape := .func } := by kernel_rfl
theorem ty133 : tyOf Tryz.prog 133 = some { size := 1, bytes := 8, zero := [.nilFunc], agg := false, shape := .func } := by kernel_rfl
theorem ty134 : tyOf Tryz.prog 134 = some { size := 1, bytes := 8, zero := [.nilFunc], agg := false, shape := .func } := by kernel_rfl
theorem ty135 : tyOf Tryz.prog 135 = some { size := 1, bytes := 8, zero := [.nilFunc], agg := false, shape := .func } := by kernel_rfl
theorem ty136 : tyOf Tryz.prog 136 = some { size := 1, bytes := 8, zero := [.nilFunc], agg := false, shape := .func } := by kernel_rfl
theorem ty137 : tyOf Tryz.prog 137 = some { size := 1, bytes := 8, zero := [.nilFunc], agg := false, shape := .func } := by kernel_rfl
theorem ty138 : tyOf Tryz.prog 138 = some { size := 1, bytes := 8, zero := [.nilFunc], agg := false, shape := .func } := by kernel_rfl
theorem ty139 : tyOf Tryz.prog 139 = some { size := 1, bytes := 8, zero := [.nilFunc], agg := false, shape := .func } := by kernel_rfl
theorem ty140 : tyOf Tryz.prog 140 = some { size := 1, bytes := 24, zero := [.slice none 0 0], agg := false, shape := (.slice 144) } := by kernel_rfl
theorem ty141 : tyOf Tryz.prog 141 = some { size := 1, bytes := 8, zero := [.nilFunc], agg := false, shape := .func } := by kernel_rfl
theorem ty142 : tyOf Tryz.prog 142 = some { size := 1, bytes := 8, zero := [.nilFunc], agg := false, shape := .func } := by kernel_rfl
theorem ty143 : tyOf Tryz.prog 143 = some { size := 2, bytes := 32, zero := [.slice none 0 0, .nilFunc], agg := true, shape := (.struct [(0, 1, false), (1, 1, false)]) } := by kernel_rfl
theorem ty144 : tyOf Tryz.prog 144 = some { size := 2, bytes := 32, zero := [.slice none 0 0, .nilFunc], agg := true, shape := (.struct [(0, 1, false), (1, 1, false)]) } := by kernel_rfl
theorem ty145 : tyOf Tryz.prog 145 = some { size := 1, bytes := 8, zero := [.nilFunc], agg := false, shape := .func } := by kernel_rfl
theorem ty147 : tyOf Tryz.prog 147 = some { size := 1, bytes := 8, zero := [.nilFunc], agg := false, shape := .func } := by kernel_rfl
theorem ty148 : tyOf Tryz.prog 148 = some { size := 1, bytes := 8, zero := [.nilFunc], agg := false, shape := .func } := by kernel_rfl
theorem ty149 : tyOf Tryz.prog 149 = some { size := 1, bytes := 8, zero := [.nilFunc], agg := false, shape := .func } := by kernel_rfl
theorem ty150 : tyOf Tryz.prog 150 = some { size := 1, bytes := 8, zero := [.nilFunc], agg := false, shape := .func } := by kernel_rfl
theorem ty151 : tyOf Tryz.prog 151 = some { size := 1, bytes := 8, zero := [.int .i64 0], agg := false, shape := (.int .i64) } := by kernel_rfl
theorem ty152 : tyOf Tryz.prog 152 = some { size := 1, bytes := 8, zero := [.int .i64 0], agg := false, shape := (.int .i64) } := by kernel_rfl
theorem ty153 : tyOf Tryz.prog 153 = some { size := 3, bytes := 32, zero := [.int .i64 0, .int .i64 0, .string ByteArray.empty], agg := true, shape := (.struct [(0, 1, false), (1, 1, false), (2, 1, false)]) } := by kernel_rfl
theorem ty154 : tyOf Tryz.prog 154 = some { size := 3, bytes := 32, zero := [.int .i64 0, .int .i64 0, .string ByteArray.empty], agg := true, shape := (.struct [(0, 1, false), (1, 1, false), (2, 1, false)]) } := by kernel_rfl
theorem ty155 : tyOf Tryz.prog 155 = some { size := 10, bytes := 136, zero := [.int .i64 0, .bool false, .string ByteArray.empty, .string ByteArray.empty, .int .i64 0, .int .i64 0, .int .i64 0, .string ByteArray.empty, .slice none 0 0, .slice none 0 0], agg := true, shape := (.struct [(0, 1, false), (1, 1, false), (2, 1, false), (3, 1, false), (4, 1, false), (5, 3, true), (8, 1, false), (9, 1, false)]) } := by kernel_rfl
theorem ty156 : tyOf Tryz.prog 156 = some { size := 10, bytes := 136, zero := [.int .i64 0, .bool false, .string ByteArray.empty, .string ByteArray.empty, .int .i64 0, .int .i64 0, .int .i64 0, .string ByteArray.empty, .slice none 0 0, .slice none 0 0], agg := true, shape := (.struct [(0, 1, false), (1, 1, false), (2, 1, false), (3, 1, false), (4, 1, false), (5, 3, true), (8, 1, false), (9, 1, false)]) } := by kernel_rfl
theorem ty157 : tyOf Tryz.prog 157 = some { size := 1, bytes := 8, zero := [.nilFunc], agg := false, shape := .func } := by kernel_rfl
theorem ty158 : tyOf Tryz.prog 158 = some { size := 1, bytes := 8, zero := [.nilFunc], agg := false, shape := .func } := by kernel_rfl
theorem ty159 : tyOf Tryz.prog 159 = some { size := 1, bytes := 8, zero := [.nilFunc], agg := false, shape := .func } := by kernel_rfl
theorem ty160 : tyOf Tryz.prog 160 = some { size := 1, bytes := 8, zero := [.nilFunc], agg := false, shape := .func } := by kernel_rfl
theorem ty161 : tyOf Tryz.prog 161 = some { size := 1, bytes := 8, zero := [.nilFunc], agg := false, shape := .func } := by kernel_rfl
theorem ty162 : tyOf Tryz.prog 162 = some { size := 1, bytes := 8, zero := [.nilFunc], agg := false, shape := .func } := by kernel_rfl
theorem ty163 : tyOf Tryz.prog 163 = some { size := 1, bytes := 8, zero := [.nilFunc], agg := false, shape := .func } := by kernel_rfl
theorem ty164 : tyOf Tryz.prog 164 = some { size := 1, bytes := 8, zero := [.nilFunc], agg := false, shape := .func } := by kernel_rfl
theorem ty165 : tyOf Tryz.prog 165 = some { size := 1, bytes := 8, zero := [.nilFunc], agg := false, shape := .func } := by kernel_rfl
theorem ty166 : tyOf Tryz.prog 166 = some { size := 1, bytes := 8, zero := [.nilFunc], agg := false, shape := .func } := by kernel_rfl
theorem ty167 : tyOf Tryz.prog 167 = some { size := 1, bytes := 8, zero := [.nilFunc], agg := false, shape := .func } := by kernel_rfl
theorem ty168 : tyOf Tryz.prog 168 = some { size := 1, bytes := 8, zero := [.nilFunc], agg := false, shape := .func } := by kernel_rfl
theorem ty169 : tyOf Tryz.prog 169 = some { size := 11, bytes := 152, zero := [.string ByteArray.empty, .int .i64 0, .bool false, .string ByteArray.empty, .string ByteArray.empty, .int .i64 0, .int .i64 0, .int .i64 0, .string ByteArray.empty, .slice none 0 0, .slice none 0 0], agg := true, shape := (.struct [(0, 1, false), (1, 10, true)]) } := by kernel_rfl
theorem ty170 : tyOf Tryz.prog 170 = some { size := 11, bytes := 152, zero := [.string ByteArray.empty, .int .i64 0, .bool false, .string ByteArray.empty, .string ByteArray.empty, .int .i64 0, .int .i64 0, .int .i64 0, .string ByteArray.empty, .slice none 0 0, .slice none 0 0], agg := true, shape := (.struct [(0, 1, false), (1, 10, true)]) } := by kernel_rfl
theorem ty171 : tyOf Tryz.prog 171 = some { size := 1, bytes := 8, zero := [.nilFunc], agg := false, shape := .func } := by kernel_rfl
theorem ty172 : tyOf Tryz.prog 172 = some { size := 1, bytes := 8, zero := [.nilFunc], agg := false, shape := .func } := by kernel_rfl
theorem ty173 : tyOf Tryz.prog 173 = some { size := 1, bytes := 8, zero := [.nilFunc], agg := false, shape := .func } := by kernel_rfl
theorem ty174 : tyOf Tryz.prog 174 = some { size := 1, bytes := 8, zero := [.nilFunc], agg := false, shape := .func } := by kernel_rfl
theorem ty175 : tyOf Tryz.prog 175 = some { size := 4, bytes := 32, zero := [.string ByteArray.empty, .int .i64 0, .bool false, .bool false], agg := true, shape := (.struct [(0, 1, false), (1, 1, false), (2, 1, false), (3, 1, false)]) } := by kernel_rfl
theorem ty176 : tyOf Tryz.prog 176 = some { size := 4, bytes := 32, zero := [.string ByteArray.empty, .int .i64 0, .bool false, .bool false], agg := true, shape := (.struct [(0, 1, false), (1, 1, false), (2, 1, false), (3, 1, false)]) } := by kernel_rfl
theorem ty177 : tyOf Tryz.prog 177 = some { size := 1, bytes := 8, zero := [.nilFunc], agg := false, shape := .func } := by kernel_rfl
theorem ty178 : tyOf Tryz.prog 178 = some { size := 1, bytes := 8, zero := [.nilFunc], agg := false, shape := .func } := by kernel_rfl
theorem ty179 : tyOf Tryz.prog 179 = some { size := 1, bytes := 8, zero := [.nilFunc], agg := false, shape := .func } := by kernel_rfl
theorem ty180 : tyOf Tryz.prog 180 = some { size := 1, bytes := 8, zero := [.nilFunc], agg := false, shape := .func } := by kernel_rfl
theorem ty181 : tyOf Tryz.prog 181 = some { size := 1, bytes := 8, zero := [.nilFunc], agg := false, shape := .func } := by kernel_rfl
theorem ty182 : tyOf Tryz.prog 182 = some { size := 1, bytes := 8, zero := [.nilFunc], agg := false, shape := .func } := by kernel_rfl
theorem ty183 : tyOf Tryz.prog 183 = some { size := 1, bytes := 8, zero := [.nilFunc], agg := false, shape := .func } := by kernel_rfl
theorem ty184 : tyOf Tryz.prog 184 = some { size := 1, bytes := 8, zero := [.pointer none], agg := false, shape := .other } := by kernel_rfl
theorem ty185 : tyOf Tryz.prog 185 = some { size := 1, bytes := 8, zero := [.nilFunc], agg := false, shape := .func } := by kernel_rfl
theorem ty186 : tyOf Tryz.prog 186 = some { size := 1, bytes := 8, zero := [.nilFunc], agg := false, shape := .func } := by kernel_rfl
theorem ty187 : tyOf Tryz.prog 187 = some { size := 1, bytes := 8, zero := [.nilFunc], agg := false, shape := .func } := by kernel_rfl
theorem ty188 : tyOf Tryz.prog 188 = some { size := 1, bytes := 8, zero := [.pointer none], agg := false, shape := .other } := by kernel_rfl
theorem ty189 : tyOf Tryz.prog 189 = some { size := 1, bytes := 8, zero := [.nilFunc], agg := false, shape := .func } := by kernel_rfl
theorem ty190 : tyOf Tryz.prog 190 = some { size := 1, bytes := 8, zero := [.nilFunc], agg := false, shape := .func } := by kernel_rfl
theorem ty192 : tyOf Tryz.prog 192 = some { size := 1, bytes := 8, zero := [.nilFunc], agg := false, shape := .func } := by kernel_rfl
theorem ty193 : tyOf Tryz.prog 193 = some { size := 1, bytes := 8, zero := [.nilFunc], agg := false, shape := .func } := by kernel_rfl
theorem ty194 : tyOf Tryz.prog 194 = some { size := 1, bytes := 8, zero := [.nilFunc], agg := false, shape := .func } := by kernel_rfl
theorem ty195 : tyOf Tryz.prog 195 = some { size := 1, bytes := 8, zero := [.nilFunc], agg := false, shape := .func } := by kernel_rfl
theorem ty196 : tyOf Tryz.prog 196 = some { size := 1, bytes := 8, zero := [.nilFunc], agg := false, shape := .func } := by kernel_rfl
theorem ty197 : tyOf Tryz.prog 197 = some { size := 1, bytes := 8, zero := [.nilFunc], agg := false, shape := .func } := by kernel_rfl
theorem ty198 : tyOf Tryz.prog 198 = some { size := 1, bytes := 8, zero := [.nilFunc], agg := false, shape := .func } := by kernel_rfl
theorem ty199 : tyOf Tryz.prog 199 = some { size := 1, bytes := 8, zero := [.nilFunc], agg := false, shape := .func } := by kernel_rfl
theorem ty200 : tyOf Tryz.prog 200 = some { size := 1, bytes := 8, zero := [.nilFunc], agg := false, shape := .func } := by kernel_rfl
theorem ty201 : tyOf Tryz.prog 201 = some { size := 1, bytes := 8, zero := [.nilFunc], agg := false, shape := .func } := by kernel_rfl
theorem ty202 : tyOf Tryz.prog 202 = some { size := 1, bytes := 8, zero := [.nilFunc], agg := false, shape := .func } := by kernel_rfl
theorem ty203 : tyOf Tryz.prog 203 = some { size := 1, bytes := 8, zero := [.nilFunc], agg := false, shape := .func } := by kernel_rfl
theorem ty204 : tyOf Tryz.prog 204 = some { size := 1, bytes := 8, zero := [.nilFunc], agg := false, shape := .func } := by kernel_rfl
theorem ty205 : tyOf Tryz.prog 205 = some { size := 1, bytes := 8, zero := [.nilFunc], agg := false, shape := .func } := by kernel_rfl
theorem ty206 : tyOf Tryz.prog 206 = some { size := 1, bytes := 8, zero := [.nilFunc], agg := false, shape := .func } := by kernel_rfl
theorem ty207 : tyOf Tryz.prog 207 = some { size := 1, bytes := 8, zero := [.nilFunc], agg := false, shape := .func } := by kernel_rfl
theorem ty208 : tyOf Tryz.prog 208 = some { size := 1, bytes := 8, zero := [.nilFunc], agg := false, shape := .func } := by kernel_rfl
theorem ty209 : tyOf Tryz.prog 209 = some { size := 1, bytes := 8, zero := [.nilFunc], agg := false, shape := .func } := by kernel_rfl
theorem ty210 : tyOf Tryz.prog 210 = some { size := 1, bytes := 8, zero := [.nilFunc], agg := false, shape := .func } := by kernel_rfl
theorem ty211 : tyOf Tryz.prog 211 = some { size := 1, bytes := 8, zero := [.nilFunc], agg := false, shape := .func } := by kernel_rfl
theorem ty213 : tyOf Tryz.prog 213 = some { size := 1, bytes := 8, zero := [.nilFunc], agg := false, shape := .func } := by kernel_rfl
theorem ty214 : tyOf Tryz.prog 214 = some { size := 8, bytes := 112, zero := [.string ByteArray.empty, .string ByteArray.empty, .slice none 0 0, .bool false, .bool false, .string ByteArray.empty, .slice none 0 0, .int .i64 0], agg := true, shape := (.struct [(0, 5, true), (5, 3, true)]) } := by kernel_rfl
theorem ty215 : tyOf Tryz.prog 215 = some { size := 8, bytes := 112, zero := [.string ByteArray.empty, .string ByteArray.empty, .slice none 0 0, .bool false, .bool false, .string ByteArray.empty, .slice none 0 0, .int .i64 0], agg := true, shape := (.struct [(0, 5, true), (5, 3, true)]) } := by kernel_rfl
theorem ty217 : tyOf Tryz.prog 217 = some { size := 1, bytes := 8, zero := [.nilFunc], agg := false, shape := .func } := by kernel_rfl
theorem ty218 : tyOf Tryz.prog 218 = some { size := 1, bytes := 8, zero := [.nilFunc], agg := false, shape := .func } := by kernel_rfl
theorem ty222 : tyOf Tryz.prog 222 = some { size := 1, bytes := 8, zero := [.nilFunc], agg := false, shape := .func } := by kernel_rfl
theorem ty223 : tyOf Tryz.prog 223 = some { size := 1, bytes := 8, zero := [.nilFunc], agg := false, shape := .func } := by kernel_rfl
theorem ty224 : tyOf Tryz.prog 224 = some { size := 1, bytes := 8, zero := [.pointer none], agg := false, shape := .other } := by kernel_rfl
theorem ty225 : tyOf Tryz.prog 225 = some { size := 1, bytes := 8, zero := [.nilFunc], agg := false, shape := .func } := by kernel_rfl
theorem ty226 : tyOf Tryz.prog 226 = some { size := 1, bytes := 8, zero := [.nilFunc], agg := false, shape := .func } := by kernel_rfl
theorem ty227 : tyOf Tryz.prog 227 = some { size := 1, bytes := 8, zero := [.nilFunc], agg := false, shape := .func } := by kernel_rfl
theorem ty228 : tyOf Tryz.prog 228 = some { size := 1, bytes := 8, zero := [.nilFunc], agg := false, shape := .func } := by kernel_rfl
theorem ty230 : tyOf Tryz.prog 230 = some { size := 1, bytes := 8, zero := [.nilFunc], agg := false, shape := .func } := by kernel_rfl
theorem ty231 : tyOf Tryz.prog 231 = some { size := 1, bytes := 8, zero := [.nilFunc], agg := false, shape := .func } := by kernel_rfl
theorem ty232 : tyOf Tryz.prog 232 = some { size := 1, bytes := 8, zero := [.nilFunc], agg := false, shape := .func } := by kernel_rfl
theorem ty233 : tyOf Tryz.prog 233 = some { size := 1, bytes := 8, zero := [.nilFunc], agg := false, shape := .func } := by kernel_rfl
theorem ty235 : tyOf Tryz.prog 235 = some { size := 1, bytes := 8, zero := [.nilFunc], agg := false, shape := .func } := by kernel_rfl
theorem ty236 : tyOf Tryz.prog 236 = some { size := 1, bytes := 8, zero := [.nilFunc], agg := false, shape := .func } := by kernel_rfl
theorem ty237 : tyOf Tryz.prog 237 = some { size := 1, bytes := 8, zero := [.nilFunc], agg := false, shape := .func } := by kernel_rfl
theorem ty238 : tyOf Tryz.prog 238 = some { size := 1, bytes := 8, zero := [.nilFunc], agg := false, shape := .func } := by kernel_rfl
theorem ty239 : tyOf Tryz.prog 239 = some { size := 1, bytes := 8, zero := [.nilFunc], agg := false, shape := .func } := by kernel_rfl
theorem ty240 : tyOf Tryz.prog 240 = some { size := 1, bytes := 8, zero := [.nilFunc], agg := false, shape := .func } := by kernel_rfl
theorem ty241 : tyOf Tryz.prog 241 = some { size := 1, bytes := 8, zero := [.nilFunc], agg := false, shape := .func } := by kernel_rfl
theorem ty243 : tyOf Tryz.prog 243 = some { size := 1, bytes := 8, zero := [.nilFunc], agg := false, shape := .func } := by kernel_rfl
theorem ty244 : tyOf Tryz.prog 244 = some { size := 1, bytes := 8, zero := [.nilFunc], agg := false, shape := .func } := by kernel_rfl
theorem ty245 : tyOf Tryz.prog 245 = some { size := 1, bytes := 8, zero := [.nilFunc], agg := false, shape := .func } := by kernel_rfl
theorem ty246 : tyOf Tryz.prog 246 = some { size := 1, bytes := 8, zero := [.nilFunc], agg := false, shape := .func } := by kernel_rfl
theorem ty247 : tyOf Tryz.prog 247 = some { size := 1, bytes := 8, zero := [.nilFunc], agg := false, shape := .func } := by kernel_rfl
theorem ty248 : tyOf Tryz.prog 248 = some { size := 1, bytes := 8, zero := [.nilFunc], agg := false, shape := .func } := by kernel_rfl
theorem ty249 : tyOf Tryz.prog 249 = some { size := 1, bytes := 8, zero := [.nilFunc], agg := false, shape := .func } := by kernel_rfl
theorem ty250 : tyOf Tryz.prog 250 = some { size := 1, bytes := 8, zero := [.nilFunc], agg := false, shape := .func } := by kernel_rfl
theorem ty251 : tyOf Tryz.prog 251 = some { size := 1, bytes := 8, zero := [.nilFunc], agg := false, shape := .func } := by kernel_rfl
theorem ty252 : tyOf Tryz.prog 252 = some { size := 1, bytes := 8, zero := [.nilFunc], agg := false, shape := .func } := by kernel_rfl
theorem ty253 : tyOf Tryz.prog 253 = some { size := 1, bytes := 8, zero := [.nilFunc], agg := false, shape := .func } := by kernel_rfl
theorem ty254 : tyOf Tryz.prog 254 = some { size := 1, bytes := 8, zero := [.nilFunc], agg := false, shape := .func } := by kernel_rfl
theorem ty255 : tyOf Tryz.prog 255 = some { size := 1, bytes := 8, zero := [.nilFunc], agg := false, shape := .func } := by kernel_rfl
theorem ty256 : tyOf Tryz.prog 256 = some { size := 1, bytes := 8, zero := [.nilFunc], agg := false, shape := .func } := by kernel_rfl
theorem ty257 : tyOf Tryz.prog 257 = some { size := 1, bytes := 8, zero := [.nilFunc], agg := false, shape := .func } := by kernel_rfl
theorem ty258 : tyOf Tryz.prog 258 = some { size := 1, bytes := 8, zero := [.pointer none], agg := false, shape := .other } := by kernel_rfl
theorem ty259 : tyOf Tryz.prog 259 = some { size := 1, bytes := 8, zero := [.nilFunc], agg := false, shape := .func } := by kernel_rfl
theorem ty260 : tyOf Tryz.prog 260 = some { size := 1, bytes := 8, zero := [.pointer none], agg := false, shape := .other } := by kernel_rfl
theorem ty261 : tyOf Tryz.prog 261 = some { size := 2, bytes := 32, zero := [.pointer none, .slice none 0 0], agg := true, shape := (.struct [(0, 1, false), (1, 1, false)]) } := by kernel_rfl
theorem ty262 : tyOf Tryz.prog 262 = some { size := 2, bytes := 32, zero := [.pointer none, .slice none 0 0], agg := true, shape := (.struct [(0, 1, false), (1, 1, false)]) } := by kernel_rfl
theorem ty263 : tyOf Tryz.prog 263 = some { size := 1, bytes := 16, zero := [.nilIface], agg := false, shape := .other } := by kernel_rfl
theorem ty264 : tyOf Tryz.prog 264 = some { size := 1, bytes := 16, zero := [.nilIface], agg := false, shape := .other } := by kernel_rfl
theorem ty266 : tyOf Tryz.prog 266 = some { size := 1, bytes := 8, zero := [.nilFunc], agg := false, shape := .func } := by kernel_rfl
theorem ty267 : tyOf Tryz.prog 267 = some { size := 1, bytes := 8, zero := [.nilFunc], agg := false, shape := .func } := by kernel_rfl
theorem ty268 : tyOf Tryz.prog 268 = some { size := 1, bytes := 8, zero := [.nilFunc], agg := false, shape := .func } := by kernel_rfl
theorem ty269 : tyOf Tryz.prog 269 = some { size := 1, bytes := 8, zero := [.nilFunc], agg := false, shape := .func } := by kernel_rfl
theorem ty270 : tyOf Tryz.prog 270 = some { size := 1, bytes := 8, zero := [.nilFunc], agg := false, shape := .func } := by kernel_rfl
theorem ty271 : tyOf Tryz.prog 271 = some { size := 1, bytes := 8, zero := [.nilFunc], agg := false, shape := .func } := by kernel_rfl
theorem ty272 : tyOf Tryz.prog 272 = some { size := 1, bytes := 8, zero := [.nilFunc], agg := false, shape := .func } := by kernel_rfl
theorem ty273 : tyOf Tryz.prog 273 = some { size := 1, bytes := 8, zero := [.nilFunc], agg := false, shape := .func } := by kernel_rfl
theorem ty274 : tyOf Tryz.prog 274 = some { size := 1, bytes := 8, zero := [.nilFunc], agg := false, shape := .func } := by kernel_rfl
theorem ty275 : tyOf Tryz.prog 275 = some { size := 1, bytes := 8, zero := [.nilFunc], agg := false, shape := .func } := by kernel_rfl
theorem ty276 : tyOf Tryz.prog 276 = some { size := 1, bytes := 8, zero := [.nilFunc], agg := false, shape := .func } := by kernel_rfl
theorem ty277 : tyOf Tryz.prog 277 = some { size := 1, bytes := 8, zero := [.pointer none], agg := false, shape := .other } := by kernel_rfl
theorem ty278 : tyOf Tryz.prog 278 = some { size := 1, bytes := 8, zero := [.nilFunc], agg := false, shape := .func } := by kernel_rfl
theorem ty279 : tyOf Tryz.prog 279 = some { size := 1, bytes := 8, zero := [.nilFunc], agg := false, shape := .func } := by kernel_rfl
theorem ty280 : tyOf Tryz.prog 280 = some { size := 1, bytes := 8, zero := [.nilFunc], agg := false, shape := .func } := by kernel_rfl
theorem ty281 : tyOf Tryz.prog 281 = some { size := 1, bytes := 8, zero := [.nilFunc], agg := false, shape := .func } := by kernel_rfl
theorem ty282 : tyOf Tryz.prog 282 = some { size := 1, bytes := 8, zero := [.nilFunc], agg := false, shape := .func } := by kernel_rfl
theorem ty283 : tyOf Tryz.prog 283 = some { size := 3, bytes := 64, zero := [.string ByteArray.empty, .slice none 0 0, .slice none 0 0], agg := true, shape := (.struct [(0, 1, false), (1, 1, false), (2, 1, false)]) } := by kernel_rfl
theorem ty284 : tyOf Tryz.prog 284 = some { size := 3, bytes := 64, zero := [.string ByteArray.empty, .slice none 0 0, .slice none 0 0], agg := true, shape := (.struct [(0, 1, false), (1, 1, false), (2, 1, false)]) } := by kernel_rfl
theorem ty285 : tyOf Tryz.prog 285 = some { size := 1, bytes := 8, zero := [.nilFunc], agg := false, shape := .func } := by kernel_rfl
theorem ty286 : tyOf Tryz.prog 286 = some { size := 1, bytes := 8, zero := [.nilFunc], agg := false, shape := .func } := by kernel_rfl
theorem ty287 : tyOf Tryz.prog 287 = some { size := 1, bytes := 8, zero := [.int .i64 0], agg := false, shape := (.int .i64) } := by kernel_rfl
theorem ty288 : tyOf Tryz.prog 288 = some { size := 1, bytes := 24, zero := [.slice none 0 0], agg := false, shape := (.slice 320) } := by kernel_rfl
theorem ty289 : tyOf Tryz.prog 289 = some { size := 1, bytes := 24, zero := [.slice none 0 0], agg := false, shape := (.slice 323) } := by kernel_rfl
theorem ty290 : tyOf Tryz.prog 290 = some { size := 1, bytes := 24, zero := [.slice none 0 0], agg := false, shape := (.slice 42) } := by kernel_rfl
theorem ty291 : tyOf Tryz.prog 291 = some { size := 8, bytes := 160, zero := [.int .i64 0, .bool false, .slice none 0 0, .slice none 0 0, .slice none 0 0, .slice none 0 0, .slice none 0 0, .slice none 0 0], agg := true, shape := (.struct [(0, 1, false), (1, 1, false), (2, 1, false), (3, 1, false), (4, 1, false), (5, 1, false), (6, 1, false), (7, 1, false)]) } := by kernel_rfl
theorem ty292 : tyOf Tryz.prog 292 = some { size := 8, bytes := 160, zero := [.int .i64 0, .bool false, .slice none 0 0, .slice none 0 0, .slice none 0 0, .slice none 0 0, .slice none 0 0, .slice none 0 0], agg := true, shape := (.struct [(0, 1, false), (1, 1, false), (2, 1, false), (3, 1, false), (4, 1, false), (5, 1, false), (6, 1, false), (7, 1, false)]) } := by kernel_rfl
theorem ty293 : tyOf Tryz.prog 293 = some { size := 1, bytes := 8, zero := [.nilFunc], agg := false, shape := .func } := by kernel_rfl
theorem ty294 : tyOf Tryz.prog 294 = some { size := 1, bytes := 8, zero := [.nilFunc], agg := false, shape := .func } := by kernel_rfl
theorem ty295 : tyOf Tryz.prog 295 = some { size := 11, bytes := 144, zero := [.int .i64 0, .bool false, .string ByteArray.empty, .string ByteArray.empty, .int .i64 0, .int .i64 0, .int .i64 0, .string ByteArray.empty, .slice none 0 0, .slice none 0 0, .bool false], agg := true, shape := (.struct [(0, 10, true), (10, 1, false)]) } := by kernel_rfl
theorem ty296 : tyOf Tryz.prog 296 = some { size := 11, bytes := 144, zero := [.int .i64 0, .bool false, .string ByteArray.empty, .string ByteArray.empty, .int .i64 0, .int .i64 0, .int .i64 0, .string ByteArray.empty, .slice none 0 0, .slice none 0 0, .bool false], agg := true, shape := (.struct [(0, 10, true), (10, 1, false)]) } := by kernel_rfl
theorem ty297 : tyOf Tryz.prog 297 = some { size := 1, bytes := 8, zero := [.nilFunc], agg := false, shape := .func } := by kernel_rfl
theorem ty298 : tyOf Tryz.prog 298 = some { size := 1, bytes := 8, zero := [.nilFunc], agg := false, shape := .func } := by kernel_rfl
theorem ty300 : tyOf Tryz.prog 300 = some { size := 1, bytes := 8, zero := [.nilFunc], agg := false, shape := .func } := by kernel_rfl
theorem ty301 : tyOf Tryz.prog 301 = some { size := 1, bytes := 8, zero := [.nilFunc], agg := false, shape := .func } := by kernel_rfl
theorem ty302 : tyOf Tryz.prog 302 = some { size := 1, bytes := 8, zero := [.nilFunc], agg := false, shape := .func } := by kernel_rfl
theorem ty304 : tyOf Tryz.prog 304 = some { size := 1, bytes := 8, zero := [.nilFunc], agg := false, shape := .func } := by kernel_rfl
theorem ty305 : tyOf Tryz.prog 305 = some { size := 1, bytes := 8, zero := [.nilFunc], agg := false, shape := .func } := by kernel_rfl
theorem ty306 : tyOf Tryz.prog 306 = some { size := 1, bytes := 8, zero := [.nilFunc], agg := false, shape := .func } := by kernel_rfl
theorem ty307 : tyOf Tryz.prog 307 = some { size := 1, bytes := 8, zero := [.nilFunc], agg := false, shape := .func } := by kernel_rfl
theorem ty308 : tyOf Tryz.prog 308 = some { size := 1, bytes := 8, zero := [.nilFunc], agg := false, shape := .func } := by kernel_rfl
theorem ty309 : tyOf Tryz.prog 309 = some { size := 1, bytes := 8, zero := [.nilFunc], agg := false, shape := .func } := by kernel_rfl
theorem ty310 : tyOf Tryz.prog 310 = some { size := 1, bytes := 8, zero := [.nilFunc], agg := false, shape := .func } := by kernel_rfl
theorem ty311 : tyOf Tryz.prog 311 = some { size := 1, bytes := 8, zero := [.nilFunc], agg := false, shape := .func } := by kernel_rfl
theorem ty312 : tyOf Tryz.prog 312 = some { size := 1, bytes := 8, zero := [.nilFunc], agg := false, shape := .func } := by kernel_rfl
theorem ty313 : tyOf Tryz.prog 313 = some { size := 1, bytes := 8, zero := [.nilFunc], agg := false, shape := .func } := by kernel_rfl
theorem ty314 : tyOf Tryz.prog 314 = some { size := 1, bytes := 8, zero := [.nilFunc], agg := false, shape := .func } := by kernel_rfl
theorem ty315 : tyOf Tryz.prog 315 = some { size := 1, bytes := 8, zero := [.nilFunc], agg := false, shape := .func } := by kernel_rfl
theorem ty316 : tyOf Tryz.prog 316 = some { size := 1, bytes := 8, zero := [.nilFunc], agg := false, shape := .func } := by kernel_rfl
theorem ty317 : tyOf Tryz.prog 317 = some { size := 1, bytes := 8, zero := [.nilFunc], agg := false, shape := .func } := by kernel_rfl
theorem ty318 : tyOf Tryz.prog 318 = some { size := 1, bytes := 8, zero := [.nilFunc], agg := false, shape := .func } := by kernel_rfl
theorem ty319 : tyOf Tryz.prog 319 = some { size := 4, bytes := 64, zero := [.bool false, .string ByteArray.empty, .slice none 0 0, .string ByteArray.empty], agg := true, shape := (.struct [(0, 1, false), (1, 1, false), (2, 1, false), (3, 1, false)]) } := by kernel_rfl
theorem ty320 : tyOf Tryz.prog 320 = some { size := 4, bytes := 64, zero := [.bool false, .string ByteArray.empty, .slice none 0 0, .string ByteArray.empty], agg := true, shape := (.struct [(0, 1, false), (1, 1, false), (2, 1, false), (3, 1, false)]) } := by kernel_rfl
theorem ty321 : tyOf Tryz.prog 321 = some { size := 1, bytes := 8, zero := [.int .i64 0], agg := false, shape := (.int .i64) } := by kernel_rfl
theorem ty322 : tyOf Tryz.prog 322 = some { size := 5, bytes := 88, zero := [.int .i64 0, .string ByteArray.empty, .slice none 0 0, .string ByteArray.empty, .slice none 0 0], agg := true, shape := (.struct [(0, 1, false), (1, 1, false), (2, 1, false), (3, 1, false), (4, 1, false)]) } := by kernel_rfl
theorem ty323 : tyOf Tryz.prog 323 = some { size := 5, bytes := 88, zero := [.int .i64 0, .string ByteArray.empty, .slice none 0 0, .string ByteArray.empty, .slice none 0 0], agg := true, shape := (.struct [(0, 1, false), (1, 1, false), (2, 1, false), (3, 1, false), (4, 1, false)]) } := by kernel_rfl
theorem ty324 : tyOf Tryz.prog 324 = some { size := 1, bytes := 8, zero := [.nilFunc], agg := false, shape := .func } := by kernel_rfl
theorem ty325 : tyOf Tryz.prog 325 = some { size := 1, bytes := 8, zero := [.nilFunc], agg := false, shape := .func } := by kernel_rfl
theorem ty326 : tyOf Tryz.prog 326 = some { size := 1, bytes := 8, zero := [.nilFunc], agg := false, shape := .func } := by kernel_rfl
theorem ty327 : tyOf Tryz.prog 327 = some { size := 1, bytes := 8, zero := [.nilFunc], agg := false, shape := .func } := by kernel_rfl
theorem ty328 : tyOf Tryz.prog 328 = some { size := 1, bytes := 8, zero := [.nilFunc], agg := false, shape := .func } := by kernel_rfl
theorem ty329 : tyOf Tryz.prog 329 = some { size := 1, bytes := 8, zero := [.nilFunc], agg := false, shape := .func } := by kernel_rfl
theorem ty330 : tyOf Tryz.prog 330 = some { size := 1, bytes := 8, zero := [.nilFunc], agg := false, shape := .func } := by kernel_rfl
theorem ty331 : tyOf Tryz.prog 331 = some { size := 1, bytes := 8, zero := [.nilFunc], agg := false, shape := .func } := by kernel_rfl
theorem ty332 : tyOf Tryz.prog 332 = some { size := 1, bytes := 8, zero := [.nilFunc], agg := false, shape := .func } := by kernel_rfl
theorem ty333 : tyOf Tryz.prog 333 = some { size := 1, bytes := 8, zero := [.pointer none], agg := false, shape := .other } := by kernel_rfl
theorem ty334 : tyOf Tryz.prog 334 = some { size := 1, bytes := 8, zero := [.pointer none], agg := false, shape := .other } := by kernel_rfl
theorem ty335 : tyOf Tryz.prog 335 = some { size := 1, bytes := 8, zero := [.nilFunc], agg := false, shape := .func } := by kernel_rfl
theorem ty336 : tyOf Tryz.prog 336 = some { size := 1, bytes := 8, zero := [.nilFunc], agg := false, shape := .func } := by kernel_rfl
theorem ty337 : tyOf Tryz.prog 337 = some { size := 1, bytes := 8, zero := [.nilFunc], agg := false, shape := .func } := by kernel_rfl
theorem ty338 : tyOf Tryz.prog 338 = some { size := 1, bytes := 8, zero := [.nilFunc], agg := false, shape := .func } := by kernel_rfl
theorem ty339 : tyOf Tryz.prog 339 = some { size := 1, bytes := 8, zero := [.nilFunc], agg := false, shape := .func } := by kernel_rfl
theorem ty340 : tyOf Tryz.prog 340 = some { size := 1, bytes := 8, zero := [.nilFunc], agg := false, shape := .func } := by kernel_rfl
theorem ty342 : tyOf Tryz.prog 342 = some { size := 1, bytes := 8, zero := [.nilFunc], agg := false, shape := .func } := by kernel_rfl
theorem ty343 : tyOf Tryz.prog 343 = some { size := 3, bytes := 40, zero := [.slice none 0 0, .int .i64 0, .int .i64 0], agg := true, shape := (.struct [(0, 1, false), (1, 1, false), (2, 1, false)]) } := by kernel_rfl
theorem ty344 : tyOf Tryz.prog 344 = some { size := 3, bytes := 40, zero := [.slice none 0 0, .int .i64 0, .int .i64 0], agg := true, shape := (.struct [(0, 1, false), (1, 1, false), (2, 1, false)]) } := by kernel_rfl
theorem ty345 : tyOf Tryz.prog 345 = some { size := 1, bytes := 8, zero := [.nilFunc], agg := false, shape := .func } := by kernel_rfl
theorem ty346 : tyOf Tryz.prog 346 = some { size := 1, bytes := 8, zero := [.nilFunc], agg := false, shape := .func } := by kernel_rfl
theorem ty347 : tyOf Tryz.prog 347 = some { size := 1, bytes := 8, zero := [.nilFunc], agg := false, shape := .func } := by kernel_rfl
theorem ty348 : tyOf Tryz.prog 348 = some { size := 3, bytes := 24, zero := [.int .i64 0, .int .i64 0, .bool false], agg := true, shape := (.struct [(0, 1, false), (1, 1, false), (2, 1, false)]) } := by kernel_rfl
theorem ty349 : tyOf Tryz.prog 349 = some { size := 3, bytes := 24, zero := [.int .i64 0, .int .i64 0, .bool false], agg := true, shape := (.struct [(0, 1, false), (1, 1, false), (2, 1, false)]) } := by kernel_rfl
theorem ty351 : tyOf Tryz.prog 351 = some { size := 1, bytes := 8, zero := [.nilFunc], agg := false, shape := .func } := by kernel_rfl
theorem ty352 : tyOf Tryz.prog 352 = some { size := 1, bytes := 8, zero := [.nilFunc], agg := false, shape := .func } := by kernel_rfl
theorem ty353 : tyOf Tryz.prog 353 = some { size := 1, bytes := 8, zero := [.nilFunc], agg := false, shape := .func } := by kernel_rfl
theorem ty354 : tyOf Tryz.prog 354 = some { size := 1, bytes := 8, zero := [.nilFunc], agg := false, shape := .func } := by kernel_rfl
theorem ty355 : tyOf Tryz.prog 355 = some { size := 1, bytes := 8, zero := [.nilFunc], agg := false, shape := .func } := by kernel_rfl
theorem ty356 : tyOf Tryz.prog 356 = some { size := 1, bytes := 8, zero := [.nilFunc], agg := false, shape := .func } := by kernel_rfl
theorem ty357 : tyOf Tryz.prog 357 = some { size := 1, bytes := 8, zero := [.nilFunc], agg := false, shape := .func } := by kernel_rfl
theorem ty358 : tyOf Tryz.prog 358 = some { size := 1, bytes := 8, zero := [.nilFunc], agg := false, shape := .func } := by kernel_rfl
theorem ty359 : tyOf Tryz.prog 359 = some { size := 1, bytes := 8, zero := [.nilFunc], agg := false, shape := .func } := by kernel_rfl
theorem ty360 : tyOf Tryz.prog 360 = some { size := 1, bytes := 8, zero := [.int .u64 0], agg := false, shape := (.int .u64) } := by kernel_rfl
theorem ty361 : tyOf Tryz.prog 361 = some { size := 1, bytes := 8, zero := [.nilFunc], agg := false, shape := .func } := by kernel_rfl
theorem ty362 : tyOf Tryz.prog 362 = some { size := 1, bytes := 8, zero := [.nilFunc], agg := false, shape := .func } := by kernel_rfl
theorem ty363 : tyOf Tryz.prog 363 = some { size := 1, bytes := 8, zero := [.nilFunc], agg := false, shape := .func } := by kernel_rfl
theorem ty364 : tyOf Tryz.prog 364 = some { size := 1, bytes := 8, zero := [.nilFunc], agg := false, shape := .func } := by kernel_rfl
theorem ty365 : tyOf Tryz.prog 365 = some { size := 1, bytes := 8, zero := [.nilFunc], agg := false, shape := .func } := by kernel_rfl
theorem ty366 : tyOf Tryz.prog 366 = some { size := 1, bytes := 8, zero := [.pointer none], agg := false, shape := .other } := by kernel_rfl
theorem ty367 : tyOf Tryz.prog 367 = some { size := 1, bytes := 8, zero := [.nilFunc], agg := false, shape := .func } := by kernel_rfl
theorem ty368 : tyOf Tryz.prog 368 = some { size := 1, bytes := 8, zero := [.nilFunc], agg := false, shape := .func } := by kernel_rfl
theorem ty369 : tyOf Tryz.prog 369 = some { size := 1, bytes := 8, zero := [.nilFunc], agg := false, shape := .func } := by kernel_rfl
theorem ty370 : tyOf Tryz.prog 370 = some { size := 1, bytes := 8, zero := [.nilFunc], agg := false, shape := .func } := by kernel_rfl
theorem ty371 : tyOf Tryz.prog 371 = some { size := 1, bytes := 8, zero := [.nilFunc], agg := false, shape := .func } := by kernel_rfl
theorem ty372 : tyOf Tryz.prog 372 = some { size := 5, bytes := 48, zero := [.string ByteArray.empty, .int .i64 0, .int .i64 0, .bool false, .nilFunc], agg := true, shape := (.struct [(0, 1, false), (1, 1, false), (2, 1, false), (3, 1, false), (4, 1, false)]) } := by kernel_rfl
theorem ty373 : tyOf Tryz.prog 373 = some { size := 5, bytes := 48, zero := [.string ByteArray.empty, .int .i64 0, .int .i64 0, .bool false, .nilFunc], agg := true, shape := (.struct [(0, 1, false), (1, 1, false), (2, 1, false), (3, 1, false), (4, 1, false)]) } := by kernel_rfl
theorem ty375 : tyOf Tryz.prog 375 = some { size := 1, bytes := 8, zero := [.nilFunc], agg := false, shape := .func } := by kernel_rfl
theorem ty376 : tyOf Tryz.prog 376 = some { size := 1, bytes := 8, zero := [.nilFunc], agg := false, shape := .func } := by kernel_rfl
theorem ty377 : tyOf Tryz.prog 377 = some { size := 1, bytes := 8, zero := [.nilFunc], agg := false, shape := .func } := by kernel_rfl
theorem ty379 : tyOf Tryz.prog 379 = some { size := 1, bytes := 8, zero := [.nilFunc], agg := false, shape := .func } := by kernel_rfl
theorem ty380 : tyOf Tryz.prog 380 = some { size := 1, bytes := 8, zero := [.nilFunc], agg := false, shape := .func } := by kernel_rfl
theorem ty381 : tyOf Tryz.prog 381 = some { size := 1, bytes := 8, zero := [.nilFunc], agg := false, shape := .func } := by kernel_rfl
theorem ty382 : tyOf Tryz.prog 382 = some { size := 1, bytes := 8, zero := [.nilFunc], agg := false, shape := .func } := by kernel_rfl
theorem ty383 : tyOf Tryz.prog 383 = some { size := 1, bytes := 8, zero := [.nilFunc], agg := false, shape := .func } := by kernel_rfl
theorem ty384 : tyOf Tryz.prog 384 = some { size := 1, bytes := 8, zero := [.nilFunc], agg := false, shape := .func } := by kernel_rfl
theorem ty385 : tyOf Tryz.prog 385 = some { size := 1, bytes := 8, zero := [.nilFunc], agg := false, shape := .func } := by kernel_rfl
theorem ty386 : tyOf Tryz.prog 386 = some { size := 1, bytes := 8, zero := [.nilFunc], agg := false, shape := .func } := by kernel_rfl
theorem ty387 : tyOf Tryz.prog 387 = some { size := 1, bytes := 8, zero := [.nilFunc], agg := false, shape := .func } := by kernel_rfl
theorem ty389 : tyOf Tryz.prog 389 = some { size := 1, bytes := 8, zero := [.nilFunc], agg := false, shape := .func } := by kernel_rfl
theorem ty390 : tyOf Tryz.prog 390 = some { size := 1, bytes := 24, zero := [.slice none 0 0], agg := false, shape := (.slice 455) } := by kernel_rfl
theorem ty391 : tyOf Tryz.prog 391 = some { size := 1, bytes := 8, zero := [.nilFunc], agg := false, shape := .func } := by kernel_rfl
theorem ty392 : tyOf Tryz.prog 392 = some { size := 1, bytes := 8, zero := [.nilFunc], agg := false, shape := .func } := by kernel_rfl
theorem ty393 : tyOf Tryz.prog 393 = some { size := 1, bytes := 8, zero := [.nilFunc], agg := false, shape := .func } := by kernel_rfl
theorem ty394 : tyOf Tryz.prog 394 = some { size := 1, bytes := 24, zero := [.slice none 0 0], agg := false, shape := (.slice 54) } := by kernel_rfl
theorem ty395 : tyOf Tryz.prog 395 = some { size := 1, bytes := 8, zero := [.nilFunc], agg := false, shape := .func } := by kernel_rfl
theorem ty396 : tyOf Tryz.prog 396 = some { size := 1, bytes := 8, zero := [.int .i64 0], agg := true, shape := (.struct [(0, 1, false)]) } := by kernel_rfl
theorem ty397 : tyOf Tryz.prog 397 = some { size := 1, bytes := 8, zero := [.int .i64 0], agg := true, shape := (.struct [(0, 1, false)]) } := by kernel_rfl
theorem ty399 : tyOf Tryz.prog 399 = some { size := 1, bytes := 8, zero := [.nilFunc], agg := false, shape := .func } := by kernel_rfl
theorem ty401 : tyOf Tryz.prog 401 = some { size := 1, bytes := 8, zero := [.nilFunc], agg := false, shape := .func } := by kernel_rfl
theorem ty402 : tyOf Tryz.prog 402 = some { size := 1, bytes := 8, zero := [.nilFunc], agg := false, shape := .func } := by kernel_rfl
theorem ty403 : tyOf Tryz.prog 403 = some { size := 1, bytes := 8, zero := [.nilFunc], agg := false, shape := .func } := by kernel_rfl
theorem ty404 : tyOf Tryz.prog 404 = some { size := 1, bytes := 8, zero := [.nilFunc], agg := false, shape := .func } := by kernel_rfl
theorem ty405 : tyOf Tryz.prog 405 = some { size := 1, bytes := 8, zero := [.nilFunc], agg := false, shape := .func } := by kernel_rfl
theorem ty406 : tyOf Tryz.prog 406 = some { size := 1, bytes := 8, zero := [.nilFunc], agg := false, shape := .func } := by kernel_rfl
theorem ty407 : tyOf Tryz.prog 407 = some { size := 1, bytes := 8, zero := [.nilFunc], agg := false, shape := .func } := by kernel_rfl
theorem ty408 : tyOf Tryz.prog 408 = some { size := 1, bytes := 8, zero := [.nilFunc], agg := false, shape := .func } := by kernel_rfl
theorem ty410 : tyOf Tryz.prog 410 = some { size := 1, bytes := 8, zero := [.nilFunc], agg := false, shape := .func } := by kernel_rfl
theorem ty412 : tyOf Tryz.prog 412 = some { size := 1, bytes := 8, zero := [.nilFunc], agg := false, shape := .func } := by kernel_rfl
theorem ty413 : tyOf Tryz.prog 413 = some { size := 1, bytes := 24, zero := [.slice none 0 0], agg := false, shape := (.slice 373) } := by kernel_rfl
theorem ty414 : tyOf Tryz.prog 414 = some { size := 1, bytes := 8, zero := [.nilFunc], agg := false, shape := .func } := by kernel_rfl
theorem ty415 : tyOf Tryz.prog 415 = some { size := 1, bytes := 8, zero := [.nilFunc], agg := false, shape := .func } := by kernel_rfl
theorem ty416 : tyOf Tryz.prog 416 = some { size := 1, bytes := 8, zero := [.nilFunc], agg := false, shape := .func } := by kernel_rfl
theorem ty417 : tyOf Tryz.prog 417 = some { size := 1, bytes := 8, zero := [.nilFunc], agg := false, shape := .func } := by kernel_rfl
theorem ty418 : tyOf Tryz.prog 418 = some { size := 1, bytes := 8, zero := [.nilFunc], agg := false, shape := .func } := by kernel_rfl
theorem ty419 : tyOf Tryz.prog 419 = some { size := 1, bytes := 8, zero := [.nilFunc], agg := false, shape := .func } := by kernel_rfl
theorem ty420 : tyOf Tryz.prog 420 = some { size := 1, bytes := 8, zero := [.nilFunc], agg := false, shape := .func } := by kernel_rfl
theorem ty422 : tyOf Tryz.prog 422 = some { size := 2, bytes := 2, zero := [.int .u8 0, .int .u8 0], agg := true, shape := (.struct [(0, 1, false), (1, 1, false)]) } := by kernel_rfl
theorem ty423 : tyOf Tryz.prog 423 = some { size := 2, bytes := 2, zero := [.int .u8 0, .int .u8 0], agg := true, shape := (.struct [(0, 1, false), (1, 1, false)]) } := by kernel_rfl
theorem ty425 : tyOf Tryz.prog 425 = some { size := 1, bytes := 4, zero := [.int .u32 0], agg := false, shape := (.int .u32) } := by kernel_rfl
theorem ty426 : tyOf Tryz.prog 426 = some { size := 1, bytes := 8, zero := [.pointer none], agg := false, shape := .other } := by kernel_rfl
theorem ty427 : tyOf Tryz.prog 427 = some { size := 1, bytes := 8, zero := [.nilFunc], agg := false, shape := .func } := by kernel_rfl
theorem ty428 : tyOf Tryz.prog 428 = some { size := 1, bytes := 8, zero := [.nilFunc], agg := false, shape := .func } := by kernel_rfl
theorem ty429 : tyOf Tryz.prog 429 = some { size := 1, bytes := 8, zero := [.nilFunc], agg := false, shape := .func } := by kernel_rfl
theorem ty430 : tyOf Tryz.prog 430 = some { size := 1, bytes := 8, zero := [.nilFunc], agg := false, shape := .func } := by kernel_rfl
theorem ty431 : tyOf Tryz.prog 431 = some { size := 1, bytes := 8, zero := [.nilFunc], agg := false, shape := .func } := by kernel_rfl
theorem ty432 : tyOf Tryz.prog 432 = some { size := 1, bytes := 8, zero := [.nilFunc], agg := false, shape := .func } := by kernel_rfl
theorem ty433 : tyOf Tryz.prog 433 = some { size := 1, bytes := 8, zero := [.nilFunc], agg := false, shape := .func } := by kernel_rfl
theorem ty434 : tyOf Tryz.prog 434 = some { size := 1, bytes := 8, zero := [.nilFunc], agg := false, shape := .func } := by kernel_rfl
theorem ty435 : tyOf Tryz.prog 435 = some { size := 1, bytes := 8, zero := [.nilFunc], agg := false, shape := .func } := by kernel_rfl
theorem ty436 : tyOf Tryz.prog 436 = some { size := 1, bytes := 8, zero := [.nilFunc], agg := false, shape := .func } := by kernel_rfl
theorem ty438 : tyOf Tryz.prog 438 = some { size := 1, bytes := 8, zero := [.nilFunc], agg := false, shape := .func } := by kernel_rfl
theorem ty439 : tyOf Tryz.prog 439 = some { size := 1, bytes := 8, zero := [.nilFunc], agg := false, shape := .func } := by kernel_rfl
theorem ty440 : tyOf Tryz.prog 440 = some { size := 1, bytes := 8, zero := [.nilFunc], agg := false, shape := .func } := by kernel_rfl
theorem ty441 : tyOf Tryz.prog 441 = some { size := 1, bytes := 24, zero := [.slice none 0 0], agg := false, shape := (.slice 154) } := by kernel_rfl
theorem ty443 : tyOf Tryz.prog 443 = some { size := 1, bytes := 8, zero := [.nilFunc], agg := false, shape := .func } := by kernel_rfl
theorem ty444 : tyOf Tryz.prog 444 = some { size := 1, bytes := 8, zero := [.nilFunc], agg := false, shape := .func } := by kernel_rfl
theorem ty445 : tyOf Tryz.prog 445 = some { size := 1, bytes := 8, zero := [.nilFunc], agg := false, shape := .func } := by kernel_rfl
theorem ty446 : tyOf Tryz.prog 446 = some { size := 1, bytes := 8, zero := [.nilFunc], agg := false, shape := .func } := by kernel_rfl
theorem ty447 : tyOf Tryz.prog 447 = some { size := 1, bytes := 8, zero := [.nilFunc], agg := false, shape := .func } := by kernel_rfl
theorem ty448 : tyOf Tryz.prog 448 = some { size := 1, bytes := 8, zero := [.nilFunc], agg := false, shape := .func } := by kernel_rfl
theorem ty449 : tyOf Tryz.prog 449 = some { size := 1, bytes := 8, zero := [.nilFunc], agg := false, shape := .func } := by kernel_rfl
theorem ty450 : tyOf Tryz.prog 450 = some { size := 1, bytes := 8, zero := [.nilFunc], agg := false, shape := .func } := by kernel_rfl
theorem ty451 : tyOf Tryz.prog 451 = some { size := 1, bytes := 8, zero := [.nilFunc], agg := false, shape := .func } := by kernel_rfl
theorem ty454 : tyOf Tryz.prog 454 = some { size := 5, bytes := 20, zero := [.int .u32 0, .int .u32 0, .int .i32 0, .int .i32 0, .int .i32 0], agg := true, shape := (.struct [(0, 1, false), (1, 1, false), (2, 3, true)]) } := by kernel_rfl
theorem ty455 : tyOf Tryz.prog 455 = some { size := 5, bytes := 20, zero := [.int .u32 0, .int .u32 0, .int .i32 0, .int .i32 0, .int .i32 0], agg := true, shape := (.struct [(0, 1, false), (1, 1, false), (2, 3, true)]) } := by kernel_rfl
theorem ty456 : tyOf Tryz.prog 456 = some { size := 1, bytes := 8, zero := [.nilFunc], agg := false, shape := .func } := by kernel_rfl
theorem ty457 : tyOf Tryz.prog 457 = some { size := 1, bytes := 8, zero := [.nilFunc], agg := false, shape := .func } := by kernel_rfl
theorem ty459 : tyOf Tryz.prog 459 = some { size := 1, bytes := 8, zero := [.nilFunc], agg := false, shape := .func } := by kernel_rfl
theorem ty461 : tyOf Tryz.prog 461 = some { size := 1, bytes := 8, zero := [.nilFunc], agg := false, shape := .func } := by kernel_rfl
theorem ty463 : tyOf Tryz.prog 463 = some { size := 1, bytes := 8, zero := [.nilFunc], agg := false, shape := .func } := by kernel_rfl
theorem ty464 : tyOf Tryz.prog 464 = some { size := 1, bytes := 8, zero := [.nilFunc], agg := false, shape := .func } := by kernel_rfl
theorem ty465 : tyOf Tryz.prog 465 = some { size := 1, bytes := 8, zero := [.nilFunc], agg := false, shape := .func } := by kernel_rfl
theorem ty466 : tyOf Tryz.prog 466 = some { size := 1, bytes := 8, zero := [.nilFunc], agg := false, shape := .func } := by kernel_rfl
theorem ty467 : tyOf Tryz.prog 467 = some { size := 1, bytes := 8, zero := [.nilFunc], agg := false, shape := .func } := by kernel_rfl
theorem ty468 : tyOf Tryz.prog 468 = some { size := 1, bytes := 8, zero := [.nilFunc], agg := false, shape := .func } := by kernel_rfl
theorem ty469 : tyOf Tryz.prog 469 = some { size := 1, bytes := 8, zero := [.nilFunc], agg := false, shape := .func } := by kernel_rfl
theorem ty471 : tyOf Tryz.prog 471 = some { size := 1, bytes := 8, zero := [.int .u64 0], agg := false, shape := (.int .u64) } := by kernel_rfl
theorem ty472 : tyOf Tryz.prog 472 = some { size := 1, bytes := 8, zero := [.nilFunc], agg := false, shape := .func } := by kernel_rfl
theorem ty473 : tyOf Tryz.prog 473 = some { size := 1, bytes := 8, zero := [.nilFunc], agg := false, shape := .func } := by kernel_rfl
theorem ty475 : tyOf Tryz.prog 475 = some { size := 1, bytes := 8, zero := [.nilFunc], agg := false, shape := .func } := by kernel_rfl
theorem ty476 : tyOf Tryz.prog 476 = some { size := 1, bytes := 8, zero := [.nilFunc], agg := false, shape := .func } := by kernel_rfl
theorem ty477 : tyOf Tryz.prog 477 = some { size := 1, bytes := 8, zero := [.nilFunc], agg := false, shape := .func } := by kernel_rfl
theorem ty478 : tyOf Tryz.prog 478 = some { size := 1, bytes := 8, zero := [.nilFunc], agg := false, shape := .func } := by kernel_rfl
theorem ty479 : tyOf Tryz.prog 479 = some { size := 1, bytes := 8, zero := [.nilFunc], agg := false, shape := .func } := by kernel_rfl
theorem ty480 : tyOf Tryz.prog 480 = some { size := 1, bytes := 8, zero := [.nilFunc], agg := false, shape := .func } := by kernel_rfl
theorem ty481 : tyOf Tryz.prog 481 = some { size := 1, bytes := 8, zero := [.nilFunc], agg := false, shape := .func } := by kernel_rfl
theorem ty482 : tyOf Tryz.prog 482 = some { size := 1, bytes := 8, zero := [.nilFunc], agg := false, shape := .func } := by kernel_rfl
theorem ty483 : tyOf Tryz.prog 483 = some { size := 1, bytes := 24, zero := [.slice none 0 0], agg := false, shape := (.slice 3) } := by kernel_rfl
theorem ty484 : tyOf Tryz.prog 484 = some { size := 1, bytes := 8, zero := [.nilFunc], agg := false, shape := .func } := by kernel_rfl
theorem ty485 : tyOf Tryz.prog 485 = some { size := 1, bytes := 8, zero := [.nilFunc], agg := false, shape := .func } := by kernel_rfl
theorem ty488 : tyOf Tryz.prog 488 = some { size := 1, bytes := 8, zero := [.nilFunc], agg := false, shape := .func } := by kernel_rfl
theorem ty489 : tyOf Tryz.prog 489 = some { size := 1, bytes := 24, zero := [.slice none 0 0], agg := false, shape := (.slice 20) } := by kernel_rfl
theorem ty490 : tyOf Tryz.prog 490 = some { size := 1, bytes := 8, zero := [.nilFunc], agg := false, shape := .func } := by kernel_rfl
theorem ty491 : tyOf Tryz.prog 491 = some { size := 1, bytes := 8, zero := [.nilFunc], agg := false, shape := .func } := by kernel_rfl
theorem ty493 : tyOf Tryz.prog 493 = some { size := 1, bytes := 8, zero := [.nilFunc], agg := false, shape := .func } := by kernel_rfl
theorem ty494 : tyOf Tryz.prog 494 = some { size := 1, bytes := 8, zero := [.nilFunc], agg := false, shape := .func } := by kernel_rfl
theorem ty495 : tyOf Tryz.prog 495 = some { size := 1, bytes := 8, zero := [.nilFunc], agg := false, shape := .func } := by kernel_rfl
theorem ty496 : tyOf Tryz.prog 496 = some { size := 1, bytes := 8, zero := [.nilFunc], agg := false, shape := .func } := by kernel_rfl
theorem ty497 : tyOf Tryz.prog 497 = some { size := 1, bytes := 8, zero := [.nilFunc], agg := false, shape := .func } := by kernel_rfl
theorem ty498 : tyOf Tryz.prog 498 = some { size := 1, bytes := 8, zero := [.nilFunc], agg := false, shape := .func } := by kernel_rfl
theorem ty502 : tyOf Tryz.prog 502 = some { size := 1, bytes := 8, zero := [.int .i64 0], agg := false, shape := (.int .i64) } := by kernel_rfl
theorem ty504 : tyOf Tryz.prog 504 = some { size := 1, bytes := 8, zero := [.nilFunc], agg := false, shape := .func } := by kernel_rfl
theorem ty505 : tyOf Tryz.prog 505 = some { size := 1, bytes := 8, zero := [.pointer none], agg := false, shape := .other } := by kernel_rfl
theorem ty506 : tyOf Tryz.prog 506 = some { size := 1, bytes := 8, zero := [.nilFunc], agg := false, shape := .func } := by kernel_rfl
theorem ty507 : tyOf Tryz.prog 507 = some { size := 1, bytes := 8, zero := [.nilFunc], agg := false, shape := .func } := by kernel_rfl
theorem ty508 : tyOf Tryz.prog 508 = some { size := 3, bytes := 48, zero := [.string ByteArray.empty, .string ByteArray.empty, .nilIface], agg := true, shape := (.struct [(0, 1, false), (1, 1, false), (2, 1, false)]) } := by kernel_rfl
theorem ty509 : tyOf Tryz.prog 509 = some { size := 3, bytes := 48, zero := [.string ByteArray.empty, .string ByteArray.empty, .nilIface], agg := true, shape := (.struct [(0, 1, false), (1, 1, false), (2, 1, false)]) } := by kernel_rfl
theorem ty510 : tyOf Tryz.prog 510 = some { size := 1, bytes := 8, zero := [.nilFunc], agg := false, shape := .func } := by kernel_rfl
theorem ty511 : tyOf Tryz.prog 511 = some { size := 1, bytes := 8, zero := [.pointer none], agg := false, shape := .other } := by kernel_rfl
theorem ty512 : tyOf Tryz.prog 512 = some { size := 1, bytes := 16, zero := [.string ByteArray.empty], agg := true, shape := (.struct [(0, 1, false)]) } := by kernel_rfl
theorem ty513 : tyOf Tryz.prog 513 = some { size := 1, bytes := 16, zero := [.string ByteArray.empty], agg := true, shape := (.struct [(0, 1, false)]) } := by kernel_rfl
theorem ty515 : tyOf Tryz.prog 515 = some { size := 1, bytes := 8, zero := [.nilFunc], agg := false, shape := .func } := by kernel_rfl
theorem ty516 : tyOf Tryz.prog 516 = some { size := 1, bytes := 8, zero := [.nilFunc], agg := false, shape := .func } := by kernel_rfl
theorem ty517 : tyOf Tryz.prog 517 = some { size := 4, bytes := 40, zero := [.pointer none, .pointer none, .pointer none, .string ByteArray.empty], agg := true, shape := (.struct [(0, 1, false), (1, 1, false), (2, 1, false), (3, 1, false)]) } := by kernel_rfl
theorem ty518 : tyOf Tryz.prog 518 = some { size := 4, bytes := 40, zero := [.pointer none, .pointer none, .pointer none, .string ByteArray.empty], agg := true, shape := (.struct [(0, 1, false), (1, 1, false), (2, 1, false), (3, 1, false)]) } := by kernel_rfl
theorem ty520 : tyOf Tryz.prog 520 = some { size := 0, bytes := 0, zero := [], agg := true, shape := (.struct [(0, 0, true)]) } := by kernel_rfl
theorem ty521 : tyOf Tryz.prog 521 = some { size := 0, bytes := 0, zero := [], agg := true, shape := (.struct [(0, 0, true)]) } := by kernel_rfl
theorem ty522 : tyOf Tryz.prog 522 = some { size := 1, bytes := 1, zero := [.int .u8 0], agg := false, shape := (.int .u8) } := by kernel_rfl
theorem ty523 : tyOf Tryz.prog 523 = some { size := 1, bytes := 1, zero := [.int .u8 0], agg := false, shape := (.int .u8) } := by kernel_rfl
theorem ty524 : tyOf Tryz.prog 524 = some { size := 1, bytes := 8, zero := [.nilFunc], agg := false, shape := .func } := by kernel_rfl
theorem ty525 : tyOf Tryz.prog 525 = some { size := 1, bytes := 4, zero := [.int .i32 0], agg := false, shape := (.int .i32) } := by kernel_rfl
theorem ty526 : tyOf Tryz.prog 526 = some { size := 1, bytes := 4, zero := [.int .i32 0], agg := false, shape := (.int .i32) } := by kernel_rfl
theorem ty527 : tyOf Tryz.prog 527 = some { size := 11, bytes := 48, zero := [.int .u64 0, .int .u64 0, .int .u32 0, .int .u8 0, .int .u8 0, .int .u8 0, .int .u8 0, .nilFunc, .pointer none, .int .i32 0, .int .i32 0], agg := true, shape := (.struct [(0, 1, false), (1, 1, false), (2, 1, false), (3, 1, false), (4, 1, false), (5, 1, false), (6, 1, false), (7, 1, false), (8, 1, false), (9, 1, false), (10, 1, false)]) } := by kernel_rfl
theorem ty528 : tyOf Tryz.prog 528 = some { size := 11, bytes := 48, zero := [.int .u64 0, .int .u64 0, .int .u32 0, .int .u8 0, .int .u8 0, .int .u8 0, .int .u8 0, .nilFunc, .pointer none, .int .i32 0, .int .i32 0], agg := true, shape := (.struct [(0, 1, false), (1, 1, false), (2, 1, false), (3, 1, false), (4, 1, false), (5, 1, false), (6, 1, false), (7, 1, false), (8, 1, false), (9, 1, false), (10, 1, false)]) } := by kernel_rfl
end Go.Proofs.YtdomhnkffghmlaaGreatDoor
