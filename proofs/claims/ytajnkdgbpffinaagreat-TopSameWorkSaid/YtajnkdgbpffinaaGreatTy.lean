/- The seat's types and functions, as the engine wants them. Printed by gen_ty.py. -/
import Derived.Test.YtajnkdgbpffinaaGreatProg
import Derived.Test.YtajnkdgbpffinaaGreatEng11
set_option linter.unusedSectionVars false
set_option linter.unusedVariables false
set_option linter.unusedSimpArgs false
namespace Go.Proofs
open Go.Kin
namespace R41
/-- 2 int64 · 3 int · 4 bool · 5 uint8 · 9 string · 12 uintptr · 13 struct { msg string; addr uintptr } · 19 maps.unhashableTypeError · 20 interface {} · 21 int32 · 22 []api.Sign · 23 uint32 · 24 []api.Right · 27 []api.Patch · 28 []int · 29 struct { N int; D int } · 30 api.Ratio · 31 struct { ID int; Role int; Bar int; Mark int; Kind int; Side int; Dir int; Level int; Size int; With int; From api.Ratio; To api.Ratio } · 32 api.Sign · 33 struct { ID int; Kind int; Sign int; Field int; New api.Sign; Needs []int } · 34 api.Patch · 35 api.Errno · 42 [][2]int · 49 [][]api.Sign · 54 [2]int · 57 struct { No int; Kind int; Edition int; Holder int; Sign int; Of int; Name string; Town string; From int; To int; Known int } · 58 api.Right · 61 func(api.Sign, api.Sign) int · 67 [][]int · 70 map[int]rooms.set · 71 map[[2]int][]api.Patch · 72 map[int][]int · 73 struct { on map[int]rooms.set; sets map[[2]int][]api.Patch; removes map[int][]int; signs []api.Sign } · 74 rooms.state · 80 map[[2]int]int · 81 func(int, int) int · 86 [][]bool · 87 identity.graph · 92 func(int) bool · 95 map[rights.part]bool · 98 struct { holder int; sign int } · 99 rights.part · 103 uint · 104 func() int · 106 []func() int · 107 func(...collate.digit) (int, bool) · 108 struct { n int; lo int; hi int; bits int } · 109 collate.digit · 113 map[int]bool · 114 rooms.set · 117 map[int]int · 122 func(func(api.Patch) bool) · 123 iter.Seq[kinesphere/api.Patch] · 126 *api.Sign · 127 func(int) int · 128 []bool · 131 func(func(api.Right) bool) · 132 iter.Seq[kinesphere/api.Right] · 136 slices.sortedHint · 144 uint64 · 146 []collate.digit · 147 *int · 148 [9]*int · 151 func(api.Sign, int) int · 155 func(api.Patch) bool · 159 map[int]api.Right · 160 map[int]func(api.Right, map[int]api.Right) bool · 162 func(api.Right, map[int]api.Right) bool · 165 slices.xorshift · 182 *slices.xorshift · 186 iter.Seq[uint] · 201 *uint8 -/
def tt : List (TypeId × TI) := [
 (2, ⟨.int .i64, 1, 8, .int .i64 (0)⟩),
 (3, ⟨.int .i64, 1, 8, .int .i64 (0)⟩),
 (4, ⟨.bool, 1, 1, .bool false⟩),
 (5, ⟨.int .u8, 1, 1, .int .u8 (0)⟩),
 (9, ⟨.str, 1, 16, .string ⟨#[]⟩⟩),
 (12, ⟨.int .u64, 1, 8, .int .u64 (0)⟩),
 (13, ⟨.struct [(9, 0), (12, 1)], 2, 24, .agg ⟨[.string ⟨#[]⟩, .int .u64 (0)]⟩⟩),
 (19, ⟨.struct [(17, 0)], 1, 8, .agg ⟨[.pointer none]⟩⟩),
 (20, ⟨.other, 1, 16, .nilIface⟩),
 (21, ⟨.int .i32, 1, 4, .int .i32 (0)⟩),
 (22, ⟨.slice 32, 1, 24, .slice none 0 0⟩),
 (23, ⟨.int .u32, 1, 4, .int .u32 (0)⟩),
 (24, ⟨.slice 58, 1, 24, .slice none 0 0⟩),
 (27, ⟨.slice 34, 1, 24, .slice none 0 0⟩),
 (28, ⟨.slice 3, 1, 24, .slice none 0 0⟩),
 (29, ⟨.struct [(3, 0), (3, 1)], 2, 16, .agg ⟨[.int .i64 (0), .int .i64 (0)]⟩⟩),
 (30, ⟨.struct [(3, 0), (3, 1)], 2, 16, .agg ⟨[.int .i64 (0), .int .i64 (0)]⟩⟩),
 (31, ⟨.struct [(3, 0), (3, 1), (3, 2), (3, 3), (3, 4), (3, 5), (3, 6), (3, 7), (3, 8), (3, 9), (30, 10), (30, 12)], 14, 112, .agg ⟨[.int .i64 (0), .int .i64 (0), .int .i64 (0), .int .i64 (0), .int .i64 (0), .int .i64 (0), .int .i64 (0), .int .i64 (0), .int .i64 (0), .int .i64 (0), .int .i64 (0), .int .i64 (0), .int .i64 (0), .int .i64 (0)]⟩⟩),
 (32, ⟨.struct [(3, 0), (3, 1), (3, 2), (3, 3), (3, 4), (3, 5), (3, 6), (3, 7), (3, 8), (3, 9), (30, 10), (30, 12)], 14, 112, .agg ⟨[.int .i64 (0), .int .i64 (0), .int .i64 (0), .int .i64 (0), .int .i64 (0), .int .i64 (0), .int .i64 (0), .int .i64 (0), .int .i64 (0), .int .i64 (0), .int .i64 (0), .int .i64 (0), .int .i64 (0), .int .i64 (0)]⟩⟩),
 (33, ⟨.struct [(3, 0), (3, 1), (3, 2), (3, 3), (32, 4), (28, 18)], 19, 168, .agg ⟨[.int .i64 (0), .int .i64 (0), .int .i64 (0), .int .i64 (0), .int .i64 (0), .int .i64 (0), .int .i64 (0), .int .i64 (0), .int .i64 (0), .int .i64 (0), .int .i64 (0), .int .i64 (0), .int .i64 (0), .int .i64 (0), .int .i64 (0), .int .i64 (0), .int .i64 (0), .int .i64 (0), .slice none 0 0]⟩⟩),
 (34, ⟨.struct [(3, 0), (3, 1), (3, 2), (3, 3), (32, 4), (28, 18)], 19, 168, .agg ⟨[.int .i64 (0), .int .i64 (0), .int .i64 (0), .int .i64 (0), .int .i64 (0), .int .i64 (0), .int .i64 (0), .int .i64 (0), .int .i64 (0), .int .i64 (0), .int .i64 (0), .int .i64 (0), .int .i64 (0), .int .i64 (0), .int .i64 (0), .int .i64 (0), .int .i64 (0), .int .i64 (0), .slice none 0 0]⟩⟩),
 (35, ⟨.int .i64, 1, 8, .int .i64 (0)⟩),
 (42, ⟨.slice 54, 1, 24, .slice none 0 0⟩),
 (49, ⟨.slice 22, 1, 24, .slice none 0 0⟩),
 (54, ⟨.array 2 3, 2, 16, .agg ⟨[.int .i64 (0), .int .i64 (0)]⟩⟩),
 (57, ⟨.struct [(3, 0), (3, 1), (3, 2), (3, 3), (3, 4), (3, 5), (9, 6), (9, 7), (3, 8), (3, 9), (3, 10)], 11, 104, .agg ⟨[.int .i64 (0), .int .i64 (0), .int .i64 (0), .int .i64 (0), .int .i64 (0), .int .i64 (0), .string ⟨#[]⟩, .string ⟨#[]⟩, .int .i64 (0), .int .i64 (0), .int .i64 (0)]⟩⟩),
 (58, ⟨.struct [(3, 0), (3, 1), (3, 2), (3, 3), (3, 4), (3, 5), (9, 6), (9, 7), (3, 8), (3, 9), (3, 10)], 11, 104, .agg ⟨[.int .i64 (0), .int .i64 (0), .int .i64 (0), .int .i64 (0), .int .i64 (0), .int .i64 (0), .string ⟨#[]⟩, .string ⟨#[]⟩, .int .i64 (0), .int .i64 (0), .int .i64 (0)]⟩⟩),
 (61, ⟨.other, 1, 8, .nilFunc⟩),
 (67, ⟨.slice 28, 1, 24, .slice none 0 0⟩),
 (70, ⟨.map 3 114, 1, 8, .map none⟩),
 (71, ⟨.map 54 27, 1, 8, .map none⟩),
 (72, ⟨.map 3 28, 1, 8, .map none⟩),
 (73, ⟨.struct [(70, 0), (71, 1), (72, 2), (22, 3)], 4, 48, .agg ⟨[.map none, .map none, .map none, .slice none 0 0]⟩⟩),
 (74, ⟨.struct [(70, 0), (71, 1), (72, 2), (22, 3)], 4, 48, .agg ⟨[.map none, .map none, .map none, .slice none 0 0]⟩⟩),
 (80, ⟨.map 54 3, 1, 8, .map none⟩),
 (81, ⟨.other, 1, 8, .nilFunc⟩),
 (86, ⟨.slice 128, 1, 24, .slice none 0 0⟩),
 (87, ⟨.slice 128, 1, 24, .slice none 0 0⟩),
 (92, ⟨.other, 1, 8, .nilFunc⟩),
 (95, ⟨.map 99 4, 1, 8, .map none⟩),
 (98, ⟨.struct [(3, 0), (3, 1)], 2, 16, .agg ⟨[.int .i64 (0), .int .i64 (0)]⟩⟩),
 (99, ⟨.struct [(3, 0), (3, 1)], 2, 16, .agg ⟨[.int .i64 (0), .int .i64 (0)]⟩⟩),
 (103, ⟨.int .u64, 1, 8, .int .u64 (0)⟩),
 (104, ⟨.other, 1, 8, .nilFunc⟩),
 (106, ⟨.slice 104, 1, 24, .slice none 0 0⟩),
 (107, ⟨.other, 1, 8, .nilFunc⟩),
 (108, ⟨.struct [(3, 0), (3, 1), (3, 2), (3, 3)], 4, 32, .agg ⟨[.int .i64 (0), .int .i64 (0), .int .i64 (0), .int .i64 (0)]⟩⟩),
 (109, ⟨.struct [(3, 0), (3, 1), (3, 2), (3, 3)], 4, 32, .agg ⟨[.int .i64 (0), .int .i64 (0), .int .i64 (0), .int .i64 (0)]⟩⟩),
 (113, ⟨.map 3 4, 1, 8, .map none⟩),
 (114, ⟨.map 3 4, 1, 8, .map none⟩),
 (117, ⟨.map 3 3, 1, 8, .map none⟩),
 (122, ⟨.other, 1, 8, .nilFunc⟩),
 (123, ⟨.other, 1, 8, .nilFunc⟩),
 (126, ⟨.other, 1, 8, .pointer none⟩),
 (127, ⟨.other, 1, 8, .nilFunc⟩),
 (128, ⟨.slice 4, 1, 24, .slice none 0 0⟩),
 (131, ⟨.other, 1, 8, .nilFunc⟩),
 (132, ⟨.other, 1, 8, .nilFunc⟩),
 (136, ⟨.int .i64, 1, 8, .int .i64 (0)⟩),
 (144, ⟨.int .u64, 1, 8, .int .u64 (0)⟩),
 (146, ⟨.slice 109, 1, 24, .slice none 0 0⟩),
 (147, ⟨.other, 1, 8, .pointer none⟩),
 (148, ⟨.array 9 147, 9, 72, .agg ⟨[.pointer none, .pointer none, .pointer none, .pointer none, .pointer none, .pointer none, .pointer none, .pointer none, .pointer none]⟩⟩),
 (151, ⟨.other, 1, 8, .nilFunc⟩),
 (155, ⟨.other, 1, 8, .nilFunc⟩),
 (159, ⟨.map 3 58, 1, 8, .map none⟩),
 (160, ⟨.map 3 162, 1, 8, .map none⟩),
 (162, ⟨.other, 1, 8, .nilFunc⟩),
 (165, ⟨.int .u64, 1, 8, .int .u64 (0)⟩),
 (182, ⟨.other, 1, 8, .pointer none⟩),
 (186, ⟨.other, 1, 8, .nilFunc⟩),
 (201, ⟨.other, 1, 8, .pointer none⟩)]
theorem ti2 : TIOk Tryz.prog 2 ⟨.int .i64, 1, 8, .int .i64 (0)⟩ := ti_mk (show Tryz.prog.underlying 2 = some (.int .i64) by kernel_rfl) (by kernel_rfl)
theorem ti3 : TIOk Tryz.prog 3 ⟨.int .i64, 1, 8, .int .i64 (0)⟩ := ti_mk (show Tryz.prog.underlying 3 = some (.int .i64) by kernel_rfl) (by kernel_rfl)
theorem ti4 : TIOk Tryz.prog 4 ⟨.bool, 1, 1, .bool false⟩ := ti_mk (show Tryz.prog.underlying 4 = some (.bool) by kernel_rfl) (by kernel_rfl)
theorem ti5 : TIOk Tryz.prog 5 ⟨.int .u8, 1, 1, .int .u8 (0)⟩ := ti_mk (show Tryz.prog.underlying 5 = some (.int .u8) by kernel_rfl) (by kernel_rfl)
theorem ti9 : TIOk Tryz.prog 9 ⟨.str, 1, 16, .string ⟨#[]⟩⟩ := ti_mk (show Tryz.prog.underlying 9 = some (.string) by kernel_rfl) (by kernel_rfl)
theorem ti12 : TIOk Tryz.prog 12 ⟨.int .u64, 1, 8, .int .u64 (0)⟩ := ti_mk (show Tryz.prog.underlying 12 = some (.int .u64) by kernel_rfl) (by kernel_rfl)
theorem ti13 : TIOk Tryz.prog 13 ⟨.struct [(9, 0), (12, 1)], 2, 24, .agg ⟨[.string ⟨#[]⟩, .int .u64 (0)]⟩⟩ := ti_mk (tk_struct (by kernel_rfl)) (by kernel_rfl)
theorem ti19 : TIOk Tryz.prog 19 ⟨.struct [(17, 0)], 1, 8, .agg ⟨[.pointer none]⟩⟩ := ti_mk (tk_struct (by kernel_rfl)) (by kernel_rfl)
theorem ti20 : TIOk Tryz.prog 20 ⟨.other, 1, 16, .nilIface⟩ := ti_mk (tk_other (by kernel_rfl)) (by kernel_rfl)
theorem ti21 : TIOk Tryz.prog 21 ⟨.int .i32, 1, 4, .int .i32 (0)⟩ := ti_mk (show Tryz.prog.underlying 21 = some (.int .i32) by kernel_rfl) (by kernel_rfl)
theorem ti22 : TIOk Tryz.prog 22 ⟨.slice 32, 1, 24, .slice none 0 0⟩ := ti_mk (show Tryz.prog.underlying 22 = some (.slice 32) by kernel_rfl) (by kernel_rfl)
theorem ti23 : TIOk Tryz.prog 23 ⟨.int .u32, 1, 4, .int .u32 (0)⟩ := ti_mk (show Tryz.prog.underlying 23 = some (.int .u32) by kernel_rfl) (by kernel_rfl)
theorem ti24 : TIOk Tryz.prog 24 ⟨.slice 58, 1, 24, .slice none 0 0⟩ := ti_mk (show Tryz.prog.underlying 24 = some (.slice 58) by kernel_rfl) (by kernel_rfl)
theorem ti27 : TIOk Tryz.prog 27 ⟨.slice 34, 1, 24, .slice none 0 0⟩ := ti_mk (show Tryz.prog.underlying 27 = some (.slice 34) by kernel_rfl) (by kernel_rfl)
theorem ti28 : TIOk Tryz.prog 28 ⟨.slice 3, 1, 24, .slice none 0 0⟩ := ti_mk (show Tryz.prog.underlying 28 = some (.slice 3) by kernel_rfl) (by kernel_rfl)
theorem ti29 : TIOk Tryz.prog 29 ⟨.struct [(3, 0), (3, 1)], 2, 16, .agg ⟨[.int .i64 (0), .int .i64 (0)]⟩⟩ := ti_mk (tk_struct (by kernel_rfl)) (by kernel_rfl)
theorem ti30 : TIOk Tryz.prog 30 ⟨.struct [(3, 0), (3, 1)], 2, 16, .agg ⟨[.int .i64 (0), .int .i64 (0)]⟩⟩ := ti_mk (tk_struct (by kernel_rfl)) (by kernel_rfl)
theorem ti31 : TIOk Tryz.prog 31 ⟨.struct [(3, 0), (3, 1), (3, 2), (3, 3), (3, 4), (3, 5), (3, 6), (3, 7), (3, 8), (3, 9), (30, 10), (30, 12)], 14, 112, .agg ⟨[.int .i64 (0), .int .i64 (0), .int .i64 (0), .int .i64 (0), .int .i64 (0), .int .i64 (0), .int .i64 (0), .int .i64 (0), .int .i64 (0), .int .i64 (0), .int .i64 (0), .int .i64 (0), .int .i64 (0), .int .i64 (0)]⟩⟩ := ti_mk (tk_struct (by kernel_rfl)) (by kernel_rfl)
theorem ti32 : TIOk Tryz.prog 32 ⟨.struct [(3, 0), (3, 1), (3, 2), (3, 3), (3, 4), (3, 5), (3, 6), (3, 7), (3, 8), (3, 9), (30, 10), (30, 12)], 14, 112, .agg ⟨[.int .i64 (0), .int .i64 (0), .int .i64 (0), .int .i64 (0), .int .i64 (0), .int .i64 (0), .int .i64 (0), .int .i64 (0), .int .i64 (0), .int .i64 (0), .int .i64 (0), .int .i64 (0), .int .i64 (0), .int .i64 (0)]⟩⟩ := ti_mk (tk_struct (by kernel_rfl)) (by kernel_rfl)
theorem ti33 : TIOk Tryz.prog 33 ⟨.struct [(3, 0), (3, 1), (3, 2), (3, 3), (32, 4), (28, 18)], 19, 168, .agg ⟨[.int .i64 (0), .int .i64 (0), .int .i64 (0), .int .i64 (0), .int .i64 (0), .int .i64 (0), .int .i64 (0), .int .i64 (0), .int .i64 (0), .int .i64 (0), .int .i64 (0), .int .i64 (0), .int .i64 (0), .int .i64 (0), .int .i64 (0), .int .i64 (0), .int .i64 (0), .int .i64 (0), .slice none 0 0]⟩⟩ := ti_mk (tk_struct (by kernel_rfl)) (by kernel_rfl)
theorem ti34 : TIOk Tryz.prog 34 ⟨.struct [(3, 0), (3, 1), (3, 2), (3, 3), (32, 4), (28, 18)], 19, 168, .agg ⟨[.int .i64 (0), .int .i64 (0), .int .i64 (0), .int .i64 (0), .int .i64 (0), .int .i64 (0), .int .i64 (0), .int .i64 (0), .int .i64 (0), .int .i64 (0), .int .i64 (0), .int .i64 (0), .int .i64 (0), .int .i64 (0), .int .i64 (0), .int .i64 (0), .int .i64 (0), .int .i64 (0), .slice none 0 0]⟩⟩ := ti_mk (tk_struct (by kernel_rfl)) (by kernel_rfl)
theorem ti35 : TIOk Tryz.prog 35 ⟨.int .i64, 1, 8, .int .i64 (0)⟩ := ti_mk (show Tryz.prog.underlying 35 = some (.int .i64) by kernel_rfl) (by kernel_rfl)
theorem ti42 : TIOk Tryz.prog 42 ⟨.slice 54, 1, 24, .slice none 0 0⟩ := ti_mk (show Tryz.prog.underlying 42 = some (.slice 54) by kernel_rfl) (by kernel_rfl)
theorem ti49 : TIOk Tryz.prog 49 ⟨.slice 22, 1, 24, .slice none 0 0⟩ := ti_mk (show Tryz.prog.underlying 49 = some (.slice 22) by kernel_rfl) (by kernel_rfl)
theorem ti54 : TIOk Tryz.prog 54 ⟨.array 2 3, 2, 16, .agg ⟨[.int .i64 (0), .int .i64 (0)]⟩⟩ := ti_mk (show Tryz.prog.underlying 54 = some (.array 2 3) by kernel_rfl) (by kernel_rfl)
theorem ti57 : TIOk Tryz.prog 57 ⟨.struct [(3, 0), (3, 1), (3, 2), (3, 3), (3, 4), (3, 5), (9, 6), (9, 7), (3, 8), (3, 9), (3, 10)], 11, 104, .agg ⟨[.int .i64 (0), .int .i64 (0), .int .i64 (0), .int .i64 (0), .int .i64 (0), .int .i64 (0), .string ⟨#[]⟩, .string ⟨#[]⟩, .int .i64 (0), .int .i64 (0), .int .i64 (0)]⟩⟩ := ti_mk (tk_struct (by kernel_rfl)) (by kernel_rfl)
theorem ti58 : TIOk Tryz.prog 58 ⟨.struct [(3, 0), (3, 1), (3, 2), (3, 3), (3, 4), (3, 5), (9, 6), (9, 7), (3, 8), (3, 9), (3, 10)], 11, 104, .agg ⟨[.int .i64 (0), .int .i64 (0), .int .i64 (0), .int .i64 (0), .int .i64 (0), .int .i64 (0), .string ⟨#[]⟩, .string ⟨#[]⟩, .int .i64 (0), .int .i64 (0), .int .i64 (0)]⟩⟩ := ti_mk (tk_struct (by kernel_rfl)) (by kernel_rfl)
theorem ti61 : TIOk Tryz.prog 61 ⟨.other, 1, 8, .nilFunc⟩ := ti_mk (tk_other (by kernel_rfl)) (by kernel_rfl)
theorem ti67 : TIOk Tryz.prog 67 ⟨.slice 28, 1, 24, .slice none 0 0⟩ := ti_mk (show Tryz.prog.underlying 67 = some (.slice 28) by kernel_rfl) (by kernel_rfl)
theorem ti70 : TIOk Tryz.prog 70 ⟨.map 3 114, 1, 8, .map none⟩ := ti_mk (show Tryz.prog.underlying 70 = some (.map 3 114) by kernel_rfl) (by kernel_rfl)
theorem ti71 : TIOk Tryz.prog 71 ⟨.map 54 27, 1, 8, .map none⟩ := ti_mk (show Tryz.prog.underlying 71 = some (.map 54 27) by kernel_rfl) (by kernel_rfl)
theorem ti72 : TIOk Tryz.prog 72 ⟨.map 3 28, 1, 8, .map none⟩ := ti_mk (show Tryz.prog.underlying 72 = some (.map 3 28) by kernel_rfl) (by kernel_rfl)
theorem ti73 : TIOk Tryz.prog 73 ⟨.struct [(70, 0), (71, 1), (72, 2), (22, 3)], 4, 48, .agg ⟨[.map none, .map none, .map none, .slice none 0 0]⟩⟩ := ti_mk (tk_struct (by kernel_rfl)) (by kernel_rfl)
theorem ti74 : TIOk Tryz.prog 74 ⟨.struct [(70, 0), (71, 1), (72, 2), (22, 3)], 4, 48, .agg ⟨[.map none, .map none, .map none, .slice none 0 0]⟩⟩ := ti_mk (tk_struct (by kernel_rfl)) (by kernel_rfl)
theorem ti80 : TIOk Tryz.prog 80 ⟨.map 54 3, 1, 8, .map none⟩ := ti_mk (show Tryz.prog.underlying 80 = some (.map 54 3) by kernel_rfl) (by kernel_rfl)
theorem ti81 : TIOk Tryz.prog 81 ⟨.other, 1, 8, .nilFunc⟩ := ti_mk (tk_other (by kernel_rfl)) (by kernel_rfl)
theorem ti86 : TIOk Tryz.prog 86 ⟨.slice 128, 1, 24, .slice none 0 0⟩ := ti_mk (show Tryz.prog.underlying 86 = some (.slice 128) by kernel_rfl) (by kernel_rfl)
theorem ti87 : TIOk Tryz.prog 87 ⟨.slice 128, 1, 24, .slice none 0 0⟩ := ti_mk (show Tryz.prog.underlying 87 = some (.slice 128) by kernel_rfl) (by kernel_rfl)
theorem ti92 : TIOk Tryz.prog 92 ⟨.other, 1, 8, .nilFunc⟩ := ti_mk (tk_other (by kernel_rfl)) (by kernel_rfl)
theorem ti95 : TIOk Tryz.prog 95 ⟨.map 99 4, 1, 8, .map none⟩ := ti_mk (show Tryz.prog.underlying 95 = some (.map 99 4) by kernel_rfl) (by kernel_rfl)
theorem ti98 : TIOk Tryz.prog 98 ⟨.struct [(3, 0), (3, 1)], 2, 16, .agg ⟨[.int .i64 (0), .int .i64 (0)]⟩⟩ := ti_mk (tk_struct (by kernel_rfl)) (by kernel_rfl)
theorem ti99 : TIOk Tryz.prog 99 ⟨.struct [(3, 0), (3, 1)], 2, 16, .agg ⟨[.int .i64 (0), .int .i64 (0)]⟩⟩ := ti_mk (tk_struct (by kernel_rfl)) (by kernel_rfl)
theorem ti103 : TIOk Tryz.prog 103 ⟨.int .u64, 1, 8, .int .u64 (0)⟩ := ti_mk (show Tryz.prog.underlying 103 = some (.int .u64) by kernel_rfl) (by kernel_rfl)
theorem ti104 : TIOk Tryz.prog 104 ⟨.other, 1, 8, .nilFunc⟩ := ti_mk (tk_other (by kernel_rfl)) (by kernel_rfl)
theorem ti106 : TIOk Tryz.prog 106 ⟨.slice 104, 1, 24, .slice none 0 0⟩ := ti_mk (show Tryz.prog.underlying 106 = some (.slice 104) by kernel_rfl) (by kernel_rfl)
theorem ti107 : TIOk Tryz.prog 107 ⟨.other, 1, 8, .nilFunc⟩ := ti_mk (tk_other (by kernel_rfl)) (by kernel_rfl)
theorem ti108 : TIOk Tryz.prog 108 ⟨.struct [(3, 0), (3, 1), (3, 2), (3, 3)], 4, 32, .agg ⟨[.int .i64 (0), .int .i64 (0), .int .i64 (0), .int .i64 (0)]⟩⟩ := ti_mk (tk_struct (by kernel_rfl)) (by kernel_rfl)
theorem ti109 : TIOk Tryz.prog 109 ⟨.struct [(3, 0), (3, 1), (3, 2), (3, 3)], 4, 32, .agg ⟨[.int .i64 (0), .int .i64 (0), .int .i64 (0), .int .i64 (0)]⟩⟩ := ti_mk (tk_struct (by kernel_rfl)) (by kernel_rfl)
theorem ti113 : TIOk Tryz.prog 113 ⟨.map 3 4, 1, 8, .map none⟩ := ti_mk (show Tryz.prog.underlying 113 = some (.map 3 4) by kernel_rfl) (by kernel_rfl)
theorem ti114 : TIOk Tryz.prog 114 ⟨.map 3 4, 1, 8, .map none⟩ := ti_mk (show Tryz.prog.underlying 114 = some (.map 3 4) by kernel_rfl) (by kernel_rfl)
theorem ti117 : TIOk Tryz.prog 117 ⟨.map 3 3, 1, 8, .map none⟩ := ti_mk (show Tryz.prog.underlying 117 = some (.map 3 3) by kernel_rfl) (by kernel_rfl)
theorem ti122 : TIOk Tryz.prog 122 ⟨.other, 1, 8, .nilFunc⟩ := ti_mk (tk_other (by kernel_rfl)) (by kernel_rfl)
theorem ti123 : TIOk Tryz.prog 123 ⟨.other, 1, 8, .nilFunc⟩ := ti_mk (tk_other (by kernel_rfl)) (by kernel_rfl)
theorem ti126 : TIOk Tryz.prog 126 ⟨.other, 1, 8, .pointer none⟩ := ti_mk (tk_other (by kernel_rfl)) (by kernel_rfl)
theorem ti127 : TIOk Tryz.prog 127 ⟨.other, 1, 8, .nilFunc⟩ := ti_mk (tk_other (by kernel_rfl)) (by kernel_rfl)
theorem ti128 : TIOk Tryz.prog 128 ⟨.slice 4, 1, 24, .slice none 0 0⟩ := ti_mk (show Tryz.prog.underlying 128 = some (.slice 4) by kernel_rfl) (by kernel_rfl)
theorem ti131 : TIOk Tryz.prog 131 ⟨.other, 1, 8, .nilFunc⟩ := ti_mk (tk_other (by kernel_rfl)) (by kernel_rfl)
theorem ti132 : TIOk Tryz.prog 132 ⟨.other, 1, 8, .nilFunc⟩ := ti_mk (tk_other (by kernel_rfl)) (by kernel_rfl)
theorem ti136 : TIOk Tryz.prog 136 ⟨.int .i64, 1, 8, .int .i64 (0)⟩ := ti_mk (show Tryz.prog.underlying 136 = some (.int .i64) by kernel_rfl) (by kernel_rfl)
theorem ti144 : TIOk Tryz.prog 144 ⟨.int .u64, 1, 8, .int .u64 (0)⟩ := ti_mk (show Tryz.prog.underlying 144 = some (.int .u64) by kernel_rfl) (by kernel_rfl)
theorem ti146 : TIOk Tryz.prog 146 ⟨.slice 109, 1, 24, .slice none 0 0⟩ := ti_mk (show Tryz.prog.underlying 146 = some (.slice 109) by kernel_rfl) (by kernel_rfl)
theorem ti147 : TIOk Tryz.prog 147 ⟨.other, 1, 8, .pointer none⟩ := ti_mk (tk_other (by kernel_rfl)) (by kernel_rfl)
theorem ti148 : TIOk Tryz.prog 148 ⟨.array 9 147, 9, 72, .agg ⟨[.pointer none, .pointer none, .pointer none, .pointer none, .pointer none, .pointer none, .pointer none, .pointer none, .pointer none]⟩⟩ := ti_mk (show Tryz.prog.underlying 148 = some (.array 9 147) by kernel_rfl) (by kernel_rfl)
theorem ti151 : TIOk Tryz.prog 151 ⟨.other, 1, 8, .nilFunc⟩ := ti_mk (tk_other (by kernel_rfl)) (by kernel_rfl)
theorem ti155 : TIOk Tryz.prog 155 ⟨.other, 1, 8, .nilFunc⟩ := ti_mk (tk_other (by kernel_rfl)) (by kernel_rfl)
theorem ti159 : TIOk Tryz.prog 159 ⟨.map 3 58, 1, 8, .map none⟩ := ti_mk (show Tryz.prog.underlying 159 = some (.map 3 58) by kernel_rfl) (by kernel_rfl)
theorem ti160 : TIOk Tryz.prog 160 ⟨.map 3 162, 1, 8, .map none⟩ := ti_mk (show Tryz.prog.underlying 160 = some (.map 3 162) by kernel_rfl) (by kernel_rfl)
theorem ti162 : TIOk Tryz.prog 162 ⟨.other, 1, 8, .nilFunc⟩ := ti_mk (tk_other (by kernel_rfl)) (by kernel_rfl)
theorem ti165 : TIOk Tryz.prog 165 ⟨.int .u64, 1, 8, .int .u64 (0)⟩ := ti_mk (show Tryz.prog.underlying 165 = some (.int .u64) by kernel_rfl) (by kernel_rfl)
theorem ti182 : TIOk Tryz.prog 182 ⟨.other, 1, 8, .pointer none⟩ := ti_mk (tk_other (by kernel_rfl)) (by kernel_rfl)
theorem ti186 : TIOk Tryz.prog 186 ⟨.other, 1, 8, .nilFunc⟩ := ti_mk (tk_other (by kernel_rfl)) (by kernel_rfl)
theorem ti201 : TIOk Tryz.prog 201 ⟨.other, 1, 8, .pointer none⟩ := ti_mk (tk_other (by kernel_rfl)) (by kernel_rfl)
instance : TT Tryz.prog tt := ⟨tt_cons ti2 <| tt_cons ti3 <| tt_cons ti4 <| tt_cons ti5 <| tt_cons ti9 <| tt_cons ti12 <| tt_cons ti13 <| tt_cons ti19 <| tt_cons ti20 <| tt_cons ti21 <| tt_cons ti22 <| tt_cons ti23 <| tt_cons ti24 <| tt_cons ti27 <| tt_cons ti28 <| tt_cons ti29 <| tt_cons ti30 <| tt_cons ti31 <| tt_cons ti32 <| tt_cons ti33 <| tt_cons ti34 <| tt_cons ti35 <| tt_cons ti42 <| tt_cons ti49 <| tt_cons ti54 <| tt_cons ti57 <| tt_cons ti58 <| tt_cons ti61 <| tt_cons ti67 <| tt_cons ti70 <| tt_cons ti71 <| tt_cons ti72 <| tt_cons ti73 <| tt_cons ti74 <| tt_cons ti80 <| tt_cons ti81 <| tt_cons ti86 <| tt_cons ti87 <| tt_cons ti92 <| tt_cons ti95 <| tt_cons ti98 <| tt_cons ti99 <| tt_cons ti103 <| tt_cons ti104 <| tt_cons ti106 <| tt_cons ti107 <| tt_cons ti108 <| tt_cons ti109 <| tt_cons ti113 <| tt_cons ti114 <| tt_cons ti117 <| tt_cons ti122 <| tt_cons ti123 <| tt_cons ti126 <| tt_cons ti127 <| tt_cons ti128 <| tt_cons ti131 <| tt_cons ti132 <| tt_cons ti136 <| tt_cons ti144 <| tt_cons ti146 <| tt_cons ti147 <| tt_cons ti148 <| tt_cons ti151 <| tt_cons ti155 <| tt_cons ti159 <| tt_cons ti160 <| tt_cons ti162 <| tt_cons ti165 <| tt_cons ti182 <| tt_cons ti186 <| tt_cons ti201 <| tt_nil⟩
instance : Ent Tryz.prog 3 := ⟨ent_of Tryz.func3 (by kernel_rfl) (by kernel_rfl)⟩
instance : Ent Tryz.prog 4 := ⟨ent_of Tryz.func4 (by kernel_rfl) (by kernel_rfl)⟩
instance : Ent Tryz.prog 5 := ⟨ent_of Tryz.func5 (by kernel_rfl) (by kernel_rfl)⟩
instance : Ent Tryz.prog 6 := ⟨ent_of Tryz.func6 (by kernel_rfl) (by kernel_rfl)⟩
instance : Ent Tryz.prog 7 := ⟨ent_of Tryz.func7 (by kernel_rfl) (by kernel_rfl)⟩
instance : Ent Tryz.prog 8 := ⟨ent_of Tryz.func8 (by kernel_rfl) (by kernel_rfl)⟩
instance : Ent Tryz.prog 9 := ⟨ent_of Tryz.func9 (by kernel_rfl) (by kernel_rfl)⟩
instance : Ent Tryz.prog 10 := ⟨ent_of Tryz.func10 (by kernel_rfl) (by kernel_rfl)⟩
instance : Ent Tryz.prog 11 := ⟨ent_of Tryz.func11 (by kernel_rfl) (by kernel_rfl)⟩
instance : Ent Tryz.prog 12 := ⟨ent_of Tryz.func12 (by kernel_rfl) (by kernel_rfl)⟩
instance : Ent Tryz.prog 13 := ⟨ent_of Tryz.func13 (by kernel_rfl) (by kernel_rfl)⟩
instance : Ent Tryz.prog 14 := ⟨ent_of Tryz.func14 (by kernel_rfl) (by kernel_rfl)⟩
instance : Ent Tryz.prog 15 := ⟨ent_of Tryz.func15 (by kernel_rfl) (by kernel_rfl)⟩
instance : Ent Tryz.prog 16 := ⟨ent_of Tryz.func16 (by kernel_rfl) (by kernel_rfl)⟩
instance : Ent Tryz.prog 17 := ⟨ent_of Tryz.func17 (by kernel_rfl) (by kernel_rfl)⟩
instance : Ent Tryz.prog 18 := ⟨ent_of Tryz.func18 (by kernel_rfl) (by kernel_rfl)⟩
instance : Ent Tryz.prog 19 := ⟨ent_of Tryz.func19 (by kernel_rfl) (by kernel_rfl)⟩
instance : Ent Tryz.prog 20 := ⟨ent_of Tryz.func20 (by kernel_rfl) (by kernel_rfl)⟩
instance : Ent Tryz.prog 21 := ⟨ent_of Tryz.func21 (by kernel_rfl) (by kernel_rfl)⟩
instance : Ent Tryz.prog 22 := ⟨ent_of Tryz.func22 (by kernel_rfl) (by kernel_rfl)⟩
instance : Ent Tryz.prog 23 := ⟨ent_of Tryz.func23 (by kernel_rfl) (by kernel_rfl)⟩
instance : Ent Tryz.prog 24 := ⟨ent_of Tryz.func24 (by kernel_rfl) (by kernel_rfl)⟩
instance : Ent Tryz.prog 25 := ⟨ent_of Tryz.func25 (by kernel_rfl) (by kernel_rfl)⟩
instance : Ent Tryz.prog 26 := ⟨ent_of Tryz.func26 (by kernel_rfl) (by kernel_rfl)⟩
instance : Ent Tryz.prog 27 := ⟨ent_of Tryz.func27 (by kernel_rfl) (by kernel_rfl)⟩
instance : Ent Tryz.prog 28 := ⟨ent_of Tryz.func28 (by kernel_rfl) (by kernel_rfl)⟩
instance : Ent Tryz.prog 29 := ⟨ent_of Tryz.func29 (by kernel_rfl) (by kernel_rfl)⟩
instance : Ent Tryz.prog 30 := ⟨ent_of Tryz.func30 (by kernel_rfl) (by kernel_rfl)⟩
instance : Ent Tryz.prog 31 := ⟨ent_of Tryz.func31 (by kernel_rfl) (by kernel_rfl)⟩
instance : Ent Tryz.prog 32 := ⟨ent_of Tryz.func32 (by kernel_rfl) (by kernel_rfl)⟩
instance : Ent Tryz.prog 33 := ⟨ent_of Tryz.func33 (by kernel_rfl) (by kernel_rfl)⟩
instance : Ent Tryz.prog 34 := ⟨ent_of Tryz.func34 (by kernel_rfl) (by kernel_rfl)⟩
instance : Ent Tryz.prog 35 := ⟨ent_of Tryz.func35 (by kernel_rfl) (by kernel_rfl)⟩
instance : Ent Tryz.prog 36 := ⟨ent_of Tryz.func36 (by kernel_rfl) (by kernel_rfl)⟩
instance : Ent Tryz.prog 37 := ⟨ent_of Tryz.func37 (by kernel_rfl) (by kernel_rfl)⟩
instance : Ent Tryz.prog 38 := ⟨ent_of Tryz.func38 (by kernel_rfl) (by kernel_rfl)⟩
instance : Ent Tryz.prog 39 := ⟨ent_of Tryz.func39 (by kernel_rfl) (by kernel_rfl)⟩
instance : Ent Tryz.prog 40 := ⟨ent_of Tryz.func40 (by kernel_rfl) (by kernel_rfl)⟩
instance : Ent Tryz.prog 41 := ⟨ent_of Tryz.func41 (by kernel_rfl) (by kernel_rfl)⟩
instance : Ent Tryz.prog 42 := ⟨ent_of Tryz.func42 (by kernel_rfl) (by kernel_rfl)⟩
instance : Ent Tryz.prog 45 := ⟨ent_of Tryz.func45 (by kernel_rfl) (by kernel_rfl)⟩
instance : Ent Tryz.prog 46 := ⟨ent_of Tryz.func46 (by kernel_rfl) (by kernel_rfl)⟩
instance : Ent Tryz.prog 47 := ⟨ent_of Tryz.func47 (by kernel_rfl) (by kernel_rfl)⟩
instance : Ent Tryz.prog 48 := ⟨ent_of Tryz.func48 (by kernel_rfl) (by kernel_rfl)⟩
instance : Ent Tryz.prog 49 := ⟨ent_of Tryz.func49 (by kernel_rfl) (by kernel_rfl)⟩
instance : Ent Tryz.prog 52 := ⟨ent_of Tryz.func52 (by kernel_rfl) (by kernel_rfl)⟩
instance : Ent Tryz.prog 53 := ⟨ent_of Tryz.func53 (by kernel_rfl) (by kernel_rfl)⟩
instance : Ent Tryz.prog 54 := ⟨ent_of Tryz.func54 (by kernel_rfl) (by kernel_rfl)⟩
instance : Ent Tryz.prog 56 := ⟨ent_of Tryz.func56 (by kernel_rfl) (by kernel_rfl)⟩
instance : Ent Tryz.prog 57 := ⟨ent_of Tryz.func57 (by kernel_rfl) (by kernel_rfl)⟩
instance : Ent Tryz.prog 58 := ⟨ent_of Tryz.func58 (by kernel_rfl) (by kernel_rfl)⟩
instance : Ent Tryz.prog 59 := ⟨ent_of Tryz.func59 (by kernel_rfl) (by kernel_rfl)⟩
instance : Ent Tryz.prog 60 := ⟨ent_of Tryz.func60 (by kernel_rfl) (by kernel_rfl)⟩
instance : Ent Tryz.prog 61 := ⟨ent_of Tryz.func61 (by kernel_rfl) (by kernel_rfl)⟩
instance : Ent Tryz.prog 62 := ⟨ent_of Tryz.func62 (by kernel_rfl) (by kernel_rfl)⟩
instance : Ent Tryz.prog 63 := ⟨ent_of Tryz.func63 (by kernel_rfl) (by kernel_rfl)⟩
instance : Ent Tryz.prog 64 := ⟨ent_of Tryz.func64 (by kernel_rfl) (by kernel_rfl)⟩
instance : Ent Tryz.prog 65 := ⟨ent_of Tryz.func65 (by kernel_rfl) (by kernel_rfl)⟩
instance : Ent Tryz.prog 67 := ⟨ent_of Tryz.func67 (by kernel_rfl) (by kernel_rfl)⟩
instance : Ent Tryz.prog 68 := ⟨ent_of Tryz.func68 (by kernel_rfl) (by kernel_rfl)⟩
instance : Ent Tryz.prog 69 := ⟨ent_of Tryz.func69 (by kernel_rfl) (by kernel_rfl)⟩
instance : Ent Tryz.prog 70 := ⟨ent_of Tryz.func70 (by kernel_rfl) (by kernel_rfl)⟩
instance : Ent Tryz.prog 71 := ⟨ent_of Tryz.func71 (by kernel_rfl) (by kernel_rfl)⟩
instance : Ent Tryz.prog 72 := ⟨ent_of Tryz.func72 (by kernel_rfl) (by kernel_rfl)⟩
instance : Ent Tryz.prog 83 := ⟨ent_of Tryz.func83 (by kernel_rfl) (by kernel_rfl)⟩
instance : Ent Tryz.prog 85 := ⟨ent_of Tryz.func85 (by kernel_rfl) (by kernel_rfl)⟩
instance : Ent Tryz.prog 86 := ⟨ent_of Tryz.func86 (by kernel_rfl) (by kernel_rfl)⟩
instance : Ent Tryz.prog 87 := ⟨ent_of Tryz.func87 (by kernel_rfl) (by kernel_rfl)⟩
instance : Ent Tryz.prog 88 := ⟨ent_of Tryz.func88 (by kernel_rfl) (by kernel_rfl)⟩
instance : Ent Tryz.prog 90 := ⟨ent_of Tryz.func90 (by kernel_rfl) (by kernel_rfl)⟩
instance : Ent Tryz.prog 92 := ⟨ent_of Tryz.func92 (by kernel_rfl) (by kernel_rfl)⟩
instance : Ent Tryz.prog 93 := ⟨ent_of Tryz.func93 (by kernel_rfl) (by kernel_rfl)⟩
instance : Ent Tryz.prog 94 := ⟨ent_of Tryz.func94 (by kernel_rfl) (by kernel_rfl)⟩
instance : Ent Tryz.prog 97 := ⟨ent_of Tryz.func97 (by kernel_rfl) (by kernel_rfl)⟩
instance : Ent Tryz.prog 98 := ⟨ent_of Tryz.func98 (by kernel_rfl) (by kernel_rfl)⟩
instance : Ent Tryz.prog 99 := ⟨ent_of Tryz.func99 (by kernel_rfl) (by kernel_rfl)⟩
instance : Ent Tryz.prog 105 := ⟨ent_of Tryz.func105 (by kernel_rfl) (by kernel_rfl)⟩
instance : Ent Tryz.prog 106 := ⟨ent_of Tryz.func106 (by kernel_rfl) (by kernel_rfl)⟩
instance : Ent Tryz.prog 119 := ⟨ent_of Tryz.func119 (by kernel_rfl) (by kernel_rfl)⟩
instance : Ent Tryz.prog 120 := ⟨ent_of Tryz.func120 (by kernel_rfl) (by kernel_rfl)⟩
instance : Ent Tryz.prog 121 := ⟨ent_of Tryz.func121 (by kernel_rfl) (by kernel_rfl)⟩
instance : Ent Tryz.prog 122 := ⟨ent_of Tryz.func122 (by kernel_rfl) (by kernel_rfl)⟩
instance : Ent Tryz.prog 124 := ⟨ent_of Tryz.func124 (by kernel_rfl) (by kernel_rfl)⟩
instance : Ent Tryz.prog 128 := ⟨ent_of Tryz.func128 (by kernel_rfl) (by kernel_rfl)⟩
instance : Mixed Tryz.prog := ⟨by kernel_rfl⟩
theorem eqs30 : EqS Tryz.prog 30 := ⟨by kernel_rfl, by kernel_rfl, by kernel_rfl⟩
theorem eqs32 : EqS Tryz.prog 32 := ⟨by kernel_rfl, by kernel_rfl, by kernel_rfl⟩
theorem eqs58 : EqS Tryz.prog 58 := ⟨by kernel_rfl, by kernel_rfl, by kernel_rfl⟩
theorem eqs99 : EqS Tryz.prog 99 := ⟨by kernel_rfl, by kernel_rfl, by kernel_rfl⟩
theorem eqs109 : EqS Tryz.prog 109 := ⟨by kernel_rfl, by kernel_rfl, by kernel_rfl⟩
instance : EqAll Tryz.prog [30, 32, 58, 99, 109] := ⟨eqs_cons eqs30 <| eqs_cons eqs32 <| eqs_cons eqs58 <| eqs_cons eqs99 <| eqs_cons eqs109 <| eqs_nil⟩
end R41
end Go.Proofs
