/- The seat's types and functions, as the engine wants them. Printed by gen_ty.py. -/
import Derived.Test.YtdegengehbdelaaGreatDoorProg
import Derived.Test.YtdegengehbdelaaGreatDoorEng11
set_option linter.unusedSectionVars false
set_option linter.unusedVariables false
set_option linter.unusedSimpArgs false
namespace Go.Proofs
open Go.Kin
namespace R41
/-- 2 int64 · 3 int · 4 bool · 5 uint8 · 9 string · 12 uintptr · 13 struct { msg string; addr uintptr } · 19 maps.unhashableTypeError · 20 interface {} · 21 int32 · 22 []api.Witness · 23 uint16 · 26 [][]int · 27 api.Errno · 30 []int · 36 []api.Emend · 37 struct { No int; Clades []int; Emends []api.Emend; Readings []int } · 38 api.Edition · 41 []api.Sign · 45 map[int]int · 46 []api.Reading · 47 struct { No int; Year int; Readings []api.Reading } · 48 api.Witness · 49 struct { N int; D int } · 50 api.Ratio · 51 struct { ID int; Role int; Bar int; Mark int; Kind int; Side int; Dir int; Level int; Size int; With int; From api.Ratio; To api.Ratio } · 52 api.Sign · 54 struct { Lost bool; Sign api.Sign } · 55 api.Reading · 61 [][][2]int · 62 [][2]int · 65 func(func(int, int) bool) · 66 iter.Seq2[int,int] · 68 [2]int · 72 func(func([]int) bool) · 73 iter.Seq[[]int] · 75 func([]int, []int) int · 78 map[int]edition.reason · 80 struct { Locus int; Code int; Reason int } · 81 api.Emend · 82 func(int, bool) bool · 83 struct { right func(int, bool) bool } · 84 edition.reason · 87 func([]int) bool · 92 func([]int, []int) bool · 94 *api.Sign · 100 struct { n int; lo int; hi int; bits int } · 101 collate.digit · 102 map[[2]int]int · 103 func(int, int) int · 104 func(int, int) bool · 106 func(int) bool · 114 func(int) []int · 120 func(int) int · 123 []collate.digit · 125 func(int) map[int]int · 127 uint · 128 []map[int]int · 136 uint32 · 138 uint64 · 139 [2][2]int · 142 slices.sortedHint · 154 [32]uint8 · 155 [64]uint8 · 156 slices.xorshift · 160 *int · 165 *slices.xorshift · 169 func(func(uint) bool) · 170 iter.Seq[uint] · 172 func(uint) bool · 183 *uint8 -/
def tt : List (TypeId × TI) := [
 (2, ⟨.int .i64, 1, 8, .int .i64 (0)⟩),
 (3, ⟨.int .i64, 1, 8, .int .i64 (0)⟩),
 (4, ⟨.bool, 1, 1, .bool false⟩),
 (5, ⟨.int .u8, 1, 1, .int .u8 (0)⟩),
 (9, ⟨.str, 1, 16, .string ⟨#[]⟩⟩),
 (12, ⟨.int .u64, 1, 8, .int .u64 (0)⟩),
 (13, ⟨.struct [(9, 0), (12, 1)], 2, 24, .agg ⟨[.string ⟨#[]⟩, .int .u64 (0)]⟩⟩),
 (19, ⟨.struct [(17, 0)], 1, 8, .agg ⟨[.pointer none]⟩⟩),
 (20, ⟨.other, 1, 16, .nilIface⟩),
 (21, ⟨.int .i32, 1, 4, .int .i32 (0)⟩),
 (22, ⟨.slice 48, 1, 24, .slice none 0 0⟩),
 (23, ⟨.int .u16, 1, 2, .int .u16 (0)⟩),
 (26, ⟨.slice 30, 1, 24, .slice none 0 0⟩),
 (27, ⟨.int .i64, 1, 8, .int .i64 (0)⟩),
 (30, ⟨.slice 3, 1, 24, .slice none 0 0⟩),
 (36, ⟨.slice 81, 1, 24, .slice none 0 0⟩),
 (37, ⟨.struct [(3, 0), (30, 1), (36, 2), (30, 3)], 4, 80, .agg ⟨[.int .i64 (0), .slice none 0 0, .slice none 0 0, .slice none 0 0]⟩⟩),
 (38, ⟨.struct [(3, 0), (30, 1), (36, 2), (30, 3)], 4, 80, .agg ⟨[.int .i64 (0), .slice none 0 0, .slice none 0 0, .slice none 0 0]⟩⟩),
 (41, ⟨.slice 52, 1, 24, .slice none 0 0⟩),
 (45, ⟨.map 3 3, 1, 8, .map none⟩),
 (46, ⟨.slice 55, 1, 24, .slice none 0 0⟩),
 (47, ⟨.struct [(3, 0), (3, 1), (46, 2)], 3, 40, .agg ⟨[.int .i64 (0), .int .i64 (0), .slice none 0 0]⟩⟩),
 (48, ⟨.struct [(3, 0), (3, 1), (46, 2)], 3, 40, .agg ⟨[.int .i64 (0), .int .i64 (0), .slice none 0 0]⟩⟩),
 (49, ⟨.struct [(3, 0), (3, 1)], 2, 16, .agg ⟨[.int .i64 (0), .int .i64 (0)]⟩⟩),
 (50, ⟨.struct [(3, 0), (3, 1)], 2, 16, .agg ⟨[.int .i64 (0), .int .i64 (0)]⟩⟩),
 (51, ⟨.struct [(3, 0), (3, 1), (3, 2), (3, 3), (3, 4), (3, 5), (3, 6), (3, 7), (3, 8), (3, 9), (50, 10), (50, 12)], 14, 112, .agg ⟨[.int .i64 (0), .int .i64 (0), .int .i64 (0), .int .i64 (0), .int .i64 (0), .int .i64 (0), .int .i64 (0), .int .i64 (0), .int .i64 (0), .int .i64 (0), .int .i64 (0), .int .i64 (0), .int .i64 (0), .int .i64 (0)]⟩⟩),
 (52, ⟨.struct [(3, 0), (3, 1), (3, 2), (3, 3), (3, 4), (3, 5), (3, 6), (3, 7), (3, 8), (3, 9), (50, 10), (50, 12)], 14, 112, .agg ⟨[.int .i64 (0), .int .i64 (0), .int .i64 (0), .int .i64 (0), .int .i64 (0), .int .i64 (0), .int .i64 (0), .int .i64 (0), .int .i64 (0), .int .i64 (0), .int .i64 (0), .int .i64 (0), .int .i64 (0), .int .i64 (0)]⟩⟩),
 (54, ⟨.struct [(4, 0), (52, 1)], 15, 120, .agg ⟨[.bool false, .int .i64 (0), .int .i64 (0), .int .i64 (0), .int .i64 (0), .int .i64 (0), .int .i64 (0), .int .i64 (0), .int .i64 (0), .int .i64 (0), .int .i64 (0), .int .i64 (0), .int .i64 (0), .int .i64 (0), .int .i64 (0)]⟩⟩),
 (55, ⟨.struct [(4, 0), (52, 1)], 15, 120, .agg ⟨[.bool false, .int .i64 (0), .int .i64 (0), .int .i64 (0), .int .i64 (0), .int .i64 (0), .int .i64 (0), .int .i64 (0), .int .i64 (0), .int .i64 (0), .int .i64 (0), .int .i64 (0), .int .i64 (0), .int .i64 (0), .int .i64 (0)]⟩⟩),
 (61, ⟨.slice 62, 1, 24, .slice none 0 0⟩),
 (62, ⟨.slice 68, 1, 24, .slice none 0 0⟩),
 (65, ⟨.other, 1, 8, .nilFunc⟩),
 (66, ⟨.other, 1, 8, .nilFunc⟩),
 (68, ⟨.array 2 3, 2, 16, .agg ⟨[.int .i64 (0), .int .i64 (0)]⟩⟩),
 (72, ⟨.other, 1, 8, .nilFunc⟩),
 (73, ⟨.other, 1, 8, .nilFunc⟩),
 (75, ⟨.other, 1, 8, .nilFunc⟩),
 (78, ⟨.map 3 84, 1, 8, .map none⟩),
 (80, ⟨.struct [(3, 0), (3, 1), (3, 2)], 3, 24, .agg ⟨[.int .i64 (0), .int .i64 (0), .int .i64 (0)]⟩⟩),
 (81, ⟨.struct [(3, 0), (3, 1), (3, 2)], 3, 24, .agg ⟨[.int .i64 (0), .int .i64 (0), .int .i64 (0)]⟩⟩),
 (82, ⟨.other, 1, 8, .nilFunc⟩),
 (83, ⟨.struct [(82, 0)], 1, 8, .agg ⟨[.nilFunc]⟩⟩),
 (84, ⟨.struct [(82, 0)], 1, 8, .agg ⟨[.nilFunc]⟩⟩),
 (87, ⟨.other, 1, 8, .nilFunc⟩),
 (92, ⟨.other, 1, 8, .nilFunc⟩),
 (94, ⟨.other, 1, 8, .pointer none⟩),
 (100, ⟨.struct [(3, 0), (3, 1), (3, 2), (3, 3)], 4, 32, .agg ⟨[.int .i64 (0), .int .i64 (0), .int .i64 (0), .int .i64 (0)]⟩⟩),
 (101, ⟨.struct [(3, 0), (3, 1), (3, 2), (3, 3)], 4, 32, .agg ⟨[.int .i64 (0), .int .i64 (0), .int .i64 (0), .int .i64 (0)]⟩⟩),
 (102, ⟨.map 68 3, 1, 8, .map none⟩),
 (103, ⟨.other, 1, 8, .nilFunc⟩),
 (104, ⟨.other, 1, 8, .nilFunc⟩),
 (106, ⟨.other, 1, 8, .nilFunc⟩),
 (114, ⟨.other, 1, 8, .nilFunc⟩),
 (120, ⟨.other, 1, 8, .nilFunc⟩),
 (123, ⟨.slice 101, 1, 24, .slice none 0 0⟩),
 (125, ⟨.other, 1, 8, .nilFunc⟩),
 (127, ⟨.int .u64, 1, 8, .int .u64 (0)⟩),
 (128, ⟨.slice 45, 1, 24, .slice none 0 0⟩),
 (136, ⟨.int .u32, 1, 4, .int .u32 (0)⟩),
 (138, ⟨.int .u64, 1, 8, .int .u64 (0)⟩),
 (139, ⟨.array 2 68, 4, 32, .agg ⟨flat 2 fun _ => [.int .i64 (0), .int .i64 (0)]⟩⟩),
 (142, ⟨.int .i64, 1, 8, .int .i64 (0)⟩),
 (154, ⟨.array 32 5, 32, 32, .agg ⟨vec 32 fun _ => .int .u8 (0)⟩⟩),
 (155, ⟨.array 64 5, 64, 64, .agg ⟨vec 64 fun _ => .int .u8 (0)⟩⟩),
 (156, ⟨.int .u64, 1, 8, .int .u64 (0)⟩),
 (160, ⟨.other, 1, 8, .pointer none⟩),
 (165, ⟨.other, 1, 8, .pointer none⟩),
 (169, ⟨.other, 1, 8, .nilFunc⟩),
 (170, ⟨.other, 1, 8, .nilFunc⟩),
 (172, ⟨.other, 1, 8, .nilFunc⟩),
 (183, ⟨.other, 1, 8, .pointer none⟩)]
theorem ti2 : TIOk Tryz.prog 2 ⟨.int .i64, 1, 8, .int .i64 (0)⟩ := ti_mk (show Tryz.prog.underlying 2 = some (.int .i64) by kernel_rfl) (by kernel_rfl)
theorem ti3 : TIOk Tryz.prog 3 ⟨.int .i64, 1, 8, .int .i64 (0)⟩ := ti_mk (show Tryz.prog.underlying 3 = some (.int .i64) by kernel_rfl) (by kernel_rfl)
theorem ti4 : TIOk Tryz.prog 4 ⟨.bool, 1, 1, .bool false⟩ := ti_mk (show Tryz.prog.underlying 4 = some (.bool) by kernel_rfl) (by kernel_rfl)
theorem ti5 : TIOk Tryz.prog 5 ⟨.int .u8, 1, 1, .int .u8 (0)⟩ := ti_mk (show Tryz.prog.underlying 5 = some (.int .u8) by kernel_rfl) (by kernel_rfl)
theorem ti9 : TIOk Tryz.prog 9 ⟨.str, 1, 16, .string ⟨#[]⟩⟩ := ti_mk (show Tryz.prog.underlying 9 = some (.string) by kernel_rfl) (by kernel_rfl)
theorem ti12 : TIOk Tryz.prog 12 ⟨.int .u64, 1, 8, .int .u64 (0)⟩ := ti_mk (show Tryz.prog.underlying 12 = some (.int .u64) by kernel_rfl) (by kernel_rfl)
theorem ti13 : TIOk Tryz.prog 13 ⟨.struct [(9, 0), (12, 1)], 2, 24, .agg ⟨[.string ⟨#[]⟩, .int .u64 (0)]⟩⟩ := ti_mk (tk_struct (by kernel_rfl)) (by kernel_rfl)
theorem ti19 : TIOk Tryz.prog 19 ⟨.struct [(17, 0)], 1, 8, .agg ⟨[.pointer none]⟩⟩ := ti_mk (tk_struct (by kernel_rfl)) (by kernel_rfl)
theorem ti20 : TIOk Tryz.prog 20 ⟨.other, 1, 16, .nilIface⟩ := ti_mk (tk_other (by kernel_rfl)) (by kernel_rfl)
theorem ti21 : TIOk Tryz.prog 21 ⟨.int .i32, 1, 4, .int .i32 (0)⟩ := ti_mk (show Tryz.prog.underlying 21 = some (.int .i32) by kernel_rfl) (by kernel_rfl)
theorem ti22 : TIOk Tryz.prog 22 ⟨.slice 48, 1, 24, .slice none 0 0⟩ := ti_mk (show Tryz.prog.underlying 22 = some (.slice 48) by kernel_rfl) (by kernel_rfl)
theorem ti23 : TIOk Tryz.prog 23 ⟨.int .u16, 1, 2, .int .u16 (0)⟩ := ti_mk (show Tryz.prog.underlying 23 = some (.int .u16) by kernel_rfl) (by kernel_rfl)
theorem ti26 : TIOk Tryz.prog 26 ⟨.slice 30, 1, 24, .slice none 0 0⟩ := ti_mk (show Tryz.prog.underlying 26 = some (.slice 30) by kernel_rfl) (by kernel_rfl)
theorem ti27 : TIOk Tryz.prog 27 ⟨.int .i64, 1, 8, .int .i64 (0)⟩ := ti_mk (show Tryz.prog.underlying 27 = some (.int .i64) by kernel_rfl) (by kernel_rfl)
theorem ti30 : TIOk Tryz.prog 30 ⟨.slice 3, 1, 24, .slice none 0 0⟩ := ti_mk (show Tryz.prog.underlying 30 = some (.slice 3) by kernel_rfl) (by kernel_rfl)
theorem ti36 : TIOk Tryz.prog 36 ⟨.slice 81, 1, 24, .slice none 0 0⟩ := ti_mk (show Tryz.prog.underlying 36 = some (.slice 81) by kernel_rfl) (by kernel_rfl)
theorem ti37 : TIOk Tryz.prog 37 ⟨.struct [(3, 0), (30, 1), (36, 2), (30, 3)], 4, 80, .agg ⟨[.int .i64 (0), .slice none 0 0, .slice none 0 0, .slice none 0 0]⟩⟩ := ti_mk (tk_struct (by kernel_rfl)) (by kernel_rfl)
theorem ti38 : TIOk Tryz.prog 38 ⟨.struct [(3, 0), (30, 1), (36, 2), (30, 3)], 4, 80, .agg ⟨[.int .i64 (0), .slice none 0 0, .slice none 0 0, .slice none 0 0]⟩⟩ := ti_mk (tk_struct (by kernel_rfl)) (by kernel_rfl)
theorem ti41 : TIOk Tryz.prog 41 ⟨.slice 52, 1, 24, .slice none 0 0⟩ := ti_mk (show Tryz.prog.underlying 41 = some (.slice 52) by kernel_rfl) (by kernel_rfl)
theorem ti45 : TIOk Tryz.prog 45 ⟨.map 3 3, 1, 8, .map none⟩ := ti_mk (show Tryz.prog.underlying 45 = some (.map 3 3) by kernel_rfl) (by kernel_rfl)
theorem ti46 : TIOk Tryz.prog 46 ⟨.slice 55, 1, 24, .slice none 0 0⟩ := ti_mk (show Tryz.prog.underlying 46 = some (.slice 55) by kernel_rfl) (by kernel_rfl)
theorem ti47 : TIOk Tryz.prog 47 ⟨.struct [(3, 0), (3, 1), (46, 2)], 3, 40, .agg ⟨[.int .i64 (0), .int .i64 (0), .slice none 0 0]⟩⟩ := ti_mk (tk_struct (by kernel_rfl)) (by kernel_rfl)
theorem ti48 : TIOk Tryz.prog 48 ⟨.struct [(3, 0), (3, 1), (46, 2)], 3, 40, .agg ⟨[.int .i64 (0), .int .i64 (0), .slice none 0 0]⟩⟩ := ti_mk (tk_struct (by kernel_rfl)) (by kernel_rfl)
theorem ti49 : TIOk Tryz.prog 49 ⟨.struct [(3, 0), (3, 1)], 2, 16, .agg ⟨[.int .i64 (0), .int .i64 (0)]⟩⟩ := ti_mk (tk_struct (by kernel_rfl)) (by kernel_rfl)
theorem ti50 : TIOk Tryz.prog 50 ⟨.struct [(3, 0), (3, 1)], 2, 16, .agg ⟨[.int .i64 (0), .int .i64 (0)]⟩⟩ := ti_mk (tk_struct (by kernel_rfl)) (by kernel_rfl)
theorem ti51 : TIOk Tryz.prog 51 ⟨.struct [(3, 0), (3, 1), (3, 2), (3, 3), (3, 4), (3, 5), (3, 6), (3, 7), (3, 8), (3, 9), (50, 10), (50, 12)], 14, 112, .agg ⟨[.int .i64 (0), .int .i64 (0), .int .i64 (0), .int .i64 (0), .int .i64 (0), .int .i64 (0), .int .i64 (0), .int .i64 (0), .int .i64 (0), .int .i64 (0), .int .i64 (0), .int .i64 (0), .int .i64 (0), .int .i64 (0)]⟩⟩ := ti_mk (tk_struct (by kernel_rfl)) (by kernel_rfl)
theorem ti52 : TIOk Tryz.prog 52 ⟨.struct [(3, 0), (3, 1), (3, 2), (3, 3), (3, 4), (3, 5), (3, 6), (3, 7), (3, 8), (3, 9), (50, 10), (50, 12)], 14, 112, .agg ⟨[.int .i64 (0), .int .i64 (0), .int .i64 (0), .int .i64 (0), .int .i64 (0), .int .i64 (0), .int .i64 (0), .int .i64 (0), .int .i64 (0), .int .i64 (0), .int .i64 (0), .int .i64 (0), .int .i64 (0), .int .i64 (0)]⟩⟩ := ti_mk (tk_struct (by kernel_rfl)) (by kernel_rfl)
theorem ti54 : TIOk Tryz.prog 54 ⟨.struct [(4, 0), (52, 1)], 15, 120, .agg ⟨[.bool false, .int .i64 (0), .int .i64 (0), .int .i64 (0), .int .i64 (0), .int .i64 (0), .int .i64 (0), .int .i64 (0), .int .i64 (0), .int .i64 (0), .int .i64 (0), .int .i64 (0), .int .i64 (0), .int .i64 (0), .int .i64 (0)]⟩⟩ := ti_mk (tk_struct (by kernel_rfl)) (by kernel_rfl)
theorem ti55 : TIOk Tryz.prog 55 ⟨.struct [(4, 0), (52, 1)], 15, 120, .agg ⟨[.bool false, .int .i64 (0), .int .i64 (0), .int .i64 (0), .int .i64 (0), .int .i64 (0), .int .i64 (0), .int .i64 (0), .int .i64 (0), .int .i64 (0), .int .i64 (0), .int .i64 (0), .int .i64 (0), .int .i64 (0), .int .i64 (0)]⟩⟩ := ti_mk (tk_struct (by kernel_rfl)) (by kernel_rfl)
theorem ti61 : TIOk Tryz.prog 61 ⟨.slice 62, 1, 24, .slice none 0 0⟩ := ti_mk (show Tryz.prog.underlying 61 = some (.slice 62) by kernel_rfl) (by kernel_rfl)
theorem ti62 : TIOk Tryz.prog 62 ⟨.slice 68, 1, 24, .slice none 0 0⟩ := ti_mk (show Tryz.prog.underlying 62 = some (.slice 68) by kernel_rfl) (by kernel_rfl)
theorem ti65 : TIOk Tryz.prog 65 ⟨.other, 1, 8, .nilFunc⟩ := ti_mk (tk_other (by kernel_rfl)) (by kernel_rfl)
theorem ti66 : TIOk Tryz.prog 66 ⟨.other, 1, 8, .nilFunc⟩ := ti_mk (tk_other (by kernel_rfl)) (by kernel_rfl)
theorem ti68 : TIOk Tryz.prog 68 ⟨.array 2 3, 2, 16, .agg ⟨[.int .i64 (0), .int .i64 (0)]⟩⟩ := ti_mk (show Tryz.prog.underlying 68 = some (.array 2 3) by kernel_rfl) (by kernel_rfl)
theorem ti72 : TIOk Tryz.prog 72 ⟨.other, 1, 8, .nilFunc⟩ := ti_mk (tk_other (by kernel_rfl)) (by kernel_rfl)
theorem ti73 : TIOk Tryz.prog 73 ⟨.other, 1, 8, .nilFunc⟩ := ti_mk (tk_other (by kernel_rfl)) (by kernel_rfl)
theorem ti75 : TIOk Tryz.prog 75 ⟨.other, 1, 8, .nilFunc⟩ := ti_mk (tk_other (by kernel_rfl)) (by kernel_rfl)
theorem ti78 : TIOk Tryz.prog 78 ⟨.map 3 84, 1, 8, .map none⟩ := ti_mk (show Tryz.prog.underlying 78 = some (.map 3 84) by kernel_rfl) (by kernel_rfl)
theorem ti80 : TIOk Tryz.prog 80 ⟨.struct [(3, 0), (3, 1), (3, 2)], 3, 24, .agg ⟨[.int .i64 (0), .int .i64 (0), .int .i64 (0)]⟩⟩ := ti_mk (tk_struct (by kernel_rfl)) (by kernel_rfl)
theorem ti81 : TIOk Tryz.prog 81 ⟨.struct [(3, 0), (3, 1), (3, 2)], 3, 24, .agg ⟨[.int .i64 (0), .int .i64 (0), .int .i64 (0)]⟩⟩ := ti_mk (tk_struct (by kernel_rfl)) (by kernel_rfl)
theorem ti82 : TIOk Tryz.prog 82 ⟨.other, 1, 8, .nilFunc⟩ := ti_mk (tk_other (by kernel_rfl)) (by kernel_rfl)
theorem ti83 : TIOk Tryz.prog 83 ⟨.struct [(82, 0)], 1, 8, .agg ⟨[.nilFunc]⟩⟩ := ti_mk (tk_struct (by kernel_rfl)) (by kernel_rfl)
theorem ti84 : TIOk Tryz.prog 84 ⟨.struct [(82, 0)], 1, 8, .agg ⟨[.nilFunc]⟩⟩ := ti_mk (tk_struct (by kernel_rfl)) (by kernel_rfl)
theorem ti87 : TIOk Tryz.prog 87 ⟨.other, 1, 8, .nilFunc⟩ := ti_mk (tk_other (by kernel_rfl)) (by kernel_rfl)
theorem ti92 : TIOk Tryz.prog 92 ⟨.other, 1, 8, .nilFunc⟩ := ti_mk (tk_other (by kernel_rfl)) (by kernel_rfl)
theorem ti94 : TIOk Tryz.prog 94 ⟨.other, 1, 8, .pointer none⟩ := ti_mk (tk_other (by kernel_rfl)) (by kernel_rfl)
theorem ti100 : TIOk Tryz.prog 100 ⟨.struct [(3, 0), (3, 1), (3, 2), (3, 3)], 4, 32, .agg ⟨[.int .i64 (0), .int .i64 (0), .int .i64 (0), .int .i64 (0)]⟩⟩ := ti_mk (tk_struct (by kernel_rfl)) (by kernel_rfl)
theorem ti101 : TIOk Tryz.prog 101 ⟨.struct [(3, 0), (3, 1), (3, 2), (3, 3)], 4, 32, .agg ⟨[.int .i64 (0), .int .i64 (0), .int .i64 (0), .int .i64 (0)]⟩⟩ := ti_mk (tk_struct (by kernel_rfl)) (by kernel_rfl)
theorem ti102 : TIOk Tryz.prog 102 ⟨.map 68 3, 1, 8, .map none⟩ := ti_mk (show Tryz.prog.underlying 102 = some (.map 68 3) by kernel_rfl) (by kernel_rfl)
theorem ti103 : TIOk Tryz.prog 103 ⟨.other, 1, 8, .nilFunc⟩ := ti_mk (tk_other (by kernel_rfl)) (by kernel_rfl)
theorem ti104 : TIOk Tryz.prog 104 ⟨.other, 1, 8, .nilFunc⟩ := ti_mk (tk_other (by kernel_rfl)) (by kernel_rfl)
theorem ti106 : TIOk Tryz.prog 106 ⟨.other, 1, 8, .nilFunc⟩ := ti_mk (tk_other (by kernel_rfl)) (by kernel_rfl)
theorem ti114 : TIOk Tryz.prog 114 ⟨.other, 1, 8, .nilFunc⟩ := ti_mk (tk_other (by kernel_rfl)) (by kernel_rfl)
theorem ti120 : TIOk Tryz.prog 120 ⟨.other, 1, 8, .nilFunc⟩ := ti_mk (tk_other (by kernel_rfl)) (by kernel_rfl)
theorem ti123 : TIOk Tryz.prog 123 ⟨.slice 101, 1, 24, .slice none 0 0⟩ := ti_mk (show Tryz.prog.underlying 123 = some (.slice 101) by kernel_rfl) (by kernel_rfl)
theorem ti125 : TIOk Tryz.prog 125 ⟨.other, 1, 8, .nilFunc⟩ := ti_mk (tk_other (by kernel_rfl)) (by kernel_rfl)
theorem ti127 : TIOk Tryz.prog 127 ⟨.int .u64, 1, 8, .int .u64 (0)⟩ := ti_mk (show Tryz.prog.underlying 127 = some (.int .u64) by kernel_rfl) (by kernel_rfl)
theorem ti128 : TIOk Tryz.prog 128 ⟨.slice 45, 1, 24, .slice none 0 0⟩ := ti_mk (show Tryz.prog.underlying 128 = some (.slice 45) by kernel_rfl) (by kernel_rfl)
theorem ti136 : TIOk Tryz.prog 136 ⟨.int .u32, 1, 4, .int .u32 (0)⟩ := ti_mk (show Tryz.prog.underlying 136 = some (.int .u32) by kernel_rfl) (by kernel_rfl)
theorem ti138 : TIOk Tryz.prog 138 ⟨.int .u64, 1, 8, .int .u64 (0)⟩ := ti_mk (show Tryz.prog.underlying 138 = some (.int .u64) by kernel_rfl) (by kernel_rfl)
theorem ti139 : TIOk Tryz.prog 139 ⟨.array 2 68, 4, 32, .agg ⟨flat 2 fun _ => [.int .i64 (0), .int .i64 (0)]⟩⟩ := ti_mk (show Tryz.prog.underlying 139 = some (.array 2 68) by kernel_rfl) (by kernel_rfl)
theorem ti142 : TIOk Tryz.prog 142 ⟨.int .i64, 1, 8, .int .i64 (0)⟩ := ti_mk (show Tryz.prog.underlying 142 = some (.int .i64) by kernel_rfl) (by kernel_rfl)
theorem ti154 : TIOk Tryz.prog 154 ⟨.array 32 5, 32, 32, .agg ⟨vec 32 fun _ => .int .u8 (0)⟩⟩ := ti_mk (show Tryz.prog.underlying 154 = some (.array 32 5) by kernel_rfl) (by kernel_rfl)
theorem ti155 : TIOk Tryz.prog 155 ⟨.array 64 5, 64, 64, .agg ⟨vec 64 fun _ => .int .u8 (0)⟩⟩ := ti_mk (show Tryz.prog.underlying 155 = some (.array 64 5) by kernel_rfl) (by kernel_rfl)
theorem ti156 : TIOk Tryz.prog 156 ⟨.int .u64, 1, 8, .int .u64 (0)⟩ := ti_mk (show Tryz.prog.underlying 156 = some (.int .u64) by kernel_rfl) (by kernel_rfl)
theorem ti160 : TIOk Tryz.prog 160 ⟨.other, 1, 8, .pointer none⟩ := ti_mk (tk_other (by kernel_rfl)) (by kernel_rfl)
theorem ti165 : TIOk Tryz.prog 165 ⟨.other, 1, 8, .pointer none⟩ := ti_mk (tk_other (by kernel_rfl)) (by kernel_rfl)
theorem ti169 : TIOk Tryz.prog 169 ⟨.other, 1, 8, .nilFunc⟩ := ti_mk (tk_other (by kernel_rfl)) (by kernel_rfl)
theorem ti170 : TIOk Tryz.prog 170 ⟨.other, 1, 8, .nilFunc⟩ := ti_mk (tk_other (by kernel_rfl)) (by kernel_rfl)
theorem ti172 : TIOk Tryz.prog 172 ⟨.other, 1, 8, .nilFunc⟩ := ti_mk (tk_other (by kernel_rfl)) (by kernel_rfl)
theorem ti183 : TIOk Tryz.prog 183 ⟨.other, 1, 8, .pointer none⟩ := ti_mk (tk_other (by kernel_rfl)) (by kernel_rfl)
instance : TT Tryz.prog tt := ⟨tt_cons ti2 <| tt_cons ti3 <| tt_cons ti4 <| tt_cons ti5 <| tt_cons ti9 <| tt_cons ti12 <| tt_cons ti13 <| tt_cons ti19 <| tt_cons ti20 <| tt_cons ti21 <| tt_cons ti22 <| tt_cons ti23 <| tt_cons ti26 <| tt_cons ti27 <| tt_cons ti30 <| tt_cons ti36 <| tt_cons ti37 <| tt_cons ti38 <| tt_cons ti41 <| tt_cons ti45 <| tt_cons ti46 <| tt_cons ti47 <| tt_cons ti48 <| tt_cons ti49 <| tt_cons ti50 <| tt_cons ti51 <| tt_cons ti52 <| tt_cons ti54 <| tt_cons ti55 <| tt_cons ti61 <| tt_cons ti62 <| tt_cons ti65 <| tt_cons ti66 <| tt_cons ti68 <| tt_cons ti72 <| tt_cons ti73 <| tt_cons ti75 <| tt_cons ti78 <| tt_cons ti80 <| tt_cons ti81 <| tt_cons ti82 <| tt_cons ti83 <| tt_cons ti84 <| tt_cons ti87 <| tt_cons ti92 <| tt_cons ti94 <| tt_cons ti100 <| tt_cons ti101 <| tt_cons ti102 <| tt_cons ti103 <| tt_cons ti104 <| tt_cons ti106 <| tt_cons ti114 <| tt_cons ti120 <| tt_cons ti123 <| tt_cons ti125 <| tt_cons ti127 <| tt_cons ti128 <| tt_cons ti136 <| tt_cons ti138 <| tt_cons ti139 <| tt_cons ti142 <| tt_cons ti154 <| tt_cons ti155 <| tt_cons ti156 <| tt_cons ti160 <| tt_cons ti165 <| tt_cons ti169 <| tt_cons ti170 <| tt_cons ti172 <| tt_cons ti183 <| tt_nil⟩
instance : Ent Tryz.prog 3 := ⟨ent_of Tryz.func3 (by kernel_rfl) (by kernel_rfl)⟩
instance : Ent Tryz.prog 4 := ⟨ent_of Tryz.func4 (by kernel_rfl) (by kernel_rfl)⟩
instance : Ent Tryz.prog 5 := ⟨ent_of Tryz.func5 (by kernel_rfl) (by kernel_rfl)⟩
instance : Ent Tryz.prog 6 := ⟨ent_of Tryz.func6 (by kernel_rfl) (by kernel_rfl)⟩
instance : Ent Tryz.prog 7 := ⟨ent_of Tryz.func7 (by kernel_rfl) (by kernel_rfl)⟩
instance : Ent Tryz.prog 8 := ⟨ent_of Tryz.func8 (by kernel_rfl) (by kernel_rfl)⟩
instance : Ent Tryz.prog 9 := ⟨ent_of Tryz.func9 (by kernel_rfl) (by kernel_rfl)⟩
instance : Ent Tryz.prog 10 := ⟨ent_of Tryz.func10 (by kernel_rfl) (by kernel_rfl)⟩
instance : Ent Tryz.prog 11 := ⟨ent_of Tryz.func11 (by kernel_rfl) (by kernel_rfl)⟩
instance : Ent Tryz.prog 12 := ⟨ent_of Tryz.func12 (by kernel_rfl) (by kernel_rfl)⟩
instance : Ent Tryz.prog 13 := ⟨ent_of Tryz.func13 (by kernel_rfl) (by kernel_rfl)⟩
instance : Ent Tryz.prog 14 := ⟨ent_of Tryz.func14 (by kernel_rfl) (by kernel_rfl)⟩
instance : Ent Tryz.prog 15 := ⟨ent_of Tryz.func15 (by kernel_rfl) (by kernel_rfl)⟩
instance : Ent Tryz.prog 16 := ⟨ent_of Tryz.func16 (by kernel_rfl) (by kernel_rfl)⟩
instance : Ent Tryz.prog 17 := ⟨ent_of Tryz.func17 (by kernel_rfl) (by kernel_rfl)⟩
instance : Ent Tryz.prog 18 := ⟨ent_of Tryz.func18 (by kernel_rfl) (by kernel_rfl)⟩
instance : Ent Tryz.prog 19 := ⟨ent_of Tryz.func19 (by kernel_rfl) (by kernel_rfl)⟩
instance : Ent Tryz.prog 20 := ⟨ent_of Tryz.func20 (by kernel_rfl) (by kernel_rfl)⟩
instance : Ent Tryz.prog 21 := ⟨ent_of Tryz.func21 (by kernel_rfl) (by kernel_rfl)⟩
instance : Ent Tryz.prog 22 := ⟨ent_of Tryz.func22 (by kernel_rfl) (by kernel_rfl)⟩
instance : Ent Tryz.prog 23 := ⟨ent_of Tryz.func23 (by kernel_rfl) (by kernel_rfl)⟩
instance : Ent Tryz.prog 24 := ⟨ent_of Tryz.func24 (by kernel_rfl) (by kernel_rfl)⟩
instance : Ent Tryz.prog 25 := ⟨ent_of Tryz.func25 (by kernel_rfl) (by kernel_rfl)⟩
instance : Ent Tryz.prog 26 := ⟨ent_of Tryz.func26 (by kernel_rfl) (by kernel_rfl)⟩
instance : Ent Tryz.prog 27 := ⟨ent_of Tryz.func27 (by kernel_rfl) (by kernel_rfl)⟩
instance : Ent Tryz.prog 29 := ⟨ent_of Tryz.func29 (by kernel_rfl) (by kernel_rfl)⟩
instance : Ent Tryz.prog 30 := ⟨ent_of Tryz.func30 (by kernel_rfl) (by kernel_rfl)⟩
instance : Ent Tryz.prog 31 := ⟨ent_of Tryz.func31 (by kernel_rfl) (by kernel_rfl)⟩
instance : Ent Tryz.prog 32 := ⟨ent_of Tryz.func32 (by kernel_rfl) (by kernel_rfl)⟩
instance : Ent Tryz.prog 33 := ⟨ent_of Tryz.func33 (by kernel_rfl) (by kernel_rfl)⟩
instance : Ent Tryz.prog 34 := ⟨ent_of Tryz.func34 (by kernel_rfl) (by kernel_rfl)⟩
instance : Ent Tryz.prog 35 := ⟨ent_of Tryz.func35 (by kernel_rfl) (by kernel_rfl)⟩
instance : Ent Tryz.prog 36 := ⟨ent_of Tryz.func36 (by kernel_rfl) (by kernel_rfl)⟩
instance : Ent Tryz.prog 37 := ⟨ent_of Tryz.func37 (by kernel_rfl) (by kernel_rfl)⟩
instance : Ent Tryz.prog 38 := ⟨ent_of Tryz.func38 (by kernel_rfl) (by kernel_rfl)⟩
instance : Ent Tryz.prog 39 := ⟨ent_of Tryz.func39 (by kernel_rfl) (by kernel_rfl)⟩
instance : Ent Tryz.prog 40 := ⟨ent_of Tryz.func40 (by kernel_rfl) (by kernel_rfl)⟩
instance : Ent Tryz.prog 41 := ⟨ent_of Tryz.func41 (by kernel_rfl) (by kernel_rfl)⟩
instance : Ent Tryz.prog 42 := ⟨ent_of Tryz.func42 (by kernel_rfl) (by kernel_rfl)⟩
instance : Ent Tryz.prog 43 := ⟨ent_of Tryz.func43 (by kernel_rfl) (by kernel_rfl)⟩
instance : Ent Tryz.prog 44 := ⟨ent_of Tryz.func44 (by kernel_rfl) (by kernel_rfl)⟩
instance : Ent Tryz.prog 45 := ⟨ent_of Tryz.func45 (by kernel_rfl) (by kernel_rfl)⟩
instance : Ent Tryz.prog 46 := ⟨ent_of Tryz.func46 (by kernel_rfl) (by kernel_rfl)⟩
instance : Ent Tryz.prog 47 := ⟨ent_of Tryz.func47 (by kernel_rfl) (by kernel_rfl)⟩
instance : Ent Tryz.prog 48 := ⟨ent_of Tryz.func48 (by kernel_rfl) (by kernel_rfl)⟩
instance : Ent Tryz.prog 49 := ⟨ent_of Tryz.func49 (by kernel_rfl) (by kernel_rfl)⟩
instance : Ent Tryz.prog 50 := ⟨ent_of Tryz.func50 (by kernel_rfl) (by kernel_rfl)⟩
instance : Ent Tryz.prog 51 := ⟨ent_of Tryz.func51 (by kernel_rfl) (by kernel_rfl)⟩
instance : Ent Tryz.prog 52 := ⟨ent_of Tryz.func52 (by kernel_rfl) (by kernel_rfl)⟩
instance : Ent Tryz.prog 53 := ⟨ent_of Tryz.func53 (by kernel_rfl) (by kernel_rfl)⟩
instance : Ent Tryz.prog 54 := ⟨ent_of Tryz.func54 (by kernel_rfl) (by kernel_rfl)⟩
instance : Ent Tryz.prog 55 := ⟨ent_of Tryz.func55 (by kernel_rfl) (by kernel_rfl)⟩
instance : Ent Tryz.prog 56 := ⟨ent_of Tryz.func56 (by kernel_rfl) (by kernel_rfl)⟩
instance : Ent Tryz.prog 57 := ⟨ent_of Tryz.func57 (by kernel_rfl) (by kernel_rfl)⟩
instance : Ent Tryz.prog 58 := ⟨ent_of Tryz.func58 (by kernel_rfl) (by kernel_rfl)⟩
instance : Ent Tryz.prog 59 := ⟨ent_of Tryz.func59 (by kernel_rfl) (by kernel_rfl)⟩
instance : Ent Tryz.prog 60 := ⟨ent_of Tryz.func60 (by kernel_rfl) (by kernel_rfl)⟩
instance : Ent Tryz.prog 61 := ⟨ent_of Tryz.func61 (by kernel_rfl) (by kernel_rfl)⟩
instance : Ent Tryz.prog 62 := ⟨ent_of Tryz.func62 (by kernel_rfl) (by kernel_rfl)⟩
instance : Ent Tryz.prog 63 := ⟨ent_of Tryz.func63 (by kernel_rfl) (by kernel_rfl)⟩
instance : Ent Tryz.prog 64 := ⟨ent_of Tryz.func64 (by kernel_rfl) (by kernel_rfl)⟩
instance : Ent Tryz.prog 65 := ⟨ent_of Tryz.func65 (by kernel_rfl) (by kernel_rfl)⟩
instance : Ent Tryz.prog 66 := ⟨ent_of Tryz.func66 (by kernel_rfl) (by kernel_rfl)⟩
instance : Ent Tryz.prog 67 := ⟨ent_of Tryz.func67 (by kernel_rfl) (by kernel_rfl)⟩
instance : Ent Tryz.prog 68 := ⟨ent_of Tryz.func68 (by kernel_rfl) (by kernel_rfl)⟩
instance : Ent Tryz.prog 69 := ⟨ent_of Tryz.func69 (by kernel_rfl) (by kernel_rfl)⟩
instance : Ent Tryz.prog 70 := ⟨ent_of Tryz.func70 (by kernel_rfl) (by kernel_rfl)⟩
instance : Ent Tryz.prog 71 := ⟨ent_of Tryz.func71 (by kernel_rfl) (by kernel_rfl)⟩
instance : Ent Tryz.prog 72 := ⟨ent_of Tryz.func72 (by kernel_rfl) (by kernel_rfl)⟩
instance : Ent Tryz.prog 74 := ⟨ent_of Tryz.func74 (by kernel_rfl) (by kernel_rfl)⟩
instance : Ent Tryz.prog 75 := ⟨ent_of Tryz.func75 (by kernel_rfl) (by kernel_rfl)⟩
instance : Ent Tryz.prog 76 := ⟨ent_of Tryz.func76 (by kernel_rfl) (by kernel_rfl)⟩
instance : Ent Tryz.prog 77 := ⟨ent_of Tryz.func77 (by kernel_rfl) (by kernel_rfl)⟩
instance : Ent Tryz.prog 78 := ⟨ent_of Tryz.func78 (by kernel_rfl) (by kernel_rfl)⟩
instance : Ent Tryz.prog 79 := ⟨ent_of Tryz.func79 (by kernel_rfl) (by kernel_rfl)⟩
instance : Ent Tryz.prog 81 := ⟨ent_of Tryz.func81 (by kernel_rfl) (by kernel_rfl)⟩
instance : Ent Tryz.prog 82 := ⟨ent_of Tryz.func82 (by kernel_rfl) (by kernel_rfl)⟩
instance : Ent Tryz.prog 83 := ⟨ent_of Tryz.func83 (by kernel_rfl) (by kernel_rfl)⟩
instance : Ent Tryz.prog 94 := ⟨ent_of Tryz.func94 (by kernel_rfl) (by kernel_rfl)⟩
instance : Ent Tryz.prog 100 := ⟨ent_of Tryz.func100 (by kernel_rfl) (by kernel_rfl)⟩
instance : Ent Tryz.prog 103 := ⟨ent_of Tryz.func103 (by kernel_rfl) (by kernel_rfl)⟩
instance : Ent Tryz.prog 112 := ⟨ent_of Tryz.func112 (by kernel_rfl) (by kernel_rfl)⟩
instance : Ent Tryz.prog 113 := ⟨ent_of Tryz.func113 (by kernel_rfl) (by kernel_rfl)⟩
instance : Ent Tryz.prog 116 := ⟨ent_of Tryz.func116 (by kernel_rfl) (by kernel_rfl)⟩
instance : Ent Tryz.prog 117 := ⟨ent_of Tryz.func117 (by kernel_rfl) (by kernel_rfl)⟩
instance : Mixed Tryz.prog := ⟨by kernel_rfl⟩
theorem eqs50 : EqS Tryz.prog 50 := ⟨by kernel_rfl, by kernel_rfl, by kernel_rfl⟩
theorem eqs52 : EqS Tryz.prog 52 := ⟨by kernel_rfl, by kernel_rfl, by kernel_rfl⟩
theorem eqs55 : EqS Tryz.prog 55 := ⟨by kernel_rfl, by kernel_rfl, by kernel_rfl⟩
theorem eqs81 : EqS Tryz.prog 81 := ⟨by kernel_rfl, by kernel_rfl, by kernel_rfl⟩
theorem eqs101 : EqS Tryz.prog 101 := ⟨by kernel_rfl, by kernel_rfl, by kernel_rfl⟩
instance : EqAll Tryz.prog [50, 52, 55, 81, 101] := ⟨eqs_cons eqs50 <| eqs_cons eqs52 <| eqs_cons eqs55 <| eqs_cons eqs81 <| eqs_cons eqs101 <| eqs_nil⟩
end R41
end Go.Proofs
