/- The seat's types and functions, as the engine wants them. Printed by gen_ty.py. -/
import Derived.Test.YtcodoembnjemkaaGreatProg
import Derived.Test.YtcodoembnjemkaaGreatEng11
set_option linter.unusedSectionVars false
set_option linter.unusedVariables false
set_option linter.unusedSimpArgs false
namespace Go.Proofs
open Go.Kin
namespace R24
/-- 2 int64 · 3 int · 4 bool · 5 uint8 · 9 string · 12 uintptr · 13 struct { msg string; addr uintptr } · 19 maps.unhashableTypeError · 20 interface {} · 21 int32 · 22 []api.Constraint · 23 struct { Points int; Links []api.Constraint; Called []api.Constraint } · 24 api.Uncertain · 25 []api.Decision · 29 api.Errno · 37 []int · 38 struct { Tick int; Known []int; Do []int } · 39 api.Decision · 45 map[strategy.place][]int · 46 strategy.table · 49 *strategy.game · 51 func(strategy.place) bool · 52 [6]int · 53 struct { tick int; known [6]int } · 54 strategy.place · 55 func(func([]int, strategy.place) bool) · 56 iter.Seq2[[]int,kinesphere/strategy.place] · 57 func(strategy.place) iter.Seq2[[]int,kinesphere/strategy.place] · 58 struct { moves func(strategy.place) iter.Seq2[[]int,kinesphere/strategy.place]; good func(strategy.place) bool } · 59 strategy.player[kinesphere/strategy.place] · 60 func() strategy.player[kinesphere/strategy.place] · 61 func([]int) strategy.place · 62 func(strategy.place) []int · 66 func(strategy.place) ([]int, []int) · 69 func(strategy.place, []int) · 70 []strategy.place · 72 func(strategy.place) ([]int, strategy.place, bool) · 73 func(strategy.place, func(strategy.place, []int)) []strategy.place · 75 struct { From int; To int; Lo int; Hi int } · 76 api.Constraint · 78 map[strategy.place]bool · 79 struct { u api.Uncertain; ticks int; into [6]int; won map[strategy.place]bool } · 80 strategy.game · 81 func(int) bool · 82 func([]int) []int · 86 func(api.Constraint) bool · 87 func(api.Decision, api.Decision) int · 89 struct { Points int; Links []api.Constraint } · 90 api.Timing · 92 func([]int, func(int) bool) bool · 97 [][]int · 106 func(api.Decision, api.Decision) bool · 107 func([]int, func(int) bool) int · 109 [64]int · 110 uint64 · 111 [4]uint64 · 112 [64][4]uint64 · 113 struct { into [64]int; root [64]int; chain [64][4]uint64 } · 114 control.tree · 123 func(func(api.Use, stn.step) bool) · 124 iter.Seq2[kinesphere/api.Use,kinesphere/stn.step] · 126 struct { Link int; Lower bool } · 127 api.Use · 128 struct { a int; b int; w int } · 129 stn.step · 130 func([]int, strategy.place) bool · 137 uint · 143 slices.sortedHint · 151 uint32 · 153 slices.xorshift · 157 *int · 159 *slices.xorshift · 172 *uint8 -/
abbrev z113 : Value := .agg ⟨[.int .i64 (0), .int .i64 (0), .int .i64 (0), .int .i64 (0), .int .i64 (0), .int .i64 (0), .int .i64 (0), .int .i64 (0), .int .i64 (0), .int .i64 (0), .int .i64 (0), .int .i64 (0), .int .i64 (0), .int .i64 (0), .int .i64 (0), .int .i64 (0), .int .i64 (0), .int .i64 (0), .int .i64 (0), .int .i64 (0), .int .i64 (0), .int .i64 (0), .int .i64 (0), .int .i64 (0), .int .i64 (0), .int .i64 (0), .int .i64 (0), .int .i64 (0), .int .i64 (0), .int .i64 (0), .int .i64 (0), .int .i64 (0), .int .i64 (0), .int .i64 (0), .int .i64 (0), .int .i64 (0), .int .i64 (0), .int .i64 (0), .int .i64 (0), .int .i64 (0), .int .i64 (0), .int .i64 (0), .int .i64 (0), .int .i64 (0), .int .i64 (0), .int .i64 (0), .int .i64 (0), .int .i64 (0), .int .i64 (0), .int .i64 (0), .int .i64 (0), .int .i64 (0), .int .i64 (0), .int .i64 (0), .int .i64 (0), .int .i64 (0), .int .i64 (0), .int .i64 (0), .int .i64 (0), .int .i64 (0), .int .i64 (0), .int .i64 (0), .int .i64 (0), .int .i64 (0), .int .i64 (0), .int .i64 (0), .int .i64 (0), .int .i64 (0), .int .i64 (0), .int .i64 (0), .int .i64 (0), .int .i64 (0), .int .i64 (0), .int .i64 (0), .int .i64 (0), .int .i64 (0), .int .i64 (0), .int .i64 (0), .int .i64 (0), .int .i64 (0), .int .i64 (0), .int .i64 (0), .int .i64 (0), .int .i64 (0), .int .i64 (0), .int .i64 (0), .int .i64 (0), .int .i64 (0), .int .i64 (0), .int .i64 (0), .int .i64 (0), .int .i64 (0), .int .i64 (0), .int .i64 (0), .int .i64 (0), .int .i64 (0), .int .i64 (0), .int .i64 (0), .int .i64 (0), .int .i64 (0), .int .i64 (0), .int .i64 (0), .int .i64 (0), .int .i64 (0), .int .i64 (0), .int .i64 (0), .int .i64 (0), .int .i64 (0), .int .i64 (0), .int .i64 (0), .int .i64 (0), .int .i64 (0), .int .i64 (0), .int .i64 (0), .int .i64 (0), .int .i64 (0), .int .i64 (0), .int .i64 (0), .int .i64 (0), .int .i64 (0), .int .i64 (0), .int .i64 (0), .int .i64 (0), .int .i64 (0), .int .i64 (0), .int .i64 (0), .int .i64 (0), .int .i64 (0), .int .u64 (0), .int .u64 (0), .int .u64 (0), .int .u64 (0), .int .u64 (0), .int .u64 (0), .int .u64 (0), .int .u64 (0), .int .u64 (0), .int .u64 (0), .int .u64 (0), .int .u64 (0), .int .u64 (0), .int .u64 (0), .int .u64 (0), .int .u64 (0), .int .u64 (0), .int .u64 (0), .int .u64 (0), .int .u64 (0), .int .u64 (0), .int .u64 (0), .int .u64 (0), .int .u64 (0), .int .u64 (0), .int .u64 (0), .int .u64 (0), .int .u64 (0), .int .u64 (0), .int .u64 (0), .int .u64 (0), .int .u64 (0), .int .u64 (0), .int .u64 (0), .int .u64 (0), .int .u64 (0), .int .u64 (0), .int .u64 (0), .int .u64 (0), .int .u64 (0), .int .u64 (0), .int .u64 (0), .int .u64 (0), .int .u64 (0), .int .u64 (0), .int .u64 (0), .int .u64 (0), .int .u64 (0), .int .u64 (0), .int .u64 (0), .int .u64 (0), .int .u64 (0), .int .u64 (0), .int .u64 (0), .int .u64 (0), .int .u64 (0), .int .u64 (0), .int .u64 (0), .int .u64 (0), .int .u64 (0), .int .u64 (0), .int .u64 (0), .int .u64 (0), .int .u64 (0), .int .u64 (0), .int .u64 (0), .int .u64 (0), .int .u64 (0), .int .u64 (0), .int .u64 (0), .int .u64 (0), .int .u64 (0), .int .u64 (0), .int .u64 (0), .int .u64 (0), .int .u64 (0), .int .u64 (0), .int .u64 (0), .int .u64 (0), .int .u64 (0), .int .u64 (0), .int .u64 (0), .int .u64 (0), .int .u64 (0), .int .u64 (0), .int .u64 (0), .int .u64 (0), .int .u64 (0), .int .u64 (0), .int .u64 (0), .int .u64 (0), .int .u64 (0), .int .u64 (0), .int .u64 (0), .int .u64 (0), .int .u64 (0), .int .u64 (0), .int .u64 (0), .int .u64 (0), .int .u64 (0), .int .u64 (0), .int .u64 (0), .int .u64 (0), .int .u64 (0), .int .u64 (0), .int .u64 (0), .int .u64 (0), .int .u64 (0), .int .u64 (0), .int .u64 (0), .int .u64 (0), .int .u64 (0), .int .u64 (0), .int .u64 (0), .int .u64 (0), .int .u64 (0), .int .u64 (0), .int .u64 (0), .int .u64 (0), .int .u64 (0), .int .u64 (0), .int .u64 (0), .int .u64 (0), .int .u64 (0), .int .u64 (0), .int .u64 (0), .int .u64 (0), .int .u64 (0), .int .u64 (0), .int .u64 (0), .int .u64 (0), .int .u64 (0), .int .u64 (0), .int .u64 (0), .int .u64 (0), .int .u64 (0), .int .u64 (0), .int .u64 (0), .int .u64 (0), .int .u64 (0), .int .u64 (0), .int .u64 (0), .int .u64 (0), .int .u64 (0), .int .u64 (0), .int .u64 (0), .int .u64 (0), .int .u64 (0), .int .u64 (0), .int .u64 (0), .int .u64 (0), .int .u64 (0), .int .u64 (0), .int .u64 (0), .int .u64 (0), .int .u64 (0), .int .u64 (0), .int .u64 (0), .int .u64 (0), .int .u64 (0), .int .u64 (0), .int .u64 (0), .int .u64 (0), .int .u64 (0), .int .u64 (0), .int .u64 (0), .int .u64 (0), .int .u64 (0), .int .u64 (0), .int .u64 (0), .int .u64 (0), .int .u64 (0), .int .u64 (0), .int .u64 (0), .int .u64 (0), .int .u64 (0), .int .u64 (0), .int .u64 (0), .int .u64 (0), .int .u64 (0), .int .u64 (0), .int .u64 (0), .int .u64 (0), .int .u64 (0), .int .u64 (0), .int .u64 (0), .int .u64 (0), .int .u64 (0), .int .u64 (0), .int .u64 (0), .int .u64 (0), .int .u64 (0), .int .u64 (0), .int .u64 (0), .int .u64 (0), .int .u64 (0), .int .u64 (0), .int .u64 (0), .int .u64 (0), .int .u64 (0), .int .u64 (0), .int .u64 (0), .int .u64 (0), .int .u64 (0), .int .u64 (0), .int .u64 (0), .int .u64 (0), .int .u64 (0), .int .u64 (0), .int .u64 (0), .int .u64 (0), .int .u64 (0), .int .u64 (0), .int .u64 (0), .int .u64 (0), .int .u64 (0), .int .u64 (0), .int .u64 (0), .int .u64 (0), .int .u64 (0), .int .u64 (0), .int .u64 (0), .int .u64 (0), .int .u64 (0), .int .u64 (0), .int .u64 (0), .int .u64 (0), .int .u64 (0), .int .u64 (0), .int .u64 (0), .int .u64 (0), .int .u64 (0), .int .u64 (0), .int .u64 (0), .int .u64 (0), .int .u64 (0), .int .u64 (0), .int .u64 (0), .int .u64 (0), .int .u64 (0), .int .u64 (0), .int .u64 (0), .int .u64 (0), .int .u64 (0), .int .u64 (0), .int .u64 (0), .int .u64 (0), .int .u64 (0), .int .u64 (0), .int .u64 (0), .int .u64 (0), .int .u64 (0), .int .u64 (0), .int .u64 (0), .int .u64 (0), .int .u64 (0)]⟩
def tt : List (TypeId × TI) := [
 (2, ⟨.int .i64, 1, 8, .int .i64 (0)⟩),
 (3, ⟨.int .i64, 1, 8, .int .i64 (0)⟩),
 (4, ⟨.bool, 1, 1, .bool false⟩),
 (5, ⟨.int .u8, 1, 1, .int .u8 (0)⟩),
 (9, ⟨.str, 1, 16, .string ⟨#[]⟩⟩),
 (12, ⟨.int .u64, 1, 8, .int .u64 (0)⟩),
 (13, ⟨.struct [(9, 0), (12, 1)], 2, 24, .agg ⟨[.string ⟨#[]⟩, .int .u64 (0)]⟩⟩),
 (19, ⟨.struct [(17, 0)], 1, 8, .agg ⟨[.pointer none]⟩⟩),
 (20, ⟨.other, 1, 16, .nilIface⟩),
 (21, ⟨.int .i32, 1, 4, .int .i32 (0)⟩),
 (22, ⟨.slice 76, 1, 24, .slice none 0 0⟩),
 (23, ⟨.struct [(3, 0), (22, 1), (22, 2)], 3, 56, .agg ⟨[.int .i64 (0), .slice none 0 0, .slice none 0 0]⟩⟩),
 (24, ⟨.struct [(3, 0), (22, 1), (22, 2)], 3, 56, .agg ⟨[.int .i64 (0), .slice none 0 0, .slice none 0 0]⟩⟩),
 (25, ⟨.slice 39, 1, 24, .slice none 0 0⟩),
 (29, ⟨.int .i64, 1, 8, .int .i64 (0)⟩),
 (37, ⟨.slice 3, 1, 24, .slice none 0 0⟩),
 (38, ⟨.struct [(3, 0), (37, 1), (37, 2)], 3, 56, .agg ⟨[.int .i64 (0), .slice none 0 0, .slice none 0 0]⟩⟩),
 (39, ⟨.struct [(3, 0), (37, 1), (37, 2)], 3, 56, .agg ⟨[.int .i64 (0), .slice none 0 0, .slice none 0 0]⟩⟩),
 (45, ⟨.map 54 37, 1, 8, .map none⟩),
 (46, ⟨.map 54 37, 1, 8, .map none⟩),
 (49, ⟨.other, 1, 8, .pointer none⟩),
 (51, ⟨.other, 1, 8, .nilFunc⟩),
 (52, ⟨.array 6 3, 6, 48, .agg ⟨[.int .i64 (0), .int .i64 (0), .int .i64 (0), .int .i64 (0), .int .i64 (0), .int .i64 (0)]⟩⟩),
 (53, ⟨.struct [(3, 0), (52, 1)], 7, 56, .agg ⟨[.int .i64 (0), .int .i64 (0), .int .i64 (0), .int .i64 (0), .int .i64 (0), .int .i64 (0), .int .i64 (0)]⟩⟩),
 (54, ⟨.struct [(3, 0), (52, 1)], 7, 56, .agg ⟨[.int .i64 (0), .int .i64 (0), .int .i64 (0), .int .i64 (0), .int .i64 (0), .int .i64 (0), .int .i64 (0)]⟩⟩),
 (55, ⟨.other, 1, 8, .nilFunc⟩),
 (56, ⟨.other, 1, 8, .nilFunc⟩),
 (57, ⟨.other, 1, 8, .nilFunc⟩),
 (58, ⟨.struct [(57, 0), (51, 1)], 2, 16, .agg ⟨[.nilFunc, .nilFunc]⟩⟩),
 (59, ⟨.struct [(57, 0), (51, 1)], 2, 16, .agg ⟨[.nilFunc, .nilFunc]⟩⟩),
 (60, ⟨.other, 1, 8, .nilFunc⟩),
 (61, ⟨.other, 1, 8, .nilFunc⟩),
 (62, ⟨.other, 1, 8, .nilFunc⟩),
 (66, ⟨.other, 1, 8, .nilFunc⟩),
 (69, ⟨.other, 1, 8, .nilFunc⟩),
 (70, ⟨.slice 54, 1, 24, .slice none 0 0⟩),
 (72, ⟨.other, 1, 8, .nilFunc⟩),
 (73, ⟨.other, 1, 8, .nilFunc⟩),
 (75, ⟨.struct [(3, 0), (3, 1), (3, 2), (3, 3)], 4, 32, .agg ⟨[.int .i64 (0), .int .i64 (0), .int .i64 (0), .int .i64 (0)]⟩⟩),
 (76, ⟨.struct [(3, 0), (3, 1), (3, 2), (3, 3)], 4, 32, .agg ⟨[.int .i64 (0), .int .i64 (0), .int .i64 (0), .int .i64 (0)]⟩⟩),
 (78, ⟨.map 54 4, 1, 8, .map none⟩),
 (79, ⟨.struct [(24, 0), (3, 3), (52, 4), (78, 10)], 11, 120, .agg ⟨[.int .i64 (0), .slice none 0 0, .slice none 0 0, .int .i64 (0), .int .i64 (0), .int .i64 (0), .int .i64 (0), .int .i64 (0), .int .i64 (0), .int .i64 (0), .map none]⟩⟩),
 (80, ⟨.struct [(24, 0), (3, 3), (52, 4), (78, 10)], 11, 120, .agg ⟨[.int .i64 (0), .slice none 0 0, .slice none 0 0, .int .i64 (0), .int .i64 (0), .int .i64 (0), .int .i64 (0), .int .i64 (0), .int .i64 (0), .int .i64 (0), .map none]⟩⟩),
 (81, ⟨.other, 1, 8, .nilFunc⟩),
 (82, ⟨.other, 1, 8, .nilFunc⟩),
 (86, ⟨.other, 1, 8, .nilFunc⟩),
 (87, ⟨.other, 1, 8, .nilFunc⟩),
 (89, ⟨.struct [(3, 0), (22, 1)], 2, 32, .agg ⟨[.int .i64 (0), .slice none 0 0]⟩⟩),
 (90, ⟨.struct [(3, 0), (22, 1)], 2, 32, .agg ⟨[.int .i64 (0), .slice none 0 0]⟩⟩),
 (92, ⟨.other, 1, 8, .nilFunc⟩),
 (97, ⟨.slice 37, 1, 24, .slice none 0 0⟩),
 (106, ⟨.other, 1, 8, .nilFunc⟩),
 (107, ⟨.other, 1, 8, .nilFunc⟩),
 (109, ⟨.array 64 3, 64, 512, .agg ⟨ivec 64 fun _ => 0⟩⟩),
 (110, ⟨.int .u64, 1, 8, .int .u64 (0)⟩),
 (111, ⟨.array 4 110, 4, 32, .agg ⟨[.int .u64 (0), .int .u64 (0), .int .u64 (0), .int .u64 (0)]⟩⟩),
 (112, ⟨.array 64 111, 256, 2048, .agg ⟨vec 256 fun _ => .int .u64 (0)⟩⟩),
 (113, ⟨.struct [(109, 0), (109, 64), (112, 128)], 384, 3072, z113⟩),
 (114, ⟨.struct [(109, 0), (109, 64), (112, 128)], 384, 3072, z113⟩),
 (123, ⟨.other, 1, 8, .nilFunc⟩),
 (124, ⟨.other, 1, 8, .nilFunc⟩),
 (126, ⟨.struct [(3, 0), (4, 1)], 2, 16, .agg ⟨[.int .i64 (0), .bool false]⟩⟩),
 (127, ⟨.struct [(3, 0), (4, 1)], 2, 16, .agg ⟨[.int .i64 (0), .bool false]⟩⟩),
 (128, ⟨.struct [(3, 0), (3, 1), (3, 2)], 3, 24, .agg ⟨[.int .i64 (0), .int .i64 (0), .int .i64 (0)]⟩⟩),
 (129, ⟨.struct [(3, 0), (3, 1), (3, 2)], 3, 24, .agg ⟨[.int .i64 (0), .int .i64 (0), .int .i64 (0)]⟩⟩),
 (130, ⟨.other, 1, 8, .nilFunc⟩),
 (137, ⟨.int .u64, 1, 8, .int .u64 (0)⟩),
 (143, ⟨.int .i64, 1, 8, .int .i64 (0)⟩),
 (151, ⟨.int .u32, 1, 4, .int .u32 (0)⟩),
 (153, ⟨.int .u64, 1, 8, .int .u64 (0)⟩),
 (157, ⟨.other, 1, 8, .pointer none⟩),
 (159, ⟨.other, 1, 8, .pointer none⟩),
 (172, ⟨.other, 1, 8, .pointer none⟩)]
theorem ti2 : TIOk Tryz.prog 2 ⟨.int .i64, 1, 8, .int .i64 (0)⟩ := ti_mk (show Tryz.prog.underlying 2 = some (.int .i64) by kernel_rfl) (by kernel_rfl)
theorem ti3 : TIOk Tryz.prog 3 ⟨.int .i64, 1, 8, .int .i64 (0)⟩ := ti_mk (show Tryz.prog.underlying 3 = some (.int .i64) by kernel_rfl) (by kernel_rfl)
theorem ti4 : TIOk Tryz.prog 4 ⟨.bool, 1, 1, .bool false⟩ := ti_mk (show Tryz.prog.underlying 4 = some (.bool) by kernel_rfl) (by kernel_rfl)
theorem ti5 : TIOk Tryz.prog 5 ⟨.int .u8, 1, 1, .int .u8 (0)⟩ := ti_mk (show Tryz.prog.underlying 5 = some (.int .u8) by kernel_rfl) (by kernel_rfl)
theorem ti9 : TIOk Tryz.prog 9 ⟨.str, 1, 16, .string ⟨#[]⟩⟩ := ti_mk (show Tryz.prog.underlying 9 = some (.string) by kernel_rfl) (by kernel_rfl)
theorem ti12 : TIOk Tryz.prog 12 ⟨.int .u64, 1, 8, .int .u64 (0)⟩ := ti_mk (show Tryz.prog.underlying 12 = some (.int .u64) by kernel_rfl) (by kernel_rfl)
theorem ti13 : TIOk Tryz.prog 13 ⟨.struct [(9, 0), (12, 1)], 2, 24, .agg ⟨[.string ⟨#[]⟩, .int .u64 (0)]⟩⟩ := ti_mk (tk_struct (by kernel_rfl)) (by kernel_rfl)
theorem ti19 : TIOk Tryz.prog 19 ⟨.struct [(17, 0)], 1, 8, .agg ⟨[.pointer none]⟩⟩ := ti_mk (tk_struct (by kernel_rfl)) (by kernel_rfl)
theorem ti20 : TIOk Tryz.prog 20 ⟨.other, 1, 16, .nilIface⟩ := ti_mk (tk_other (by kernel_rfl)) (by kernel_rfl)
theorem ti21 : TIOk Tryz.prog 21 ⟨.int .i32, 1, 4, .int .i32 (0)⟩ := ti_mk (show Tryz.prog.underlying 21 = some (.int .i32) by kernel_rfl) (by kernel_rfl)
theorem ti22 : TIOk Tryz.prog 22 ⟨.slice 76, 1, 24, .slice none 0 0⟩ := ti_mk (show Tryz.prog.underlying 22 = some (.slice 76) by kernel_rfl) (by kernel_rfl)
theorem ti23 : TIOk Tryz.prog 23 ⟨.struct [(3, 0), (22, 1), (22, 2)], 3, 56, .agg ⟨[.int .i64 (0), .slice none 0 0, .slice none 0 0]⟩⟩ := ti_mk (tk_struct (by kernel_rfl)) (by kernel_rfl)
theorem ti24 : TIOk Tryz.prog 24 ⟨.struct [(3, 0), (22, 1), (22, 2)], 3, 56, .agg ⟨[.int .i64 (0), .slice none 0 0, .slice none 0 0]⟩⟩ := ti_mk (tk_struct (by kernel_rfl)) (by kernel_rfl)
theorem ti25 : TIOk Tryz.prog 25 ⟨.slice 39, 1, 24, .slice none 0 0⟩ := ti_mk (show Tryz.prog.underlying 25 = some (.slice 39) by kernel_rfl) (by kernel_rfl)
theorem ti29 : TIOk Tryz.prog 29 ⟨.int .i64, 1, 8, .int .i64 (0)⟩ := ti_mk (show Tryz.prog.underlying 29 = some (.int .i64) by kernel_rfl) (by kernel_rfl)
theorem ti37 : TIOk Tryz.prog 37 ⟨.slice 3, 1, 24, .slice none 0 0⟩ := ti_mk (show Tryz.prog.underlying 37 = some (.slice 3) by kernel_rfl) (by kernel_rfl)
theorem ti38 : TIOk Tryz.prog 38 ⟨.struct [(3, 0), (37, 1), (37, 2)], 3, 56, .agg ⟨[.int .i64 (0), .slice none 0 0, .slice none 0 0]⟩⟩ := ti_mk (tk_struct (by kernel_rfl)) (by kernel_rfl)
theorem ti39 : TIOk Tryz.prog 39 ⟨.struct [(3, 0), (37, 1), (37, 2)], 3, 56, .agg ⟨[.int .i64 (0), .slice none 0 0, .slice none 0 0]⟩⟩ := ti_mk (tk_struct (by kernel_rfl)) (by kernel_rfl)
theorem ti45 : TIOk Tryz.prog 45 ⟨.map 54 37, 1, 8, .map none⟩ := ti_mk (show Tryz.prog.underlying 45 = some (.map 54 37) by kernel_rfl) (by kernel_rfl)
theorem ti46 : TIOk Tryz.prog 46 ⟨.map 54 37, 1, 8, .map none⟩ := ti_mk (show Tryz.prog.underlying 46 = some (.map 54 37) by kernel_rfl) (by kernel_rfl)
theorem ti49 : TIOk Tryz.prog 49 ⟨.other, 1, 8, .pointer none⟩ := ti_mk (tk_other (by kernel_rfl)) (by kernel_rfl)
theorem ti51 : TIOk Tryz.prog 51 ⟨.other, 1, 8, .nilFunc⟩ := ti_mk (tk_other (by kernel_rfl)) (by kernel_rfl)
theorem ti52 : TIOk Tryz.prog 52 ⟨.array 6 3, 6, 48, .agg ⟨[.int .i64 (0), .int .i64 (0), .int .i64 (0), .int .i64 (0), .int .i64 (0), .int .i64 (0)]⟩⟩ := ti_mk (show Tryz.prog.underlying 52 = some (.array 6 3) by kernel_rfl) (by kernel_rfl)
theorem ti53 : TIOk Tryz.prog 53 ⟨.struct [(3, 0), (52, 1)], 7, 56, .agg ⟨[.int .i64 (0), .int .i64 (0), .int .i64 (0), .int .i64 (0), .int .i64 (0), .int .i64 (0), .int .i64 (0)]⟩⟩ := ti_mk (tk_struct (by kernel_rfl)) (by kernel_rfl)
theorem ti54 : TIOk Tryz.prog 54 ⟨.struct [(3, 0), (52, 1)], 7, 56, .agg ⟨[.int .i64 (0), .int .i64 (0), .int .i64 (0), .int .i64 (0), .int .i64 (0), .int .i64 (0), .int .i64 (0)]⟩⟩ := ti_mk (tk_struct (by kernel_rfl)) (by kernel_rfl)
theorem ti55 : TIOk Tryz.prog 55 ⟨.other, 1, 8, .nilFunc⟩ := ti_mk (tk_other (by kernel_rfl)) (by kernel_rfl)
theorem ti56 : TIOk Tryz.prog 56 ⟨.other, 1, 8, .nilFunc⟩ := ti_mk (tk_other (by kernel_rfl)) (by kernel_rfl)
theorem ti57 : TIOk Tryz.prog 57 ⟨.other, 1, 8, .nilFunc⟩ := ti_mk (tk_other (by kernel_rfl)) (by kernel_rfl)
theorem ti58 : TIOk Tryz.prog 58 ⟨.struct [(57, 0), (51, 1)], 2, 16, .agg ⟨[.nilFunc, .nilFunc]⟩⟩ := ti_mk (tk_struct (by kernel_rfl)) (by kernel_rfl)
theorem ti59 : TIOk Tryz.prog 59 ⟨.struct [(57, 0), (51, 1)], 2, 16, .agg ⟨[.nilFunc, .nilFunc]⟩⟩ := ti_mk (tk_struct (by kernel_rfl)) (by kernel_rfl)
theorem ti60 : TIOk Tryz.prog 60 ⟨.other, 1, 8, .nilFunc⟩ := ti_mk (tk_other (by kernel_rfl)) (by kernel_rfl)
theorem ti61 : TIOk Tryz.prog 61 ⟨.other, 1, 8, .nilFunc⟩ := ti_mk (tk_other (by kernel_rfl)) (by kernel_rfl)
theorem ti62 : TIOk Tryz.prog 62 ⟨.other, 1, 8, .nilFunc⟩ := ti_mk (tk_other (by kernel_rfl)) (by kernel_rfl)
theorem ti66 : TIOk Tryz.prog 66 ⟨.other, 1, 8, .nilFunc⟩ := ti_mk (tk_other (by kernel_rfl)) (by kernel_rfl)
theorem ti69 : TIOk Tryz.prog 69 ⟨.other, 1, 8, .nilFunc⟩ := ti_mk (tk_other (by kernel_rfl)) (by kernel_rfl)
theorem ti70 : TIOk Tryz.prog 70 ⟨.slice 54, 1, 24, .slice none 0 0⟩ := ti_mk (show Tryz.prog.underlying 70 = some (.slice 54) by kernel_rfl) (by kernel_rfl)
theorem ti72 : TIOk Tryz.prog 72 ⟨.other, 1, 8, .nilFunc⟩ := ti_mk (tk_other (by kernel_rfl)) (by kernel_rfl)
theorem ti73 : TIOk Tryz.prog 73 ⟨.other, 1, 8, .nilFunc⟩ := ti_mk (tk_other (by kernel_rfl)) (by kernel_rfl)
theorem ti75 : TIOk Tryz.prog 75 ⟨.struct [(3, 0), (3, 1), (3, 2), (3, 3)], 4, 32, .agg ⟨[.int .i64 (0), .int .i64 (0), .int .i64 (0), .int .i64 (0)]⟩⟩ := ti_mk (tk_struct (by kernel_rfl)) (by kernel_rfl)
theorem ti76 : TIOk Tryz.prog 76 ⟨.struct [(3, 0), (3, 1), (3, 2), (3, 3)], 4, 32, .agg ⟨[.int .i64 (0), .int .i64 (0), .int .i64 (0), .int .i64 (0)]⟩⟩ := ti_mk (tk_struct (by kernel_rfl)) (by kernel_rfl)
theorem ti78 : TIOk Tryz.prog 78 ⟨.map 54 4, 1, 8, .map none⟩ := ti_mk (show Tryz.prog.underlying 78 = some (.map 54 4) by kernel_rfl) (by kernel_rfl)
theorem ti79 : TIOk Tryz.prog 79 ⟨.struct [(24, 0), (3, 3), (52, 4), (78, 10)], 11, 120, .agg ⟨[.int .i64 (0), .slice none 0 0, .slice none 0 0, .int .i64 (0), .int .i64 (0), .int .i64 (0), .int .i64 (0), .int .i64 (0), .int .i64 (0), .int .i64 (0), .map none]⟩⟩ := ti_mk (tk_struct (by kernel_rfl)) (by kernel_rfl)
theorem ti80 : TIOk Tryz.prog 80 ⟨.struct [(24, 0), (3, 3), (52, 4), (78, 10)], 11, 120, .agg ⟨[.int .i64 (0), .slice none 0 0, .slice none 0 0, .int .i64 (0), .int .i64 (0), .int .i64 (0), .int .i64 (0), .int .i64 (0), .int .i64 (0), .int .i64 (0), .map none]⟩⟩ := ti_mk (tk_struct (by kernel_rfl)) (by kernel_rfl)
theorem ti81 : TIOk Tryz.prog 81 ⟨.other, 1, 8, .nilFunc⟩ := ti_mk (tk_other (by kernel_rfl)) (by kernel_rfl)
theorem ti82 : TIOk Tryz.prog 82 ⟨.other, 1, 8, .nilFunc⟩ := ti_mk (tk_other (by kernel_rfl)) (by kernel_rfl)
theorem ti86 : TIOk Tryz.prog 86 ⟨.other, 1, 8, .nilFunc⟩ := ti_mk (tk_other (by kernel_rfl)) (by kernel_rfl)
theorem ti87 : TIOk Tryz.prog 87 ⟨.other, 1, 8, .nilFunc⟩ := ti_mk (tk_other (by kernel_rfl)) (by kernel_rfl)
theorem ti89 : TIOk Tryz.prog 89 ⟨.struct [(3, 0), (22, 1)], 2, 32, .agg ⟨[.int .i64 (0), .slice none 0 0]⟩⟩ := ti_mk (tk_struct (by kernel_rfl)) (by kernel_rfl)
theorem ti90 : TIOk Tryz.prog 90 ⟨.struct [(3, 0), (22, 1)], 2, 32, .agg ⟨[.int .i64 (0), .slice none 0 0]⟩⟩ := ti_mk (tk_struct (by kernel_rfl)) (by kernel_rfl)
theorem ti92 : TIOk Tryz.prog 92 ⟨.other, 1, 8, .nilFunc⟩ := ti_mk (tk_other (by kernel_rfl)) (by kernel_rfl)
theorem ti97 : TIOk Tryz.prog 97 ⟨.slice 37, 1, 24, .slice none 0 0⟩ := ti_mk (show Tryz.prog.underlying 97 = some (.slice 37) by kernel_rfl) (by kernel_rfl)
theorem ti106 : TIOk Tryz.prog 106 ⟨.other, 1, 8, .nilFunc⟩ := ti_mk (tk_other (by kernel_rfl)) (by kernel_rfl)
theorem ti107 : TIOk Tryz.prog 107 ⟨.other, 1, 8, .nilFunc⟩ := ti_mk (tk_other (by kernel_rfl)) (by kernel_rfl)
theorem ti109 : TIOk Tryz.prog 109 ⟨.array 64 3, 64, 512, .agg ⟨ivec 64 fun _ => 0⟩⟩ := ti_mk (show Tryz.prog.underlying 109 = some (.array 64 3) by kernel_rfl) (by kernel_rfl)
theorem ti110 : TIOk Tryz.prog 110 ⟨.int .u64, 1, 8, .int .u64 (0)⟩ := ti_mk (show Tryz.prog.underlying 110 = some (.int .u64) by kernel_rfl) (by kernel_rfl)
theorem ti111 : TIOk Tryz.prog 111 ⟨.array 4 110, 4, 32, .agg ⟨[.int .u64 (0), .int .u64 (0), .int .u64 (0), .int .u64 (0)]⟩⟩ := ti_mk (show Tryz.prog.underlying 111 = some (.array 4 110) by kernel_rfl) (by kernel_rfl)
theorem ti112 : TIOk Tryz.prog 112 ⟨.array 64 111, 256, 2048, .agg ⟨vec 256 fun _ => .int .u64 (0)⟩⟩ := ti_mk (show Tryz.prog.underlying 112 = some (.array 64 111) by kernel_rfl) (by kernel_rfl)
theorem ti113 : TIOk Tryz.prog 113 ⟨.struct [(109, 0), (109, 64), (112, 128)], 384, 3072, z113⟩ := ti_mk (tk_struct (by kernel_rfl)) (by kernel_rfl)
theorem ti114 : TIOk Tryz.prog 114 ⟨.struct [(109, 0), (109, 64), (112, 128)], 384, 3072, z113⟩ := ti_mk (tk_struct (by kernel_rfl)) (by kernel_rfl)
theorem ti123 : TIOk Tryz.prog 123 ⟨.other, 1, 8, .nilFunc⟩ := ti_mk (tk_other (by kernel_rfl)) (by kernel_rfl)
theorem ti124 : TIOk Tryz.prog 124 ⟨.other, 1, 8, .nilFunc⟩ := ti_mk (tk_other (by kernel_rfl)) (by kernel_rfl)
theorem ti126 : TIOk Tryz.prog 126 ⟨.struct [(3, 0), (4, 1)], 2, 16, .agg ⟨[.int .i64 (0), .bool false]⟩⟩ := ti_mk (tk_struct (by kernel_rfl)) (by kernel_rfl)
theorem ti127 : TIOk Tryz.prog 127 ⟨.struct [(3, 0), (4, 1)], 2, 16, .agg ⟨[.int .i64 (0), .bool false]⟩⟩ := ti_mk (tk_struct (by kernel_rfl)) (by kernel_rfl)
theorem ti128 : TIOk Tryz.prog 128 ⟨.struct [(3, 0), (3, 1), (3, 2)], 3, 24, .agg ⟨[.int .i64 (0), .int .i64 (0), .int .i64 (0)]⟩⟩ := ti_mk (tk_struct (by kernel_rfl)) (by kernel_rfl)
theorem ti129 : TIOk Tryz.prog 129 ⟨.struct [(3, 0), (3, 1), (3, 2)], 3, 24, .agg ⟨[.int .i64 (0), .int .i64 (0), .int .i64 (0)]⟩⟩ := ti_mk (tk_struct (by kernel_rfl)) (by kernel_rfl)
theorem ti130 : TIOk Tryz.prog 130 ⟨.other, 1, 8, .nilFunc⟩ := ti_mk (tk_other (by kernel_rfl)) (by kernel_rfl)
theorem ti137 : TIOk Tryz.prog 137 ⟨.int .u64, 1, 8, .int .u64 (0)⟩ := ti_mk (show Tryz.prog.underlying 137 = some (.int .u64) by kernel_rfl) (by kernel_rfl)
theorem ti143 : TIOk Tryz.prog 143 ⟨.int .i64, 1, 8, .int .i64 (0)⟩ := ti_mk (show Tryz.prog.underlying 143 = some (.int .i64) by kernel_rfl) (by kernel_rfl)
theorem ti151 : TIOk Tryz.prog 151 ⟨.int .u32, 1, 4, .int .u32 (0)⟩ := ti_mk (show Tryz.prog.underlying 151 = some (.int .u32) by kernel_rfl) (by kernel_rfl)
theorem ti153 : TIOk Tryz.prog 153 ⟨.int .u64, 1, 8, .int .u64 (0)⟩ := ti_mk (show Tryz.prog.underlying 153 = some (.int .u64) by kernel_rfl) (by kernel_rfl)
theorem ti157 : TIOk Tryz.prog 157 ⟨.other, 1, 8, .pointer none⟩ := ti_mk (tk_other (by kernel_rfl)) (by kernel_rfl)
theorem ti159 : TIOk Tryz.prog 159 ⟨.other, 1, 8, .pointer none⟩ := ti_mk (tk_other (by kernel_rfl)) (by kernel_rfl)
theorem ti172 : TIOk Tryz.prog 172 ⟨.other, 1, 8, .pointer none⟩ := ti_mk (tk_other (by kernel_rfl)) (by kernel_rfl)
instance : TT Tryz.prog tt := ⟨tt_cons ti2 <| tt_cons ti3 <| tt_cons ti4 <| tt_cons ti5 <| tt_cons ti9 <| tt_cons ti12 <| tt_cons ti13 <| tt_cons ti19 <| tt_cons ti20 <| tt_cons ti21 <| tt_cons ti22 <| tt_cons ti23 <| tt_cons ti24 <| tt_cons ti25 <| tt_cons ti29 <| tt_cons ti37 <| tt_cons ti38 <| tt_cons ti39 <| tt_cons ti45 <| tt_cons ti46 <| tt_cons ti49 <| tt_cons ti51 <| tt_cons ti52 <| tt_cons ti53 <| tt_cons ti54 <| tt_cons ti55 <| tt_cons ti56 <| tt_cons ti57 <| tt_cons ti58 <| tt_cons ti59 <| tt_cons ti60 <| tt_cons ti61 <| tt_cons ti62 <| tt_cons ti66 <| tt_cons ti69 <| tt_cons ti70 <| tt_cons ti72 <| tt_cons ti73 <| tt_cons ti75 <| tt_cons ti76 <| tt_cons ti78 <| tt_cons ti79 <| tt_cons ti80 <| tt_cons ti81 <| tt_cons ti82 <| tt_cons ti86 <| tt_cons ti87 <| tt_cons ti89 <| tt_cons ti90 <| tt_cons ti92 <| tt_cons ti97 <| tt_cons ti106 <| tt_cons ti107 <| tt_cons ti109 <| tt_cons ti110 <| tt_cons ti111 <| tt_cons ti112 <| tt_cons ti113 <| tt_cons ti114 <| tt_cons ti123 <| tt_cons ti124 <| tt_cons ti126 <| tt_cons ti127 <| tt_cons ti128 <| tt_cons ti129 <| tt_cons ti130 <| tt_cons ti137 <| tt_cons ti143 <| tt_cons ti151 <| tt_cons ti153 <| tt_cons ti157 <| tt_cons ti159 <| tt_cons ti172 <| tt_nil⟩
instance : Ent Tryz.prog 4 := ⟨ent_of Tryz.func4 (by kernel_rfl) (by kernel_rfl)⟩
instance : Ent Tryz.prog 5 := ⟨ent_of Tryz.func5 (by kernel_rfl) (by kernel_rfl)⟩
instance : Ent Tryz.prog 6 := ⟨ent_of Tryz.func6 (by kernel_rfl) (by kernel_rfl)⟩
instance : Ent Tryz.prog 8 := ⟨ent_of Tryz.func8 (by kernel_rfl) (by kernel_rfl)⟩
instance : Ent Tryz.prog 9 := ⟨ent_of Tryz.func9 (by kernel_rfl) (by kernel_rfl)⟩
instance : Ent Tryz.prog 10 := ⟨ent_of Tryz.func10 (by kernel_rfl) (by kernel_rfl)⟩
instance : Ent Tryz.prog 11 := ⟨ent_of Tryz.func11 (by kernel_rfl) (by kernel_rfl)⟩
instance : Ent Tryz.prog 12 := ⟨ent_of Tryz.func12 (by kernel_rfl) (by kernel_rfl)⟩
instance : Ent Tryz.prog 13 := ⟨ent_of Tryz.func13 (by kernel_rfl) (by kernel_rfl)⟩
instance : Ent Tryz.prog 14 := ⟨ent_of Tryz.func14 (by kernel_rfl) (by kernel_rfl)⟩
instance : Ent Tryz.prog 15 := ⟨ent_of Tryz.func15 (by kernel_rfl) (by kernel_rfl)⟩
instance : Ent Tryz.prog 16 := ⟨ent_of Tryz.func16 (by kernel_rfl) (by kernel_rfl)⟩
instance : Ent Tryz.prog 17 := ⟨ent_of Tryz.func17 (by kernel_rfl) (by kernel_rfl)⟩
instance : Ent Tryz.prog 18 := ⟨ent_of Tryz.func18 (by kernel_rfl) (by kernel_rfl)⟩
instance : Ent Tryz.prog 19 := ⟨ent_of Tryz.func19 (by kernel_rfl) (by kernel_rfl)⟩
instance : Ent Tryz.prog 20 := ⟨ent_of Tryz.func20 (by kernel_rfl) (by kernel_rfl)⟩
instance : Ent Tryz.prog 21 := ⟨ent_of Tryz.func21 (by kernel_rfl) (by kernel_rfl)⟩
instance : Ent Tryz.prog 22 := ⟨ent_of Tryz.func22 (by kernel_rfl) (by kernel_rfl)⟩
instance : Ent Tryz.prog 23 := ⟨ent_of Tryz.func23 (by kernel_rfl) (by kernel_rfl)⟩
instance : Ent Tryz.prog 24 := ⟨ent_of Tryz.func24 (by kernel_rfl) (by kernel_rfl)⟩
instance : Ent Tryz.prog 25 := ⟨ent_of Tryz.func25 (by kernel_rfl) (by kernel_rfl)⟩
instance : Ent Tryz.prog 26 := ⟨ent_of Tryz.func26 (by kernel_rfl) (by kernel_rfl)⟩
instance : Ent Tryz.prog 27 := ⟨ent_of Tryz.func27 (by kernel_rfl) (by kernel_rfl)⟩
instance : Ent Tryz.prog 28 := ⟨ent_of Tryz.func28 (by kernel_rfl) (by kernel_rfl)⟩
instance : Ent Tryz.prog 29 := ⟨ent_of Tryz.func29 (by kernel_rfl) (by kernel_rfl)⟩
instance : Ent Tryz.prog 30 := ⟨ent_of Tryz.func30 (by kernel_rfl) (by kernel_rfl)⟩
instance : Ent Tryz.prog 31 := ⟨ent_of Tryz.func31 (by kernel_rfl) (by kernel_rfl)⟩
instance : Ent Tryz.prog 32 := ⟨ent_of Tryz.func32 (by kernel_rfl) (by kernel_rfl)⟩
instance : Ent Tryz.prog 33 := ⟨ent_of Tryz.func33 (by kernel_rfl) (by kernel_rfl)⟩
instance : Ent Tryz.prog 34 := ⟨ent_of Tryz.func34 (by kernel_rfl) (by kernel_rfl)⟩
instance : Ent Tryz.prog 35 := ⟨ent_of Tryz.func35 (by kernel_rfl) (by kernel_rfl)⟩
instance : Ent Tryz.prog 36 := ⟨ent_of Tryz.func36 (by kernel_rfl) (by kernel_rfl)⟩
instance : Ent Tryz.prog 37 := ⟨ent_of Tryz.func37 (by kernel_rfl) (by kernel_rfl)⟩
instance : Ent Tryz.prog 38 := ⟨ent_of Tryz.func38 (by kernel_rfl) (by kernel_rfl)⟩
instance : Ent Tryz.prog 39 := ⟨ent_of Tryz.func39 (by kernel_rfl) (by kernel_rfl)⟩
instance : Ent Tryz.prog 40 := ⟨ent_of Tryz.func40 (by kernel_rfl) (by kernel_rfl)⟩
instance : Ent Tryz.prog 41 := ⟨ent_of Tryz.func41 (by kernel_rfl) (by kernel_rfl)⟩
instance : Ent Tryz.prog 42 := ⟨ent_of Tryz.func42 (by kernel_rfl) (by kernel_rfl)⟩
instance : Ent Tryz.prog 43 := ⟨ent_of Tryz.func43 (by kernel_rfl) (by kernel_rfl)⟩
instance : Ent Tryz.prog 44 := ⟨ent_of Tryz.func44 (by kernel_rfl) (by kernel_rfl)⟩
instance : Ent Tryz.prog 45 := ⟨ent_of Tryz.func45 (by kernel_rfl) (by kernel_rfl)⟩
instance : Ent Tryz.prog 46 := ⟨ent_of Tryz.func46 (by kernel_rfl) (by kernel_rfl)⟩
instance : Ent Tryz.prog 47 := ⟨ent_of Tryz.func47 (by kernel_rfl) (by kernel_rfl)⟩
instance : Ent Tryz.prog 48 := ⟨ent_of Tryz.func48 (by kernel_rfl) (by kernel_rfl)⟩
instance : Ent Tryz.prog 49 := ⟨ent_of Tryz.func49 (by kernel_rfl) (by kernel_rfl)⟩
instance : Ent Tryz.prog 50 := ⟨ent_of Tryz.func50 (by kernel_rfl) (by kernel_rfl)⟩
instance : Ent Tryz.prog 51 := ⟨ent_of Tryz.func51 (by kernel_rfl) (by kernel_rfl)⟩
instance : Ent Tryz.prog 52 := ⟨ent_of Tryz.func52 (by kernel_rfl) (by kernel_rfl)⟩
instance : Ent Tryz.prog 53 := ⟨ent_of Tryz.func53 (by kernel_rfl) (by kernel_rfl)⟩
instance : Ent Tryz.prog 54 := ⟨ent_of Tryz.func54 (by kernel_rfl) (by kernel_rfl)⟩
instance : Ent Tryz.prog 55 := ⟨ent_of Tryz.func55 (by kernel_rfl) (by kernel_rfl)⟩
instance : Ent Tryz.prog 56 := ⟨ent_of Tryz.func56 (by kernel_rfl) (by kernel_rfl)⟩
instance : Ent Tryz.prog 57 := ⟨ent_of Tryz.func57 (by kernel_rfl) (by kernel_rfl)⟩
instance : Ent Tryz.prog 58 := ⟨ent_of Tryz.func58 (by kernel_rfl) (by kernel_rfl)⟩
instance : Ent Tryz.prog 59 := ⟨ent_of Tryz.func59 (by kernel_rfl) (by kernel_rfl)⟩
instance : Ent Tryz.prog 60 := ⟨ent_of Tryz.func60 (by kernel_rfl) (by kernel_rfl)⟩
instance : Ent Tryz.prog 61 := ⟨ent_of Tryz.func61 (by kernel_rfl) (by kernel_rfl)⟩
instance : Ent Tryz.prog 62 := ⟨ent_of Tryz.func62 (by kernel_rfl) (by kernel_rfl)⟩
instance : Ent Tryz.prog 63 := ⟨ent_of Tryz.func63 (by kernel_rfl) (by kernel_rfl)⟩
instance : Ent Tryz.prog 64 := ⟨ent_of Tryz.func64 (by kernel_rfl) (by kernel_rfl)⟩
instance : Ent Tryz.prog 65 := ⟨ent_of Tryz.func65 (by kernel_rfl) (by kernel_rfl)⟩
instance : Ent Tryz.prog 66 := ⟨ent_of Tryz.func66 (by kernel_rfl) (by kernel_rfl)⟩
instance : Ent Tryz.prog 67 := ⟨ent_of Tryz.func67 (by kernel_rfl) (by kernel_rfl)⟩
instance : Ent Tryz.prog 68 := ⟨ent_of Tryz.func68 (by kernel_rfl) (by kernel_rfl)⟩
instance : Ent Tryz.prog 69 := ⟨ent_of Tryz.func69 (by kernel_rfl) (by kernel_rfl)⟩
instance : Ent Tryz.prog 70 := ⟨ent_of Tryz.func70 (by kernel_rfl) (by kernel_rfl)⟩
instance : Ent Tryz.prog 71 := ⟨ent_of Tryz.func71 (by kernel_rfl) (by kernel_rfl)⟩
instance : Ent Tryz.prog 72 := ⟨ent_of Tryz.func72 (by kernel_rfl) (by kernel_rfl)⟩
instance : Ent Tryz.prog 73 := ⟨ent_of Tryz.func73 (by kernel_rfl) (by kernel_rfl)⟩
instance : Ent Tryz.prog 74 := ⟨ent_of Tryz.func74 (by kernel_rfl) (by kernel_rfl)⟩
instance : Ent Tryz.prog 75 := ⟨ent_of Tryz.func75 (by kernel_rfl) (by kernel_rfl)⟩
instance : Ent Tryz.prog 76 := ⟨ent_of Tryz.func76 (by kernel_rfl) (by kernel_rfl)⟩
instance : Ent Tryz.prog 77 := ⟨ent_of Tryz.func77 (by kernel_rfl) (by kernel_rfl)⟩
instance : Ent Tryz.prog 78 := ⟨ent_of Tryz.func78 (by kernel_rfl) (by kernel_rfl)⟩
instance : Ent Tryz.prog 79 := ⟨ent_of Tryz.func79 (by kernel_rfl) (by kernel_rfl)⟩
instance : Ent Tryz.prog 80 := ⟨ent_of Tryz.func80 (by kernel_rfl) (by kernel_rfl)⟩
instance : Ent Tryz.prog 81 := ⟨ent_of Tryz.func81 (by kernel_rfl) (by kernel_rfl)⟩
instance : Ent Tryz.prog 82 := ⟨ent_of Tryz.func82 (by kernel_rfl) (by kernel_rfl)⟩
instance : Ent Tryz.prog 83 := ⟨ent_of Tryz.func83 (by kernel_rfl) (by kernel_rfl)⟩
instance : Ent Tryz.prog 84 := ⟨ent_of Tryz.func84 (by kernel_rfl) (by kernel_rfl)⟩
instance : Ent Tryz.prog 85 := ⟨ent_of Tryz.func85 (by kernel_rfl) (by kernel_rfl)⟩
instance : Ent Tryz.prog 86 := ⟨ent_of Tryz.func86 (by kernel_rfl) (by kernel_rfl)⟩
instance : Ent Tryz.prog 87 := ⟨ent_of Tryz.func87 (by kernel_rfl) (by kernel_rfl)⟩
instance : Ent Tryz.prog 88 := ⟨ent_of Tryz.func88 (by kernel_rfl) (by kernel_rfl)⟩
instance : Ent Tryz.prog 89 := ⟨ent_of Tryz.func89 (by kernel_rfl) (by kernel_rfl)⟩
instance : Ent Tryz.prog 90 := ⟨ent_of Tryz.func90 (by kernel_rfl) (by kernel_rfl)⟩
instance : Ent Tryz.prog 93 := ⟨ent_of Tryz.func93 (by kernel_rfl) (by kernel_rfl)⟩
instance : Ent Tryz.prog 94 := ⟨ent_of Tryz.func94 (by kernel_rfl) (by kernel_rfl)⟩
instance : Ent Tryz.prog 95 := ⟨ent_of Tryz.func95 (by kernel_rfl) (by kernel_rfl)⟩
instance : Ent Tryz.prog 96 := ⟨ent_of Tryz.func96 (by kernel_rfl) (by kernel_rfl)⟩
instance : Ent Tryz.prog 97 := ⟨ent_of Tryz.func97 (by kernel_rfl) (by kernel_rfl)⟩
instance : Mixed Tryz.prog := ⟨by kernel_rfl⟩
theorem eqs54 : EqS Tryz.prog 54 := ⟨by kernel_rfl, by kernel_rfl, by kernel_rfl⟩
theorem eqs76 : EqS Tryz.prog 76 := ⟨by kernel_rfl, by kernel_rfl, by kernel_rfl⟩
theorem eqs114 : EqS Tryz.prog 114 := ⟨by kernel_rfl, by kernel_rfl, by kernel_rfl⟩
theorem eqs127 : EqS Tryz.prog 127 := ⟨by kernel_rfl, by kernel_rfl, by kernel_rfl⟩
theorem eqs129 : EqS Tryz.prog 129 := ⟨by kernel_rfl, by kernel_rfl, by kernel_rfl⟩
instance : EqAll Tryz.prog [54, 76, 114, 127, 129] := ⟨eqs_cons eqs54 <| eqs_cons eqs76 <| eqs_cons eqs114 <| eqs_cons eqs127 <| eqs_cons eqs129 <| eqs_nil⟩
end R24
end Go.Proofs
