/- The seat's types and functions, as the engine wants them. Printed by gen_ty.py. -/
import Derived.Test.YtcodoembnjemkaaProg
import Derived.Test.YtcodoembnjemkaaEng11
set_option linter.unusedSectionVars false
set_option linter.unusedVariables false
set_option linter.unusedSimpArgs false
namespace Go.Proofs
open Go.Kin
namespace R24
/-- 2 int64 · 3 int · 4 bool · 5 uint8 · 9 string · 12 uintptr · 13 struct { msg string; addr uintptr } · 19 maps.unhashableTypeError · 20 interface {} · 21 int32 · 22 []api.Constraint · 23 struct { Points int; Links []api.Constraint; Called []api.Constraint } · 24 api.Uncertain · 25 []api.Decision · 26 []int · 30 api.Errno · 41 *api.Constraint · 42 struct { From int; To int; Lo int; Hi int } · 43 api.Constraint · 45 []uint8 · 46 [][]api.Decision · 48 struct { Points int; Links []api.Constraint } · 49 api.Timing · 56 struct { Tick int; Known []int; Do []int } · 57 api.Decision · 59 map[strategy.place][]int · 60 strategy.table · 63 *strategy.game · 65 [6]int · 66 struct { tick int; known [6]int } · 67 strategy.place · 69 func(strategy.place) ([]int, []int) · 70 func([]int) strategy.place · 72 map[strategy.place]bool · 73 struct { u api.Uncertain; ticks int; into [6]int; won map[strategy.place]bool } · 74 strategy.game · 75 func(int) bool · 76 func(strategy.place) []int · 77 func([]int) []int · 83 func(api.Constraint) bool · 84 func(strategy.place) bool · 86 func(strategy.place, []int) · 87 []strategy.place · 88 func(func([]int, strategy.place) bool) · 89 iter.Seq2[[]int,kinesphere/strategy.place] · 90 func(strategy.place) iter.Seq2[[]int,kinesphere/strategy.place] · 91 struct { moves func(strategy.place) iter.Seq2[[]int,kinesphere/strategy.place]; good func(strategy.place) bool } · 92 strategy.player[kinesphere/strategy.place] · 93 func() strategy.player[kinesphere/strategy.place] · 95 func(strategy.place) ([]int, strategy.place, bool) · 96 func(strategy.place, func(strategy.place, []int)) []strategy.place · 99 func(func(api.Use, stn.step) bool) · 100 iter.Seq2[kinesphere/api.Use,kinesphere/stn.step] · 102 struct { Link int; Lower bool } · 103 api.Use · 104 struct { a int; b int; w int } · 105 stn.step · 106 [64]int · 107 uint64 · 108 [4]uint64 · 109 [64][4]uint64 · 110 struct { into [64]int; root [64]int; chain [64][4]uint64 } · 111 control.tree · 114 func([]int, func(int) bool) bool · 115 []api.Use · 118 func(api.Decision, api.Decision) int · 119 func([]int, func(int) bool) int · 136 func(api.Decision, api.Decision) bool · 141 func(api.Use) control.step · 142 func(api.Uncertain, control.tree) func(api.Use) control.step · 143 []*api.Use · 144 func(func(api.Use) bool) · 145 iter.Seq[kinesphere/api.Use] · 147 struct { from int; to int; weight int } · 148 control.step · 149 *api.Use · 155 uint · 156 func([]int, strategy.place) bool · 157 map[api.Use]control.step · 161 slices.sortedHint · 169 uint32 · 171 slices.xorshift · 175 *int · 177 *slices.xorshift · 190 *uint8 -/
def tt : List (TypeId × TI) := [
 (2, ⟨.int .i64, 1, 8, .int .i64 (0)⟩),
 (3, ⟨.int .i64, 1, 8, .int .i64 (0)⟩),
 (4, ⟨.bool, 1, 1, .bool false⟩),
 (5, ⟨.int .u8, 1, 1, .int .u8 (0)⟩),
 (9, ⟨.str, 1, 16, .string ⟨#[]⟩⟩),
 (12, ⟨.int .u64, 1, 8, .int .u64 (0)⟩),
 (13, ⟨.struct [(9, 0), (12, 1)], 2, 24, .agg ⟨[.string ⟨#[]⟩, .int .u64 (0)]⟩⟩),
 (19, ⟨.struct [(17, 0)], 1, 8, .agg ⟨[.pointer none]⟩⟩),
 (20, ⟨.other, 1, 16, .nilIface⟩),
 (21, ⟨.int .i32, 1, 4, .int .i32 (0)⟩),
 (22, ⟨.slice 43, 1, 24, .slice none 0 0⟩),
 (23, ⟨.struct [(3, 0), (22, 1), (22, 2)], 3, 56, .agg ⟨[.int .i64 (0), .slice none 0 0, .slice none 0 0]⟩⟩),
 (24, ⟨.struct [(3, 0), (22, 1), (22, 2)], 3, 56, .agg ⟨[.int .i64 (0), .slice none 0 0, .slice none 0 0]⟩⟩),
 (25, ⟨.slice 57, 1, 24, .slice none 0 0⟩),
 (26, ⟨.slice 3, 1, 24, .slice none 0 0⟩),
 (30, ⟨.int .i64, 1, 8, .int .i64 (0)⟩),
 (41, ⟨.other, 1, 8, .pointer none⟩),
 (42, ⟨.struct [(3, 0), (3, 1), (3, 2), (3, 3)], 4, 32, .agg ⟨[.int .i64 (0), .int .i64 (0), .int .i64 (0), .int .i64 (0)]⟩⟩),
 (43, ⟨.struct [(3, 0), (3, 1), (3, 2), (3, 3)], 4, 32, .agg ⟨[.int .i64 (0), .int .i64 (0), .int .i64 (0), .int .i64 (0)]⟩⟩),
 (45, ⟨.slice 5, 1, 24, .slice none 0 0⟩),
 (46, ⟨.slice 25, 1, 24, .slice none 0 0⟩),
 (48, ⟨.struct [(3, 0), (22, 1)], 2, 32, .agg ⟨[.int .i64 (0), .slice none 0 0]⟩⟩),
 (49, ⟨.struct [(3, 0), (22, 1)], 2, 32, .agg ⟨[.int .i64 (0), .slice none 0 0]⟩⟩),
 (56, ⟨.struct [(3, 0), (26, 1), (26, 2)], 3, 56, .agg ⟨[.int .i64 (0), .slice none 0 0, .slice none 0 0]⟩⟩),
 (57, ⟨.struct [(3, 0), (26, 1), (26, 2)], 3, 56, .agg ⟨[.int .i64 (0), .slice none 0 0, .slice none 0 0]⟩⟩),
 (59, ⟨.map 67 26, 1, 8, .map none⟩),
 (60, ⟨.map 67 26, 1, 8, .map none⟩),
 (63, ⟨.other, 1, 8, .pointer none⟩),
 (65, ⟨.array 6 3, 6, 48, .agg ⟨[.int .i64 (0), .int .i64 (0), .int .i64 (0), .int .i64 (0), .int .i64 (0), .int .i64 (0)]⟩⟩),
 (66, ⟨.struct [(3, 0), (65, 1)], 7, 56, .agg ⟨[.int .i64 (0), .int .i64 (0), .int .i64 (0), .int .i64 (0), .int .i64 (0), .int .i64 (0), .int .i64 (0)]⟩⟩),
 (67, ⟨.struct [(3, 0), (65, 1)], 7, 56, .agg ⟨[.int .i64 (0), .int .i64 (0), .int .i64 (0), .int .i64 (0), .int .i64 (0), .int .i64 (0), .int .i64 (0)]⟩⟩),
 (69, ⟨.other, 1, 8, .nilFunc⟩),
 (70, ⟨.other, 1, 8, .nilFunc⟩),
 (72, ⟨.map 67 4, 1, 8, .map none⟩),
 (73, ⟨.struct [(24, 0), (3, 3), (65, 4), (72, 10)], 11, 120, .agg ⟨[.int .i64 (0), .slice none 0 0, .slice none 0 0, .int .i64 (0), .int .i64 (0), .int .i64 (0), .int .i64 (0), .int .i64 (0), .int .i64 (0), .int .i64 (0), .map none]⟩⟩),
 (74, ⟨.struct [(24, 0), (3, 3), (65, 4), (72, 10)], 11, 120, .agg ⟨[.int .i64 (0), .slice none 0 0, .slice none 0 0, .int .i64 (0), .int .i64 (0), .int .i64 (0), .int .i64 (0), .int .i64 (0), .int .i64 (0), .int .i64 (0), .map none]⟩⟩),
 (75, ⟨.other, 1, 8, .nilFunc⟩),
 (76, ⟨.other, 1, 8, .nilFunc⟩),
 (77, ⟨.other, 1, 8, .nilFunc⟩),
 (83, ⟨.other, 1, 8, .nilFunc⟩),
 (84, ⟨.other, 1, 8, .nilFunc⟩),
 (86, ⟨.other, 1, 8, .nilFunc⟩),
 (87, ⟨.slice 67, 1, 24, .slice none 0 0⟩),
 (88, ⟨.other, 1, 8, .nilFunc⟩),
 (89, ⟨.other, 1, 8, .nilFunc⟩),
 (90, ⟨.other, 1, 8, .nilFunc⟩),
 (91, ⟨.struct [(90, 0), (84, 1)], 2, 16, .agg ⟨[.nilFunc, .nilFunc]⟩⟩),
 (92, ⟨.struct [(90, 0), (84, 1)], 2, 16, .agg ⟨[.nilFunc, .nilFunc]⟩⟩),
 (93, ⟨.other, 1, 8, .nilFunc⟩),
 (95, ⟨.other, 1, 8, .nilFunc⟩),
 (96, ⟨.other, 1, 8, .nilFunc⟩),
 (99, ⟨.other, 1, 8, .nilFunc⟩),
 (100, ⟨.other, 1, 8, .nilFunc⟩),
 (102, ⟨.struct [(3, 0), (4, 1)], 2, 16, .agg ⟨[.int .i64 (0), .bool false]⟩⟩),
 (103, ⟨.struct [(3, 0), (4, 1)], 2, 16, .agg ⟨[.int .i64 (0), .bool false]⟩⟩),
 (104, ⟨.struct [(3, 0), (3, 1), (3, 2)], 3, 24, .agg ⟨[.int .i64 (0), .int .i64 (0), .int .i64 (0)]⟩⟩),
 (105, ⟨.struct [(3, 0), (3, 1), (3, 2)], 3, 24, .agg ⟨[.int .i64 (0), .int .i64 (0), .int .i64 (0)]⟩⟩),
 (106, ⟨.array 64 3, 64, 512, .agg ⟨ivec 64 fun _ => 0⟩⟩),
 (107, ⟨.int .u64, 1, 8, .int .u64 (0)⟩),
 (108, ⟨.array 4 107, 4, 32, .agg ⟨[.int .u64 (0), .int .u64 (0), .int .u64 (0), .int .u64 (0)]⟩⟩),
 (109, ⟨.array 64 108, 256, 2048, .agg ⟨vec 256 fun _ => .int .u64 (0)⟩⟩),
 (110, ⟨.struct [(106, 0), (106, 64), (109, 128)], 384, 3072, .agg ⟨[.int .i64 (0), .int .i64 (0), .int .i64 (0), .int .i64 (0), .int .i64 (0), .int .i64 (0), .int .i64 (0), .int .i64 (0), .int .i64 (0), .int .i64 (0), .int .i64 (0), .int .i64 (0), .int .i64 (0), .int .i64 (0), .int .i64 (0), .int .i64 (0), .int .i64 (0), .int .i64 (0), .int .i64 (0), .int .i64 (0), .int .i64 (0), .int .i64 (0), .int .i64 (0), .int .i64 (0), .int .i64 (0), .int .i64 (0), .int .i64 (0), .int .i64 (0), .int .i64 (0), .int .i64 (0), .int .i64 (0), .int .i64 (0), .int .i64 (0), .int .i64 (0), .int .i64 (0), .int .i64 (0), .int .i64 (0), .int .i64 (0), .int .i64 (0), .int .i64 (0), .int .i64 (0), .int .i64 (0), .int .i64 (0), .int .i64 (0), .int .i64 (0), .int .i64 (0), .int .i64 (0), .int .i64 (0), .int .i64 (0), .int .i64 (0), .int .i64 (0), .int .i64 (0), .int .i64 (0), .int .i64 (0), .int .i64 (0), .int .i64 (0), .int .i64 (0), .int .i64 (0), .int .i64 (0), .int .i64 (0), .int .i64 (0), .int .i64 (0), .int .i64 (0), .int .i64 (0), .int .i64 (0), .int .i64 (0), .int .i64 (0), .int .i64 (0), .int .i64 (0), .int .i64 (0), .int .i64 (0), .int .i64 (0), .int .i64 (0), .int .i64 (0), .int .i64 (0), .int .i64 (0), .int .i64 (0), .int .i64 (0), .int .i64 (0), .int .i64 (0), .int .i64 (0), .int .i64 (0), .int .i64 (0), .int .i64 (0), .int .i64 (0), .int .i64 (0), .int .i64 (0), .int .i64 (0), .int .i64 (0), .int .i64 (0), .int .i64 (0), .int .i64 (0), .int .i64 (0), .int .i64 (0), .int .i64 (0), .int .i64 (0), .int .i64 (0), .int .i64 (0), .int .i64 (0), .int .i64 (0), .int .i64 (0), .int .i64 (0), .int .i64 (0), .int .i64 (0), .int .i64 (0), .int .i64 (0), .int .i64 (0), .int .i64 (0), .int .i64 (0), .int .i64 (0), .int .i64 (0), .int .i64 (0), .int .i64 (0), .int .i64 (0), .int .i64 (0), .int .i64 (0), .int .i64 (0), .int .i64 (0), .int .i64 (0), .int .i64 (0), .int .i64 (0), .int .i64 (0), .int .i64 (0), .int .i64 (0), .int .i64 (0), .int .i64 (0), .int .i64 (0), .int .i64 (0), .int .u64 (0), .int .u64 (0), .int .u64 (0), .int .u64 (0), .int .u64 (0), .int .u64 (0), .int .u64 (0), .int .u64 (0), .int .u64 (0), .int .u64 (0), .int .u64 (0), .int .u64 (0), .int .u64 (0), .int .u64 (0), .int .u64 (0), .int .u64 (0), .int .u64 (0), .int .u64 (0), .int .u64 (0), .int .u64 (0), .int .u64 (0), .int .u64 (0), .int .u64 (0), .int .u64 (0), .int .u64 (0), .int .u64 (0), .int .u64 (0), .int .u64 (0), .int .u64 (0), .int .u64 (0), .int .u64 (0), .int .u64 (0), .int .u64 (0), .int .u64 (0), .int .u64 (0), .int .u64 (0), .int .u64 (0), .int .u64 (0), .int .u64 (0), .int .u64 (0), .int .u64 (0), .int .u64 (0), .int .u64 (0), .int .u64 (0), .int .u64 (0), .int .u64 (0), .int .u64 (0), .int .u64 (0), .int .u64 (0), .int .u64 (0), .int .u64 (0), .int .u64 (0), .int .u64 (0), .int .u64 (0), .int .u64 (0), .int .u64 (0), .int .u64 (0), .int .u64 (0), .int .u64 (0), .int .u64 (0), .int .u64 (0), .int .u64 (0), .int .u64 (0), .int .u64 (0), .int .u64 (0), .int .u64 (0), .int .u64 (0), .int .u64 (0), .int .u64 (0), .int .u64 (0), .int .u64 (0), .int .u64 (0), .int .u64 (0), .int .u64 (0), .int .u64 (0), .int .u64 (0), .int .u64 (0), .int .u64 (0), .int .u64 (0), .int .u64 (0), .int .u64 (0), .int .u64 (0), .int .u64 (0), .int .u64 (0), .int .u64 (0), .int .u64 (0), .int .u64 (0), .int .u64 (0), .int .u64 (0), .int .u64 (0), .int .u64 (0), .int .u64 (0), .int .u64 (0), .int .u64 (0), .int .u64 (0), .int .u64 (0), .int .u64 (0), .int .u64 (0), .int .u64 (0), .int .u64 (0), .int .u64 (0), .int .u64 (0), .int .u64 (0), .int .u64 (0), .int .u64 (0), .int .u64 (0), .int .u64 (0), .int .u64 (0), .int .u64 (0), .int .u64 (0), .int .u64 (0), .int .u64 (0), .int .u64 (0), .int .u64 (0), .int .u64 (0), .int .u64 (0), .int .u64 (0), .int .u64 (0), .int .u64 (0), .int .u64 (0), .int .u64 (0), .int .u64 (0), .int .u64 (0), .int .u64 (0), .int .u64 (0), .int .u64 (0), .int .u64 (0), .int .u64 (0), .int .u64 (0), .int .u64 (0), .int .u64 (0), .int .u64 (0), .int .u64 (0), .int .u64 (0), .int .u64 (0), .int .u64 (0), .int .u64 (0), .int .u64 (0), .int .u64 (0), .int .u64 (0), .int .u64 (0), .int .u64 (0), .int .u64 (0), .int .u64 (0), .int .u64 (0), .int .u64 (0), .int .u64 (0), .int .u64 (0), .int .u64 (0), .int .u64 (0), .int .u64 (0), .int .u64 (0), .int .u64 (0), .int .u64 (0), .int .u64 (0), .int .u64 (0), .int .u64 (0), .int .u64 (0), .int .u64 (0), .int .u64 (0), .int .u64 (0), .int .u64 (0), .int .u64 (0), .int .u64 (0), .int .u64 (0), .int .u64 (0), .int .u64 (0), .int .u64 (0), .int .u64 (0), .int .u64 (0), .int .u64 (0), .int .u64 (0), .int .u64 (0), .int .u64 (0), .int .u64 (0), .int .u64 (0), .int .u64 (0), .int .u64 (0), .int .u64 (0), .int .u64 (0), .int .u64 (0), .int .u64 (0), .int .u64 (0), .int .u64 (0), .int .u64 (0), .int .u64 (0), .int .u64 (0), .int .u64 (0), .int .u64 (0), .int .u64 (0), .int .u64 (0), .int .u64 (0), .int .u64 (0), .int .u64 (0), .int .u64 (0), .int .u64 (0), .int .u64 (0), .int .u64 (0), .int .u64 (0), .int .u64 (0), .int .u64 (0), .int .u64 (0), .int .u64 (0), .int .u64 (0), .int .u64 (0), .int .u64 (0), .int .u64 (0), .int .u64 (0), .int .u64 (0), .int .u64 (0), .int .u64 (0), .int .u64 (0), .int .u64 (0), .int .u64 (0), .int .u64 (0), .int .u64 (0), .int .u64 (0), .int .u64 (0), .int .u64 (0), .int .u64 (0), .int .u64 (0), .int .u64 (0), .int .u64 (0), .int .u64 (0), .int .u64 (0), .int .u64 (0), .int .u64 (0), .int .u64 (0), .int .u64 (0), .int .u64 (0), .int .u64 (0), .int .u64 (0), .int .u64 (0), .int .u64 (0), .int .u64 (0), .int .u64 (0), .int .u64 (0), .int .u64 (0), .int .u64 (0), .int .u64 (0), .int .u64 (0), .int .u64 (0), .int .u64 (0), .int .u64 (0), .int .u64 (0), .int .u64 (0), .int .u64 (0), .int .u64 (0), .int .u64 (0), .int .u64 (0), .int .u64 (0), .int .u64 (0), .int .u64 (0), .int .u64 (0), .int .u64 (0), .int .u64 (0)]⟩⟩),
 (111, ⟨.struct [(106, 0), (106, 64), (109, 128)], 384, 3072, .agg ⟨[.int .i64 (0), .int .i64 (0), .int .i64 (0), .int .i64 (0), .int .i64 (0), .int .i64 (0), .int .i64 (0), .int .i64 (0), .int .i64 (0), .int .i64 (0), .int .i64 (0), .int .i64 (0), .int .i64 (0), .int .i64 (0), .int .i64 (0), .int .i64 (0), .int .i64 (0), .int .i64 (0), .int .i64 (0), .int .i64 (0), .int .i64 (0), .int .i64 (0), .int .i64 (0), .int .i64 (0), .int .i64 (0), .int .i64 (0), .int .i64 (0), .int .i64 (0), .int .i64 (0), .int .i64 (0), .int .i64 (0), .int .i64 (0), .int .i64 (0), .int .i64 (0), .int .i64 (0), .int .i64 (0), .int .i64 (0), .int .i64 (0), .int .i64 (0), .int .i64 (0), .int .i64 (0), .int .i64 (0), .int .i64 (0), .int .i64 (0), .int .i64 (0), .int .i64 (0), .int .i64 (0), .int .i64 (0), .int .i64 (0), .int .i64 (0), .int .i64 (0), .int .i64 (0), .int .i64 (0), .int .i64 (0), .int .i64 (0), .int .i64 (0), .int .i64 (0), .int .i64 (0), .int .i64 (0), .int .i64 (0), .int .i64 (0), .int .i64 (0), .int .i64 (0), .int .i64 (0), .int .i64 (0), .int .i64 (0), .int .i64 (0), .int .i64 (0), .int .i64 (0), .int .i64 (0), .int .i64 (0), .int .i64 (0), .int .i64 (0), .int .i64 (0), .int .i64 (0), .int .i64 (0), .int .i64 (0), .int .i64 (0), .int .i64 (0), .int .i64 (0), .int .i64 (0), .int .i64 (0), .int .i64 (0), .int .i64 (0), .int .i64 (0), .int .i64 (0), .int .i64 (0), .int .i64 (0), .int .i64 (0), .int .i64 (0), .int .i64 (0), .int .i64 (0), .int .i64 (0), .int .i64 (0), .int .i64 (0), .int .i64 (0), .int .i64 (0), .int .i64 (0), .int .i64 (0), .int .i64 (0), .int .i64 (0), .int .i64 (0), .int .i64 (0), .int .i64 (0), .int .i64 (0), .int .i64 (0), .int .i64 (0), .int .i64 (0), .int .i64 (0), .int .i64 (0), .int .i64 (0), .int .i64 (0), .int .i64 (0), .int .i64 (0), .int .i64 (0), .int .i64 (0), .int .i64 (0), .int .i64 (0), .int .i64 (0), .int .i64 (0), .int .i64 (0), .int .i64 (0), .int .i64 (0), .int .i64 (0), .int .i64 (0), .int .i64 (0), .int .i64 (0), .int .i64 (0), .int .u64 (0), .int .u64 (0), .int .u64 (0), .int .u64 (0), .int .u64 (0), .int .u64 (0), .int .u64 (0), .int .u64 (0), .int .u64 (0), .int .u64 (0), .int .u64 (0), .int .u64 (0), .int .u64 (0), .int .u64 (0), .int .u64 (0), .int .u64 (0), .int .u64 (0), .int .u64 (0), .int .u64 (0), .int .u64 (0), .int .u64 (0), .int .u64 (0), .int .u64 (0), .int .u64 (0), .int .u64 (0), .int .u64 (0), .int .u64 (0), .int .u64 (0), .int .u64 (0), .int .u64 (0), .int .u64 (0), .int .u64 (0), .int .u64 (0), .int .u64 (0), .int .u64 (0), .int .u64 (0), .int .u64 (0), .int .u64 (0), .int .u64 (0), .int .u64 (0), .int .u64 (0), .int .u64 (0), .int .u64 (0), .int .u64 (0), .int .u64 (0), .int .u64 (0), .int .u64 (0), .int .u64 (0), .int .u64 (0), .int .u64 (0), .int .u64 (0), .int .u64 (0), .int .u64 (0), .int .u64 (0), .int .u64 (0), .int .u64 (0), .int .u64 (0), .int .u64 (0), .int .u64 (0), .int .u64 (0), .int .u64 (0), .int .u64 (0), .int .u64 (0), .int .u64 (0), .int .u64 (0), .int .u64 (0), .int .u64 (0), .int .u64 (0), .int .u64 (0), .int .u64 (0), .int .u64 (0), .int .u64 (0), .int .u64 (0), .int .u64 (0), .int .u64 (0), .int .u64 (0), .int .u64 (0), .int .u64 (0), .int .u64 (0), .int .u64 (0), .int .u64 (0), .int .u64 (0), .int .u64 (0), .int .u64 (0), .int .u64 (0), .int .u64 (0), .int .u64 (0), .int .u64 (0), .int .u64 (0), .int .u64 (0), .int .u64 (0), .int .u64 (0), .int .u64 (0), .int .u64 (0), .int .u64 (0), .int .u64 (0), .int .u64 (0), .int .u64 (0), .int .u64 (0), .int .u64 (0), .int .u64 (0), .int .u64 (0), .int .u64 (0), .int .u64 (0), .int .u64 (0), .int .u64 (0), .int .u64 (0), .int .u64 (0), .int .u64 (0), .int .u64 (0), .int .u64 (0), .int .u64 (0), .int .u64 (0), .int .u64 (0), .int .u64 (0), .int .u64 (0), .int .u64 (0), .int .u64 (0), .int .u64 (0), .int .u64 (0), .int .u64 (0), .int .u64 (0), .int .u64 (0), .int .u64 (0), .int .u64 (0), .int .u64 (0), .int .u64 (0), .int .u64 (0), .int .u64 (0), .int .u64 (0), .int .u64 (0), .int .u64 (0), .int .u64 (0), .int .u64 (0), .int .u64 (0), .int .u64 (0), .int .u64 (0), .int .u64 (0), .int .u64 (0), .int .u64 (0), .int .u64 (0), .int .u64 (0), .int .u64 (0), .int .u64 (0), .int .u64 (0), .int .u64 (0), .int .u64 (0), .int .u64 (0), .int .u64 (0), .int .u64 (0), .int .u64 (0), .int .u64 (0), .int .u64 (0), .int .u64 (0), .int .u64 (0), .int .u64 (0), .int .u64 (0), .int .u64 (0), .int .u64 (0), .int .u64 (0), .int .u64 (0), .int .u64 (0), .int .u64 (0), .int .u64 (0), .int .u64 (0), .int .u64 (0), .int .u64 (0), .int .u64 (0), .int .u64 (0), .int .u64 (0), .int .u64 (0), .int .u64 (0), .int .u64 (0), .int .u64 (0), .int .u64 (0), .int .u64 (0), .int .u64 (0), .int .u64 (0), .int .u64 (0), .int .u64 (0), .int .u64 (0), .int .u64 (0), .int .u64 (0), .int .u64 (0), .int .u64 (0), .int .u64 (0), .int .u64 (0), .int .u64 (0), .int .u64 (0), .int .u64 (0), .int .u64 (0), .int .u64 (0), .int .u64 (0), .int .u64 (0), .int .u64 (0), .int .u64 (0), .int .u64 (0), .int .u64 (0), .int .u64 (0), .int .u64 (0), .int .u64 (0), .int .u64 (0), .int .u64 (0), .int .u64 (0), .int .u64 (0), .int .u64 (0), .int .u64 (0), .int .u64 (0), .int .u64 (0), .int .u64 (0), .int .u64 (0), .int .u64 (0), .int .u64 (0), .int .u64 (0), .int .u64 (0), .int .u64 (0), .int .u64 (0), .int .u64 (0), .int .u64 (0), .int .u64 (0), .int .u64 (0), .int .u64 (0), .int .u64 (0), .int .u64 (0), .int .u64 (0), .int .u64 (0), .int .u64 (0), .int .u64 (0), .int .u64 (0), .int .u64 (0), .int .u64 (0), .int .u64 (0), .int .u64 (0), .int .u64 (0), .int .u64 (0), .int .u64 (0), .int .u64 (0), .int .u64 (0), .int .u64 (0), .int .u64 (0), .int .u64 (0), .int .u64 (0), .int .u64 (0), .int .u64 (0), .int .u64 (0), .int .u64 (0), .int .u64 (0), .int .u64 (0), .int .u64 (0), .int .u64 (0), .int .u64 (0), .int .u64 (0), .int .u64 (0), .int .u64 (0), .int .u64 (0), .int .u64 (0)]⟩⟩),
 (114, ⟨.other, 1, 8, .nilFunc⟩),
 (115, ⟨.slice 103, 1, 24, .slice none 0 0⟩),
 (118, ⟨.other, 1, 8, .nilFunc⟩),
 (119, ⟨.other, 1, 8, .nilFunc⟩),
 (136, ⟨.other, 1, 8, .nilFunc⟩),
 (141, ⟨.other, 1, 8, .nilFunc⟩),
 (142, ⟨.other, 1, 8, .nilFunc⟩),
 (143, ⟨.slice 149, 1, 24, .slice none 0 0⟩),
 (144, ⟨.other, 1, 8, .nilFunc⟩),
 (145, ⟨.other, 1, 8, .nilFunc⟩),
 (147, ⟨.struct [(3, 0), (3, 1), (3, 2)], 3, 24, .agg ⟨[.int .i64 (0), .int .i64 (0), .int .i64 (0)]⟩⟩),
 (148, ⟨.struct [(3, 0), (3, 1), (3, 2)], 3, 24, .agg ⟨[.int .i64 (0), .int .i64 (0), .int .i64 (0)]⟩⟩),
 (149, ⟨.other, 1, 8, .pointer none⟩),
 (155, ⟨.int .u64, 1, 8, .int .u64 (0)⟩),
 (156, ⟨.other, 1, 8, .nilFunc⟩),
 (157, ⟨.map 103 148, 1, 8, .map none⟩),
 (161, ⟨.int .i64, 1, 8, .int .i64 (0)⟩),
 (169, ⟨.int .u32, 1, 4, .int .u32 (0)⟩),
 (171, ⟨.int .u64, 1, 8, .int .u64 (0)⟩),
 (175, ⟨.other, 1, 8, .pointer none⟩),
 (177, ⟨.other, 1, 8, .pointer none⟩),
 (190, ⟨.other, 1, 8, .pointer none⟩)]
theorem ti2 : TIOk Try.prog 2 ⟨.int .i64, 1, 8, .int .i64 (0)⟩ := ti_mk (show Try.prog.underlying 2 = some (.int .i64) by kernel_rfl) (by kernel_rfl)
theorem ti3 : TIOk Try.prog 3 ⟨.int .i64, 1, 8, .int .i64 (0)⟩ := ti_mk (show Try.prog.underlying 3 = some (.int .i64) by kernel_rfl) (by kernel_rfl)
theorem ti4 : TIOk Try.prog 4 ⟨.bool, 1, 1, .bool false⟩ := ti_mk (show Try.prog.underlying 4 = some (.bool) by kernel_rfl) (by kernel_rfl)
theorem ti5 : TIOk Try.prog 5 ⟨.int .u8, 1, 1, .int .u8 (0)⟩ := ti_mk (show Try.prog.underlying 5 = some (.int .u8) by kernel_rfl) (by kernel_rfl)
theorem ti9 : TIOk Try.prog 9 ⟨.str, 1, 16, .string ⟨#[]⟩⟩ := ti_mk (show Try.prog.underlying 9 = some (.string) by kernel_rfl) (by kernel_rfl)
theorem ti12 : TIOk Try.prog 12 ⟨.int .u64, 1, 8, .int .u64 (0)⟩ := ti_mk (show Try.prog.underlying 12 = some (.int .u64) by kernel_rfl) (by kernel_rfl)
theorem ti13 : TIOk Try.prog 13 ⟨.struct [(9, 0), (12, 1)], 2, 24, .agg ⟨[.string ⟨#[]⟩, .int .u64 (0)]⟩⟩ := ti_mk (tk_struct (by kernel_rfl)) (by kernel_rfl)
theorem ti19 : TIOk Try.prog 19 ⟨.struct [(17, 0)], 1, 8, .agg ⟨[.pointer none]⟩⟩ := ti_mk (tk_struct (by kernel_rfl)) (by kernel_rfl)
theorem ti20 : TIOk Try.prog 20 ⟨.other, 1, 16, .nilIface⟩ := ti_mk (tk_other (by kernel_rfl)) (by kernel_rfl)
theorem ti21 : TIOk Try.prog 21 ⟨.int .i32, 1, 4, .int .i32 (0)⟩ := ti_mk (show Try.prog.underlying 21 = some (.int .i32) by kernel_rfl) (by kernel_rfl)
theorem ti22 : TIOk Try.prog 22 ⟨.slice 43, 1, 24, .slice none 0 0⟩ := ti_mk (show Try.prog.underlying 22 = some (.slice 43) by kernel_rfl) (by kernel_rfl)
theorem ti23 : TIOk Try.prog 23 ⟨.struct [(3, 0), (22, 1), (22, 2)], 3, 56, .agg ⟨[.int .i64 (0), .slice none 0 0, .slice none 0 0]⟩⟩ := ti_mk (tk_struct (by kernel_rfl)) (by kernel_rfl)
theorem ti24 : TIOk Try.prog 24 ⟨.struct [(3, 0), (22, 1), (22, 2)], 3, 56, .agg ⟨[.int .i64 (0), .slice none 0 0, .slice none 0 0]⟩⟩ := ti_mk (tk_struct (by kernel_rfl)) (by kernel_rfl)
theorem ti25 : TIOk Try.prog 25 ⟨.slice 57, 1, 24, .slice none 0 0⟩ := ti_mk (show Try.prog.underlying 25 = some (.slice 57) by kernel_rfl) (by kernel_rfl)
theorem ti26 : TIOk Try.prog 26 ⟨.slice 3, 1, 24, .slice none 0 0⟩ := ti_mk (show Try.prog.underlying 26 = some (.slice 3) by kernel_rfl) (by kernel_rfl)
theorem ti30 : TIOk Try.prog 30 ⟨.int .i64, 1, 8, .int .i64 (0)⟩ := ti_mk (show Try.prog.underlying 30 = some (.int .i64) by kernel_rfl) (by kernel_rfl)
theorem ti41 : TIOk Try.prog 41 ⟨.other, 1, 8, .pointer none⟩ := ti_mk (tk_other (by kernel_rfl)) (by kernel_rfl)
theorem ti42 : TIOk Try.prog 42 ⟨.struct [(3, 0), (3, 1), (3, 2), (3, 3)], 4, 32, .agg ⟨[.int .i64 (0), .int .i64 (0), .int .i64 (0), .int .i64 (0)]⟩⟩ := ti_mk (tk_struct (by kernel_rfl)) (by kernel_rfl)
theorem ti43 : TIOk Try.prog 43 ⟨.struct [(3, 0), (3, 1), (3, 2), (3, 3)], 4, 32, .agg ⟨[.int .i64 (0), .int .i64 (0), .int .i64 (0), .int .i64 (0)]⟩⟩ := ti_mk (tk_struct (by kernel_rfl)) (by kernel_rfl)
theorem ti45 : TIOk Try.prog 45 ⟨.slice 5, 1, 24, .slice none 0 0⟩ := ti_mk (show Try.prog.underlying 45 = some (.slice 5) by kernel_rfl) (by kernel_rfl)
theorem ti46 : TIOk Try.prog 46 ⟨.slice 25, 1, 24, .slice none 0 0⟩ := ti_mk (show Try.prog.underlying 46 = some (.slice 25) by kernel_rfl) (by kernel_rfl)
theorem ti48 : TIOk Try.prog 48 ⟨.struct [(3, 0), (22, 1)], 2, 32, .agg ⟨[.int .i64 (0), .slice none 0 0]⟩⟩ := ti_mk (tk_struct (by kernel_rfl)) (by kernel_rfl)
theorem ti49 : TIOk Try.prog 49 ⟨.struct [(3, 0), (22, 1)], 2, 32, .agg ⟨[.int .i64 (0), .slice none 0 0]⟩⟩ := ti_mk (tk_struct (by kernel_rfl)) (by kernel_rfl)
theorem ti56 : TIOk Try.prog 56 ⟨.struct [(3, 0), (26, 1), (26, 2)], 3, 56, .agg ⟨[.int .i64 (0), .slice none 0 0, .slice none 0 0]⟩⟩ := ti_mk (tk_struct (by kernel_rfl)) (by kernel_rfl)
theorem ti57 : TIOk Try.prog 57 ⟨.struct [(3, 0), (26, 1), (26, 2)], 3, 56, .agg ⟨[.int .i64 (0), .slice none 0 0, .slice none 0 0]⟩⟩ := ti_mk (tk_struct (by kernel_rfl)) (by kernel_rfl)
theorem ti59 : TIOk Try.prog 59 ⟨.map 67 26, 1, 8, .map none⟩ := ti_mk (show Try.prog.underlying 59 = some (.map 67 26) by kernel_rfl) (by kernel_rfl)
theorem ti60 : TIOk Try.prog 60 ⟨.map 67 26, 1, 8, .map none⟩ := ti_mk (show Try.prog.underlying 60 = some (.map 67 26) by kernel_rfl) (by kernel_rfl)
theorem ti63 : TIOk Try.prog 63 ⟨.other, 1, 8, .pointer none⟩ := ti_mk (tk_other (by kernel_rfl)) (by kernel_rfl)
theorem ti65 : TIOk Try.prog 65 ⟨.array 6 3, 6, 48, .agg ⟨[.int .i64 (0), .int .i64 (0), .int .i64 (0), .int .i64 (0), .int .i64 (0), .int .i64 (0)]⟩⟩ := ti_mk (show Try.prog.underlying 65 = some (.array 6 3) by kernel_rfl) (by kernel_rfl)
theorem ti66 : TIOk Try.prog 66 ⟨.struct [(3, 0), (65, 1)], 7, 56, .agg ⟨[.int .i64 (0), .int .i64 (0), .int .i64 (0), .int .i64 (0), .int .i64 (0), .int .i64 (0), .int .i64 (0)]⟩⟩ := ti_mk (tk_struct (by kernel_rfl)) (by kernel_rfl)
theorem ti67 : TIOk Try.prog 67 ⟨.struct [(3, 0), (65, 1)], 7, 56, .agg ⟨[.int .i64 (0), .int .i64 (0), .int .i64 (0), .int .i64 (0), .int .i64 (0), .int .i64 (0), .int .i64 (0)]⟩⟩ := ti_mk (tk_struct (by kernel_rfl)) (by kernel_rfl)
theorem ti69 : TIOk Try.prog 69 ⟨.other, 1, 8, .nilFunc⟩ := ti_mk (tk_other (by kernel_rfl)) (by kernel_rfl)
theorem ti70 : TIOk Try.prog 70 ⟨.other, 1, 8, .nilFunc⟩ := ti_mk (tk_other (by kernel_rfl)) (by kernel_rfl)
theorem ti72 : TIOk Try.prog 72 ⟨.map 67 4, 1, 8, .map none⟩ := ti_mk (show Try.prog.underlying 72 = some (.map 67 4) by kernel_rfl) (by kernel_rfl)
theorem ti73 : TIOk Try.prog 73 ⟨.struct [(24, 0), (3, 3), (65, 4), (72, 10)], 11, 120, .agg ⟨[.int .i64 (0), .slice none 0 0, .slice none 0 0, .int .i64 (0), .int .i64 (0), .int .i64 (0), .int .i64 (0), .int .i64 (0), .int .i64 (0), .int .i64 (0), .map none]⟩⟩ := ti_mk (tk_struct (by kernel_rfl)) (by kernel_rfl)
theorem ti74 : TIOk Try.prog 74 ⟨.struct [(24, 0), (3, 3), (65, 4), (72, 10)], 11, 120, .agg ⟨[.int .i64 (0), .slice none 0 0, .slice none 0 0, .int .i64 (0), .int .i64 (0), .int .i64 (0), .int .i64 (0), .int .i64 (0), .int .i64 (0), .int .i64 (0), .map none]⟩⟩ := ti_mk (tk_struct (by kernel_rfl)) (by kernel_rfl)
theorem ti75 : TIOk Try.prog 75 ⟨.other, 1, 8, .nilFunc⟩ := ti_mk (tk_other (by kernel_rfl)) (by kernel_rfl)
theorem ti76 : TIOk Try.prog 76 ⟨.other, 1, 8, .nilFunc⟩ := ti_mk (tk_other (by kernel_rfl)) (by kernel_rfl)
theorem ti77 : TIOk Try.prog 77 ⟨.other, 1, 8, .nilFunc⟩ := ti_mk (tk_other (by kernel_rfl)) (by kernel_rfl)
theorem ti83 : TIOk Try.prog 83 ⟨.other, 1, 8, .nilFunc⟩ := ti_mk (tk_other (by kernel_rfl)) (by kernel_rfl)
theorem ti84 : TIOk Try.prog 84 ⟨.other, 1, 8, .nilFunc⟩ := ti_mk (tk_other (by kernel_rfl)) (by kernel_rfl)
theorem ti86 : TIOk Try.prog 86 ⟨.other, 1, 8, .nilFunc⟩ := ti_mk (tk_other (by kernel_rfl)) (by kernel_rfl)
theorem ti87 : TIOk Try.prog 87 ⟨.slice 67, 1, 24, .slice none 0 0⟩ := ti_mk (show Try.prog.underlying 87 = some (.slice 67) by kernel_rfl) (by kernel_rfl)
theorem ti88 : TIOk Try.prog 88 ⟨.other, 1, 8, .nilFunc⟩ := ti_mk (tk_other (by kernel_rfl)) (by kernel_rfl)
theorem ti89 : TIOk Try.prog 89 ⟨.other, 1, 8, .nilFunc⟩ := ti_mk (tk_other (by kernel_rfl)) (by kernel_rfl)
theorem ti90 : TIOk Try.prog 90 ⟨.other, 1, 8, .nilFunc⟩ := ti_mk (tk_other (by kernel_rfl)) (by kernel_rfl)
theorem ti91 : TIOk Try.prog 91 ⟨.struct [(90, 0), (84, 1)], 2, 16, .agg ⟨[.nilFunc, .nilFunc]⟩⟩ := ti_mk (tk_struct (by kernel_rfl)) (by kernel_rfl)
theorem ti92 : TIOk Try.prog 92 ⟨.struct [(90, 0), (84, 1)], 2, 16, .agg ⟨[.nilFunc, .nilFunc]⟩⟩ := ti_mk (tk_struct (by kernel_rfl)) (by kernel_rfl)
theorem ti93 : TIOk Try.prog 93 ⟨.other, 1, 8, .nilFunc⟩ := ti_mk (tk_other (by kernel_rfl)) (by kernel_rfl)
theorem ti95 : TIOk Try.prog 95 ⟨.other, 1, 8, .nilFunc⟩ := ti_mk (tk_other (by kernel_rfl)) (by kernel_rfl)
theorem ti96 : TIOk Try.prog 96 ⟨.other, 1, 8, .nilFunc⟩ := ti_mk (tk_other (by kernel_rfl)) (by kernel_rfl)
theorem ti99 : TIOk Try.prog 99 ⟨.other, 1, 8, .nilFunc⟩ := ti_mk (tk_other (by kernel_rfl)) (by kernel_rfl)
theorem ti100 : TIOk Try.prog 100 ⟨.other, 1, 8, .nilFunc⟩ := ti_mk (tk_other (by kernel_rfl)) (by kernel_rfl)
theorem ti102 : TIOk Try.prog 102 ⟨.struct [(3, 0), (4, 1)], 2, 16, .agg ⟨[.int .i64 (0), .bool false]⟩⟩ := ti_mk (tk_struct (by kernel_rfl)) (by kernel_rfl)
theorem ti103 : TIOk Try.prog 103 ⟨.struct [(3, 0), (4, 1)], 2, 16, .agg ⟨[.int .i64 (0), .bool false]⟩⟩ := ti_mk (tk_struct (by kernel_rfl)) (by kernel_rfl)
theorem ti104 : TIOk Try.prog 104 ⟨.struct [(3, 0), (3, 1), (3, 2)], 3, 24, .agg ⟨[.int .i64 (0), .int .i64 (0), .int .i64 (0)]⟩⟩ := ti_mk (tk_struct (by kernel_rfl)) (by kernel_rfl)
theorem ti105 : TIOk Try.prog 105 ⟨.struct [(3, 0), (3, 1), (3, 2)], 3, 24, .agg ⟨[.int .i64 (0), .int .i64 (0), .int .i64 (0)]⟩⟩ := ti_mk (tk_struct (by kernel_rfl)) (by kernel_rfl)
theorem ti106 : TIOk Try.prog 106 ⟨.array 64 3, 64, 512, .agg ⟨ivec 64 fun _ => 0⟩⟩ := ti_mk (show Try.prog.underlying 106 = some (.array 64 3) by kernel_rfl) (by kernel_rfl)
theorem ti107 : TIOk Try.prog 107 ⟨.int .u64, 1, 8, .int .u64 (0)⟩ := ti_mk (show Try.prog.underlying 107 = some (.int .u64) by kernel_rfl) (by kernel_rfl)
theorem ti108 : TIOk Try.prog 108 ⟨.array 4 107, 4, 32, .agg ⟨[.int .u64 (0), .int .u64 (0), .int .u64 (0), .int .u64 (0)]⟩⟩ := ti_mk (show Try.prog.underlying 108 = some (.array 4 107) by kernel_rfl) (by kernel_rfl)
theorem ti109 : TIOk Try.prog 109 ⟨.array 64 108, 256, 2048, .agg ⟨vec 256 fun _ => .int .u64 (0)⟩⟩ := ti_mk (show Try.prog.underlying 109 = some (.array 64 108) by kernel_rfl) (by kernel_rfl)
theorem ti110 : TIOk Try.prog 110 ⟨.struct [(106, 0), (106, 64), (109, 128)], 384, 3072, .agg ⟨[.int .i64 (0), .int .i64 (0), .int .i64 (0), .int .i64 (0), .int .i64 (0), .int .i64 (0), .int .i64 (0), .int .i64 (0), .int .i64 (0), .int .i64 (0), .int .i64 (0), .int .i64 (0), .int .i64 (0), .int .i64 (0), .int .i64 (0), .int .i64 (0), .int .i64 (0), .int .i64 (0), .int .i64 (0), .int .i64 (0), .int .i64 (0), .int .i64 (0), .int .i64 (0), .int .i64 (0), .int .i64 (0), .int .i64 (0), .int .i64 (0), .int .i64 (0), .int .i64 (0), .int .i64 (0), .int .i64 (0), .int .i64 (0), .int .i64 (0), .int .i64 (0), .int .i64 (0), .int .i64 (0), .int .i64 (0), .int .i64 (0), .int .i64 (0), .int .i64 (0), .int .i64 (0), .int .i64 (0), .int .i64 (0), .int .i64 (0), .int .i64 (0), .int .i64 (0), .int .i64 (0), .int .i64 (0), .int .i64 (0), .int .i64 (0), .int .i64 (0), .int .i64 (0), .int .i64 (0), .int .i64 (0), .int .i64 (0), .int .i64 (0), .int .i64 (0), .int .i64 (0), .int .i64 (0), .int .i64 (0), .int .i64 (0), .int .i64 (0), .int .i64 (0), .int .i64 (0), .int .i64 (0), .int .i64 (0), .int .i64 (0), .int .i64 (0), .int .i64 (0), .int .i64 (0), .int .i64 (0), .int .i64 (0), .int .i64 (0), .int .i64 (0), .int .i64 (0), .int .i64 (0), .int .i64 (0), .int .i64 (0), .int .i64 (0), .int .i64 (0), .int .i64 (0), .int .i64 (0), .int .i64 (0), .int .i64 (0), .int .i64 (0), .int .i64 (0), .int .i64 (0), .int .i64 (0), .int .i64 (0), .int .i64 (0), .int .i64 (0), .int .i64 (0), .int .i64 (0), .int .i64 (0), .int .i64 (0), .int .i64 (0), .int .i64 (0), .int .i64 (0), .int .i64 (0), .int .i64 (0), .int .i64 (0), .int .i64 (0), .int .i64 (0), .int .i64 (0), .int .i64 (0), .int .i64 (0), .int .i64 (0), .int .i64 (0), .int .i64 (0), .int .i64 (0), .int .i64 (0), .int .i64 (0), .int .i64 (0), .int .i64 (0), .int .i64 (0), .int .i64 (0), .int .i64 (0), .int .i64 (0), .int .i64 (0), .int .i64 (0), .int .i64 (0), .int .i64 (0), .int .i64 (0), .int .i64 (0), .int .i64 (0), .int .i64 (0), .int .i64 (0), .int .i64 (0), .int .u64 (0), .int .u64 (0), .int .u64 (0), .int .u64 (0), .int .u64 (0), .int .u64 (0), .int .u64 (0), .int .u64 (0), .int .u64 (0), .int .u64 (0), .int .u64 (0), .int .u64 (0), .int .u64 (0), .int .u64 (0), .int .u64 (0), .int .u64 (0), .int .u64 (0), .int .u64 (0), .int .u64 (0), .int .u64 (0), .int .u64 (0), .int .u64 (0), .int .u64 (0), .int .u64 (0), .int .u64 (0), .int .u64 (0), .int .u64 (0), .int .u64 (0), .int .u64 (0), .int .u64 (0), .int .u64 (0), .int .u64 (0), .int .u64 (0), .int .u64 (0), .int .u64 (0), .int .u64 (0), .int .u64 (0), .int .u64 (0), .int .u64 (0), .int .u64 (0), .int .u64 (0), .int .u64 (0), .int .u64 (0), .int .u64 (0), .int .u64 (0), .int .u64 (0), .int .u64 (0), .int .u64 (0), .int .u64 (0), .int .u64 (0), .int .u64 (0), .int .u64 (0), .int .u64 (0), .int .u64 (0), .int .u64 (0), .int .u64 (0), .int .u64 (0), .int .u64 (0), .int .u64 (0), .int .u64 (0), .int .u64 (0), .int .u64 (0), .int .u64 (0), .int .u64 (0), .int .u64 (0), .int .u64 (0), .int .u64 (0), .int .u64 (0), .int .u64 (0), .int .u64 (0), .int .u64 (0), .int .u64 (0), .int .u64 (0), .int .u64 (0), .int .u64 (0), .int .u64 (0), .int .u64 (0), .int .u64 (0), .int .u64 (0), .int .u64 (0), .int .u64 (0), .int .u64 (0), .int .u64 (0), .int .u64 (0), .int .u64 (0), .int .u64 (0), .int .u64 (0), .int .u64 (0), .int .u64 (0), .int .u64 (0), .int .u64 (0), .int .u64 (0), .int .u64 (0), .int .u64 (0), .int .u64 (0), .int .u64 (0), .int .u64 (0), .int .u64 (0), .int .u64 (0), .int .u64 (0), .int .u64 (0), .int .u64 (0), .int .u64 (0), .int .u64 (0), .int .u64 (0), .int .u64 (0), .int .u64 (0), .int .u64 (0), .int .u64 (0), .int .u64 (0), .int .u64 (0), .int .u64 (0), .int .u64 (0), .int .u64 (0), .int .u64 (0), .int .u64 (0), .int .u64 (0), .int .u64 (0), .int .u64 (0), .int .u64 (0), .int .u64 (0), .int .u64 (0), .int .u64 (0), .int .u64 (0), .int .u64 (0), .int .u64 (0), .int .u64 (0), .int .u64 (0), .int .u64 (0), .int .u64 (0), .int .u64 (0), .int .u64 (0), .int .u64 (0), .int .u64 (0), .int .u64 (0), .int .u64 (0), .int .u64 (0), .int .u64 (0), .int .u64 (0), .int .u64 (0), .int .u64 (0), .int .u64 (0), .int .u64 (0), .int .u64 (0), .int .u64 (0), .int .u64 (0), .int .u64 (0), .int .u64 (0), .int .u64 (0), .int .u64 (0), .int .u64 (0), .int .u64 (0), .int .u64 (0), .int .u64 (0), .int .u64 (0), .int .u64 (0), .int .u64 (0), .int .u64 (0), .int .u64 (0), .int .u64 (0), .int .u64 (0), .int .u64 (0), .int .u64 (0), .int .u64 (0), .int .u64 (0), .int .u64 (0), .int .u64 (0), .int .u64 (0), .int .u64 (0), .int .u64 (0), .int .u64 (0), .int .u64 (0), .int .u64 (0), .int .u64 (0), .int .u64 (0), .int .u64 (0), .int .u64 (0), .int .u64 (0), .int .u64 (0), .int .u64 (0), .int .u64 (0), .int .u64 (0), .int .u64 (0), .int .u64 (0), .int .u64 (0), .int .u64 (0), .int .u64 (0), .int .u64 (0), .int .u64 (0), .int .u64 (0), .int .u64 (0), .int .u64 (0), .int .u64 (0), .int .u64 (0), .int .u64 (0), .int .u64 (0), .int .u64 (0), .int .u64 (0), .int .u64 (0), .int .u64 (0), .int .u64 (0), .int .u64 (0), .int .u64 (0), .int .u64 (0), .int .u64 (0), .int .u64 (0), .int .u64 (0), .int .u64 (0), .int .u64 (0), .int .u64 (0), .int .u64 (0), .int .u64 (0), .int .u64 (0), .int .u64 (0), .int .u64 (0), .int .u64 (0), .int .u64 (0), .int .u64 (0), .int .u64 (0), .int .u64 (0), .int .u64 (0), .int .u64 (0), .int .u64 (0), .int .u64 (0), .int .u64 (0), .int .u64 (0), .int .u64 (0), .int .u64 (0), .int .u64 (0), .int .u64 (0), .int .u64 (0), .int .u64 (0), .int .u64 (0), .int .u64 (0), .int .u64 (0), .int .u64 (0), .int .u64 (0), .int .u64 (0), .int .u64 (0), .int .u64 (0), .int .u64 (0), .int .u64 (0), .int .u64 (0), .int .u64 (0), .int .u64 (0), .int .u64 (0), .int .u64 (0), .int .u64 (0), .int .u64 (0), .int .u64 (0), .int .u64 (0), .int .u64 (0), .int .u64 (0), .int .u64 (0), .int .u64 (0), .int .u64 (0)]⟩⟩ := ti_mk (tk_struct (by kernel_rfl)) (by kernel_rfl)
theorem ti111 : TIOk Try.prog 111 ⟨.struct [(106, 0), (106, 64), (109, 128)], 384, 3072, .agg ⟨[.int .i64 (0), .int .i64 (0), .int .i64 (0), .int .i64 (0), .int .i64 (0), .int .i64 (0), .int .i64 (0), .int .i64 (0), .int .i64 (0), .int .i64 (0), .int .i64 (0), .int .i64 (0), .int .i64 (0), .int .i64 (0), .int .i64 (0), .int .i64 (0), .int .i64 (0), .int .i64 (0), .int .i64 (0), .int .i64 (0), .int .i64 (0), .int .i64 (0), .int .i64 (0), .int .i64 (0), .int .i64 (0), .int .i64 (0), .int .i64 (0), .int .i64 (0), .int .i64 (0), .int .i64 (0), .int .i64 (0), .int .i64 (0), .int .i64 (0), .int .i64 (0), .int .i64 (0), .int .i64 (0), .int .i64 (0), .int .i64 (0), .int .i64 (0), .int .i64 (0), .int .i64 (0), .int .i64 (0), .int .i64 (0), .int .i64 (0), .int .i64 (0), .int .i64 (0), .int .i64 (0), .int .i64 (0), .int .i64 (0), .int .i64 (0), .int .i64 (0), .int .i64 (0), .int .i64 (0), .int .i64 (0), .int .i64 (0), .int .i64 (0), .int .i64 (0), .int .i64 (0), .int .i64 (0), .int .i64 (0), .int .i64 (0), .int .i64 (0), .int .i64 (0), .int .i64 (0), .int .i64 (0), .int .i64 (0), .int .i64 (0), .int .i64 (0), .int .i64 (0), .int .i64 (0), .int .i64 (0), .int .i64 (0), .int .i64 (0), .int .i64 (0), .int .i64 (0), .int .i64 (0), .int .i64 (0), .int .i64 (0), .int .i64 (0), .int .i64 (0), .int .i64 (0), .int .i64 (0), .int .i64 (0), .int .i64 (0), .int .i64 (0), .int .i64 (0), .int .i64 (0), .int .i64 (0), .int .i64 (0), .int .i64 (0), .int .i64 (0), .int .i64 (0), .int .i64 (0), .int .i64 (0), .int .i64 (0), .int .i64 (0), .int .i64 (0), .int .i64 (0), .int .i64 (0), .int .i64 (0), .int .i64 (0), .int .i64 (0), .int .i64 (0), .int .i64 (0), .int .i64 (0), .int .i64 (0), .int .i64 (0), .int .i64 (0), .int .i64 (0), .int .i64 (0), .int .i64 (0), .int .i64 (0), .int .i64 (0), .int .i64 (0), .int .i64 (0), .int .i64 (0), .int .i64 (0), .int .i64 (0), .int .i64 (0), .int .i64 (0), .int .i64 (0), .int .i64 (0), .int .i64 (0), .int .i64 (0), .int .i64 (0), .int .i64 (0), .int .i64 (0), .int .i64 (0), .int .u64 (0), .int .u64 (0), .int .u64 (0), .int .u64 (0), .int .u64 (0), .int .u64 (0), .int .u64 (0), .int .u64 (0), .int .u64 (0), .int .u64 (0), .int .u64 (0), .int .u64 (0), .int .u64 (0), .int .u64 (0), .int .u64 (0), .int .u64 (0), .int .u64 (0), .int .u64 (0), .int .u64 (0), .int .u64 (0), .int .u64 (0), .int .u64 (0), .int .u64 (0), .int .u64 (0), .int .u64 (0), .int .u64 (0), .int .u64 (0), .int .u64 (0), .int .u64 (0), .int .u64 (0), .int .u64 (0), .int .u64 (0), .int .u64 (0), .int .u64 (0), .int .u64 (0), .int .u64 (0), .int .u64 (0), .int .u64 (0), .int .u64 (0), .int .u64 (0), .int .u64 (0), .int .u64 (0), .int .u64 (0), .int .u64 (0), .int .u64 (0), .int .u64 (0), .int .u64 (0), .int .u64 (0), .int .u64 (0), .int .u64 (0), .int .u64 (0), .int .u64 (0), .int .u64 (0), .int .u64 (0), .int .u64 (0), .int .u64 (0), .int .u64 (0), .int .u64 (0), .int .u64 (0), .int .u64 (0), .int .u64 (0), .int .u64 (0), .int .u64 (0), .int .u64 (0), .int .u64 (0), .int .u64 (0), .int .u64 (0), .int .u64 (0), .int .u64 (0), .int .u64 (0), .int .u64 (0), .int .u64 (0), .int .u64 (0), .int .u64 (0), .int .u64 (0), .int .u64 (0), .int .u64 (0), .int .u64 (0), .int .u64 (0), .int .u64 (0), .int .u64 (0), .int .u64 (0), .int .u64 (0), .int .u64 (0), .int .u64 (0), .int .u64 (0), .int .u64 (0), .int .u64 (0), .int .u64 (0), .int .u64 (0), .int .u64 (0), .int .u64 (0), .int .u64 (0), .int .u64 (0), .int .u64 (0), .int .u64 (0), .int .u64 (0), .int .u64 (0), .int .u64 (0), .int .u64 (0), .int .u64 (0), .int .u64 (0), .int .u64 (0), .int .u64 (0), .int .u64 (0), .int .u64 (0), .int .u64 (0), .int .u64 (0), .int .u64 (0), .int .u64 (0), .int .u64 (0), .int .u64 (0), .int .u64 (0), .int .u64 (0), .int .u64 (0), .int .u64 (0), .int .u64 (0), .int .u64 (0), .int .u64 (0), .int .u64 (0), .int .u64 (0), .int .u64 (0), .int .u64 (0), .int .u64 (0), .int .u64 (0), .int .u64 (0), .int .u64 (0), .int .u64 (0), .int .u64 (0), .int .u64 (0), .int .u64 (0), .int .u64 (0), .int .u64 (0), .int .u64 (0), .int .u64 (0), .int .u64 (0), .int .u64 (0), .int .u64 (0), .int .u64 (0), .int .u64 (0), .int .u64 (0), .int .u64 (0), .int .u64 (0), .int .u64 (0), .int .u64 (0), .int .u64 (0), .int .u64 (0), .int .u64 (0), .int .u64 (0), .int .u64 (0), .int .u64 (0), .int .u64 (0), .int .u64 (0), .int .u64 (0), .int .u64 (0), .int .u64 (0), .int .u64 (0), .int .u64 (0), .int .u64 (0), .int .u64 (0), .int .u64 (0), .int .u64 (0), .int .u64 (0), .int .u64 (0), .int .u64 (0), .int .u64 (0), .int .u64 (0), .int .u64 (0), .int .u64 (0), .int .u64 (0), .int .u64 (0), .int .u64 (0), .int .u64 (0), .int .u64 (0), .int .u64 (0), .int .u64 (0), .int .u64 (0), .int .u64 (0), .int .u64 (0), .int .u64 (0), .int .u64 (0), .int .u64 (0), .int .u64 (0), .int .u64 (0), .int .u64 (0), .int .u64 (0), .int .u64 (0), .int .u64 (0), .int .u64 (0), .int .u64 (0), .int .u64 (0), .int .u64 (0), .int .u64 (0), .int .u64 (0), .int .u64 (0), .int .u64 (0), .int .u64 (0), .int .u64 (0), .int .u64 (0), .int .u64 (0), .int .u64 (0), .int .u64 (0), .int .u64 (0), .int .u64 (0), .int .u64 (0), .int .u64 (0), .int .u64 (0), .int .u64 (0), .int .u64 (0), .int .u64 (0), .int .u64 (0), .int .u64 (0), .int .u64 (0), .int .u64 (0), .int .u64 (0), .int .u64 (0), .int .u64 (0), .int .u64 (0), .int .u64 (0), .int .u64 (0), .int .u64 (0), .int .u64 (0), .int .u64 (0), .int .u64 (0), .int .u64 (0), .int .u64 (0), .int .u64 (0), .int .u64 (0), .int .u64 (0), .int .u64 (0), .int .u64 (0), .int .u64 (0), .int .u64 (0), .int .u64 (0), .int .u64 (0), .int .u64 (0), .int .u64 (0), .int .u64 (0), .int .u64 (0), .int .u64 (0), .int .u64 (0), .int .u64 (0), .int .u64 (0), .int .u64 (0), .int .u64 (0), .int .u64 (0), .int .u64 (0), .int .u64 (0), .int .u64 (0), .int .u64 (0), .int .u64 (0), .int .u64 (0), .int .u64 (0), .int .u64 (0), .int .u64 (0), .int .u64 (0)]⟩⟩ := ti_mk (tk_struct (by kernel_rfl)) (by kernel_rfl)
theorem ti114 : TIOk Try.prog 114 ⟨.other, 1, 8, .nilFunc⟩ := ti_mk (tk_other (by kernel_rfl)) (by kernel_rfl)
theorem ti115 : TIOk Try.prog 115 ⟨.slice 103, 1, 24, .slice none 0 0⟩ := ti_mk (show Try.prog.underlying 115 = some (.slice 103) by kernel_rfl) (by kernel_rfl)
theorem ti118 : TIOk Try.prog 118 ⟨.other, 1, 8, .nilFunc⟩ := ti_mk (tk_other (by kernel_rfl)) (by kernel_rfl)
theorem ti119 : TIOk Try.prog 119 ⟨.other, 1, 8, .nilFunc⟩ := ti_mk (tk_other (by kernel_rfl)) (by kernel_rfl)
theorem ti136 : TIOk Try.prog 136 ⟨.other, 1, 8, .nilFunc⟩ := ti_mk (tk_other (by kernel_rfl)) (by kernel_rfl)
theorem ti141 : TIOk Try.prog 141 ⟨.other, 1, 8, .nilFunc⟩ := ti_mk (tk_other (by kernel_rfl)) (by kernel_rfl)
theorem ti142 : TIOk Try.prog 142 ⟨.other, 1, 8, .nilFunc⟩ := ti_mk (tk_other (by kernel_rfl)) (by kernel_rfl)
theorem ti143 : TIOk Try.prog 143 ⟨.slice 149, 1, 24, .slice none 0 0⟩ := ti_mk (show Try.prog.underlying 143 = some (.slice 149) by kernel_rfl) (by kernel_rfl)
theorem ti144 : TIOk Try.prog 144 ⟨.other, 1, 8, .nilFunc⟩ := ti_mk (tk_other (by kernel_rfl)) (by kernel_rfl)
theorem ti145 : TIOk Try.prog 145 ⟨.other, 1, 8, .nilFunc⟩ := ti_mk (tk_other (by kernel_rfl)) (by kernel_rfl)
theorem ti147 : TIOk Try.prog 147 ⟨.struct [(3, 0), (3, 1), (3, 2)], 3, 24, .agg ⟨[.int .i64 (0), .int .i64 (0), .int .i64 (0)]⟩⟩ := ti_mk (tk_struct (by kernel_rfl)) (by kernel_rfl)
theorem ti148 : TIOk Try.prog 148 ⟨.struct [(3, 0), (3, 1), (3, 2)], 3, 24, .agg ⟨[.int .i64 (0), .int .i64 (0), .int .i64 (0)]⟩⟩ := ti_mk (tk_struct (by kernel_rfl)) (by kernel_rfl)
theorem ti149 : TIOk Try.prog 149 ⟨.other, 1, 8, .pointer none⟩ := ti_mk (tk_other (by kernel_rfl)) (by kernel_rfl)
theorem ti155 : TIOk Try.prog 155 ⟨.int .u64, 1, 8, .int .u64 (0)⟩ := ti_mk (show Try.prog.underlying 155 = some (.int .u64) by kernel_rfl) (by kernel_rfl)
theorem ti156 : TIOk Try.prog 156 ⟨.other, 1, 8, .nilFunc⟩ := ti_mk (tk_other (by kernel_rfl)) (by kernel_rfl)
theorem ti157 : TIOk Try.prog 157 ⟨.map 103 148, 1, 8, .map none⟩ := ti_mk (show Try.prog.underlying 157 = some (.map 103 148) by kernel_rfl) (by kernel_rfl)
theorem ti161 : TIOk Try.prog 161 ⟨.int .i64, 1, 8, .int .i64 (0)⟩ := ti_mk (show Try.prog.underlying 161 = some (.int .i64) by kernel_rfl) (by kernel_rfl)
theorem ti169 : TIOk Try.prog 169 ⟨.int .u32, 1, 4, .int .u32 (0)⟩ := ti_mk (show Try.prog.underlying 169 = some (.int .u32) by kernel_rfl) (by kernel_rfl)
theorem ti171 : TIOk Try.prog 171 ⟨.int .u64, 1, 8, .int .u64 (0)⟩ := ti_mk (show Try.prog.underlying 171 = some (.int .u64) by kernel_rfl) (by kernel_rfl)
theorem ti175 : TIOk Try.prog 175 ⟨.other, 1, 8, .pointer none⟩ := ti_mk (tk_other (by kernel_rfl)) (by kernel_rfl)
theorem ti177 : TIOk Try.prog 177 ⟨.other, 1, 8, .pointer none⟩ := ti_mk (tk_other (by kernel_rfl)) (by kernel_rfl)
theorem ti190 : TIOk Try.prog 190 ⟨.other, 1, 8, .pointer none⟩ := ti_mk (tk_other (by kernel_rfl)) (by kernel_rfl)
instance : TT Try.prog tt := ⟨tt_cons ti2 <| tt_cons ti3 <| tt_cons ti4 <| tt_cons ti5 <| tt_cons ti9 <| tt_cons ti12 <| tt_cons ti13 <| tt_cons ti19 <| tt_cons ti20 <| tt_cons ti21 <| tt_cons ti22 <| tt_cons ti23 <| tt_cons ti24 <| tt_cons ti25 <| tt_cons ti26 <| tt_cons ti30 <| tt_cons ti41 <| tt_cons ti42 <| tt_cons ti43 <| tt_cons ti45 <| tt_cons ti46 <| tt_cons ti48 <| tt_cons ti49 <| tt_cons ti56 <| tt_cons ti57 <| tt_cons ti59 <| tt_cons ti60 <| tt_cons ti63 <| tt_cons ti65 <| tt_cons ti66 <| tt_cons ti67 <| tt_cons ti69 <| tt_cons ti70 <| tt_cons ti72 <| tt_cons ti73 <| tt_cons ti74 <| tt_cons ti75 <| tt_cons ti76 <| tt_cons ti77 <| tt_cons ti83 <| tt_cons ti84 <| tt_cons ti86 <| tt_cons ti87 <| tt_cons ti88 <| tt_cons ti89 <| tt_cons ti90 <| tt_cons ti91 <| tt_cons ti92 <| tt_cons ti93 <| tt_cons ti95 <| tt_cons ti96 <| tt_cons ti99 <| tt_cons ti100 <| tt_cons ti102 <| tt_cons ti103 <| tt_cons ti104 <| tt_cons ti105 <| tt_cons ti106 <| tt_cons ti107 <| tt_cons ti108 <| tt_cons ti109 <| tt_cons ti110 <| tt_cons ti111 <| tt_cons ti114 <| tt_cons ti115 <| tt_cons ti118 <| tt_cons ti119 <| tt_cons ti136 <| tt_cons ti141 <| tt_cons ti142 <| tt_cons ti143 <| tt_cons ti144 <| tt_cons ti145 <| tt_cons ti147 <| tt_cons ti148 <| tt_cons ti149 <| tt_cons ti155 <| tt_cons ti156 <| tt_cons ti157 <| tt_cons ti161 <| tt_cons ti169 <| tt_cons ti171 <| tt_cons ti175 <| tt_cons ti177 <| tt_cons ti190 <| tt_nil⟩
instance : Ent Try.prog 3 := ⟨ent_of Try.func3 (by kernel_rfl) (by kernel_rfl)⟩
instance : Ent Try.prog 8 := ⟨ent_of Try.func8 (by kernel_rfl) (by kernel_rfl)⟩
instance : Ent Try.prog 9 := ⟨ent_of Try.func9 (by kernel_rfl) (by kernel_rfl)⟩
instance : Ent Try.prog 10 := ⟨ent_of Try.func10 (by kernel_rfl) (by kernel_rfl)⟩
instance : Ent Try.prog 11 := ⟨ent_of Try.func11 (by kernel_rfl) (by kernel_rfl)⟩
instance : Ent Try.prog 12 := ⟨ent_of Try.func12 (by kernel_rfl) (by kernel_rfl)⟩
instance : Ent Try.prog 13 := ⟨ent_of Try.func13 (by kernel_rfl) (by kernel_rfl)⟩
instance : Ent Try.prog 14 := ⟨ent_of Try.func14 (by kernel_rfl) (by kernel_rfl)⟩
instance : Ent Try.prog 15 := ⟨ent_of Try.func15 (by kernel_rfl) (by kernel_rfl)⟩
instance : Ent Try.prog 16 := ⟨ent_of Try.func16 (by kernel_rfl) (by kernel_rfl)⟩
instance : Ent Try.prog 17 := ⟨ent_of Try.func17 (by kernel_rfl) (by kernel_rfl)⟩
instance : Ent Try.prog 18 := ⟨ent_of Try.func18 (by kernel_rfl) (by kernel_rfl)⟩
instance : Ent Try.prog 19 := ⟨ent_of Try.func19 (by kernel_rfl) (by kernel_rfl)⟩
instance : Ent Try.prog 20 := ⟨ent_of Try.func20 (by kernel_rfl) (by kernel_rfl)⟩
instance : Ent Try.prog 24 := ⟨ent_of Try.func24 (by kernel_rfl) (by kernel_rfl)⟩
instance : Ent Try.prog 25 := ⟨ent_of Try.func25 (by kernel_rfl) (by kernel_rfl)⟩
instance : Ent Try.prog 26 := ⟨ent_of Try.func26 (by kernel_rfl) (by kernel_rfl)⟩
instance : Ent Try.prog 27 := ⟨ent_of Try.func27 (by kernel_rfl) (by kernel_rfl)⟩
instance : Ent Try.prog 28 := ⟨ent_of Try.func28 (by kernel_rfl) (by kernel_rfl)⟩
instance : Ent Try.prog 29 := ⟨ent_of Try.func29 (by kernel_rfl) (by kernel_rfl)⟩
instance : Ent Try.prog 30 := ⟨ent_of Try.func30 (by kernel_rfl) (by kernel_rfl)⟩
instance : Ent Try.prog 31 := ⟨ent_of Try.func31 (by kernel_rfl) (by kernel_rfl)⟩
instance : Ent Try.prog 32 := ⟨ent_of Try.func32 (by kernel_rfl) (by kernel_rfl)⟩
instance : Ent Try.prog 33 := ⟨ent_of Try.func33 (by kernel_rfl) (by kernel_rfl)⟩
instance : Ent Try.prog 34 := ⟨ent_of Try.func34 (by kernel_rfl) (by kernel_rfl)⟩
instance : Ent Try.prog 35 := ⟨ent_of Try.func35 (by kernel_rfl) (by kernel_rfl)⟩
instance : Ent Try.prog 36 := ⟨ent_of Try.func36 (by kernel_rfl) (by kernel_rfl)⟩
instance : Ent Try.prog 37 := ⟨ent_of Try.func37 (by kernel_rfl) (by kernel_rfl)⟩
instance : Ent Try.prog 38 := ⟨ent_of Try.func38 (by kernel_rfl) (by kernel_rfl)⟩
instance : Ent Try.prog 39 := ⟨ent_of Try.func39 (by kernel_rfl) (by kernel_rfl)⟩
instance : Ent Try.prog 40 := ⟨ent_of Try.func40 (by kernel_rfl) (by kernel_rfl)⟩
instance : Ent Try.prog 41 := ⟨ent_of Try.func41 (by kernel_rfl) (by kernel_rfl)⟩
instance : Ent Try.prog 42 := ⟨ent_of Try.func42 (by kernel_rfl) (by kernel_rfl)⟩
instance : Ent Try.prog 43 := ⟨ent_of Try.func43 (by kernel_rfl) (by kernel_rfl)⟩
instance : Ent Try.prog 44 := ⟨ent_of Try.func44 (by kernel_rfl) (by kernel_rfl)⟩
instance : Ent Try.prog 45 := ⟨ent_of Try.func45 (by kernel_rfl) (by kernel_rfl)⟩
instance : Ent Try.prog 46 := ⟨ent_of Try.func46 (by kernel_rfl) (by kernel_rfl)⟩
instance : Ent Try.prog 47 := ⟨ent_of Try.func47 (by kernel_rfl) (by kernel_rfl)⟩
instance : Ent Try.prog 48 := ⟨ent_of Try.func48 (by kernel_rfl) (by kernel_rfl)⟩
instance : Ent Try.prog 49 := ⟨ent_of Try.func49 (by kernel_rfl) (by kernel_rfl)⟩
instance : Ent Try.prog 50 := ⟨ent_of Try.func50 (by kernel_rfl) (by kernel_rfl)⟩
instance : Ent Try.prog 51 := ⟨ent_of Try.func51 (by kernel_rfl) (by kernel_rfl)⟩
instance : Ent Try.prog 52 := ⟨ent_of Try.func52 (by kernel_rfl) (by kernel_rfl)⟩
instance : Ent Try.prog 53 := ⟨ent_of Try.func53 (by kernel_rfl) (by kernel_rfl)⟩
instance : Ent Try.prog 54 := ⟨ent_of Try.func54 (by kernel_rfl) (by kernel_rfl)⟩
instance : Ent Try.prog 55 := ⟨ent_of Try.func55 (by kernel_rfl) (by kernel_rfl)⟩
instance : Ent Try.prog 56 := ⟨ent_of Try.func56 (by kernel_rfl) (by kernel_rfl)⟩
instance : Ent Try.prog 59 := ⟨ent_of Try.func59 (by kernel_rfl) (by kernel_rfl)⟩
instance : Ent Try.prog 60 := ⟨ent_of Try.func60 (by kernel_rfl) (by kernel_rfl)⟩
instance : Ent Try.prog 61 := ⟨ent_of Try.func61 (by kernel_rfl) (by kernel_rfl)⟩
instance : Ent Try.prog 62 := ⟨ent_of Try.func62 (by kernel_rfl) (by kernel_rfl)⟩
instance : Ent Try.prog 63 := ⟨ent_of Try.func63 (by kernel_rfl) (by kernel_rfl)⟩
instance : Ent Try.prog 64 := ⟨ent_of Try.func64 (by kernel_rfl) (by kernel_rfl)⟩
instance : Ent Try.prog 65 := ⟨ent_of Try.func65 (by kernel_rfl) (by kernel_rfl)⟩
instance : Ent Try.prog 66 := ⟨ent_of Try.func66 (by kernel_rfl) (by kernel_rfl)⟩
instance : Ent Try.prog 67 := ⟨ent_of Try.func67 (by kernel_rfl) (by kernel_rfl)⟩
instance : Ent Try.prog 68 := ⟨ent_of Try.func68 (by kernel_rfl) (by kernel_rfl)⟩
instance : Ent Try.prog 69 := ⟨ent_of Try.func69 (by kernel_rfl) (by kernel_rfl)⟩
instance : Ent Try.prog 70 := ⟨ent_of Try.func70 (by kernel_rfl) (by kernel_rfl)⟩
instance : Ent Try.prog 71 := ⟨ent_of Try.func71 (by kernel_rfl) (by kernel_rfl)⟩
instance : Ent Try.prog 72 := ⟨ent_of Try.func72 (by kernel_rfl) (by kernel_rfl)⟩
instance : Ent Try.prog 73 := ⟨ent_of Try.func73 (by kernel_rfl) (by kernel_rfl)⟩
instance : Ent Try.prog 74 := ⟨ent_of Try.func74 (by kernel_rfl) (by kernel_rfl)⟩
instance : Ent Try.prog 75 := ⟨ent_of Try.func75 (by kernel_rfl) (by kernel_rfl)⟩
instance : Ent Try.prog 76 := ⟨ent_of Try.func76 (by kernel_rfl) (by kernel_rfl)⟩
instance : Ent Try.prog 77 := ⟨ent_of Try.func77 (by kernel_rfl) (by kernel_rfl)⟩
instance : Ent Try.prog 78 := ⟨ent_of Try.func78 (by kernel_rfl) (by kernel_rfl)⟩
instance : Ent Try.prog 79 := ⟨ent_of Try.func79 (by kernel_rfl) (by kernel_rfl)⟩
instance : Ent Try.prog 80 := ⟨ent_of Try.func80 (by kernel_rfl) (by kernel_rfl)⟩
instance : Ent Try.prog 81 := ⟨ent_of Try.func81 (by kernel_rfl) (by kernel_rfl)⟩
instance : Ent Try.prog 82 := ⟨ent_of Try.func82 (by kernel_rfl) (by kernel_rfl)⟩
instance : Ent Try.prog 83 := ⟨ent_of Try.func83 (by kernel_rfl) (by kernel_rfl)⟩
instance : Ent Try.prog 84 := ⟨ent_of Try.func84 (by kernel_rfl) (by kernel_rfl)⟩
instance : Ent Try.prog 85 := ⟨ent_of Try.func85 (by kernel_rfl) (by kernel_rfl)⟩
instance : Ent Try.prog 88 := ⟨ent_of Try.func88 (by kernel_rfl) (by kernel_rfl)⟩
instance : Ent Try.prog 89 := ⟨ent_of Try.func89 (by kernel_rfl) (by kernel_rfl)⟩
instance : Ent Try.prog 90 := ⟨ent_of Try.func90 (by kernel_rfl) (by kernel_rfl)⟩
instance : Ent Try.prog 91 := ⟨ent_of Try.func91 (by kernel_rfl) (by kernel_rfl)⟩
instance : Ent Try.prog 92 := ⟨ent_of Try.func92 (by kernel_rfl) (by kernel_rfl)⟩
instance : Ent Try.prog 93 := ⟨ent_of Try.func93 (by kernel_rfl) (by kernel_rfl)⟩
instance : Ent Try.prog 96 := ⟨ent_of Try.func96 (by kernel_rfl) (by kernel_rfl)⟩
instance : Ent Try.prog 97 := ⟨ent_of Try.func97 (by kernel_rfl) (by kernel_rfl)⟩
instance : Ent Try.prog 101 := ⟨ent_of Try.func101 (by kernel_rfl) (by kernel_rfl)⟩
instance : Mixed Try.prog := ⟨by kernel_rfl⟩
theorem eqs43 : EqS Try.prog 43 := ⟨by kernel_rfl, by kernel_rfl, by kernel_rfl⟩
theorem eqs67 : EqS Try.prog 67 := ⟨by kernel_rfl, by kernel_rfl, by kernel_rfl⟩
theorem eqs103 : EqS Try.prog 103 := ⟨by kernel_rfl, by kernel_rfl, by kernel_rfl⟩
theorem eqs105 : EqS Try.prog 105 := ⟨by kernel_rfl, by kernel_rfl, by kernel_rfl⟩
theorem eqs111 : EqS Try.prog 111 := ⟨by kernel_rfl, by kernel_rfl, by kernel_rfl⟩
theorem eqs148 : EqS Try.prog 148 := ⟨by kernel_rfl, by kernel_rfl, by kernel_rfl⟩
instance : EqAll Try.prog [43, 67, 103, 105, 111, 148] := ⟨eqs_cons eqs43 <| eqs_cons eqs67 <| eqs_cons eqs103 <| eqs_cons eqs105 <| eqs_cons eqs111 <| eqs_cons eqs148 <| eqs_nil⟩
end R24
end Go.Proofs
