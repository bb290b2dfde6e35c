/- The seat's types and functions, as the engine wants them. Printed by gen_ty.py. -/
import Derived.Test.YtakjgfdaaebifaaProg
import Derived.Test.YtakjgfdaaebifaaEng7
set_option linter.unusedSectionVars false
set_option linter.unusedVariables false
set_option linter.unusedSimpArgs false
namespace Go.Proofs
open Go.Kin
namespace R22
/-- 2 int64 · 3 int · 4 bool · 5 uint8 · 9 string · 12 uintptr · 13 struct { msg string; addr uintptr } · 19 maps.unhashableTypeError · 20 interface {} · 21 int32 · 22 []api.Constraint · 23 struct { Points int; Links []api.Constraint } · 24 api.Timing · 25 []int · 26 []api.Use · 29 api.Errno · 45 uint32 · 46 struct { From int; To int; Lo int; Hi int } · 47 api.Constraint · 52 []uint8 · 55 struct { Link int; Lower bool } · 56 api.Use · 58 iter.Seq2[kinesphere/api.Use,kinesphere/stn.step] · 60 struct { a int; b int; w int } · 61 stn.step · 63 map[api.Use]stn.step · 70 [64]int · 71 [64]bool · 73 [64]api.Use · 85 *uint8 -/
def tt : List (TypeId × TI) := [
  (2, ⟨.int .i64, 1, 8, .int .i64 (0)⟩),
  (3, ⟨.int .i64, 1, 8, .int .i64 (0)⟩),
  (4, ⟨.bool, 1, 1, .bool false⟩),
  (5, ⟨.int .u8, 1, 1, .int .u8 (0)⟩),
  (9, ⟨.str, 1, 16, .string ⟨#[]⟩⟩),
  (12, ⟨.int .u64, 1, 8, .int .u64 (0)⟩),
  (13, ⟨.struct [(9, 0), (12, 1)], 2, 24, .agg ⟨[.string ⟨#[]⟩, .int .u64 (0)]⟩⟩),
  (19, ⟨.struct [(17, 0)], 1, 8, .agg ⟨[.pointer none]⟩⟩),
  (20, ⟨.other, 1, 16, .nilIface⟩),
  (21, ⟨.int .i32, 1, 4, .int .i32 (0)⟩),
  (22, ⟨.slice 47, 1, 24, .slice none 0 0⟩),
  (23, ⟨.struct [(3, 0), (22, 1)], 2, 32, .agg ⟨[.int .i64 (0), .slice none 0 0]⟩⟩),
  (24, ⟨.struct [(3, 0), (22, 1)], 2, 32, .agg ⟨[.int .i64 (0), .slice none 0 0]⟩⟩),
  (25, ⟨.slice 3, 1, 24, .slice none 0 0⟩),
  (26, ⟨.slice 56, 1, 24, .slice none 0 0⟩),
  (29, ⟨.int .i64, 1, 8, .int .i64 (0)⟩),
  (45, ⟨.int .u32, 1, 4, .int .u32 (0)⟩),
  (46, ⟨.struct [(3, 0), (3, 1), (3, 2), (3, 3)], 4, 32, .agg ⟨[.int .i64 (0), .int .i64 (0), .int .i64 (0), .int .i64 (0)]⟩⟩),
  (47, ⟨.struct [(3, 0), (3, 1), (3, 2), (3, 3)], 4, 32, .agg ⟨[.int .i64 (0), .int .i64 (0), .int .i64 (0), .int .i64 (0)]⟩⟩),
  (52, ⟨.slice 5, 1, 24, .slice none 0 0⟩),
  (55, ⟨.struct [(3, 0), (4, 1)], 2, 16, .agg ⟨[.int .i64 (0), .bool false]⟩⟩),
  (56, ⟨.struct [(3, 0), (4, 1)], 2, 16, .agg ⟨[.int .i64 (0), .bool false]⟩⟩),
  (58, ⟨.other, 1, 8, .nilFunc⟩),
  (60, ⟨.struct [(3, 0), (3, 1), (3, 2)], 3, 24, .agg ⟨[.int .i64 (0), .int .i64 (0), .int .i64 (0)]⟩⟩),
  (61, ⟨.struct [(3, 0), (3, 1), (3, 2)], 3, 24, .agg ⟨[.int .i64 (0), .int .i64 (0), .int .i64 (0)]⟩⟩),
  (63, ⟨.map 56 61, 1, 8, .map none⟩),
  (70, ⟨.array 64 3, 64, 512, .agg ⟨ivec 64 fun _ => 0⟩⟩),
  (71, ⟨.array 64 4, 64, 64, .agg ⟨bvec 64 fun _ => false⟩⟩),
  (73, ⟨.array 64 56, 128, 1024, .agg ⟨flat 64 fun _ => [.int .i64 (0), .bool false]⟩⟩),
  (85, ⟨.other, 1, 8, .pointer none⟩)]
theorem ti2 : TIOk Try.prog 2 ⟨.int .i64, 1, 8, .int .i64 (0)⟩ := ti_mk (show Try.prog.underlying 2 = some (.int .i64) by kernel_rfl) (by kernel_rfl)
theorem ti3 : TIOk Try.prog 3 ⟨.int .i64, 1, 8, .int .i64 (0)⟩ := ti_mk (show Try.prog.underlying 3 = some (.int .i64) by kernel_rfl) (by kernel_rfl)
theorem ti4 : TIOk Try.prog 4 ⟨.bool, 1, 1, .bool false⟩ := ti_mk (show Try.prog.underlying 4 = some (.bool) by kernel_rfl) (by kernel_rfl)
theorem ti5 : TIOk Try.prog 5 ⟨.int .u8, 1, 1, .int .u8 (0)⟩ := ti_mk (show Try.prog.underlying 5 = some (.int .u8) by kernel_rfl) (by kernel_rfl)
theorem ti9 : TIOk Try.prog 9 ⟨.str, 1, 16, .string ⟨#[]⟩⟩ := ti_mk (show Try.prog.underlying 9 = some (.string) by kernel_rfl) (by kernel_rfl)
theorem ti12 : TIOk Try.prog 12 ⟨.int .u64, 1, 8, .int .u64 (0)⟩ := ti_mk (show Try.prog.underlying 12 = some (.int .u64) by kernel_rfl) (by kernel_rfl)
theorem ti13 : TIOk Try.prog 13 ⟨.struct [(9, 0), (12, 1)], 2, 24, .agg ⟨[.string ⟨#[]⟩, .int .u64 (0)]⟩⟩ := ti_mk (tk_struct (by kernel_rfl)) (by kernel_rfl)
theorem ti19 : TIOk Try.prog 19 ⟨.struct [(17, 0)], 1, 8, .agg ⟨[.pointer none]⟩⟩ := ti_mk (tk_struct (by kernel_rfl)) (by kernel_rfl)
theorem ti20 : TIOk Try.prog 20 ⟨.other, 1, 16, .nilIface⟩ := ti_mk (tk_other (by kernel_rfl)) (by kernel_rfl)
theorem ti21 : TIOk Try.prog 21 ⟨.int .i32, 1, 4, .int .i32 (0)⟩ := ti_mk (show Try.prog.underlying 21 = some (.int .i32) by kernel_rfl) (by kernel_rfl)
theorem ti22 : TIOk Try.prog 22 ⟨.slice 47, 1, 24, .slice none 0 0⟩ := ti_mk (show Try.prog.underlying 22 = some (.slice 47) by kernel_rfl) (by kernel_rfl)
theorem ti23 : TIOk Try.prog 23 ⟨.struct [(3, 0), (22, 1)], 2, 32, .agg ⟨[.int .i64 (0), .slice none 0 0]⟩⟩ := ti_mk (tk_struct (by kernel_rfl)) (by kernel_rfl)
theorem ti24 : TIOk Try.prog 24 ⟨.struct [(3, 0), (22, 1)], 2, 32, .agg ⟨[.int .i64 (0), .slice none 0 0]⟩⟩ := ti_mk (tk_struct (by kernel_rfl)) (by kernel_rfl)
theorem ti25 : TIOk Try.prog 25 ⟨.slice 3, 1, 24, .slice none 0 0⟩ := ti_mk (show Try.prog.underlying 25 = some (.slice 3) by kernel_rfl) (by kernel_rfl)
theorem ti26 : TIOk Try.prog 26 ⟨.slice 56, 1, 24, .slice none 0 0⟩ := ti_mk (show Try.prog.underlying 26 = some (.slice 56) by kernel_rfl) (by kernel_rfl)
theorem ti29 : TIOk Try.prog 29 ⟨.int .i64, 1, 8, .int .i64 (0)⟩ := ti_mk (show Try.prog.underlying 29 = some (.int .i64) by kernel_rfl) (by kernel_rfl)
theorem ti45 : TIOk Try.prog 45 ⟨.int .u32, 1, 4, .int .u32 (0)⟩ := ti_mk (show Try.prog.underlying 45 = some (.int .u32) by kernel_rfl) (by kernel_rfl)
theorem ti46 : TIOk Try.prog 46 ⟨.struct [(3, 0), (3, 1), (3, 2), (3, 3)], 4, 32, .agg ⟨[.int .i64 (0), .int .i64 (0), .int .i64 (0), .int .i64 (0)]⟩⟩ := ti_mk (tk_struct (by kernel_rfl)) (by kernel_rfl)
theorem ti47 : TIOk Try.prog 47 ⟨.struct [(3, 0), (3, 1), (3, 2), (3, 3)], 4, 32, .agg ⟨[.int .i64 (0), .int .i64 (0), .int .i64 (0), .int .i64 (0)]⟩⟩ := ti_mk (tk_struct (by kernel_rfl)) (by kernel_rfl)
theorem ti52 : TIOk Try.prog 52 ⟨.slice 5, 1, 24, .slice none 0 0⟩ := ti_mk (show Try.prog.underlying 52 = some (.slice 5) by kernel_rfl) (by kernel_rfl)
theorem ti55 : TIOk Try.prog 55 ⟨.struct [(3, 0), (4, 1)], 2, 16, .agg ⟨[.int .i64 (0), .bool false]⟩⟩ := ti_mk (tk_struct (by kernel_rfl)) (by kernel_rfl)
theorem ti56 : TIOk Try.prog 56 ⟨.struct [(3, 0), (4, 1)], 2, 16, .agg ⟨[.int .i64 (0), .bool false]⟩⟩ := ti_mk (tk_struct (by kernel_rfl)) (by kernel_rfl)
theorem ti58 : TIOk Try.prog 58 ⟨.other, 1, 8, .nilFunc⟩ := ti_mk (tk_other (by kernel_rfl)) (by kernel_rfl)
theorem ti60 : TIOk Try.prog 60 ⟨.struct [(3, 0), (3, 1), (3, 2)], 3, 24, .agg ⟨[.int .i64 (0), .int .i64 (0), .int .i64 (0)]⟩⟩ := ti_mk (tk_struct (by kernel_rfl)) (by kernel_rfl)
theorem ti61 : TIOk Try.prog 61 ⟨.struct [(3, 0), (3, 1), (3, 2)], 3, 24, .agg ⟨[.int .i64 (0), .int .i64 (0), .int .i64 (0)]⟩⟩ := ti_mk (tk_struct (by kernel_rfl)) (by kernel_rfl)
theorem ti63 : TIOk Try.prog 63 ⟨.map 56 61, 1, 8, .map none⟩ := ti_mk (show Try.prog.underlying 63 = some (.map 56 61) by kernel_rfl) (by kernel_rfl)
theorem ti70 : TIOk Try.prog 70 ⟨.array 64 3, 64, 512, .agg ⟨ivec 64 fun _ => 0⟩⟩ := ti_mk (show Try.prog.underlying 70 = some (.array 64 3) by kernel_rfl) (by kernel_rfl)
theorem ti71 : TIOk Try.prog 71 ⟨.array 64 4, 64, 64, .agg ⟨bvec 64 fun _ => false⟩⟩ := ti_mk (show Try.prog.underlying 71 = some (.array 64 4) by kernel_rfl) (by kernel_rfl)
theorem ti73 : TIOk Try.prog 73 ⟨.array 64 56, 128, 1024, .agg ⟨flat 64 fun _ => [.int .i64 (0), .bool false]⟩⟩ := ti_mk (show Try.prog.underlying 73 = some (.array 64 56) by kernel_rfl) (by kernel_rfl)
theorem ti85 : TIOk Try.prog 85 ⟨.other, 1, 8, .pointer none⟩ := ti_mk (tk_other (by kernel_rfl)) (by kernel_rfl)
instance : TT Try.prog tt := ⟨tt_cons ti2 <| tt_cons ti3 <| tt_cons ti4 <| tt_cons ti5 <| tt_cons ti9 <| tt_cons ti12 <| tt_cons ti13 <| tt_cons ti19 <| tt_cons ti20 <| tt_cons ti21 <| tt_cons ti22 <| tt_cons ti23 <| tt_cons ti24 <| tt_cons ti25 <| tt_cons ti26 <| tt_cons ti29 <| tt_cons ti45 <| tt_cons ti46 <| tt_cons ti47 <| tt_cons ti52 <| tt_cons ti55 <| tt_cons ti56 <| tt_cons ti58 <| tt_cons ti60 <| tt_cons ti61 <| tt_cons ti63 <| tt_cons ti70 <| tt_cons ti71 <| tt_cons ti73 <| tt_cons ti85 <| tt_nil⟩
instance : Ent Try.prog 2 := ⟨ent_of Try.func2 (by kernel_rfl) (by kernel_rfl)⟩
instance : Ent Try.prog 3 := ⟨ent_of Try.func3 (by kernel_rfl) (by kernel_rfl)⟩
instance : Ent Try.prog 4 := ⟨ent_of Try.func4 (by kernel_rfl) (by kernel_rfl)⟩
instance : Ent Try.prog 5 := ⟨ent_of Try.func5 (by kernel_rfl) (by kernel_rfl)⟩
instance : Ent Try.prog 6 := ⟨ent_of Try.func6 (by kernel_rfl) (by kernel_rfl)⟩
instance : Ent Try.prog 7 := ⟨ent_of Try.func7 (by kernel_rfl) (by kernel_rfl)⟩
instance : Ent Try.prog 8 := ⟨ent_of Try.func8 (by kernel_rfl) (by kernel_rfl)⟩
instance : Ent Try.prog 9 := ⟨ent_of Try.func9 (by kernel_rfl) (by kernel_rfl)⟩
instance : Ent Try.prog 10 := ⟨ent_of Try.func10 (by kernel_rfl) (by kernel_rfl)⟩
instance : Ent Try.prog 11 := ⟨ent_of Try.func11 (by kernel_rfl) (by kernel_rfl)⟩
instance : Ent Try.prog 12 := ⟨ent_of Try.func12 (by kernel_rfl) (by kernel_rfl)⟩
instance : Ent Try.prog 13 := ⟨ent_of Try.func13 (by kernel_rfl) (by kernel_rfl)⟩
instance : Ent Try.prog 14 := ⟨ent_of Try.func14 (by kernel_rfl) (by kernel_rfl)⟩
instance : Ent Try.prog 15 := ⟨ent_of Try.func15 (by kernel_rfl) (by kernel_rfl)⟩
instance : Ent Try.prog 16 := ⟨ent_of Try.func16 (by kernel_rfl) (by kernel_rfl)⟩
instance : Ent Try.prog 17 := ⟨ent_of Try.func17 (by kernel_rfl) (by kernel_rfl)⟩
instance : Ent Try.prog 18 := ⟨ent_of Try.func18 (by kernel_rfl) (by kernel_rfl)⟩
instance : Ent Try.prog 19 := ⟨ent_of Try.func19 (by kernel_rfl) (by kernel_rfl)⟩
instance : Ent Try.prog 20 := ⟨ent_of Try.func20 (by kernel_rfl) (by kernel_rfl)⟩
instance : Ent Try.prog 21 := ⟨ent_of Try.func21 (by kernel_rfl) (by kernel_rfl)⟩
instance : Ent Try.prog 22 := ⟨ent_of Try.func22 (by kernel_rfl) (by kernel_rfl)⟩
instance : Ent Try.prog 23 := ⟨ent_of Try.func23 (by kernel_rfl) (by kernel_rfl)⟩
instance : Ent Try.prog 24 := ⟨ent_of Try.func24 (by kernel_rfl) (by kernel_rfl)⟩
instance : Ent Try.prog 25 := ⟨ent_of Try.func25 (by kernel_rfl) (by kernel_rfl)⟩
instance : Ent Try.prog 26 := ⟨ent_of Try.func26 (by kernel_rfl) (by kernel_rfl)⟩
instance : Ent Try.prog 27 := ⟨ent_of Try.func27 (by kernel_rfl) (by kernel_rfl)⟩
instance : Ent Try.prog 28 := ⟨ent_of Try.func28 (by kernel_rfl) (by kernel_rfl)⟩
instance : Ent Try.prog 29 := ⟨ent_of Try.func29 (by kernel_rfl) (by kernel_rfl)⟩
instance : Ent Try.prog 30 := ⟨ent_of Try.func30 (by kernel_rfl) (by kernel_rfl)⟩
instance : Ent Try.prog 31 := ⟨ent_of Try.func31 (by kernel_rfl) (by kernel_rfl)⟩
instance : Ent Try.prog 32 := ⟨ent_of Try.func32 (by kernel_rfl) (by kernel_rfl)⟩
instance : Ent Try.prog 33 := ⟨ent_of Try.func33 (by kernel_rfl) (by kernel_rfl)⟩
instance : Ent Try.prog 34 := ⟨ent_of Try.func34 (by kernel_rfl) (by kernel_rfl)⟩
instance : Mixed Try.prog := ⟨by kernel_rfl⟩
end R22
end Go.Proofs
