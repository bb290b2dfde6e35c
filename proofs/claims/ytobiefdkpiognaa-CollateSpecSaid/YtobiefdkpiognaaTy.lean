/- The seat's types and functions, as the engine wants them. Printed by gen_ty.py. -/
import Derived.Test.YtobiefdkpiognaaProg
import Derived.Test.YtobiefdkpiognaaEng11
set_option linter.unusedSectionVars false
set_option linter.unusedVariables false
set_option linter.unusedSimpArgs false
namespace Go.Proofs
open Go.Kin
namespace R41
/-- 2 int64 · 3 int · 4 bool · 5 uint8 · 9 string · 12 uintptr · 13 struct { msg string; addr uintptr } · 19 maps.unhashableTypeError · 20 interface {} · 21 int32 · 22 []api.Witness · 25 [][]int · 26 api.Errno · 31 struct { N int; D int } · 32 api.Ratio · 33 struct { ID int; Role int; Bar int; Mark int; Kind int; Side int; Dir int; Level int; Size int; With int; From api.Ratio; To api.Ratio } · 34 api.Sign · 35 []api.Reading · 36 struct { No int; Year int; Readings []api.Reading } · 37 api.Witness · 42 []int · 48 [][2]int · 62 [2]int · 64 [][][2]int · 66 iter.Seq2[int,int] · 71 struct { Lost bool; Sign api.Sign } · 72 api.Reading · 74 []api.Sign · 78 struct { n int; lo int; hi int; bits int } · 79 collate.digit · 81 map[[2]int]int · 86 []collate.digit · 92 uint · 96 iter.Seq[uint] · 106 uint32 · 110 *uint8 -/
def tt : List (TypeId × TI) := [
  (2, ⟨.int .i64, 1, 8, .int .i64 (0)⟩),
  (3, ⟨.int .i64, 1, 8, .int .i64 (0)⟩),
  (4, ⟨.bool, 1, 1, .bool false⟩),
  (5, ⟨.int .u8, 1, 1, .int .u8 (0)⟩),
  (9, ⟨.str, 1, 16, .string ⟨#[]⟩⟩),
  (12, ⟨.int .u64, 1, 8, .int .u64 (0)⟩),
  (13, ⟨.struct [(9, 0), (12, 1)], 2, 24, .agg ⟨[.string ⟨#[]⟩, .int .u64 (0)]⟩⟩),
  (19, ⟨.struct [(17, 0)], 1, 8, .agg ⟨[.pointer none]⟩⟩),
  (20, ⟨.other, 1, 16, .nilIface⟩),
  (21, ⟨.int .i32, 1, 4, .int .i32 (0)⟩),
  (22, ⟨.slice 37, 1, 24, .slice none 0 0⟩),
  (25, ⟨.slice 42, 1, 24, .slice none 0 0⟩),
  (26, ⟨.int .i64, 1, 8, .int .i64 (0)⟩),
  (31, ⟨.struct [(3, 0), (3, 1)], 2, 16, .agg ⟨[.int .i64 (0), .int .i64 (0)]⟩⟩),
  (32, ⟨.struct [(3, 0), (3, 1)], 2, 16, .agg ⟨[.int .i64 (0), .int .i64 (0)]⟩⟩),
  (33, ⟨.struct [(3, 0), (3, 1), (3, 2), (3, 3), (3, 4), (3, 5), (3, 6), (3, 7), (3, 8), (3, 9), (32, 10), (32, 12)], 14, 112, .agg ⟨[.int .i64 (0), .int .i64 (0), .int .i64 (0), .int .i64 (0), .int .i64 (0), .int .i64 (0), .int .i64 (0), .int .i64 (0), .int .i64 (0), .int .i64 (0), .int .i64 (0), .int .i64 (0), .int .i64 (0), .int .i64 (0)]⟩⟩),
  (34, ⟨.struct [(3, 0), (3, 1), (3, 2), (3, 3), (3, 4), (3, 5), (3, 6), (3, 7), (3, 8), (3, 9), (32, 10), (32, 12)], 14, 112, .agg ⟨[.int .i64 (0), .int .i64 (0), .int .i64 (0), .int .i64 (0), .int .i64 (0), .int .i64 (0), .int .i64 (0), .int .i64 (0), .int .i64 (0), .int .i64 (0), .int .i64 (0), .int .i64 (0), .int .i64 (0), .int .i64 (0)]⟩⟩),
  (35, ⟨.slice 72, 1, 24, .slice none 0 0⟩),
  (36, ⟨.struct [(3, 0), (3, 1), (35, 2)], 3, 40, .agg ⟨[.int .i64 (0), .int .i64 (0), .slice none 0 0]⟩⟩),
  (37, ⟨.struct [(3, 0), (3, 1), (35, 2)], 3, 40, .agg ⟨[.int .i64 (0), .int .i64 (0), .slice none 0 0]⟩⟩),
  (42, ⟨.slice 3, 1, 24, .slice none 0 0⟩),
  (48, ⟨.slice 62, 1, 24, .slice none 0 0⟩),
  (62, ⟨.array 2 3, 2, 16, .agg ⟨[.int .i64 (0), .int .i64 (0)]⟩⟩),
  (64, ⟨.slice 48, 1, 24, .slice none 0 0⟩),
  (66, ⟨.other, 1, 8, .nilFunc⟩),
  (71, ⟨.struct [(4, 0), (34, 1)], 15, 120, .agg ⟨[.bool false, .int .i64 (0), .int .i64 (0), .int .i64 (0), .int .i64 (0), .int .i64 (0), .int .i64 (0), .int .i64 (0), .int .i64 (0), .int .i64 (0), .int .i64 (0), .int .i64 (0), .int .i64 (0), .int .i64 (0), .int .i64 (0)]⟩⟩),
  (72, ⟨.struct [(4, 0), (34, 1)], 15, 120, .agg ⟨[.bool false, .int .i64 (0), .int .i64 (0), .int .i64 (0), .int .i64 (0), .int .i64 (0), .int .i64 (0), .int .i64 (0), .int .i64 (0), .int .i64 (0), .int .i64 (0), .int .i64 (0), .int .i64 (0), .int .i64 (0), .int .i64 (0)]⟩⟩),
  (74, ⟨.slice 34, 1, 24, .slice none 0 0⟩),
  (78, ⟨.struct [(3, 0), (3, 1), (3, 2), (3, 3)], 4, 32, .agg ⟨[.int .i64 (0), .int .i64 (0), .int .i64 (0), .int .i64 (0)]⟩⟩),
  (79, ⟨.struct [(3, 0), (3, 1), (3, 2), (3, 3)], 4, 32, .agg ⟨[.int .i64 (0), .int .i64 (0), .int .i64 (0), .int .i64 (0)]⟩⟩),
  (81, ⟨.map 62 3, 1, 8, .map none⟩),
  (86, ⟨.slice 79, 1, 24, .slice none 0 0⟩),
  (92, ⟨.int .u64, 1, 8, .int .u64 (0)⟩),
  (96, ⟨.other, 1, 8, .nilFunc⟩),
  (106, ⟨.int .u32, 1, 4, .int .u32 (0)⟩),
  (110, ⟨.other, 1, 8, .pointer none⟩)]
theorem ti2 : TIOk Try.prog 2 ⟨.int .i64, 1, 8, .int .i64 (0)⟩ := ti_mk (show Try.prog.underlying 2 = some (.int .i64) by kernel_rfl) (by kernel_rfl)
theorem ti3 : TIOk Try.prog 3 ⟨.int .i64, 1, 8, .int .i64 (0)⟩ := ti_mk (show Try.prog.underlying 3 = some (.int .i64) by kernel_rfl) (by kernel_rfl)
theorem ti4 : TIOk Try.prog 4 ⟨.bool, 1, 1, .bool false⟩ := ti_mk (show Try.prog.underlying 4 = some (.bool) by kernel_rfl) (by kernel_rfl)
theorem ti5 : TIOk Try.prog 5 ⟨.int .u8, 1, 1, .int .u8 (0)⟩ := ti_mk (show Try.prog.underlying 5 = some (.int .u8) by kernel_rfl) (by kernel_rfl)
theorem ti9 : TIOk Try.prog 9 ⟨.str, 1, 16, .string ⟨#[]⟩⟩ := ti_mk (show Try.prog.underlying 9 = some (.string) by kernel_rfl) (by kernel_rfl)
theorem ti12 : TIOk Try.prog 12 ⟨.int .u64, 1, 8, .int .u64 (0)⟩ := ti_mk (show Try.prog.underlying 12 = some (.int .u64) by kernel_rfl) (by kernel_rfl)
theorem ti13 : TIOk Try.prog 13 ⟨.struct [(9, 0), (12, 1)], 2, 24, .agg ⟨[.string ⟨#[]⟩, .int .u64 (0)]⟩⟩ := ti_mk (tk_struct (by kernel_rfl)) (by kernel_rfl)
theorem ti19 : TIOk Try.prog 19 ⟨.struct [(17, 0)], 1, 8, .agg ⟨[.pointer none]⟩⟩ := ti_mk (tk_struct (by kernel_rfl)) (by kernel_rfl)
theorem ti20 : TIOk Try.prog 20 ⟨.other, 1, 16, .nilIface⟩ := ti_mk (tk_other (by kernel_rfl)) (by kernel_rfl)
theorem ti21 : TIOk Try.prog 21 ⟨.int .i32, 1, 4, .int .i32 (0)⟩ := ti_mk (show Try.prog.underlying 21 = some (.int .i32) by kernel_rfl) (by kernel_rfl)
theorem ti22 : TIOk Try.prog 22 ⟨.slice 37, 1, 24, .slice none 0 0⟩ := ti_mk (show Try.prog.underlying 22 = some (.slice 37) by kernel_rfl) (by kernel_rfl)
theorem ti25 : TIOk Try.prog 25 ⟨.slice 42, 1, 24, .slice none 0 0⟩ := ti_mk (show Try.prog.underlying 25 = some (.slice 42) by kernel_rfl) (by kernel_rfl)
theorem ti26 : TIOk Try.prog 26 ⟨.int .i64, 1, 8, .int .i64 (0)⟩ := ti_mk (show Try.prog.underlying 26 = some (.int .i64) by kernel_rfl) (by kernel_rfl)
theorem ti31 : TIOk Try.prog 31 ⟨.struct [(3, 0), (3, 1)], 2, 16, .agg ⟨[.int .i64 (0), .int .i64 (0)]⟩⟩ := ti_mk (tk_struct (by kernel_rfl)) (by kernel_rfl)
theorem ti32 : TIOk Try.prog 32 ⟨.struct [(3, 0), (3, 1)], 2, 16, .agg ⟨[.int .i64 (0), .int .i64 (0)]⟩⟩ := ti_mk (tk_struct (by kernel_rfl)) (by kernel_rfl)
theorem ti33 : TIOk Try.prog 33 ⟨.struct [(3, 0), (3, 1), (3, 2), (3, 3), (3, 4), (3, 5), (3, 6), (3, 7), (3, 8), (3, 9), (32, 10), (32, 12)], 14, 112, .agg ⟨[.int .i64 (0), .int .i64 (0), .int .i64 (0), .int .i64 (0), .int .i64 (0), .int .i64 (0), .int .i64 (0), .int .i64 (0), .int .i64 (0), .int .i64 (0), .int .i64 (0), .int .i64 (0), .int .i64 (0), .int .i64 (0)]⟩⟩ := ti_mk (tk_struct (by kernel_rfl)) (by kernel_rfl)
theorem ti34 : TIOk Try.prog 34 ⟨.struct [(3, 0), (3, 1), (3, 2), (3, 3), (3, 4), (3, 5), (3, 6), (3, 7), (3, 8), (3, 9), (32, 10), (32, 12)], 14, 112, .agg ⟨[.int .i64 (0), .int .i64 (0), .int .i64 (0), .int .i64 (0), .int .i64 (0), .int .i64 (0), .int .i64 (0), .int .i64 (0), .int .i64 (0), .int .i64 (0), .int .i64 (0), .int .i64 (0), .int .i64 (0), .int .i64 (0)]⟩⟩ := ti_mk (tk_struct (by kernel_rfl)) (by kernel_rfl)
theorem ti35 : TIOk Try.prog 35 ⟨.slice 72, 1, 24, .slice none 0 0⟩ := ti_mk (show Try.prog.underlying 35 = some (.slice 72) by kernel_rfl) (by kernel_rfl)
theorem ti36 : TIOk Try.prog 36 ⟨.struct [(3, 0), (3, 1), (35, 2)], 3, 40, .agg ⟨[.int .i64 (0), .int .i64 (0), .slice none 0 0]⟩⟩ := ti_mk (tk_struct (by kernel_rfl)) (by kernel_rfl)
theorem ti37 : TIOk Try.prog 37 ⟨.struct [(3, 0), (3, 1), (35, 2)], 3, 40, .agg ⟨[.int .i64 (0), .int .i64 (0), .slice none 0 0]⟩⟩ := ti_mk (tk_struct (by kernel_rfl)) (by kernel_rfl)
theorem ti42 : TIOk Try.prog 42 ⟨.slice 3, 1, 24, .slice none 0 0⟩ := ti_mk (show Try.prog.underlying 42 = some (.slice 3) by kernel_rfl) (by kernel_rfl)
theorem ti48 : TIOk Try.prog 48 ⟨.slice 62, 1, 24, .slice none 0 0⟩ := ti_mk (show Try.prog.underlying 48 = some (.slice 62) by kernel_rfl) (by kernel_rfl)
theorem ti62 : TIOk Try.prog 62 ⟨.array 2 3, 2, 16, .agg ⟨[.int .i64 (0), .int .i64 (0)]⟩⟩ := ti_mk (show Try.prog.underlying 62 = some (.array 2 3) by kernel_rfl) (by kernel_rfl)
theorem ti64 : TIOk Try.prog 64 ⟨.slice 48, 1, 24, .slice none 0 0⟩ := ti_mk (show Try.prog.underlying 64 = some (.slice 48) by kernel_rfl) (by kernel_rfl)
theorem ti66 : TIOk Try.prog 66 ⟨.other, 1, 8, .nilFunc⟩ := ti_mk (tk_other (by kernel_rfl)) (by kernel_rfl)
theorem ti71 : TIOk Try.prog 71 ⟨.struct [(4, 0), (34, 1)], 15, 120, .agg ⟨[.bool false, .int .i64 (0), .int .i64 (0), .int .i64 (0), .int .i64 (0), .int .i64 (0), .int .i64 (0), .int .i64 (0), .int .i64 (0), .int .i64 (0), .int .i64 (0), .int .i64 (0), .int .i64 (0), .int .i64 (0), .int .i64 (0)]⟩⟩ := ti_mk (tk_struct (by kernel_rfl)) (by kernel_rfl)
theorem ti72 : TIOk Try.prog 72 ⟨.struct [(4, 0), (34, 1)], 15, 120, .agg ⟨[.bool false, .int .i64 (0), .int .i64 (0), .int .i64 (0), .int .i64 (0), .int .i64 (0), .int .i64 (0), .int .i64 (0), .int .i64 (0), .int .i64 (0), .int .i64 (0), .int .i64 (0), .int .i64 (0), .int .i64 (0), .int .i64 (0)]⟩⟩ := ti_mk (tk_struct (by kernel_rfl)) (by kernel_rfl)
theorem ti74 : TIOk Try.prog 74 ⟨.slice 34, 1, 24, .slice none 0 0⟩ := ti_mk (show Try.prog.underlying 74 = some (.slice 34) by kernel_rfl) (by kernel_rfl)
theorem ti78 : TIOk Try.prog 78 ⟨.struct [(3, 0), (3, 1), (3, 2), (3, 3)], 4, 32, .agg ⟨[.int .i64 (0), .int .i64 (0), .int .i64 (0), .int .i64 (0)]⟩⟩ := ti_mk (tk_struct (by kernel_rfl)) (by kernel_rfl)
theorem ti79 : TIOk Try.prog 79 ⟨.struct [(3, 0), (3, 1), (3, 2), (3, 3)], 4, 32, .agg ⟨[.int .i64 (0), .int .i64 (0), .int .i64 (0), .int .i64 (0)]⟩⟩ := ti_mk (tk_struct (by kernel_rfl)) (by kernel_rfl)
theorem ti81 : TIOk Try.prog 81 ⟨.map 62 3, 1, 8, .map none⟩ := ti_mk (show Try.prog.underlying 81 = some (.map 62 3) by kernel_rfl) (by kernel_rfl)
theorem ti86 : TIOk Try.prog 86 ⟨.slice 79, 1, 24, .slice none 0 0⟩ := ti_mk (show Try.prog.underlying 86 = some (.slice 79) by kernel_rfl) (by kernel_rfl)
theorem ti92 : TIOk Try.prog 92 ⟨.int .u64, 1, 8, .int .u64 (0)⟩ := ti_mk (show Try.prog.underlying 92 = some (.int .u64) by kernel_rfl) (by kernel_rfl)
theorem ti96 : TIOk Try.prog 96 ⟨.other, 1, 8, .nilFunc⟩ := ti_mk (tk_other (by kernel_rfl)) (by kernel_rfl)
theorem ti106 : TIOk Try.prog 106 ⟨.int .u32, 1, 4, .int .u32 (0)⟩ := ti_mk (show Try.prog.underlying 106 = some (.int .u32) by kernel_rfl) (by kernel_rfl)
theorem ti110 : TIOk Try.prog 110 ⟨.other, 1, 8, .pointer none⟩ := ti_mk (tk_other (by kernel_rfl)) (by kernel_rfl)
instance : TT Try.prog tt := ⟨tt_cons ti2 <| tt_cons ti3 <| tt_cons ti4 <| tt_cons ti5 <| tt_cons ti9 <| tt_cons ti12 <| tt_cons ti13 <| tt_cons ti19 <| tt_cons ti20 <| tt_cons ti21 <| tt_cons ti22 <| tt_cons ti25 <| tt_cons ti26 <| tt_cons ti31 <| tt_cons ti32 <| tt_cons ti33 <| tt_cons ti34 <| tt_cons ti35 <| tt_cons ti36 <| tt_cons ti37 <| tt_cons ti42 <| tt_cons ti48 <| tt_cons ti62 <| tt_cons ti64 <| tt_cons ti66 <| tt_cons ti71 <| tt_cons ti72 <| tt_cons ti74 <| tt_cons ti78 <| tt_cons ti79 <| tt_cons ti81 <| tt_cons ti86 <| tt_cons ti92 <| tt_cons ti96 <| tt_cons ti106 <| tt_cons ti110 <| tt_nil⟩
instance : Ent Try.prog 2 := ⟨ent_of Try.func2 (by kernel_rfl) (by kernel_rfl)⟩
instance : Ent Try.prog 3 := ⟨ent_of Try.func3 (by kernel_rfl) (by kernel_rfl)⟩
instance : Ent Try.prog 4 := ⟨ent_of Try.func4 (by kernel_rfl) (by kernel_rfl)⟩
instance : Ent Try.prog 5 := ⟨ent_of Try.func5 (by kernel_rfl) (by kernel_rfl)⟩
instance : Ent Try.prog 6 := ⟨ent_of Try.func6 (by kernel_rfl) (by kernel_rfl)⟩
instance : Ent Try.prog 7 := ⟨ent_of Try.func7 (by kernel_rfl) (by kernel_rfl)⟩
instance : Ent Try.prog 8 := ⟨ent_of Try.func8 (by kernel_rfl) (by kernel_rfl)⟩
instance : Ent Try.prog 9 := ⟨ent_of Try.func9 (by kernel_rfl) (by kernel_rfl)⟩
instance : Ent Try.prog 10 := ⟨ent_of Try.func10 (by kernel_rfl) (by kernel_rfl)⟩
instance : Ent Try.prog 11 := ⟨ent_of Try.func11 (by kernel_rfl) (by kernel_rfl)⟩
instance : Ent Try.prog 12 := ⟨ent_of Try.func12 (by kernel_rfl) (by kernel_rfl)⟩
instance : Ent Try.prog 13 := ⟨ent_of Try.func13 (by kernel_rfl) (by kernel_rfl)⟩
instance : Ent Try.prog 14 := ⟨ent_of Try.func14 (by kernel_rfl) (by kernel_rfl)⟩
instance : Ent Try.prog 15 := ⟨ent_of Try.func15 (by kernel_rfl) (by kernel_rfl)⟩
instance : Ent Try.prog 16 := ⟨ent_of Try.func16 (by kernel_rfl) (by kernel_rfl)⟩
instance : Ent Try.prog 17 := ⟨ent_of Try.func17 (by kernel_rfl) (by kernel_rfl)⟩
instance : Ent Try.prog 18 := ⟨ent_of Try.func18 (by kernel_rfl) (by kernel_rfl)⟩
instance : Ent Try.prog 19 := ⟨ent_of Try.func19 (by kernel_rfl) (by kernel_rfl)⟩
instance : Ent Try.prog 20 := ⟨ent_of Try.func20 (by kernel_rfl) (by kernel_rfl)⟩
instance : Ent Try.prog 21 := ⟨ent_of Try.func21 (by kernel_rfl) (by kernel_rfl)⟩
instance : Ent Try.prog 22 := ⟨ent_of Try.func22 (by kernel_rfl) (by kernel_rfl)⟩
instance : Ent Try.prog 23 := ⟨ent_of Try.func23 (by kernel_rfl) (by kernel_rfl)⟩
instance : Ent Try.prog 24 := ⟨ent_of Try.func24 (by kernel_rfl) (by kernel_rfl)⟩
instance : Ent Try.prog 25 := ⟨ent_of Try.func25 (by kernel_rfl) (by kernel_rfl)⟩
instance : Ent Try.prog 26 := ⟨ent_of Try.func26 (by kernel_rfl) (by kernel_rfl)⟩
instance : Ent Try.prog 27 := ⟨ent_of Try.func27 (by kernel_rfl) (by kernel_rfl)⟩
instance : Ent Try.prog 28 := ⟨ent_of Try.func28 (by kernel_rfl) (by kernel_rfl)⟩
instance : Ent Try.prog 29 := ⟨ent_of Try.func29 (by kernel_rfl) (by kernel_rfl)⟩
instance : Ent Try.prog 30 := ⟨ent_of Try.func30 (by kernel_rfl) (by kernel_rfl)⟩
instance : Ent Try.prog 31 := ⟨ent_of Try.func31 (by kernel_rfl) (by kernel_rfl)⟩
instance : Ent Try.prog 32 := ⟨ent_of Try.func32 (by kernel_rfl) (by kernel_rfl)⟩
instance : Ent Try.prog 33 := ⟨ent_of Try.func33 (by kernel_rfl) (by kernel_rfl)⟩
instance : Ent Try.prog 34 := ⟨ent_of Try.func34 (by kernel_rfl) (by kernel_rfl)⟩
instance : Ent Try.prog 35 := ⟨ent_of Try.func35 (by kernel_rfl) (by kernel_rfl)⟩
instance : Ent Try.prog 36 := ⟨ent_of Try.func36 (by kernel_rfl) (by kernel_rfl)⟩
instance : Ent Try.prog 37 := ⟨ent_of Try.func37 (by kernel_rfl) (by kernel_rfl)⟩
instance : Ent Try.prog 38 := ⟨ent_of Try.func38 (by kernel_rfl) (by kernel_rfl)⟩
instance : Ent Try.prog 39 := ⟨ent_of Try.func39 (by kernel_rfl) (by kernel_rfl)⟩
instance : Ent Try.prog 40 := ⟨ent_of Try.func40 (by kernel_rfl) (by kernel_rfl)⟩
instance : Ent Try.prog 41 := ⟨ent_of Try.func41 (by kernel_rfl) (by kernel_rfl)⟩
instance : Ent Try.prog 42 := ⟨ent_of Try.func42 (by kernel_rfl) (by kernel_rfl)⟩
instance : Ent Try.prog 43 := ⟨ent_of Try.func43 (by kernel_rfl) (by kernel_rfl)⟩
instance : Ent Try.prog 44 := ⟨ent_of Try.func44 (by kernel_rfl) (by kernel_rfl)⟩
instance : Ent Try.prog 45 := ⟨ent_of Try.func45 (by kernel_rfl) (by kernel_rfl)⟩
instance : Ent Try.prog 46 := ⟨ent_of Try.func46 (by kernel_rfl) (by kernel_rfl)⟩
instance : Ent Try.prog 47 := ⟨ent_of Try.func47 (by kernel_rfl) (by kernel_rfl)⟩
instance : Ent Try.prog 48 := ⟨ent_of Try.func48 (by kernel_rfl) (by kernel_rfl)⟩
instance : Ent Try.prog 49 := ⟨ent_of Try.func49 (by kernel_rfl) (by kernel_rfl)⟩
instance : Ent Try.prog 50 := ⟨ent_of Try.func50 (by kernel_rfl) (by kernel_rfl)⟩
instance : Ent Try.prog 51 := ⟨ent_of Try.func51 (by kernel_rfl) (by kernel_rfl)⟩
instance : Ent Try.prog 52 := ⟨ent_of Try.func52 (by kernel_rfl) (by kernel_rfl)⟩
instance : Ent Try.prog 53 := ⟨ent_of Try.func53 (by kernel_rfl) (by kernel_rfl)⟩
instance : Ent Try.prog 54 := ⟨ent_of Try.func54 (by kernel_rfl) (by kernel_rfl)⟩
instance : Ent Try.prog 55 := ⟨ent_of Try.func55 (by kernel_rfl) (by kernel_rfl)⟩
instance : Ent Try.prog 56 := ⟨ent_of Try.func56 (by kernel_rfl) (by kernel_rfl)⟩
instance : Ent Try.prog 57 := ⟨ent_of Try.func57 (by kernel_rfl) (by kernel_rfl)⟩
instance : Ent Try.prog 58 := ⟨ent_of Try.func58 (by kernel_rfl) (by kernel_rfl)⟩
instance : Ent Try.prog 59 := ⟨ent_of Try.func59 (by kernel_rfl) (by kernel_rfl)⟩
instance : Ent Try.prog 60 := ⟨ent_of Try.func60 (by kernel_rfl) (by kernel_rfl)⟩
instance : Ent Try.prog 61 := ⟨ent_of Try.func61 (by kernel_rfl) (by kernel_rfl)⟩
instance : Ent Try.prog 62 := ⟨ent_of Try.func62 (by kernel_rfl) (by kernel_rfl)⟩
instance : Ent Try.prog 63 := ⟨ent_of Try.func63 (by kernel_rfl) (by kernel_rfl)⟩
instance : Ent Try.prog 64 := ⟨ent_of Try.func64 (by kernel_rfl) (by kernel_rfl)⟩
instance : Ent Try.prog 65 := ⟨ent_of Try.func65 (by kernel_rfl) (by kernel_rfl)⟩
instance : Ent Try.prog 66 := ⟨ent_of Try.func66 (by kernel_rfl) (by kernel_rfl)⟩
instance : Ent Try.prog 67 := ⟨ent_of Try.func67 (by kernel_rfl) (by kernel_rfl)⟩
instance : Ent Try.prog 68 := ⟨ent_of Try.func68 (by kernel_rfl) (by kernel_rfl)⟩
instance : Ent Try.prog 69 := ⟨ent_of Try.func69 (by kernel_rfl) (by kernel_rfl)⟩
instance : Ent Try.prog 70 := ⟨ent_of Try.func70 (by kernel_rfl) (by kernel_rfl)⟩
instance : Ent Try.prog 71 := ⟨ent_of Try.func71 (by kernel_rfl) (by kernel_rfl)⟩
instance : Mixed Try.prog := ⟨by kernel_rfl⟩
theorem eqs32 : EqS Try.prog 32 := ⟨by kernel_rfl, by kernel_rfl, by kernel_rfl⟩
theorem eqs34 : EqS Try.prog 34 := ⟨by kernel_rfl, by kernel_rfl, by kernel_rfl⟩
theorem eqs72 : EqS Try.prog 72 := ⟨by kernel_rfl, by kernel_rfl, by kernel_rfl⟩
theorem eqs79 : EqS Try.prog 79 := ⟨by kernel_rfl, by kernel_rfl, by kernel_rfl⟩
instance : EqAll Try.prog [32, 34, 72, 79] := ⟨eqs_cons eqs32 <| eqs_cons eqs34 <| eqs_cons eqs72 <| eqs_cons eqs79 <| eqs_nil⟩
end R41
end Go.Proofs
