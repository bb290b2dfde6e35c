/- The seat's types and functions, as the engine wants them. Printed by gen_ty.py. -/
import Derived.Test.YtfebhegaomdcoaaProg
import Derived.Test.YtfebhegaomdcoaaEng11
set_option linter.unusedSectionVars false
set_option linter.unusedVariables false
set_option linter.unusedSimpArgs false
namespace Go.Proofs
open Go.Kin
namespace R21
/-- 2 int64 · 3 int · 4 bool · 5 uint8 · 9 string · 12 uintptr · 13 struct { msg string; addr uintptr } · 19 maps.unhashableTypeError · 20 interface {} · 21 int32 · 22 struct { Lo int; Hi int } · 23 api.Range · 25 api.Errno · 30 struct { N int; D int } · 31 api.Ratio · 43 []kinespherelaw21.result · 44 [2]api.Range · 45 [][2]api.Range · 46 struct { x api.Range; e api.Errno } · 47 kinespherelaw21.result · 55 []int · 57 iter.Seq2[int,bool] · 61 uint64 · 69 []api.Range · 71 [2]int · 72 uint · 75 interface { Error() string } · 76 error · 81 iter.Seq[uint] · 91 uint32 · 95 *uint8 -/
def tt : List (TypeId × TI) := [
  (2, ⟨.int .i64, 1, 8, .int .i64 (0)⟩),
  (3, ⟨.int .i64, 1, 8, .int .i64 (0)⟩),
  (4, ⟨.bool, 1, 1, .bool false⟩),
  (5, ⟨.int .u8, 1, 1, .int .u8 (0)⟩),
  (9, ⟨.str, 1, 16, .string ⟨#[]⟩⟩),
  (12, ⟨.int .u64, 1, 8, .int .u64 (0)⟩),
  (13, ⟨.struct [(9, 0), (12, 1)], 2, 24, .agg ⟨[.string ⟨#[]⟩, .int .u64 (0)]⟩⟩),
  (19, ⟨.struct [(17, 0)], 1, 8, .agg ⟨[.pointer none]⟩⟩),
  (20, ⟨.other, 1, 16, .nilIface⟩),
  (21, ⟨.int .i32, 1, 4, .int .i32 (0)⟩),
  (22, ⟨.struct [(3, 0), (3, 1)], 2, 16, .agg ⟨[.int .i64 (0), .int .i64 (0)]⟩⟩),
  (23, ⟨.struct [(3, 0), (3, 1)], 2, 16, .agg ⟨[.int .i64 (0), .int .i64 (0)]⟩⟩),
  (25, ⟨.int .i64, 1, 8, .int .i64 (0)⟩),
  (30, ⟨.struct [(3, 0), (3, 1)], 2, 16, .agg ⟨[.int .i64 (0), .int .i64 (0)]⟩⟩),
  (31, ⟨.struct [(3, 0), (3, 1)], 2, 16, .agg ⟨[.int .i64 (0), .int .i64 (0)]⟩⟩),
  (43, ⟨.slice 47, 1, 24, .slice none 0 0⟩),
  (44, ⟨.array 2 23, 4, 32, .agg ⟨flat 2 fun _ => [.int .i64 (0), .int .i64 (0)]⟩⟩),
  (45, ⟨.slice 44, 1, 24, .slice none 0 0⟩),
  (46, ⟨.struct [(23, 0), (25, 2)], 3, 24, .agg ⟨[.int .i64 (0), .int .i64 (0), .int .i64 (0)]⟩⟩),
  (47, ⟨.struct [(23, 0), (25, 2)], 3, 24, .agg ⟨[.int .i64 (0), .int .i64 (0), .int .i64 (0)]⟩⟩),
  (55, ⟨.slice 3, 1, 24, .slice none 0 0⟩),
  (57, ⟨.other, 1, 8, .nilFunc⟩),
  (61, ⟨.int .u64, 1, 8, .int .u64 (0)⟩),
  (69, ⟨.slice 23, 1, 24, .slice none 0 0⟩),
  (71, ⟨.array 2 3, 2, 16, .agg ⟨[.int .i64 (0), .int .i64 (0)]⟩⟩),
  (72, ⟨.int .u64, 1, 8, .int .u64 (0)⟩),
  (75, ⟨.other, 1, 16, .nilIface⟩),
  (76, ⟨.other, 1, 16, .nilIface⟩),
  (81, ⟨.other, 1, 8, .nilFunc⟩),
  (91, ⟨.int .u32, 1, 4, .int .u32 (0)⟩),
  (95, ⟨.other, 1, 8, .pointer none⟩)]
theorem ti2 : TIOk Try.prog 2 ⟨.int .i64, 1, 8, .int .i64 (0)⟩ := ti_mk (show Try.prog.underlying 2 = some (.int .i64) by kernel_rfl) (by kernel_rfl)
theorem ti3 : TIOk Try.prog 3 ⟨.int .i64, 1, 8, .int .i64 (0)⟩ := ti_mk (show Try.prog.underlying 3 = some (.int .i64) by kernel_rfl) (by kernel_rfl)
theorem ti4 : TIOk Try.prog 4 ⟨.bool, 1, 1, .bool false⟩ := ti_mk (show Try.prog.underlying 4 = some (.bool) by kernel_rfl) (by kernel_rfl)
theorem ti5 : TIOk Try.prog 5 ⟨.int .u8, 1, 1, .int .u8 (0)⟩ := ti_mk (show Try.prog.underlying 5 = some (.int .u8) by kernel_rfl) (by kernel_rfl)
theorem ti9 : TIOk Try.prog 9 ⟨.str, 1, 16, .string ⟨#[]⟩⟩ := ti_mk (show Try.prog.underlying 9 = some (.string) by kernel_rfl) (by kernel_rfl)
theorem ti12 : TIOk Try.prog 12 ⟨.int .u64, 1, 8, .int .u64 (0)⟩ := ti_mk (show Try.prog.underlying 12 = some (.int .u64) by kernel_rfl) (by kernel_rfl)
theorem ti13 : TIOk Try.prog 13 ⟨.struct [(9, 0), (12, 1)], 2, 24, .agg ⟨[.string ⟨#[]⟩, .int .u64 (0)]⟩⟩ := ti_mk (tk_struct (by kernel_rfl)) (by kernel_rfl)
theorem ti19 : TIOk Try.prog 19 ⟨.struct [(17, 0)], 1, 8, .agg ⟨[.pointer none]⟩⟩ := ti_mk (tk_struct (by kernel_rfl)) (by kernel_rfl)
theorem ti20 : TIOk Try.prog 20 ⟨.other, 1, 16, .nilIface⟩ := ti_mk (tk_other (by kernel_rfl)) (by kernel_rfl)
theorem ti21 : TIOk Try.prog 21 ⟨.int .i32, 1, 4, .int .i32 (0)⟩ := ti_mk (show Try.prog.underlying 21 = some (.int .i32) by kernel_rfl) (by kernel_rfl)
theorem ti22 : TIOk Try.prog 22 ⟨.struct [(3, 0), (3, 1)], 2, 16, .agg ⟨[.int .i64 (0), .int .i64 (0)]⟩⟩ := ti_mk (tk_struct (by kernel_rfl)) (by kernel_rfl)
theorem ti23 : TIOk Try.prog 23 ⟨.struct [(3, 0), (3, 1)], 2, 16, .agg ⟨[.int .i64 (0), .int .i64 (0)]⟩⟩ := ti_mk (tk_struct (by kernel_rfl)) (by kernel_rfl)
theorem ti25 : TIOk Try.prog 25 ⟨.int .i64, 1, 8, .int .i64 (0)⟩ := ti_mk (show Try.prog.underlying 25 = some (.int .i64) by kernel_rfl) (by kernel_rfl)
theorem ti30 : TIOk Try.prog 30 ⟨.struct [(3, 0), (3, 1)], 2, 16, .agg ⟨[.int .i64 (0), .int .i64 (0)]⟩⟩ := ti_mk (tk_struct (by kernel_rfl)) (by kernel_rfl)
theorem ti31 : TIOk Try.prog 31 ⟨.struct [(3, 0), (3, 1)], 2, 16, .agg ⟨[.int .i64 (0), .int .i64 (0)]⟩⟩ := ti_mk (tk_struct (by kernel_rfl)) (by kernel_rfl)
theorem ti43 : TIOk Try.prog 43 ⟨.slice 47, 1, 24, .slice none 0 0⟩ := ti_mk (show Try.prog.underlying 43 = some (.slice 47) by kernel_rfl) (by kernel_rfl)
theorem ti44 : TIOk Try.prog 44 ⟨.array 2 23, 4, 32, .agg ⟨flat 2 fun _ => [.int .i64 (0), .int .i64 (0)]⟩⟩ := ti_mk (show Try.prog.underlying 44 = some (.array 2 23) by kernel_rfl) (by kernel_rfl)
theorem ti45 : TIOk Try.prog 45 ⟨.slice 44, 1, 24, .slice none 0 0⟩ := ti_mk (show Try.prog.underlying 45 = some (.slice 44) by kernel_rfl) (by kernel_rfl)
theorem ti46 : TIOk Try.prog 46 ⟨.struct [(23, 0), (25, 2)], 3, 24, .agg ⟨[.int .i64 (0), .int .i64 (0), .int .i64 (0)]⟩⟩ := ti_mk (tk_struct (by kernel_rfl)) (by kernel_rfl)
theorem ti47 : TIOk Try.prog 47 ⟨.struct [(23, 0), (25, 2)], 3, 24, .agg ⟨[.int .i64 (0), .int .i64 (0), .int .i64 (0)]⟩⟩ := ti_mk (tk_struct (by kernel_rfl)) (by kernel_rfl)
theorem ti55 : TIOk Try.prog 55 ⟨.slice 3, 1, 24, .slice none 0 0⟩ := ti_mk (show Try.prog.underlying 55 = some (.slice 3) by kernel_rfl) (by kernel_rfl)
theorem ti57 : TIOk Try.prog 57 ⟨.other, 1, 8, .nilFunc⟩ := ti_mk (tk_other (by kernel_rfl)) (by kernel_rfl)
theorem ti61 : TIOk Try.prog 61 ⟨.int .u64, 1, 8, .int .u64 (0)⟩ := ti_mk (show Try.prog.underlying 61 = some (.int .u64) by kernel_rfl) (by kernel_rfl)
theorem ti69 : TIOk Try.prog 69 ⟨.slice 23, 1, 24, .slice none 0 0⟩ := ti_mk (show Try.prog.underlying 69 = some (.slice 23) by kernel_rfl) (by kernel_rfl)
theorem ti71 : TIOk Try.prog 71 ⟨.array 2 3, 2, 16, .agg ⟨[.int .i64 (0), .int .i64 (0)]⟩⟩ := ti_mk (show Try.prog.underlying 71 = some (.array 2 3) by kernel_rfl) (by kernel_rfl)
theorem ti72 : TIOk Try.prog 72 ⟨.int .u64, 1, 8, .int .u64 (0)⟩ := ti_mk (show Try.prog.underlying 72 = some (.int .u64) by kernel_rfl) (by kernel_rfl)
theorem ti75 : TIOk Try.prog 75 ⟨.other, 1, 16, .nilIface⟩ := ti_mk (tk_other (by kernel_rfl)) (by kernel_rfl)
theorem ti76 : TIOk Try.prog 76 ⟨.other, 1, 16, .nilIface⟩ := ti_mk (tk_other (by kernel_rfl)) (by kernel_rfl)
theorem ti81 : TIOk Try.prog 81 ⟨.other, 1, 8, .nilFunc⟩ := ti_mk (tk_other (by kernel_rfl)) (by kernel_rfl)
theorem ti91 : TIOk Try.prog 91 ⟨.int .u32, 1, 4, .int .u32 (0)⟩ := ti_mk (show Try.prog.underlying 91 = some (.int .u32) by kernel_rfl) (by kernel_rfl)
theorem ti95 : TIOk Try.prog 95 ⟨.other, 1, 8, .pointer none⟩ := ti_mk (tk_other (by kernel_rfl)) (by kernel_rfl)
instance : TT Try.prog tt := ⟨tt_cons ti2 <| tt_cons ti3 <| tt_cons ti4 <| tt_cons ti5 <| tt_cons ti9 <| tt_cons ti12 <| tt_cons ti13 <| tt_cons ti19 <| tt_cons ti20 <| tt_cons ti21 <| tt_cons ti22 <| tt_cons ti23 <| tt_cons ti25 <| tt_cons ti30 <| tt_cons ti31 <| tt_cons ti43 <| tt_cons ti44 <| tt_cons ti45 <| tt_cons ti46 <| tt_cons ti47 <| tt_cons ti55 <| tt_cons ti57 <| tt_cons ti61 <| tt_cons ti69 <| tt_cons ti71 <| tt_cons ti72 <| tt_cons ti75 <| tt_cons ti76 <| tt_cons ti81 <| tt_cons ti91 <| tt_cons ti95 <| tt_nil⟩
instance : Ent Try.prog 2 := ⟨ent_of Try.func2 (by kernel_rfl) (by kernel_rfl)⟩
instance : Ent Try.prog 3 := ⟨ent_of Try.func3 (by kernel_rfl) (by kernel_rfl)⟩
instance : Ent Try.prog 4 := ⟨ent_of Try.func4 (by kernel_rfl) (by kernel_rfl)⟩
instance : Ent Try.prog 5 := ⟨ent_of Try.func5 (by kernel_rfl) (by kernel_rfl)⟩
instance : Ent Try.prog 6 := ⟨ent_of Try.func6 (by kernel_rfl) (by kernel_rfl)⟩
instance : Ent Try.prog 7 := ⟨ent_of Try.func7 (by kernel_rfl) (by kernel_rfl)⟩
instance : Ent Try.prog 8 := ⟨ent_of Try.func8 (by kernel_rfl) (by kernel_rfl)⟩
instance : Ent Try.prog 9 := ⟨ent_of Try.func9 (by kernel_rfl) (by kernel_rfl)⟩
instance : Ent Try.prog 10 := ⟨ent_of Try.func10 (by kernel_rfl) (by kernel_rfl)⟩
instance : Ent Try.prog 11 := ⟨ent_of Try.func11 (by kernel_rfl) (by kernel_rfl)⟩
instance : Ent Try.prog 12 := ⟨ent_of Try.func12 (by kernel_rfl) (by kernel_rfl)⟩
instance : Ent Try.prog 13 := ⟨ent_of Try.func13 (by kernel_rfl) (by kernel_rfl)⟩
instance : Ent Try.prog 14 := ⟨ent_of Try.func14 (by kernel_rfl) (by kernel_rfl)⟩
instance : Ent Try.prog 15 := ⟨ent_of Try.func15 (by kernel_rfl) (by kernel_rfl)⟩
instance : Ent Try.prog 16 := ⟨ent_of Try.func16 (by kernel_rfl) (by kernel_rfl)⟩
instance : Ent Try.prog 17 := ⟨ent_of Try.func17 (by kernel_rfl) (by kernel_rfl)⟩
instance : Ent Try.prog 18 := ⟨ent_of Try.func18 (by kernel_rfl) (by kernel_rfl)⟩
instance : Ent Try.prog 19 := ⟨ent_of Try.func19 (by kernel_rfl) (by kernel_rfl)⟩
instance : Ent Try.prog 20 := ⟨ent_of Try.func20 (by kernel_rfl) (by kernel_rfl)⟩
instance : Ent Try.prog 21 := ⟨ent_of Try.func21 (by kernel_rfl) (by kernel_rfl)⟩
instance : Ent Try.prog 22 := ⟨ent_of Try.func22 (by kernel_rfl) (by kernel_rfl)⟩
instance : Ent Try.prog 23 := ⟨ent_of Try.func23 (by kernel_rfl) (by kernel_rfl)⟩
instance : Ent Try.prog 24 := ⟨ent_of Try.func24 (by kernel_rfl) (by kernel_rfl)⟩
instance : Ent Try.prog 25 := ⟨ent_of Try.func25 (by kernel_rfl) (by kernel_rfl)⟩
instance : Ent Try.prog 26 := ⟨ent_of Try.func26 (by kernel_rfl) (by kernel_rfl)⟩
instance : Ent Try.prog 27 := ⟨ent_of Try.func27 (by kernel_rfl) (by kernel_rfl)⟩
instance : Ent Try.prog 28 := ⟨ent_of Try.func28 (by kernel_rfl) (by kernel_rfl)⟩
instance : Ent Try.prog 29 := ⟨ent_of Try.func29 (by kernel_rfl) (by kernel_rfl)⟩
instance : Ent Try.prog 30 := ⟨ent_of Try.func30 (by kernel_rfl) (by kernel_rfl)⟩
instance : Ent Try.prog 31 := ⟨ent_of Try.func31 (by kernel_rfl) (by kernel_rfl)⟩
instance : Ent Try.prog 32 := ⟨ent_of Try.func32 (by kernel_rfl) (by kernel_rfl)⟩
instance : Ent Try.prog 33 := ⟨ent_of Try.func33 (by kernel_rfl) (by kernel_rfl)⟩
instance : Ent Try.prog 34 := ⟨ent_of Try.func34 (by kernel_rfl) (by kernel_rfl)⟩
instance : Ent Try.prog 35 := ⟨ent_of Try.func35 (by kernel_rfl) (by kernel_rfl)⟩
instance : Ent Try.prog 36 := ⟨ent_of Try.func36 (by kernel_rfl) (by kernel_rfl)⟩
instance : Ent Try.prog 37 := ⟨ent_of Try.func37 (by kernel_rfl) (by kernel_rfl)⟩
instance : Ent Try.prog 38 := ⟨ent_of Try.func38 (by kernel_rfl) (by kernel_rfl)⟩
instance : Ent Try.prog 39 := ⟨ent_of Try.func39 (by kernel_rfl) (by kernel_rfl)⟩
instance : Ent Try.prog 40 := ⟨ent_of Try.func40 (by kernel_rfl) (by kernel_rfl)⟩
instance : Ent Try.prog 41 := ⟨ent_of Try.func41 (by kernel_rfl) (by kernel_rfl)⟩
instance : Ent Try.prog 42 := ⟨ent_of Try.func42 (by kernel_rfl) (by kernel_rfl)⟩
instance : Ent Try.prog 43 := ⟨ent_of Try.func43 (by kernel_rfl) (by kernel_rfl)⟩
instance : Ent Try.prog 44 := ⟨ent_of Try.func44 (by kernel_rfl) (by kernel_rfl)⟩
instance : Ent Try.prog 45 := ⟨ent_of Try.func45 (by kernel_rfl) (by kernel_rfl)⟩
instance : Ent Try.prog 46 := ⟨ent_of Try.func46 (by kernel_rfl) (by kernel_rfl)⟩
instance : Ent Try.prog 47 := ⟨ent_of Try.func47 (by kernel_rfl) (by kernel_rfl)⟩
instance : Ent Try.prog 48 := ⟨ent_of Try.func48 (by kernel_rfl) (by kernel_rfl)⟩
instance : Ent Try.prog 49 := ⟨ent_of Try.func49 (by kernel_rfl) (by kernel_rfl)⟩
instance : Ent Try.prog 50 := ⟨ent_of Try.func50 (by kernel_rfl) (by kernel_rfl)⟩
instance : Ent Try.prog 51 := ⟨ent_of Try.func51 (by kernel_rfl) (by kernel_rfl)⟩
instance : Ent Try.prog 52 := ⟨ent_of Try.func52 (by kernel_rfl) (by kernel_rfl)⟩
instance : Ent Try.prog 53 := ⟨ent_of Try.func53 (by kernel_rfl) (by kernel_rfl)⟩
instance : Ent Try.prog 54 := ⟨ent_of Try.func54 (by kernel_rfl) (by kernel_rfl)⟩
instance : Ent Try.prog 55 := ⟨ent_of Try.func55 (by kernel_rfl) (by kernel_rfl)⟩
instance : Ent Try.prog 56 := ⟨ent_of Try.func56 (by kernel_rfl) (by kernel_rfl)⟩
instance : Ent Try.prog 57 := ⟨ent_of Try.func57 (by kernel_rfl) (by kernel_rfl)⟩
instance : Ent Try.prog 58 := ⟨ent_of Try.func58 (by kernel_rfl) (by kernel_rfl)⟩
instance : Ent Try.prog 59 := ⟨ent_of Try.func59 (by kernel_rfl) (by kernel_rfl)⟩
instance : Ent Try.prog 60 := ⟨ent_of Try.func60 (by kernel_rfl) (by kernel_rfl)⟩
instance : Ent Try.prog 61 := ⟨ent_of Try.func61 (by kernel_rfl) (by kernel_rfl)⟩
instance : Ent Try.prog 62 := ⟨ent_of Try.func62 (by kernel_rfl) (by kernel_rfl)⟩
instance : Mixed Try.prog := ⟨by kernel_rfl⟩
theorem eqs23 : EqS Try.prog 23 := ⟨by kernel_rfl, by kernel_rfl, by kernel_rfl⟩
theorem eqs31 : EqS Try.prog 31 := ⟨by kernel_rfl, by kernel_rfl, by kernel_rfl⟩
theorem eqs47 : EqS Try.prog 47 := ⟨by kernel_rfl, by kernel_rfl, by kernel_rfl⟩
instance : EqAll Try.prog [23, 31, 47] := ⟨eqs_cons eqs23 <| eqs_cons eqs31 <| eqs_cons eqs47 <| eqs_nil⟩
end R21
end Go.Proofs
