/- The seat's types and functions, as the engine wants them. Printed by gen_ty.py. -/
import Derived.Test.YtjagcijgfmclhaaProg
import Derived.Test.YtjagcijgfmclhaaEng11
set_option linter.unusedSectionVars false
set_option linter.unusedVariables false
set_option linter.unusedSimpArgs false
namespace Go.Proofs
open Go.Kin
namespace R13
/-- 2 int64 · 3 int · 4 bool · 5 uint8 · 9 string · 12 uintptr · 13 struct { msg string; addr uintptr } · 19 maps.unhashableTypeError · 20 interface {} · 21 int32 · 22 []api.Tempo · 23 []api.Pause · 24 []api.Constraint · 25 struct { Bars int; Tempos []api.Tempo; Pauses []api.Pause; Spans []api.Constraint } · 26 api.Clock · 29 api.Errno · 32 struct { Lo int; Hi int } · 33 api.Range · 38 []int · 43 struct { N int; D int } · 44 api.Ratio · 52 struct { Bar int; Kind int; Lo int; Hi int } · 53 api.Pause · 56 struct { Bar int; Ticks int; Step int } · 57 api.Tempo · 68 iter.Seq[kinesphere/tempo.part] · 70 struct { bar int; begin int; end int; playing bool } · 71 tempo.part · 77 struct { From int; To int; Lo int; Hi int } · 78 api.Constraint · 80 uint · 86 iter.Seq[uint] · 96 uint32 · 100 *uint8 -/
def tt : List (TypeId × TI) := [
  (2, ⟨.int .i64, 1, 8, .int .i64 (0)⟩),
  (3, ⟨.int .i64, 1, 8, .int .i64 (0)⟩),
  (4, ⟨.bool, 1, 1, .bool false⟩),
  (5, ⟨.int .u8, 1, 1, .int .u8 (0)⟩),
  (9, ⟨.str, 1, 16, .string ⟨#[]⟩⟩),
  (12, ⟨.int .u64, 1, 8, .int .u64 (0)⟩),
  (13, ⟨.struct [(9, 0), (12, 1)], 2, 24, .agg ⟨[.string ⟨#[]⟩, .int .u64 (0)]⟩⟩),
  (19, ⟨.struct [(17, 0)], 1, 8, .agg ⟨[.pointer none]⟩⟩),
  (20, ⟨.other, 1, 16, .nilIface⟩),
  (21, ⟨.int .i32, 1, 4, .int .i32 (0)⟩),
  (22, ⟨.slice 57, 1, 24, .slice none 0 0⟩),
  (23, ⟨.slice 53, 1, 24, .slice none 0 0⟩),
  (24, ⟨.slice 78, 1, 24, .slice none 0 0⟩),
  (25, ⟨.struct [(3, 0), (22, 1), (23, 2), (24, 3)], 4, 80, .agg ⟨[.int .i64 (0), .slice none 0 0, .slice none 0 0, .slice none 0 0]⟩⟩),
  (26, ⟨.struct [(3, 0), (22, 1), (23, 2), (24, 3)], 4, 80, .agg ⟨[.int .i64 (0), .slice none 0 0, .slice none 0 0, .slice none 0 0]⟩⟩),
  (29, ⟨.int .i64, 1, 8, .int .i64 (0)⟩),
  (32, ⟨.struct [(3, 0), (3, 1)], 2, 16, .agg ⟨[.int .i64 (0), .int .i64 (0)]⟩⟩),
  (33, ⟨.struct [(3, 0), (3, 1)], 2, 16, .agg ⟨[.int .i64 (0), .int .i64 (0)]⟩⟩),
  (38, ⟨.slice 3, 1, 24, .slice none 0 0⟩),
  (43, ⟨.struct [(3, 0), (3, 1)], 2, 16, .agg ⟨[.int .i64 (0), .int .i64 (0)]⟩⟩),
  (44, ⟨.struct [(3, 0), (3, 1)], 2, 16, .agg ⟨[.int .i64 (0), .int .i64 (0)]⟩⟩),
  (52, ⟨.struct [(3, 0), (3, 1), (3, 2), (3, 3)], 4, 32, .agg ⟨[.int .i64 (0), .int .i64 (0), .int .i64 (0), .int .i64 (0)]⟩⟩),
  (53, ⟨.struct [(3, 0), (3, 1), (3, 2), (3, 3)], 4, 32, .agg ⟨[.int .i64 (0), .int .i64 (0), .int .i64 (0), .int .i64 (0)]⟩⟩),
  (56, ⟨.struct [(3, 0), (3, 1), (3, 2)], 3, 24, .agg ⟨[.int .i64 (0), .int .i64 (0), .int .i64 (0)]⟩⟩),
  (57, ⟨.struct [(3, 0), (3, 1), (3, 2)], 3, 24, .agg ⟨[.int .i64 (0), .int .i64 (0), .int .i64 (0)]⟩⟩),
  (68, ⟨.other, 1, 8, .nilFunc⟩),
  (70, ⟨.struct [(3, 0), (3, 1), (3, 2), (4, 3)], 4, 32, .agg ⟨[.int .i64 (0), .int .i64 (0), .int .i64 (0), .bool false]⟩⟩),
  (71, ⟨.struct [(3, 0), (3, 1), (3, 2), (4, 3)], 4, 32, .agg ⟨[.int .i64 (0), .int .i64 (0), .int .i64 (0), .bool false]⟩⟩),
  (77, ⟨.struct [(3, 0), (3, 1), (3, 2), (3, 3)], 4, 32, .agg ⟨[.int .i64 (0), .int .i64 (0), .int .i64 (0), .int .i64 (0)]⟩⟩),
  (78, ⟨.struct [(3, 0), (3, 1), (3, 2), (3, 3)], 4, 32, .agg ⟨[.int .i64 (0), .int .i64 (0), .int .i64 (0), .int .i64 (0)]⟩⟩),
  (80, ⟨.int .u64, 1, 8, .int .u64 (0)⟩),
  (86, ⟨.other, 1, 8, .nilFunc⟩),
  (96, ⟨.int .u32, 1, 4, .int .u32 (0)⟩),
  (100, ⟨.other, 1, 8, .pointer none⟩)]
theorem ti2 : TIOk Try.prog 2 ⟨.int .i64, 1, 8, .int .i64 (0)⟩ := ti_mk (show Try.prog.underlying 2 = some (.int .i64) by kernel_rfl) (by kernel_rfl)
theorem ti3 : TIOk Try.prog 3 ⟨.int .i64, 1, 8, .int .i64 (0)⟩ := ti_mk (show Try.prog.underlying 3 = some (.int .i64) by kernel_rfl) (by kernel_rfl)
theorem ti4 : TIOk Try.prog 4 ⟨.bool, 1, 1, .bool false⟩ := ti_mk (show Try.prog.underlying 4 = some (.bool) by kernel_rfl) (by kernel_rfl)
theorem ti5 : TIOk Try.prog 5 ⟨.int .u8, 1, 1, .int .u8 (0)⟩ := ti_mk (show Try.prog.underlying 5 = some (.int .u8) by kernel_rfl) (by kernel_rfl)
theorem ti9 : TIOk Try.prog 9 ⟨.str, 1, 16, .string ⟨#[]⟩⟩ := ti_mk (show Try.prog.underlying 9 = some (.string) by kernel_rfl) (by kernel_rfl)
theorem ti12 : TIOk Try.prog 12 ⟨.int .u64, 1, 8, .int .u64 (0)⟩ := ti_mk (show Try.prog.underlying 12 = some (.int .u64) by kernel_rfl) (by kernel_rfl)
theorem ti13 : TIOk Try.prog 13 ⟨.struct [(9, 0), (12, 1)], 2, 24, .agg ⟨[.string ⟨#[]⟩, .int .u64 (0)]⟩⟩ := ti_mk (tk_struct (by kernel_rfl)) (by kernel_rfl)
theorem ti19 : TIOk Try.prog 19 ⟨.struct [(17, 0)], 1, 8, .agg ⟨[.pointer none]⟩⟩ := ti_mk (tk_struct (by kernel_rfl)) (by kernel_rfl)
theorem ti20 : TIOk Try.prog 20 ⟨.other, 1, 16, .nilIface⟩ := ti_mk (tk_other (by kernel_rfl)) (by kernel_rfl)
theorem ti21 : TIOk Try.prog 21 ⟨.int .i32, 1, 4, .int .i32 (0)⟩ := ti_mk (show Try.prog.underlying 21 = some (.int .i32) by kernel_rfl) (by kernel_rfl)
theorem ti22 : TIOk Try.prog 22 ⟨.slice 57, 1, 24, .slice none 0 0⟩ := ti_mk (show Try.prog.underlying 22 = some (.slice 57) by kernel_rfl) (by kernel_rfl)
theorem ti23 : TIOk Try.prog 23 ⟨.slice 53, 1, 24, .slice none 0 0⟩ := ti_mk (show Try.prog.underlying 23 = some (.slice 53) by kernel_rfl) (by kernel_rfl)
theorem ti24 : TIOk Try.prog 24 ⟨.slice 78, 1, 24, .slice none 0 0⟩ := ti_mk (show Try.prog.underlying 24 = some (.slice 78) by kernel_rfl) (by kernel_rfl)
theorem ti25 : TIOk Try.prog 25 ⟨.struct [(3, 0), (22, 1), (23, 2), (24, 3)], 4, 80, .agg ⟨[.int .i64 (0), .slice none 0 0, .slice none 0 0, .slice none 0 0]⟩⟩ := ti_mk (tk_struct (by kernel_rfl)) (by kernel_rfl)
theorem ti26 : TIOk Try.prog 26 ⟨.struct [(3, 0), (22, 1), (23, 2), (24, 3)], 4, 80, .agg ⟨[.int .i64 (0), .slice none 0 0, .slice none 0 0, .slice none 0 0]⟩⟩ := ti_mk (tk_struct (by kernel_rfl)) (by kernel_rfl)
theorem ti29 : TIOk Try.prog 29 ⟨.int .i64, 1, 8, .int .i64 (0)⟩ := ti_mk (show Try.prog.underlying 29 = some (.int .i64) by kernel_rfl) (by kernel_rfl)
theorem ti32 : TIOk Try.prog 32 ⟨.struct [(3, 0), (3, 1)], 2, 16, .agg ⟨[.int .i64 (0), .int .i64 (0)]⟩⟩ := ti_mk (tk_struct (by kernel_rfl)) (by kernel_rfl)
theorem ti33 : TIOk Try.prog 33 ⟨.struct [(3, 0), (3, 1)], 2, 16, .agg ⟨[.int .i64 (0), .int .i64 (0)]⟩⟩ := ti_mk (tk_struct (by kernel_rfl)) (by kernel_rfl)
theorem ti38 : TIOk Try.prog 38 ⟨.slice 3, 1, 24, .slice none 0 0⟩ := ti_mk (show Try.prog.underlying 38 = some (.slice 3) by kernel_rfl) (by kernel_rfl)
theorem ti43 : TIOk Try.prog 43 ⟨.struct [(3, 0), (3, 1)], 2, 16, .agg ⟨[.int .i64 (0), .int .i64 (0)]⟩⟩ := ti_mk (tk_struct (by kernel_rfl)) (by kernel_rfl)
theorem ti44 : TIOk Try.prog 44 ⟨.struct [(3, 0), (3, 1)], 2, 16, .agg ⟨[.int .i64 (0), .int .i64 (0)]⟩⟩ := ti_mk (tk_struct (by kernel_rfl)) (by kernel_rfl)
theorem ti52 : TIOk Try.prog 52 ⟨.struct [(3, 0), (3, 1), (3, 2), (3, 3)], 4, 32, .agg ⟨[.int .i64 (0), .int .i64 (0), .int .i64 (0), .int .i64 (0)]⟩⟩ := ti_mk (tk_struct (by kernel_rfl)) (by kernel_rfl)
theorem ti53 : TIOk Try.prog 53 ⟨.struct [(3, 0), (3, 1), (3, 2), (3, 3)], 4, 32, .agg ⟨[.int .i64 (0), .int .i64 (0), .int .i64 (0), .int .i64 (0)]⟩⟩ := ti_mk (tk_struct (by kernel_rfl)) (by kernel_rfl)
theorem ti56 : TIOk Try.prog 56 ⟨.struct [(3, 0), (3, 1), (3, 2)], 3, 24, .agg ⟨[.int .i64 (0), .int .i64 (0), .int .i64 (0)]⟩⟩ := ti_mk (tk_struct (by kernel_rfl)) (by kernel_rfl)
theorem ti57 : TIOk Try.prog 57 ⟨.struct [(3, 0), (3, 1), (3, 2)], 3, 24, .agg ⟨[.int .i64 (0), .int .i64 (0), .int .i64 (0)]⟩⟩ := ti_mk (tk_struct (by kernel_rfl)) (by kernel_rfl)
theorem ti68 : TIOk Try.prog 68 ⟨.other, 1, 8, .nilFunc⟩ := ti_mk (tk_other (by kernel_rfl)) (by kernel_rfl)
theorem ti70 : TIOk Try.prog 70 ⟨.struct [(3, 0), (3, 1), (3, 2), (4, 3)], 4, 32, .agg ⟨[.int .i64 (0), .int .i64 (0), .int .i64 (0), .bool false]⟩⟩ := ti_mk (tk_struct (by kernel_rfl)) (by kernel_rfl)
theorem ti71 : TIOk Try.prog 71 ⟨.struct [(3, 0), (3, 1), (3, 2), (4, 3)], 4, 32, .agg ⟨[.int .i64 (0), .int .i64 (0), .int .i64 (0), .bool false]⟩⟩ := ti_mk (tk_struct (by kernel_rfl)) (by kernel_rfl)
theorem ti77 : TIOk Try.prog 77 ⟨.struct [(3, 0), (3, 1), (3, 2), (3, 3)], 4, 32, .agg ⟨[.int .i64 (0), .int .i64 (0), .int .i64 (0), .int .i64 (0)]⟩⟩ := ti_mk (tk_struct (by kernel_rfl)) (by kernel_rfl)
theorem ti78 : TIOk Try.prog 78 ⟨.struct [(3, 0), (3, 1), (3, 2), (3, 3)], 4, 32, .agg ⟨[.int .i64 (0), .int .i64 (0), .int .i64 (0), .int .i64 (0)]⟩⟩ := ti_mk (tk_struct (by kernel_rfl)) (by kernel_rfl)
theorem ti80 : TIOk Try.prog 80 ⟨.int .u64, 1, 8, .int .u64 (0)⟩ := ti_mk (show Try.prog.underlying 80 = some (.int .u64) by kernel_rfl) (by kernel_rfl)
theorem ti86 : TIOk Try.prog 86 ⟨.other, 1, 8, .nilFunc⟩ := ti_mk (tk_other (by kernel_rfl)) (by kernel_rfl)
theorem ti96 : TIOk Try.prog 96 ⟨.int .u32, 1, 4, .int .u32 (0)⟩ := ti_mk (show Try.prog.underlying 96 = some (.int .u32) by kernel_rfl) (by kernel_rfl)
theorem ti100 : TIOk Try.prog 100 ⟨.other, 1, 8, .pointer none⟩ := ti_mk (tk_other (by kernel_rfl)) (by kernel_rfl)
instance : TT Try.prog tt := ⟨tt_cons ti2 <| tt_cons ti3 <| tt_cons ti4 <| tt_cons ti5 <| tt_cons ti9 <| tt_cons ti12 <| tt_cons ti13 <| tt_cons ti19 <| tt_cons ti20 <| tt_cons ti21 <| tt_cons ti22 <| tt_cons ti23 <| tt_cons ti24 <| tt_cons ti25 <| tt_cons ti26 <| tt_cons ti29 <| tt_cons ti32 <| tt_cons ti33 <| tt_cons ti38 <| tt_cons ti43 <| tt_cons ti44 <| tt_cons ti52 <| tt_cons ti53 <| tt_cons ti56 <| tt_cons ti57 <| tt_cons ti68 <| tt_cons ti70 <| tt_cons ti71 <| tt_cons ti77 <| tt_cons ti78 <| tt_cons ti80 <| tt_cons ti86 <| tt_cons ti96 <| tt_cons ti100 <| tt_nil⟩
instance : Ent Try.prog 2 := ⟨ent_of Try.func2 (by kernel_rfl) (by kernel_rfl)⟩
instance : Ent Try.prog 3 := ⟨ent_of Try.func3 (by kernel_rfl) (by kernel_rfl)⟩
instance : Ent Try.prog 4 := ⟨ent_of Try.func4 (by kernel_rfl) (by kernel_rfl)⟩
instance : Ent Try.prog 5 := ⟨ent_of Try.func5 (by kernel_rfl) (by kernel_rfl)⟩
instance : Ent Try.prog 6 := ⟨ent_of Try.func6 (by kernel_rfl) (by kernel_rfl)⟩
instance : Ent Try.prog 7 := ⟨ent_of Try.func7 (by kernel_rfl) (by kernel_rfl)⟩
instance : Ent Try.prog 8 := ⟨ent_of Try.func8 (by kernel_rfl) (by kernel_rfl)⟩
instance : Ent Try.prog 9 := ⟨ent_of Try.func9 (by kernel_rfl) (by kernel_rfl)⟩
instance : Ent Try.prog 10 := ⟨ent_of Try.func10 (by kernel_rfl) (by kernel_rfl)⟩
instance : Ent Try.prog 11 := ⟨ent_of Try.func11 (by kernel_rfl) (by kernel_rfl)⟩
instance : Ent Try.prog 12 := ⟨ent_of Try.func12 (by kernel_rfl) (by kernel_rfl)⟩
instance : Ent Try.prog 13 := ⟨ent_of Try.func13 (by kernel_rfl) (by kernel_rfl)⟩
instance : Ent Try.prog 14 := ⟨ent_of Try.func14 (by kernel_rfl) (by kernel_rfl)⟩
instance : Ent Try.prog 15 := ⟨ent_of Try.func15 (by kernel_rfl) (by kernel_rfl)⟩
instance : Ent Try.prog 16 := ⟨ent_of Try.func16 (by kernel_rfl) (by kernel_rfl)⟩
instance : Ent Try.prog 17 := ⟨ent_of Try.func17 (by kernel_rfl) (by kernel_rfl)⟩
instance : Ent Try.prog 18 := ⟨ent_of Try.func18 (by kernel_rfl) (by kernel_rfl)⟩
instance : Ent Try.prog 19 := ⟨ent_of Try.func19 (by kernel_rfl) (by kernel_rfl)⟩
instance : Ent Try.prog 20 := ⟨ent_of Try.func20 (by kernel_rfl) (by kernel_rfl)⟩
instance : Ent Try.prog 21 := ⟨ent_of Try.func21 (by kernel_rfl) (by kernel_rfl)⟩
instance : Ent Try.prog 22 := ⟨ent_of Try.func22 (by kernel_rfl) (by kernel_rfl)⟩
instance : Ent Try.prog 23 := ⟨ent_of Try.func23 (by kernel_rfl) (by kernel_rfl)⟩
instance : Ent Try.prog 24 := ⟨ent_of Try.func24 (by kernel_rfl) (by kernel_rfl)⟩
instance : Ent Try.prog 25 := ⟨ent_of Try.func25 (by kernel_rfl) (by kernel_rfl)⟩
instance : Ent Try.prog 26 := ⟨ent_of Try.func26 (by kernel_rfl) (by kernel_rfl)⟩
instance : Ent Try.prog 27 := ⟨ent_of Try.func27 (by kernel_rfl) (by kernel_rfl)⟩
instance : Ent Try.prog 28 := ⟨ent_of Try.func28 (by kernel_rfl) (by kernel_rfl)⟩
instance : Ent Try.prog 29 := ⟨ent_of Try.func29 (by kernel_rfl) (by kernel_rfl)⟩
instance : Ent Try.prog 30 := ⟨ent_of Try.func30 (by kernel_rfl) (by kernel_rfl)⟩
instance : Ent Try.prog 31 := ⟨ent_of Try.func31 (by kernel_rfl) (by kernel_rfl)⟩
instance : Ent Try.prog 32 := ⟨ent_of Try.func32 (by kernel_rfl) (by kernel_rfl)⟩
instance : Ent Try.prog 33 := ⟨ent_of Try.func33 (by kernel_rfl) (by kernel_rfl)⟩
instance : Ent Try.prog 34 := ⟨ent_of Try.func34 (by kernel_rfl) (by kernel_rfl)⟩
instance : Ent Try.prog 35 := ⟨ent_of Try.func35 (by kernel_rfl) (by kernel_rfl)⟩
instance : Ent Try.prog 36 := ⟨ent_of Try.func36 (by kernel_rfl) (by kernel_rfl)⟩
instance : Ent Try.prog 37 := ⟨ent_of Try.func37 (by kernel_rfl) (by kernel_rfl)⟩
instance : Ent Try.prog 38 := ⟨ent_of Try.func38 (by kernel_rfl) (by kernel_rfl)⟩
instance : Ent Try.prog 39 := ⟨ent_of Try.func39 (by kernel_rfl) (by kernel_rfl)⟩
instance : Ent Try.prog 40 := ⟨ent_of Try.func40 (by kernel_rfl) (by kernel_rfl)⟩
instance : Ent Try.prog 41 := ⟨ent_of Try.func41 (by kernel_rfl) (by kernel_rfl)⟩
instance : Ent Try.prog 42 := ⟨ent_of Try.func42 (by kernel_rfl) (by kernel_rfl)⟩
instance : Ent Try.prog 43 := ⟨ent_of Try.func43 (by kernel_rfl) (by kernel_rfl)⟩
instance : Ent Try.prog 44 := ⟨ent_of Try.func44 (by kernel_rfl) (by kernel_rfl)⟩
instance : Ent Try.prog 45 := ⟨ent_of Try.func45 (by kernel_rfl) (by kernel_rfl)⟩
instance : Ent Try.prog 46 := ⟨ent_of Try.func46 (by kernel_rfl) (by kernel_rfl)⟩
instance : Ent Try.prog 47 := ⟨ent_of Try.func47 (by kernel_rfl) (by kernel_rfl)⟩
instance : Ent Try.prog 48 := ⟨ent_of Try.func48 (by kernel_rfl) (by kernel_rfl)⟩
instance : Ent Try.prog 49 := ⟨ent_of Try.func49 (by kernel_rfl) (by kernel_rfl)⟩
instance : Ent Try.prog 50 := ⟨ent_of Try.func50 (by kernel_rfl) (by kernel_rfl)⟩
instance : Ent Try.prog 51 := ⟨ent_of Try.func51 (by kernel_rfl) (by kernel_rfl)⟩
instance : Ent Try.prog 52 := ⟨ent_of Try.func52 (by kernel_rfl) (by kernel_rfl)⟩
instance : Ent Try.prog 53 := ⟨ent_of Try.func53 (by kernel_rfl) (by kernel_rfl)⟩
instance : Ent Try.prog 54 := ⟨ent_of Try.func54 (by kernel_rfl) (by kernel_rfl)⟩
instance : Ent Try.prog 55 := ⟨ent_of Try.func55 (by kernel_rfl) (by kernel_rfl)⟩
instance : Ent Try.prog 56 := ⟨ent_of Try.func56 (by kernel_rfl) (by kernel_rfl)⟩
instance : Ent Try.prog 57 := ⟨ent_of Try.func57 (by kernel_rfl) (by kernel_rfl)⟩
instance : Ent Try.prog 58 := ⟨ent_of Try.func58 (by kernel_rfl) (by kernel_rfl)⟩
instance : Ent Try.prog 59 := ⟨ent_of Try.func59 (by kernel_rfl) (by kernel_rfl)⟩
instance : Mixed Try.prog := ⟨by kernel_rfl⟩
theorem eqs33 : EqS Try.prog 33 := ⟨by kernel_rfl, by kernel_rfl, by kernel_rfl⟩
theorem eqs44 : EqS Try.prog 44 := ⟨by kernel_rfl, by kernel_rfl, by kernel_rfl⟩
theorem eqs53 : EqS Try.prog 53 := ⟨by kernel_rfl, by kernel_rfl, by kernel_rfl⟩
theorem eqs57 : EqS Try.prog 57 := ⟨by kernel_rfl, by kernel_rfl, by kernel_rfl⟩
theorem eqs71 : EqS Try.prog 71 := ⟨by kernel_rfl, by kernel_rfl, by kernel_rfl⟩
theorem eqs78 : EqS Try.prog 78 := ⟨by kernel_rfl, by kernel_rfl, by kernel_rfl⟩
instance : EqAll Try.prog [33, 44, 53, 57, 71, 78] := ⟨eqs_cons eqs33 <| eqs_cons eqs44 <| eqs_cons eqs53 <| eqs_cons eqs57 <| eqs_cons eqs71 <| eqs_cons eqs78 <| eqs_nil⟩
end R13
end Go.Proofs
