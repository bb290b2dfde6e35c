/- Sorting lists of lists: the shelf's contract laid at this program. -/
import Derived.Test.YtdegengehbdelaaGreatDoorSeO
import Derived.Shelf.SlSortCmp.Whole1
set_option linter.unusedSectionVars false
set_option linter.unusedVariables false
set_option linter.unusedSimpArgs false
namespace Go.Proofs
open Go.RowKit Go.Kin Go.Kin.Se Go.Kin.Cl Go.Shelf
namespace R41
def renS : Ren := ⟨fun i => if i = 6 then 46 else if i = 14 then 73 else if i = 15 then 74 else if i = 20 then 84 else if i = 21 then 85 else if i = 22 then 86 else if i = 23 then 87 else if i = 24 then 88 else if i = 25 then 89 else if i = 26 then 90 else if i = 27 then 91 else if i = 28 then 92 else if i = 29 then 93 else if i = 46 then 104 else if i = 47 then 105 else if i = 48 then 106 else if i = 49 then 107 else if i = 50 then 108 else if i = 57 then 114 else 0, fun i => if i = 0 then 0 else if i = 3 then 3 else if i = 4 then 4 else if i = 5 then 5 else if i = 9 then 9 else if i = 22 then 26 else if i = 24 then 30 else if i = 25 then 75 else if i = 39 then 127 else if i = 45 then 142 else if i = 46 then 143 else if i = 50 then 98 else if i = 53 then 136 else if i = 55 then 138 else if i = 66 then 156 else if i = 70 then 160 else if i = 76 then 165 else if i = 77 then 166 else 0, fun i => i⟩
def TyF (t sz : Nat) (z : Value) : Prop := (∀ w, (isAgg t).run Tryz.prog w = .ok false w) /\ (∀ w, (Go.sizeOf t).run Tryz.prog w = .ok sz w) /\ (∀ w, (zeroValue t).run Tryz.prog w = .ok z w)
theorem ty_facts {t : Nat} {d : TypeDesc} {sz : Nat} {z : Value} (hu : Tryz.prog.underlying t = some d) (hd : (match d with | .struct _ | .array .. => false | _ => true) = true) (hi : (Tryz.prog.info? t).map (fun i => (i.zero, i.size)) = some (some z, sz)) : TyF t sz z := by
 cases h : Tryz.prog.info? t with
 | none => rw [h] at hi; cases hi
 | some i =>
  rw [h] at hi
  simp only [Option.map_some, Option.some.injEq, Prod.mk.injEq] at hi
  obtain ⟨h1, h2⟩ := hi
  refine ⟨fun w => ?_, fun w => ?_, fun w => ?_⟩
  ·simp only [isAgg, Sem.run_bind, run_und hu, Result.andThen_ok]
   cases d <;> first|rfl|cases hd
  ·rw [run_size h, h2]
  ·simp only [zeroValue, Sem.run_bind, run_info h, Result.andThen_ok, h1]; rfl
theorem sf0 : Tryz.prog.underlying 0 = some (TypeDesc.tuple #[]) := by kernel_rfl
theorem sq0 : TyF 0 1 (Value.tuple #[]) := ty_facts sf0 rfl (by kernel_rfl)
theorem sf3 : Tryz.prog.underlying 3 = some (TypeDesc.int IntKind.i64) := by kernel_rfl
theorem sq3 : TyF 3 1 (Value.int IntKind.i64 0) := ty_facts sf3 rfl (by kernel_rfl)
theorem sf4 : Tryz.prog.underlying 4 = some (TypeDesc.bool) := by kernel_rfl
theorem sq4 : TyF 4 1 (Value.bool false) := ty_facts sf4 rfl (by kernel_rfl)
theorem sf5 : Tryz.prog.underlying 5 = some (TypeDesc.int IntKind.u8) := by kernel_rfl
theorem sq5 : TyF 5 1 (Value.int IntKind.u8 0) := ty_facts sf5 rfl (by kernel_rfl)
theorem sf9 : Tryz.prog.underlying 9 = some (TypeDesc.string) := by kernel_rfl
theorem sq9 : TyF 9 1 (Value.string { data := #[] }) := ty_facts sf9 rfl (by kernel_rfl)
theorem sf22 : Tryz.prog.underlying 26 = some (TypeDesc.slice 30) := by kernel_rfl
theorem sq22 : TyF 26 1 (Value.slice none 0 0) := ty_facts sf22 rfl (by kernel_rfl)
theorem sf25 : Tryz.prog.underlying 75 = some (TypeDesc.func #[30, 30] #[3] false) := by kernel_rfl
theorem sq25 : TyF 75 1 (Value.nilFunc) := ty_facts sf25 rfl (by kernel_rfl)
theorem sf39 : Tryz.prog.underlying 127 = some (TypeDesc.int IntKind.u64) := by kernel_rfl
theorem sq39 : TyF 127 1 (Value.int IntKind.u64 0) := ty_facts sf39 rfl (by kernel_rfl)
theorem sf45 : Tryz.prog.underlying 142 = some (TypeDesc.int IntKind.i64) := by kernel_rfl
theorem sq45 : TyF 142 1 (Value.int IntKind.i64 0) := ty_facts sf45 rfl (by kernel_rfl)
theorem sf46 : Tryz.prog.underlying 143 = some (TypeDesc.tuple #[3, 142]) := by kernel_rfl
theorem sq46 : TyF 143 1 (Value.tuple #[Value.int IntKind.i64 0, Value.int IntKind.i64 0]) := ty_facts sf46 rfl (by kernel_rfl)
theorem sf50 : Tryz.prog.underlying 98 = some (TypeDesc.tuple #[3, 4]) := by kernel_rfl
theorem sq50 : TyF 98 1 (Value.tuple #[Value.int IntKind.i64 0, Value.bool false]) := ty_facts sf50 rfl (by kernel_rfl)
theorem sf53 : Tryz.prog.underlying 136 = some (TypeDesc.int IntKind.u32) := by kernel_rfl
theorem sq53 : TyF 136 1 (Value.int IntKind.u32 0) := ty_facts sf53 rfl (by kernel_rfl)
theorem sf55 : Tryz.prog.underlying 138 = some (TypeDesc.int IntKind.u64) := by kernel_rfl
theorem sq55 : TyF 138 1 (Value.int IntKind.u64 0) := ty_facts sf55 rfl (by kernel_rfl)
theorem sf66 : Tryz.prog.underlying 156 = some (TypeDesc.int IntKind.u64) := by kernel_rfl
theorem sq66 : TyF 156 1 (Value.int IntKind.u64 0) := ty_facts sf66 rfl (by kernel_rfl)
theorem sf70 : Tryz.prog.underlying 160 = some (TypeDesc.pointer 3) := by kernel_rfl
theorem sq70 : TyF 160 1 (Value.pointer none) := ty_facts sf70 rfl (by kernel_rfl)
theorem sf76 : Tryz.prog.underlying 165 = some (TypeDesc.pointer 156) := by kernel_rfl
theorem sq76 : TyF 165 1 (Value.pointer none) := ty_facts sf76 rfl (by kernel_rfl)
theorem sf77 : Tryz.prog.underlying 166 = some (TypeDesc.tuple #[3, 3]) := by kernel_rfl
theorem sq77 : TyF 166 1 (Value.tuple #[Value.int IntKind.i64 0, Value.int IntKind.i64 0]) := ty_facts sf77 rfl (by kernel_rfl)
theorem sf24 : Tryz.prog.underlying 30 = some (TypeDesc.slice 3) := by kernel_rfl
theorem sq24 : TyF 30 1 (Value.slice none 0 0) := ty_facts sf24 rfl (by kernel_rfl)
theorem laySort : SlLaysF.n6 Tryz.prog renS where
 mixed := by kernel_rfl
 f6 := ⟨"slices.SortFunc[[][]int,[]int]", by decide, by kernel_rfl⟩
 f14 := ⟨"slices.pdqsortCmpFunc[[]int]", by decide, by kernel_rfl⟩
 f15 := by kernel_rfl
 f20 := ⟨"slices.insertionSortCmpFunc[[]int]", by decide, by kernel_rfl⟩
 f21 := ⟨"slices.heapSortCmpFunc[[]int]", by decide, by kernel_rfl⟩
 f22 := ⟨"slices.breakPatternsCmpFunc[[]int]", by decide, by kernel_rfl⟩
 f23 := ⟨"slices.choosePivotCmpFunc[[]int]", by decide, by kernel_rfl⟩
 f24 := ⟨"slices.reverseRangeCmpFunc[[]int]", by decide, by kernel_rfl⟩
 f25 := ⟨"slices.partialInsertionSortCmpFunc[[]int]", by decide, by kernel_rfl⟩
 f26 := ⟨"slices.partitionEqualCmpFunc[[]int]", by decide, by kernel_rfl⟩
 f27 := ⟨"slices.partitionCmpFunc[[]int]", by decide, by kernel_rfl⟩
 f28 := by kernel_rfl
 f29 := by kernel_rfl
 f46 := ⟨"slices.siftDownCmpFunc[[]int]", by decide, by kernel_rfl⟩
 f47 := by kernel_rfl
 f48 := by kernel_rfl
 f49 := ⟨"slices.medianAdjacentCmpFunc[[]int]", by decide, by kernel_rfl⟩
 f50 := ⟨"slices.medianCmpFunc[[]int]", by decide, by kernel_rfl⟩
 f57 := ⟨"slices.order2CmpFunc[[]int]", by decide, by kernel_rfl⟩
 t0 := sf0
 a0 := sq0.1
 z0 := sq0.2.1
 v0 := sq0.2.2
 t3 := sf3
 a3 := sq3.1
 z3 := sq3.2.1
 v3 := sq3.2.2
 t4 := sf4
 a4 := sq4.1
 z4 := sq4.2.1
 v4 := sq4.2.2
 t5 := sf5
 a5 := sq5.1
 z5 := sq5.2.1
 v5 := sq5.2.2
 t9 := sf9
 a9 := sq9.1
 z9 := sq9.2.1
 v9 := sq9.2.2
 t22 := sf22
 a22 := sq22.1
 z22 := sq22.2.1
 v22 := sq22.2.2
 t25 := sf25
 a25 := sq25.1
 z25 := sq25.2.1
 v25 := sq25.2.2
 t39 := sf39
 a39 := sq39.1
 z39 := sq39.2.1
 v39 := sq39.2.2
 t45 := sf45
 a45 := sq45.1
 z45 := sq45.2.1
 v45 := sq45.2.2
 t46 := sf46
 a46 := sq46.1
 z46 := sq46.2.1
 v46 := sq46.2.2
 t50 := sf50
 a50 := sq50.1
 z50 := sq50.2.1
 v50 := sq50.2.2
 t53 := sf53
 a53 := sq53.1
 z53 := sq53.2.1
 v53 := sq53.2.2
 t55 := sf55
 a55 := sq55.1
 z55 := sq55.2.1
 v55 := sq55.2.2
 t66 := sf66
 a66 := sq66.1
 z66 := sq66.2.1
 v66 := sq66.2.2
 t70 := sf70
 a70 := sq70.1
 z70 := sq70.2.1
 v70 := sq70.2.2
 t76 := sf76
 a76 := sq76.1
 z76 := sq76.2.1
 v76 := sq76.2.2
 t77 := sf77
 a77 := sq77.1
 z77 := sq77.2.1
 v77 := sq77.2.2
 a24 := sq24.1
 z24 := sq24.2.1
end R41
end Go.Proofs

set_option maxRecDepth 100000
set_option maxHeartbeats 400000000
namespace Go.Proofs
open Go.RowKit Go.Kin Go.Kin.Se Go.Kin.Cl
namespace R41
theorem len74_calls (n : Nat) (h : n < 4611686018427387904) (w : World) : Calls Tryz.prog 74 ⟨[.int .u64 (n : Int)]⟩ w fun e w' => e = .returned (.int .i64 (Lib.bitLen n : Nat)) /\ Below w.heap.size w w' := by
 have H := Any.bits_Len (P := Tryz.prog) (ρ := renS.viaSlsf) (SlLaysF0.n15.bits (P := Tryz.prog) (ρ := renS) { laySort with }) (n : Int) w (by omega) (by omega)
 rw [Int.toNat_natCast] at H
 exact H.mono fun _ _ ⟨h1, h2⟩ => ⟨h1, h2 ▸ Below.refl _ _⟩
theorem pdq76_calls (l : List Nat) (b cap lim : Nat) (rest : List Value) (w : World) (hl : l.length <= 12) (h1 : 1 <= l.length) (hb : w.heap[b]? = some (.cells ⟨flN l ++ rest⟩ 3 (0, 0))) :
  Calls Tryz.prog 76 ⟨[.slice (some ⟨b, 0, none⟩) l.length cap, .int .i64 0, .int .i64 l.length, .int .i64 lim]⟩ w (FrQ [(b, .cells ⟨flN l ++ rest⟩ 3 (0, 0))] (fun _ : Unit => .tuple #[]) (fun _ => [(b, .cells ⟨flN (isrt l) ++ rest⟩ 3 (0, 0))]) w) := by
 have hsat := frQ_start (W := w) (pre := [(b, .cells ⟨flN l ++ rest⟩ 3 (0, 0))]) (by simp) fun p hp => by rw [List.mem_singleton.1 hp]; exact hb
 obtain ⟨n, hn⟩ : ∃ n, l.length = n := ⟨_, rfl⟩
 have hcall : ∀ W : World, (∀ p ∈ [(b, Obj.cells ⟨flN l ++ rest⟩ 3 (0, 0))], W.heap[p.1]? = some p.2) -> Calls Tryz.prog 94 ⟨[.slice (some ⟨b, 0, none⟩) n cap, .int .i64 0, .int .i64 n]⟩ W (FrQ [(b, .cells ⟨flN l ++ rest⟩ 3 (0, 0))] (fun _ : Unit => .tuple #[]) (fun _ => [(b, .cells ⟨flN (isrt l) ++ rest⟩ 3 (0, 0))]) W) := fun W hW => by
  rw [<- hn]
  exact isort94_calls l b cap rest W (by omega) h1 (hW _ List.mem_cons_self)
 rw [hn] at hl h1 ⊢
 refine fEn Tryz.func76 rfl Tryz.ntmps76 rfl rfl hsat ?_
 repeat (first|refine lVa rfl rfl (by first|exact pEv rfl|fail) ?_|refine lNi ?_|refine cRg ?_|refine cSq ?_|refine xTh ?_|refine cBl ?_|fail)
 refine c_loop (ι := Unit) (fun _ => True) (fun _ => [(0, .slice (some ⟨b, 0, none⟩) n cap), (1, .int .i64 0), (2, .int .i64 n)]) (fun _ => [(b, .cells ⟨flN l ++ rest⟩ 3 (0, 0))]) (fun _ => 0) () trivial (by repeat (first|exact .nil|refine .cons rfl (by first|rfl|(congr 1; done)|exact congrArg _ (by omega)|(simp; done)) ?_)) (by repeat (first|exact .nil|refine .keep (by first|rfl|assumption) ?_|refine .drop ?_|exact MSub.refl _)) ?_
 rintro - -
 repeat (first|refine lVa rfl rfl (by first|exact v_sub rfl rfl (by omega) (by omega)|exact pEv rfl|fail) ?_|refine lNi ?_|refine cRg ?_|refine cSq ?_|refine xTh ?_|refine c_dec_t rfl (by first|omega|fail) ?_|refine cBl ?_|fail)
 refine r_callF rfl rfl rfl (.refl _) (fun W _ _ hW => hcall W hW) (fun _ => ?_)
 repeat (first|refine lNi ?_|refine xTh ?_|refine c_ret ?_|refine xTr ?_|refine xBr ?_|fail)
 exact x_ret rfl rfl Res.nil rfl (fun W hW => ⟨(), rfl, hW⟩)
theorem sort50_calls (l : List Nat) (b cap : Nat) (rest : List Value) (w : World) (hl : l.length <= 12) (h1 : 1 <= l.length) (hb : w.heap[b]? = some (.cells ⟨flN l ++ rest⟩ 3 (0, 0))) :
  Calls Tryz.prog 50 ⟨[.slice (some ⟨b, 0, none⟩) l.length cap]⟩ w (FrQ [(b, .cells ⟨flN l ++ rest⟩ 3 (0, 0))] (fun _ : Unit => .tuple #[]) (fun _ => [(b, .cells ⟨flN (isrt l) ++ rest⟩ 3 (0, 0))]) w) := by
 have hsat := frQ_start (W := w) (pre := [(b, .cells ⟨flN l ++ rest⟩ 3 (0, 0))]) (by simp) fun p hp => by rw [List.mem_singleton.1 hp]; exact hb
 obtain ⟨n, hn⟩ : ∃ n, l.length = n := ⟨_, rfl⟩
 have hcall : ∀ W : World, (∀ p ∈ [(b, Obj.cells ⟨flN l ++ rest⟩ 3 (0, 0))], W.heap[p.1]? = some p.2) -> Calls Tryz.prog 76 ⟨[.slice (some ⟨b, 0, none⟩) n cap, .int .i64 0, .int .i64 n, .int .i64 (Lib.bitLen n : Nat)]⟩ W (FrQ [(b, .cells ⟨flN l ++ rest⟩ 3 (0, 0))] (fun _ : Unit => .tuple #[]) (fun _ => [(b, .cells ⟨flN (isrt l) ++ rest⟩ 3 (0, 0))]) W) := fun W hW => by
  rw [<- hn]
  exact pdq76_calls l b cap _ rest W hl h1 (hW _ List.mem_cons_self)
 rw [hn] at hl h1 ⊢
 refine fEn Tryz.func50 rfl Tryz.ntmps50 rfl rfl hsat ?_
 repeat (first|refine lVa rfl rfl (by first|exact v_uconv rfl rfl rfl (by omega)|exact pEv rfl|fail) ?_|refine lNi ?_|refine cRg ?_|refine cSq ?_|refine xTh ?_|fail)
 refine r_call rfl rfl rfl (fun W _ => len74_calls n (by omega) W) ?_
 skip
 refine r_callF rfl rfl rfl (.refl _) (fun W _ _ hW => hcall W hW) (fun _ => ?_)
 repeat (first|refine lNi ?_|fail)
 exact x_end rfl rfl Res.nil rfl (fun W hW => ⟨(), rfl, hW⟩)
end R41
end Go.Proofs

namespace Go
open Go.RowKit
namespace Kin
section
variable {P : Program} {N : Nat} {c : Cx} {Q : Exit -> Act -> World -> Prop} {env : List (Nat × Value)} {mem mem' : List (Nat × Obj)} {L l : List Oper} {tt : List (TypeId × TI)} [Wide c.F]
 {ty : TypeId} {pos : String} {af : Array Edge} {g : Option (Nat × Bool)} {dd : Option Tmp} {d : Nat}
theorem run_append_zeros (w : World) (t u ty e : TypeId) (i : TypeInfo) (z : Value) (ht : P.underlying t = some (.slice e)) (hu : P.underlying u = some (.int .i64)) (hi : P.info? e = some i) (hz : i.zero = some z) (n : Nat) (h0 : 0 < n) (hs : i.size ≠ 0)
  (h63 : (n : Int) <= 9223372036854775807) (h48 : n * i.bytes <= 281474976710656) :
  (Builtin.append_ #[t, u] ty #[.slice none 0 0, .int .i64 n]).run P w =
   .ok (.slice (some ⟨w.heap.size, 0, none⟩) n (grownCap w n 0 e)) (w.drew.alloc (.cells (Builtin.zeroCells z.cells n ++ Builtin.zeroCells z.cells (grownCap w n 0 e - n)) e)) := by
 have hn : n ≠ 0 := by omega
 have hw : IntKind.i64.wrap (n : Int) = n := wrap_i64 (by omega) h63
 have h63' : ¬ (9223372036854775807 < (n : Int)) := by omega
 have h48' : ¬ (281474976710656 < Builtin.nextslicecap n 0 * i.bytes) := by rw [nextslicecap_zero h0]; omega
 have h48'' : ¬ (281474976710656 < (n : Int) * (i.bytes : Int)) := by
  have : ((n * i.bytes : Nat) : Int) <= 281474976710656 := by omega
  rw [Int.natCast_mul] at this; omega
 have hneg : ¬ ((n : Int) < 0) := by omega
 simp [Builtin.append_, run_underlying ht, run_underlying hu, asInt, asIntOf, hw, hneg, h48'', sizeOf, typeInfo, zeroValue, hi, hz, hn, hs, h63', h48', Question.forced, run_firstCells_none, newRow, grownCap]
 intro h
 exact absurd h (Nat.mul_ne_zero hn hs)
/-- the room of a slice -/
theorem v_cap [T : TT P tt] {t e n cap sz' bt' : Nat} {A : Option Addr} {x : Operand} {z' : Value} (hx : evOp env x = some (.slice A n cap)) (ht : look tt t = some ⟨.slice e, sz', bt', z'⟩) :
  OpVal P N c env mem ⟨dd, .call ⟨.builtin .cap, ⟨[x]⟩, ⟨[t]⟩⟩, ty, pos, af, g⟩ (.int .i64 cap) :=
 ⟨rfl, fun a W ha _ => by
  have hu : P.underlying t = some (.slice e) := (TT.look (P := P) ht).1
  simp only [execOp, resolve, List.map_toArray, List.map_cons, List.map_nil, ha.eval hx, Sem.run_bind]
  simp [invoke, builtin, Builtin.cap_, run_und hu, Sem.run, pure, goInt]⟩
theorem p_append2 {t u : TypeId} {x y : Operand} {a : Act} {W W' : World} {s q v : Value} (hx : a.eval x = s) (hy : a.eval y = q) (h : (Builtin.append_ #[t, u] ty #[s, q]).run P W = .ok v W') :
  (execOp a.eval ⟨dd, .call ⟨.builtin .append, ⟨[x, y]⟩, ⟨[t, u]⟩⟩, ty, pos, af, g⟩).run P W = .ok (.value v) W' := by
 simp only [execOp, resolve, List.map_toArray, List.map_cons, List.map_nil, hx, hy, Sem.run_bind]
 simp only [Sem.run, pure, Result.andThen_ok, invoke, builtin, Sem.run_bind, bind, Sem.run_bind']
 rw [show (Builtin.append_ ⟨[t, u]⟩ ty ⟨[s, q]⟩).run P W = .ok v W' from h]; rfl
theorem r_appendMake [T : TT P tt] {t u e n sz bt sz' bt' sz2 bt2 : Nat} {ke : TK} {z z' z2 : Value} {x y : Operand} (hw : wantB L env g = some true) (hd : Nat.blt d N = true)
  (hx : evOp env x = some (.slice none 0 0)) (hy : evOp env y = some (.int .i64 n)) (ht : look tt t = some ⟨.slice e, sz', bt', z'⟩) (hu : look tt u = some ⟨.int .i64, sz2, bt2, z2⟩) (hte : look tt e = some ⟨ke, sz, bt, z⟩)
  (hzl : Nat.beq (cellsL z).length sz = true) (hs0 : Nat.beq sz 0 = false) (h0 : 0 < n) (hb : n * bt <= 140737488355328) (hm : n <= maxLen)
  (k : ∀ b cap rest, Grow sz 0 [] cap rest -> n <= cap -> RunL P N c L l Q ((d, .slice (some ⟨b, 0, none⟩) n cap) :: env) ((b, .cells ⟨rest⟩ e (0, 0)) :: mem)) :
  RunL P N c L (⟨some d, .call ⟨.builtin .append, ⟨[x, y]⟩, ⟨[t, u]⟩⟩, ty, pos, af, g⟩ :: l) Q env mem := by
 have hu1 : P.underlying t = some (.slice e) := (TT.look (P := P) ht).1
 have hu2 : P.underlying u = some (.int .i64) := (TT.look (P := P) hu).1
 obtain ⟨_, inf, hi, hs, hbt, hz⟩ := TT.look (P := P) hte
 simp only at hs hz hbt
 have hzl := Nat.eq_of_beq_eq_true hzl
 have hs0 := Nat.ne_of_beq_eq_false hs0
 refine l_eff (ι := { p : Nat × Nat × List Value // Grow sz 0 [] p.2.1 p.2.2 /\ n <= p.2.1 }) (v := fun p => .slice (some ⟨p.1.1, 0, none⟩) n p.1.2.1) (mem' := fun p => (p.1.1, .cells ⟨p.1.2.2⟩ e (0, 0)) :: mem) hw hd ⟨rfl, fun a W ha hmm => ?_⟩ (fun p => k _ _ _ p.2.1 p.2.2)
 have hr := run_append_zeros (P := P) W t u ty e inf z hu1 hu2 hi hz n h0 (by rw [hs]; exact hs0) (by simp only [maxLen] at hm; omega) (by rw [hbt]; omega)
 have hge := grownCap_ge W n 0 e
 refine ⟨⟨(W.heap.size, grownCap W n 0 e, (Builtin.zeroCells z.cells n ++ Builtin.zeroCells z.cells (grownCap W n 0 e - n)).toList), ⟨by simp, ?_, Nat.zero_le _, grownCap_le_maxLen W n 0 e hm⟩, hge⟩, _, ?_, hmm.newest _⟩
 ·simp only [List.nil_append, Array.toList_append, List.length_append, zeroCells_len, cellsL_eq]
  show n * (cellsL z).length + (grownCap W n 0 e - n) * (cellsL z).length = _
  rw [hzl, <- Nat.add_mul]
  congr 1; omega
 ·exact p_append2 (ha.eval hx) (ha.eval hy) hr
/-! ## Ends behind marks, with a word -/
theorem sat_shutJ {w0 W : World} {D : Nat -> Prop} {J : (Nat -> Prop) -> World -> Prop} {Ds : List Nat} (h : SatW w0 D J mem W) (hS : Split mem Ds mem') : SatW w0 D J mem' (shut Ds W) := by
 obtain ⟨h1, h2, h3, h4⟩ := hS.facts h.nodup
 have hs := shut_same Ds W
 have hk : ∀ d ∈ Ds, keys mem d := fun d hd => List.mem_map.2 ⟨_, h2 d hd, rfl⟩
 refine ⟨h.same.trans (hs.mono fun b hb hd => (h.own _ (h2 b hd)).1 hb), h.dom, (h4.map _).nodup h.nodup, fun p hp => ⟨(h.own p (h4.mem hp)).1, hs.obj (h.own p (h4.mem hp)).2 fun hd => h3 _ hd (List.mem_map.2 ⟨p, hp, rfl⟩)⟩, h.closed, ?_⟩
 exact h.closed _ _ _ _ h.word (hs.mono fun b hb hd => hb (hk b hd)) fun b hb => .inl (by
  obtain ⟨p, hp, e⟩ := List.mem_map.1 hb
  exact List.mem_map.2 ⟨p, h4.mem hp, e⟩)
theorem x_endsJ [T : TT P tt] {fn : Func} {rs : List ResultVar} {vs : List Value} {v : Value} {R : Ending -> World -> Prop} {Ds : List Nat} (hds : c.ds = Ds.map mark)
  (hS : Split mem Ds mem') (hr : fn.results = ⟨rs⟩) (h : Res tt env mem' rs vs) (hv : tupO vs = some v)
  (hR : ∀ W, SatW c.w0 c.D c.J mem' W -> R (.returned v) W) : RunX N c (bodyPostK P fn R) .normal env mem := .mk fun a W ha hm => by
 obtain rfl := tupO_eq hv
 obtain ⟨h1, h2, h3, h4⟩ := hS.facts hm.nodup
 have hsh := sat_shutJ hm hS
 show LeavesInM _ _ _ _ _ _ a.defers _ _
 rw [ha.defers.trans hds]
 exact leaves_marks Ds W ⟨h1, fun d hd => (hm.own _ (h2 d hd)).2⟩ (results_run hr h ha hsh) (hR _ hsh)
theorem split_drop : ∀ m : List (Nat × Obj), Split m [] []
 | [] => .nil
 | _ :: m => .drop (split_drop m)
theorem split_app (m : List (Nat × Obj)) : ∀ Ds : List Nat, Split (Ds.map opn ++ m) Ds []
 | [] => split_drop m
 | _ :: Ds => .mark (split_app m Ds)
/-- what lies on the ground stays when a round begins -/
theorem Ext.begin {w W : World} {D : Nat -> Prop} {l b o : Nat} {v : Value} {cs : List Value} (h : Ext w D b o (v :: cs)) (hl : ∃ r, w.heap[l]? = some (.loop r)) (hs : Same (fun b => D b /\ b ≠ l) w W) : Ext W D b o (v :: cs) :=
 ⟨h.dom, fun i u hi => hs.cell (h.cell i u hi) ⟨h.dom, fun e => by
  have h0 := h.cell 0 v rfl
  obtain ⟨r, hr⟩ := hl
  simp only at e
  unfold World.cell? at h0
  simp only [e, hr] at h0
  cases h0⟩⟩
end
end Kin
end Go
