/- Intervals: sizes, 128-bit products, the iterator over products, walked. -/
import Derived.Test.YtfebhegaomdcoaaIvB
import Derived.Test.YtfebhegaomdcoaaEng14
import Derived.Shelf.Bits.Mul64
set_option linter.unusedSectionVars false
set_option linter.unusedVariables false
set_option linter.unusedSimpArgs false
namespace Go.Proofs
open Go.RowKit Go.Kin Go.Kin.Iv Go.Shelf
namespace R21

theorem size_calls (n : Int) (w : World) (h1 : -1152921504606846976 ≤ n) (h2 : n ≤ 1152921504606846976) : Calls Try.prog 47 ⟨[.int .i64 n]⟩ w fun e w' => e = .returned (.int .u64 (n.natAbs : Int)) ∧ Below w.heap.size w w' := by
  refine fun_enter Try.func47 rfl Try.ntmps47 rfl rfl (satW_nil w) ?_
  repeat (first | refine l_val rfl rfl (by first | exact v_neg rfl (by omega) (by omega) | exact pureEval_ok rfl ) ?_ | refine l_nil ?_ | refine c_region ?_ | refine c_seq ?_ | refine x_then ?_ | refine c_ret ?_ )
  refine x_ret rfl rfl (by repeat (first | exact Res.nil | (apply Res.tmp; rfl) | (apply Res.cell; rfl; exact (by repeat (first | exact List.Mem.head _ | apply List.Mem.tail)); rfl; rfl))) rfl (fun W hW => ⟨?_, hW.below⟩)
  have e1 : IntKind.u64.wrap (max n (-n)) = max n (-n) := by rw [IntKind.wrap_u64]; omega
  rw [e1]
  congr 2; omega
theorem abs_calls (n : Int) (w : World) (h1 : -1152921504606846976 ≤ n) (h2 : n ≤ 1152921504606846976) : Calls Try.prog 51 ⟨[.int .i64 n]⟩ w fun e w' => e = .returned (.int .i64 (n.natAbs : Int)) ∧ Below w.heap.size w w' := by
  refine fun_enter Try.func51 rfl Try.ntmps51 rfl rfl (satW_nil w) ?_
  repeat (first | refine l_val rfl rfl (by first | exact v_sub rfl rfl (by omega) (by omega) | exact pureEval_ok rfl ) ?_ | refine l_nil ?_ | refine c_region ?_ | refine c_seq ?_ | refine x_then ?_ | refine c_ret ?_ )
  refine x_ret rfl rfl (by repeat (first | exact Res.nil | (apply Res.tmp; rfl) | (apply Res.cell; rfl; exact (by repeat (first | exact List.Mem.head _ | apply List.Mem.tail)); rfl; rfl))) rfl (fun W hW => ⟨?_, hW.below⟩)
  congr 2; omega

/-! ## 128-bit products -/
def ren : Ren := ⟨fun i => if i = 264 then 46 else 0, fun i => if i = 46 then 72 else if i = 53 then 61 else 0, fun i => i⟩
theorem lay264 : Lays.n264 Try.prog ren where
  mixed := by kernel_rfl
  f264 := by kernel_rfl
  t46 := Try.underlying72
  a46 := fun w => run_isAgg (P := Try.prog) (t := 72) (k := .int .u64) Try.underlying72 w
  z46 := fun w => by
    obtain ⟨i, h1, h2⟩ := (TT.look (P := Try.prog) (t := 72) rfl).size
    rw [← h2]; exact run_size h1 w
  v46 := fun w => by
    obtain ⟨_, i, h1, _, _, h2⟩ := TT.look (P := Try.prog) (t := 72) rfl
    show (zeroValue 72).run Try.prog w = _
    simp only [zeroValue, Sem.run_bind, run_info h1, Result.andThen_ok, h2]; rfl
  t53 := Try.underlying61
  a53 := fun w => run_isAgg (P := Try.prog) (t := 61) (k := .int .u64) Try.underlying61 w
  z53 := fun w => by
    obtain ⟨i, h1, h2⟩ := (TT.look (P := Try.prog) (t := 61) rfl).size
    rw [← h2]; exact run_size h1 w
  v53 := fun w => by
    obtain ⟨_, i, h1, _, _, h2⟩ := TT.look (P := Try.prog) (t := 61) rfl
    show (zeroValue 61).run Try.prog w = _
    simp only [zeroValue, Sem.run_bind, run_info h1, Result.andThen_ok, h2]; rfl
theorem Mul64_calls (x y : Nat) (hx : x < 18446744073709551616) (hy : y < 18446744073709551616) (w : World) :
    Calls Try.prog 46 ⟨[.int .u64 x, .int .u64 y]⟩ w fun e w' => e = .returned (.tuple ⟨[.int .u64 ((x * y / 18446744073709551616 : Nat) : Int), .int .u64 ((x * y % 18446744073709551616 : Nat) : Int)]⟩) ∧ Below w.heap.size w w' :=
  (Any.bits_Mul64 lay264 x y hx hy w).mono fun e w' ⟨h1, h2⟩ => ⟨h1, h2 ▸ Below.refl _ _⟩
end R21
end Go.Proofs
