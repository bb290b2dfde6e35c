/- Intervals: bits.Len64, bits.LeadingZeros64, bits.Div64, walked. -/
import Derived.Test.YtfebhegaomdcoaaIvC
import Derived.Shelf.Strconv.Itoa0
set_option linter.unusedSectionVars false
set_option linter.unusedVariables false
set_option linter.unusedSimpArgs false
namespace Go.Proofs
open Go.RowKit Go.Kin Go.Kin.Iv Go.Shelf
namespace R21

theorem lay_a {t : TypeId} {ti : TI} (h : Kin.look tt t = some ti) (w : World) : (isAgg t).run Try.prog w = .ok ti.kind.isAgg w := run_isAgg (TT.look (P := Try.prog) h).1 w
theorem lay_z {t : TypeId} {ti : TI} (h : Kin.look tt t = some ti) (w : World) : (Go.sizeOf t).run Try.prog w = .ok ti.size w := by
  obtain ⟨i, h1, h2⟩ := (TT.look (P := Try.prog) h).size
  rw [← h2]; exact run_size h1 w
theorem lay_v {t : TypeId} {ti : TI} (h : Kin.look tt t = some ti) (w : World) : (zeroValue t).run Try.prog w = .ok ti.zero w := by
  obtain ⟨_, i, h1, _, _, h2⟩ := TT.look (P := Try.prog) h
  simp only [zeroValue, Sem.run_bind, run_info h1, Result.andThen_ok, h2]; rfl
def ren129 : Ren := ⟨fun i => if i = 129 then 59 else 0, fun i => if i = 46 then 72 else if i = 53 then 61 else i, fun i => i⟩
theorem lay129 : Lays.n129 Try.prog ren129 where
  mixed := by kernel_rfl
  f129 := by kernel_rfl
  t3 := Try.underlying3
  a3 := lay_a (t := 3) rfl
  z3 := lay_z (t := 3) rfl
  v3 := lay_v (t := 3) rfl
  t4 := Try.underlying4
  a4 := lay_a (t := 4) rfl
  z4 := lay_z (t := 4) rfl
  v4 := lay_v (t := 4) rfl
  t5 := Try.underlying5
  a5 := lay_a (t := 5) rfl
  z5 := lay_z (t := 5) rfl
  v5 := lay_v (t := 5) rfl
  t9 := Try.underlying9
  a9 := lay_a (t := 9) rfl
  z9 := lay_z (t := 9) rfl
  v9 := lay_v (t := 9) rfl
  t46 := Try.underlying72
  a46 := lay_a (t := 72) rfl
  z46 := lay_z (t := 72) rfl
  v46 := lay_v (t := 72) rfl
  t53 := Try.underlying61
  a53 := lay_a (t := 61) rfl
  z53 := lay_z (t := 61) rfl
  v53 := lay_v (t := 61) rfl
theorem Len64_calls (x : Nat) (hx : x < 18446744073709551616) (w : World) : Calls Try.prog 59 ⟨[.int .u64 x]⟩ w fun e w' => e = .returned (.int .i64 (Lib.bitLen x)) ∧ Below w.heap.size w w' :=
  (Any.bits_Len64 lay129 x w (by omega) (by omega)).mono fun e w' ⟨h1, h2⟩ => ⟨h1, h2 ▸ Below.refl _ _⟩
theorem bitLen_lt : ∀ (k x : Nat), k ≤ 64 → x < 2 ^ k → x < 2 ^ 64 → Lib.bitLen x ≤ k
  | 0, x, _, h, _ => by
    have : x = 0 := by simpa using h
    subst this; decide
  | k + 1, x, hk, h, h64 => by
    by_cases h0 : x = 0
    · subst h0; exact Nat.le_trans (by decide : Lib.bitLen 0 ≤ 0) (Nat.zero_le _)
    · rw [Lib.bitLen_half x h0 h64]
      have := bitLen_lt k (x / 2) (by omega) (by rw [Nat.pow_succ] at h; omega) (by omega)
      omega
theorem LZ_calls (x : Nat) (hx : x < 18446744073709551616) (w : World) : Calls Try.prog 55 ⟨[.int .u64 x]⟩ w fun e w' => e = .returned (.int .i64 ((64 - Lib.bitLen x : Nat) : Int)) ∧ Below w.heap.size w w' := by
  have hb := bitLen_lt 64 x (by omega) hx hx
  refine fun_enter Try.func55 rfl Try.ntmps55 rfl rfl (satW_nil w) ?_
  repeat (first | refine l_val rfl rfl (by first | exact pureEval_ok rfl ) ?_ | refine l_nil ?_ | refine c_region ?_ | refine c_seq ?_ | refine x_then ?_ )
  refine r_call rfl rfl rfl (fun W hW => Len64_calls x hx W) ?_
  repeat (first | refine l_val rfl rfl (by first | exact v_sub rfl rfl (by omega) (by omega) | exact pureEval_ok rfl ) ?_ | refine l_nil ?_ | refine x_then ?_ | refine c_ret ?_ )
  refine x_ret rfl rfl (by repeat (first | exact Res.nil | (apply Res.tmp; rfl) | (apply Res.cell; rfl; exact (by repeat (first | exact List.Mem.head _ | apply List.Mem.tail)); rfl; rfl))) rfl (fun W hW => ⟨?_, hW.below⟩)
  congr 2; omega
end R21
end Go.Proofs
