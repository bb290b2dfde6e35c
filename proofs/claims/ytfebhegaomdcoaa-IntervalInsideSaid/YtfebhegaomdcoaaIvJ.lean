/- Intervals: bits.Div64, walked. -/
import Derived.Test.YtfebhegaomdcoaaIvI
import Derived.Test.YtfebhegaomdcoaaEng15
import Derived.Test.YtfebhegaomdcoaaDivMath
set_option linter.unusedSectionVars false
set_option linter.unusedVariables false
set_option linter.unusedSimpArgs false
namespace Go.Proofs
open Go.RowKit Go.Kin Go.Kin.Iv Go.Shelf
namespace R21

theorem dif_mod (A b B v : Nat) (h : A + b = B + v) (hv : v < 18446744073709551616) : ((((A % 18446744073709551616 + b) % 18446744073709551616 : Nat) : Int) - ((B % 18446744073709551616 : Nat) : Int)) % 18446744073709551616 = (v : Int) := by omega
theorem dif_mod1 (A B v : Nat) (h : A = B + v) (hv : v < 18446744073709551616) : ((A : Int) - ((B % 18446744073709551616 : Nat) : Int)) % 18446744073709551616 = (v : Int) := by omega
theorem dif_sum {a X r b m Y : Nat} (h : a = X + r) (hm : r * 4294967296 + b = m) (g : X * 4294967296 = Y) : a * 4294967296 + b = Y + m := by
  subst h; subst hm; subst g
  rw [Nat.add_mul]
  exact Nat.add_assoc _ _ _
set_option maxHeartbeats 1000000 in
theorem Div64_calls (hi lo d : Nat) (w : World) (h0 : 0 < d) (h1 : d ≤ 1073741824) (h2 : hi < d) (h3 : lo < 18446744073709551616) :
    Calls Try.prog 48 ⟨[.int .u64 hi, .int .u64 lo, .int .u64 d]⟩ w fun e w' => e = .returned (.tuple ⟨[.int .u64 (((hi * 18446744073709551616 + lo) / d : Nat) : Int), .int .u64 (((hi * 18446744073709551616 + lo) % d : Nat) : Int)]⟩) ∧ Below w.heap.size w w' := by
  refine fun_enter Try.func48 rfl Try.ntmps48 rfl rfl (satW_nil w) ?_
  by_cases hz : hi = 0
  · subst hz
    rw [Nat.zero_mul, Nat.zero_add]
    repeat (first | refine l_val rfl rfl (by first | exact pureEval_ok rfl ) ?_ | refine l_nil ?_ | refine c_region ?_ | refine c_seq ?_ | refine x_then ?_ | refine c_true rfl ?_ | refine c_dec_f rfl (by first | omega | exact fun h => h rfl ) ?_ | refine c_skip ?_ | refine c_ret ?_ | refine x_then_ret ?_ | refine c_reads rfl (by decide +kernel) ?_ | refine q_val rfl rfl (by first | exact v_uquo rfl rfl (by omega) (by omega) | exact v_urem rfl rfl (by omega) | exact pureEval_ok rfl ) ?_ | refine q_nil ?_ )
    exact x_ret rfl rfl (by repeat (first | exact Res.nil | (apply Res.tmp; rfl) | (apply Res.cell; rfl; exact (by repeat (first | exact List.Mem.head _ | apply List.Mem.tail)); rfl; rfl))) rfl (fun W hW => ⟨rfl, hW.below⟩)
  · repeat (first | refine l_val rfl rfl (by first | exact pureEval_ok rfl ) ?_ | refine l_nil ?_ | refine c_region ?_ | refine c_seq ?_ | refine x_then ?_ | refine c_dec_f rfl (by first | omega ) ?_ | refine c_skip ?_ )
    refine r_call rfl rfl rfl (fun W hW => LZ_calls d (by omega) W) ?_
    obtain ⟨s, hs⟩ : ∃ s, 64 - Lib.bitLen d = s := ⟨_, rfl⟩
    obtain ⟨l1, l2, l3, H⟩ := halves_of h0 h1 h2 h3 hs.symm
    rw [hs]
    repeat ((fail_if_success refine c_probe (id := 9) ?_); (fail_if_success refine c_probe1 (id := 9) ?_); first | refine l_val rfl rfl (by first | exact v_uconv rfl rfl rfl (by omega) | exact v_ushl rfl rfl (by omega) | exact pureEval_ok rfl ) ?_ | refine l_nil ?_ | refine c_region ?_ | refine c_seq ?_ | refine x_then ?_ )
    rw [Nat.mod_eq_of_lt l3]
    repeat ((fail_if_success refine c_probe (id := 11) ?_); (fail_if_success refine c_probe1 (id := 11) ?_); first | refine l_val rfl rfl (by first | exact v_ushr32 rfl rfl | exact v_uand32 rfl rfl (by omega) | exact pureEval_ok rfl ) ?_ | refine l_nil ?_ | refine c_region ?_ | refine c_seq ?_ | refine x_then ?_ )
    have hP : 0 < 2 ^ s := Nat.pow_pos (by decide)
    have hlo0 : d * 2 ^ s % 4294967296 = 0 := by rw [H.y, Nat.mul_mod_left]
    have hhi : hi * 2 ^ s < 18446744073709551616 := Nat.lt_of_le_of_lt (Nat.mul_le_mul_right _ (Nat.le_of_lt h2)) l3
    have hlq : lo / 2 ^ (64 - s) < 2 ^ s := by
      rw [Nat.div_lt_iff_lt_mul (Nat.pow_pos (by decide)), ← Nat.pow_add, show s + (64 - s) = 64 by omega]; exact h3
    have hlq2 : lo / 2 ^ (64 - s) ≤ lo := Nat.div_le_self _ _
    have hor : hi * 2 ^ s % 18446744073709551616 ||| lo / 2 ^ (64 - s) = hi * 2 ^ s + lo / 2 ^ (64 - s) := by
      rw [Nat.mod_eq_of_lt hhi, Nat.mul_comm hi, ← Nat.two_pow_add_eq_or_of_lt hlq]
    rw [hlo0]
    repeat ((fail_if_success refine c_probe (id := 12) ?_); (fail_if_success refine c_probe1 (id := 12) ?_); first | refine l_val rfl rfl (by first | exact v_usub64 rfl rfl (by omega) | exact v_ushl rfl rfl (by omega) | exact v_ushr rfl rfl (by omega) | exact v_uor rfl rfl (by omega) (by omega) | exact pureEval_ok rfl ) ?_ | refine l_nil ?_ | refine c_region ?_ | refine c_seq ?_ | refine x_then ?_ )
    rw [hor]
    repeat ((fail_if_success refine c_probe (id := 15) ?_); (fail_if_success refine c_probe1 (id := 15) ?_); first | refine l_val rfl rfl (by first | exact v_ushr32 rfl rfl | exact v_uand32 rfl rfl (by omega) | exact v_ushl rfl rfl (by omega) | exact pureEval_ok rfl ) ?_ | refine l_nil ?_ | refine c_region ?_ | refine c_seq ?_ | refine x_then ?_ )
    obtain ⟨e, he⟩ : ∃ e, d * 2 ^ s / 4294967296 = e := ⟨_, rfl⟩
    obtain ⟨a, ea⟩ : ∃ a, hi * 2 ^ s + lo / 2 ^ (64 - s) = a := ⟨_, rfl⟩
    obtain ⟨b, eb⟩ : ∃ b, lo * 2 ^ s % 18446744073709551616 / 4294967296 = b := ⟨_, rfl⟩
    obtain ⟨c, ec⟩ : ∃ c, lo * 2 ^ s % 18446744073709551616 % 4294967296 = c := ⟨_, rfl⟩
    rw [he, ea, eb, ec] at H
    have hY := H.y
    rw [he, ea, eb, ec, hY]
    obtain ⟨q1, eq1⟩ : ∃ q1, a / e = q1 := ⟨_, rfl⟩
    obtain ⟨r1, er1⟩ : ∃ r1, a % e = r1 := ⟨_, rfl⟩
    rw [eq1, er1] at H
    obtain ⟨m, em⟩ : ∃ m, r1 * 4294967296 + b = m := ⟨_, rfl⟩
    rw [em] at H
    obtain ⟨q0, eq0⟩ : ∃ q0, m / e = q0 := ⟨_, rfl⟩
    obtain ⟨r0, er0⟩ : ∃ r0, m % e = r0 := ⟨_, rfl⟩
    rw [eq0, er0] at H
    obtain ⟨w1, w2⟩ := H.quot
    obtain ⟨s1, s2, s3, s4, s5⟩ := H.small
    rw [← w1, ← w2]
    have k1 := H.e0
    have k2 := H.e1
    have k3 := H.a1
    have k4 := H.b1
    have k5 := H.c1
    have k6 := H.g1
    have k7 := H.g0
    have k8 := H.f1
    have k9 := H.f0
    clear hlo0 hhi hlq hlq2 hor he ea eb ec hY H w1 w2 l3 er1 er0 hP
    repeat ((fail_if_success refine c_probe (id := 16) ?_); (fail_if_success refine c_probe1 (id := 16) ?_); first | refine l_val rfl rfl (by first | exact v_uquo rfl rfl (by omega) (by omega) | exact pureEval_ok rfl ) ?_ | refine l_nil ?_ | refine c_region ?_ | refine c_seq ?_ | refine x_then ?_ )
    rw [eq1]
    repeat ((fail_if_success refine c_probe (id := 17) ?_); (fail_if_success refine c_probe1 (id := 17) ?_); first | refine l_val rfl rfl (by first | exact v_umul rfl rfl | exact v_usub rfl rfl | exact pureEval_ok rfl ) ?_ | refine l_nil ?_ | refine c_region ?_ | refine c_seq ?_ | refine x_then ?_ | refine c_block ?_ )
    have f1 : ((a : Int) - ((q1 * e % 18446744073709551616 : Nat) : Int)) % 18446744073709551616 = (r1 : Int) := dif_mod1 _ _ _ k8 (by omega)
    rw [f1]
    refine c_loop (ι := Nat) (fun k => k = 0) (fun _ => [(2, .int .u64 ((e * 4294967296 : Nat) : Int)), (8, .int .u64 (s : Int)), (9, .int .u64 (e : Int)), (10, .int .u64 ((0 : Nat) : Int)), (11, .int .u64 (a : Int)), (13, .int .u64 (b : Int)), (14, .int .u64 (c : Int)), (15, .int .u64 (q1 : Int)), (16, .int .u64 (r1 : Int))]) (fun _ => []) (fun _ => 0) 0 rfl (by repeat (first | exact EnvSub.nil | refine EnvSub.cons rfl (by first | rfl | (congr 1; done) | (exact congrArg (Value.int _) (by omega)) | (simp; done)) ?_)) (by repeat (first | exact MSub.nil | refine MSub.keep (by first | rfl | assumption) ?_ | refine MSub.drop ?_ | exact MSub.refl _)) ?_
    rintro _ rfl
    repeat ((fail_if_success refine c_probe (id := 21) ?_); (fail_if_success refine c_probe1 (id := 21) ?_); first | refine l_val rfl rfl (by first | exact v_umul32l rfl rfl | exact v_umul rfl rfl | exact v_uadd rfl rfl | exact pureEval_ok rfl ) ?_ | refine l_nil ?_ | refine c_region ?_ | refine c_seq ?_ | refine x_then ?_ | refine c_false rfl ?_ | refine c_exit ?_ | refine x_then_exit ?_ | refine x_block_same ?_ | refine l_dec_f rfl rfl rfl rfl rfl (by first | omega ) ?_ )
    have f2 : ((((a * 4294967296 % 18446744073709551616 + b) % 18446744073709551616 : Nat) : Int) - ((q1 * (e * 4294967296) % 18446744073709551616 : Nat) : Int)) % 18446744073709551616 = (m : Int) := dif_mod _ _ _ _ (dif_sum k8 em (Nat.mul_assoc _ _ _)) s3
    repeat ((fail_if_success refine c_probe (id := 22) ?_); (fail_if_success refine c_probe1 (id := 22) ?_); first | refine l_val rfl rfl (by first | exact v_umul32 rfl rfl | exact v_umul rfl rfl | exact v_uadd rfl rfl | exact v_usub rfl rfl | exact pureEval_ok rfl ) ?_ | refine l_nil ?_ | refine c_region ?_ | refine c_seq ?_ | refine x_then ?_ )
    rw [f2]
    repeat ((fail_if_success refine c_probe (id := 23) ?_); (fail_if_success refine c_probe1 (id := 23) ?_); first | refine l_val rfl rfl (by first | exact v_uquo rfl rfl (by omega) (by omega) | exact pureEval_ok rfl ) ?_ | refine l_nil ?_ | refine c_region ?_ | refine c_seq ?_ | refine x_then ?_ )
    rw [eq0]
    repeat ((fail_if_success refine c_probe (id := 24) ?_); (fail_if_success refine c_probe1 (id := 24) ?_); first | refine l_val rfl rfl (by first | exact v_umul rfl rfl | exact v_usub rfl rfl | exact pureEval_ok rfl ) ?_ | refine l_nil ?_ | refine c_region ?_ | refine c_seq ?_ | refine x_then ?_ | refine c_block ?_ )
    have f3 : ((m : Int) - ((q0 * e % 18446744073709551616 : Nat) : Int)) % 18446744073709551616 = (r0 : Int) := dif_mod1 _ _ _ k9 (by omega)
    rw [f3]
    refine c_loop (ι := Nat) (fun k => k = 0) (fun _ => [(2, .int .u64 ((e * 4294967296 : Nat) : Int)), (8, .int .u64 (s : Int)), (10, .int .u64 ((0 : Nat) : Int)), (14, .int .u64 (c : Int)), (15, .int .u64 (q1 : Int)), (16, .int .u64 (r0 : Int)), (17, .int .u64 (m : Int)), (18, .int .u64 (q0 : Int))]) (fun _ => []) (fun _ => 0) 0 rfl (by repeat (first | exact EnvSub.nil | refine EnvSub.cons rfl (by first | rfl | (congr 1; done) | (exact congrArg (Value.int _) (by omega)) | (simp; done)) ?_)) (by repeat (first | exact MSub.nil | refine MSub.keep (by first | rfl | assumption) ?_ | refine MSub.drop ?_ | exact MSub.refl _)) ?_
    rintro _ rfl
    repeat ((fail_if_success refine c_probe (id := 28) ?_); (fail_if_success refine c_probe1 (id := 28) ?_); first | refine l_val rfl rfl (by first | exact v_umul32l rfl rfl | exact v_umul rfl rfl | exact v_uadd rfl rfl | exact pureEval_ok rfl ) ?_ | refine l_nil ?_ | refine c_region ?_ | refine c_seq ?_ | refine x_then ?_ | refine c_false rfl ?_ | refine c_exit ?_ | refine x_then_exit ?_ | refine x_block_same ?_ | refine l_dec_f rfl rfl rfl rfl rfl (by first | omega ) ?_ )
    have f4 : ((((m * 4294967296 % 18446744073709551616 + c) % 18446744073709551616 : Nat) : Int) - ((q0 * (e * 4294967296) % 18446744073709551616 : Nat) : Int)) % 18446744073709551616 = ((r0 * 4294967296 + c : Nat) : Int) := dif_mod _ _ _ _ (dif_sum k9 rfl (Nat.mul_assoc _ _ _)) (by omega)
    have f5 : (q1 * 4294967296 % 18446744073709551616 + q0) % 18446744073709551616 = q1 * 4294967296 + q0 := by omega
    repeat (first | refine l_val rfl rfl (by first | exact v_umul32 rfl rfl | exact v_umul rfl rfl | exact v_uadd rfl rfl | exact v_usub rfl rfl | exact pureEval_ok rfl ) ?_ | refine c_region ?_ | refine c_seq ?_ )
    rw [f4]
    repeat (first | refine l_val rfl rfl (by first | exact v_ushr rfl rfl (by omega) | exact pureEval_ok rfl ) ?_ | refine l_nil ?_ | refine x_then ?_ | refine c_ret ?_ )
    rw [f5]
    exact x_ret rfl rfl (by repeat (first | exact Res.nil | (apply Res.tmp; rfl) | (apply Res.cell; rfl; exact (by repeat (first | exact List.Mem.head _ | apply List.Mem.tail)); rfl; rfl))) rfl (fun W hW => ⟨rfl, hW.below⟩)
end R21
end Go.Proofs
