/- Intervals: Scale, walked. -/
import Derived.Test.YtfebhegaomdcoaaSclVal
import Derived.Test.YtfebhegaomdcoaaEng16
import Derived.Test.YtfebhegaomdcoaaRtCk
import Derived.Test.YtfebhegaomdcoaaRtRk
set_option linter.unusedSectionVars false
set_option linter.unusedVariables false
set_option linter.unusedSimpArgs false
namespace Go.Proofs
open Go.RowKit Go.Kin Go.Kin.Iv
namespace R21

def raE (N D : Int) : List Value := [.int .i64 N, .int .i64 D]
set_option maxHeartbeats 4000000 in
theorem around_calls (y : Nat) (x N : Int) (d : Nat) (w : World) (x1 : -1099511627776 ≤ x) (x2 : x ≤ 1099511627776) (n1 : -1073741824 ≤ N) (n2 : N ≤ 1073741824) (d1 : 0 < d) (d2 : d ≤ 1073741824)
    (hy : w.heap[y]? = some (.cells ⟨raE N d⟩ 31 (0, 0))) :
    Calls Try.prog 45 ⟨[.int .i64 x, .pointer (some ⟨y, 0, none⟩)]⟩ w fun e w' => e = .returned (arV x N d) ∧ Below w.heap.size w w' := by
  refine fun_enter Try.func45 rfl Try.ntmps45 rfl rfl (satW_nil w) ?_
  have he : Ext w (base w) y 0 (raE N d) := ⟨lt_of_heap hy, fun i v hi => by
    unfold World.cell?; rw [hy, Nat.zero_add]; simpa using hi⟩
  unfold raE at he
  repeat (first | refine l_val rfl rfl (by first | exact pureEval_ok rfl ) ?_ | refine l_nil ?_ | refine c_region ?_ | refine c_seq ?_ | refine x_then ?_ | refine c_reads rfl (by decide +kernel) ?_ | refine q_val rfl rfl (by first | exact pureEval_ok rfl ) ?_ )
  refine q_call rfl rfl rfl (fun W hW => size_calls x W (by omega) (by omega)) ?_
  repeat (first | refine q_val rfl rfl (by first | exact pureEval_ok rfl | exact v_load_ext0 rfl (by assumption) rfl (by rfl) ) ?_ )
  refine q_call rfl rfl rfl (fun W hW => size_calls N W (by omega) (by omega)) ?_
  skip
  refine q_call rfl rfl rfl (fun W hW => Mul64_calls x.natAbs N.natAbs (by omega) (by omega) W) ?_
  obtain ⟨hi2, ehi⟩ : ∃ h, x.natAbs * N.natAbs / 18446744073709551616 = h := ⟨_, rfl⟩
  obtain ⟨lo2, elo⟩ : ∃ h, x.natAbs * N.natAbs % 18446744073709551616 = h := ⟨_, rfl⟩
  have hP : hi2 * 18446744073709551616 + lo2 = x.natAbs * N.natAbs := by omega
  have hlo : lo2 < 18446744073709551616 := by omega
  rw [ehi, elo]
  clear ehi elo
  have hqr := Nat.div_add_mod (x.natAbs * N.natAbs) d
  have hrl : ra x N d < d := Nat.mod_lt _ d1
  have hq0 : d * qa x N d + ra x N d = x.natAbs * N.natAbs := hqr
  clear hqr
  by_cases c1 : hi2 < d
  · repeat (first | refine l_val rfl rfl (by first | exact v_uconv rfl rfl rfl (by omega) | exact pureEval_ok rfl | exact v_load_ext rfl (by assumption) rfl (by rfl) ) ?_ | refine l_nil ?_ | refine c_region ?_ | refine c_seq ?_ | refine x_then ?_ | refine c_dec_f rfl (by first | omega | exact fun h => h rfl ) ?_ | refine c_skip ?_ | refine q_val rfl rfl (by first | exact pureEval_ok rfl ) ?_ | refine q_nil ?_ )
    refine r_call rfl rfl rfl (fun W hW => Div64_calls hi2 lo2 d W d1 d2 c1 hlo) ?_
    rw [hP, show x.natAbs * N.natAbs / d = qa x N d from rfl, show x.natAbs * N.natAbs % d = ra x N d from rfl]
    by_cases hq : qa x N d ≤ 1099511627776
    · have hO : arO x N d = true := decide_eq_true hq
      rw [ar_yes hO]
      have hsame := around_same (x := x) (N := N) d1
      have hoth := around_other (x := x) (N := N) d1
      generalize qa x N d = q at *
      generalize ra x N d = r at *
      clear hq0 hP
      by_cases hr : 0 < r
      · have hu : up r = 1 := by unfold up; rw [if_pos hr]
        rw [hu] at hsame hoth
        by_cases hx : x < 0
        · by_cases hN : N < 0
          · obtain ⟨e1, e2⟩ := hsame ⟨fun _ => hN, fun _ => hx⟩
            clear hsame hoth
            rw [e1, e2]
            have b1 : decide (x < 0) = true := decide_eq_true hx
            have b2 : decide (N < 0) = true := decide_eq_true hN
            repeat ((fail_if_success refine c_probe (id := 11) ?_); (fail_if_success refine c_probe1 (id := 11) ?_); first | refine l_val rfl rfl (by first | exact v_add rfl rfl (by omega) (by omega) | exact v_iconv rfl rfl rfl (by omega) (by omega) | exact pureEval_ok rfl | exact v_load_ext0 rfl (by assumption) rfl (by rfl) ) ?_ | refine l_nil ?_ | refine c_region ?_ | refine c_seq ?_ | refine x_then ?_ | refine c_dec_t rfl (by first | omega ) ?_ | refine c_dec_f rfl (by first | omega | exact fun h => h rfl ) ?_ | refine c_skip ?_ )
            rw [b1, b2]
            repeat (first | refine l_val rfl rfl (by first | exact pureEval_ok rfl ) ?_ | refine l_nil ?_ | refine c_region ?_ | refine c_seq ?_ | refine x_then ?_ | refine c_false rfl ?_ | refine c_skip ?_ | refine c_ret ?_ )
            exact x_ret rfl rfl (by repeat (first | exact Res.nil | (apply Res.tmp; rfl) | (apply Res.cell; rfl; exact (by repeat (first | exact List.Mem.head _ | apply List.Mem.tail)); rfl; rfl))) rfl (fun W hW => ⟨by first | rfl | (congr 4 <;> omega) | skip, hW.below⟩)
          · obtain ⟨e1, e2⟩ := hoth (fun h => hN (h.1 hx))
            clear hsame hoth
            rw [e1, e2]
            have b1 : decide (x < 0) = true := decide_eq_true hx
            have b2 : decide (N < 0) = false := decide_eq_false hN
            repeat ((fail_if_success refine c_probe (id := 11) ?_); (fail_if_success refine c_probe1 (id := 11) ?_); first | refine l_val rfl rfl (by first | exact v_add rfl rfl (by omega) (by omega) | exact v_iconv rfl rfl rfl (by omega) (by omega) | exact pureEval_ok rfl | exact v_load_ext0 rfl (by assumption) rfl (by rfl) ) ?_ | refine l_nil ?_ | refine c_region ?_ | refine c_seq ?_ | refine x_then ?_ | refine c_dec_t rfl (by first | omega ) ?_ | refine c_dec_f rfl (by first | omega ) ?_ | refine c_skip ?_ )
            rw [b1, b2]
            repeat (first | refine l_val rfl rfl (by first | exact v_neg rfl (by omega) (by omega) | exact pureEval_ok rfl ) ?_ | refine l_nil ?_ | refine c_region ?_ | refine c_seq ?_ | refine x_then ?_ | refine c_true rfl ?_ | refine c_ret ?_ )
            exact x_ret rfl rfl (by repeat (first | exact Res.nil | (apply Res.tmp; rfl) | (apply Res.cell; rfl; exact (by repeat (first | exact List.Mem.head _ | apply List.Mem.tail)); rfl; rfl))) rfl (fun W hW => ⟨by first | rfl | (congr 4 <;> omega) | skip, hW.below⟩)
        · by_cases hN : N < 0
          · obtain ⟨e1, e2⟩ := hoth (fun h => hx (h.2 hN))
            clear hsame hoth
            rw [e1, e2]
            have b1 : decide (x < 0) = false := decide_eq_false hx
            have b2 : decide (N < 0) = true := decide_eq_true hN
            repeat ((fail_if_success refine c_probe (id := 11) ?_); (fail_if_success refine c_probe1 (id := 11) ?_); first | refine l_val rfl rfl (by first | exact v_add rfl rfl (by omega) (by omega) | exact v_iconv rfl rfl rfl (by omega) (by omega) | exact pureEval_ok rfl | exact v_load_ext0 rfl (by assumption) rfl (by rfl) ) ?_ | refine l_nil ?_ | refine c_region ?_ | refine c_seq ?_ | refine x_then ?_ | refine c_dec_t rfl (by first | omega ) ?_ | refine c_dec_f rfl (by first | omega ) ?_ | refine c_skip ?_ )
            rw [b1, b2]
            repeat (first | refine l_val rfl rfl (by first | exact v_neg rfl (by omega) (by omega) | exact pureEval_ok rfl ) ?_ | refine l_nil ?_ | refine c_region ?_ | refine c_seq ?_ | refine x_then ?_ | refine c_true rfl ?_ | refine c_ret ?_ )
            exact x_ret rfl rfl (by repeat (first | exact Res.nil | (apply Res.tmp; rfl) | (apply Res.cell; rfl; exact (by repeat (first | exact List.Mem.head _ | apply List.Mem.tail)); rfl; rfl))) rfl (fun W hW => ⟨by first | rfl | (congr 4 <;> omega) | skip, hW.below⟩)
          · obtain ⟨e1, e2⟩ := hsame ⟨fun h => absurd h hx, fun h => absurd h hN⟩
            clear hsame hoth
            rw [e1, e2]
            have b1 : decide (x < 0) = false := decide_eq_false hx
            have b2 : decide (N < 0) = false := decide_eq_false hN
            repeat ((fail_if_success refine c_probe (id := 11) ?_); (fail_if_success refine c_probe1 (id := 11) ?_); first | refine l_val rfl rfl (by first | exact v_add rfl rfl (by omega) (by omega) | exact v_iconv rfl rfl rfl (by omega) (by omega) | exact pureEval_ok rfl | exact v_load_ext0 rfl (by assumption) rfl (by rfl) ) ?_ | refine l_nil ?_ | refine c_region ?_ | refine c_seq ?_ | refine x_then ?_ | refine c_dec_t rfl (by first | omega ) ?_ | refine c_dec_f rfl (by first | omega ) ?_ | refine c_skip ?_ )
            rw [b1, b2]
            repeat (first | refine l_val rfl rfl (by first | exact pureEval_ok rfl ) ?_ | refine l_nil ?_ | refine c_region ?_ | refine c_seq ?_ | refine x_then ?_ | refine c_false rfl ?_ | refine c_skip ?_ | refine c_ret ?_ )
            exact x_ret rfl rfl (by repeat (first | exact Res.nil | (apply Res.tmp; rfl) | (apply Res.cell; rfl; exact (by repeat (first | exact List.Mem.head _ | apply List.Mem.tail)); rfl; rfl))) rfl (fun W hW => ⟨by first | rfl | (congr 4 <;> omega) | skip, hW.below⟩)
      · have hu : up r = 0 := by unfold up; rw [if_neg hr]
        rw [hu] at hsame hoth
        by_cases hx : x < 0
        · by_cases hN : N < 0
          · obtain ⟨e1, e2⟩ := hsame ⟨fun _ => hN, fun _ => hx⟩
            clear hsame hoth
            rw [e1, e2]
            have b1 : decide (x < 0) = true := decide_eq_true hx
            have b2 : decide (N < 0) = true := decide_eq_true hN
            repeat ((fail_if_success refine c_probe (id := 11) ?_); (fail_if_success refine c_probe1 (id := 11) ?_); first | refine l_val rfl rfl (by first | exact v_iconv rfl rfl rfl (by omega) (by omega) | exact pureEval_ok rfl | exact v_load_ext0 rfl (by assumption) rfl (by rfl) ) ?_ | refine l_nil ?_ | refine c_region ?_ | refine c_seq ?_ | refine x_then ?_ | refine c_dec_f rfl (by first | omega ) ?_ | refine c_skip ?_ )
            rw [b1, b2]
            repeat (first | refine l_val rfl rfl (by first | exact pureEval_ok rfl ) ?_ | refine l_nil ?_ | refine c_region ?_ | refine c_seq ?_ | refine x_then ?_ | refine c_false rfl ?_ | refine c_skip ?_ | refine c_ret ?_ )
            exact x_ret rfl rfl (by repeat (first | exact Res.nil | (apply Res.tmp; rfl) | (apply Res.cell; rfl; exact (by repeat (first | exact List.Mem.head _ | apply List.Mem.tail)); rfl; rfl))) rfl (fun W hW => ⟨by first | rfl | (congr 4 <;> omega) | skip, hW.below⟩)
          · obtain ⟨e1, e2⟩ := hoth (fun h => hN (h.1 hx))
            clear hsame hoth
            rw [e1, e2]
            have b1 : decide (x < 0) = true := decide_eq_true hx
            have b2 : decide (N < 0) = false := decide_eq_false hN
            repeat ((fail_if_success refine c_probe (id := 11) ?_); (fail_if_success refine c_probe1 (id := 11) ?_); first | refine l_val rfl rfl (by first | exact v_iconv rfl rfl rfl (by omega) (by omega) | exact pureEval_ok rfl | exact v_load_ext0 rfl (by assumption) rfl (by rfl) ) ?_ | refine l_nil ?_ | refine c_region ?_ | refine c_seq ?_ | refine x_then ?_ | refine c_dec_f rfl (by first | omega ) ?_ | refine c_skip ?_ )
            rw [b1, b2]
            repeat (first | refine l_val rfl rfl (by first | exact v_neg rfl (by omega) (by omega) | exact pureEval_ok rfl ) ?_ | refine l_nil ?_ | refine c_region ?_ | refine c_seq ?_ | refine x_then ?_ | refine c_true rfl ?_ | refine c_ret ?_ )
            exact x_ret rfl rfl (by repeat (first | exact Res.nil | (apply Res.tmp; rfl) | (apply Res.cell; rfl; exact (by repeat (first | exact List.Mem.head _ | apply List.Mem.tail)); rfl; rfl))) rfl (fun W hW => ⟨by first | rfl | (congr 4 <;> omega) | skip, hW.below⟩)
        · by_cases hN : N < 0
          · obtain ⟨e1, e2⟩ := hoth (fun h => hx (h.2 hN))
            clear hsame hoth
            rw [e1, e2]
            have b1 : decide (x < 0) = false := decide_eq_false hx
            have b2 : decide (N < 0) = true := decide_eq_true hN
            repeat ((fail_if_success refine c_probe (id := 11) ?_); (fail_if_success refine c_probe1 (id := 11) ?_); first | refine l_val rfl rfl (by first | exact v_iconv rfl rfl rfl (by omega) (by omega) | exact pureEval_ok rfl | exact v_load_ext0 rfl (by assumption) rfl (by rfl) ) ?_ | refine l_nil ?_ | refine c_region ?_ | refine c_seq ?_ | refine x_then ?_ | refine c_dec_f rfl (by first | omega ) ?_ | refine c_skip ?_ )
            rw [b1, b2]
            repeat (first | refine l_val rfl rfl (by first | exact v_neg rfl (by omega) (by omega) | exact pureEval_ok rfl ) ?_ | refine l_nil ?_ | refine c_region ?_ | refine c_seq ?_ | refine x_then ?_ | refine c_true rfl ?_ | refine c_ret ?_ )
            exact x_ret rfl rfl (by repeat (first | exact Res.nil | (apply Res.tmp; rfl) | (apply Res.cell; rfl; exact (by repeat (first | exact List.Mem.head _ | apply List.Mem.tail)); rfl; rfl))) rfl (fun W hW => ⟨by first | rfl | (congr 4 <;> omega) | skip, hW.below⟩)
          · obtain ⟨e1, e2⟩ := hsame ⟨fun h => absurd h hx, fun h => absurd h hN⟩
            clear hsame hoth
            rw [e1, e2]
            have b1 : decide (x < 0) = false := decide_eq_false hx
            have b2 : decide (N < 0) = false := decide_eq_false hN
            repeat ((fail_if_success refine c_probe (id := 11) ?_); (fail_if_success refine c_probe1 (id := 11) ?_); first | refine l_val rfl rfl (by first | exact v_iconv rfl rfl rfl (by omega) (by omega) | exact pureEval_ok rfl | exact v_load_ext0 rfl (by assumption) rfl (by rfl) ) ?_ | refine l_nil ?_ | refine c_region ?_ | refine c_seq ?_ | refine x_then ?_ | refine c_dec_f rfl (by first | omega ) ?_ | refine c_skip ?_ )
            rw [b1, b2]
            repeat (first | refine l_val rfl rfl (by first | exact pureEval_ok rfl ) ?_ | refine l_nil ?_ | refine c_region ?_ | refine c_seq ?_ | refine x_then ?_ | refine c_false rfl ?_ | refine c_skip ?_ | refine c_ret ?_ )
            exact x_ret rfl rfl (by repeat (first | exact Res.nil | (apply Res.tmp; rfl) | (apply Res.cell; rfl; exact (by repeat (first | exact List.Mem.head _ | apply List.Mem.tail)); rfl; rfl))) rfl (fun W hW => ⟨by first | rfl | (congr 4 <;> omega) | skip, hW.below⟩)
    · have hO : arO x N d = false := decide_eq_false hq
      rw [ar_no hO]
      clear hq0 hP
      repeat (first | refine l_val rfl rfl (by first | exact pureEval_ok rfl ) ?_ | refine l_nil ?_ | refine c_region ?_ | refine c_seq ?_ | refine x_then ?_ | refine c_dec_t rfl (by first | omega ) ?_ | refine c_ret ?_ | refine x_then_ret ?_ )
      exact x_ret rfl rfl (by repeat (first | exact Res.nil | (apply Res.tmp; rfl) | (apply Res.cell; rfl; exact (by repeat (first | exact List.Mem.head _ | apply List.Mem.tail)); rfl; rfl))) rfl (fun W hW => ⟨by first | rfl | (simp; done) | (simp_all; done), hW.below⟩)
  · have hO : arO x N d = false := by
      have h3 : d * 18446744073709551616 ≤ hi2 * 18446744073709551616 := Nat.mul_le_mul_right _ (by omega)
      have h4 : d * 18446744073709551615 < d * qa x N d := by omega
      have h5 := Nat.lt_of_mul_lt_mul_left h4
      exact decide_eq_false (by omega)
    rw [ar_no hO]
    clear hq0 hP
    repeat (first | refine l_val rfl rfl (by first | exact v_uconv rfl rfl rfl (by omega) | exact pureEval_ok rfl | exact v_load_ext rfl (by assumption) rfl (by rfl) ) ?_ | refine l_nil ?_ | refine c_region ?_ | refine c_seq ?_ | refine x_then ?_ | refine c_dec_t rfl (by first | omega ) ?_ | refine c_ret ?_ | refine x_then_ret ?_ | refine q_val rfl rfl (by first | exact pureEval_ok rfl ) ?_ | refine q_nil ?_ )
    exact x_ret rfl rfl (by repeat (first | exact Res.nil | (apply Res.tmp; rfl) | (apply Res.cell; rfl; exact (by repeat (first | exact List.Mem.head _ | apply List.Mem.tail)); rfl; rfl))) rfl (fun W hW => ⟨by first | rfl | (simp; done) | (simp_all; done), hW.below⟩)
end R21
end Go.Proofs
