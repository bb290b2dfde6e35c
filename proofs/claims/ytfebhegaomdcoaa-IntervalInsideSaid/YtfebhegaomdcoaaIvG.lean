/- Intervals: squares and roots, walked. -/
import Derived.Test.YtfebhegaomdcoaaIvF
set_option linter.unusedSectionVars false
set_option linter.unusedVariables false
set_option linter.unusedSimpArgs false
namespace Go.Proofs
open Go.RowKit Go.Kin Go.Kin.Iv
namespace R21

/-- what Square answers -/
def leastV (a b : Int) : Int := max (max a (-b)) 0
def sqL (a b : Int) : Int := if muB a b a b then leastV a b * leastV a b else 0
def sqV (a b : Int) : Value := .tuple ⟨[.agg ⟨rgE (sqL a b) (muH a b a b)⟩, .int .i64 (muE a b a b)]⟩
theorem sq_not {a b : Int} (h : muB a b a b = false) : sqV a b = muV a b a b := by unfold sqV muV sqL muL; rw [h]; rfl
theorem sq_yes {a b : Int} (h : muB a b a b = true) : sqV a b = .tuple ⟨[.agg ⟨rgE (leastV a b * leastV a b) (muH a b a b)⟩, .int .i64 0]⟩ := by
  have he : muE a b a b = 0 := by
    unfold muB at h
    have h1 : (vB a b && vB a b) = true ∧ muK a b a b = true := by simpa using h
    unfold muE; rw [h1.1, h1.2]; rfl
  unfold sqV sqL; rw [h, he]; rfl
theorem mu_ok {a b c d : Int} (h : muB a b c d = true) : muV a b c d = .tuple ⟨[.agg ⟨rgE (muL a b c d) (muH a b c d)⟩, .int .i64 0]⟩ := by
  have he : muE a b c d = 0 := by
    unfold muB at h
    have h1 : (vB a b && vB c d) = true ∧ muK a b c d = true := by simpa using h
    unfold muE; rw [h1.1, h1.2]; rfl
  unfold muV; rw [he]
theorem mu_err {a b c d : Int} (h : muB a b c d = false) : ∃ e, muV a b c d = .tuple ⟨[.agg ⟨rgE 0 0⟩, .int .i64 e]⟩ ∧ (e = 2 ∨ e = 210) := by
  cases h1 : (vB a b && vB c d) with
  | false => exact ⟨210, mu_bad h1, .inr rfl⟩
  | true =>
    have hk : muK a b c d = false := by
      unfold muB at h; rw [h1] at h; exact h
    exact ⟨2, mu_no h1 hk, .inl rfl⟩
theorem least_sq {a b : Int} (hv : vB a b = true) (hk : muK a b a b = true) : (leastV a b * leastV a b = if a > 0 then a * a else if b < 0 then b * b else 0) ∧ 0 ≤ leastV a b * leastV a b ∧ leastV a b * leastV a b ≤ 1099511627776 := by
  obtain ⟨g1, g2, g3⟩ := vB_iff.1 hv
  obtain ⟨n1, n2, n3, n4⟩ := muK_iff.1 hk
  have key : leastV a b * leastV a b = if a > 0 then a * a else if b < 0 then b * b else 0 := by
    by_cases h1 : a > 0
    · rw [if_pos h1]
      have : leastV a b = a := by unfold leastV; omega
      rw [this]
    · rw [if_neg h1]
      by_cases h2 : b < 0
      · rw [if_pos h2]
        have : leastV a b = -b := by unfold leastV; omega
        rw [this, Int.neg_mul_neg]
      · rw [if_neg h2]
        have : leastV a b = 0 := by unfold leastV; omega
        rw [this]; rfl
  refine ⟨key, ?_, ?_⟩
  · exact Int.mul_nonneg (by unfold leastV; omega) (by unfold leastV; omega)
  · rw [key]; split
    · omega
    · split <;> omega
theorem muB_parts {a b c d : Int} (h : muB a b c d = true) : (vB a b = true ∧ vB c d = true) ∧ muK a b c d = true := by simpa [muB] using h

theorem Square_calls (a b : Int) (w : World) : Calls Try.prog 21 ⟨[.agg ⟨rgE a b⟩]⟩ w fun e w' => e = .returned (sqV a b) ∧ Below w.heap.size w w' := by
  refine fun_enter Try.func21 rfl Try.ntmps21 rfl rfl (satW_nil w) ?_
  repeat (first | refine l_val rfl rfl (by first | exact pureEval_ok rfl | exact v_load rfl (by repeat (first | exact List.Mem.head _ | apply List.Mem.tail)) rfl (by rfl) ) ?_ | refine l_nil ?_ | refine c_region ?_ | refine c_seq ?_ | refine x_then ?_ | refine r_box rfl rfl rfl rfl (fun _ => ?_) | refine r_alloc rfl rfl rfl (by first | exact aggL ) (fun _ => ?_) )
  refine r_call rfl rfl rfl (fun W hW => Mul_calls a b a b W) ?_
  cases h : muB a b a b with
  | true =>
    obtain ⟨⟨h1, _⟩, hK⟩ := muB_parts h
    obtain ⟨g1, g2, g3⟩ := vB_iff.1 h1
    obtain ⟨_, l1, l2⟩ := least_sq h1 hK
    unfold leastV at l1 l2
    rw [mu_ok h, sq_yes h]
    repeat (first | refine l_val rfl rfl (by first | exact v_mul rfl rfl (by omega) (by omega) | exact v_neg rfl (by omega) (by omega) | exact pureEval_ok rfl | exact v_load rfl (by repeat (first | exact List.Mem.head _ | apply List.Mem.tail)) rfl (by rfl) | exact v_build rfl rfl (by rfl) | exact v_max3 rfl rfl rfl ) ?_ | refine l_nil ?_ | refine c_region ?_ | refine c_seq ?_ | refine x_then ?_ | refine r_store rfl rfl rfl rfl rfl rfl rfl (by repeat (first | exact Upd.head | apply Upd.tail)) (by rfl) ?_ | refine c_false rfl ?_ | refine c_skip ?_ | refine c_ret ?_ )
    exact x_ret rfl rfl (by repeat (first | exact Res.nil | (apply Res.tmp; rfl) | (apply Res.cell; rfl; exact (by repeat (first | exact List.Mem.head _ | apply List.Mem.tail)); rfl; rfl))) rfl (fun W hW => ⟨rfl, hW.below⟩)
  | false =>
    rw [sq_not h]
    obtain ⟨e, he, hc⟩ := mu_err h
    rw [he]
    repeat (first | refine l_val rfl rfl (by first | exact pureEval_ok rfl | exact v_load rfl (by repeat (first | exact List.Mem.head _ | apply List.Mem.tail)) rfl (by rfl) ) ?_ | refine l_nil ?_ | refine c_region ?_ | refine c_seq ?_ | refine x_then ?_ | refine r_store rfl rfl rfl rfl rfl rfl rfl (by repeat (first | exact Upd.head | apply Upd.tail)) (by rfl) ?_ | refine c_dec_t rfl (by first | omega ) ?_ | refine c_ret ?_ | refine x_then_ret ?_ )
    exact x_ret rfl rfl (by repeat (first | exact Res.nil | (apply Res.tmp; rfl) | (apply Res.cell; rfl; exact (by repeat (first | exact List.Mem.head _ | apply List.Mem.tail)); rfl; rfl))) rfl (fun W hW => ⟨rfl, hW.below⟩)
theorem rSquare_calls (a b : Int) (w : World) : Calls Try.prog 22 ⟨[.agg ⟨rgE a b⟩]⟩ w fun e w' => e = .returned (sqV a b) ∧ Below w.heap.size w w' := by
  refine fun_enter Try.func22 rfl Try.ntmps22 rfl rfl (satW_nil w) ?_
  repeat (first | refine l_val rfl rfl (by first | exact pureEval_ok rfl | exact v_load rfl (by repeat (first | exact List.Mem.head _ | apply List.Mem.tail)) rfl (by rfl) ) ?_ | refine l_nil ?_ | refine c_region ?_ | refine c_seq ?_ | refine x_then ?_ | refine r_box rfl rfl rfl rfl (fun _ => ?_) | refine r_alloc rfl rfl rfl (by first | exact aggL ) (fun _ => ?_) )
  refine r_call rfl rfl rfl (fun W hW => rMul_calls a b a b W) ?_
  cases h : muB a b a b with
  | true =>
    obtain ⟨⟨h1, _⟩, hK⟩ := muB_parts h
    obtain ⟨g1, g2, g3⟩ := vB_iff.1 h1
    obtain ⟨n1, n2, n3, n4⟩ := muK_iff.1 hK
    obtain ⟨l0, _, _⟩ := least_sq h1 hK
    rw [mu_ok h, sq_yes h, l0]
    by_cases c1 : a > 0
    · have c2 : ¬ b < 0 := by omega
      rw [if_pos c1]
      repeat (first | refine l_val rfl rfl (by first | exact v_mul rfl rfl (by omega) (by omega) | exact pureEval_ok rfl | exact v_load rfl (by repeat (first | exact List.Mem.head _ | apply List.Mem.tail)) rfl (by rfl) | exact v_build rfl rfl (by rfl) ) ?_ | refine l_nil ?_ | refine c_region ?_ | refine c_seq ?_ | refine x_then ?_ | refine r_alloc rfl rfl rfl (by first | exact aggL ) (fun _ => ?_) | refine r_store rfl rfl rfl rfl rfl rfl rfl (by repeat (first | exact Upd.head | apply Upd.tail)) (by rfl) ?_ | refine c_false rfl ?_ | refine c_dec_t rfl (by first | omega ) ?_ | refine c_dec_f rfl (by first | omega ) ?_ | refine c_skip ?_ | refine c_ret ?_ )
      exact x_ret rfl rfl (by repeat (first | exact Res.nil | (apply Res.tmp; rfl) | (apply Res.cell; rfl; exact (by repeat (first | exact List.Mem.head _ | apply List.Mem.tail)); rfl; rfl))) rfl (fun W hW => ⟨rfl, hW.below⟩)
    · rw [if_neg c1]
      by_cases c2 : b < 0
      · rw [if_pos c2]
        repeat (first | refine l_val rfl rfl (by first | exact v_mul rfl rfl (by omega) (by omega) | exact pureEval_ok rfl | exact v_load rfl (by repeat (first | exact List.Mem.head _ | apply List.Mem.tail)) rfl (by rfl) | exact v_build rfl rfl (by rfl) ) ?_ | refine l_nil ?_ | refine c_region ?_ | refine c_seq ?_ | refine x_then ?_ | refine r_alloc rfl rfl rfl (by first | exact aggL ) (fun _ => ?_) | refine r_store rfl rfl rfl rfl rfl rfl rfl (by repeat (first | exact Upd.head | apply Upd.tail)) (by rfl) ?_ | refine c_false rfl ?_ | refine c_dec_t rfl (by first | omega ) ?_ | refine c_dec_f rfl (by first | omega ) ?_ | refine c_skip ?_ | refine c_ret ?_ )
        exact x_ret rfl rfl (by repeat (first | exact Res.nil | (apply Res.tmp; rfl) | (apply Res.cell; rfl; exact (by repeat (first | exact List.Mem.head _ | apply List.Mem.tail)); rfl; rfl))) rfl (fun W hW => ⟨rfl, hW.below⟩)
      · rw [if_neg c2]
        repeat (first | refine l_val rfl rfl (by first | exact pureEval_ok rfl | exact v_load rfl (by repeat (first | exact List.Mem.head _ | apply List.Mem.tail)) rfl (by rfl) | exact v_build rfl rfl (by rfl) ) ?_ | refine l_nil ?_ | refine c_region ?_ | refine c_seq ?_ | refine x_then ?_ | refine r_alloc rfl rfl rfl (by first | exact aggL ) (fun _ => ?_) | refine r_store rfl rfl rfl rfl rfl rfl rfl (by repeat (first | exact Upd.head | apply Upd.tail)) (by rfl) ?_ | refine c_false rfl ?_ | refine c_dec_f rfl (by first | omega ) ?_ | refine c_skip ?_ | refine c_ret ?_ )
        exact x_ret rfl rfl (by repeat (first | exact Res.nil | (apply Res.tmp; rfl) | (apply Res.cell; rfl; exact (by repeat (first | exact List.Mem.head _ | apply List.Mem.tail)); rfl; rfl))) rfl (fun W hW => ⟨rfl, hW.below⟩)
  | false =>
    rw [sq_not h]
    obtain ⟨e, he, hc⟩ := mu_err h
    rw [he]
    repeat (first | refine l_val rfl rfl (by first | exact pureEval_ok rfl | exact v_load rfl (by repeat (first | exact List.Mem.head _ | apply List.Mem.tail)) rfl (by rfl) ) ?_ | refine l_nil ?_ | refine c_region ?_ | refine c_seq ?_ | refine x_then ?_ | refine r_alloc rfl rfl rfl (by first | exact aggL ) (fun _ => ?_) | refine r_store rfl rfl rfl rfl rfl rfl rfl (by repeat (first | exact Upd.head | apply Upd.tail)) (by rfl) ?_ | refine c_dec_t rfl (by first | omega ) ?_ | refine c_ret ?_ | refine x_then_ret ?_ )
    exact x_ret rfl rfl (by repeat (first | exact Res.nil | (apply Res.tmp; rfl) | (apply Res.cell; rfl; exact (by repeat (first | exact List.Mem.head _ | apply List.Mem.tail)); rfl; rfl))) rfl (fun W hW => ⟨rfl, hW.below⟩)

/-! ## Roots -/
theorem root_calls (n : Int) (w : World) (h0 : 0 ≤ n) (h1 : n ≤ 1099511627776) : Calls Try.prog 42 ⟨[.int .i64 n]⟩ w fun e w' => e = .returned (.int .i64 (rt n)) ∧ Below w.heap.size w w' := by
  refine fun_enter Try.func42 rfl Try.ntmps42 rfl rfl (satW_nil w) ?_
  repeat (first | refine l_val rfl rfl (by first | exact pureEval_ok rfl ) ?_ | refine l_nil ?_ | refine c_region ?_ | refine c_seq ?_ | refine x_then ?_ | refine c_block ?_ )
  refine c_loop (ι := Int) (fun r => (0 ≤ r ∧ r ≤ 1048576) ∧ n < (r + 1) * (r + 1)) (fun r => [(0, .int .i64 n), (3, .int .i64 r)]) (fun _ => []) (fun r => r.toNat) 1048576 ⟨by decide, by omega⟩ (by repeat (first | exact EnvSub.nil | refine EnvSub.cons rfl (by first | rfl | (congr 1; done) | (exact congrArg (Value.int _) (by omega)) | (simp; done)) ?_)) (by repeat (first | exact MSub.nil | refine MSub.keep (by first | rfl | assumption) ?_ | refine MSub.drop ?_ | exact MSub.refl _)) ?_
  rintro r ⟨⟨r0, r1⟩, hn⟩
  have hr2 : 0 ≤ r * r ∧ r * r ≤ 1048576 * 1048576 := ⟨Int.mul_nonneg r0 r0, Int.mul_le_mul r1 r1 r0 (by decide)⟩
  by_cases ht : n < r * r
  · have hp : 0 < r := by
      rcases Int.lt_or_le 0 r with h | h
      · exact h
      · have : r = 0 := by omega
        subst this; omega
    have hq0 : 0 ≤ n / r := Int.ediv_nonneg h0 r0
    have hq1 : n / r ≤ n := Int.ediv_le_self r h0
    have hq2 : n / r * r ≤ n := Int.ediv_mul_le n (by omega)
    have hq3 : n < (n / r + 1) * r := Int.lt_ediv_add_one_mul_self n hp
    obtain ⟨s1, s2, s3⟩ := newton h0 hp hq2 hq3 ht (s := (r + n / r) / 2) (by omega) (by omega)
    clear hq2 hq3 hn
    repeat (first | refine l_val rfl rfl (by first | exact v_add rfl rfl (by omega) (by omega) | exact v_mul rfl rfl (by omega) (by omega) | exact pureEval_ok rfl | exact v_quo rfl rfl (by omega) (by omega) (by omega) ) ?_ | refine l_nil ?_ | refine c_region ?_ | refine c_seq ?_ | refine x_then ?_ | refine c_dec_t rfl (by first | omega ) ?_ | refine c_block ?_ | refine c_skip ?_ | refine x_block ?_ )
    exact x_back ((r + n / r) / 2) ⟨⟨s1, by omega⟩, s3⟩ (by omega) (by repeat (first | exact EnvSub.nil | refine EnvSub.cons rfl (by first | rfl | (congr 1; done) | (exact congrArg (Value.int _) (by omega)) | (simp; done)) ?_)) (by repeat (first | exact MSub.nil | refine MSub.keep (by first | rfl | assumption) ?_ | refine MSub.drop ?_ | exact MSub.refl _))
  · have : rt n = r := rt_eq ⟨r0, by omega, hn⟩
    rw [this]
    repeat (first | refine l_val rfl rfl (by first | exact v_mul rfl rfl (by omega) (by omega) | exact pureEval_ok rfl ) ?_ | refine l_nil ?_ | refine c_region ?_ | refine c_seq ?_ | refine x_then ?_ | refine c_dec_f rfl (by first | omega ) ?_ | refine c_ret ?_ | refine c_exit ?_ | refine x_then_exit ?_ | refine x_block_same ?_ )
    exact x_ret rfl rfl (by repeat (first | exact Res.nil | (apply Res.tmp; rfl) | (apply Res.cell; rfl; exact (by repeat (first | exact List.Mem.head _ | apply List.Mem.tail)); rfl; rfl))) rfl (fun W hW => ⟨rfl, hW.below⟩)
def p2 (j : Nat) : Int := 2 ^ j
theorem p2_succ (j : Nat) : p2 (j + 1) = 2 * p2 j := by unfold p2; rw [Int.pow_succ, Int.mul_comm]
theorem p2_half (j : Nat) : p2 (j + 1) / 2 = p2 j := by rw [p2_succ]; omega
theorem p2_pos (j : Nat) : 1 ≤ p2 j := by
  induction j with
  | zero => decide
  | succ j ih => rw [p2_succ]; omega
theorem p2_le {i j : Nat} (h : i ≤ j) : p2 i ≤ p2 j := by
  induction h with
  | refl => exact Int.le_refl _
  | step _ ih => rw [p2_succ]; have := p2_pos ‹Nat›; omega
theorem rroot_calls (n : Int) (w : World) (h0 : 0 ≤ n) (h1 : n ≤ 1099511627776) : Calls Try.prog 43 ⟨[.int .i64 n]⟩ w fun e w' => e = .returned (.int .i64 (rt n)) ∧ Below w.heap.size w w' := by
  refine fun_enter Try.func43 rfl Try.ntmps43 rfl rfl (satW_nil w) ?_
  repeat (first | refine l_val rfl rfl (by first | exact pureEval_ok rfl ) ?_ | refine l_nil ?_ | refine c_region ?_ | refine c_seq ?_ | refine x_then ?_ | refine c_block ?_ )
  refine c_loop (ι := Nat × Int) (fun p => p.1 ≤ 21 ∧ (0 ≤ p.2 ∧ p.2 * p.2 ≤ n) ∧ n < (p.2 + p2 p.1) * (p.2 + p2 p.1)) (fun p => [(0, .int .i64 n), (3, .int .i64 p.2), (4, .int .i64 (p2 p.1 / 2))]) (fun _ => []) (fun p => p.1) (21, 0) ⟨by decide, by omega, by
    show n < (0 + p2 21) * (0 + p2 21)
    have : p2 21 = 2097152 := rfl
    rw [this]; omega⟩ (by repeat (first | exact EnvSub.nil | refine EnvSub.cons rfl (by first | rfl | (congr 1; done) | (exact congrArg (Value.int _) (by omega)) | (simp; done)) ?_)) (by repeat (first | exact MSub.nil | refine MSub.keep (by first | rfl | assumption) ?_ | refine MSub.drop ?_ | exact MSub.refl _)) ?_
  rintro ⟨j, r⟩ ⟨hj, ⟨r0, r1⟩, hn⟩
  simp only at hj r0 r1 hn ⊢
  have hr : r ≤ 1048576 := by
    rcases Int.lt_or_le 1048576 r with h | h
    · exfalso
      have : (1048577 : Int) * 1048577 ≤ r * r := Int.mul_le_mul (by omega) (by omega) (by omega) (by omega)
      omega
    · exact h
  cases j with
  | zero =>
    have e0 : p2 0 / 2 = 0 := by decide
    have : rt n = r := rt_eq ⟨r0, r1, hn⟩
    rw [this, e0]
    repeat (first | refine l_val rfl rfl (by first | exact pureEval_ok rfl ) ?_ | refine l_nil ?_ | refine c_region ?_ | refine c_seq ?_ | refine x_then ?_ | refine c_false rfl ?_ | refine c_ret ?_ | refine c_exit ?_ | refine x_then_exit ?_ | refine x_block_same ?_ )
    exact x_ret rfl rfl (by repeat (first | exact Res.nil | (apply Res.tmp; rfl) | (apply Res.cell; rfl; exact (by repeat (first | exact List.Mem.head _ | apply List.Mem.tail)); rfl; rfl))) rfl (fun W hW => ⟨rfl, hW.below⟩)
  | succ j =>
    rw [p2_half]
    have b1 := p2_pos j
    have b2 : p2 j ≤ 1048576 := p2_le (j := 20) (by omega)
    have hq : 0 ≤ (r + p2 j) * (r + p2 j) ∧ (r + p2 j) * (r + p2 j) ≤ 2097152 * 2097152 := ⟨Int.mul_nonneg (by omega) (by omega), Int.mul_le_mul (by omega) (by omega) (by omega) (by decide)⟩
    rw [p2_succ] at hn
    by_cases ht : (r + p2 j) * (r + p2 j) ≤ n
    · repeat (first | refine l_val rfl rfl (by first | exact v_add rfl rfl (by omega) (by omega) | exact v_mul rfl rfl (by omega) (by omega) | exact pureEval_ok rfl | exact v_quo rfl rfl (by omega) (by omega) (by omega) ) ?_ | refine l_nil ?_ | refine c_region ?_ | refine c_seq ?_ | refine x_then ?_ | refine c_dec_t rfl (by first | omega ) ?_ | refine c_block ?_ | refine c_skip ?_ | refine x_block ?_ )
      exact x_back (j, r + p2 j) ⟨by omega, ⟨by simp only; omega, ht⟩, by
        simp only
        rw [show r + p2 j + p2 j = r + 2 * p2 j by omega]; exact hn⟩ (by simp) (by repeat (first | exact EnvSub.nil | refine EnvSub.cons rfl (by first | rfl | (congr 1; done) | (exact congrArg (Value.int _) (by omega)) | (simp; done)) ?_)) (by repeat (first | exact MSub.nil | refine MSub.keep (by first | rfl | assumption) ?_ | refine MSub.drop ?_ | exact MSub.refl _))
    · repeat (first | refine l_val rfl rfl (by first | exact v_add rfl rfl (by omega) (by omega) | exact v_mul rfl rfl (by omega) (by omega) | exact pureEval_ok rfl | exact v_quo rfl rfl (by omega) (by omega) (by omega) ) ?_ | refine l_nil ?_ | refine c_region ?_ | refine c_seq ?_ | refine x_then ?_ | refine c_dec_t rfl (by first | omega ) ?_ | refine c_dec_f rfl (by first | omega ) ?_ | refine c_block ?_ | refine c_skip ?_ | refine x_block ?_ )
      exact x_back (j, r) ⟨by omega, ⟨r0, r1⟩, by simp only; omega⟩ (by simp) (by repeat (first | exact EnvSub.nil | refine EnvSub.cons rfl (by first | rfl | (congr 1; done) | (exact congrArg (Value.int _) (by omega)) | (simp; done)) ?_)) (by repeat (first | exact MSub.nil | refine MSub.keep (by first | rfl | assumption) ?_ | refine MSub.drop ?_ | exact MSub.refl _))
end R21
end Go.Proofs
