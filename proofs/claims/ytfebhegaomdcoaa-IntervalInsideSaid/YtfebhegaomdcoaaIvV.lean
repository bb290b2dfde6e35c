/- Intervals: squares and roots enclose what they should; walked. -/
import Derived.Test.YtfebhegaomdcoaaIvSp
set_option linter.unusedSectionVars false
set_option linter.unusedVariables false
set_option linter.unusedSimpArgs false
namespace Go.Proofs
open Go.RowKit Go.Kin Go.Kin.Iv
namespace R21

theorem up_is {b : Int} (h0 : 0 ≤ b) (h1 : b ≤ 1099511627776) : 0 ≤ upR b ∧ upR b ≤ 1048576 ∧ b ≤ upR b * upR b ∧ (upR b = 0 ∨ (upR b - 1) * (upR b - 1) < b) ∧ rt b ≤ upR b := by
  obtain ⟨r1, r2, r3⟩ := rt_is h0
  have r4 := rt_le h0 h1
  unfold upR
  split
  · rename_i h
    have : rt b ≠ 1048576 := fun e => by rw [e] at h; omega
    refine ⟨by omega, by omega, by omega, .inr (by rw [show rt b + 1 - 1 = rt b by omega]; exact h), by omega⟩
  · rename_i h
    refine ⟨r1, r4, by omega, ?_, Int.le_refl _⟩
    by_cases hz : rt b = 0
    · exact .inl hz
    · right
      have : (rt b - 1) * (rt b - 1) = rt b * rt b - 2 * rt b + 1 := by grind
      omega
/-- the square's ends -/
theorem sq_ends {a b x : Int} (hv : vB a b = true) (hk : muK a b a b = true) (h1 : a ≤ x) (h2 : x ≤ b) :
    0 ≤ leastV a b * leastV a b ∧ leastV a b * leastV a b ≤ x * x ∧ x * x ≤ mxP a b a b ∧ mxP a b a b ≤ 1099511627776 ∧ -1099511627776 ≤ mnP a b a b ∧ mnP a b a b ≤ leastV a b * leastV a b := by
  obtain ⟨g1, g2, g3⟩ := vB_iff.1 hv
  obtain ⟨n1, n2, n3, n4⟩ := muK_iff.1 hk
  obtain ⟨l1, l2, l3⟩ := least_sq hv hk
  have hx := mu_in (a := a) (b := b) (c := a) (d := b) (x := x) (y := x) h1 h2 h1 h2
  have hx0 : 0 ≤ x * x := by
    rcases Int.lt_or_le x 0 with h | h
    · exact Int.mul_nonneg_of_nonpos_of_nonpos (by omega) (by omega)
    · exact Int.mul_nonneg h h
  refine ⟨l2, ?_, hx.2, by unfold mxP; omega, by unfold mnP; omega, ?_⟩
  · rw [l1]; split
    · exact Int.mul_le_mul h1 h1 (by omega) (by omega)
    · split
      · have := Int.mul_le_mul (a := -b) (b := -b) (c := -x) (d := -x) (by omega) (by omega) (by omega) (by omega)
        rw [Int.neg_mul_neg, Int.neg_mul_neg] at this; exact this
      · exact hx0
  · rw [l1]; split
    · unfold mnP; omega
    · split
      · unfold mnP; omega
      · have : a * b ≤ 0 := Int.mul_nonpos_of_nonpos_of_nonneg (by omega) (by omega)
        unfold mnP; omega
set_option maxHeartbeats 4000000 in
theorem intervalRoots_calls (a b x : Int) (w : World) : Calls Try.prog 7 ⟨[.agg ⟨rgE a b⟩, .int .i64 x]⟩ w fun e w' => e = .returned (.bool true) ∧ Below w.heap.size w w' := by
  refine fun_enter Try.func7 rfl Try.ntmps7 rfl rfl (satW_nil w) ?_
  repeat (first | refine l_val rfl rfl (by first | exact pureEval_ok rfl ) ?_ | refine l_nil ?_ | refine c_region ?_ | refine c_seq ?_ | refine x_then ?_ | refine r_box rfl rfl rfl rfl (fun _ => ?_) )
  refine r_call rfl rfl rfl (fun W hW => sane_calls W) ?_
  repeat (first | refine l_val rfl rfl (by first | exact pureEval_ok rfl | exact v_load rfl (by repeat (first | exact List.Mem.head _ | apply List.Mem.tail)) rfl (by rfl) ) ?_ | refine l_nil ?_ | refine c_region ?_ | refine c_seq ?_ | refine x_then ?_ | refine c_false rfl ?_ | refine c_skip ?_ )
  refine r_call rfl rfl rfl (fun W hW => Check_calls a b W) ?_
  cases h1 : vB a b with
  | false =>
    rw [ck_no h1]
    repeat (first | refine l_val rfl rfl (by first | exact pureEval_ok rfl | exact v_load rfl (by repeat (first | exact List.Mem.head _ | apply List.Mem.tail)) rfl (by rfl) ) ?_ | refine l_nil ?_ | refine c_region ?_ | refine c_seq ?_ | refine x_then ?_ | refine l_skip rfl rfl ?_ | refine c_true rfl ?_ | refine c_ret ?_ | refine x_then_ret ?_ )
    exact x_ret rfl rfl (by repeat (first | exact Res.nil | (apply Res.tmp; rfl) | (apply Res.cell; rfl; exact (by repeat (first | exact List.Mem.head _ | apply List.Mem.tail)); rfl; rfl))) rfl (fun W hW => ⟨by first | rfl | (simp; done) | (simp_all; done), hW.below⟩)
  | true =>
    rw [ck_yes h1]
    obtain ⟨g1, g2, g3⟩ := vB_iff.1 h1
    repeat (first | refine l_val rfl rfl (by first | exact pureEval_ok rfl | exact v_load rfl (by repeat (first | exact List.Mem.head _ | apply List.Mem.tail)) rfl (by rfl) ) ?_ | refine l_dec_f rfl rfl rfl rfl rfl (by first | omega | exact fun h => h rfl ) ?_ )
    refine r_call rfl rfl rfl (fun W hW => holds_calls a b x W) ?_
    by_cases hx : a ≤ x ∧ x ≤ b
    · rw [decide_eq_true hx]
      repeat (first | refine l_val rfl rfl (by first | exact pureEval_ok rfl | exact v_load rfl (by repeat (first | exact List.Mem.head _ | apply List.Mem.tail)) rfl (by rfl) ) ?_ | refine l_nil ?_ | refine c_region ?_ | refine c_seq ?_ | refine x_then ?_ | refine c_false rfl ?_ | refine c_skip ?_ )
      refine r_call rfl rfl rfl (fun W hW => Square_calls a b W) ?_
      repeat (first | refine l_val rfl rfl (by first | exact pureEval_ok rfl | exact v_load rfl (by repeat (first | exact List.Mem.head _ | apply List.Mem.tail)) rfl (by rfl) ) ?_ | refine l_nil ?_ | refine c_region ?_ | refine c_seq ?_ | refine x_then ?_ | refine r_alloc rfl rfl rfl (by first | exact aggL ) (fun _ => ?_) | refine r_store rfl rfl rfl rfl rfl rfl rfl (by repeat (first | exact Upd.head | apply Upd.tail)) (by rfl) ?_ )
      refine r_call rfl rfl rfl (fun W hW => Mul_calls a b a b W) ?_
      repeat ((fail_if_success refine c_probe (id := 9) ?_); (fail_if_success refine c_probe1 (id := 9) ?_); first | refine l_val rfl rfl (by first | exact pureEval_ok rfl ) ?_ | refine l_nil ?_ | refine c_region ?_ | refine c_seq ?_ | refine x_then ?_ | refine r_alloc rfl rfl rfl (by first | exact aggL ) (fun _ => ?_) | refine r_store rfl rfl rfl rfl rfl rfl rfl (by repeat (first | exact Upd.head | apply Upd.tail)) (by rfl) ?_ | refine c_dec_f rfl (by first | omega | exact fun h => h rfl ) ?_ | refine c_skip ?_ )
      rename_i p2 p5 p7
      refine c_join [(1, .int .i64 x), (2, .pointer (some ⟨p2, 0, none⟩))] [(p2, .cells ⟨[.int .i64 a, .int .i64 b]⟩ 23 (0, 0))] ?_ ?_
      · rcases mu_or a b a b h1 h1 with ⟨m1, m2, m3, m4⟩ | ⟨m1, m2⟩
        · have hB : muB a b a b = true := by unfold muB; rw [h1, m2]; rfl
          obtain ⟨s1, s2, s3, s4, s5, s6⟩ := sq_ends h1 m2 hx.1 hx.2
          have hsq : sqL a b = leastV a b * leastV a b := by unfold sqL; rw [hB]; rfl
          rw [m1, m3, m4, hsq]
          have s7 := mn_le_mx a b a b
          generalize mnP a b a b = mn at *
          generalize mxP a b a b = mx at *
          generalize leastV a b * leastV a b = sq at *
          have v1 : vB sq mx = true := vB_iff.2 ⟨by omega, by omega, by omega⟩
          have v2 : vB mn mx = true := vB_iff.2 ⟨by omega, by omega, by omega⟩
          repeat (first | refine l_val rfl rfl (by first | exact pureEval_ok rfl | exact v_load rfl (by repeat (first | exact List.Mem.head _ | apply List.Mem.tail)) rfl (by rfl) ) ?_ | refine l_nil ?_ | refine c_region ?_ | refine c_seq ?_ | refine x_then ?_ | refine c_true rfl ?_ )
          refine r_call rfl rfl rfl (fun W hW => Inside_calls sq mx mn mx W) ?_
          rw [in_ok (by rw [v1, v2]; rfl), decide_eq_true (p := mn ≤ sq ∧ mx ≤ mx) ⟨s6, Int.le_refl _⟩]
          repeat (first | refine l_val rfl rfl (by first | exact v_mul rfl rfl (by omega) (by omega) | exact pureEval_ok rfl | exact v_load rfl (by repeat (first | exact List.Mem.head _ | apply List.Mem.tail)) rfl (by rfl) ) ?_ | refine l_nil ?_ | refine c_region ?_ | refine c_seq ?_ | refine x_then ?_ )
          refine r_call rfl rfl rfl (fun W hW => holds_calls sq mx (x * x) W) ?_
          rw [decide_eq_true (p := sq ≤ x * x ∧ x * x ≤ mx) ⟨s2, s3⟩]
          repeat (first | refine l_val rfl rfl (by first | exact pureEval_ok rfl | exact v_load rfl (by repeat (first | exact List.Mem.head _ | apply List.Mem.tail)) rfl (by rfl) ) ?_ | refine l_nil ?_ | refine x_then ?_ | refine c_dec_f rfl (by first | omega | exact fun h => h rfl ) ?_ | refine c_skip ?_ )
          exact x_mid (by repeat (first | exact EnvSub.nil | refine EnvSub.cons rfl (by first | rfl | (congr 1; done) | (exact congrArg (Value.int _) (by omega)) | (simp; done)) ?_)) (by repeat (first | exact MSub.nil | refine MSub.keep (by first | rfl | assumption) ?_ | refine MSub.drop ?_ | exact MSub.refl _))
        · rw [m1]
          repeat (first | refine l_val rfl rfl (by first | exact pureEval_ok rfl ) ?_ | refine l_nil ?_ | refine c_region ?_ | refine c_seq ?_ | refine x_then ?_ | refine c_false rfl ?_ | refine c_skip ?_ )
          exact x_mid (by repeat (first | exact EnvSub.nil | refine EnvSub.cons rfl (by first | rfl | (congr 1; done) | (exact congrArg (Value.int _) (by omega)) | (simp; done)) ?_)) (by repeat (first | exact MSub.nil | refine MSub.keep (by first | rfl | assumption) ?_ | refine MSub.drop ?_ | exact MSub.refl _))
      · repeat (first | refine l_val rfl rfl (by first | exact v_load rfl (by repeat (first | exact List.Mem.head _ | apply List.Mem.tail)) rfl (by rfl) ) ?_ | refine c_region ?_ | refine c_seq ?_ )
        refine r_call rfl rfl rfl (fun W hW => Root_calls a b W) ?_
        by_cases ha : a < 0
        · rw [ro_neg h1 ha]
          repeat (first | refine l_val rfl rfl (by first | exact pureEval_ok rfl | exact v_load rfl (by repeat (first | exact List.Mem.head _ | apply List.Mem.tail)) rfl (by rfl) | exact v_build rfl rfl (by rfl) | exact v_eqS rfl rfl rfl rfl ) ?_ | refine l_nil ?_ | refine c_region ?_ | refine c_seq ?_ | refine x_then ?_ | refine r_alloc rfl rfl rfl (by first | exact aggL ) (fun _ => ?_) | refine r_store rfl rfl rfl rfl rfl rfl rfl (by repeat (first | exact Upd.head | apply Upd.tail)) (by rfl) ?_ | refine c_dec_t rfl (by first | omega ) ?_ | refine c_ret ?_ | refine x_then_ret ?_ )
          exact x_ret rfl rfl (by repeat (first | exact Res.nil | (apply Res.tmp; rfl) | (apply Res.cell; rfl; exact (by repeat (first | exact List.Mem.head _ | apply List.Mem.tail)); rfl; rfl))) rfl (fun W hW => ⟨by first | rfl | (simp; done) | (simp_all; done), hW.below⟩)
        · rw [ro_yes h1 ha]
          obtain ⟨r1, r2, r3⟩ := rt_is (n := a) (by omega)
          obtain ⟨u1, u2, u3, u4, u5⟩ := up_is (b := b) (by omega) g3
          have r4 := rt_mono (m := a) (n := b) (by omega) g2
          have r5 := rt_le (n := a) (by omega) (by omega)
          generalize rt a = p at *
          generalize rt b = q at *
          generalize upR b = u at *
          have p2 : (p + 1) * (p + 1) ≤ 1048577 * 1048577 := Int.mul_le_mul (by omega) (by omega) (by omega) (by omega)
          have p3 : 0 ≤ p * p := Int.mul_nonneg r1 r1
          have p4 : u * u ≤ 1048576 * 1048576 := Int.mul_le_mul (by omega) (by omega) (by omega) (by omega)
          by_cases hu : u = 0
          · subst hu
            repeat (first | refine l_val rfl rfl (by first | exact v_add rfl rfl (by omega) (by omega) | exact v_mul rfl rfl (by omega) (by omega) | exact pureEval_ok rfl | exact v_load rfl (by repeat (first | exact List.Mem.head _ | apply List.Mem.tail)) rfl (by rfl) ) ?_ | refine l_nil ?_ | refine c_region ?_ | refine c_seq ?_ | refine x_then ?_ | refine l_skip rfl rfl ?_ | refine r_alloc rfl rfl rfl (by first | exact aggL ) (fun _ => ?_) | refine r_store rfl rfl rfl rfl rfl rfl rfl (by repeat (first | exact Upd.head | apply Upd.tail)) (by rfl) ?_ | refine c_dec_f rfl (by first | omega ) ?_ | refine c_skip ?_ | refine c_ret ?_ | refine l_dec_t rfl rfl rfl rfl rfl (by first | omega ) ?_ | refine l_dec_f rfl rfl rfl rfl rfl (by first | omega ) ?_ )
            exact x_ret rfl rfl (by repeat (first | exact Res.nil | (apply Res.tmp; rfl) | (apply Res.cell; rfl; exact (by repeat (first | exact List.Mem.head _ | apply List.Mem.tail)); rfl; rfl))) rfl (fun W hW => ⟨by first | rfl | (simp; done) | (simp_all; done), hW.below⟩)
          · have p5 : 0 ≤ (u - 1) * (u - 1) := Int.mul_nonneg (by omega) (by omega)
            have p6 : (u - 1) * (u - 1) < b := by omega
            repeat (first | refine l_val rfl rfl (by first | exact v_add rfl rfl (by omega) (by omega) | exact v_sub rfl rfl (by omega) (by omega) | exact v_mul rfl rfl (by omega) (by omega) | exact pureEval_ok rfl | exact v_load rfl (by repeat (first | exact List.Mem.head _ | apply List.Mem.tail)) rfl (by rfl) ) ?_ | refine l_nil ?_ | refine c_region ?_ | refine c_seq ?_ | refine x_then ?_ | refine r_alloc rfl rfl rfl (by first | exact aggL ) (fun _ => ?_) | refine r_store rfl rfl rfl rfl rfl rfl rfl (by repeat (first | exact Upd.head | apply Upd.tail)) (by rfl) ?_ | refine c_dec_f rfl (by first | omega ) ?_ | refine c_skip ?_ | refine c_ret ?_ | refine l_dec_t rfl rfl rfl rfl rfl (by first | omega ) ?_ | refine l_dec_f rfl rfl rfl rfl rfl (by first | omega ) ?_ )
            exact x_ret rfl rfl (by repeat (first | exact Res.nil | (apply Res.tmp; rfl) | (apply Res.cell; rfl; exact (by repeat (first | exact List.Mem.head _ | apply List.Mem.tail)); rfl; rfl))) rfl (fun W hW => ⟨by first | rfl | (simp; done) | (simp_all; done), hW.below⟩)
    · rw [decide_eq_false hx]
      repeat (first | refine l_val rfl rfl (by first | exact pureEval_ok rfl ) ?_ | refine l_nil ?_ | refine c_region ?_ | refine c_seq ?_ | refine x_then ?_ | refine c_true rfl ?_ | refine c_ret ?_ | refine x_then_ret ?_ )
      exact x_ret rfl rfl (by repeat (first | exact Res.nil | (apply Res.tmp; rfl) | (apply Res.cell; rfl; exact (by repeat (first | exact List.Mem.head _ | apply List.Mem.tail)); rfl; rfl))) rfl (fun W hW => ⟨by first | rfl | (simp; done) | (simp_all; done), hW.below⟩)
end R21
end Go.Proofs
