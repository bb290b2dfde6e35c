/- Intervals: intersection and hull are what they should be; walked. Printed by gen_lattice.py. -/
import Derived.Test.YtfebhegaomdcoaaIvSp
set_option linter.unusedSectionVars false
set_option linter.unusedVariables false
set_option linter.unusedSimpArgs false
namespace Go.Proofs
open Go.RowKit Go.Kin Go.Kin.Iv
namespace R21

set_option maxHeartbeats 8000000 in
theorem intervalLattice_calls (a b c d e f x : Int) (w : World) : Calls Try.prog 11 ⟨[.agg ⟨rgE a b⟩, .agg ⟨rgE c d⟩, .agg ⟨rgE e f⟩, .int .i64 x]⟩ w fun e w' => e = .returned (.bool true) ∧ Below w.heap.size w w' := by
  refine fun_enter Try.func11 rfl Try.ntmps11 rfl rfl (satW_nil w) ?_
  repeat (first | refine l_val rfl rfl (by first | exact pureEval_ok rfl ) ?_ | refine l_nil ?_ | refine c_region ?_ | refine c_seq ?_ | refine x_then ?_ | refine r_box rfl rfl rfl rfl (fun _ => ?_) )
  refine r_call rfl rfl rfl (fun W hW => sane_calls W) ?_
  repeat (first | refine l_val rfl rfl (by first | exact pureEval_ok rfl | exact v_load rfl (by repeat (first | exact List.Mem.head _ | apply List.Mem.tail)) rfl (by rfl) ) ?_ | refine l_nil ?_ | refine c_region ?_ | refine c_seq ?_ | refine x_then ?_ | refine c_false rfl ?_ | refine c_skip ?_ )
  refine r_call rfl rfl rfl (fun W hW => Meet_calls a b c d W) ?_
  cases h : (vB a b && vB c d) with
  | false =>
    rw [mt_bad h]
    repeat (first | refine l_val rfl rfl (by first | exact pureEval_ok rfl | exact v_load rfl (by repeat (first | exact List.Mem.head _ | apply List.Mem.tail)) rfl (by rfl) ) ?_ | refine l_nil ?_ | refine c_region ?_ | refine c_seq ?_ | refine x_then ?_ | refine r_alloc rfl rfl rfl (by first | exact aggL ) (fun _ => ?_) | refine r_store rfl rfl rfl rfl rfl rfl rfl (by repeat (first | exact Upd.head | apply Upd.tail)) (by rfl) ?_ )
    refine r_call rfl rfl rfl (fun W hW => Hull_calls a b c d W) ?_
    rw [hu_bad h]
    repeat (first | refine l_val rfl rfl (by first | exact pureEval_ok rfl | exact v_load rfl (by repeat (first | exact List.Mem.head _ | apply List.Mem.tail)) rfl (by rfl) | exact v_build rfl rfl (by rfl) | exact v_eqS rfl rfl rfl rfl ) ?_ | refine l_nil ?_ | refine c_region ?_ | refine c_seq ?_ | refine x_then ?_ | refine l_skip rfl rfl ?_ | refine r_alloc rfl rfl rfl (by first | exact aggL ) (fun _ => ?_) | refine r_store rfl rfl rfl rfl rfl rfl rfl (by repeat (first | exact Upd.head | apply Upd.tail)) (by rfl) ?_ | refine c_true rfl ?_ | refine c_ret ?_ | refine x_then_ret ?_ )
    exact x_ret rfl rfl (by repeat (first | exact Res.nil | (apply Res.tmp; rfl) | (apply Res.cell; rfl; exact (by repeat (first | exact List.Mem.head _ | apply List.Mem.tail)); rfl; rfl))) rfl (fun W hW => ⟨by first | rfl | (simp; done) | (simp_all; done), hW.below⟩)
  | true =>
    obtain ⟨h1, h2⟩ := both h
    obtain ⟨g1, g2, g3⟩ := vB_iff.1 h1
    obtain ⟨k1, k2, k3⟩ := vB_iff.1 h2
    have h3 : vB (min a c) (max b d) = true := vB_iff.2 ⟨by omega, by omega, by omega⟩
    obtain ⟨cl, ch, cb, hc, sc⟩ : ∃ cl ch cb, mtV a b c d = .tuple ⟨[.agg ⟨rgE cl ch⟩, .bool cb, .int .i64 0]⟩ ∧ ((cb = true ∧ cl = max a c ∧ ch = min b d ∧ cl ≤ ch) ∨ (cb = false ∧ cl = 0 ∧ ch = 0 ∧ ¬ max a c ≤ min b d)) := by
      by_cases hm : max a c ≤ min b d
      · exact ⟨_, _, _, mt_yes h hm, .inl ⟨rfl, rfl, rfl, hm⟩⟩
      · exact ⟨_, _, _, mt_no h hm, .inr ⟨rfl, rfl, rfl, hm⟩⟩
    rw [hc]
    repeat (first | refine l_val rfl rfl (by first | exact pureEval_ok rfl | exact v_load rfl (by repeat (first | exact List.Mem.head _ | apply List.Mem.tail)) rfl (by rfl) ) ?_ | refine l_nil ?_ | refine c_region ?_ | refine c_seq ?_ | refine x_then ?_ | refine r_alloc rfl rfl rfl (by first | exact aggL ) (fun _ => ?_) | refine r_store rfl rfl rfl rfl rfl rfl rfl (by repeat (first | exact Upd.head | apply Upd.tail)) (by rfl) ?_ )
    refine r_call rfl rfl rfl (fun W hW => Hull_calls a b c d W) ?_
    rw [hu_yes h]
    repeat ((fail_if_success refine c_probe (id := 7) ?_); (fail_if_success refine c_probe1 (id := 7) ?_); first | refine l_val rfl rfl (by first | exact pureEval_ok rfl ) ?_ | refine l_nil ?_ | refine c_region ?_ | refine c_seq ?_ | refine x_then ?_ | refine r_alloc rfl rfl rfl (by first | exact aggL ) (fun _ => ?_) | refine r_store rfl rfl rfl rfl rfl rfl rfl (by repeat (first | exact Upd.head | apply Upd.tail)) (by rfl) ?_ | refine c_false rfl ?_ | refine c_skip ?_ )
    rename_i p4 p5 p6 p9 p12
    refine c_join [(4, .pointer (some ⟨p4, 0, none⟩)), (5, .pointer (some ⟨p5, 0, none⟩)), (6, .pointer (some ⟨p6, 0, none⟩)), (12, .pointer (some ⟨p12, 0, none⟩))] [(p12, .cells ⟨[.int .i64 (min a c), .int .i64 (max b d)]⟩ 23 (0, 0)), (p6, .cells ⟨[.int .i64 e, .int .i64 f]⟩ 23 (0, 0)), (p5, .cells ⟨[.int .i64 c, .int .i64 d]⟩ 23 (0, 0)), (p4, .cells ⟨[.int .i64 a, .int .i64 b]⟩ 23 (0, 0))] ?_ ?_
    · rcases sc with ⟨rfl, s2, s3, s4⟩ | ⟨rfl, rfl, rfl, s4⟩
      · by_cases hx : a ≤ x ∧ x ≤ b
        · by_cases hy : c ≤ x ∧ x ≤ d
          · skip
            repeat (first | refine c_seq ?_ | refine c_reads rfl (by decide +kernel) ?_ | refine q_val rfl rfl (by first | exact pureEval_ok rfl | exact v_load rfl (by repeat (first | exact List.Mem.head _ | apply List.Mem.tail)) rfl (by rfl) ) ?_ )
            refine q_call rfl rfl rfl (fun W hW => holds_calls cl ch x W) ?_
            rw [decide_eq_true (p := cl ≤ x ∧ x ≤ ch) (by omega)]
            repeat (first | refine q_val rfl rfl (by first | exact pureEval_ok rfl | exact v_load rfl (by repeat (first | exact List.Mem.head _ | apply List.Mem.tail)) rfl (by rfl) ) ?_ )
            refine q_call rfl rfl rfl (fun W hW => holds_calls a b x W) ?_
            rw [decide_eq_true hx]
            repeat (first | refine q_val rfl rfl (by first | exact pureEval_ok rfl | exact v_load rfl (by repeat (first | exact List.Mem.head _ | apply List.Mem.tail)) rfl (by rfl) ) ?_ )
            refine q_call rfl rfl rfl (fun W hW => holds_calls c d x W) ?_
            rw [decide_eq_true hy]
            repeat (first | refine x_then ?_ | refine c_dec_f rfl (by first | omega | exact fun h => h rfl ) ?_ | refine c_skip ?_ | refine q_val rfl rfl (by first | exact pureEval_ok rfl | exact v_load rfl (by repeat (first | exact List.Mem.head _ | apply List.Mem.tail)) rfl (by rfl) | exact v_build rfl rfl (by rfl) ) ?_ | refine q_nil ?_ | refine q_skip rfl rfl ?_ )
            exact x_mid (by repeat (first | exact EnvSub.nil | refine EnvSub.cons rfl (by first | rfl | (congr 1; done) | (exact congrArg (Value.int _) (by omega)) | (simp; done)) ?_)) (by repeat (first | exact MSub.nil | refine MSub.keep (by first | rfl | assumption) ?_ | refine MSub.drop ?_ | exact MSub.refl _))
          · skip
            repeat (first | refine c_seq ?_ | refine c_reads rfl (by decide +kernel) ?_ | refine q_val rfl rfl (by first | exact pureEval_ok rfl | exact v_load rfl (by repeat (first | exact List.Mem.head _ | apply List.Mem.tail)) rfl (by rfl) ) ?_ )
            refine q_call rfl rfl rfl (fun W hW => holds_calls cl ch x W) ?_
            rw [decide_eq_false (p := cl ≤ x ∧ x ≤ ch) (by omega)]
            repeat (first | refine q_val rfl rfl (by first | exact pureEval_ok rfl | exact v_load rfl (by repeat (first | exact List.Mem.head _ | apply List.Mem.tail)) rfl (by rfl) ) ?_ )
            refine q_call rfl rfl rfl (fun W hW => holds_calls a b x W) ?_
            rw [decide_eq_true hx]
            repeat (first | refine q_val rfl rfl (by first | exact pureEval_ok rfl | exact v_load rfl (by repeat (first | exact List.Mem.head _ | apply List.Mem.tail)) rfl (by rfl) ) ?_ )
            refine q_call rfl rfl rfl (fun W hW => holds_calls c d x W) ?_
            rw [decide_eq_false hy]
            repeat (first | refine x_then ?_ | refine c_dec_f rfl (by first | omega ) ?_ | refine c_skip ?_ | refine q_val rfl rfl (by first | exact pureEval_ok rfl | exact v_load rfl (by repeat (first | exact List.Mem.head _ | apply List.Mem.tail)) rfl (by rfl) | exact v_build rfl rfl (by rfl) ) ?_ | refine q_nil ?_ | refine q_skip rfl rfl ?_ )
            exact x_mid (by repeat (first | exact EnvSub.nil | refine EnvSub.cons rfl (by first | rfl | (congr 1; done) | (exact congrArg (Value.int _) (by omega)) | (simp; done)) ?_)) (by repeat (first | exact MSub.nil | refine MSub.keep (by first | rfl | assumption) ?_ | refine MSub.drop ?_ | exact MSub.refl _))
        · by_cases hy : c ≤ x ∧ x ≤ d
          · skip
            repeat (first | refine c_seq ?_ | refine c_reads rfl (by decide +kernel) ?_ | refine q_val rfl rfl (by first | exact pureEval_ok rfl | exact v_load rfl (by repeat (first | exact List.Mem.head _ | apply List.Mem.tail)) rfl (by rfl) ) ?_ )
            refine q_call rfl rfl rfl (fun W hW => holds_calls cl ch x W) ?_
            rw [decide_eq_false (p := cl ≤ x ∧ x ≤ ch) (by omega)]
            repeat (first | refine q_val rfl rfl (by first | exact pureEval_ok rfl | exact v_load rfl (by repeat (first | exact List.Mem.head _ | apply List.Mem.tail)) rfl (by rfl) ) ?_ )
            refine q_call rfl rfl rfl (fun W hW => holds_calls a b x W) ?_
            rw [decide_eq_false hx]
            repeat (first | refine x_then ?_ | refine c_dec_f rfl (by first | omega ) ?_ | refine c_skip ?_ | refine q_val rfl rfl (by first | exact pureEval_ok rfl | exact v_load rfl (by repeat (first | exact List.Mem.head _ | apply List.Mem.tail)) rfl (by rfl) | exact v_build rfl rfl (by rfl) ) ?_ | refine q_nil ?_ | refine q_skip rfl rfl ?_ )
            exact x_mid (by repeat (first | exact EnvSub.nil | refine EnvSub.cons rfl (by first | rfl | (congr 1; done) | (exact congrArg (Value.int _) (by omega)) | (simp; done)) ?_)) (by repeat (first | exact MSub.nil | refine MSub.keep (by first | rfl | assumption) ?_ | refine MSub.drop ?_ | exact MSub.refl _))
          · skip
            repeat (first | refine c_seq ?_ | refine c_reads rfl (by decide +kernel) ?_ | refine q_val rfl rfl (by first | exact pureEval_ok rfl | exact v_load rfl (by repeat (first | exact List.Mem.head _ | apply List.Mem.tail)) rfl (by rfl) ) ?_ )
            refine q_call rfl rfl rfl (fun W hW => holds_calls cl ch x W) ?_
            rw [decide_eq_false (p := cl ≤ x ∧ x ≤ ch) (by omega)]
            repeat (first | refine q_val rfl rfl (by first | exact pureEval_ok rfl | exact v_load rfl (by repeat (first | exact List.Mem.head _ | apply List.Mem.tail)) rfl (by rfl) ) ?_ )
            refine q_call rfl rfl rfl (fun W hW => holds_calls a b x W) ?_
            rw [decide_eq_false hx]
            repeat (first | refine x_then ?_ | refine c_dec_f rfl (by first | omega ) ?_ | refine c_skip ?_ | refine q_val rfl rfl (by first | exact pureEval_ok rfl | exact v_load rfl (by repeat (first | exact List.Mem.head _ | apply List.Mem.tail)) rfl (by rfl) | exact v_build rfl rfl (by rfl) ) ?_ | refine q_nil ?_ | refine q_skip rfl rfl ?_ )
            exact x_mid (by repeat (first | exact EnvSub.nil | refine EnvSub.cons rfl (by first | rfl | (congr 1; done) | (exact congrArg (Value.int _) (by omega)) | (simp; done)) ?_)) (by repeat (first | exact MSub.nil | refine MSub.keep (by first | rfl | assumption) ?_ | refine MSub.drop ?_ | exact MSub.refl _))
      · by_cases hx : a ≤ x ∧ x ≤ b
        · by_cases hy : c ≤ x ∧ x ≤ d
          · exfalso; omega
          · skip
            repeat (first | refine c_seq ?_ | refine c_reads rfl (by decide +kernel) ?_ | refine q_val rfl rfl (by first | exact pureEval_ok rfl | exact v_load rfl (by repeat (first | exact List.Mem.head _ | apply List.Mem.tail)) rfl (by rfl) ) ?_ | refine q_skip rfl rfl ?_ )
            refine q_call rfl rfl rfl (fun W hW => holds_calls a b x W) ?_
            rw [decide_eq_true hx]
            repeat (first | refine q_val rfl rfl (by first | exact pureEval_ok rfl | exact v_load rfl (by repeat (first | exact List.Mem.head _ | apply List.Mem.tail)) rfl (by rfl) ) ?_ )
            refine q_call rfl rfl rfl (fun W hW => holds_calls c d x W) ?_
            rw [decide_eq_false hy]
            repeat (first | refine x_then ?_ | refine c_false rfl ?_ | refine c_skip ?_ | refine q_val rfl rfl (by first | exact pureEval_ok rfl | exact v_load rfl (by repeat (first | exact List.Mem.head _ | apply List.Mem.tail)) rfl (by rfl) | exact v_build rfl rfl (by rfl) | exact v_neS rfl rfl rfl rfl ) ?_ | refine q_nil ?_ | refine q_skip rfl rfl ?_ )
            exact x_mid (by repeat (first | exact EnvSub.nil | refine EnvSub.cons rfl (by first | rfl | (congr 1; done) | (exact congrArg (Value.int _) (by omega)) | (simp; done)) ?_)) (by repeat (first | exact MSub.nil | refine MSub.keep (by first | rfl | assumption) ?_ | refine MSub.drop ?_ | exact MSub.refl _))
        · by_cases hy : c ≤ x ∧ x ≤ d
          · skip
            repeat (first | refine c_seq ?_ | refine c_reads rfl (by decide +kernel) ?_ | refine q_val rfl rfl (by first | exact pureEval_ok rfl | exact v_load rfl (by repeat (first | exact List.Mem.head _ | apply List.Mem.tail)) rfl (by rfl) ) ?_ | refine q_skip rfl rfl ?_ )
            refine q_call rfl rfl rfl (fun W hW => holds_calls a b x W) ?_
            rw [decide_eq_false hx]
            repeat (first | refine x_then ?_ | refine c_false rfl ?_ | refine c_skip ?_ | refine q_val rfl rfl (by first | exact pureEval_ok rfl | exact v_load rfl (by repeat (first | exact List.Mem.head _ | apply List.Mem.tail)) rfl (by rfl) | exact v_build rfl rfl (by rfl) | exact v_neS rfl rfl rfl rfl ) ?_ | refine q_nil ?_ | refine q_skip rfl rfl ?_ )
            exact x_mid (by repeat (first | exact EnvSub.nil | refine EnvSub.cons rfl (by first | rfl | (congr 1; done) | (exact congrArg (Value.int _) (by omega)) | (simp; done)) ?_)) (by repeat (first | exact MSub.nil | refine MSub.keep (by first | rfl | assumption) ?_ | refine MSub.drop ?_ | exact MSub.refl _))
          · skip
            repeat (first | refine c_seq ?_ | refine c_reads rfl (by decide +kernel) ?_ | refine q_val rfl rfl (by first | exact pureEval_ok rfl | exact v_load rfl (by repeat (first | exact List.Mem.head _ | apply List.Mem.tail)) rfl (by rfl) ) ?_ | refine q_skip rfl rfl ?_ )
            refine q_call rfl rfl rfl (fun W hW => holds_calls a b x W) ?_
            rw [decide_eq_false hx]
            repeat (first | refine x_then ?_ | refine c_false rfl ?_ | refine c_skip ?_ | refine q_val rfl rfl (by first | exact pureEval_ok rfl | exact v_load rfl (by repeat (first | exact List.Mem.head _ | apply List.Mem.tail)) rfl (by rfl) | exact v_build rfl rfl (by rfl) | exact v_neS rfl rfl rfl rfl ) ?_ | refine q_nil ?_ | refine q_skip rfl rfl ?_ )
            exact x_mid (by repeat (first | exact EnvSub.nil | refine EnvSub.cons rfl (by first | rfl | (congr 1; done) | (exact congrArg (Value.int _) (by omega)) | (simp; done)) ?_)) (by repeat (first | exact MSub.nil | refine MSub.keep (by first | rfl | assumption) ?_ | refine MSub.drop ?_ | exact MSub.refl _))
    · repeat (first | refine l_val rfl rfl (by first | exact v_load rfl (by repeat (first | exact List.Mem.head _ | apply List.Mem.tail)) rfl (by rfl) ) ?_ | refine c_region ?_ | refine c_seq ?_ )
      refine r_call rfl rfl rfl (fun W hW => Inside_calls a b (min a c) (max b d) W) ?_
      rw [in_yes h1 h3 (by omega) (by omega)]
      repeat (first | refine l_val rfl rfl (by first | exact pureEval_ok rfl | exact v_load rfl (by repeat (first | exact List.Mem.head _ | apply List.Mem.tail)) rfl (by rfl) ) ?_ | refine l_nil ?_ | refine c_region ?_ | refine c_seq ?_ | refine x_then ?_ )
      refine r_call rfl rfl rfl (fun W hW => Inside_calls c d (min a c) (max b d) W) ?_
      rw [in_yes h2 h3 (by omega) (by omega)]
      repeat (first | refine l_val rfl rfl (by first | exact pureEval_ok rfl | exact v_load rfl (by repeat (first | exact List.Mem.head _ | apply List.Mem.tail)) rfl (by rfl) ) ?_ | refine l_nil ?_ | refine c_region ?_ | refine c_seq ?_ | refine x_then ?_ | refine c_false rfl ?_ | refine c_skip ?_ )
      refine r_call rfl rfl rfl (fun W hW => Inside_calls a b e f W) ?_
      cases h4 : vB e f with
      | false =>
        rw [in_bad (by rw [h1, h4]; rfl)]
        repeat (first | refine l_val rfl rfl (by first | exact pureEval_ok rfl | exact v_load rfl (by repeat (first | exact List.Mem.head _ | apply List.Mem.tail)) rfl (by rfl) ) ?_ | refine l_nil ?_ | refine c_region ?_ | refine c_seq ?_ | refine x_then ?_ )
        refine r_call rfl rfl rfl (fun W hW => Inside_calls c d e f W) ?_
        rw [in_bad (by rw [h2, h4]; rfl)]
        repeat (first | refine l_val rfl rfl (by first | exact pureEval_ok rfl | exact v_load rfl (by repeat (first | exact List.Mem.head _ | apply List.Mem.tail)) rfl (by rfl) ) ?_ | refine l_nil ?_ | refine c_region ?_ | refine c_seq ?_ | refine x_then ?_ )
        refine r_call rfl rfl rfl (fun W hW => Inside_calls (min a c) (max b d) e f W) ?_
        rw [in_bad (by rw [h3, h4]; rfl)]
        repeat (first | refine l_val rfl rfl (by first | exact pureEval_ok rfl ) ?_ | refine l_nil ?_ | refine c_region ?_ | refine c_seq ?_ | refine x_then ?_ | refine l_skip rfl rfl ?_ | refine c_ret ?_ )
        exact x_ret rfl rfl (by repeat (first | exact Res.nil | (apply Res.tmp; rfl) | (apply Res.cell; rfl; exact (by repeat (first | exact List.Mem.head _ | apply List.Mem.tail)); rfl; rfl))) rfl (fun W hW => ⟨by first | rfl | (simp; done) | (simp_all; done), hW.below⟩)
      | true =>
        rw [in_ok (by rw [h1, h4]; rfl)]
        repeat (first | refine l_val rfl rfl (by first | exact pureEval_ok rfl | exact v_load rfl (by repeat (first | exact List.Mem.head _ | apply List.Mem.tail)) rfl (by rfl) ) ?_ | refine l_nil ?_ | refine c_region ?_ | refine c_seq ?_ | refine x_then ?_ )
        refine r_call rfl rfl rfl (fun W hW => Inside_calls c d e f W) ?_
        rw [in_ok (by rw [h2, h4]; rfl)]
        repeat (first | refine l_val rfl rfl (by first | exact pureEval_ok rfl | exact v_load rfl (by repeat (first | exact List.Mem.head _ | apply List.Mem.tail)) rfl (by rfl) ) ?_ | refine l_nil ?_ | refine c_region ?_ | refine c_seq ?_ | refine x_then ?_ )
        refine r_call rfl rfl rfl (fun W hW => Inside_calls (min a c) (max b d) e f W) ?_
        rw [in_ok (by rw [h3, h4]; rfl)]
        by_cases t1 : e ≤ a ∧ b ≤ f
        · rw [decide_eq_true t1]
          by_cases t2 : e ≤ c ∧ d ≤ f
          · rw [decide_eq_true t2, decide_eq_true (p := e ≤ min a c ∧ max b d ≤ f) (by omega)]
            repeat (first | refine l_val rfl rfl (by first | exact pureEval_ok rfl ) ?_ | refine l_nil ?_ | refine c_region ?_ | refine c_seq ?_ | refine x_then ?_ | refine c_ret ?_ )
            exact x_ret rfl rfl (by repeat (first | exact Res.nil | (apply Res.tmp; rfl) | (apply Res.cell; rfl; exact (by repeat (first | exact List.Mem.head _ | apply List.Mem.tail)); rfl; rfl))) rfl (fun W hW => ⟨by first | rfl | (simp; done) | (simp_all; done), hW.below⟩)
          · rw [decide_eq_false t2, decide_eq_false (p := e ≤ min a c ∧ max b d ≤ f) (by omega)]
            repeat (first | refine l_val rfl rfl (by first | exact pureEval_ok rfl ) ?_ | refine l_nil ?_ | refine c_region ?_ | refine c_seq ?_ | refine x_then ?_ | refine c_ret ?_ )
            exact x_ret rfl rfl (by repeat (first | exact Res.nil | (apply Res.tmp; rfl) | (apply Res.cell; rfl; exact (by repeat (first | exact List.Mem.head _ | apply List.Mem.tail)); rfl; rfl))) rfl (fun W hW => ⟨by first | rfl | (simp; done) | (simp_all; done), hW.below⟩)
        · rw [decide_eq_false t1, decide_eq_false (p := e ≤ min a c ∧ max b d ≤ f) (by omega)]
          repeat (first | refine l_val rfl rfl (by first | exact pureEval_ok rfl ) ?_ | refine l_nil ?_ | refine c_region ?_ | refine c_seq ?_ | refine x_then ?_ | refine l_skip rfl rfl ?_ | refine c_ret ?_ )
          exact x_ret rfl rfl (by repeat (first | exact Res.nil | (apply Res.tmp; rfl) | (apply Res.cell; rfl; exact (by repeat (first | exact List.Mem.head _ | apply List.Mem.tail)); rfl; rfl))) rfl (fun W hW => ⟨by first | rfl | (simp; done) | (simp_all; done), hW.below⟩)
end R21
end Go.Proofs
