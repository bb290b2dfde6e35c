/- Intervals: inclusion is kept; walked. Printed by gen_inside.py. -/
import Derived.Test.YtfebhegaomdcoaaIvIn
set_option linter.unusedSectionVars false
set_option linter.unusedVariables false
set_option linter.unusedSimpArgs false
namespace Go.Proofs
open Go.RowKit Go.Kin Go.Kin.Iv
namespace R21

set_option maxHeartbeats 16000000 in
theorem intervalInside_calls (a b c d e f g h N D : Int) (w : World) (n1 : -9223372036854775808 ≤ N) (n2 : N ≤ 9223372036854775807) (d1 : -9223372036854775808 ≤ D) (d2 : D ≤ 9223372036854775807) :
    Calls Try.prog 9 ⟨[.agg ⟨rgE a b⟩, .agg ⟨rgE c d⟩, .agg ⟨rgE e f⟩, .agg ⟨rgE g h⟩, .agg ⟨raE N D⟩]⟩ w fun e w' => e = .returned (.bool true) ∧ Below w.heap.size w w' := by
  refine fun_enter Try.func9 rfl Try.ntmps9 rfl rfl (satW_nil w) ?_
  repeat (first | refine l_val rfl rfl (by first | exact pureEval_ok rfl ) ?_ | refine l_nil ?_ | refine c_region ?_ | refine c_seq ?_ | refine x_then ?_ | refine r_box rfl rfl rfl rfl (fun _ => ?_) )
  refine r_call rfl rfl rfl (fun W hW => sane_calls W) ?_
  repeat (first | refine l_val rfl rfl (by first | exact pureEval_ok rfl | exact v_load rfl (by repeat (first | exact List.Mem.head _ | apply List.Mem.tail)) rfl (by rfl) ) ?_ | refine l_nil ?_ | refine c_region ?_ | refine c_seq ?_ | refine x_then ?_ | refine c_false rfl ?_ | refine c_skip ?_ )
  refine r_call rfl rfl rfl (fun W hW => Inside_calls a b e f W) ?_
  cases h1 : (vB a b && vB e f) with
  | false =>
    rw [in_bad h1]
    repeat (first | refine l_val rfl rfl (by first | exact pureEval_ok rfl | exact v_load rfl (by repeat (first | exact List.Mem.head _ | apply List.Mem.tail)) rfl (by rfl) ) ?_ | refine l_nil ?_ | refine c_region ?_ | refine c_seq ?_ | refine x_then ?_ )
    refine r_call rfl rfl rfl (fun W hW => Inside_calls c d g h W) ?_
    repeat (first | refine l_val rfl rfl (by first | exact pureEval_ok rfl ) ?_ | refine l_nil ?_ | refine c_region ?_ | refine c_seq ?_ | refine x_then ?_ | refine l_skip rfl rfl ?_ | refine c_true rfl ?_ | refine c_ret ?_ | refine x_then_ret ?_ )
    exact x_ret rfl rfl (by repeat (first | exact Res.nil | (apply Res.tmp; rfl) | (apply Res.cell; rfl; exact (by repeat (first | exact List.Mem.head _ | apply List.Mem.tail)); rfl; rfl))) rfl (fun W hW => ⟨by first | rfl | (simp; done) | (simp_all; done), hW.below⟩)
  | true =>
    rw [in_ok h1]
    repeat (first | refine l_val rfl rfl (by first | exact pureEval_ok rfl | exact v_load rfl (by repeat (first | exact List.Mem.head _ | apply List.Mem.tail)) rfl (by rfl) ) ?_ | refine l_nil ?_ | refine c_region ?_ | refine c_seq ?_ | refine x_then ?_ )
    refine r_call rfl rfl rfl (fun W hW => Inside_calls c d g h W) ?_
    cases h2 : (vB c d && vB g h) with
    | false =>
      rw [in_bad h2]
      repeat (first | refine l_val rfl rfl (by first | exact pureEval_ok rfl ) ?_ | refine l_nil ?_ | refine c_region ?_ | refine c_seq ?_ | refine x_then ?_ | refine l_skip rfl rfl ?_ | refine c_true rfl ?_ | refine c_ret ?_ | refine x_then_ret ?_ )
      exact x_ret rfl rfl (by repeat (first | exact Res.nil | (apply Res.tmp; rfl) | (apply Res.cell; rfl; exact (by repeat (first | exact List.Mem.head _ | apply List.Mem.tail)); rfl; rfl))) rfl (fun W hW => ⟨by first | rfl | (simp; done) | (simp_all; done), hW.below⟩)
    | true =>
      rw [in_ok h2]
      by_cases i1 : e ≤ a ∧ b ≤ f
      · rw [decide_eq_true i1]
        by_cases i2 : g ≤ c ∧ d ≤ h
        · rw [decide_eq_true i2]
          obtain ⟨v1, w1⟩ := both h1
          obtain ⟨v2, w2⟩ := both h2
          obtain ⟨ln0, hn0, en0, lw0, hw0, ew0, qn0, qw0, F0⟩ := ad_pair v1 v2 w1 w2 i1.1 i1.2 i2.1 i2.2
          obtain ⟨ln1, hn1, en1, lw1, hw1, ew1, qn1, qw1, F1⟩ := su_pair v1 v2 w1 w2 i1.1 i1.2 i2.1 i2.2
          obtain ⟨ln2, hn2, en2, lw2, hw2, ew2, qn2, qw2, F2⟩ := mu_pair v1 v2 w1 w2 i1.1 i1.2 i2.1 i2.2
          obtain ⟨ln3, hn3, en3, lw3, hw3, ew3, qn3, qw3, F3⟩ := sq_pair v1 w1 i1.1 i1.2
          obtain ⟨ln4, hn4, en4, lw4, hw4, ew4, qn4, qw4, F4⟩ := sc_pair v1 w1 i1.1 i1.2 N D
          obtain ⟨ln5, hn5, en5, lw5, hw5, ew5, qn5, qw5, F5⟩ := ro_pair v1 w1 i1.1 i1.2
          obtain ⟨ln6, hn6, en6, lw6, hw6, ew6, qn6, qw6, F6⟩ := hu_pair v1 v2 w1 w2 i1.1 i1.2 i2.1 i2.2
          repeat (first | refine l_val rfl rfl (by first | exact pureEval_ok rfl | exact v_load rfl (by repeat (first | exact List.Mem.head _ | apply List.Mem.tail)) rfl (by rfl) | exact v_buildA rfl rfl rfl (by rfl) ) ?_ | refine l_nil ?_ | refine c_region ?_ | refine c_seq ?_ | refine x_then ?_ | refine r_buildSlice rfl rfl rfl rfl rfl rfl (by rfl) (fun _ => ?_) | refine c_false rfl ?_ | refine c_block ?_ | refine c_skip ?_ )
          rename_i b5 b6 b7 b8 b9 b70
          refine c_keep [9, 70, 71, 72, 15, 16] rfl ?_
          refine c_loop (ι := Nat × Nat × Nat) (fun k => k.1 ≤ 2) (fun k => [(9, .pointer (some ⟨b9, 0, none⟩)), (70, .slice (some ⟨b70, 0, none⟩) 2 2), (71, .int .i64 2), (72, .int .i64 k.1),
              (15, if k.1 = 2 then .slice (some ⟨k.2.1, 0, none⟩) 7 7 else .slice none 0 0), (16, if k.1 = 0 then .slice none 0 0 else if k.1 = 1 then .slice (some ⟨k.2.1, 0, none⟩) 7 7 else .slice (some ⟨k.2.2, 0, none⟩) 7 7)])
            (fun k => (if k.1 = 2 then [(k.2.2, .cells ⟨[.int .i64 lw0, .int .i64 hw0, .int .i64 ew0, .int .i64 lw1, .int .i64 hw1, .int .i64 ew1, .int .i64 lw2, .int .i64 hw2, .int .i64 ew2, .int .i64 lw3, .int .i64 hw3, .int .i64 ew3, .int .i64 lw4, .int .i64 hw4, .int .i64 ew4, .int .i64 lw5, .int .i64 hw5, .int .i64 ew5, .int .i64 lw6, .int .i64 hw6, .int .i64 ew6]⟩ 47 (0, 0))] else []) ++ (if k.1 = 0 then [] else [(k.2.1, .cells ⟨[.int .i64 ln0, .int .i64 hn0, .int .i64 en0, .int .i64 ln1, .int .i64 hn1, .int .i64 en1, .int .i64 ln2, .int .i64 hn2, .int .i64 en2, .int .i64 ln3, .int .i64 hn3, .int .i64 en3, .int .i64 ln4, .int .i64 hn4, .int .i64 en4, .int .i64 ln5, .int .i64 hn5, .int .i64 en5, .int .i64 ln6, .int .i64 hn6, .int .i64 en6]⟩ 47 (0, 0))]) ++ [(b70, .cells ⟨[.int .i64 a, .int .i64 b, .int .i64 c, .int .i64 d, .int .i64 e, .int .i64 f, .int .i64 g, .int .i64 h]⟩ 44 (0, 0)), (b9, .cells ⟨[.int .i64 N, .int .i64 D]⟩ 31 (0, 0))]) (fun k => 2 - k.1) (0, 0, 0) (by decide) (by repeat (first | exact EnvSub.nil | refine EnvSub.cons rfl (by first | rfl | (congr 1; done) | (exact congrArg (Value.int _) (by omega)) | (simp; done)) ?_)) (by repeat (first | exact MSub.nil | refine MSub.keep (by first | rfl | assumption) ?_ | refine MSub.drop ?_ | exact MSub.refl _)) ?_
          rintro ⟨k, y, z⟩ hk
          simp only at hk ⊢
          rcases k with _ | _ | _ | k
          · refine c_weak (env' := [(9, .pointer (some ⟨b9, 0, none⟩)), (70, .slice (some ⟨b70, 0, none⟩) 2 2), (71, .int .i64 2), (72, .int .i64 0), (15, .slice none 0 0), (16, .slice none 0 0)]) (mem' := [(b70, .cells ⟨[.int .i64 a, .int .i64 b, .int .i64 c, .int .i64 d, .int .i64 e, .int .i64 f, .int .i64 g, .int .i64 h]⟩ 44 (0, 0)), (b9, .cells ⟨[.int .i64 N, .int .i64 D]⟩ 31 (0, 0))]) (by repeat (first | exact EnvSub.nil | refine EnvSub.cons rfl (by first | rfl | (congr 1; done) | (exact congrArg (Value.int _) (by omega)) | (simp; done)) ?_)) (by repeat (first | exact MSub.nil | refine MSub.keep (by first | rfl | assumption) ?_ | refine MSub.drop ?_ | exact MSub.refl _)) ?_
            clear F0 F1 F2 F3 F4 F5 F6 qw0 qw1 qw2 qw3 qw4 qw5 qw6 h1 h2 i1 i2 v1 v2 w1 w2
            repeat (first | refine l_val rfl rfl (by first | exact pureEval_ok rfl | exact v_load rfl (by repeat (first | exact List.Mem.head _ | apply List.Mem.tail)) rfl (by rfl) | exact v_index rfl rfl rfl rfl (by omega) (by omega) (by with_reducible first | exact idx7 _ _  ) | exact v_indexA rfl rfl rfl rfl (by omega) (by omega) (by with_reducible first | exact idx7 _ _  ) ) ?_ | refine l_nil ?_ | refine c_region ?_ | refine c_seq ?_ | refine x_then ?_ | refine r_alloc rfl rfl rfl (by first | exact aggL ) (fun _ => ?_) | refine r_store rfl rfl rfl rfl rfl rfl rfl (by repeat (first | exact Upd.head | apply Upd.tail)) (by rfl) ?_ | refine c_true rfl ?_ | refine c_block ?_ | refine c_skip ?_ )
            refine r_call rfl rfl rfl (fun W hW => Add_calls a b c d W) ?_
            rw [qn0]
            repeat ((fail_if_success refine c_probe (id := 12) ?_); (fail_if_success refine c_probe1 (id := 12) ?_); first | refine l_val rfl rfl (by first | exact pureEval_ok rfl ) ?_ | refine l_nil ?_ | refine x_then ?_ | refine r_alloc rfl rfl rfl (by first | exact aggL ) (fun _ => ?_) | refine r_store rfl rfl rfl rfl rfl rfl rfl (by repeat (first | exact Upd.head | apply Upd.tail)) (by rfl) ?_ )
            refine c_keep [9, 70, 71, 72, 15, 16, 18, 19, 20] rfl ?_
            repeat (first | refine l_val rfl rfl (by first | exact v_load rfl (by repeat (first | exact List.Mem.head _ | apply List.Mem.tail)) rfl (by rfl) | exact v_indexA rfl rfl rfl rfl (by omega) (by omega) (by with_reducible first | exact idx7 _ _  ) ) ?_ | refine c_region ?_ | refine c_seq ?_ )
            refine r_call rfl rfl rfl (fun W hW => Sub_calls a b c d W) ?_
            rw [qn1]
            repeat ((fail_if_success refine c_probe (id := 13) ?_); (fail_if_success refine c_probe1 (id := 13) ?_); first | refine l_val rfl rfl (by first | exact pureEval_ok rfl ) ?_ | refine l_nil ?_ | refine x_then ?_ | refine r_alloc rfl rfl rfl (by first | exact aggL ) (fun _ => ?_) | refine r_store rfl rfl rfl rfl rfl rfl rfl (by repeat (first | exact Upd.head | apply Upd.tail)) (by rfl) ?_ )
            refine c_keep [9, 70, 71, 72, 15, 16, 18, 19, 20, 21, 22] rfl ?_
            repeat (first | refine l_val rfl rfl (by first | exact v_load rfl (by repeat (first | exact List.Mem.head _ | apply List.Mem.tail)) rfl (by rfl) | exact v_indexA rfl rfl rfl rfl (by omega) (by omega) (by with_reducible first | exact idx7 _ _  ) ) ?_ | refine c_region ?_ | refine c_seq ?_ )
            refine r_call rfl rfl rfl (fun W hW => Mul_calls a b c d W) ?_
            rw [qn2]
            repeat ((fail_if_success refine c_probe (id := 14) ?_); (fail_if_success refine c_probe1 (id := 14) ?_); first | refine l_val rfl rfl (by first | exact pureEval_ok rfl ) ?_ | refine l_nil ?_ | refine x_then ?_ | refine r_alloc rfl rfl rfl (by first | exact aggL ) (fun _ => ?_) | refine r_store rfl rfl rfl rfl rfl rfl rfl (by repeat (first | exact Upd.head | apply Upd.tail)) (by rfl) ?_ )
            refine c_keep [9, 70, 71, 72, 15, 16, 18, 19, 20, 21, 22, 23, 24] rfl ?_
            repeat (first | refine l_val rfl rfl (by first | exact v_load rfl (by repeat (first | exact List.Mem.head _ | apply List.Mem.tail)) rfl (by rfl) | exact v_indexA rfl rfl rfl rfl (by omega) (by omega) (by with_reducible first | exact idx7 _ _  ) ) ?_ | refine c_region ?_ | refine c_seq ?_ )
            refine r_call rfl rfl rfl (fun W hW => Square_calls a b W) ?_
            rw [qn3]
            repeat ((fail_if_success refine c_probe (id := 15) ?_); (fail_if_success refine c_probe1 (id := 15) ?_); first | refine l_val rfl rfl (by first | exact pureEval_ok rfl ) ?_ | refine l_nil ?_ | refine x_then ?_ | refine r_alloc rfl rfl rfl (by first | exact aggL ) (fun _ => ?_) | refine r_store rfl rfl rfl rfl rfl rfl rfl (by repeat (first | exact Upd.head | apply Upd.tail)) (by rfl) ?_ )
            refine c_keep [9, 70, 71, 72, 15, 16, 18, 19, 20, 21, 22, 23, 24, 25, 26] rfl ?_
            repeat (first | refine l_val rfl rfl (by first | exact v_load rfl (by repeat (first | exact List.Mem.head _ | apply List.Mem.tail)) rfl (by rfl) | exact v_indexA rfl rfl rfl rfl (by omega) (by omega) (by with_reducible first | exact idx7 _ _  ) ) ?_ | refine c_region ?_ | refine c_seq ?_ )
            refine r_call rfl rfl rfl (fun W hW => Scale_calls a b N D W n1 n2 d1 d2) ?_
            rw [qn4]
            repeat ((fail_if_success refine c_probe (id := 16) ?_); (fail_if_success refine c_probe1 (id := 16) ?_); first | refine l_val rfl rfl (by first | exact pureEval_ok rfl ) ?_ | refine l_nil ?_ | refine x_then ?_ | refine r_alloc rfl rfl rfl (by first | exact aggL ) (fun _ => ?_) | refine r_store rfl rfl rfl rfl rfl rfl rfl (by repeat (first | exact Upd.head | apply Upd.tail)) (by rfl) ?_ )
            refine c_keep [9, 70, 71, 72, 15, 16, 18, 19, 20, 21, 22, 23, 24, 25, 26, 27, 28] rfl ?_
            repeat (first | refine l_val rfl rfl (by first | exact v_load rfl (by repeat (first | exact List.Mem.head _ | apply List.Mem.tail)) rfl (by rfl) | exact v_indexA rfl rfl rfl rfl (by omega) (by omega) (by with_reducible first | exact idx7 _ _  ) ) ?_ | refine c_region ?_ | refine c_seq ?_ )
            refine r_call rfl rfl rfl (fun W hW => Root_calls a b W) ?_
            rw [qn5]
            repeat ((fail_if_success refine c_probe (id := 17) ?_); (fail_if_success refine c_probe1 (id := 17) ?_); first | refine l_val rfl rfl (by first | exact pureEval_ok rfl ) ?_ | refine l_nil ?_ | refine x_then ?_ | refine r_alloc rfl rfl rfl (by first | exact aggL ) (fun _ => ?_) | refine r_store rfl rfl rfl rfl rfl rfl rfl (by repeat (first | exact Upd.head | apply Upd.tail)) (by rfl) ?_ )
            refine c_keep [9, 70, 71, 72, 15, 16, 18, 19, 20, 21, 22, 23, 24, 25, 26, 27, 28, 29, 30] rfl ?_
            repeat (first | refine l_val rfl rfl (by first | exact v_load rfl (by repeat (first | exact List.Mem.head _ | apply List.Mem.tail)) rfl (by rfl) | exact v_indexA rfl rfl rfl rfl (by omega) (by omega) (by with_reducible first | exact idx7 _ _  ) ) ?_ | refine c_region ?_ | refine c_seq ?_ )
            refine r_call rfl rfl rfl (fun W hW => Hull_calls a b c d W) ?_
            rw [qn6]
            repeat (first | refine l_val rfl rfl (by first | exact pureEval_ok rfl ) ?_ | refine l_nil ?_ | refine x_then ?_ | refine r_alloc rfl rfl rfl (by first | exact aggL ) (fun _ => ?_) | refine r_store rfl rfl rfl rfl rfl rfl rfl (by repeat (first | exact Upd.head | apply Upd.tail)) (by rfl) ?_ )
            refine c_keep [9, 70, 71, 72, 15, 16, 19, 20, 21, 22, 23, 24, 25, 26, 27, 28, 29, 30, 31, 32] rfl ?_
            refine c_new 0 1 [(22, .new 0)] [(22,[0])] [] rfl (by decide +kernel) rfl ?_; skip
            refine e_val rfl rfl rfl rfl (pureEval_ok rfl) ?_
            refine e_val rfl rfl rfl rfl (v_load rfl (by repeat (first | exact List.Mem.head _ | apply List.Mem.tail)) rfl (by rfl)) ?_
            refine e_val rfl rfl rfl rfl (pureEval_ok rfl) ?_
            refine e_val rfl rfl rfl rfl (v_build rfl rfl (by rfl)) ?_
            refine e_val rfl rfl rfl rfl (v_load rfl (by repeat (first | exact List.Mem.head _ | apply List.Mem.tail)) rfl (by rfl)) ?_
            refine e_val rfl rfl rfl rfl (pureEval_ok rfl) ?_
            refine e_val rfl rfl rfl rfl (v_build rfl rfl (by rfl)) ?_
            refine e_val rfl rfl rfl rfl (v_load rfl (by repeat (first | exact List.Mem.head _ | apply List.Mem.tail)) rfl (by rfl)) ?_
            refine e_val rfl rfl rfl rfl (pureEval_ok rfl) ?_
            refine e_val rfl rfl rfl rfl (v_build rfl rfl (by rfl)) ?_
            refine e_val rfl rfl rfl rfl (v_load rfl (by repeat (first | exact List.Mem.head _ | apply List.Mem.tail)) rfl (by rfl)) ?_
            refine e_val rfl rfl rfl rfl (pureEval_ok rfl) ?_
            refine e_val rfl rfl rfl rfl (v_build rfl rfl (by rfl)) ?_
            refine e_val rfl rfl rfl rfl (v_load rfl (by repeat (first | exact List.Mem.head _ | apply List.Mem.tail)) rfl (by rfl)) ?_
            refine e_val rfl rfl rfl rfl (pureEval_ok rfl) ?_
            refine e_val rfl rfl rfl rfl (v_build rfl rfl (by rfl)) ?_
            refine e_val rfl rfl rfl rfl (v_load rfl (by repeat (first | exact List.Mem.head _ | apply List.Mem.tail)) rfl (by rfl)) ?_
            refine e_val rfl rfl rfl rfl (pureEval_ok rfl) ?_
            refine e_val rfl rfl rfl rfl (v_build rfl rfl (by rfl)) ?_
            refine e_val rfl rfl rfl rfl (v_load rfl (by repeat (first | exact List.Mem.head _ | apply List.Mem.tail)) rfl (by rfl)) ?_
            refine e_val rfl rfl rfl rfl (pureEval_ok rfl) ?_
            refine e_val rfl rfl rfl rfl (v_build rfl rfl (by rfl)) ?_
            refine e_new rfl rfl rfl rfl (n_buildSlice rfl rfl rfl rfl (by rfl)) (fun _ => ?_)
            repeat (first | refine l_val rfl rfl (by first | exact v_add rfl rfl (by omega) (by omega) | exact pureEval_ok rfl ) ?_ | refine l_nil ?_ | refine c_region ?_ | refine x_then ?_ | refine x_block ?_ | refine e_val rfl rfl rfl rfl (by first | exact pureEval_ok rfl ) ?_ | refine e_nil rfl ?_ )
            rename_i r1
            exact x_back (1, r1, 0) (by simp) (by simp) (by repeat (first | exact EnvSub.nil | refine EnvSub.cons rfl (by first | rfl | (congr 1; done) | (exact congrArg (Value.int _) (by omega)) | (simp; done)) ?_)) (by repeat (first | exact MSub.nil | refine MSub.keep (by first | rfl | assumption) ?_ | refine MSub.drop ?_ | exact MSub.refl _))
          · refine c_weak (env' := [(9, .pointer (some ⟨b9, 0, none⟩)), (70, .slice (some ⟨b70, 0, none⟩) 2 2), (71, .int .i64 2), (72, .int .i64 1), (15, .slice none 0 0), (16, .slice (some ⟨y, 0, none⟩) 7 7)]) (mem' := [(y, .cells ⟨[.int .i64 ln0, .int .i64 hn0, .int .i64 en0, .int .i64 ln1, .int .i64 hn1, .int .i64 en1, .int .i64 ln2, .int .i64 hn2, .int .i64 en2, .int .i64 ln3, .int .i64 hn3, .int .i64 en3, .int .i64 ln4, .int .i64 hn4, .int .i64 en4, .int .i64 ln5, .int .i64 hn5, .int .i64 en5, .int .i64 ln6, .int .i64 hn6, .int .i64 en6]⟩ 47 (0, 0)), (b70, .cells ⟨[.int .i64 a, .int .i64 b, .int .i64 c, .int .i64 d, .int .i64 e, .int .i64 f, .int .i64 g, .int .i64 h]⟩ 44 (0, 0)), (b9, .cells ⟨[.int .i64 N, .int .i64 D]⟩ 31 (0, 0))]) (by repeat (first | exact EnvSub.nil | refine EnvSub.cons rfl (by first | rfl | (congr 1; done) | (exact congrArg (Value.int _) (by omega)) | (simp; done)) ?_)) (by repeat (first | exact MSub.nil | refine MSub.keep (by first | rfl | assumption) ?_ | refine MSub.drop ?_ | exact MSub.refl _)) ?_
            clear F0 F1 F2 F3 F4 F5 F6 qn0 qn1 qn2 qn3 qn4 qn5 qn6 h1 h2 i1 i2 v1 v2 w1 w2
            repeat (first | refine l_val rfl rfl (by first | exact pureEval_ok rfl | exact v_load rfl (by repeat (first | exact List.Mem.head _ | apply List.Mem.tail)) rfl (by rfl) | exact v_index rfl rfl rfl rfl (by omega) (by omega) (by with_reducible first | exact idx7 _ _  ) | exact v_indexA rfl rfl rfl rfl (by omega) (by omega) (by with_reducible first | exact idx7 _ _  ) ) ?_ | refine l_nil ?_ | refine c_region ?_ | refine c_seq ?_ | refine x_then ?_ | refine r_alloc rfl rfl rfl (by first | exact aggL ) (fun _ => ?_) | refine r_store rfl rfl rfl rfl rfl rfl rfl (by repeat (first | exact Upd.head | apply Upd.tail)) (by rfl) ?_ | refine c_true rfl ?_ | refine c_block ?_ | refine c_skip ?_ )
            refine r_call rfl rfl rfl (fun W hW => Add_calls e f g h W) ?_
            rw [qw0]
            repeat ((fail_if_success refine c_probe (id := 12) ?_); (fail_if_success refine c_probe1 (id := 12) ?_); first | refine l_val rfl rfl (by first | exact pureEval_ok rfl ) ?_ | refine l_nil ?_ | refine x_then ?_ | refine r_alloc rfl rfl rfl (by first | exact aggL ) (fun _ => ?_) | refine r_store rfl rfl rfl rfl rfl rfl rfl (by repeat (first | exact Upd.head | apply Upd.tail)) (by rfl) ?_ )
            refine c_keep [9, 70, 71, 72, 15, 16, 18, 19, 20] rfl ?_
            repeat (first | refine l_val rfl rfl (by first | exact v_load rfl (by repeat (first | exact List.Mem.head _ | apply List.Mem.tail)) rfl (by rfl) | exact v_indexA rfl rfl rfl rfl (by omega) (by omega) (by with_reducible first | exact idx7 _ _  ) ) ?_ | refine c_region ?_ | refine c_seq ?_ )
            refine r_call rfl rfl rfl (fun W hW => Sub_calls e f g h W) ?_
            rw [qw1]
            repeat ((fail_if_success refine c_probe (id := 13) ?_); (fail_if_success refine c_probe1 (id := 13) ?_); first | refine l_val rfl rfl (by first | exact pureEval_ok rfl ) ?_ | refine l_nil ?_ | refine x_then ?_ | refine r_alloc rfl rfl rfl (by first | exact aggL ) (fun _ => ?_) | refine r_store rfl rfl rfl rfl rfl rfl rfl (by repeat (first | exact Upd.head | apply Upd.tail)) (by rfl) ?_ )
            refine c_keep [9, 70, 71, 72, 15, 16, 18, 19, 20, 21, 22] rfl ?_
            repeat (first | refine l_val rfl rfl (by first | exact v_load rfl (by repeat (first | exact List.Mem.head _ | apply List.Mem.tail)) rfl (by rfl) | exact v_indexA rfl rfl rfl rfl (by omega) (by omega) (by with_reducible first | exact idx7 _ _  ) ) ?_ | refine c_region ?_ | refine c_seq ?_ )
            refine r_call rfl rfl rfl (fun W hW => Mul_calls e f g h W) ?_
            rw [qw2]
            repeat ((fail_if_success refine c_probe (id := 14) ?_); (fail_if_success refine c_probe1 (id := 14) ?_); first | refine l_val rfl rfl (by first | exact pureEval_ok rfl ) ?_ | refine l_nil ?_ | refine x_then ?_ | refine r_alloc rfl rfl rfl (by first | exact aggL ) (fun _ => ?_) | refine r_store rfl rfl rfl rfl rfl rfl rfl (by repeat (first | exact Upd.head | apply Upd.tail)) (by rfl) ?_ )
            refine c_keep [9, 70, 71, 72, 15, 16, 18, 19, 20, 21, 22, 23, 24] rfl ?_
            repeat (first | refine l_val rfl rfl (by first | exact v_load rfl (by repeat (first | exact List.Mem.head _ | apply List.Mem.tail)) rfl (by rfl) | exact v_indexA rfl rfl rfl rfl (by omega) (by omega) (by with_reducible first | exact idx7 _ _  ) ) ?_ | refine c_region ?_ | refine c_seq ?_ )
            refine r_call rfl rfl rfl (fun W hW => Square_calls e f W) ?_
            rw [qw3]
            repeat ((fail_if_success refine c_probe (id := 15) ?_); (fail_if_success refine c_probe1 (id := 15) ?_); first | refine l_val rfl rfl (by first | exact pureEval_ok rfl ) ?_ | refine l_nil ?_ | refine x_then ?_ | refine r_alloc rfl rfl rfl (by first | exact aggL ) (fun _ => ?_) | refine r_store rfl rfl rfl rfl rfl rfl rfl (by repeat (first | exact Upd.head | apply Upd.tail)) (by rfl) ?_ )
            refine c_keep [9, 70, 71, 72, 15, 16, 18, 19, 20, 21, 22, 23, 24, 25, 26] rfl ?_
            repeat (first | refine l_val rfl rfl (by first | exact v_load rfl (by repeat (first | exact List.Mem.head _ | apply List.Mem.tail)) rfl (by rfl) | exact v_indexA rfl rfl rfl rfl (by omega) (by omega) (by with_reducible first | exact idx7 _ _  ) ) ?_ | refine c_region ?_ | refine c_seq ?_ )
            refine r_call rfl rfl rfl (fun W hW => Scale_calls e f N D W n1 n2 d1 d2) ?_
            rw [qw4]
            repeat ((fail_if_success refine c_probe (id := 16) ?_); (fail_if_success refine c_probe1 (id := 16) ?_); first | refine l_val rfl rfl (by first | exact pureEval_ok rfl ) ?_ | refine l_nil ?_ | refine x_then ?_ | refine r_alloc rfl rfl rfl (by first | exact aggL ) (fun _ => ?_) | refine r_store rfl rfl rfl rfl rfl rfl rfl (by repeat (first | exact Upd.head | apply Upd.tail)) (by rfl) ?_ )
            refine c_keep [9, 70, 71, 72, 15, 16, 18, 19, 20, 21, 22, 23, 24, 25, 26, 27, 28] rfl ?_
            repeat (first | refine l_val rfl rfl (by first | exact v_load rfl (by repeat (first | exact List.Mem.head _ | apply List.Mem.tail)) rfl (by rfl) | exact v_indexA rfl rfl rfl rfl (by omega) (by omega) (by with_reducible first | exact idx7 _ _  ) ) ?_ | refine c_region ?_ | refine c_seq ?_ )
            refine r_call rfl rfl rfl (fun W hW => Root_calls e f W) ?_
            rw [qw5]
            repeat ((fail_if_success refine c_probe (id := 17) ?_); (fail_if_success refine c_probe1 (id := 17) ?_); first | refine l_val rfl rfl (by first | exact pureEval_ok rfl ) ?_ | refine l_nil ?_ | refine x_then ?_ | refine r_alloc rfl rfl rfl (by first | exact aggL ) (fun _ => ?_) | refine r_store rfl rfl rfl rfl rfl rfl rfl (by repeat (first | exact Upd.head | apply Upd.tail)) (by rfl) ?_ )
            refine c_keep [9, 70, 71, 72, 15, 16, 18, 19, 20, 21, 22, 23, 24, 25, 26, 27, 28, 29, 30] rfl ?_
            repeat (first | refine l_val rfl rfl (by first | exact v_load rfl (by repeat (first | exact List.Mem.head _ | apply List.Mem.tail)) rfl (by rfl) | exact v_indexA rfl rfl rfl rfl (by omega) (by omega) (by with_reducible first | exact idx7 _ _  ) ) ?_ | refine c_region ?_ | refine c_seq ?_ )
            refine r_call rfl rfl rfl (fun W hW => Hull_calls e f g h W) ?_
            rw [qw6]
            repeat (first | refine l_val rfl rfl (by first | exact pureEval_ok rfl ) ?_ | refine l_nil ?_ | refine x_then ?_ | refine r_alloc rfl rfl rfl (by first | exact aggL ) (fun _ => ?_) | refine r_store rfl rfl rfl rfl rfl rfl rfl (by repeat (first | exact Upd.head | apply Upd.tail)) (by rfl) ?_ )
            refine c_keep [9, 70, 71, 72, 15, 16, 19, 20, 21, 22, 23, 24, 25, 26, 27, 28, 29, 30, 31, 32] rfl ?_
            refine c_new 0 1 [(22, .new 0)] [(22,[0])] [] rfl (by decide +kernel) rfl ?_; skip
            refine e_val rfl rfl rfl rfl (pureEval_ok rfl) ?_
            refine e_val rfl rfl rfl rfl (v_load rfl (by repeat (first | exact List.Mem.head _ | apply List.Mem.tail)) rfl (by rfl)) ?_
            refine e_val rfl rfl rfl rfl (pureEval_ok rfl) ?_
            refine e_val rfl rfl rfl rfl (v_build rfl rfl (by rfl)) ?_
            refine e_val rfl rfl rfl rfl (v_load rfl (by repeat (first | exact List.Mem.head _ | apply List.Mem.tail)) rfl (by rfl)) ?_
            refine e_val rfl rfl rfl rfl (pureEval_ok rfl) ?_
            refine e_val rfl rfl rfl rfl (v_build rfl rfl (by rfl)) ?_
            refine e_val rfl rfl rfl rfl (v_load rfl (by repeat (first | exact List.Mem.head _ | apply List.Mem.tail)) rfl (by rfl)) ?_
            refine e_val rfl rfl rfl rfl (pureEval_ok rfl) ?_
            refine e_val rfl rfl rfl rfl (v_build rfl rfl (by rfl)) ?_
            refine e_val rfl rfl rfl rfl (v_load rfl (by repeat (first | exact List.Mem.head _ | apply List.Mem.tail)) rfl (by rfl)) ?_
            refine e_val rfl rfl rfl rfl (pureEval_ok rfl) ?_
            refine e_val rfl rfl rfl rfl (v_build rfl rfl (by rfl)) ?_
            refine e_val rfl rfl rfl rfl (v_load rfl (by repeat (first | exact List.Mem.head _ | apply List.Mem.tail)) rfl (by rfl)) ?_
            refine e_val rfl rfl rfl rfl (pureEval_ok rfl) ?_
            refine e_val rfl rfl rfl rfl (v_build rfl rfl (by rfl)) ?_
            refine e_val rfl rfl rfl rfl (v_load rfl (by repeat (first | exact List.Mem.head _ | apply List.Mem.tail)) rfl (by rfl)) ?_
            refine e_val rfl rfl rfl rfl (pureEval_ok rfl) ?_
            refine e_val rfl rfl rfl rfl (v_build rfl rfl (by rfl)) ?_
            refine e_val rfl rfl rfl rfl (v_load rfl (by repeat (first | exact List.Mem.head _ | apply List.Mem.tail)) rfl (by rfl)) ?_
            refine e_val rfl rfl rfl rfl (pureEval_ok rfl) ?_
            refine e_val rfl rfl rfl rfl (v_build rfl rfl (by rfl)) ?_
            refine e_new rfl rfl rfl rfl (n_buildSlice rfl rfl rfl rfl (by rfl)) (fun _ => ?_)
            repeat (first | refine l_val rfl rfl (by first | exact v_add rfl rfl (by omega) (by omega) | exact pureEval_ok rfl ) ?_ | refine l_nil ?_ | refine c_region ?_ | refine x_then ?_ | refine x_block ?_ | refine e_val rfl rfl rfl rfl (by first | exact pureEval_ok rfl ) ?_ | refine e_nil rfl ?_ )
            rename_i r1
            exact x_back (2, y, r1) (by simp) (by simp) (by repeat (first | exact EnvSub.nil | refine EnvSub.cons rfl (by first | rfl | (congr 1; done) | (exact congrArg (Value.int _) (by omega)) | (simp; done)) ?_)) (by repeat (first | exact MSub.nil | refine MSub.keep (by first | rfl | assumption) ?_ | refine MSub.drop ?_ | exact MSub.refl _))
          · refine c_weak (env' := [(9, .pointer (some ⟨b9, 0, none⟩)), (70, .slice (some ⟨b70, 0, none⟩) 2 2), (71, .int .i64 2), (72, .int .i64 2), (15, .slice (some ⟨y, 0, none⟩) 7 7), (16, .slice (some ⟨z, 0, none⟩) 7 7)]) (mem' := [(z, .cells ⟨[.int .i64 lw0, .int .i64 hw0, .int .i64 ew0, .int .i64 lw1, .int .i64 hw1, .int .i64 ew1, .int .i64 lw2, .int .i64 hw2, .int .i64 ew2, .int .i64 lw3, .int .i64 hw3, .int .i64 ew3, .int .i64 lw4, .int .i64 hw4, .int .i64 ew4, .int .i64 lw5, .int .i64 hw5, .int .i64 ew5, .int .i64 lw6, .int .i64 hw6, .int .i64 ew6]⟩ 47 (0, 0)), (y, .cells ⟨[.int .i64 ln0, .int .i64 hn0, .int .i64 en0, .int .i64 ln1, .int .i64 hn1, .int .i64 en1, .int .i64 ln2, .int .i64 hn2, .int .i64 en2, .int .i64 ln3, .int .i64 hn3, .int .i64 en3, .int .i64 ln4, .int .i64 hn4, .int .i64 en4, .int .i64 ln5, .int .i64 hn5, .int .i64 en5, .int .i64 ln6, .int .i64 hn6, .int .i64 en6]⟩ 47 (0, 0))]) (by repeat (first | exact EnvSub.nil | refine EnvSub.cons rfl (by first | rfl | (congr 1; done) | (exact congrArg (Value.int _) (by omega)) | (simp; done)) ?_)) (by repeat (first | exact MSub.nil | refine MSub.keep (by first | rfl | assumption) ?_ | refine MSub.drop ?_ | exact MSub.refl _)) ?_
            clear qn0 qw0 qn1 qw1 qn2 qw2 qn3 qw3 qn4 qw4 qn5 qw5 qn6 qw6 h1 h2 i1 i2 v1 v2 w1 w2
            repeat (first | refine l_val rfl rfl (by first | exact pureEval_ok rfl ) ?_ | refine l_nil ?_ | refine c_region ?_ | refine c_seq ?_ | refine x_then ?_ | refine c_false rfl ?_ | refine c_block ?_ | refine c_exit ?_ | refine x_then_exit ?_ | refine x_block_same ?_ )
            refine c_loop (ι := Nat) (fun i => i ≤ 7) (fun i => [(15, .slice (some ⟨y, 0, none⟩) 7 7), (16, .slice (some ⟨z, 0, none⟩) 7 7), (152, .int .i64 7), (153, .int .i64 i)])
              (fun _ => [(z, .cells ⟨[.int .i64 lw0, .int .i64 hw0, .int .i64 ew0, .int .i64 lw1, .int .i64 hw1, .int .i64 ew1, .int .i64 lw2, .int .i64 hw2, .int .i64 ew2, .int .i64 lw3, .int .i64 hw3, .int .i64 ew3, .int .i64 lw4, .int .i64 hw4, .int .i64 ew4, .int .i64 lw5, .int .i64 hw5, .int .i64 ew5, .int .i64 lw6, .int .i64 hw6, .int .i64 ew6]⟩ 47 (0, 0)), (y, .cells ⟨[.int .i64 ln0, .int .i64 hn0, .int .i64 en0, .int .i64 ln1, .int .i64 hn1, .int .i64 en1, .int .i64 ln2, .int .i64 hn2, .int .i64 en2, .int .i64 ln3, .int .i64 hn3, .int .i64 en3, .int .i64 ln4, .int .i64 hn4, .int .i64 en4, .int .i64 ln5, .int .i64 hn5, .int .i64 en5, .int .i64 ln6, .int .i64 hn6, .int .i64 en6]⟩ 47 (0, 0))]) (fun i => 7 - i) 0 (by decide) (by repeat (first | exact EnvSub.nil | refine EnvSub.cons rfl (by first | rfl | (congr 1; done) | (exact congrArg (Value.int _) (by omega)) | (simp; done)) ?_)) (by repeat (first | exact MSub.nil | refine MSub.keep (by first | rfl | assumption) ?_ | refine MSub.drop ?_ | exact MSub.refl _)) ?_
            intro i hi
            rcases i with _ | _ | _ | _ | _ | _ | _ | _ | i
            · by_cases he : ew0 = 0
              · obtain ⟨x1, x2, x3, x4, x5⟩ := F0 he
                repeat (first | refine l_val rfl rfl (by first | exact pureEval_ok rfl | exact v_load rfl (by repeat (first | exact List.Mem.head _ | apply List.Mem.tail)) rfl (by rfl) | exact v_index rfl rfl rfl rfl (by omega) (by omega) (by with_reducible first | exact idx3 _ _  ) ) ?_ | refine l_nil ?_ | refine c_region ?_ | refine c_seq ?_ | refine x_then ?_ | refine c_true rfl ?_ | refine c_dec_f rfl (by first | omega | exact fun h => h rfl ) ?_ | refine c_block ?_ | refine c_skip ?_ | refine c_reads rfl (by decide +kernel) ?_ | refine q_val rfl rfl (by first | exact pureEval_ok rfl | exact v_load rfl (by repeat (first | exact List.Mem.head _ | apply List.Mem.tail)) rfl (by rfl) | exact v_index rfl rfl rfl rfl (by omega) (by omega) (by with_reducible first | exact idx3 _ _  ) ) ?_ )
                refine q_call rfl rfl rfl (fun W hW => Inside_calls ln0 hn0 lw0 hw0 W) ?_
                rw [in_yes x2 x3 x4 x5]
                repeat (first | refine l_val rfl rfl (by first | exact v_add rfl rfl (by omega) (by omega) | exact pureEval_ok rfl | exact v_load rfl (by repeat (first | exact List.Mem.head _ | apply List.Mem.tail)) rfl (by rfl) | exact v_index rfl rfl rfl rfl (by omega) (by omega) (by with_reducible first | exact idx3 _ _  ) ) ?_ | refine l_nil ?_ | refine c_region ?_ | refine c_seq ?_ | refine x_then ?_ | refine c_false rfl ?_ | refine c_skip ?_ | refine x_block ?_ | refine l_dec_f rfl rfl rfl rfl rfl (by first | omega ) ?_ | refine q_val rfl rfl (by first | exact pureEval_ok rfl ) ?_ | refine q_nil ?_ )
                exact x_back 1 (by decide) (by decide) (by repeat (first | exact EnvSub.nil | refine EnvSub.cons rfl (by first | rfl | (congr 1; done) | (exact congrArg (Value.int _) (by omega)) | (simp; done)) ?_)) (by repeat (first | exact MSub.nil | refine MSub.keep (by first | rfl | assumption) ?_ | refine MSub.drop ?_ | exact MSub.refl _))
              · repeat (first | refine l_val rfl rfl (by first | exact v_add rfl rfl (by omega) (by omega) | exact pureEval_ok rfl | exact v_load rfl (by repeat (first | exact List.Mem.head _ | apply List.Mem.tail)) rfl (by rfl) | exact v_index rfl rfl rfl rfl (by omega) (by omega) (by with_reducible first | exact idx3 _ _  ) ) ?_ | refine l_nil ?_ | refine c_region ?_ | refine c_seq ?_ | refine x_then ?_ | refine c_true rfl ?_ | refine c_dec_t rfl (by first | omega ) ?_ | refine c_block ?_ | refine c_skip ?_ | refine c_exit ?_ | refine x_then_exit ?_ | refine x_block_same ?_ )
                exact x_back 1 (by decide) (by decide) (by repeat (first | exact EnvSub.nil | refine EnvSub.cons rfl (by first | rfl | (congr 1; done) | (exact congrArg (Value.int _) (by omega)) | (simp; done)) ?_)) (by repeat (first | exact MSub.nil | refine MSub.keep (by first | rfl | assumption) ?_ | refine MSub.drop ?_ | exact MSub.refl _))
            · by_cases he : ew1 = 0
              · obtain ⟨x1, x2, x3, x4, x5⟩ := F1 he
                repeat (first | refine l_val rfl rfl (by first | exact pureEval_ok rfl | exact v_load rfl (by repeat (first | exact List.Mem.head _ | apply List.Mem.tail)) rfl (by rfl) | exact v_index rfl rfl rfl rfl (by omega) (by omega) (by with_reducible first | exact idx3 _ _  ) ) ?_ | refine l_nil ?_ | refine c_region ?_ | refine c_seq ?_ | refine x_then ?_ | refine c_true rfl ?_ | refine c_dec_f rfl (by first | omega | exact fun h => h rfl ) ?_ | refine c_block ?_ | refine c_skip ?_ | refine c_reads rfl (by decide +kernel) ?_ | refine q_val rfl rfl (by first | exact pureEval_ok rfl | exact v_load rfl (by repeat (first | exact List.Mem.head _ | apply List.Mem.tail)) rfl (by rfl) | exact v_index rfl rfl rfl rfl (by omega) (by omega) (by with_reducible first | exact idx3 _ _  ) ) ?_ )
                refine q_call rfl rfl rfl (fun W hW => Inside_calls ln1 hn1 lw1 hw1 W) ?_
                rw [in_yes x2 x3 x4 x5]
                repeat (first | refine l_val rfl rfl (by first | exact v_add rfl rfl (by omega) (by omega) | exact pureEval_ok rfl | exact v_load rfl (by repeat (first | exact List.Mem.head _ | apply List.Mem.tail)) rfl (by rfl) | exact v_index rfl rfl rfl rfl (by omega) (by omega) (by with_reducible first | exact idx3 _ _  ) ) ?_ | refine l_nil ?_ | refine c_region ?_ | refine c_seq ?_ | refine x_then ?_ | refine c_false rfl ?_ | refine c_skip ?_ | refine x_block ?_ | refine l_dec_f rfl rfl rfl rfl rfl (by first | omega ) ?_ | refine q_val rfl rfl (by first | exact pureEval_ok rfl ) ?_ | refine q_nil ?_ )
                exact x_back 2 (by decide) (by decide) (by repeat (first | exact EnvSub.nil | refine EnvSub.cons rfl (by first | rfl | (congr 1; done) | (exact congrArg (Value.int _) (by omega)) | (simp; done)) ?_)) (by repeat (first | exact MSub.nil | refine MSub.keep (by first | rfl | assumption) ?_ | refine MSub.drop ?_ | exact MSub.refl _))
              · repeat (first | refine l_val rfl rfl (by first | exact v_add rfl rfl (by omega) (by omega) | exact pureEval_ok rfl | exact v_load rfl (by repeat (first | exact List.Mem.head _ | apply List.Mem.tail)) rfl (by rfl) | exact v_index rfl rfl rfl rfl (by omega) (by omega) (by with_reducible first | exact idx3 _ _  ) ) ?_ | refine l_nil ?_ | refine c_region ?_ | refine c_seq ?_ | refine x_then ?_ | refine c_true rfl ?_ | refine c_dec_t rfl (by first | omega ) ?_ | refine c_block ?_ | refine c_skip ?_ | refine c_exit ?_ | refine x_then_exit ?_ | refine x_block_same ?_ )
                exact x_back 2 (by decide) (by decide) (by repeat (first | exact EnvSub.nil | refine EnvSub.cons rfl (by first | rfl | (congr 1; done) | (exact congrArg (Value.int _) (by omega)) | (simp; done)) ?_)) (by repeat (first | exact MSub.nil | refine MSub.keep (by first | rfl | assumption) ?_ | refine MSub.drop ?_ | exact MSub.refl _))
            · by_cases he : ew2 = 0
              · obtain ⟨x1, x2, x3, x4, x5⟩ := F2 he
                repeat (first | refine l_val rfl rfl (by first | exact pureEval_ok rfl | exact v_load rfl (by repeat (first | exact List.Mem.head _ | apply List.Mem.tail)) rfl (by rfl) | exact v_index rfl rfl rfl rfl (by omega) (by omega) (by with_reducible first | exact idx3 _ _  ) ) ?_ | refine l_nil ?_ | refine c_region ?_ | refine c_seq ?_ | refine x_then ?_ | refine c_true rfl ?_ | refine c_dec_f rfl (by first | omega | exact fun h => h rfl ) ?_ | refine c_block ?_ | refine c_skip ?_ | refine c_reads rfl (by decide +kernel) ?_ | refine q_val rfl rfl (by first | exact pureEval_ok rfl | exact v_load rfl (by repeat (first | exact List.Mem.head _ | apply List.Mem.tail)) rfl (by rfl) | exact v_index rfl rfl rfl rfl (by omega) (by omega) (by with_reducible first | exact idx3 _ _  ) ) ?_ )
                refine q_call rfl rfl rfl (fun W hW => Inside_calls ln2 hn2 lw2 hw2 W) ?_
                rw [in_yes x2 x3 x4 x5]
                repeat (first | refine l_val rfl rfl (by first | exact v_add rfl rfl (by omega) (by omega) | exact pureEval_ok rfl | exact v_load rfl (by repeat (first | exact List.Mem.head _ | apply List.Mem.tail)) rfl (by rfl) | exact v_index rfl rfl rfl rfl (by omega) (by omega) (by with_reducible first | exact idx3 _ _  ) ) ?_ | refine l_nil ?_ | refine c_region ?_ | refine c_seq ?_ | refine x_then ?_ | refine c_false rfl ?_ | refine c_skip ?_ | refine x_block ?_ | refine l_dec_f rfl rfl rfl rfl rfl (by first | omega ) ?_ | refine q_val rfl rfl (by first | exact pureEval_ok rfl ) ?_ | refine q_nil ?_ )
                exact x_back 3 (by decide) (by decide) (by repeat (first | exact EnvSub.nil | refine EnvSub.cons rfl (by first | rfl | (congr 1; done) | (exact congrArg (Value.int _) (by omega)) | (simp; done)) ?_)) (by repeat (first | exact MSub.nil | refine MSub.keep (by first | rfl | assumption) ?_ | refine MSub.drop ?_ | exact MSub.refl _))
              · repeat (first | refine l_val rfl rfl (by first | exact v_add rfl rfl (by omega) (by omega) | exact pureEval_ok rfl | exact v_load rfl (by repeat (first | exact List.Mem.head _ | apply List.Mem.tail)) rfl (by rfl) | exact v_index rfl rfl rfl rfl (by omega) (by omega) (by with_reducible first | exact idx3 _ _  ) ) ?_ | refine l_nil ?_ | refine c_region ?_ | refine c_seq ?_ | refine x_then ?_ | refine c_true rfl ?_ | refine c_dec_t rfl (by first | omega ) ?_ | refine c_block ?_ | refine c_skip ?_ | refine c_exit ?_ | refine x_then_exit ?_ | refine x_block_same ?_ )
                exact x_back 3 (by decide) (by decide) (by repeat (first | exact EnvSub.nil | refine EnvSub.cons rfl (by first | rfl | (congr 1; done) | (exact congrArg (Value.int _) (by omega)) | (simp; done)) ?_)) (by repeat (first | exact MSub.nil | refine MSub.keep (by first | rfl | assumption) ?_ | refine MSub.drop ?_ | exact MSub.refl _))
            · by_cases he : ew3 = 0
              · obtain ⟨x1, x2, x3, x4, x5⟩ := F3 he
                repeat (first | refine l_val rfl rfl (by first | exact pureEval_ok rfl | exact v_load rfl (by repeat (first | exact List.Mem.head _ | apply List.Mem.tail)) rfl (by rfl) | exact v_index rfl rfl rfl rfl (by omega) (by omega) (by with_reducible first | exact idx3 _ _  ) ) ?_ | refine l_nil ?_ | refine c_region ?_ | refine c_seq ?_ | refine x_then ?_ | refine c_true rfl ?_ | refine c_dec_f rfl (by first | omega | exact fun h => h rfl ) ?_ | refine c_block ?_ | refine c_skip ?_ | refine c_reads rfl (by decide +kernel) ?_ | refine q_val rfl rfl (by first | exact pureEval_ok rfl | exact v_load rfl (by repeat (first | exact List.Mem.head _ | apply List.Mem.tail)) rfl (by rfl) | exact v_index rfl rfl rfl rfl (by omega) (by omega) (by with_reducible first | exact idx3 _ _  ) ) ?_ )
                refine q_call rfl rfl rfl (fun W hW => Inside_calls ln3 hn3 lw3 hw3 W) ?_
                rw [in_yes x2 x3 x4 x5]
                repeat (first | refine l_val rfl rfl (by first | exact v_add rfl rfl (by omega) (by omega) | exact pureEval_ok rfl | exact v_load rfl (by repeat (first | exact List.Mem.head _ | apply List.Mem.tail)) rfl (by rfl) | exact v_index rfl rfl rfl rfl (by omega) (by omega) (by with_reducible first | exact idx3 _ _  ) ) ?_ | refine l_nil ?_ | refine c_region ?_ | refine c_seq ?_ | refine x_then ?_ | refine c_false rfl ?_ | refine c_skip ?_ | refine x_block ?_ | refine l_dec_f rfl rfl rfl rfl rfl (by first | omega ) ?_ | refine q_val rfl rfl (by first | exact pureEval_ok rfl ) ?_ | refine q_nil ?_ )
                exact x_back 4 (by decide) (by decide) (by repeat (first | exact EnvSub.nil | refine EnvSub.cons rfl (by first | rfl | (congr 1; done) | (exact congrArg (Value.int _) (by omega)) | (simp; done)) ?_)) (by repeat (first | exact MSub.nil | refine MSub.keep (by first | rfl | assumption) ?_ | refine MSub.drop ?_ | exact MSub.refl _))
              · repeat (first | refine l_val rfl rfl (by first | exact v_add rfl rfl (by omega) (by omega) | exact pureEval_ok rfl | exact v_load rfl (by repeat (first | exact List.Mem.head _ | apply List.Mem.tail)) rfl (by rfl) | exact v_index rfl rfl rfl rfl (by omega) (by omega) (by with_reducible first | exact idx3 _ _  ) ) ?_ | refine l_nil ?_ | refine c_region ?_ | refine c_seq ?_ | refine x_then ?_ | refine c_true rfl ?_ | refine c_dec_t rfl (by first | omega ) ?_ | refine c_block ?_ | refine c_skip ?_ | refine c_exit ?_ | refine x_then_exit ?_ | refine x_block_same ?_ )
                exact x_back 4 (by decide) (by decide) (by repeat (first | exact EnvSub.nil | refine EnvSub.cons rfl (by first | rfl | (congr 1; done) | (exact congrArg (Value.int _) (by omega)) | (simp; done)) ?_)) (by repeat (first | exact MSub.nil | refine MSub.keep (by first | rfl | assumption) ?_ | refine MSub.drop ?_ | exact MSub.refl _))
            · by_cases he : ew4 = 0
              · obtain ⟨x1, x2, x3, x4, x5⟩ := F4 he
                repeat (first | refine l_val rfl rfl (by first | exact pureEval_ok rfl | exact v_load rfl (by repeat (first | exact List.Mem.head _ | apply List.Mem.tail)) rfl (by rfl) | exact v_index rfl rfl rfl rfl (by omega) (by omega) (by with_reducible first | exact idx3 _ _  ) ) ?_ | refine l_nil ?_ | refine c_region ?_ | refine c_seq ?_ | refine x_then ?_ | refine c_true rfl ?_ | refine c_dec_f rfl (by first | omega | exact fun h => h rfl ) ?_ | refine c_block ?_ | refine c_skip ?_ | refine c_reads rfl (by decide +kernel) ?_ | refine q_val rfl rfl (by first | exact pureEval_ok rfl | exact v_load rfl (by repeat (first | exact List.Mem.head _ | apply List.Mem.tail)) rfl (by rfl) | exact v_index rfl rfl rfl rfl (by omega) (by omega) (by with_reducible first | exact idx3 _ _  ) ) ?_ )
                refine q_call rfl rfl rfl (fun W hW => Inside_calls ln4 hn4 lw4 hw4 W) ?_
                rw [in_yes x2 x3 x4 x5]
                repeat (first | refine l_val rfl rfl (by first | exact v_add rfl rfl (by omega) (by omega) | exact pureEval_ok rfl | exact v_load rfl (by repeat (first | exact List.Mem.head _ | apply List.Mem.tail)) rfl (by rfl) | exact v_index rfl rfl rfl rfl (by omega) (by omega) (by with_reducible first | exact idx3 _ _  ) ) ?_ | refine l_nil ?_ | refine c_region ?_ | refine c_seq ?_ | refine x_then ?_ | refine c_false rfl ?_ | refine c_skip ?_ | refine x_block ?_ | refine l_dec_f rfl rfl rfl rfl rfl (by first | omega ) ?_ | refine q_val rfl rfl (by first | exact pureEval_ok rfl ) ?_ | refine q_nil ?_ )
                exact x_back 5 (by decide) (by decide) (by repeat (first | exact EnvSub.nil | refine EnvSub.cons rfl (by first | rfl | (congr 1; done) | (exact congrArg (Value.int _) (by omega)) | (simp; done)) ?_)) (by repeat (first | exact MSub.nil | refine MSub.keep (by first | rfl | assumption) ?_ | refine MSub.drop ?_ | exact MSub.refl _))
              · repeat (first | refine l_val rfl rfl (by first | exact v_add rfl rfl (by omega) (by omega) | exact pureEval_ok rfl | exact v_load rfl (by repeat (first | exact List.Mem.head _ | apply List.Mem.tail)) rfl (by rfl) | exact v_index rfl rfl rfl rfl (by omega) (by omega) (by with_reducible first | exact idx3 _ _  ) ) ?_ | refine l_nil ?_ | refine c_region ?_ | refine c_seq ?_ | refine x_then ?_ | refine c_true rfl ?_ | refine c_dec_t rfl (by first | omega ) ?_ | refine c_block ?_ | refine c_skip ?_ | refine c_exit ?_ | refine x_then_exit ?_ | refine x_block_same ?_ )
                exact x_back 5 (by decide) (by decide) (by repeat (first | exact EnvSub.nil | refine EnvSub.cons rfl (by first | rfl | (congr 1; done) | (exact congrArg (Value.int _) (by omega)) | (simp; done)) ?_)) (by repeat (first | exact MSub.nil | refine MSub.keep (by first | rfl | assumption) ?_ | refine MSub.drop ?_ | exact MSub.refl _))
            · by_cases he : ew5 = 0
              · obtain ⟨x1, x2, x3, x4, x5⟩ := F5 he
                repeat (first | refine l_val rfl rfl (by first | exact pureEval_ok rfl | exact v_load rfl (by repeat (first | exact List.Mem.head _ | apply List.Mem.tail)) rfl (by rfl) | exact v_index rfl rfl rfl rfl (by omega) (by omega) (by with_reducible first | exact idx3 _ _  ) ) ?_ | refine l_nil ?_ | refine c_region ?_ | refine c_seq ?_ | refine x_then ?_ | refine c_true rfl ?_ | refine c_dec_f rfl (by first | omega | exact fun h => h rfl ) ?_ | refine c_block ?_ | refine c_skip ?_ | refine c_reads rfl (by decide +kernel) ?_ | refine q_val rfl rfl (by first | exact pureEval_ok rfl | exact v_load rfl (by repeat (first | exact List.Mem.head _ | apply List.Mem.tail)) rfl (by rfl) | exact v_index rfl rfl rfl rfl (by omega) (by omega) (by with_reducible first | exact idx3 _ _  ) ) ?_ )
                refine q_call rfl rfl rfl (fun W hW => Inside_calls ln5 hn5 lw5 hw5 W) ?_
                rw [in_yes x2 x3 x4 x5]
                repeat (first | refine l_val rfl rfl (by first | exact v_add rfl rfl (by omega) (by omega) | exact pureEval_ok rfl | exact v_load rfl (by repeat (first | exact List.Mem.head _ | apply List.Mem.tail)) rfl (by rfl) | exact v_index rfl rfl rfl rfl (by omega) (by omega) (by with_reducible first | exact idx3 _ _  ) ) ?_ | refine l_nil ?_ | refine c_region ?_ | refine c_seq ?_ | refine x_then ?_ | refine c_false rfl ?_ | refine c_skip ?_ | refine x_block ?_ | refine l_dec_f rfl rfl rfl rfl rfl (by first | omega ) ?_ | refine q_val rfl rfl (by first | exact pureEval_ok rfl ) ?_ | refine q_nil ?_ )
                exact x_back 6 (by decide) (by decide) (by repeat (first | exact EnvSub.nil | refine EnvSub.cons rfl (by first | rfl | (congr 1; done) | (exact congrArg (Value.int _) (by omega)) | (simp; done)) ?_)) (by repeat (first | exact MSub.nil | refine MSub.keep (by first | rfl | assumption) ?_ | refine MSub.drop ?_ | exact MSub.refl _))
              · repeat (first | refine l_val rfl rfl (by first | exact v_add rfl rfl (by omega) (by omega) | exact pureEval_ok rfl | exact v_load rfl (by repeat (first | exact List.Mem.head _ | apply List.Mem.tail)) rfl (by rfl) | exact v_index rfl rfl rfl rfl (by omega) (by omega) (by with_reducible first | exact idx3 _ _  ) ) ?_ | refine l_nil ?_ | refine c_region ?_ | refine c_seq ?_ | refine x_then ?_ | refine c_true rfl ?_ | refine c_dec_t rfl (by first | omega ) ?_ | refine c_block ?_ | refine c_skip ?_ | refine c_exit ?_ | refine x_then_exit ?_ | refine x_block_same ?_ )
                exact x_back 6 (by decide) (by decide) (by repeat (first | exact EnvSub.nil | refine EnvSub.cons rfl (by first | rfl | (congr 1; done) | (exact congrArg (Value.int _) (by omega)) | (simp; done)) ?_)) (by repeat (first | exact MSub.nil | refine MSub.keep (by first | rfl | assumption) ?_ | refine MSub.drop ?_ | exact MSub.refl _))
            · by_cases he : ew6 = 0
              · obtain ⟨x1, x2, x3, x4, x5⟩ := F6 he
                repeat (first | refine l_val rfl rfl (by first | exact pureEval_ok rfl | exact v_load rfl (by repeat (first | exact List.Mem.head _ | apply List.Mem.tail)) rfl (by rfl) | exact v_index rfl rfl rfl rfl (by omega) (by omega) (by with_reducible first | exact idx3 _ _  ) ) ?_ | refine l_nil ?_ | refine c_region ?_ | refine c_seq ?_ | refine x_then ?_ | refine c_true rfl ?_ | refine c_dec_f rfl (by first | omega | exact fun h => h rfl ) ?_ | refine c_block ?_ | refine c_skip ?_ | refine c_reads rfl (by decide +kernel) ?_ | refine q_val rfl rfl (by first | exact pureEval_ok rfl | exact v_load rfl (by repeat (first | exact List.Mem.head _ | apply List.Mem.tail)) rfl (by rfl) | exact v_index rfl rfl rfl rfl (by omega) (by omega) (by with_reducible first | exact idx3 _ _  ) ) ?_ )
                refine q_call rfl rfl rfl (fun W hW => Inside_calls ln6 hn6 lw6 hw6 W) ?_
                rw [in_yes x2 x3 x4 x5]
                repeat (first | refine l_val rfl rfl (by first | exact v_add rfl rfl (by omega) (by omega) | exact pureEval_ok rfl | exact v_load rfl (by repeat (first | exact List.Mem.head _ | apply List.Mem.tail)) rfl (by rfl) | exact v_index rfl rfl rfl rfl (by omega) (by omega) (by with_reducible first | exact idx3 _ _  ) ) ?_ | refine l_nil ?_ | refine c_region ?_ | refine c_seq ?_ | refine x_then ?_ | refine c_false rfl ?_ | refine c_skip ?_ | refine x_block ?_ | refine l_dec_f rfl rfl rfl rfl rfl (by first | omega ) ?_ | refine q_val rfl rfl (by first | exact pureEval_ok rfl ) ?_ | refine q_nil ?_ )
                exact x_back 7 (by decide) (by decide) (by repeat (first | exact EnvSub.nil | refine EnvSub.cons rfl (by first | rfl | (congr 1; done) | (exact congrArg (Value.int _) (by omega)) | (simp; done)) ?_)) (by repeat (first | exact MSub.nil | refine MSub.keep (by first | rfl | assumption) ?_ | refine MSub.drop ?_ | exact MSub.refl _))
              · repeat (first | refine l_val rfl rfl (by first | exact v_add rfl rfl (by omega) (by omega) | exact pureEval_ok rfl | exact v_load rfl (by repeat (first | exact List.Mem.head _ | apply List.Mem.tail)) rfl (by rfl) | exact v_index rfl rfl rfl rfl (by omega) (by omega) (by with_reducible first | exact idx3 _ _  ) ) ?_ | refine l_nil ?_ | refine c_region ?_ | refine c_seq ?_ | refine x_then ?_ | refine c_true rfl ?_ | refine c_dec_t rfl (by first | omega ) ?_ | refine c_block ?_ | refine c_skip ?_ | refine c_exit ?_ | refine x_then_exit ?_ | refine x_block_same ?_ )
                exact x_back 7 (by decide) (by decide) (by repeat (first | exact EnvSub.nil | refine EnvSub.cons rfl (by first | rfl | (congr 1; done) | (exact congrArg (Value.int _) (by omega)) | (simp; done)) ?_)) (by repeat (first | exact MSub.nil | refine MSub.keep (by first | rfl | assumption) ?_ | refine MSub.drop ?_ | exact MSub.refl _))
            · repeat (first | refine l_val rfl rfl (by first | exact pureEval_ok rfl ) ?_ | refine l_nil ?_ | refine c_region ?_ | refine c_seq ?_ | refine x_then ?_ | refine c_false rfl ?_ | refine c_ret ?_ | refine c_exit ?_ | refine x_then_exit ?_ | refine x_block_same ?_ )
              exact x_ret rfl rfl (by repeat (first | exact Res.nil | (apply Res.tmp; rfl) | (apply Res.cell; rfl; exact (by repeat (first | exact List.Mem.head _ | apply List.Mem.tail)); rfl; rfl))) rfl (fun W hW => ⟨by first | rfl | (simp; done) | (simp_all; done), hW.below⟩)
            · omega
          · omega
        · rw [decide_eq_false i2]
          repeat (first | refine l_val rfl rfl (by first | exact pureEval_ok rfl ) ?_ | refine l_nil ?_ | refine c_region ?_ | refine c_seq ?_ | refine x_then ?_ | refine c_true rfl ?_ | refine c_ret ?_ | refine x_then_ret ?_ )
          exact x_ret rfl rfl (by repeat (first | exact Res.nil | (apply Res.tmp; rfl) | (apply Res.cell; rfl; exact (by repeat (first | exact List.Mem.head _ | apply List.Mem.tail)); rfl; rfl))) rfl (fun W hW => ⟨by first | rfl | (simp; done) | (simp_all; done), hW.below⟩)
      · rw [decide_eq_false i1]
        repeat (first | refine l_val rfl rfl (by first | exact pureEval_ok rfl ) ?_ | refine l_nil ?_ | refine c_region ?_ | refine c_seq ?_ | refine x_then ?_ | refine l_skip rfl rfl ?_ | refine c_true rfl ?_ | refine c_ret ?_ | refine x_then_ret ?_ )
        exact x_ret rfl rfl (by repeat (first | exact Res.nil | (apply Res.tmp; rfl) | (apply Res.cell; rfl; exact (by repeat (first | exact List.Mem.head _ | apply List.Mem.tail)); rfl; rfl))) rfl (fun W hW => ⟨by first | rfl | (simp; done) | (simp_all; done), hW.below⟩)
end R21
end Go.Proofs
