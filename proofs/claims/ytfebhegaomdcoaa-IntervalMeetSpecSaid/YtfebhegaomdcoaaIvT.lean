/- Intervals: the statements that compare with the specification, walked. -/
import Derived.Test.YtfebhegaomdcoaaIvS
import Derived.Test.YtfebhegaomdcoaaEng17
set_option linter.unusedSectionVars false
set_option linter.unusedVariables false
set_option linter.unusedSimpArgs false
namespace Go.Proofs
open Go.RowKit Go.Kin Go.Kin.Iv
namespace R21

set_option maxHeartbeats 4000000 in
theorem intervalSpec_calls (a b c d : Int) (w : World) : Calls Try.prog 3 ⟨[.agg ⟨rgE a b⟩, .agg ⟨rgE c d⟩]⟩ w fun e w' => e = .returned (.bool true) ∧ Below w.heap.size w w' := by
  refine fun_enter Try.func3 rfl Try.ntmps3 rfl rfl (satW_nil w) ?_
  repeat (first | refine l_val rfl rfl (by first | exact pureEval_ok rfl ) ?_ | refine l_nil ?_ | refine c_region ?_ | refine c_seq ?_ | refine x_then ?_ | refine r_box rfl rfl rfl rfl (fun _ => ?_) )
  refine r_call rfl rfl rfl (fun W hW => sane_calls W) ?_
  repeat (first | refine l_val rfl rfl (by first | exact pureEval_ok rfl | exact v_load rfl (by repeat (first | exact List.Mem.head _ | apply List.Mem.tail)) rfl (by rfl) ) ?_ | refine l_nil ?_ | refine c_region ?_ | refine c_seq ?_ | refine x_then ?_ | refine c_false rfl ?_ | refine c_skip ?_ )
  refine r_call rfl rfl rfl (fun W hW => Add_calls a b c d W) ?_
  repeat (first | refine l_val rfl rfl (by first | exact pureEval_ok rfl | exact v_load rfl (by repeat (first | exact List.Mem.head _ | apply List.Mem.tail)) rfl (by rfl) ) ?_ | refine l_nil ?_ | refine c_region ?_ | refine c_seq ?_ | refine x_then ?_ | refine r_alloc rfl rfl rfl (by first | exact aggL ) (fun _ => ?_) | refine r_store rfl rfl rfl rfl rfl rfl rfl (by repeat (first | exact Upd.head | apply Upd.tail)) (by rfl) ?_ )
  refine r_call rfl rfl rfl (fun W hW => rAdd_calls a b c d W) ?_
  repeat (first | refine l_val rfl rfl (by first | exact pureEval_ok rfl | exact v_load rfl (by repeat (first | exact List.Mem.head _ | apply List.Mem.tail)) rfl (by rfl) ) ?_ | refine l_nil ?_ | refine c_region ?_ | refine c_seq ?_ | refine x_then ?_ | refine r_alloc rfl rfl rfl (by first | exact aggL ) (fun _ => ?_) | refine r_store rfl rfl rfl rfl rfl rfl rfl (by repeat (first | exact Upd.head | apply Upd.tail)) (by rfl) ?_ )
  refine r_call rfl rfl rfl (fun W hW => Sub_calls a b c d W) ?_
  repeat (first | refine l_val rfl rfl (by first | exact pureEval_ok rfl | exact v_load rfl (by repeat (first | exact List.Mem.head _ | apply List.Mem.tail)) rfl (by rfl) ) ?_ | refine l_nil ?_ | refine c_region ?_ | refine c_seq ?_ | refine x_then ?_ | refine r_alloc rfl rfl rfl (by first | exact aggL ) (fun _ => ?_) | refine r_store rfl rfl rfl rfl rfl rfl rfl (by repeat (first | exact Upd.head | apply Upd.tail)) (by rfl) ?_ )
  refine r_call rfl rfl rfl (fun W hW => rSub_calls a b c d W) ?_
  repeat (first | refine l_val rfl rfl (by first | exact pureEval_ok rfl | exact v_load rfl (by repeat (first | exact List.Mem.head _ | apply List.Mem.tail)) rfl (by rfl) ) ?_ | refine l_nil ?_ | refine c_region ?_ | refine c_seq ?_ | refine x_then ?_ | refine r_alloc rfl rfl rfl (by first | exact aggL ) (fun _ => ?_) | refine r_store rfl rfl rfl rfl rfl rfl rfl (by repeat (first | exact Upd.head | apply Upd.tail)) (by rfl) ?_ )
  refine r_call rfl rfl rfl (fun W hW => Mul_calls a b c d W) ?_
  repeat (first | refine l_val rfl rfl (by first | exact pureEval_ok rfl | exact v_load rfl (by repeat (first | exact List.Mem.head _ | apply List.Mem.tail)) rfl (by rfl) ) ?_ | refine l_nil ?_ | refine c_region ?_ | refine c_seq ?_ | refine x_then ?_ | refine r_alloc rfl rfl rfl (by first | exact aggL ) (fun _ => ?_) | refine r_store rfl rfl rfl rfl rfl rfl rfl (by repeat (first | exact Upd.head | apply Upd.tail)) (by rfl) ?_ )
  refine r_call rfl rfl rfl (fun W hW => rMul_calls a b c d W) ?_
  repeat (first | refine l_val rfl rfl (by first | exact pureEval_ok rfl ) ?_ | refine l_nil ?_ | refine c_seq ?_ | refine x_then ?_ | refine r_alloc rfl rfl rfl (by first | exact aggL ) (fun _ => ?_) | refine r_store rfl rfl rfl rfl rfl rfl rfl (by repeat (first | exact Upd.head | apply Upd.tail)) (by rfl) ?_ | refine c_reads rfl (by decide +kernel) ?_ | refine q_val rfl rfl (by first | exact v_load rfl (by repeat (first | exact List.Mem.head _ | apply List.Mem.tail)) rfl (by rfl) ) ?_ )
  refine q_call rfl rfl rfl (fun W hW => Check_calls a b W) ?_
  repeat (first | refine q_val rfl rfl (by first | exact v_load rfl (by repeat (first | exact List.Mem.head _ | apply List.Mem.tail)) rfl (by rfl) ) ?_ )
  refine q_call rfl rfl rfl (fun W hW => rCheck_calls a b W) ?_
  repeat (first | refine x_then ?_ | refine c_ret ?_ | refine q_val rfl rfl (by first | exact pureEval_ok rfl | exact v_load rfl (by repeat (first | exact List.Mem.head _ | apply List.Mem.tail)) rfl (by rfl) | exact v_eqS rfl rfl rfl rfl ) ?_ | refine q_nil ?_ | refine q_dec_t rfl rfl rfl rfl (by first | omega ) ?_ | refine q_and_t rfl rfl rfl rfl (by first | omega ) (by first | omega ) ?_ )
  exact x_ret rfl rfl (by repeat (first | exact Res.nil | (apply Res.tmp; rfl) | (apply Res.cell; rfl; exact (by repeat (first | exact List.Mem.head _ | apply List.Mem.tail)); rfl; rfl))) rfl (fun W hW => ⟨by first | rfl | (simp; done) | (simp_all; done), hW.below⟩)
set_option maxHeartbeats 4000000 in
theorem intervalRootSpec_calls (a b n d : Int) (w : World) (n1 : -9223372036854775808 ≤ n) (n2 : n ≤ 9223372036854775807) (d1 : -9223372036854775808 ≤ d) (d2 : d ≤ 9223372036854775807) : Calls Try.prog 4 ⟨[.agg ⟨rgE a b⟩, .agg ⟨raE n d⟩]⟩ w fun e w' => e = .returned (.bool true) ∧ Below w.heap.size w w' := by
  refine fun_enter Try.func4 rfl Try.ntmps4 rfl rfl (satW_nil w) ?_
  repeat (first | refine l_val rfl rfl (by first | exact pureEval_ok rfl ) ?_ | refine l_nil ?_ | refine c_region ?_ | refine c_seq ?_ | refine x_then ?_ | refine r_box rfl rfl rfl rfl (fun _ => ?_) )
  refine r_call rfl rfl rfl (fun W hW => sane_calls W) ?_
  repeat (first | refine l_val rfl rfl (by first | exact pureEval_ok rfl | exact v_load rfl (by repeat (first | exact List.Mem.head _ | apply List.Mem.tail)) rfl (by rfl) ) ?_ | refine l_nil ?_ | refine c_region ?_ | refine c_seq ?_ | refine x_then ?_ | refine c_false rfl ?_ | refine c_skip ?_ )
  refine r_call rfl rfl rfl (fun W hW => Square_calls a b W) ?_
  repeat (first | refine l_val rfl rfl (by first | exact pureEval_ok rfl | exact v_load rfl (by repeat (first | exact List.Mem.head _ | apply List.Mem.tail)) rfl (by rfl) ) ?_ | refine l_nil ?_ | refine c_region ?_ | refine c_seq ?_ | refine x_then ?_ | refine r_alloc rfl rfl rfl (by first | exact aggL ) (fun _ => ?_) | refine r_store rfl rfl rfl rfl rfl rfl rfl (by repeat (first | exact Upd.head | apply Upd.tail)) (by rfl) ?_ )
  refine r_call rfl rfl rfl (fun W hW => rSquare_calls a b W) ?_
  repeat (first | refine l_val rfl rfl (by first | exact pureEval_ok rfl | exact v_load rfl (by repeat (first | exact List.Mem.head _ | apply List.Mem.tail)) rfl (by rfl) ) ?_ | refine l_nil ?_ | refine c_region ?_ | refine c_seq ?_ | refine x_then ?_ | refine r_alloc rfl rfl rfl (by first | exact aggL ) (fun _ => ?_) | refine r_store rfl rfl rfl rfl rfl rfl rfl (by repeat (first | exact Upd.head | apply Upd.tail)) (by rfl) ?_ )
  refine r_call rfl rfl rfl (fun W hW => Root_calls a b W) ?_
  repeat (first | refine l_val rfl rfl (by first | exact pureEval_ok rfl | exact v_load rfl (by repeat (first | exact List.Mem.head _ | apply List.Mem.tail)) rfl (by rfl) ) ?_ | refine l_nil ?_ | refine c_region ?_ | refine c_seq ?_ | refine x_then ?_ | refine r_alloc rfl rfl rfl (by first | exact aggL ) (fun _ => ?_) | refine r_store rfl rfl rfl rfl rfl rfl rfl (by repeat (first | exact Upd.head | apply Upd.tail)) (by rfl) ?_ )
  refine r_call rfl rfl rfl (fun W hW => rRoot_calls a b W) ?_
  repeat (first | refine l_val rfl rfl (by first | exact pureEval_ok rfl | exact v_load rfl (by repeat (first | exact List.Mem.head _ | apply List.Mem.tail)) rfl (by rfl) ) ?_ | refine l_nil ?_ | refine c_region ?_ | refine c_seq ?_ | refine x_then ?_ | refine r_alloc rfl rfl rfl (by first | exact aggL ) (fun _ => ?_) | refine r_store rfl rfl rfl rfl rfl rfl rfl (by repeat (first | exact Upd.head | apply Upd.tail)) (by rfl) ?_ )
  refine r_call rfl rfl rfl (fun W hW => Scale_calls a b n d W n1 n2 d1 d2) ?_
  repeat (first | refine l_val rfl rfl (by first | exact pureEval_ok rfl | exact v_load rfl (by repeat (first | exact List.Mem.head _ | apply List.Mem.tail)) rfl (by rfl) ) ?_ | refine l_nil ?_ | refine c_region ?_ | refine c_seq ?_ | refine x_then ?_ | refine r_alloc rfl rfl rfl (by first | exact aggL ) (fun _ => ?_) | refine r_store rfl rfl rfl rfl rfl rfl rfl (by repeat (first | exact Upd.head | apply Upd.tail)) (by rfl) ?_ )
  refine r_call rfl rfl rfl (fun W hW => rScale_calls a b n d W) ?_
  repeat (first | refine l_val rfl rfl (by first | exact pureEval_ok rfl | exact v_load rfl (by repeat (first | exact List.Mem.head _ | apply List.Mem.tail)) rfl (by rfl) | exact v_eqS rfl rfl rfl rfl ) ?_ | refine l_nil ?_ | refine c_region ?_ | refine c_seq ?_ | refine x_then ?_ | refine r_alloc rfl rfl rfl (by first | exact aggL ) (fun _ => ?_) | refine r_store rfl rfl rfl rfl rfl rfl rfl (by repeat (first | exact Upd.head | apply Upd.tail)) (by rfl) ?_ | refine c_ret ?_ | refine l_dec_t rfl rfl rfl rfl rfl (by first | omega ) ?_ | refine l_and_t rfl rfl rfl rfl (by first | omega ) (by first | omega ) ?_ )
  exact x_ret rfl rfl (by repeat (first | exact Res.nil | (apply Res.tmp; rfl) | (apply Res.cell; rfl; exact (by repeat (first | exact List.Mem.head _ | apply List.Mem.tail)); rfl; rfl))) rfl (fun W hW => ⟨by first | rfl | (simp; done) | (simp_all; done), hW.below⟩)
set_option maxHeartbeats 4000000 in
theorem intervalMeetSpec_calls (a b c d : Int) (w : World) : Calls Try.prog 5 ⟨[.agg ⟨rgE a b⟩, .agg ⟨rgE c d⟩]⟩ w fun e w' => e = .returned (.bool true) ∧ Below w.heap.size w w' := by
  refine fun_enter Try.func5 rfl Try.ntmps5 rfl rfl (satW_nil w) ?_
  repeat (first | refine l_val rfl rfl (by first | exact pureEval_ok rfl ) ?_ | refine l_nil ?_ | refine c_region ?_ | refine c_seq ?_ | refine x_then ?_ | refine r_box rfl rfl rfl rfl (fun _ => ?_) )
  refine r_call rfl rfl rfl (fun W hW => sane_calls W) ?_
  repeat (first | refine l_val rfl rfl (by first | exact pureEval_ok rfl | exact v_load rfl (by repeat (first | exact List.Mem.head _ | apply List.Mem.tail)) rfl (by rfl) ) ?_ | refine l_nil ?_ | refine c_region ?_ | refine c_seq ?_ | refine x_then ?_ | refine c_false rfl ?_ | refine c_skip ?_ )
  refine r_call rfl rfl rfl (fun W hW => Meet_calls a b c d W) ?_
  repeat (first | refine l_val rfl rfl (by first | exact pureEval_ok rfl | exact v_load rfl (by repeat (first | exact List.Mem.head _ | apply List.Mem.tail)) rfl (by rfl) ) ?_ | refine l_nil ?_ | refine c_region ?_ | refine c_seq ?_ | refine x_then ?_ | refine r_alloc rfl rfl rfl (by first | exact aggL ) (fun _ => ?_) | refine r_store rfl rfl rfl rfl rfl rfl rfl (by repeat (first | exact Upd.head | apply Upd.tail)) (by rfl) ?_ )
  refine r_call rfl rfl rfl (fun W hW => rMeet_calls a b c d W) ?_
  repeat (first | refine l_val rfl rfl (by first | exact pureEval_ok rfl | exact v_load rfl (by repeat (first | exact List.Mem.head _ | apply List.Mem.tail)) rfl (by rfl) ) ?_ | refine l_nil ?_ | refine c_region ?_ | refine c_seq ?_ | refine x_then ?_ | refine r_alloc rfl rfl rfl (by first | exact aggL ) (fun _ => ?_) | refine r_store rfl rfl rfl rfl rfl rfl rfl (by repeat (first | exact Upd.head | apply Upd.tail)) (by rfl) ?_ )
  refine r_call rfl rfl rfl (fun W hW => Hull_calls a b c d W) ?_
  repeat (first | refine l_val rfl rfl (by first | exact pureEval_ok rfl | exact v_load rfl (by repeat (first | exact List.Mem.head _ | apply List.Mem.tail)) rfl (by rfl) ) ?_ | refine l_nil ?_ | refine c_region ?_ | refine c_seq ?_ | refine x_then ?_ | refine r_alloc rfl rfl rfl (by first | exact aggL ) (fun _ => ?_) | refine r_store rfl rfl rfl rfl rfl rfl rfl (by repeat (first | exact Upd.head | apply Upd.tail)) (by rfl) ?_ )
  refine r_call rfl rfl rfl (fun W hW => rHull_calls a b c d W) ?_
  repeat (first | refine l_val rfl rfl (by first | exact pureEval_ok rfl | exact v_load rfl (by repeat (first | exact List.Mem.head _ | apply List.Mem.tail)) rfl (by rfl) ) ?_ | refine l_nil ?_ | refine c_region ?_ | refine c_seq ?_ | refine x_then ?_ | refine r_alloc rfl rfl rfl (by first | exact aggL ) (fun _ => ?_) | refine r_store rfl rfl rfl rfl rfl rfl rfl (by repeat (first | exact Upd.head | apply Upd.tail)) (by rfl) ?_ )
  first | refine r_call rfl rfl rfl (fun W hW => Inside_calls a b c d W) ?_ | refine q_call rfl rfl rfl (fun W hW => Inside_calls a b c d W) ?_
  repeat (first | refine l_val rfl rfl (by first | exact pureEval_ok rfl | exact v_load rfl (by repeat (first | exact List.Mem.head _ | apply List.Mem.tail)) rfl (by rfl) ) ?_ | refine l_nil ?_ | refine c_region ?_ | refine c_seq ?_ | refine x_then ?_ )
  first | refine r_call rfl rfl rfl (fun W hW => rInside_calls a b c d W) ?_ | refine q_call rfl rfl rfl (fun W hW => rInside_calls a b c d W) ?_
  repeat (first | refine l_val rfl rfl (by first | exact pureEval_ok rfl | exact v_load rfl (by repeat (first | exact List.Mem.head _ | apply List.Mem.tail)) rfl (by rfl) | exact v_eqS rfl rfl rfl rfl ) ?_ | refine l_nil ?_ | refine c_region ?_ | refine c_seq ?_ | refine x_then ?_ | refine c_ret ?_ | refine l_dec_t rfl rfl rfl rfl rfl (by first | omega | exact rfl ) ?_ | refine l_and_t rfl rfl rfl rfl (by first | omega ) (by first | omega ) ?_ )
  exact x_ret rfl rfl (by repeat (first | exact Res.nil | (apply Res.tmp; rfl) | (apply Res.cell; rfl; exact (by repeat (first | exact List.Mem.head _ | apply List.Mem.tail)); rfl; rfl))) rfl (fun W hW => ⟨by first | rfl | (simp; done) | (simp_all; done), hW.below⟩)
end R21
end Go.Proofs
