/- Intervals: the statements' own examples, walked. -/
import Derived.Test.YtfebhegaomdcoaaIvL
import Derived.Test.YtfebhegaomdcoaaIvH
set_option linter.unusedSectionVars false
set_option linter.unusedVariables false
set_option linter.unusedSimpArgs false
namespace Go.Proofs
open Go.RowKit Go.Kin Go.Kin.Iv
namespace R21

theorem x1 : okV (vB (-2) 3 && vB 4 5) (-2 + 4) (3 + 5) = .tuple ⟨[.agg ⟨rgE (2) (8)⟩, .int .i64 0]⟩ := by rfl
theorem x2 : okV (vB (-2) 3 && vB 4 5) (-2 - 5) (3 - 4) = .tuple ⟨[.agg ⟨rgE (-7) (-1)⟩, .int .i64 0]⟩ := by rfl
theorem x3 : muV (-2) 3 4 5 = .tuple ⟨[.agg ⟨rgE (-10) (15)⟩, .int .i64 0]⟩ := by rfl
theorem x4 : sqV (-2) 3 = .tuple ⟨[.agg ⟨rgE (0) (9)⟩, .int .i64 0]⟩ := by rfl
theorem x6 : scV (-1) 4 1 (3 : Nat) = .tuple ⟨[.agg ⟨rgE (-1) (2)⟩, .int .i64 0]⟩ := by rfl
theorem x7 : mtV 1 3 5 6 = .tuple ⟨[.agg ⟨rgE (0) (0)⟩, .bool false, .int .i64 0]⟩ := by rfl
theorem x8 : mtV 1 3 3 6 = .tuple ⟨[.agg ⟨rgE (3) (3)⟩, .bool true, .int .i64 0]⟩ := by rfl
theorem x9 : huV 1 3 5 6 = .tuple ⟨[.agg ⟨rgE (1) (6)⟩, .int .i64 0]⟩ := by rfl
theorem x10 : inV (-2) 3 (-2) 4 = .tuple ⟨[.bool true, .int .i64 0]⟩ := by rfl
theorem x11 : inV (-2) 4 (-2) 3 = .tuple ⟨[.bool false, .int .i64 0]⟩ := by rfl
theorem x12 : okV (vB 1099511627776 1099511627776 && vB 0 1) (1099511627776 + 0) (1099511627776 + 1) = .tuple ⟨[.agg ⟨rgE (0) (0)⟩, .int .i64 2]⟩ := by rfl
theorem x14 : muV 0 0 (-1099511627776) 1099511627776 = .tuple ⟨[.agg ⟨rgE (0) (0)⟩, .int .i64 0]⟩ := by rfl
theorem x15 : sqV (-1048576) 0 = .tuple ⟨[.agg ⟨rgE (0) (1099511627776)⟩, .int .i64 0]⟩ := by rfl
theorem rt8 : rt 8 = 2 := rt_eq ⟨by decide, by decide, by decide⟩
theorem rt10 : rt 10 = 3 := rt_eq ⟨by decide, by decide, by decide⟩
theorem x5 : roV 8 10 = .tuple ⟨[.agg ⟨rgE (2) (4)⟩, .int .i64 0]⟩ := by
  rw [ro_yes (by rfl) (by decide)]; unfold upR; rw [rt8, rt10]; rfl
theorem x13 : roV (-1) 4 = .tuple ⟨[.agg ⟨rgE (0) (0)⟩, .int .i64 1]⟩ := by
  rw [ro_neg (by rfl) (by decide)]
theorem x16 : ckE 1 0 = 210 := by rfl
theorem x17 : ckE 0 0 = 0 := by rfl

set_option maxRecDepth 100000 in
set_option maxHeartbeats 4000000 in
theorem sane_calls (w : World) : Calls Try.prog 12 ⟨[]⟩ w fun e w' => e = .returned (.bool true) ∧ Below w.heap.size w w' := by
  refine fun_enter Try.func12 rfl Try.ntmps12 rfl rfl (satW_nil w) ?_
  repeat (first | refine l_val rfl rfl (by first | exact pureEval_ok rfl ) ?_ | refine l_nil ?_ | refine c_region ?_ | refine c_seq ?_ | refine x_then ?_ )
  first | refine r_call rfl rfl rfl (fun W hW => span_calls (-2) (3) W) ?_ | refine q_call rfl rfl rfl (fun W hW => span_calls (-2) (3) W) ?_ | refine h_call rfl rfl rfl (fun W hW => span_calls (-2) (3) W) ?_
  skip
  first | refine r_call rfl rfl rfl (fun W hW => span_calls (4) (5) W) ?_ | refine q_call rfl rfl rfl (fun W hW => span_calls (4) (5) W) ?_ | refine h_call rfl rfl rfl (fun W hW => span_calls (4) (5) W) ?_
  repeat (first | refine l_val rfl rfl (by first | exact v_load rfl (by repeat (first | exact List.Mem.head _ | apply List.Mem.tail)) rfl (by rfl) ) ?_ | refine l_nil ?_ | refine c_region ?_ | refine c_seq ?_ | refine x_then ?_ | refine r_alloc rfl rfl rfl (by first | exact aggL ) (fun _ => ?_) | refine r_store rfl rfl rfl rfl rfl rfl rfl (by repeat (first | exact Upd.head | apply Upd.tail)) (by rfl) ?_ )
  first | refine r_call rfl rfl rfl (fun W hW => Add_calls (-2) 3 4 5 W) ?_ | refine q_call rfl rfl rfl (fun W hW => Add_calls (-2) 3 4 5 W) ?_ | refine h_call rfl rfl rfl (fun W hW => Add_calls (-2) 3 4 5 W) ?_
  rw [x1]
  repeat (first | refine l_val rfl rfl (by first | exact pureEval_ok rfl | exact v_load rfl (by repeat (first | exact List.Mem.head _ | apply List.Mem.tail)) rfl (by rfl) ) ?_ | refine l_nil ?_ | refine c_region ?_ | refine c_seq ?_ | refine x_then ?_ | refine r_alloc rfl rfl rfl (by first | exact aggL ) (fun _ => ?_) | refine r_store rfl rfl rfl rfl rfl rfl rfl (by repeat (first | exact Upd.head | apply Upd.tail)) (by rfl) ?_ )
  first | refine r_call rfl rfl rfl (fun W hW => Sub_calls (-2) 3 4 5 W) ?_ | refine q_call rfl rfl rfl (fun W hW => Sub_calls (-2) 3 4 5 W) ?_ | refine h_call rfl rfl rfl (fun W hW => Sub_calls (-2) 3 4 5 W) ?_
  rw [x2]
  repeat (first | refine l_val rfl rfl (by first | exact pureEval_ok rfl | exact v_load rfl (by repeat (first | exact List.Mem.head _ | apply List.Mem.tail)) rfl (by rfl) ) ?_ | refine l_nil ?_ | refine c_region ?_ | refine c_seq ?_ | refine x_then ?_ | refine r_alloc rfl rfl rfl (by first | exact aggL ) (fun _ => ?_) | refine r_store rfl rfl rfl rfl rfl rfl rfl (by repeat (first | exact Upd.head | apply Upd.tail)) (by rfl) ?_ )
  first | refine r_call rfl rfl rfl (fun W hW => Mul_calls (-2) 3 4 5 W) ?_ | refine q_call rfl rfl rfl (fun W hW => Mul_calls (-2) 3 4 5 W) ?_ | refine h_call rfl rfl rfl (fun W hW => Mul_calls (-2) 3 4 5 W) ?_
  rw [x3]
  repeat (first | refine l_val rfl rfl (by first | exact pureEval_ok rfl | exact v_load rfl (by repeat (first | exact List.Mem.head _ | apply List.Mem.tail)) rfl (by rfl) ) ?_ | refine l_nil ?_ | refine c_region ?_ | refine c_seq ?_ | refine x_then ?_ | refine r_alloc rfl rfl rfl (by first | exact aggL ) (fun _ => ?_) | refine r_store rfl rfl rfl rfl rfl rfl rfl (by repeat (first | exact Upd.head | apply Upd.tail)) (by rfl) ?_ )
  first | refine r_call rfl rfl rfl (fun W hW => Square_calls (-2) 3 W) ?_ | refine q_call rfl rfl rfl (fun W hW => Square_calls (-2) 3 W) ?_ | refine h_call rfl rfl rfl (fun W hW => Square_calls (-2) 3 W) ?_
  rw [x4]
  repeat (first | refine l_val rfl rfl (by first | exact pureEval_ok rfl ) ?_ | refine l_nil ?_ | refine c_region ?_ | refine c_seq ?_ | refine x_then ?_ | refine r_alloc rfl rfl rfl (by first | exact aggL ) (fun _ => ?_) | refine r_store rfl rfl rfl rfl rfl rfl rfl (by repeat (first | exact Upd.head | apply Upd.tail)) (by rfl) ?_ )
  first | refine r_call rfl rfl rfl (fun W hW => span_calls (8) (10) W) ?_ | refine q_call rfl rfl rfl (fun W hW => span_calls (8) (10) W) ?_ | refine h_call rfl rfl rfl (fun W hW => span_calls (8) (10) W) ?_
  skip
  first | refine r_call rfl rfl rfl (fun W hW => Root_calls 8 10 W) ?_ | refine q_call rfl rfl rfl (fun W hW => Root_calls 8 10 W) ?_ | refine h_call rfl rfl rfl (fun W hW => Root_calls 8 10 W) ?_
  rw [x5]
  repeat (first | refine l_val rfl rfl (by first | exact pureEval_ok rfl ) ?_ | refine l_nil ?_ | refine c_region ?_ | refine c_seq ?_ | refine x_then ?_ | refine r_alloc rfl rfl rfl (by first | exact aggL ) (fun _ => ?_) | refine r_store rfl rfl rfl rfl rfl rfl rfl (by repeat (first | exact Upd.head | apply Upd.tail)) (by rfl) ?_ )
  first | refine r_call rfl rfl rfl (fun W hW => span_calls (-1) (4) W) ?_ | refine q_call rfl rfl rfl (fun W hW => span_calls (-1) (4) W) ?_ | refine h_call rfl rfl rfl (fun W hW => span_calls (-1) (4) W) ?_
  repeat (first | refine l_val rfl rfl (by first | exact v_build rfl rfl (by rfl) ) ?_ )
  first | refine r_call rfl rfl rfl (fun W hW => ScaleN_calls (-1) 4 1 3 W) ?_ | refine q_call rfl rfl rfl (fun W hW => ScaleN_calls (-1) 4 1 3 W) ?_ | refine h_call rfl rfl rfl (fun W hW => ScaleN_calls (-1) 4 1 3 W) ?_
  rw [x6]
  repeat (first | refine l_val rfl rfl (by first | exact pureEval_ok rfl ) ?_ | refine l_nil ?_ | refine c_region ?_ | refine c_seq ?_ | refine x_then ?_ | refine r_alloc rfl rfl rfl (by first | exact aggL ) (fun _ => ?_) | refine r_store rfl rfl rfl rfl rfl rfl rfl (by repeat (first | exact Upd.head | apply Upd.tail)) (by rfl) ?_ )
  first | refine r_call rfl rfl rfl (fun W hW => span_calls (1) (3) W) ?_ | refine q_call rfl rfl rfl (fun W hW => span_calls (1) (3) W) ?_ | refine h_call rfl rfl rfl (fun W hW => span_calls (1) (3) W) ?_
  skip
  first | refine r_call rfl rfl rfl (fun W hW => span_calls (5) (6) W) ?_ | refine q_call rfl rfl rfl (fun W hW => span_calls (5) (6) W) ?_ | refine h_call rfl rfl rfl (fun W hW => span_calls (5) (6) W) ?_
  skip
  first | refine r_call rfl rfl rfl (fun W hW => Meet_calls 1 3 5 6 W) ?_ | refine q_call rfl rfl rfl (fun W hW => Meet_calls 1 3 5 6 W) ?_ | refine h_call rfl rfl rfl (fun W hW => Meet_calls 1 3 5 6 W) ?_
  rw [x7]
  repeat (first | refine l_val rfl rfl (by first | exact pureEval_ok rfl ) ?_ | refine l_nil ?_ | refine c_region ?_ | refine c_seq ?_ | refine x_then ?_ | refine r_alloc rfl rfl rfl (by first | exact aggL ) (fun _ => ?_) | refine r_store rfl rfl rfl rfl rfl rfl rfl (by repeat (first | exact Upd.head | apply Upd.tail)) (by rfl) ?_ )
  first | refine r_call rfl rfl rfl (fun W hW => span_calls (1) (3) W) ?_ | refine q_call rfl rfl rfl (fun W hW => span_calls (1) (3) W) ?_ | refine h_call rfl rfl rfl (fun W hW => span_calls (1) (3) W) ?_
  skip
  first | refine r_call rfl rfl rfl (fun W hW => span_calls (3) (6) W) ?_ | refine q_call rfl rfl rfl (fun W hW => span_calls (3) (6) W) ?_ | refine h_call rfl rfl rfl (fun W hW => span_calls (3) (6) W) ?_
  skip
  first | refine r_call rfl rfl rfl (fun W hW => Meet_calls 1 3 3 6 W) ?_ | refine q_call rfl rfl rfl (fun W hW => Meet_calls 1 3 3 6 W) ?_ | refine h_call rfl rfl rfl (fun W hW => Meet_calls 1 3 3 6 W) ?_
  rw [x8]
  repeat (first | refine l_val rfl rfl (by first | exact pureEval_ok rfl ) ?_ | refine l_nil ?_ | refine c_region ?_ | refine c_seq ?_ | refine x_then ?_ | refine r_alloc rfl rfl rfl (by first | exact aggL ) (fun _ => ?_) | refine r_store rfl rfl rfl rfl rfl rfl rfl (by repeat (first | exact Upd.head | apply Upd.tail)) (by rfl) ?_ )
  first | refine r_call rfl rfl rfl (fun W hW => span_calls (1) (3) W) ?_ | refine q_call rfl rfl rfl (fun W hW => span_calls (1) (3) W) ?_ | refine h_call rfl rfl rfl (fun W hW => span_calls (1) (3) W) ?_
  skip
  first | refine r_call rfl rfl rfl (fun W hW => span_calls (5) (6) W) ?_ | refine q_call rfl rfl rfl (fun W hW => span_calls (5) (6) W) ?_ | refine h_call rfl rfl rfl (fun W hW => span_calls (5) (6) W) ?_
  skip
  first | refine r_call rfl rfl rfl (fun W hW => Hull_calls 1 3 5 6 W) ?_ | refine q_call rfl rfl rfl (fun W hW => Hull_calls 1 3 5 6 W) ?_ | refine h_call rfl rfl rfl (fun W hW => Hull_calls 1 3 5 6 W) ?_
  rw [x9]
  repeat (first | refine l_val rfl rfl (by first | exact pureEval_ok rfl ) ?_ | refine l_nil ?_ | refine c_seq ?_ | refine x_then ?_ | refine r_alloc rfl rfl rfl (by first | exact aggL ) (fun _ => ?_) | refine r_store rfl rfl rfl rfl rfl rfl rfl (by repeat (first | exact Upd.head | apply Upd.tail)) (by rfl) ?_ | refine c_reads rfl (by decide +kernel) ?_ | refine q_val rfl rfl (by first | exact v_load rfl (by repeat (first | exact List.Mem.head _ | apply List.Mem.tail)) rfl (by rfl) ) ?_ )
  first | refine r_call rfl rfl rfl (fun W hW => span_calls (-2) (4) W) ?_ | refine q_call rfl rfl rfl (fun W hW => span_calls (-2) (4) W) ?_ | refine h_call rfl rfl rfl (fun W hW => span_calls (-2) (4) W) ?_
  skip
  first | refine r_call rfl rfl rfl (fun W hW => Inside_calls (-2) 3 (-2) 4 W) ?_ | refine q_call rfl rfl rfl (fun W hW => Inside_calls (-2) 3 (-2) 4 W) ?_ | refine h_call rfl rfl rfl (fun W hW => Inside_calls (-2) 3 (-2) 4 W) ?_
  rw [x10]
  repeat (first | refine c_seq ?_ | refine x_then ?_ | refine c_reads rfl (by decide +kernel) ?_ | refine q_val rfl rfl (by first | exact pureEval_ok rfl ) ?_ | refine q_nil ?_ )
  first | refine r_call rfl rfl rfl (fun W hW => span_calls (-2) (4) W) ?_ | refine q_call rfl rfl rfl (fun W hW => span_calls (-2) (4) W) ?_ | refine h_call rfl rfl rfl (fun W hW => span_calls (-2) (4) W) ?_
  repeat (first | refine q_val rfl rfl (by first | exact v_load rfl (by repeat (first | exact List.Mem.head _ | apply List.Mem.tail)) rfl (by rfl) ) ?_ )
  first | refine r_call rfl rfl rfl (fun W hW => Inside_calls (-2) 4 (-2) 3 W) ?_ | refine q_call rfl rfl rfl (fun W hW => Inside_calls (-2) 4 (-2) 3 W) ?_ | refine h_call rfl rfl rfl (fun W hW => Inside_calls (-2) 4 (-2) 3 W) ?_
  rw [x11]
  repeat (first | refine l_val rfl rfl (by first | exact pureEval_ok rfl ) ?_ | refine l_nil ?_ | refine c_region ?_ | refine c_seq ?_ | refine x_then ?_ | refine c_false rfl ?_ | refine c_skip ?_ | refine q_val rfl rfl (by first | exact pureEval_ok rfl ) ?_ | refine q_nil ?_ )
  first | refine r_call rfl rfl rfl (fun W hW => span_calls (1099511627776) (1099511627776) W) ?_ | refine q_call rfl rfl rfl (fun W hW => span_calls (1099511627776) (1099511627776) W) ?_ | refine h_call rfl rfl rfl (fun W hW => span_calls (1099511627776) (1099511627776) W) ?_
  skip
  first | refine r_call rfl rfl rfl (fun W hW => span_calls (0) (1) W) ?_ | refine q_call rfl rfl rfl (fun W hW => span_calls (0) (1) W) ?_ | refine h_call rfl rfl rfl (fun W hW => span_calls (0) (1) W) ?_
  skip
  first | refine r_call rfl rfl rfl (fun W hW => Add_calls 1099511627776 1099511627776 0 1 W) ?_ | refine q_call rfl rfl rfl (fun W hW => Add_calls 1099511627776 1099511627776 0 1 W) ?_ | refine h_call rfl rfl rfl (fun W hW => Add_calls 1099511627776 1099511627776 0 1 W) ?_
  rw [x12]
  repeat (first | refine l_val rfl rfl (by first | exact pureEval_ok rfl ) ?_ | refine l_nil ?_ | refine c_region ?_ | refine c_seq ?_ | refine x_then ?_ | refine r_alloc rfl rfl rfl (by first | exact aggL ) (fun _ => ?_) | refine r_store rfl rfl rfl rfl rfl rfl rfl (by repeat (first | exact Upd.head | apply Upd.tail)) (by rfl) ?_ )
  first | refine r_call rfl rfl rfl (fun W hW => span_calls (-1) (4) W) ?_ | refine q_call rfl rfl rfl (fun W hW => span_calls (-1) (4) W) ?_ | refine h_call rfl rfl rfl (fun W hW => span_calls (-1) (4) W) ?_
  skip
  first | refine r_call rfl rfl rfl (fun W hW => Root_calls (-1) 4 W) ?_ | refine q_call rfl rfl rfl (fun W hW => Root_calls (-1) 4 W) ?_ | refine h_call rfl rfl rfl (fun W hW => Root_calls (-1) 4 W) ?_
  rw [x13]
  repeat (first | refine l_val rfl rfl (by first | exact pureEval_ok rfl ) ?_ | refine l_nil ?_ | refine c_region ?_ | refine c_seq ?_ | refine x_then ?_ | refine r_alloc rfl rfl rfl (by first | exact aggL ) (fun _ => ?_) | refine r_store rfl rfl rfl rfl rfl rfl rfl (by repeat (first | exact Upd.head | apply Upd.tail)) (by rfl) ?_ )
  first | refine r_call rfl rfl rfl (fun W hW => span_calls (0) (0) W) ?_ | refine q_call rfl rfl rfl (fun W hW => span_calls (0) (0) W) ?_ | refine h_call rfl rfl rfl (fun W hW => span_calls (0) (0) W) ?_
  skip
  first | refine r_call rfl rfl rfl (fun W hW => span_calls (-1099511627776) (1099511627776) W) ?_ | refine q_call rfl rfl rfl (fun W hW => span_calls (-1099511627776) (1099511627776) W) ?_ | refine h_call rfl rfl rfl (fun W hW => span_calls (-1099511627776) (1099511627776) W) ?_
  skip
  first | refine r_call rfl rfl rfl (fun W hW => Mul_calls 0 0 (-1099511627776) 1099511627776 W) ?_ | refine q_call rfl rfl rfl (fun W hW => Mul_calls 0 0 (-1099511627776) 1099511627776 W) ?_ | refine h_call rfl rfl rfl (fun W hW => Mul_calls 0 0 (-1099511627776) 1099511627776 W) ?_
  rw [x14]
  repeat (first | refine l_val rfl rfl (by first | exact pureEval_ok rfl ) ?_ | refine l_nil ?_ | refine c_region ?_ | refine c_seq ?_ | refine x_then ?_ | refine r_alloc rfl rfl rfl (by first | exact aggL ) (fun _ => ?_) | refine r_store rfl rfl rfl rfl rfl rfl rfl (by repeat (first | exact Upd.head | apply Upd.tail)) (by rfl) ?_ )
  first | refine r_call rfl rfl rfl (fun W hW => span_calls (-1048576) (0) W) ?_ | refine q_call rfl rfl rfl (fun W hW => span_calls (-1048576) (0) W) ?_ | refine h_call rfl rfl rfl (fun W hW => span_calls (-1048576) (0) W) ?_
  skip
  first | refine r_call rfl rfl rfl (fun W hW => Square_calls (-1048576) 0 W) ?_ | refine q_call rfl rfl rfl (fun W hW => Square_calls (-1048576) 0 W) ?_ | refine h_call rfl rfl rfl (fun W hW => Square_calls (-1048576) 0 W) ?_
  rw [x15]
  repeat (first | refine l_val rfl rfl (by first | exact pureEval_ok rfl ) ?_ | refine l_nil ?_ | refine c_seq ?_ | refine x_then ?_ | refine r_alloc rfl rfl rfl (by first | exact aggL ) (fun _ => ?_) | refine r_store rfl rfl rfl rfl rfl rfl rfl (by repeat (first | exact Upd.head | apply Upd.tail)) (by rfl) ?_ | refine c_reads rfl (by decide +kernel) ?_ | refine q_val rfl rfl (by first | exact pureEval_ok rfl | exact v_load rfl (by repeat (first | exact List.Mem.head _ | apply List.Mem.tail)) rfl (by rfl) ) ?_ | refine q_dec_f rfl rfl rfl rfl (by first | omega | exact fun h => h rfl ) ?_ )
  first | refine r_call rfl rfl rfl (fun W hW => span_calls (0) (0) W) ?_ | refine q_call rfl rfl rfl (fun W hW => span_calls (0) (0) W) ?_ | refine h_call rfl rfl rfl (fun W hW => span_calls (0) (0) W) ?_
  repeat (first | refine q_val rfl rfl (by first | exact pureEval_ok rfl | exact v_load rfl (by repeat (first | exact List.Mem.head _ | apply List.Mem.tail)) rfl (by rfl) | exact v_neS rfl rfl rfl rfl ) ?_ )
  first | refine r_call rfl rfl rfl (fun W hW => span_calls (0) (1099511627776) W) ?_ | refine q_call rfl rfl rfl (fun W hW => span_calls (0) (1099511627776) W) ?_ | refine h_call rfl rfl rfl (fun W hW => span_calls (0) (1099511627776) W) ?_
  repeat (first | refine q_val rfl rfl (by first | exact pureEval_ok rfl | exact v_neS rfl rfl rfl rfl ) ?_ )
  first | refine r_call rfl rfl rfl (fun W hW => span_calls (1) (0) W) ?_ | refine q_call rfl rfl rfl (fun W hW => span_calls (1) (0) W) ?_ | refine h_call rfl rfl rfl (fun W hW => span_calls (1) (0) W) ?_
  skip
  first | refine r_call rfl rfl rfl (fun W hW => Check_calls 1 0 W) ?_ | refine q_call rfl rfl rfl (fun W hW => Check_calls 1 0 W) ?_ | refine h_call rfl rfl rfl (fun W hW => Check_calls 1 0 W) ?_
  rw [x16]
  repeat (first | refine q_val rfl rfl (by first | exact pureEval_ok rfl ) ?_ | refine q_dec_f rfl rfl rfl rfl (by first | omega | exact fun h => h rfl ) ?_ )
  first | refine r_call rfl rfl rfl (fun W hW => span_calls (0) (0) W) ?_ | refine q_call rfl rfl rfl (fun W hW => span_calls (0) (0) W) ?_ | refine h_call rfl rfl rfl (fun W hW => span_calls (0) (0) W) ?_
  skip
  first | refine r_call rfl rfl rfl (fun W hW => Check_calls 0 0 W) ?_ | refine q_call rfl rfl rfl (fun W hW => Check_calls 0 0 W) ?_ | refine h_call rfl rfl rfl (fun W hW => Check_calls 0 0 W) ?_
  rw [x17]
  repeat (first | refine c_seq ?_ | refine x_then ?_ | refine c_false rfl ?_ | refine c_skip ?_ | refine c_reads rfl (by decide +kernel) ?_ | refine q_val rfl rfl (by first | exact pureEval_ok rfl | exact v_load rfl (by repeat (first | exact List.Mem.head _ | apply List.Mem.tail)) rfl (by rfl) ) ?_ | refine q_nil ?_ )
  first | refine r_call rfl rfl rfl (fun W hW => span_calls (2) (8) W) ?_ | refine q_call rfl rfl rfl (fun W hW => span_calls (2) (8) W) ?_ | refine h_call rfl rfl rfl (fun W hW => span_calls (2) (8) W) ?_
  repeat (first | refine q_val rfl rfl (by first | exact pureEval_ok rfl | exact v_load rfl (by repeat (first | exact List.Mem.head _ | apply List.Mem.tail)) rfl (by rfl) | exact v_eqS rfl rfl rfl rfl ) ?_ )
  first | refine r_call rfl rfl rfl (fun W hW => span_calls (-7) (-1) W) ?_ | refine q_call rfl rfl rfl (fun W hW => span_calls (-7) (-1) W) ?_ | refine h_call rfl rfl rfl (fun W hW => span_calls (-7) (-1) W) ?_
  repeat (first | refine q_val rfl rfl (by first | exact pureEval_ok rfl | exact v_load rfl (by repeat (first | exact List.Mem.head _ | apply List.Mem.tail)) rfl (by rfl) | exact v_eqS rfl rfl rfl rfl ) ?_ )
  first | refine r_call rfl rfl rfl (fun W hW => span_calls (-10) (15) W) ?_ | refine q_call rfl rfl rfl (fun W hW => span_calls (-10) (15) W) ?_ | refine h_call rfl rfl rfl (fun W hW => span_calls (-10) (15) W) ?_
  repeat (first | refine q_val rfl rfl (by first | exact pureEval_ok rfl | exact v_load rfl (by repeat (first | exact List.Mem.head _ | apply List.Mem.tail)) rfl (by rfl) | exact v_eqS rfl rfl rfl rfl ) ?_ )
  first | refine r_call rfl rfl rfl (fun W hW => span_calls (0) (9) W) ?_ | refine q_call rfl rfl rfl (fun W hW => span_calls (0) (9) W) ?_ | refine h_call rfl rfl rfl (fun W hW => span_calls (0) (9) W) ?_
  repeat (first | refine q_val rfl rfl (by first | exact pureEval_ok rfl | exact v_load rfl (by repeat (first | exact List.Mem.head _ | apply List.Mem.tail)) rfl (by rfl) | exact v_eqS rfl rfl rfl rfl ) ?_ )
  first | refine r_call rfl rfl rfl (fun W hW => span_calls (2) (4) W) ?_ | refine q_call rfl rfl rfl (fun W hW => span_calls (2) (4) W) ?_ | refine h_call rfl rfl rfl (fun W hW => span_calls (2) (4) W) ?_
  repeat (first | refine q_val rfl rfl (by first | exact pureEval_ok rfl | exact v_load rfl (by repeat (first | exact List.Mem.head _ | apply List.Mem.tail)) rfl (by rfl) | exact v_eqS rfl rfl rfl rfl ) ?_ )
  first | refine r_call rfl rfl rfl (fun W hW => span_calls (-1) (2) W) ?_ | refine q_call rfl rfl rfl (fun W hW => span_calls (-1) (2) W) ?_ | refine h_call rfl rfl rfl (fun W hW => span_calls (-1) (2) W) ?_
  repeat (first | refine q_val rfl rfl (by first | exact pureEval_ok rfl | exact v_load rfl (by repeat (first | exact List.Mem.head _ | apply List.Mem.tail)) rfl (by rfl) | exact v_eqS rfl rfl rfl rfl ) ?_ )
  first | refine r_call rfl rfl rfl (fun W hW => span_calls (3) (3) W) ?_ | refine q_call rfl rfl rfl (fun W hW => span_calls (3) (3) W) ?_ | refine h_call rfl rfl rfl (fun W hW => span_calls (3) (3) W) ?_
  repeat (first | refine q_val rfl rfl (by first | exact pureEval_ok rfl | exact v_load rfl (by repeat (first | exact List.Mem.head _ | apply List.Mem.tail)) rfl (by rfl) | exact v_eqS rfl rfl rfl rfl ) ?_ )
  first | refine r_call rfl rfl rfl (fun W hW => span_calls (1) (6) W) ?_ | refine q_call rfl rfl rfl (fun W hW => span_calls (1) (6) W) ?_ | refine h_call rfl rfl rfl (fun W hW => span_calls (1) (6) W) ?_
  repeat (first | refine x_then ?_ | refine c_ret ?_ | refine q_val rfl rfl (by first | exact pureEval_ok rfl | exact v_eqS rfl rfl rfl rfl ) ?_ | refine q_nil ?_ )
  exact x_ret rfl rfl (by repeat (first | exact Res.nil | (apply Res.tmp; rfl) | (apply Res.cell; rfl; exact (by repeat (first | exact List.Mem.head _ | apply List.Mem.tail)); rfl; rfl))) rfl (fun W hW => ⟨by first | rfl | (simp; done) | (simp_all; done), hW.below⟩)
end R21
end Go.Proofs
