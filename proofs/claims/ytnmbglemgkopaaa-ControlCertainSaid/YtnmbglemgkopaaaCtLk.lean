/- Uncertain networks: link, of the law. -/
import Derived.Test.YtnmbglemgkopaaaCtC
set_option linter.unusedSectionVars false
set_option linter.unusedVariables false
set_option linter.unusedSimpArgs false
namespace Go.Proofs
open Go.RowKit Go.Kin Go.Kin.St Go.Kin.Ct
open R22
namespace R23
set_option maxHeartbeats 4000000 in
theorem link_calls (a b lo hi : Int) (w : World) :
    Calls Try.prog 34 ⟨[.int .i64 a, .int .i64 b, .int .i64 lo, .int .i64 hi]⟩ w fun e w' => e = .returned (.agg ⟨lkE ⟨a, b, lo, hi⟩⟩) ∧ Below w.heap.size w w' := by
  refine fun_enter Try.func34 rfl Try.ntmps34 rfl rfl (satW_nil w) ?_
  repeat (first | refine l_val rfl rfl (by first | exact pureEval_ok rfl | exact v_build rfl rfl (by rfl)  | fail) ?_ | refine l_nil ?_ | refine c_region ?_ | refine c_seq ?_ | refine x_then ?_ | refine r_alloc rfl rfl rfl (by first | exact aggL  | fail) (fun _ => ?_) | refine r_store rfl rfl rfl rfl rfl rfl rfl (by repeat (first | exact Upd.head | apply Upd.tail)) (by rfl) ?_ | refine c_ret ?_  | fail)
  exact x_ret rfl rfl (by repeat (first | exact Res.nil | (apply Res.tmp; rfl) | (apply Res.cell; rfl; exact (by repeat (first | exact List.Mem.head _ | apply List.Mem.tail)); rfl; rfl))) rfl (fun W hW => ⟨rfl, hW.below⟩)
end R23
end Go.Proofs
