/- Clocks: Check, in the specification. -/
import Derived.Test.YtjagcijgfmclhaaTpG
set_option linter.unusedSectionVars false
set_option linter.unusedVariables false
set_option linter.unusedSimpArgs false
namespace Go.Proofs
open Go.RowKit Go.Kin Go.Kin.Tm
namespace R13
set_option maxRecDepth 100000 in
set_option maxHeartbeats 40000000 in
theorem rcheck_calls (c : Clk) (w : World) (hl1 : c.ts.length ≤ 5000) (hl2 : c.ps.length ≤ 5000) (hl3 : c.sp.length ≤ 5000) (hA : c.In w) :
    Calls Try.prog 17 ⟨[.agg ⟨c.v⟩]⟩ w fun e w' => e = .returned (.int .i64 (chk c.n c.ts c.ps c.sp)) ∧ Below w.heap.size w w' := by
  refine fun_enter Try.func17 rfl Try.ntmps17 rfl rfl (satW_nil w) ?_
  by_cases l1 : c.ts.length ≤ 4096
  rotate_left
  · have hv := chk_lim (n := c.n) (ts := c.ts) (ps := c.ps) (ss := c.sp) (fun h => l1 h.1)
    repeat (first | refine l_val rfl rfl (by first | exact pureEval_ok rfl | exact v_load rfl (by repeat (first | exact List.Mem.head _ | apply List.Mem.tail)) rfl (by rfl) ) ?_ | refine l_nil ?_ | refine c_region ?_ | refine c_seq ?_ | refine x_then ?_ | refine l_skip rfl rfl ?_ | refine r_box rfl rfl rfl rfl (fun _ => ?_) | refine c_true rfl ?_ | refine c_ret ?_ | refine x_then_ret ?_ | refine l_dec_t rfl rfl rfl rfl rfl (by first | omega ) ?_ )
    exact x_ret rfl rfl (by repeat (first | exact Res.nil | (apply Res.tmp; rfl) | (apply Res.cell; rfl; exact (by repeat (first | exact List.Mem.head _ | apply List.Mem.tail)); rfl; rfl))) rfl (fun W hW => ⟨by rw [hv], hW.below⟩)
  by_cases l2 : c.ps.length ≤ 4096
  rotate_left
  · have hv := chk_lim (n := c.n) (ts := c.ts) (ps := c.ps) (ss := c.sp) (fun h => l2 h.2.1)
    repeat (first | refine l_val rfl rfl (by first | exact pureEval_ok rfl | exact v_load rfl (by repeat (first | exact List.Mem.head _ | apply List.Mem.tail)) rfl (by rfl) ) ?_ | refine l_nil ?_ | refine c_region ?_ | refine c_seq ?_ | refine x_then ?_ | refine l_skip rfl rfl ?_ | refine r_box rfl rfl rfl rfl (fun _ => ?_) | refine c_true rfl ?_ | refine c_ret ?_ | refine x_then_ret ?_ | refine l_dec_t rfl rfl rfl rfl rfl (by first | omega ) ?_ | refine l_dec_f rfl rfl rfl rfl rfl (by first | omega ) ?_ )
    exact x_ret rfl rfl (by repeat (first | exact Res.nil | (apply Res.tmp; rfl) | (apply Res.cell; rfl; exact (by repeat (first | exact List.Mem.head _ | apply List.Mem.tail)); rfl; rfl))) rfl (fun W hW => ⟨by rw [hv], hW.below⟩)
  by_cases l3 : c.sp.length ≤ 256
  rotate_left
  · have hv := chk_lim (n := c.n) (ts := c.ts) (ps := c.ps) (ss := c.sp) (fun h => l3 h.2.2)
    repeat (first | refine l_val rfl rfl (by first | exact pureEval_ok rfl | exact v_load rfl (by repeat (first | exact List.Mem.head _ | apply List.Mem.tail)) rfl (by rfl) ) ?_ | refine l_nil ?_ | refine c_region ?_ | refine c_seq ?_ | refine x_then ?_ | refine r_box rfl rfl rfl rfl (fun _ => ?_) | refine c_dec_t rfl (by first | omega ) ?_ | refine c_ret ?_ | refine x_then_ret ?_ | refine l_dec_f rfl rfl rfl rfl rfl (by first | omega ) ?_ )
    exact x_ret rfl rfl (by repeat (first | exact Res.nil | (apply Res.tmp; rfl) | (apply Res.cell; rfl; exact (by repeat (first | exact List.Mem.head _ | apply List.Mem.tail)); rfl; rfl))) rfl (fun W hW => ⟨by rw [hv], hW.below⟩)
  have hlim : c.ts.length ≤ 4096 ∧ c.ps.length ≤ 4096 ∧ c.sp.length ≤ 256 := ⟨l1, l2, l3⟩
  have hlim' : Unit → c.ts.length ≤ 4096 ∧ c.ps.length ≤ 4096 ∧ c.sp.length ≤ 256 := fun _ => hlim
  clear hlim
  by_cases hn : 1 ≤ c.n ∧ c.n ≤ 4096
  rotate_left
  · have hv := chk_no (hlim' ()) (no_n (ts := c.ts) (ps := c.ps) (ss := c.sp) hn)
    repeat (first | refine l_val rfl rfl (by first | exact pureEval_ok rfl | exact v_load rfl (by repeat (first | exact List.Mem.head _ | apply List.Mem.tail)) rfl (by rfl) ) ?_ | refine l_nil ?_ | refine c_region ?_ | refine c_seq ?_ | refine x_then ?_ | refine l_skip rfl rfl ?_ | refine r_box rfl rfl rfl rfl (fun _ => ?_) | refine c_true rfl ?_ | refine c_dec_f rfl (by first | omega ) ?_ | refine c_skip ?_ | refine c_ret ?_ | refine x_then_ret ?_ | refine l_dec_f rfl rfl rfl rfl rfl (by first | omega ) ?_ | refine l_not_t rfl rfl rfl rfl (by first | omega ) ?_ | (refine r_call rfl rfl rfl (fun W hW => within_calls _ _ _ W) ?_) )
    exact x_ret rfl rfl (by repeat (first | exact Res.nil | (apply Res.tmp; rfl) | (apply Res.cell; rfl; exact (by repeat (first | exact List.Mem.head _ | apply List.Mem.tail)); rfl; rfl))) rfl (fun W hW => ⟨by rw [hv], hW.below⟩)
  repeat (first | refine l_val rfl rfl (by first | exact pureEval_ok rfl | exact v_load rfl (by repeat (first | exact List.Mem.head _ | apply List.Mem.tail)) rfl (by rfl) ) ?_ | refine l_nil ?_ | refine c_region ?_ | refine c_seq ?_ | refine x_then ?_ | refine r_box rfl rfl rfl rfl (fun _ => ?_) | refine c_dec_f rfl (by first | omega | exact fun h => h rfl ) ?_ | refine c_skip ?_ | refine l_dec_f rfl rfl rfl rfl rfl (by first | omega | exact fun h => h rfl ) ?_ | refine l_not_f rfl rfl rfl rfl (by first | omega ) ?_ | (refine r_call rfl rfl rfl (fun W hW => within_calls _ _ _ W) ?_) )
  refine r_call rfl rfl rfl (fun W hW => tempos_calls c W hn hl1 (hA.sat hW)) ?_
  cases ht : (head0 c.ts && asc (-1) c.n c.ts && okBars c.ts c.n) with
  | false =>
    have hv := chk_no (n := c.n) (hlim' ()) (by
      unfold okClk
      rw [Bool.and_eq_false_iff] at ht
      rcases ht with ht | ht
      · rw [Bool.and_eq_false_iff] at ht
        rcases ht with ht | ht <;> simp [ht]
      · simp [ht])
    repeat (first | refine l_val rfl rfl (by first | exact pureEval_ok rfl | exact v_load rfl (by repeat (first | exact List.Mem.head _ | apply List.Mem.tail)) rfl (by rfl) ) ?_ | refine l_nil ?_ | refine c_region ?_ | refine c_seq ?_ | refine x_then ?_ | refine l_skip rfl rfl ?_ | refine c_true rfl ?_ | refine c_ret ?_ | refine x_then_ret ?_ )
    exact x_ret rfl rfl (by repeat (first | exact Res.nil | (apply Res.tmp; rfl) | (apply Res.cell; rfl; exact (by repeat (first | exact List.Mem.head _ | apply List.Mem.tail)); rfl; rfl))) rfl (fun W hW => ⟨by rw [hv], hW.below⟩)
  | true =>
    repeat (first | refine l_val rfl rfl (by first | exact pureEval_ok rfl | exact v_load rfl (by repeat (first | exact List.Mem.head _ | apply List.Mem.tail)) rfl (by rfl) ) ?_ )
    refine r_call rfl rfl rfl (fun W hW => pauses_calls c W hn hl2 (hA.sat hW)) ?_
    cases hp : ascP (-1) c.n c.ps with
    | false =>
      have hv := chk_no (hlim' ()) (no_ascP (ts := c.ts) (ss := c.sp) hp)
      repeat (first | refine l_val rfl rfl (by first | exact pureEval_ok rfl | exact v_load rfl (by repeat (first | exact List.Mem.head _ | apply List.Mem.tail)) rfl (by rfl) ) ?_ | refine l_nil ?_ | refine c_region ?_ | refine c_seq ?_ | refine x_then ?_ | refine l_skip rfl rfl ?_ | refine c_true rfl ?_ | refine c_ret ?_ | refine x_then_ret ?_ )
      exact x_ret rfl rfl (by repeat (first | exact Res.nil | (apply Res.tmp; rfl) | (apply Res.cell; rfl; exact (by repeat (first | exact List.Mem.head _ | apply List.Mem.tail)); rfl; rfl))) rfl (fun W hW => ⟨by rw [hv], hW.below⟩)
    | true =>
      repeat (first | refine l_val rfl rfl (by first | exact pureEval_ok rfl | exact v_load rfl (by repeat (first | exact List.Mem.head _ | apply List.Mem.tail)) rfl (by rfl) ) ?_ )
      refine r_call rfl rfl rfl (fun W hW => spans_calls c W hl3 (hA.sat hW)) ?_
      cases hs : c.sp.all (okSp c.n) with
      | false =>
        have hv := chk_no (hlim' ()) (no_sp (ts := c.ts) (ps := c.ps) hs)
        repeat (first | refine l_val rfl rfl (by first | exact pureEval_ok rfl ) ?_ | refine l_nil ?_ | refine c_region ?_ | refine c_seq ?_ | refine x_then ?_ | refine c_true rfl ?_ | refine c_ret ?_ | refine x_then_ret ?_ )
        exact x_ret rfl rfl (by repeat (first | exact Res.nil | (apply Res.tmp; rfl) | (apply Res.cell; rfl; exact (by repeat (first | exact List.Mem.head _ | apply List.Mem.tail)); rfl; rfl))) rfl (fun W hW => ⟨by rw [hv], hW.below⟩)
      | true =>
        simp only [Bool.and_eq_true] at ht
        have hv := chk_yes (hlim' ()) hn ht.1.1 ht.1.2 ht.2 hp hs
        repeat (first | refine l_val rfl rfl (by first | exact pureEval_ok rfl ) ?_ | refine l_nil ?_ | refine c_region ?_ | refine c_seq ?_ | refine x_then ?_ | refine c_false rfl ?_ | refine c_skip ?_ | refine c_ret ?_ )
        exact x_ret rfl rfl (by repeat (first | exact Res.nil | (apply Res.tmp; rfl) | (apply Res.cell; rfl; exact (by repeat (first | exact List.Mem.head _ | apply List.Mem.tail)); rfl; rfl))) rfl (fun W hW => ⟨by rw [hv], hW.below⟩)
end R13
end Go.Proofs
