/- Collating: readings in form, checks of witnesses. -/
import Derived.Test.YtobiefdkpiognaaClJ
set_option linter.unusedSectionVars false
set_option linter.unusedVariables false
set_option linter.unusedSimpArgs false
namespace Go.Proofs
open Go.RowKit Go.Kin Go.Kin.Cl
namespace R41
theorem eqsg (s t : Sg) : eqV tt [32, 34, 72, 79] 8 34 (.agg ⟨sgE s⟩) (.agg ⟨sgE t⟩) = some (decide (s = t)) := by
  obtain ⟨s0, s1, s2, s3, s4, s5, s6, s7, s8, s9, s10, s11, s12, s13⟩ := s
  obtain ⟨t0, t1, t2, t3, t4, t5, t6, t7, t8, t9, t10, t11, t12, t13⟩ := t
  show some (decide (s0 = t0) && (decide (s1 = t1) && (decide (s2 = t2) && (decide (s3 = t3) && (decide (s4 = t4) && (decide (s5 = t5) && (decide (s6 = t6) && (decide (s7 = t7) && (decide (s8 = t8) && (decide (s9 = t9) && ((decide (s10 = t10) && decide (s11 = t11)) && (decide (s12 = t12) && decide (s13 = t13))))))))))))) = _
  rw [Option.some.injEq, Bool.eq_iff_iff]
  simp only [Bool.and_eq_true, decide_eq_true_eq, Sg.mk.injEq, and_assoc]
structure Rd where
  lost : Bool
  s : Sg
@[reducible] def rdE (r : Rd) : List Value := .bool r.lost :: sgE r.s
def readB (r : Rd) : Bool := if r.lost = true then decide (r.s = sg0) else formB r.s && decide (r.s.id = 0)
theorem readB_t (s : Sg) : readB ⟨true, s⟩ = decide (s = sg0) := if_pos rfl
theorem readB_f (s : Sg) : readB ⟨false, s⟩ = (formB s && decide (s.id = 0)) := if_neg (by simp)
set_option maxHeartbeats 4000000 in
theorem reading_calls (r : Rd) (w : World) : Calls Try.prog 43 ⟨[.agg ⟨rdE r⟩]⟩ w fun e w' => e = .returned (.bool (readB r)) ∧ Below w.heap.size w w' := by
  obtain ⟨lost, s⟩ := r
  refine fun_enter Try.func43 rfl Try.ntmps43 rfl rfl (satW_nil w) ?_
  cases lost with
  | true =>
    repeat (first | (refine l_val rfl rfl (v_eqS rfl rfl rfl (eqsg s sg0)) ?_) | refine l_val rfl rfl (by first | exact pureEval_ok rfl | exact v_load rfl (by repeat (first | exact List.Mem.head _ | apply List.Mem.tail)) rfl (by rfl) | exact v_build rfl rfl (by rfl) ) ?_ | refine l_nil ?_ | refine c_region ?_ | refine c_seq ?_ | refine x_then ?_ | refine r_box rfl rfl rfl rfl (fun _ => ?_) | refine c_true rfl ?_ | refine c_ret ?_ | refine x_then_ret ?_ )
    exact x_ret rfl rfl (by repeat (first | exact Res.nil | (apply Res.tmp; rfl) | (apply Res.cell; rfl; exact (by repeat (first | exact List.Mem.head _ | apply List.Mem.tail)); rfl; rfl))) rfl (fun W hW => ⟨by rw [readB_t], hW.below⟩)
  | false =>
    repeat (first | refine l_val rfl rfl (by first | exact pureEval_ok rfl | exact v_load rfl (by repeat (first | exact List.Mem.head _ | apply List.Mem.tail)) rfl (by rfl) ) ?_ | refine l_nil ?_ | refine c_region ?_ | refine c_seq ?_ | refine x_then ?_ | refine r_box rfl rfl rfl rfl (fun _ => ?_) | refine c_false rfl ?_ | refine c_skip ?_ )
    refine r_call rfl rfl rfl (fun W hW => Form_calls s W) ?_
    cases h : formB s with
    | false =>
      repeat (first | refine l_val rfl rfl (by first | exact pureEval_ok rfl ) ?_ | refine l_nil ?_ | refine c_region ?_ | refine c_seq ?_ | refine x_then ?_ | refine l_skip rfl rfl ?_ | refine c_ret ?_ )
      exact x_ret rfl rfl (by repeat (first | exact Res.nil | (apply Res.tmp; rfl) | (apply Res.cell; rfl; exact (by repeat (first | exact List.Mem.head _ | apply List.Mem.tail)); rfl; rfl))) rfl (fun W hW => ⟨by rw [readB_f, h]; rfl, hW.below⟩)
    | true =>
      repeat (first | refine l_val rfl rfl (by first | exact pureEval_ok rfl | exact v_load rfl (by repeat (first | exact List.Mem.head _ | apply List.Mem.tail)) rfl (by rfl) ) ?_ | refine l_nil ?_ | refine c_region ?_ | refine c_seq ?_ | refine x_then ?_ | refine c_ret ?_ )
      exact x_ret rfl rfl (by repeat (first | exact Res.nil | (apply Res.tmp; rfl) | (apply Res.cell; rfl; exact (by repeat (first | exact List.Mem.head _ | apply List.Mem.tail)); rfl; rfl))) rfl (fun W hW => ⟨by rw [readB_f, h]; rfl, hW.below⟩)
set_option maxHeartbeats 4000000 in
theorem check1_calls (s : Sg) (hs : s.wf) (b : Nat) (w : World) (hA : Kin.At w (some ⟨b, 0, none⟩) 14 [sgE s]) : Calls Try.prog 41 ⟨[.slice (some ⟨b, 0, none⟩) 1 1]⟩ w fun e w' => e = .returned (.int .i64 (if formB s = true then 0 else 360)) ∧ Below w.heap.size w w' := by
  obtain ⟨b', o', he, hc⟩ := hA 0 _ rfl
  cases he
  have e0 := ext_of hc
  rw [Nat.zero_mul, Nat.zero_add] at e0
  refine fun_enter Try.func41 rfl Try.ntmps41 rfl rfl (satW_nil w) ?_
  repeat (first | refine l_val rfl rfl (by first | exact pureEval_ok rfl ) ?_ | refine l_nil ?_ | refine c_region ?_ | refine c_seq ?_ | refine x_then ?_ | refine c_false rfl ?_ | refine c_block ?_ | refine c_skip ?_ )
  refine c_loop (ι := Nat) (fun k => k = 0 ∨ (k = 1 ∧ formB s = true)) (fun k => [(0, .slice (some ⟨b, 0, none⟩) 1 1), (8, .slice (some ⟨b, 0, none⟩) 1 1), (9, .int .i64 ((1 : Nat) : Int)), (10, .int .i64 k)]) (fun _ => []) (fun k => 1 - k) 0 (.inl rfl) (by repeat (first | exact EnvSub.nil | refine EnvSub.cons rfl (by first | rfl | (congr 1; done) | (exact congrArg (Value.int _) (by omega)) | (simp; done)) ?_)) (by repeat (first | exact MSub.nil | refine MSub.keep (by first | rfl | assumption) ?_ | refine MSub.drop ?_ | exact MSub.refl _)) ?_
  rintro k (rfl | ⟨rfl, hf⟩)
  · by_cases h : formB s = true
    · repeat (first | refine l_val rfl rfl (by first | exact pureEval_ok rfl | exact v_load_ext0 rfl (by assumption) rfl (by rfl) | exact v_index rfl rfl rfl rfl (by omega) (by omega) (by with_reducible first | exact idx3 _ _  ) ) ?_ | refine l_nil ?_ | refine c_region ?_ | refine c_seq ?_ | refine x_then ?_ | refine r_alloc rfl rfl rfl (by first | exact aggL ) (fun _ => ?_) | refine r_store rfl rfl rfl rfl rfl rfl rfl (by repeat (first | exact Upd.head | apply Upd.tail)) (by rfl) ?_ | refine c_true rfl ?_ | refine c_block ?_ | refine c_skip ?_ | refine c_reads rfl (by decide +kernel) ?_ | refine q_val rfl rfl (by first | exact pureEval_ok rfl | exact v_load rfl (by repeat (first | exact List.Mem.head _ | apply List.Mem.tail)) rfl (by rfl) ) ?_ | (refine q_call rfl rfl rfl (fun W hW => form_calls s W hs) ?_) )
      rw [h]
      repeat (first | refine l_val rfl rfl (by first | exact v_add rfl rfl (by omega) (by omega) | exact pureEval_ok rfl ) ?_ | refine l_nil ?_ | refine c_region ?_ | refine x_then ?_ | refine c_false rfl ?_ | refine c_skip ?_ | refine x_block ?_ | refine q_val rfl rfl (by first | exact pureEval_ok rfl ) ?_ | refine q_nil ?_ | refine q_skip rfl rfl ?_ )
      exact x_back 1 (.inr ⟨rfl, by first | rfl | exact h⟩) (by omega) (by repeat (first | exact EnvSub.nil | refine EnvSub.cons rfl (by first | rfl | (congr 1; done) | (exact congrArg (Value.int _) (by omega)) | (simp; done)) ?_)) (by repeat (first | exact MSub.nil | refine MSub.keep (by first | rfl | assumption) ?_ | refine MSub.drop ?_ | exact MSub.refl _))
    · rw [if_neg h]
      repeat (first | refine l_val rfl rfl (by first | exact pureEval_ok rfl | exact v_load_ext0 rfl (by assumption) rfl (by rfl) | exact v_index rfl rfl rfl rfl (by omega) (by omega) (by with_reducible first | exact idx3 _ _  ) ) ?_ | refine l_nil ?_ | refine c_region ?_ | refine c_seq ?_ | refine x_then ?_ | refine r_alloc rfl rfl rfl (by first | exact aggL ) (fun _ => ?_) | refine r_store rfl rfl rfl rfl rfl rfl rfl (by repeat (first | exact Upd.head | apply Upd.tail)) (by rfl) ?_ | refine c_true rfl ?_ | refine c_block ?_ | refine c_skip ?_ | refine c_reads rfl (by decide +kernel) ?_ | refine q_val rfl rfl (by first | exact pureEval_ok rfl | exact v_load rfl (by repeat (first | exact List.Mem.head _ | apply List.Mem.tail)) rfl (by rfl) ) ?_ | (refine q_call rfl rfl rfl (fun W hW => form_calls s W hs) ?_) )
      rw [show formB s = false by simpa using h]
      repeat (first | refine l_val rfl rfl (by first | exact pureEval_ok rfl ) ?_ | refine l_nil ?_ | refine c_region ?_ | refine c_seq ?_ | refine x_then ?_ | refine c_true rfl ?_ | refine c_ret ?_ | refine x_then_ret ?_ | refine x_block_ret ?_ | refine q_val rfl rfl (by first | exact pureEval_ok rfl ) ?_ | refine q_nil ?_ | refine q_skip rfl rfl ?_ )
      exact x_ret rfl rfl (by repeat (first | exact Res.nil | (apply Res.tmp; rfl) | (apply Res.cell; rfl; exact (by repeat (first | exact List.Mem.head _ | apply List.Mem.tail)); rfl; rfl))) rfl (fun W hW => ⟨rfl, hW.below⟩)
  · repeat (first | refine l_val rfl rfl (by first | exact pureEval_ok rfl ) ?_ | refine l_nil ?_ | refine c_region ?_ | refine c_seq ?_ | refine x_then ?_ | refine c_false rfl ?_ | refine c_ret ?_ | refine c_exit ?_ | refine x_then_exit ?_ | refine x_block_same ?_ )
    exact x_ret rfl rfl (by repeat (first | exact Res.nil | (apply Res.tmp; rfl) | (apply Res.cell; rfl; exact (by repeat (first | exact List.Mem.head _ | apply List.Mem.tail)); rfl; rfl))) rfl (fun W hW => ⟨by rw [if_pos hf], hW.below⟩)
end R41
end Go.Proofs
