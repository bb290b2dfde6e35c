/- Intervals: Scale, walked. -/
import Derived.Test.YtfebhegaomdcoaaIvK
set_option linter.unusedSectionVars false
set_option linter.unusedVariables false
set_option linter.unusedSimpArgs false
namespace Go.Proofs
open Go.RowKit Go.Kin Go.Kin.Iv
namespace R21

theorem ckr_yes {n d : Int} (h : R12.okB n d = true) : R12.chkE n d = 0 := by unfold R12.chkE; rw [h]; rfl
theorem ckr_no {n d : Int} (h : R12.okB n d = false) : R12.chkE n d = 120 := by unfold R12.chkE; rw [h]; rfl
theorem ckq_yes {n d : Int} (h : R12.okB n d = true) : R12.chkR n d = 0 := by unfold R12.chkR; rw [h]; rfl
theorem ckq_no {n d : Int} (h : R12.okB n d = false) : R12.chkR n d = 120 := by unfold R12.chkR; rw [h]; rfl
set_option maxHeartbeats 4000000 in
theorem Scale_calls (a b N D : Int) (w : World) (n1 : -9223372036854775808 ≤ N) (n2 : N ≤ 9223372036854775807) (d1 : -9223372036854775808 ≤ D) (d2 : D ≤ 9223372036854775807) :
    Calls Try.prog 25 ⟨[.agg ⟨rgE a b⟩, .agg ⟨raE N D⟩]⟩ w fun e w' => e = .returned (scV a b N D) ∧ Below w.heap.size w w' := by
  refine fun_enter Try.func25 rfl Try.ntmps25 rfl rfl (satW_nil w) ?_
  repeat (first | refine l_val rfl rfl (by first | exact pureEval_ok rfl | exact v_load rfl (by repeat (first | exact List.Mem.head _ | apply List.Mem.tail)) rfl (by rfl) ) ?_ | refine l_nil ?_ | refine c_region ?_ | refine c_seq ?_ | refine x_then ?_ | refine r_box rfl rfl rfl rfl (fun _ => ?_) | refine r_alloc rfl rfl rfl (by first | exact aggL ) (fun _ => ?_) | refine r_buildSlice rfl rfl rfl rfl rfl rfl (by rfl) (fun _ => ?_) )
  rename_i bs
  refine r_call rfl rfl rfl (fun W hW => all1 a b ▸ valid_calls (some ⟨bs, 0, none⟩) 1 [(a, b)] W (by simp) (hW.rows (b := bs) (by repeat (first | exact List.Mem.head _ | apply List.Mem.tail)) (rest := []) rfl (rg_len _))) ?_
  cases h : vB a b with
  | false =>
    rw [sc_bad h]
    repeat (first | refine l_val rfl rfl (by first | exact pureEval_ok rfl | exact v_load rfl (by repeat (first | exact List.Mem.head _ | apply List.Mem.tail)) rfl (by rfl) ) ?_ | refine l_nil ?_ | refine c_region ?_ | refine c_seq ?_ | refine x_then ?_ | refine r_store rfl rfl rfl rfl rfl rfl rfl (by repeat (first | exact Upd.head | apply Upd.tail)) (by rfl) ?_ | refine c_true rfl ?_ | refine c_ret ?_ | refine x_then_ret ?_ )
    exact x_ret rfl rfl (by repeat (first | exact Res.nil | (apply Res.tmp; rfl) | (apply Res.cell; rfl; exact (by repeat (first | exact List.Mem.head _ | apply List.Mem.tail)); rfl; rfl))) rfl (fun W hW => ⟨by first | rfl | (simp; done) | (simp_all; done), hW.below⟩)
  | true =>
    obtain ⟨g1, g2, g3⟩ := vB_iff.1 h
    repeat (first | refine l_val rfl rfl (by first | exact pureEval_ok rfl | exact v_load rfl (by repeat (first | exact List.Mem.head _ | apply List.Mem.tail)) rfl (by rfl) ) ?_ | refine l_nil ?_ | refine c_region ?_ | refine c_seq ?_ | refine x_then ?_ | refine c_false rfl ?_ | refine c_skip ?_ )
    refine r_call rfl rfl rfl (fun W hW => R12.check_any N D W n1 n2 d1 d2) ?_
    cases h2 : R12.okB N D with
    | false =>
      rw [sc_rat h h2, ckr_no h2]
      repeat (first | refine l_val rfl rfl (by first | exact pureEval_ok rfl | exact v_load rfl (by repeat (first | exact List.Mem.head _ | apply List.Mem.tail)) rfl (by rfl) ) ?_ | refine l_nil ?_ | refine c_region ?_ | refine c_seq ?_ | refine x_then ?_ | refine r_store rfl rfl rfl rfl rfl rfl rfl (by repeat (first | exact Upd.head | apply Upd.tail)) (by rfl) ?_ | refine c_true rfl ?_ | refine c_ret ?_ | refine x_then_ret ?_ )
      exact x_ret rfl rfl (by repeat (first | exact Res.nil | (apply Res.tmp; rfl) | (apply Res.cell; rfl; exact (by repeat (first | exact List.Mem.head _ | apply List.Mem.tail)); rfl; rfl))) rfl (fun W hW => ⟨by first | rfl | (simp; done) | (simp_all; done), hW.below⟩)
    | true =>
      obtain ⟨k1, k2, k3, k4, k5⟩ := R12.okB_iff.1 h2
      rw [sc_ok h h2, ckr_yes h2]
      obtain ⟨d, rfl⟩ : ∃ d : Nat, D = d := ⟨D.toNat, by omega⟩
      repeat (first | refine l_val rfl rfl (by first | exact pureEval_ok rfl | exact v_load rfl (by repeat (first | exact List.Mem.head _ | apply List.Mem.tail)) rfl (by rfl) ) ?_ | refine l_nil ?_ | refine c_region ?_ | refine c_seq ?_ | refine x_then ?_ | refine c_false rfl ?_ | refine c_skip ?_ )
      rename_i bx bc bo
      refine r_callv rfl rfl rfl rfl rfl (fun W hW => around_calls bc a N d W (by omega) (by omega) k3 k4 (by omega) (by omega) (hW.own (bc, Obj.cells ⟨raE N d⟩ 31 (0, 0)) (by repeat (first | exact List.Mem.head _ | apply List.Mem.tail))).2) ?_
      cases o1 : arO a N d with
      | false =>
        rw [rs_no (arO_no (by omega) (.inl rfl) o1), ar_no o1]
        repeat (first | refine l_val rfl rfl (by first | exact pureEval_ok rfl | exact v_load rfl (by repeat (first | exact List.Mem.head _ | apply List.Mem.tail)) rfl (by rfl) ) ?_ | refine l_nil ?_ | refine c_region ?_ | refine c_seq ?_ | refine x_then ?_ )
        refine r_callv rfl rfl rfl rfl rfl (fun W hW => around_calls bc b N d W (by omega) (by omega) k3 k4 (by omega) (by omega) (hW.own (bc, Obj.cells ⟨raE N d⟩ 31 (0, 0)) (by repeat (first | exact List.Mem.head _ | apply List.Mem.tail))).2) ?_
        repeat (first | refine l_val rfl rfl (by first | exact pureEval_ok rfl | exact v_load rfl (by repeat (first | exact List.Mem.head _ | apply List.Mem.tail)) rfl (by rfl) ) ?_ | refine l_nil ?_ | refine c_region ?_ | refine c_seq ?_ | refine x_then ?_ | refine l_skip rfl rfl ?_ | refine r_store rfl rfl rfl rfl rfl rfl rfl (by repeat (first | exact Upd.head | apply Upd.tail)) (by rfl) ?_ | refine c_true rfl ?_ | refine c_ret ?_ | refine x_then_ret ?_ )
        exact x_ret rfl rfl (by repeat (first | exact Res.nil | (apply Res.tmp; rfl) | (apply Res.cell; rfl; exact (by repeat (first | exact List.Mem.head _ | apply List.Mem.tail)); rfl; rfl))) rfl (fun W hW => ⟨by first | rfl | (simp; done) | (simp_all; done), hW.below⟩)
      | true =>
        rw [ar_yes o1]
        repeat (first | refine l_val rfl rfl (by first | exact pureEval_ok rfl | exact v_load rfl (by repeat (first | exact List.Mem.head _ | apply List.Mem.tail)) rfl (by rfl) ) ?_ | refine l_nil ?_ | refine c_region ?_ | refine c_seq ?_ | refine x_then ?_ )
        refine r_callv rfl rfl rfl rfl rfl (fun W hW => around_calls bc b N d W (by omega) (by omega) k3 k4 (by omega) (by omega) (hW.own (bc, Obj.cells ⟨raE N d⟩ 31 (0, 0)) (by repeat (first | exact List.Mem.head _ | apply List.Mem.tail))).2) ?_
        cases o2 : arO b N d with
        | false =>
          rw [rs_no (arO_no (by omega) (.inr rfl) o2), ar_no o2]
          repeat (first | refine l_val rfl rfl (by first | exact pureEval_ok rfl | exact v_load rfl (by repeat (first | exact List.Mem.head _ | apply List.Mem.tail)) rfl (by rfl) ) ?_ | refine l_nil ?_ | refine c_region ?_ | refine c_seq ?_ | refine x_then ?_ | refine r_store rfl rfl rfl rfl rfl rfl rfl (by repeat (first | exact Upd.head | apply Upd.tail)) (by rfl) ?_ | refine c_true rfl ?_ | refine c_ret ?_ | refine x_then_ret ?_ )
          exact x_ret rfl rfl (by repeat (first | exact Res.nil | (apply Res.tmp; rfl) | (apply Res.cell; rfl; exact (by repeat (first | exact List.Mem.head _ | apply List.Mem.tail)); rfl; rfl))) rfl (fun W hW => ⟨by first | rfl | (simp; done) | (simp_all; done), hW.below⟩)
        | true =>
          rw [ar_yes o2]
          repeat (first | refine l_val rfl rfl (by first | exact pureEval_ok rfl ) ?_ | refine l_nil ?_ | refine c_region ?_ | refine c_seq ?_ | refine x_then ?_ | refine r_buildSlice rfl rfl rfl rfl rfl rfl (by rfl) (fun _ => ?_) | refine c_false rfl ?_ | refine c_skip ?_ )
          rename_i y
          refine r_call rfl rfl rfl (fun W hW => hull_calls (fl a N d) (some ⟨y, 0, none⟩) 3 [ce a N d, fl b N d, ce b N d] W (by simp) (hW.rows (b := y) (by repeat (first | exact List.Mem.head _ | apply List.Mem.tail)) (rest := []) rfl (in_len _))) ?_
          obtain ⟨e1, e2⟩ := sc_hull (a := a) (b := b) (N := N) (D := d) (by omega)
          rw [e1, e2]
          repeat (first | refine l_val rfl rfl (by first | exact pureEval_ok rfl ) ?_ | refine l_nil ?_ | refine x_then ?_ | refine r_store rfl rfl rfl rfl rfl rfl rfl (by repeat (first | exact Upd.head | apply Upd.tail)) (by rfl) ?_ | refine c_ret ?_ )
          exact x_ret rfl rfl (by repeat (first | exact Res.nil | (apply Res.tmp; rfl) | (apply Res.cell; rfl; exact (by repeat (first | exact List.Mem.head _ | apply List.Mem.tail)); rfl; rfl))) rfl (fun W hW => ⟨by first | rfl | (simp; done) | (simp_all; done), hW.below⟩)
theorem ScaleN_calls (a b N : Int) (d : Nat) (w : World) (n1 : -1073741824 ≤ N := by decide) (n2 : N ≤ 1073741824 := by decide) (d2 : d ≤ 1073741824 := by decide) :
    Calls Try.prog 25 ⟨[.agg ⟨rgE a b⟩, .agg ⟨raE N d⟩]⟩ w fun e w' => e = .returned (scV a b N d) ∧ Below w.heap.size w w' := Scale_calls a b N d w (by omega) (by omega) (by omega) (by omega)
end R21
end Go.Proofs
