/- Intervals: the reference's Scale, walked. -/
import Derived.Test.YtfebhegaomdcoaaIvKb
set_option linter.unusedSectionVars false
set_option linter.unusedVariables false
set_option linter.unusedSimpArgs false
namespace Go.Proofs
open Go.RowKit Go.Kin Go.Kin.Iv
namespace R21

theorem tdiv_bd (x D : Int) (hD : 0 < D) (h1 : -1152921504606846976 ≤ x) (h2 : x ≤ 1152921504606846976) : -1152921504606846976 ≤ x.tdiv D ∧ x.tdiv D ≤ 1152921504606846976 ∧ -1152921504606846976 ≤ x.tdiv D * D ∧ x.tdiv D * D ≤ 1152921504606846976 := by
  have h3 : (x.tdiv D).natAbs = x.natAbs / D.natAbs := Int.natAbs_tdiv x D
  have h4 : x.natAbs / D.natAbs ≤ x.natAbs := Nat.div_le_self _ _
  have h5 : (x.tdiv D * D).natAbs = (x.tdiv D).natAbs * D.natAbs := Int.natAbs_mul _ _
  have h6 : x.natAbs / D.natAbs * D.natAbs ≤ x.natAbs := Nat.div_mul_le_self _ _
  rw [h3] at h5
  omega
theorem floor_calls (x D : Int) (w : World) (hD : 0 < D) (h1 : -1152921504606846976 ≤ x) (h2 : x ≤ 1152921504606846976) : Calls Try.prog 57 ⟨[.int .i64 x, .int .i64 D]⟩ w fun e w' => e = .returned (.int .i64 (x / D)) ∧ Below w.heap.size w w' := by
  refine fun_enter Try.func57 rfl Try.ntmps57 rfl rfl (satW_nil w) ?_
  obtain ⟨b1, b2, b3, b4⟩ := tdiv_bd x D hD h1 h2
  rw [floor_eq x hD]
  have hw : IntKind.i64.wrap (x.tdiv D) = x.tdiv D := wrap_i64 (by omega) (by omega)
  obtain ⟨q, hq⟩ : ∃ q, x.tdiv D = q := ⟨_, rfl⟩
  rw [hq] at b1 b2 b3 b4 ⊢
  have hw2 : IntKind.i64.wrap (x.tdiv D) = q := hw.trans hq
  clear hw hq
  by_cases hc : q * D > x
  · rw [if_pos hc]
    repeat (first | refine l_val rfl rfl (by first | exact v_sub rfl rfl (by omega) (by omega) | exact v_mul rfl rfl (by omega) (by omega) | exact pureEval_ok rfl | exact v_quoA rfl rfl (by omega) (by assumption) ) ?_ | refine l_nil ?_ | refine c_region ?_ | refine c_seq ?_ | refine x_then ?_ | refine c_dec_t rfl (by first | omega ) ?_ | refine c_ret ?_ )
    exact x_ret rfl rfl (by repeat (first | exact Res.nil | (apply Res.tmp; rfl) | (apply Res.cell; rfl; exact (by repeat (first | exact List.Mem.head _ | apply List.Mem.tail)); rfl; rfl))) rfl (fun W hW => ⟨by first | rfl | (simp; done) | (simp_all; done), hW.below⟩)
  · rw [if_neg hc]
    repeat (first | refine l_val rfl rfl (by first | exact v_mul rfl rfl (by omega) (by omega) | exact pureEval_ok rfl | exact v_quoA rfl rfl (by omega) (by assumption) ) ?_ | refine l_nil ?_ | refine c_region ?_ | refine c_seq ?_ | refine x_then ?_ | refine c_dec_f rfl (by first | omega ) ?_ | refine c_skip ?_ | refine c_ret ?_ )
    exact x_ret rfl rfl (by repeat (first | exact Res.nil | (apply Res.tmp; rfl) | (apply Res.cell; rfl; exact (by repeat (first | exact List.Mem.head _ | apply List.Mem.tail)); rfl; rfl))) rfl (fun W hW => ⟨by first | rfl | (simp; done) | (simp_all; done), hW.below⟩)

theorem le_div_cast {a k b : Nat} : a ≤ k / b ↔ (a : Int) ≤ (k : Int) / (b : Int) := by
  have h : ((k / b : Nat) : Int) = (k : Int) / (b : Int) := rfl
  omega
def reV (x N D : Int) : Value := .tuple ⟨[.int .i64 (if rO x N D then fl x N D else 0), .int .i64 (if rO x N D then ce x N D else 0), .bool (rO x N D)]⟩
theorem re_no {x N D : Int} (h : rO x N D = false) : reV x N D = .tuple ⟨[.int .i64 0, .int .i64 0, .bool false]⟩ := by unfold reV; rw [h]; rfl
theorem re_yes {x N D : Int} (h : rO x N D = true) : reV x N D = .tuple ⟨[.int .i64 (fl x N D), .int .i64 (ce x N D), .bool true]⟩ := by unfold reV; rw [h]; rfl
set_option maxHeartbeats 1000000 in
theorem scaled_calls (x N D : Int) (w : World) (x1 : -1099511627776 ≤ x) (x2 : x ≤ 1099511627776) (n1 : -1073741824 ≤ N) (n2 : N ≤ 1073741824) (d1 : 0 < D) (d2 : D ≤ 1073741824) :
    Calls Try.prog 50 ⟨[.int .i64 x, .agg ⟨raE N D⟩]⟩ w fun e w' => e = .returned (reV x N D) ∧ Below w.heap.size w w' := by
  refine fun_enter Try.func50 rfl Try.ntmps50 rfl rfl (satW_nil w) ?_
  have q1 := div_lo x d1
  have q2 := div_hi x d1
  have q3 : -1099511627776 ≤ x / D := (Int.le_ediv_iff_mul_le d1).2 (by omega)
  have q4 : x / D ≤ 1099511627776 := by
    have : x / D < 1099511627777 := (Int.ediv_lt_iff_lt_mul d1).2 (by omega)
    omega
  rw [Int.add_mul] at q2
  have hr : x = x / D * D + (x - x / D * D) := by omega
  obtain ⟨f1, f2⟩ := fl_parts (N := N) d1 hr
  have hO : rO x N D = decide (N = 0 ∨ (x / D).natAbs ≤ 2199023255552 / N.natAbs) := rfl
  repeat (first | refine l_val rfl rfl (by first | exact pureEval_ok rfl | exact v_load rfl (by repeat (first | exact List.Mem.head _ | apply List.Mem.tail)) rfl (by rfl) ) ?_ | refine l_nil ?_ | refine c_region ?_ | refine c_seq ?_ | refine x_then ?_ | refine r_box rfl rfl rfl rfl (fun _ => ?_) )
  refine r_call rfl rfl rfl (fun W hW => floor_calls x D W d1 (by omega) (by omega)) ?_
  obtain ⟨q, hq⟩ : ∃ q, x / D = q := ⟨_, rfl⟩
  rw [hq] at q1 q2 q3 q4 hr f1 f2 hO ⊢
  obtain ⟨r, hr2⟩ : ∃ r, x - q * D = r := ⟨_, rfl⟩
  rw [hr2] at hr f1 f2
  have m := mul_le_30 (r := r) (N := N) (D := D) (by omega) (by omega) n1 n2
  have t1 : -1073741824 ≤ (0 - r * N) / D := (Int.le_ediv_iff_mul_le d1).2 (by omega)
  have t2 : (0 - r * N) / D ≤ 1073741824 := by
    have : (0 - r * N) / D < 1073741825 := (Int.ediv_lt_iff_lt_mul d1).2 (by omega)
    omega
  have t3 : -1073741824 ≤ r * N / D := (Int.le_ediv_iff_mul_le d1).2 (by omega)
  have t4 : r * N / D ≤ 1073741824 := by
    have : r * N / D < 1073741825 := (Int.ediv_lt_iff_lt_mul d1).2 (by omega)
    omega
  have m2 : -1152921504606846976 ≤ r * N ∧ r * N ≤ 1152921504606846976 := by omega
  by_cases hN : N = 0
  · have hT : rO x N D = true := by rw [hO]; exact decide_eq_true (.inl hN)
    have hT2 := rO_bd hT (by omega)
    rw [hq] at hT2
    rw [re_yes hT, f1, f2]
    repeat ((fail_if_success refine c_probe (id := 3) ?_); (fail_if_success refine c_probe1 (id := 3) ?_); first | refine l_val rfl rfl (by first | exact v_sub rfl rfl (by omega) (by omega) | exact v_mul rfl rfl (by omega) (by omega) | exact pureEval_ok rfl | exact v_load rfl (by repeat (first | exact List.Mem.head _ | apply List.Mem.tail)) rfl (by rfl) ) ?_ | refine l_nil ?_ | refine c_region ?_ | refine c_seq ?_ | refine x_then ?_ )
    rw [hr2]
    clear q1 q2 hr hO
    repeat (first | refine c_seq ?_ | refine x_then ?_ | refine c_false rfl ?_ | refine c_skip ?_ | refine c_reads rfl (by decide +kernel) ?_ | refine q_val rfl rfl (by first | exact v_mul rfl rfl (by omega) (by omega) | exact pureEval_ok rfl | exact v_load rfl (by repeat (first | exact List.Mem.head _ | apply List.Mem.tail)) rfl (by rfl) ) ?_ | refine q_nil ?_ | refine q_skip rfl rfl ?_ | refine q_dec_f rfl rfl rfl rfl (by first | omega | exact fun h => h rfl ) ?_ )
    refine q_call rfl rfl rfl (fun W hW => floor_calls (r * N) D W d1 (by omega) (by omega)) ?_
    repeat (first | refine c_seq ?_ | refine x_then ?_ | refine c_reads rfl (by decide +kernel) ?_ | refine q_val rfl rfl (by first | exact v_add rfl rfl (by omega) (by omega) | exact v_sub rfl rfl (by omega) (by omega) | exact v_mul rfl rfl (by omega) (by omega) | exact pureEval_ok rfl | exact v_load rfl (by repeat (first | exact List.Mem.head _ | apply List.Mem.tail)) rfl (by rfl) ) ?_ | refine q_nil ?_ )
    refine q_call rfl rfl rfl (fun W hW => floor_calls (0 - r * N) D W d1 (by omega) (by omega)) ?_
    repeat (first | refine l_val rfl rfl (by first | exact pureEval_ok rfl ) ?_ | refine l_nil ?_ | refine c_region ?_ | refine c_seq ?_ | refine x_then ?_ | refine c_ret ?_ | refine q_val rfl rfl (by first | exact v_sub rfl rfl (by omega) (by omega) | exact pureEval_ok rfl ) ?_ | refine q_nil ?_ )
    exact x_ret rfl rfl (by repeat (first | exact Res.nil | (apply Res.tmp; rfl) | (apply Res.cell; rfl; exact (by repeat (first | exact List.Mem.head _ | apply List.Mem.tail)); rfl; rfl))) rfl (fun W hW => ⟨by first | rfl | (simp; done) | (simp_all; done), hW.below⟩)
  · cases hT : rO x N D with
    | true =>
      have hT2 := rO_bd hT (by omega)
      rw [hq] at hT2
      have hT3 : (q.natAbs : Int) ≤ 2199023255552 / (N.natAbs : Int) := by
        rw [hO] at hT
        exact le_div_cast.1 ((of_decide_eq_true hT).resolve_left hN)
      rw [re_yes hT, f1, f2]
      repeat ((fail_if_success refine c_probe (id := 3) ?_); (fail_if_success refine c_probe1 (id := 3) ?_); first | refine l_val rfl rfl (by first | exact v_sub rfl rfl (by omega) (by omega) | exact v_mul rfl rfl (by omega) (by omega) | exact pureEval_ok rfl | exact v_load rfl (by repeat (first | exact List.Mem.head _ | apply List.Mem.tail)) rfl (by rfl) ) ?_ | refine l_nil ?_ | refine c_region ?_ | refine c_seq ?_ | refine x_then ?_ )
      rw [hr2]
      clear q1 q2 hr hO
      repeat (first | refine c_seq ?_ | refine c_reads rfl (by decide +kernel) ?_ | refine q_val rfl rfl (by first | exact pureEval_ok rfl | exact v_load rfl (by repeat (first | exact List.Mem.head _ | apply List.Mem.tail)) rfl (by rfl) ) ?_ | refine q_dec_t rfl rfl rfl rfl (by first | omega ) ?_ )
      refine q_call rfl rfl rfl (fun W hW => abs_calls q W (by omega) (by omega)) ?_
      repeat (first | refine q_val rfl rfl (by first | exact pureEval_ok rfl | exact v_load rfl (by repeat (first | exact List.Mem.head _ | apply List.Mem.tail)) rfl (by rfl) ) ?_ )
      refine q_call rfl rfl rfl (fun W hW => abs_calls N W (by omega) (by omega)) ?_
      repeat (first | refine c_seq ?_ | refine x_then ?_ | refine c_dec_f rfl (by first | omega ) ?_ | refine c_skip ?_ | refine c_reads rfl (by decide +kernel) ?_ | refine q_val rfl rfl (by first | exact v_mul rfl rfl (by omega) (by omega) | exact pureEval_ok rfl | exact v_load rfl (by repeat (first | exact List.Mem.head _ | apply List.Mem.tail)) rfl (by rfl) | exact v_quo rfl rfl (by omega) (by omega) (by omega) ) ?_ | refine q_nil ?_ )
      refine q_call rfl rfl rfl (fun W hW => floor_calls (r * N) D W d1 (by omega) (by omega)) ?_
      repeat (first | refine c_seq ?_ | refine x_then ?_ | refine c_reads rfl (by decide +kernel) ?_ | refine q_val rfl rfl (by first | exact v_add rfl rfl (by omega) (by omega) | exact v_sub rfl rfl (by omega) (by omega) | exact v_mul rfl rfl (by omega) (by omega) | exact pureEval_ok rfl | exact v_load rfl (by repeat (first | exact List.Mem.head _ | apply List.Mem.tail)) rfl (by rfl) ) ?_ | refine q_nil ?_ )
      refine q_call rfl rfl rfl (fun W hW => floor_calls (0 - r * N) D W d1 (by omega) (by omega)) ?_
      repeat (first | refine l_val rfl rfl (by first | exact pureEval_ok rfl ) ?_ | refine l_nil ?_ | refine c_region ?_ | refine c_seq ?_ | refine x_then ?_ | refine c_ret ?_ | refine q_val rfl rfl (by first | exact v_sub rfl rfl (by omega) (by omega) | exact pureEval_ok rfl ) ?_ | refine q_nil ?_ )
      exact x_ret rfl rfl (by repeat (first | exact Res.nil | (apply Res.tmp; rfl) | (apply Res.cell; rfl; exact (by repeat (first | exact List.Mem.head _ | apply List.Mem.tail)); rfl; rfl))) rfl (fun W hW => ⟨by first | rfl | (simp; done) | (simp_all; done), hW.below⟩)
    | false =>
      have hT3 : ¬ (q.natAbs : Int) ≤ 2199023255552 / (N.natAbs : Int) := by
        rw [hO] at hT
        have := of_decide_eq_false hT
        exact fun h => this (.inr (le_div_cast.2 h))
      rw [re_no hT]
      repeat ((fail_if_success refine c_probe (id := 3) ?_); (fail_if_success refine c_probe1 (id := 3) ?_); first | refine l_val rfl rfl (by first | exact v_sub rfl rfl (by omega) (by omega) | exact v_mul rfl rfl (by omega) (by omega) | exact pureEval_ok rfl | exact v_load rfl (by repeat (first | exact List.Mem.head _ | apply List.Mem.tail)) rfl (by rfl) ) ?_ | refine l_nil ?_ | refine c_region ?_ | refine c_seq ?_ | refine x_then ?_ )
      rw [hr2]
      clear q1 q2 hr hO
      repeat (first | refine c_seq ?_ | refine c_reads rfl (by decide +kernel) ?_ | refine q_val rfl rfl (by first | exact pureEval_ok rfl | exact v_load rfl (by repeat (first | exact List.Mem.head _ | apply List.Mem.tail)) rfl (by rfl) ) ?_ | refine q_dec_t rfl rfl rfl rfl (by first | omega ) ?_ )
      refine q_call rfl rfl rfl (fun W hW => abs_calls q W (by omega) (by omega)) ?_
      repeat (first | refine q_val rfl rfl (by first | exact pureEval_ok rfl | exact v_load rfl (by repeat (first | exact List.Mem.head _ | apply List.Mem.tail)) rfl (by rfl) ) ?_ )
      refine q_call rfl rfl rfl (fun W hW => abs_calls N W (by omega) (by omega)) ?_
      repeat (first | refine l_val rfl rfl (by first | exact pureEval_ok rfl ) ?_ | refine l_nil ?_ | refine c_region ?_ | refine c_seq ?_ | refine x_then ?_ | refine c_dec_t rfl (by first | omega ) ?_ | refine c_ret ?_ | refine x_then_ret ?_ | refine q_val rfl rfl (by first | exact pureEval_ok rfl | exact v_quo rfl rfl (by omega) (by omega) (by omega) ) ?_ | refine q_nil ?_ )
      exact x_ret rfl rfl (by repeat (first | exact Res.nil | (apply Res.tmp; rfl) | (apply Res.cell; rfl; exact (by repeat (first | exact List.Mem.head _ | apply List.Mem.tail)); rfl; rfl))) rfl (fun W hW => ⟨by first | rfl | (simp; done) | (simp_all; done), hW.below⟩)
set_option maxHeartbeats 4000000 in
theorem rScale_calls (a b N D : Int) (w : World) : Calls Try.prog 26 ⟨[.agg ⟨rgE a b⟩, .agg ⟨raE N D⟩]⟩ w fun e w' => e = .returned (scV a b N D) ∧ Below w.heap.size w w' := by
  refine fun_enter Try.func26 rfl Try.ntmps26 rfl rfl (satW_nil w) ?_
  repeat (first | refine l_val rfl rfl (by first | exact pureEval_ok rfl | exact v_load rfl (by repeat (first | exact List.Mem.head _ | apply List.Mem.tail)) rfl (by rfl) ) ?_ | refine l_nil ?_ | refine c_region ?_ | refine c_seq ?_ | refine x_then ?_ | refine r_box rfl rfl rfl rfl (fun _ => ?_) | refine r_alloc rfl rfl rfl (by first | exact aggL ) (fun _ => ?_) )
  refine r_call rfl rfl rfl (fun W hW => rValid_calls a b W) ?_
  cases h : vB a b with
  | false =>
    rw [sc_bad h]
    repeat (first | refine l_val rfl rfl (by first | exact pureEval_ok rfl | exact v_build rfl rfl (by rfl) ) ?_ | refine l_nil ?_ | refine c_region ?_ | refine c_seq ?_ | refine x_then ?_ | refine r_store rfl rfl rfl rfl rfl rfl rfl (by repeat (first | exact Upd.head | apply Upd.tail)) (by rfl) ?_ | refine c_true rfl ?_ | refine c_ret ?_ | refine x_then_ret ?_ )
    exact x_ret rfl rfl (by repeat (first | exact Res.nil | (apply Res.tmp; rfl) | (apply Res.cell; rfl; exact (by repeat (first | exact List.Mem.head _ | apply List.Mem.tail)); rfl; rfl))) rfl (fun W hW => ⟨by first | rfl | (simp; done) | (simp_all; done), hW.below⟩)
  | true =>
    obtain ⟨g1, g2, g3⟩ := vB_iff.1 h
    repeat (first | refine l_val rfl rfl (by first | exact pureEval_ok rfl | exact v_load rfl (by repeat (first | exact List.Mem.head _ | apply List.Mem.tail)) rfl (by rfl) ) ?_ | refine l_nil ?_ | refine c_region ?_ | refine c_seq ?_ | refine x_then ?_ | refine c_false rfl ?_ | refine c_skip ?_ )
    refine r_call rfl rfl rfl (fun W hW => R12.rcheck_any N D W) ?_
    cases h2 : R12.okB N D with
    | false =>
      rw [sc_rat h h2, ckq_no h2]
      repeat (first | refine l_val rfl rfl (by first | exact pureEval_ok rfl | exact v_build rfl rfl (by rfl) ) ?_ | refine l_nil ?_ | refine c_region ?_ | refine c_seq ?_ | refine x_then ?_ | refine r_store rfl rfl rfl rfl rfl rfl rfl (by repeat (first | exact Upd.head | apply Upd.tail)) (by rfl) ?_ | refine c_true rfl ?_ | refine c_ret ?_ | refine x_then_ret ?_ )
      exact x_ret rfl rfl (by repeat (first | exact Res.nil | (apply Res.tmp; rfl) | (apply Res.cell; rfl; exact (by repeat (first | exact List.Mem.head _ | apply List.Mem.tail)); rfl; rfl))) rfl (fun W hW => ⟨by first | rfl | (simp; done) | (simp_all; done), hW.below⟩)
    | true =>
      obtain ⟨k1, k2, k3, k4, k5⟩ := R12.okB_iff.1 h2
      rw [sc_ok h h2, ckq_yes h2]
      repeat (first | refine l_val rfl rfl (by first | exact pureEval_ok rfl | exact v_load rfl (by repeat (first | exact List.Mem.head _ | apply List.Mem.tail)) rfl (by rfl) ) ?_ | refine l_nil ?_ | refine c_region ?_ | refine c_seq ?_ | refine x_then ?_ | refine c_false rfl ?_ | refine c_skip ?_ )
      refine r_call rfl rfl rfl (fun W hW => scaled_calls a N D W (by omega) (by omega) k3 k4 (by omega) k2) ?_
      cases o1 : rO a N D with
      | false =>
        rw [rs_no (rO_no (by omega) k3 k4 (.inl rfl) o1), re_no o1]
        repeat (first | refine l_val rfl rfl (by first | exact pureEval_ok rfl | exact v_load rfl (by repeat (first | exact List.Mem.head _ | apply List.Mem.tail)) rfl (by rfl) ) ?_ | refine l_nil ?_ | refine c_region ?_ | refine c_seq ?_ | refine x_then ?_ )
        refine r_call rfl rfl rfl (fun W hW => scaled_calls b N D W (by omega) (by omega) k3 k4 (by omega) k2) ?_
        repeat (first | refine l_val rfl rfl (by first | exact pureEval_ok rfl | exact v_build rfl rfl (by rfl) ) ?_ | refine l_nil ?_ | refine c_region ?_ | refine c_seq ?_ | refine x_then ?_ | refine l_skip rfl rfl ?_ | refine r_store rfl rfl rfl rfl rfl rfl rfl (by repeat (first | exact Upd.head | apply Upd.tail)) (by rfl) ?_ | refine c_true rfl ?_ | refine c_ret ?_ | refine x_then_ret ?_ )
        exact x_ret rfl rfl (by repeat (first | exact Res.nil | (apply Res.tmp; rfl) | (apply Res.cell; rfl; exact (by repeat (first | exact List.Mem.head _ | apply List.Mem.tail)); rfl; rfl))) rfl (fun W hW => ⟨by first | rfl | (simp; done) | (simp_all; done), hW.below⟩)
      | true =>
        rw [re_yes o1]
        repeat (first | refine l_val rfl rfl (by first | exact pureEval_ok rfl | exact v_load rfl (by repeat (first | exact List.Mem.head _ | apply List.Mem.tail)) rfl (by rfl) ) ?_ | refine l_nil ?_ | refine c_region ?_ | refine c_seq ?_ | refine x_then ?_ )
        refine r_call rfl rfl rfl (fun W hW => scaled_calls b N D W (by omega) (by omega) k3 k4 (by omega) k2) ?_
        cases o2 : rO b N D with
        | false =>
          rw [rs_no (rO_no (by omega) k3 k4 (.inr rfl) o2), re_no o2]
          repeat (first | refine l_val rfl rfl (by first | exact pureEval_ok rfl | exact v_build rfl rfl (by rfl) ) ?_ | refine l_nil ?_ | refine c_region ?_ | refine c_seq ?_ | refine x_then ?_ | refine r_store rfl rfl rfl rfl rfl rfl rfl (by repeat (first | exact Upd.head | apply Upd.tail)) (by rfl) ?_ | refine c_true rfl ?_ | refine c_ret ?_ | refine x_then_ret ?_ )
          exact x_ret rfl rfl (by repeat (first | exact Res.nil | (apply Res.tmp; rfl) | (apply Res.cell; rfl; exact (by repeat (first | exact List.Mem.head _ | apply List.Mem.tail)); rfl; rfl))) rfl (fun W hW => ⟨by first | rfl | (simp; done) | (simp_all; done), hW.below⟩)
        | true =>
          rw [re_yes o2]
          repeat (first | refine l_val rfl rfl (by first | exact pureEval_ok rfl | exact v_build rfl rfl (by rfl) ) ?_ | refine l_nil ?_ | refine c_region ?_ | refine c_seq ?_ | refine x_then ?_ | refine c_false rfl ?_ | refine c_skip ?_ )
          refine r_call rfl rfl rfl (fun W hW => result_calls (scLo a b N D) (scHi a b N D) W) ?_
          repeat (first | refine l_val rfl rfl (by first | exact pureEval_ok rfl ) ?_ | refine l_nil ?_ | refine x_then ?_ | refine r_store rfl rfl rfl rfl rfl rfl rfl (by repeat (first | exact Upd.head | apply Upd.tail)) (by rfl) ?_ | refine c_ret ?_ )
          exact x_ret rfl rfl (by repeat (first | exact Res.nil | (apply Res.tmp; rfl) | (apply Res.cell; rfl; exact (by repeat (first | exact List.Mem.head _ | apply List.Mem.tail)); rfl; rfl))) rfl (fun W hW => ⟨by first | rfl | (simp; done) | (simp_all; done), hW.below⟩)
end R21
end Go.Proofs
