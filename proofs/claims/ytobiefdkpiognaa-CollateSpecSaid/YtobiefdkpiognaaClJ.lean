/- Collating: signs in form, readings. Printed by gen_form.py. -/
import Derived.Test.YtobiefdkpiognaaClC
import Derived.Test.YtobiefdkpiognaaRtRk
set_option linter.unusedSectionVars false
set_option linter.unusedVariables false
set_option linter.unusedSimpArgs false
namespace Go.Proofs
open Go.RowKit Go.Kin Go.Kin.Cl
namespace R41
def cmpI (x y : Int) : Int := if x < y then -1 else if y < x then 1 else 0
theorem isNaN_calls (x : Int) (w : World) : Calls Try.prog 67 ⟨[.int .i64 x]⟩ w fun e w' => e = .returned (.bool false) ∧ Below w.heap.size w w' := by
  refine fun_enter Try.func67 rfl Try.ntmps67 rfl rfl (satW_nil w) ?_
  repeat (first | refine l_val rfl rfl (by first | exact pureEval_ok rfl ) ?_ | refine l_nil ?_ | refine c_region ?_ | refine c_seq ?_ | refine x_then ?_ | refine c_ret ?_ )
  exact x_ret rfl rfl (by repeat (first | exact Res.nil | (apply Res.tmp; rfl) | (apply Res.cell; rfl; exact (by repeat (first | exact List.Mem.head _ | apply List.Mem.tail)); rfl; rfl))) rfl (fun W hW => ⟨by first | rfl | (simp; done), hW.below⟩)
theorem compare_calls (x y : Int) (w : World) : Calls Try.prog 63 ⟨[.int .i64 x, .int .i64 y]⟩ w fun e w' => e = .returned (.int .i64 (cmpI x y)) ∧ Below w.heap.size w w' := by
  refine fun_enter Try.func63 rfl Try.ntmps63 rfl rfl (satW_nil w) ?_
  by_cases h1 : x < y
  · have hv : cmpI x y = -1 := by unfold cmpI; rw [if_pos h1]
    repeat (first | refine l_val rfl rfl (by first | exact pureEval_ok rfl ) ?_ | refine l_nil ?_ | refine c_region ?_ | refine c_seq ?_ | refine x_then ?_ | refine c_false rfl ?_ | refine c_dec_t rfl (by first | omega ) ?_ | refine c_skip ?_ | refine c_ret ?_ | refine x_then_ret ?_ | (refine r_call rfl rfl rfl (fun W hW => isNaN_calls _ W) ?_) )
    exact x_ret rfl rfl (by repeat (first | exact Res.nil | (apply Res.tmp; rfl) | (apply Res.cell; rfl; exact (by repeat (first | exact List.Mem.head _ | apply List.Mem.tail)); rfl; rfl))) rfl (fun W hW => ⟨by rw [hv], hW.below⟩)
  by_cases h2 : y < x
  · have hv : cmpI x y = 1 := by unfold cmpI; rw [if_neg h1, if_pos h2]
    repeat (first | refine l_val rfl rfl (by first | exact pureEval_ok rfl ) ?_ | refine l_nil ?_ | refine c_region ?_ | refine c_seq ?_ | refine x_then ?_ | refine c_false rfl ?_ | refine c_dec_t rfl (by first | omega ) ?_ | refine c_dec_f rfl (by first | omega ) ?_ | refine c_skip ?_ | refine c_ret ?_ | refine x_then_ret ?_ | (refine r_call rfl rfl rfl (fun W hW => isNaN_calls _ W) ?_) )
    exact x_ret rfl rfl (by repeat (first | exact Res.nil | (apply Res.tmp; rfl) | (apply Res.cell; rfl; exact (by repeat (first | exact List.Mem.head _ | apply List.Mem.tail)); rfl; rfl))) rfl (fun W hW => ⟨by rw [hv], hW.below⟩)
  have hv : cmpI x y = 0 := by unfold cmpI; rw [if_neg h1, if_neg h2]
  repeat (first | refine l_val rfl rfl (by first | exact pureEval_ok rfl ) ?_ | refine l_nil ?_ | refine c_region ?_ | refine c_seq ?_ | refine x_then ?_ | refine c_false rfl ?_ | refine c_dec_f rfl (by first | omega ) ?_ | refine c_skip ?_ | refine c_ret ?_ | (refine r_call rfl rfl rfl (fun W hW => isNaN_calls _ W) ?_) )
  exact x_ret rfl rfl (by repeat (first | exact Res.nil | (apply Res.tmp; rfl) | (apply Res.cell; rfl; exact (by repeat (first | exact List.Mem.head _ | apply List.Mem.tail)); rfl; rfl))) rfl (fun W hW => ⟨by rw [hv], hW.below⟩)
def I64 (n : Int) : Prop := -9223372036854775808 ≤ n ∧ n ≤ 9223372036854775807
/-- two ratios are valid -/
def okQ (n d m k : Int) : Bool := R12.okB n d && R12.okB m k
def cmpA (n d m k : Int) : Int × Int := if okQ n d m k = true then (cmpI (n * k) (m * d), 0) else (0, 120)
theorem chk_t {n d : Int} (h : R12.okB n d = true) : R12.chkE n d = 0 := by simp [R12.chkE, h]
theorem chk_f {n d : Int} (h : R12.okB n d = false) : R12.chkE n d = 120 := by simp [R12.chkE, h]
theorem okQ_bd {n d m k : Int} (h : okQ n d m k = true) : (-1152921504606846976 ≤ n * k ∧ n * k ≤ 1152921504606846976) ∧ (-1152921504606846976 ≤ m * d ∧ m * d ≤ 1152921504606846976) := by
  unfold okQ at h
  rw [Bool.and_eq_true] at h
  obtain ⟨a1, a2, a3, a4, -⟩ := R12.okB_iff.1 h.1
  obtain ⟨b1, b2, b3, b4, -⟩ := R12.okB_iff.1 h.2
  exact ⟨R12.mul30 a3 a4 (by omega) b2, R12.mul30 b3 b4 (by omega) a2⟩
theorem Cmp_calls (n d m k : Int) (w : World) (hn : I64 n) (hd : I64 d) (hm : I64 m) (hk : I64 k) :
    Calls Try.prog 59 ⟨[.agg ⟨[.int .i64 n, .int .i64 d]⟩, .agg ⟨[.int .i64 m, .int .i64 k]⟩]⟩ w fun e w' => e = .returned (v2 (cmpA n d m k)) ∧ Below w.heap.size w w' := by
  obtain ⟨a1, a2⟩ := hn; obtain ⟨a3, a4⟩ := hd; obtain ⟨a5, a6⟩ := hm; obtain ⟨a7, a8⟩ := hk
  refine fun_enter Try.func59 rfl Try.ntmps59 rfl rfl (satW_nil w) ?_
  cases h1 : R12.okB n d with
  | false =>
    have hv : cmpA n d m k = (0, 120) := if_neg (by simp [okQ, h1])
    repeat (first | refine l_val rfl rfl (by first | exact pureEval_ok rfl | exact v_load rfl (by repeat (first | exact List.Mem.head _ | apply List.Mem.tail)) rfl (by rfl) ) ?_ | refine l_nil ?_ | refine c_region ?_ | refine c_seq ?_ | refine x_then ?_ | refine r_box rfl rfl rfl rfl (fun _ => ?_) )
    refine r_call rfl rfl rfl (fun W hW => R12.check_any n d W a1 a2 a3 a4) ?_
    rw [chk_f h1]
    repeat (first | refine l_val rfl rfl (by first | exact pureEval_ok rfl | exact v_load rfl (by repeat (first | exact List.Mem.head _ | apply List.Mem.tail)) rfl (by rfl) ) ?_ | refine l_nil ?_ | refine c_region ?_ | refine c_seq ?_ | refine x_then ?_ | refine l_skip rfl rfl ?_ | refine c_true rfl ?_ | refine c_ret ?_ | refine x_then_ret ?_ )
    exact x_ret rfl rfl (by repeat (first | exact Res.nil | (apply Res.tmp; rfl) | (apply Res.cell; rfl; exact (by repeat (first | exact List.Mem.head _ | apply List.Mem.tail)); rfl; rfl))) rfl (fun W hW => ⟨by rw [hv]; rfl, hW.below⟩)
  | true =>
    cases h2 : R12.okB m k with
    | false =>
      have hv : cmpA n d m k = (0, 120) := if_neg (by unfold okQ; rw [h1, h2]; decide)
      repeat (first | refine l_val rfl rfl (by first | exact pureEval_ok rfl | exact v_load rfl (by repeat (first | exact List.Mem.head _ | apply List.Mem.tail)) rfl (by rfl) ) ?_ | refine l_nil ?_ | refine c_region ?_ | refine c_seq ?_ | refine x_then ?_ | refine r_box rfl rfl rfl rfl (fun _ => ?_) )
      refine r_call rfl rfl rfl (fun W hW => R12.check_any n d W a1 a2 a3 a4) ?_
      rw [chk_t h1]
      repeat (first | refine l_val rfl rfl (by first | exact pureEval_ok rfl | exact v_load rfl (by repeat (first | exact List.Mem.head _ | apply List.Mem.tail)) rfl (by rfl) ) ?_ | refine l_dec_f rfl rfl rfl rfl rfl (by first | omega | exact fun h => h rfl ) ?_ )
      refine r_call rfl rfl rfl (fun W hW => R12.check_any m k W a5 a6 a7 a8) ?_
      rw [chk_f h2]
      repeat (first | refine l_val rfl rfl (by first | exact pureEval_ok rfl ) ?_ | refine l_nil ?_ | refine c_region ?_ | refine c_seq ?_ | refine x_then ?_ | refine c_true rfl ?_ | refine c_ret ?_ | refine x_then_ret ?_ )
      exact x_ret rfl rfl (by repeat (first | exact Res.nil | (apply Res.tmp; rfl) | (apply Res.cell; rfl; exact (by repeat (first | exact List.Mem.head _ | apply List.Mem.tail)); rfl; rfl))) rfl (fun W hW => ⟨by rw [hv]; rfl, hW.below⟩)
    | true =>
      have hq : okQ n d m k = true := by unfold okQ; rw [h1, h2]; rfl
      have hv : cmpA n d m k = (cmpI (n * k) (m * d), 0) := if_pos hq
      obtain ⟨⟨p1, p2⟩, p3, p4⟩ := okQ_bd hq
      repeat (first | refine l_val rfl rfl (by first | exact pureEval_ok rfl | exact v_load rfl (by repeat (first | exact List.Mem.head _ | apply List.Mem.tail)) rfl (by rfl) ) ?_ | refine l_nil ?_ | refine c_region ?_ | refine c_seq ?_ | refine x_then ?_ | refine r_box rfl rfl rfl rfl (fun _ => ?_) )
      refine r_call rfl rfl rfl (fun W hW => R12.check_any n d W a1 a2 a3 a4) ?_
      rw [chk_t h1]
      repeat (first | refine l_val rfl rfl (by first | exact pureEval_ok rfl | exact v_load rfl (by repeat (first | exact List.Mem.head _ | apply List.Mem.tail)) rfl (by rfl) ) ?_ | refine l_dec_f rfl rfl rfl rfl rfl (by first | omega | exact fun h => h rfl ) ?_ )
      refine r_call rfl rfl rfl (fun W hW => R12.check_any m k W a5 a6 a7 a8) ?_
      rw [chk_t h2]
      repeat (first | refine l_val rfl rfl (by first | exact v_mul rfl rfl (by omega) (by omega) | exact pureEval_ok rfl | exact v_load rfl (by repeat (first | exact List.Mem.head _ | apply List.Mem.tail)) rfl (by rfl) ) ?_ | refine l_nil ?_ | refine c_region ?_ | refine c_seq ?_ | refine x_then ?_ | refine c_false rfl ?_ | refine c_skip ?_ | refine c_ret ?_ | (refine r_call rfl rfl rfl (fun W hW => compare_calls _ _ W) ?_) )
      exact x_ret rfl rfl (by repeat (first | exact Res.nil | (apply Res.tmp; rfl) | (apply Res.cell; rfl; exact (by repeat (first | exact List.Mem.head _ | apply List.Mem.tail)); rfl; rfl))) rfl (fun W hW => ⟨by rw [hv]; rfl, hW.below⟩)
theorem Both_calls (n d m k : Int) (w : World) : Calls Try.prog 60 ⟨[.agg ⟨[.int .i64 n, .int .i64 d]⟩, .agg ⟨[.int .i64 m, .int .i64 k]⟩]⟩ w fun e w' => e = .returned (.bool (okQ n d m k)) ∧ Below w.heap.size w w' := by
  refine fun_enter Try.func60 rfl Try.ntmps60 rfl rfl (satW_nil w) ?_
  cases h1 : R12.okB n d with
  | false =>
    have hv : okQ n d m k = false := by unfold okQ; rw [h1]; rfl
    repeat (first | refine l_val rfl rfl (by first | exact pureEval_ok rfl | exact v_load rfl (by repeat (first | exact List.Mem.head _ | apply List.Mem.tail)) rfl (by rfl) ) ?_ | refine l_nil ?_ | refine c_region ?_ | refine c_seq ?_ | refine x_then ?_ | refine r_box rfl rfl rfl rfl (fun _ => ?_) )
    refine r_call rfl rfl rfl (fun W hW => R12.valid_any n d W) ?_
    rw [h1]
    repeat (first | refine l_val rfl rfl (by first | exact pureEval_ok rfl | exact v_load rfl (by repeat (first | exact List.Mem.head _ | apply List.Mem.tail)) rfl (by rfl) ) ?_ | refine l_nil ?_ | refine x_then ?_ | refine l_skip rfl rfl ?_ | refine c_ret ?_ )
    exact x_ret rfl rfl (by repeat (first | exact Res.nil | (apply Res.tmp; rfl) | (apply Res.cell; rfl; exact (by repeat (first | exact List.Mem.head _ | apply List.Mem.tail)); rfl; rfl))) rfl (fun W hW => ⟨by rw [hv], hW.below⟩)
  | true =>
    have hv : okQ n d m k = R12.okB m k := by unfold okQ; rw [h1]; rfl
    repeat (first | refine l_val rfl rfl (by first | exact pureEval_ok rfl | exact v_load rfl (by repeat (first | exact List.Mem.head _ | apply List.Mem.tail)) rfl (by rfl) ) ?_ | refine l_nil ?_ | refine c_region ?_ | refine c_seq ?_ | refine x_then ?_ | refine r_box rfl rfl rfl rfl (fun _ => ?_) )
    refine r_call rfl rfl rfl (fun W hW => R12.valid_any n d W) ?_
    rw [h1]
    repeat (first | refine l_val rfl rfl (by first | exact pureEval_ok rfl | exact v_load rfl (by repeat (first | exact List.Mem.head _ | apply List.Mem.tail)) rfl (by rfl) ) ?_ )
    refine r_call rfl rfl rfl (fun W hW => R12.valid_any m k W) ?_
    repeat (first | refine l_val rfl rfl (by first | exact pureEval_ok rfl ) ?_ | refine l_nil ?_ | refine x_then ?_ | refine c_ret ?_ )
    exact x_ret rfl rfl (by repeat (first | exact Res.nil | (apply Res.tmp; rfl) | (apply Res.cell; rfl; exact (by repeat (first | exact List.Mem.head _ | apply List.Mem.tail)); rfl; rfl))) rfl (fun W hW => ⟨by rw [hv], hW.below⟩)
theorem Less_calls (n d m k : Int) (w : World) (h1 : -1152921504606846976 ≤ n * k ∧ n * k ≤ 1152921504606846976) (h2 : -1152921504606846976 ≤ m * d ∧ m * d ≤ 1152921504606846976) :
    Calls Try.prog 61 ⟨[.agg ⟨[.int .i64 n, .int .i64 d]⟩, .agg ⟨[.int .i64 m, .int .i64 k]⟩]⟩ w fun e w' => e = .returned (.bool (decide (n * k < m * d))) ∧ Below w.heap.size w w' := by
  obtain ⟨p1, p2⟩ := h1
  obtain ⟨p3, p4⟩ := h2
  refine fun_enter Try.func61 rfl Try.ntmps61 rfl rfl (satW_nil w) ?_
  repeat (first | refine l_val rfl rfl (by first | exact v_mul rfl rfl (by omega) (by omega) | exact pureEval_ok rfl | exact v_load rfl (by repeat (first | exact List.Mem.head _ | apply List.Mem.tail)) rfl (by rfl) ) ?_ | refine l_nil ?_ | refine c_region ?_ | refine c_seq ?_ | refine x_then ?_ | refine r_box rfl rfl rfl rfl (fun _ => ?_) | refine c_ret ?_ )
  exact x_ret rfl rfl (by repeat (first | exact Res.nil | (apply Res.tmp; rfl) | (apply Res.cell; rfl; exact (by repeat (first | exact List.Mem.head _ | apply List.Mem.tail)); rfl; rfl))) rfl (fun W hW => ⟨rfl, hW.below⟩)
/-- how long a sign lasts is in form -/
def spanB (n d m k : Int) : Bool := okQ n d m k && decide (n * k < m * d ∧ 0 ≤ n ∧ m ≤ k)
theorem span_f {n d m k : Int} (h : okQ n d m k = false) : spanB n d m k = false := by unfold spanB; rw [h]; rfl
theorem span_t {n d m k : Int} (h : okQ n d m k = true) : spanB n d m k = decide (n * k < m * d ∧ 0 ≤ n ∧ m ≤ k) := by unfold spanB; rw [h]; rfl
theorem fine_calls (n d m k : Int) (w : World) (hn : I64 n) (hd : I64 d) (hm : I64 m) (hk : I64 k) :
    Calls Try.prog 56 ⟨[.agg ⟨[.int .i64 n, .int .i64 d]⟩, .agg ⟨[.int .i64 m, .int .i64 k]⟩]⟩ w fun e w' => e = .returned (.bool (spanB n d m k)) ∧ Below w.heap.size w w' := by
  refine fun_enter Try.func56 rfl Try.ntmps56 rfl rfl (satW_nil w) ?_
  cases h : okQ n d m k with
  | false =>
    have hc : cmpA n d m k = (0, 120) := if_neg (by rw [h]; decide)
    have hv := span_f h
    repeat (first | refine l_val rfl rfl (by first | exact pureEval_ok rfl | exact v_load rfl (by repeat (first | exact List.Mem.head _ | apply List.Mem.tail)) rfl (by rfl) ) ?_ | refine l_nil ?_ | refine c_region ?_ | refine c_seq ?_ | refine x_then ?_ | refine r_box rfl rfl rfl rfl (fun _ => ?_) )
    refine r_call rfl rfl rfl (fun W hW => Cmp_calls n d m k W hn hd hm hk) ?_
    rw [hc]
    repeat (first | refine l_val rfl rfl (by first | exact pureEval_ok rfl ) ?_ | refine l_nil ?_ | refine c_region ?_ | refine c_seq ?_ | refine x_then ?_ | refine l_skip rfl rfl ?_ | refine c_ret ?_ )
    exact x_ret rfl rfl (by repeat (first | exact Res.nil | (apply Res.tmp; rfl) | (apply Res.cell; rfl; exact (by repeat (first | exact List.Mem.head _ | apply List.Mem.tail)); rfl; rfl))) rfl (fun W hW => ⟨by rw [hv], hW.below⟩)
  | true =>
    have hc : cmpA n d m k = (cmpI (n * k) (m * d), 0) := if_pos h
    have hv := span_t h
    repeat (first | refine l_val rfl rfl (by first | exact pureEval_ok rfl | exact v_load rfl (by repeat (first | exact List.Mem.head _ | apply List.Mem.tail)) rfl (by rfl) ) ?_ | refine l_nil ?_ | refine c_region ?_ | refine c_seq ?_ | refine x_then ?_ | refine r_box rfl rfl rfl rfl (fun _ => ?_) )
    refine r_call rfl rfl rfl (fun W hW => Cmp_calls n d m k W hn hd hm hk) ?_
    rw [hc]
    by_cases h1 : n * k < m * d
    · have e1 : cmpI (n * k) (m * d) = -1 := if_pos h1
      rw [e1]
      by_cases h2 : 0 ≤ n
      · have hv2 : spanB n d m k = decide (m ≤ k) := by rw [hv]; exact decide_eq_decide.2 ⟨fun g => g.2.2, fun g => ⟨h1, h2, g⟩⟩
        repeat (first | refine l_val rfl rfl (by first | exact pureEval_ok rfl | exact v_load rfl (by repeat (first | exact List.Mem.head _ | apply List.Mem.tail)) rfl (by rfl) ) ?_ | refine l_nil ?_ | refine c_region ?_ | refine c_seq ?_ | refine x_then ?_ | refine c_ret ?_ | refine l_dec_t rfl rfl rfl rfl rfl (by first | omega ) ?_ )
        exact x_ret rfl rfl (by repeat (first | exact Res.nil | (apply Res.tmp; rfl) | (apply Res.cell; rfl; exact (by repeat (first | exact List.Mem.head _ | apply List.Mem.tail)); rfl; rfl))) rfl (fun W hW => ⟨by rw [hv2], hW.below⟩)
      · have hv2 : spanB n d m k = false := by rw [hv]; exact decide_eq_false fun g => h2 g.2.1
        repeat (first | refine l_val rfl rfl (by first | exact pureEval_ok rfl | exact v_load rfl (by repeat (first | exact List.Mem.head _ | apply List.Mem.tail)) rfl (by rfl) ) ?_ | refine l_nil ?_ | refine c_region ?_ | refine c_seq ?_ | refine x_then ?_ | refine l_skip rfl rfl ?_ | refine c_ret ?_ | refine l_dec_f rfl rfl rfl rfl rfl (by first | omega ) ?_ )
        exact x_ret rfl rfl (by repeat (first | exact Res.nil | (apply Res.tmp; rfl) | (apply Res.cell; rfl; exact (by repeat (first | exact List.Mem.head _ | apply List.Mem.tail)); rfl; rfl))) rfl (fun W hW => ⟨by rw [hv2], hW.below⟩)
    · have e1 : 0 ≤ cmpI (n * k) (m * d) := by unfold cmpI; rw [if_neg h1]; split <;> decide
      have hv2 : spanB n d m k = false := by rw [hv]; exact decide_eq_false fun g => h1 g.1
      generalize cmpI (n * k) (m * d) = z at *
      repeat (first | refine l_val rfl rfl (by first | exact pureEval_ok rfl ) ?_ | refine l_nil ?_ | refine c_region ?_ | refine c_seq ?_ | refine x_then ?_ | refine l_skip rfl rfl ?_ | refine c_ret ?_ | refine l_dec_f rfl rfl rfl rfl rfl (by first | omega ) ?_ )
      exact x_ret rfl rfl (by repeat (first | exact Res.nil | (apply Res.tmp; rfl) | (apply Res.cell; rfl; exact (by repeat (first | exact List.Mem.head _ | apply List.Mem.tail)); rfl; rfl))) rfl (fun W hW => ⟨by rw [hv2], hW.below⟩)
theorem Span_calls (n d m k : Int) (w : World) :
    Calls Try.prog 58 ⟨[.agg ⟨[.int .i64 n, .int .i64 d]⟩, .agg ⟨[.int .i64 m, .int .i64 k]⟩]⟩ w fun e w' => e = .returned (.bool (spanB n d m k)) ∧ Below w.heap.size w w' := by
  refine fun_enter Try.func58 rfl Try.ntmps58 rfl rfl (satW_nil w) ?_
  cases h : okQ n d m k with
  | false =>
    have hv := span_f h
    repeat (first | refine l_val rfl rfl (by first | exact pureEval_ok rfl | exact v_load rfl (by repeat (first | exact List.Mem.head _ | apply List.Mem.tail)) rfl (by rfl) ) ?_ | refine l_nil ?_ | refine c_region ?_ | refine c_seq ?_ | refine x_then ?_ | refine r_box rfl rfl rfl rfl (fun _ => ?_) )
    refine r_call rfl rfl rfl (fun W hW => Both_calls n d m k W) ?_
    rw [h]
    repeat (first | refine l_val rfl rfl (by first | exact pureEval_ok rfl | exact v_load rfl (by repeat (first | exact List.Mem.head _ | apply List.Mem.tail)) rfl (by rfl) ) ?_ | refine l_nil ?_ | refine c_region ?_ | refine c_seq ?_ | refine x_then ?_ | refine l_skip rfl rfl ?_ | refine c_ret ?_ )
    exact x_ret rfl rfl (by repeat (first | exact Res.nil | (apply Res.tmp; rfl) | (apply Res.cell; rfl; exact (by repeat (first | exact List.Mem.head _ | apply List.Mem.tail)); rfl; rfl))) rfl (fun W hW => ⟨by rw [hv], hW.below⟩)
  | true =>
    have hv := span_t h
    obtain ⟨p1, p2⟩ := okQ_bd h
    repeat (first | refine l_val rfl rfl (by first | exact pureEval_ok rfl | exact v_load rfl (by repeat (first | exact List.Mem.head _ | apply List.Mem.tail)) rfl (by rfl) ) ?_ | refine l_nil ?_ | refine c_region ?_ | refine c_seq ?_ | refine x_then ?_ | refine r_box rfl rfl rfl rfl (fun _ => ?_) )
    refine r_call rfl rfl rfl (fun W hW => Both_calls n d m k W) ?_
    rw [h]
    by_cases h2 : 0 ≤ n
    · by_cases h1 : n * k < m * d
      · have hv2 : spanB n d m k = decide (m ≤ k) := by rw [hv]; exact decide_eq_decide.2 ⟨fun g => g.2.2, fun g => ⟨h1, h2, g⟩⟩
        repeat (first | refine l_val rfl rfl (by first | exact pureEval_ok rfl | exact v_load rfl (by repeat (first | exact List.Mem.head _ | apply List.Mem.tail)) rfl (by rfl) ) ?_ | refine l_nil ?_ | refine c_region ?_ | refine c_seq ?_ | refine x_then ?_ | refine c_ret ?_ | refine l_dec_t rfl rfl rfl rfl rfl (by first | omega ) ?_ | (refine r_call rfl rfl rfl (fun W hW => Less_calls n d m k W p1 p2) ?_) )
        exact x_ret rfl rfl (by repeat (first | exact Res.nil | (apply Res.tmp; rfl) | (apply Res.cell; rfl; exact (by repeat (first | exact List.Mem.head _ | apply List.Mem.tail)); rfl; rfl))) rfl (fun W hW => ⟨by rw [hv2], hW.below⟩)
      · have hv2 : spanB n d m k = false := by rw [hv]; exact decide_eq_false fun g => h1 g.1
        repeat (first | refine l_val rfl rfl (by first | exact pureEval_ok rfl | exact v_load rfl (by repeat (first | exact List.Mem.head _ | apply List.Mem.tail)) rfl (by rfl) ) ?_ | refine l_nil ?_ | refine c_region ?_ | refine c_seq ?_ | refine x_then ?_ | refine l_skip rfl rfl ?_ | refine c_ret ?_ | refine l_dec_t rfl rfl rfl rfl rfl (by first | omega ) ?_ | refine l_dec_f rfl rfl rfl rfl rfl (by first | omega ) ?_ | (refine r_call rfl rfl rfl (fun W hW => Less_calls n d m k W p1 p2) ?_) )
        exact x_ret rfl rfl (by repeat (first | exact Res.nil | (apply Res.tmp; rfl) | (apply Res.cell; rfl; exact (by repeat (first | exact List.Mem.head _ | apply List.Mem.tail)); rfl; rfl))) rfl (fun W hW => ⟨by rw [hv2], hW.below⟩)
    · have hv2 : spanB n d m k = false := by rw [hv]; exact decide_eq_false fun g => h2 g.2.1
      repeat (first | refine l_val rfl rfl (by first | exact pureEval_ok rfl | exact v_load rfl (by repeat (first | exact List.Mem.head _ | apply List.Mem.tail)) rfl (by rfl) ) ?_ | refine l_nil ?_ | refine c_region ?_ | refine c_seq ?_ | refine x_then ?_ | refine l_skip rfl rfl ?_ | refine c_ret ?_ | refine l_dec_f rfl rfl rfl rfl rfl (by first | omega ) ?_ )
      exact x_ret rfl rfl (by repeat (first | exact Res.nil | (apply Res.tmp; rfl) | (apply Res.cell; rfl; exact (by repeat (first | exact List.Mem.head _ | apply List.Mem.tail)); rfl; rfl))) rfl (fun W hW => ⟨by rw [hv2], hW.below⟩)
/-! ## Signs in form -/
def formP (s : Sg) : Prop := (0 ≤ s.id ∧ s.id ≤ 1048576) ∧ (0 ≤ s.role ∧ s.role ≤ 63) ∧ (0 ≤ s.bar ∧ s.bar ≤ 4095) ∧ (1 ≤ s.kind ∧ s.kind ≤ 9) ∧ (1 ≤ s.mark ∧ s.mark ≤ 3) ∧ (0 ≤ s.side ∧ s.side ≤ 2) ∧ (0 ≤ s.dir ∧ s.dir ≤ 8) ∧ (0 ≤ s.level ∧ s.level ≤ 3) ∧ (0 ≤ s.size ∧ s.size ≤ 255) ∧ (0 ≤ s.wth ∧ s.wth ≤ 64) ∧ spanB s.fn s.fd s.tn s.td = true
instance (s : Sg) : Decidable (formP s) := by unfold formP; infer_instance
def formB (s : Sg) : Bool := decide (formP s)
/-- numbers of 64 bits -/
structure Sg.wf (s : Sg) : Prop where
  fn : I64 s.fn
  fd : I64 s.fd
  tn : I64 s.tn
  td : I64 s.td
set_option maxRecDepth 100000 in
set_option maxHeartbeats 40000000 in
theorem form_calls (s : Sg) (w : World) (hs : s.wf) : Calls Try.prog 52 ⟨[.agg ⟨sgE s⟩]⟩ w fun e w' => e = .returned (.bool (formB s)) ∧ Below w.heap.size w w' := by
  refine fun_enter Try.func52 rfl Try.ntmps52 rfl rfl (satW_nil w) ?_
  by_cases h0 : 0 ≤ s.id ∧ s.id ≤ 1048576
  rotate_left
  · have hv : formB s = false := decide_eq_false fun h => h0 h.1
    repeat (first | refine l_val rfl rfl (by first | exact pureEval_ok rfl | exact v_load rfl (by repeat (first | exact List.Mem.head _ | apply List.Mem.tail)) rfl (by rfl) ) ?_ | refine l_nil ?_ | refine c_region ?_ | refine c_seq ?_ | refine x_then ?_ | refine l_skip rfl rfl ?_ | refine r_box rfl rfl rfl rfl (fun _ => ?_) | refine c_ret ?_ | refine l_dec_f rfl rfl rfl rfl rfl (by first | omega ) ?_ | (refine r_call rfl rfl rfl (fun W hW => ewithin_calls _ _ _ W) ?_) )
    exact x_ret rfl rfl (by repeat (first | exact Res.nil | (apply Res.tmp; rfl) | (apply Res.cell; rfl; exact (by repeat (first | exact List.Mem.head _ | apply List.Mem.tail)); rfl; rfl))) rfl (fun W hW => ⟨by rw [hv], hW.below⟩)
  by_cases h1 : 0 ≤ s.role ∧ s.role ≤ 63
  rotate_left
  · have hv : formB s = false := decide_eq_false fun h => h1 h.2.1
    repeat (first | refine l_val rfl rfl (by first | exact pureEval_ok rfl | exact v_load rfl (by repeat (first | exact List.Mem.head _ | apply List.Mem.tail)) rfl (by rfl) ) ?_ | refine l_nil ?_ | refine c_region ?_ | refine c_seq ?_ | refine x_then ?_ | refine l_skip rfl rfl ?_ | refine r_box rfl rfl rfl rfl (fun _ => ?_) | refine c_ret ?_ | refine l_dec_t rfl rfl rfl rfl rfl (by first | omega ) ?_ | refine l_dec_f rfl rfl rfl rfl rfl (by first | omega ) ?_ | (refine r_call rfl rfl rfl (fun W hW => ewithin_calls _ _ _ W) ?_) )
    exact x_ret rfl rfl (by repeat (first | exact Res.nil | (apply Res.tmp; rfl) | (apply Res.cell; rfl; exact (by repeat (first | exact List.Mem.head _ | apply List.Mem.tail)); rfl; rfl))) rfl (fun W hW => ⟨by rw [hv], hW.below⟩)
  by_cases h2 : 0 ≤ s.bar ∧ s.bar ≤ 4095
  rotate_left
  · have hv : formB s = false := decide_eq_false fun h => h2 h.2.2.1
    repeat (first | refine l_val rfl rfl (by first | exact pureEval_ok rfl | exact v_load rfl (by repeat (first | exact List.Mem.head _ | apply List.Mem.tail)) rfl (by rfl) ) ?_ | refine l_nil ?_ | refine c_region ?_ | refine c_seq ?_ | refine x_then ?_ | refine l_skip rfl rfl ?_ | refine r_box rfl rfl rfl rfl (fun _ => ?_) | refine c_ret ?_ | refine l_dec_t rfl rfl rfl rfl rfl (by first | omega ) ?_ | refine l_dec_f rfl rfl rfl rfl rfl (by first | omega ) ?_ | (refine r_call rfl rfl rfl (fun W hW => ewithin_calls _ _ _ W) ?_) )
    exact x_ret rfl rfl (by repeat (first | exact Res.nil | (apply Res.tmp; rfl) | (apply Res.cell; rfl; exact (by repeat (first | exact List.Mem.head _ | apply List.Mem.tail)); rfl; rfl))) rfl (fun W hW => ⟨by rw [hv], hW.below⟩)
  by_cases h3 : 1 ≤ s.kind ∧ s.kind ≤ 9
  rotate_left
  · have hv : formB s = false := decide_eq_false fun h => h3 h.2.2.2.1
    repeat (first | refine l_val rfl rfl (by first | exact pureEval_ok rfl | exact v_load rfl (by repeat (first | exact List.Mem.head _ | apply List.Mem.tail)) rfl (by rfl) ) ?_ | refine l_nil ?_ | refine c_region ?_ | refine c_seq ?_ | refine x_then ?_ | refine l_skip rfl rfl ?_ | refine r_box rfl rfl rfl rfl (fun _ => ?_) | refine c_ret ?_ | refine l_dec_t rfl rfl rfl rfl rfl (by first | omega ) ?_ | refine l_dec_f rfl rfl rfl rfl rfl (by first | omega ) ?_ | (refine r_call rfl rfl rfl (fun W hW => ewithin_calls _ _ _ W) ?_) )
    exact x_ret rfl rfl (by repeat (first | exact Res.nil | (apply Res.tmp; rfl) | (apply Res.cell; rfl; exact (by repeat (first | exact List.Mem.head _ | apply List.Mem.tail)); rfl; rfl))) rfl (fun W hW => ⟨by rw [hv], hW.below⟩)
  by_cases h4 : 1 ≤ s.mark ∧ s.mark ≤ 3
  rotate_left
  · have hv : formB s = false := decide_eq_false fun h => h4 h.2.2.2.2.1
    repeat (first | refine l_val rfl rfl (by first | exact pureEval_ok rfl | exact v_load rfl (by repeat (first | exact List.Mem.head _ | apply List.Mem.tail)) rfl (by rfl) ) ?_ | refine l_nil ?_ | refine c_region ?_ | refine c_seq ?_ | refine x_then ?_ | refine l_skip rfl rfl ?_ | refine r_box rfl rfl rfl rfl (fun _ => ?_) | refine c_ret ?_ | refine l_dec_t rfl rfl rfl rfl rfl (by first | omega ) ?_ | refine l_dec_f rfl rfl rfl rfl rfl (by first | omega ) ?_ | (refine r_call rfl rfl rfl (fun W hW => ewithin_calls _ _ _ W) ?_) )
    exact x_ret rfl rfl (by repeat (first | exact Res.nil | (apply Res.tmp; rfl) | (apply Res.cell; rfl; exact (by repeat (first | exact List.Mem.head _ | apply List.Mem.tail)); rfl; rfl))) rfl (fun W hW => ⟨by rw [hv], hW.below⟩)
  by_cases h5 : 0 ≤ s.side ∧ s.side ≤ 2
  rotate_left
  · have hv : formB s = false := decide_eq_false fun h => h5 h.2.2.2.2.2.1
    repeat (first | refine l_val rfl rfl (by first | exact pureEval_ok rfl | exact v_load rfl (by repeat (first | exact List.Mem.head _ | apply List.Mem.tail)) rfl (by rfl) ) ?_ | refine l_nil ?_ | refine c_region ?_ | refine c_seq ?_ | refine x_then ?_ | refine l_skip rfl rfl ?_ | refine r_box rfl rfl rfl rfl (fun _ => ?_) | refine c_ret ?_ | refine l_dec_t rfl rfl rfl rfl rfl (by first | omega ) ?_ | refine l_dec_f rfl rfl rfl rfl rfl (by first | omega ) ?_ | (refine r_call rfl rfl rfl (fun W hW => ewithin_calls _ _ _ W) ?_) )
    exact x_ret rfl rfl (by repeat (first | exact Res.nil | (apply Res.tmp; rfl) | (apply Res.cell; rfl; exact (by repeat (first | exact List.Mem.head _ | apply List.Mem.tail)); rfl; rfl))) rfl (fun W hW => ⟨by rw [hv], hW.below⟩)
  by_cases h6 : 0 ≤ s.dir ∧ s.dir ≤ 8
  rotate_left
  · have hv : formB s = false := decide_eq_false fun h => h6 h.2.2.2.2.2.2.1
    repeat (first | refine l_val rfl rfl (by first | exact pureEval_ok rfl | exact v_load rfl (by repeat (first | exact List.Mem.head _ | apply List.Mem.tail)) rfl (by rfl) ) ?_ | refine l_nil ?_ | refine c_region ?_ | refine c_seq ?_ | refine x_then ?_ | refine l_skip rfl rfl ?_ | refine r_box rfl rfl rfl rfl (fun _ => ?_) | refine c_ret ?_ | refine l_dec_t rfl rfl rfl rfl rfl (by first | omega ) ?_ | refine l_dec_f rfl rfl rfl rfl rfl (by first | omega ) ?_ | (refine r_call rfl rfl rfl (fun W hW => ewithin_calls _ _ _ W) ?_) )
    exact x_ret rfl rfl (by repeat (first | exact Res.nil | (apply Res.tmp; rfl) | (apply Res.cell; rfl; exact (by repeat (first | exact List.Mem.head _ | apply List.Mem.tail)); rfl; rfl))) rfl (fun W hW => ⟨by rw [hv], hW.below⟩)
  by_cases h7 : 0 ≤ s.level ∧ s.level ≤ 3
  rotate_left
  · have hv : formB s = false := decide_eq_false fun h => h7 h.2.2.2.2.2.2.2.1
    repeat (first | refine l_val rfl rfl (by first | exact pureEval_ok rfl | exact v_load rfl (by repeat (first | exact List.Mem.head _ | apply List.Mem.tail)) rfl (by rfl) ) ?_ | refine l_nil ?_ | refine c_region ?_ | refine c_seq ?_ | refine x_then ?_ | refine l_skip rfl rfl ?_ | refine r_box rfl rfl rfl rfl (fun _ => ?_) | refine c_ret ?_ | refine l_dec_t rfl rfl rfl rfl rfl (by first | omega ) ?_ | refine l_dec_f rfl rfl rfl rfl rfl (by first | omega ) ?_ | (refine r_call rfl rfl rfl (fun W hW => ewithin_calls _ _ _ W) ?_) )
    exact x_ret rfl rfl (by repeat (first | exact Res.nil | (apply Res.tmp; rfl) | (apply Res.cell; rfl; exact (by repeat (first | exact List.Mem.head _ | apply List.Mem.tail)); rfl; rfl))) rfl (fun W hW => ⟨by rw [hv], hW.below⟩)
  by_cases h8 : 0 ≤ s.size ∧ s.size ≤ 255
  rotate_left
  · have hv : formB s = false := decide_eq_false fun h => h8 h.2.2.2.2.2.2.2.2.1
    repeat (first | refine l_val rfl rfl (by first | exact pureEval_ok rfl | exact v_load rfl (by repeat (first | exact List.Mem.head _ | apply List.Mem.tail)) rfl (by rfl) ) ?_ | refine l_nil ?_ | refine c_region ?_ | refine c_seq ?_ | refine x_then ?_ | refine l_skip rfl rfl ?_ | refine r_box rfl rfl rfl rfl (fun _ => ?_) | refine c_ret ?_ | refine l_dec_t rfl rfl rfl rfl rfl (by first | omega ) ?_ | refine l_dec_f rfl rfl rfl rfl rfl (by first | omega ) ?_ | (refine r_call rfl rfl rfl (fun W hW => ewithin_calls _ _ _ W) ?_) )
    exact x_ret rfl rfl (by repeat (first | exact Res.nil | (apply Res.tmp; rfl) | (apply Res.cell; rfl; exact (by repeat (first | exact List.Mem.head _ | apply List.Mem.tail)); rfl; rfl))) rfl (fun W hW => ⟨by rw [hv], hW.below⟩)
  by_cases h9 : 0 ≤ s.wth ∧ s.wth ≤ 64
  rotate_left
  · have hv : formB s = false := decide_eq_false fun h => h9 h.2.2.2.2.2.2.2.2.2.1
    repeat (first | refine l_val rfl rfl (by first | exact pureEval_ok rfl | exact v_load rfl (by repeat (first | exact List.Mem.head _ | apply List.Mem.tail)) rfl (by rfl) ) ?_ | refine l_nil ?_ | refine c_region ?_ | refine c_seq ?_ | refine x_then ?_ | refine l_skip rfl rfl ?_ | refine r_box rfl rfl rfl rfl (fun _ => ?_) | refine c_ret ?_ | refine l_dec_t rfl rfl rfl rfl rfl (by first | omega ) ?_ | refine l_dec_f rfl rfl rfl rfl rfl (by first | omega ) ?_ | (refine r_call rfl rfl rfl (fun W hW => ewithin_calls _ _ _ W) ?_) )
    exact x_ret rfl rfl (by repeat (first | exact Res.nil | (apply Res.tmp; rfl) | (apply Res.cell; rfl; exact (by repeat (first | exact List.Mem.head _ | apply List.Mem.tail)); rfl; rfl))) rfl (fun W hW => ⟨by rw [hv], hW.below⟩)
  have hv : formB s = spanB s.fn s.fd s.tn s.td := by
    cases hc : spanB s.fn s.fd s.tn s.td
    · exact decide_eq_false fun h => by have := h.2.2.2.2.2.2.2.2.2.2; rw [hc] at this; cases this
    · exact decide_eq_true ⟨h0, h1, h2, h3, h4, h5, h6, h7, h8, h9, hc⟩
  repeat (first | refine l_val rfl rfl (by first | exact pureEval_ok rfl | exact v_load rfl (by repeat (first | exact List.Mem.head _ | apply List.Mem.tail)) rfl (by rfl) ) ?_ | refine l_nil ?_ | refine c_region ?_ | refine c_seq ?_ | refine x_then ?_ | refine r_box rfl rfl rfl rfl (fun _ => ?_) | refine c_ret ?_ | refine l_dec_t rfl rfl rfl rfl rfl (by first | omega ) ?_ | (refine r_call rfl rfl rfl (fun W hW => ewithin_calls _ _ _ W) ?_) | (refine r_call rfl rfl rfl (fun W hW => fine_calls _ _ _ _ W hs.fn hs.fd hs.tn hs.td) ?_) )
  exact x_ret rfl rfl (by repeat (first | exact Res.nil | (apply Res.tmp; rfl) | (apply Res.cell; rfl; exact (by repeat (first | exact List.Mem.head _ | apply List.Mem.tail)); rfl; rfl))) rfl (fun W hW => ⟨by rw [hv], hW.below⟩)
set_option maxRecDepth 100000 in
set_option maxHeartbeats 40000000 in
theorem Form_calls (s : Sg) (w : World) : Calls Try.prog 53 ⟨[.agg ⟨sgE s⟩]⟩ w fun e w' => e = .returned (.bool (formB s)) ∧ Below w.heap.size w w' := by
  refine fun_enter Try.func53 rfl Try.ntmps53 rfl rfl (satW_nil w) ?_
  by_cases h0 : 0 ≤ s.id ∧ s.id ≤ 1048576
  rotate_left
  · have hv : formB s = false := decide_eq_false fun h => h0 h.1
    repeat (first | refine l_val rfl rfl (by first | exact pureEval_ok rfl | exact v_load rfl (by repeat (first | exact List.Mem.head _ | apply List.Mem.tail)) rfl (by rfl) ) ?_ | refine l_nil ?_ | refine c_region ?_ | refine c_seq ?_ | refine x_then ?_ | refine l_skip rfl rfl ?_ | refine r_box rfl rfl rfl rfl (fun _ => ?_) | refine c_true rfl ?_ | refine c_ret ?_ | refine x_then_ret ?_ | refine l_not_t rfl rfl rfl rfl (by first | omega ) ?_ | (refine r_call rfl rfl rfl (fun W hW => fwithin_calls _ _ _ W) ?_) )
    exact x_ret rfl rfl (by repeat (first | exact Res.nil | (apply Res.tmp; rfl) | (apply Res.cell; rfl; exact (by repeat (first | exact List.Mem.head _ | apply List.Mem.tail)); rfl; rfl))) rfl (fun W hW => ⟨by rw [hv], hW.below⟩)
  by_cases h1 : 0 ≤ s.role ∧ s.role ≤ 63
  rotate_left
  · have hv : formB s = false := decide_eq_false fun h => h1 h.2.1
    repeat (first | refine l_val rfl rfl (by first | exact pureEval_ok rfl | exact v_load rfl (by repeat (first | exact List.Mem.head _ | apply List.Mem.tail)) rfl (by rfl) ) ?_ | refine l_nil ?_ | refine c_region ?_ | refine c_seq ?_ | refine x_then ?_ | refine l_skip rfl rfl ?_ | refine r_box rfl rfl rfl rfl (fun _ => ?_) | refine c_true rfl ?_ | refine c_ret ?_ | refine x_then_ret ?_ | refine l_not_t rfl rfl rfl rfl (by first | omega ) ?_ | refine l_not_f rfl rfl rfl rfl (by first | omega ) ?_ | (refine r_call rfl rfl rfl (fun W hW => fwithin_calls _ _ _ W) ?_) )
    exact x_ret rfl rfl (by repeat (first | exact Res.nil | (apply Res.tmp; rfl) | (apply Res.cell; rfl; exact (by repeat (first | exact List.Mem.head _ | apply List.Mem.tail)); rfl; rfl))) rfl (fun W hW => ⟨by rw [hv], hW.below⟩)
  by_cases h2 : 0 ≤ s.bar ∧ s.bar ≤ 4095
  rotate_left
  · have hv : formB s = false := decide_eq_false fun h => h2 h.2.2.1
    repeat (first | refine l_val rfl rfl (by first | exact pureEval_ok rfl | exact v_load rfl (by repeat (first | exact List.Mem.head _ | apply List.Mem.tail)) rfl (by rfl) ) ?_ | refine l_nil ?_ | refine c_region ?_ | refine c_seq ?_ | refine x_then ?_ | refine l_skip rfl rfl ?_ | refine r_box rfl rfl rfl rfl (fun _ => ?_) | refine c_true rfl ?_ | refine c_ret ?_ | refine x_then_ret ?_ | refine l_not_t rfl rfl rfl rfl (by first | omega ) ?_ | refine l_not_f rfl rfl rfl rfl (by first | omega ) ?_ | (refine r_call rfl rfl rfl (fun W hW => fwithin_calls _ _ _ W) ?_) )
    exact x_ret rfl rfl (by repeat (first | exact Res.nil | (apply Res.tmp; rfl) | (apply Res.cell; rfl; exact (by repeat (first | exact List.Mem.head _ | apply List.Mem.tail)); rfl; rfl))) rfl (fun W hW => ⟨by rw [hv], hW.below⟩)
  by_cases h3 : 1 ≤ s.kind ∧ s.kind ≤ 9
  rotate_left
  · have hv : formB s = false := decide_eq_false fun h => h3 h.2.2.2.1
    repeat (first | refine l_val rfl rfl (by first | exact pureEval_ok rfl | exact v_load rfl (by repeat (first | exact List.Mem.head _ | apply List.Mem.tail)) rfl (by rfl) ) ?_ | refine l_nil ?_ | refine c_region ?_ | refine c_seq ?_ | refine x_then ?_ | refine l_skip rfl rfl ?_ | refine r_box rfl rfl rfl rfl (fun _ => ?_) | refine c_true rfl ?_ | refine c_ret ?_ | refine x_then_ret ?_ | refine l_not_t rfl rfl rfl rfl (by first | omega ) ?_ | refine l_not_f rfl rfl rfl rfl (by first | omega ) ?_ | (refine r_call rfl rfl rfl (fun W hW => fwithin_calls _ _ _ W) ?_) )
    exact x_ret rfl rfl (by repeat (first | exact Res.nil | (apply Res.tmp; rfl) | (apply Res.cell; rfl; exact (by repeat (first | exact List.Mem.head _ | apply List.Mem.tail)); rfl; rfl))) rfl (fun W hW => ⟨by rw [hv], hW.below⟩)
  by_cases h4 : 1 ≤ s.mark ∧ s.mark ≤ 3
  rotate_left
  · have hv : formB s = false := decide_eq_false fun h => h4 h.2.2.2.2.1
    repeat (first | refine l_val rfl rfl (by first | exact pureEval_ok rfl | exact v_load rfl (by repeat (first | exact List.Mem.head _ | apply List.Mem.tail)) rfl (by rfl) ) ?_ | refine l_nil ?_ | refine c_region ?_ | refine c_seq ?_ | refine x_then ?_ | refine r_box rfl rfl rfl rfl (fun _ => ?_) | refine c_ret ?_ | refine x_then_ret ?_ | refine c_not_t rfl (by first | omega ) ?_ | refine l_not_f rfl rfl rfl rfl (by first | omega ) ?_ | (refine r_call rfl rfl rfl (fun W hW => fwithin_calls _ _ _ W) ?_) )
    exact x_ret rfl rfl (by repeat (first | exact Res.nil | (apply Res.tmp; rfl) | (apply Res.cell; rfl; exact (by repeat (first | exact List.Mem.head _ | apply List.Mem.tail)); rfl; rfl))) rfl (fun W hW => ⟨by rw [hv], hW.below⟩)
  by_cases h5 : 0 ≤ s.side ∧ s.side ≤ 2
  rotate_left
  · have hv : formB s = false := decide_eq_false fun h => h5 h.2.2.2.2.2.1
    repeat (first | refine l_val rfl rfl (by first | exact pureEval_ok rfl | exact v_load rfl (by repeat (first | exact List.Mem.head _ | apply List.Mem.tail)) rfl (by rfl) ) ?_ | refine l_nil ?_ | refine c_region ?_ | refine c_seq ?_ | refine x_then ?_ | refine l_skip rfl rfl ?_ | refine r_box rfl rfl rfl rfl (fun _ => ?_) | refine c_true rfl ?_ | refine c_skip ?_ | refine c_ret ?_ | refine x_then_ret ?_ | refine l_not_t rfl rfl rfl rfl (by first | omega ) ?_ | refine l_not_f rfl rfl rfl rfl (by first | omega ) ?_ | refine c_not_f rfl (by first | omega ) ?_ | (refine r_call rfl rfl rfl (fun W hW => fwithin_calls _ _ _ W) ?_) )
    exact x_ret rfl rfl (by repeat (first | exact Res.nil | (apply Res.tmp; rfl) | (apply Res.cell; rfl; exact (by repeat (first | exact List.Mem.head _ | apply List.Mem.tail)); rfl; rfl))) rfl (fun W hW => ⟨by rw [hv], hW.below⟩)
  by_cases h6 : 0 ≤ s.dir ∧ s.dir ≤ 8
  rotate_left
  · have hv : formB s = false := decide_eq_false fun h => h6 h.2.2.2.2.2.2.1
    repeat (first | refine l_val rfl rfl (by first | exact pureEval_ok rfl | exact v_load rfl (by repeat (first | exact List.Mem.head _ | apply List.Mem.tail)) rfl (by rfl) ) ?_ | refine l_nil ?_ | refine c_region ?_ | refine c_seq ?_ | refine x_then ?_ | refine l_skip rfl rfl ?_ | refine r_box rfl rfl rfl rfl (fun _ => ?_) | refine c_true rfl ?_ | refine c_skip ?_ | refine c_ret ?_ | refine x_then_ret ?_ | refine l_not_t rfl rfl rfl rfl (by first | omega ) ?_ | refine l_not_f rfl rfl rfl rfl (by first | omega ) ?_ | refine c_not_f rfl (by first | omega ) ?_ | (refine r_call rfl rfl rfl (fun W hW => fwithin_calls _ _ _ W) ?_) )
    exact x_ret rfl rfl (by repeat (first | exact Res.nil | (apply Res.tmp; rfl) | (apply Res.cell; rfl; exact (by repeat (first | exact List.Mem.head _ | apply List.Mem.tail)); rfl; rfl))) rfl (fun W hW => ⟨by rw [hv], hW.below⟩)
  by_cases h7 : 0 ≤ s.level ∧ s.level ≤ 3
  rotate_left
  · have hv : formB s = false := decide_eq_false fun h => h7 h.2.2.2.2.2.2.2.1
    repeat (first | refine l_val rfl rfl (by first | exact pureEval_ok rfl | exact v_load rfl (by repeat (first | exact List.Mem.head _ | apply List.Mem.tail)) rfl (by rfl) ) ?_ | refine l_nil ?_ | refine c_region ?_ | refine c_seq ?_ | refine x_then ?_ | refine l_skip rfl rfl ?_ | refine r_box rfl rfl rfl rfl (fun _ => ?_) | refine c_true rfl ?_ | refine c_skip ?_ | refine c_ret ?_ | refine x_then_ret ?_ | refine l_not_t rfl rfl rfl rfl (by first | omega ) ?_ | refine l_not_f rfl rfl rfl rfl (by first | omega ) ?_ | refine c_not_f rfl (by first | omega ) ?_ | (refine r_call rfl rfl rfl (fun W hW => fwithin_calls _ _ _ W) ?_) )
    exact x_ret rfl rfl (by repeat (first | exact Res.nil | (apply Res.tmp; rfl) | (apply Res.cell; rfl; exact (by repeat (first | exact List.Mem.head _ | apply List.Mem.tail)); rfl; rfl))) rfl (fun W hW => ⟨by rw [hv], hW.below⟩)
  by_cases h8 : 0 ≤ s.size ∧ s.size ≤ 255
  rotate_left
  · have hv : formB s = false := decide_eq_false fun h => h8 h.2.2.2.2.2.2.2.2.1
    repeat (first | refine l_val rfl rfl (by first | exact pureEval_ok rfl | exact v_load rfl (by repeat (first | exact List.Mem.head _ | apply List.Mem.tail)) rfl (by rfl) ) ?_ | refine l_nil ?_ | refine c_region ?_ | refine c_seq ?_ | refine x_then ?_ | refine l_skip rfl rfl ?_ | refine r_box rfl rfl rfl rfl (fun _ => ?_) | refine c_true rfl ?_ | refine c_skip ?_ | refine c_ret ?_ | refine x_then_ret ?_ | refine l_not_t rfl rfl rfl rfl (by first | omega ) ?_ | refine l_not_f rfl rfl rfl rfl (by first | omega ) ?_ | refine c_not_f rfl (by first | omega ) ?_ | (refine r_call rfl rfl rfl (fun W hW => fwithin_calls _ _ _ W) ?_) )
    exact x_ret rfl rfl (by repeat (first | exact Res.nil | (apply Res.tmp; rfl) | (apply Res.cell; rfl; exact (by repeat (first | exact List.Mem.head _ | apply List.Mem.tail)); rfl; rfl))) rfl (fun W hW => ⟨by rw [hv], hW.below⟩)
  by_cases h9 : 0 ≤ s.wth ∧ s.wth ≤ 64
  rotate_left
  · have hv : formB s = false := decide_eq_false fun h => h9 h.2.2.2.2.2.2.2.2.2.1
    repeat (first | refine l_val rfl rfl (by first | exact pureEval_ok rfl | exact v_load rfl (by repeat (first | exact List.Mem.head _ | apply List.Mem.tail)) rfl (by rfl) ) ?_ | refine l_nil ?_ | refine c_region ?_ | refine c_seq ?_ | refine x_then ?_ | refine r_box rfl rfl rfl rfl (fun _ => ?_) | refine c_skip ?_ | refine c_ret ?_ | refine x_then_ret ?_ | refine c_not_t rfl (by first | omega ) ?_ | refine l_not_f rfl rfl rfl rfl (by first | omega ) ?_ | refine c_not_f rfl (by first | omega ) ?_ | (refine r_call rfl rfl rfl (fun W hW => fwithin_calls _ _ _ W) ?_) )
    exact x_ret rfl rfl (by repeat (first | exact Res.nil | (apply Res.tmp; rfl) | (apply Res.cell; rfl; exact (by repeat (first | exact List.Mem.head _ | apply List.Mem.tail)); rfl; rfl))) rfl (fun W hW => ⟨by rw [hv], hW.below⟩)
  have hv : formB s = spanB s.fn s.fd s.tn s.td := by
    cases hc : spanB s.fn s.fd s.tn s.td
    · exact decide_eq_false fun h => by have := h.2.2.2.2.2.2.2.2.2.2; rw [hc] at this; cases this
    · exact decide_eq_true ⟨h0, h1, h2, h3, h4, h5, h6, h7, h8, h9, hc⟩
  repeat (first | refine l_val rfl rfl (by first | exact pureEval_ok rfl | exact v_load rfl (by repeat (first | exact List.Mem.head _ | apply List.Mem.tail)) rfl (by rfl) ) ?_ | refine l_nil ?_ | refine c_region ?_ | refine c_seq ?_ | refine x_then ?_ | refine r_box rfl rfl rfl rfl (fun _ => ?_) | refine c_skip ?_ | refine c_ret ?_ | refine l_not_f rfl rfl rfl rfl (by first | omega ) ?_ | refine c_not_f rfl (by first | omega ) ?_ | (refine r_call rfl rfl rfl (fun W hW => fwithin_calls _ _ _ W) ?_) | (refine r_call rfl rfl rfl (fun W hW => Span_calls _ _ _ _ W) ?_) )
  exact x_ret rfl rfl (by repeat (first | exact Res.nil | (apply Res.tmp; rfl) | (apply Res.cell; rfl; exact (by repeat (first | exact List.Mem.head _ | apply List.Mem.tail)); rfl; rfl))) rfl (fun W hW => ⟨by rw [hv], hW.below⟩)
end R41
end Go.Proofs
